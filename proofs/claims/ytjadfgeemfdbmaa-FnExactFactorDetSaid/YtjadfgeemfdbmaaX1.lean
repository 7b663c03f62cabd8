/- Functions: what they come to. -/
import Derived.Test.YtjadfgeemfdbmaaBase
set_option maxRecDepth 100000
set_option maxHeartbeats 4000000
set_option linter.unusedSimpArgs false
set_option linter.unusedVariables false
namespace Go.Proofs.Ytjadfgeemfdbmaa.AM
open Go.Proofs
/-! laws.szFloat32S -/
noncomputable def laws_szFloat32S_LO (v14 : List Nat) (v15 : Int) : LOr := fun id e L =>
  match id with
  | _ => .fail
noncomputable def laws_szFloat32S_tab : List (FuncId × DFn × Bool) := []
theorem laws_szFloat32S_hO : OrcOk Try.prog (tabD laws_szFloat32S_tab) (tabM laws_szFloat32S_tab) := tabD_nil _
noncomputable def laws_szFloat32S_T (v14 : List Nat) (v15 : Int) : Tree (Int) :=
  (.br (decide (IntKind.i64.wrap (v15 - ((v14.length : Nat) : Int)) < (0 : Int))) (
   .leaf (-1 : Int)
  ) (
   .leaf (IntKind.i64.wrap (v15 - ((v14.length : Nat) : Int)))
  ))

noncomputable def laws_szFloat32S_g (v14 : List Nat) (v15 : Int) : Option (Int) := (laws_szFloat32S_T v14 v15).run
def laws_szFloat32S_enc (v14 : List Nat) (v15 : Int) (y : Int) : Rs := (.int .i64 y, [])
theorem laws_szFloat32S_den (v14 : List Nat) (v15 : Int) : (den TT (tabD laws_szFloat32S_tab) (tabM laws_szFloat32S_tab) (laws_szFloat32S_LO v14 v15) (codeOf Try.f64) ([.bslc (BR.root 0) (.f32 v14), .int .i64 v15] ++ List.replicate (Try.f64.ntmps - ([.bslc (BR.root 0) (.f32 v14), .int .i64 v15] : List DV).length) .undef) []).bind (retD TT Try.f64.results.toList 0) = (laws_szFloat32S_T v14 v15).bind fun y => .leaf (laws_szFloat32S_enc v14 v15 y) := by kernel_rfl
theorem laws_szFloat32S_fn (v14 : List Nat) (v15 : Int) (F : Fr) (hm : F.ids.length = 0) (h0 : St F [] F.H0) (hA : DVs.Ok F [] [.bslc (BR.root 0) (.f32 v14), .int .i64 v15]) {y : Int} (hy : laws_szFloat32S_g v14 v15 = some y) : ∃ H', FnOk Try.prog 64 (DVs.av F [.bslc (BR.root 0) (.f32 v14), .int .i64 v15]) F.H0 ((laws_szFloat32S_enc v14 v15 y).1.av F) H' ∧ St F (laws_szFloat32S_enc v14 v15 y).2 H' ∧ (laws_szFloat32S_enc v14 v15 y).1.Ok F (laws_szFloat32S_enc v14 v15 y).2 :=
  fn_fin tok laws_szFloat32S_hO mixed Try.func64 Try.call64 (by kernel_rfl) (LoopsOk_eq (l := []) (by kernel_rfl) trivial) (laws_szFloat32S_den v14 v15) hy hm h0 hA
def laws_szFloat32S_v (v14 : List Nat) (v15 : Int) : Int :=
  if (decide (IntKind.i64.wrap (v15 - ((v14.length : Nat) : Int)) < (0 : Int))) = true then (
   (-1 : Int)
  ) else (
   IntKind.i64.wrap (v15 - ((v14.length : Nat) : Int))
  )
theorem laws_szFloat32S_tot (v14 : List Nat) (v15 : Int) : laws_szFloat32S_g v14 v15 = some (laws_szFloat32S_v v14 v15) := by
  unfold laws_szFloat32S_g laws_szFloat32S_T laws_szFloat32S_v
  simp only [Tree.run]
  repeat' (first | rfl | split)
noncomputable def laws_szFloat32S_F : DFn := fun args L =>
  match args with
  | [a1, .int .i64 v15] =>
    optT (rowF32 L a1) fun v14 =>
    .leaf (.int .i64 (laws_szFloat32S_v v14 v15), L)
  | _ => .fail
theorem laws_szFloat32S_Fok : COk Try.prog 64 laws_szFloat32S_F true := by
  intro F L H args r L' hs ha hr
  unfold laws_szFloat32S_F at hr
  split at hr
  · rename_i a1 v15
    obtain ⟨v14, hv14, hr⟩ := optT_run hr
    have hy := laws_szFloat32S_tot v14 v15
    generalize laws_szFloat32S_v v14 v15 = y at hy hr
    simp only [Tree.run, Option.some.injEq, Prod.mk.injEq] at hr
    obtain ⟨rfl, rfl⟩ := hr
    exact call_ok0 hs (fun k => (([a1.av F] : List AV)[k]?).getD .top) [a1, .int .i64 v15] [.bslc (BR.root 0) (.f32 v14), .int .i64 v15] (fun F' h0 hi hρ => ⟨by simp [DVs.av, DV.av, BR.av, hρ], laws_szFloat32S_fn v14 v15 F' (by rw [hi]; rfl) (st_nil hi) ⟨bslc_ok hi (by rw [h0, hρ]; exact rowF32_ok hs (DVs.okAt ha 0 rfl) hv14), trivial, trivial⟩ hy⟩) rfl
  · cases hr
/-! laws.szMatrix -/
noncomputable def laws_szMatrix_LO (v10 : Int) (v11 : Int) (v12 : List Nat) (v13 : Int) : LOr := fun id e L =>
  match id with
  | _ => .fail
noncomputable def laws_szMatrix_tab : List (FuncId × DFn × Bool) := [(64, laws_szFloat32S_F, true)]
theorem laws_szMatrix_hO : OrcOk Try.prog (tabD laws_szMatrix_tab) (tabM laws_szMatrix_tab) := tabD_cons laws_szFloat32S_Fok (tabD_nil _)
noncomputable def laws_szMatrix_T (v12 : List Nat) (v13 : Int) : Tree (Int) :=
  (.br (decide ((laws_szFloat32S_v v12 v13) < (0 : Int))) (
   .leaf (-1 : Int)
  ) (
   .leaf (laws_szFloat32S_v v12 v13)
  ))

noncomputable def laws_szMatrix_g (v12 : List Nat) (v13 : Int) : Option (Int) := (laws_szMatrix_T v12 v13).run
def laws_szMatrix_enc (v10 : Int) (v11 : Int) (v12 : List Nat) (v13 : Int) (y : Int) : Rs := (.int .i64 y, [])
theorem laws_szMatrix_den (v10 : Int) (v11 : Int) (v12 : List Nat) (v13 : Int) : (den TT (tabD laws_szMatrix_tab) (tabM laws_szMatrix_tab) (laws_szMatrix_LO v10 v11 v12 v13) (codeOf Try.f29) ([.agg [.int .i64 v10, .int .i64 v11, .bslc (BR.root 0) (.f32 v12)], .int .i64 v13] ++ List.replicate (Try.f29.ntmps - ([.agg [.int .i64 v10, .int .i64 v11, .bslc (BR.root 0) (.f32 v12)], .int .i64 v13] : List DV).length) .undef) []).bind (retD TT Try.f29.results.toList 0) = (laws_szMatrix_T v12 v13).bind fun y => .leaf (laws_szMatrix_enc v10 v11 v12 v13 y) := by kernel_rfl
theorem laws_szMatrix_fn (v10 : Int) (v11 : Int) (v12 : List Nat) (v13 : Int) (F : Fr) (hm : F.ids.length = 0) (h0 : St F [] F.H0) (hA : DVs.Ok F [] [.agg [.int .i64 v10, .int .i64 v11, .bslc (BR.root 0) (.f32 v12)], .int .i64 v13]) {y : Int} (hy : laws_szMatrix_g v12 v13 = some y) : ∃ H', FnOk Try.prog 29 (DVs.av F [.agg [.int .i64 v10, .int .i64 v11, .bslc (BR.root 0) (.f32 v12)], .int .i64 v13]) F.H0 ((laws_szMatrix_enc v10 v11 v12 v13 y).1.av F) H' ∧ St F (laws_szMatrix_enc v10 v11 v12 v13 y).2 H' ∧ (laws_szMatrix_enc v10 v11 v12 v13 y).1.Ok F (laws_szMatrix_enc v10 v11 v12 v13 y).2 :=
  fn_fin tok laws_szMatrix_hO mixed Try.func29 Try.call29 (by kernel_rfl) (LoopsOk_eq (l := []) (by kernel_rfl) trivial) (laws_szMatrix_den v10 v11 v12 v13) hy hm h0 hA
def laws_szMatrix_v (v12 : List Nat) (v13 : Int) : Int :=
  if (decide ((laws_szFloat32S_v v12 v13) < (0 : Int))) = true then (
   (-1 : Int)
  ) else (
   (laws_szFloat32S_v v12 v13)
  )
theorem laws_szMatrix_tot (v12 : List Nat) (v13 : Int) : laws_szMatrix_g v12 v13 = some (laws_szMatrix_v v12 v13) := by
  unfold laws_szMatrix_g laws_szMatrix_T laws_szMatrix_v
  simp only [Tree.run]
  repeat' (first | rfl | split)
noncomputable def laws_szMatrix_F : DFn := fun args L =>
  match args with
  | [.agg [.int .i64 v10, .int .i64 v11, a1], .int .i64 v13] =>
    optT (rowF32 L a1) fun v12 =>
    .leaf (.int .i64 (laws_szMatrix_v v12 v13), L)
  | _ => .fail
theorem laws_szMatrix_Fok : COk Try.prog 29 laws_szMatrix_F true := by
  intro F L H args r L' hs ha hr
  unfold laws_szMatrix_F at hr
  split at hr
  · rename_i v10 v11 a1 v13
    obtain ⟨v12, hv12, hr⟩ := optT_run hr
    have hy := laws_szMatrix_tot v12 v13
    generalize laws_szMatrix_v v12 v13 = y at hy hr
    simp only [Tree.run, Option.some.injEq, Prod.mk.injEq] at hr
    obtain ⟨rfl, rfl⟩ := hr
    exact call_ok0 hs (fun k => (([a1.av F] : List AV)[k]?).getD .top) [.agg [.int .i64 v10, .int .i64 v11, a1], .int .i64 v13] [.agg [.int .i64 v10, .int .i64 v11, .bslc (BR.root 0) (.f32 v12)], .int .i64 v13] (fun F' h0 hi hρ => ⟨by simp [DVs.av, DV.av, BR.av, hρ], laws_szMatrix_fn v10 v11 v12 v13 F' (by rw [hi]; rfl) (st_nil hi) ⟨⟨trivial, trivial, bslc_ok hi (by rw [h0, hρ]; exact rowF32_ok hs (DVs.okAt (DVs.okAt ha 0 rfl) 2 rfl) hv12), trivial⟩, trivial, trivial⟩ hy⟩) rfl
  · cases hr
/-! laws.szInt64S -/
noncomputable def laws_szInt64S_LO (v16 : List Int) (v17 : Int) : LOr := fun id e L =>
  match id with
  | _ => .fail
noncomputable def laws_szInt64S_tab : List (FuncId × DFn × Bool) := []
theorem laws_szInt64S_hO : OrcOk Try.prog (tabD laws_szInt64S_tab) (tabM laws_szInt64S_tab) := tabD_nil _
noncomputable def laws_szInt64S_T (v16 : List Int) (v17 : Int) : Tree (Int) :=
  (.br (decide (IntKind.i64.wrap (v17 - ((v16.length : Nat) : Int)) < (0 : Int))) (
   .leaf (-1 : Int)
  ) (
   .leaf (IntKind.i64.wrap (v17 - ((v16.length : Nat) : Int)))
  ))

noncomputable def laws_szInt64S_g (v16 : List Int) (v17 : Int) : Option (Int) := (laws_szInt64S_T v16 v17).run
def laws_szInt64S_enc (v16 : List Int) (v17 : Int) (y : Int) : Rs := (.int .i64 y, [])
theorem laws_szInt64S_den (v16 : List Int) (v17 : Int) : (den TT (tabD laws_szInt64S_tab) (tabM laws_szInt64S_tab) (laws_szInt64S_LO v16 v17) (codeOf Try.f63) ([.bslc (BR.root 0) (.i64 v16), .int .i64 v17] ++ List.replicate (Try.f63.ntmps - ([.bslc (BR.root 0) (.i64 v16), .int .i64 v17] : List DV).length) .undef) []).bind (retD TT Try.f63.results.toList 0) = (laws_szInt64S_T v16 v17).bind fun y => .leaf (laws_szInt64S_enc v16 v17 y) := by kernel_rfl
theorem laws_szInt64S_fn (v16 : List Int) (v17 : Int) (F : Fr) (hm : F.ids.length = 0) (h0 : St F [] F.H0) (hA : DVs.Ok F [] [.bslc (BR.root 0) (.i64 v16), .int .i64 v17]) {y : Int} (hy : laws_szInt64S_g v16 v17 = some y) : ∃ H', FnOk Try.prog 63 (DVs.av F [.bslc (BR.root 0) (.i64 v16), .int .i64 v17]) F.H0 ((laws_szInt64S_enc v16 v17 y).1.av F) H' ∧ St F (laws_szInt64S_enc v16 v17 y).2 H' ∧ (laws_szInt64S_enc v16 v17 y).1.Ok F (laws_szInt64S_enc v16 v17 y).2 :=
  fn_fin tok laws_szInt64S_hO mixed Try.func63 Try.call63 (by kernel_rfl) (LoopsOk_eq (l := []) (by kernel_rfl) trivial) (laws_szInt64S_den v16 v17) hy hm h0 hA
def laws_szInt64S_v (v16 : List Int) (v17 : Int) : Int :=
  if (decide (IntKind.i64.wrap (v17 - ((v16.length : Nat) : Int)) < (0 : Int))) = true then (
   (-1 : Int)
  ) else (
   IntKind.i64.wrap (v17 - ((v16.length : Nat) : Int))
  )
theorem laws_szInt64S_tot (v16 : List Int) (v17 : Int) : laws_szInt64S_g v16 v17 = some (laws_szInt64S_v v16 v17) := by
  unfold laws_szInt64S_g laws_szInt64S_T laws_szInt64S_v
  simp only [Tree.run]
  repeat' (first | rfl | split)
noncomputable def laws_szInt64S_F : DFn := fun args L =>
  match args with
  | [a1, .int .i64 v17] =>
    optT (rowI64 L a1) fun v16 =>
    .leaf (.int .i64 (laws_szInt64S_v v16 v17), L)
  | _ => .fail
theorem laws_szInt64S_Fok : COk Try.prog 63 laws_szInt64S_F true := by
  intro F L H args r L' hs ha hr
  unfold laws_szInt64S_F at hr
  split at hr
  · rename_i a1 v17
    obtain ⟨v16, hv16, hr⟩ := optT_run hr
    have hy := laws_szInt64S_tot v16 v17
    generalize laws_szInt64S_v v16 v17 = y at hy hr
    simp only [Tree.run, Option.some.injEq, Prod.mk.injEq] at hr
    obtain ⟨rfl, rfl⟩ := hr
    exact call_ok0 hs (fun k => (([a1.av F] : List AV)[k]?).getD .top) [a1, .int .i64 v17] [.bslc (BR.root 0) (.i64 v16), .int .i64 v17] (fun F' h0 hi hρ => ⟨by simp [DVs.av, DV.av, BR.av, hρ], laws_szInt64S_fn v16 v17 F' (by rw [hi]; rfl) (st_nil hi) ⟨bslc_ok hi (by rw [h0, hρ]; exact rowI64_ok hs (DVs.okAt ha 0 rfl) hv16), trivial, trivial⟩ hy⟩) rfl
  · cases hr
/-! laws.szFactor -/
noncomputable def laws_szFactor_LO (v5 : Int) (v6 : Int) (v7 : List Nat) (v8 : List Int) (v9 : Int) : LOr := fun id e L =>
  match id with
  | _ => .fail
noncomputable def laws_szFactor_tab : List (FuncId × DFn × Bool) := [(29, laws_szMatrix_F, true), (63, laws_szInt64S_F, true)]
theorem laws_szFactor_hO : OrcOk Try.prog (tabD laws_szFactor_tab) (tabM laws_szFactor_tab) := tabD_cons laws_szMatrix_Fok (tabD_cons laws_szInt64S_Fok (tabD_nil _))
noncomputable def laws_szFactor_T (v7 : List Nat) (v8 : List Int) (v9 : Int) : Tree (Int) :=
  (.br (decide ((laws_szMatrix_v v7 v9) < (0 : Int))) (
   .leaf (-1 : Int)
  ) (
   (.br (decide ((laws_szInt64S_v v8 (laws_szMatrix_v v7 v9)) < (0 : Int))) (
    .leaf (-1 : Int)
   ) (
    .leaf (laws_szInt64S_v v8 (laws_szMatrix_v v7 v9))
   ))
  ))

noncomputable def laws_szFactor_g (v7 : List Nat) (v8 : List Int) (v9 : Int) : Option (Int) := (laws_szFactor_T v7 v8 v9).run
def laws_szFactor_enc (v5 : Int) (v6 : Int) (v7 : List Nat) (v8 : List Int) (v9 : Int) (y : Int) : Rs := (.int .i64 y, [])
theorem laws_szFactor_den (v5 : Int) (v6 : Int) (v7 : List Nat) (v8 : List Int) (v9 : Int) : (den TT (tabD laws_szFactor_tab) (tabM laws_szFactor_tab) (laws_szFactor_LO v5 v6 v7 v8 v9) (codeOf Try.f46) ([.agg [.int .i64 v5, .int .i64 v6, .bslc (BR.root 0) (.f32 v7), .bslc (BR.root 1) (.i64 v8)], .int .i64 v9] ++ List.replicate (Try.f46.ntmps - ([.agg [.int .i64 v5, .int .i64 v6, .bslc (BR.root 0) (.f32 v7), .bslc (BR.root 1) (.i64 v8)], .int .i64 v9] : List DV).length) .undef) []).bind (retD TT Try.f46.results.toList 0) = (laws_szFactor_T v7 v8 v9).bind fun y => .leaf (laws_szFactor_enc v5 v6 v7 v8 v9 y) := by kernel_rfl
theorem laws_szFactor_fn (v5 : Int) (v6 : Int) (v7 : List Nat) (v8 : List Int) (v9 : Int) (F : Fr) (hm : F.ids.length = 0) (h0 : St F [] F.H0) (hA : DVs.Ok F [] [.agg [.int .i64 v5, .int .i64 v6, .bslc (BR.root 0) (.f32 v7), .bslc (BR.root 1) (.i64 v8)], .int .i64 v9]) {y : Int} (hy : laws_szFactor_g v7 v8 v9 = some y) : ∃ H', FnOk Try.prog 46 (DVs.av F [.agg [.int .i64 v5, .int .i64 v6, .bslc (BR.root 0) (.f32 v7), .bslc (BR.root 1) (.i64 v8)], .int .i64 v9]) F.H0 ((laws_szFactor_enc v5 v6 v7 v8 v9 y).1.av F) H' ∧ St F (laws_szFactor_enc v5 v6 v7 v8 v9 y).2 H' ∧ (laws_szFactor_enc v5 v6 v7 v8 v9 y).1.Ok F (laws_szFactor_enc v5 v6 v7 v8 v9 y).2 :=
  fn_fin tok laws_szFactor_hO mixed Try.func46 Try.call46 (by kernel_rfl) (LoopsOk_eq (l := []) (by kernel_rfl) trivial) (laws_szFactor_den v5 v6 v7 v8 v9) hy hm h0 hA
def laws_szFactor_v (v7 : List Nat) (v8 : List Int) (v9 : Int) : Int :=
  if (decide ((laws_szMatrix_v v7 v9) < (0 : Int))) = true then (
   (-1 : Int)
  ) else (
   if (decide ((laws_szInt64S_v v8 (laws_szMatrix_v v7 v9)) < (0 : Int))) = true then (
    (-1 : Int)
   ) else (
    (laws_szInt64S_v v8 (laws_szMatrix_v v7 v9))
   )
  )
theorem laws_szFactor_tot (v7 : List Nat) (v8 : List Int) (v9 : Int) : laws_szFactor_g v7 v8 v9 = some (laws_szFactor_v v7 v8 v9) := by
  unfold laws_szFactor_g laws_szFactor_T laws_szFactor_v
  simp only [Tree.run]
  repeat' (first | rfl | split)
noncomputable def laws_szFactor_F : DFn := fun args L =>
  match args with
  | [.agg [.int .i64 v5, .int .i64 v6, a1, a2], .int .i64 v9] =>
    optT (rowF32 L a1) fun v7 =>
    optT (rowI64 L a2) fun v8 =>
    .leaf (.int .i64 (laws_szFactor_v v7 v8 v9), L)
  | _ => .fail
theorem laws_szFactor_Fok : COk Try.prog 46 laws_szFactor_F true := by
  intro F L H args r L' hs ha hr
  unfold laws_szFactor_F at hr
  split at hr
  · rename_i v5 v6 a1 a2 v9
    obtain ⟨v7, hv7, hr⟩ := optT_run hr
    obtain ⟨v8, hv8, hr⟩ := optT_run hr
    have hy := laws_szFactor_tot v7 v8 v9
    generalize laws_szFactor_v v7 v8 v9 = y at hy hr
    simp only [Tree.run, Option.some.injEq, Prod.mk.injEq] at hr
    obtain ⟨rfl, rfl⟩ := hr
    exact call_ok0 hs (fun k => (([a1.av F, a2.av F] : List AV)[k]?).getD .top) [.agg [.int .i64 v5, .int .i64 v6, a1, a2], .int .i64 v9] [.agg [.int .i64 v5, .int .i64 v6, .bslc (BR.root 0) (.f32 v7), .bslc (BR.root 1) (.i64 v8)], .int .i64 v9] (fun F' h0 hi hρ => ⟨by simp [DVs.av, DV.av, BR.av, hρ], laws_szFactor_fn v5 v6 v7 v8 v9 F' (by rw [hi]; rfl) (st_nil hi) ⟨⟨trivial, trivial, bslc_ok hi (by rw [h0, hρ]; exact rowF32_ok hs (DVs.okAt (DVs.okAt ha 0 rfl) 2 rfl) hv7), bslc_ok hi (by rw [h0, hρ]; exact rowI64_ok hs (DVs.okAt (DVs.okAt ha 0 rfl) 3 rfl) hv8), trivial⟩, trivial, trivial⟩ hy⟩) rfl
  · cases hr
/-! laws.toFloat32S -/
noncomputable def laws_toFloat32S_l0_T (v25 : List Nat) (s : Int × (List Nat)) : Tree ((Int × (List Nat)) ⊕ ((List Nat))) :=
  (.br (decide (s.1 < ((v25.length : Nat) : Int))) (
   (.grd (inb s.1 v25.length) <|
   (.grd (inb s.1 ((s.2).length)) <|
   .leaf (.inl (IntKind.i64.wrap (s.1 + (1 : Int)), List.set s.2 (Int.toNat s.1) (nth v25 (Int.toNat s.1))))))
  ) (
   .leaf (.inr s.2)
  ))

noncomputable def laws_toFloat32S_l0_g (v25 : List Nat) (s0 : Int × (List Nat)) : Option ((List Nat)) := whileM (fun s => (laws_toFloat32S_l0_T v25 s).run) s0
def laws_toFloat32S_l0_E (v25 : List Nat) (s : Int × (List Nat)) : Sd := ([.bslc (BR.root 0) (.f32 v25), .top, .top, .own 0 0 ((s.2).length), .int .i64 s.1, .top, .top, .top, .top, .top, .top, .top, .top, .top, .top, .top, .top, .top, .top, .top, .top, .top], [.row (.f32 s.2) 0])
def laws_toFloat32S_l0_X (v25 : List Nat) (x : (List Nat)) : Out := (.normal, [.top, .top, .top, .own 0 0 ((x).length), .top, .top, .top, .top, .top, .top, .top, .top, .top, .top, .top, .top, .top, .top, .top, .top, .top, .top], [.row (.f32 x) 0])
def laws_toFloat32S_l0_kill : List Nat := [0, 1, 1, 0, 0, 1, 1, 1, 1, 1, 1, 1, 1, 1, 1, 1, 1, 1, 1, 1, 1, 1]
def laws_toFloat32S_l0_nx : Exit → List Nat
  | .exit 0 => [1, 1, 1, 0, 1, 1, 1, 1, 1, 1, 1, 1, 1, 1, 1, 1, 1, 1, 1, 1, 1, 1]
  | .ret => [1, 1, 0, 1, 1, 1, 1, 1, 1, 1, 1, 1, 1, 1, 1, 1, 1, 1, 1, 1, 1, 1]
  | _ => []
noncomputable def laws_toFloat32S_LO (v25 : List Nat) : LOr := fun id e L =>
  match id with
  | 0 => .need (normA 0 laws_toFloat32S_l0_kill e L = some (laws_toFloat32S_l0_E v25 ((gI (vAt e 4)), (gRF L (vAt e 3))))) (.call (laws_toFloat32S_l0_g v25 ((gI (vAt e 4)), (gRF L (vAt e 3)))) fun x => .leaf (laws_toFloat32S_l0_X v25 x))
  | _ => .fail
noncomputable def laws_toFloat32S_tab : List (FuncId × DFn × Bool) := []
theorem laws_toFloat32S_hO : OrcOk Try.prog (tabD laws_toFloat32S_tab) (tabM laws_toFloat32S_tab) := tabD_nil _
theorem laws_toFloat32S_l0_be (v25 : List Nat) (s : Int × (List Nat)) : bodyT TT (tabD laws_toFloat32S_tab) (tabM laws_toFloat32S_tab) (laws_toFloat32S_LO v25) 0 laws_toFloat32S_l0_kill laws_toFloat32S_l0_nx (bodyOf Try.f18 0) 0 (laws_toFloat32S_l0_E v25 s) = (laws_toFloat32S_l0_T v25 s).bind fun y => .leaf (outS (laws_toFloat32S_l0_E v25) (laws_toFloat32S_l0_X v25) y) := by kernel_rfl
theorem laws_toFloat32S_l0_ok (v25 : List Nat) : LSound Try.prog 0 (laws_toFloat32S_LO v25) 0 (bodyOf Try.f18 0) := by
  intro e L out h
  exact lo_ok (E := laws_toFloat32S_l0_E v25) (gT := laws_toFloat32S_l0_T v25) (X := laws_toFloat32S_l0_X v25) (s0 := ((gI (vAt e 4)), (gRF L (vAt e 3)))) tok laws_toFloat32S_hO mixed (LoopsOk_eq (l := []) (by kernel_rfl) trivial) (laws_toFloat32S_l0_be v25) rfl (by intro x; rfl) h
noncomputable def laws_toFloat32S_T (v25 : List Nat) : Tree ((List Nat)) :=
  (.need (((v25.length : Nat) : Int) = ((v25.length : Nat) : Int)) <|
  (.grd (inb ((v25.length : Nat) : Int) (maxN + 1)) <|
  (.need (some (laws_toFloat32S_l0_E v25 ((0 : Int), List.replicate (Int.toNat ((v25.length : Nat) : Int)) (0 : Nat))) = some (laws_toFloat32S_l0_E v25 ((0 : Int), List.replicate (Int.toNat ((v25.length : Nat) : Int)) (0 : Nat)))) <|
  (.call (laws_toFloat32S_l0_g v25 ((0 : Int), List.replicate (Int.toNat ((v25.length : Nat) : Int)) (0 : Nat))) fun v31 =>
  .leaf v31))))

noncomputable def laws_toFloat32S_g (v25 : List Nat) : Option ((List Nat)) := (laws_toFloat32S_T v25).run
def laws_toFloat32S_enc (v25 : List Nat) (y : (List Nat)) : Rs := (.own 0 0 ((y).length), [.row (.f32 y) 0])
theorem laws_toFloat32S_den (v25 : List Nat) : (den TT (tabD laws_toFloat32S_tab) (tabM laws_toFloat32S_tab) (laws_toFloat32S_LO v25) (codeOf Try.f18) ([.bslc (BR.root 0) (.f32 v25)] ++ List.replicate (Try.f18.ntmps - ([.bslc (BR.root 0) (.f32 v25)] : List DV).length) .undef) []).bind (retD TT Try.f18.results.toList 0) = (laws_toFloat32S_T v25).bind fun y => .leaf (laws_toFloat32S_enc v25 y) := by kernel_rfl
theorem laws_toFloat32S_fn (v25 : List Nat) (F : Fr) (hm : F.ids.length = 0) (h0 : St F [] F.H0) (hA : DVs.Ok F [] [.bslc (BR.root 0) (.f32 v25)]) {y : (List Nat)} (hy : laws_toFloat32S_g v25 = some y) : ∃ H', FnOk Try.prog 18 (DVs.av F [.bslc (BR.root 0) (.f32 v25)]) F.H0 ((laws_toFloat32S_enc v25 y).1.av F) H' ∧ St F (laws_toFloat32S_enc v25 y).2 H' ∧ (laws_toFloat32S_enc v25 y).1.Ok F (laws_toFloat32S_enc v25 y).2 :=
  fn_fin tok laws_toFloat32S_hO mixed Try.func18 Try.call18 (by kernel_rfl) (LoopsOk_eq (l := [(0, bodyOf Try.f18 0)]) (by kernel_rfl) ⟨laws_toFloat32S_l0_ok v25, trivial⟩) (laws_toFloat32S_den v25) hy hm h0 hA
noncomputable def laws_toFloat32S_F : DFn := fun args L =>
  match args with
  | [a1] =>
    optT (rowF32 L a1) fun v25 =>
    .call (laws_toFloat32S_g v25) fun y => .leaf (.own (L.length + 0) 0 ((y).length), L ++ [.row (.f32 y) 0])
  | _ => .fail
theorem laws_toFloat32S_Fok : COk Try.prog 18 laws_toFloat32S_F true := by
  intro F L H args r L' hs ha hr
  unfold laws_toFloat32S_F at hr
  split at hr
  · rename_i a1
    obtain ⟨v25, hv25, hr⟩ := optT_run hr
    simp only [Tree.run] at hr
    obtain ⟨y, hy, hr⟩ := Option.bind_eq_some_iff.1 hr
    simp only [Tree.run, Option.some.injEq, Prod.mk.injEq] at hr
    obtain ⟨rfl, rfl⟩ := hr
    exact call_ok1 hs (fun k => (([a1.av F] : List AV)[k]?).getD .top) [a1] [.bslc (BR.root 0) (.f32 v25)] (fun F' h0 hi hρ => ⟨by simp [DVs.av, DV.av, BR.av, hρ], laws_toFloat32S_fn v25 F' (by rw [hi]; rfl) (st_nil hi) ⟨bslc_ok hi (by rw [h0, hρ]; exact rowF32_ok hs (DVs.okAt ha 0 rfl) hv25), trivial⟩ hy⟩) rfl rfl
  · cases hr
/-! laws.toMatrix -/
noncomputable def laws_toMatrix_LO (v22 : Int) (v23 : Int) (v24 : List Nat) : LOr := fun id e L =>
  match id with
  | _ => .fail
noncomputable def laws_toMatrix_tab : List (FuncId × DFn × Bool) := [(18, laws_toFloat32S_F, true)]
theorem laws_toMatrix_hO : OrcOk Try.prog (tabD laws_toMatrix_tab) (tabM laws_toMatrix_tab) := tabD_cons laws_toFloat32S_Fok (tabD_nil _)
noncomputable def laws_toMatrix_T (v22 : Int) (v23 : Int) (v24 : List Nat) : Tree (Int × Int × (List Nat)) :=
  (.call (laws_toFloat32S_g v24) fun v32 =>
  .leaf (v22, v23, v32))

noncomputable def laws_toMatrix_g (v22 : Int) (v23 : Int) (v24 : List Nat) : Option (Int × Int × (List Nat)) := (laws_toMatrix_T v22 v23 v24).run
def laws_toMatrix_enc (v22 : Int) (v23 : Int) (v24 : List Nat) (y : Int × Int × (List Nat)) : Rs := (.agg [.int .i64 y.1, .int .i64 y.2.1, .own 0 0 ((y.2.2).length)], [.row (.f32 y.2.2) 0])
theorem laws_toMatrix_den (v22 : Int) (v23 : Int) (v24 : List Nat) : (den TT (tabD laws_toMatrix_tab) (tabM laws_toMatrix_tab) (laws_toMatrix_LO v22 v23 v24) (codeOf Try.f31) ([.agg [.int .i64 v22, .int .i64 v23, .bslc (BR.root 0) (.f32 v24)]] ++ List.replicate (Try.f31.ntmps - ([.agg [.int .i64 v22, .int .i64 v23, .bslc (BR.root 0) (.f32 v24)]] : List DV).length) .undef) []).bind (retD TT Try.f31.results.toList 0) = (laws_toMatrix_T v22 v23 v24).bind fun y => .leaf (laws_toMatrix_enc v22 v23 v24 y) := by kernel_rfl
theorem laws_toMatrix_fn (v22 : Int) (v23 : Int) (v24 : List Nat) (F : Fr) (hm : F.ids.length = 0) (h0 : St F [] F.H0) (hA : DVs.Ok F [] [.agg [.int .i64 v22, .int .i64 v23, .bslc (BR.root 0) (.f32 v24)]]) {y : Int × Int × (List Nat)} (hy : laws_toMatrix_g v22 v23 v24 = some y) : ∃ H', FnOk Try.prog 31 (DVs.av F [.agg [.int .i64 v22, .int .i64 v23, .bslc (BR.root 0) (.f32 v24)]]) F.H0 ((laws_toMatrix_enc v22 v23 v24 y).1.av F) H' ∧ St F (laws_toMatrix_enc v22 v23 v24 y).2 H' ∧ (laws_toMatrix_enc v22 v23 v24 y).1.Ok F (laws_toMatrix_enc v22 v23 v24 y).2 :=
  fn_fin tok laws_toMatrix_hO mixed Try.func31 Try.call31 (by kernel_rfl) (LoopsOk_eq (l := []) (by kernel_rfl) trivial) (laws_toMatrix_den v22 v23 v24) hy hm h0 hA
noncomputable def laws_toMatrix_F : DFn := fun args L =>
  match args with
  | [.agg [.int .i64 v22, .int .i64 v23, a1]] =>
    optT (rowF32 L a1) fun v24 =>
    .call (laws_toMatrix_g v22 v23 v24) fun y => .leaf (.agg [.int .i64 y.1, .int .i64 y.2.1, .own (L.length + 0) 0 ((y.2.2).length)], L ++ [.row (.f32 y.2.2) 0])
  | _ => .fail
theorem laws_toMatrix_Fok : COk Try.prog 31 laws_toMatrix_F true := by
  intro F L H args r L' hs ha hr
  unfold laws_toMatrix_F at hr
  split at hr
  · rename_i v22 v23 a1
    obtain ⟨v24, hv24, hr⟩ := optT_run hr
    simp only [Tree.run] at hr
    obtain ⟨y, hy, hr⟩ := Option.bind_eq_some_iff.1 hr
    simp only [Tree.run, Option.some.injEq, Prod.mk.injEq] at hr
    obtain ⟨rfl, rfl⟩ := hr
    exact call_ok1 hs (fun k => (([a1.av F] : List AV)[k]?).getD .top) [.agg [.int .i64 v22, .int .i64 v23, a1]] [.agg [.int .i64 v22, .int .i64 v23, .bslc (BR.root 0) (.f32 v24)]] (fun F' h0 hi hρ => ⟨by simp [DVs.av, DV.av, BR.av, hρ], laws_toMatrix_fn v22 v23 v24 F' (by rw [hi]; rfl) (st_nil hi) ⟨⟨trivial, trivial, bslc_ok hi (by rw [h0, hρ]; exact rowF32_ok hs (DVs.okAt (DVs.okAt ha 0 rfl) 2 rfl) hv24), trivial⟩, trivial⟩ hy⟩) rfl rfl
  · cases hr
/-! laws.toInt64S -/
noncomputable def laws_toInt64S_l0_T (v34 : List Int) (s : Int × (List Int)) : Tree ((Int × (List Int)) ⊕ ((List Int))) :=
  (.br (decide (s.1 < ((v34.length : Nat) : Int))) (
   (.grd (inb s.1 v34.length) <|
   (.grd (inb s.1 ((s.2).length)) <|
   .leaf (.inl (IntKind.i64.wrap (s.1 + (1 : Int)), List.set s.2 (Int.toNat s.1) (nth v34 (Int.toNat s.1))))))
  ) (
   .leaf (.inr s.2)
  ))

noncomputable def laws_toInt64S_l0_g (v34 : List Int) (s0 : Int × (List Int)) : Option ((List Int)) := whileM (fun s => (laws_toInt64S_l0_T v34 s).run) s0
def laws_toInt64S_l0_E (v34 : List Int) (s : Int × (List Int)) : Sd := ([.bslc (BR.root 0) (.i64 v34), .top, .top, .own 0 0 ((s.2).length), .int .i64 s.1, .top, .top, .top, .top, .top, .top, .top, .top, .top, .top, .top, .top, .top, .top, .top, .top, .top], [.row (.i64 s.2) 0])
def laws_toInt64S_l0_X (v34 : List Int) (x : (List Int)) : Out := (.normal, [.top, .top, .top, .own 0 0 ((x).length), .top, .top, .top, .top, .top, .top, .top, .top, .top, .top, .top, .top, .top, .top, .top, .top, .top, .top], [.row (.i64 x) 0])
def laws_toInt64S_l0_kill : List Nat := [0, 1, 1, 0, 0, 1, 1, 1, 1, 1, 1, 1, 1, 1, 1, 1, 1, 1, 1, 1, 1, 1]
def laws_toInt64S_l0_nx : Exit → List Nat
  | .exit 0 => [1, 1, 1, 0, 1, 1, 1, 1, 1, 1, 1, 1, 1, 1, 1, 1, 1, 1, 1, 1, 1, 1]
  | .ret => [1, 1, 0, 1, 1, 1, 1, 1, 1, 1, 1, 1, 1, 1, 1, 1, 1, 1, 1, 1, 1, 1]
  | _ => []
noncomputable def laws_toInt64S_LO (v34 : List Int) : LOr := fun id e L =>
  match id with
  | 0 => .need (normA 0 laws_toInt64S_l0_kill e L = some (laws_toInt64S_l0_E v34 ((gI (vAt e 4)), (gRI L (vAt e 3))))) (.call (laws_toInt64S_l0_g v34 ((gI (vAt e 4)), (gRI L (vAt e 3)))) fun x => .leaf (laws_toInt64S_l0_X v34 x))
  | _ => .fail
noncomputable def laws_toInt64S_tab : List (FuncId × DFn × Bool) := []
theorem laws_toInt64S_hO : OrcOk Try.prog (tabD laws_toInt64S_tab) (tabM laws_toInt64S_tab) := tabD_nil _
theorem laws_toInt64S_l0_be (v34 : List Int) (s : Int × (List Int)) : bodyT TT (tabD laws_toInt64S_tab) (tabM laws_toInt64S_tab) (laws_toInt64S_LO v34) 0 laws_toInt64S_l0_kill laws_toInt64S_l0_nx (bodyOf Try.f42 0) 0 (laws_toInt64S_l0_E v34 s) = (laws_toInt64S_l0_T v34 s).bind fun y => .leaf (outS (laws_toInt64S_l0_E v34) (laws_toInt64S_l0_X v34) y) := by kernel_rfl
theorem laws_toInt64S_l0_ok (v34 : List Int) : LSound Try.prog 0 (laws_toInt64S_LO v34) 0 (bodyOf Try.f42 0) := by
  intro e L out h
  exact lo_ok (E := laws_toInt64S_l0_E v34) (gT := laws_toInt64S_l0_T v34) (X := laws_toInt64S_l0_X v34) (s0 := ((gI (vAt e 4)), (gRI L (vAt e 3)))) tok laws_toInt64S_hO mixed (LoopsOk_eq (l := []) (by kernel_rfl) trivial) (laws_toInt64S_l0_be v34) rfl (by intro x; rfl) h
noncomputable def laws_toInt64S_T (v34 : List Int) : Tree ((List Int)) :=
  (.need (((v34.length : Nat) : Int) = ((v34.length : Nat) : Int)) <|
  (.grd (inb ((v34.length : Nat) : Int) (maxN + 1)) <|
  (.need (some (laws_toInt64S_l0_E v34 ((0 : Int), List.replicate (Int.toNat ((v34.length : Nat) : Int)) (0 : Int))) = some (laws_toInt64S_l0_E v34 ((0 : Int), List.replicate (Int.toNat ((v34.length : Nat) : Int)) (0 : Int)))) <|
  (.call (laws_toInt64S_l0_g v34 ((0 : Int), List.replicate (Int.toNat ((v34.length : Nat) : Int)) (0 : Int))) fun v40 =>
  .leaf v40))))

noncomputable def laws_toInt64S_g (v34 : List Int) : Option ((List Int)) := (laws_toInt64S_T v34).run
def laws_toInt64S_enc (v34 : List Int) (y : (List Int)) : Rs := (.own 0 0 ((y).length), [.row (.i64 y) 0])
theorem laws_toInt64S_den (v34 : List Int) : (den TT (tabD laws_toInt64S_tab) (tabM laws_toInt64S_tab) (laws_toInt64S_LO v34) (codeOf Try.f42) ([.bslc (BR.root 0) (.i64 v34)] ++ List.replicate (Try.f42.ntmps - ([.bslc (BR.root 0) (.i64 v34)] : List DV).length) .undef) []).bind (retD TT Try.f42.results.toList 0) = (laws_toInt64S_T v34).bind fun y => .leaf (laws_toInt64S_enc v34 y) := by kernel_rfl
theorem laws_toInt64S_fn (v34 : List Int) (F : Fr) (hm : F.ids.length = 0) (h0 : St F [] F.H0) (hA : DVs.Ok F [] [.bslc (BR.root 0) (.i64 v34)]) {y : (List Int)} (hy : laws_toInt64S_g v34 = some y) : ∃ H', FnOk Try.prog 42 (DVs.av F [.bslc (BR.root 0) (.i64 v34)]) F.H0 ((laws_toInt64S_enc v34 y).1.av F) H' ∧ St F (laws_toInt64S_enc v34 y).2 H' ∧ (laws_toInt64S_enc v34 y).1.Ok F (laws_toInt64S_enc v34 y).2 :=
  fn_fin tok laws_toInt64S_hO mixed Try.func42 Try.call42 (by kernel_rfl) (LoopsOk_eq (l := [(0, bodyOf Try.f42 0)]) (by kernel_rfl) ⟨laws_toInt64S_l0_ok v34, trivial⟩) (laws_toInt64S_den v34) hy hm h0 hA
noncomputable def laws_toInt64S_F : DFn := fun args L =>
  match args with
  | [a1] =>
    optT (rowI64 L a1) fun v34 =>
    .call (laws_toInt64S_g v34) fun y => .leaf (.own (L.length + 0) 0 ((y).length), L ++ [.row (.i64 y) 0])
  | _ => .fail
theorem laws_toInt64S_Fok : COk Try.prog 42 laws_toInt64S_F true := by
  intro F L H args r L' hs ha hr
  unfold laws_toInt64S_F at hr
  split at hr
  · rename_i a1
    obtain ⟨v34, hv34, hr⟩ := optT_run hr
    simp only [Tree.run] at hr
    obtain ⟨y, hy, hr⟩ := Option.bind_eq_some_iff.1 hr
    simp only [Tree.run, Option.some.injEq, Prod.mk.injEq] at hr
    obtain ⟨rfl, rfl⟩ := hr
    exact call_ok1 hs (fun k => (([a1.av F] : List AV)[k]?).getD .top) [a1] [.bslc (BR.root 0) (.i64 v34)] (fun F' h0 hi hρ => ⟨by simp [DVs.av, DV.av, BR.av, hρ], laws_toInt64S_fn v34 F' (by rw [hi]; rfl) (st_nil hi) ⟨bslc_ok hi (by rw [h0, hρ]; exact rowI64_ok hs (DVs.okAt ha 0 rfl) hv34), trivial⟩ hy⟩) rfl rfl
  · cases hr
/-! laws.toFactor -/
noncomputable def laws_toFactor_LO (v18 : Int) (v19 : Int) (v20 : List Nat) (v21 : List Int) : LOr := fun id e L =>
  match id with
  | _ => .fail
noncomputable def laws_toFactor_tab : List (FuncId × DFn × Bool) := [(31, laws_toMatrix_F, true), (42, laws_toInt64S_F, true)]
theorem laws_toFactor_hO : OrcOk Try.prog (tabD laws_toFactor_tab) (tabM laws_toFactor_tab) := tabD_cons laws_toMatrix_Fok (tabD_cons laws_toInt64S_Fok (tabD_nil _))
noncomputable def laws_toFactor_T (v18 : Int) (v19 : Int) (v20 : List Nat) (v21 : List Int) : Tree (Int × Int × (List Nat) × (List Int)) :=
  (.call (laws_toMatrix_g v18 v19 v20) fun v33 =>
  (.call (laws_toInt64S_g v21) fun v41 =>
  .leaf (v33.1, v33.2.1, v33.2.2, v41)))

noncomputable def laws_toFactor_g (v18 : Int) (v19 : Int) (v20 : List Nat) (v21 : List Int) : Option (Int × Int × (List Nat) × (List Int)) := (laws_toFactor_T v18 v19 v20 v21).run
def laws_toFactor_enc (v18 : Int) (v19 : Int) (v20 : List Nat) (v21 : List Int) (y : Int × Int × (List Nat) × (List Int)) : Rs := (.agg [.int .i64 y.1, .int .i64 y.2.1, .own 0 0 ((y.2.2.1).length), .own 1 0 ((y.2.2.2).length)], [.row (.f32 y.2.2.1) 0, .row (.i64 y.2.2.2) 0])
theorem laws_toFactor_den (v18 : Int) (v19 : Int) (v20 : List Nat) (v21 : List Int) : (den TT (tabD laws_toFactor_tab) (tabM laws_toFactor_tab) (laws_toFactor_LO v18 v19 v20 v21) (codeOf Try.f48) ([.agg [.int .i64 v18, .int .i64 v19, .bslc (BR.root 0) (.f32 v20), .bslc (BR.root 1) (.i64 v21)]] ++ List.replicate (Try.f48.ntmps - ([.agg [.int .i64 v18, .int .i64 v19, .bslc (BR.root 0) (.f32 v20), .bslc (BR.root 1) (.i64 v21)]] : List DV).length) .undef) []).bind (retD TT Try.f48.results.toList 0) = (laws_toFactor_T v18 v19 v20 v21).bind fun y => .leaf (laws_toFactor_enc v18 v19 v20 v21 y) := by kernel_rfl
theorem laws_toFactor_fn (v18 : Int) (v19 : Int) (v20 : List Nat) (v21 : List Int) (F : Fr) (hm : F.ids.length = 0) (h0 : St F [] F.H0) (hA : DVs.Ok F [] [.agg [.int .i64 v18, .int .i64 v19, .bslc (BR.root 0) (.f32 v20), .bslc (BR.root 1) (.i64 v21)]]) {y : Int × Int × (List Nat) × (List Int)} (hy : laws_toFactor_g v18 v19 v20 v21 = some y) : ∃ H', FnOk Try.prog 48 (DVs.av F [.agg [.int .i64 v18, .int .i64 v19, .bslc (BR.root 0) (.f32 v20), .bslc (BR.root 1) (.i64 v21)]]) F.H0 ((laws_toFactor_enc v18 v19 v20 v21 y).1.av F) H' ∧ St F (laws_toFactor_enc v18 v19 v20 v21 y).2 H' ∧ (laws_toFactor_enc v18 v19 v20 v21 y).1.Ok F (laws_toFactor_enc v18 v19 v20 v21 y).2 :=
  fn_fin tok laws_toFactor_hO mixed Try.func48 Try.call48 (by kernel_rfl) (LoopsOk_eq (l := []) (by kernel_rfl) trivial) (laws_toFactor_den v18 v19 v20 v21) hy hm h0 hA
noncomputable def laws_toFactor_F : DFn := fun args L =>
  match args with
  | [.agg [.int .i64 v18, .int .i64 v19, a1, a2]] =>
    optT (rowF32 L a1) fun v20 =>
    optT (rowI64 L a2) fun v21 =>
    .call (laws_toFactor_g v18 v19 v20 v21) fun y => .leaf (.agg [.int .i64 y.1, .int .i64 y.2.1, .own (L.length + 0) 0 ((y.2.2.1).length), .own (L.length + 1) 0 ((y.2.2.2).length)], L ++ [.row (.f32 y.2.2.1) 0, .row (.i64 y.2.2.2) 0])
  | _ => .fail
theorem laws_toFactor_Fok : COk Try.prog 48 laws_toFactor_F true := by
  intro F L H args r L' hs ha hr
  unfold laws_toFactor_F at hr
  split at hr
  · rename_i v18 v19 a1 a2
    obtain ⟨v20, hv20, hr⟩ := optT_run hr
    obtain ⟨v21, hv21, hr⟩ := optT_run hr
    simp only [Tree.run] at hr
    obtain ⟨y, hy, hr⟩ := Option.bind_eq_some_iff.1 hr
    simp only [Tree.run, Option.some.injEq, Prod.mk.injEq] at hr
    obtain ⟨rfl, rfl⟩ := hr
    exact call_ok1 hs (fun k => (([a1.av F, a2.av F] : List AV)[k]?).getD .top) [.agg [.int .i64 v18, .int .i64 v19, a1, a2]] [.agg [.int .i64 v18, .int .i64 v19, .bslc (BR.root 0) (.f32 v20), .bslc (BR.root 1) (.i64 v21)]] (fun F' h0 hi hρ => ⟨by simp [DVs.av, DV.av, BR.av, hρ], laws_toFactor_fn v18 v19 v20 v21 F' (by rw [hi]; rfl) (st_nil hi) ⟨⟨trivial, trivial, bslc_ok hi (by rw [h0, hρ]; exact rowF32_ok hs (DVs.okAt (DVs.okAt ha 0 rfl) 2 rfl) hv20), bslc_ok hi (by rw [h0, hρ]; exact rowI64_ok hs (DVs.okAt (DVs.okAt ha 0 rfl) 3 rfl) hv21), trivial⟩, trivial⟩ hy⟩) rfl rfl
  · cases hr
/-! spec.l00In -/
noncomputable def spec_l00In_LO (v50 : Int) (v51 : Int) (v52 : Int) : LOr := fun id e L =>
  match id with
  | _ => .fail
noncomputable def spec_l00In_tab : List (FuncId × DFn × Bool) := []
theorem spec_l00In_hO : OrcOk Try.prog (tabD spec_l00In_tab) (tabM spec_l00In_tab) := tabD_nil _
noncomputable def spec_l00In_T (v50 : Int) (v51 : Int) (v52 : Int) : Tree (Bool) :=
  (.br (decide (v51 ≤ v50)) (
   .leaf (decide (v50 ≤ v52))
  ) (
   .leaf false
  ))

noncomputable def spec_l00In_g (v50 : Int) (v51 : Int) (v52 : Int) : Option (Bool) := (spec_l00In_T v50 v51 v52).run
def spec_l00In_enc (v50 : Int) (v51 : Int) (v52 : Int) (y : Bool) : Rs := (.bool y, [])
theorem spec_l00In_den (v50 : Int) (v51 : Int) (v52 : Int) : (den TT (tabD spec_l00In_tab) (tabM spec_l00In_tab) (spec_l00In_LO v50 v51 v52) (codeOf Try.f71) ([.int .i64 v50, .int .i64 v51, .int .i64 v52] ++ List.replicate (Try.f71.ntmps - ([.int .i64 v50, .int .i64 v51, .int .i64 v52] : List DV).length) .undef) []).bind (retD TT Try.f71.results.toList 0) = (spec_l00In_T v50 v51 v52).bind fun y => .leaf (spec_l00In_enc v50 v51 v52 y) := by kernel_rfl
theorem spec_l00In_fn (v50 : Int) (v51 : Int) (v52 : Int) (F : Fr) (hm : F.ids.length = 0) (h0 : St F [] F.H0) (hA : DVs.Ok F [] [.int .i64 v50, .int .i64 v51, .int .i64 v52]) {y : Bool} (hy : spec_l00In_g v50 v51 v52 = some y) : ∃ H', FnOk Try.prog 71 (DVs.av F [.int .i64 v50, .int .i64 v51, .int .i64 v52]) F.H0 ((spec_l00In_enc v50 v51 v52 y).1.av F) H' ∧ St F (spec_l00In_enc v50 v51 v52 y).2 H' ∧ (spec_l00In_enc v50 v51 v52 y).1.Ok F (spec_l00In_enc v50 v51 v52 y).2 :=
  fn_fin tok spec_l00In_hO mixed Try.func71 Try.call71 (by kernel_rfl) (LoopsOk_eq (l := []) (by kernel_rfl) trivial) (spec_l00In_den v50 v51 v52) hy hm h0 hA
def spec_l00In_v (v50 : Int) (v51 : Int) (v52 : Int) : Bool :=
  if (decide (v51 ≤ v50)) = true then (
   decide (v50 ≤ v52)
  ) else (
   false
  )
theorem spec_l00In_tot (v50 : Int) (v51 : Int) (v52 : Int) : spec_l00In_g v50 v51 v52 = some (spec_l00In_v v50 v51 v52) := by
  unfold spec_l00In_g spec_l00In_T spec_l00In_v
  simp only [Tree.run]
  repeat' (first | rfl | split)
noncomputable def spec_l00In_F : DFn := fun args L =>
  match args with
  | [.int .i64 v50, .int .i64 v51, .int .i64 v52] =>
    .leaf (.bool (spec_l00In_v v50 v51 v52), L)
  | _ => .fail
theorem spec_l00In_Fok : COk Try.prog 71 spec_l00In_F true := by
  intro F L H args r L' hs ha hr
  unfold spec_l00In_F at hr
  split at hr
  · rename_i v50 v51 v52
    have hy := spec_l00In_tot v50 v51 v52
    generalize spec_l00In_v v50 v51 v52 = y at hy hr
    simp only [Tree.run, Option.some.injEq, Prod.mk.injEq] at hr
    obtain ⟨rfl, rfl⟩ := hr
    exact call_ok0 hs (fun k => (([] : List AV)[k]?).getD .top) [.int .i64 v50, .int .i64 v51, .int .i64 v52] [.int .i64 v50, .int .i64 v51, .int .i64 v52] (fun F' h0 hi hρ => ⟨by simp [DVs.av, DV.av, BR.av, hρ], spec_l00In_fn v50 v51 v52 F' (by rw [hi]; rfl) (st_nil hi) ⟨trivial, trivial, trivial, trivial⟩ hy⟩) rfl
  · cases hr
/-! spec.l02Order -/
noncomputable def spec_l02Order_l0_T (v48 : List Int) (s : Int × (List Bool)) : Tree ((Int × (List Bool)) ⊕ ((Unit) ⊕ (Unit))) :=
  (.br (decide (s.1 < ((v48.length : Nat) : Int))) (
   (.grd (inb s.1 v48.length) <|
   (.br (!(spec_l00In_v (nth v48 (Int.toNat s.1)) (0 : Int) (IntKind.i64.wrap (((v48.length : Nat) : Int) - (1 : Int))))) (
    .leaf (.inr (.inl ()))
   ) (
    (.grd (inb s.1 v48.length) <|
    (.grd (inb (nth v48 (Int.toNat s.1)) ((s.2).length)) <|
    (.br (nth s.2 (Int.toNat (nth v48 (Int.toNat s.1)))) (
     .leaf (.inr (.inl ()))
    ) (
     (.grd (inb s.1 v48.length) <|
     (.grd (inb (nth v48 (Int.toNat s.1)) ((s.2).length)) <|
     .leaf (.inl (IntKind.i64.wrap (s.1 + (1 : Int)), List.set s.2 (Int.toNat (nth v48 (Int.toNat s.1))) true))))
    ))))
   )))
  ) (
   .leaf (.inr (.inr ()))
  ))

noncomputable def spec_l02Order_l0_g (v48 : List Int) (s0 : Int × (List Bool)) : Option ((Unit) ⊕ (Unit)) := whileM (fun s => (spec_l02Order_l0_T v48 s).run) s0
def spec_l02Order_l0_E (v48 : List Int) (s : Int × (List Bool)) : Sd := ([.bslc (BR.root 0) (.i64 v48), .top, .top, .own 0 0 ((s.2).length), .int .i64 s.1, .top, .top, .top, .top, .top, .top, .top, .top, .top, .top, .top, .top, .top, .top, .top, .top, .top, .top, .top, .top, .top, .top, .top, .top, .top, .top, .top, .top, .top, .top, .top, .top, .top, .top, .top, .top, .top, .top, .top, .top, .top], [.row (.bool s.2) 0])
def spec_l02Order_l0_X (v48 : List Int) (x : (Unit) ⊕ (Unit)) : Out := (match x with | .inl x => (.ret, [.top, .top, .lit false, .top, .top, .top, .top, .top, .top, .top, .top, .top, .top, .top, .top, .top, .top, .top, .top, .top, .top, .top, .top, .top, .top, .top, .top, .top, .top, .top, .top, .top, .top, .top, .top, .top, .top, .top, .top, .top, .top, .top, .top, .top, .top, .top], []) | .inr x => (.normal, [.top, .top, .top, .top, .top, .top, .top, .top, .top, .top, .top, .top, .top, .top, .top, .top, .top, .top, .top, .top, .top, .top, .top, .top, .top, .top, .top, .top, .top, .top, .top, .top, .top, .top, .top, .top, .top, .top, .top, .top, .top, .top, .top, .top, .top, .top], []))
def spec_l02Order_l0_kill : List Nat := [0, 1, 1, 0, 0, 1, 1, 1, 1, 1, 1, 1, 1, 1, 1, 1, 1, 1, 1, 1, 1, 1, 1, 1, 1, 1, 1, 1, 1, 1, 1, 1, 1, 1, 1, 1, 1, 1, 1, 1, 1, 1, 1, 1, 1, 1]
def spec_l02Order_l0_nx : Exit → List Nat
  | .exit 0 => [1, 1, 1, 1, 1, 1, 1, 1, 1, 1, 1, 1, 1, 1, 1, 1, 1, 1, 1, 1, 1, 1, 1, 1, 1, 1, 1, 1, 1, 1, 1, 1, 1, 1, 1, 1, 1, 1, 1, 1, 1, 1, 1, 1, 1, 1]
  | .ret => [1, 1, 0, 1, 1, 1, 1, 1, 1, 1, 1, 1, 1, 1, 1, 1, 1, 1, 1, 1, 1, 1, 1, 1, 1, 1, 1, 1, 1, 1, 1, 1, 1, 1, 1, 1, 1, 1, 1, 1, 1, 1, 1, 1, 1, 1]
  | _ => []
noncomputable def spec_l02Order_LO (v48 : List Int) : LOr := fun id e L =>
  match id with
  | 0 => .need (normA 0 spec_l02Order_l0_kill e L = some (spec_l02Order_l0_E v48 ((gI (vAt e 4)), (gRB L (vAt e 3))))) (.call (spec_l02Order_l0_g v48 ((gI (vAt e 4)), (gRB L (vAt e 3)))) fun x => .sum x (fun b0 => .leaf (spec_l02Order_l0_X v48 (.inl b0))) (fun c0 => .leaf (spec_l02Order_l0_X v48 (.inr c0))))
  | _ => .fail
noncomputable def spec_l02Order_tab : List (FuncId × DFn × Bool) := [(71, spec_l00In_F, true)]
theorem spec_l02Order_hO : OrcOk Try.prog (tabD spec_l02Order_tab) (tabM spec_l02Order_tab) := tabD_cons spec_l00In_Fok (tabD_nil _)
theorem spec_l02Order_l0_be (v48 : List Int) (s : Int × (List Bool)) : bodyT TT (tabD spec_l02Order_tab) (tabM spec_l02Order_tab) (spec_l02Order_LO v48) 0 spec_l02Order_l0_kill spec_l02Order_l0_nx (bodyOf Try.f106 0) 0 (spec_l02Order_l0_E v48 s) = (spec_l02Order_l0_T v48 s).bind fun y => .leaf (outS (spec_l02Order_l0_E v48) (spec_l02Order_l0_X v48) y) := by kernel_rfl
theorem spec_l02Order_l0_ok (v48 : List Int) : LSound Try.prog 0 (spec_l02Order_LO v48) 0 (bodyOf Try.f106 0) := by
  intro e L out h
  exact lo_ok (E := spec_l02Order_l0_E v48) (gT := spec_l02Order_l0_T v48) (X := spec_l02Order_l0_X v48) (s0 := ((gI (vAt e 4)), (gRB L (vAt e 3)))) tok spec_l02Order_hO mixed (LoopsOk_eq (l := []) (by kernel_rfl) trivial) (spec_l02Order_l0_be v48) rfl (by intro x; (cases x with | inl b => rfl | inr x => exact rfl)) h
noncomputable def spec_l02Order_T (v48 : List Int) : Tree (Bool) :=
  (.br (decide (((v48.length : Nat) : Int) < (1 : Int))) (
   .leaf false
  ) (
   (.br (decide ((12 : Int) < ((v48.length : Nat) : Int))) (
    .leaf false
   ) (
    (.need (((v48.length : Nat) : Int) = ((v48.length : Nat) : Int)) <|
    (.grd (inb ((v48.length : Nat) : Int) (maxN + 1)) <|
    (.need (some (spec_l02Order_l0_E v48 ((0 : Int), List.replicate (Int.toNat ((v48.length : Nat) : Int)) false)) = some (spec_l02Order_l0_E v48 ((0 : Int), List.replicate (Int.toNat ((v48.length : Nat) : Int)) false))) <|
    (.call (spec_l02Order_l0_g v48 ((0 : Int), List.replicate (Int.toNat ((v48.length : Nat) : Int)) false)) fun v57 =>
    (.sum v57 (fun v58 =>
     .leaf false
    ) (fun v59 =>
     .leaf true
    ))))))
   ))
  ))

noncomputable def spec_l02Order_g (v48 : List Int) : Option (Bool) := (spec_l02Order_T v48).run
def spec_l02Order_enc (v48 : List Int) (y : Bool) : Rs := (.bool y, [])
theorem spec_l02Order_den (v48 : List Int) : (den TT (tabD spec_l02Order_tab) (tabM spec_l02Order_tab) (spec_l02Order_LO v48) (codeOf Try.f106) ([.bslc (BR.root 0) (.i64 v48)] ++ List.replicate (Try.f106.ntmps - ([.bslc (BR.root 0) (.i64 v48)] : List DV).length) .undef) []).bind (retD TT Try.f106.results.toList 0) = (spec_l02Order_T v48).bind fun y => .leaf (spec_l02Order_enc v48 y) := by kernel_rfl
theorem spec_l02Order_fn (v48 : List Int) (F : Fr) (hm : F.ids.length = 0) (h0 : St F [] F.H0) (hA : DVs.Ok F [] [.bslc (BR.root 0) (.i64 v48)]) {y : Bool} (hy : spec_l02Order_g v48 = some y) : ∃ H', FnOk Try.prog 106 (DVs.av F [.bslc (BR.root 0) (.i64 v48)]) F.H0 ((spec_l02Order_enc v48 y).1.av F) H' ∧ St F (spec_l02Order_enc v48 y).2 H' ∧ (spec_l02Order_enc v48 y).1.Ok F (spec_l02Order_enc v48 y).2 :=
  fn_fin tok spec_l02Order_hO mixed Try.func106 Try.call106 (by kernel_rfl) (LoopsOk_eq (l := [(0, bodyOf Try.f106 0)]) (by kernel_rfl) ⟨spec_l02Order_l0_ok v48, trivial⟩) (spec_l02Order_den v48) hy hm h0 hA
noncomputable def spec_l02Order_F : DFn := fun args L =>
  match args with
  | [a1] =>
    optT (rowI64 L a1) fun v48 =>
    .call (spec_l02Order_g v48) fun y => .leaf (.bool y, L)
  | _ => .fail
theorem spec_l02Order_Fok : COk Try.prog 106 spec_l02Order_F true := by
  intro F L H args r L' hs ha hr
  unfold spec_l02Order_F at hr
  split at hr
  · rename_i a1
    obtain ⟨v48, hv48, hr⟩ := optT_run hr
    simp only [Tree.run] at hr
    obtain ⟨y, hy, hr⟩ := Option.bind_eq_some_iff.1 hr
    simp only [Tree.run, Option.some.injEq, Prod.mk.injEq] at hr
    obtain ⟨rfl, rfl⟩ := hr
    exact call_ok0 hs (fun k => (([a1.av F] : List AV)[k]?).getD .top) [a1] [.bslc (BR.root 0) (.i64 v48)] (fun F' h0 hi hρ => ⟨by simp [DVs.av, DV.av, BR.av, hρ], spec_l02Order_fn v48 F' (by rw [hi]; rfl) (st_nil hi) ⟨bslc_ok hi (by rw [h0, hρ]; exact rowI64_ok hs (DVs.okAt ha 0 rfl) hv48), trivial⟩ hy⟩) rfl
  · cases hr
/-! spec.OrderSign -/
noncomputable def spec_OrderSign_l2_T (v47 : List Int) (v94 : Int) (s : Int × Int) : Tree ((Int × Int) ⊕ (Int)) :=
  (.br (decide (s.2 < ((v47.length : Nat) : Int))) (
   (.grd (inb v94 v47.length) <|
   (.grd (inb s.2 v47.length) <|
   (.br (decide (nth v47 (Int.toNat s.2) < nth v47 (Int.toNat v94))) (
    .leaf (.inl (IntKind.i64.wrap (0 - s.1), IntKind.i64.wrap (s.2 + (1 : Int))))
   ) (
    .leaf (.inl (s.1, IntKind.i64.wrap (s.2 + (1 : Int))))
   ))))
  ) (
   .leaf (.inr s.1)
  ))

noncomputable def spec_OrderSign_l2_g (v47 : List Int) (v94 : Int) (s0 : Int × Int) : Option (Int) := whileM (fun s => (spec_OrderSign_l2_T v47 v94 s).run) s0
def spec_OrderSign_l2_E (v47 : List Int) (v94 : Int) (s : Int × Int) : Sd := ([.bslc (BR.root 0) (.i64 v47), .top, .top, .top, .int .i64 s.1, .int .i64 v94, .int .i64 s.2, .top, .top, .top, .top, .top, .top, .top, .top, .top, .top, .top, .top, .top, .top, .top, .top, .top, .top, .top, .top, .top, .top, .top, .top, .top, .top, .top, .top, .top], [])
def spec_OrderSign_l2_X (v47 : List Int) (v94 : Int) (x : Int) : Out := (.normal, [.bslc (BR.root 0) (.i64 v47), .top, .top, .top, .int .i64 x, .int .i64 v94, .top, .top, .top, .top, .top, .top, .top, .top, .top, .top, .top, .top, .top, .top, .top, .top, .top, .top, .top, .top, .top, .top, .top, .top, .top, .top, .top, .top, .top, .top], [])
def spec_OrderSign_l2_kill : List Nat := [0, 1, 1, 1, 0, 0, 0, 1, 1, 1, 1, 1, 1, 1, 1, 1, 1, 1, 1, 1, 1, 1, 1, 1, 1, 1, 1, 1, 1, 1, 1, 1, 1, 1, 1, 1]
def spec_OrderSign_l2_nx : Exit → List Nat
  | .exit 0 => [1, 1, 1, 1, 0, 1, 1, 1, 1, 1, 1, 1, 1, 1, 1, 1, 1, 1, 1, 1, 1, 1, 1, 1, 1, 1, 1, 1, 1, 1, 1, 1, 1, 1, 1, 1]
  | .exit 1 => [0, 1, 1, 1, 0, 0, 1, 1, 1, 1, 1, 1, 1, 1, 1, 1, 1, 1, 1, 1, 1, 1, 1, 1, 1, 1, 1, 1, 1, 1, 1, 1, 1, 1, 1, 1]
  | .exit 2 => [0, 1, 1, 1, 0, 0, 1, 1, 1, 1, 1, 1, 1, 1, 1, 1, 1, 1, 1, 1, 1, 1, 1, 1, 1, 1, 1, 1, 1, 1, 1, 1, 1, 1, 1, 1]
  | .ret => [1, 1, 0, 0, 1, 1, 1, 1, 1, 1, 1, 1, 1, 1, 1, 1, 1, 1, 1, 1, 1, 1, 1, 1, 1, 1, 1, 1, 1, 1, 1, 1, 1, 1, 1, 1]
  | _ => []
noncomputable def spec_OrderSign_l0_T (v47 : List Int) (s : Int × Int) : Tree ((Int × Int) ⊕ (Int)) :=
  (.br (decide (s.2 < ((v47.length : Nat) : Int))) (
   (.need (some (spec_OrderSign_l2_E v47 s.2 (s.1, IntKind.i64.wrap (s.2 + (1 : Int)))) = some (spec_OrderSign_l2_E v47 s.2 (s.1, IntKind.i64.wrap (s.2 + (1 : Int))))) <|
   (.call (spec_OrderSign_l2_g v47 s.2 (s.1, IntKind.i64.wrap (s.2 + (1 : Int)))) fun v96 =>
   .leaf (.inl (v96, IntKind.i64.wrap (s.2 + (1 : Int))))))
  ) (
   .leaf (.inr s.1)
  ))

noncomputable def spec_OrderSign_l0_g (v47 : List Int) (s0 : Int × Int) : Option (Int) := whileM (fun s => (spec_OrderSign_l0_T v47 s).run) s0
def spec_OrderSign_l0_E (v47 : List Int) (s : Int × Int) : Sd := ([.bslc (BR.root 0) (.i64 v47), .top, .top, .top, .int .i64 s.1, .int .i64 s.2, .top, .top, .top, .top, .top, .top, .top, .top, .top, .top, .top, .top, .top, .top, .top, .top, .top, .top, .top, .top, .top, .top, .top, .top, .top, .top, .top, .top, .top, .top], [])
def spec_OrderSign_l0_X (v47 : List Int) (x : Int) : Out := (.normal, [.top, .top, .top, .top, .int .i64 x, .top, .top, .top, .top, .top, .top, .top, .top, .top, .top, .top, .top, .top, .top, .top, .top, .top, .top, .top, .top, .top, .top, .top, .top, .top, .top, .top, .top, .top, .top, .top], [])
def spec_OrderSign_l0_kill : List Nat := [0, 1, 1, 1, 0, 0, 1, 1, 1, 1, 1, 1, 1, 1, 1, 1, 1, 1, 1, 1, 1, 1, 1, 1, 1, 1, 1, 1, 1, 1, 1, 1, 1, 1, 1, 1]
def spec_OrderSign_l0_nx : Exit → List Nat
  | .exit 0 => [1, 1, 1, 1, 0, 1, 1, 1, 1, 1, 1, 1, 1, 1, 1, 1, 1, 1, 1, 1, 1, 1, 1, 1, 1, 1, 1, 1, 1, 1, 1, 1, 1, 1, 1, 1]
  | .ret => [1, 1, 0, 0, 1, 1, 1, 1, 1, 1, 1, 1, 1, 1, 1, 1, 1, 1, 1, 1, 1, 1, 1, 1, 1, 1, 1, 1, 1, 1, 1, 1, 1, 1, 1, 1]
  | _ => []
noncomputable def spec_OrderSign_LO (v47 : List Int) : LOr := fun id e L =>
  match id with
  | 2 => .need (normA 0 spec_OrderSign_l2_kill e L = some (spec_OrderSign_l2_E v47 (gI (vAt e 5)) ((gI (vAt e 4)), (gI (vAt e 6))))) (.call (spec_OrderSign_l2_g v47 (gI (vAt e 5)) ((gI (vAt e 4)), (gI (vAt e 6)))) fun x => .leaf (spec_OrderSign_l2_X v47 (gI (vAt e 5)) x))
  | 0 => .need (normA 0 spec_OrderSign_l0_kill e L = some (spec_OrderSign_l0_E v47 ((gI (vAt e 4)), (gI (vAt e 5))))) (.call (spec_OrderSign_l0_g v47 ((gI (vAt e 4)), (gI (vAt e 5)))) fun x => .leaf (spec_OrderSign_l0_X v47 x))
  | _ => .fail
noncomputable def spec_OrderSign_tab : List (FuncId × DFn × Bool) := [(106, spec_l02Order_F, true)]
theorem spec_OrderSign_hO : OrcOk Try.prog (tabD spec_OrderSign_tab) (tabM spec_OrderSign_tab) := tabD_cons spec_l02Order_Fok (tabD_nil _)
theorem spec_OrderSign_l2_be (v47 : List Int) (v94 : Int) (s : Int × Int) : bodyT TT (tabD spec_OrderSign_tab) (tabM spec_OrderSign_tab) (spec_OrderSign_LO v47) 0 spec_OrderSign_l2_kill spec_OrderSign_l2_nx (bodyOf Try.f114 2) 2 (spec_OrderSign_l2_E v47 v94 s) = (spec_OrderSign_l2_T v47 v94 s).bind fun y => .leaf (outS (spec_OrderSign_l2_E v47 v94) (spec_OrderSign_l2_X v47 v94) y) := by kernel_rfl
theorem spec_OrderSign_l2_ok (v47 : List Int) : LSound Try.prog 0 (spec_OrderSign_LO v47) 2 (bodyOf Try.f114 2) := by
  intro e L out h
  exact lo_ok (E := spec_OrderSign_l2_E v47 (gI (vAt e 5))) (gT := spec_OrderSign_l2_T v47 (gI (vAt e 5))) (X := spec_OrderSign_l2_X v47 (gI (vAt e 5))) (s0 := ((gI (vAt e 4)), (gI (vAt e 6)))) tok spec_OrderSign_hO mixed (LoopsOk_eq (l := []) (by kernel_rfl) trivial) (spec_OrderSign_l2_be v47 (gI (vAt e 5))) rfl (by intro x; rfl) h
theorem spec_OrderSign_l0_be (v47 : List Int) (s : Int × Int) : bodyT TT (tabD spec_OrderSign_tab) (tabM spec_OrderSign_tab) (spec_OrderSign_LO v47) 0 spec_OrderSign_l0_kill spec_OrderSign_l0_nx (bodyOf Try.f114 0) 0 (spec_OrderSign_l0_E v47 s) = (spec_OrderSign_l0_T v47 s).bind fun y => .leaf (outS (spec_OrderSign_l0_E v47) (spec_OrderSign_l0_X v47) y) := by kernel_rfl
theorem spec_OrderSign_l0_ok (v47 : List Int) : LSound Try.prog 0 (spec_OrderSign_LO v47) 0 (bodyOf Try.f114 0) := by
  intro e L out h
  exact lo_ok (E := spec_OrderSign_l0_E v47) (gT := spec_OrderSign_l0_T v47) (X := spec_OrderSign_l0_X v47) (s0 := ((gI (vAt e 4)), (gI (vAt e 5)))) tok spec_OrderSign_hO mixed (LoopsOk_eq (l := [(2, bodyOf Try.f114 2)]) (by kernel_rfl) ⟨spec_OrderSign_l2_ok v47, trivial⟩) (spec_OrderSign_l0_be v47) rfl (by intro x; rfl) h
noncomputable def spec_OrderSign_T (v47 : List Int) : Tree ((Unit) ⊕ (Int)) :=
  (.call (spec_l02Order_g v47) fun v60 =>
  (.br (!v60) (
   .leaf (.inl ())
  ) (
   (.need (some (spec_OrderSign_l0_E v47 ((1 : Int), (0 : Int))) = some (spec_OrderSign_l0_E v47 ((1 : Int), (0 : Int)))) <|
   (.call (spec_OrderSign_l0_g v47 ((1 : Int), (0 : Int))) fun v97 =>
   .leaf (.inr v97)))
  )))

noncomputable def spec_OrderSign_g (v47 : List Int) : Option ((Unit) ⊕ (Int)) := (spec_OrderSign_T v47).run
def spec_OrderSign_enc (v47 : List Int) (y : (Unit) ⊕ (Int)) : Rs := (match y with | .inl y => (.tup [.int .i64 (0 : Int), .lit false], []) | .inr y => (.tup [.int .i64 y, .lit true], []))
theorem spec_OrderSign_den (v47 : List Int) : (den TT (tabD spec_OrderSign_tab) (tabM spec_OrderSign_tab) (spec_OrderSign_LO v47) (codeOf Try.f114) ([.bslc (BR.root 0) (.i64 v47)] ++ List.replicate (Try.f114.ntmps - ([.bslc (BR.root 0) (.i64 v47)] : List DV).length) .undef) []).bind (retD TT Try.f114.results.toList 0) = (spec_OrderSign_T v47).bind fun y => .leaf (spec_OrderSign_enc v47 y) := by kernel_rfl
theorem spec_OrderSign_fn (v47 : List Int) (F : Fr) (hm : F.ids.length = 0) (h0 : St F [] F.H0) (hA : DVs.Ok F [] [.bslc (BR.root 0) (.i64 v47)]) {y : (Unit) ⊕ (Int)} (hy : spec_OrderSign_g v47 = some y) : ∃ H', FnOk Try.prog 114 (DVs.av F [.bslc (BR.root 0) (.i64 v47)]) F.H0 ((spec_OrderSign_enc v47 y).1.av F) H' ∧ St F (spec_OrderSign_enc v47 y).2 H' ∧ (spec_OrderSign_enc v47 y).1.Ok F (spec_OrderSign_enc v47 y).2 :=
  fn_fin tok spec_OrderSign_hO mixed Try.func114 Try.call114 (by kernel_rfl) (LoopsOk_eq (l := [(0, bodyOf Try.f114 0)]) (by kernel_rfl) ⟨spec_OrderSign_l0_ok v47, trivial⟩) (spec_OrderSign_den v47) hy hm h0 hA
noncomputable def spec_OrderSign_F : DFn := fun args L =>
  match args with
  | [a1] =>
    optT (rowI64 L a1) fun v47 =>
    .call (spec_OrderSign_g v47) fun y => .sum y (fun y0 => .leaf (.tup [.int .i64 (0 : Int), .lit false], L)) (fun z0 => .leaf (.tup [.int .i64 z0, .lit true], L))
  | _ => .fail
theorem spec_OrderSign_Fok : COk Try.prog 114 spec_OrderSign_F true := by
  intro F L H args r L' hs ha hr
  unfold spec_OrderSign_F at hr
  split at hr
  · rename_i a1
    obtain ⟨v47, hv47, hr⟩ := optT_run hr
    simp only [Tree.run] at hr
    obtain ⟨y, hy, hr⟩ := Option.bind_eq_some_iff.1 hr
    cases y with
    | inl y =>
      simp only [Tree.run, Option.some.injEq, Prod.mk.injEq] at hr
      obtain ⟨rfl, rfl⟩ := hr
      exact call_ok0 hs (fun k => (([a1.av F] : List AV)[k]?).getD .top) [a1] [.bslc (BR.root 0) (.i64 v47)] (fun F' h0 hi hρ => ⟨by simp [DVs.av, DV.av, BR.av, hρ], spec_OrderSign_fn v47 F' (by rw [hi]; rfl) (st_nil hi) ⟨bslc_ok hi (by rw [h0, hρ]; exact rowI64_ok hs (DVs.okAt ha 0 rfl) hv47), trivial⟩ hy⟩) rfl
    | inr y =>
      simp only [Tree.run, Option.some.injEq, Prod.mk.injEq] at hr
      obtain ⟨rfl, rfl⟩ := hr
      exact call_ok0 hs (fun k => (([a1.av F] : List AV)[k]?).getD .top) [a1] [.bslc (BR.root 0) (.i64 v47)] (fun F' h0 hi hρ => ⟨by simp [DVs.av, DV.av, BR.av, hρ], spec_OrderSign_fn v47 F' (by rw [hi]; rfl) (st_nil hi) ⟨bslc_ok hi (by rw [h0, hρ]; exact rowI64_ok hs (DVs.okAt ha 0 rfl) hv47), trivial⟩ hy⟩) rfl
  · cases hr
/-! spec.l02Sides -/
noncomputable def spec_l02Sides_LO (v111 : Int) (v112 : Int) : LOr := fun id e L =>
  match id with
  | _ => .fail
noncomputable def spec_l02Sides_tab : List (FuncId × DFn × Bool) := [(71, spec_l00In_F, true)]
theorem spec_l02Sides_hO : OrcOk Try.prog (tabD spec_l02Sides_tab) (tabM spec_l02Sides_tab) := tabD_cons spec_l00In_Fok (tabD_nil _)
noncomputable def spec_l02Sides_T (v111 : Int) (v112 : Int) : Tree (Bool) :=
  (.br (spec_l00In_v v111 (1 : Int) (12 : Int)) (
   .leaf (spec_l00In_v v112 (1 : Int) (12 : Int))
  ) (
   .leaf false
  ))

noncomputable def spec_l02Sides_g (v111 : Int) (v112 : Int) : Option (Bool) := (spec_l02Sides_T v111 v112).run
def spec_l02Sides_enc (v111 : Int) (v112 : Int) (y : Bool) : Rs := (.bool y, [])
theorem spec_l02Sides_den (v111 : Int) (v112 : Int) : (den TT (tabD spec_l02Sides_tab) (tabM spec_l02Sides_tab) (spec_l02Sides_LO v111 v112) (codeOf Try.f147) ([.int .i64 v111, .int .i64 v112] ++ List.replicate (Try.f147.ntmps - ([.int .i64 v111, .int .i64 v112] : List DV).length) .undef) []).bind (retD TT Try.f147.results.toList 0) = (spec_l02Sides_T v111 v112).bind fun y => .leaf (spec_l02Sides_enc v111 v112 y) := by kernel_rfl
theorem spec_l02Sides_fn (v111 : Int) (v112 : Int) (F : Fr) (hm : F.ids.length = 0) (h0 : St F [] F.H0) (hA : DVs.Ok F [] [.int .i64 v111, .int .i64 v112]) {y : Bool} (hy : spec_l02Sides_g v111 v112 = some y) : ∃ H', FnOk Try.prog 147 (DVs.av F [.int .i64 v111, .int .i64 v112]) F.H0 ((spec_l02Sides_enc v111 v112 y).1.av F) H' ∧ St F (spec_l02Sides_enc v111 v112 y).2 H' ∧ (spec_l02Sides_enc v111 v112 y).1.Ok F (spec_l02Sides_enc v111 v112 y).2 :=
  fn_fin tok spec_l02Sides_hO mixed Try.func147 Try.call147 (by kernel_rfl) (LoopsOk_eq (l := []) (by kernel_rfl) trivial) (spec_l02Sides_den v111 v112) hy hm h0 hA
def spec_l02Sides_v (v111 : Int) (v112 : Int) : Bool :=
  if (spec_l00In_v v111 (1 : Int) (12 : Int)) = true then (
   (spec_l00In_v v112 (1 : Int) (12 : Int))
  ) else (
   false
  )
theorem spec_l02Sides_tot (v111 : Int) (v112 : Int) : spec_l02Sides_g v111 v112 = some (spec_l02Sides_v v111 v112) := by
  unfold spec_l02Sides_g spec_l02Sides_T spec_l02Sides_v
  simp only [Tree.run]
  repeat' (first | rfl | split)
noncomputable def spec_l02Sides_F : DFn := fun args L =>
  match args with
  | [.int .i64 v111, .int .i64 v112] =>
    .leaf (.bool (spec_l02Sides_v v111 v112), L)
  | _ => .fail
theorem spec_l02Sides_Fok : COk Try.prog 147 spec_l02Sides_F true := by
  intro F L H args r L' hs ha hr
  unfold spec_l02Sides_F at hr
  split at hr
  · rename_i v111 v112
    have hy := spec_l02Sides_tot v111 v112
    generalize spec_l02Sides_v v111 v112 = y at hy hr
    simp only [Tree.run, Option.some.injEq, Prod.mk.injEq] at hr
    obtain ⟨rfl, rfl⟩ := hr
    exact call_ok0 hs (fun k => (([] : List AV)[k]?).getD .top) [.int .i64 v111, .int .i64 v112] [.int .i64 v111, .int .i64 v112] (fun F' h0 hi hρ => ⟨by simp [DVs.av, DV.av, BR.av, hρ], spec_l02Sides_fn v111 v112 F' (by rw [hi]; rfl) (st_nil hi) ⟨trivial, trivial, trivial⟩ hy⟩) rfl
  · cases hr
/-! spec.l01Finite -/
noncomputable def spec_l01Finite_LO (v115 : Nat) : LOr := fun id e L =>
  match id with
  | _ => .fail
noncomputable def spec_l01Finite_tab : List (FuncId × DFn × Bool) := []
theorem spec_l01Finite_hO : OrcOk Try.prog (tabD spec_l01Finite_tab) (tabM spec_l01Finite_tab) := tabD_nil _
noncomputable def spec_l01Finite_T (v115 : Nat) : Tree (Bool) :=
  .leaf (feq .f32 (fsub .f32 v115 v115) (0 : Nat))

noncomputable def spec_l01Finite_g (v115 : Nat) : Option (Bool) := (spec_l01Finite_T v115).run
def spec_l01Finite_enc (v115 : Nat) (y : Bool) : Rs := (.bool y, [])
theorem spec_l01Finite_den (v115 : Nat) : (den TT (tabD spec_l01Finite_tab) (tabM spec_l01Finite_tab) (spec_l01Finite_LO v115) (codeOf Try.f100) ([.flt .f32 v115] ++ List.replicate (Try.f100.ntmps - ([.flt .f32 v115] : List DV).length) .undef) []).bind (retD TT Try.f100.results.toList 0) = (spec_l01Finite_T v115).bind fun y => .leaf (spec_l01Finite_enc v115 y) := by kernel_rfl
theorem spec_l01Finite_fn (v115 : Nat) (F : Fr) (hm : F.ids.length = 0) (h0 : St F [] F.H0) (hA : DVs.Ok F [] [.flt .f32 v115]) {y : Bool} (hy : spec_l01Finite_g v115 = some y) : ∃ H', FnOk Try.prog 100 (DVs.av F [.flt .f32 v115]) F.H0 ((spec_l01Finite_enc v115 y).1.av F) H' ∧ St F (spec_l01Finite_enc v115 y).2 H' ∧ (spec_l01Finite_enc v115 y).1.Ok F (spec_l01Finite_enc v115 y).2 :=
  fn_fin tok spec_l01Finite_hO mixed Try.func100 Try.call100 (by kernel_rfl) (LoopsOk_eq (l := []) (by kernel_rfl) trivial) (spec_l01Finite_den v115) hy hm h0 hA
def spec_l01Finite_v (v115 : Nat) : Bool :=
  feq .f32 (fsub .f32 v115 v115) (0 : Nat)
theorem spec_l01Finite_tot (v115 : Nat) : spec_l01Finite_g v115 = some (spec_l01Finite_v v115) := by
  unfold spec_l01Finite_g spec_l01Finite_T spec_l01Finite_v
  simp only [Tree.run]
  repeat' (first | rfl | split)
noncomputable def spec_l01Finite_F : DFn := fun args L =>
  match args with
  | [.flt .f32 v115] =>
    .leaf (.bool (spec_l01Finite_v v115), L)
  | _ => .fail
theorem spec_l01Finite_Fok : COk Try.prog 100 spec_l01Finite_F true := by
  intro F L H args r L' hs ha hr
  unfold spec_l01Finite_F at hr
  split at hr
  · rename_i v115
    have hy := spec_l01Finite_tot v115
    generalize spec_l01Finite_v v115 = y at hy hr
    simp only [Tree.run, Option.some.injEq, Prod.mk.injEq] at hr
    obtain ⟨rfl, rfl⟩ := hr
    exact call_ok0 hs (fun k => (([] : List AV)[k]?).getD .top) [.flt .f32 v115] [.flt .f32 v115] (fun F' h0 hi hρ => ⟨by simp [DVs.av, DV.av, BR.av, hρ], spec_l01Finite_fn v115 F' (by rw [hi]; rfl) (st_nil hi) ⟨trivial, trivial⟩ hy⟩) rfl
  · cases hr
/-! spec.l02Finite -/
noncomputable def spec_l02Finite_l0_T (v113 : List Nat) (s : Int) : Tree ((Int) ⊕ ((Unit) ⊕ (Unit))) :=
  (.br (decide (s < ((v113.length : Nat) : Int))) (
   (.grd (inb s v113.length) <|
   (.br (!(spec_l01Finite_v (nth v113 (Int.toNat s)))) (
    .leaf (.inr (.inl ()))
   ) (
    .leaf (.inl (IntKind.i64.wrap (s + (1 : Int))))
   )))
  ) (
   .leaf (.inr (.inr ()))
  ))

noncomputable def spec_l02Finite_l0_g (v113 : List Nat) (s0 : Int) : Option ((Unit) ⊕ (Unit)) := whileM (fun s => (spec_l02Finite_l0_T v113 s).run) s0
def spec_l02Finite_l0_E (v113 : List Nat) (s : Int) : Sd := ([.bslc (BR.root 0) (.f32 v113), .top, .top, .int .i64 s, .top, .top, .top, .top, .top, .top, .top, .top, .top, .top, .top, .top], [])
def spec_l02Finite_l0_X (v113 : List Nat) (x : (Unit) ⊕ (Unit)) : Out := (match x with | .inl x => (.ret, [.top, .top, .lit false, .top, .top, .top, .top, .top, .top, .top, .top, .top, .top, .top, .top, .top], []) | .inr x => (.normal, [.top, .top, .top, .top, .top, .top, .top, .top, .top, .top, .top, .top, .top, .top, .top, .top], []))
def spec_l02Finite_l0_kill : List Nat := [0, 1, 1, 0, 1, 1, 1, 1, 1, 1, 1, 1, 1, 1, 1, 1]
def spec_l02Finite_l0_nx : Exit → List Nat
  | .exit 0 => [1, 1, 1, 1, 1, 1, 1, 1, 1, 1, 1, 1, 1, 1, 1, 1]
  | .ret => [1, 1, 0, 1, 1, 1, 1, 1, 1, 1, 1, 1, 1, 1, 1, 1]
  | _ => []
noncomputable def spec_l02Finite_LO (v113 : List Nat) : LOr := fun id e L =>
  match id with
  | 0 => .need (normA 0 spec_l02Finite_l0_kill e L = some (spec_l02Finite_l0_E v113 (gI (vAt e 3)))) (.call (spec_l02Finite_l0_g v113 (gI (vAt e 3))) fun x => .sum x (fun b0 => .leaf (spec_l02Finite_l0_X v113 (.inl b0))) (fun c0 => .leaf (spec_l02Finite_l0_X v113 (.inr c0))))
  | _ => .fail
noncomputable def spec_l02Finite_tab : List (FuncId × DFn × Bool) := [(100, spec_l01Finite_F, true)]
theorem spec_l02Finite_hO : OrcOk Try.prog (tabD spec_l02Finite_tab) (tabM spec_l02Finite_tab) := tabD_cons spec_l01Finite_Fok (tabD_nil _)
theorem spec_l02Finite_l0_be (v113 : List Nat) (s : Int) : bodyT TT (tabD spec_l02Finite_tab) (tabM spec_l02Finite_tab) (spec_l02Finite_LO v113) 0 spec_l02Finite_l0_kill spec_l02Finite_l0_nx (bodyOf Try.f131 0) 0 (spec_l02Finite_l0_E v113 s) = (spec_l02Finite_l0_T v113 s).bind fun y => .leaf (outS (spec_l02Finite_l0_E v113) (spec_l02Finite_l0_X v113) y) := by kernel_rfl
theorem spec_l02Finite_l0_ok (v113 : List Nat) : LSound Try.prog 0 (spec_l02Finite_LO v113) 0 (bodyOf Try.f131 0) := by
  intro e L out h
  exact lo_ok (E := spec_l02Finite_l0_E v113) (gT := spec_l02Finite_l0_T v113) (X := spec_l02Finite_l0_X v113) (s0 := (gI (vAt e 3))) tok spec_l02Finite_hO mixed (LoopsOk_eq (l := []) (by kernel_rfl) trivial) (spec_l02Finite_l0_be v113) rfl (by intro x; (cases x with | inl b => rfl | inr x => exact rfl)) h
noncomputable def spec_l02Finite_T (v113 : List Nat) : Tree (Bool) :=
  (.need (some (spec_l02Finite_l0_E v113 (0 : Int)) = some (spec_l02Finite_l0_E v113 (0 : Int))) <|
  (.call (spec_l02Finite_l0_g v113 (0 : Int)) fun v118 =>
  (.sum v118 (fun v119 =>
   .leaf false
  ) (fun v120 =>
   .leaf true
  ))))

noncomputable def spec_l02Finite_g (v113 : List Nat) : Option (Bool) := (spec_l02Finite_T v113).run
def spec_l02Finite_enc (v113 : List Nat) (y : Bool) : Rs := (.bool y, [])
theorem spec_l02Finite_den (v113 : List Nat) : (den TT (tabD spec_l02Finite_tab) (tabM spec_l02Finite_tab) (spec_l02Finite_LO v113) (codeOf Try.f131) ([.bslc (BR.root 0) (.f32 v113)] ++ List.replicate (Try.f131.ntmps - ([.bslc (BR.root 0) (.f32 v113)] : List DV).length) .undef) []).bind (retD TT Try.f131.results.toList 0) = (spec_l02Finite_T v113).bind fun y => .leaf (spec_l02Finite_enc v113 y) := by kernel_rfl
theorem spec_l02Finite_fn (v113 : List Nat) (F : Fr) (hm : F.ids.length = 0) (h0 : St F [] F.H0) (hA : DVs.Ok F [] [.bslc (BR.root 0) (.f32 v113)]) {y : Bool} (hy : spec_l02Finite_g v113 = some y) : ∃ H', FnOk Try.prog 131 (DVs.av F [.bslc (BR.root 0) (.f32 v113)]) F.H0 ((spec_l02Finite_enc v113 y).1.av F) H' ∧ St F (spec_l02Finite_enc v113 y).2 H' ∧ (spec_l02Finite_enc v113 y).1.Ok F (spec_l02Finite_enc v113 y).2 :=
  fn_fin tok spec_l02Finite_hO mixed Try.func131 Try.call131 (by kernel_rfl) (LoopsOk_eq (l := [(0, bodyOf Try.f131 0)]) (by kernel_rfl) ⟨spec_l02Finite_l0_ok v113, trivial⟩) (spec_l02Finite_den v113) hy hm h0 hA
noncomputable def spec_l02Finite_F : DFn := fun args L =>
  match args with
  | [a1] =>
    optT (rowF32 L a1) fun v113 =>
    .call (spec_l02Finite_g v113) fun y => .leaf (.bool y, L)
  | _ => .fail
theorem spec_l02Finite_Fok : COk Try.prog 131 spec_l02Finite_F true := by
  intro F L H args r L' hs ha hr
  unfold spec_l02Finite_F at hr
  split at hr
  · rename_i a1
    obtain ⟨v113, hv113, hr⟩ := optT_run hr
    simp only [Tree.run] at hr
    obtain ⟨y, hy, hr⟩ := Option.bind_eq_some_iff.1 hr
    simp only [Tree.run, Option.some.injEq, Prod.mk.injEq] at hr
    obtain ⟨rfl, rfl⟩ := hr
    exact call_ok0 hs (fun k => (([a1.av F] : List AV)[k]?).getD .top) [a1] [.bslc (BR.root 0) (.f32 v113)] (fun F' h0 hi hρ => ⟨by simp [DVs.av, DV.av, BR.av, hρ], spec_l02Finite_fn v113 F' (by rw [hi]; rfl) (st_nil hi) ⟨bslc_ok hi (by rw [h0, hρ]; exact rowF32_ok hs (DVs.okAt ha 0 rfl) hv113), trivial⟩ hy⟩) rfl
  · cases hr
/-! spec.l02Is -/
noncomputable def spec_l02Is_LO (v108 : Int) (v109 : Int) (v110 : List Nat) : LOr := fun id e L =>
  match id with
  | _ => .fail
noncomputable def spec_l02Is_tab : List (FuncId × DFn × Bool) := [(147, spec_l02Sides_F, true), (131, spec_l02Finite_F, true)]
theorem spec_l02Is_hO : OrcOk Try.prog (tabD spec_l02Is_tab) (tabM spec_l02Is_tab) := tabD_cons spec_l02Sides_Fok (tabD_cons spec_l02Finite_Fok (tabD_nil _))
noncomputable def spec_l02Is_T (v108 : Int) (v109 : Int) (v110 : List Nat) : Tree (Bool) :=
  (.br (spec_l02Sides_v v108 v109) (
   (.br (decide (((v110.length : Nat) : Int) = IntKind.i64.wrap (v108 * v109))) (
    (.call (spec_l02Finite_g v110) fun v121 =>
    .leaf v121)
   ) (
    .leaf false
   ))
  ) (
   .leaf false
  ))

noncomputable def spec_l02Is_g (v108 : Int) (v109 : Int) (v110 : List Nat) : Option (Bool) := (spec_l02Is_T v108 v109 v110).run
def spec_l02Is_enc (v108 : Int) (v109 : Int) (v110 : List Nat) (y : Bool) : Rs := (.bool y, [])
theorem spec_l02Is_den (v108 : Int) (v109 : Int) (v110 : List Nat) : (den TT (tabD spec_l02Is_tab) (tabM spec_l02Is_tab) (spec_l02Is_LO v108 v109 v110) (codeOf Try.f99) ([.bptr (BR.root 0) [.int .i64 v108, .int .i64 v109, .bslc (BR.root 1) (.f32 v110)]] ++ List.replicate (Try.f99.ntmps - ([.bptr (BR.root 0) [.int .i64 v108, .int .i64 v109, .bslc (BR.root 1) (.f32 v110)]] : List DV).length) .undef) []).bind (retD TT Try.f99.results.toList 0) = (spec_l02Is_T v108 v109 v110).bind fun y => .leaf (spec_l02Is_enc v108 v109 v110 y) := by kernel_rfl
theorem spec_l02Is_fn (v108 : Int) (v109 : Int) (v110 : List Nat) (F : Fr) (hm : F.ids.length = 0) (h0 : St F [] F.H0) (hA : DVs.Ok F [] [.bptr (BR.root 0) [.int .i64 v108, .int .i64 v109, .bslc (BR.root 1) (.f32 v110)]]) {y : Bool} (hy : spec_l02Is_g v108 v109 v110 = some y) : ∃ H', FnOk Try.prog 99 (DVs.av F [.bptr (BR.root 0) [.int .i64 v108, .int .i64 v109, .bslc (BR.root 1) (.f32 v110)]]) F.H0 ((spec_l02Is_enc v108 v109 v110 y).1.av F) H' ∧ St F (spec_l02Is_enc v108 v109 v110 y).2 H' ∧ (spec_l02Is_enc v108 v109 v110 y).1.Ok F (spec_l02Is_enc v108 v109 v110 y).2 :=
  fn_fin tok spec_l02Is_hO mixed Try.func99 Try.call99 (by kernel_rfl) (LoopsOk_eq (l := []) (by kernel_rfl) trivial) (spec_l02Is_den v108 v109 v110) hy hm h0 hA
noncomputable def spec_l02Is_F : DFn := fun args L =>
  match args with
  | [a1] =>
    optT (cellsOf L 3 a1) fun cs0 =>
    (match cs0 with
    | [.int .i64 v108, .int .i64 v109, a2] =>
    optT (rowF32 L a2) fun v110 =>
    .call (spec_l02Is_g v108 v109 v110) fun y => .leaf (.bool y, L)
    | _ => .fail)
  | _ => .fail
theorem spec_l02Is_Fok : COk Try.prog 99 spec_l02Is_F true := by
  intro F L H args r L' hs ha hr
  unfold spec_l02Is_F at hr
  split at hr
  · rename_i a1
    obtain ⟨cs0, hcp0, hr⟩ := optT_run hr
    split at hr
    · rename_i v108 v109 a2
      obtain ⟨v110, hv110, hr⟩ := optT_run hr
      simp only [Tree.run] at hr
      obtain ⟨y, hy, hr⟩ := Option.bind_eq_some_iff.1 hr
      simp only [Tree.run, Option.some.injEq, Prod.mk.injEq] at hr
      obtain ⟨rfl, rfl⟩ := hr
      exact call_ok0 hs (fun k => (([a1.av F, a2.av F] : List AV)[k]?).getD .top) [a1] [.bptr (BR.root 0) [.int .i64 v108, .int .i64 v109, .bslc (BR.root 1) (.f32 v110)]] (fun F' h0 hi hρ => ⟨by simp [DVs.av, DV.av, BR.av, hρ], spec_l02Is_fn v108 v109 v110 F' (by rw [hi]; rfl) (st_nil hi) ⟨bptr_ok hi (by rw [h0]; simpa [DVs.av, DV.av, BR.av, hρ] using (cellsOf_ok hs (DVs.okAt ha 0 rfl) hcp0).1) ⟨trivial, trivial, bslc_ok hi (by rw [h0, hρ]; exact rowF32_ok hs (DVs.okAt (cellsOf_ok hs (DVs.okAt ha 0 rfl) hcp0).2 2 rfl) hv110), trivial⟩, trivial⟩ hy⟩) rfl
    · cases hr
  · cases hr
/-! spec.l02Square -/
noncomputable def spec_l02Square_LO (v105 : Int) (v106 : Int) (v107 : List Nat) : LOr := fun id e L =>
  match id with
  | _ => .fail
noncomputable def spec_l02Square_tab : List (FuncId × DFn × Bool) := [(99, spec_l02Is_F, true)]
theorem spec_l02Square_hO : OrcOk Try.prog (tabD spec_l02Square_tab) (tabM spec_l02Square_tab) := tabD_cons spec_l02Is_Fok (tabD_nil _)
noncomputable def spec_l02Square_T (v105 : Int) (v106 : Int) (v107 : List Nat) : Tree (Bool) :=
  (.call (spec_l02Is_g v105 v106 v107) fun v122 =>
  (.br v122 (
   .leaf (decide (v105 = v106))
  ) (
   .leaf false
  )))

noncomputable def spec_l02Square_g (v105 : Int) (v106 : Int) (v107 : List Nat) : Option (Bool) := (spec_l02Square_T v105 v106 v107).run
def spec_l02Square_enc (v105 : Int) (v106 : Int) (v107 : List Nat) (y : Bool) : Rs := (.bool y, [])
theorem spec_l02Square_den (v105 : Int) (v106 : Int) (v107 : List Nat) : (den TT (tabD spec_l02Square_tab) (tabM spec_l02Square_tab) (spec_l02Square_LO v105 v106 v107) (codeOf Try.f82) ([.bptr (BR.root 0) [.int .i64 v105, .int .i64 v106, .bslc (BR.root 1) (.f32 v107)]] ++ List.replicate (Try.f82.ntmps - ([.bptr (BR.root 0) [.int .i64 v105, .int .i64 v106, .bslc (BR.root 1) (.f32 v107)]] : List DV).length) .undef) []).bind (retD TT Try.f82.results.toList 0) = (spec_l02Square_T v105 v106 v107).bind fun y => .leaf (spec_l02Square_enc v105 v106 v107 y) := by kernel_rfl
theorem spec_l02Square_fn (v105 : Int) (v106 : Int) (v107 : List Nat) (F : Fr) (hm : F.ids.length = 0) (h0 : St F [] F.H0) (hA : DVs.Ok F [] [.bptr (BR.root 0) [.int .i64 v105, .int .i64 v106, .bslc (BR.root 1) (.f32 v107)]]) {y : Bool} (hy : spec_l02Square_g v105 v106 v107 = some y) : ∃ H', FnOk Try.prog 82 (DVs.av F [.bptr (BR.root 0) [.int .i64 v105, .int .i64 v106, .bslc (BR.root 1) (.f32 v107)]]) F.H0 ((spec_l02Square_enc v105 v106 v107 y).1.av F) H' ∧ St F (spec_l02Square_enc v105 v106 v107 y).2 H' ∧ (spec_l02Square_enc v105 v106 v107 y).1.Ok F (spec_l02Square_enc v105 v106 v107 y).2 :=
  fn_fin tok spec_l02Square_hO mixed Try.func82 Try.call82 (by kernel_rfl) (LoopsOk_eq (l := []) (by kernel_rfl) trivial) (spec_l02Square_den v105 v106 v107) hy hm h0 hA
noncomputable def spec_l02Square_F : DFn := fun args L =>
  match args with
  | [a1] =>
    optT (cellsOf L 3 a1) fun cs0 =>
    (match cs0 with
    | [.int .i64 v105, .int .i64 v106, a2] =>
    optT (rowF32 L a2) fun v107 =>
    .call (spec_l02Square_g v105 v106 v107) fun y => .leaf (.bool y, L)
    | _ => .fail)
  | _ => .fail
theorem spec_l02Square_Fok : COk Try.prog 82 spec_l02Square_F true := by
  intro F L H args r L' hs ha hr
  unfold spec_l02Square_F at hr
  split at hr
  · rename_i a1
    obtain ⟨cs0, hcp0, hr⟩ := optT_run hr
    split at hr
    · rename_i v105 v106 a2
      obtain ⟨v107, hv107, hr⟩ := optT_run hr
      simp only [Tree.run] at hr
      obtain ⟨y, hy, hr⟩ := Option.bind_eq_some_iff.1 hr
      simp only [Tree.run, Option.some.injEq, Prod.mk.injEq] at hr
      obtain ⟨rfl, rfl⟩ := hr
      exact call_ok0 hs (fun k => (([a1.av F, a2.av F] : List AV)[k]?).getD .top) [a1] [.bptr (BR.root 0) [.int .i64 v105, .int .i64 v106, .bslc (BR.root 1) (.f32 v107)]] (fun F' h0 hi hρ => ⟨by simp [DVs.av, DV.av, BR.av, hρ], spec_l02Square_fn v105 v106 v107 F' (by rw [hi]; rfl) (st_nil hi) ⟨bptr_ok hi (by rw [h0]; simpa [DVs.av, DV.av, BR.av, hρ] using (cellsOf_ok hs (DVs.okAt ha 0 rfl) hcp0).1) ⟨trivial, trivial, bslc_ok hi (by rw [h0, hρ]; exact rowF32_ok hs (DVs.okAt (cellsOf_ok hs (DVs.okAt ha 0 rfl) hcp0).2 2 rfl) hv107), trivial⟩, trivial⟩ hy⟩) rfl
    · cases hr
  · cases hr
/-! spec.l02At -/
noncomputable def spec_l02At_LO (v126 : Int) (v127 : Int) (v128 : List Nat) (v129 : Int) (v130 : Int) : LOr := fun id e L =>
  match id with
  | _ => .fail
noncomputable def spec_l02At_tab : List (FuncId × DFn × Bool) := []
theorem spec_l02At_hO : OrcOk Try.prog (tabD spec_l02At_tab) (tabM spec_l02At_tab) := tabD_nil _
noncomputable def spec_l02At_T (v127 : Int) (v128 : List Nat) (v129 : Int) (v130 : Int) : Tree (Nat) :=
  (.grd (inb (IntKind.i64.wrap ((IntKind.i64.wrap (v129 * v127)) + v130)) v128.length) <|
  .leaf (nth v128 (Int.toNat (IntKind.i64.wrap ((IntKind.i64.wrap (v129 * v127)) + v130)))))

noncomputable def spec_l02At_g (v127 : Int) (v128 : List Nat) (v129 : Int) (v130 : Int) : Option (Nat) := (spec_l02At_T v127 v128 v129 v130).run
def spec_l02At_enc (v126 : Int) (v127 : Int) (v128 : List Nat) (v129 : Int) (v130 : Int) (y : Nat) : Rs := (.flt .f32 y, [])
theorem spec_l02At_den (v126 : Int) (v127 : Int) (v128 : List Nat) (v129 : Int) (v130 : Int) : (den TT (tabD spec_l02At_tab) (tabM spec_l02At_tab) (spec_l02At_LO v126 v127 v128 v129 v130) (codeOf Try.f115) ([.bptr (BR.root 0) [.int .i64 v126, .int .i64 v127, .bslc (BR.root 1) (.f32 v128)], .int .i64 v129, .int .i64 v130] ++ List.replicate (Try.f115.ntmps - ([.bptr (BR.root 0) [.int .i64 v126, .int .i64 v127, .bslc (BR.root 1) (.f32 v128)], .int .i64 v129, .int .i64 v130] : List DV).length) .undef) []).bind (retD TT Try.f115.results.toList 0) = (spec_l02At_T v127 v128 v129 v130).bind fun y => .leaf (spec_l02At_enc v126 v127 v128 v129 v130 y) := by kernel_rfl
theorem spec_l02At_fn (v126 : Int) (v127 : Int) (v128 : List Nat) (v129 : Int) (v130 : Int) (F : Fr) (hm : F.ids.length = 0) (h0 : St F [] F.H0) (hA : DVs.Ok F [] [.bptr (BR.root 0) [.int .i64 v126, .int .i64 v127, .bslc (BR.root 1) (.f32 v128)], .int .i64 v129, .int .i64 v130]) {y : Nat} (hy : spec_l02At_g v127 v128 v129 v130 = some y) : ∃ H', FnOk Try.prog 115 (DVs.av F [.bptr (BR.root 0) [.int .i64 v126, .int .i64 v127, .bslc (BR.root 1) (.f32 v128)], .int .i64 v129, .int .i64 v130]) F.H0 ((spec_l02At_enc v126 v127 v128 v129 v130 y).1.av F) H' ∧ St F (spec_l02At_enc v126 v127 v128 v129 v130 y).2 H' ∧ (spec_l02At_enc v126 v127 v128 v129 v130 y).1.Ok F (spec_l02At_enc v126 v127 v128 v129 v130 y).2 :=
  fn_fin tok spec_l02At_hO mixed Try.func115 Try.call115 (by kernel_rfl) (LoopsOk_eq (l := []) (by kernel_rfl) trivial) (spec_l02At_den v126 v127 v128 v129 v130) hy hm h0 hA
noncomputable def spec_l02At_F : DFn := fun args L =>
  match args with
  | [a1, .int .i64 v129, .int .i64 v130] =>
    optT (cellsOf L 3 a1) fun cs0 =>
    (match cs0 with
    | [.int .i64 v126, .int .i64 v127, a2] =>
    optT (rowF32 L a2) fun v128 =>
    .call (spec_l02At_g v127 v128 v129 v130) fun y => .leaf (.flt .f32 y, L)
    | _ => .fail)
  | _ => .fail
theorem spec_l02At_Fok : COk Try.prog 115 spec_l02At_F true := by
  intro F L H args r L' hs ha hr
  unfold spec_l02At_F at hr
  split at hr
  · rename_i a1 v129 v130
    obtain ⟨cs0, hcp0, hr⟩ := optT_run hr
    split at hr
    · rename_i v126 v127 a2
      obtain ⟨v128, hv128, hr⟩ := optT_run hr
      simp only [Tree.run] at hr
      obtain ⟨y, hy, hr⟩ := Option.bind_eq_some_iff.1 hr
      simp only [Tree.run, Option.some.injEq, Prod.mk.injEq] at hr
      obtain ⟨rfl, rfl⟩ := hr
      exact call_ok0 hs (fun k => (([a1.av F, a2.av F] : List AV)[k]?).getD .top) [a1, .int .i64 v129, .int .i64 v130] [.bptr (BR.root 0) [.int .i64 v126, .int .i64 v127, .bslc (BR.root 1) (.f32 v128)], .int .i64 v129, .int .i64 v130] (fun F' h0 hi hρ => ⟨by simp [DVs.av, DV.av, BR.av, hρ], spec_l02At_fn v126 v127 v128 v129 v130 F' (by rw [hi]; rfl) (st_nil hi) ⟨bptr_ok hi (by rw [h0]; simpa [DVs.av, DV.av, BR.av, hρ] using (cellsOf_ok hs (DVs.okAt ha 0 rfl) hcp0).1) ⟨trivial, trivial, bslc_ok hi (by rw [h0, hρ]; exact rowF32_ok hs (DVs.okAt (cellsOf_ok hs (DVs.okAt ha 0 rfl) hcp0).2 2 rfl) hv128), trivial⟩, trivial, trivial, trivial⟩ hy⟩) rfl
    · cases hr
  · cases hr
/-! spec.l03Is -/
noncomputable def spec_l03Is_l0_T (v101 : Int) (v102 : Int) (v103 : List Nat) (s : Int) : Tree ((Int) ⊕ ((Unit) ⊕ (Unit))) :=
  (.br (decide (s < v101)) (
   (.call (spec_l02At_g v102 v103 s s) fun v135 =>
   (.br (feq .f32 v135 (0 : Nat)) (
    .leaf (.inr (.inl ()))
   ) (
    .leaf (.inl (IntKind.i64.wrap (s + (1 : Int))))
   )))
  ) (
   .leaf (.inr (.inr ()))
  ))

noncomputable def spec_l03Is_l0_g (v101 : Int) (v102 : Int) (v103 : List Nat) (s0 : Int) : Option ((Unit) ⊕ (Unit)) := whileM (fun s => (spec_l03Is_l0_T v101 v102 v103 s).run) s0
def spec_l03Is_l0_E (v101 : Int) (v102 : Int) (v103 : List Nat) (v104 : List Int) (s : Int) : Sd := ([.bptr (BR.root 0) [.int .i64 v101, .int .i64 v102, .bslc (BR.root 1) (.f32 v103), .bslc (BR.root 2) (.i64 v104)], .top, .top, .int .i64 s, .top, .top, .top, .top, .top, .top, .top, .top, .top, .top, .top, .top, .top, .top, .top, .top, .top, .top, .top, .top, .top, .top, .top, .top, .top, .top, .top, .top, .top, .top, .top, .top, .top, .top, .top, .top, .top, .top, .top, .top, .top, .top], [])
def spec_l03Is_l0_X (v101 : Int) (v102 : Int) (v103 : List Nat) (v104 : List Int) (x : (Unit) ⊕ (Unit)) : Out := (match x with | .inl x => (.ret, [.top, .top, .lit false, .top, .top, .top, .top, .top, .top, .top, .top, .top, .top, .top, .top, .top, .top, .top, .top, .top, .top, .top, .top, .top, .top, .top, .top, .top, .top, .top, .top, .top, .top, .top, .top, .top, .top, .top, .top, .top, .top, .top, .top, .top, .top, .top], []) | .inr x => (.normal, [.top, .top, .top, .top, .top, .top, .top, .top, .top, .top, .top, .top, .top, .top, .top, .top, .top, .top, .top, .top, .top, .top, .top, .top, .top, .top, .top, .top, .top, .top, .top, .top, .top, .top, .top, .top, .top, .top, .top, .top, .top, .top, .top, .top, .top, .top], []))
def spec_l03Is_l0_kill : List Nat := [0, 1, 1, 0, 1, 1, 1, 1, 1, 1, 1, 1, 1, 1, 1, 1, 1, 1, 1, 1, 1, 1, 1, 1, 1, 1, 1, 1, 1, 1, 1, 1, 1, 1, 1, 1, 1, 1, 1, 1, 1, 1, 1, 1, 1, 1]
def spec_l03Is_l0_nx : Exit → List Nat
  | .exit 0 => [1, 1, 1, 1, 1, 1, 1, 1, 1, 1, 1, 1, 1, 1, 1, 1, 1, 1, 1, 1, 1, 1, 1, 1, 1, 1, 1, 1, 1, 1, 1, 1, 1, 1, 1, 1, 1, 1, 1, 1, 1, 1, 1, 1, 1, 1]
  | .ret => [1, 1, 0, 1, 1, 1, 1, 1, 1, 1, 1, 1, 1, 1, 1, 1, 1, 1, 1, 1, 1, 1, 1, 1, 1, 1, 1, 1, 1, 1, 1, 1, 1, 1, 1, 1, 1, 1, 1, 1, 1, 1, 1, 1, 1, 1]
  | _ => []
noncomputable def spec_l03Is_LO (v101 : Int) (v102 : Int) (v103 : List Nat) (v104 : List Int) : LOr := fun id e L =>
  match id with
  | 0 => .need (normA 0 spec_l03Is_l0_kill e L = some (spec_l03Is_l0_E v101 v102 v103 v104 (gI (vAt e 3)))) (.call (spec_l03Is_l0_g v101 v102 v103 (gI (vAt e 3))) fun x => .sum x (fun b0 => .leaf (spec_l03Is_l0_X v101 v102 v103 v104 (.inl b0))) (fun c0 => .leaf (spec_l03Is_l0_X v101 v102 v103 v104 (.inr c0))))
  | _ => .fail
noncomputable def spec_l03Is_tab : List (FuncId × DFn × Bool) := [(82, spec_l02Square_F, true), (106, spec_l02Order_F, true), (115, spec_l02At_F, true)]
theorem spec_l03Is_hO : OrcOk Try.prog (tabD spec_l03Is_tab) (tabM spec_l03Is_tab) := tabD_cons spec_l02Square_Fok (tabD_cons spec_l02Order_Fok (tabD_cons spec_l02At_Fok (tabD_nil _)))
theorem spec_l03Is_l0_be (v101 : Int) (v102 : Int) (v103 : List Nat) (v104 : List Int) (s : Int) : bodyT TT (tabD spec_l03Is_tab) (tabM spec_l03Is_tab) (spec_l03Is_LO v101 v102 v103 v104) 0 spec_l03Is_l0_kill spec_l03Is_l0_nx (bodyOf Try.f111 0) 0 (spec_l03Is_l0_E v101 v102 v103 v104 s) = (spec_l03Is_l0_T v101 v102 v103 s).bind fun y => .leaf (outS (spec_l03Is_l0_E v101 v102 v103 v104) (spec_l03Is_l0_X v101 v102 v103 v104) y) := by kernel_rfl
theorem spec_l03Is_l0_ok (v101 : Int) (v102 : Int) (v103 : List Nat) (v104 : List Int) : LSound Try.prog 0 (spec_l03Is_LO v101 v102 v103 v104) 0 (bodyOf Try.f111 0) := by
  intro e L out h
  exact lo_ok (E := spec_l03Is_l0_E v101 v102 v103 v104) (gT := spec_l03Is_l0_T v101 v102 v103) (X := spec_l03Is_l0_X v101 v102 v103 v104) (s0 := (gI (vAt e 3))) tok spec_l03Is_hO mixed (LoopsOk_eq (l := []) (by kernel_rfl) trivial) (spec_l03Is_l0_be v101 v102 v103 v104) rfl (by intro x; (cases x with | inl b => rfl | inr x => exact rfl)) h
noncomputable def spec_l03Is_T (v101 : Int) (v102 : Int) (v103 : List Nat) (v104 : List Int) : Tree (Bool) :=
  (.call (spec_l02Square_g v101 v102 v103) fun v123 =>
  (.br (!v123) (
   .leaf false
  ) (
   (.call (spec_l02Order_g v104) fun v124 =>
   (.br (!v124) (
    .leaf false
   ) (
    (.br (!decide (((v104.length : Nat) : Int) = v101)) (
     .leaf false
    ) (
     (.need (some (spec_l03Is_l0_E v101 v102 v103 v104 (0 : Int)) = some (spec_l03Is_l0_E v101 v102 v103 v104 (0 : Int))) <|
     (.call (spec_l03Is_l0_g v101 v102 v103 (0 : Int)) fun v136 =>
     (.sum v136 (fun v137 =>
      .leaf false
     ) (fun v138 =>
      .leaf true
     ))))
    ))
   )))
  )))

noncomputable def spec_l03Is_g (v101 : Int) (v102 : Int) (v103 : List Nat) (v104 : List Int) : Option (Bool) := (spec_l03Is_T v101 v102 v103 v104).run
def spec_l03Is_enc (v101 : Int) (v102 : Int) (v103 : List Nat) (v104 : List Int) (y : Bool) : Rs := (.bool y, [])
theorem spec_l03Is_den (v101 : Int) (v102 : Int) (v103 : List Nat) (v104 : List Int) : (den TT (tabD spec_l03Is_tab) (tabM spec_l03Is_tab) (spec_l03Is_LO v101 v102 v103 v104) (codeOf Try.f111) ([.bptr (BR.root 0) [.int .i64 v101, .int .i64 v102, .bslc (BR.root 1) (.f32 v103), .bslc (BR.root 2) (.i64 v104)]] ++ List.replicate (Try.f111.ntmps - ([.bptr (BR.root 0) [.int .i64 v101, .int .i64 v102, .bslc (BR.root 1) (.f32 v103), .bslc (BR.root 2) (.i64 v104)]] : List DV).length) .undef) []).bind (retD TT Try.f111.results.toList 0) = (spec_l03Is_T v101 v102 v103 v104).bind fun y => .leaf (spec_l03Is_enc v101 v102 v103 v104 y) := by kernel_rfl
theorem spec_l03Is_fn (v101 : Int) (v102 : Int) (v103 : List Nat) (v104 : List Int) (F : Fr) (hm : F.ids.length = 0) (h0 : St F [] F.H0) (hA : DVs.Ok F [] [.bptr (BR.root 0) [.int .i64 v101, .int .i64 v102, .bslc (BR.root 1) (.f32 v103), .bslc (BR.root 2) (.i64 v104)]]) {y : Bool} (hy : spec_l03Is_g v101 v102 v103 v104 = some y) : ∃ H', FnOk Try.prog 111 (DVs.av F [.bptr (BR.root 0) [.int .i64 v101, .int .i64 v102, .bslc (BR.root 1) (.f32 v103), .bslc (BR.root 2) (.i64 v104)]]) F.H0 ((spec_l03Is_enc v101 v102 v103 v104 y).1.av F) H' ∧ St F (spec_l03Is_enc v101 v102 v103 v104 y).2 H' ∧ (spec_l03Is_enc v101 v102 v103 v104 y).1.Ok F (spec_l03Is_enc v101 v102 v103 v104 y).2 :=
  fn_fin tok spec_l03Is_hO mixed Try.func111 Try.call111 (by kernel_rfl) (LoopsOk_eq (l := [(0, bodyOf Try.f111 0)]) (by kernel_rfl) ⟨spec_l03Is_l0_ok v101 v102 v103 v104, trivial⟩) (spec_l03Is_den v101 v102 v103 v104) hy hm h0 hA
noncomputable def spec_l03Is_F : DFn := fun args L =>
  match args with
  | [a1] =>
    optT (cellsOf L 4 a1) fun cs0 =>
    (match cs0 with
    | [.int .i64 v101, .int .i64 v102, a2, a3] =>
    optT (rowF32 L a2) fun v103 =>
    optT (rowI64 L a3) fun v104 =>
    .call (spec_l03Is_g v101 v102 v103 v104) fun y => .leaf (.bool y, L)
    | _ => .fail)
  | _ => .fail
theorem spec_l03Is_Fok : COk Try.prog 111 spec_l03Is_F true := by
  intro F L H args r L' hs ha hr
  unfold spec_l03Is_F at hr
  split at hr
  · rename_i a1
    obtain ⟨cs0, hcp0, hr⟩ := optT_run hr
    split at hr
    · rename_i v101 v102 a2 a3
      obtain ⟨v103, hv103, hr⟩ := optT_run hr
      obtain ⟨v104, hv104, hr⟩ := optT_run hr
      simp only [Tree.run] at hr
      obtain ⟨y, hy, hr⟩ := Option.bind_eq_some_iff.1 hr
      simp only [Tree.run, Option.some.injEq, Prod.mk.injEq] at hr
      obtain ⟨rfl, rfl⟩ := hr
      exact call_ok0 hs (fun k => (([a1.av F, a2.av F, a3.av F] : List AV)[k]?).getD .top) [a1] [.bptr (BR.root 0) [.int .i64 v101, .int .i64 v102, .bslc (BR.root 1) (.f32 v103), .bslc (BR.root 2) (.i64 v104)]] (fun F' h0 hi hρ => ⟨by simp [DVs.av, DV.av, BR.av, hρ], spec_l03Is_fn v101 v102 v103 v104 F' (by rw [hi]; rfl) (st_nil hi) ⟨bptr_ok hi (by rw [h0]; simpa [DVs.av, DV.av, BR.av, hρ] using (cellsOf_ok hs (DVs.okAt ha 0 rfl) hcp0).1) ⟨trivial, trivial, bslc_ok hi (by rw [h0, hρ]; exact rowF32_ok hs (DVs.okAt (cellsOf_ok hs (DVs.okAt ha 0 rfl) hcp0).2 2 rfl) hv103), bslc_ok hi (by rw [h0, hρ]; exact rowI64_ok hs (DVs.okAt (cellsOf_ok hs (DVs.okAt ha 0 rfl) hcp0).2 3 rfl) hv104), trivial⟩, trivial⟩ hy⟩) rfl
    · cases hr
  · cases hr
/-! spec.l02Number -/
noncomputable def spec_l02Number_LO (v151 : Nat) : LOr := fun id e L =>
  match id with
  | _ => .fail
noncomputable def spec_l02Number_tab : List (FuncId × DFn × Bool) := [(100, spec_l01Finite_F, true)]
theorem spec_l02Number_hO : OrcOk Try.prog (tabD spec_l02Number_tab) (tabM spec_l02Number_tab) := tabD_cons spec_l01Finite_Fok (tabD_nil _)
noncomputable def spec_l02Number_T (v151 : Nat) : Tree ((Unit) ⊕ (Nat)) :=
  (.br (!(spec_l01Finite_v v151)) (
   .leaf (.inl ())
  ) (
   .leaf (.inr v151)
  ))

noncomputable def spec_l02Number_g (v151 : Nat) : Option ((Unit) ⊕ (Nat)) := (spec_l02Number_T v151).run
def spec_l02Number_enc (v151 : Nat) (y : (Unit) ⊕ (Nat)) : Rs := (match y with | .inl y => (.tup [.flt .f32 (0 : Nat), .lit false], []) | .inr y => (.tup [.flt .f32 y, .lit true], []))
theorem spec_l02Number_den (v151 : Nat) : (den TT (tabD spec_l02Number_tab) (tabM spec_l02Number_tab) (spec_l02Number_LO v151) (codeOf Try.f116) ([.flt .f32 v151] ++ List.replicate (Try.f116.ntmps - ([.flt .f32 v151] : List DV).length) .undef) []).bind (retD TT Try.f116.results.toList 0) = (spec_l02Number_T v151).bind fun y => .leaf (spec_l02Number_enc v151 y) := by kernel_rfl
theorem spec_l02Number_fn (v151 : Nat) (F : Fr) (hm : F.ids.length = 0) (h0 : St F [] F.H0) (hA : DVs.Ok F [] [.flt .f32 v151]) {y : (Unit) ⊕ (Nat)} (hy : spec_l02Number_g v151 = some y) : ∃ H', FnOk Try.prog 116 (DVs.av F [.flt .f32 v151]) F.H0 ((spec_l02Number_enc v151 y).1.av F) H' ∧ St F (spec_l02Number_enc v151 y).2 H' ∧ (spec_l02Number_enc v151 y).1.Ok F (spec_l02Number_enc v151 y).2 :=
  fn_fin tok spec_l02Number_hO mixed Try.func116 Try.call116 (by kernel_rfl) (LoopsOk_eq (l := []) (by kernel_rfl) trivial) (spec_l02Number_den v151) hy hm h0 hA
def spec_l02Number_v (v151 : Nat) : (Unit) ⊕ (Nat) :=
  if (!(spec_l01Finite_v v151)) = true then (
   .inl ()
  ) else (
   .inr v151
  )
theorem spec_l02Number_tot (v151 : Nat) : spec_l02Number_g v151 = some (spec_l02Number_v v151) := by
  unfold spec_l02Number_g spec_l02Number_T spec_l02Number_v
  simp only [Tree.run]
  repeat' (first | rfl | split)
noncomputable def spec_l02Number_F : DFn := fun args L =>
  match args with
  | [.flt .f32 v151] =>
    .sum (spec_l02Number_v v151) (fun y0 => .leaf (.tup [.flt .f32 (0 : Nat), .lit false], L)) (fun z0 => .leaf (.tup [.flt .f32 z0, .lit true], L))
  | _ => .fail
theorem spec_l02Number_Fok : COk Try.prog 116 spec_l02Number_F true := by
  intro F L H args r L' hs ha hr
  unfold spec_l02Number_F at hr
  split at hr
  · rename_i v151
    have hy := spec_l02Number_tot v151
    generalize spec_l02Number_v v151 = y at hy hr
    cases y with
    | inl y =>
      simp only [Tree.run, Option.some.injEq, Prod.mk.injEq] at hr
      obtain ⟨rfl, rfl⟩ := hr
      exact call_ok0 hs (fun k => (([] : List AV)[k]?).getD .top) [.flt .f32 v151] [.flt .f32 v151] (fun F' h0 hi hρ => ⟨by simp [DVs.av, DV.av, BR.av, hρ], spec_l02Number_fn v151 F' (by rw [hi]; rfl) (st_nil hi) ⟨trivial, trivial⟩ hy⟩) rfl
    | inr y =>
      simp only [Tree.run, Option.some.injEq, Prod.mk.injEq] at hr
      obtain ⟨rfl, rfl⟩ := hr
      exact call_ok0 hs (fun k => (([] : List AV)[k]?).getD .top) [.flt .f32 v151] [.flt .f32 v151] (fun F' h0 hi hρ => ⟨by simp [DVs.av, DV.av, BR.av, hρ], spec_l02Number_fn v151 F' (by rw [hi]; rfl) (st_nil hi) ⟨trivial, trivial⟩ hy⟩) rfl
  · cases hr
/-! spec.FactorDet -/
noncomputable def spec_FactorDet_l0_T (v43 : Int) (v44 : Int) (v45 : List Nat) (s : Nat × Int) : Tree ((Nat × Int) ⊕ (Nat)) :=
  (.br (decide (s.2 < v43)) (
   (.call (spec_l02At_g v44 v45 s.2 s.2) fun v149 =>
   .leaf (.inl (fmul .f32 s.1 v149, IntKind.i64.wrap (s.2 + (1 : Int)))))
  ) (
   .leaf (.inr s.1)
  ))

noncomputable def spec_FactorDet_l0_g (v43 : Int) (v44 : Int) (v45 : List Nat) (s0 : Nat × Int) : Option (Nat) := whileM (fun s => (spec_FactorDet_l0_T v43 v44 v45 s).run) s0
def spec_FactorDet_l0_E (v43 : Int) (v44 : Int) (v45 : List Nat) (v46 : List Int) (s : Nat × Int) : Sd := ([.top, .ptr 0 (0 : Nat) 0 (4 : Nat), .top, .top, .top, .top, .flt .f32 s.1, .int .i64 s.2, .top, .top, .top, .top, .top, .top, .top, .top, .top, .top, .top, .top, .top, .top, .top, .top, .top, .top, .top, .top, .top, .top, .top, .top, .top, .top, .top, .top, .top, .top, .top], [.gen [.int .i64 v43, .int .i64 v44, .bslc (BR.root 0) (.f32 v45), .bslc (BR.root 1) (.i64 v46)] false 0])
def spec_FactorDet_l0_X (v43 : Int) (v44 : Int) (v45 : List Nat) (v46 : List Int) (x : Nat) : Out := (.normal, [.top, .top, .top, .top, .top, .top, .flt .f32 x, .top, .top, .top, .top, .top, .top, .top, .top, .top, .top, .top, .top, .top, .top, .top, .top, .top, .top, .top, .top, .top, .top, .top, .top, .top, .top, .top, .top, .top, .top, .top, .top], [])
def spec_FactorDet_l0_kill : List Nat := [1, 0, 1, 1, 1, 1, 0, 0, 1, 1, 1, 1, 1, 1, 1, 1, 1, 1, 1, 1, 1, 1, 1, 1, 1, 1, 1, 1, 1, 1, 1, 1, 1, 1, 1, 1, 1, 1, 1]
def spec_FactorDet_l0_nx : Exit → List Nat
  | .exit 0 => [1, 1, 1, 1, 1, 1, 0, 1, 1, 1, 1, 1, 1, 1, 1, 1, 1, 1, 1, 1, 1, 1, 1, 1, 1, 1, 1, 1, 1, 1, 1, 1, 1, 1, 1, 1, 1, 1, 1]
  | .ret => [1, 1, 0, 0, 1, 1, 1, 1, 1, 1, 1, 1, 1, 1, 1, 1, 1, 1, 1, 1, 1, 1, 1, 1, 1, 1, 1, 1, 1, 1, 1, 1, 1, 1, 1, 1, 1, 1, 1]
  | _ => []
noncomputable def spec_FactorDet_LO (v43 : Int) (v44 : Int) (v45 : List Nat) (v46 : List Int) : LOr := fun id e L =>
  match id with
  | 0 => .need (normA 0 spec_FactorDet_l0_kill e L = some (spec_FactorDet_l0_E v43 v44 v45 v46 ((gF (vAt e 6)), (gI (vAt e 7))))) (.call (spec_FactorDet_l0_g v43 v44 v45 ((gF (vAt e 6)), (gI (vAt e 7)))) fun x => .leaf (spec_FactorDet_l0_X v43 v44 v45 v46 x))
  | _ => .fail
noncomputable def spec_FactorDet_tab : List (FuncId × DFn × Bool) := [(114, spec_OrderSign_F, true), (111, spec_l03Is_F, true), (115, spec_l02At_F, true), (116, spec_l02Number_F, true)]
theorem spec_FactorDet_hO : OrcOk Try.prog (tabD spec_FactorDet_tab) (tabM spec_FactorDet_tab) := tabD_cons spec_OrderSign_Fok (tabD_cons spec_l03Is_Fok (tabD_cons spec_l02At_Fok (tabD_cons spec_l02Number_Fok (tabD_nil _))))
theorem spec_FactorDet_l0_be (v43 : Int) (v44 : Int) (v45 : List Nat) (v46 : List Int) (s : Nat × Int) : bodyT TT (tabD spec_FactorDet_tab) (tabM spec_FactorDet_tab) (spec_FactorDet_LO v43 v44 v45 v46) 0 spec_FactorDet_l0_kill spec_FactorDet_l0_nx (bodyOf Try.f51 0) 0 (spec_FactorDet_l0_E v43 v44 v45 v46 s) = (spec_FactorDet_l0_T v43 v44 v45 s).bind fun y => .leaf (outS (spec_FactorDet_l0_E v43 v44 v45 v46) (spec_FactorDet_l0_X v43 v44 v45 v46) y) := by kernel_rfl
theorem spec_FactorDet_l0_ok (v43 : Int) (v44 : Int) (v45 : List Nat) (v46 : List Int) : LSound Try.prog 0 (spec_FactorDet_LO v43 v44 v45 v46) 0 (bodyOf Try.f51 0) := by
  intro e L out h
  exact lo_ok (E := spec_FactorDet_l0_E v43 v44 v45 v46) (gT := spec_FactorDet_l0_T v43 v44 v45) (X := spec_FactorDet_l0_X v43 v44 v45 v46) (s0 := ((gF (vAt e 6)), (gI (vAt e 7)))) tok spec_FactorDet_hO mixed (LoopsOk_eq (l := []) (by kernel_rfl) trivial) (spec_FactorDet_l0_be v43 v44 v45 v46) rfl (by intro x; rfl) h
noncomputable def spec_FactorDet_T (v43 : Int) (v44 : Int) (v45 : List Nat) (v46 : List Int) : Tree ((Unit) ⊕ (Nat)) :=
  (.call (spec_OrderSign_g v46) fun v98 =>
  (.sum v98 (fun v99 =>
   (.call (spec_l03Is_g v43 v44 v45 v46) fun v139 =>
   (.br (!v139) (
    .leaf (.inl ())
   ) (
    .leaf (.inl ())
   )))
  ) (fun v100 =>
   (.call (spec_l03Is_g v43 v44 v45 v46) fun v140 =>
   (.br (!v140) (
    .leaf (.inl ())
   ) (
    (.need (some (spec_FactorDet_l0_E v43 v44 v45 v46 (fofint .f32 v100, (0 : Int))) = some (spec_FactorDet_l0_E v43 v44 v45 v46 (fofint .f32 v100, (0 : Int)))) <|
    (.call (spec_FactorDet_l0_g v43 v44 v45 (fofint .f32 v100, (0 : Int))) fun v150 =>
    (.sum (spec_l02Number_v v150) (fun v152 =>
     .leaf (.inl ())
    ) (fun v153 =>
     .leaf (.inr v153)
    ))))
   )))
  )))

noncomputable def spec_FactorDet_g (v43 : Int) (v44 : Int) (v45 : List Nat) (v46 : List Int) : Option ((Unit) ⊕ (Nat)) := (spec_FactorDet_T v43 v44 v45 v46).run
def spec_FactorDet_enc (v43 : Int) (v44 : Int) (v45 : List Nat) (v46 : List Int) (y : (Unit) ⊕ (Nat)) : Rs := (match y with | .inl y => (.tup [.flt .f32 (0 : Nat), .lit false], []) | .inr y => (.tup [.flt .f32 y, .lit true], []))
theorem spec_FactorDet_den (v43 : Int) (v44 : Int) (v45 : List Nat) (v46 : List Int) : (den TT (tabD spec_FactorDet_tab) (tabM spec_FactorDet_tab) (spec_FactorDet_LO v43 v44 v45 v46) (codeOf Try.f51) ([.agg [.int .i64 v43, .int .i64 v44, .bslc (BR.root 0) (.f32 v45), .bslc (BR.root 1) (.i64 v46)]] ++ List.replicate (Try.f51.ntmps - ([.agg [.int .i64 v43, .int .i64 v44, .bslc (BR.root 0) (.f32 v45), .bslc (BR.root 1) (.i64 v46)]] : List DV).length) .undef) []).bind (retD TT Try.f51.results.toList 0) = (spec_FactorDet_T v43 v44 v45 v46).bind fun y => .leaf (spec_FactorDet_enc v43 v44 v45 v46 y) := by kernel_rfl
theorem spec_FactorDet_fn (v43 : Int) (v44 : Int) (v45 : List Nat) (v46 : List Int) (F : Fr) (hm : F.ids.length = 0) (h0 : St F [] F.H0) (hA : DVs.Ok F [] [.agg [.int .i64 v43, .int .i64 v44, .bslc (BR.root 0) (.f32 v45), .bslc (BR.root 1) (.i64 v46)]]) {y : (Unit) ⊕ (Nat)} (hy : spec_FactorDet_g v43 v44 v45 v46 = some y) : ∃ H', FnOk Try.prog 51 (DVs.av F [.agg [.int .i64 v43, .int .i64 v44, .bslc (BR.root 0) (.f32 v45), .bslc (BR.root 1) (.i64 v46)]]) F.H0 ((spec_FactorDet_enc v43 v44 v45 v46 y).1.av F) H' ∧ St F (spec_FactorDet_enc v43 v44 v45 v46 y).2 H' ∧ (spec_FactorDet_enc v43 v44 v45 v46 y).1.Ok F (spec_FactorDet_enc v43 v44 v45 v46 y).2 :=
  fn_fin tok spec_FactorDet_hO mixed Try.func51 Try.call51 (by kernel_rfl) (LoopsOk_eq (l := [(0, bodyOf Try.f51 0)]) (by kernel_rfl) ⟨spec_FactorDet_l0_ok v43 v44 v45 v46, trivial⟩) (spec_FactorDet_den v43 v44 v45 v46) hy hm h0 hA
noncomputable def spec_FactorDet_F : DFn := fun args L =>
  match args with
  | [.agg [.int .i64 v43, .int .i64 v44, a1, a2]] =>
    optT (rowF32 L a1) fun v45 =>
    optT (rowI64 L a2) fun v46 =>
    .call (spec_FactorDet_g v43 v44 v45 v46) fun y => .sum y (fun y0 => .leaf (.tup [.flt .f32 (0 : Nat), .lit false], L)) (fun z0 => .leaf (.tup [.flt .f32 z0, .lit true], L))
  | _ => .fail
theorem spec_FactorDet_Fok : COk Try.prog 51 spec_FactorDet_F true := by
  intro F L H args r L' hs ha hr
  unfold spec_FactorDet_F at hr
  split at hr
  · rename_i v43 v44 a1 a2
    obtain ⟨v45, hv45, hr⟩ := optT_run hr
    obtain ⟨v46, hv46, hr⟩ := optT_run hr
    simp only [Tree.run] at hr
    obtain ⟨y, hy, hr⟩ := Option.bind_eq_some_iff.1 hr
    cases y with
    | inl y =>
      simp only [Tree.run, Option.some.injEq, Prod.mk.injEq] at hr
      obtain ⟨rfl, rfl⟩ := hr
      exact call_ok0 hs (fun k => (([a1.av F, a2.av F] : List AV)[k]?).getD .top) [.agg [.int .i64 v43, .int .i64 v44, a1, a2]] [.agg [.int .i64 v43, .int .i64 v44, .bslc (BR.root 0) (.f32 v45), .bslc (BR.root 1) (.i64 v46)]] (fun F' h0 hi hρ => ⟨by simp [DVs.av, DV.av, BR.av, hρ], spec_FactorDet_fn v43 v44 v45 v46 F' (by rw [hi]; rfl) (st_nil hi) ⟨⟨trivial, trivial, bslc_ok hi (by rw [h0, hρ]; exact rowF32_ok hs (DVs.okAt (DVs.okAt ha 0 rfl) 2 rfl) hv45), bslc_ok hi (by rw [h0, hρ]; exact rowI64_ok hs (DVs.okAt (DVs.okAt ha 0 rfl) 3 rfl) hv46), trivial⟩, trivial⟩ hy⟩) rfl
    | inr y =>
      simp only [Tree.run, Option.some.injEq, Prod.mk.injEq] at hr
      obtain ⟨rfl, rfl⟩ := hr
      exact call_ok0 hs (fun k => (([a1.av F, a2.av F] : List AV)[k]?).getD .top) [.agg [.int .i64 v43, .int .i64 v44, a1, a2]] [.agg [.int .i64 v43, .int .i64 v44, .bslc (BR.root 0) (.f32 v45), .bslc (BR.root 1) (.i64 v46)]] (fun F' h0 hi hρ => ⟨by simp [DVs.av, DV.av, BR.av, hρ], spec_FactorDet_fn v43 v44 v45 v46 F' (by rw [hi]; rfl) (st_nil hi) ⟨⟨trivial, trivial, bslc_ok hi (by rw [h0, hρ]; exact rowF32_ok hs (DVs.okAt (DVs.okAt ha 0 rfl) 2 rfl) hv45), bslc_ok hi (by rw [h0, hρ]; exact rowI64_ok hs (DVs.okAt (DVs.okAt ha 0 rfl) 3 rfl) hv46), trivial⟩, trivial⟩ hy⟩) rfl
  · cases hr
/-! impl.inRange -/
noncomputable def impl_inRange_LO (v173 : Int) (v174 : Int) (v175 : Int) : LOr := fun id e L =>
  match id with
  | _ => .fail
noncomputable def impl_inRange_tab : List (FuncId × DFn × Bool) := []
theorem impl_inRange_hO : OrcOk Try.prog (tabD impl_inRange_tab) (tabM impl_inRange_tab) := tabD_nil _
noncomputable def impl_inRange_T (v173 : Int) (v174 : Int) (v175 : Int) : Tree (Bool) :=
  (.br (decide (v174 ≤ v173)) (
   .leaf (decide (v173 ≤ v175))
  ) (
   .leaf false
  ))

noncomputable def impl_inRange_g (v173 : Int) (v174 : Int) (v175 : Int) : Option (Bool) := (impl_inRange_T v173 v174 v175).run
def impl_inRange_enc (v173 : Int) (v174 : Int) (v175 : Int) (y : Bool) : Rs := (.bool y, [])
theorem impl_inRange_den (v173 : Int) (v174 : Int) (v175 : Int) : (den TT (tabD impl_inRange_tab) (tabM impl_inRange_tab) (impl_inRange_LO v173 v174 v175) (codeOf Try.f72) ([.int .i64 v173, .int .i64 v174, .int .i64 v175] ++ List.replicate (Try.f72.ntmps - ([.int .i64 v173, .int .i64 v174, .int .i64 v175] : List DV).length) .undef) []).bind (retD TT Try.f72.results.toList 0) = (impl_inRange_T v173 v174 v175).bind fun y => .leaf (impl_inRange_enc v173 v174 v175 y) := by kernel_rfl
theorem impl_inRange_fn (v173 : Int) (v174 : Int) (v175 : Int) (F : Fr) (hm : F.ids.length = 0) (h0 : St F [] F.H0) (hA : DVs.Ok F [] [.int .i64 v173, .int .i64 v174, .int .i64 v175]) {y : Bool} (hy : impl_inRange_g v173 v174 v175 = some y) : ∃ H', FnOk Try.prog 72 (DVs.av F [.int .i64 v173, .int .i64 v174, .int .i64 v175]) F.H0 ((impl_inRange_enc v173 v174 v175 y).1.av F) H' ∧ St F (impl_inRange_enc v173 v174 v175 y).2 H' ∧ (impl_inRange_enc v173 v174 v175 y).1.Ok F (impl_inRange_enc v173 v174 v175 y).2 :=
  fn_fin tok impl_inRange_hO mixed Try.func72 Try.call72 (by kernel_rfl) (LoopsOk_eq (l := []) (by kernel_rfl) trivial) (impl_inRange_den v173 v174 v175) hy hm h0 hA
def impl_inRange_v (v173 : Int) (v174 : Int) (v175 : Int) : Bool :=
  if (decide (v174 ≤ v173)) = true then (
   decide (v173 ≤ v175)
  ) else (
   false
  )
theorem impl_inRange_tot (v173 : Int) (v174 : Int) (v175 : Int) : impl_inRange_g v173 v174 v175 = some (impl_inRange_v v173 v174 v175) := by
  unfold impl_inRange_g impl_inRange_T impl_inRange_v
  simp only [Tree.run]
  repeat' (first | rfl | split)
noncomputable def impl_inRange_F : DFn := fun args L =>
  match args with
  | [.int .i64 v173, .int .i64 v174, .int .i64 v175] =>
    .leaf (.bool (impl_inRange_v v173 v174 v175), L)
  | _ => .fail
theorem impl_inRange_Fok : COk Try.prog 72 impl_inRange_F true := by
  intro F L H args r L' hs ha hr
  unfold impl_inRange_F at hr
  split at hr
  · rename_i v173 v174 v175
    have hy := impl_inRange_tot v173 v174 v175
    generalize impl_inRange_v v173 v174 v175 = y at hy hr
    simp only [Tree.run, Option.some.injEq, Prod.mk.injEq] at hr
    obtain ⟨rfl, rfl⟩ := hr
    exact call_ok0 hs (fun k => (([] : List AV)[k]?).getD .top) [.int .i64 v173, .int .i64 v174, .int .i64 v175] [.int .i64 v173, .int .i64 v174, .int .i64 v175] (fun F' h0 hi hρ => ⟨by simp [DVs.av, DV.av, BR.av, hρ], impl_inRange_fn v173 v174 v175 F' (by rw [hi]; rfl) (st_nil hi) ⟨trivial, trivial, trivial, trivial⟩ hy⟩) rfl
  · cases hr
/-! impl.isSide -/
noncomputable def impl_isSide_LO (v172 : Int) : LOr := fun id e L =>
  match id with
  | _ => .fail
noncomputable def impl_isSide_tab : List (FuncId × DFn × Bool) := [(72, impl_inRange_F, true)]
theorem impl_isSide_hO : OrcOk Try.prog (tabD impl_isSide_tab) (tabM impl_isSide_tab) := tabD_cons impl_inRange_Fok (tabD_nil _)
noncomputable def impl_isSide_T (v172 : Int) : Tree (Bool) :=
  .leaf (impl_inRange_v v172 (1 : Int) (12 : Int))

noncomputable def impl_isSide_g (v172 : Int) : Option (Bool) := (impl_isSide_T v172).run
def impl_isSide_enc (v172 : Int) (y : Bool) : Rs := (.bool y, [])
theorem impl_isSide_den (v172 : Int) : (den TT (tabD impl_isSide_tab) (tabM impl_isSide_tab) (impl_isSide_LO v172) (codeOf Try.f146) ([.int .i64 v172] ++ List.replicate (Try.f146.ntmps - ([.int .i64 v172] : List DV).length) .undef) []).bind (retD TT Try.f146.results.toList 0) = (impl_isSide_T v172).bind fun y => .leaf (impl_isSide_enc v172 y) := by kernel_rfl
theorem impl_isSide_fn (v172 : Int) (F : Fr) (hm : F.ids.length = 0) (h0 : St F [] F.H0) (hA : DVs.Ok F [] [.int .i64 v172]) {y : Bool} (hy : impl_isSide_g v172 = some y) : ∃ H', FnOk Try.prog 146 (DVs.av F [.int .i64 v172]) F.H0 ((impl_isSide_enc v172 y).1.av F) H' ∧ St F (impl_isSide_enc v172 y).2 H' ∧ (impl_isSide_enc v172 y).1.Ok F (impl_isSide_enc v172 y).2 :=
  fn_fin tok impl_isSide_hO mixed Try.func146 Try.call146 (by kernel_rfl) (LoopsOk_eq (l := []) (by kernel_rfl) trivial) (impl_isSide_den v172) hy hm h0 hA
def impl_isSide_v (v172 : Int) : Bool :=
  (impl_inRange_v v172 (1 : Int) (12 : Int))
theorem impl_isSide_tot (v172 : Int) : impl_isSide_g v172 = some (impl_isSide_v v172) := by
  unfold impl_isSide_g impl_isSide_T impl_isSide_v
  simp only [Tree.run]
  repeat' (first | rfl | split)
noncomputable def impl_isSide_F : DFn := fun args L =>
  match args with
  | [.int .i64 v172] =>
    .leaf (.bool (impl_isSide_v v172), L)
  | _ => .fail
theorem impl_isSide_Fok : COk Try.prog 146 impl_isSide_F true := by
  intro F L H args r L' hs ha hr
  unfold impl_isSide_F at hr
  split at hr
  · rename_i v172
    have hy := impl_isSide_tot v172
    generalize impl_isSide_v v172 = y at hy hr
    simp only [Tree.run, Option.some.injEq, Prod.mk.injEq] at hr
    obtain ⟨rfl, rfl⟩ := hr
    exact call_ok0 hs (fun k => (([] : List AV)[k]?).getD .top) [.int .i64 v172] [.int .i64 v172] (fun F' h0 hi hρ => ⟨by simp [DVs.av, DV.av, BR.av, hρ], impl_isSide_fn v172 F' (by rw [hi]; rfl) (st_nil hi) ⟨trivial, trivial⟩ hy⟩) rfl
  · cases hr
/-! impl.length[float32] -/
noncomputable def impl_lengthF_LO (v176 : List Nat) : LOr := fun id e L =>
  match id with
  | _ => .fail
noncomputable def impl_lengthF_tab : List (FuncId × DFn × Bool) := []
theorem impl_lengthF_hO : OrcOk Try.prog (tabD impl_lengthF_tab) (tabM impl_lengthF_tab) := tabD_nil _
noncomputable def impl_lengthF_T (v176 : List Nat) : Tree (Int) :=
  .leaf ((v176.length : Nat) : Int)

noncomputable def impl_lengthF_g (v176 : List Nat) : Option (Int) := (impl_lengthF_T v176).run
def impl_lengthF_enc (v176 : List Nat) (y : Int) : Rs := (.int .i64 y, [])
theorem impl_lengthF_den (v176 : List Nat) : (den TT (tabD impl_lengthF_tab) (tabM impl_lengthF_tab) (impl_lengthF_LO v176) (codeOf Try.f134) ([.bslc (BR.root 0) (.f32 v176)] ++ List.replicate (Try.f134.ntmps - ([.bslc (BR.root 0) (.f32 v176)] : List DV).length) .undef) []).bind (retD TT Try.f134.results.toList 0) = (impl_lengthF_T v176).bind fun y => .leaf (impl_lengthF_enc v176 y) := by kernel_rfl
theorem impl_lengthF_fn (v176 : List Nat) (F : Fr) (hm : F.ids.length = 0) (h0 : St F [] F.H0) (hA : DVs.Ok F [] [.bslc (BR.root 0) (.f32 v176)]) {y : Int} (hy : impl_lengthF_g v176 = some y) : ∃ H', FnOk Try.prog 134 (DVs.av F [.bslc (BR.root 0) (.f32 v176)]) F.H0 ((impl_lengthF_enc v176 y).1.av F) H' ∧ St F (impl_lengthF_enc v176 y).2 H' ∧ (impl_lengthF_enc v176 y).1.Ok F (impl_lengthF_enc v176 y).2 :=
  fn_fin tok impl_lengthF_hO mixed Try.func134 Try.call134 (by kernel_rfl) (LoopsOk_eq (l := []) (by kernel_rfl) trivial) (impl_lengthF_den v176) hy hm h0 hA
def impl_lengthF_v (v176 : List Nat) : Int :=
  ((v176.length : Nat) : Int)
theorem impl_lengthF_tot (v176 : List Nat) : impl_lengthF_g v176 = some (impl_lengthF_v v176) := by
  unfold impl_lengthF_g impl_lengthF_T impl_lengthF_v
  simp only [Tree.run]
  repeat' (first | rfl | split)
noncomputable def impl_lengthF_F : DFn := fun args L =>
  match args with
  | [a1] =>
    optT (rowF32 L a1) fun v176 =>
    .leaf (.int .i64 (impl_lengthF_v v176), L)
  | _ => .fail
theorem impl_lengthF_Fok : COk Try.prog 134 impl_lengthF_F true := by
  intro F L H args r L' hs ha hr
  unfold impl_lengthF_F at hr
  split at hr
  · rename_i a1
    obtain ⟨v176, hv176, hr⟩ := optT_run hr
    have hy := impl_lengthF_tot v176
    generalize impl_lengthF_v v176 = y at hy hr
    simp only [Tree.run, Option.some.injEq, Prod.mk.injEq] at hr
    obtain ⟨rfl, rfl⟩ := hr
    exact call_ok0 hs (fun k => (([a1.av F] : List AV)[k]?).getD .top) [a1] [.bslc (BR.root 0) (.f32 v176)] (fun F' h0 hi hρ => ⟨by simp [DVs.av, DV.av, BR.av, hρ], impl_lengthF_fn v176 F' (by rw [hi]; rfl) (st_nil hi) ⟨bslc_ok hi (by rw [h0, hρ]; exact rowF32_ok hs (DVs.okAt ha 0 rfl) hv176), trivial⟩ hy⟩) rfl
  · cases hr
/-! math.IsNaN -/
noncomputable def math_IsNaN_LO (v184 : Nat) : LOr := fun id e L =>
  match id with
  | _ => .fail
noncomputable def math_IsNaN_tab : List (FuncId × DFn × Bool) := []
theorem math_IsNaN_hO : OrcOk Try.prog (tabD math_IsNaN_tab) (tabM math_IsNaN_tab) := tabD_nil _
noncomputable def math_IsNaN_T (v184 : Nat) : Tree (Bool) :=
  .leaf (!feq .f64 v184 v184)

noncomputable def math_IsNaN_g (v184 : Nat) : Option (Bool) := (math_IsNaN_T v184).run
def math_IsNaN_enc (v184 : Nat) (y : Bool) : Rs := (.bool y, [])
theorem math_IsNaN_den (v184 : Nat) : (den TT (tabD math_IsNaN_tab) (tabM math_IsNaN_tab) (math_IsNaN_LO v184) (codeOf Try.f169) ([.flt .f64 v184] ++ List.replicate (Try.f169.ntmps - ([.flt .f64 v184] : List DV).length) .undef) []).bind (retD TT Try.f169.results.toList 0) = (math_IsNaN_T v184).bind fun y => .leaf (math_IsNaN_enc v184 y) := by kernel_rfl
theorem math_IsNaN_fn (v184 : Nat) (F : Fr) (hm : F.ids.length = 0) (h0 : St F [] F.H0) (hA : DVs.Ok F [] [.flt .f64 v184]) {y : Bool} (hy : math_IsNaN_g v184 = some y) : ∃ H', FnOk Try.prog 169 (DVs.av F [.flt .f64 v184]) F.H0 ((math_IsNaN_enc v184 y).1.av F) H' ∧ St F (math_IsNaN_enc v184 y).2 H' ∧ (math_IsNaN_enc v184 y).1.Ok F (math_IsNaN_enc v184 y).2 :=
  fn_fin tok math_IsNaN_hO mixed Try.func169 Try.call169 (by kernel_rfl) (LoopsOk_eq (l := []) (by kernel_rfl) trivial) (math_IsNaN_den v184) hy hm h0 hA
def math_IsNaN_v (v184 : Nat) : Bool :=
  !feq .f64 v184 v184
theorem math_IsNaN_tot (v184 : Nat) : math_IsNaN_g v184 = some (math_IsNaN_v v184) := by
  unfold math_IsNaN_g math_IsNaN_T math_IsNaN_v
  simp only [Tree.run]
  repeat' (first | rfl | split)
noncomputable def math_IsNaN_F : DFn := fun args L =>
  match args with
  | [.flt .f64 v184] =>
    .leaf (.bool (math_IsNaN_v v184), L)
  | _ => .fail
theorem math_IsNaN_Fok : COk Try.prog 169 math_IsNaN_F true := by
  intro F L H args r L' hs ha hr
  unfold math_IsNaN_F at hr
  split at hr
  · rename_i v184
    have hy := math_IsNaN_tot v184
    generalize math_IsNaN_v v184 = y at hy hr
    simp only [Tree.run, Option.some.injEq, Prod.mk.injEq] at hr
    obtain ⟨rfl, rfl⟩ := hr
    exact call_ok0 hs (fun k => (([] : List AV)[k]?).getD .top) [.flt .f64 v184] [.flt .f64 v184] (fun F' h0 hi hρ => ⟨by simp [DVs.av, DV.av, BR.av, hρ], math_IsNaN_fn v184 F' (by rw [hi]; rfl) (st_nil hi) ⟨trivial, trivial⟩ hy⟩) rfl
  · cases hr
/-! math.IsInf -/
noncomputable def math_IsInf_LO (v185 : Nat) (v186 : Int) : LOr := fun id e L =>
  match id with
  | _ => .fail
noncomputable def math_IsInf_tab : List (FuncId × DFn × Bool) := [(104, Abs_F, true)]
theorem math_IsInf_hO : OrcOk Try.prog (tabD math_IsInf_tab) (tabM math_IsInf_tab) := tabD_cons Abs_Fok (tabD_nil _)
noncomputable def math_IsInf_T (v185 : Nat) (v186 : Int) : Tree (Bool) :=
  (.br (decide (v186 = (0 : Int))) (
   .leaf (fgrt .f64 (fabs v185) (9218868437227405311 : Nat))
  ) (
   (.br (decide (v186 < (0 : Int))) (
    .leaf (fgrt .f64 (fneg .f64 v185) (9218868437227405311 : Nat))
   ) (
    .leaf (fgrt .f64 v185 (9218868437227405311 : Nat))
   ))
  ))

noncomputable def math_IsInf_g (v185 : Nat) (v186 : Int) : Option (Bool) := (math_IsInf_T v185 v186).run
def math_IsInf_enc (v185 : Nat) (v186 : Int) (y : Bool) : Rs := (.bool y, [])
theorem math_IsInf_den (v185 : Nat) (v186 : Int) : (den TT (tabD math_IsInf_tab) (tabM math_IsInf_tab) (math_IsInf_LO v185 v186) (codeOf Try.f170) ([.flt .f64 v185, .int .i64 v186] ++ List.replicate (Try.f170.ntmps - ([.flt .f64 v185, .int .i64 v186] : List DV).length) .undef) []).bind (retD TT Try.f170.results.toList 0) = (math_IsInf_T v185 v186).bind fun y => .leaf (math_IsInf_enc v185 v186 y) := by kernel_rfl
theorem math_IsInf_fn (v185 : Nat) (v186 : Int) (F : Fr) (hm : F.ids.length = 0) (h0 : St F [] F.H0) (hA : DVs.Ok F [] [.flt .f64 v185, .int .i64 v186]) {y : Bool} (hy : math_IsInf_g v185 v186 = some y) : ∃ H', FnOk Try.prog 170 (DVs.av F [.flt .f64 v185, .int .i64 v186]) F.H0 ((math_IsInf_enc v185 v186 y).1.av F) H' ∧ St F (math_IsInf_enc v185 v186 y).2 H' ∧ (math_IsInf_enc v185 v186 y).1.Ok F (math_IsInf_enc v185 v186 y).2 :=
  fn_fin tok math_IsInf_hO mixed Try.func170 Try.call170 (by kernel_rfl) (LoopsOk_eq (l := []) (by kernel_rfl) trivial) (math_IsInf_den v185 v186) hy hm h0 hA
def math_IsInf_v (v185 : Nat) (v186 : Int) : Bool :=
  if (decide (v186 = (0 : Int))) = true then (
   fgrt .f64 (fabs v185) (9218868437227405311 : Nat)
  ) else (
   if (decide (v186 < (0 : Int))) = true then (
    fgrt .f64 (fneg .f64 v185) (9218868437227405311 : Nat)
   ) else (
    fgrt .f64 v185 (9218868437227405311 : Nat)
   )
  )
theorem math_IsInf_tot (v185 : Nat) (v186 : Int) : math_IsInf_g v185 v186 = some (math_IsInf_v v185 v186) := by
  unfold math_IsInf_g math_IsInf_T math_IsInf_v
  simp only [Tree.run]
  repeat' (first | rfl | split)
noncomputable def math_IsInf_F : DFn := fun args L =>
  match args with
  | [.flt .f64 v185, .int .i64 v186] =>
    .leaf (.bool (math_IsInf_v v185 v186), L)
  | _ => .fail
theorem math_IsInf_Fok : COk Try.prog 170 math_IsInf_F true := by
  intro F L H args r L' hs ha hr
  unfold math_IsInf_F at hr
  split at hr
  · rename_i v185 v186
    have hy := math_IsInf_tot v185 v186
    generalize math_IsInf_v v185 v186 = y at hy hr
    simp only [Tree.run, Option.some.injEq, Prod.mk.injEq] at hr
    obtain ⟨rfl, rfl⟩ := hr
    exact call_ok0 hs (fun k => (([] : List AV)[k]?).getD .top) [.flt .f64 v185, .int .i64 v186] [.flt .f64 v185, .int .i64 v186] (fun F' h0 hi hρ => ⟨by simp [DVs.av, DV.av, BR.av, hρ], math_IsInf_fn v185 v186 F' (by rw [hi]; rfl) (st_nil hi) ⟨trivial, trivial, trivial⟩ hy⟩) rfl
  · cases hr
/-! impl.isFinite64 -/
noncomputable def impl_isFinite64_LO (v183 : Nat) : LOr := fun id e L =>
  match id with
  | _ => .fail
noncomputable def impl_isFinite64_tab : List (FuncId × DFn × Bool) := [(169, math_IsNaN_F, true), (170, math_IsInf_F, true)]
theorem impl_isFinite64_hO : OrcOk Try.prog (tabD impl_isFinite64_tab) (tabM impl_isFinite64_tab) := tabD_cons math_IsNaN_Fok (tabD_cons math_IsInf_Fok (tabD_nil _))
noncomputable def impl_isFinite64_T (v183 : Nat) : Tree (Bool) :=
  (.br (!(math_IsNaN_v v183)) (
   .leaf (!(math_IsInf_v v183 (0 : Int)))
  ) (
   .leaf false
  ))

noncomputable def impl_isFinite64_g (v183 : Nat) : Option (Bool) := (impl_isFinite64_T v183).run
def impl_isFinite64_enc (v183 : Nat) (y : Bool) : Rs := (.bool y, [])
theorem impl_isFinite64_den (v183 : Nat) : (den TT (tabD impl_isFinite64_tab) (tabM impl_isFinite64_tab) (impl_isFinite64_LO v183) (codeOf Try.f151) ([.flt .f64 v183] ++ List.replicate (Try.f151.ntmps - ([.flt .f64 v183] : List DV).length) .undef) []).bind (retD TT Try.f151.results.toList 0) = (impl_isFinite64_T v183).bind fun y => .leaf (impl_isFinite64_enc v183 y) := by kernel_rfl
theorem impl_isFinite64_fn (v183 : Nat) (F : Fr) (hm : F.ids.length = 0) (h0 : St F [] F.H0) (hA : DVs.Ok F [] [.flt .f64 v183]) {y : Bool} (hy : impl_isFinite64_g v183 = some y) : ∃ H', FnOk Try.prog 151 (DVs.av F [.flt .f64 v183]) F.H0 ((impl_isFinite64_enc v183 y).1.av F) H' ∧ St F (impl_isFinite64_enc v183 y).2 H' ∧ (impl_isFinite64_enc v183 y).1.Ok F (impl_isFinite64_enc v183 y).2 :=
  fn_fin tok impl_isFinite64_hO mixed Try.func151 Try.call151 (by kernel_rfl) (LoopsOk_eq (l := []) (by kernel_rfl) trivial) (impl_isFinite64_den v183) hy hm h0 hA
def impl_isFinite64_v (v183 : Nat) : Bool :=
  if (!(math_IsNaN_v v183)) = true then (
   !(math_IsInf_v v183 (0 : Int))
  ) else (
   false
  )
theorem impl_isFinite64_tot (v183 : Nat) : impl_isFinite64_g v183 = some (impl_isFinite64_v v183) := by
  unfold impl_isFinite64_g impl_isFinite64_T impl_isFinite64_v
  simp only [Tree.run]
  repeat' (first | rfl | split)
noncomputable def impl_isFinite64_F : DFn := fun args L =>
  match args with
  | [.flt .f64 v183] =>
    .leaf (.bool (impl_isFinite64_v v183), L)
  | _ => .fail
theorem impl_isFinite64_Fok : COk Try.prog 151 impl_isFinite64_F true := by
  intro F L H args r L' hs ha hr
  unfold impl_isFinite64_F at hr
  split at hr
  · rename_i v183
    have hy := impl_isFinite64_tot v183
    generalize impl_isFinite64_v v183 = y at hy hr
    simp only [Tree.run, Option.some.injEq, Prod.mk.injEq] at hr
    obtain ⟨rfl, rfl⟩ := hr
    exact call_ok0 hs (fun k => (([] : List AV)[k]?).getD .top) [.flt .f64 v183] [.flt .f64 v183] (fun F' h0 hi hρ => ⟨by simp [DVs.av, DV.av, BR.av, hρ], impl_isFinite64_fn v183 F' (by rw [hi]; rfl) (st_nil hi) ⟨trivial, trivial⟩ hy⟩) rfl
  · cases hr
/-! impl.IsFinite -/
noncomputable def impl_IsFinite_LO (v182 : Nat) : LOr := fun id e L =>
  match id with
  | _ => .fail
noncomputable def impl_IsFinite_tab : List (FuncId × DFn × Bool) := [(151, impl_isFinite64_F, true)]
theorem impl_IsFinite_hO : OrcOk Try.prog (tabD impl_IsFinite_tab) (tabM impl_IsFinite_tab) := tabD_cons impl_isFinite64_Fok (tabD_nil _)
noncomputable def impl_IsFinite_T (v182 : Nat) : Tree (Bool) :=
  .leaf (impl_isFinite64_v (wid v182))

noncomputable def impl_IsFinite_g (v182 : Nat) : Option (Bool) := (impl_IsFinite_T v182).run
def impl_IsFinite_enc (v182 : Nat) (y : Bool) : Rs := (.bool y, [])
theorem impl_IsFinite_den (v182 : Nat) : (den TT (tabD impl_IsFinite_tab) (tabM impl_IsFinite_tab) (impl_IsFinite_LO v182) (codeOf Try.f103) ([.flt .f32 v182] ++ List.replicate (Try.f103.ntmps - ([.flt .f32 v182] : List DV).length) .undef) []).bind (retD TT Try.f103.results.toList 0) = (impl_IsFinite_T v182).bind fun y => .leaf (impl_IsFinite_enc v182 y) := by kernel_rfl
theorem impl_IsFinite_fn (v182 : Nat) (F : Fr) (hm : F.ids.length = 0) (h0 : St F [] F.H0) (hA : DVs.Ok F [] [.flt .f32 v182]) {y : Bool} (hy : impl_IsFinite_g v182 = some y) : ∃ H', FnOk Try.prog 103 (DVs.av F [.flt .f32 v182]) F.H0 ((impl_IsFinite_enc v182 y).1.av F) H' ∧ St F (impl_IsFinite_enc v182 y).2 H' ∧ (impl_IsFinite_enc v182 y).1.Ok F (impl_IsFinite_enc v182 y).2 :=
  fn_fin tok impl_IsFinite_hO mixed Try.func103 Try.call103 (by kernel_rfl) (LoopsOk_eq (l := []) (by kernel_rfl) trivial) (impl_IsFinite_den v182) hy hm h0 hA
def impl_IsFinite_v (v182 : Nat) : Bool :=
  (impl_isFinite64_v (wid v182))
theorem impl_IsFinite_tot (v182 : Nat) : impl_IsFinite_g v182 = some (impl_IsFinite_v v182) := by
  unfold impl_IsFinite_g impl_IsFinite_T impl_IsFinite_v
  simp only [Tree.run]
  repeat' (first | rfl | split)
noncomputable def impl_IsFinite_F : DFn := fun args L =>
  match args with
  | [.flt .f32 v182] =>
    .leaf (.bool (impl_IsFinite_v v182), L)
  | _ => .fail
theorem impl_IsFinite_Fok : COk Try.prog 103 impl_IsFinite_F true := by
  intro F L H args r L' hs ha hr
  unfold impl_IsFinite_F at hr
  split at hr
  · rename_i v182
    have hy := impl_IsFinite_tot v182
    generalize impl_IsFinite_v v182 = y at hy hr
    simp only [Tree.run, Option.some.injEq, Prod.mk.injEq] at hr
    obtain ⟨rfl, rfl⟩ := hr
    exact call_ok0 hs (fun k => (([] : List AV)[k]?).getD .top) [.flt .f32 v182] [.flt .f32 v182] (fun F' h0 hi hρ => ⟨by simp [DVs.av, DV.av, BR.av, hρ], impl_IsFinite_fn v182 F' (by rw [hi]; rfl) (st_nil hi) ⟨trivial, trivial⟩ hy⟩) rfl
  · cases hr
/-! impl.areFinite$1 -/
noncomputable def impl_areFinite_1_LO (v181 : Nat) : LOr := fun id e L =>
  match id with
  | _ => .fail
noncomputable def impl_areFinite_1_tab : List (FuncId × DFn × Bool) := [(103, impl_IsFinite_F, true)]
theorem impl_areFinite_1_hO : OrcOk Try.prog (tabD impl_areFinite_1_tab) (tabM impl_areFinite_1_tab) := tabD_cons impl_IsFinite_Fok (tabD_nil _)
noncomputable def impl_areFinite_1_T (v181 : Nat) : Tree (Bool) :=
  .leaf (!(impl_IsFinite_v v181))

noncomputable def impl_areFinite_1_g (v181 : Nat) : Option (Bool) := (impl_areFinite_1_T v181).run
def impl_areFinite_1_enc (v181 : Nat) (y : Bool) : Rs := (.bool y, [])
theorem impl_areFinite_1_den (v181 : Nat) : (den TT (tabD impl_areFinite_1_tab) (tabM impl_areFinite_1_tab) (impl_areFinite_1_LO v181) (codeOf Try.f165) ([.flt .f32 v181] ++ List.replicate (Try.f165.ntmps - ([.flt .f32 v181] : List DV).length) .undef) []).bind (retD TT Try.f165.results.toList 0) = (impl_areFinite_1_T v181).bind fun y => .leaf (impl_areFinite_1_enc v181 y) := by kernel_rfl
theorem impl_areFinite_1_fn (v181 : Nat) (F : Fr) (hm : F.ids.length = 0) (h0 : St F [] F.H0) (hA : DVs.Ok F [] [.flt .f32 v181]) {y : Bool} (hy : impl_areFinite_1_g v181 = some y) : ∃ H', FnOk Try.prog 165 (DVs.av F [.flt .f32 v181]) F.H0 ((impl_areFinite_1_enc v181 y).1.av F) H' ∧ St F (impl_areFinite_1_enc v181 y).2 H' ∧ (impl_areFinite_1_enc v181 y).1.Ok F (impl_areFinite_1_enc v181 y).2 :=
  fn_fin tok impl_areFinite_1_hO mixed Try.func165 Try.call165 (by kernel_rfl) (LoopsOk_eq (l := []) (by kernel_rfl) trivial) (impl_areFinite_1_den v181) hy hm h0 hA
def impl_areFinite_1_v (v181 : Nat) : Bool :=
  !(impl_IsFinite_v v181)
theorem impl_areFinite_1_tot (v181 : Nat) : impl_areFinite_1_g v181 = some (impl_areFinite_1_v v181) := by
  unfold impl_areFinite_1_g impl_areFinite_1_T impl_areFinite_1_v
  simp only [Tree.run]
  repeat' (first | rfl | split)
noncomputable def impl_areFinite_1_F : DFn := fun args L =>
  match args with
  | [.flt .f32 v181] =>
    .leaf (.bool (impl_areFinite_1_v v181), L)
  | _ => .fail
theorem impl_areFinite_1_Fok : COk Try.prog 165 impl_areFinite_1_F true := by
  intro F L H args r L' hs ha hr
  unfold impl_areFinite_1_F at hr
  split at hr
  · rename_i v181
    have hy := impl_areFinite_1_tot v181
    generalize impl_areFinite_1_v v181 = y at hy hr
    simp only [Tree.run, Option.some.injEq, Prod.mk.injEq] at hr
    obtain ⟨rfl, rfl⟩ := hr
    exact call_ok0 hs (fun k => (([] : List AV)[k]?).getD .top) [.flt .f32 v181] [.flt .f32 v181] (fun F' h0 hi hρ => ⟨by simp [DVs.av, DV.av, BR.av, hρ], impl_areFinite_1_fn v181 F' (by rw [hi]; rfl) (st_nil hi) ⟨trivial, trivial⟩ hy⟩) rfl
  · cases hr
/-! slices.IndexFunc[list of float32,float32] -/
noncomputable def slices_IndexFuncF_l0_T (v179 : List Nat) (s : Int) : Tree ((Int) ⊕ ((Int) ⊕ (Unit))) :=
  (.br (decide (s < ((v179.length : Nat) : Int))) (
   (.grd (inb s v179.length) <|
   (.br (impl_areFinite_1_v (nth v179 (Int.toNat s))) (
    .leaf (.inr (.inl s))
   ) (
    .leaf (.inl (IntKind.i64.wrap (s + (1 : Int))))
   )))
  ) (
   .leaf (.inr (.inr ()))
  ))

noncomputable def slices_IndexFuncF_l0_g (v179 : List Nat) (s0 : Int) : Option ((Int) ⊕ (Unit)) := whileM (fun s => (slices_IndexFuncF_l0_T v179 s).run) s0
def slices_IndexFuncF_l0_E (v179 : List Nat) (s : Int) : Sd := ([.bslc (BR.root 0) (.f32 v179), .fn 165 [], .top, .top, .top, .top, .top, .int .i64 ((v179.length : Nat) : Int), .int .i64 s, .top, .top, .top, .top, .top, .top, .top, .top, .top, .top], [])
def slices_IndexFuncF_l0_X (v179 : List Nat) (x : (Int) ⊕ (Unit)) : Out := (match x with | .inl x => (.ret, [.top, .top, .top, .top, .int .i64 x, .top, .top, .top, .top, .top, .top, .top, .top, .top, .top, .top, .top, .top, .top], []) | .inr x => (.normal, [.top, .top, .top, .top, .top, .top, .top, .top, .top, .top, .top, .top, .top, .top, .top, .top, .top, .top, .top], []))
def slices_IndexFuncF_l0_kill : List Nat := [0, 0, 1, 1, 1, 1, 1, 0, 0, 1, 1, 1, 1, 1, 1, 1, 1, 1, 1]
def slices_IndexFuncF_l0_nx : Exit → List Nat
  | .exit 0 => [1, 1, 1, 1, 1, 1, 1, 1, 1, 1, 1, 1, 1, 1, 1, 1, 1, 1, 1]
  | .ret => [1, 1, 1, 1, 0, 1, 1, 1, 1, 1, 1, 1, 1, 1, 1, 1, 1, 1, 1]
  | _ => []
noncomputable def slices_IndexFuncF_LO (v179 : List Nat) : LOr := fun id e L =>
  match id with
  | 0 => .need (normA 0 slices_IndexFuncF_l0_kill e L = some (slices_IndexFuncF_l0_E v179 (gI (vAt e 8)))) (.call (slices_IndexFuncF_l0_g v179 (gI (vAt e 8))) fun x => .sum x (fun b0 => .leaf (slices_IndexFuncF_l0_X v179 (.inl b0))) (fun c0 => .leaf (slices_IndexFuncF_l0_X v179 (.inr c0))))
  | _ => .fail
noncomputable def slices_IndexFuncF_tab : List (FuncId × DFn × Bool) := [(165, impl_areFinite_1_F, true)]
theorem slices_IndexFuncF_hO : OrcOk Try.prog (tabD slices_IndexFuncF_tab) (tabM slices_IndexFuncF_tab) := tabD_cons impl_areFinite_1_Fok (tabD_nil _)
theorem slices_IndexFuncF_l0_be (v179 : List Nat) (s : Int) : bodyT TT (tabD slices_IndexFuncF_tab) (tabM slices_IndexFuncF_tab) (slices_IndexFuncF_LO v179) 0 slices_IndexFuncF_l0_kill slices_IndexFuncF_l0_nx (bodyOf Try.f178 0) 0 (slices_IndexFuncF_l0_E v179 s) = (slices_IndexFuncF_l0_T v179 s).bind fun y => .leaf (outS (slices_IndexFuncF_l0_E v179) (slices_IndexFuncF_l0_X v179) y) := by kernel_rfl
theorem slices_IndexFuncF_l0_ok (v179 : List Nat) : LSound Try.prog 0 (slices_IndexFuncF_LO v179) 0 (bodyOf Try.f178 0) := by
  intro e L out h
  exact lo_ok (E := slices_IndexFuncF_l0_E v179) (gT := slices_IndexFuncF_l0_T v179) (X := slices_IndexFuncF_l0_X v179) (s0 := (gI (vAt e 8))) tok slices_IndexFuncF_hO mixed (LoopsOk_eq (l := []) (by kernel_rfl) trivial) (slices_IndexFuncF_l0_be v179) rfl (by intro x; (cases x with | inl b => rfl | inr x => exact rfl)) h
noncomputable def slices_IndexFuncF_T (v179 : List Nat) : Tree (Int) :=
  (.need (some (slices_IndexFuncF_l0_E v179 (0 : Int)) = some (slices_IndexFuncF_l0_E v179 (0 : Int))) <|
  (.call (slices_IndexFuncF_l0_g v179 (0 : Int)) fun v189 =>
  (.sum v189 (fun v190 =>
   .leaf v190
  ) (fun v191 =>
   .leaf (-1 : Int)
  ))))

noncomputable def slices_IndexFuncF_g (v179 : List Nat) : Option (Int) := (slices_IndexFuncF_T v179).run
def slices_IndexFuncF_enc (v179 : List Nat) (y : Int) : Rs := (.int .i64 y, [])
theorem slices_IndexFuncF_den (v179 : List Nat) : (den TT (tabD slices_IndexFuncF_tab) (tabM slices_IndexFuncF_tab) (slices_IndexFuncF_LO v179) (codeOf Try.f178) ([.bslc (BR.root 0) (.f32 v179), .fn 165 []] ++ List.replicate (Try.f178.ntmps - ([.bslc (BR.root 0) (.f32 v179), .fn 165 []] : List DV).length) .undef) []).bind (retD TT Try.f178.results.toList 0) = (slices_IndexFuncF_T v179).bind fun y => .leaf (slices_IndexFuncF_enc v179 y) := by kernel_rfl
theorem slices_IndexFuncF_fn (v179 : List Nat) (F : Fr) (hm : F.ids.length = 0) (h0 : St F [] F.H0) (hA : DVs.Ok F [] [.bslc (BR.root 0) (.f32 v179), .fn 165 []]) {y : Int} (hy : slices_IndexFuncF_g v179 = some y) : ∃ H', FnOk Try.prog 178 (DVs.av F [.bslc (BR.root 0) (.f32 v179), .fn 165 []]) F.H0 ((slices_IndexFuncF_enc v179 y).1.av F) H' ∧ St F (slices_IndexFuncF_enc v179 y).2 H' ∧ (slices_IndexFuncF_enc v179 y).1.Ok F (slices_IndexFuncF_enc v179 y).2 :=
  fn_fin tok slices_IndexFuncF_hO mixed Try.func178 Try.call178 (by kernel_rfl) (LoopsOk_eq (l := [(0, bodyOf Try.f178 0)]) (by kernel_rfl) ⟨slices_IndexFuncF_l0_ok v179, trivial⟩) (slices_IndexFuncF_den v179) hy hm h0 hA
noncomputable def slices_IndexFuncF_F : DFn := fun args L =>
  match args with
  | [a1, .fn 165 []] =>
    optT (rowF32 L a1) fun v179 =>
    .call (slices_IndexFuncF_g v179) fun y => .leaf (.int .i64 y, L)
  | _ => .fail
theorem slices_IndexFuncF_Fok : COk Try.prog 178 slices_IndexFuncF_F true := by
  intro F L H args r L' hs ha hr
  unfold slices_IndexFuncF_F at hr
  split at hr
  · rename_i a1
    obtain ⟨v179, hv179, hr⟩ := optT_run hr
    simp only [Tree.run] at hr
    obtain ⟨y, hy, hr⟩ := Option.bind_eq_some_iff.1 hr
    simp only [Tree.run, Option.some.injEq, Prod.mk.injEq] at hr
    obtain ⟨rfl, rfl⟩ := hr
    exact call_ok0 hs (fun k => (([a1.av F] : List AV)[k]?).getD .top) [a1, .fn 165 []] [.bslc (BR.root 0) (.f32 v179), .fn 165 []] (fun F' h0 hi hρ => ⟨by simp [DVs.av, DV.av, BR.av, hρ], slices_IndexFuncF_fn v179 F' (by rw [hi]; rfl) (st_nil hi) ⟨bslc_ok hi (by rw [h0, hρ]; exact rowF32_ok hs (DVs.okAt ha 0 rfl) hv179), trivial, trivial⟩ hy⟩) rfl
  · cases hr
/-! slices.ContainsFunc[list of float32,float32] -/
noncomputable def slices_ContainsFuncF_LO (v178 : List Nat) : LOr := fun id e L =>
  match id with
  | _ => .fail
noncomputable def slices_ContainsFuncF_tab : List (FuncId × DFn × Bool) := [(178, slices_IndexFuncF_F, true)]
theorem slices_ContainsFuncF_hO : OrcOk Try.prog (tabD slices_ContainsFuncF_tab) (tabM slices_ContainsFuncF_tab) := tabD_cons slices_IndexFuncF_Fok (tabD_nil _)
noncomputable def slices_ContainsFuncF_T (v178 : List Nat) : Tree (Bool) :=
  (.call (slices_IndexFuncF_g v178) fun v192 =>
  .leaf (decide ((0 : Int) ≤ v192)))

noncomputable def slices_ContainsFuncF_g (v178 : List Nat) : Option (Bool) := (slices_ContainsFuncF_T v178).run
def slices_ContainsFuncF_enc (v178 : List Nat) (y : Bool) : Rs := (.bool y, [])
theorem slices_ContainsFuncF_den (v178 : List Nat) : (den TT (tabD slices_ContainsFuncF_tab) (tabM slices_ContainsFuncF_tab) (slices_ContainsFuncF_LO v178) (codeOf Try.f164) ([.bslc (BR.root 0) (.f32 v178), .fn 165 []] ++ List.replicate (Try.f164.ntmps - ([.bslc (BR.root 0) (.f32 v178), .fn 165 []] : List DV).length) .undef) []).bind (retD TT Try.f164.results.toList 0) = (slices_ContainsFuncF_T v178).bind fun y => .leaf (slices_ContainsFuncF_enc v178 y) := by kernel_rfl
theorem slices_ContainsFuncF_fn (v178 : List Nat) (F : Fr) (hm : F.ids.length = 0) (h0 : St F [] F.H0) (hA : DVs.Ok F [] [.bslc (BR.root 0) (.f32 v178), .fn 165 []]) {y : Bool} (hy : slices_ContainsFuncF_g v178 = some y) : ∃ H', FnOk Try.prog 164 (DVs.av F [.bslc (BR.root 0) (.f32 v178), .fn 165 []]) F.H0 ((slices_ContainsFuncF_enc v178 y).1.av F) H' ∧ St F (slices_ContainsFuncF_enc v178 y).2 H' ∧ (slices_ContainsFuncF_enc v178 y).1.Ok F (slices_ContainsFuncF_enc v178 y).2 :=
  fn_fin tok slices_ContainsFuncF_hO mixed Try.func164 Try.call164 (by kernel_rfl) (LoopsOk_eq (l := []) (by kernel_rfl) trivial) (slices_ContainsFuncF_den v178) hy hm h0 hA
noncomputable def slices_ContainsFuncF_F : DFn := fun args L =>
  match args with
  | [a1, .fn 165 []] =>
    optT (rowF32 L a1) fun v178 =>
    .call (slices_ContainsFuncF_g v178) fun y => .leaf (.bool y, L)
  | _ => .fail
theorem slices_ContainsFuncF_Fok : COk Try.prog 164 slices_ContainsFuncF_F true := by
  intro F L H args r L' hs ha hr
  unfold slices_ContainsFuncF_F at hr
  split at hr
  · rename_i a1
    obtain ⟨v178, hv178, hr⟩ := optT_run hr
    simp only [Tree.run] at hr
    obtain ⟨y, hy, hr⟩ := Option.bind_eq_some_iff.1 hr
    simp only [Tree.run, Option.some.injEq, Prod.mk.injEq] at hr
    obtain ⟨rfl, rfl⟩ := hr
    exact call_ok0 hs (fun k => (([a1.av F] : List AV)[k]?).getD .top) [a1, .fn 165 []] [.bslc (BR.root 0) (.f32 v178), .fn 165 []] (fun F' h0 hi hρ => ⟨by simp [DVs.av, DV.av, BR.av, hρ], slices_ContainsFuncF_fn v178 F' (by rw [hi]; rfl) (st_nil hi) ⟨bslc_ok hi (by rw [h0, hρ]; exact rowF32_ok hs (DVs.okAt ha 0 rfl) hv178), trivial, trivial⟩ hy⟩) rfl
  · cases hr
/-! impl.areFinite -/
noncomputable def impl_areFinite_LO (v177 : List Nat) : LOr := fun id e L =>
  match id with
  | _ => .fail
noncomputable def impl_areFinite_tab : List (FuncId × DFn × Bool) := [(164, slices_ContainsFuncF_F, true)]
theorem impl_areFinite_hO : OrcOk Try.prog (tabD impl_areFinite_tab) (tabM impl_areFinite_tab) := tabD_cons slices_ContainsFuncF_Fok (tabD_nil _)
noncomputable def impl_areFinite_T (v177 : List Nat) : Tree (Bool) :=
  (.call (slices_ContainsFuncF_g v177) fun v193 =>
  .leaf (!v193))

noncomputable def impl_areFinite_g (v177 : List Nat) : Option (Bool) := (impl_areFinite_T v177).run
def impl_areFinite_enc (v177 : List Nat) (y : Bool) : Rs := (.bool y, [])
theorem impl_areFinite_den (v177 : List Nat) : (den TT (tabD impl_areFinite_tab) (tabM impl_areFinite_tab) (impl_areFinite_LO v177) (codeOf Try.f135) ([.bslc (BR.root 0) (.f32 v177)] ++ List.replicate (Try.f135.ntmps - ([.bslc (BR.root 0) (.f32 v177)] : List DV).length) .undef) []).bind (retD TT Try.f135.results.toList 0) = (impl_areFinite_T v177).bind fun y => .leaf (impl_areFinite_enc v177 y) := by kernel_rfl
theorem impl_areFinite_fn (v177 : List Nat) (F : Fr) (hm : F.ids.length = 0) (h0 : St F [] F.H0) (hA : DVs.Ok F [] [.bslc (BR.root 0) (.f32 v177)]) {y : Bool} (hy : impl_areFinite_g v177 = some y) : ∃ H', FnOk Try.prog 135 (DVs.av F [.bslc (BR.root 0) (.f32 v177)]) F.H0 ((impl_areFinite_enc v177 y).1.av F) H' ∧ St F (impl_areFinite_enc v177 y).2 H' ∧ (impl_areFinite_enc v177 y).1.Ok F (impl_areFinite_enc v177 y).2 :=
  fn_fin tok impl_areFinite_hO mixed Try.func135 Try.call135 (by kernel_rfl) (LoopsOk_eq (l := []) (by kernel_rfl) trivial) (impl_areFinite_den v177) hy hm h0 hA
noncomputable def impl_areFinite_F : DFn := fun args L =>
  match args with
  | [a1] =>
    optT (rowF32 L a1) fun v177 =>
    .call (impl_areFinite_g v177) fun y => .leaf (.bool y, L)
  | _ => .fail
theorem impl_areFinite_Fok : COk Try.prog 135 impl_areFinite_F true := by
  intro F L H args r L' hs ha hr
  unfold impl_areFinite_F at hr
  split at hr
  · rename_i a1
    obtain ⟨v177, hv177, hr⟩ := optT_run hr
    simp only [Tree.run] at hr
    obtain ⟨y, hy, hr⟩ := Option.bind_eq_some_iff.1 hr
    simp only [Tree.run, Option.some.injEq, Prod.mk.injEq] at hr
    obtain ⟨rfl, rfl⟩ := hr
    exact call_ok0 hs (fun k => (([a1.av F] : List AV)[k]?).getD .top) [a1] [.bslc (BR.root 0) (.f32 v177)] (fun F' h0 hi hρ => ⟨by simp [DVs.av, DV.av, BR.av, hρ], impl_areFinite_fn v177 F' (by rw [hi]; rfl) (st_nil hi) ⟨bslc_ok hi (by rw [h0, hρ]; exact rowF32_ok hs (DVs.okAt ha 0 rfl) hv177), trivial⟩ hy⟩) rfl
  · cases hr
/-! impl.ValidMatrix -/
noncomputable def impl_ValidMatrix_LO (v169 : Int) (v170 : Int) (v171 : List Nat) : LOr := fun id e L =>
  match id with
  | _ => .fail
noncomputable def impl_ValidMatrix_tab : List (FuncId × DFn × Bool) := [(146, impl_isSide_F, true), (134, impl_lengthF_F, true), (135, impl_areFinite_F, true)]
theorem impl_ValidMatrix_hO : OrcOk Try.prog (tabD impl_ValidMatrix_tab) (tabM impl_ValidMatrix_tab) := tabD_cons impl_isSide_Fok (tabD_cons impl_lengthF_Fok (tabD_cons impl_areFinite_Fok (tabD_nil _)))
noncomputable def impl_ValidMatrix_T (v169 : Int) (v170 : Int) (v171 : List Nat) : Tree (Bool) :=
  (.br (impl_isSide_v v169) (
   (.br (impl_isSide_v v170) (
    (.br (decide ((impl_lengthF_v v171) = IntKind.i64.wrap (v169 * v170))) (
     (.call (impl_areFinite_g v171) fun v194 =>
     .leaf v194)
    ) (
     .leaf false
    ))
   ) (
    .leaf false
   ))
  ) (
   .leaf false
  ))

noncomputable def impl_ValidMatrix_g (v169 : Int) (v170 : Int) (v171 : List Nat) : Option (Bool) := (impl_ValidMatrix_T v169 v170 v171).run
def impl_ValidMatrix_enc (v169 : Int) (v170 : Int) (v171 : List Nat) (y : Bool) : Rs := (.bool y, [])
theorem impl_ValidMatrix_den (v169 : Int) (v170 : Int) (v171 : List Nat) : (den TT (tabD impl_ValidMatrix_tab) (tabM impl_ValidMatrix_tab) (impl_ValidMatrix_LO v169 v170 v171) (codeOf Try.f98) ([.agg [.int .i64 v169, .int .i64 v170, .bslc (BR.root 0) (.f32 v171)]] ++ List.replicate (Try.f98.ntmps - ([.agg [.int .i64 v169, .int .i64 v170, .bslc (BR.root 0) (.f32 v171)]] : List DV).length) .undef) []).bind (retD TT Try.f98.results.toList 0) = (impl_ValidMatrix_T v169 v170 v171).bind fun y => .leaf (impl_ValidMatrix_enc v169 v170 v171 y) := by kernel_rfl
theorem impl_ValidMatrix_fn (v169 : Int) (v170 : Int) (v171 : List Nat) (F : Fr) (hm : F.ids.length = 0) (h0 : St F [] F.H0) (hA : DVs.Ok F [] [.agg [.int .i64 v169, .int .i64 v170, .bslc (BR.root 0) (.f32 v171)]]) {y : Bool} (hy : impl_ValidMatrix_g v169 v170 v171 = some y) : ∃ H', FnOk Try.prog 98 (DVs.av F [.agg [.int .i64 v169, .int .i64 v170, .bslc (BR.root 0) (.f32 v171)]]) F.H0 ((impl_ValidMatrix_enc v169 v170 v171 y).1.av F) H' ∧ St F (impl_ValidMatrix_enc v169 v170 v171 y).2 H' ∧ (impl_ValidMatrix_enc v169 v170 v171 y).1.Ok F (impl_ValidMatrix_enc v169 v170 v171 y).2 :=
  fn_fin tok impl_ValidMatrix_hO mixed Try.func98 Try.call98 (by kernel_rfl) (LoopsOk_eq (l := []) (by kernel_rfl) trivial) (impl_ValidMatrix_den v169 v170 v171) hy hm h0 hA
noncomputable def impl_ValidMatrix_F : DFn := fun args L =>
  match args with
  | [.agg [.int .i64 v169, .int .i64 v170, a1]] =>
    optT (rowF32 L a1) fun v171 =>
    .call (impl_ValidMatrix_g v169 v170 v171) fun y => .leaf (.bool y, L)
  | _ => .fail
theorem impl_ValidMatrix_Fok : COk Try.prog 98 impl_ValidMatrix_F true := by
  intro F L H args r L' hs ha hr
  unfold impl_ValidMatrix_F at hr
  split at hr
  · rename_i v169 v170 a1
    obtain ⟨v171, hv171, hr⟩ := optT_run hr
    simp only [Tree.run] at hr
    obtain ⟨y, hy, hr⟩ := Option.bind_eq_some_iff.1 hr
    simp only [Tree.run, Option.some.injEq, Prod.mk.injEq] at hr
    obtain ⟨rfl, rfl⟩ := hr
    exact call_ok0 hs (fun k => (([a1.av F] : List AV)[k]?).getD .top) [.agg [.int .i64 v169, .int .i64 v170, a1]] [.agg [.int .i64 v169, .int .i64 v170, .bslc (BR.root 0) (.f32 v171)]] (fun F' h0 hi hρ => ⟨by simp [DVs.av, DV.av, BR.av, hρ], impl_ValidMatrix_fn v169 v170 v171 F' (by rw [hi]; rfl) (st_nil hi) ⟨⟨trivial, trivial, bslc_ok hi (by rw [h0, hρ]; exact rowF32_ok hs (DVs.okAt (DVs.okAt ha 0 rfl) 2 rfl) hv171), trivial⟩, trivial⟩ hy⟩) rfl
  · cases hr
/-! impl.isSquare -/
noncomputable def impl_isSquare_LO (v166 : Int) (v167 : Int) (v168 : List Nat) : LOr := fun id e L =>
  match id with
  | _ => .fail
noncomputable def impl_isSquare_tab : List (FuncId × DFn × Bool) := [(98, impl_ValidMatrix_F, true)]
theorem impl_isSquare_hO : OrcOk Try.prog (tabD impl_isSquare_tab) (tabM impl_isSquare_tab) := tabD_cons impl_ValidMatrix_Fok (tabD_nil _)
noncomputable def impl_isSquare_T (v166 : Int) (v167 : Int) (v168 : List Nat) : Tree (Bool) :=
  (.call (impl_ValidMatrix_g v166 v167 v168) fun v195 =>
  (.br v195 (
   .leaf (decide (v166 = v167))
  ) (
   .leaf false
  )))

noncomputable def impl_isSquare_g (v166 : Int) (v167 : Int) (v168 : List Nat) : Option (Bool) := (impl_isSquare_T v166 v167 v168).run
def impl_isSquare_enc (v166 : Int) (v167 : Int) (v168 : List Nat) (y : Bool) : Rs := (.bool y, [])
theorem impl_isSquare_den (v166 : Int) (v167 : Int) (v168 : List Nat) : (den TT (tabD impl_isSquare_tab) (tabM impl_isSquare_tab) (impl_isSquare_LO v166 v167 v168) (codeOf Try.f89) ([.agg [.int .i64 v166, .int .i64 v167, .bslc (BR.root 0) (.f32 v168)]] ++ List.replicate (Try.f89.ntmps - ([.agg [.int .i64 v166, .int .i64 v167, .bslc (BR.root 0) (.f32 v168)]] : List DV).length) .undef) []).bind (retD TT Try.f89.results.toList 0) = (impl_isSquare_T v166 v167 v168).bind fun y => .leaf (impl_isSquare_enc v166 v167 v168 y) := by kernel_rfl
theorem impl_isSquare_fn (v166 : Int) (v167 : Int) (v168 : List Nat) (F : Fr) (hm : F.ids.length = 0) (h0 : St F [] F.H0) (hA : DVs.Ok F [] [.agg [.int .i64 v166, .int .i64 v167, .bslc (BR.root 0) (.f32 v168)]]) {y : Bool} (hy : impl_isSquare_g v166 v167 v168 = some y) : ∃ H', FnOk Try.prog 89 (DVs.av F [.agg [.int .i64 v166, .int .i64 v167, .bslc (BR.root 0) (.f32 v168)]]) F.H0 ((impl_isSquare_enc v166 v167 v168 y).1.av F) H' ∧ St F (impl_isSquare_enc v166 v167 v168 y).2 H' ∧ (impl_isSquare_enc v166 v167 v168 y).1.Ok F (impl_isSquare_enc v166 v167 v168 y).2 :=
  fn_fin tok impl_isSquare_hO mixed Try.func89 Try.call89 (by kernel_rfl) (LoopsOk_eq (l := []) (by kernel_rfl) trivial) (impl_isSquare_den v166 v167 v168) hy hm h0 hA
noncomputable def impl_isSquare_F : DFn := fun args L =>
  match args with
  | [.agg [.int .i64 v166, .int .i64 v167, a1]] =>
    optT (rowF32 L a1) fun v168 =>
    .call (impl_isSquare_g v166 v167 v168) fun y => .leaf (.bool y, L)
  | _ => .fail
theorem impl_isSquare_Fok : COk Try.prog 89 impl_isSquare_F true := by
  intro F L H args r L' hs ha hr
  unfold impl_isSquare_F at hr
  split at hr
  · rename_i v166 v167 a1
    obtain ⟨v168, hv168, hr⟩ := optT_run hr
    simp only [Tree.run] at hr
    obtain ⟨y, hy, hr⟩ := Option.bind_eq_some_iff.1 hr
    simp only [Tree.run, Option.some.injEq, Prod.mk.injEq] at hr
    obtain ⟨rfl, rfl⟩ := hr
    exact call_ok0 hs (fun k => (([a1.av F] : List AV)[k]?).getD .top) [.agg [.int .i64 v166, .int .i64 v167, a1]] [.agg [.int .i64 v166, .int .i64 v167, .bslc (BR.root 0) (.f32 v168)]] (fun F' h0 hi hρ => ⟨by simp [DVs.av, DV.av, BR.av, hρ], impl_isSquare_fn v166 v167 v168 F' (by rw [hi]; rfl) (st_nil hi) ⟨⟨trivial, trivial, bslc_ok hi (by rw [h0, hρ]; exact rowF32_ok hs (DVs.okAt (DVs.okAt ha 0 rfl) 2 rfl) hv168), trivial⟩, trivial⟩ hy⟩) rfl
  · cases hr
/-! (impl.Matrix).at -/
noncomputable def impl_Matrix_at_LO (v201 : Int) (v202 : Int) (v203 : List Nat) (v204 : Int) (v205 : Int) : LOr := fun id e L =>
  match id with
  | _ => .fail
noncomputable def impl_Matrix_at_tab : List (FuncId × DFn × Bool) := []
theorem impl_Matrix_at_hO : OrcOk Try.prog (tabD impl_Matrix_at_tab) (tabM impl_Matrix_at_tab) := tabD_nil _
noncomputable def impl_Matrix_at_T (v202 : Int) (v203 : List Nat) (v204 : Int) (v205 : Int) : Tree (Nat) :=
  (.grd (inb (IntKind.i64.wrap ((IntKind.i64.wrap (v204 * v202)) + v205)) v203.length) <|
  .leaf (nth v203 (Int.toNat (IntKind.i64.wrap ((IntKind.i64.wrap (v204 * v202)) + v205)))))

noncomputable def impl_Matrix_at_g (v202 : Int) (v203 : List Nat) (v204 : Int) (v205 : Int) : Option (Nat) := (impl_Matrix_at_T v202 v203 v204 v205).run
def impl_Matrix_at_enc (v201 : Int) (v202 : Int) (v203 : List Nat) (v204 : Int) (v205 : Int) (y : Nat) : Rs := (.flt .f32 y, [])
theorem impl_Matrix_at_den (v201 : Int) (v202 : Int) (v203 : List Nat) (v204 : Int) (v205 : Int) : (den TT (tabD impl_Matrix_at_tab) (tabM impl_Matrix_at_tab) (impl_Matrix_at_LO v201 v202 v203 v204 v205) (codeOf Try.f93) ([.agg [.int .i64 v201, .int .i64 v202, .bslc (BR.root 0) (.f32 v203)], .int .i64 v204, .int .i64 v205] ++ List.replicate (Try.f93.ntmps - ([.agg [.int .i64 v201, .int .i64 v202, .bslc (BR.root 0) (.f32 v203)], .int .i64 v204, .int .i64 v205] : List DV).length) .undef) []).bind (retD TT Try.f93.results.toList 0) = (impl_Matrix_at_T v202 v203 v204 v205).bind fun y => .leaf (impl_Matrix_at_enc v201 v202 v203 v204 v205 y) := by kernel_rfl
theorem impl_Matrix_at_fn (v201 : Int) (v202 : Int) (v203 : List Nat) (v204 : Int) (v205 : Int) (F : Fr) (hm : F.ids.length = 0) (h0 : St F [] F.H0) (hA : DVs.Ok F [] [.agg [.int .i64 v201, .int .i64 v202, .bslc (BR.root 0) (.f32 v203)], .int .i64 v204, .int .i64 v205]) {y : Nat} (hy : impl_Matrix_at_g v202 v203 v204 v205 = some y) : ∃ H', FnOk Try.prog 93 (DVs.av F [.agg [.int .i64 v201, .int .i64 v202, .bslc (BR.root 0) (.f32 v203)], .int .i64 v204, .int .i64 v205]) F.H0 ((impl_Matrix_at_enc v201 v202 v203 v204 v205 y).1.av F) H' ∧ St F (impl_Matrix_at_enc v201 v202 v203 v204 v205 y).2 H' ∧ (impl_Matrix_at_enc v201 v202 v203 v204 v205 y).1.Ok F (impl_Matrix_at_enc v201 v202 v203 v204 v205 y).2 :=
  fn_fin tok impl_Matrix_at_hO mixed Try.func93 Try.call93 (by kernel_rfl) (LoopsOk_eq (l := []) (by kernel_rfl) trivial) (impl_Matrix_at_den v201 v202 v203 v204 v205) hy hm h0 hA
noncomputable def impl_Matrix_at_F : DFn := fun args L =>
  match args with
  | [.agg [.int .i64 v201, .int .i64 v202, a1], .int .i64 v204, .int .i64 v205] =>
    optT (rowF32 L a1) fun v203 =>
    .call (impl_Matrix_at_g v202 v203 v204 v205) fun y => .leaf (.flt .f32 y, L)
  | _ => .fail
theorem impl_Matrix_at_Fok : COk Try.prog 93 impl_Matrix_at_F true := by
  intro F L H args r L' hs ha hr
  unfold impl_Matrix_at_F at hr
  split at hr
  · rename_i v201 v202 a1 v204 v205
    obtain ⟨v203, hv203, hr⟩ := optT_run hr
    simp only [Tree.run] at hr
    obtain ⟨y, hy, hr⟩ := Option.bind_eq_some_iff.1 hr
    simp only [Tree.run, Option.some.injEq, Prod.mk.injEq] at hr
    obtain ⟨rfl, rfl⟩ := hr
    exact call_ok0 hs (fun k => (([a1.av F] : List AV)[k]?).getD .top) [.agg [.int .i64 v201, .int .i64 v202, a1], .int .i64 v204, .int .i64 v205] [.agg [.int .i64 v201, .int .i64 v202, .bslc (BR.root 0) (.f32 v203)], .int .i64 v204, .int .i64 v205] (fun F' h0 hi hρ => ⟨by simp [DVs.av, DV.av, BR.av, hρ], impl_Matrix_at_fn v201 v202 v203 v204 v205 F' (by rw [hi]; rfl) (st_nil hi) ⟨⟨trivial, trivial, bslc_ok hi (by rw [h0, hρ]; exact rowF32_ok hs (DVs.okAt (DVs.okAt ha 0 rfl) 2 rfl) hv203), trivial⟩, trivial, trivial, trivial⟩ hy⟩) rfl
  · cases hr
/-! (impl.Matrix).middle -/
noncomputable def impl_Matrix_middle_l0_T (v197 : Int) (v198 : Int) (v199 : List Nat) (s : Int × (List Nat)) : Tree ((Int × (List Nat)) ⊕ ((List Nat))) :=
  (.br (decide (s.1 < imin v197 v198)) (
   (.call (impl_Matrix_at_g v198 v199 s.1 s.1) fun v212 =>
   (.grd (fits (s.2 ++ ([v212] : List Nat)).length) <|
   .leaf (.inl (IntKind.i64.wrap (s.1 + (1 : Int)), s.2 ++ ([v212] : List Nat)))))
  ) (
   .leaf (.inr s.2)
  ))

noncomputable def impl_Matrix_middle_l0_g (v197 : Int) (v198 : Int) (v199 : List Nat) (s0 : Int × (List Nat)) : Option ((List Nat)) := whileM (fun s => (impl_Matrix_middle_l0_T v197 v198 v199 s).run) s0
def impl_Matrix_middle_l0_E (v197 : Int) (v198 : Int) (v199 : List Nat) (s : Int × (List Nat)) : Sd := ([.top, .ptr 0 (0 : Nat) 0 (3 : Nat), .top, .own 1 0 ((s.2).length), .top, .top, .top, .top, .top, .top, .int .i64 (imin v197 v198), .int .i64 s.1, .top, .top, .top, .top, .top, .top, .top, .top, .top, .top, .top], [.gen [.int .i64 v197, .int .i64 v198, .bslc (BR.root 0) (.f32 v199)] false 0, .row (.f32 s.2) 0])
def impl_Matrix_middle_l0_X (v197 : Int) (v198 : Int) (v199 : List Nat) (x : (List Nat)) : Out := (.normal, [.top, .top, .top, .own 0 0 ((x).length), .top, .top, .top, .top, .top, .top, .top, .top, .top, .top, .top, .top, .top, .top, .top, .top, .top, .top, .top], [.row (.f32 x) 0])
def impl_Matrix_middle_l0_kill : List Nat := [1, 0, 1, 0, 1, 1, 1, 1, 1, 1, 0, 0, 1, 1, 1, 1, 1, 1, 1, 1, 1, 1, 1]
def impl_Matrix_middle_l0_nx : Exit → List Nat
  | .exit 0 => [1, 1, 1, 0, 1, 1, 1, 1, 1, 1, 1, 1, 1, 1, 1, 1, 1, 1, 1, 1, 1, 1, 1]
  | .ret => [1, 1, 0, 1, 1, 1, 1, 1, 1, 1, 1, 1, 1, 1, 1, 1, 1, 1, 1, 1, 1, 1, 1]
  | _ => []
noncomputable def impl_Matrix_middle_LO (v197 : Int) (v198 : Int) (v199 : List Nat) : LOr := fun id e L =>
  match id with
  | 0 => .need (normA 0 impl_Matrix_middle_l0_kill e L = some (impl_Matrix_middle_l0_E v197 v198 v199 ((gI (vAt e 11)), (gRF L (vAt e 3))))) (.call (impl_Matrix_middle_l0_g v197 v198 v199 ((gI (vAt e 11)), (gRF L (vAt e 3)))) fun x => .leaf (impl_Matrix_middle_l0_X v197 v198 v199 x))
  | _ => .fail
noncomputable def impl_Matrix_middle_tab : List (FuncId × DFn × Bool) := [(93, impl_Matrix_at_F, true)]
theorem impl_Matrix_middle_hO : OrcOk Try.prog (tabD impl_Matrix_middle_tab) (tabM impl_Matrix_middle_tab) := tabD_cons impl_Matrix_at_Fok (tabD_nil _)
theorem impl_Matrix_middle_l0_be (v197 : Int) (v198 : Int) (v199 : List Nat) (s : Int × (List Nat)) : bodyT TT (tabD impl_Matrix_middle_tab) (tabM impl_Matrix_middle_tab) (impl_Matrix_middle_LO v197 v198 v199) 0 impl_Matrix_middle_l0_kill impl_Matrix_middle_l0_nx (bodyOf Try.f113 0) 0 (impl_Matrix_middle_l0_E v197 v198 v199 s) = (impl_Matrix_middle_l0_T v197 v198 v199 s).bind fun y => .leaf (outS (impl_Matrix_middle_l0_E v197 v198 v199) (impl_Matrix_middle_l0_X v197 v198 v199) y) := by kernel_rfl
theorem impl_Matrix_middle_l0_ok (v197 : Int) (v198 : Int) (v199 : List Nat) : LSound Try.prog 0 (impl_Matrix_middle_LO v197 v198 v199) 0 (bodyOf Try.f113 0) := by
  intro e L out h
  exact lo_ok (E := impl_Matrix_middle_l0_E v197 v198 v199) (gT := impl_Matrix_middle_l0_T v197 v198 v199) (X := impl_Matrix_middle_l0_X v197 v198 v199) (s0 := ((gI (vAt e 11)), (gRF L (vAt e 3)))) tok impl_Matrix_middle_hO mixed (LoopsOk_eq (l := []) (by kernel_rfl) trivial) (impl_Matrix_middle_l0_be v197 v198 v199) rfl (by intro x; rfl) h
noncomputable def impl_Matrix_middle_T (v197 : Int) (v198 : Int) (v199 : List Nat) : Tree ((List Nat)) :=
  (.need (some (impl_Matrix_middle_l0_E v197 v198 v199 ((0 : Int), ([] : List Nat))) = some (impl_Matrix_middle_l0_E v197 v198 v199 ((0 : Int), ([] : List Nat)))) <|
  (.call (impl_Matrix_middle_l0_g v197 v198 v199 ((0 : Int), ([] : List Nat))) fun v213 =>
  .leaf v213))

noncomputable def impl_Matrix_middle_g (v197 : Int) (v198 : Int) (v199 : List Nat) : Option ((List Nat)) := (impl_Matrix_middle_T v197 v198 v199).run
def impl_Matrix_middle_enc (v197 : Int) (v198 : Int) (v199 : List Nat) (y : (List Nat)) : Rs := (.own 0 0 ((y).length), [.row (.f32 y) 0])
theorem impl_Matrix_middle_den (v197 : Int) (v198 : Int) (v199 : List Nat) : (den TT (tabD impl_Matrix_middle_tab) (tabM impl_Matrix_middle_tab) (impl_Matrix_middle_LO v197 v198 v199) (codeOf Try.f113) ([.agg [.int .i64 v197, .int .i64 v198, .bslc (BR.root 0) (.f32 v199)]] ++ List.replicate (Try.f113.ntmps - ([.agg [.int .i64 v197, .int .i64 v198, .bslc (BR.root 0) (.f32 v199)]] : List DV).length) .undef) []).bind (retD TT Try.f113.results.toList 0) = (impl_Matrix_middle_T v197 v198 v199).bind fun y => .leaf (impl_Matrix_middle_enc v197 v198 v199 y) := by kernel_rfl
theorem impl_Matrix_middle_fn (v197 : Int) (v198 : Int) (v199 : List Nat) (F : Fr) (hm : F.ids.length = 0) (h0 : St F [] F.H0) (hA : DVs.Ok F [] [.agg [.int .i64 v197, .int .i64 v198, .bslc (BR.root 0) (.f32 v199)]]) {y : (List Nat)} (hy : impl_Matrix_middle_g v197 v198 v199 = some y) : ∃ H', FnOk Try.prog 113 (DVs.av F [.agg [.int .i64 v197, .int .i64 v198, .bslc (BR.root 0) (.f32 v199)]]) F.H0 ((impl_Matrix_middle_enc v197 v198 v199 y).1.av F) H' ∧ St F (impl_Matrix_middle_enc v197 v198 v199 y).2 H' ∧ (impl_Matrix_middle_enc v197 v198 v199 y).1.Ok F (impl_Matrix_middle_enc v197 v198 v199 y).2 :=
  fn_fin tok impl_Matrix_middle_hO mixed Try.func113 Try.call113 (by kernel_rfl) (LoopsOk_eq (l := [(0, bodyOf Try.f113 0)]) (by kernel_rfl) ⟨impl_Matrix_middle_l0_ok v197 v198 v199, trivial⟩) (impl_Matrix_middle_den v197 v198 v199) hy hm h0 hA
noncomputable def impl_Matrix_middle_F : DFn := fun args L =>
  match args with
  | [.agg [.int .i64 v197, .int .i64 v198, a1]] =>
    optT (rowF32 L a1) fun v199 =>
    .call (impl_Matrix_middle_g v197 v198 v199) fun y => .leaf (.own (L.length + 0) 0 ((y).length), L ++ [.row (.f32 y) 0])
  | _ => .fail
theorem impl_Matrix_middle_Fok : COk Try.prog 113 impl_Matrix_middle_F true := by
  intro F L H args r L' hs ha hr
  unfold impl_Matrix_middle_F at hr
  split at hr
  · rename_i v197 v198 a1
    obtain ⟨v199, hv199, hr⟩ := optT_run hr
    simp only [Tree.run] at hr
    obtain ⟨y, hy, hr⟩ := Option.bind_eq_some_iff.1 hr
    simp only [Tree.run, Option.some.injEq, Prod.mk.injEq] at hr
    obtain ⟨rfl, rfl⟩ := hr
    exact call_ok1 hs (fun k => (([a1.av F] : List AV)[k]?).getD .top) [.agg [.int .i64 v197, .int .i64 v198, a1]] [.agg [.int .i64 v197, .int .i64 v198, .bslc (BR.root 0) (.f32 v199)]] (fun F' h0 hi hρ => ⟨by simp [DVs.av, DV.av, BR.av, hρ], impl_Matrix_middle_fn v197 v198 v199 F' (by rw [hi]; rfl) (st_nil hi) ⟨⟨trivial, trivial, bslc_ok hi (by rw [h0, hρ]; exact rowF32_ok hs (DVs.okAt (DVs.okAt ha 0 rfl) 2 rfl) hv199), trivial⟩, trivial⟩ hy⟩) rfl rfl
  · cases hr
/-! slices.Index[list of float32,float32] -/
noncomputable def slices_IndexF_l0_T (v217 : List Nat) (v218 : Nat) (s : Int) : Tree ((Int) ⊕ ((Int) ⊕ (Unit))) :=
  (.br (decide (s < ((v217.length : Nat) : Int))) (
   (.grd (inb s v217.length) <|
   (.br (feq .f32 v218 (nth v217 (Int.toNat s))) (
    .leaf (.inr (.inl s))
   ) (
    .leaf (.inl (IntKind.i64.wrap (s + (1 : Int))))
   )))
  ) (
   .leaf (.inr (.inr ()))
  ))

noncomputable def slices_IndexF_l0_g (v217 : List Nat) (v218 : Nat) (s0 : Int) : Option ((Int) ⊕ (Unit)) := whileM (fun s => (slices_IndexF_l0_T v217 v218 s).run) s0
def slices_IndexF_l0_E (v217 : List Nat) (v218 : Nat) (s : Int) : Sd := ([.bslc (BR.root 0) (.f32 v217), .flt .f32 v218, .top, .top, .top, .top, .top, .int .i64 ((v217.length : Nat) : Int), .int .i64 s, .top, .top, .top, .top, .top, .top, .top, .top, .top, .top], [])
def slices_IndexF_l0_X (v217 : List Nat) (v218 : Nat) (x : (Int) ⊕ (Unit)) : Out := (match x with | .inl x => (.ret, [.top, .top, .top, .top, .int .i64 x, .top, .top, .top, .top, .top, .top, .top, .top, .top, .top, .top, .top, .top, .top], []) | .inr x => (.normal, [.top, .top, .top, .top, .top, .top, .top, .top, .top, .top, .top, .top, .top, .top, .top, .top, .top, .top, .top], []))
def slices_IndexF_l0_kill : List Nat := [0, 0, 1, 1, 1, 1, 1, 0, 0, 1, 1, 1, 1, 1, 1, 1, 1, 1, 1]
def slices_IndexF_l0_nx : Exit → List Nat
  | .exit 0 => [1, 1, 1, 1, 1, 1, 1, 1, 1, 1, 1, 1, 1, 1, 1, 1, 1, 1, 1]
  | .ret => [1, 1, 1, 1, 0, 1, 1, 1, 1, 1, 1, 1, 1, 1, 1, 1, 1, 1, 1]
  | _ => []
noncomputable def slices_IndexF_LO (v217 : List Nat) (v218 : Nat) : LOr := fun id e L =>
  match id with
  | 0 => .need (normA 0 slices_IndexF_l0_kill e L = some (slices_IndexF_l0_E v217 v218 (gI (vAt e 8)))) (.call (slices_IndexF_l0_g v217 v218 (gI (vAt e 8))) fun x => .sum x (fun b0 => .leaf (slices_IndexF_l0_X v217 v218 (.inl b0))) (fun c0 => .leaf (slices_IndexF_l0_X v217 v218 (.inr c0))))
  | _ => .fail
noncomputable def slices_IndexF_tab : List (FuncId × DFn × Bool) := []
theorem slices_IndexF_hO : OrcOk Try.prog (tabD slices_IndexF_tab) (tabM slices_IndexF_tab) := tabD_nil _
theorem slices_IndexF_l0_be (v217 : List Nat) (v218 : Nat) (s : Int) : bodyT TT (tabD slices_IndexF_tab) (tabM slices_IndexF_tab) (slices_IndexF_LO v217 v218) 0 slices_IndexF_l0_kill slices_IndexF_l0_nx (bodyOf Try.f155 0) 0 (slices_IndexF_l0_E v217 v218 s) = (slices_IndexF_l0_T v217 v218 s).bind fun y => .leaf (outS (slices_IndexF_l0_E v217 v218) (slices_IndexF_l0_X v217 v218) y) := by kernel_rfl
theorem slices_IndexF_l0_ok (v217 : List Nat) (v218 : Nat) : LSound Try.prog 0 (slices_IndexF_LO v217 v218) 0 (bodyOf Try.f155 0) := by
  intro e L out h
  exact lo_ok (E := slices_IndexF_l0_E v217 v218) (gT := slices_IndexF_l0_T v217 v218) (X := slices_IndexF_l0_X v217 v218) (s0 := (gI (vAt e 8))) tok slices_IndexF_hO mixed (LoopsOk_eq (l := []) (by kernel_rfl) trivial) (slices_IndexF_l0_be v217 v218) rfl (by intro x; (cases x with | inl b => rfl | inr x => exact rfl)) h
noncomputable def slices_IndexF_T (v217 : List Nat) (v218 : Nat) : Tree (Int) :=
  (.need (some (slices_IndexF_l0_E v217 v218 (0 : Int)) = some (slices_IndexF_l0_E v217 v218 (0 : Int))) <|
  (.call (slices_IndexF_l0_g v217 v218 (0 : Int)) fun v222 =>
  (.sum v222 (fun v223 =>
   .leaf v223
  ) (fun v224 =>
   .leaf (-1 : Int)
  ))))

noncomputable def slices_IndexF_g (v217 : List Nat) (v218 : Nat) : Option (Int) := (slices_IndexF_T v217 v218).run
def slices_IndexF_enc (v217 : List Nat) (v218 : Nat) (y : Int) : Rs := (.int .i64 y, [])
theorem slices_IndexF_den (v217 : List Nat) (v218 : Nat) : (den TT (tabD slices_IndexF_tab) (tabM slices_IndexF_tab) (slices_IndexF_LO v217 v218) (codeOf Try.f155) ([.bslc (BR.root 0) (.f32 v217), .flt .f32 v218] ++ List.replicate (Try.f155.ntmps - ([.bslc (BR.root 0) (.f32 v217), .flt .f32 v218] : List DV).length) .undef) []).bind (retD TT Try.f155.results.toList 0) = (slices_IndexF_T v217 v218).bind fun y => .leaf (slices_IndexF_enc v217 v218 y) := by kernel_rfl
theorem slices_IndexF_fn (v217 : List Nat) (v218 : Nat) (F : Fr) (hm : F.ids.length = 0) (h0 : St F [] F.H0) (hA : DVs.Ok F [] [.bslc (BR.root 0) (.f32 v217), .flt .f32 v218]) {y : Int} (hy : slices_IndexF_g v217 v218 = some y) : ∃ H', FnOk Try.prog 155 (DVs.av F [.bslc (BR.root 0) (.f32 v217), .flt .f32 v218]) F.H0 ((slices_IndexF_enc v217 v218 y).1.av F) H' ∧ St F (slices_IndexF_enc v217 v218 y).2 H' ∧ (slices_IndexF_enc v217 v218 y).1.Ok F (slices_IndexF_enc v217 v218 y).2 :=
  fn_fin tok slices_IndexF_hO mixed Try.func155 Try.call155 (by kernel_rfl) (LoopsOk_eq (l := [(0, bodyOf Try.f155 0)]) (by kernel_rfl) ⟨slices_IndexF_l0_ok v217 v218, trivial⟩) (slices_IndexF_den v217 v218) hy hm h0 hA
noncomputable def slices_IndexF_F : DFn := fun args L =>
  match args with
  | [a1, .flt .f32 v218] =>
    optT (rowF32 L a1) fun v217 =>
    .call (slices_IndexF_g v217 v218) fun y => .leaf (.int .i64 y, L)
  | _ => .fail
theorem slices_IndexF_Fok : COk Try.prog 155 slices_IndexF_F true := by
  intro F L H args r L' hs ha hr
  unfold slices_IndexF_F at hr
  split at hr
  · rename_i a1 v218
    obtain ⟨v217, hv217, hr⟩ := optT_run hr
    simp only [Tree.run] at hr
    obtain ⟨y, hy, hr⟩ := Option.bind_eq_some_iff.1 hr
    simp only [Tree.run, Option.some.injEq, Prod.mk.injEq] at hr
    obtain ⟨rfl, rfl⟩ := hr
    exact call_ok0 hs (fun k => (([a1.av F] : List AV)[k]?).getD .top) [a1, .flt .f32 v218] [.bslc (BR.root 0) (.f32 v217), .flt .f32 v218] (fun F' h0 hi hρ => ⟨by simp [DVs.av, DV.av, BR.av, hρ], slices_IndexF_fn v217 v218 F' (by rw [hi]; rfl) (st_nil hi) ⟨bslc_ok hi (by rw [h0, hρ]; exact rowF32_ok hs (DVs.okAt ha 0 rfl) hv217), trivial, trivial⟩ hy⟩) rfl
  · cases hr
/-! slices.Contains[list of float32,float32] -/
noncomputable def slices_ContainsF_LO (v215 : List Nat) (v216 : Nat) : LOr := fun id e L =>
  match id with
  | _ => .fail
noncomputable def slices_ContainsF_tab : List (FuncId × DFn × Bool) := [(155, slices_IndexF_F, true)]
theorem slices_ContainsF_hO : OrcOk Try.prog (tabD slices_ContainsF_tab) (tabM slices_ContainsF_tab) := tabD_cons slices_IndexF_Fok (tabD_nil _)
noncomputable def slices_ContainsF_T (v215 : List Nat) (v216 : Nat) : Tree (Bool) :=
  (.call (slices_IndexF_g v215 v216) fun v225 =>
  .leaf (decide ((0 : Int) ≤ v225)))

noncomputable def slices_ContainsF_g (v215 : List Nat) (v216 : Nat) : Option (Bool) := (slices_ContainsF_T v215 v216).run
def slices_ContainsF_enc (v215 : List Nat) (v216 : Nat) (y : Bool) : Rs := (.bool y, [])
theorem slices_ContainsF_den (v215 : List Nat) (v216 : Nat) : (den TT (tabD slices_ContainsF_tab) (tabM slices_ContainsF_tab) (slices_ContainsF_LO v215 v216) (codeOf Try.f112) ([.bslc (BR.root 0) (.f32 v215), .flt .f32 v216] ++ List.replicate (Try.f112.ntmps - ([.bslc (BR.root 0) (.f32 v215), .flt .f32 v216] : List DV).length) .undef) []).bind (retD TT Try.f112.results.toList 0) = (slices_ContainsF_T v215 v216).bind fun y => .leaf (slices_ContainsF_enc v215 v216 y) := by kernel_rfl
theorem slices_ContainsF_fn (v215 : List Nat) (v216 : Nat) (F : Fr) (hm : F.ids.length = 0) (h0 : St F [] F.H0) (hA : DVs.Ok F [] [.bslc (BR.root 0) (.f32 v215), .flt .f32 v216]) {y : Bool} (hy : slices_ContainsF_g v215 v216 = some y) : ∃ H', FnOk Try.prog 112 (DVs.av F [.bslc (BR.root 0) (.f32 v215), .flt .f32 v216]) F.H0 ((slices_ContainsF_enc v215 v216 y).1.av F) H' ∧ St F (slices_ContainsF_enc v215 v216 y).2 H' ∧ (slices_ContainsF_enc v215 v216 y).1.Ok F (slices_ContainsF_enc v215 v216 y).2 :=
  fn_fin tok slices_ContainsF_hO mixed Try.func112 Try.call112 (by kernel_rfl) (LoopsOk_eq (l := []) (by kernel_rfl) trivial) (slices_ContainsF_den v215 v216) hy hm h0 hA
noncomputable def slices_ContainsF_F : DFn := fun args L =>
  match args with
  | [a1, .flt .f32 v216] =>
    optT (rowF32 L a1) fun v215 =>
    .call (slices_ContainsF_g v215 v216) fun y => .leaf (.bool y, L)
  | _ => .fail
theorem slices_ContainsF_Fok : COk Try.prog 112 slices_ContainsF_F true := by
  intro F L H args r L' hs ha hr
  unfold slices_ContainsF_F at hr
  split at hr
  · rename_i a1 v216
    obtain ⟨v215, hv215, hr⟩ := optT_run hr
    simp only [Tree.run] at hr
    obtain ⟨y, hy, hr⟩ := Option.bind_eq_some_iff.1 hr
    simp only [Tree.run, Option.some.injEq, Prod.mk.injEq] at hr
    obtain ⟨rfl, rfl⟩ := hr
    exact call_ok0 hs (fun k => (([a1.av F] : List AV)[k]?).getD .top) [a1, .flt .f32 v216] [.bslc (BR.root 0) (.f32 v215), .flt .f32 v216] (fun F' h0 hi hρ => ⟨by simp [DVs.av, DV.av, BR.av, hρ], slices_ContainsF_fn v215 v216 F' (by rw [hi]; rfl) (st_nil hi) ⟨bslc_ok hi (by rw [h0, hρ]; exact rowF32_ok hs (DVs.okAt ha 0 rfl) hv215), trivial, trivial⟩ hy⟩) rfl
  · cases hr
/-! impl.length[int64] -/
noncomputable def impl_lengthI_LO (v228 : List Int) : LOr := fun id e L =>
  match id with
  | _ => .fail
noncomputable def impl_lengthI_tab : List (FuncId × DFn × Bool) := []
theorem impl_lengthI_hO : OrcOk Try.prog (tabD impl_lengthI_tab) (tabM impl_lengthI_tab) := tabD_nil _
noncomputable def impl_lengthI_T (v228 : List Int) : Tree (Int) :=
  .leaf ((v228.length : Nat) : Int)

noncomputable def impl_lengthI_g (v228 : List Int) : Option (Int) := (impl_lengthI_T v228).run
def impl_lengthI_enc (v228 : List Int) (y : Int) : Rs := (.int .i64 y, [])
theorem impl_lengthI_den (v228 : List Int) : (den TT (tabD impl_lengthI_tab) (tabM impl_lengthI_tab) (impl_lengthI_LO v228) (codeOf Try.f109) ([.bslc (BR.root 0) (.i64 v228)] ++ List.replicate (Try.f109.ntmps - ([.bslc (BR.root 0) (.i64 v228)] : List DV).length) .undef) []).bind (retD TT Try.f109.results.toList 0) = (impl_lengthI_T v228).bind fun y => .leaf (impl_lengthI_enc v228 y) := by kernel_rfl
theorem impl_lengthI_fn (v228 : List Int) (F : Fr) (hm : F.ids.length = 0) (h0 : St F [] F.H0) (hA : DVs.Ok F [] [.bslc (BR.root 0) (.i64 v228)]) {y : Int} (hy : impl_lengthI_g v228 = some y) : ∃ H', FnOk Try.prog 109 (DVs.av F [.bslc (BR.root 0) (.i64 v228)]) F.H0 ((impl_lengthI_enc v228 y).1.av F) H' ∧ St F (impl_lengthI_enc v228 y).2 H' ∧ (impl_lengthI_enc v228 y).1.Ok F (impl_lengthI_enc v228 y).2 :=
  fn_fin tok impl_lengthI_hO mixed Try.func109 Try.call109 (by kernel_rfl) (LoopsOk_eq (l := []) (by kernel_rfl) trivial) (impl_lengthI_den v228) hy hm h0 hA
def impl_lengthI_v (v228 : List Int) : Int :=
  ((v228.length : Nat) : Int)
theorem impl_lengthI_tot (v228 : List Int) : impl_lengthI_g v228 = some (impl_lengthI_v v228) := by
  unfold impl_lengthI_g impl_lengthI_T impl_lengthI_v
  simp only [Tree.run]
  repeat' (first | rfl | split)
noncomputable def impl_lengthI_F : DFn := fun args L =>
  match args with
  | [a1] =>
    optT (rowI64 L a1) fun v228 =>
    .leaf (.int .i64 (impl_lengthI_v v228), L)
  | _ => .fail
theorem impl_lengthI_Fok : COk Try.prog 109 impl_lengthI_F true := by
  intro F L H args r L' hs ha hr
  unfold impl_lengthI_F at hr
  split at hr
  · rename_i a1
    obtain ⟨v228, hv228, hr⟩ := optT_run hr
    have hy := impl_lengthI_tot v228
    generalize impl_lengthI_v v228 = y at hy hr
    simp only [Tree.run, Option.some.injEq, Prod.mk.injEq] at hr
    obtain ⟨rfl, rfl⟩ := hr
    exact call_ok0 hs (fun k => (([a1.av F] : List AV)[k]?).getD .top) [a1] [.bslc (BR.root 0) (.i64 v228)] (fun F' h0 hi hρ => ⟨by simp [DVs.av, DV.av, BR.av, hρ], impl_lengthI_fn v228 F' (by rw [hi]; rfl) (st_nil hi) ⟨bslc_ok hi (by rw [h0, hρ]; exact rowI64_ok hs (DVs.okAt ha 0 rfl) hv228), trivial⟩ hy⟩) rfl
  · cases hr
/-! impl.IsOrder -/
noncomputable def impl_IsOrder_LO (v227 : List Int) : LOr := fun id e L =>
  match id with
  | _ => .fail
noncomputable def impl_IsOrder_tab : List (FuncId × DFn × Bool) := [(109, impl_lengthI_F, true), (146, impl_isSide_F, true), (154, Perm_F, true)]
theorem impl_IsOrder_hO : OrcOk Try.prog (tabD impl_IsOrder_tab) (tabM impl_IsOrder_tab) := tabD_cons impl_lengthI_Fok (tabD_cons impl_isSide_Fok (tabD_cons Perm_Fok (tabD_nil _)))
noncomputable def impl_IsOrder_T (v227 : List Int) : Tree (Bool) :=
  (.br (impl_isSide_v (impl_lengthI_v v227)) (
   (.grd (decide (0 < v227.length) && decide (v227.length ≤ 4096)) <|
   .leaf (PM.permB v227))
  ) (
   .leaf false
  ))

noncomputable def impl_IsOrder_g (v227 : List Int) : Option (Bool) := (impl_IsOrder_T v227).run
def impl_IsOrder_enc (v227 : List Int) (y : Bool) : Rs := (.bool y, [])
theorem impl_IsOrder_den (v227 : List Int) : (den TT (tabD impl_IsOrder_tab) (tabM impl_IsOrder_tab) (impl_IsOrder_LO v227) (codeOf Try.f108) ([.bslc (BR.root 0) (.i64 v227)] ++ List.replicate (Try.f108.ntmps - ([.bslc (BR.root 0) (.i64 v227)] : List DV).length) .undef) []).bind (retD TT Try.f108.results.toList 0) = (impl_IsOrder_T v227).bind fun y => .leaf (impl_IsOrder_enc v227 y) := by kernel_rfl
theorem impl_IsOrder_fn (v227 : List Int) (F : Fr) (hm : F.ids.length = 0) (h0 : St F [] F.H0) (hA : DVs.Ok F [] [.bslc (BR.root 0) (.i64 v227)]) {y : Bool} (hy : impl_IsOrder_g v227 = some y) : ∃ H', FnOk Try.prog 108 (DVs.av F [.bslc (BR.root 0) (.i64 v227)]) F.H0 ((impl_IsOrder_enc v227 y).1.av F) H' ∧ St F (impl_IsOrder_enc v227 y).2 H' ∧ (impl_IsOrder_enc v227 y).1.Ok F (impl_IsOrder_enc v227 y).2 :=
  fn_fin tok impl_IsOrder_hO mixed Try.func108 Try.call108 (by kernel_rfl) (LoopsOk_eq (l := []) (by kernel_rfl) trivial) (impl_IsOrder_den v227) hy hm h0 hA
noncomputable def impl_IsOrder_F : DFn := fun args L =>
  match args with
  | [a1] =>
    optT (rowI64 L a1) fun v227 =>
    .call (impl_IsOrder_g v227) fun y => .leaf (.bool y, L)
  | _ => .fail
theorem impl_IsOrder_Fok : COk Try.prog 108 impl_IsOrder_F true := by
  intro F L H args r L' hs ha hr
  unfold impl_IsOrder_F at hr
  split at hr
  · rename_i a1
    obtain ⟨v227, hv227, hr⟩ := optT_run hr
    simp only [Tree.run] at hr
    obtain ⟨y, hy, hr⟩ := Option.bind_eq_some_iff.1 hr
    simp only [Tree.run, Option.some.injEq, Prod.mk.injEq] at hr
    obtain ⟨rfl, rfl⟩ := hr
    exact call_ok0 hs (fun k => (([a1.av F] : List AV)[k]?).getD .top) [a1] [.bslc (BR.root 0) (.i64 v227)] (fun F' h0 hi hρ => ⟨by simp [DVs.av, DV.av, BR.av, hρ], impl_IsOrder_fn v227 F' (by rw [hi]; rfl) (st_nil hi) ⟨bslc_ok hi (by rw [h0, hρ]; exact rowI64_ok hs (DVs.okAt ha 0 rfl) hv227), trivial⟩ hy⟩) rfl
  · cases hr
/-! impl.ValidFactor -/
noncomputable def impl_ValidFactor_LO (v162 : Int) (v163 : Int) (v164 : List Nat) (v165 : List Int) : LOr := fun id e L =>
  match id with
  | _ => .fail
noncomputable def impl_ValidFactor_tab : List (FuncId × DFn × Bool) := [(89, impl_isSquare_F, true), (113, impl_Matrix_middle_F, true), (112, slices_ContainsF_F, true), (108, impl_IsOrder_F, true), (109, impl_lengthI_F, true)]
theorem impl_ValidFactor_hO : OrcOk Try.prog (tabD impl_ValidFactor_tab) (tabM impl_ValidFactor_tab) := tabD_cons impl_isSquare_Fok (tabD_cons impl_Matrix_middle_Fok (tabD_cons slices_ContainsF_Fok (tabD_cons impl_IsOrder_Fok (tabD_cons impl_lengthI_Fok (tabD_nil _)))))
noncomputable def impl_ValidFactor_T (v162 : Int) (v163 : Int) (v164 : List Nat) (v165 : List Int) : Tree (Bool) :=
  (.call (impl_isSquare_g v162 v163 v164) fun v196 =>
  (.br v196 (
   (.call (impl_Matrix_middle_g v162 v163 v164) fun v214 =>
   (.call (slices_ContainsF_g v214 (0 : Nat)) fun v226 =>
   (.br (!v226) (
    (.call (impl_IsOrder_g v165) fun v229 =>
    (.br v229 (
     .leaf (decide ((impl_lengthI_v v165) = v162))
    ) (
     .leaf false
    )))
   ) (
    .leaf false
   ))))
  ) (
   .leaf false
  )))

noncomputable def impl_ValidFactor_g (v162 : Int) (v163 : Int) (v164 : List Nat) (v165 : List Int) : Option (Bool) := (impl_ValidFactor_T v162 v163 v164 v165).run
def impl_ValidFactor_enc (v162 : Int) (v163 : Int) (v164 : List Nat) (v165 : List Int) (y : Bool) : Rs := (.bool y, [])
theorem impl_ValidFactor_den (v162 : Int) (v163 : Int) (v164 : List Nat) (v165 : List Int) : (den TT (tabD impl_ValidFactor_tab) (tabM impl_ValidFactor_tab) (impl_ValidFactor_LO v162 v163 v164 v165) (codeOf Try.f49) ([.agg [.int .i64 v162, .int .i64 v163, .bslc (BR.root 0) (.f32 v164), .bslc (BR.root 1) (.i64 v165)]] ++ List.replicate (Try.f49.ntmps - ([.agg [.int .i64 v162, .int .i64 v163, .bslc (BR.root 0) (.f32 v164), .bslc (BR.root 1) (.i64 v165)]] : List DV).length) .undef) []).bind (retD TT Try.f49.results.toList 0) = (impl_ValidFactor_T v162 v163 v164 v165).bind fun y => .leaf (impl_ValidFactor_enc v162 v163 v164 v165 y) := by kernel_rfl
theorem impl_ValidFactor_fn (v162 : Int) (v163 : Int) (v164 : List Nat) (v165 : List Int) (F : Fr) (hm : F.ids.length = 0) (h0 : St F [] F.H0) (hA : DVs.Ok F [] [.agg [.int .i64 v162, .int .i64 v163, .bslc (BR.root 0) (.f32 v164), .bslc (BR.root 1) (.i64 v165)]]) {y : Bool} (hy : impl_ValidFactor_g v162 v163 v164 v165 = some y) : ∃ H', FnOk Try.prog 49 (DVs.av F [.agg [.int .i64 v162, .int .i64 v163, .bslc (BR.root 0) (.f32 v164), .bslc (BR.root 1) (.i64 v165)]]) F.H0 ((impl_ValidFactor_enc v162 v163 v164 v165 y).1.av F) H' ∧ St F (impl_ValidFactor_enc v162 v163 v164 v165 y).2 H' ∧ (impl_ValidFactor_enc v162 v163 v164 v165 y).1.Ok F (impl_ValidFactor_enc v162 v163 v164 v165 y).2 :=
  fn_fin tok impl_ValidFactor_hO mixed Try.func49 Try.call49 (by kernel_rfl) (LoopsOk_eq (l := []) (by kernel_rfl) trivial) (impl_ValidFactor_den v162 v163 v164 v165) hy hm h0 hA
noncomputable def impl_ValidFactor_F : DFn := fun args L =>
  match args with
  | [.agg [.int .i64 v162, .int .i64 v163, a1, a2]] =>
    optT (rowF32 L a1) fun v164 =>
    optT (rowI64 L a2) fun v165 =>
    .call (impl_ValidFactor_g v162 v163 v164 v165) fun y => .leaf (.bool y, L)
  | _ => .fail
theorem impl_ValidFactor_Fok : COk Try.prog 49 impl_ValidFactor_F true := by
  intro F L H args r L' hs ha hr
  unfold impl_ValidFactor_F at hr
  split at hr
  · rename_i v162 v163 a1 a2
    obtain ⟨v164, hv164, hr⟩ := optT_run hr
    obtain ⟨v165, hv165, hr⟩ := optT_run hr
    simp only [Tree.run] at hr
    obtain ⟨y, hy, hr⟩ := Option.bind_eq_some_iff.1 hr
    simp only [Tree.run, Option.some.injEq, Prod.mk.injEq] at hr
    obtain ⟨rfl, rfl⟩ := hr
    exact call_ok0 hs (fun k => (([a1.av F, a2.av F] : List AV)[k]?).getD .top) [.agg [.int .i64 v162, .int .i64 v163, a1, a2]] [.agg [.int .i64 v162, .int .i64 v163, .bslc (BR.root 0) (.f32 v164), .bslc (BR.root 1) (.i64 v165)]] (fun F' h0 hi hρ => ⟨by simp [DVs.av, DV.av, BR.av, hρ], impl_ValidFactor_fn v162 v163 v164 v165 F' (by rw [hi]; rfl) (st_nil hi) ⟨⟨trivial, trivial, bslc_ok hi (by rw [h0, hρ]; exact rowF32_ok hs (DVs.okAt (DVs.okAt ha 0 rfl) 2 rfl) hv164), bslc_ok hi (by rw [h0, hρ]; exact rowI64_ok hs (DVs.okAt (DVs.okAt ha 0 rfl) 3 rfl) hv165), trivial⟩, trivial⟩ hy⟩) rfl
  · cases hr
/-! impl.orderSign -/
noncomputable def impl_orderSign_l2_T (v297 : Int) (v298 : Int) (v299 : BR) (v300 : List Int) (v301 : Int) (s : Int × Int) : Tree ((Int × Int) ⊕ (Int)) :=
  (.br (decide (s.2 < v301)) (
   (.grd (inb s.2 v300.length) <|
   (.br (decide (nth v300 (Int.toNat s.2) < v297)) (
    .leaf (.inl (IntKind.i64.wrap (0 - s.1), IntKind.i64.wrap (s.2 + (1 : Int))))
   ) (
    .leaf (.inl (s.1, IntKind.i64.wrap (s.2 + (1 : Int))))
   )))
  ) (
   .leaf (.inr s.1)
  ))

noncomputable def impl_orderSign_l2_g (v297 : Int) (v298 : Int) (v299 : BR) (v300 : List Int) (v301 : Int) (s0 : Int × Int) : Option (Int) := whileM (fun s => (impl_orderSign_l2_T v297 v298 v299 v300 v301 s).run) s0
def impl_orderSign_l2_E (v231 : List Int) (v297 : Int) (v298 : Int) (v299 : BR) (v300 : List Int) (v301 : Int) (s : Int × Int) : Sd := ([.bslc (BR.root 0) (.i64 v231), .top, .top, .int .i64 s.1, .top, .int .i64 v297, .top, .top, .bslc (BR.root 0) (.i64 v231), .int .i64 ((v231.length : Nat) : Int), .int .i64 v298, .top, .top, .top, .top, .top, .top, .top, .bslc v299 (.i64 v300), .int .i64 v301, .int .i64 s.2, .top, .top, .top, .top, .top, .top, .top, .top, .top, .top, .top], [])
def impl_orderSign_l2_X (v231 : List Int) (v297 : Int) (v298 : Int) (v299 : BR) (v300 : List Int) (v301 : Int) (x : Int) : Out := (.normal, [.bslc (BR.root 0) (.i64 v231), .top, .top, .int .i64 x, .top, .top, .top, .top, .bslc (BR.root 0) (.i64 v231), .int .i64 ((v231.length : Nat) : Int), .int .i64 v298, .top, .top, .top, .top, .top, .top, .top, .top, .top, .top, .top, .top, .top, .top, .top, .top, .top, .top, .top, .top, .top], [])
def impl_orderSign_l2_kill : List Nat := [0, 1, 1, 0, 1, 0, 1, 1, 0, 0, 0, 1, 1, 1, 1, 1, 1, 1, 0, 0, 0, 1, 1, 1, 1, 1, 1, 1, 1, 1, 1, 1]
def impl_orderSign_l2_nx : Exit → List Nat
  | .exit 0 => [1, 1, 1, 0, 1, 1, 1, 1, 1, 1, 1, 1, 1, 1, 1, 1, 1, 1, 1, 1, 1, 1, 1, 1, 1, 1, 1, 1, 1, 1, 1, 1]
  | .exit 1 => [0, 1, 1, 0, 1, 1, 1, 1, 0, 0, 0, 1, 1, 1, 1, 1, 1, 1, 1, 1, 1, 1, 1, 1, 1, 1, 1, 1, 1, 1, 1, 1]
  | .exit 2 => [0, 1, 1, 0, 1, 1, 1, 1, 0, 0, 0, 1, 1, 1, 1, 1, 1, 1, 1, 1, 1, 1, 1, 1, 1, 1, 1, 1, 1, 1, 1, 1]
  | .ret => [1, 1, 0, 1, 1, 1, 1, 1, 1, 1, 1, 1, 1, 1, 1, 1, 1, 1, 1, 1, 1, 1, 1, 1, 1, 1, 1, 1, 1, 1, 1, 1]
  | _ => []
noncomputable def impl_orderSign_l0_T (v231 : List Int) (s : Int × Int) : Tree ((Int × Int) ⊕ (Int)) :=
  (.br (decide (s.2 < ((v231.length : Nat) : Int))) (
   (.grd (inb s.2 v231.length) <|
   (.grd (sok (IntKind.i64.wrap (s.2 + (1 : Int))) ((v231.length : Nat) : Int) v231.length) <|
   (.need (some (impl_orderSign_l2_E v231 (nth v231 (Int.toNat s.2)) s.2 (BR.sub (IntKind.i64.wrap (s.2 + (1 : Int))) ((v231.length : Nat) : Int) (BR.root 0)) (AM.sub v231 (IntKind.i64.wrap (s.2 + (1 : Int))) ((v231.length : Nat) : Int)) (((AM.sub v231 (IntKind.i64.wrap (s.2 + (1 : Int))) ((v231.length : Nat) : Int)).length : Nat) : Int) (s.1, (0 : Int))) = some (impl_orderSign_l2_E v231 (nth v231 (Int.toNat s.2)) s.2 (BR.sub (IntKind.i64.wrap (s.2 + (1 : Int))) ((v231.length : Nat) : Int) (BR.root 0)) (AM.sub v231 (IntKind.i64.wrap (s.2 + (1 : Int))) ((v231.length : Nat) : Int)) (((AM.sub v231 (IntKind.i64.wrap (s.2 + (1 : Int))) ((v231.length : Nat) : Int)).length : Nat) : Int) (s.1, (0 : Int)))) <|
   (.call (impl_orderSign_l2_g (nth v231 (Int.toNat s.2)) s.2 (BR.sub (IntKind.i64.wrap (s.2 + (1 : Int))) ((v231.length : Nat) : Int) (BR.root 0)) (AM.sub v231 (IntKind.i64.wrap (s.2 + (1 : Int))) ((v231.length : Nat) : Int)) (((AM.sub v231 (IntKind.i64.wrap (s.2 + (1 : Int))) ((v231.length : Nat) : Int)).length : Nat) : Int) (s.1, (0 : Int))) fun v303 =>
   .leaf (.inl (v303, IntKind.i64.wrap (s.2 + (1 : Int))))))))
  ) (
   .leaf (.inr s.1)
  ))

noncomputable def impl_orderSign_l0_g (v231 : List Int) (s0 : Int × Int) : Option (Int) := whileM (fun s => (impl_orderSign_l0_T v231 s).run) s0
def impl_orderSign_l0_E (v231 : List Int) (s : Int × Int) : Sd := ([.bslc (BR.root 0) (.i64 v231), .top, .top, .int .i64 s.1, .top, .top, .top, .top, .bslc (BR.root 0) (.i64 v231), .int .i64 ((v231.length : Nat) : Int), .int .i64 s.2, .top, .top, .top, .top, .top, .top, .top, .top, .top, .top, .top, .top, .top, .top, .top, .top, .top, .top, .top, .top, .top], [])
def impl_orderSign_l0_X (v231 : List Int) (x : Int) : Out := (.normal, [.top, .top, .top, .int .i64 x, .top, .top, .top, .top, .top, .top, .top, .top, .top, .top, .top, .top, .top, .top, .top, .top, .top, .top, .top, .top, .top, .top, .top, .top, .top, .top, .top, .top], [])
def impl_orderSign_l0_kill : List Nat := [0, 1, 1, 0, 1, 1, 1, 1, 0, 0, 0, 1, 1, 1, 1, 1, 1, 1, 1, 1, 1, 1, 1, 1, 1, 1, 1, 1, 1, 1, 1, 1]
def impl_orderSign_l0_nx : Exit → List Nat
  | .exit 0 => [1, 1, 1, 0, 1, 1, 1, 1, 1, 1, 1, 1, 1, 1, 1, 1, 1, 1, 1, 1, 1, 1, 1, 1, 1, 1, 1, 1, 1, 1, 1, 1]
  | .ret => [1, 1, 0, 1, 1, 1, 1, 1, 1, 1, 1, 1, 1, 1, 1, 1, 1, 1, 1, 1, 1, 1, 1, 1, 1, 1, 1, 1, 1, 1, 1, 1]
  | _ => []
noncomputable def impl_orderSign_LO (v231 : List Int) : LOr := fun id e L =>
  match id with
  | 2 => .need (normA 0 impl_orderSign_l2_kill e L = some (impl_orderSign_l2_E v231 (gI (vAt e 5)) (gI (vAt e 10)) (gA (vAt e 18)) (gRI L (vAt e 18)) (gI (vAt e 19)) ((gI (vAt e 3)), (gI (vAt e 20))))) (.call (impl_orderSign_l2_g (gI (vAt e 5)) (gI (vAt e 10)) (gA (vAt e 18)) (gRI L (vAt e 18)) (gI (vAt e 19)) ((gI (vAt e 3)), (gI (vAt e 20)))) fun x => .leaf (impl_orderSign_l2_X v231 (gI (vAt e 5)) (gI (vAt e 10)) (gA (vAt e 18)) (gRI L (vAt e 18)) (gI (vAt e 19)) x))
  | 0 => .need (normA 0 impl_orderSign_l0_kill e L = some (impl_orderSign_l0_E v231 ((gI (vAt e 3)), (gI (vAt e 10))))) (.call (impl_orderSign_l0_g v231 ((gI (vAt e 3)), (gI (vAt e 10)))) fun x => .leaf (impl_orderSign_l0_X v231 x))
  | _ => .fail
noncomputable def impl_orderSign_tab : List (FuncId × DFn × Bool) := []
theorem impl_orderSign_hO : OrcOk Try.prog (tabD impl_orderSign_tab) (tabM impl_orderSign_tab) := tabD_nil _
theorem impl_orderSign_l2_be (v231 : List Int) (v297 : Int) (v298 : Int) (v299 : BR) (v300 : List Int) (v301 : Int) (s : Int × Int) : bodyT TT (tabD impl_orderSign_tab) (tabM impl_orderSign_tab) (impl_orderSign_LO v231) 0 impl_orderSign_l2_kill impl_orderSign_l2_nx (bodyOf Try.f117 2) 2 (impl_orderSign_l2_E v231 v297 v298 v299 v300 v301 s) = (impl_orderSign_l2_T v297 v298 v299 v300 v301 s).bind fun y => .leaf (outS (impl_orderSign_l2_E v231 v297 v298 v299 v300 v301) (impl_orderSign_l2_X v231 v297 v298 v299 v300 v301) y) := by kernel_rfl
theorem impl_orderSign_l2_ok (v231 : List Int) : LSound Try.prog 0 (impl_orderSign_LO v231) 2 (bodyOf Try.f117 2) := by
  intro e L out h
  exact lo_ok (E := impl_orderSign_l2_E v231 (gI (vAt e 5)) (gI (vAt e 10)) (gA (vAt e 18)) (gRI L (vAt e 18)) (gI (vAt e 19))) (gT := impl_orderSign_l2_T (gI (vAt e 5)) (gI (vAt e 10)) (gA (vAt e 18)) (gRI L (vAt e 18)) (gI (vAt e 19))) (X := impl_orderSign_l2_X v231 (gI (vAt e 5)) (gI (vAt e 10)) (gA (vAt e 18)) (gRI L (vAt e 18)) (gI (vAt e 19))) (s0 := ((gI (vAt e 3)), (gI (vAt e 20)))) tok impl_orderSign_hO mixed (LoopsOk_eq (l := []) (by kernel_rfl) trivial) (impl_orderSign_l2_be v231 (gI (vAt e 5)) (gI (vAt e 10)) (gA (vAt e 18)) (gRI L (vAt e 18)) (gI (vAt e 19))) rfl (by intro x; rfl) h
theorem impl_orderSign_l0_be (v231 : List Int) (s : Int × Int) : bodyT TT (tabD impl_orderSign_tab) (tabM impl_orderSign_tab) (impl_orderSign_LO v231) 0 impl_orderSign_l0_kill impl_orderSign_l0_nx (bodyOf Try.f117 0) 0 (impl_orderSign_l0_E v231 s) = (impl_orderSign_l0_T v231 s).bind fun y => .leaf (outS (impl_orderSign_l0_E v231) (impl_orderSign_l0_X v231) y) := by kernel_rfl
theorem impl_orderSign_l0_ok (v231 : List Int) : LSound Try.prog 0 (impl_orderSign_LO v231) 0 (bodyOf Try.f117 0) := by
  intro e L out h
  exact lo_ok (E := impl_orderSign_l0_E v231) (gT := impl_orderSign_l0_T v231) (X := impl_orderSign_l0_X v231) (s0 := ((gI (vAt e 3)), (gI (vAt e 10)))) tok impl_orderSign_hO mixed (LoopsOk_eq (l := [(2, bodyOf Try.f117 2)]) (by kernel_rfl) ⟨impl_orderSign_l2_ok v231, trivial⟩) (impl_orderSign_l0_be v231) rfl (by intro x; rfl) h
noncomputable def impl_orderSign_T (v231 : List Int) : Tree (Int) :=
  (.need (some (impl_orderSign_l0_E v231 ((1 : Int), (0 : Int))) = some (impl_orderSign_l0_E v231 ((1 : Int), (0 : Int)))) <|
  (.call (impl_orderSign_l0_g v231 ((1 : Int), (0 : Int))) fun v304 =>
  .leaf v304))

noncomputable def impl_orderSign_g (v231 : List Int) : Option (Int) := (impl_orderSign_T v231).run
def impl_orderSign_enc (v231 : List Int) (y : Int) : Rs := (.int .i64 y, [])
theorem impl_orderSign_den (v231 : List Int) : (den TT (tabD impl_orderSign_tab) (tabM impl_orderSign_tab) (impl_orderSign_LO v231) (codeOf Try.f117) ([.bslc (BR.root 0) (.i64 v231)] ++ List.replicate (Try.f117.ntmps - ([.bslc (BR.root 0) (.i64 v231)] : List DV).length) .undef) []).bind (retD TT Try.f117.results.toList 0) = (impl_orderSign_T v231).bind fun y => .leaf (impl_orderSign_enc v231 y) := by kernel_rfl
theorem impl_orderSign_fn (v231 : List Int) (F : Fr) (hm : F.ids.length = 0) (h0 : St F [] F.H0) (hA : DVs.Ok F [] [.bslc (BR.root 0) (.i64 v231)]) {y : Int} (hy : impl_orderSign_g v231 = some y) : ∃ H', FnOk Try.prog 117 (DVs.av F [.bslc (BR.root 0) (.i64 v231)]) F.H0 ((impl_orderSign_enc v231 y).1.av F) H' ∧ St F (impl_orderSign_enc v231 y).2 H' ∧ (impl_orderSign_enc v231 y).1.Ok F (impl_orderSign_enc v231 y).2 :=
  fn_fin tok impl_orderSign_hO mixed Try.func117 Try.call117 (by kernel_rfl) (LoopsOk_eq (l := [(0, bodyOf Try.f117 0)]) (by kernel_rfl) ⟨impl_orderSign_l0_ok v231, trivial⟩) (impl_orderSign_den v231) hy hm h0 hA
noncomputable def impl_orderSign_F : DFn := fun args L =>
  match args with
  | [a1] =>
    optT (rowI64 L a1) fun v231 =>
    .call (impl_orderSign_g v231) fun y => .leaf (.int .i64 y, L)
  | _ => .fail
theorem impl_orderSign_Fok : COk Try.prog 117 impl_orderSign_F true := by
  intro F L H args r L' hs ha hr
  unfold impl_orderSign_F at hr
  split at hr
  · rename_i a1
    obtain ⟨v231, hv231, hr⟩ := optT_run hr
    simp only [Tree.run] at hr
    obtain ⟨y, hy, hr⟩ := Option.bind_eq_some_iff.1 hr
    simp only [Tree.run, Option.some.injEq, Prod.mk.injEq] at hr
    obtain ⟨rfl, rfl⟩ := hr
    exact call_ok0 hs (fun k => (([a1.av F] : List AV)[k]?).getD .top) [a1] [.bslc (BR.root 0) (.i64 v231)] (fun F' h0 hi hρ => ⟨by simp [DVs.av, DV.av, BR.av, hρ], impl_orderSign_fn v231 F' (by rw [hi]; rfl) (st_nil hi) ⟨bslc_ok hi (by rw [h0, hρ]; exact rowI64_ok hs (DVs.okAt ha 0 rfl) hv231), trivial⟩ hy⟩) rfl
  · cases hr
/-! impl.mul -/
noncomputable def impl_mul_LO (v311 : Nat) (v312 : Nat) : LOr := fun id e L =>
  match id with
  | _ => .fail
noncomputable def impl_mul_tab : List (FuncId × DFn × Bool) := []
theorem impl_mul_hO : OrcOk Try.prog (tabD impl_mul_tab) (tabM impl_mul_tab) := tabD_nil _
noncomputable def impl_mul_T (v311 : Nat) (v312 : Nat) : Tree (Nat) :=
  .leaf (fmul .f32 v311 v312)

noncomputable def impl_mul_g (v311 : Nat) (v312 : Nat) : Option (Nat) := (impl_mul_T v311 v312).run
def impl_mul_enc (v311 : Nat) (v312 : Nat) (y : Nat) : Rs := (.flt .f32 y, [])
theorem impl_mul_den (v311 : Nat) (v312 : Nat) : (den TT (tabD impl_mul_tab) (tabM impl_mul_tab) (impl_mul_LO v311 v312) (codeOf Try.f80) ([.flt .f32 v311, .flt .f32 v312] ++ List.replicate (Try.f80.ntmps - ([.flt .f32 v311, .flt .f32 v312] : List DV).length) .undef) []).bind (retD TT Try.f80.results.toList 0) = (impl_mul_T v311 v312).bind fun y => .leaf (impl_mul_enc v311 v312 y) := by kernel_rfl
theorem impl_mul_fn (v311 : Nat) (v312 : Nat) (F : Fr) (hm : F.ids.length = 0) (h0 : St F [] F.H0) (hA : DVs.Ok F [] [.flt .f32 v311, .flt .f32 v312]) {y : Nat} (hy : impl_mul_g v311 v312 = some y) : ∃ H', FnOk Try.prog 80 (DVs.av F [.flt .f32 v311, .flt .f32 v312]) F.H0 ((impl_mul_enc v311 v312 y).1.av F) H' ∧ St F (impl_mul_enc v311 v312 y).2 H' ∧ (impl_mul_enc v311 v312 y).1.Ok F (impl_mul_enc v311 v312 y).2 :=
  fn_fin tok impl_mul_hO mixed Try.func80 Try.call80 (by kernel_rfl) (LoopsOk_eq (l := []) (by kernel_rfl) trivial) (impl_mul_den v311 v312) hy hm h0 hA
def impl_mul_v (v311 : Nat) (v312 : Nat) : Nat :=
  fmul .f32 v311 v312
theorem impl_mul_tot (v311 : Nat) (v312 : Nat) : impl_mul_g v311 v312 = some (impl_mul_v v311 v312) := by
  unfold impl_mul_g impl_mul_T impl_mul_v
  simp only [Tree.run]
  repeat' (first | rfl | split)
noncomputable def impl_mul_F : DFn := fun args L =>
  match args with
  | [.flt .f32 v311, .flt .f32 v312] =>
    .leaf (.flt .f32 (impl_mul_v v311 v312), L)
  | _ => .fail
theorem impl_mul_Fok : COk Try.prog 80 impl_mul_F true := by
  intro F L H args r L' hs ha hr
  unfold impl_mul_F at hr
  split at hr
  · rename_i v311 v312
    have hy := impl_mul_tot v311 v312
    generalize impl_mul_v v311 v312 = y at hy hr
    simp only [Tree.run, Option.some.injEq, Prod.mk.injEq] at hr
    obtain ⟨rfl, rfl⟩ := hr
    exact call_ok0 hs (fun k => (([] : List AV)[k]?).getD .top) [.flt .f32 v311, .flt .f32 v312] [.flt .f32 v311, .flt .f32 v312] (fun F' h0 hi hρ => ⟨by simp [DVs.av, DV.av, BR.av, hρ], impl_mul_fn v311 v312 F' (by rw [hi]; rfl) (st_nil hi) ⟨trivial, trivial, trivial⟩ hy⟩) rfl
  · cases hr
/-! impl.finite -/
noncomputable def impl_finite_LO (v322 : Nat) : LOr := fun id e L =>
  match id with
  | _ => .fail
noncomputable def impl_finite_tab : List (FuncId × DFn × Bool) := [(103, impl_IsFinite_F, true)]
theorem impl_finite_hO : OrcOk Try.prog (tabD impl_finite_tab) (tabM impl_finite_tab) := tabD_cons impl_IsFinite_Fok (tabD_nil _)
noncomputable def impl_finite_T (v322 : Nat) : Tree ((Unit) ⊕ (Nat)) :=
  (.br (!(impl_IsFinite_v v322)) (
   .leaf (.inl ())
  ) (
   .leaf (.inr v322)
  ))

noncomputable def impl_finite_g (v322 : Nat) : Option ((Unit) ⊕ (Nat)) := (impl_finite_T v322).run
def impl_finite_enc (v322 : Nat) (y : (Unit) ⊕ (Nat)) : Rs := (match y with | .inl y => (.tup [.flt .f32 (0 : Nat), .lit false], []) | .inr y => (.tup [.flt .f32 y, .lit true], []))
theorem impl_finite_den (v322 : Nat) : (den TT (tabD impl_finite_tab) (tabM impl_finite_tab) (impl_finite_LO v322) (codeOf Try.f118) ([.flt .f32 v322] ++ List.replicate (Try.f118.ntmps - ([.flt .f32 v322] : List DV).length) .undef) []).bind (retD TT Try.f118.results.toList 0) = (impl_finite_T v322).bind fun y => .leaf (impl_finite_enc v322 y) := by kernel_rfl
theorem impl_finite_fn (v322 : Nat) (F : Fr) (hm : F.ids.length = 0) (h0 : St F [] F.H0) (hA : DVs.Ok F [] [.flt .f32 v322]) {y : (Unit) ⊕ (Nat)} (hy : impl_finite_g v322 = some y) : ∃ H', FnOk Try.prog 118 (DVs.av F [.flt .f32 v322]) F.H0 ((impl_finite_enc v322 y).1.av F) H' ∧ St F (impl_finite_enc v322 y).2 H' ∧ (impl_finite_enc v322 y).1.Ok F (impl_finite_enc v322 y).2 :=
  fn_fin tok impl_finite_hO mixed Try.func118 Try.call118 (by kernel_rfl) (LoopsOk_eq (l := []) (by kernel_rfl) trivial) (impl_finite_den v322) hy hm h0 hA
def impl_finite_v (v322 : Nat) : (Unit) ⊕ (Nat) :=
  if (!(impl_IsFinite_v v322)) = true then (
   .inl ()
  ) else (
   .inr v322
  )
theorem impl_finite_tot (v322 : Nat) : impl_finite_g v322 = some (impl_finite_v v322) := by
  unfold impl_finite_g impl_finite_T impl_finite_v
  simp only [Tree.run]
  repeat' (first | rfl | split)
noncomputable def impl_finite_F : DFn := fun args L =>
  match args with
  | [.flt .f32 v322] =>
    .sum (impl_finite_v v322) (fun y0 => .leaf (.tup [.flt .f32 (0 : Nat), .lit false], L)) (fun z0 => .leaf (.tup [.flt .f32 z0, .lit true], L))
  | _ => .fail
theorem impl_finite_Fok : COk Try.prog 118 impl_finite_F true := by
  intro F L H args r L' hs ha hr
  unfold impl_finite_F at hr
  split at hr
  · rename_i v322
    have hy := impl_finite_tot v322
    generalize impl_finite_v v322 = y at hy hr
    cases y with
    | inl y =>
      simp only [Tree.run, Option.some.injEq, Prod.mk.injEq] at hr
      obtain ⟨rfl, rfl⟩ := hr
      exact call_ok0 hs (fun k => (([] : List AV)[k]?).getD .top) [.flt .f32 v322] [.flt .f32 v322] (fun F' h0 hi hρ => ⟨by simp [DVs.av, DV.av, BR.av, hρ], impl_finite_fn v322 F' (by rw [hi]; rfl) (st_nil hi) ⟨trivial, trivial⟩ hy⟩) rfl
    | inr y =>
      simp only [Tree.run, Option.some.injEq, Prod.mk.injEq] at hr
      obtain ⟨rfl, rfl⟩ := hr
      exact call_ok0 hs (fun k => (([] : List AV)[k]?).getD .top) [.flt .f32 v322] [.flt .f32 v322] (fun F' h0 hi hρ => ⟨by simp [DVs.av, DV.av, BR.av, hρ], impl_finite_fn v322 F' (by rw [hi]; rfl) (st_nil hi) ⟨trivial, trivial⟩ hy⟩) rfl
  · cases hr
/-! impl.FactorDet -/
noncomputable def impl_FactorDet_l0_T (v318 : Int) (v320 : List Nat) (s : Nat × Int) : Tree ((Nat × Int) ⊕ (Nat)) :=
  (.br (decide (s.2 < v318)) (
   (.grd (inb s.2 ((v320).length)) <|
   .leaf (.inl ((impl_mul_v s.1 (nth v320 (Int.toNat s.2))), IntKind.i64.wrap (s.2 + (1 : Int)))))
  ) (
   .leaf (.inr s.1)
  ))

noncomputable def impl_FactorDet_l0_g (v318 : Int) (v320 : List Nat) (s0 : Nat × Int) : Option (Nat) := whileM (fun s => (impl_FactorDet_l0_T v318 v320 s).run) s0
def impl_FactorDet_l0_E (v158 : Int) (v159 : Int) (v160 : List Nat) (v161 : List Int) (v318 : Int) (v320 : List Nat) (s : Nat × Int) : Sd := ([.top, .top, .top, .top, .flt .f32 s.1, .top, .top, .top, .top, .top, .top, .top, .top, .top, .top, .top, .own 0 0 ((v320).length), .int .i64 v318, .int .i64 s.2, .top, .top, .top, .top, .top, .top, .top, .top, .top, .top, .top], [.row (.f32 v320) 0])
def impl_FactorDet_l0_X (v158 : Int) (v159 : Int) (v160 : List Nat) (v161 : List Int) (v318 : Int) (v320 : List Nat) (x : Nat) : Out := (.normal, [.top, .top, .top, .top, .flt .f32 x, .top, .top, .top, .top, .top, .top, .top, .top, .top, .top, .top, .top, .top, .top, .top, .top, .top, .top, .top, .top, .top, .top, .top, .top, .top], [])
def impl_FactorDet_l0_kill : List Nat := [1, 1, 1, 1, 0, 1, 1, 1, 1, 1, 1, 1, 1, 1, 1, 1, 0, 0, 0, 1, 1, 1, 1, 1, 1, 1, 1, 1, 1, 1]
def impl_FactorDet_l0_nx : Exit → List Nat
  | .exit 0 => [1, 1, 1, 1, 0, 1, 1, 1, 1, 1, 1, 1, 1, 1, 1, 1, 1, 1, 1, 1, 1, 1, 1, 1, 1, 1, 1, 1, 1, 1]
  | .ret => [1, 1, 0, 0, 1, 1, 1, 1, 1, 1, 1, 1, 1, 1, 1, 1, 1, 1, 1, 1, 1, 1, 1, 1, 1, 1, 1, 1, 1, 1]
  | _ => []
noncomputable def impl_FactorDet_LO (v158 : Int) (v159 : Int) (v160 : List Nat) (v161 : List Int) : LOr := fun id e L =>
  match id with
  | 0 => .need (normA 0 impl_FactorDet_l0_kill e L = some (impl_FactorDet_l0_E v158 v159 v160 v161 (gI (vAt e 17)) (gRF L (vAt e 16)) ((gF (vAt e 4)), (gI (vAt e 18))))) (.call (impl_FactorDet_l0_g (gI (vAt e 17)) (gRF L (vAt e 16)) ((gF (vAt e 4)), (gI (vAt e 18)))) fun x => .leaf (impl_FactorDet_l0_X v158 v159 v160 v161 (gI (vAt e 17)) (gRF L (vAt e 16)) x))
  | _ => .fail
noncomputable def impl_FactorDet_tab : List (FuncId × DFn × Bool) := [(49, impl_ValidFactor_F, true), (117, impl_orderSign_F, true), (113, impl_Matrix_middle_F, true), (80, impl_mul_F, true), (118, impl_finite_F, true)]
theorem impl_FactorDet_hO : OrcOk Try.prog (tabD impl_FactorDet_tab) (tabM impl_FactorDet_tab) := tabD_cons impl_ValidFactor_Fok (tabD_cons impl_orderSign_Fok (tabD_cons impl_Matrix_middle_Fok (tabD_cons impl_mul_Fok (tabD_cons impl_finite_Fok (tabD_nil _)))))
theorem impl_FactorDet_l0_be (v158 : Int) (v159 : Int) (v160 : List Nat) (v161 : List Int) (v318 : Int) (v320 : List Nat) (s : Nat × Int) : bodyT TT (tabD impl_FactorDet_tab) (tabM impl_FactorDet_tab) (impl_FactorDet_LO v158 v159 v160 v161) 0 impl_FactorDet_l0_kill impl_FactorDet_l0_nx (bodyOf Try.f52 0) 0 (impl_FactorDet_l0_E v158 v159 v160 v161 v318 v320 s) = (impl_FactorDet_l0_T v318 v320 s).bind fun y => .leaf (outS (impl_FactorDet_l0_E v158 v159 v160 v161 v318 v320) (impl_FactorDet_l0_X v158 v159 v160 v161 v318 v320) y) := by kernel_rfl
theorem impl_FactorDet_l0_ok (v158 : Int) (v159 : Int) (v160 : List Nat) (v161 : List Int) : LSound Try.prog 0 (impl_FactorDet_LO v158 v159 v160 v161) 0 (bodyOf Try.f52 0) := by
  intro e L out h
  exact lo_ok (E := impl_FactorDet_l0_E v158 v159 v160 v161 (gI (vAt e 17)) (gRF L (vAt e 16))) (gT := impl_FactorDet_l0_T (gI (vAt e 17)) (gRF L (vAt e 16))) (X := impl_FactorDet_l0_X v158 v159 v160 v161 (gI (vAt e 17)) (gRF L (vAt e 16))) (s0 := ((gF (vAt e 4)), (gI (vAt e 18)))) tok impl_FactorDet_hO mixed (LoopsOk_eq (l := []) (by kernel_rfl) trivial) (impl_FactorDet_l0_be v158 v159 v160 v161 (gI (vAt e 17)) (gRF L (vAt e 16))) rfl (by intro x; rfl) h
noncomputable def impl_FactorDet_T (v158 : Int) (v159 : Int) (v160 : List Nat) (v161 : List Int) : Tree ((Unit) ⊕ (Nat)) :=
  (.call (impl_ValidFactor_g v158 v159 v160 v161) fun v230 =>
  (.br (!v230) (
   .leaf (.inl ())
  ) (
   (.call (impl_orderSign_g v161) fun v305 =>
   (.call (impl_Matrix_middle_g v158 v159 v160) fun v306 =>
   (.need (some (impl_FactorDet_l0_E v158 v159 v160 v161 (((v306).length : Nat) : Int) v306 (fofint .f32 v305, (0 : Int))) = some (impl_FactorDet_l0_E v158 v159 v160 v161 (((v306).length : Nat) : Int) v306 (fofint .f32 v305, (0 : Int)))) <|
   (.call (impl_FactorDet_l0_g (((v306).length : Nat) : Int) v306 (fofint .f32 v305, (0 : Int))) fun v321 =>
   (.sum (impl_finite_v v321) (fun v323 =>
    .leaf (.inl ())
   ) (fun v324 =>
    .leaf (.inr v324)
   ))))))
  )))

noncomputable def impl_FactorDet_g (v158 : Int) (v159 : Int) (v160 : List Nat) (v161 : List Int) : Option ((Unit) ⊕ (Nat)) := (impl_FactorDet_T v158 v159 v160 v161).run
def impl_FactorDet_enc (v158 : Int) (v159 : Int) (v160 : List Nat) (v161 : List Int) (y : (Unit) ⊕ (Nat)) : Rs := (match y with | .inl y => (.tup [.flt .f32 (0 : Nat), .lit false], []) | .inr y => (.tup [.flt .f32 y, .lit true], []))
theorem impl_FactorDet_den (v158 : Int) (v159 : Int) (v160 : List Nat) (v161 : List Int) : (den TT (tabD impl_FactorDet_tab) (tabM impl_FactorDet_tab) (impl_FactorDet_LO v158 v159 v160 v161) (codeOf Try.f52) ([.agg [.int .i64 v158, .int .i64 v159, .bslc (BR.root 0) (.f32 v160), .bslc (BR.root 1) (.i64 v161)]] ++ List.replicate (Try.f52.ntmps - ([.agg [.int .i64 v158, .int .i64 v159, .bslc (BR.root 0) (.f32 v160), .bslc (BR.root 1) (.i64 v161)]] : List DV).length) .undef) []).bind (retD TT Try.f52.results.toList 0) = (impl_FactorDet_T v158 v159 v160 v161).bind fun y => .leaf (impl_FactorDet_enc v158 v159 v160 v161 y) := by kernel_rfl
theorem impl_FactorDet_fn (v158 : Int) (v159 : Int) (v160 : List Nat) (v161 : List Int) (F : Fr) (hm : F.ids.length = 0) (h0 : St F [] F.H0) (hA : DVs.Ok F [] [.agg [.int .i64 v158, .int .i64 v159, .bslc (BR.root 0) (.f32 v160), .bslc (BR.root 1) (.i64 v161)]]) {y : (Unit) ⊕ (Nat)} (hy : impl_FactorDet_g v158 v159 v160 v161 = some y) : ∃ H', FnOk Try.prog 52 (DVs.av F [.agg [.int .i64 v158, .int .i64 v159, .bslc (BR.root 0) (.f32 v160), .bslc (BR.root 1) (.i64 v161)]]) F.H0 ((impl_FactorDet_enc v158 v159 v160 v161 y).1.av F) H' ∧ St F (impl_FactorDet_enc v158 v159 v160 v161 y).2 H' ∧ (impl_FactorDet_enc v158 v159 v160 v161 y).1.Ok F (impl_FactorDet_enc v158 v159 v160 v161 y).2 :=
  fn_fin tok impl_FactorDet_hO mixed Try.func52 Try.call52 (by kernel_rfl) (LoopsOk_eq (l := [(0, bodyOf Try.f52 0)]) (by kernel_rfl) ⟨impl_FactorDet_l0_ok v158 v159 v160 v161, trivial⟩) (impl_FactorDet_den v158 v159 v160 v161) hy hm h0 hA
noncomputable def impl_FactorDet_F : DFn := fun args L =>
  match args with
  | [.agg [.int .i64 v158, .int .i64 v159, a1, a2]] =>
    optT (rowF32 L a1) fun v160 =>
    optT (rowI64 L a2) fun v161 =>
    .call (impl_FactorDet_g v158 v159 v160 v161) fun y => .sum y (fun y0 => .leaf (.tup [.flt .f32 (0 : Nat), .lit false], L)) (fun z0 => .leaf (.tup [.flt .f32 z0, .lit true], L))
  | _ => .fail
theorem impl_FactorDet_Fok : COk Try.prog 52 impl_FactorDet_F true := by
  intro F L H args r L' hs ha hr
  unfold impl_FactorDet_F at hr
  split at hr
  · rename_i v158 v159 a1 a2
    obtain ⟨v160, hv160, hr⟩ := optT_run hr
    obtain ⟨v161, hv161, hr⟩ := optT_run hr
    simp only [Tree.run] at hr
    obtain ⟨y, hy, hr⟩ := Option.bind_eq_some_iff.1 hr
    cases y with
    | inl y =>
      simp only [Tree.run, Option.some.injEq, Prod.mk.injEq] at hr
      obtain ⟨rfl, rfl⟩ := hr
      exact call_ok0 hs (fun k => (([a1.av F, a2.av F] : List AV)[k]?).getD .top) [.agg [.int .i64 v158, .int .i64 v159, a1, a2]] [.agg [.int .i64 v158, .int .i64 v159, .bslc (BR.root 0) (.f32 v160), .bslc (BR.root 1) (.i64 v161)]] (fun F' h0 hi hρ => ⟨by simp [DVs.av, DV.av, BR.av, hρ], impl_FactorDet_fn v158 v159 v160 v161 F' (by rw [hi]; rfl) (st_nil hi) ⟨⟨trivial, trivial, bslc_ok hi (by rw [h0, hρ]; exact rowF32_ok hs (DVs.okAt (DVs.okAt ha 0 rfl) 2 rfl) hv160), bslc_ok hi (by rw [h0, hρ]; exact rowI64_ok hs (DVs.okAt (DVs.okAt ha 0 rfl) 3 rfl) hv161), trivial⟩, trivial⟩ hy⟩) rfl
    | inr y =>
      simp only [Tree.run, Option.some.injEq, Prod.mk.injEq] at hr
      obtain ⟨rfl, rfl⟩ := hr
      exact call_ok0 hs (fun k => (([a1.av F, a2.av F] : List AV)[k]?).getD .top) [.agg [.int .i64 v158, .int .i64 v159, a1, a2]] [.agg [.int .i64 v158, .int .i64 v159, .bslc (BR.root 0) (.f32 v160), .bslc (BR.root 1) (.i64 v161)]] (fun F' h0 hi hρ => ⟨by simp [DVs.av, DV.av, BR.av, hρ], impl_FactorDet_fn v158 v159 v160 v161 F' (by rw [hi]; rfl) (st_nil hi) ⟨⟨trivial, trivial, bslc_ok hi (by rw [h0, hρ]; exact rowF32_ok hs (DVs.okAt (DVs.okAt ha 0 rfl) 2 rfl) hv160), bslc_ok hi (by rw [h0, hρ]; exact rowI64_ok hs (DVs.okAt (DVs.okAt ha 0 rfl) 3 rfl) hv161), trivial⟩, trivial⟩ hy⟩) rfl
  · cases hr
/-! laws.sameFloat -/
noncomputable def laws_sameFloat_LO (v328 : Nat) (v329 : Nat) : LOr := fun id e L =>
  match id with
  | _ => .fail
noncomputable def laws_sameFloat_tab : List (FuncId × DFn × Bool) := []
theorem laws_sameFloat_hO : OrcOk Try.prog (tabD laws_sameFloat_tab) (tabM laws_sameFloat_tab) := tabD_nil _
noncomputable def laws_sameFloat_T (v328 : Nat) (v329 : Nat) : Tree (Bool) :=
  (.br (!feq .f64 v328 v328) (
   (.br (!feq .f64 v328 v328) (
    .leaf (!feq .f64 v329 v329)
   ) (
    .leaf false
   ))
  ) (
   (.br (!feq .f64 v329 v329) (
    (.br (!feq .f64 v328 v328) (
     .leaf (!feq .f64 v329 v329)
    ) (
     .leaf false
    ))
   ) (
    (.br (feq .f64 v328 (0 : Nat)) (
     (.br (feq .f64 v329 (0 : Nat)) (
      .leaf ((fgrt .f64 (fdiv .f64 (4607182418800017408 : Nat) v328) (0 : Nat)) == (fgrt .f64 (fdiv .f64 (4607182418800017408 : Nat) v329) (0 : Nat)))
     ) (
      .leaf (feq .f64 v328 v329)
     ))
    ) (
     .leaf (feq .f64 v328 v329)
    ))
   ))
  ))

noncomputable def laws_sameFloat_g (v328 : Nat) (v329 : Nat) : Option (Bool) := (laws_sameFloat_T v328 v329).run
def laws_sameFloat_enc (v328 : Nat) (v329 : Nat) (y : Bool) : Rs := (.bool y, [])
theorem laws_sameFloat_den (v328 : Nat) (v329 : Nat) : (den TT (tabD laws_sameFloat_tab) (tabM laws_sameFloat_tab) (laws_sameFloat_LO v328 v329) (codeOf Try.f53) ([.flt .f64 v328, .flt .f64 v329] ++ List.replicate (Try.f53.ntmps - ([.flt .f64 v328, .flt .f64 v329] : List DV).length) .undef) []).bind (retD TT Try.f53.results.toList 0) = (laws_sameFloat_T v328 v329).bind fun y => .leaf (laws_sameFloat_enc v328 v329 y) := by kernel_rfl
theorem laws_sameFloat_fn (v328 : Nat) (v329 : Nat) (F : Fr) (hm : F.ids.length = 0) (h0 : St F [] F.H0) (hA : DVs.Ok F [] [.flt .f64 v328, .flt .f64 v329]) {y : Bool} (hy : laws_sameFloat_g v328 v329 = some y) : ∃ H', FnOk Try.prog 53 (DVs.av F [.flt .f64 v328, .flt .f64 v329]) F.H0 ((laws_sameFloat_enc v328 v329 y).1.av F) H' ∧ St F (laws_sameFloat_enc v328 v329 y).2 H' ∧ (laws_sameFloat_enc v328 v329 y).1.Ok F (laws_sameFloat_enc v328 v329 y).2 :=
  fn_fin tok laws_sameFloat_hO mixed Try.func53 Try.call53 (by kernel_rfl) (LoopsOk_eq (l := []) (by kernel_rfl) trivial) (laws_sameFloat_den v328 v329) hy hm h0 hA
def laws_sameFloat_v (v328 : Nat) (v329 : Nat) : Bool :=
  if (!feq .f64 v328 v328) = true then (
   if (!feq .f64 v328 v328) = true then (
    !feq .f64 v329 v329
   ) else (
    false
   )
  ) else (
   if (!feq .f64 v329 v329) = true then (
    if (!feq .f64 v328 v328) = true then (
     !feq .f64 v329 v329
    ) else (
     false
    )
   ) else (
    if (feq .f64 v328 (0 : Nat)) = true then (
     if (feq .f64 v329 (0 : Nat)) = true then (
      (fgrt .f64 (fdiv .f64 (4607182418800017408 : Nat) v328) (0 : Nat)) == (fgrt .f64 (fdiv .f64 (4607182418800017408 : Nat) v329) (0 : Nat))
     ) else (
      feq .f64 v328 v329
     )
    ) else (
     feq .f64 v328 v329
    )
   )
  )
theorem laws_sameFloat_tot (v328 : Nat) (v329 : Nat) : laws_sameFloat_g v328 v329 = some (laws_sameFloat_v v328 v329) := by
  unfold laws_sameFloat_g laws_sameFloat_T laws_sameFloat_v
  simp only [Tree.run]
  repeat' (first | rfl | split)
noncomputable def laws_sameFloat_F : DFn := fun args L =>
  match args with
  | [.flt .f64 v328, .flt .f64 v329] =>
    .leaf (.bool (laws_sameFloat_v v328 v329), L)
  | _ => .fail
theorem laws_sameFloat_Fok : COk Try.prog 53 laws_sameFloat_F true := by
  intro F L H args r L' hs ha hr
  unfold laws_sameFloat_F at hr
  split at hr
  · rename_i v328 v329
    have hy := laws_sameFloat_tot v328 v329
    generalize laws_sameFloat_v v328 v329 = y at hy hr
    simp only [Tree.run, Option.some.injEq, Prod.mk.injEq] at hr
    obtain ⟨rfl, rfl⟩ := hr
    exact call_ok0 hs (fun k => (([] : List AV)[k]?).getD .top) [.flt .f64 v328, .flt .f64 v329] [.flt .f64 v328, .flt .f64 v329] (fun F' h0 hi hρ => ⟨by simp [DVs.av, DV.av, BR.av, hρ], laws_sameFloat_fn v328 v329 F' (by rw [hi]; rfl) (st_nil hi) ⟨trivial, trivial, trivial⟩ hy⟩) rfl
  · cases hr
/-! laws.eqFloat32S -/
noncomputable def laws_eqFloat32S_l0_T (v345 : List Nat) (v346 : List Nat) (s : Int) : Tree ((Int) ⊕ ((Unit) ⊕ (Unit))) :=
  (.br (decide (s < ((v345.length : Nat) : Int))) (
   (.grd (inb s v345.length) <|
   (.grd (inb s v346.length) <|
   (.br (!(laws_sameFloat_v (wid (nth v345 (Int.toNat s))) (wid (nth v346 (Int.toNat s))))) (
    .leaf (.inr (.inl ()))
   ) (
    .leaf (.inl (IntKind.i64.wrap (s + (1 : Int))))
   ))))
  ) (
   .leaf (.inr (.inr ()))
  ))

noncomputable def laws_eqFloat32S_l0_g (v345 : List Nat) (v346 : List Nat) (s0 : Int) : Option ((Unit) ⊕ (Unit)) := whileM (fun s => (laws_eqFloat32S_l0_T v345 v346 s).run) s0
def laws_eqFloat32S_l0_E (v345 : List Nat) (v346 : List Nat) (s : Int) : Sd := ([.bslc (BR.root 0) (.f32 v345), .bslc (BR.root 1) (.f32 v346), .top, .top, .top, .int .i64 s, .top, .top, .top, .top, .top, .top, .top, .top, .top, .top, .top, .top, .top, .top, .top, .top, .top, .top, .top, .top, .top, .top, .top], [])
def laws_eqFloat32S_l0_X (v345 : List Nat) (v346 : List Nat) (x : (Unit) ⊕ (Unit)) : Out := (match x with | .inl x => (.ret, [.top, .top, .top, .top, .lit false, .top, .top, .top, .top, .top, .top, .top, .top, .top, .top, .top, .top, .top, .top, .top, .top, .top, .top, .top, .top, .top, .top, .top, .top], []) | .inr x => (.normal, [.top, .top, .top, .top, .top, .top, .top, .top, .top, .top, .top, .top, .top, .top, .top, .top, .top, .top, .top, .top, .top, .top, .top, .top, .top, .top, .top, .top, .top], []))
def laws_eqFloat32S_l0_kill : List Nat := [0, 0, 1, 1, 1, 0, 1, 1, 1, 1, 1, 1, 1, 1, 1, 1, 1, 1, 1, 1, 1, 1, 1, 1, 1, 1, 1, 1, 1]
def laws_eqFloat32S_l0_nx : Exit → List Nat
  | .exit 0 => [1, 1, 1, 1, 1, 1, 1, 1, 1, 1, 1, 1, 1, 1, 1, 1, 1, 1, 1, 1, 1, 1, 1, 1, 1, 1, 1, 1, 1]
  | .ret => [1, 1, 1, 1, 0, 1, 1, 1, 1, 1, 1, 1, 1, 1, 1, 1, 1, 1, 1, 1, 1, 1, 1, 1, 1, 1, 1, 1, 1]
  | _ => []
noncomputable def laws_eqFloat32S_LO (v345 : List Nat) (v346 : List Nat) : LOr := fun id e L =>
  match id with
  | 0 => .need (normA 0 laws_eqFloat32S_l0_kill e L = some (laws_eqFloat32S_l0_E v345 v346 (gI (vAt e 5)))) (.call (laws_eqFloat32S_l0_g v345 v346 (gI (vAt e 5))) fun x => .sum x (fun b0 => .leaf (laws_eqFloat32S_l0_X v345 v346 (.inl b0))) (fun c0 => .leaf (laws_eqFloat32S_l0_X v345 v346 (.inr c0))))
  | _ => .fail
noncomputable def laws_eqFloat32S_tab : List (FuncId × DFn × Bool) := [(53, laws_sameFloat_F, true)]
theorem laws_eqFloat32S_hO : OrcOk Try.prog (tabD laws_eqFloat32S_tab) (tabM laws_eqFloat32S_tab) := tabD_cons laws_sameFloat_Fok (tabD_nil _)
theorem laws_eqFloat32S_l0_be (v345 : List Nat) (v346 : List Nat) (s : Int) : bodyT TT (tabD laws_eqFloat32S_tab) (tabM laws_eqFloat32S_tab) (laws_eqFloat32S_LO v345 v346) 0 laws_eqFloat32S_l0_kill laws_eqFloat32S_l0_nx (bodyOf Try.f20 0) 0 (laws_eqFloat32S_l0_E v345 v346 s) = (laws_eqFloat32S_l0_T v345 v346 s).bind fun y => .leaf (outS (laws_eqFloat32S_l0_E v345 v346) (laws_eqFloat32S_l0_X v345 v346) y) := by kernel_rfl
theorem laws_eqFloat32S_l0_ok (v345 : List Nat) (v346 : List Nat) : LSound Try.prog 0 (laws_eqFloat32S_LO v345 v346) 0 (bodyOf Try.f20 0) := by
  intro e L out h
  exact lo_ok (E := laws_eqFloat32S_l0_E v345 v346) (gT := laws_eqFloat32S_l0_T v345 v346) (X := laws_eqFloat32S_l0_X v345 v346) (s0 := (gI (vAt e 5))) tok laws_eqFloat32S_hO mixed (LoopsOk_eq (l := []) (by kernel_rfl) trivial) (laws_eqFloat32S_l0_be v345 v346) rfl (by intro x; (cases x with | inl b => rfl | inr x => exact rfl)) h
noncomputable def laws_eqFloat32S_T (v345 : List Nat) (v346 : List Nat) : Tree (Bool) :=
  (.br (!decide (((v345.length : Nat) : Int) = ((v346.length : Nat) : Int))) (
   .leaf false
  ) (
   (.need (some (laws_eqFloat32S_l0_E v345 v346 (0 : Int)) = some (laws_eqFloat32S_l0_E v345 v346 (0 : Int))) <|
   (.call (laws_eqFloat32S_l0_g v345 v346 (0 : Int)) fun v350 =>
   (.sum v350 (fun v351 =>
    .leaf false
   ) (fun v352 =>
    .leaf true
   ))))
  ))

noncomputable def laws_eqFloat32S_g (v345 : List Nat) (v346 : List Nat) : Option (Bool) := (laws_eqFloat32S_T v345 v346).run
def laws_eqFloat32S_enc (v345 : List Nat) (v346 : List Nat) (y : Bool) : Rs := (.bool y, [])
theorem laws_eqFloat32S_den (v345 : List Nat) (v346 : List Nat) : (den TT (tabD laws_eqFloat32S_tab) (tabM laws_eqFloat32S_tab) (laws_eqFloat32S_LO v345 v346) (codeOf Try.f20) ([.bslc (BR.root 0) (.f32 v345), .bslc (BR.root 1) (.f32 v346)] ++ List.replicate (Try.f20.ntmps - ([.bslc (BR.root 0) (.f32 v345), .bslc (BR.root 1) (.f32 v346)] : List DV).length) .undef) []).bind (retD TT Try.f20.results.toList 0) = (laws_eqFloat32S_T v345 v346).bind fun y => .leaf (laws_eqFloat32S_enc v345 v346 y) := by kernel_rfl
theorem laws_eqFloat32S_fn (v345 : List Nat) (v346 : List Nat) (F : Fr) (hm : F.ids.length = 0) (h0 : St F [] F.H0) (hA : DVs.Ok F [] [.bslc (BR.root 0) (.f32 v345), .bslc (BR.root 1) (.f32 v346)]) {y : Bool} (hy : laws_eqFloat32S_g v345 v346 = some y) : ∃ H', FnOk Try.prog 20 (DVs.av F [.bslc (BR.root 0) (.f32 v345), .bslc (BR.root 1) (.f32 v346)]) F.H0 ((laws_eqFloat32S_enc v345 v346 y).1.av F) H' ∧ St F (laws_eqFloat32S_enc v345 v346 y).2 H' ∧ (laws_eqFloat32S_enc v345 v346 y).1.Ok F (laws_eqFloat32S_enc v345 v346 y).2 :=
  fn_fin tok laws_eqFloat32S_hO mixed Try.func20 Try.call20 (by kernel_rfl) (LoopsOk_eq (l := [(0, bodyOf Try.f20 0)]) (by kernel_rfl) ⟨laws_eqFloat32S_l0_ok v345 v346, trivial⟩) (laws_eqFloat32S_den v345 v346) hy hm h0 hA
noncomputable def laws_eqFloat32S_F : DFn := fun args L =>
  match args with
  | [a1, a2] =>
    optT (rowF32 L a1) fun v345 =>
    optT (rowF32 L a2) fun v346 =>
    .call (laws_eqFloat32S_g v345 v346) fun y => .leaf (.bool y, L)
  | _ => .fail
theorem laws_eqFloat32S_Fok : COk Try.prog 20 laws_eqFloat32S_F true := by
  intro F L H args r L' hs ha hr
  unfold laws_eqFloat32S_F at hr
  split at hr
  · rename_i a1 a2
    obtain ⟨v345, hv345, hr⟩ := optT_run hr
    obtain ⟨v346, hv346, hr⟩ := optT_run hr
    simp only [Tree.run] at hr
    obtain ⟨y, hy, hr⟩ := Option.bind_eq_some_iff.1 hr
    simp only [Tree.run, Option.some.injEq, Prod.mk.injEq] at hr
    obtain ⟨rfl, rfl⟩ := hr
    exact call_ok0 hs (fun k => (([a1.av F, a2.av F] : List AV)[k]?).getD .top) [a1, a2] [.bslc (BR.root 0) (.f32 v345), .bslc (BR.root 1) (.f32 v346)] (fun F' h0 hi hρ => ⟨by simp [DVs.av, DV.av, BR.av, hρ], laws_eqFloat32S_fn v345 v346 F' (by rw [hi]; rfl) (st_nil hi) ⟨bslc_ok hi (by rw [h0, hρ]; exact rowF32_ok hs (DVs.okAt ha 0 rfl) hv345), bslc_ok hi (by rw [h0, hρ]; exact rowF32_ok hs (DVs.okAt ha 1 rfl) hv346), trivial⟩ hy⟩) rfl
  · cases hr
/-! laws.eqMatrix -/
noncomputable def laws_eqMatrix_LO (v339 : Int) (v340 : Int) (v341 : List Nat) (v342 : Int) (v343 : Int) (v344 : List Nat) : LOr := fun id e L =>
  match id with
  | _ => .fail
noncomputable def laws_eqMatrix_tab : List (FuncId × DFn × Bool) := [(20, laws_eqFloat32S_F, true)]
theorem laws_eqMatrix_hO : OrcOk Try.prog (tabD laws_eqMatrix_tab) (tabM laws_eqMatrix_tab) := tabD_cons laws_eqFloat32S_Fok (tabD_nil _)
noncomputable def laws_eqMatrix_T (v339 : Int) (v340 : Int) (v341 : List Nat) (v342 : Int) (v343 : Int) (v344 : List Nat) : Tree (Bool) :=
  (.br (!decide (v339 = v342)) (
   .leaf false
  ) (
   (.br (!decide (v340 = v343)) (
    .leaf false
   ) (
    (.call (laws_eqFloat32S_g v341 v344) fun v353 =>
    (.br (!v353) (
     .leaf false
    ) (
     .leaf true
    )))
   ))
  ))

noncomputable def laws_eqMatrix_g (v339 : Int) (v340 : Int) (v341 : List Nat) (v342 : Int) (v343 : Int) (v344 : List Nat) : Option (Bool) := (laws_eqMatrix_T v339 v340 v341 v342 v343 v344).run
def laws_eqMatrix_enc (v339 : Int) (v340 : Int) (v341 : List Nat) (v342 : Int) (v343 : Int) (v344 : List Nat) (y : Bool) : Rs := (.bool y, [])
theorem laws_eqMatrix_den (v339 : Int) (v340 : Int) (v341 : List Nat) (v342 : Int) (v343 : Int) (v344 : List Nat) : (den TT (tabD laws_eqMatrix_tab) (tabM laws_eqMatrix_tab) (laws_eqMatrix_LO v339 v340 v341 v342 v343 v344) (codeOf Try.f33) ([.agg [.int .i64 v339, .int .i64 v340, .bslc (BR.root 0) (.f32 v341)], .agg [.int .i64 v342, .int .i64 v343, .bslc (BR.root 1) (.f32 v344)]] ++ List.replicate (Try.f33.ntmps - ([.agg [.int .i64 v339, .int .i64 v340, .bslc (BR.root 0) (.f32 v341)], .agg [.int .i64 v342, .int .i64 v343, .bslc (BR.root 1) (.f32 v344)]] : List DV).length) .undef) []).bind (retD TT Try.f33.results.toList 0) = (laws_eqMatrix_T v339 v340 v341 v342 v343 v344).bind fun y => .leaf (laws_eqMatrix_enc v339 v340 v341 v342 v343 v344 y) := by kernel_rfl
theorem laws_eqMatrix_fn (v339 : Int) (v340 : Int) (v341 : List Nat) (v342 : Int) (v343 : Int) (v344 : List Nat) (F : Fr) (hm : F.ids.length = 0) (h0 : St F [] F.H0) (hA : DVs.Ok F [] [.agg [.int .i64 v339, .int .i64 v340, .bslc (BR.root 0) (.f32 v341)], .agg [.int .i64 v342, .int .i64 v343, .bslc (BR.root 1) (.f32 v344)]]) {y : Bool} (hy : laws_eqMatrix_g v339 v340 v341 v342 v343 v344 = some y) : ∃ H', FnOk Try.prog 33 (DVs.av F [.agg [.int .i64 v339, .int .i64 v340, .bslc (BR.root 0) (.f32 v341)], .agg [.int .i64 v342, .int .i64 v343, .bslc (BR.root 1) (.f32 v344)]]) F.H0 ((laws_eqMatrix_enc v339 v340 v341 v342 v343 v344 y).1.av F) H' ∧ St F (laws_eqMatrix_enc v339 v340 v341 v342 v343 v344 y).2 H' ∧ (laws_eqMatrix_enc v339 v340 v341 v342 v343 v344 y).1.Ok F (laws_eqMatrix_enc v339 v340 v341 v342 v343 v344 y).2 :=
  fn_fin tok laws_eqMatrix_hO mixed Try.func33 Try.call33 (by kernel_rfl) (LoopsOk_eq (l := []) (by kernel_rfl) trivial) (laws_eqMatrix_den v339 v340 v341 v342 v343 v344) hy hm h0 hA
noncomputable def laws_eqMatrix_F : DFn := fun args L =>
  match args with
  | [.agg [.int .i64 v339, .int .i64 v340, a1], .agg [.int .i64 v342, .int .i64 v343, a2]] =>
    optT (rowF32 L a1) fun v341 =>
    optT (rowF32 L a2) fun v344 =>
    .call (laws_eqMatrix_g v339 v340 v341 v342 v343 v344) fun y => .leaf (.bool y, L)
  | _ => .fail
theorem laws_eqMatrix_Fok : COk Try.prog 33 laws_eqMatrix_F true := by
  intro F L H args r L' hs ha hr
  unfold laws_eqMatrix_F at hr
  split at hr
  · rename_i v339 v340 a1 v342 v343 a2
    obtain ⟨v341, hv341, hr⟩ := optT_run hr
    obtain ⟨v344, hv344, hr⟩ := optT_run hr
    simp only [Tree.run] at hr
    obtain ⟨y, hy, hr⟩ := Option.bind_eq_some_iff.1 hr
    simp only [Tree.run, Option.some.injEq, Prod.mk.injEq] at hr
    obtain ⟨rfl, rfl⟩ := hr
    exact call_ok0 hs (fun k => (([a1.av F, a2.av F] : List AV)[k]?).getD .top) [.agg [.int .i64 v339, .int .i64 v340, a1], .agg [.int .i64 v342, .int .i64 v343, a2]] [.agg [.int .i64 v339, .int .i64 v340, .bslc (BR.root 0) (.f32 v341)], .agg [.int .i64 v342, .int .i64 v343, .bslc (BR.root 1) (.f32 v344)]] (fun F' h0 hi hρ => ⟨by simp [DVs.av, DV.av, BR.av, hρ], laws_eqMatrix_fn v339 v340 v341 v342 v343 v344 F' (by rw [hi]; rfl) (st_nil hi) ⟨⟨trivial, trivial, bslc_ok hi (by rw [h0, hρ]; exact rowF32_ok hs (DVs.okAt (DVs.okAt ha 0 rfl) 2 rfl) hv341), trivial⟩, ⟨trivial, trivial, bslc_ok hi (by rw [h0, hρ]; exact rowF32_ok hs (DVs.okAt (DVs.okAt ha 1 rfl) 2 rfl) hv344), trivial⟩, trivial⟩ hy⟩) rfl
  · cases hr
/-! laws.eqInt64S -/
noncomputable def laws_eqInt64S_l0_T (v355 : List Int) (v356 : List Int) (s : Int) : Tree ((Int) ⊕ ((Unit) ⊕ (Unit))) :=
  (.br (decide (s < ((v355.length : Nat) : Int))) (
   (.grd (inb s v355.length) <|
   (.grd (inb s v356.length) <|
   (.br (!decide (nth v355 (Int.toNat s) = nth v356 (Int.toNat s))) (
    .leaf (.inr (.inl ()))
   ) (
    .leaf (.inl (IntKind.i64.wrap (s + (1 : Int))))
   ))))
  ) (
   .leaf (.inr (.inr ()))
  ))

noncomputable def laws_eqInt64S_l0_g (v355 : List Int) (v356 : List Int) (s0 : Int) : Option ((Unit) ⊕ (Unit)) := whileM (fun s => (laws_eqInt64S_l0_T v355 v356 s).run) s0
def laws_eqInt64S_l0_E (v355 : List Int) (v356 : List Int) (s : Int) : Sd := ([.bslc (BR.root 0) (.i64 v355), .bslc (BR.root 1) (.i64 v356), .top, .top, .top, .int .i64 s, .top, .top, .top, .top, .top, .top, .top, .top, .top, .top, .top, .top, .top, .top, .top, .top, .top, .top, .top, .top], [])
def laws_eqInt64S_l0_X (v355 : List Int) (v356 : List Int) (x : (Unit) ⊕ (Unit)) : Out := (match x with | .inl x => (.ret, [.top, .top, .top, .top, .lit false, .top, .top, .top, .top, .top, .top, .top, .top, .top, .top, .top, .top, .top, .top, .top, .top, .top, .top, .top, .top, .top], []) | .inr x => (.normal, [.top, .top, .top, .top, .top, .top, .top, .top, .top, .top, .top, .top, .top, .top, .top, .top, .top, .top, .top, .top, .top, .top, .top, .top, .top, .top], []))
def laws_eqInt64S_l0_kill : List Nat := [0, 0, 1, 1, 1, 0, 1, 1, 1, 1, 1, 1, 1, 1, 1, 1, 1, 1, 1, 1, 1, 1, 1, 1, 1, 1]
def laws_eqInt64S_l0_nx : Exit → List Nat
  | .exit 0 => [1, 1, 1, 1, 1, 1, 1, 1, 1, 1, 1, 1, 1, 1, 1, 1, 1, 1, 1, 1, 1, 1, 1, 1, 1, 1]
  | .ret => [1, 1, 1, 1, 0, 1, 1, 1, 1, 1, 1, 1, 1, 1, 1, 1, 1, 1, 1, 1, 1, 1, 1, 1, 1, 1]
  | _ => []
noncomputable def laws_eqInt64S_LO (v355 : List Int) (v356 : List Int) : LOr := fun id e L =>
  match id with
  | 0 => .need (normA 0 laws_eqInt64S_l0_kill e L = some (laws_eqInt64S_l0_E v355 v356 (gI (vAt e 5)))) (.call (laws_eqInt64S_l0_g v355 v356 (gI (vAt e 5))) fun x => .sum x (fun b0 => .leaf (laws_eqInt64S_l0_X v355 v356 (.inl b0))) (fun c0 => .leaf (laws_eqInt64S_l0_X v355 v356 (.inr c0))))
  | _ => .fail
noncomputable def laws_eqInt64S_tab : List (FuncId × DFn × Bool) := []
theorem laws_eqInt64S_hO : OrcOk Try.prog (tabD laws_eqInt64S_tab) (tabM laws_eqInt64S_tab) := tabD_nil _
theorem laws_eqInt64S_l0_be (v355 : List Int) (v356 : List Int) (s : Int) : bodyT TT (tabD laws_eqInt64S_tab) (tabM laws_eqInt64S_tab) (laws_eqInt64S_LO v355 v356) 0 laws_eqInt64S_l0_kill laws_eqInt64S_l0_nx (bodyOf Try.f44 0) 0 (laws_eqInt64S_l0_E v355 v356 s) = (laws_eqInt64S_l0_T v355 v356 s).bind fun y => .leaf (outS (laws_eqInt64S_l0_E v355 v356) (laws_eqInt64S_l0_X v355 v356) y) := by kernel_rfl
theorem laws_eqInt64S_l0_ok (v355 : List Int) (v356 : List Int) : LSound Try.prog 0 (laws_eqInt64S_LO v355 v356) 0 (bodyOf Try.f44 0) := by
  intro e L out h
  exact lo_ok (E := laws_eqInt64S_l0_E v355 v356) (gT := laws_eqInt64S_l0_T v355 v356) (X := laws_eqInt64S_l0_X v355 v356) (s0 := (gI (vAt e 5))) tok laws_eqInt64S_hO mixed (LoopsOk_eq (l := []) (by kernel_rfl) trivial) (laws_eqInt64S_l0_be v355 v356) rfl (by intro x; (cases x with | inl b => rfl | inr x => exact rfl)) h
noncomputable def laws_eqInt64S_T (v355 : List Int) (v356 : List Int) : Tree (Bool) :=
  (.br (!decide (((v355.length : Nat) : Int) = ((v356.length : Nat) : Int))) (
   .leaf false
  ) (
   (.need (some (laws_eqInt64S_l0_E v355 v356 (0 : Int)) = some (laws_eqInt64S_l0_E v355 v356 (0 : Int))) <|
   (.call (laws_eqInt64S_l0_g v355 v356 (0 : Int)) fun v360 =>
   (.sum v360 (fun v361 =>
    .leaf false
   ) (fun v362 =>
    .leaf true
   ))))
  ))

noncomputable def laws_eqInt64S_g (v355 : List Int) (v356 : List Int) : Option (Bool) := (laws_eqInt64S_T v355 v356).run
def laws_eqInt64S_enc (v355 : List Int) (v356 : List Int) (y : Bool) : Rs := (.bool y, [])
theorem laws_eqInt64S_den (v355 : List Int) (v356 : List Int) : (den TT (tabD laws_eqInt64S_tab) (tabM laws_eqInt64S_tab) (laws_eqInt64S_LO v355 v356) (codeOf Try.f44) ([.bslc (BR.root 0) (.i64 v355), .bslc (BR.root 1) (.i64 v356)] ++ List.replicate (Try.f44.ntmps - ([.bslc (BR.root 0) (.i64 v355), .bslc (BR.root 1) (.i64 v356)] : List DV).length) .undef) []).bind (retD TT Try.f44.results.toList 0) = (laws_eqInt64S_T v355 v356).bind fun y => .leaf (laws_eqInt64S_enc v355 v356 y) := by kernel_rfl
theorem laws_eqInt64S_fn (v355 : List Int) (v356 : List Int) (F : Fr) (hm : F.ids.length = 0) (h0 : St F [] F.H0) (hA : DVs.Ok F [] [.bslc (BR.root 0) (.i64 v355), .bslc (BR.root 1) (.i64 v356)]) {y : Bool} (hy : laws_eqInt64S_g v355 v356 = some y) : ∃ H', FnOk Try.prog 44 (DVs.av F [.bslc (BR.root 0) (.i64 v355), .bslc (BR.root 1) (.i64 v356)]) F.H0 ((laws_eqInt64S_enc v355 v356 y).1.av F) H' ∧ St F (laws_eqInt64S_enc v355 v356 y).2 H' ∧ (laws_eqInt64S_enc v355 v356 y).1.Ok F (laws_eqInt64S_enc v355 v356 y).2 :=
  fn_fin tok laws_eqInt64S_hO mixed Try.func44 Try.call44 (by kernel_rfl) (LoopsOk_eq (l := [(0, bodyOf Try.f44 0)]) (by kernel_rfl) ⟨laws_eqInt64S_l0_ok v355 v356, trivial⟩) (laws_eqInt64S_den v355 v356) hy hm h0 hA
noncomputable def laws_eqInt64S_F : DFn := fun args L =>
  match args with
  | [a1, a2] =>
    optT (rowI64 L a1) fun v355 =>
    optT (rowI64 L a2) fun v356 =>
    .call (laws_eqInt64S_g v355 v356) fun y => .leaf (.bool y, L)
  | _ => .fail
theorem laws_eqInt64S_Fok : COk Try.prog 44 laws_eqInt64S_F true := by
  intro F L H args r L' hs ha hr
  unfold laws_eqInt64S_F at hr
  split at hr
  · rename_i a1 a2
    obtain ⟨v355, hv355, hr⟩ := optT_run hr
    obtain ⟨v356, hv356, hr⟩ := optT_run hr
    simp only [Tree.run] at hr
    obtain ⟨y, hy, hr⟩ := Option.bind_eq_some_iff.1 hr
    simp only [Tree.run, Option.some.injEq, Prod.mk.injEq] at hr
    obtain ⟨rfl, rfl⟩ := hr
    exact call_ok0 hs (fun k => (([a1.av F, a2.av F] : List AV)[k]?).getD .top) [a1, a2] [.bslc (BR.root 0) (.i64 v355), .bslc (BR.root 1) (.i64 v356)] (fun F' h0 hi hρ => ⟨by simp [DVs.av, DV.av, BR.av, hρ], laws_eqInt64S_fn v355 v356 F' (by rw [hi]; rfl) (st_nil hi) ⟨bslc_ok hi (by rw [h0, hρ]; exact rowI64_ok hs (DVs.okAt ha 0 rfl) hv355), bslc_ok hi (by rw [h0, hρ]; exact rowI64_ok hs (DVs.okAt ha 1 rfl) hv356), trivial⟩ hy⟩) rfl
  · cases hr
/-! laws.eqFactor -/
noncomputable def laws_eqFactor_LO (v331 : Int) (v332 : Int) (v333 : List Nat) (v334 : List Int) (v335 : Int) (v336 : Int) (v337 : List Nat) (v338 : List Int) : LOr := fun id e L =>
  match id with
  | _ => .fail
noncomputable def laws_eqFactor_tab : List (FuncId × DFn × Bool) := [(33, laws_eqMatrix_F, true), (44, laws_eqInt64S_F, true)]
theorem laws_eqFactor_hO : OrcOk Try.prog (tabD laws_eqFactor_tab) (tabM laws_eqFactor_tab) := tabD_cons laws_eqMatrix_Fok (tabD_cons laws_eqInt64S_Fok (tabD_nil _))
noncomputable def laws_eqFactor_T (v331 : Int) (v332 : Int) (v333 : List Nat) (v334 : List Int) (v335 : Int) (v336 : Int) (v337 : List Nat) (v338 : List Int) : Tree (Bool) :=
  (.call (laws_eqMatrix_g v331 v332 v333 v335 v336 v337) fun v354 =>
  (.br (!v354) (
   .leaf false
  ) (
   (.call (laws_eqInt64S_g v334 v338) fun v363 =>
   (.br (!v363) (
    .leaf false
   ) (
    .leaf true
   )))
  )))

noncomputable def laws_eqFactor_g (v331 : Int) (v332 : Int) (v333 : List Nat) (v334 : List Int) (v335 : Int) (v336 : Int) (v337 : List Nat) (v338 : List Int) : Option (Bool) := (laws_eqFactor_T v331 v332 v333 v334 v335 v336 v337 v338).run
def laws_eqFactor_enc (v331 : Int) (v332 : Int) (v333 : List Nat) (v334 : List Int) (v335 : Int) (v336 : Int) (v337 : List Nat) (v338 : List Int) (y : Bool) : Rs := (.bool y, [])
theorem laws_eqFactor_den (v331 : Int) (v332 : Int) (v333 : List Nat) (v334 : List Int) (v335 : Int) (v336 : Int) (v337 : List Nat) (v338 : List Int) : (den TT (tabD laws_eqFactor_tab) (tabM laws_eqFactor_tab) (laws_eqFactor_LO v331 v332 v333 v334 v335 v336 v337 v338) (codeOf Try.f50) ([.agg [.int .i64 v331, .int .i64 v332, .bslc (BR.root 0) (.f32 v333), .bslc (BR.root 1) (.i64 v334)], .agg [.int .i64 v335, .int .i64 v336, .bslc (BR.root 2) (.f32 v337), .bslc (BR.root 3) (.i64 v338)]] ++ List.replicate (Try.f50.ntmps - ([.agg [.int .i64 v331, .int .i64 v332, .bslc (BR.root 0) (.f32 v333), .bslc (BR.root 1) (.i64 v334)], .agg [.int .i64 v335, .int .i64 v336, .bslc (BR.root 2) (.f32 v337), .bslc (BR.root 3) (.i64 v338)]] : List DV).length) .undef) []).bind (retD TT Try.f50.results.toList 0) = (laws_eqFactor_T v331 v332 v333 v334 v335 v336 v337 v338).bind fun y => .leaf (laws_eqFactor_enc v331 v332 v333 v334 v335 v336 v337 v338 y) := by kernel_rfl
theorem laws_eqFactor_fn (v331 : Int) (v332 : Int) (v333 : List Nat) (v334 : List Int) (v335 : Int) (v336 : Int) (v337 : List Nat) (v338 : List Int) (F : Fr) (hm : F.ids.length = 0) (h0 : St F [] F.H0) (hA : DVs.Ok F [] [.agg [.int .i64 v331, .int .i64 v332, .bslc (BR.root 0) (.f32 v333), .bslc (BR.root 1) (.i64 v334)], .agg [.int .i64 v335, .int .i64 v336, .bslc (BR.root 2) (.f32 v337), .bslc (BR.root 3) (.i64 v338)]]) {y : Bool} (hy : laws_eqFactor_g v331 v332 v333 v334 v335 v336 v337 v338 = some y) : ∃ H', FnOk Try.prog 50 (DVs.av F [.agg [.int .i64 v331, .int .i64 v332, .bslc (BR.root 0) (.f32 v333), .bslc (BR.root 1) (.i64 v334)], .agg [.int .i64 v335, .int .i64 v336, .bslc (BR.root 2) (.f32 v337), .bslc (BR.root 3) (.i64 v338)]]) F.H0 ((laws_eqFactor_enc v331 v332 v333 v334 v335 v336 v337 v338 y).1.av F) H' ∧ St F (laws_eqFactor_enc v331 v332 v333 v334 v335 v336 v337 v338 y).2 H' ∧ (laws_eqFactor_enc v331 v332 v333 v334 v335 v336 v337 v338 y).1.Ok F (laws_eqFactor_enc v331 v332 v333 v334 v335 v336 v337 v338 y).2 :=
  fn_fin tok laws_eqFactor_hO mixed Try.func50 Try.call50 (by kernel_rfl) (LoopsOk_eq (l := []) (by kernel_rfl) trivial) (laws_eqFactor_den v331 v332 v333 v334 v335 v336 v337 v338) hy hm h0 hA
noncomputable def laws_eqFactor_F : DFn := fun args L =>
  match args with
  | [.agg [.int .i64 v331, .int .i64 v332, a1, a2], .agg [.int .i64 v335, .int .i64 v336, a3, a4]] =>
    optT (rowF32 L a1) fun v333 =>
    optT (rowI64 L a2) fun v334 =>
    optT (rowF32 L a3) fun v337 =>
    optT (rowI64 L a4) fun v338 =>
    .call (laws_eqFactor_g v331 v332 v333 v334 v335 v336 v337 v338) fun y => .leaf (.bool y, L)
  | _ => .fail
theorem laws_eqFactor_Fok : COk Try.prog 50 laws_eqFactor_F true := by
  intro F L H args r L' hs ha hr
  unfold laws_eqFactor_F at hr
  split at hr
  · rename_i v331 v332 a1 a2 v335 v336 a3 a4
    obtain ⟨v333, hv333, hr⟩ := optT_run hr
    obtain ⟨v334, hv334, hr⟩ := optT_run hr
    obtain ⟨v337, hv337, hr⟩ := optT_run hr
    obtain ⟨v338, hv338, hr⟩ := optT_run hr
    simp only [Tree.run] at hr
    obtain ⟨y, hy, hr⟩ := Option.bind_eq_some_iff.1 hr
    simp only [Tree.run, Option.some.injEq, Prod.mk.injEq] at hr
    obtain ⟨rfl, rfl⟩ := hr
    exact call_ok0 hs (fun k => (([a1.av F, a2.av F, a3.av F, a4.av F] : List AV)[k]?).getD .top) [.agg [.int .i64 v331, .int .i64 v332, a1, a2], .agg [.int .i64 v335, .int .i64 v336, a3, a4]] [.agg [.int .i64 v331, .int .i64 v332, .bslc (BR.root 0) (.f32 v333), .bslc (BR.root 1) (.i64 v334)], .agg [.int .i64 v335, .int .i64 v336, .bslc (BR.root 2) (.f32 v337), .bslc (BR.root 3) (.i64 v338)]] (fun F' h0 hi hρ => ⟨by simp [DVs.av, DV.av, BR.av, hρ], laws_eqFactor_fn v331 v332 v333 v334 v335 v336 v337 v338 F' (by rw [hi]; rfl) (st_nil hi) ⟨⟨trivial, trivial, bslc_ok hi (by rw [h0, hρ]; exact rowF32_ok hs (DVs.okAt (DVs.okAt ha 0 rfl) 2 rfl) hv333), bslc_ok hi (by rw [h0, hρ]; exact rowI64_ok hs (DVs.okAt (DVs.okAt ha 0 rfl) 3 rfl) hv334), trivial⟩, ⟨trivial, trivial, bslc_ok hi (by rw [h0, hρ]; exact rowF32_ok hs (DVs.okAt (DVs.okAt ha 1 rfl) 2 rfl) hv337), bslc_ok hi (by rw [h0, hρ]; exact rowI64_ok hs (DVs.okAt (DVs.okAt ha 1 rfl) 3 rfl) hv338), trivial⟩, trivial⟩ hy⟩) rfl
  · cases hr
/-! laws.FnExactFactorDet -/
noncomputable def laws_FnExactFactorDet_LO (v1 : Int) (v2 : Int) (v3 : List Nat) (v4 : List Int) : LOr := fun id e L =>
  match id with
  | _ => .fail
noncomputable def laws_FnExactFactorDet_tab : List (FuncId × DFn × Bool) := [(46, laws_szFactor_F, true), (48, laws_toFactor_F, true), (51, spec_FactorDet_F, true), (52, impl_FactorDet_F, true), (53, laws_sameFloat_F, true), (50, laws_eqFactor_F, true)]
theorem laws_FnExactFactorDet_hO : OrcOk Try.prog (tabD laws_FnExactFactorDet_tab) (tabM laws_FnExactFactorDet_tab) := tabD_cons laws_szFactor_Fok (tabD_cons laws_toFactor_Fok (tabD_cons spec_FactorDet_Fok (tabD_cons impl_FactorDet_Fok (tabD_cons laws_sameFloat_Fok (tabD_cons laws_eqFactor_Fok (tabD_nil _))))))
noncomputable def laws_FnExactFactorDet_T (v1 : Int) (v2 : Int) (v3 : List Nat) (v4 : List Int) : Tree (Bool) :=
  (.br (decide ((laws_szFactor_v v3 v4 (1048576 : Int)) < (0 : Int))) (
   .leaf true
  ) (
   (.call (laws_toFactor_g v1 v2 v3 v4) fun v42 =>
   (.call (spec_FactorDet_g v42.1 v42.2.1 v42.2.2.1 v42.2.2.2) fun v154 =>
   (.sum v154 (fun v155 =>
    (.call (laws_toFactor_g v1 v2 v3 v4) fun v157 =>
    (.call (impl_FactorDet_g v157.1 v157.2.1 v157.2.2.1 v157.2.2.2) fun v325 =>
    (.sum v325 (fun v326 =>
     (.br (!(laws_sameFloat_v (wid (0 : Nat)) (wid (0 : Nat)))) (
      .leaf false
     ) (
      (.br (!(false == false)) (
       .leaf false
      ) (
       (.call (laws_toFactor_g v1 v2 v3 v4) fun v330 =>
       (.call (laws_eqFactor_g v157.1 v157.2.1 v157.2.2.1 v157.2.2.2 v330.1 v330.2.1 v330.2.2.1 v330.2.2.2) fun v364 =>
       (.br (!v364) (
        .leaf false
       ) (
        .leaf true
       ))))
      ))
     ))
    ) (fun v327 =>
     (.br (!(laws_sameFloat_v (wid v327) (wid (0 : Nat)))) (
      .leaf false
     ) (
      (.br (!(true == false)) (
       .leaf false
      ) (
       (.call (laws_toFactor_g v1 v2 v3 v4) fun v365 =>
       (.call (laws_eqFactor_g v157.1 v157.2.1 v157.2.2.1 v157.2.2.2 v365.1 v365.2.1 v365.2.2.1 v365.2.2.2) fun v366 =>
       (.br (!v366) (
        .leaf false
       ) (
        .leaf true
       ))))
      ))
     ))
    ))))
   ) (fun v156 =>
    (.call (laws_toFactor_g v1 v2 v3 v4) fun v367 =>
    (.call (impl_FactorDet_g v367.1 v367.2.1 v367.2.2.1 v367.2.2.2) fun v368 =>
    (.sum v368 (fun v369 =>
     (.br (!(laws_sameFloat_v (wid (0 : Nat)) (wid v156))) (
      .leaf false
     ) (
      (.br (!(false == true)) (
       .leaf false
      ) (
       (.call (laws_toFactor_g v1 v2 v3 v4) fun v371 =>
       (.call (laws_eqFactor_g v367.1 v367.2.1 v367.2.2.1 v367.2.2.2 v371.1 v371.2.1 v371.2.2.1 v371.2.2.2) fun v372 =>
       (.br (!v372) (
        .leaf false
       ) (
        .leaf true
       ))))
      ))
     ))
    ) (fun v370 =>
     (.br (!(laws_sameFloat_v (wid v370) (wid v156))) (
      .leaf false
     ) (
      (.br (!(true == true)) (
       .leaf false
      ) (
       (.call (laws_toFactor_g v1 v2 v3 v4) fun v373 =>
       (.call (laws_eqFactor_g v367.1 v367.2.1 v367.2.2.1 v367.2.2.2 v373.1 v373.2.1 v373.2.2.1 v373.2.2.2) fun v374 =>
       (.br (!v374) (
        .leaf false
       ) (
        .leaf true
       ))))
      ))
     ))
    ))))
   ))))
  ))

noncomputable def laws_FnExactFactorDet_g (v1 : Int) (v2 : Int) (v3 : List Nat) (v4 : List Int) : Option (Bool) := (laws_FnExactFactorDet_T v1 v2 v3 v4).run
def laws_FnExactFactorDet_enc (v1 : Int) (v2 : Int) (v3 : List Nat) (v4 : List Int) (y : Bool) : Rs := (.bool y, [])
theorem laws_FnExactFactorDet_den (v1 : Int) (v2 : Int) (v3 : List Nat) (v4 : List Int) : (den TT (tabD laws_FnExactFactorDet_tab) (tabM laws_FnExactFactorDet_tab) (laws_FnExactFactorDet_LO v1 v2 v3 v4) (codeOf Try.f10) ([.agg [.int .i64 v1, .int .i64 v2, .bslc (BR.root 0) (.f32 v3), .bslc (BR.root 1) (.i64 v4)]] ++ List.replicate (Try.f10.ntmps - ([.agg [.int .i64 v1, .int .i64 v2, .bslc (BR.root 0) (.f32 v3), .bslc (BR.root 1) (.i64 v4)]] : List DV).length) .undef) []).bind (retD TT Try.f10.results.toList 0) = (laws_FnExactFactorDet_T v1 v2 v3 v4).bind fun y => .leaf (laws_FnExactFactorDet_enc v1 v2 v3 v4 y) := by kernel_rfl
theorem laws_FnExactFactorDet_fn (v1 : Int) (v2 : Int) (v3 : List Nat) (v4 : List Int) (F : Fr) (hm : F.ids.length = 0) (h0 : St F [] F.H0) (hA : DVs.Ok F [] [.agg [.int .i64 v1, .int .i64 v2, .bslc (BR.root 0) (.f32 v3), .bslc (BR.root 1) (.i64 v4)]]) {y : Bool} (hy : laws_FnExactFactorDet_g v1 v2 v3 v4 = some y) : ∃ H', FnOk Try.prog 10 (DVs.av F [.agg [.int .i64 v1, .int .i64 v2, .bslc (BR.root 0) (.f32 v3), .bslc (BR.root 1) (.i64 v4)]]) F.H0 ((laws_FnExactFactorDet_enc v1 v2 v3 v4 y).1.av F) H' ∧ St F (laws_FnExactFactorDet_enc v1 v2 v3 v4 y).2 H' ∧ (laws_FnExactFactorDet_enc v1 v2 v3 v4 y).1.Ok F (laws_FnExactFactorDet_enc v1 v2 v3 v4 y).2 :=
  fn_fin tok laws_FnExactFactorDet_hO mixed Try.func10 Try.call10 (by kernel_rfl) (LoopsOk_eq (l := []) (by kernel_rfl) trivial) (laws_FnExactFactorDet_den v1 v2 v3 v4) hy hm h0 hA
noncomputable def laws_FnExactFactorDet_F : DFn := fun args L =>
  match args with
  | [.agg [.int .i64 v1, .int .i64 v2, a1, a2]] =>
    optT (rowF32 L a1) fun v3 =>
    optT (rowI64 L a2) fun v4 =>
    .call (laws_FnExactFactorDet_g v1 v2 v3 v4) fun y => .leaf (.bool y, L)
  | _ => .fail
theorem laws_FnExactFactorDet_Fok : COk Try.prog 10 laws_FnExactFactorDet_F true := by
  intro F L H args r L' hs ha hr
  unfold laws_FnExactFactorDet_F at hr
  split at hr
  · rename_i v1 v2 a1 a2
    obtain ⟨v3, hv3, hr⟩ := optT_run hr
    obtain ⟨v4, hv4, hr⟩ := optT_run hr
    simp only [Tree.run] at hr
    obtain ⟨y, hy, hr⟩ := Option.bind_eq_some_iff.1 hr
    simp only [Tree.run, Option.some.injEq, Prod.mk.injEq] at hr
    obtain ⟨rfl, rfl⟩ := hr
    exact call_ok0 hs (fun k => (([a1.av F, a2.av F] : List AV)[k]?).getD .top) [.agg [.int .i64 v1, .int .i64 v2, a1, a2]] [.agg [.int .i64 v1, .int .i64 v2, .bslc (BR.root 0) (.f32 v3), .bslc (BR.root 1) (.i64 v4)]] (fun F' h0 hi hρ => ⟨by simp [DVs.av, DV.av, BR.av, hρ], laws_FnExactFactorDet_fn v1 v2 v3 v4 F' (by rw [hi]; rfl) (st_nil hi) ⟨⟨trivial, trivial, bslc_ok hi (by rw [h0, hρ]; exact rowF32_ok hs (DVs.okAt (DVs.okAt ha 0 rfl) 2 rfl) hv3), bslc_ok hi (by rw [h0, hρ]; exact rowI64_ok hs (DVs.okAt (DVs.okAt ha 0 rfl) 3 rfl) hv4), trivial⟩, trivial⟩ hy⟩) rfl
  · cases hr
/-! laws.szFloat32S -/
noncomputable def laws_szFloat32S_len_LO (v388 : Nat) (v389 : Int) : LOr := fun id e L =>
  match id with
  | _ => .fail
noncomputable def laws_szFloat32S_len_tab : List (FuncId × DFn × Bool) := []
theorem laws_szFloat32S_len_hO : OrcOk Try.prog (tabD laws_szFloat32S_len_tab) (tabM laws_szFloat32S_len_tab) := tabD_nil _
noncomputable def laws_szFloat32S_len_T (v388 : Nat) (v389 : Int) : Tree (Int) :=
  (.br (decide (IntKind.i64.wrap (v389 - ((v388 : Nat) : Int)) < (0 : Int))) (
   .leaf (-1 : Int)
  ) (
   .leaf (IntKind.i64.wrap (v389 - ((v388 : Nat) : Int)))
  ))

noncomputable def laws_szFloat32S_len_g (v388 : Nat) (v389 : Int) : Option (Int) := (laws_szFloat32S_len_T v388 v389).run
def laws_szFloat32S_len_enc (v388 : Nat) (v389 : Int) (y : Int) : Rs := (.int .i64 y, [])
theorem laws_szFloat32S_len_den (v388 : Nat) (v389 : Int) : (den TT (tabD laws_szFloat32S_len_tab) (tabM laws_szFloat32S_len_tab) (laws_szFloat32S_len_LO v388 v389) (codeOf Try.f64) ([.hslc (BR.root 0) v388, .int .i64 v389] ++ List.replicate (Try.f64.ntmps - ([.hslc (BR.root 0) v388, .int .i64 v389] : List DV).length) .undef) []).bind (retD TT Try.f64.results.toList 0) = (laws_szFloat32S_len_T v388 v389).bind fun y => .leaf (laws_szFloat32S_len_enc v388 v389 y) := by kernel_rfl
theorem laws_szFloat32S_len_fn (v388 : Nat) (v389 : Int) (F : Fr) (hm : F.ids.length = 0) (h0 : St F [] F.H0) (hA : DVs.Ok F [] [.hslc (BR.root 0) v388, .int .i64 v389]) {y : Int} (hy : laws_szFloat32S_len_g v388 v389 = some y) : ∃ H', FnOk Try.prog 64 (DVs.av F [.hslc (BR.root 0) v388, .int .i64 v389]) F.H0 ((laws_szFloat32S_len_enc v388 v389 y).1.av F) H' ∧ St F (laws_szFloat32S_len_enc v388 v389 y).2 H' ∧ (laws_szFloat32S_len_enc v388 v389 y).1.Ok F (laws_szFloat32S_len_enc v388 v389 y).2 :=
  fn_fin tok laws_szFloat32S_len_hO mixed Try.func64 Try.call64 (by kernel_rfl) (LoopsOk_eq (l := []) (by kernel_rfl) trivial) (laws_szFloat32S_len_den v388 v389) hy hm h0 hA
def laws_szFloat32S_len_v (v388 : Nat) (v389 : Int) : Int :=
  if (decide (IntKind.i64.wrap (v389 - ((v388 : Nat) : Int)) < (0 : Int))) = true then (
   (-1 : Int)
  ) else (
   IntKind.i64.wrap (v389 - ((v388 : Nat) : Int))
  )
theorem laws_szFloat32S_len_tot (v388 : Nat) (v389 : Int) : laws_szFloat32S_len_g v388 v389 = some (laws_szFloat32S_len_v v388 v389) := by
  unfold laws_szFloat32S_len_g laws_szFloat32S_len_T laws_szFloat32S_len_v
  simp only [Tree.run]
  repeat' (first | rfl | split)
noncomputable def laws_szFloat32S_len_F : DFn := fun args L =>
  match args with
  | [a1, .int .i64 v389] =>
    optT (lenV L a1) fun v388 =>
    .leaf (.int .i64 (laws_szFloat32S_len_v v388 v389), L)
  | _ => .fail
theorem laws_szFloat32S_len_Fok : COk Try.prog 64 laws_szFloat32S_len_F true := by
  intro F L H args r L' hs ha hr
  unfold laws_szFloat32S_len_F at hr
  split at hr
  · rename_i a1 v389
    obtain ⟨v388, hv388, hr⟩ := optT_run hr
    have hy := laws_szFloat32S_len_tot v388 v389
    generalize laws_szFloat32S_len_v v388 v389 = y at hy hr
    simp only [Tree.run, Option.some.injEq, Prod.mk.injEq] at hr
    obtain ⟨rfl, rfl⟩ := hr
    exact call_ok0 hs (fun k => (([a1.av F] : List AV)[k]?).getD .top) [a1, .int .i64 v389] [.hslc (BR.root 0) v388, .int .i64 v389] (fun F' h0 hi hρ => ⟨by simp [DVs.av, DV.av, BR.av, hρ], laws_szFloat32S_len_fn v388 v389 F' (by rw [hi]; rfl) (st_nil hi) ⟨hslc_ok hi (by rw [h0, hρ]; exact lenV_ok hs (DVs.okAt ha 0 rfl) hv388), trivial, trivial⟩ hy⟩) rfl
  · cases hr
/-! laws.szMatrix -/
noncomputable def laws_szMatrix_len_LO (v384 : Int) (v385 : Int) (v386 : Nat) (v387 : Int) : LOr := fun id e L =>
  match id with
  | _ => .fail
noncomputable def laws_szMatrix_len_tab : List (FuncId × DFn × Bool) := [(64, laws_szFloat32S_len_F, true)]
theorem laws_szMatrix_len_hO : OrcOk Try.prog (tabD laws_szMatrix_len_tab) (tabM laws_szMatrix_len_tab) := tabD_cons laws_szFloat32S_len_Fok (tabD_nil _)
noncomputable def laws_szMatrix_len_T (v386 : Nat) (v387 : Int) : Tree (Int) :=
  (.br (decide ((laws_szFloat32S_len_v v386 v387) < (0 : Int))) (
   .leaf (-1 : Int)
  ) (
   .leaf (laws_szFloat32S_len_v v386 v387)
  ))

noncomputable def laws_szMatrix_len_g (v386 : Nat) (v387 : Int) : Option (Int) := (laws_szMatrix_len_T v386 v387).run
def laws_szMatrix_len_enc (v384 : Int) (v385 : Int) (v386 : Nat) (v387 : Int) (y : Int) : Rs := (.int .i64 y, [])
theorem laws_szMatrix_len_den (v384 : Int) (v385 : Int) (v386 : Nat) (v387 : Int) : (den TT (tabD laws_szMatrix_len_tab) (tabM laws_szMatrix_len_tab) (laws_szMatrix_len_LO v384 v385 v386 v387) (codeOf Try.f29) ([.agg [.int .i64 v384, .int .i64 v385, .hslc (BR.root 0) v386], .int .i64 v387] ++ List.replicate (Try.f29.ntmps - ([.agg [.int .i64 v384, .int .i64 v385, .hslc (BR.root 0) v386], .int .i64 v387] : List DV).length) .undef) []).bind (retD TT Try.f29.results.toList 0) = (laws_szMatrix_len_T v386 v387).bind fun y => .leaf (laws_szMatrix_len_enc v384 v385 v386 v387 y) := by kernel_rfl
theorem laws_szMatrix_len_fn (v384 : Int) (v385 : Int) (v386 : Nat) (v387 : Int) (F : Fr) (hm : F.ids.length = 0) (h0 : St F [] F.H0) (hA : DVs.Ok F [] [.agg [.int .i64 v384, .int .i64 v385, .hslc (BR.root 0) v386], .int .i64 v387]) {y : Int} (hy : laws_szMatrix_len_g v386 v387 = some y) : ∃ H', FnOk Try.prog 29 (DVs.av F [.agg [.int .i64 v384, .int .i64 v385, .hslc (BR.root 0) v386], .int .i64 v387]) F.H0 ((laws_szMatrix_len_enc v384 v385 v386 v387 y).1.av F) H' ∧ St F (laws_szMatrix_len_enc v384 v385 v386 v387 y).2 H' ∧ (laws_szMatrix_len_enc v384 v385 v386 v387 y).1.Ok F (laws_szMatrix_len_enc v384 v385 v386 v387 y).2 :=
  fn_fin tok laws_szMatrix_len_hO mixed Try.func29 Try.call29 (by kernel_rfl) (LoopsOk_eq (l := []) (by kernel_rfl) trivial) (laws_szMatrix_len_den v384 v385 v386 v387) hy hm h0 hA
def laws_szMatrix_len_v (v386 : Nat) (v387 : Int) : Int :=
  if (decide ((laws_szFloat32S_len_v v386 v387) < (0 : Int))) = true then (
   (-1 : Int)
  ) else (
   (laws_szFloat32S_len_v v386 v387)
  )
theorem laws_szMatrix_len_tot (v386 : Nat) (v387 : Int) : laws_szMatrix_len_g v386 v387 = some (laws_szMatrix_len_v v386 v387) := by
  unfold laws_szMatrix_len_g laws_szMatrix_len_T laws_szMatrix_len_v
  simp only [Tree.run]
  repeat' (first | rfl | split)
noncomputable def laws_szMatrix_len_F : DFn := fun args L =>
  match args with
  | [.agg [.int .i64 v384, .int .i64 v385, a1], .int .i64 v387] =>
    optT (lenV L a1) fun v386 =>
    .leaf (.int .i64 (laws_szMatrix_len_v v386 v387), L)
  | _ => .fail
theorem laws_szMatrix_len_Fok : COk Try.prog 29 laws_szMatrix_len_F true := by
  intro F L H args r L' hs ha hr
  unfold laws_szMatrix_len_F at hr
  split at hr
  · rename_i v384 v385 a1 v387
    obtain ⟨v386, hv386, hr⟩ := optT_run hr
    have hy := laws_szMatrix_len_tot v386 v387
    generalize laws_szMatrix_len_v v386 v387 = y at hy hr
    simp only [Tree.run, Option.some.injEq, Prod.mk.injEq] at hr
    obtain ⟨rfl, rfl⟩ := hr
    exact call_ok0 hs (fun k => (([a1.av F] : List AV)[k]?).getD .top) [.agg [.int .i64 v384, .int .i64 v385, a1], .int .i64 v387] [.agg [.int .i64 v384, .int .i64 v385, .hslc (BR.root 0) v386], .int .i64 v387] (fun F' h0 hi hρ => ⟨by simp [DVs.av, DV.av, BR.av, hρ], laws_szMatrix_len_fn v384 v385 v386 v387 F' (by rw [hi]; rfl) (st_nil hi) ⟨⟨trivial, trivial, hslc_ok hi (by rw [h0, hρ]; exact lenV_ok hs (DVs.okAt (DVs.okAt ha 0 rfl) 2 rfl) hv386), trivial⟩, trivial, trivial⟩ hy⟩) rfl
  · cases hr
/-! laws.szInt64S -/
noncomputable def laws_szInt64S_len_LO (v390 : Nat) (v391 : Int) : LOr := fun id e L =>
  match id with
  | _ => .fail
noncomputable def laws_szInt64S_len_tab : List (FuncId × DFn × Bool) := []
theorem laws_szInt64S_len_hO : OrcOk Try.prog (tabD laws_szInt64S_len_tab) (tabM laws_szInt64S_len_tab) := tabD_nil _
noncomputable def laws_szInt64S_len_T (v390 : Nat) (v391 : Int) : Tree (Int) :=
  (.br (decide (IntKind.i64.wrap (v391 - ((v390 : Nat) : Int)) < (0 : Int))) (
   .leaf (-1 : Int)
  ) (
   .leaf (IntKind.i64.wrap (v391 - ((v390 : Nat) : Int)))
  ))

noncomputable def laws_szInt64S_len_g (v390 : Nat) (v391 : Int) : Option (Int) := (laws_szInt64S_len_T v390 v391).run
def laws_szInt64S_len_enc (v390 : Nat) (v391 : Int) (y : Int) : Rs := (.int .i64 y, [])
theorem laws_szInt64S_len_den (v390 : Nat) (v391 : Int) : (den TT (tabD laws_szInt64S_len_tab) (tabM laws_szInt64S_len_tab) (laws_szInt64S_len_LO v390 v391) (codeOf Try.f63) ([.hslc (BR.root 0) v390, .int .i64 v391] ++ List.replicate (Try.f63.ntmps - ([.hslc (BR.root 0) v390, .int .i64 v391] : List DV).length) .undef) []).bind (retD TT Try.f63.results.toList 0) = (laws_szInt64S_len_T v390 v391).bind fun y => .leaf (laws_szInt64S_len_enc v390 v391 y) := by kernel_rfl
theorem laws_szInt64S_len_fn (v390 : Nat) (v391 : Int) (F : Fr) (hm : F.ids.length = 0) (h0 : St F [] F.H0) (hA : DVs.Ok F [] [.hslc (BR.root 0) v390, .int .i64 v391]) {y : Int} (hy : laws_szInt64S_len_g v390 v391 = some y) : ∃ H', FnOk Try.prog 63 (DVs.av F [.hslc (BR.root 0) v390, .int .i64 v391]) F.H0 ((laws_szInt64S_len_enc v390 v391 y).1.av F) H' ∧ St F (laws_szInt64S_len_enc v390 v391 y).2 H' ∧ (laws_szInt64S_len_enc v390 v391 y).1.Ok F (laws_szInt64S_len_enc v390 v391 y).2 :=
  fn_fin tok laws_szInt64S_len_hO mixed Try.func63 Try.call63 (by kernel_rfl) (LoopsOk_eq (l := []) (by kernel_rfl) trivial) (laws_szInt64S_len_den v390 v391) hy hm h0 hA
def laws_szInt64S_len_v (v390 : Nat) (v391 : Int) : Int :=
  if (decide (IntKind.i64.wrap (v391 - ((v390 : Nat) : Int)) < (0 : Int))) = true then (
   (-1 : Int)
  ) else (
   IntKind.i64.wrap (v391 - ((v390 : Nat) : Int))
  )
theorem laws_szInt64S_len_tot (v390 : Nat) (v391 : Int) : laws_szInt64S_len_g v390 v391 = some (laws_szInt64S_len_v v390 v391) := by
  unfold laws_szInt64S_len_g laws_szInt64S_len_T laws_szInt64S_len_v
  simp only [Tree.run]
  repeat' (first | rfl | split)
noncomputable def laws_szInt64S_len_F : DFn := fun args L =>
  match args with
  | [a1, .int .i64 v391] =>
    optT (lenV L a1) fun v390 =>
    .leaf (.int .i64 (laws_szInt64S_len_v v390 v391), L)
  | _ => .fail
theorem laws_szInt64S_len_Fok : COk Try.prog 63 laws_szInt64S_len_F true := by
  intro F L H args r L' hs ha hr
  unfold laws_szInt64S_len_F at hr
  split at hr
  · rename_i a1 v391
    obtain ⟨v390, hv390, hr⟩ := optT_run hr
    have hy := laws_szInt64S_len_tot v390 v391
    generalize laws_szInt64S_len_v v390 v391 = y at hy hr
    simp only [Tree.run, Option.some.injEq, Prod.mk.injEq] at hr
    obtain ⟨rfl, rfl⟩ := hr
    exact call_ok0 hs (fun k => (([a1.av F] : List AV)[k]?).getD .top) [a1, .int .i64 v391] [.hslc (BR.root 0) v390, .int .i64 v391] (fun F' h0 hi hρ => ⟨by simp [DVs.av, DV.av, BR.av, hρ], laws_szInt64S_len_fn v390 v391 F' (by rw [hi]; rfl) (st_nil hi) ⟨hslc_ok hi (by rw [h0, hρ]; exact lenV_ok hs (DVs.okAt ha 0 rfl) hv390), trivial, trivial⟩ hy⟩) rfl
  · cases hr
/-! laws.szFactor -/
noncomputable def laws_szFactor_len_LO (v379 : Int) (v380 : Int) (v381 : Nat) (v382 : Nat) (v383 : Int) : LOr := fun id e L =>
  match id with
  | _ => .fail
noncomputable def laws_szFactor_len_tab : List (FuncId × DFn × Bool) := [(29, laws_szMatrix_len_F, true), (63, laws_szInt64S_len_F, true)]
theorem laws_szFactor_len_hO : OrcOk Try.prog (tabD laws_szFactor_len_tab) (tabM laws_szFactor_len_tab) := tabD_cons laws_szMatrix_len_Fok (tabD_cons laws_szInt64S_len_Fok (tabD_nil _))
noncomputable def laws_szFactor_len_T (v381 : Nat) (v382 : Nat) (v383 : Int) : Tree (Int) :=
  (.br (decide ((laws_szMatrix_len_v v381 v383) < (0 : Int))) (
   .leaf (-1 : Int)
  ) (
   (.br (decide ((laws_szInt64S_len_v v382 (laws_szMatrix_len_v v381 v383)) < (0 : Int))) (
    .leaf (-1 : Int)
   ) (
    .leaf (laws_szInt64S_len_v v382 (laws_szMatrix_len_v v381 v383))
   ))
  ))

noncomputable def laws_szFactor_len_g (v381 : Nat) (v382 : Nat) (v383 : Int) : Option (Int) := (laws_szFactor_len_T v381 v382 v383).run
def laws_szFactor_len_enc (v379 : Int) (v380 : Int) (v381 : Nat) (v382 : Nat) (v383 : Int) (y : Int) : Rs := (.int .i64 y, [])
theorem laws_szFactor_len_den (v379 : Int) (v380 : Int) (v381 : Nat) (v382 : Nat) (v383 : Int) : (den TT (tabD laws_szFactor_len_tab) (tabM laws_szFactor_len_tab) (laws_szFactor_len_LO v379 v380 v381 v382 v383) (codeOf Try.f46) ([.agg [.int .i64 v379, .int .i64 v380, .hslc (BR.root 0) v381, .hslc (BR.root 1) v382], .int .i64 v383] ++ List.replicate (Try.f46.ntmps - ([.agg [.int .i64 v379, .int .i64 v380, .hslc (BR.root 0) v381, .hslc (BR.root 1) v382], .int .i64 v383] : List DV).length) .undef) []).bind (retD TT Try.f46.results.toList 0) = (laws_szFactor_len_T v381 v382 v383).bind fun y => .leaf (laws_szFactor_len_enc v379 v380 v381 v382 v383 y) := by kernel_rfl
theorem laws_szFactor_len_fn (v379 : Int) (v380 : Int) (v381 : Nat) (v382 : Nat) (v383 : Int) (F : Fr) (hm : F.ids.length = 0) (h0 : St F [] F.H0) (hA : DVs.Ok F [] [.agg [.int .i64 v379, .int .i64 v380, .hslc (BR.root 0) v381, .hslc (BR.root 1) v382], .int .i64 v383]) {y : Int} (hy : laws_szFactor_len_g v381 v382 v383 = some y) : ∃ H', FnOk Try.prog 46 (DVs.av F [.agg [.int .i64 v379, .int .i64 v380, .hslc (BR.root 0) v381, .hslc (BR.root 1) v382], .int .i64 v383]) F.H0 ((laws_szFactor_len_enc v379 v380 v381 v382 v383 y).1.av F) H' ∧ St F (laws_szFactor_len_enc v379 v380 v381 v382 v383 y).2 H' ∧ (laws_szFactor_len_enc v379 v380 v381 v382 v383 y).1.Ok F (laws_szFactor_len_enc v379 v380 v381 v382 v383 y).2 :=
  fn_fin tok laws_szFactor_len_hO mixed Try.func46 Try.call46 (by kernel_rfl) (LoopsOk_eq (l := []) (by kernel_rfl) trivial) (laws_szFactor_len_den v379 v380 v381 v382 v383) hy hm h0 hA
def laws_szFactor_len_v (v381 : Nat) (v382 : Nat) (v383 : Int) : Int :=
  if (decide ((laws_szMatrix_len_v v381 v383) < (0 : Int))) = true then (
   (-1 : Int)
  ) else (
   if (decide ((laws_szInt64S_len_v v382 (laws_szMatrix_len_v v381 v383)) < (0 : Int))) = true then (
    (-1 : Int)
   ) else (
    (laws_szInt64S_len_v v382 (laws_szMatrix_len_v v381 v383))
   )
  )
theorem laws_szFactor_len_tot (v381 : Nat) (v382 : Nat) (v383 : Int) : laws_szFactor_len_g v381 v382 v383 = some (laws_szFactor_len_v v381 v382 v383) := by
  unfold laws_szFactor_len_g laws_szFactor_len_T laws_szFactor_len_v
  simp only [Tree.run]
  repeat' (first | rfl | split)
noncomputable def laws_szFactor_len_F : DFn := fun args L =>
  match args with
  | [.agg [.int .i64 v379, .int .i64 v380, a1, a2], .int .i64 v383] =>
    optT (lenV L a1) fun v381 =>
    optT (lenV L a2) fun v382 =>
    .leaf (.int .i64 (laws_szFactor_len_v v381 v382 v383), L)
  | _ => .fail
theorem laws_szFactor_len_Fok : COk Try.prog 46 laws_szFactor_len_F true := by
  intro F L H args r L' hs ha hr
  unfold laws_szFactor_len_F at hr
  split at hr
  · rename_i v379 v380 a1 a2 v383
    obtain ⟨v381, hv381, hr⟩ := optT_run hr
    obtain ⟨v382, hv382, hr⟩ := optT_run hr
    have hy := laws_szFactor_len_tot v381 v382 v383
    generalize laws_szFactor_len_v v381 v382 v383 = y at hy hr
    simp only [Tree.run, Option.some.injEq, Prod.mk.injEq] at hr
    obtain ⟨rfl, rfl⟩ := hr
    exact call_ok0 hs (fun k => (([a1.av F, a2.av F] : List AV)[k]?).getD .top) [.agg [.int .i64 v379, .int .i64 v380, a1, a2], .int .i64 v383] [.agg [.int .i64 v379, .int .i64 v380, .hslc (BR.root 0) v381, .hslc (BR.root 1) v382], .int .i64 v383] (fun F' h0 hi hρ => ⟨by simp [DVs.av, DV.av, BR.av, hρ], laws_szFactor_len_fn v379 v380 v381 v382 v383 F' (by rw [hi]; rfl) (st_nil hi) ⟨⟨trivial, trivial, hslc_ok hi (by rw [h0, hρ]; exact lenV_ok hs (DVs.okAt (DVs.okAt ha 0 rfl) 2 rfl) hv381), hslc_ok hi (by rw [h0, hρ]; exact lenV_ok hs (DVs.okAt (DVs.okAt ha 0 rfl) 3 rfl) hv382), trivial⟩, trivial, trivial⟩ hy⟩) rfl
  · cases hr
/-! laws.FnExactFactorDet -/
noncomputable def laws_FnExactFactorDet_len_LO (v375 : Int) (v376 : Int) (v377 : Nat) (v378 : Nat) : LOr := fun id e L =>
  match id with
  | _ => .fail
noncomputable def laws_FnExactFactorDet_len_tab : List (FuncId × DFn × Bool) := [(46, laws_szFactor_len_F, true)]
theorem laws_FnExactFactorDet_len_hO : OrcOk Try.prog (tabD laws_FnExactFactorDet_len_tab) (tabM laws_FnExactFactorDet_len_tab) := tabD_cons laws_szFactor_len_Fok (tabD_nil _)
noncomputable def laws_FnExactFactorDet_len_T (v377 : Nat) (v378 : Nat) : Tree (Bool) :=
  (.br (decide ((laws_szFactor_len_v v377 v378 (1048576 : Int)) < (0 : Int))) (
   .leaf true
  ) (
   .fail
  ))

noncomputable def laws_FnExactFactorDet_len_g (v377 : Nat) (v378 : Nat) : Option (Bool) := (laws_FnExactFactorDet_len_T v377 v378).run
def laws_FnExactFactorDet_len_enc (v375 : Int) (v376 : Int) (v377 : Nat) (v378 : Nat) (y : Bool) : Rs := (.bool y, [])
theorem laws_FnExactFactorDet_len_den (v375 : Int) (v376 : Int) (v377 : Nat) (v378 : Nat) : (den TT (tabD laws_FnExactFactorDet_len_tab) (tabM laws_FnExactFactorDet_len_tab) (laws_FnExactFactorDet_len_LO v375 v376 v377 v378) (codeOf Try.f10) ([.agg [.int .i64 v375, .int .i64 v376, .hslc (BR.root 0) v377, .hslc (BR.root 1) v378]] ++ List.replicate (Try.f10.ntmps - ([.agg [.int .i64 v375, .int .i64 v376, .hslc (BR.root 0) v377, .hslc (BR.root 1) v378]] : List DV).length) .undef) []).bind (retD TT Try.f10.results.toList 0) = (laws_FnExactFactorDet_len_T v377 v378).bind fun y => .leaf (laws_FnExactFactorDet_len_enc v375 v376 v377 v378 y) := by kernel_rfl
theorem laws_FnExactFactorDet_len_fn (v375 : Int) (v376 : Int) (v377 : Nat) (v378 : Nat) (F : Fr) (hm : F.ids.length = 0) (h0 : St F [] F.H0) (hA : DVs.Ok F [] [.agg [.int .i64 v375, .int .i64 v376, .hslc (BR.root 0) v377, .hslc (BR.root 1) v378]]) {y : Bool} (hy : laws_FnExactFactorDet_len_g v377 v378 = some y) : ∃ H', FnOk Try.prog 10 (DVs.av F [.agg [.int .i64 v375, .int .i64 v376, .hslc (BR.root 0) v377, .hslc (BR.root 1) v378]]) F.H0 ((laws_FnExactFactorDet_len_enc v375 v376 v377 v378 y).1.av F) H' ∧ St F (laws_FnExactFactorDet_len_enc v375 v376 v377 v378 y).2 H' ∧ (laws_FnExactFactorDet_len_enc v375 v376 v377 v378 y).1.Ok F (laws_FnExactFactorDet_len_enc v375 v376 v377 v378 y).2 :=
  fn_fin tok laws_FnExactFactorDet_len_hO mixed Try.func10 Try.call10 (by kernel_rfl) (LoopsOk_eq (l := []) (by kernel_rfl) trivial) (laws_FnExactFactorDet_len_den v375 v376 v377 v378) hy hm h0 hA
noncomputable def laws_FnExactFactorDet_len_F : DFn := fun args L =>
  match args with
  | [.agg [.int .i64 v375, .int .i64 v376, a1, a2]] =>
    optT (lenV L a1) fun v377 =>
    optT (lenV L a2) fun v378 =>
    .call (laws_FnExactFactorDet_len_g v377 v378) fun y => .leaf (.bool y, L)
  | _ => .fail
theorem laws_FnExactFactorDet_len_Fok : COk Try.prog 10 laws_FnExactFactorDet_len_F true := by
  intro F L H args r L' hs ha hr
  unfold laws_FnExactFactorDet_len_F at hr
  split at hr
  · rename_i v375 v376 a1 a2
    obtain ⟨v377, hv377, hr⟩ := optT_run hr
    obtain ⟨v378, hv378, hr⟩ := optT_run hr
    simp only [Tree.run] at hr
    obtain ⟨y, hy, hr⟩ := Option.bind_eq_some_iff.1 hr
    simp only [Tree.run, Option.some.injEq, Prod.mk.injEq] at hr
    obtain ⟨rfl, rfl⟩ := hr
    exact call_ok0 hs (fun k => (([a1.av F, a2.av F] : List AV)[k]?).getD .top) [.agg [.int .i64 v375, .int .i64 v376, a1, a2]] [.agg [.int .i64 v375, .int .i64 v376, .hslc (BR.root 0) v377, .hslc (BR.root 1) v378]] (fun F' h0 hi hρ => ⟨by simp [DVs.av, DV.av, BR.av, hρ], laws_FnExactFactorDet_len_fn v375 v376 v377 v378 F' (by rw [hi]; rfl) (st_nil hi) ⟨⟨trivial, trivial, hslc_ok hi (by rw [h0, hρ]; exact lenV_ok hs (DVs.okAt (DVs.okAt ha 0 rfl) 2 rfl) hv377), hslc_ok hi (by rw [h0, hρ]; exact lenV_ok hs (DVs.okAt (DVs.okAt ha 0 rfl) 3 rfl) hv378), trivial⟩, trivial⟩ hy⟩) rfl
  · cases hr
end Go.Proofs.Ytjadfgeemfdbmaa.AM
