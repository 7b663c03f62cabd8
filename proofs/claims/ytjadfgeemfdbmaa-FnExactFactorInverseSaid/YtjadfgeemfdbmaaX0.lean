/- Functions: what they come to. -/
import Derived.Test.YtjadfgeemfdbmaaBase
set_option maxRecDepth 100000
set_option maxHeartbeats 4000000
set_option linter.unusedSimpArgs false
set_option linter.unusedVariables false
namespace Go.Proofs.Ytjadfgeemfdbmaa.AM
open Go.Proofs
/-! laws.szFloat32S -/
noncomputable def laws_szFloat32S_LO (v14 : List Nat) (v15 : Int) : LOr := fun id e L =>
  match id with
  | _ => .fail
noncomputable def laws_szFloat32S_tab : List (FuncId × DFn × Bool) := []
theorem laws_szFloat32S_hO : OrcOk Try.prog (tabD laws_szFloat32S_tab) (tabM laws_szFloat32S_tab) := tabD_nil _
noncomputable def laws_szFloat32S_T (v14 : List Nat) (v15 : Int) : Tree (Int) :=
  (.br (decide (IntKind.i64.wrap (v15 - ((v14.length : Nat) : Int)) < (0 : Int))) (
   .leaf (-1 : Int)
  ) (
   .leaf (IntKind.i64.wrap (v15 - ((v14.length : Nat) : Int)))
  ))

noncomputable def laws_szFloat32S_g (v14 : List Nat) (v15 : Int) : Option (Int) := (laws_szFloat32S_T v14 v15).run
def laws_szFloat32S_enc (v14 : List Nat) (v15 : Int) (y : Int) : Rs := (.int .i64 y, [])
theorem laws_szFloat32S_den (v14 : List Nat) (v15 : Int) : (den TT (tabD laws_szFloat32S_tab) (tabM laws_szFloat32S_tab) (laws_szFloat32S_LO v14 v15) (codeOf Try.f64) ([.bslc (BR.root 0) (.f32 v14), .int .i64 v15] ++ List.replicate (Try.f64.ntmps - ([.bslc (BR.root 0) (.f32 v14), .int .i64 v15] : List DV).length) .undef) []).bind (retD TT Try.f64.results.toList 0) = (laws_szFloat32S_T v14 v15).bind fun y => .leaf (laws_szFloat32S_enc v14 v15 y) := by kernel_rfl
theorem laws_szFloat32S_fn (v14 : List Nat) (v15 : Int) (F : Fr) (hm : F.ids.length = 0) (h0 : St F [] F.H0) (hA : DVs.Ok F [] [.bslc (BR.root 0) (.f32 v14), .int .i64 v15]) {y : Int} (hy : laws_szFloat32S_g v14 v15 = some y) : ∃ H', FnOk Try.prog 64 (DVs.av F [.bslc (BR.root 0) (.f32 v14), .int .i64 v15]) F.H0 ((laws_szFloat32S_enc v14 v15 y).1.av F) H' ∧ St F (laws_szFloat32S_enc v14 v15 y).2 H' ∧ (laws_szFloat32S_enc v14 v15 y).1.Ok F (laws_szFloat32S_enc v14 v15 y).2 :=
  fn_fin tok laws_szFloat32S_hO mixed Try.func64 Try.call64 (by kernel_rfl) (LoopsOk_eq (l := []) (by kernel_rfl) trivial) (laws_szFloat32S_den v14 v15) hy hm h0 hA
def laws_szFloat32S_v (v14 : List Nat) (v15 : Int) : Int :=
  if (decide (IntKind.i64.wrap (v15 - ((v14.length : Nat) : Int)) < (0 : Int))) = true then (
   (-1 : Int)
  ) else (
   IntKind.i64.wrap (v15 - ((v14.length : Nat) : Int))
  )
theorem laws_szFloat32S_tot (v14 : List Nat) (v15 : Int) : laws_szFloat32S_g v14 v15 = some (laws_szFloat32S_v v14 v15) := by
  unfold laws_szFloat32S_g laws_szFloat32S_T laws_szFloat32S_v
  simp only [Tree.run]
  repeat' (first | rfl | split)
noncomputable def laws_szFloat32S_F : DFn := fun args L =>
  match args with
  | [a1, .int .i64 v15] =>
    optT (rowF32 L a1) fun v14 =>
    .leaf (.int .i64 (laws_szFloat32S_v v14 v15), L)
  | _ => .fail
theorem laws_szFloat32S_Fok : COk Try.prog 64 laws_szFloat32S_F true := by
  intro F L H args r L' hs ha hr
  unfold laws_szFloat32S_F at hr
  split at hr
  · rename_i a1 v15
    obtain ⟨v14, hv14, hr⟩ := optT_run hr
    have hy := laws_szFloat32S_tot v14 v15
    generalize laws_szFloat32S_v v14 v15 = y at hy hr
    simp only [Tree.run, Option.some.injEq, Prod.mk.injEq] at hr
    obtain ⟨rfl, rfl⟩ := hr
    exact call_ok0 hs (fun k => (([a1.av F] : List AV)[k]?).getD .top) [a1, .int .i64 v15] [.bslc (BR.root 0) (.f32 v14), .int .i64 v15] (fun F' h0 hi hρ => ⟨by simp [DVs.av, DV.av, BR.av, hρ], laws_szFloat32S_fn v14 v15 F' (by rw [hi]; rfl) (st_nil hi) ⟨bslc_ok hi (by rw [h0, hρ]; exact rowF32_ok hs (DVs.okAt ha 0 rfl) hv14), trivial, trivial⟩ hy⟩) rfl
  · cases hr
/-! laws.szMatrix -/
noncomputable def laws_szMatrix_LO (v10 : Int) (v11 : Int) (v12 : List Nat) (v13 : Int) : LOr := fun id e L =>
  match id with
  | _ => .fail
noncomputable def laws_szMatrix_tab : List (FuncId × DFn × Bool) := [(64, laws_szFloat32S_F, true)]
theorem laws_szMatrix_hO : OrcOk Try.prog (tabD laws_szMatrix_tab) (tabM laws_szMatrix_tab) := tabD_cons laws_szFloat32S_Fok (tabD_nil _)
noncomputable def laws_szMatrix_T (v12 : List Nat) (v13 : Int) : Tree (Int) :=
  (.br (decide ((laws_szFloat32S_v v12 v13) < (0 : Int))) (
   .leaf (-1 : Int)
  ) (
   .leaf (laws_szFloat32S_v v12 v13)
  ))

noncomputable def laws_szMatrix_g (v12 : List Nat) (v13 : Int) : Option (Int) := (laws_szMatrix_T v12 v13).run
def laws_szMatrix_enc (v10 : Int) (v11 : Int) (v12 : List Nat) (v13 : Int) (y : Int) : Rs := (.int .i64 y, [])
theorem laws_szMatrix_den (v10 : Int) (v11 : Int) (v12 : List Nat) (v13 : Int) : (den TT (tabD laws_szMatrix_tab) (tabM laws_szMatrix_tab) (laws_szMatrix_LO v10 v11 v12 v13) (codeOf Try.f29) ([.agg [.int .i64 v10, .int .i64 v11, .bslc (BR.root 0) (.f32 v12)], .int .i64 v13] ++ List.replicate (Try.f29.ntmps - ([.agg [.int .i64 v10, .int .i64 v11, .bslc (BR.root 0) (.f32 v12)], .int .i64 v13] : List DV).length) .undef) []).bind (retD TT Try.f29.results.toList 0) = (laws_szMatrix_T v12 v13).bind fun y => .leaf (laws_szMatrix_enc v10 v11 v12 v13 y) := by kernel_rfl
theorem laws_szMatrix_fn (v10 : Int) (v11 : Int) (v12 : List Nat) (v13 : Int) (F : Fr) (hm : F.ids.length = 0) (h0 : St F [] F.H0) (hA : DVs.Ok F [] [.agg [.int .i64 v10, .int .i64 v11, .bslc (BR.root 0) (.f32 v12)], .int .i64 v13]) {y : Int} (hy : laws_szMatrix_g v12 v13 = some y) : ∃ H', FnOk Try.prog 29 (DVs.av F [.agg [.int .i64 v10, .int .i64 v11, .bslc (BR.root 0) (.f32 v12)], .int .i64 v13]) F.H0 ((laws_szMatrix_enc v10 v11 v12 v13 y).1.av F) H' ∧ St F (laws_szMatrix_enc v10 v11 v12 v13 y).2 H' ∧ (laws_szMatrix_enc v10 v11 v12 v13 y).1.Ok F (laws_szMatrix_enc v10 v11 v12 v13 y).2 :=
  fn_fin tok laws_szMatrix_hO mixed Try.func29 Try.call29 (by kernel_rfl) (LoopsOk_eq (l := []) (by kernel_rfl) trivial) (laws_szMatrix_den v10 v11 v12 v13) hy hm h0 hA
def laws_szMatrix_v (v12 : List Nat) (v13 : Int) : Int :=
  if (decide ((laws_szFloat32S_v v12 v13) < (0 : Int))) = true then (
   (-1 : Int)
  ) else (
   (laws_szFloat32S_v v12 v13)
  )
theorem laws_szMatrix_tot (v12 : List Nat) (v13 : Int) : laws_szMatrix_g v12 v13 = some (laws_szMatrix_v v12 v13) := by
  unfold laws_szMatrix_g laws_szMatrix_T laws_szMatrix_v
  simp only [Tree.run]
  repeat' (first | rfl | split)
noncomputable def laws_szMatrix_F : DFn := fun args L =>
  match args with
  | [.agg [.int .i64 v10, .int .i64 v11, a1], .int .i64 v13] =>
    optT (rowF32 L a1) fun v12 =>
    .leaf (.int .i64 (laws_szMatrix_v v12 v13), L)
  | _ => .fail
theorem laws_szMatrix_Fok : COk Try.prog 29 laws_szMatrix_F true := by
  intro F L H args r L' hs ha hr
  unfold laws_szMatrix_F at hr
  split at hr
  · rename_i v10 v11 a1 v13
    obtain ⟨v12, hv12, hr⟩ := optT_run hr
    have hy := laws_szMatrix_tot v12 v13
    generalize laws_szMatrix_v v12 v13 = y at hy hr
    simp only [Tree.run, Option.some.injEq, Prod.mk.injEq] at hr
    obtain ⟨rfl, rfl⟩ := hr
    exact call_ok0 hs (fun k => (([a1.av F] : List AV)[k]?).getD .top) [.agg [.int .i64 v10, .int .i64 v11, a1], .int .i64 v13] [.agg [.int .i64 v10, .int .i64 v11, .bslc (BR.root 0) (.f32 v12)], .int .i64 v13] (fun F' h0 hi hρ => ⟨by simp [DVs.av, DV.av, BR.av, hρ], laws_szMatrix_fn v10 v11 v12 v13 F' (by rw [hi]; rfl) (st_nil hi) ⟨⟨trivial, trivial, bslc_ok hi (by rw [h0, hρ]; exact rowF32_ok hs (DVs.okAt (DVs.okAt ha 0 rfl) 2 rfl) hv12), trivial⟩, trivial, trivial⟩ hy⟩) rfl
  · cases hr
/-! laws.szInt64S -/
noncomputable def laws_szInt64S_LO (v16 : List Int) (v17 : Int) : LOr := fun id e L =>
  match id with
  | _ => .fail
noncomputable def laws_szInt64S_tab : List (FuncId × DFn × Bool) := []
theorem laws_szInt64S_hO : OrcOk Try.prog (tabD laws_szInt64S_tab) (tabM laws_szInt64S_tab) := tabD_nil _
noncomputable def laws_szInt64S_T (v16 : List Int) (v17 : Int) : Tree (Int) :=
  (.br (decide (IntKind.i64.wrap (v17 - ((v16.length : Nat) : Int)) < (0 : Int))) (
   .leaf (-1 : Int)
  ) (
   .leaf (IntKind.i64.wrap (v17 - ((v16.length : Nat) : Int)))
  ))

noncomputable def laws_szInt64S_g (v16 : List Int) (v17 : Int) : Option (Int) := (laws_szInt64S_T v16 v17).run
def laws_szInt64S_enc (v16 : List Int) (v17 : Int) (y : Int) : Rs := (.int .i64 y, [])
theorem laws_szInt64S_den (v16 : List Int) (v17 : Int) : (den TT (tabD laws_szInt64S_tab) (tabM laws_szInt64S_tab) (laws_szInt64S_LO v16 v17) (codeOf Try.f63) ([.bslc (BR.root 0) (.i64 v16), .int .i64 v17] ++ List.replicate (Try.f63.ntmps - ([.bslc (BR.root 0) (.i64 v16), .int .i64 v17] : List DV).length) .undef) []).bind (retD TT Try.f63.results.toList 0) = (laws_szInt64S_T v16 v17).bind fun y => .leaf (laws_szInt64S_enc v16 v17 y) := by kernel_rfl
theorem laws_szInt64S_fn (v16 : List Int) (v17 : Int) (F : Fr) (hm : F.ids.length = 0) (h0 : St F [] F.H0) (hA : DVs.Ok F [] [.bslc (BR.root 0) (.i64 v16), .int .i64 v17]) {y : Int} (hy : laws_szInt64S_g v16 v17 = some y) : ∃ H', FnOk Try.prog 63 (DVs.av F [.bslc (BR.root 0) (.i64 v16), .int .i64 v17]) F.H0 ((laws_szInt64S_enc v16 v17 y).1.av F) H' ∧ St F (laws_szInt64S_enc v16 v17 y).2 H' ∧ (laws_szInt64S_enc v16 v17 y).1.Ok F (laws_szInt64S_enc v16 v17 y).2 :=
  fn_fin tok laws_szInt64S_hO mixed Try.func63 Try.call63 (by kernel_rfl) (LoopsOk_eq (l := []) (by kernel_rfl) trivial) (laws_szInt64S_den v16 v17) hy hm h0 hA
def laws_szInt64S_v (v16 : List Int) (v17 : Int) : Int :=
  if (decide (IntKind.i64.wrap (v17 - ((v16.length : Nat) : Int)) < (0 : Int))) = true then (
   (-1 : Int)
  ) else (
   IntKind.i64.wrap (v17 - ((v16.length : Nat) : Int))
  )
theorem laws_szInt64S_tot (v16 : List Int) (v17 : Int) : laws_szInt64S_g v16 v17 = some (laws_szInt64S_v v16 v17) := by
  unfold laws_szInt64S_g laws_szInt64S_T laws_szInt64S_v
  simp only [Tree.run]
  repeat' (first | rfl | split)
noncomputable def laws_szInt64S_F : DFn := fun args L =>
  match args with
  | [a1, .int .i64 v17] =>
    optT (rowI64 L a1) fun v16 =>
    .leaf (.int .i64 (laws_szInt64S_v v16 v17), L)
  | _ => .fail
theorem laws_szInt64S_Fok : COk Try.prog 63 laws_szInt64S_F true := by
  intro F L H args r L' hs ha hr
  unfold laws_szInt64S_F at hr
  split at hr
  · rename_i a1 v17
    obtain ⟨v16, hv16, hr⟩ := optT_run hr
    have hy := laws_szInt64S_tot v16 v17
    generalize laws_szInt64S_v v16 v17 = y at hy hr
    simp only [Tree.run, Option.some.injEq, Prod.mk.injEq] at hr
    obtain ⟨rfl, rfl⟩ := hr
    exact call_ok0 hs (fun k => (([a1.av F] : List AV)[k]?).getD .top) [a1, .int .i64 v17] [.bslc (BR.root 0) (.i64 v16), .int .i64 v17] (fun F' h0 hi hρ => ⟨by simp [DVs.av, DV.av, BR.av, hρ], laws_szInt64S_fn v16 v17 F' (by rw [hi]; rfl) (st_nil hi) ⟨bslc_ok hi (by rw [h0, hρ]; exact rowI64_ok hs (DVs.okAt ha 0 rfl) hv16), trivial, trivial⟩ hy⟩) rfl
  · cases hr
/-! laws.szFactor -/
noncomputable def laws_szFactor_LO (v5 : Int) (v6 : Int) (v7 : List Nat) (v8 : List Int) (v9 : Int) : LOr := fun id e L =>
  match id with
  | _ => .fail
noncomputable def laws_szFactor_tab : List (FuncId × DFn × Bool) := [(29, laws_szMatrix_F, true), (63, laws_szInt64S_F, true)]
theorem laws_szFactor_hO : OrcOk Try.prog (tabD laws_szFactor_tab) (tabM laws_szFactor_tab) := tabD_cons laws_szMatrix_Fok (tabD_cons laws_szInt64S_Fok (tabD_nil _))
noncomputable def laws_szFactor_T (v7 : List Nat) (v8 : List Int) (v9 : Int) : Tree (Int) :=
  (.br (decide ((laws_szMatrix_v v7 v9) < (0 : Int))) (
   .leaf (-1 : Int)
  ) (
   (.br (decide ((laws_szInt64S_v v8 (laws_szMatrix_v v7 v9)) < (0 : Int))) (
    .leaf (-1 : Int)
   ) (
    .leaf (laws_szInt64S_v v8 (laws_szMatrix_v v7 v9))
   ))
  ))

noncomputable def laws_szFactor_g (v7 : List Nat) (v8 : List Int) (v9 : Int) : Option (Int) := (laws_szFactor_T v7 v8 v9).run
def laws_szFactor_enc (v5 : Int) (v6 : Int) (v7 : List Nat) (v8 : List Int) (v9 : Int) (y : Int) : Rs := (.int .i64 y, [])
theorem laws_szFactor_den (v5 : Int) (v6 : Int) (v7 : List Nat) (v8 : List Int) (v9 : Int) : (den TT (tabD laws_szFactor_tab) (tabM laws_szFactor_tab) (laws_szFactor_LO v5 v6 v7 v8 v9) (codeOf Try.f46) ([.agg [.int .i64 v5, .int .i64 v6, .bslc (BR.root 0) (.f32 v7), .bslc (BR.root 1) (.i64 v8)], .int .i64 v9] ++ List.replicate (Try.f46.ntmps - ([.agg [.int .i64 v5, .int .i64 v6, .bslc (BR.root 0) (.f32 v7), .bslc (BR.root 1) (.i64 v8)], .int .i64 v9] : List DV).length) .undef) []).bind (retD TT Try.f46.results.toList 0) = (laws_szFactor_T v7 v8 v9).bind fun y => .leaf (laws_szFactor_enc v5 v6 v7 v8 v9 y) := by kernel_rfl
theorem laws_szFactor_fn (v5 : Int) (v6 : Int) (v7 : List Nat) (v8 : List Int) (v9 : Int) (F : Fr) (hm : F.ids.length = 0) (h0 : St F [] F.H0) (hA : DVs.Ok F [] [.agg [.int .i64 v5, .int .i64 v6, .bslc (BR.root 0) (.f32 v7), .bslc (BR.root 1) (.i64 v8)], .int .i64 v9]) {y : Int} (hy : laws_szFactor_g v7 v8 v9 = some y) : ∃ H', FnOk Try.prog 46 (DVs.av F [.agg [.int .i64 v5, .int .i64 v6, .bslc (BR.root 0) (.f32 v7), .bslc (BR.root 1) (.i64 v8)], .int .i64 v9]) F.H0 ((laws_szFactor_enc v5 v6 v7 v8 v9 y).1.av F) H' ∧ St F (laws_szFactor_enc v5 v6 v7 v8 v9 y).2 H' ∧ (laws_szFactor_enc v5 v6 v7 v8 v9 y).1.Ok F (laws_szFactor_enc v5 v6 v7 v8 v9 y).2 :=
  fn_fin tok laws_szFactor_hO mixed Try.func46 Try.call46 (by kernel_rfl) (LoopsOk_eq (l := []) (by kernel_rfl) trivial) (laws_szFactor_den v5 v6 v7 v8 v9) hy hm h0 hA
def laws_szFactor_v (v7 : List Nat) (v8 : List Int) (v9 : Int) : Int :=
  if (decide ((laws_szMatrix_v v7 v9) < (0 : Int))) = true then (
   (-1 : Int)
  ) else (
   if (decide ((laws_szInt64S_v v8 (laws_szMatrix_v v7 v9)) < (0 : Int))) = true then (
    (-1 : Int)
   ) else (
    (laws_szInt64S_v v8 (laws_szMatrix_v v7 v9))
   )
  )
theorem laws_szFactor_tot (v7 : List Nat) (v8 : List Int) (v9 : Int) : laws_szFactor_g v7 v8 v9 = some (laws_szFactor_v v7 v8 v9) := by
  unfold laws_szFactor_g laws_szFactor_T laws_szFactor_v
  simp only [Tree.run]
  repeat' (first | rfl | split)
noncomputable def laws_szFactor_F : DFn := fun args L =>
  match args with
  | [.agg [.int .i64 v5, .int .i64 v6, a1, a2], .int .i64 v9] =>
    optT (rowF32 L a1) fun v7 =>
    optT (rowI64 L a2) fun v8 =>
    .leaf (.int .i64 (laws_szFactor_v v7 v8 v9), L)
  | _ => .fail
theorem laws_szFactor_Fok : COk Try.prog 46 laws_szFactor_F true := by
  intro F L H args r L' hs ha hr
  unfold laws_szFactor_F at hr
  split at hr
  · rename_i v5 v6 a1 a2 v9
    obtain ⟨v7, hv7, hr⟩ := optT_run hr
    obtain ⟨v8, hv8, hr⟩ := optT_run hr
    have hy := laws_szFactor_tot v7 v8 v9
    generalize laws_szFactor_v v7 v8 v9 = y at hy hr
    simp only [Tree.run, Option.some.injEq, Prod.mk.injEq] at hr
    obtain ⟨rfl, rfl⟩ := hr
    exact call_ok0 hs (fun k => (([a1.av F, a2.av F] : List AV)[k]?).getD .top) [.agg [.int .i64 v5, .int .i64 v6, a1, a2], .int .i64 v9] [.agg [.int .i64 v5, .int .i64 v6, .bslc (BR.root 0) (.f32 v7), .bslc (BR.root 1) (.i64 v8)], .int .i64 v9] (fun F' h0 hi hρ => ⟨by simp [DVs.av, DV.av, BR.av, hρ], laws_szFactor_fn v5 v6 v7 v8 v9 F' (by rw [hi]; rfl) (st_nil hi) ⟨⟨trivial, trivial, bslc_ok hi (by rw [h0, hρ]; exact rowF32_ok hs (DVs.okAt (DVs.okAt ha 0 rfl) 2 rfl) hv7), bslc_ok hi (by rw [h0, hρ]; exact rowI64_ok hs (DVs.okAt (DVs.okAt ha 0 rfl) 3 rfl) hv8), trivial⟩, trivial, trivial⟩ hy⟩) rfl
  · cases hr
/-! laws.toFloat32S -/
noncomputable def laws_toFloat32S_l0_T (v25 : List Nat) (s : Int × (List Nat)) : Tree ((Int × (List Nat)) ⊕ ((List Nat))) :=
  (.br (decide (s.1 < ((v25.length : Nat) : Int))) (
   (.grd (inb s.1 v25.length) <|
   (.grd (inb s.1 ((s.2).length)) <|
   .leaf (.inl (IntKind.i64.wrap (s.1 + (1 : Int)), List.set s.2 (Int.toNat s.1) (nth v25 (Int.toNat s.1))))))
  ) (
   .leaf (.inr s.2)
  ))

noncomputable def laws_toFloat32S_l0_g (v25 : List Nat) (s0 : Int × (List Nat)) : Option ((List Nat)) := whileM (fun s => (laws_toFloat32S_l0_T v25 s).run) s0
def laws_toFloat32S_l0_E (v25 : List Nat) (s : Int × (List Nat)) : Sd := ([.bslc (BR.root 0) (.f32 v25), .top, .top, .own 0 0 ((s.2).length), .int .i64 s.1, .top, .top, .top, .top, .top, .top, .top, .top, .top, .top, .top, .top, .top, .top, .top, .top, .top], [.row (.f32 s.2) 0])
def laws_toFloat32S_l0_X (v25 : List Nat) (x : (List Nat)) : Out := (.normal, [.top, .top, .top, .own 0 0 ((x).length), .top, .top, .top, .top, .top, .top, .top, .top, .top, .top, .top, .top, .top, .top, .top, .top, .top, .top], [.row (.f32 x) 0])
def laws_toFloat32S_l0_kill : List Nat := [0, 1, 1, 0, 0, 1, 1, 1, 1, 1, 1, 1, 1, 1, 1, 1, 1, 1, 1, 1, 1, 1]
def laws_toFloat32S_l0_nx : Exit → List Nat
  | .exit 0 => [1, 1, 1, 0, 1, 1, 1, 1, 1, 1, 1, 1, 1, 1, 1, 1, 1, 1, 1, 1, 1, 1]
  | .ret => [1, 1, 0, 1, 1, 1, 1, 1, 1, 1, 1, 1, 1, 1, 1, 1, 1, 1, 1, 1, 1, 1]
  | _ => []
noncomputable def laws_toFloat32S_LO (v25 : List Nat) : LOr := fun id e L =>
  match id with
  | 0 => .need (normA 0 laws_toFloat32S_l0_kill e L = some (laws_toFloat32S_l0_E v25 ((gI (vAt e 4)), (gRF L (vAt e 3))))) (.call (laws_toFloat32S_l0_g v25 ((gI (vAt e 4)), (gRF L (vAt e 3)))) fun x => .leaf (laws_toFloat32S_l0_X v25 x))
  | _ => .fail
noncomputable def laws_toFloat32S_tab : List (FuncId × DFn × Bool) := []
theorem laws_toFloat32S_hO : OrcOk Try.prog (tabD laws_toFloat32S_tab) (tabM laws_toFloat32S_tab) := tabD_nil _
theorem laws_toFloat32S_l0_be (v25 : List Nat) (s : Int × (List Nat)) : bodyT TT (tabD laws_toFloat32S_tab) (tabM laws_toFloat32S_tab) (laws_toFloat32S_LO v25) 0 laws_toFloat32S_l0_kill laws_toFloat32S_l0_nx (bodyOf Try.f18 0) 0 (laws_toFloat32S_l0_E v25 s) = (laws_toFloat32S_l0_T v25 s).bind fun y => .leaf (outS (laws_toFloat32S_l0_E v25) (laws_toFloat32S_l0_X v25) y) := by kernel_rfl
theorem laws_toFloat32S_l0_ok (v25 : List Nat) : LSound Try.prog 0 (laws_toFloat32S_LO v25) 0 (bodyOf Try.f18 0) := by
  intro e L out h
  exact lo_ok (E := laws_toFloat32S_l0_E v25) (gT := laws_toFloat32S_l0_T v25) (X := laws_toFloat32S_l0_X v25) (s0 := ((gI (vAt e 4)), (gRF L (vAt e 3)))) tok laws_toFloat32S_hO mixed (LoopsOk_eq (l := []) (by kernel_rfl) trivial) (laws_toFloat32S_l0_be v25) rfl (by intro x; rfl) h
noncomputable def laws_toFloat32S_T (v25 : List Nat) : Tree ((List Nat)) :=
  (.need (((v25.length : Nat) : Int) = ((v25.length : Nat) : Int)) <|
  (.grd (inb ((v25.length : Nat) : Int) (maxN + 1)) <|
  (.need (some (laws_toFloat32S_l0_E v25 ((0 : Int), List.replicate (Int.toNat ((v25.length : Nat) : Int)) (0 : Nat))) = some (laws_toFloat32S_l0_E v25 ((0 : Int), List.replicate (Int.toNat ((v25.length : Nat) : Int)) (0 : Nat)))) <|
  (.call (laws_toFloat32S_l0_g v25 ((0 : Int), List.replicate (Int.toNat ((v25.length : Nat) : Int)) (0 : Nat))) fun v31 =>
  .leaf v31))))

noncomputable def laws_toFloat32S_g (v25 : List Nat) : Option ((List Nat)) := (laws_toFloat32S_T v25).run
def laws_toFloat32S_enc (v25 : List Nat) (y : (List Nat)) : Rs := (.own 0 0 ((y).length), [.row (.f32 y) 0])
theorem laws_toFloat32S_den (v25 : List Nat) : (den TT (tabD laws_toFloat32S_tab) (tabM laws_toFloat32S_tab) (laws_toFloat32S_LO v25) (codeOf Try.f18) ([.bslc (BR.root 0) (.f32 v25)] ++ List.replicate (Try.f18.ntmps - ([.bslc (BR.root 0) (.f32 v25)] : List DV).length) .undef) []).bind (retD TT Try.f18.results.toList 0) = (laws_toFloat32S_T v25).bind fun y => .leaf (laws_toFloat32S_enc v25 y) := by kernel_rfl
theorem laws_toFloat32S_fn (v25 : List Nat) (F : Fr) (hm : F.ids.length = 0) (h0 : St F [] F.H0) (hA : DVs.Ok F [] [.bslc (BR.root 0) (.f32 v25)]) {y : (List Nat)} (hy : laws_toFloat32S_g v25 = some y) : ∃ H', FnOk Try.prog 18 (DVs.av F [.bslc (BR.root 0) (.f32 v25)]) F.H0 ((laws_toFloat32S_enc v25 y).1.av F) H' ∧ St F (laws_toFloat32S_enc v25 y).2 H' ∧ (laws_toFloat32S_enc v25 y).1.Ok F (laws_toFloat32S_enc v25 y).2 :=
  fn_fin tok laws_toFloat32S_hO mixed Try.func18 Try.call18 (by kernel_rfl) (LoopsOk_eq (l := [(0, bodyOf Try.f18 0)]) (by kernel_rfl) ⟨laws_toFloat32S_l0_ok v25, trivial⟩) (laws_toFloat32S_den v25) hy hm h0 hA
noncomputable def laws_toFloat32S_F : DFn := fun args L =>
  match args with
  | [a1] =>
    optT (rowF32 L a1) fun v25 =>
    .call (laws_toFloat32S_g v25) fun y => .leaf (.own (L.length + 0) 0 ((y).length), L ++ [.row (.f32 y) 0])
  | _ => .fail
theorem laws_toFloat32S_Fok : COk Try.prog 18 laws_toFloat32S_F true := by
  intro F L H args r L' hs ha hr
  unfold laws_toFloat32S_F at hr
  split at hr
  · rename_i a1
    obtain ⟨v25, hv25, hr⟩ := optT_run hr
    simp only [Tree.run] at hr
    obtain ⟨y, hy, hr⟩ := Option.bind_eq_some_iff.1 hr
    simp only [Tree.run, Option.some.injEq, Prod.mk.injEq] at hr
    obtain ⟨rfl, rfl⟩ := hr
    exact call_ok1 hs (fun k => (([a1.av F] : List AV)[k]?).getD .top) [a1] [.bslc (BR.root 0) (.f32 v25)] (fun F' h0 hi hρ => ⟨by simp [DVs.av, DV.av, BR.av, hρ], laws_toFloat32S_fn v25 F' (by rw [hi]; rfl) (st_nil hi) ⟨bslc_ok hi (by rw [h0, hρ]; exact rowF32_ok hs (DVs.okAt ha 0 rfl) hv25), trivial⟩ hy⟩) rfl rfl
  · cases hr
/-! laws.toMatrix -/
noncomputable def laws_toMatrix_LO (v22 : Int) (v23 : Int) (v24 : List Nat) : LOr := fun id e L =>
  match id with
  | _ => .fail
noncomputable def laws_toMatrix_tab : List (FuncId × DFn × Bool) := [(18, laws_toFloat32S_F, true)]
theorem laws_toMatrix_hO : OrcOk Try.prog (tabD laws_toMatrix_tab) (tabM laws_toMatrix_tab) := tabD_cons laws_toFloat32S_Fok (tabD_nil _)
noncomputable def laws_toMatrix_T (v22 : Int) (v23 : Int) (v24 : List Nat) : Tree (Int × Int × (List Nat)) :=
  (.call (laws_toFloat32S_g v24) fun v32 =>
  .leaf (v22, v23, v32))

noncomputable def laws_toMatrix_g (v22 : Int) (v23 : Int) (v24 : List Nat) : Option (Int × Int × (List Nat)) := (laws_toMatrix_T v22 v23 v24).run
def laws_toMatrix_enc (v22 : Int) (v23 : Int) (v24 : List Nat) (y : Int × Int × (List Nat)) : Rs := (.agg [.int .i64 y.1, .int .i64 y.2.1, .own 0 0 ((y.2.2).length)], [.row (.f32 y.2.2) 0])
theorem laws_toMatrix_den (v22 : Int) (v23 : Int) (v24 : List Nat) : (den TT (tabD laws_toMatrix_tab) (tabM laws_toMatrix_tab) (laws_toMatrix_LO v22 v23 v24) (codeOf Try.f31) ([.agg [.int .i64 v22, .int .i64 v23, .bslc (BR.root 0) (.f32 v24)]] ++ List.replicate (Try.f31.ntmps - ([.agg [.int .i64 v22, .int .i64 v23, .bslc (BR.root 0) (.f32 v24)]] : List DV).length) .undef) []).bind (retD TT Try.f31.results.toList 0) = (laws_toMatrix_T v22 v23 v24).bind fun y => .leaf (laws_toMatrix_enc v22 v23 v24 y) := by kernel_rfl
theorem laws_toMatrix_fn (v22 : Int) (v23 : Int) (v24 : List Nat) (F : Fr) (hm : F.ids.length = 0) (h0 : St F [] F.H0) (hA : DVs.Ok F [] [.agg [.int .i64 v22, .int .i64 v23, .bslc (BR.root 0) (.f32 v24)]]) {y : Int × Int × (List Nat)} (hy : laws_toMatrix_g v22 v23 v24 = some y) : ∃ H', FnOk Try.prog 31 (DVs.av F [.agg [.int .i64 v22, .int .i64 v23, .bslc (BR.root 0) (.f32 v24)]]) F.H0 ((laws_toMatrix_enc v22 v23 v24 y).1.av F) H' ∧ St F (laws_toMatrix_enc v22 v23 v24 y).2 H' ∧ (laws_toMatrix_enc v22 v23 v24 y).1.Ok F (laws_toMatrix_enc v22 v23 v24 y).2 :=
  fn_fin tok laws_toMatrix_hO mixed Try.func31 Try.call31 (by kernel_rfl) (LoopsOk_eq (l := []) (by kernel_rfl) trivial) (laws_toMatrix_den v22 v23 v24) hy hm h0 hA
noncomputable def laws_toMatrix_F : DFn := fun args L =>
  match args with
  | [.agg [.int .i64 v22, .int .i64 v23, a1]] =>
    optT (rowF32 L a1) fun v24 =>
    .call (laws_toMatrix_g v22 v23 v24) fun y => .leaf (.agg [.int .i64 y.1, .int .i64 y.2.1, .own (L.length + 0) 0 ((y.2.2).length)], L ++ [.row (.f32 y.2.2) 0])
  | _ => .fail
theorem laws_toMatrix_Fok : COk Try.prog 31 laws_toMatrix_F true := by
  intro F L H args r L' hs ha hr
  unfold laws_toMatrix_F at hr
  split at hr
  · rename_i v22 v23 a1
    obtain ⟨v24, hv24, hr⟩ := optT_run hr
    simp only [Tree.run] at hr
    obtain ⟨y, hy, hr⟩ := Option.bind_eq_some_iff.1 hr
    simp only [Tree.run, Option.some.injEq, Prod.mk.injEq] at hr
    obtain ⟨rfl, rfl⟩ := hr
    exact call_ok1 hs (fun k => (([a1.av F] : List AV)[k]?).getD .top) [.agg [.int .i64 v22, .int .i64 v23, a1]] [.agg [.int .i64 v22, .int .i64 v23, .bslc (BR.root 0) (.f32 v24)]] (fun F' h0 hi hρ => ⟨by simp [DVs.av, DV.av, BR.av, hρ], laws_toMatrix_fn v22 v23 v24 F' (by rw [hi]; rfl) (st_nil hi) ⟨⟨trivial, trivial, bslc_ok hi (by rw [h0, hρ]; exact rowF32_ok hs (DVs.okAt (DVs.okAt ha 0 rfl) 2 rfl) hv24), trivial⟩, trivial⟩ hy⟩) rfl rfl
  · cases hr
/-! laws.toInt64S -/
noncomputable def laws_toInt64S_l0_T (v34 : List Int) (s : Int × (List Int)) : Tree ((Int × (List Int)) ⊕ ((List Int))) :=
  (.br (decide (s.1 < ((v34.length : Nat) : Int))) (
   (.grd (inb s.1 v34.length) <|
   (.grd (inb s.1 ((s.2).length)) <|
   .leaf (.inl (IntKind.i64.wrap (s.1 + (1 : Int)), List.set s.2 (Int.toNat s.1) (nth v34 (Int.toNat s.1))))))
  ) (
   .leaf (.inr s.2)
  ))

noncomputable def laws_toInt64S_l0_g (v34 : List Int) (s0 : Int × (List Int)) : Option ((List Int)) := whileM (fun s => (laws_toInt64S_l0_T v34 s).run) s0
def laws_toInt64S_l0_E (v34 : List Int) (s : Int × (List Int)) : Sd := ([.bslc (BR.root 0) (.i64 v34), .top, .top, .own 0 0 ((s.2).length), .int .i64 s.1, .top, .top, .top, .top, .top, .top, .top, .top, .top, .top, .top, .top, .top, .top, .top, .top, .top], [.row (.i64 s.2) 0])
def laws_toInt64S_l0_X (v34 : List Int) (x : (List Int)) : Out := (.normal, [.top, .top, .top, .own 0 0 ((x).length), .top, .top, .top, .top, .top, .top, .top, .top, .top, .top, .top, .top, .top, .top, .top, .top, .top, .top], [.row (.i64 x) 0])
def laws_toInt64S_l0_kill : List Nat := [0, 1, 1, 0, 0, 1, 1, 1, 1, 1, 1, 1, 1, 1, 1, 1, 1, 1, 1, 1, 1, 1]
def laws_toInt64S_l0_nx : Exit → List Nat
  | .exit 0 => [1, 1, 1, 0, 1, 1, 1, 1, 1, 1, 1, 1, 1, 1, 1, 1, 1, 1, 1, 1, 1, 1]
  | .ret => [1, 1, 0, 1, 1, 1, 1, 1, 1, 1, 1, 1, 1, 1, 1, 1, 1, 1, 1, 1, 1, 1]
  | _ => []
noncomputable def laws_toInt64S_LO (v34 : List Int) : LOr := fun id e L =>
  match id with
  | 0 => .need (normA 0 laws_toInt64S_l0_kill e L = some (laws_toInt64S_l0_E v34 ((gI (vAt e 4)), (gRI L (vAt e 3))))) (.call (laws_toInt64S_l0_g v34 ((gI (vAt e 4)), (gRI L (vAt e 3)))) fun x => .leaf (laws_toInt64S_l0_X v34 x))
  | _ => .fail
noncomputable def laws_toInt64S_tab : List (FuncId × DFn × Bool) := []
theorem laws_toInt64S_hO : OrcOk Try.prog (tabD laws_toInt64S_tab) (tabM laws_toInt64S_tab) := tabD_nil _
theorem laws_toInt64S_l0_be (v34 : List Int) (s : Int × (List Int)) : bodyT TT (tabD laws_toInt64S_tab) (tabM laws_toInt64S_tab) (laws_toInt64S_LO v34) 0 laws_toInt64S_l0_kill laws_toInt64S_l0_nx (bodyOf Try.f42 0) 0 (laws_toInt64S_l0_E v34 s) = (laws_toInt64S_l0_T v34 s).bind fun y => .leaf (outS (laws_toInt64S_l0_E v34) (laws_toInt64S_l0_X v34) y) := by kernel_rfl
theorem laws_toInt64S_l0_ok (v34 : List Int) : LSound Try.prog 0 (laws_toInt64S_LO v34) 0 (bodyOf Try.f42 0) := by
  intro e L out h
  exact lo_ok (E := laws_toInt64S_l0_E v34) (gT := laws_toInt64S_l0_T v34) (X := laws_toInt64S_l0_X v34) (s0 := ((gI (vAt e 4)), (gRI L (vAt e 3)))) tok laws_toInt64S_hO mixed (LoopsOk_eq (l := []) (by kernel_rfl) trivial) (laws_toInt64S_l0_be v34) rfl (by intro x; rfl) h
noncomputable def laws_toInt64S_T (v34 : List Int) : Tree ((List Int)) :=
  (.need (((v34.length : Nat) : Int) = ((v34.length : Nat) : Int)) <|
  (.grd (inb ((v34.length : Nat) : Int) (maxN + 1)) <|
  (.need (some (laws_toInt64S_l0_E v34 ((0 : Int), List.replicate (Int.toNat ((v34.length : Nat) : Int)) (0 : Int))) = some (laws_toInt64S_l0_E v34 ((0 : Int), List.replicate (Int.toNat ((v34.length : Nat) : Int)) (0 : Int)))) <|
  (.call (laws_toInt64S_l0_g v34 ((0 : Int), List.replicate (Int.toNat ((v34.length : Nat) : Int)) (0 : Int))) fun v40 =>
  .leaf v40))))

noncomputable def laws_toInt64S_g (v34 : List Int) : Option ((List Int)) := (laws_toInt64S_T v34).run
def laws_toInt64S_enc (v34 : List Int) (y : (List Int)) : Rs := (.own 0 0 ((y).length), [.row (.i64 y) 0])
theorem laws_toInt64S_den (v34 : List Int) : (den TT (tabD laws_toInt64S_tab) (tabM laws_toInt64S_tab) (laws_toInt64S_LO v34) (codeOf Try.f42) ([.bslc (BR.root 0) (.i64 v34)] ++ List.replicate (Try.f42.ntmps - ([.bslc (BR.root 0) (.i64 v34)] : List DV).length) .undef) []).bind (retD TT Try.f42.results.toList 0) = (laws_toInt64S_T v34).bind fun y => .leaf (laws_toInt64S_enc v34 y) := by kernel_rfl
theorem laws_toInt64S_fn (v34 : List Int) (F : Fr) (hm : F.ids.length = 0) (h0 : St F [] F.H0) (hA : DVs.Ok F [] [.bslc (BR.root 0) (.i64 v34)]) {y : (List Int)} (hy : laws_toInt64S_g v34 = some y) : ∃ H', FnOk Try.prog 42 (DVs.av F [.bslc (BR.root 0) (.i64 v34)]) F.H0 ((laws_toInt64S_enc v34 y).1.av F) H' ∧ St F (laws_toInt64S_enc v34 y).2 H' ∧ (laws_toInt64S_enc v34 y).1.Ok F (laws_toInt64S_enc v34 y).2 :=
  fn_fin tok laws_toInt64S_hO mixed Try.func42 Try.call42 (by kernel_rfl) (LoopsOk_eq (l := [(0, bodyOf Try.f42 0)]) (by kernel_rfl) ⟨laws_toInt64S_l0_ok v34, trivial⟩) (laws_toInt64S_den v34) hy hm h0 hA
noncomputable def laws_toInt64S_F : DFn := fun args L =>
  match args with
  | [a1] =>
    optT (rowI64 L a1) fun v34 =>
    .call (laws_toInt64S_g v34) fun y => .leaf (.own (L.length + 0) 0 ((y).length), L ++ [.row (.i64 y) 0])
  | _ => .fail
theorem laws_toInt64S_Fok : COk Try.prog 42 laws_toInt64S_F true := by
  intro F L H args r L' hs ha hr
  unfold laws_toInt64S_F at hr
  split at hr
  · rename_i a1
    obtain ⟨v34, hv34, hr⟩ := optT_run hr
    simp only [Tree.run] at hr
    obtain ⟨y, hy, hr⟩ := Option.bind_eq_some_iff.1 hr
    simp only [Tree.run, Option.some.injEq, Prod.mk.injEq] at hr
    obtain ⟨rfl, rfl⟩ := hr
    exact call_ok1 hs (fun k => (([a1.av F] : List AV)[k]?).getD .top) [a1] [.bslc (BR.root 0) (.i64 v34)] (fun F' h0 hi hρ => ⟨by simp [DVs.av, DV.av, BR.av, hρ], laws_toInt64S_fn v34 F' (by rw [hi]; rfl) (st_nil hi) ⟨bslc_ok hi (by rw [h0, hρ]; exact rowI64_ok hs (DVs.okAt ha 0 rfl) hv34), trivial⟩ hy⟩) rfl rfl
  · cases hr
/-! laws.toFactor -/
noncomputable def laws_toFactor_LO (v18 : Int) (v19 : Int) (v20 : List Nat) (v21 : List Int) : LOr := fun id e L =>
  match id with
  | _ => .fail
noncomputable def laws_toFactor_tab : List (FuncId × DFn × Bool) := [(31, laws_toMatrix_F, true), (42, laws_toInt64S_F, true)]
theorem laws_toFactor_hO : OrcOk Try.prog (tabD laws_toFactor_tab) (tabM laws_toFactor_tab) := tabD_cons laws_toMatrix_Fok (tabD_cons laws_toInt64S_Fok (tabD_nil _))
noncomputable def laws_toFactor_T (v18 : Int) (v19 : Int) (v20 : List Nat) (v21 : List Int) : Tree (Int × Int × (List Nat) × (List Int)) :=
  (.call (laws_toMatrix_g v18 v19 v20) fun v33 =>
  (.call (laws_toInt64S_g v21) fun v41 =>
  .leaf (v33.1, v33.2.1, v33.2.2, v41)))

noncomputable def laws_toFactor_g (v18 : Int) (v19 : Int) (v20 : List Nat) (v21 : List Int) : Option (Int × Int × (List Nat) × (List Int)) := (laws_toFactor_T v18 v19 v20 v21).run
def laws_toFactor_enc (v18 : Int) (v19 : Int) (v20 : List Nat) (v21 : List Int) (y : Int × Int × (List Nat) × (List Int)) : Rs := (.agg [.int .i64 y.1, .int .i64 y.2.1, .own 0 0 ((y.2.2.1).length), .own 1 0 ((y.2.2.2).length)], [.row (.f32 y.2.2.1) 0, .row (.i64 y.2.2.2) 0])
theorem laws_toFactor_den (v18 : Int) (v19 : Int) (v20 : List Nat) (v21 : List Int) : (den TT (tabD laws_toFactor_tab) (tabM laws_toFactor_tab) (laws_toFactor_LO v18 v19 v20 v21) (codeOf Try.f48) ([.agg [.int .i64 v18, .int .i64 v19, .bslc (BR.root 0) (.f32 v20), .bslc (BR.root 1) (.i64 v21)]] ++ List.replicate (Try.f48.ntmps - ([.agg [.int .i64 v18, .int .i64 v19, .bslc (BR.root 0) (.f32 v20), .bslc (BR.root 1) (.i64 v21)]] : List DV).length) .undef) []).bind (retD TT Try.f48.results.toList 0) = (laws_toFactor_T v18 v19 v20 v21).bind fun y => .leaf (laws_toFactor_enc v18 v19 v20 v21 y) := by kernel_rfl
theorem laws_toFactor_fn (v18 : Int) (v19 : Int) (v20 : List Nat) (v21 : List Int) (F : Fr) (hm : F.ids.length = 0) (h0 : St F [] F.H0) (hA : DVs.Ok F [] [.agg [.int .i64 v18, .int .i64 v19, .bslc (BR.root 0) (.f32 v20), .bslc (BR.root 1) (.i64 v21)]]) {y : Int × Int × (List Nat) × (List Int)} (hy : laws_toFactor_g v18 v19 v20 v21 = some y) : ∃ H', FnOk Try.prog 48 (DVs.av F [.agg [.int .i64 v18, .int .i64 v19, .bslc (BR.root 0) (.f32 v20), .bslc (BR.root 1) (.i64 v21)]]) F.H0 ((laws_toFactor_enc v18 v19 v20 v21 y).1.av F) H' ∧ St F (laws_toFactor_enc v18 v19 v20 v21 y).2 H' ∧ (laws_toFactor_enc v18 v19 v20 v21 y).1.Ok F (laws_toFactor_enc v18 v19 v20 v21 y).2 :=
  fn_fin tok laws_toFactor_hO mixed Try.func48 Try.call48 (by kernel_rfl) (LoopsOk_eq (l := []) (by kernel_rfl) trivial) (laws_toFactor_den v18 v19 v20 v21) hy hm h0 hA
noncomputable def laws_toFactor_F : DFn := fun args L =>
  match args with
  | [.agg [.int .i64 v18, .int .i64 v19, a1, a2]] =>
    optT (rowF32 L a1) fun v20 =>
    optT (rowI64 L a2) fun v21 =>
    .call (laws_toFactor_g v18 v19 v20 v21) fun y => .leaf (.agg [.int .i64 y.1, .int .i64 y.2.1, .own (L.length + 0) 0 ((y.2.2.1).length), .own (L.length + 1) 0 ((y.2.2.2).length)], L ++ [.row (.f32 y.2.2.1) 0, .row (.i64 y.2.2.2) 0])
  | _ => .fail
theorem laws_toFactor_Fok : COk Try.prog 48 laws_toFactor_F true := by
  intro F L H args r L' hs ha hr
  unfold laws_toFactor_F at hr
  split at hr
  · rename_i v18 v19 a1 a2
    obtain ⟨v20, hv20, hr⟩ := optT_run hr
    obtain ⟨v21, hv21, hr⟩ := optT_run hr
    simp only [Tree.run] at hr
    obtain ⟨y, hy, hr⟩ := Option.bind_eq_some_iff.1 hr
    simp only [Tree.run, Option.some.injEq, Prod.mk.injEq] at hr
    obtain ⟨rfl, rfl⟩ := hr
    exact call_ok1 hs (fun k => (([a1.av F, a2.av F] : List AV)[k]?).getD .top) [.agg [.int .i64 v18, .int .i64 v19, a1, a2]] [.agg [.int .i64 v18, .int .i64 v19, .bslc (BR.root 0) (.f32 v20), .bslc (BR.root 1) (.i64 v21)]] (fun F' h0 hi hρ => ⟨by simp [DVs.av, DV.av, BR.av, hρ], laws_toFactor_fn v18 v19 v20 v21 F' (by rw [hi]; rfl) (st_nil hi) ⟨⟨trivial, trivial, bslc_ok hi (by rw [h0, hρ]; exact rowF32_ok hs (DVs.okAt (DVs.okAt ha 0 rfl) 2 rfl) hv20), bslc_ok hi (by rw [h0, hρ]; exact rowI64_ok hs (DVs.okAt (DVs.okAt ha 0 rfl) 3 rfl) hv21), trivial⟩, trivial⟩ hy⟩) rfl rfl
  · cases hr
/-! spec.l00In -/
noncomputable def spec_l00In_LO (v59 : Int) (v60 : Int) (v61 : Int) : LOr := fun id e L =>
  match id with
  | _ => .fail
noncomputable def spec_l00In_tab : List (FuncId × DFn × Bool) := []
theorem spec_l00In_hO : OrcOk Try.prog (tabD spec_l00In_tab) (tabM spec_l00In_tab) := tabD_nil _
noncomputable def spec_l00In_T (v59 : Int) (v60 : Int) (v61 : Int) : Tree (Bool) :=
  (.br (decide (v60 ≤ v59)) (
   .leaf (decide (v59 ≤ v61))
  ) (
   .leaf false
  ))

noncomputable def spec_l00In_g (v59 : Int) (v60 : Int) (v61 : Int) : Option (Bool) := (spec_l00In_T v59 v60 v61).run
def spec_l00In_enc (v59 : Int) (v60 : Int) (v61 : Int) (y : Bool) : Rs := (.bool y, [])
theorem spec_l00In_den (v59 : Int) (v60 : Int) (v61 : Int) : (den TT (tabD spec_l00In_tab) (tabM spec_l00In_tab) (spec_l00In_LO v59 v60 v61) (codeOf Try.f71) ([.int .i64 v59, .int .i64 v60, .int .i64 v61] ++ List.replicate (Try.f71.ntmps - ([.int .i64 v59, .int .i64 v60, .int .i64 v61] : List DV).length) .undef) []).bind (retD TT Try.f71.results.toList 0) = (spec_l00In_T v59 v60 v61).bind fun y => .leaf (spec_l00In_enc v59 v60 v61 y) := by kernel_rfl
theorem spec_l00In_fn (v59 : Int) (v60 : Int) (v61 : Int) (F : Fr) (hm : F.ids.length = 0) (h0 : St F [] F.H0) (hA : DVs.Ok F [] [.int .i64 v59, .int .i64 v60, .int .i64 v61]) {y : Bool} (hy : spec_l00In_g v59 v60 v61 = some y) : ∃ H', FnOk Try.prog 71 (DVs.av F [.int .i64 v59, .int .i64 v60, .int .i64 v61]) F.H0 ((spec_l00In_enc v59 v60 v61 y).1.av F) H' ∧ St F (spec_l00In_enc v59 v60 v61 y).2 H' ∧ (spec_l00In_enc v59 v60 v61 y).1.Ok F (spec_l00In_enc v59 v60 v61 y).2 :=
  fn_fin tok spec_l00In_hO mixed Try.func71 Try.call71 (by kernel_rfl) (LoopsOk_eq (l := []) (by kernel_rfl) trivial) (spec_l00In_den v59 v60 v61) hy hm h0 hA
def spec_l00In_v (v59 : Int) (v60 : Int) (v61 : Int) : Bool :=
  if (decide (v60 ≤ v59)) = true then (
   decide (v59 ≤ v61)
  ) else (
   false
  )
theorem spec_l00In_tot (v59 : Int) (v60 : Int) (v61 : Int) : spec_l00In_g v59 v60 v61 = some (spec_l00In_v v59 v60 v61) := by
  unfold spec_l00In_g spec_l00In_T spec_l00In_v
  simp only [Tree.run]
  repeat' (first | rfl | split)
noncomputable def spec_l00In_F : DFn := fun args L =>
  match args with
  | [.int .i64 v59, .int .i64 v60, .int .i64 v61] =>
    .leaf (.bool (spec_l00In_v v59 v60 v61), L)
  | _ => .fail
theorem spec_l00In_Fok : COk Try.prog 71 spec_l00In_F true := by
  intro F L H args r L' hs ha hr
  unfold spec_l00In_F at hr
  split at hr
  · rename_i v59 v60 v61
    have hy := spec_l00In_tot v59 v60 v61
    generalize spec_l00In_v v59 v60 v61 = y at hy hr
    simp only [Tree.run, Option.some.injEq, Prod.mk.injEq] at hr
    obtain ⟨rfl, rfl⟩ := hr
    exact call_ok0 hs (fun k => (([] : List AV)[k]?).getD .top) [.int .i64 v59, .int .i64 v60, .int .i64 v61] [.int .i64 v59, .int .i64 v60, .int .i64 v61] (fun F' h0 hi hρ => ⟨by simp [DVs.av, DV.av, BR.av, hρ], spec_l00In_fn v59 v60 v61 F' (by rw [hi]; rfl) (st_nil hi) ⟨trivial, trivial, trivial, trivial⟩ hy⟩) rfl
  · cases hr
/-! spec.l02Sides -/
noncomputable def spec_l02Sides_LO (v57 : Int) (v58 : Int) : LOr := fun id e L =>
  match id with
  | _ => .fail
noncomputable def spec_l02Sides_tab : List (FuncId × DFn × Bool) := [(71, spec_l00In_F, true)]
theorem spec_l02Sides_hO : OrcOk Try.prog (tabD spec_l02Sides_tab) (tabM spec_l02Sides_tab) := tabD_cons spec_l00In_Fok (tabD_nil _)
noncomputable def spec_l02Sides_T (v57 : Int) (v58 : Int) : Tree (Bool) :=
  (.br (spec_l00In_v v57 (1 : Int) (12 : Int)) (
   .leaf (spec_l00In_v v58 (1 : Int) (12 : Int))
  ) (
   .leaf false
  ))

noncomputable def spec_l02Sides_g (v57 : Int) (v58 : Int) : Option (Bool) := (spec_l02Sides_T v57 v58).run
def spec_l02Sides_enc (v57 : Int) (v58 : Int) (y : Bool) : Rs := (.bool y, [])
theorem spec_l02Sides_den (v57 : Int) (v58 : Int) : (den TT (tabD spec_l02Sides_tab) (tabM spec_l02Sides_tab) (spec_l02Sides_LO v57 v58) (codeOf Try.f147) ([.int .i64 v57, .int .i64 v58] ++ List.replicate (Try.f147.ntmps - ([.int .i64 v57, .int .i64 v58] : List DV).length) .undef) []).bind (retD TT Try.f147.results.toList 0) = (spec_l02Sides_T v57 v58).bind fun y => .leaf (spec_l02Sides_enc v57 v58 y) := by kernel_rfl
theorem spec_l02Sides_fn (v57 : Int) (v58 : Int) (F : Fr) (hm : F.ids.length = 0) (h0 : St F [] F.H0) (hA : DVs.Ok F [] [.int .i64 v57, .int .i64 v58]) {y : Bool} (hy : spec_l02Sides_g v57 v58 = some y) : ∃ H', FnOk Try.prog 147 (DVs.av F [.int .i64 v57, .int .i64 v58]) F.H0 ((spec_l02Sides_enc v57 v58 y).1.av F) H' ∧ St F (spec_l02Sides_enc v57 v58 y).2 H' ∧ (spec_l02Sides_enc v57 v58 y).1.Ok F (spec_l02Sides_enc v57 v58 y).2 :=
  fn_fin tok spec_l02Sides_hO mixed Try.func147 Try.call147 (by kernel_rfl) (LoopsOk_eq (l := []) (by kernel_rfl) trivial) (spec_l02Sides_den v57 v58) hy hm h0 hA
def spec_l02Sides_v (v57 : Int) (v58 : Int) : Bool :=
  if (spec_l00In_v v57 (1 : Int) (12 : Int)) = true then (
   (spec_l00In_v v58 (1 : Int) (12 : Int))
  ) else (
   false
  )
theorem spec_l02Sides_tot (v57 : Int) (v58 : Int) : spec_l02Sides_g v57 v58 = some (spec_l02Sides_v v57 v58) := by
  unfold spec_l02Sides_g spec_l02Sides_T spec_l02Sides_v
  simp only [Tree.run]
  repeat' (first | rfl | split)
noncomputable def spec_l02Sides_F : DFn := fun args L =>
  match args with
  | [.int .i64 v57, .int .i64 v58] =>
    .leaf (.bool (spec_l02Sides_v v57 v58), L)
  | _ => .fail
theorem spec_l02Sides_Fok : COk Try.prog 147 spec_l02Sides_F true := by
  intro F L H args r L' hs ha hr
  unfold spec_l02Sides_F at hr
  split at hr
  · rename_i v57 v58
    have hy := spec_l02Sides_tot v57 v58
    generalize spec_l02Sides_v v57 v58 = y at hy hr
    simp only [Tree.run, Option.some.injEq, Prod.mk.injEq] at hr
    obtain ⟨rfl, rfl⟩ := hr
    exact call_ok0 hs (fun k => (([] : List AV)[k]?).getD .top) [.int .i64 v57, .int .i64 v58] [.int .i64 v57, .int .i64 v58] (fun F' h0 hi hρ => ⟨by simp [DVs.av, DV.av, BR.av, hρ], spec_l02Sides_fn v57 v58 F' (by rw [hi]; rfl) (st_nil hi) ⟨trivial, trivial, trivial⟩ hy⟩) rfl
  · cases hr
/-! spec.l01Finite -/
noncomputable def spec_l01Finite_LO (v64 : Nat) : LOr := fun id e L =>
  match id with
  | _ => .fail
noncomputable def spec_l01Finite_tab : List (FuncId × DFn × Bool) := []
theorem spec_l01Finite_hO : OrcOk Try.prog (tabD spec_l01Finite_tab) (tabM spec_l01Finite_tab) := tabD_nil _
noncomputable def spec_l01Finite_T (v64 : Nat) : Tree (Bool) :=
  .leaf (feq .f32 (fsub .f32 v64 v64) (0 : Nat))

noncomputable def spec_l01Finite_g (v64 : Nat) : Option (Bool) := (spec_l01Finite_T v64).run
def spec_l01Finite_enc (v64 : Nat) (y : Bool) : Rs := (.bool y, [])
theorem spec_l01Finite_den (v64 : Nat) : (den TT (tabD spec_l01Finite_tab) (tabM spec_l01Finite_tab) (spec_l01Finite_LO v64) (codeOf Try.f100) ([.flt .f32 v64] ++ List.replicate (Try.f100.ntmps - ([.flt .f32 v64] : List DV).length) .undef) []).bind (retD TT Try.f100.results.toList 0) = (spec_l01Finite_T v64).bind fun y => .leaf (spec_l01Finite_enc v64 y) := by kernel_rfl
theorem spec_l01Finite_fn (v64 : Nat) (F : Fr) (hm : F.ids.length = 0) (h0 : St F [] F.H0) (hA : DVs.Ok F [] [.flt .f32 v64]) {y : Bool} (hy : spec_l01Finite_g v64 = some y) : ∃ H', FnOk Try.prog 100 (DVs.av F [.flt .f32 v64]) F.H0 ((spec_l01Finite_enc v64 y).1.av F) H' ∧ St F (spec_l01Finite_enc v64 y).2 H' ∧ (spec_l01Finite_enc v64 y).1.Ok F (spec_l01Finite_enc v64 y).2 :=
  fn_fin tok spec_l01Finite_hO mixed Try.func100 Try.call100 (by kernel_rfl) (LoopsOk_eq (l := []) (by kernel_rfl) trivial) (spec_l01Finite_den v64) hy hm h0 hA
def spec_l01Finite_v (v64 : Nat) : Bool :=
  feq .f32 (fsub .f32 v64 v64) (0 : Nat)
theorem spec_l01Finite_tot (v64 : Nat) : spec_l01Finite_g v64 = some (spec_l01Finite_v v64) := by
  unfold spec_l01Finite_g spec_l01Finite_T spec_l01Finite_v
  simp only [Tree.run]
  repeat' (first | rfl | split)
noncomputable def spec_l01Finite_F : DFn := fun args L =>
  match args with
  | [.flt .f32 v64] =>
    .leaf (.bool (spec_l01Finite_v v64), L)
  | _ => .fail
theorem spec_l01Finite_Fok : COk Try.prog 100 spec_l01Finite_F true := by
  intro F L H args r L' hs ha hr
  unfold spec_l01Finite_F at hr
  split at hr
  · rename_i v64
    have hy := spec_l01Finite_tot v64
    generalize spec_l01Finite_v v64 = y at hy hr
    simp only [Tree.run, Option.some.injEq, Prod.mk.injEq] at hr
    obtain ⟨rfl, rfl⟩ := hr
    exact call_ok0 hs (fun k => (([] : List AV)[k]?).getD .top) [.flt .f32 v64] [.flt .f32 v64] (fun F' h0 hi hρ => ⟨by simp [DVs.av, DV.av, BR.av, hρ], spec_l01Finite_fn v64 F' (by rw [hi]; rfl) (st_nil hi) ⟨trivial, trivial⟩ hy⟩) rfl
  · cases hr
/-! spec.l02Finite -/
noncomputable def spec_l02Finite_l0_T (v62 : List Nat) (s : Int) : Tree ((Int) ⊕ ((Unit) ⊕ (Unit))) :=
  (.br (decide (s < ((v62.length : Nat) : Int))) (
   (.grd (inb s v62.length) <|
   (.br (!(spec_l01Finite_v (nth v62 (Int.toNat s)))) (
    .leaf (.inr (.inl ()))
   ) (
    .leaf (.inl (IntKind.i64.wrap (s + (1 : Int))))
   )))
  ) (
   .leaf (.inr (.inr ()))
  ))

noncomputable def spec_l02Finite_l0_g (v62 : List Nat) (s0 : Int) : Option ((Unit) ⊕ (Unit)) := whileM (fun s => (spec_l02Finite_l0_T v62 s).run) s0
def spec_l02Finite_l0_E (v62 : List Nat) (s : Int) : Sd := ([.bslc (BR.root 0) (.f32 v62), .top, .top, .int .i64 s, .top, .top, .top, .top, .top, .top, .top, .top, .top, .top, .top, .top], [])
def spec_l02Finite_l0_X (v62 : List Nat) (x : (Unit) ⊕ (Unit)) : Out := (match x with | .inl x => (.ret, [.top, .top, .lit false, .top, .top, .top, .top, .top, .top, .top, .top, .top, .top, .top, .top, .top], []) | .inr x => (.normal, [.top, .top, .top, .top, .top, .top, .top, .top, .top, .top, .top, .top, .top, .top, .top, .top], []))
def spec_l02Finite_l0_kill : List Nat := [0, 1, 1, 0, 1, 1, 1, 1, 1, 1, 1, 1, 1, 1, 1, 1]
def spec_l02Finite_l0_nx : Exit → List Nat
  | .exit 0 => [1, 1, 1, 1, 1, 1, 1, 1, 1, 1, 1, 1, 1, 1, 1, 1]
  | .ret => [1, 1, 0, 1, 1, 1, 1, 1, 1, 1, 1, 1, 1, 1, 1, 1]
  | _ => []
noncomputable def spec_l02Finite_LO (v62 : List Nat) : LOr := fun id e L =>
  match id with
  | 0 => .need (normA 0 spec_l02Finite_l0_kill e L = some (spec_l02Finite_l0_E v62 (gI (vAt e 3)))) (.call (spec_l02Finite_l0_g v62 (gI (vAt e 3))) fun x => .sum x (fun b0 => .leaf (spec_l02Finite_l0_X v62 (.inl b0))) (fun c0 => .leaf (spec_l02Finite_l0_X v62 (.inr c0))))
  | _ => .fail
noncomputable def spec_l02Finite_tab : List (FuncId × DFn × Bool) := [(100, spec_l01Finite_F, true)]
theorem spec_l02Finite_hO : OrcOk Try.prog (tabD spec_l02Finite_tab) (tabM spec_l02Finite_tab) := tabD_cons spec_l01Finite_Fok (tabD_nil _)
theorem spec_l02Finite_l0_be (v62 : List Nat) (s : Int) : bodyT TT (tabD spec_l02Finite_tab) (tabM spec_l02Finite_tab) (spec_l02Finite_LO v62) 0 spec_l02Finite_l0_kill spec_l02Finite_l0_nx (bodyOf Try.f131 0) 0 (spec_l02Finite_l0_E v62 s) = (spec_l02Finite_l0_T v62 s).bind fun y => .leaf (outS (spec_l02Finite_l0_E v62) (spec_l02Finite_l0_X v62) y) := by kernel_rfl
theorem spec_l02Finite_l0_ok (v62 : List Nat) : LSound Try.prog 0 (spec_l02Finite_LO v62) 0 (bodyOf Try.f131 0) := by
  intro e L out h
  exact lo_ok (E := spec_l02Finite_l0_E v62) (gT := spec_l02Finite_l0_T v62) (X := spec_l02Finite_l0_X v62) (s0 := (gI (vAt e 3))) tok spec_l02Finite_hO mixed (LoopsOk_eq (l := []) (by kernel_rfl) trivial) (spec_l02Finite_l0_be v62) rfl (by intro x; (cases x with | inl b => rfl | inr x => exact rfl)) h
noncomputable def spec_l02Finite_T (v62 : List Nat) : Tree (Bool) :=
  (.need (some (spec_l02Finite_l0_E v62 (0 : Int)) = some (spec_l02Finite_l0_E v62 (0 : Int))) <|
  (.call (spec_l02Finite_l0_g v62 (0 : Int)) fun v67 =>
  (.sum v67 (fun v68 =>
   .leaf false
  ) (fun v69 =>
   .leaf true
  ))))

noncomputable def spec_l02Finite_g (v62 : List Nat) : Option (Bool) := (spec_l02Finite_T v62).run
def spec_l02Finite_enc (v62 : List Nat) (y : Bool) : Rs := (.bool y, [])
theorem spec_l02Finite_den (v62 : List Nat) : (den TT (tabD spec_l02Finite_tab) (tabM spec_l02Finite_tab) (spec_l02Finite_LO v62) (codeOf Try.f131) ([.bslc (BR.root 0) (.f32 v62)] ++ List.replicate (Try.f131.ntmps - ([.bslc (BR.root 0) (.f32 v62)] : List DV).length) .undef) []).bind (retD TT Try.f131.results.toList 0) = (spec_l02Finite_T v62).bind fun y => .leaf (spec_l02Finite_enc v62 y) := by kernel_rfl
theorem spec_l02Finite_fn (v62 : List Nat) (F : Fr) (hm : F.ids.length = 0) (h0 : St F [] F.H0) (hA : DVs.Ok F [] [.bslc (BR.root 0) (.f32 v62)]) {y : Bool} (hy : spec_l02Finite_g v62 = some y) : ∃ H', FnOk Try.prog 131 (DVs.av F [.bslc (BR.root 0) (.f32 v62)]) F.H0 ((spec_l02Finite_enc v62 y).1.av F) H' ∧ St F (spec_l02Finite_enc v62 y).2 H' ∧ (spec_l02Finite_enc v62 y).1.Ok F (spec_l02Finite_enc v62 y).2 :=
  fn_fin tok spec_l02Finite_hO mixed Try.func131 Try.call131 (by kernel_rfl) (LoopsOk_eq (l := [(0, bodyOf Try.f131 0)]) (by kernel_rfl) ⟨spec_l02Finite_l0_ok v62, trivial⟩) (spec_l02Finite_den v62) hy hm h0 hA
noncomputable def spec_l02Finite_F : DFn := fun args L =>
  match args with
  | [a1] =>
    optT (rowF32 L a1) fun v62 =>
    .call (spec_l02Finite_g v62) fun y => .leaf (.bool y, L)
  | _ => .fail
theorem spec_l02Finite_Fok : COk Try.prog 131 spec_l02Finite_F true := by
  intro F L H args r L' hs ha hr
  unfold spec_l02Finite_F at hr
  split at hr
  · rename_i a1
    obtain ⟨v62, hv62, hr⟩ := optT_run hr
    simp only [Tree.run] at hr
    obtain ⟨y, hy, hr⟩ := Option.bind_eq_some_iff.1 hr
    simp only [Tree.run, Option.some.injEq, Prod.mk.injEq] at hr
    obtain ⟨rfl, rfl⟩ := hr
    exact call_ok0 hs (fun k => (([a1.av F] : List AV)[k]?).getD .top) [a1] [.bslc (BR.root 0) (.f32 v62)] (fun F' h0 hi hρ => ⟨by simp [DVs.av, DV.av, BR.av, hρ], spec_l02Finite_fn v62 F' (by rw [hi]; rfl) (st_nil hi) ⟨bslc_ok hi (by rw [h0, hρ]; exact rowF32_ok hs (DVs.okAt ha 0 rfl) hv62), trivial⟩ hy⟩) rfl
  · cases hr
/-! spec.l02Is -/
noncomputable def spec_l02Is_LO (v54 : Int) (v55 : Int) (v56 : List Nat) : LOr := fun id e L =>
  match id with
  | _ => .fail
noncomputable def spec_l02Is_tab : List (FuncId × DFn × Bool) := [(147, spec_l02Sides_F, true), (131, spec_l02Finite_F, true)]
theorem spec_l02Is_hO : OrcOk Try.prog (tabD spec_l02Is_tab) (tabM spec_l02Is_tab) := tabD_cons spec_l02Sides_Fok (tabD_cons spec_l02Finite_Fok (tabD_nil _))
noncomputable def spec_l02Is_T (v54 : Int) (v55 : Int) (v56 : List Nat) : Tree (Bool) :=
  (.br (spec_l02Sides_v v54 v55) (
   (.br (decide (((v56.length : Nat) : Int) = IntKind.i64.wrap (v54 * v55))) (
    (.call (spec_l02Finite_g v56) fun v70 =>
    .leaf v70)
   ) (
    .leaf false
   ))
  ) (
   .leaf false
  ))

noncomputable def spec_l02Is_g (v54 : Int) (v55 : Int) (v56 : List Nat) : Option (Bool) := (spec_l02Is_T v54 v55 v56).run
def spec_l02Is_enc (v54 : Int) (v55 : Int) (v56 : List Nat) (y : Bool) : Rs := (.bool y, [])
theorem spec_l02Is_den (v54 : Int) (v55 : Int) (v56 : List Nat) : (den TT (tabD spec_l02Is_tab) (tabM spec_l02Is_tab) (spec_l02Is_LO v54 v55 v56) (codeOf Try.f99) ([.bptr (BR.root 0) [.int .i64 v54, .int .i64 v55, .bslc (BR.root 1) (.f32 v56)]] ++ List.replicate (Try.f99.ntmps - ([.bptr (BR.root 0) [.int .i64 v54, .int .i64 v55, .bslc (BR.root 1) (.f32 v56)]] : List DV).length) .undef) []).bind (retD TT Try.f99.results.toList 0) = (spec_l02Is_T v54 v55 v56).bind fun y => .leaf (spec_l02Is_enc v54 v55 v56 y) := by kernel_rfl
theorem spec_l02Is_fn (v54 : Int) (v55 : Int) (v56 : List Nat) (F : Fr) (hm : F.ids.length = 0) (h0 : St F [] F.H0) (hA : DVs.Ok F [] [.bptr (BR.root 0) [.int .i64 v54, .int .i64 v55, .bslc (BR.root 1) (.f32 v56)]]) {y : Bool} (hy : spec_l02Is_g v54 v55 v56 = some y) : ∃ H', FnOk Try.prog 99 (DVs.av F [.bptr (BR.root 0) [.int .i64 v54, .int .i64 v55, .bslc (BR.root 1) (.f32 v56)]]) F.H0 ((spec_l02Is_enc v54 v55 v56 y).1.av F) H' ∧ St F (spec_l02Is_enc v54 v55 v56 y).2 H' ∧ (spec_l02Is_enc v54 v55 v56 y).1.Ok F (spec_l02Is_enc v54 v55 v56 y).2 :=
  fn_fin tok spec_l02Is_hO mixed Try.func99 Try.call99 (by kernel_rfl) (LoopsOk_eq (l := []) (by kernel_rfl) trivial) (spec_l02Is_den v54 v55 v56) hy hm h0 hA
noncomputable def spec_l02Is_F : DFn := fun args L =>
  match args with
  | [a1] =>
    optT (cellsOf L 3 a1) fun cs0 =>
    (match cs0 with
    | [.int .i64 v54, .int .i64 v55, a2] =>
    optT (rowF32 L a2) fun v56 =>
    .call (spec_l02Is_g v54 v55 v56) fun y => .leaf (.bool y, L)
    | _ => .fail)
  | _ => .fail
theorem spec_l02Is_Fok : COk Try.prog 99 spec_l02Is_F true := by
  intro F L H args r L' hs ha hr
  unfold spec_l02Is_F at hr
  split at hr
  · rename_i a1
    obtain ⟨cs0, hcp0, hr⟩ := optT_run hr
    split at hr
    · rename_i v54 v55 a2
      obtain ⟨v56, hv56, hr⟩ := optT_run hr
      simp only [Tree.run] at hr
      obtain ⟨y, hy, hr⟩ := Option.bind_eq_some_iff.1 hr
      simp only [Tree.run, Option.some.injEq, Prod.mk.injEq] at hr
      obtain ⟨rfl, rfl⟩ := hr
      exact call_ok0 hs (fun k => (([a1.av F, a2.av F] : List AV)[k]?).getD .top) [a1] [.bptr (BR.root 0) [.int .i64 v54, .int .i64 v55, .bslc (BR.root 1) (.f32 v56)]] (fun F' h0 hi hρ => ⟨by simp [DVs.av, DV.av, BR.av, hρ], spec_l02Is_fn v54 v55 v56 F' (by rw [hi]; rfl) (st_nil hi) ⟨bptr_ok hi (by rw [h0]; simpa [DVs.av, DV.av, BR.av, hρ] using (cellsOf_ok hs (DVs.okAt ha 0 rfl) hcp0).1) ⟨trivial, trivial, bslc_ok hi (by rw [h0, hρ]; exact rowF32_ok hs (DVs.okAt (cellsOf_ok hs (DVs.okAt ha 0 rfl) hcp0).2 2 rfl) hv56), trivial⟩, trivial⟩ hy⟩) rfl
    · cases hr
  · cases hr
/-! spec.l02Square -/
noncomputable def spec_l02Square_LO (v51 : Int) (v52 : Int) (v53 : List Nat) : LOr := fun id e L =>
  match id with
  | _ => .fail
noncomputable def spec_l02Square_tab : List (FuncId × DFn × Bool) := [(99, spec_l02Is_F, true)]
theorem spec_l02Square_hO : OrcOk Try.prog (tabD spec_l02Square_tab) (tabM spec_l02Square_tab) := tabD_cons spec_l02Is_Fok (tabD_nil _)
noncomputable def spec_l02Square_T (v51 : Int) (v52 : Int) (v53 : List Nat) : Tree (Bool) :=
  (.call (spec_l02Is_g v51 v52 v53) fun v71 =>
  (.br v71 (
   .leaf (decide (v51 = v52))
  ) (
   .leaf false
  )))

noncomputable def spec_l02Square_g (v51 : Int) (v52 : Int) (v53 : List Nat) : Option (Bool) := (spec_l02Square_T v51 v52 v53).run
def spec_l02Square_enc (v51 : Int) (v52 : Int) (v53 : List Nat) (y : Bool) : Rs := (.bool y, [])
theorem spec_l02Square_den (v51 : Int) (v52 : Int) (v53 : List Nat) : (den TT (tabD spec_l02Square_tab) (tabM spec_l02Square_tab) (spec_l02Square_LO v51 v52 v53) (codeOf Try.f82) ([.bptr (BR.root 0) [.int .i64 v51, .int .i64 v52, .bslc (BR.root 1) (.f32 v53)]] ++ List.replicate (Try.f82.ntmps - ([.bptr (BR.root 0) [.int .i64 v51, .int .i64 v52, .bslc (BR.root 1) (.f32 v53)]] : List DV).length) .undef) []).bind (retD TT Try.f82.results.toList 0) = (spec_l02Square_T v51 v52 v53).bind fun y => .leaf (spec_l02Square_enc v51 v52 v53 y) := by kernel_rfl
theorem spec_l02Square_fn (v51 : Int) (v52 : Int) (v53 : List Nat) (F : Fr) (hm : F.ids.length = 0) (h0 : St F [] F.H0) (hA : DVs.Ok F [] [.bptr (BR.root 0) [.int .i64 v51, .int .i64 v52, .bslc (BR.root 1) (.f32 v53)]]) {y : Bool} (hy : spec_l02Square_g v51 v52 v53 = some y) : ∃ H', FnOk Try.prog 82 (DVs.av F [.bptr (BR.root 0) [.int .i64 v51, .int .i64 v52, .bslc (BR.root 1) (.f32 v53)]]) F.H0 ((spec_l02Square_enc v51 v52 v53 y).1.av F) H' ∧ St F (spec_l02Square_enc v51 v52 v53 y).2 H' ∧ (spec_l02Square_enc v51 v52 v53 y).1.Ok F (spec_l02Square_enc v51 v52 v53 y).2 :=
  fn_fin tok spec_l02Square_hO mixed Try.func82 Try.call82 (by kernel_rfl) (LoopsOk_eq (l := []) (by kernel_rfl) trivial) (spec_l02Square_den v51 v52 v53) hy hm h0 hA
noncomputable def spec_l02Square_F : DFn := fun args L =>
  match args with
  | [a1] =>
    optT (cellsOf L 3 a1) fun cs0 =>
    (match cs0 with
    | [.int .i64 v51, .int .i64 v52, a2] =>
    optT (rowF32 L a2) fun v53 =>
    .call (spec_l02Square_g v51 v52 v53) fun y => .leaf (.bool y, L)
    | _ => .fail)
  | _ => .fail
theorem spec_l02Square_Fok : COk Try.prog 82 spec_l02Square_F true := by
  intro F L H args r L' hs ha hr
  unfold spec_l02Square_F at hr
  split at hr
  · rename_i a1
    obtain ⟨cs0, hcp0, hr⟩ := optT_run hr
    split at hr
    · rename_i v51 v52 a2
      obtain ⟨v53, hv53, hr⟩ := optT_run hr
      simp only [Tree.run] at hr
      obtain ⟨y, hy, hr⟩ := Option.bind_eq_some_iff.1 hr
      simp only [Tree.run, Option.some.injEq, Prod.mk.injEq] at hr
      obtain ⟨rfl, rfl⟩ := hr
      exact call_ok0 hs (fun k => (([a1.av F, a2.av F] : List AV)[k]?).getD .top) [a1] [.bptr (BR.root 0) [.int .i64 v51, .int .i64 v52, .bslc (BR.root 1) (.f32 v53)]] (fun F' h0 hi hρ => ⟨by simp [DVs.av, DV.av, BR.av, hρ], spec_l02Square_fn v51 v52 v53 F' (by rw [hi]; rfl) (st_nil hi) ⟨bptr_ok hi (by rw [h0]; simpa [DVs.av, DV.av, BR.av, hρ] using (cellsOf_ok hs (DVs.okAt ha 0 rfl) hcp0).1) ⟨trivial, trivial, bslc_ok hi (by rw [h0, hρ]; exact rowF32_ok hs (DVs.okAt (cellsOf_ok hs (DVs.okAt ha 0 rfl) hcp0).2 2 rfl) hv53), trivial⟩, trivial⟩ hy⟩) rfl
    · cases hr
  · cases hr
/-! spec.l02Order -/
noncomputable def spec_l02Order_l0_T (v73 : List Int) (s : Int × (List Bool)) : Tree ((Int × (List Bool)) ⊕ ((Unit) ⊕ (Unit))) :=
  (.br (decide (s.1 < ((v73.length : Nat) : Int))) (
   (.grd (inb s.1 v73.length) <|
   (.br (!(spec_l00In_v (nth v73 (Int.toNat s.1)) (0 : Int) (IntKind.i64.wrap (((v73.length : Nat) : Int) - (1 : Int))))) (
    .leaf (.inr (.inl ()))
   ) (
    (.grd (inb s.1 v73.length) <|
    (.grd (inb (nth v73 (Int.toNat s.1)) ((s.2).length)) <|
    (.br (nth s.2 (Int.toNat (nth v73 (Int.toNat s.1)))) (
     .leaf (.inr (.inl ()))
    ) (
     (.grd (inb s.1 v73.length) <|
     (.grd (inb (nth v73 (Int.toNat s.1)) ((s.2).length)) <|
     .leaf (.inl (IntKind.i64.wrap (s.1 + (1 : Int)), List.set s.2 (Int.toNat (nth v73 (Int.toNat s.1))) true))))
    ))))
   )))
  ) (
   .leaf (.inr (.inr ()))
  ))

noncomputable def spec_l02Order_l0_g (v73 : List Int) (s0 : Int × (List Bool)) : Option ((Unit) ⊕ (Unit)) := whileM (fun s => (spec_l02Order_l0_T v73 s).run) s0
def spec_l02Order_l0_E (v73 : List Int) (s : Int × (List Bool)) : Sd := ([.bslc (BR.root 0) (.i64 v73), .top, .top, .own 0 0 ((s.2).length), .int .i64 s.1, .top, .top, .top, .top, .top, .top, .top, .top, .top, .top, .top, .top, .top, .top, .top, .top, .top, .top, .top, .top, .top, .top, .top, .top, .top, .top, .top, .top, .top, .top, .top, .top, .top, .top, .top, .top, .top, .top, .top, .top, .top], [.row (.bool s.2) 0])
def spec_l02Order_l0_X (v73 : List Int) (x : (Unit) ⊕ (Unit)) : Out := (match x with | .inl x => (.ret, [.top, .top, .lit false, .top, .top, .top, .top, .top, .top, .top, .top, .top, .top, .top, .top, .top, .top, .top, .top, .top, .top, .top, .top, .top, .top, .top, .top, .top, .top, .top, .top, .top, .top, .top, .top, .top, .top, .top, .top, .top, .top, .top, .top, .top, .top, .top], []) | .inr x => (.normal, [.top, .top, .top, .top, .top, .top, .top, .top, .top, .top, .top, .top, .top, .top, .top, .top, .top, .top, .top, .top, .top, .top, .top, .top, .top, .top, .top, .top, .top, .top, .top, .top, .top, .top, .top, .top, .top, .top, .top, .top, .top, .top, .top, .top, .top, .top], []))
def spec_l02Order_l0_kill : List Nat := [0, 1, 1, 0, 0, 1, 1, 1, 1, 1, 1, 1, 1, 1, 1, 1, 1, 1, 1, 1, 1, 1, 1, 1, 1, 1, 1, 1, 1, 1, 1, 1, 1, 1, 1, 1, 1, 1, 1, 1, 1, 1, 1, 1, 1, 1]
def spec_l02Order_l0_nx : Exit → List Nat
  | .exit 0 => [1, 1, 1, 1, 1, 1, 1, 1, 1, 1, 1, 1, 1, 1, 1, 1, 1, 1, 1, 1, 1, 1, 1, 1, 1, 1, 1, 1, 1, 1, 1, 1, 1, 1, 1, 1, 1, 1, 1, 1, 1, 1, 1, 1, 1, 1]
  | .ret => [1, 1, 0, 1, 1, 1, 1, 1, 1, 1, 1, 1, 1, 1, 1, 1, 1, 1, 1, 1, 1, 1, 1, 1, 1, 1, 1, 1, 1, 1, 1, 1, 1, 1, 1, 1, 1, 1, 1, 1, 1, 1, 1, 1, 1, 1]
  | _ => []
noncomputable def spec_l02Order_LO (v73 : List Int) : LOr := fun id e L =>
  match id with
  | 0 => .need (normA 0 spec_l02Order_l0_kill e L = some (spec_l02Order_l0_E v73 ((gI (vAt e 4)), (gRB L (vAt e 3))))) (.call (spec_l02Order_l0_g v73 ((gI (vAt e 4)), (gRB L (vAt e 3)))) fun x => .sum x (fun b0 => .leaf (spec_l02Order_l0_X v73 (.inl b0))) (fun c0 => .leaf (spec_l02Order_l0_X v73 (.inr c0))))
  | _ => .fail
noncomputable def spec_l02Order_tab : List (FuncId × DFn × Bool) := [(71, spec_l00In_F, true)]
theorem spec_l02Order_hO : OrcOk Try.prog (tabD spec_l02Order_tab) (tabM spec_l02Order_tab) := tabD_cons spec_l00In_Fok (tabD_nil _)
theorem spec_l02Order_l0_be (v73 : List Int) (s : Int × (List Bool)) : bodyT TT (tabD spec_l02Order_tab) (tabM spec_l02Order_tab) (spec_l02Order_LO v73) 0 spec_l02Order_l0_kill spec_l02Order_l0_nx (bodyOf Try.f106 0) 0 (spec_l02Order_l0_E v73 s) = (spec_l02Order_l0_T v73 s).bind fun y => .leaf (outS (spec_l02Order_l0_E v73) (spec_l02Order_l0_X v73) y) := by kernel_rfl
theorem spec_l02Order_l0_ok (v73 : List Int) : LSound Try.prog 0 (spec_l02Order_LO v73) 0 (bodyOf Try.f106 0) := by
  intro e L out h
  exact lo_ok (E := spec_l02Order_l0_E v73) (gT := spec_l02Order_l0_T v73) (X := spec_l02Order_l0_X v73) (s0 := ((gI (vAt e 4)), (gRB L (vAt e 3)))) tok spec_l02Order_hO mixed (LoopsOk_eq (l := []) (by kernel_rfl) trivial) (spec_l02Order_l0_be v73) rfl (by intro x; (cases x with | inl b => rfl | inr x => exact rfl)) h
noncomputable def spec_l02Order_T (v73 : List Int) : Tree (Bool) :=
  (.br (decide (((v73.length : Nat) : Int) < (1 : Int))) (
   .leaf false
  ) (
   (.br (decide ((12 : Int) < ((v73.length : Nat) : Int))) (
    .leaf false
   ) (
    (.need (((v73.length : Nat) : Int) = ((v73.length : Nat) : Int)) <|
    (.grd (inb ((v73.length : Nat) : Int) (maxN + 1)) <|
    (.need (some (spec_l02Order_l0_E v73 ((0 : Int), List.replicate (Int.toNat ((v73.length : Nat) : Int)) false)) = some (spec_l02Order_l0_E v73 ((0 : Int), List.replicate (Int.toNat ((v73.length : Nat) : Int)) false))) <|
    (.call (spec_l02Order_l0_g v73 ((0 : Int), List.replicate (Int.toNat ((v73.length : Nat) : Int)) false)) fun v79 =>
    (.sum v79 (fun v80 =>
     .leaf false
    ) (fun v81 =>
     .leaf true
    ))))))
   ))
  ))

noncomputable def spec_l02Order_g (v73 : List Int) : Option (Bool) := (spec_l02Order_T v73).run
def spec_l02Order_enc (v73 : List Int) (y : Bool) : Rs := (.bool y, [])
theorem spec_l02Order_den (v73 : List Int) : (den TT (tabD spec_l02Order_tab) (tabM spec_l02Order_tab) (spec_l02Order_LO v73) (codeOf Try.f106) ([.bslc (BR.root 0) (.i64 v73)] ++ List.replicate (Try.f106.ntmps - ([.bslc (BR.root 0) (.i64 v73)] : List DV).length) .undef) []).bind (retD TT Try.f106.results.toList 0) = (spec_l02Order_T v73).bind fun y => .leaf (spec_l02Order_enc v73 y) := by kernel_rfl
theorem spec_l02Order_fn (v73 : List Int) (F : Fr) (hm : F.ids.length = 0) (h0 : St F [] F.H0) (hA : DVs.Ok F [] [.bslc (BR.root 0) (.i64 v73)]) {y : Bool} (hy : spec_l02Order_g v73 = some y) : ∃ H', FnOk Try.prog 106 (DVs.av F [.bslc (BR.root 0) (.i64 v73)]) F.H0 ((spec_l02Order_enc v73 y).1.av F) H' ∧ St F (spec_l02Order_enc v73 y).2 H' ∧ (spec_l02Order_enc v73 y).1.Ok F (spec_l02Order_enc v73 y).2 :=
  fn_fin tok spec_l02Order_hO mixed Try.func106 Try.call106 (by kernel_rfl) (LoopsOk_eq (l := [(0, bodyOf Try.f106 0)]) (by kernel_rfl) ⟨spec_l02Order_l0_ok v73, trivial⟩) (spec_l02Order_den v73) hy hm h0 hA
noncomputable def spec_l02Order_F : DFn := fun args L =>
  match args with
  | [a1] =>
    optT (rowI64 L a1) fun v73 =>
    .call (spec_l02Order_g v73) fun y => .leaf (.bool y, L)
  | _ => .fail
theorem spec_l02Order_Fok : COk Try.prog 106 spec_l02Order_F true := by
  intro F L H args r L' hs ha hr
  unfold spec_l02Order_F at hr
  split at hr
  · rename_i a1
    obtain ⟨v73, hv73, hr⟩ := optT_run hr
    simp only [Tree.run] at hr
    obtain ⟨y, hy, hr⟩ := Option.bind_eq_some_iff.1 hr
    simp only [Tree.run, Option.some.injEq, Prod.mk.injEq] at hr
    obtain ⟨rfl, rfl⟩ := hr
    exact call_ok0 hs (fun k => (([a1.av F] : List AV)[k]?).getD .top) [a1] [.bslc (BR.root 0) (.i64 v73)] (fun F' h0 hi hρ => ⟨by simp [DVs.av, DV.av, BR.av, hρ], spec_l02Order_fn v73 F' (by rw [hi]; rfl) (st_nil hi) ⟨bslc_ok hi (by rw [h0, hρ]; exact rowI64_ok hs (DVs.okAt ha 0 rfl) hv73), trivial⟩ hy⟩) rfl
  · cases hr
/-! spec.l02At -/
noncomputable def spec_l02At_LO (v84 : Int) (v85 : Int) (v86 : List Nat) (v87 : Int) (v88 : Int) : LOr := fun id e L =>
  match id with
  | _ => .fail
noncomputable def spec_l02At_tab : List (FuncId × DFn × Bool) := []
theorem spec_l02At_hO : OrcOk Try.prog (tabD spec_l02At_tab) (tabM spec_l02At_tab) := tabD_nil _
noncomputable def spec_l02At_T (v85 : Int) (v86 : List Nat) (v87 : Int) (v88 : Int) : Tree (Nat) :=
  (.grd (inb (IntKind.i64.wrap ((IntKind.i64.wrap (v87 * v85)) + v88)) v86.length) <|
  .leaf (nth v86 (Int.toNat (IntKind.i64.wrap ((IntKind.i64.wrap (v87 * v85)) + v88)))))

noncomputable def spec_l02At_g (v85 : Int) (v86 : List Nat) (v87 : Int) (v88 : Int) : Option (Nat) := (spec_l02At_T v85 v86 v87 v88).run
def spec_l02At_enc (v84 : Int) (v85 : Int) (v86 : List Nat) (v87 : Int) (v88 : Int) (y : Nat) : Rs := (.flt .f32 y, [])
theorem spec_l02At_den (v84 : Int) (v85 : Int) (v86 : List Nat) (v87 : Int) (v88 : Int) : (den TT (tabD spec_l02At_tab) (tabM spec_l02At_tab) (spec_l02At_LO v84 v85 v86 v87 v88) (codeOf Try.f115) ([.bptr (BR.root 0) [.int .i64 v84, .int .i64 v85, .bslc (BR.root 1) (.f32 v86)], .int .i64 v87, .int .i64 v88] ++ List.replicate (Try.f115.ntmps - ([.bptr (BR.root 0) [.int .i64 v84, .int .i64 v85, .bslc (BR.root 1) (.f32 v86)], .int .i64 v87, .int .i64 v88] : List DV).length) .undef) []).bind (retD TT Try.f115.results.toList 0) = (spec_l02At_T v85 v86 v87 v88).bind fun y => .leaf (spec_l02At_enc v84 v85 v86 v87 v88 y) := by kernel_rfl
theorem spec_l02At_fn (v84 : Int) (v85 : Int) (v86 : List Nat) (v87 : Int) (v88 : Int) (F : Fr) (hm : F.ids.length = 0) (h0 : St F [] F.H0) (hA : DVs.Ok F [] [.bptr (BR.root 0) [.int .i64 v84, .int .i64 v85, .bslc (BR.root 1) (.f32 v86)], .int .i64 v87, .int .i64 v88]) {y : Nat} (hy : spec_l02At_g v85 v86 v87 v88 = some y) : ∃ H', FnOk Try.prog 115 (DVs.av F [.bptr (BR.root 0) [.int .i64 v84, .int .i64 v85, .bslc (BR.root 1) (.f32 v86)], .int .i64 v87, .int .i64 v88]) F.H0 ((spec_l02At_enc v84 v85 v86 v87 v88 y).1.av F) H' ∧ St F (spec_l02At_enc v84 v85 v86 v87 v88 y).2 H' ∧ (spec_l02At_enc v84 v85 v86 v87 v88 y).1.Ok F (spec_l02At_enc v84 v85 v86 v87 v88 y).2 :=
  fn_fin tok spec_l02At_hO mixed Try.func115 Try.call115 (by kernel_rfl) (LoopsOk_eq (l := []) (by kernel_rfl) trivial) (spec_l02At_den v84 v85 v86 v87 v88) hy hm h0 hA
noncomputable def spec_l02At_F : DFn := fun args L =>
  match args with
  | [a1, .int .i64 v87, .int .i64 v88] =>
    optT (cellsOf L 3 a1) fun cs0 =>
    (match cs0 with
    | [.int .i64 v84, .int .i64 v85, a2] =>
    optT (rowF32 L a2) fun v86 =>
    .call (spec_l02At_g v85 v86 v87 v88) fun y => .leaf (.flt .f32 y, L)
    | _ => .fail)
  | _ => .fail
theorem spec_l02At_Fok : COk Try.prog 115 spec_l02At_F true := by
  intro F L H args r L' hs ha hr
  unfold spec_l02At_F at hr
  split at hr
  · rename_i a1 v87 v88
    obtain ⟨cs0, hcp0, hr⟩ := optT_run hr
    split at hr
    · rename_i v84 v85 a2
      obtain ⟨v86, hv86, hr⟩ := optT_run hr
      simp only [Tree.run] at hr
      obtain ⟨y, hy, hr⟩ := Option.bind_eq_some_iff.1 hr
      simp only [Tree.run, Option.some.injEq, Prod.mk.injEq] at hr
      obtain ⟨rfl, rfl⟩ := hr
      exact call_ok0 hs (fun k => (([a1.av F, a2.av F] : List AV)[k]?).getD .top) [a1, .int .i64 v87, .int .i64 v88] [.bptr (BR.root 0) [.int .i64 v84, .int .i64 v85, .bslc (BR.root 1) (.f32 v86)], .int .i64 v87, .int .i64 v88] (fun F' h0 hi hρ => ⟨by simp [DVs.av, DV.av, BR.av, hρ], spec_l02At_fn v84 v85 v86 v87 v88 F' (by rw [hi]; rfl) (st_nil hi) ⟨bptr_ok hi (by rw [h0]; simpa [DVs.av, DV.av, BR.av, hρ] using (cellsOf_ok hs (DVs.okAt ha 0 rfl) hcp0).1) ⟨trivial, trivial, bslc_ok hi (by rw [h0, hρ]; exact rowF32_ok hs (DVs.okAt (cellsOf_ok hs (DVs.okAt ha 0 rfl) hcp0).2 2 rfl) hv86), trivial⟩, trivial, trivial, trivial⟩ hy⟩) rfl
    · cases hr
  · cases hr
/-! spec.l03Is -/
noncomputable def spec_l03Is_l0_T (v47 : Int) (v48 : Int) (v49 : List Nat) (s : Int) : Tree ((Int) ⊕ ((Unit) ⊕ (Unit))) :=
  (.br (decide (s < v47)) (
   (.call (spec_l02At_g v48 v49 s s) fun v93 =>
   (.br (feq .f32 v93 (0 : Nat)) (
    .leaf (.inr (.inl ()))
   ) (
    .leaf (.inl (IntKind.i64.wrap (s + (1 : Int))))
   )))
  ) (
   .leaf (.inr (.inr ()))
  ))

noncomputable def spec_l03Is_l0_g (v47 : Int) (v48 : Int) (v49 : List Nat) (s0 : Int) : Option ((Unit) ⊕ (Unit)) := whileM (fun s => (spec_l03Is_l0_T v47 v48 v49 s).run) s0
def spec_l03Is_l0_E (v47 : Int) (v48 : Int) (v49 : List Nat) (v50 : List Int) (s : Int) : Sd := ([.bptr (BR.root 0) [.int .i64 v47, .int .i64 v48, .bslc (BR.root 1) (.f32 v49), .bslc (BR.root 2) (.i64 v50)], .top, .top, .int .i64 s, .top, .top, .top, .top, .top, .top, .top, .top, .top, .top, .top, .top, .top, .top, .top, .top, .top, .top, .top, .top, .top, .top, .top, .top, .top, .top, .top, .top, .top, .top, .top, .top, .top, .top, .top, .top, .top, .top, .top, .top, .top, .top], [])
def spec_l03Is_l0_X (v47 : Int) (v48 : Int) (v49 : List Nat) (v50 : List Int) (x : (Unit) ⊕ (Unit)) : Out := (match x with | .inl x => (.ret, [.top, .top, .lit false, .top, .top, .top, .top, .top, .top, .top, .top, .top, .top, .top, .top, .top, .top, .top, .top, .top, .top, .top, .top, .top, .top, .top, .top, .top, .top, .top, .top, .top, .top, .top, .top, .top, .top, .top, .top, .top, .top, .top, .top, .top, .top, .top], []) | .inr x => (.normal, [.top, .top, .top, .top, .top, .top, .top, .top, .top, .top, .top, .top, .top, .top, .top, .top, .top, .top, .top, .top, .top, .top, .top, .top, .top, .top, .top, .top, .top, .top, .top, .top, .top, .top, .top, .top, .top, .top, .top, .top, .top, .top, .top, .top, .top, .top], []))
def spec_l03Is_l0_kill : List Nat := [0, 1, 1, 0, 1, 1, 1, 1, 1, 1, 1, 1, 1, 1, 1, 1, 1, 1, 1, 1, 1, 1, 1, 1, 1, 1, 1, 1, 1, 1, 1, 1, 1, 1, 1, 1, 1, 1, 1, 1, 1, 1, 1, 1, 1, 1]
def spec_l03Is_l0_nx : Exit → List Nat
  | .exit 0 => [1, 1, 1, 1, 1, 1, 1, 1, 1, 1, 1, 1, 1, 1, 1, 1, 1, 1, 1, 1, 1, 1, 1, 1, 1, 1, 1, 1, 1, 1, 1, 1, 1, 1, 1, 1, 1, 1, 1, 1, 1, 1, 1, 1, 1, 1]
  | .ret => [1, 1, 0, 1, 1, 1, 1, 1, 1, 1, 1, 1, 1, 1, 1, 1, 1, 1, 1, 1, 1, 1, 1, 1, 1, 1, 1, 1, 1, 1, 1, 1, 1, 1, 1, 1, 1, 1, 1, 1, 1, 1, 1, 1, 1, 1]
  | _ => []
noncomputable def spec_l03Is_LO (v47 : Int) (v48 : Int) (v49 : List Nat) (v50 : List Int) : LOr := fun id e L =>
  match id with
  | 0 => .need (normA 0 spec_l03Is_l0_kill e L = some (spec_l03Is_l0_E v47 v48 v49 v50 (gI (vAt e 3)))) (.call (spec_l03Is_l0_g v47 v48 v49 (gI (vAt e 3))) fun x => .sum x (fun b0 => .leaf (spec_l03Is_l0_X v47 v48 v49 v50 (.inl b0))) (fun c0 => .leaf (spec_l03Is_l0_X v47 v48 v49 v50 (.inr c0))))
  | _ => .fail
noncomputable def spec_l03Is_tab : List (FuncId × DFn × Bool) := [(82, spec_l02Square_F, true), (106, spec_l02Order_F, true), (115, spec_l02At_F, true)]
theorem spec_l03Is_hO : OrcOk Try.prog (tabD spec_l03Is_tab) (tabM spec_l03Is_tab) := tabD_cons spec_l02Square_Fok (tabD_cons spec_l02Order_Fok (tabD_cons spec_l02At_Fok (tabD_nil _)))
theorem spec_l03Is_l0_be (v47 : Int) (v48 : Int) (v49 : List Nat) (v50 : List Int) (s : Int) : bodyT TT (tabD spec_l03Is_tab) (tabM spec_l03Is_tab) (spec_l03Is_LO v47 v48 v49 v50) 0 spec_l03Is_l0_kill spec_l03Is_l0_nx (bodyOf Try.f111 0) 0 (spec_l03Is_l0_E v47 v48 v49 v50 s) = (spec_l03Is_l0_T v47 v48 v49 s).bind fun y => .leaf (outS (spec_l03Is_l0_E v47 v48 v49 v50) (spec_l03Is_l0_X v47 v48 v49 v50) y) := by kernel_rfl
theorem spec_l03Is_l0_ok (v47 : Int) (v48 : Int) (v49 : List Nat) (v50 : List Int) : LSound Try.prog 0 (spec_l03Is_LO v47 v48 v49 v50) 0 (bodyOf Try.f111 0) := by
  intro e L out h
  exact lo_ok (E := spec_l03Is_l0_E v47 v48 v49 v50) (gT := spec_l03Is_l0_T v47 v48 v49) (X := spec_l03Is_l0_X v47 v48 v49 v50) (s0 := (gI (vAt e 3))) tok spec_l03Is_hO mixed (LoopsOk_eq (l := []) (by kernel_rfl) trivial) (spec_l03Is_l0_be v47 v48 v49 v50) rfl (by intro x; (cases x with | inl b => rfl | inr x => exact rfl)) h
noncomputable def spec_l03Is_T (v47 : Int) (v48 : Int) (v49 : List Nat) (v50 : List Int) : Tree (Bool) :=
  (.call (spec_l02Square_g v47 v48 v49) fun v72 =>
  (.br (!v72) (
   .leaf false
  ) (
   (.call (spec_l02Order_g v50) fun v82 =>
   (.br (!v82) (
    .leaf false
   ) (
    (.br (!decide (((v50.length : Nat) : Int) = v47)) (
     .leaf false
    ) (
     (.need (some (spec_l03Is_l0_E v47 v48 v49 v50 (0 : Int)) = some (spec_l03Is_l0_E v47 v48 v49 v50 (0 : Int))) <|
     (.call (spec_l03Is_l0_g v47 v48 v49 (0 : Int)) fun v94 =>
     (.sum v94 (fun v95 =>
      .leaf false
     ) (fun v96 =>
      .leaf true
     ))))
    ))
   )))
  )))

noncomputable def spec_l03Is_g (v47 : Int) (v48 : Int) (v49 : List Nat) (v50 : List Int) : Option (Bool) := (spec_l03Is_T v47 v48 v49 v50).run
def spec_l03Is_enc (v47 : Int) (v48 : Int) (v49 : List Nat) (v50 : List Int) (y : Bool) : Rs := (.bool y, [])
theorem spec_l03Is_den (v47 : Int) (v48 : Int) (v49 : List Nat) (v50 : List Int) : (den TT (tabD spec_l03Is_tab) (tabM spec_l03Is_tab) (spec_l03Is_LO v47 v48 v49 v50) (codeOf Try.f111) ([.bptr (BR.root 0) [.int .i64 v47, .int .i64 v48, .bslc (BR.root 1) (.f32 v49), .bslc (BR.root 2) (.i64 v50)]] ++ List.replicate (Try.f111.ntmps - ([.bptr (BR.root 0) [.int .i64 v47, .int .i64 v48, .bslc (BR.root 1) (.f32 v49), .bslc (BR.root 2) (.i64 v50)]] : List DV).length) .undef) []).bind (retD TT Try.f111.results.toList 0) = (spec_l03Is_T v47 v48 v49 v50).bind fun y => .leaf (spec_l03Is_enc v47 v48 v49 v50 y) := by kernel_rfl
theorem spec_l03Is_fn (v47 : Int) (v48 : Int) (v49 : List Nat) (v50 : List Int) (F : Fr) (hm : F.ids.length = 0) (h0 : St F [] F.H0) (hA : DVs.Ok F [] [.bptr (BR.root 0) [.int .i64 v47, .int .i64 v48, .bslc (BR.root 1) (.f32 v49), .bslc (BR.root 2) (.i64 v50)]]) {y : Bool} (hy : spec_l03Is_g v47 v48 v49 v50 = some y) : ∃ H', FnOk Try.prog 111 (DVs.av F [.bptr (BR.root 0) [.int .i64 v47, .int .i64 v48, .bslc (BR.root 1) (.f32 v49), .bslc (BR.root 2) (.i64 v50)]]) F.H0 ((spec_l03Is_enc v47 v48 v49 v50 y).1.av F) H' ∧ St F (spec_l03Is_enc v47 v48 v49 v50 y).2 H' ∧ (spec_l03Is_enc v47 v48 v49 v50 y).1.Ok F (spec_l03Is_enc v47 v48 v49 v50 y).2 :=
  fn_fin tok spec_l03Is_hO mixed Try.func111 Try.call111 (by kernel_rfl) (LoopsOk_eq (l := [(0, bodyOf Try.f111 0)]) (by kernel_rfl) ⟨spec_l03Is_l0_ok v47 v48 v49 v50, trivial⟩) (spec_l03Is_den v47 v48 v49 v50) hy hm h0 hA
noncomputable def spec_l03Is_F : DFn := fun args L =>
  match args with
  | [a1] =>
    optT (cellsOf L 4 a1) fun cs0 =>
    (match cs0 with
    | [.int .i64 v47, .int .i64 v48, a2, a3] =>
    optT (rowF32 L a2) fun v49 =>
    optT (rowI64 L a3) fun v50 =>
    .call (spec_l03Is_g v47 v48 v49 v50) fun y => .leaf (.bool y, L)
    | _ => .fail)
  | _ => .fail
theorem spec_l03Is_Fok : COk Try.prog 111 spec_l03Is_F true := by
  intro F L H args r L' hs ha hr
  unfold spec_l03Is_F at hr
  split at hr
  · rename_i a1
    obtain ⟨cs0, hcp0, hr⟩ := optT_run hr
    split at hr
    · rename_i v47 v48 a2 a3
      obtain ⟨v49, hv49, hr⟩ := optT_run hr
      obtain ⟨v50, hv50, hr⟩ := optT_run hr
      simp only [Tree.run] at hr
      obtain ⟨y, hy, hr⟩ := Option.bind_eq_some_iff.1 hr
      simp only [Tree.run, Option.some.injEq, Prod.mk.injEq] at hr
      obtain ⟨rfl, rfl⟩ := hr
      exact call_ok0 hs (fun k => (([a1.av F, a2.av F, a3.av F] : List AV)[k]?).getD .top) [a1] [.bptr (BR.root 0) [.int .i64 v47, .int .i64 v48, .bslc (BR.root 1) (.f32 v49), .bslc (BR.root 2) (.i64 v50)]] (fun F' h0 hi hρ => ⟨by simp [DVs.av, DV.av, BR.av, hρ], spec_l03Is_fn v47 v48 v49 v50 F' (by rw [hi]; rfl) (st_nil hi) ⟨bptr_ok hi (by rw [h0]; simpa [DVs.av, DV.av, BR.av, hρ] using (cellsOf_ok hs (DVs.okAt ha 0 rfl) hcp0).1) ⟨trivial, trivial, bslc_ok hi (by rw [h0, hρ]; exact rowF32_ok hs (DVs.okAt (cellsOf_ok hs (DVs.okAt ha 0 rfl) hcp0).2 2 rfl) hv49), bslc_ok hi (by rw [h0, hρ]; exact rowI64_ok hs (DVs.okAt (cellsOf_ok hs (DVs.okAt ha 0 rfl) hcp0).2 3 rfl) hv50), trivial⟩, trivial⟩ hy⟩) rfl
    · cases hr
  · cases hr
/-! spec.l02Zero -/
noncomputable def spec_l02Zero_LO (v102 : Int) (v103 : Int) : LOr := fun id e L =>
  match id with
  | _ => .fail
noncomputable def spec_l02Zero_tab : List (FuncId × DFn × Bool) := []
theorem spec_l02Zero_hO : OrcOk Try.prog (tabD spec_l02Zero_tab) (tabM spec_l02Zero_tab) := tabD_nil _
noncomputable def spec_l02Zero_T (v102 : Int) (v103 : Int) : Tree (Int × Int) :=
  (.need (IntKind.i64.wrap (v102 * v103) = IntKind.i64.wrap (v102 * v103)) <|
  (.grd (inb (IntKind.i64.wrap (v102 * v103)) (maxN + 1)) <|
  .leaf (v102, v103)))

noncomputable def spec_l02Zero_g (v102 : Int) (v103 : Int) : Option (Int × Int) := (spec_l02Zero_T v102 v103).run
def spec_l02Zero_enc (v102 : Int) (v103 : Int) (y : Int × Int) : Rs := (.agg [.int .i64 y.1, .int .i64 y.2, .own 0 0 ((List.replicate (Int.toNat (IntKind.i64.wrap (v102 * v103))) (0 : Nat)).length)], [.row (.f32 (List.replicate (Int.toNat (IntKind.i64.wrap (v102 * v103))) (0 : Nat))) 0])
theorem spec_l02Zero_den (v102 : Int) (v103 : Int) : (den TT (tabD spec_l02Zero_tab) (tabM spec_l02Zero_tab) (spec_l02Zero_LO v102 v103) (codeOf Try.f138) ([.int .i64 v102, .int .i64 v103] ++ List.replicate (Try.f138.ntmps - ([.int .i64 v102, .int .i64 v103] : List DV).length) .undef) []).bind (retD TT Try.f138.results.toList 0) = (spec_l02Zero_T v102 v103).bind fun y => .leaf (spec_l02Zero_enc v102 v103 y) := by kernel_rfl
theorem spec_l02Zero_fn (v102 : Int) (v103 : Int) (F : Fr) (hm : F.ids.length = 0) (h0 : St F [] F.H0) (hA : DVs.Ok F [] [.int .i64 v102, .int .i64 v103]) {y : Int × Int} (hy : spec_l02Zero_g v102 v103 = some y) : ∃ H', FnOk Try.prog 138 (DVs.av F [.int .i64 v102, .int .i64 v103]) F.H0 ((spec_l02Zero_enc v102 v103 y).1.av F) H' ∧ St F (spec_l02Zero_enc v102 v103 y).2 H' ∧ (spec_l02Zero_enc v102 v103 y).1.Ok F (spec_l02Zero_enc v102 v103 y).2 :=
  fn_fin tok spec_l02Zero_hO mixed Try.func138 Try.call138 (by kernel_rfl) (LoopsOk_eq (l := []) (by kernel_rfl) trivial) (spec_l02Zero_den v102 v103) hy hm h0 hA
noncomputable def spec_l02Zero_F : DFn := fun args L =>
  match args with
  | [.int .i64 v102, .int .i64 v103] =>
    .call (spec_l02Zero_g v102 v103) fun y => .leaf (.agg [.int .i64 y.1, .int .i64 y.2, .own (L.length + 0) 0 ((List.replicate (Int.toNat (IntKind.i64.wrap (v102 * v103))) (0 : Nat)).length)], L ++ [.row (.f32 (List.replicate (Int.toNat (IntKind.i64.wrap (v102 * v103))) (0 : Nat))) 0])
  | _ => .fail
theorem spec_l02Zero_Fok : COk Try.prog 138 spec_l02Zero_F true := by
  intro F L H args r L' hs ha hr
  unfold spec_l02Zero_F at hr
  split at hr
  · rename_i v102 v103
    simp only [Tree.run] at hr
    obtain ⟨y, hy, hr⟩ := Option.bind_eq_some_iff.1 hr
    simp only [Tree.run, Option.some.injEq, Prod.mk.injEq] at hr
    obtain ⟨rfl, rfl⟩ := hr
    exact call_ok1 hs (fun k => (([] : List AV)[k]?).getD .top) [.int .i64 v102, .int .i64 v103] [.int .i64 v102, .int .i64 v103] (fun F' h0 hi hρ => ⟨by simp [DVs.av, DV.av, BR.av, hρ], spec_l02Zero_fn v102 v103 F' (by rw [hi]; rfl) (st_nil hi) ⟨trivial, trivial, trivial⟩ hy⟩) rfl rfl
  · cases hr
/-! spec.l03Solve -/
noncomputable def spec_l03Solve_l2_T (v109 : Int) (v110 : List Nat) (v157 : Int) (v160 : List Nat) (s : Nat × Int) : Tree ((Nat × Int) ⊕ (Nat)) :=
  (.br (decide (s.2 < v157)) (
   (.call (spec_l02At_g v109 v110 v157 s.2) fun v161 =>
   (.grd (inb s.2 ((v160).length)) <|
   .leaf (.inl (fsub .f32 s.1 (fmul .f32 v161 (nth v160 (Int.toNat s.2))), IntKind.i64.wrap (s.2 + (1 : Int))))))
  ) (
   .leaf (.inr s.1)
  ))

noncomputable def spec_l03Solve_l2_g (v109 : Int) (v110 : List Nat) (v157 : Int) (v160 : List Nat) (s0 : Nat × Int) : Option (Nat) := whileM (fun s => (spec_l03Solve_l2_T v109 v110 v157 v160 s).run) s0
def spec_l03Solve_l2_E (v108 : Int) (v109 : Int) (v110 : List Nat) (v111 : List Int) (v112 : List Nat) (v157 : Int) (v160 : List Nat) (s : Nat × Int) : Sd := ([.bptr (BR.root 0) [.int .i64 v108, .int .i64 v109, .bslc (BR.root 1) (.f32 v110), .bslc (BR.root 2) (.i64 v111)], .bslc (BR.root 3) (.f32 v112), .top, .top, .top, .int .i64 v108, .own 0 0 ((v160).length), .int .i64 v157, .flt .f32 s.1, .int .i64 s.2, .top, .top, .top, .top, .top, .top, .top, .top, .top, .top, .top, .top, .top, .top, .top, .top, .top, .top, .top, .top, .top, .top, .top, .top, .top, .top, .top, .top, .top, .top, .top, .top, .top, .top, .top, .top, .top, .top, .top, .top, .top, .top, .top, .top, .top, .top, .top, .top, .top, .top, .top, .top, .top, .top, .top, .top, .top, .top, .top, .top, .top, .top, .top, .top, .top, .top, .top, .top, .top, .top, .top, .top, .top, .top, .top, .top, .top, .top, .top, .top, .top, .top, .top, .top, .top, .top, .top, .top], [.row (.f32 v160) 0])
def spec_l03Solve_l2_X (v108 : Int) (v109 : Int) (v110 : List Nat) (v111 : List Int) (v112 : List Nat) (v157 : Int) (v160 : List Nat) (x : Nat) : Out := (.normal, [.bptr (BR.root 0) [.int .i64 v108, .int .i64 v109, .bslc (BR.root 1) (.f32 v110), .bslc (BR.root 2) (.i64 v111)], .bslc (BR.root 3) (.f32 v112), .top, .top, .top, .int .i64 v108, .own 0 0 ((v160).length), .int .i64 v157, .flt .f32 x, .top, .top, .top, .top, .top, .top, .top, .top, .top, .top, .top, .top, .top, .top, .top, .top, .top, .top, .top, .top, .top, .top, .top, .top, .top, .top, .top, .top, .top, .top, .top, .top, .top, .top, .top, .top, .top, .top, .top, .top, .top, .top, .top, .top, .top, .top, .top, .top, .top, .top, .top, .top, .top, .top, .top, .top, .top, .top, .top, .top, .top, .top, .top, .top, .top, .top, .top, .top, .top, .top, .top, .top, .top, .top, .top, .top, .top, .top, .top, .top, .top, .top, .top, .top, .top, .top, .top, .top, .top], [.row (.f32 v160) 0])
def spec_l03Solve_l2_kill : List Nat := [0, 0, 1, 1, 1, 0, 0, 0, 0, 0, 1, 1, 1, 1, 1, 1, 1, 1, 1, 1, 1, 1, 1, 1, 1, 1, 1, 1, 1, 1, 1, 1, 1, 1, 1, 1, 1, 1, 1, 1, 1, 1, 1, 1, 1, 1, 1, 1, 1, 1, 1, 1, 1, 1, 1, 1, 1, 1, 1, 1, 1, 1, 1, 1, 1, 1, 1, 1, 1, 1, 1, 1, 1, 1, 1, 1, 1, 1, 1, 1, 1, 1, 1, 1, 1, 1, 1, 1, 1, 1, 1, 1, 1, 1, 1, 1, 1, 1]
def spec_l03Solve_l2_nx : Exit → List Nat
  | .exit 0 => [0, 1, 1, 1, 1, 0, 0, 1, 1, 1, 1, 1, 1, 1, 1, 1, 1, 1, 1, 1, 1, 1, 1, 1, 1, 1, 1, 1, 1, 1, 1, 1, 1, 1, 1, 1, 1, 1, 1, 1, 1, 1, 1, 1, 1, 1, 1, 1, 1, 1, 1, 1, 1, 1, 1, 1, 1, 1, 1, 1, 1, 1, 1, 1, 1, 1, 1, 1, 1, 1, 1, 1, 1, 1, 1, 1, 1, 1, 1, 1, 1, 1, 1, 1, 1, 1, 1, 1, 1, 1, 1, 1, 1, 1, 1, 1, 1, 1]
  | .exit 1 => [0, 0, 1, 1, 1, 0, 0, 0, 1, 1, 1, 1, 1, 1, 1, 1, 1, 1, 1, 1, 1, 1, 1, 1, 1, 1, 1, 1, 1, 1, 1, 1, 1, 1, 1, 1, 1, 1, 1, 1, 1, 1, 1, 1, 1, 1, 1, 1, 1, 1, 1, 1, 1, 1, 1, 1, 1, 1, 1, 1, 1, 1, 1, 1, 1, 1, 1, 1, 1, 1, 1, 1, 1, 1, 1, 1, 1, 1, 1, 1, 1, 1, 1, 1, 1, 1, 1, 1, 1, 1, 1, 1, 1, 1, 1, 1, 1, 1]
  | .exit 2 => [0, 0, 1, 1, 1, 0, 0, 0, 0, 1, 1, 1, 1, 1, 1, 1, 1, 1, 1, 1, 1, 1, 1, 1, 1, 1, 1, 1, 1, 1, 1, 1, 1, 1, 1, 1, 1, 1, 1, 1, 1, 1, 1, 1, 1, 1, 1, 1, 1, 1, 1, 1, 1, 1, 1, 1, 1, 1, 1, 1, 1, 1, 1, 1, 1, 1, 1, 1, 1, 1, 1, 1, 1, 1, 1, 1, 1, 1, 1, 1, 1, 1, 1, 1, 1, 1, 1, 1, 1, 1, 1, 1, 1, 1, 1, 1, 1, 1]
  | .ret => [1, 1, 1, 1, 0, 1, 1, 1, 1, 1, 1, 1, 1, 1, 1, 1, 1, 1, 1, 1, 1, 1, 1, 1, 1, 1, 1, 1, 1, 1, 1, 1, 1, 1, 1, 1, 1, 1, 1, 1, 1, 1, 1, 1, 1, 1, 1, 1, 1, 1, 1, 1, 1, 1, 1, 1, 1, 1, 1, 1, 1, 1, 1, 1, 1, 1, 1, 1, 1, 1, 1, 1, 1, 1, 1, 1, 1, 1, 1, 1, 1, 1, 1, 1, 1, 1, 1, 1, 1, 1, 1, 1, 1, 1, 1, 1, 1, 1]
  | _ => []
noncomputable def spec_l03Solve_l0_T (v108 : Int) (v109 : Int) (v110 : List Nat) (v111 : List Int) (v112 : List Nat) (s : Int × (List Nat)) : Tree ((Int × (List Nat)) ⊕ ((List Nat))) :=
  (.br (decide (s.1 < v108)) (
   (.grd (inb s.1 v111.length) <|
   (.grd (inb (nth v111 (Int.toNat s.1)) v112.length) <|
   (.need (some (spec_l03Solve_l2_E v108 v109 v110 v111 v112 s.1 s.2 (nth v112 (Int.toNat (nth v111 (Int.toNat s.1))), (0 : Int))) = some (spec_l03Solve_l2_E v108 v109 v110 v111 v112 s.1 s.2 (nth v112 (Int.toNat (nth v111 (Int.toNat s.1))), (0 : Int)))) <|
   (.call (spec_l03Solve_l2_g v109 v110 s.1 s.2 (nth v112 (Int.toNat (nth v111 (Int.toNat s.1))), (0 : Int))) fun v162 =>
   (.grd (fits (s.2 ++ ([v162] : List Nat)).length) <|
   .leaf (.inl (IntKind.i64.wrap (s.1 + (1 : Int)), s.2 ++ ([v162] : List Nat))))))))
  ) (
   .leaf (.inr s.2)
  ))

noncomputable def spec_l03Solve_l0_g (v108 : Int) (v109 : Int) (v110 : List Nat) (v111 : List Int) (v112 : List Nat) (s0 : Int × (List Nat)) : Option ((List Nat)) := whileM (fun s => (spec_l03Solve_l0_T v108 v109 v110 v111 v112 s).run) s0
def spec_l03Solve_l0_E (v108 : Int) (v109 : Int) (v110 : List Nat) (v111 : List Int) (v112 : List Nat) (s : Int × (List Nat)) : Sd := ([.bptr (BR.root 0) [.int .i64 v108, .int .i64 v109, .bslc (BR.root 1) (.f32 v110), .bslc (BR.root 2) (.i64 v111)], .bslc (BR.root 3) (.f32 v112), .top, .top, .top, .int .i64 v108, .own 0 0 ((s.2).length), .int .i64 s.1, .top, .top, .top, .top, .top, .top, .top, .top, .top, .top, .top, .top, .top, .top, .top, .top, .top, .top, .top, .top, .top, .top, .top, .top, .top, .top, .top, .top, .top, .top, .top, .top, .top, .top, .top, .top, .top, .top, .top, .top, .top, .top, .top, .top, .top, .top, .top, .top, .top, .top, .top, .top, .top, .top, .top, .top, .top, .top, .top, .top, .top, .top, .top, .top, .top, .top, .top, .top, .top, .top, .top, .top, .top, .top, .top, .top, .top, .top, .top, .top, .top, .top, .top, .top, .top, .top, .top, .top, .top, .top], [.row (.f32 s.2) 0])
def spec_l03Solve_l0_X (v108 : Int) (v109 : Int) (v110 : List Nat) (v111 : List Int) (v112 : List Nat) (x : (List Nat)) : Out := (.normal, [.bptr (BR.root 0) [.int .i64 v108, .int .i64 v109, .bslc (BR.root 1) (.f32 v110), .bslc (BR.root 2) (.i64 v111)], .top, .top, .top, .top, .int .i64 v108, .own 0 0 ((x).length), .top, .top, .top, .top, .top, .top, .top, .top, .top, .top, .top, .top, .top, .top, .top, .top, .top, .top, .top, .top, .top, .top, .top, .top, .top, .top, .top, .top, .top, .top, .top, .top, .top, .top, .top, .top, .top, .top, .top, .top, .top, .top, .top, .top, .top, .top, .top, .top, .top, .top, .top, .top, .top, .top, .top, .top, .top, .top, .top, .top, .top, .top, .top, .top, .top, .top, .top, .top, .top, .top, .top, .top, .top, .top, .top, .top, .top, .top, .top, .top, .top, .top, .top, .top, .top, .top, .top, .top, .top, .top, .top], [.row (.f32 x) 0])
def spec_l03Solve_l0_kill : List Nat := [0, 0, 1, 1, 1, 0, 0, 0, 1, 1, 1, 1, 1, 1, 1, 1, 1, 1, 1, 1, 1, 1, 1, 1, 1, 1, 1, 1, 1, 1, 1, 1, 1, 1, 1, 1, 1, 1, 1, 1, 1, 1, 1, 1, 1, 1, 1, 1, 1, 1, 1, 1, 1, 1, 1, 1, 1, 1, 1, 1, 1, 1, 1, 1, 1, 1, 1, 1, 1, 1, 1, 1, 1, 1, 1, 1, 1, 1, 1, 1, 1, 1, 1, 1, 1, 1, 1, 1, 1, 1, 1, 1, 1, 1, 1, 1, 1, 1]
def spec_l03Solve_l0_nx : Exit → List Nat
  | .exit 0 => [0, 1, 1, 1, 1, 0, 0, 1, 1, 1, 1, 1, 1, 1, 1, 1, 1, 1, 1, 1, 1, 1, 1, 1, 1, 1, 1, 1, 1, 1, 1, 1, 1, 1, 1, 1, 1, 1, 1, 1, 1, 1, 1, 1, 1, 1, 1, 1, 1, 1, 1, 1, 1, 1, 1, 1, 1, 1, 1, 1, 1, 1, 1, 1, 1, 1, 1, 1, 1, 1, 1, 1, 1, 1, 1, 1, 1, 1, 1, 1, 1, 1, 1, 1, 1, 1, 1, 1, 1, 1, 1, 1, 1, 1, 1, 1, 1, 1]
  | .ret => [1, 1, 1, 1, 0, 1, 1, 1, 1, 1, 1, 1, 1, 1, 1, 1, 1, 1, 1, 1, 1, 1, 1, 1, 1, 1, 1, 1, 1, 1, 1, 1, 1, 1, 1, 1, 1, 1, 1, 1, 1, 1, 1, 1, 1, 1, 1, 1, 1, 1, 1, 1, 1, 1, 1, 1, 1, 1, 1, 1, 1, 1, 1, 1, 1, 1, 1, 1, 1, 1, 1, 1, 1, 1, 1, 1, 1, 1, 1, 1, 1, 1, 1, 1, 1, 1, 1, 1, 1, 1, 1, 1, 1, 1, 1, 1, 1, 1]
  | _ => []
noncomputable def spec_l03Solve_l6_T (v108 : Int) (v109 : Int) (v110 : List Nat) (v214 : Int) (v217 : List Nat) (s : Nat × Int) : Tree ((Nat × Int) ⊕ (Nat)) :=
  (.br (decide (s.2 < v108)) (
   (.call (spec_l02At_g v109 v110 v214 s.2) fun v218 =>
   (.grd (inb s.2 ((v217).length)) <|
   .leaf (.inl (fsub .f32 s.1 (fmul .f32 v218 (nth v217 (Int.toNat s.2))), IntKind.i64.wrap (s.2 + (1 : Int))))))
  ) (
   .leaf (.inr s.1)
  ))

noncomputable def spec_l03Solve_l6_g (v108 : Int) (v109 : Int) (v110 : List Nat) (v214 : Int) (v217 : List Nat) (s0 : Nat × Int) : Option (Nat) := whileM (fun s => (spec_l03Solve_l6_T v108 v109 v110 v214 v217 s).run) s0
def spec_l03Solve_l6_E (v108 : Int) (v109 : Int) (v110 : List Nat) (v111 : List Int) (v112 : List Nat) (v214 : Int) (v217 : List Nat) (s : Nat × Int) : Sd := ([.bptr (BR.root 0) [.int .i64 v108, .int .i64 v109, .bslc (BR.root 1) (.f32 v110), .bslc (BR.root 2) (.i64 v111)], .top, .top, .top, .top, .int .i64 v108, .own 0 0 ((v217).length), .top, .top, .top, .int .i64 v214, .flt .f32 s.1, .int .i64 s.2, .top, .top, .top, .top, .top, .top, .top, .top, .top, .top, .top, .top, .top, .top, .top, .top, .top, .top, .top, .top, .top, .top, .top, .top, .top, .top, .top, .top, .top, .top, .top, .top, .top, .top, .top, .top, .top, .top, .top, .top, .top, .top, .top, .top, .top, .top, .top, .top, .top, .top, .top, .top, .top, .top, .top, .top, .top, .top, .top, .top, .top, .top, .top, .top, .top, .top, .top, .top, .top, .top, .top, .top, .top, .top, .top, .top, .top, .top, .top, .top, .top, .top, .top, .top, .top], [.row (.f32 v217) 0])
def spec_l03Solve_l6_X (v108 : Int) (v109 : Int) (v110 : List Nat) (v111 : List Int) (v112 : List Nat) (v214 : Int) (v217 : List Nat) (x : Nat) : Out := (.normal, [.bptr (BR.root 0) [.int .i64 v108, .int .i64 v109, .bslc (BR.root 1) (.f32 v110), .bslc (BR.root 2) (.i64 v111)], .top, .top, .top, .top, .int .i64 v108, .own 0 0 ((v217).length), .top, .top, .top, .int .i64 v214, .flt .f32 x, .top, .top, .top, .top, .top, .top, .top, .top, .top, .top, .top, .top, .top, .top, .top, .top, .top, .top, .top, .top, .top, .top, .top, .top, .top, .top, .top, .top, .top, .top, .top, .top, .top, .top, .top, .top, .top, .top, .top, .top, .top, .top, .top, .top, .top, .top, .top, .top, .top, .top, .top, .top, .top, .top, .top, .top, .top, .top, .top, .top, .top, .top, .top, .top, .top, .top, .top, .top, .top, .top, .top, .top, .top, .top, .top, .top, .top, .top, .top, .top, .top, .top, .top, .top, .top, .top], [.row (.f32 v217) 0])
def spec_l03Solve_l6_kill : List Nat := [0, 1, 1, 1, 1, 0, 0, 1, 1, 1, 0, 0, 0, 1, 1, 1, 1, 1, 1, 1, 1, 1, 1, 1, 1, 1, 1, 1, 1, 1, 1, 1, 1, 1, 1, 1, 1, 1, 1, 1, 1, 1, 1, 1, 1, 1, 1, 1, 1, 1, 1, 1, 1, 1, 1, 1, 1, 1, 1, 1, 1, 1, 1, 1, 1, 1, 1, 1, 1, 1, 1, 1, 1, 1, 1, 1, 1, 1, 1, 1, 1, 1, 1, 1, 1, 1, 1, 1, 1, 1, 1, 1, 1, 1, 1, 1, 1, 1]
def spec_l03Solve_l6_nx : Exit → List Nat
  | .exit 4 => [1, 1, 1, 1, 1, 1, 0, 1, 1, 1, 1, 1, 1, 1, 1, 1, 1, 1, 1, 1, 1, 1, 1, 1, 1, 1, 1, 1, 1, 1, 1, 1, 1, 1, 1, 1, 1, 1, 1, 1, 1, 1, 1, 1, 1, 1, 1, 1, 1, 1, 1, 1, 1, 1, 1, 1, 1, 1, 1, 1, 1, 1, 1, 1, 1, 1, 1, 1, 1, 1, 1, 1, 1, 1, 1, 1, 1, 1, 1, 1, 1, 1, 1, 1, 1, 1, 1, 1, 1, 1, 1, 1, 1, 1, 1, 1, 1, 1]
  | .exit 5 => [0, 1, 1, 1, 1, 0, 0, 1, 1, 1, 0, 1, 1, 1, 1, 1, 1, 1, 1, 1, 1, 1, 1, 1, 1, 1, 1, 1, 1, 1, 1, 1, 1, 1, 1, 1, 1, 1, 1, 1, 1, 1, 1, 1, 1, 1, 1, 1, 1, 1, 1, 1, 1, 1, 1, 1, 1, 1, 1, 1, 1, 1, 1, 1, 1, 1, 1, 1, 1, 1, 1, 1, 1, 1, 1, 1, 1, 1, 1, 1, 1, 1, 1, 1, 1, 1, 1, 1, 1, 1, 1, 1, 1, 1, 1, 1, 1, 1]
  | .exit 6 => [0, 1, 1, 1, 1, 0, 0, 1, 1, 1, 0, 0, 1, 1, 1, 1, 1, 1, 1, 1, 1, 1, 1, 1, 1, 1, 1, 1, 1, 1, 1, 1, 1, 1, 1, 1, 1, 1, 1, 1, 1, 1, 1, 1, 1, 1, 1, 1, 1, 1, 1, 1, 1, 1, 1, 1, 1, 1, 1, 1, 1, 1, 1, 1, 1, 1, 1, 1, 1, 1, 1, 1, 1, 1, 1, 1, 1, 1, 1, 1, 1, 1, 1, 1, 1, 1, 1, 1, 1, 1, 1, 1, 1, 1, 1, 1, 1, 1]
  | .ret => [1, 1, 1, 1, 0, 1, 1, 1, 1, 1, 1, 1, 1, 1, 1, 1, 1, 1, 1, 1, 1, 1, 1, 1, 1, 1, 1, 1, 1, 1, 1, 1, 1, 1, 1, 1, 1, 1, 1, 1, 1, 1, 1, 1, 1, 1, 1, 1, 1, 1, 1, 1, 1, 1, 1, 1, 1, 1, 1, 1, 1, 1, 1, 1, 1, 1, 1, 1, 1, 1, 1, 1, 1, 1, 1, 1, 1, 1, 1, 1, 1, 1, 1, 1, 1, 1, 1, 1, 1, 1, 1, 1, 1, 1, 1, 1, 1, 1]
  | _ => []
noncomputable def spec_l03Solve_l4_T (v108 : Int) (v109 : Int) (v110 : List Nat) (v111 : List Int) (v112 : List Nat) (s : Int × (List Nat)) : Tree ((Int × (List Nat)) ⊕ ((List Nat))) :=
  (.br (decide ((0 : Int) ≤ s.1)) (
   (.grd (inb s.1 ((s.2).length)) <|
   (.need (some (spec_l03Solve_l6_E v108 v109 v110 v111 v112 s.1 s.2 (nth s.2 (Int.toNat s.1), IntKind.i64.wrap (s.1 + (1 : Int)))) = some (spec_l03Solve_l6_E v108 v109 v110 v111 v112 s.1 s.2 (nth s.2 (Int.toNat s.1), IntKind.i64.wrap (s.1 + (1 : Int))))) <|
   (.call (spec_l03Solve_l6_g v108 v109 v110 s.1 s.2 (nth s.2 (Int.toNat s.1), IntKind.i64.wrap (s.1 + (1 : Int)))) fun v219 =>
   (.call (spec_l02At_g v109 v110 s.1 s.1) fun v220 =>
   (.grd (inb s.1 ((s.2).length)) <|
   .leaf (.inl (IntKind.i64.wrap (s.1 - (1 : Int)), List.set s.2 (Int.toNat s.1) (fdiv .f32 v219 v220))))))))
  ) (
   .leaf (.inr s.2)
  ))

noncomputable def spec_l03Solve_l4_g (v108 : Int) (v109 : Int) (v110 : List Nat) (v111 : List Int) (v112 : List Nat) (s0 : Int × (List Nat)) : Option ((List Nat)) := whileM (fun s => (spec_l03Solve_l4_T v108 v109 v110 v111 v112 s).run) s0
def spec_l03Solve_l4_E (v108 : Int) (v109 : Int) (v110 : List Nat) (v111 : List Int) (v112 : List Nat) (s : Int × (List Nat)) : Sd := ([.bptr (BR.root 0) [.int .i64 v108, .int .i64 v109, .bslc (BR.root 1) (.f32 v110), .bslc (BR.root 2) (.i64 v111)], .top, .top, .top, .top, .int .i64 v108, .own 0 0 ((s.2).length), .top, .top, .top, .int .i64 s.1, .top, .top, .top, .top, .top, .top, .top, .top, .top, .top, .top, .top, .top, .top, .top, .top, .top, .top, .top, .top, .top, .top, .top, .top, .top, .top, .top, .top, .top, .top, .top, .top, .top, .top, .top, .top, .top, .top, .top, .top, .top, .top, .top, .top, .top, .top, .top, .top, .top, .top, .top, .top, .top, .top, .top, .top, .top, .top, .top, .top, .top, .top, .top, .top, .top, .top, .top, .top, .top, .top, .top, .top, .top, .top, .top, .top, .top, .top, .top, .top, .top, .top, .top, .top, .top, .top, .top], [.row (.f32 s.2) 0])
def spec_l03Solve_l4_X (v108 : Int) (v109 : Int) (v110 : List Nat) (v111 : List Int) (v112 : List Nat) (x : (List Nat)) : Out := (.normal, [.top, .top, .top, .top, .top, .top, .own 0 0 ((x).length), .top, .top, .top, .top, .top, .top, .top, .top, .top, .top, .top, .top, .top, .top, .top, .top, .top, .top, .top, .top, .top, .top, .top, .top, .top, .top, .top, .top, .top, .top, .top, .top, .top, .top, .top, .top, .top, .top, .top, .top, .top, .top, .top, .top, .top, .top, .top, .top, .top, .top, .top, .top, .top, .top, .top, .top, .top, .top, .top, .top, .top, .top, .top, .top, .top, .top, .top, .top, .top, .top, .top, .top, .top, .top, .top, .top, .top, .top, .top, .top, .top, .top, .top, .top, .top, .top, .top, .top, .top, .top, .top], [.row (.f32 x) 0])
def spec_l03Solve_l4_kill : List Nat := [0, 1, 1, 1, 1, 0, 0, 1, 1, 1, 0, 1, 1, 1, 1, 1, 1, 1, 1, 1, 1, 1, 1, 1, 1, 1, 1, 1, 1, 1, 1, 1, 1, 1, 1, 1, 1, 1, 1, 1, 1, 1, 1, 1, 1, 1, 1, 1, 1, 1, 1, 1, 1, 1, 1, 1, 1, 1, 1, 1, 1, 1, 1, 1, 1, 1, 1, 1, 1, 1, 1, 1, 1, 1, 1, 1, 1, 1, 1, 1, 1, 1, 1, 1, 1, 1, 1, 1, 1, 1, 1, 1, 1, 1, 1, 1, 1, 1]
def spec_l03Solve_l4_nx : Exit → List Nat
  | .exit 4 => [1, 1, 1, 1, 1, 1, 0, 1, 1, 1, 1, 1, 1, 1, 1, 1, 1, 1, 1, 1, 1, 1, 1, 1, 1, 1, 1, 1, 1, 1, 1, 1, 1, 1, 1, 1, 1, 1, 1, 1, 1, 1, 1, 1, 1, 1, 1, 1, 1, 1, 1, 1, 1, 1, 1, 1, 1, 1, 1, 1, 1, 1, 1, 1, 1, 1, 1, 1, 1, 1, 1, 1, 1, 1, 1, 1, 1, 1, 1, 1, 1, 1, 1, 1, 1, 1, 1, 1, 1, 1, 1, 1, 1, 1, 1, 1, 1, 1]
  | .ret => [1, 1, 1, 1, 0, 1, 1, 1, 1, 1, 1, 1, 1, 1, 1, 1, 1, 1, 1, 1, 1, 1, 1, 1, 1, 1, 1, 1, 1, 1, 1, 1, 1, 1, 1, 1, 1, 1, 1, 1, 1, 1, 1, 1, 1, 1, 1, 1, 1, 1, 1, 1, 1, 1, 1, 1, 1, 1, 1, 1, 1, 1, 1, 1, 1, 1, 1, 1, 1, 1, 1, 1, 1, 1, 1, 1, 1, 1, 1, 1, 1, 1, 1, 1, 1, 1, 1, 1, 1, 1, 1, 1, 1, 1, 1, 1, 1, 1]
  | _ => []
noncomputable def spec_l03Solve_LO (v108 : Int) (v109 : Int) (v110 : List Nat) (v111 : List Int) (v112 : List Nat) : LOr := fun id e L =>
  match id with
  | 2 => .need (normA 0 spec_l03Solve_l2_kill e L = some (spec_l03Solve_l2_E v108 v109 v110 v111 v112 (gI (vAt e 7)) (gRF L (vAt e 6)) ((gF (vAt e 8)), (gI (vAt e 9))))) (.call (spec_l03Solve_l2_g v109 v110 (gI (vAt e 7)) (gRF L (vAt e 6)) ((gF (vAt e 8)), (gI (vAt e 9)))) fun x => .leaf (spec_l03Solve_l2_X v108 v109 v110 v111 v112 (gI (vAt e 7)) (gRF L (vAt e 6)) x))
  | 0 => .need (normA 0 spec_l03Solve_l0_kill e L = some (spec_l03Solve_l0_E v108 v109 v110 v111 v112 ((gI (vAt e 7)), (gRF L (vAt e 6))))) (.call (spec_l03Solve_l0_g v108 v109 v110 v111 v112 ((gI (vAt e 7)), (gRF L (vAt e 6)))) fun x => .leaf (spec_l03Solve_l0_X v108 v109 v110 v111 v112 x))
  | 6 => .need (normA 0 spec_l03Solve_l6_kill e L = some (spec_l03Solve_l6_E v108 v109 v110 v111 v112 (gI (vAt e 10)) (gRF L (vAt e 6)) ((gF (vAt e 11)), (gI (vAt e 12))))) (.call (spec_l03Solve_l6_g v108 v109 v110 (gI (vAt e 10)) (gRF L (vAt e 6)) ((gF (vAt e 11)), (gI (vAt e 12)))) fun x => .leaf (spec_l03Solve_l6_X v108 v109 v110 v111 v112 (gI (vAt e 10)) (gRF L (vAt e 6)) x))
  | 4 => .need (normA 0 spec_l03Solve_l4_kill e L = some (spec_l03Solve_l4_E v108 v109 v110 v111 v112 ((gI (vAt e 10)), (gRF L (vAt e 6))))) (.call (spec_l03Solve_l4_g v108 v109 v110 v111 v112 ((gI (vAt e 10)), (gRF L (vAt e 6)))) fun x => .leaf (spec_l03Solve_l4_X v108 v109 v110 v111 v112 x))
  | _ => .fail
noncomputable def spec_l03Solve_tab : List (FuncId × DFn × Bool) := [(115, spec_l02At_F, true)]
theorem spec_l03Solve_hO : OrcOk Try.prog (tabD spec_l03Solve_tab) (tabM spec_l03Solve_tab) := tabD_cons spec_l02At_Fok (tabD_nil _)
theorem spec_l03Solve_l2_be (v108 : Int) (v109 : Int) (v110 : List Nat) (v111 : List Int) (v112 : List Nat) (v157 : Int) (v160 : List Nat) (s : Nat × Int) : bodyT TT (tabD spec_l03Solve_tab) (tabM spec_l03Solve_tab) (spec_l03Solve_LO v108 v109 v110 v111 v112) 0 spec_l03Solve_l2_kill spec_l03Solve_l2_nx (bodyOf Try.f159 2) 2 (spec_l03Solve_l2_E v108 v109 v110 v111 v112 v157 v160 s) = (spec_l03Solve_l2_T v109 v110 v157 v160 s).bind fun y => .leaf (outS (spec_l03Solve_l2_E v108 v109 v110 v111 v112 v157 v160) (spec_l03Solve_l2_X v108 v109 v110 v111 v112 v157 v160) y) := by kernel_rfl
theorem spec_l03Solve_l2_ok (v108 : Int) (v109 : Int) (v110 : List Nat) (v111 : List Int) (v112 : List Nat) : LSound Try.prog 0 (spec_l03Solve_LO v108 v109 v110 v111 v112) 2 (bodyOf Try.f159 2) := by
  intro e L out h
  exact lo_ok (E := spec_l03Solve_l2_E v108 v109 v110 v111 v112 (gI (vAt e 7)) (gRF L (vAt e 6))) (gT := spec_l03Solve_l2_T v109 v110 (gI (vAt e 7)) (gRF L (vAt e 6))) (X := spec_l03Solve_l2_X v108 v109 v110 v111 v112 (gI (vAt e 7)) (gRF L (vAt e 6))) (s0 := ((gF (vAt e 8)), (gI (vAt e 9)))) tok spec_l03Solve_hO mixed (LoopsOk_eq (l := []) (by kernel_rfl) trivial) (spec_l03Solve_l2_be v108 v109 v110 v111 v112 (gI (vAt e 7)) (gRF L (vAt e 6))) rfl (by intro x; rfl) h
theorem spec_l03Solve_l0_be (v108 : Int) (v109 : Int) (v110 : List Nat) (v111 : List Int) (v112 : List Nat) (s : Int × (List Nat)) : bodyT TT (tabD spec_l03Solve_tab) (tabM spec_l03Solve_tab) (spec_l03Solve_LO v108 v109 v110 v111 v112) 0 spec_l03Solve_l0_kill spec_l03Solve_l0_nx (bodyOf Try.f159 0) 0 (spec_l03Solve_l0_E v108 v109 v110 v111 v112 s) = (spec_l03Solve_l0_T v108 v109 v110 v111 v112 s).bind fun y => .leaf (outS (spec_l03Solve_l0_E v108 v109 v110 v111 v112) (spec_l03Solve_l0_X v108 v109 v110 v111 v112) y) := by kernel_rfl
theorem spec_l03Solve_l0_ok (v108 : Int) (v109 : Int) (v110 : List Nat) (v111 : List Int) (v112 : List Nat) : LSound Try.prog 0 (spec_l03Solve_LO v108 v109 v110 v111 v112) 0 (bodyOf Try.f159 0) := by
  intro e L out h
  exact lo_ok (E := spec_l03Solve_l0_E v108 v109 v110 v111 v112) (gT := spec_l03Solve_l0_T v108 v109 v110 v111 v112) (X := spec_l03Solve_l0_X v108 v109 v110 v111 v112) (s0 := ((gI (vAt e 7)), (gRF L (vAt e 6)))) tok spec_l03Solve_hO mixed (LoopsOk_eq (l := [(2, bodyOf Try.f159 2)]) (by kernel_rfl) ⟨spec_l03Solve_l2_ok v108 v109 v110 v111 v112, trivial⟩) (spec_l03Solve_l0_be v108 v109 v110 v111 v112) rfl (by intro x; rfl) h
theorem spec_l03Solve_l6_be (v108 : Int) (v109 : Int) (v110 : List Nat) (v111 : List Int) (v112 : List Nat) (v214 : Int) (v217 : List Nat) (s : Nat × Int) : bodyT TT (tabD spec_l03Solve_tab) (tabM spec_l03Solve_tab) (spec_l03Solve_LO v108 v109 v110 v111 v112) 0 spec_l03Solve_l6_kill spec_l03Solve_l6_nx (bodyOf Try.f159 6) 6 (spec_l03Solve_l6_E v108 v109 v110 v111 v112 v214 v217 s) = (spec_l03Solve_l6_T v108 v109 v110 v214 v217 s).bind fun y => .leaf (outS (spec_l03Solve_l6_E v108 v109 v110 v111 v112 v214 v217) (spec_l03Solve_l6_X v108 v109 v110 v111 v112 v214 v217) y) := by kernel_rfl
theorem spec_l03Solve_l6_ok (v108 : Int) (v109 : Int) (v110 : List Nat) (v111 : List Int) (v112 : List Nat) : LSound Try.prog 0 (spec_l03Solve_LO v108 v109 v110 v111 v112) 6 (bodyOf Try.f159 6) := by
  intro e L out h
  exact lo_ok (E := spec_l03Solve_l6_E v108 v109 v110 v111 v112 (gI (vAt e 10)) (gRF L (vAt e 6))) (gT := spec_l03Solve_l6_T v108 v109 v110 (gI (vAt e 10)) (gRF L (vAt e 6))) (X := spec_l03Solve_l6_X v108 v109 v110 v111 v112 (gI (vAt e 10)) (gRF L (vAt e 6))) (s0 := ((gF (vAt e 11)), (gI (vAt e 12)))) tok spec_l03Solve_hO mixed (LoopsOk_eq (l := []) (by kernel_rfl) trivial) (spec_l03Solve_l6_be v108 v109 v110 v111 v112 (gI (vAt e 10)) (gRF L (vAt e 6))) rfl (by intro x; rfl) h
theorem spec_l03Solve_l4_be (v108 : Int) (v109 : Int) (v110 : List Nat) (v111 : List Int) (v112 : List Nat) (s : Int × (List Nat)) : bodyT TT (tabD spec_l03Solve_tab) (tabM spec_l03Solve_tab) (spec_l03Solve_LO v108 v109 v110 v111 v112) 0 spec_l03Solve_l4_kill spec_l03Solve_l4_nx (bodyOf Try.f159 4) 4 (spec_l03Solve_l4_E v108 v109 v110 v111 v112 s) = (spec_l03Solve_l4_T v108 v109 v110 v111 v112 s).bind fun y => .leaf (outS (spec_l03Solve_l4_E v108 v109 v110 v111 v112) (spec_l03Solve_l4_X v108 v109 v110 v111 v112) y) := by kernel_rfl
theorem spec_l03Solve_l4_ok (v108 : Int) (v109 : Int) (v110 : List Nat) (v111 : List Int) (v112 : List Nat) : LSound Try.prog 0 (spec_l03Solve_LO v108 v109 v110 v111 v112) 4 (bodyOf Try.f159 4) := by
  intro e L out h
  exact lo_ok (E := spec_l03Solve_l4_E v108 v109 v110 v111 v112) (gT := spec_l03Solve_l4_T v108 v109 v110 v111 v112) (X := spec_l03Solve_l4_X v108 v109 v110 v111 v112) (s0 := ((gI (vAt e 10)), (gRF L (vAt e 6)))) tok spec_l03Solve_hO mixed (LoopsOk_eq (l := [(6, bodyOf Try.f159 6)]) (by kernel_rfl) ⟨spec_l03Solve_l6_ok v108 v109 v110 v111 v112, trivial⟩) (spec_l03Solve_l4_be v108 v109 v110 v111 v112) rfl (by intro x; rfl) h
noncomputable def spec_l03Solve_T (v108 : Int) (v109 : Int) (v110 : List Nat) (v111 : List Int) (v112 : List Nat) : Tree ((List Nat)) :=
  (.need (some (spec_l03Solve_l0_E v108 v109 v110 v111 v112 ((0 : Int), ([] : List Nat))) = some (spec_l03Solve_l0_E v108 v109 v110 v111 v112 ((0 : Int), ([] : List Nat)))) <|
  (.call (spec_l03Solve_l0_g v108 v109 v110 v111 v112 ((0 : Int), ([] : List Nat))) fun v163 =>
  (.need (some (spec_l03Solve_l4_E v108 v109 v110 v111 v112 (IntKind.i64.wrap (v108 - (1 : Int)), v163)) = some (spec_l03Solve_l4_E v108 v109 v110 v111 v112 (IntKind.i64.wrap (v108 - (1 : Int)), v163))) <|
  (.call (spec_l03Solve_l4_g v108 v109 v110 v111 v112 (IntKind.i64.wrap (v108 - (1 : Int)), v163)) fun v221 =>
  .leaf v221))))

noncomputable def spec_l03Solve_g (v108 : Int) (v109 : Int) (v110 : List Nat) (v111 : List Int) (v112 : List Nat) : Option ((List Nat)) := (spec_l03Solve_T v108 v109 v110 v111 v112).run
def spec_l03Solve_enc (v108 : Int) (v109 : Int) (v110 : List Nat) (v111 : List Int) (v112 : List Nat) (y : (List Nat)) : Rs := (.own 0 0 ((y).length), [.row (.f32 y) 0])
theorem spec_l03Solve_den (v108 : Int) (v109 : Int) (v110 : List Nat) (v111 : List Int) (v112 : List Nat) : (den TT (tabD spec_l03Solve_tab) (tabM spec_l03Solve_tab) (spec_l03Solve_LO v108 v109 v110 v111 v112) (codeOf Try.f159) ([.bptr (BR.root 0) [.int .i64 v108, .int .i64 v109, .bslc (BR.root 1) (.f32 v110), .bslc (BR.root 2) (.i64 v111)], .bslc (BR.root 3) (.f32 v112)] ++ List.replicate (Try.f159.ntmps - ([.bptr (BR.root 0) [.int .i64 v108, .int .i64 v109, .bslc (BR.root 1) (.f32 v110), .bslc (BR.root 2) (.i64 v111)], .bslc (BR.root 3) (.f32 v112)] : List DV).length) .undef) []).bind (retD TT Try.f159.results.toList 0) = (spec_l03Solve_T v108 v109 v110 v111 v112).bind fun y => .leaf (spec_l03Solve_enc v108 v109 v110 v111 v112 y) := by kernel_rfl
theorem spec_l03Solve_fn (v108 : Int) (v109 : Int) (v110 : List Nat) (v111 : List Int) (v112 : List Nat) (F : Fr) (hm : F.ids.length = 0) (h0 : St F [] F.H0) (hA : DVs.Ok F [] [.bptr (BR.root 0) [.int .i64 v108, .int .i64 v109, .bslc (BR.root 1) (.f32 v110), .bslc (BR.root 2) (.i64 v111)], .bslc (BR.root 3) (.f32 v112)]) {y : (List Nat)} (hy : spec_l03Solve_g v108 v109 v110 v111 v112 = some y) : ∃ H', FnOk Try.prog 159 (DVs.av F [.bptr (BR.root 0) [.int .i64 v108, .int .i64 v109, .bslc (BR.root 1) (.f32 v110), .bslc (BR.root 2) (.i64 v111)], .bslc (BR.root 3) (.f32 v112)]) F.H0 ((spec_l03Solve_enc v108 v109 v110 v111 v112 y).1.av F) H' ∧ St F (spec_l03Solve_enc v108 v109 v110 v111 v112 y).2 H' ∧ (spec_l03Solve_enc v108 v109 v110 v111 v112 y).1.Ok F (spec_l03Solve_enc v108 v109 v110 v111 v112 y).2 :=
  fn_fin tok spec_l03Solve_hO mixed Try.func159 Try.call159 (by kernel_rfl) (LoopsOk_eq (l := [(0, bodyOf Try.f159 0), (4, bodyOf Try.f159 4)]) (by kernel_rfl) ⟨spec_l03Solve_l0_ok v108 v109 v110 v111 v112, spec_l03Solve_l4_ok v108 v109 v110 v111 v112, trivial⟩) (spec_l03Solve_den v108 v109 v110 v111 v112) hy hm h0 hA
noncomputable def spec_l03Solve_F : DFn := fun args L =>
  match args with
  | [a1, a4] =>
    optT (cellsOf L 4 a1) fun cs0 =>
    (match cs0 with
    | [.int .i64 v108, .int .i64 v109, a2, a3] =>
    optT (rowF32 L a2) fun v110 =>
    optT (rowI64 L a3) fun v111 =>
    optT (rowF32 L a4) fun v112 =>
    .call (spec_l03Solve_g v108 v109 v110 v111 v112) fun y => .leaf (.own (L.length + 0) 0 ((y).length), L ++ [.row (.f32 y) 0])
    | _ => .fail)
  | _ => .fail
theorem spec_l03Solve_Fok : COk Try.prog 159 spec_l03Solve_F true := by
  intro F L H args r L' hs ha hr
  unfold spec_l03Solve_F at hr
  split at hr
  · rename_i a1 a4
    obtain ⟨cs0, hcp0, hr⟩ := optT_run hr
    split at hr
    · rename_i v108 v109 a2 a3
      obtain ⟨v110, hv110, hr⟩ := optT_run hr
      obtain ⟨v111, hv111, hr⟩ := optT_run hr
      obtain ⟨v112, hv112, hr⟩ := optT_run hr
      simp only [Tree.run] at hr
      obtain ⟨y, hy, hr⟩ := Option.bind_eq_some_iff.1 hr
      simp only [Tree.run, Option.some.injEq, Prod.mk.injEq] at hr
      obtain ⟨rfl, rfl⟩ := hr
      exact call_ok1 hs (fun k => (([a1.av F, a2.av F, a3.av F, a4.av F] : List AV)[k]?).getD .top) [a1, a4] [.bptr (BR.root 0) [.int .i64 v108, .int .i64 v109, .bslc (BR.root 1) (.f32 v110), .bslc (BR.root 2) (.i64 v111)], .bslc (BR.root 3) (.f32 v112)] (fun F' h0 hi hρ => ⟨by simp [DVs.av, DV.av, BR.av, hρ], spec_l03Solve_fn v108 v109 v110 v111 v112 F' (by rw [hi]; rfl) (st_nil hi) ⟨bptr_ok hi (by rw [h0]; simpa [DVs.av, DV.av, BR.av, hρ] using (cellsOf_ok hs (DVs.okAt ha 0 rfl) hcp0).1) ⟨trivial, trivial, bslc_ok hi (by rw [h0, hρ]; exact rowF32_ok hs (DVs.okAt (cellsOf_ok hs (DVs.okAt ha 0 rfl) hcp0).2 2 rfl) hv110), bslc_ok hi (by rw [h0, hρ]; exact rowI64_ok hs (DVs.okAt (cellsOf_ok hs (DVs.okAt ha 0 rfl) hcp0).2 3 rfl) hv111), trivial⟩, bslc_ok hi (by rw [h0, hρ]; exact rowF32_ok hs (DVs.okAt ha 1 rfl) hv112), trivial⟩ hy⟩) rfl rfl
    · cases hr
  · cases hr
/-! spec.l03Inverse -/
noncomputable def spec_l03Inverse_l2_T (v98 : Int) (v282 : Int) (v284 : Int) (v285 : Int) (v286 : List Nat) (s : Int × (List Nat)) : Tree ((Int × (List Nat)) ⊕ ((List Nat))) :=
  (.br (decide (s.1 < v98)) (
   (.grd (inb s.1 ((v286).length)) <|
   (.grd (inb (IntKind.i64.wrap ((IntKind.i64.wrap (s.1 * v98)) + v282)) ((s.2).length)) <|
   .leaf (.inl (IntKind.i64.wrap (s.1 + (1 : Int)), List.set s.2 (Int.toNat (IntKind.i64.wrap ((IntKind.i64.wrap (s.1 * v98)) + v282))) (nth v286 (Int.toNat s.1))))))
  ) (
   .leaf (.inr s.2)
  ))

noncomputable def spec_l03Inverse_l2_g (v98 : Int) (v282 : Int) (v284 : Int) (v285 : Int) (v286 : List Nat) (s0 : Int × (List Nat)) : Option ((List Nat)) := whileM (fun s => (spec_l03Inverse_l2_T v98 v282 v284 v285 v286 s).run) s0
def spec_l03Inverse_l2_E (v98 : Int) (v99 : Int) (v100 : List Nat) (v101 : List Int) (v282 : Int) (v284 : Int) (v285 : Int) (v286 : List Nat) (s : Int × (List Nat)) : Sd := ([.bptr (BR.root 0) [.int .i64 v98, .int .i64 v99, .bslc (BR.root 1) (.f32 v100), .bslc (BR.root 2) (.i64 v101)], .top, .ptr 0 (0 : Nat) 0 (3 : Nat), .int .i64 v98, .ptr 1 (0 : Nat) 0 (3 : Nat), .int .i64 v282, .top, .own 2 0 ((v286).length), .int .i64 s.1, .top, .top, .top, .top, .top, .top, .top, .top, .top, .top, .top, .top, .top, .top, .top, .top, .top, .top, .top, .top, .top, .top, .top, .top, .top, .top, .top, .top, .top, .top, .top, .top, .top, .top, .top, .top, .top, .top, .top], [.gen [.int .i64 (0 : Int), .int .i64 (0 : Int), .nilslc] false 0, .gen [.int .i64 v284, .int .i64 v285, .own 3 0 ((s.2).length)] false 0, .row (.f32 v286) 0, .row (.f32 s.2) 0])
def spec_l03Inverse_l2_X (v98 : Int) (v99 : Int) (v100 : List Nat) (v101 : List Int) (v282 : Int) (v284 : Int) (v285 : Int) (v286 : List Nat) (x : (List Nat)) : Out := (.normal, [.bptr (BR.root 0) [.int .i64 v98, .int .i64 v99, .bslc (BR.root 1) (.f32 v100), .bslc (BR.root 2) (.i64 v101)], .top, .ptr 0 (0 : Nat) 0 (3 : Nat), .int .i64 v98, .ptr 1 (0 : Nat) 0 (3 : Nat), .int .i64 v282, .top, .top, .top, .top, .top, .top, .top, .top, .top, .top, .top, .top, .top, .top, .top, .top, .top, .top, .top, .top, .top, .top, .top, .top, .top, .top, .top, .top, .top, .top, .top, .top, .top, .top, .top, .top, .top, .top, .top, .top, .top, .top], [.gen [.int .i64 (0 : Int), .int .i64 (0 : Int), .nilslc] false 0, .gen [.int .i64 v284, .int .i64 v285, .own 2 0 ((x).length)] false 0, .row (.f32 x) 0])
def spec_l03Inverse_l2_kill : List Nat := [0, 1, 0, 0, 0, 0, 1, 0, 0, 1, 1, 1, 1, 1, 1, 1, 1, 1, 1, 1, 1, 1, 1, 1, 1, 1, 1, 1, 1, 1, 1, 1, 1, 1, 1, 1, 1, 1, 1, 1, 1, 1, 1, 1, 1, 1, 1, 1]
def spec_l03Inverse_l2_nx : Exit → List Nat
  | .exit 0 => [1, 1, 0, 1, 0, 1, 1, 1, 1, 1, 1, 1, 1, 1, 1, 1, 1, 1, 1, 1, 1, 1, 1, 1, 1, 1, 1, 1, 1, 1, 1, 1, 1, 1, 1, 1, 1, 1, 1, 1, 1, 1, 1, 1, 1, 1, 1, 1]
  | .exit 1 => [0, 1, 0, 0, 0, 0, 1, 1, 1, 1, 1, 1, 1, 1, 1, 1, 1, 1, 1, 1, 1, 1, 1, 1, 1, 1, 1, 1, 1, 1, 1, 1, 1, 1, 1, 1, 1, 1, 1, 1, 1, 1, 1, 1, 1, 1, 1, 1]
  | .exit 2 => [0, 1, 0, 0, 0, 0, 1, 1, 1, 1, 1, 1, 1, 1, 1, 1, 1, 1, 1, 1, 1, 1, 1, 1, 1, 1, 1, 1, 1, 1, 1, 1, 1, 1, 1, 1, 1, 1, 1, 1, 1, 1, 1, 1, 1, 1, 1, 1]
  | .ret => [1, 1, 0, 1, 1, 1, 1, 1, 1, 1, 1, 1, 1, 1, 1, 1, 1, 1, 1, 1, 1, 1, 1, 1, 1, 1, 1, 1, 1, 1, 1, 1, 1, 1, 1, 1, 1, 1, 1, 1, 1, 1, 1, 1, 1, 1, 1, 1]
  | _ => []
noncomputable def spec_l03Inverse_l0_T (v98 : Int) (v99 : Int) (v100 : List Nat) (v101 : List Int) (v266 : Int) (v267 : Int) (s : Int × (List Nat)) : Tree ((Int × (List Nat)) ⊕ ((List Nat))) :=
  (.br (decide (s.1 < v98)) (
   (.need (v98 = v98) <|
   (.grd (inb v98 (maxN + 1)) <|
   (.grd (inb s.1 (Int.toNat v98)) <|
   (.call (spec_l03Solve_g v98 v99 v100 v101 (List.set (List.replicate (Int.toNat v98) (0 : Nat)) (Int.toNat s.1) (1065353216 : Nat))) fun v269 =>
   (.need (some (spec_l03Inverse_l2_E v98 v99 v100 v101 s.1 v266 v267 v269 ((0 : Int), s.2)) = some (spec_l03Inverse_l2_E v98 v99 v100 v101 s.1 v266 v267 v269 ((0 : Int), s.2))) <|
   (.call (spec_l03Inverse_l2_g v98 s.1 v266 v267 v269 ((0 : Int), s.2)) fun v288 =>
   .leaf (.inl (IntKind.i64.wrap (s.1 + (1 : Int)), v288))))))))
  ) (
   .leaf (.inr s.2)
  ))

noncomputable def spec_l03Inverse_l0_g (v98 : Int) (v99 : Int) (v100 : List Nat) (v101 : List Int) (v266 : Int) (v267 : Int) (s0 : Int × (List Nat)) : Option ((List Nat)) := whileM (fun s => (spec_l03Inverse_l0_T v98 v99 v100 v101 v266 v267 s).run) s0
def spec_l03Inverse_l0_E (v98 : Int) (v99 : Int) (v100 : List Nat) (v101 : List Int) (v266 : Int) (v267 : Int) (s : Int × (List Nat)) : Sd := ([.bptr (BR.root 0) [.int .i64 v98, .int .i64 v99, .bslc (BR.root 1) (.f32 v100), .bslc (BR.root 2) (.i64 v101)], .top, .ptr 0 (0 : Nat) 0 (3 : Nat), .int .i64 v98, .ptr 1 (0 : Nat) 0 (3 : Nat), .int .i64 s.1, .top, .top, .top, .top, .top, .top, .top, .top, .top, .top, .top, .top, .top, .top, .top, .top, .top, .top, .top, .top, .top, .top, .top, .top, .top, .top, .top, .top, .top, .top, .top, .top, .top, .top, .top, .top, .top, .top, .top, .top, .top, .top], [.gen [.int .i64 (0 : Int), .int .i64 (0 : Int), .nilslc] false 0, .gen [.int .i64 v266, .int .i64 v267, .own 2 0 ((s.2).length)] false 0, .row (.f32 s.2) 0])
def spec_l03Inverse_l0_X (v98 : Int) (v99 : Int) (v100 : List Nat) (v101 : List Int) (v266 : Int) (v267 : Int) (x : (List Nat)) : Out := (.normal, [.top, .top, .ptr 0 (0 : Nat) 0 (3 : Nat), .top, .ptr 1 (0 : Nat) 0 (3 : Nat), .top, .top, .top, .top, .top, .top, .top, .top, .top, .top, .top, .top, .top, .top, .top, .top, .top, .top, .top, .top, .top, .top, .top, .top, .top, .top, .top, .top, .top, .top, .top, .top, .top, .top, .top, .top, .top, .top, .top, .top, .top, .top, .top], [.gen [.int .i64 (0 : Int), .int .i64 (0 : Int), .nilslc] false 0, .gen [.int .i64 v266, .int .i64 v267, .own 2 0 ((x).length)] false 0, .row (.f32 x) 0])
def spec_l03Inverse_l0_kill : List Nat := [0, 1, 0, 0, 0, 0, 1, 1, 1, 1, 1, 1, 1, 1, 1, 1, 1, 1, 1, 1, 1, 1, 1, 1, 1, 1, 1, 1, 1, 1, 1, 1, 1, 1, 1, 1, 1, 1, 1, 1, 1, 1, 1, 1, 1, 1, 1, 1]
def spec_l03Inverse_l0_nx : Exit → List Nat
  | .exit 0 => [1, 1, 0, 1, 0, 1, 1, 1, 1, 1, 1, 1, 1, 1, 1, 1, 1, 1, 1, 1, 1, 1, 1, 1, 1, 1, 1, 1, 1, 1, 1, 1, 1, 1, 1, 1, 1, 1, 1, 1, 1, 1, 1, 1, 1, 1, 1, 1]
  | .ret => [1, 1, 0, 1, 1, 1, 1, 1, 1, 1, 1, 1, 1, 1, 1, 1, 1, 1, 1, 1, 1, 1, 1, 1, 1, 1, 1, 1, 1, 1, 1, 1, 1, 1, 1, 1, 1, 1, 1, 1, 1, 1, 1, 1, 1, 1, 1, 1]
  | _ => []
noncomputable def spec_l03Inverse_LO (v98 : Int) (v99 : Int) (v100 : List Nat) (v101 : List Int) : LOr := fun id e L =>
  match id with
  | 2 => .need (normA 0 spec_l03Inverse_l2_kill e L = some (spec_l03Inverse_l2_E v98 v99 v100 v101 (gI (vAt e 5)) (gI (cAt L (vAt e 4) 0)) (gI (cAt L (vAt e 4) 1)) (gRF L (vAt e 7)) ((gI (vAt e 8)), (gRF L (cAt L (vAt e 4) 2))))) (.call (spec_l03Inverse_l2_g v98 (gI (vAt e 5)) (gI (cAt L (vAt e 4) 0)) (gI (cAt L (vAt e 4) 1)) (gRF L (vAt e 7)) ((gI (vAt e 8)), (gRF L (cAt L (vAt e 4) 2)))) fun x => .leaf (spec_l03Inverse_l2_X v98 v99 v100 v101 (gI (vAt e 5)) (gI (cAt L (vAt e 4) 0)) (gI (cAt L (vAt e 4) 1)) (gRF L (vAt e 7)) x))
  | 0 => .need (normA 0 spec_l03Inverse_l0_kill e L = some (spec_l03Inverse_l0_E v98 v99 v100 v101 (gI (cAt L (vAt e 4) 0)) (gI (cAt L (vAt e 4) 1)) ((gI (vAt e 5)), (gRF L (cAt L (vAt e 4) 2))))) (.call (spec_l03Inverse_l0_g v98 v99 v100 v101 (gI (cAt L (vAt e 4) 0)) (gI (cAt L (vAt e 4) 1)) ((gI (vAt e 5)), (gRF L (cAt L (vAt e 4) 2)))) fun x => .leaf (spec_l03Inverse_l0_X v98 v99 v100 v101 (gI (cAt L (vAt e 4) 0)) (gI (cAt L (vAt e 4) 1)) x))
  | _ => .fail
noncomputable def spec_l03Inverse_tab : List (FuncId × DFn × Bool) := [(138, spec_l02Zero_F, true), (159, spec_l03Solve_F, true)]
theorem spec_l03Inverse_hO : OrcOk Try.prog (tabD spec_l03Inverse_tab) (tabM spec_l03Inverse_tab) := tabD_cons spec_l02Zero_Fok (tabD_cons spec_l03Solve_Fok (tabD_nil _))
theorem spec_l03Inverse_l2_be (v98 : Int) (v99 : Int) (v100 : List Nat) (v101 : List Int) (v282 : Int) (v284 : Int) (v285 : Int) (v286 : List Nat) (s : Int × (List Nat)) : bodyT TT (tabD spec_l03Inverse_tab) (tabM spec_l03Inverse_tab) (spec_l03Inverse_LO v98 v99 v100 v101) 0 spec_l03Inverse_l2_kill spec_l03Inverse_l2_nx (bodyOf Try.f124 2) 2 (spec_l03Inverse_l2_E v98 v99 v100 v101 v282 v284 v285 v286 s) = (spec_l03Inverse_l2_T v98 v282 v284 v285 v286 s).bind fun y => .leaf (outS (spec_l03Inverse_l2_E v98 v99 v100 v101 v282 v284 v285 v286) (spec_l03Inverse_l2_X v98 v99 v100 v101 v282 v284 v285 v286) y) := by kernel_rfl
theorem spec_l03Inverse_l2_ok (v98 : Int) (v99 : Int) (v100 : List Nat) (v101 : List Int) : LSound Try.prog 0 (spec_l03Inverse_LO v98 v99 v100 v101) 2 (bodyOf Try.f124 2) := by
  intro e L out h
  exact lo_ok (E := spec_l03Inverse_l2_E v98 v99 v100 v101 (gI (vAt e 5)) (gI (cAt L (vAt e 4) 0)) (gI (cAt L (vAt e 4) 1)) (gRF L (vAt e 7))) (gT := spec_l03Inverse_l2_T v98 (gI (vAt e 5)) (gI (cAt L (vAt e 4) 0)) (gI (cAt L (vAt e 4) 1)) (gRF L (vAt e 7))) (X := spec_l03Inverse_l2_X v98 v99 v100 v101 (gI (vAt e 5)) (gI (cAt L (vAt e 4) 0)) (gI (cAt L (vAt e 4) 1)) (gRF L (vAt e 7))) (s0 := ((gI (vAt e 8)), (gRF L (cAt L (vAt e 4) 2)))) tok spec_l03Inverse_hO mixed (LoopsOk_eq (l := []) (by kernel_rfl) trivial) (spec_l03Inverse_l2_be v98 v99 v100 v101 (gI (vAt e 5)) (gI (cAt L (vAt e 4) 0)) (gI (cAt L (vAt e 4) 1)) (gRF L (vAt e 7))) rfl (by intro x; rfl) h
theorem spec_l03Inverse_l0_be (v98 : Int) (v99 : Int) (v100 : List Nat) (v101 : List Int) (v266 : Int) (v267 : Int) (s : Int × (List Nat)) : bodyT TT (tabD spec_l03Inverse_tab) (tabM spec_l03Inverse_tab) (spec_l03Inverse_LO v98 v99 v100 v101) 0 spec_l03Inverse_l0_kill spec_l03Inverse_l0_nx (bodyOf Try.f124 0) 0 (spec_l03Inverse_l0_E v98 v99 v100 v101 v266 v267 s) = (spec_l03Inverse_l0_T v98 v99 v100 v101 v266 v267 s).bind fun y => .leaf (outS (spec_l03Inverse_l0_E v98 v99 v100 v101 v266 v267) (spec_l03Inverse_l0_X v98 v99 v100 v101 v266 v267) y) := by kernel_rfl
theorem spec_l03Inverse_l0_ok (v98 : Int) (v99 : Int) (v100 : List Nat) (v101 : List Int) : LSound Try.prog 0 (spec_l03Inverse_LO v98 v99 v100 v101) 0 (bodyOf Try.f124 0) := by
  intro e L out h
  exact lo_ok (E := spec_l03Inverse_l0_E v98 v99 v100 v101 (gI (cAt L (vAt e 4) 0)) (gI (cAt L (vAt e 4) 1))) (gT := spec_l03Inverse_l0_T v98 v99 v100 v101 (gI (cAt L (vAt e 4) 0)) (gI (cAt L (vAt e 4) 1))) (X := spec_l03Inverse_l0_X v98 v99 v100 v101 (gI (cAt L (vAt e 4) 0)) (gI (cAt L (vAt e 4) 1))) (s0 := ((gI (vAt e 5)), (gRF L (cAt L (vAt e 4) 2)))) tok spec_l03Inverse_hO mixed (LoopsOk_eq (l := [(2, bodyOf Try.f124 2)]) (by kernel_rfl) ⟨spec_l03Inverse_l2_ok v98 v99 v100 v101, trivial⟩) (spec_l03Inverse_l0_be v98 v99 v100 v101 (gI (cAt L (vAt e 4) 0)) (gI (cAt L (vAt e 4) 1))) rfl (by intro x; rfl) h
noncomputable def spec_l03Inverse_T (v98 : Int) (v99 : Int) (v100 : List Nat) (v101 : List Int) : Tree (Int × Int × (List Nat)) :=
  (.call (spec_l02Zero_g v98 v98) fun v104 =>
  (.need (some (spec_l03Inverse_l0_E v98 v99 v100 v101 v104.1 v104.2 ((0 : Int), List.replicate (Int.toNat (IntKind.i64.wrap (v98 * v98))) (0 : Nat))) = some (spec_l03Inverse_l0_E v98 v99 v100 v101 v104.1 v104.2 ((0 : Int), List.replicate (Int.toNat (IntKind.i64.wrap (v98 * v98))) (0 : Nat)))) <|
  (.call (spec_l03Inverse_l0_g v98 v99 v100 v101 v104.1 v104.2 ((0 : Int), List.replicate (Int.toNat (IntKind.i64.wrap (v98 * v98))) (0 : Nat))) fun v289 =>
  .leaf (v104.1, v104.2, v289))))

noncomputable def spec_l03Inverse_g (v98 : Int) (v99 : Int) (v100 : List Nat) (v101 : List Int) : Option (Int × Int × (List Nat)) := (spec_l03Inverse_T v98 v99 v100 v101).run
def spec_l03Inverse_enc (v98 : Int) (v99 : Int) (v100 : List Nat) (v101 : List Int) (y : Int × Int × (List Nat)) : Rs := (.agg [.int .i64 y.1, .int .i64 y.2.1, .own 0 0 ((y.2.2).length)], [.row (.f32 y.2.2) 0])
theorem spec_l03Inverse_den (v98 : Int) (v99 : Int) (v100 : List Nat) (v101 : List Int) : (den TT (tabD spec_l03Inverse_tab) (tabM spec_l03Inverse_tab) (spec_l03Inverse_LO v98 v99 v100 v101) (codeOf Try.f124) ([.bptr (BR.root 0) [.int .i64 v98, .int .i64 v99, .bslc (BR.root 1) (.f32 v100), .bslc (BR.root 2) (.i64 v101)]] ++ List.replicate (Try.f124.ntmps - ([.bptr (BR.root 0) [.int .i64 v98, .int .i64 v99, .bslc (BR.root 1) (.f32 v100), .bslc (BR.root 2) (.i64 v101)]] : List DV).length) .undef) []).bind (retD TT Try.f124.results.toList 0) = (spec_l03Inverse_T v98 v99 v100 v101).bind fun y => .leaf (spec_l03Inverse_enc v98 v99 v100 v101 y) := by kernel_rfl
theorem spec_l03Inverse_fn (v98 : Int) (v99 : Int) (v100 : List Nat) (v101 : List Int) (F : Fr) (hm : F.ids.length = 0) (h0 : St F [] F.H0) (hA : DVs.Ok F [] [.bptr (BR.root 0) [.int .i64 v98, .int .i64 v99, .bslc (BR.root 1) (.f32 v100), .bslc (BR.root 2) (.i64 v101)]]) {y : Int × Int × (List Nat)} (hy : spec_l03Inverse_g v98 v99 v100 v101 = some y) : ∃ H', FnOk Try.prog 124 (DVs.av F [.bptr (BR.root 0) [.int .i64 v98, .int .i64 v99, .bslc (BR.root 1) (.f32 v100), .bslc (BR.root 2) (.i64 v101)]]) F.H0 ((spec_l03Inverse_enc v98 v99 v100 v101 y).1.av F) H' ∧ St F (spec_l03Inverse_enc v98 v99 v100 v101 y).2 H' ∧ (spec_l03Inverse_enc v98 v99 v100 v101 y).1.Ok F (spec_l03Inverse_enc v98 v99 v100 v101 y).2 :=
  fn_fin tok spec_l03Inverse_hO mixed Try.func124 Try.call124 (by kernel_rfl) (LoopsOk_eq (l := [(0, bodyOf Try.f124 0)]) (by kernel_rfl) ⟨spec_l03Inverse_l0_ok v98 v99 v100 v101, trivial⟩) (spec_l03Inverse_den v98 v99 v100 v101) hy hm h0 hA
noncomputable def spec_l03Inverse_F : DFn := fun args L =>
  match args with
  | [a1] =>
    optT (cellsOf L 4 a1) fun cs0 =>
    (match cs0 with
    | [.int .i64 v98, .int .i64 v99, a2, a3] =>
    optT (rowF32 L a2) fun v100 =>
    optT (rowI64 L a3) fun v101 =>
    .call (spec_l03Inverse_g v98 v99 v100 v101) fun y => .leaf (.agg [.int .i64 y.1, .int .i64 y.2.1, .own (L.length + 0) 0 ((y.2.2).length)], L ++ [.row (.f32 y.2.2) 0])
    | _ => .fail)
  | _ => .fail
theorem spec_l03Inverse_Fok : COk Try.prog 124 spec_l03Inverse_F true := by
  intro F L H args r L' hs ha hr
  unfold spec_l03Inverse_F at hr
  split at hr
  · rename_i a1
    obtain ⟨cs0, hcp0, hr⟩ := optT_run hr
    split at hr
    · rename_i v98 v99 a2 a3
      obtain ⟨v100, hv100, hr⟩ := optT_run hr
      obtain ⟨v101, hv101, hr⟩ := optT_run hr
      simp only [Tree.run] at hr
      obtain ⟨y, hy, hr⟩ := Option.bind_eq_some_iff.1 hr
      simp only [Tree.run, Option.some.injEq, Prod.mk.injEq] at hr
      obtain ⟨rfl, rfl⟩ := hr
      exact call_ok1 hs (fun k => (([a1.av F, a2.av F, a3.av F] : List AV)[k]?).getD .top) [a1] [.bptr (BR.root 0) [.int .i64 v98, .int .i64 v99, .bslc (BR.root 1) (.f32 v100), .bslc (BR.root 2) (.i64 v101)]] (fun F' h0 hi hρ => ⟨by simp [DVs.av, DV.av, BR.av, hρ], spec_l03Inverse_fn v98 v99 v100 v101 F' (by rw [hi]; rfl) (st_nil hi) ⟨bptr_ok hi (by rw [h0]; simpa [DVs.av, DV.av, BR.av, hρ] using (cellsOf_ok hs (DVs.okAt ha 0 rfl) hcp0).1) ⟨trivial, trivial, bslc_ok hi (by rw [h0, hρ]; exact rowF32_ok hs (DVs.okAt (cellsOf_ok hs (DVs.okAt ha 0 rfl) hcp0).2 2 rfl) hv100), bslc_ok hi (by rw [h0, hρ]; exact rowI64_ok hs (DVs.okAt (cellsOf_ok hs (DVs.okAt ha 0 rfl) hcp0).2 3 rfl) hv101), trivial⟩, trivial⟩ hy⟩) rfl rfl
    · cases hr
  · cases hr
/-! spec.l02Give -/
noncomputable def spec_l02Give_LO (v291 : Int) (v292 : Int) (v293 : List Nat) : LOr := fun id e L =>
  match id with
  | _ => .fail
noncomputable def spec_l02Give_tab : List (FuncId × DFn × Bool) := [(99, spec_l02Is_F, true)]
theorem spec_l02Give_hO : OrcOk Try.prog (tabD spec_l02Give_tab) (tabM spec_l02Give_tab) := tabD_cons spec_l02Is_Fok (tabD_nil _)
noncomputable def spec_l02Give_T (v291 : Int) (v292 : Int) (v293 : List Nat) : Tree ((Unit) ⊕ (Int × Int)) :=
  (.call (spec_l02Is_g v291 v292 v293) fun v294 =>
  (.br (!v294) (
   .leaf (.inl ())
  ) (
   .leaf (.inr (v291, v292))
  )))

noncomputable def spec_l02Give_g (v291 : Int) (v292 : Int) (v293 : List Nat) : Option ((Unit) ⊕ (Int × Int)) := (spec_l02Give_T v291 v292 v293).run
def spec_l02Give_enc (v291 : Int) (v292 : Int) (v293 : List Nat) (y : (Unit) ⊕ (Int × Int)) : Rs := (match y with | .inl y => (.tup [.agg [.int .i64 (0 : Int), .int .i64 (0 : Int), .nilslc], .lit false], []) | .inr y => (.tup [.agg [.int .i64 y.1, .int .i64 y.2, .bslc (BR.root 0) (.f32 v293)], .lit true], []))
theorem spec_l02Give_den (v291 : Int) (v292 : Int) (v293 : List Nat) : (den TT (tabD spec_l02Give_tab) (tabM spec_l02Give_tab) (spec_l02Give_LO v291 v292 v293) (codeOf Try.f88) ([.agg [.int .i64 v291, .int .i64 v292, .bslc (BR.root 0) (.f32 v293)]] ++ List.replicate (Try.f88.ntmps - ([.agg [.int .i64 v291, .int .i64 v292, .bslc (BR.root 0) (.f32 v293)]] : List DV).length) .undef) []).bind (retD TT Try.f88.results.toList 0) = (spec_l02Give_T v291 v292 v293).bind fun y => .leaf (spec_l02Give_enc v291 v292 v293 y) := by kernel_rfl
theorem spec_l02Give_fn (v291 : Int) (v292 : Int) (v293 : List Nat) (F : Fr) (hm : F.ids.length = 0) (h0 : St F [] F.H0) (hA : DVs.Ok F [] [.agg [.int .i64 v291, .int .i64 v292, .bslc (BR.root 0) (.f32 v293)]]) {y : (Unit) ⊕ (Int × Int)} (hy : spec_l02Give_g v291 v292 v293 = some y) : ∃ H', FnOk Try.prog 88 (DVs.av F [.agg [.int .i64 v291, .int .i64 v292, .bslc (BR.root 0) (.f32 v293)]]) F.H0 ((spec_l02Give_enc v291 v292 v293 y).1.av F) H' ∧ St F (spec_l02Give_enc v291 v292 v293 y).2 H' ∧ (spec_l02Give_enc v291 v292 v293 y).1.Ok F (spec_l02Give_enc v291 v292 v293 y).2 :=
  fn_fin tok spec_l02Give_hO mixed Try.func88 Try.call88 (by kernel_rfl) (LoopsOk_eq (l := []) (by kernel_rfl) trivial) (spec_l02Give_den v291 v292 v293) hy hm h0 hA
noncomputable def spec_l02Give_F : DFn := fun args L =>
  match args with
  | [.agg [.int .i64 v291, .int .i64 v292, a1]] =>
    optT (rowF32 L a1) fun v293 =>
    .call (spec_l02Give_g v291 v292 v293) fun y => .sum y (fun y0 => .leaf (.tup [.agg [.int .i64 (0 : Int), .int .i64 (0 : Int), .nilslc], .lit false], L)) (fun z0 => .leaf (.tup [.agg [.int .i64 z0.1, .int .i64 z0.2, a1], .lit true], L))
  | _ => .fail
theorem spec_l02Give_Fok : COk Try.prog 88 spec_l02Give_F true := by
  intro F L H args r L' hs ha hr
  unfold spec_l02Give_F at hr
  split at hr
  · rename_i v291 v292 a1
    obtain ⟨v293, hv293, hr⟩ := optT_run hr
    simp only [Tree.run] at hr
    obtain ⟨y, hy, hr⟩ := Option.bind_eq_some_iff.1 hr
    cases y with
    | inl y =>
      simp only [Tree.run, Option.some.injEq, Prod.mk.injEq] at hr
      obtain ⟨rfl, rfl⟩ := hr
      exact call_ok0 hs (fun k => (([a1.av F] : List AV)[k]?).getD .top) [.agg [.int .i64 v291, .int .i64 v292, a1]] [.agg [.int .i64 v291, .int .i64 v292, .bslc (BR.root 0) (.f32 v293)]] (fun F' h0 hi hρ => ⟨by simp [DVs.av, DV.av, BR.av, hρ], spec_l02Give_fn v291 v292 v293 F' (by rw [hi]; rfl) (st_nil hi) ⟨⟨trivial, trivial, bslc_ok hi (by rw [h0, hρ]; exact rowF32_ok hs (DVs.okAt (DVs.okAt ha 0 rfl) 2 rfl) hv293), trivial⟩, trivial⟩ hy⟩) rfl
    | inr y =>
      simp only [Tree.run, Option.some.injEq, Prod.mk.injEq] at hr
      obtain ⟨rfl, rfl⟩ := hr
      exact call_al0 hs (fun k => (([a1.av F] : List AV)[k]?).getD .top) [.agg [.int .i64 v291, .int .i64 v292, a1]] [.agg [.int .i64 v291, .int .i64 v292, .bslc (BR.root 0) (.f32 v293)]] (fun F' h0 hi hρ => ⟨by simp [DVs.av, DV.av, BR.av, hρ], spec_l02Give_fn v291 v292 v293 F' (by rw [hi]; rfl) (st_nil hi) ⟨⟨trivial, trivial, bslc_ok hi (by rw [h0, hρ]; exact rowF32_ok hs (DVs.okAt (DVs.okAt ha 0 rfl) 2 rfl) hv293), trivial⟩, trivial⟩ hy⟩) (fun F' h0 hi hρ => by simp [spec_l02Give_enc, DVs.av, DV.av, BR.av, hρ]) ⟨⟨trivial, trivial, (DVs.okAt (DVs.okAt ha 0 rfl) 2 rfl), trivial⟩, trivial, trivial⟩
  · cases hr
/-! spec.FactorInverse -/
noncomputable def spec_FactorInverse_LO (v43 : Int) (v44 : Int) (v45 : List Nat) (v46 : List Int) : LOr := fun id e L =>
  match id with
  | _ => .fail
noncomputable def spec_FactorInverse_tab : List (FuncId × DFn × Bool) := [(111, spec_l03Is_F, true), (124, spec_l03Inverse_F, true), (88, spec_l02Give_F, true)]
theorem spec_FactorInverse_hO : OrcOk Try.prog (tabD spec_FactorInverse_tab) (tabM spec_FactorInverse_tab) := tabD_cons spec_l03Is_Fok (tabD_cons spec_l03Inverse_Fok (tabD_cons spec_l02Give_Fok (tabD_nil _)))
noncomputable def spec_FactorInverse_T (v43 : Int) (v44 : Int) (v45 : List Nat) (v46 : List Int) : Tree ((Unit) ⊕ (Int × Int × (List Nat))) :=
  (.call (spec_l03Is_g v43 v44 v45 v46) fun v97 =>
  (.br (!v97) (
   .leaf (.inl ())
  ) (
   (.call (spec_l03Inverse_g v43 v44 v45 v46) fun v290 =>
   (.call (spec_l02Give_g v290.1 v290.2.1 v290.2.2) fun v295 =>
   (.sum v295 (fun v296 =>
    .leaf (.inl ())
   ) (fun v297 =>
    .leaf (.inr (v297.1, v297.2, v290.2.2))
   ))))
  )))

noncomputable def spec_FactorInverse_g (v43 : Int) (v44 : Int) (v45 : List Nat) (v46 : List Int) : Option ((Unit) ⊕ (Int × Int × (List Nat))) := (spec_FactorInverse_T v43 v44 v45 v46).run
def spec_FactorInverse_enc (v43 : Int) (v44 : Int) (v45 : List Nat) (v46 : List Int) (y : (Unit) ⊕ (Int × Int × (List Nat))) : Rs := (match y with | .inl y => (.tup [.agg [.int .i64 (0 : Int), .int .i64 (0 : Int), .nilslc], .lit false], []) | .inr y => (.tup [.agg [.int .i64 y.1, .int .i64 y.2.1, .own 0 0 ((y.2.2).length)], .lit true], [.row (.f32 y.2.2) 0]))
theorem spec_FactorInverse_den (v43 : Int) (v44 : Int) (v45 : List Nat) (v46 : List Int) : (den TT (tabD spec_FactorInverse_tab) (tabM spec_FactorInverse_tab) (spec_FactorInverse_LO v43 v44 v45 v46) (codeOf Try.f61) ([.agg [.int .i64 v43, .int .i64 v44, .bslc (BR.root 0) (.f32 v45), .bslc (BR.root 1) (.i64 v46)]] ++ List.replicate (Try.f61.ntmps - ([.agg [.int .i64 v43, .int .i64 v44, .bslc (BR.root 0) (.f32 v45), .bslc (BR.root 1) (.i64 v46)]] : List DV).length) .undef) []).bind (retD TT Try.f61.results.toList 0) = (spec_FactorInverse_T v43 v44 v45 v46).bind fun y => .leaf (spec_FactorInverse_enc v43 v44 v45 v46 y) := by kernel_rfl
theorem spec_FactorInverse_fn (v43 : Int) (v44 : Int) (v45 : List Nat) (v46 : List Int) (F : Fr) (hm : F.ids.length = 0) (h0 : St F [] F.H0) (hA : DVs.Ok F [] [.agg [.int .i64 v43, .int .i64 v44, .bslc (BR.root 0) (.f32 v45), .bslc (BR.root 1) (.i64 v46)]]) {y : (Unit) ⊕ (Int × Int × (List Nat))} (hy : spec_FactorInverse_g v43 v44 v45 v46 = some y) : ∃ H', FnOk Try.prog 61 (DVs.av F [.agg [.int .i64 v43, .int .i64 v44, .bslc (BR.root 0) (.f32 v45), .bslc (BR.root 1) (.i64 v46)]]) F.H0 ((spec_FactorInverse_enc v43 v44 v45 v46 y).1.av F) H' ∧ St F (spec_FactorInverse_enc v43 v44 v45 v46 y).2 H' ∧ (spec_FactorInverse_enc v43 v44 v45 v46 y).1.Ok F (spec_FactorInverse_enc v43 v44 v45 v46 y).2 :=
  fn_fin tok spec_FactorInverse_hO mixed Try.func61 Try.call61 (by kernel_rfl) (LoopsOk_eq (l := []) (by kernel_rfl) trivial) (spec_FactorInverse_den v43 v44 v45 v46) hy hm h0 hA
noncomputable def spec_FactorInverse_F : DFn := fun args L =>
  match args with
  | [.agg [.int .i64 v43, .int .i64 v44, a1, a2]] =>
    optT (rowF32 L a1) fun v45 =>
    optT (rowI64 L a2) fun v46 =>
    .call (spec_FactorInverse_g v43 v44 v45 v46) fun y => .sum y (fun y0 => .leaf (.tup [.agg [.int .i64 (0 : Int), .int .i64 (0 : Int), .nilslc], .lit false], L)) (fun z0 => .leaf (.tup [.agg [.int .i64 z0.1, .int .i64 z0.2.1, .own (L.length + 0) 0 ((z0.2.2).length)], .lit true], L ++ [.row (.f32 z0.2.2) 0]))
  | _ => .fail
theorem spec_FactorInverse_Fok : COk Try.prog 61 spec_FactorInverse_F true := by
  intro F L H args r L' hs ha hr
  unfold spec_FactorInverse_F at hr
  split at hr
  · rename_i v43 v44 a1 a2
    obtain ⟨v45, hv45, hr⟩ := optT_run hr
    obtain ⟨v46, hv46, hr⟩ := optT_run hr
    simp only [Tree.run] at hr
    obtain ⟨y, hy, hr⟩ := Option.bind_eq_some_iff.1 hr
    cases y with
    | inl y =>
      simp only [Tree.run, Option.some.injEq, Prod.mk.injEq] at hr
      obtain ⟨rfl, rfl⟩ := hr
      exact call_ok0 hs (fun k => (([a1.av F, a2.av F] : List AV)[k]?).getD .top) [.agg [.int .i64 v43, .int .i64 v44, a1, a2]] [.agg [.int .i64 v43, .int .i64 v44, .bslc (BR.root 0) (.f32 v45), .bslc (BR.root 1) (.i64 v46)]] (fun F' h0 hi hρ => ⟨by simp [DVs.av, DV.av, BR.av, hρ], spec_FactorInverse_fn v43 v44 v45 v46 F' (by rw [hi]; rfl) (st_nil hi) ⟨⟨trivial, trivial, bslc_ok hi (by rw [h0, hρ]; exact rowF32_ok hs (DVs.okAt (DVs.okAt ha 0 rfl) 2 rfl) hv45), bslc_ok hi (by rw [h0, hρ]; exact rowI64_ok hs (DVs.okAt (DVs.okAt ha 0 rfl) 3 rfl) hv46), trivial⟩, trivial⟩ hy⟩) rfl
    | inr y =>
      simp only [Tree.run, Option.some.injEq, Prod.mk.injEq] at hr
      obtain ⟨rfl, rfl⟩ := hr
      exact call_ok1 hs (fun k => (([a1.av F, a2.av F] : List AV)[k]?).getD .top) [.agg [.int .i64 v43, .int .i64 v44, a1, a2]] [.agg [.int .i64 v43, .int .i64 v44, .bslc (BR.root 0) (.f32 v45), .bslc (BR.root 1) (.i64 v46)]] (fun F' h0 hi hρ => ⟨by simp [DVs.av, DV.av, BR.av, hρ], spec_FactorInverse_fn v43 v44 v45 v46 F' (by rw [hi]; rfl) (st_nil hi) ⟨⟨trivial, trivial, bslc_ok hi (by rw [h0, hρ]; exact rowF32_ok hs (DVs.okAt (DVs.okAt ha 0 rfl) 2 rfl) hv45), bslc_ok hi (by rw [h0, hρ]; exact rowI64_ok hs (DVs.okAt (DVs.okAt ha 0 rfl) 3 rfl) hv46), trivial⟩, trivial⟩ hy⟩) rfl rfl
  · cases hr
/-! impl.inRange -/
noncomputable def impl_inRange_LO (v317 : Int) (v318 : Int) (v319 : Int) : LOr := fun id e L =>
  match id with
  | _ => .fail
noncomputable def impl_inRange_tab : List (FuncId × DFn × Bool) := []
theorem impl_inRange_hO : OrcOk Try.prog (tabD impl_inRange_tab) (tabM impl_inRange_tab) := tabD_nil _
noncomputable def impl_inRange_T (v317 : Int) (v318 : Int) (v319 : Int) : Tree (Bool) :=
  (.br (decide (v318 ≤ v317)) (
   .leaf (decide (v317 ≤ v319))
  ) (
   .leaf false
  ))

noncomputable def impl_inRange_g (v317 : Int) (v318 : Int) (v319 : Int) : Option (Bool) := (impl_inRange_T v317 v318 v319).run
def impl_inRange_enc (v317 : Int) (v318 : Int) (v319 : Int) (y : Bool) : Rs := (.bool y, [])
theorem impl_inRange_den (v317 : Int) (v318 : Int) (v319 : Int) : (den TT (tabD impl_inRange_tab) (tabM impl_inRange_tab) (impl_inRange_LO v317 v318 v319) (codeOf Try.f72) ([.int .i64 v317, .int .i64 v318, .int .i64 v319] ++ List.replicate (Try.f72.ntmps - ([.int .i64 v317, .int .i64 v318, .int .i64 v319] : List DV).length) .undef) []).bind (retD TT Try.f72.results.toList 0) = (impl_inRange_T v317 v318 v319).bind fun y => .leaf (impl_inRange_enc v317 v318 v319 y) := by kernel_rfl
theorem impl_inRange_fn (v317 : Int) (v318 : Int) (v319 : Int) (F : Fr) (hm : F.ids.length = 0) (h0 : St F [] F.H0) (hA : DVs.Ok F [] [.int .i64 v317, .int .i64 v318, .int .i64 v319]) {y : Bool} (hy : impl_inRange_g v317 v318 v319 = some y) : ∃ H', FnOk Try.prog 72 (DVs.av F [.int .i64 v317, .int .i64 v318, .int .i64 v319]) F.H0 ((impl_inRange_enc v317 v318 v319 y).1.av F) H' ∧ St F (impl_inRange_enc v317 v318 v319 y).2 H' ∧ (impl_inRange_enc v317 v318 v319 y).1.Ok F (impl_inRange_enc v317 v318 v319 y).2 :=
  fn_fin tok impl_inRange_hO mixed Try.func72 Try.call72 (by kernel_rfl) (LoopsOk_eq (l := []) (by kernel_rfl) trivial) (impl_inRange_den v317 v318 v319) hy hm h0 hA
def impl_inRange_v (v317 : Int) (v318 : Int) (v319 : Int) : Bool :=
  if (decide (v318 ≤ v317)) = true then (
   decide (v317 ≤ v319)
  ) else (
   false
  )
theorem impl_inRange_tot (v317 : Int) (v318 : Int) (v319 : Int) : impl_inRange_g v317 v318 v319 = some (impl_inRange_v v317 v318 v319) := by
  unfold impl_inRange_g impl_inRange_T impl_inRange_v
  simp only [Tree.run]
  repeat' (first | rfl | split)
noncomputable def impl_inRange_F : DFn := fun args L =>
  match args with
  | [.int .i64 v317, .int .i64 v318, .int .i64 v319] =>
    .leaf (.bool (impl_inRange_v v317 v318 v319), L)
  | _ => .fail
theorem impl_inRange_Fok : COk Try.prog 72 impl_inRange_F true := by
  intro F L H args r L' hs ha hr
  unfold impl_inRange_F at hr
  split at hr
  · rename_i v317 v318 v319
    have hy := impl_inRange_tot v317 v318 v319
    generalize impl_inRange_v v317 v318 v319 = y at hy hr
    simp only [Tree.run, Option.some.injEq, Prod.mk.injEq] at hr
    obtain ⟨rfl, rfl⟩ := hr
    exact call_ok0 hs (fun k => (([] : List AV)[k]?).getD .top) [.int .i64 v317, .int .i64 v318, .int .i64 v319] [.int .i64 v317, .int .i64 v318, .int .i64 v319] (fun F' h0 hi hρ => ⟨by simp [DVs.av, DV.av, BR.av, hρ], impl_inRange_fn v317 v318 v319 F' (by rw [hi]; rfl) (st_nil hi) ⟨trivial, trivial, trivial, trivial⟩ hy⟩) rfl
  · cases hr
/-! impl.isSide -/
noncomputable def impl_isSide_LO (v316 : Int) : LOr := fun id e L =>
  match id with
  | _ => .fail
noncomputable def impl_isSide_tab : List (FuncId × DFn × Bool) := [(72, impl_inRange_F, true)]
theorem impl_isSide_hO : OrcOk Try.prog (tabD impl_isSide_tab) (tabM impl_isSide_tab) := tabD_cons impl_inRange_Fok (tabD_nil _)
noncomputable def impl_isSide_T (v316 : Int) : Tree (Bool) :=
  .leaf (impl_inRange_v v316 (1 : Int) (12 : Int))

noncomputable def impl_isSide_g (v316 : Int) : Option (Bool) := (impl_isSide_T v316).run
def impl_isSide_enc (v316 : Int) (y : Bool) : Rs := (.bool y, [])
theorem impl_isSide_den (v316 : Int) : (den TT (tabD impl_isSide_tab) (tabM impl_isSide_tab) (impl_isSide_LO v316) (codeOf Try.f146) ([.int .i64 v316] ++ List.replicate (Try.f146.ntmps - ([.int .i64 v316] : List DV).length) .undef) []).bind (retD TT Try.f146.results.toList 0) = (impl_isSide_T v316).bind fun y => .leaf (impl_isSide_enc v316 y) := by kernel_rfl
theorem impl_isSide_fn (v316 : Int) (F : Fr) (hm : F.ids.length = 0) (h0 : St F [] F.H0) (hA : DVs.Ok F [] [.int .i64 v316]) {y : Bool} (hy : impl_isSide_g v316 = some y) : ∃ H', FnOk Try.prog 146 (DVs.av F [.int .i64 v316]) F.H0 ((impl_isSide_enc v316 y).1.av F) H' ∧ St F (impl_isSide_enc v316 y).2 H' ∧ (impl_isSide_enc v316 y).1.Ok F (impl_isSide_enc v316 y).2 :=
  fn_fin tok impl_isSide_hO mixed Try.func146 Try.call146 (by kernel_rfl) (LoopsOk_eq (l := []) (by kernel_rfl) trivial) (impl_isSide_den v316) hy hm h0 hA
def impl_isSide_v (v316 : Int) : Bool :=
  (impl_inRange_v v316 (1 : Int) (12 : Int))
theorem impl_isSide_tot (v316 : Int) : impl_isSide_g v316 = some (impl_isSide_v v316) := by
  unfold impl_isSide_g impl_isSide_T impl_isSide_v
  simp only [Tree.run]
  repeat' (first | rfl | split)
noncomputable def impl_isSide_F : DFn := fun args L =>
  match args with
  | [.int .i64 v316] =>
    .leaf (.bool (impl_isSide_v v316), L)
  | _ => .fail
theorem impl_isSide_Fok : COk Try.prog 146 impl_isSide_F true := by
  intro F L H args r L' hs ha hr
  unfold impl_isSide_F at hr
  split at hr
  · rename_i v316
    have hy := impl_isSide_tot v316
    generalize impl_isSide_v v316 = y at hy hr
    simp only [Tree.run, Option.some.injEq, Prod.mk.injEq] at hr
    obtain ⟨rfl, rfl⟩ := hr
    exact call_ok0 hs (fun k => (([] : List AV)[k]?).getD .top) [.int .i64 v316] [.int .i64 v316] (fun F' h0 hi hρ => ⟨by simp [DVs.av, DV.av, BR.av, hρ], impl_isSide_fn v316 F' (by rw [hi]; rfl) (st_nil hi) ⟨trivial, trivial⟩ hy⟩) rfl
  · cases hr
/-! impl.length[float32] -/
noncomputable def impl_lengthF_LO (v320 : List Nat) : LOr := fun id e L =>
  match id with
  | _ => .fail
noncomputable def impl_lengthF_tab : List (FuncId × DFn × Bool) := []
theorem impl_lengthF_hO : OrcOk Try.prog (tabD impl_lengthF_tab) (tabM impl_lengthF_tab) := tabD_nil _
noncomputable def impl_lengthF_T (v320 : List Nat) : Tree (Int) :=
  .leaf ((v320.length : Nat) : Int)

noncomputable def impl_lengthF_g (v320 : List Nat) : Option (Int) := (impl_lengthF_T v320).run
def impl_lengthF_enc (v320 : List Nat) (y : Int) : Rs := (.int .i64 y, [])
theorem impl_lengthF_den (v320 : List Nat) : (den TT (tabD impl_lengthF_tab) (tabM impl_lengthF_tab) (impl_lengthF_LO v320) (codeOf Try.f134) ([.bslc (BR.root 0) (.f32 v320)] ++ List.replicate (Try.f134.ntmps - ([.bslc (BR.root 0) (.f32 v320)] : List DV).length) .undef) []).bind (retD TT Try.f134.results.toList 0) = (impl_lengthF_T v320).bind fun y => .leaf (impl_lengthF_enc v320 y) := by kernel_rfl
theorem impl_lengthF_fn (v320 : List Nat) (F : Fr) (hm : F.ids.length = 0) (h0 : St F [] F.H0) (hA : DVs.Ok F [] [.bslc (BR.root 0) (.f32 v320)]) {y : Int} (hy : impl_lengthF_g v320 = some y) : ∃ H', FnOk Try.prog 134 (DVs.av F [.bslc (BR.root 0) (.f32 v320)]) F.H0 ((impl_lengthF_enc v320 y).1.av F) H' ∧ St F (impl_lengthF_enc v320 y).2 H' ∧ (impl_lengthF_enc v320 y).1.Ok F (impl_lengthF_enc v320 y).2 :=
  fn_fin tok impl_lengthF_hO mixed Try.func134 Try.call134 (by kernel_rfl) (LoopsOk_eq (l := []) (by kernel_rfl) trivial) (impl_lengthF_den v320) hy hm h0 hA
def impl_lengthF_v (v320 : List Nat) : Int :=
  ((v320.length : Nat) : Int)
theorem impl_lengthF_tot (v320 : List Nat) : impl_lengthF_g v320 = some (impl_lengthF_v v320) := by
  unfold impl_lengthF_g impl_lengthF_T impl_lengthF_v
  simp only [Tree.run]
  repeat' (first | rfl | split)
noncomputable def impl_lengthF_F : DFn := fun args L =>
  match args with
  | [a1] =>
    optT (rowF32 L a1) fun v320 =>
    .leaf (.int .i64 (impl_lengthF_v v320), L)
  | _ => .fail
theorem impl_lengthF_Fok : COk Try.prog 134 impl_lengthF_F true := by
  intro F L H args r L' hs ha hr
  unfold impl_lengthF_F at hr
  split at hr
  · rename_i a1
    obtain ⟨v320, hv320, hr⟩ := optT_run hr
    have hy := impl_lengthF_tot v320
    generalize impl_lengthF_v v320 = y at hy hr
    simp only [Tree.run, Option.some.injEq, Prod.mk.injEq] at hr
    obtain ⟨rfl, rfl⟩ := hr
    exact call_ok0 hs (fun k => (([a1.av F] : List AV)[k]?).getD .top) [a1] [.bslc (BR.root 0) (.f32 v320)] (fun F' h0 hi hρ => ⟨by simp [DVs.av, DV.av, BR.av, hρ], impl_lengthF_fn v320 F' (by rw [hi]; rfl) (st_nil hi) ⟨bslc_ok hi (by rw [h0, hρ]; exact rowF32_ok hs (DVs.okAt ha 0 rfl) hv320), trivial⟩ hy⟩) rfl
  · cases hr
/-! math.IsNaN -/
noncomputable def math_IsNaN_LO (v328 : Nat) : LOr := fun id e L =>
  match id with
  | _ => .fail
noncomputable def math_IsNaN_tab : List (FuncId × DFn × Bool) := []
theorem math_IsNaN_hO : OrcOk Try.prog (tabD math_IsNaN_tab) (tabM math_IsNaN_tab) := tabD_nil _
noncomputable def math_IsNaN_T (v328 : Nat) : Tree (Bool) :=
  .leaf (!feq .f64 v328 v328)

noncomputable def math_IsNaN_g (v328 : Nat) : Option (Bool) := (math_IsNaN_T v328).run
def math_IsNaN_enc (v328 : Nat) (y : Bool) : Rs := (.bool y, [])
theorem math_IsNaN_den (v328 : Nat) : (den TT (tabD math_IsNaN_tab) (tabM math_IsNaN_tab) (math_IsNaN_LO v328) (codeOf Try.f169) ([.flt .f64 v328] ++ List.replicate (Try.f169.ntmps - ([.flt .f64 v328] : List DV).length) .undef) []).bind (retD TT Try.f169.results.toList 0) = (math_IsNaN_T v328).bind fun y => .leaf (math_IsNaN_enc v328 y) := by kernel_rfl
theorem math_IsNaN_fn (v328 : Nat) (F : Fr) (hm : F.ids.length = 0) (h0 : St F [] F.H0) (hA : DVs.Ok F [] [.flt .f64 v328]) {y : Bool} (hy : math_IsNaN_g v328 = some y) : ∃ H', FnOk Try.prog 169 (DVs.av F [.flt .f64 v328]) F.H0 ((math_IsNaN_enc v328 y).1.av F) H' ∧ St F (math_IsNaN_enc v328 y).2 H' ∧ (math_IsNaN_enc v328 y).1.Ok F (math_IsNaN_enc v328 y).2 :=
  fn_fin tok math_IsNaN_hO mixed Try.func169 Try.call169 (by kernel_rfl) (LoopsOk_eq (l := []) (by kernel_rfl) trivial) (math_IsNaN_den v328) hy hm h0 hA
def math_IsNaN_v (v328 : Nat) : Bool :=
  !feq .f64 v328 v328
theorem math_IsNaN_tot (v328 : Nat) : math_IsNaN_g v328 = some (math_IsNaN_v v328) := by
  unfold math_IsNaN_g math_IsNaN_T math_IsNaN_v
  simp only [Tree.run]
  repeat' (first | rfl | split)
noncomputable def math_IsNaN_F : DFn := fun args L =>
  match args with
  | [.flt .f64 v328] =>
    .leaf (.bool (math_IsNaN_v v328), L)
  | _ => .fail
theorem math_IsNaN_Fok : COk Try.prog 169 math_IsNaN_F true := by
  intro F L H args r L' hs ha hr
  unfold math_IsNaN_F at hr
  split at hr
  · rename_i v328
    have hy := math_IsNaN_tot v328
    generalize math_IsNaN_v v328 = y at hy hr
    simp only [Tree.run, Option.some.injEq, Prod.mk.injEq] at hr
    obtain ⟨rfl, rfl⟩ := hr
    exact call_ok0 hs (fun k => (([] : List AV)[k]?).getD .top) [.flt .f64 v328] [.flt .f64 v328] (fun F' h0 hi hρ => ⟨by simp [DVs.av, DV.av, BR.av, hρ], math_IsNaN_fn v328 F' (by rw [hi]; rfl) (st_nil hi) ⟨trivial, trivial⟩ hy⟩) rfl
  · cases hr
/-! math.IsInf -/
noncomputable def math_IsInf_LO (v329 : Nat) (v330 : Int) : LOr := fun id e L =>
  match id with
  | _ => .fail
noncomputable def math_IsInf_tab : List (FuncId × DFn × Bool) := [(104, Abs_F, true)]
theorem math_IsInf_hO : OrcOk Try.prog (tabD math_IsInf_tab) (tabM math_IsInf_tab) := tabD_cons Abs_Fok (tabD_nil _)
noncomputable def math_IsInf_T (v329 : Nat) (v330 : Int) : Tree (Bool) :=
  (.br (decide (v330 = (0 : Int))) (
   .leaf (fgrt .f64 (fabs v329) (9218868437227405311 : Nat))
  ) (
   (.br (decide (v330 < (0 : Int))) (
    .leaf (fgrt .f64 (fneg .f64 v329) (9218868437227405311 : Nat))
   ) (
    .leaf (fgrt .f64 v329 (9218868437227405311 : Nat))
   ))
  ))

noncomputable def math_IsInf_g (v329 : Nat) (v330 : Int) : Option (Bool) := (math_IsInf_T v329 v330).run
def math_IsInf_enc (v329 : Nat) (v330 : Int) (y : Bool) : Rs := (.bool y, [])
theorem math_IsInf_den (v329 : Nat) (v330 : Int) : (den TT (tabD math_IsInf_tab) (tabM math_IsInf_tab) (math_IsInf_LO v329 v330) (codeOf Try.f170) ([.flt .f64 v329, .int .i64 v330] ++ List.replicate (Try.f170.ntmps - ([.flt .f64 v329, .int .i64 v330] : List DV).length) .undef) []).bind (retD TT Try.f170.results.toList 0) = (math_IsInf_T v329 v330).bind fun y => .leaf (math_IsInf_enc v329 v330 y) := by kernel_rfl
theorem math_IsInf_fn (v329 : Nat) (v330 : Int) (F : Fr) (hm : F.ids.length = 0) (h0 : St F [] F.H0) (hA : DVs.Ok F [] [.flt .f64 v329, .int .i64 v330]) {y : Bool} (hy : math_IsInf_g v329 v330 = some y) : ∃ H', FnOk Try.prog 170 (DVs.av F [.flt .f64 v329, .int .i64 v330]) F.H0 ((math_IsInf_enc v329 v330 y).1.av F) H' ∧ St F (math_IsInf_enc v329 v330 y).2 H' ∧ (math_IsInf_enc v329 v330 y).1.Ok F (math_IsInf_enc v329 v330 y).2 :=
  fn_fin tok math_IsInf_hO mixed Try.func170 Try.call170 (by kernel_rfl) (LoopsOk_eq (l := []) (by kernel_rfl) trivial) (math_IsInf_den v329 v330) hy hm h0 hA
def math_IsInf_v (v329 : Nat) (v330 : Int) : Bool :=
  if (decide (v330 = (0 : Int))) = true then (
   fgrt .f64 (fabs v329) (9218868437227405311 : Nat)
  ) else (
   if (decide (v330 < (0 : Int))) = true then (
    fgrt .f64 (fneg .f64 v329) (9218868437227405311 : Nat)
   ) else (
    fgrt .f64 v329 (9218868437227405311 : Nat)
   )
  )
theorem math_IsInf_tot (v329 : Nat) (v330 : Int) : math_IsInf_g v329 v330 = some (math_IsInf_v v329 v330) := by
  unfold math_IsInf_g math_IsInf_T math_IsInf_v
  simp only [Tree.run]
  repeat' (first | rfl | split)
noncomputable def math_IsInf_F : DFn := fun args L =>
  match args with
  | [.flt .f64 v329, .int .i64 v330] =>
    .leaf (.bool (math_IsInf_v v329 v330), L)
  | _ => .fail
theorem math_IsInf_Fok : COk Try.prog 170 math_IsInf_F true := by
  intro F L H args r L' hs ha hr
  unfold math_IsInf_F at hr
  split at hr
  · rename_i v329 v330
    have hy := math_IsInf_tot v329 v330
    generalize math_IsInf_v v329 v330 = y at hy hr
    simp only [Tree.run, Option.some.injEq, Prod.mk.injEq] at hr
    obtain ⟨rfl, rfl⟩ := hr
    exact call_ok0 hs (fun k => (([] : List AV)[k]?).getD .top) [.flt .f64 v329, .int .i64 v330] [.flt .f64 v329, .int .i64 v330] (fun F' h0 hi hρ => ⟨by simp [DVs.av, DV.av, BR.av, hρ], math_IsInf_fn v329 v330 F' (by rw [hi]; rfl) (st_nil hi) ⟨trivial, trivial, trivial⟩ hy⟩) rfl
  · cases hr
/-! impl.isFinite64 -/
noncomputable def impl_isFinite64_LO (v327 : Nat) : LOr := fun id e L =>
  match id with
  | _ => .fail
noncomputable def impl_isFinite64_tab : List (FuncId × DFn × Bool) := [(169, math_IsNaN_F, true), (170, math_IsInf_F, true)]
theorem impl_isFinite64_hO : OrcOk Try.prog (tabD impl_isFinite64_tab) (tabM impl_isFinite64_tab) := tabD_cons math_IsNaN_Fok (tabD_cons math_IsInf_Fok (tabD_nil _))
noncomputable def impl_isFinite64_T (v327 : Nat) : Tree (Bool) :=
  (.br (!(math_IsNaN_v v327)) (
   .leaf (!(math_IsInf_v v327 (0 : Int)))
  ) (
   .leaf false
  ))

noncomputable def impl_isFinite64_g (v327 : Nat) : Option (Bool) := (impl_isFinite64_T v327).run
def impl_isFinite64_enc (v327 : Nat) (y : Bool) : Rs := (.bool y, [])
theorem impl_isFinite64_den (v327 : Nat) : (den TT (tabD impl_isFinite64_tab) (tabM impl_isFinite64_tab) (impl_isFinite64_LO v327) (codeOf Try.f151) ([.flt .f64 v327] ++ List.replicate (Try.f151.ntmps - ([.flt .f64 v327] : List DV).length) .undef) []).bind (retD TT Try.f151.results.toList 0) = (impl_isFinite64_T v327).bind fun y => .leaf (impl_isFinite64_enc v327 y) := by kernel_rfl
theorem impl_isFinite64_fn (v327 : Nat) (F : Fr) (hm : F.ids.length = 0) (h0 : St F [] F.H0) (hA : DVs.Ok F [] [.flt .f64 v327]) {y : Bool} (hy : impl_isFinite64_g v327 = some y) : ∃ H', FnOk Try.prog 151 (DVs.av F [.flt .f64 v327]) F.H0 ((impl_isFinite64_enc v327 y).1.av F) H' ∧ St F (impl_isFinite64_enc v327 y).2 H' ∧ (impl_isFinite64_enc v327 y).1.Ok F (impl_isFinite64_enc v327 y).2 :=
  fn_fin tok impl_isFinite64_hO mixed Try.func151 Try.call151 (by kernel_rfl) (LoopsOk_eq (l := []) (by kernel_rfl) trivial) (impl_isFinite64_den v327) hy hm h0 hA
def impl_isFinite64_v (v327 : Nat) : Bool :=
  if (!(math_IsNaN_v v327)) = true then (
   !(math_IsInf_v v327 (0 : Int))
  ) else (
   false
  )
theorem impl_isFinite64_tot (v327 : Nat) : impl_isFinite64_g v327 = some (impl_isFinite64_v v327) := by
  unfold impl_isFinite64_g impl_isFinite64_T impl_isFinite64_v
  simp only [Tree.run]
  repeat' (first | rfl | split)
noncomputable def impl_isFinite64_F : DFn := fun args L =>
  match args with
  | [.flt .f64 v327] =>
    .leaf (.bool (impl_isFinite64_v v327), L)
  | _ => .fail
theorem impl_isFinite64_Fok : COk Try.prog 151 impl_isFinite64_F true := by
  intro F L H args r L' hs ha hr
  unfold impl_isFinite64_F at hr
  split at hr
  · rename_i v327
    have hy := impl_isFinite64_tot v327
    generalize impl_isFinite64_v v327 = y at hy hr
    simp only [Tree.run, Option.some.injEq, Prod.mk.injEq] at hr
    obtain ⟨rfl, rfl⟩ := hr
    exact call_ok0 hs (fun k => (([] : List AV)[k]?).getD .top) [.flt .f64 v327] [.flt .f64 v327] (fun F' h0 hi hρ => ⟨by simp [DVs.av, DV.av, BR.av, hρ], impl_isFinite64_fn v327 F' (by rw [hi]; rfl) (st_nil hi) ⟨trivial, trivial⟩ hy⟩) rfl
  · cases hr
/-! impl.IsFinite -/
noncomputable def impl_IsFinite_LO (v326 : Nat) : LOr := fun id e L =>
  match id with
  | _ => .fail
noncomputable def impl_IsFinite_tab : List (FuncId × DFn × Bool) := [(151, impl_isFinite64_F, true)]
theorem impl_IsFinite_hO : OrcOk Try.prog (tabD impl_IsFinite_tab) (tabM impl_IsFinite_tab) := tabD_cons impl_isFinite64_Fok (tabD_nil _)
noncomputable def impl_IsFinite_T (v326 : Nat) : Tree (Bool) :=
  .leaf (impl_isFinite64_v (wid v326))

noncomputable def impl_IsFinite_g (v326 : Nat) : Option (Bool) := (impl_IsFinite_T v326).run
def impl_IsFinite_enc (v326 : Nat) (y : Bool) : Rs := (.bool y, [])
theorem impl_IsFinite_den (v326 : Nat) : (den TT (tabD impl_IsFinite_tab) (tabM impl_IsFinite_tab) (impl_IsFinite_LO v326) (codeOf Try.f103) ([.flt .f32 v326] ++ List.replicate (Try.f103.ntmps - ([.flt .f32 v326] : List DV).length) .undef) []).bind (retD TT Try.f103.results.toList 0) = (impl_IsFinite_T v326).bind fun y => .leaf (impl_IsFinite_enc v326 y) := by kernel_rfl
theorem impl_IsFinite_fn (v326 : Nat) (F : Fr) (hm : F.ids.length = 0) (h0 : St F [] F.H0) (hA : DVs.Ok F [] [.flt .f32 v326]) {y : Bool} (hy : impl_IsFinite_g v326 = some y) : ∃ H', FnOk Try.prog 103 (DVs.av F [.flt .f32 v326]) F.H0 ((impl_IsFinite_enc v326 y).1.av F) H' ∧ St F (impl_IsFinite_enc v326 y).2 H' ∧ (impl_IsFinite_enc v326 y).1.Ok F (impl_IsFinite_enc v326 y).2 :=
  fn_fin tok impl_IsFinite_hO mixed Try.func103 Try.call103 (by kernel_rfl) (LoopsOk_eq (l := []) (by kernel_rfl) trivial) (impl_IsFinite_den v326) hy hm h0 hA
def impl_IsFinite_v (v326 : Nat) : Bool :=
  (impl_isFinite64_v (wid v326))
theorem impl_IsFinite_tot (v326 : Nat) : impl_IsFinite_g v326 = some (impl_IsFinite_v v326) := by
  unfold impl_IsFinite_g impl_IsFinite_T impl_IsFinite_v
  simp only [Tree.run]
  repeat' (first | rfl | split)
noncomputable def impl_IsFinite_F : DFn := fun args L =>
  match args with
  | [.flt .f32 v326] =>
    .leaf (.bool (impl_IsFinite_v v326), L)
  | _ => .fail
theorem impl_IsFinite_Fok : COk Try.prog 103 impl_IsFinite_F true := by
  intro F L H args r L' hs ha hr
  unfold impl_IsFinite_F at hr
  split at hr
  · rename_i v326
    have hy := impl_IsFinite_tot v326
    generalize impl_IsFinite_v v326 = y at hy hr
    simp only [Tree.run, Option.some.injEq, Prod.mk.injEq] at hr
    obtain ⟨rfl, rfl⟩ := hr
    exact call_ok0 hs (fun k => (([] : List AV)[k]?).getD .top) [.flt .f32 v326] [.flt .f32 v326] (fun F' h0 hi hρ => ⟨by simp [DVs.av, DV.av, BR.av, hρ], impl_IsFinite_fn v326 F' (by rw [hi]; rfl) (st_nil hi) ⟨trivial, trivial⟩ hy⟩) rfl
  · cases hr
/-! impl.areFinite$1 -/
noncomputable def impl_areFinite_1_LO (v325 : Nat) : LOr := fun id e L =>
  match id with
  | _ => .fail
noncomputable def impl_areFinite_1_tab : List (FuncId × DFn × Bool) := [(103, impl_IsFinite_F, true)]
theorem impl_areFinite_1_hO : OrcOk Try.prog (tabD impl_areFinite_1_tab) (tabM impl_areFinite_1_tab) := tabD_cons impl_IsFinite_Fok (tabD_nil _)
noncomputable def impl_areFinite_1_T (v325 : Nat) : Tree (Bool) :=
  .leaf (!(impl_IsFinite_v v325))

noncomputable def impl_areFinite_1_g (v325 : Nat) : Option (Bool) := (impl_areFinite_1_T v325).run
def impl_areFinite_1_enc (v325 : Nat) (y : Bool) : Rs := (.bool y, [])
theorem impl_areFinite_1_den (v325 : Nat) : (den TT (tabD impl_areFinite_1_tab) (tabM impl_areFinite_1_tab) (impl_areFinite_1_LO v325) (codeOf Try.f165) ([.flt .f32 v325] ++ List.replicate (Try.f165.ntmps - ([.flt .f32 v325] : List DV).length) .undef) []).bind (retD TT Try.f165.results.toList 0) = (impl_areFinite_1_T v325).bind fun y => .leaf (impl_areFinite_1_enc v325 y) := by kernel_rfl
theorem impl_areFinite_1_fn (v325 : Nat) (F : Fr) (hm : F.ids.length = 0) (h0 : St F [] F.H0) (hA : DVs.Ok F [] [.flt .f32 v325]) {y : Bool} (hy : impl_areFinite_1_g v325 = some y) : ∃ H', FnOk Try.prog 165 (DVs.av F [.flt .f32 v325]) F.H0 ((impl_areFinite_1_enc v325 y).1.av F) H' ∧ St F (impl_areFinite_1_enc v325 y).2 H' ∧ (impl_areFinite_1_enc v325 y).1.Ok F (impl_areFinite_1_enc v325 y).2 :=
  fn_fin tok impl_areFinite_1_hO mixed Try.func165 Try.call165 (by kernel_rfl) (LoopsOk_eq (l := []) (by kernel_rfl) trivial) (impl_areFinite_1_den v325) hy hm h0 hA
def impl_areFinite_1_v (v325 : Nat) : Bool :=
  !(impl_IsFinite_v v325)
theorem impl_areFinite_1_tot (v325 : Nat) : impl_areFinite_1_g v325 = some (impl_areFinite_1_v v325) := by
  unfold impl_areFinite_1_g impl_areFinite_1_T impl_areFinite_1_v
  simp only [Tree.run]
  repeat' (first | rfl | split)
noncomputable def impl_areFinite_1_F : DFn := fun args L =>
  match args with
  | [.flt .f32 v325] =>
    .leaf (.bool (impl_areFinite_1_v v325), L)
  | _ => .fail
theorem impl_areFinite_1_Fok : COk Try.prog 165 impl_areFinite_1_F true := by
  intro F L H args r L' hs ha hr
  unfold impl_areFinite_1_F at hr
  split at hr
  · rename_i v325
    have hy := impl_areFinite_1_tot v325
    generalize impl_areFinite_1_v v325 = y at hy hr
    simp only [Tree.run, Option.some.injEq, Prod.mk.injEq] at hr
    obtain ⟨rfl, rfl⟩ := hr
    exact call_ok0 hs (fun k => (([] : List AV)[k]?).getD .top) [.flt .f32 v325] [.flt .f32 v325] (fun F' h0 hi hρ => ⟨by simp [DVs.av, DV.av, BR.av, hρ], impl_areFinite_1_fn v325 F' (by rw [hi]; rfl) (st_nil hi) ⟨trivial, trivial⟩ hy⟩) rfl
  · cases hr
/-! slices.IndexFunc[list of float32,float32] -/
noncomputable def slices_IndexFuncF_l0_T (v323 : List Nat) (s : Int) : Tree ((Int) ⊕ ((Int) ⊕ (Unit))) :=
  (.br (decide (s < ((v323.length : Nat) : Int))) (
   (.grd (inb s v323.length) <|
   (.br (impl_areFinite_1_v (nth v323 (Int.toNat s))) (
    .leaf (.inr (.inl s))
   ) (
    .leaf (.inl (IntKind.i64.wrap (s + (1 : Int))))
   )))
  ) (
   .leaf (.inr (.inr ()))
  ))

noncomputable def slices_IndexFuncF_l0_g (v323 : List Nat) (s0 : Int) : Option ((Int) ⊕ (Unit)) := whileM (fun s => (slices_IndexFuncF_l0_T v323 s).run) s0
def slices_IndexFuncF_l0_E (v323 : List Nat) (s : Int) : Sd := ([.bslc (BR.root 0) (.f32 v323), .fn 165 [], .top, .top, .top, .top, .top, .int .i64 ((v323.length : Nat) : Int), .int .i64 s, .top, .top, .top, .top, .top, .top, .top, .top, .top, .top], [])
def slices_IndexFuncF_l0_X (v323 : List Nat) (x : (Int) ⊕ (Unit)) : Out := (match x with | .inl x => (.ret, [.top, .top, .top, .top, .int .i64 x, .top, .top, .top, .top, .top, .top, .top, .top, .top, .top, .top, .top, .top, .top], []) | .inr x => (.normal, [.top, .top, .top, .top, .top, .top, .top, .top, .top, .top, .top, .top, .top, .top, .top, .top, .top, .top, .top], []))
def slices_IndexFuncF_l0_kill : List Nat := [0, 0, 1, 1, 1, 1, 1, 0, 0, 1, 1, 1, 1, 1, 1, 1, 1, 1, 1]
def slices_IndexFuncF_l0_nx : Exit → List Nat
  | .exit 0 => [1, 1, 1, 1, 1, 1, 1, 1, 1, 1, 1, 1, 1, 1, 1, 1, 1, 1, 1]
  | .ret => [1, 1, 1, 1, 0, 1, 1, 1, 1, 1, 1, 1, 1, 1, 1, 1, 1, 1, 1]
  | _ => []
noncomputable def slices_IndexFuncF_LO (v323 : List Nat) : LOr := fun id e L =>
  match id with
  | 0 => .need (normA 0 slices_IndexFuncF_l0_kill e L = some (slices_IndexFuncF_l0_E v323 (gI (vAt e 8)))) (.call (slices_IndexFuncF_l0_g v323 (gI (vAt e 8))) fun x => .sum x (fun b0 => .leaf (slices_IndexFuncF_l0_X v323 (.inl b0))) (fun c0 => .leaf (slices_IndexFuncF_l0_X v323 (.inr c0))))
  | _ => .fail
noncomputable def slices_IndexFuncF_tab : List (FuncId × DFn × Bool) := [(165, impl_areFinite_1_F, true)]
theorem slices_IndexFuncF_hO : OrcOk Try.prog (tabD slices_IndexFuncF_tab) (tabM slices_IndexFuncF_tab) := tabD_cons impl_areFinite_1_Fok (tabD_nil _)
theorem slices_IndexFuncF_l0_be (v323 : List Nat) (s : Int) : bodyT TT (tabD slices_IndexFuncF_tab) (tabM slices_IndexFuncF_tab) (slices_IndexFuncF_LO v323) 0 slices_IndexFuncF_l0_kill slices_IndexFuncF_l0_nx (bodyOf Try.f178 0) 0 (slices_IndexFuncF_l0_E v323 s) = (slices_IndexFuncF_l0_T v323 s).bind fun y => .leaf (outS (slices_IndexFuncF_l0_E v323) (slices_IndexFuncF_l0_X v323) y) := by kernel_rfl
theorem slices_IndexFuncF_l0_ok (v323 : List Nat) : LSound Try.prog 0 (slices_IndexFuncF_LO v323) 0 (bodyOf Try.f178 0) := by
  intro e L out h
  exact lo_ok (E := slices_IndexFuncF_l0_E v323) (gT := slices_IndexFuncF_l0_T v323) (X := slices_IndexFuncF_l0_X v323) (s0 := (gI (vAt e 8))) tok slices_IndexFuncF_hO mixed (LoopsOk_eq (l := []) (by kernel_rfl) trivial) (slices_IndexFuncF_l0_be v323) rfl (by intro x; (cases x with | inl b => rfl | inr x => exact rfl)) h
noncomputable def slices_IndexFuncF_T (v323 : List Nat) : Tree (Int) :=
  (.need (some (slices_IndexFuncF_l0_E v323 (0 : Int)) = some (slices_IndexFuncF_l0_E v323 (0 : Int))) <|
  (.call (slices_IndexFuncF_l0_g v323 (0 : Int)) fun v333 =>
  (.sum v333 (fun v334 =>
   .leaf v334
  ) (fun v335 =>
   .leaf (-1 : Int)
  ))))

noncomputable def slices_IndexFuncF_g (v323 : List Nat) : Option (Int) := (slices_IndexFuncF_T v323).run
def slices_IndexFuncF_enc (v323 : List Nat) (y : Int) : Rs := (.int .i64 y, [])
theorem slices_IndexFuncF_den (v323 : List Nat) : (den TT (tabD slices_IndexFuncF_tab) (tabM slices_IndexFuncF_tab) (slices_IndexFuncF_LO v323) (codeOf Try.f178) ([.bslc (BR.root 0) (.f32 v323), .fn 165 []] ++ List.replicate (Try.f178.ntmps - ([.bslc (BR.root 0) (.f32 v323), .fn 165 []] : List DV).length) .undef) []).bind (retD TT Try.f178.results.toList 0) = (slices_IndexFuncF_T v323).bind fun y => .leaf (slices_IndexFuncF_enc v323 y) := by kernel_rfl
theorem slices_IndexFuncF_fn (v323 : List Nat) (F : Fr) (hm : F.ids.length = 0) (h0 : St F [] F.H0) (hA : DVs.Ok F [] [.bslc (BR.root 0) (.f32 v323), .fn 165 []]) {y : Int} (hy : slices_IndexFuncF_g v323 = some y) : ∃ H', FnOk Try.prog 178 (DVs.av F [.bslc (BR.root 0) (.f32 v323), .fn 165 []]) F.H0 ((slices_IndexFuncF_enc v323 y).1.av F) H' ∧ St F (slices_IndexFuncF_enc v323 y).2 H' ∧ (slices_IndexFuncF_enc v323 y).1.Ok F (slices_IndexFuncF_enc v323 y).2 :=
  fn_fin tok slices_IndexFuncF_hO mixed Try.func178 Try.call178 (by kernel_rfl) (LoopsOk_eq (l := [(0, bodyOf Try.f178 0)]) (by kernel_rfl) ⟨slices_IndexFuncF_l0_ok v323, trivial⟩) (slices_IndexFuncF_den v323) hy hm h0 hA
noncomputable def slices_IndexFuncF_F : DFn := fun args L =>
  match args with
  | [a1, .fn 165 []] =>
    optT (rowF32 L a1) fun v323 =>
    .call (slices_IndexFuncF_g v323) fun y => .leaf (.int .i64 y, L)
  | _ => .fail
theorem slices_IndexFuncF_Fok : COk Try.prog 178 slices_IndexFuncF_F true := by
  intro F L H args r L' hs ha hr
  unfold slices_IndexFuncF_F at hr
  split at hr
  · rename_i a1
    obtain ⟨v323, hv323, hr⟩ := optT_run hr
    simp only [Tree.run] at hr
    obtain ⟨y, hy, hr⟩ := Option.bind_eq_some_iff.1 hr
    simp only [Tree.run, Option.some.injEq, Prod.mk.injEq] at hr
    obtain ⟨rfl, rfl⟩ := hr
    exact call_ok0 hs (fun k => (([a1.av F] : List AV)[k]?).getD .top) [a1, .fn 165 []] [.bslc (BR.root 0) (.f32 v323), .fn 165 []] (fun F' h0 hi hρ => ⟨by simp [DVs.av, DV.av, BR.av, hρ], slices_IndexFuncF_fn v323 F' (by rw [hi]; rfl) (st_nil hi) ⟨bslc_ok hi (by rw [h0, hρ]; exact rowF32_ok hs (DVs.okAt ha 0 rfl) hv323), trivial, trivial⟩ hy⟩) rfl
  · cases hr
/-! slices.ContainsFunc[list of float32,float32] -/
noncomputable def slices_ContainsFuncF_LO (v322 : List Nat) : LOr := fun id e L =>
  match id with
  | _ => .fail
noncomputable def slices_ContainsFuncF_tab : List (FuncId × DFn × Bool) := [(178, slices_IndexFuncF_F, true)]
theorem slices_ContainsFuncF_hO : OrcOk Try.prog (tabD slices_ContainsFuncF_tab) (tabM slices_ContainsFuncF_tab) := tabD_cons slices_IndexFuncF_Fok (tabD_nil _)
noncomputable def slices_ContainsFuncF_T (v322 : List Nat) : Tree (Bool) :=
  (.call (slices_IndexFuncF_g v322) fun v336 =>
  .leaf (decide ((0 : Int) ≤ v336)))

noncomputable def slices_ContainsFuncF_g (v322 : List Nat) : Option (Bool) := (slices_ContainsFuncF_T v322).run
def slices_ContainsFuncF_enc (v322 : List Nat) (y : Bool) : Rs := (.bool y, [])
theorem slices_ContainsFuncF_den (v322 : List Nat) : (den TT (tabD slices_ContainsFuncF_tab) (tabM slices_ContainsFuncF_tab) (slices_ContainsFuncF_LO v322) (codeOf Try.f164) ([.bslc (BR.root 0) (.f32 v322), .fn 165 []] ++ List.replicate (Try.f164.ntmps - ([.bslc (BR.root 0) (.f32 v322), .fn 165 []] : List DV).length) .undef) []).bind (retD TT Try.f164.results.toList 0) = (slices_ContainsFuncF_T v322).bind fun y => .leaf (slices_ContainsFuncF_enc v322 y) := by kernel_rfl
theorem slices_ContainsFuncF_fn (v322 : List Nat) (F : Fr) (hm : F.ids.length = 0) (h0 : St F [] F.H0) (hA : DVs.Ok F [] [.bslc (BR.root 0) (.f32 v322), .fn 165 []]) {y : Bool} (hy : slices_ContainsFuncF_g v322 = some y) : ∃ H', FnOk Try.prog 164 (DVs.av F [.bslc (BR.root 0) (.f32 v322), .fn 165 []]) F.H0 ((slices_ContainsFuncF_enc v322 y).1.av F) H' ∧ St F (slices_ContainsFuncF_enc v322 y).2 H' ∧ (slices_ContainsFuncF_enc v322 y).1.Ok F (slices_ContainsFuncF_enc v322 y).2 :=
  fn_fin tok slices_ContainsFuncF_hO mixed Try.func164 Try.call164 (by kernel_rfl) (LoopsOk_eq (l := []) (by kernel_rfl) trivial) (slices_ContainsFuncF_den v322) hy hm h0 hA
noncomputable def slices_ContainsFuncF_F : DFn := fun args L =>
  match args with
  | [a1, .fn 165 []] =>
    optT (rowF32 L a1) fun v322 =>
    .call (slices_ContainsFuncF_g v322) fun y => .leaf (.bool y, L)
  | _ => .fail
theorem slices_ContainsFuncF_Fok : COk Try.prog 164 slices_ContainsFuncF_F true := by
  intro F L H args r L' hs ha hr
  unfold slices_ContainsFuncF_F at hr
  split at hr
  · rename_i a1
    obtain ⟨v322, hv322, hr⟩ := optT_run hr
    simp only [Tree.run] at hr
    obtain ⟨y, hy, hr⟩ := Option.bind_eq_some_iff.1 hr
    simp only [Tree.run, Option.some.injEq, Prod.mk.injEq] at hr
    obtain ⟨rfl, rfl⟩ := hr
    exact call_ok0 hs (fun k => (([a1.av F] : List AV)[k]?).getD .top) [a1, .fn 165 []] [.bslc (BR.root 0) (.f32 v322), .fn 165 []] (fun F' h0 hi hρ => ⟨by simp [DVs.av, DV.av, BR.av, hρ], slices_ContainsFuncF_fn v322 F' (by rw [hi]; rfl) (st_nil hi) ⟨bslc_ok hi (by rw [h0, hρ]; exact rowF32_ok hs (DVs.okAt ha 0 rfl) hv322), trivial, trivial⟩ hy⟩) rfl
  · cases hr
/-! impl.areFinite -/
noncomputable def impl_areFinite_LO (v321 : List Nat) : LOr := fun id e L =>
  match id with
  | _ => .fail
noncomputable def impl_areFinite_tab : List (FuncId × DFn × Bool) := [(164, slices_ContainsFuncF_F, true)]
theorem impl_areFinite_hO : OrcOk Try.prog (tabD impl_areFinite_tab) (tabM impl_areFinite_tab) := tabD_cons slices_ContainsFuncF_Fok (tabD_nil _)
noncomputable def impl_areFinite_T (v321 : List Nat) : Tree (Bool) :=
  (.call (slices_ContainsFuncF_g v321) fun v337 =>
  .leaf (!v337))

noncomputable def impl_areFinite_g (v321 : List Nat) : Option (Bool) := (impl_areFinite_T v321).run
def impl_areFinite_enc (v321 : List Nat) (y : Bool) : Rs := (.bool y, [])
theorem impl_areFinite_den (v321 : List Nat) : (den TT (tabD impl_areFinite_tab) (tabM impl_areFinite_tab) (impl_areFinite_LO v321) (codeOf Try.f135) ([.bslc (BR.root 0) (.f32 v321)] ++ List.replicate (Try.f135.ntmps - ([.bslc (BR.root 0) (.f32 v321)] : List DV).length) .undef) []).bind (retD TT Try.f135.results.toList 0) = (impl_areFinite_T v321).bind fun y => .leaf (impl_areFinite_enc v321 y) := by kernel_rfl
theorem impl_areFinite_fn (v321 : List Nat) (F : Fr) (hm : F.ids.length = 0) (h0 : St F [] F.H0) (hA : DVs.Ok F [] [.bslc (BR.root 0) (.f32 v321)]) {y : Bool} (hy : impl_areFinite_g v321 = some y) : ∃ H', FnOk Try.prog 135 (DVs.av F [.bslc (BR.root 0) (.f32 v321)]) F.H0 ((impl_areFinite_enc v321 y).1.av F) H' ∧ St F (impl_areFinite_enc v321 y).2 H' ∧ (impl_areFinite_enc v321 y).1.Ok F (impl_areFinite_enc v321 y).2 :=
  fn_fin tok impl_areFinite_hO mixed Try.func135 Try.call135 (by kernel_rfl) (LoopsOk_eq (l := []) (by kernel_rfl) trivial) (impl_areFinite_den v321) hy hm h0 hA
noncomputable def impl_areFinite_F : DFn := fun args L =>
  match args with
  | [a1] =>
    optT (rowF32 L a1) fun v321 =>
    .call (impl_areFinite_g v321) fun y => .leaf (.bool y, L)
  | _ => .fail
theorem impl_areFinite_Fok : COk Try.prog 135 impl_areFinite_F true := by
  intro F L H args r L' hs ha hr
  unfold impl_areFinite_F at hr
  split at hr
  · rename_i a1
    obtain ⟨v321, hv321, hr⟩ := optT_run hr
    simp only [Tree.run] at hr
    obtain ⟨y, hy, hr⟩ := Option.bind_eq_some_iff.1 hr
    simp only [Tree.run, Option.some.injEq, Prod.mk.injEq] at hr
    obtain ⟨rfl, rfl⟩ := hr
    exact call_ok0 hs (fun k => (([a1.av F] : List AV)[k]?).getD .top) [a1] [.bslc (BR.root 0) (.f32 v321)] (fun F' h0 hi hρ => ⟨by simp [DVs.av, DV.av, BR.av, hρ], impl_areFinite_fn v321 F' (by rw [hi]; rfl) (st_nil hi) ⟨bslc_ok hi (by rw [h0, hρ]; exact rowF32_ok hs (DVs.okAt ha 0 rfl) hv321), trivial⟩ hy⟩) rfl
  · cases hr
/-! impl.ValidMatrix -/
noncomputable def impl_ValidMatrix_LO (v313 : Int) (v314 : Int) (v315 : List Nat) : LOr := fun id e L =>
  match id with
  | _ => .fail
noncomputable def impl_ValidMatrix_tab : List (FuncId × DFn × Bool) := [(146, impl_isSide_F, true), (134, impl_lengthF_F, true), (135, impl_areFinite_F, true)]
theorem impl_ValidMatrix_hO : OrcOk Try.prog (tabD impl_ValidMatrix_tab) (tabM impl_ValidMatrix_tab) := tabD_cons impl_isSide_Fok (tabD_cons impl_lengthF_Fok (tabD_cons impl_areFinite_Fok (tabD_nil _)))
noncomputable def impl_ValidMatrix_T (v313 : Int) (v314 : Int) (v315 : List Nat) : Tree (Bool) :=
  (.br (impl_isSide_v v313) (
   (.br (impl_isSide_v v314) (
    (.br (decide ((impl_lengthF_v v315) = IntKind.i64.wrap (v313 * v314))) (
     (.call (impl_areFinite_g v315) fun v338 =>
     .leaf v338)
    ) (
     .leaf false
    ))
   ) (
    .leaf false
   ))
  ) (
   .leaf false
  ))

noncomputable def impl_ValidMatrix_g (v313 : Int) (v314 : Int) (v315 : List Nat) : Option (Bool) := (impl_ValidMatrix_T v313 v314 v315).run
def impl_ValidMatrix_enc (v313 : Int) (v314 : Int) (v315 : List Nat) (y : Bool) : Rs := (.bool y, [])
theorem impl_ValidMatrix_den (v313 : Int) (v314 : Int) (v315 : List Nat) : (den TT (tabD impl_ValidMatrix_tab) (tabM impl_ValidMatrix_tab) (impl_ValidMatrix_LO v313 v314 v315) (codeOf Try.f98) ([.agg [.int .i64 v313, .int .i64 v314, .bslc (BR.root 0) (.f32 v315)]] ++ List.replicate (Try.f98.ntmps - ([.agg [.int .i64 v313, .int .i64 v314, .bslc (BR.root 0) (.f32 v315)]] : List DV).length) .undef) []).bind (retD TT Try.f98.results.toList 0) = (impl_ValidMatrix_T v313 v314 v315).bind fun y => .leaf (impl_ValidMatrix_enc v313 v314 v315 y) := by kernel_rfl
theorem impl_ValidMatrix_fn (v313 : Int) (v314 : Int) (v315 : List Nat) (F : Fr) (hm : F.ids.length = 0) (h0 : St F [] F.H0) (hA : DVs.Ok F [] [.agg [.int .i64 v313, .int .i64 v314, .bslc (BR.root 0) (.f32 v315)]]) {y : Bool} (hy : impl_ValidMatrix_g v313 v314 v315 = some y) : ∃ H', FnOk Try.prog 98 (DVs.av F [.agg [.int .i64 v313, .int .i64 v314, .bslc (BR.root 0) (.f32 v315)]]) F.H0 ((impl_ValidMatrix_enc v313 v314 v315 y).1.av F) H' ∧ St F (impl_ValidMatrix_enc v313 v314 v315 y).2 H' ∧ (impl_ValidMatrix_enc v313 v314 v315 y).1.Ok F (impl_ValidMatrix_enc v313 v314 v315 y).2 :=
  fn_fin tok impl_ValidMatrix_hO mixed Try.func98 Try.call98 (by kernel_rfl) (LoopsOk_eq (l := []) (by kernel_rfl) trivial) (impl_ValidMatrix_den v313 v314 v315) hy hm h0 hA
noncomputable def impl_ValidMatrix_F : DFn := fun args L =>
  match args with
  | [.agg [.int .i64 v313, .int .i64 v314, a1]] =>
    optT (rowF32 L a1) fun v315 =>
    .call (impl_ValidMatrix_g v313 v314 v315) fun y => .leaf (.bool y, L)
  | _ => .fail
theorem impl_ValidMatrix_Fok : COk Try.prog 98 impl_ValidMatrix_F true := by
  intro F L H args r L' hs ha hr
  unfold impl_ValidMatrix_F at hr
  split at hr
  · rename_i v313 v314 a1
    obtain ⟨v315, hv315, hr⟩ := optT_run hr
    simp only [Tree.run] at hr
    obtain ⟨y, hy, hr⟩ := Option.bind_eq_some_iff.1 hr
    simp only [Tree.run, Option.some.injEq, Prod.mk.injEq] at hr
    obtain ⟨rfl, rfl⟩ := hr
    exact call_ok0 hs (fun k => (([a1.av F] : List AV)[k]?).getD .top) [.agg [.int .i64 v313, .int .i64 v314, a1]] [.agg [.int .i64 v313, .int .i64 v314, .bslc (BR.root 0) (.f32 v315)]] (fun F' h0 hi hρ => ⟨by simp [DVs.av, DV.av, BR.av, hρ], impl_ValidMatrix_fn v313 v314 v315 F' (by rw [hi]; rfl) (st_nil hi) ⟨⟨trivial, trivial, bslc_ok hi (by rw [h0, hρ]; exact rowF32_ok hs (DVs.okAt (DVs.okAt ha 0 rfl) 2 rfl) hv315), trivial⟩, trivial⟩ hy⟩) rfl
  · cases hr
/-! impl.isSquare -/
noncomputable def impl_isSquare_LO (v310 : Int) (v311 : Int) (v312 : List Nat) : LOr := fun id e L =>
  match id with
  | _ => .fail
noncomputable def impl_isSquare_tab : List (FuncId × DFn × Bool) := [(98, impl_ValidMatrix_F, true)]
theorem impl_isSquare_hO : OrcOk Try.prog (tabD impl_isSquare_tab) (tabM impl_isSquare_tab) := tabD_cons impl_ValidMatrix_Fok (tabD_nil _)
noncomputable def impl_isSquare_T (v310 : Int) (v311 : Int) (v312 : List Nat) : Tree (Bool) :=
  (.call (impl_ValidMatrix_g v310 v311 v312) fun v339 =>
  (.br v339 (
   .leaf (decide (v310 = v311))
  ) (
   .leaf false
  )))

noncomputable def impl_isSquare_g (v310 : Int) (v311 : Int) (v312 : List Nat) : Option (Bool) := (impl_isSquare_T v310 v311 v312).run
def impl_isSquare_enc (v310 : Int) (v311 : Int) (v312 : List Nat) (y : Bool) : Rs := (.bool y, [])
theorem impl_isSquare_den (v310 : Int) (v311 : Int) (v312 : List Nat) : (den TT (tabD impl_isSquare_tab) (tabM impl_isSquare_tab) (impl_isSquare_LO v310 v311 v312) (codeOf Try.f89) ([.agg [.int .i64 v310, .int .i64 v311, .bslc (BR.root 0) (.f32 v312)]] ++ List.replicate (Try.f89.ntmps - ([.agg [.int .i64 v310, .int .i64 v311, .bslc (BR.root 0) (.f32 v312)]] : List DV).length) .undef) []).bind (retD TT Try.f89.results.toList 0) = (impl_isSquare_T v310 v311 v312).bind fun y => .leaf (impl_isSquare_enc v310 v311 v312 y) := by kernel_rfl
theorem impl_isSquare_fn (v310 : Int) (v311 : Int) (v312 : List Nat) (F : Fr) (hm : F.ids.length = 0) (h0 : St F [] F.H0) (hA : DVs.Ok F [] [.agg [.int .i64 v310, .int .i64 v311, .bslc (BR.root 0) (.f32 v312)]]) {y : Bool} (hy : impl_isSquare_g v310 v311 v312 = some y) : ∃ H', FnOk Try.prog 89 (DVs.av F [.agg [.int .i64 v310, .int .i64 v311, .bslc (BR.root 0) (.f32 v312)]]) F.H0 ((impl_isSquare_enc v310 v311 v312 y).1.av F) H' ∧ St F (impl_isSquare_enc v310 v311 v312 y).2 H' ∧ (impl_isSquare_enc v310 v311 v312 y).1.Ok F (impl_isSquare_enc v310 v311 v312 y).2 :=
  fn_fin tok impl_isSquare_hO mixed Try.func89 Try.call89 (by kernel_rfl) (LoopsOk_eq (l := []) (by kernel_rfl) trivial) (impl_isSquare_den v310 v311 v312) hy hm h0 hA
noncomputable def impl_isSquare_F : DFn := fun args L =>
  match args with
  | [.agg [.int .i64 v310, .int .i64 v311, a1]] =>
    optT (rowF32 L a1) fun v312 =>
    .call (impl_isSquare_g v310 v311 v312) fun y => .leaf (.bool y, L)
  | _ => .fail
theorem impl_isSquare_Fok : COk Try.prog 89 impl_isSquare_F true := by
  intro F L H args r L' hs ha hr
  unfold impl_isSquare_F at hr
  split at hr
  · rename_i v310 v311 a1
    obtain ⟨v312, hv312, hr⟩ := optT_run hr
    simp only [Tree.run] at hr
    obtain ⟨y, hy, hr⟩ := Option.bind_eq_some_iff.1 hr
    simp only [Tree.run, Option.some.injEq, Prod.mk.injEq] at hr
    obtain ⟨rfl, rfl⟩ := hr
    exact call_ok0 hs (fun k => (([a1.av F] : List AV)[k]?).getD .top) [.agg [.int .i64 v310, .int .i64 v311, a1]] [.agg [.int .i64 v310, .int .i64 v311, .bslc (BR.root 0) (.f32 v312)]] (fun F' h0 hi hρ => ⟨by simp [DVs.av, DV.av, BR.av, hρ], impl_isSquare_fn v310 v311 v312 F' (by rw [hi]; rfl) (st_nil hi) ⟨⟨trivial, trivial, bslc_ok hi (by rw [h0, hρ]; exact rowF32_ok hs (DVs.okAt (DVs.okAt ha 0 rfl) 2 rfl) hv312), trivial⟩, trivial⟩ hy⟩) rfl
  · cases hr
/-! (impl.Matrix).at -/
noncomputable def impl_Matrix_at_LO (v345 : Int) (v346 : Int) (v347 : List Nat) (v348 : Int) (v349 : Int) : LOr := fun id e L =>
  match id with
  | _ => .fail
noncomputable def impl_Matrix_at_tab : List (FuncId × DFn × Bool) := []
theorem impl_Matrix_at_hO : OrcOk Try.prog (tabD impl_Matrix_at_tab) (tabM impl_Matrix_at_tab) := tabD_nil _
noncomputable def impl_Matrix_at_T (v346 : Int) (v347 : List Nat) (v348 : Int) (v349 : Int) : Tree (Nat) :=
  (.grd (inb (IntKind.i64.wrap ((IntKind.i64.wrap (v348 * v346)) + v349)) v347.length) <|
  .leaf (nth v347 (Int.toNat (IntKind.i64.wrap ((IntKind.i64.wrap (v348 * v346)) + v349)))))

noncomputable def impl_Matrix_at_g (v346 : Int) (v347 : List Nat) (v348 : Int) (v349 : Int) : Option (Nat) := (impl_Matrix_at_T v346 v347 v348 v349).run
def impl_Matrix_at_enc (v345 : Int) (v346 : Int) (v347 : List Nat) (v348 : Int) (v349 : Int) (y : Nat) : Rs := (.flt .f32 y, [])
theorem impl_Matrix_at_den (v345 : Int) (v346 : Int) (v347 : List Nat) (v348 : Int) (v349 : Int) : (den TT (tabD impl_Matrix_at_tab) (tabM impl_Matrix_at_tab) (impl_Matrix_at_LO v345 v346 v347 v348 v349) (codeOf Try.f93) ([.agg [.int .i64 v345, .int .i64 v346, .bslc (BR.root 0) (.f32 v347)], .int .i64 v348, .int .i64 v349] ++ List.replicate (Try.f93.ntmps - ([.agg [.int .i64 v345, .int .i64 v346, .bslc (BR.root 0) (.f32 v347)], .int .i64 v348, .int .i64 v349] : List DV).length) .undef) []).bind (retD TT Try.f93.results.toList 0) = (impl_Matrix_at_T v346 v347 v348 v349).bind fun y => .leaf (impl_Matrix_at_enc v345 v346 v347 v348 v349 y) := by kernel_rfl
theorem impl_Matrix_at_fn (v345 : Int) (v346 : Int) (v347 : List Nat) (v348 : Int) (v349 : Int) (F : Fr) (hm : F.ids.length = 0) (h0 : St F [] F.H0) (hA : DVs.Ok F [] [.agg [.int .i64 v345, .int .i64 v346, .bslc (BR.root 0) (.f32 v347)], .int .i64 v348, .int .i64 v349]) {y : Nat} (hy : impl_Matrix_at_g v346 v347 v348 v349 = some y) : ∃ H', FnOk Try.prog 93 (DVs.av F [.agg [.int .i64 v345, .int .i64 v346, .bslc (BR.root 0) (.f32 v347)], .int .i64 v348, .int .i64 v349]) F.H0 ((impl_Matrix_at_enc v345 v346 v347 v348 v349 y).1.av F) H' ∧ St F (impl_Matrix_at_enc v345 v346 v347 v348 v349 y).2 H' ∧ (impl_Matrix_at_enc v345 v346 v347 v348 v349 y).1.Ok F (impl_Matrix_at_enc v345 v346 v347 v348 v349 y).2 :=
  fn_fin tok impl_Matrix_at_hO mixed Try.func93 Try.call93 (by kernel_rfl) (LoopsOk_eq (l := []) (by kernel_rfl) trivial) (impl_Matrix_at_den v345 v346 v347 v348 v349) hy hm h0 hA
noncomputable def impl_Matrix_at_F : DFn := fun args L =>
  match args with
  | [.agg [.int .i64 v345, .int .i64 v346, a1], .int .i64 v348, .int .i64 v349] =>
    optT (rowF32 L a1) fun v347 =>
    .call (impl_Matrix_at_g v346 v347 v348 v349) fun y => .leaf (.flt .f32 y, L)
  | _ => .fail
theorem impl_Matrix_at_Fok : COk Try.prog 93 impl_Matrix_at_F true := by
  intro F L H args r L' hs ha hr
  unfold impl_Matrix_at_F at hr
  split at hr
  · rename_i v345 v346 a1 v348 v349
    obtain ⟨v347, hv347, hr⟩ := optT_run hr
    simp only [Tree.run] at hr
    obtain ⟨y, hy, hr⟩ := Option.bind_eq_some_iff.1 hr
    simp only [Tree.run, Option.some.injEq, Prod.mk.injEq] at hr
    obtain ⟨rfl, rfl⟩ := hr
    exact call_ok0 hs (fun k => (([a1.av F] : List AV)[k]?).getD .top) [.agg [.int .i64 v345, .int .i64 v346, a1], .int .i64 v348, .int .i64 v349] [.agg [.int .i64 v345, .int .i64 v346, .bslc (BR.root 0) (.f32 v347)], .int .i64 v348, .int .i64 v349] (fun F' h0 hi hρ => ⟨by simp [DVs.av, DV.av, BR.av, hρ], impl_Matrix_at_fn v345 v346 v347 v348 v349 F' (by rw [hi]; rfl) (st_nil hi) ⟨⟨trivial, trivial, bslc_ok hi (by rw [h0, hρ]; exact rowF32_ok hs (DVs.okAt (DVs.okAt ha 0 rfl) 2 rfl) hv347), trivial⟩, trivial, trivial, trivial⟩ hy⟩) rfl
  · cases hr
/-! (impl.Matrix).middle -/
noncomputable def impl_Matrix_middle_l0_T (v341 : Int) (v342 : Int) (v343 : List Nat) (s : Int × (List Nat)) : Tree ((Int × (List Nat)) ⊕ ((List Nat))) :=
  (.br (decide (s.1 < imin v341 v342)) (
   (.call (impl_Matrix_at_g v342 v343 s.1 s.1) fun v356 =>
   (.grd (fits (s.2 ++ ([v356] : List Nat)).length) <|
   .leaf (.inl (IntKind.i64.wrap (s.1 + (1 : Int)), s.2 ++ ([v356] : List Nat)))))
  ) (
   .leaf (.inr s.2)
  ))

noncomputable def impl_Matrix_middle_l0_g (v341 : Int) (v342 : Int) (v343 : List Nat) (s0 : Int × (List Nat)) : Option ((List Nat)) := whileM (fun s => (impl_Matrix_middle_l0_T v341 v342 v343 s).run) s0
def impl_Matrix_middle_l0_E (v341 : Int) (v342 : Int) (v343 : List Nat) (s : Int × (List Nat)) : Sd := ([.top, .ptr 0 (0 : Nat) 0 (3 : Nat), .top, .own 1 0 ((s.2).length), .top, .top, .top, .top, .top, .top, .int .i64 (imin v341 v342), .int .i64 s.1, .top, .top, .top, .top, .top, .top, .top, .top, .top, .top, .top], [.gen [.int .i64 v341, .int .i64 v342, .bslc (BR.root 0) (.f32 v343)] false 0, .row (.f32 s.2) 0])
def impl_Matrix_middle_l0_X (v341 : Int) (v342 : Int) (v343 : List Nat) (x : (List Nat)) : Out := (.normal, [.top, .top, .top, .own 0 0 ((x).length), .top, .top, .top, .top, .top, .top, .top, .top, .top, .top, .top, .top, .top, .top, .top, .top, .top, .top, .top], [.row (.f32 x) 0])
def impl_Matrix_middle_l0_kill : List Nat := [1, 0, 1, 0, 1, 1, 1, 1, 1, 1, 0, 0, 1, 1, 1, 1, 1, 1, 1, 1, 1, 1, 1]
def impl_Matrix_middle_l0_nx : Exit → List Nat
  | .exit 0 => [1, 1, 1, 0, 1, 1, 1, 1, 1, 1, 1, 1, 1, 1, 1, 1, 1, 1, 1, 1, 1, 1, 1]
  | .ret => [1, 1, 0, 1, 1, 1, 1, 1, 1, 1, 1, 1, 1, 1, 1, 1, 1, 1, 1, 1, 1, 1, 1]
  | _ => []
noncomputable def impl_Matrix_middle_LO (v341 : Int) (v342 : Int) (v343 : List Nat) : LOr := fun id e L =>
  match id with
  | 0 => .need (normA 0 impl_Matrix_middle_l0_kill e L = some (impl_Matrix_middle_l0_E v341 v342 v343 ((gI (vAt e 11)), (gRF L (vAt e 3))))) (.call (impl_Matrix_middle_l0_g v341 v342 v343 ((gI (vAt e 11)), (gRF L (vAt e 3)))) fun x => .leaf (impl_Matrix_middle_l0_X v341 v342 v343 x))
  | _ => .fail
noncomputable def impl_Matrix_middle_tab : List (FuncId × DFn × Bool) := [(93, impl_Matrix_at_F, true)]
theorem impl_Matrix_middle_hO : OrcOk Try.prog (tabD impl_Matrix_middle_tab) (tabM impl_Matrix_middle_tab) := tabD_cons impl_Matrix_at_Fok (tabD_nil _)
theorem impl_Matrix_middle_l0_be (v341 : Int) (v342 : Int) (v343 : List Nat) (s : Int × (List Nat)) : bodyT TT (tabD impl_Matrix_middle_tab) (tabM impl_Matrix_middle_tab) (impl_Matrix_middle_LO v341 v342 v343) 0 impl_Matrix_middle_l0_kill impl_Matrix_middle_l0_nx (bodyOf Try.f113 0) 0 (impl_Matrix_middle_l0_E v341 v342 v343 s) = (impl_Matrix_middle_l0_T v341 v342 v343 s).bind fun y => .leaf (outS (impl_Matrix_middle_l0_E v341 v342 v343) (impl_Matrix_middle_l0_X v341 v342 v343) y) := by kernel_rfl
theorem impl_Matrix_middle_l0_ok (v341 : Int) (v342 : Int) (v343 : List Nat) : LSound Try.prog 0 (impl_Matrix_middle_LO v341 v342 v343) 0 (bodyOf Try.f113 0) := by
  intro e L out h
  exact lo_ok (E := impl_Matrix_middle_l0_E v341 v342 v343) (gT := impl_Matrix_middle_l0_T v341 v342 v343) (X := impl_Matrix_middle_l0_X v341 v342 v343) (s0 := ((gI (vAt e 11)), (gRF L (vAt e 3)))) tok impl_Matrix_middle_hO mixed (LoopsOk_eq (l := []) (by kernel_rfl) trivial) (impl_Matrix_middle_l0_be v341 v342 v343) rfl (by intro x; rfl) h
noncomputable def impl_Matrix_middle_T (v341 : Int) (v342 : Int) (v343 : List Nat) : Tree ((List Nat)) :=
  (.need (some (impl_Matrix_middle_l0_E v341 v342 v343 ((0 : Int), ([] : List Nat))) = some (impl_Matrix_middle_l0_E v341 v342 v343 ((0 : Int), ([] : List Nat)))) <|
  (.call (impl_Matrix_middle_l0_g v341 v342 v343 ((0 : Int), ([] : List Nat))) fun v357 =>
  .leaf v357))

noncomputable def impl_Matrix_middle_g (v341 : Int) (v342 : Int) (v343 : List Nat) : Option ((List Nat)) := (impl_Matrix_middle_T v341 v342 v343).run
def impl_Matrix_middle_enc (v341 : Int) (v342 : Int) (v343 : List Nat) (y : (List Nat)) : Rs := (.own 0 0 ((y).length), [.row (.f32 y) 0])
theorem impl_Matrix_middle_den (v341 : Int) (v342 : Int) (v343 : List Nat) : (den TT (tabD impl_Matrix_middle_tab) (tabM impl_Matrix_middle_tab) (impl_Matrix_middle_LO v341 v342 v343) (codeOf Try.f113) ([.agg [.int .i64 v341, .int .i64 v342, .bslc (BR.root 0) (.f32 v343)]] ++ List.replicate (Try.f113.ntmps - ([.agg [.int .i64 v341, .int .i64 v342, .bslc (BR.root 0) (.f32 v343)]] : List DV).length) .undef) []).bind (retD TT Try.f113.results.toList 0) = (impl_Matrix_middle_T v341 v342 v343).bind fun y => .leaf (impl_Matrix_middle_enc v341 v342 v343 y) := by kernel_rfl
theorem impl_Matrix_middle_fn (v341 : Int) (v342 : Int) (v343 : List Nat) (F : Fr) (hm : F.ids.length = 0) (h0 : St F [] F.H0) (hA : DVs.Ok F [] [.agg [.int .i64 v341, .int .i64 v342, .bslc (BR.root 0) (.f32 v343)]]) {y : (List Nat)} (hy : impl_Matrix_middle_g v341 v342 v343 = some y) : ∃ H', FnOk Try.prog 113 (DVs.av F [.agg [.int .i64 v341, .int .i64 v342, .bslc (BR.root 0) (.f32 v343)]]) F.H0 ((impl_Matrix_middle_enc v341 v342 v343 y).1.av F) H' ∧ St F (impl_Matrix_middle_enc v341 v342 v343 y).2 H' ∧ (impl_Matrix_middle_enc v341 v342 v343 y).1.Ok F (impl_Matrix_middle_enc v341 v342 v343 y).2 :=
  fn_fin tok impl_Matrix_middle_hO mixed Try.func113 Try.call113 (by kernel_rfl) (LoopsOk_eq (l := [(0, bodyOf Try.f113 0)]) (by kernel_rfl) ⟨impl_Matrix_middle_l0_ok v341 v342 v343, trivial⟩) (impl_Matrix_middle_den v341 v342 v343) hy hm h0 hA
noncomputable def impl_Matrix_middle_F : DFn := fun args L =>
  match args with
  | [.agg [.int .i64 v341, .int .i64 v342, a1]] =>
    optT (rowF32 L a1) fun v343 =>
    .call (impl_Matrix_middle_g v341 v342 v343) fun y => .leaf (.own (L.length + 0) 0 ((y).length), L ++ [.row (.f32 y) 0])
  | _ => .fail
theorem impl_Matrix_middle_Fok : COk Try.prog 113 impl_Matrix_middle_F true := by
  intro F L H args r L' hs ha hr
  unfold impl_Matrix_middle_F at hr
  split at hr
  · rename_i v341 v342 a1
    obtain ⟨v343, hv343, hr⟩ := optT_run hr
    simp only [Tree.run] at hr
    obtain ⟨y, hy, hr⟩ := Option.bind_eq_some_iff.1 hr
    simp only [Tree.run, Option.some.injEq, Prod.mk.injEq] at hr
    obtain ⟨rfl, rfl⟩ := hr
    exact call_ok1 hs (fun k => (([a1.av F] : List AV)[k]?).getD .top) [.agg [.int .i64 v341, .int .i64 v342, a1]] [.agg [.int .i64 v341, .int .i64 v342, .bslc (BR.root 0) (.f32 v343)]] (fun F' h0 hi hρ => ⟨by simp [DVs.av, DV.av, BR.av, hρ], impl_Matrix_middle_fn v341 v342 v343 F' (by rw [hi]; rfl) (st_nil hi) ⟨⟨trivial, trivial, bslc_ok hi (by rw [h0, hρ]; exact rowF32_ok hs (DVs.okAt (DVs.okAt ha 0 rfl) 2 rfl) hv343), trivial⟩, trivial⟩ hy⟩) rfl rfl
  · cases hr
/-! slices.Index[list of float32,float32] -/
noncomputable def slices_IndexF_l0_T (v361 : List Nat) (v362 : Nat) (s : Int) : Tree ((Int) ⊕ ((Int) ⊕ (Unit))) :=
  (.br (decide (s < ((v361.length : Nat) : Int))) (
   (.grd (inb s v361.length) <|
   (.br (feq .f32 v362 (nth v361 (Int.toNat s))) (
    .leaf (.inr (.inl s))
   ) (
    .leaf (.inl (IntKind.i64.wrap (s + (1 : Int))))
   )))
  ) (
   .leaf (.inr (.inr ()))
  ))

noncomputable def slices_IndexF_l0_g (v361 : List Nat) (v362 : Nat) (s0 : Int) : Option ((Int) ⊕ (Unit)) := whileM (fun s => (slices_IndexF_l0_T v361 v362 s).run) s0
def slices_IndexF_l0_E (v361 : List Nat) (v362 : Nat) (s : Int) : Sd := ([.bslc (BR.root 0) (.f32 v361), .flt .f32 v362, .top, .top, .top, .top, .top, .int .i64 ((v361.length : Nat) : Int), .int .i64 s, .top, .top, .top, .top, .top, .top, .top, .top, .top, .top], [])
def slices_IndexF_l0_X (v361 : List Nat) (v362 : Nat) (x : (Int) ⊕ (Unit)) : Out := (match x with | .inl x => (.ret, [.top, .top, .top, .top, .int .i64 x, .top, .top, .top, .top, .top, .top, .top, .top, .top, .top, .top, .top, .top, .top], []) | .inr x => (.normal, [.top, .top, .top, .top, .top, .top, .top, .top, .top, .top, .top, .top, .top, .top, .top, .top, .top, .top, .top], []))
def slices_IndexF_l0_kill : List Nat := [0, 0, 1, 1, 1, 1, 1, 0, 0, 1, 1, 1, 1, 1, 1, 1, 1, 1, 1]
def slices_IndexF_l0_nx : Exit → List Nat
  | .exit 0 => [1, 1, 1, 1, 1, 1, 1, 1, 1, 1, 1, 1, 1, 1, 1, 1, 1, 1, 1]
  | .ret => [1, 1, 1, 1, 0, 1, 1, 1, 1, 1, 1, 1, 1, 1, 1, 1, 1, 1, 1]
  | _ => []
noncomputable def slices_IndexF_LO (v361 : List Nat) (v362 : Nat) : LOr := fun id e L =>
  match id with
  | 0 => .need (normA 0 slices_IndexF_l0_kill e L = some (slices_IndexF_l0_E v361 v362 (gI (vAt e 8)))) (.call (slices_IndexF_l0_g v361 v362 (gI (vAt e 8))) fun x => .sum x (fun b0 => .leaf (slices_IndexF_l0_X v361 v362 (.inl b0))) (fun c0 => .leaf (slices_IndexF_l0_X v361 v362 (.inr c0))))
  | _ => .fail
noncomputable def slices_IndexF_tab : List (FuncId × DFn × Bool) := []
theorem slices_IndexF_hO : OrcOk Try.prog (tabD slices_IndexF_tab) (tabM slices_IndexF_tab) := tabD_nil _
theorem slices_IndexF_l0_be (v361 : List Nat) (v362 : Nat) (s : Int) : bodyT TT (tabD slices_IndexF_tab) (tabM slices_IndexF_tab) (slices_IndexF_LO v361 v362) 0 slices_IndexF_l0_kill slices_IndexF_l0_nx (bodyOf Try.f155 0) 0 (slices_IndexF_l0_E v361 v362 s) = (slices_IndexF_l0_T v361 v362 s).bind fun y => .leaf (outS (slices_IndexF_l0_E v361 v362) (slices_IndexF_l0_X v361 v362) y) := by kernel_rfl
theorem slices_IndexF_l0_ok (v361 : List Nat) (v362 : Nat) : LSound Try.prog 0 (slices_IndexF_LO v361 v362) 0 (bodyOf Try.f155 0) := by
  intro e L out h
  exact lo_ok (E := slices_IndexF_l0_E v361 v362) (gT := slices_IndexF_l0_T v361 v362) (X := slices_IndexF_l0_X v361 v362) (s0 := (gI (vAt e 8))) tok slices_IndexF_hO mixed (LoopsOk_eq (l := []) (by kernel_rfl) trivial) (slices_IndexF_l0_be v361 v362) rfl (by intro x; (cases x with | inl b => rfl | inr x => exact rfl)) h
noncomputable def slices_IndexF_T (v361 : List Nat) (v362 : Nat) : Tree (Int) :=
  (.need (some (slices_IndexF_l0_E v361 v362 (0 : Int)) = some (slices_IndexF_l0_E v361 v362 (0 : Int))) <|
  (.call (slices_IndexF_l0_g v361 v362 (0 : Int)) fun v366 =>
  (.sum v366 (fun v367 =>
   .leaf v367
  ) (fun v368 =>
   .leaf (-1 : Int)
  ))))

noncomputable def slices_IndexF_g (v361 : List Nat) (v362 : Nat) : Option (Int) := (slices_IndexF_T v361 v362).run
def slices_IndexF_enc (v361 : List Nat) (v362 : Nat) (y : Int) : Rs := (.int .i64 y, [])
theorem slices_IndexF_den (v361 : List Nat) (v362 : Nat) : (den TT (tabD slices_IndexF_tab) (tabM slices_IndexF_tab) (slices_IndexF_LO v361 v362) (codeOf Try.f155) ([.bslc (BR.root 0) (.f32 v361), .flt .f32 v362] ++ List.replicate (Try.f155.ntmps - ([.bslc (BR.root 0) (.f32 v361), .flt .f32 v362] : List DV).length) .undef) []).bind (retD TT Try.f155.results.toList 0) = (slices_IndexF_T v361 v362).bind fun y => .leaf (slices_IndexF_enc v361 v362 y) := by kernel_rfl
theorem slices_IndexF_fn (v361 : List Nat) (v362 : Nat) (F : Fr) (hm : F.ids.length = 0) (h0 : St F [] F.H0) (hA : DVs.Ok F [] [.bslc (BR.root 0) (.f32 v361), .flt .f32 v362]) {y : Int} (hy : slices_IndexF_g v361 v362 = some y) : ∃ H', FnOk Try.prog 155 (DVs.av F [.bslc (BR.root 0) (.f32 v361), .flt .f32 v362]) F.H0 ((slices_IndexF_enc v361 v362 y).1.av F) H' ∧ St F (slices_IndexF_enc v361 v362 y).2 H' ∧ (slices_IndexF_enc v361 v362 y).1.Ok F (slices_IndexF_enc v361 v362 y).2 :=
  fn_fin tok slices_IndexF_hO mixed Try.func155 Try.call155 (by kernel_rfl) (LoopsOk_eq (l := [(0, bodyOf Try.f155 0)]) (by kernel_rfl) ⟨slices_IndexF_l0_ok v361 v362, trivial⟩) (slices_IndexF_den v361 v362) hy hm h0 hA
noncomputable def slices_IndexF_F : DFn := fun args L =>
  match args with
  | [a1, .flt .f32 v362] =>
    optT (rowF32 L a1) fun v361 =>
    .call (slices_IndexF_g v361 v362) fun y => .leaf (.int .i64 y, L)
  | _ => .fail
theorem slices_IndexF_Fok : COk Try.prog 155 slices_IndexF_F true := by
  intro F L H args r L' hs ha hr
  unfold slices_IndexF_F at hr
  split at hr
  · rename_i a1 v362
    obtain ⟨v361, hv361, hr⟩ := optT_run hr
    simp only [Tree.run] at hr
    obtain ⟨y, hy, hr⟩ := Option.bind_eq_some_iff.1 hr
    simp only [Tree.run, Option.some.injEq, Prod.mk.injEq] at hr
    obtain ⟨rfl, rfl⟩ := hr
    exact call_ok0 hs (fun k => (([a1.av F] : List AV)[k]?).getD .top) [a1, .flt .f32 v362] [.bslc (BR.root 0) (.f32 v361), .flt .f32 v362] (fun F' h0 hi hρ => ⟨by simp [DVs.av, DV.av, BR.av, hρ], slices_IndexF_fn v361 v362 F' (by rw [hi]; rfl) (st_nil hi) ⟨bslc_ok hi (by rw [h0, hρ]; exact rowF32_ok hs (DVs.okAt ha 0 rfl) hv361), trivial, trivial⟩ hy⟩) rfl
  · cases hr
/-! slices.Contains[list of float32,float32] -/
noncomputable def slices_ContainsF_LO (v359 : List Nat) (v360 : Nat) : LOr := fun id e L =>
  match id with
  | _ => .fail
noncomputable def slices_ContainsF_tab : List (FuncId × DFn × Bool) := [(155, slices_IndexF_F, true)]
theorem slices_ContainsF_hO : OrcOk Try.prog (tabD slices_ContainsF_tab) (tabM slices_ContainsF_tab) := tabD_cons slices_IndexF_Fok (tabD_nil _)
noncomputable def slices_ContainsF_T (v359 : List Nat) (v360 : Nat) : Tree (Bool) :=
  (.call (slices_IndexF_g v359 v360) fun v369 =>
  .leaf (decide ((0 : Int) ≤ v369)))

noncomputable def slices_ContainsF_g (v359 : List Nat) (v360 : Nat) : Option (Bool) := (slices_ContainsF_T v359 v360).run
def slices_ContainsF_enc (v359 : List Nat) (v360 : Nat) (y : Bool) : Rs := (.bool y, [])
theorem slices_ContainsF_den (v359 : List Nat) (v360 : Nat) : (den TT (tabD slices_ContainsF_tab) (tabM slices_ContainsF_tab) (slices_ContainsF_LO v359 v360) (codeOf Try.f112) ([.bslc (BR.root 0) (.f32 v359), .flt .f32 v360] ++ List.replicate (Try.f112.ntmps - ([.bslc (BR.root 0) (.f32 v359), .flt .f32 v360] : List DV).length) .undef) []).bind (retD TT Try.f112.results.toList 0) = (slices_ContainsF_T v359 v360).bind fun y => .leaf (slices_ContainsF_enc v359 v360 y) := by kernel_rfl
theorem slices_ContainsF_fn (v359 : List Nat) (v360 : Nat) (F : Fr) (hm : F.ids.length = 0) (h0 : St F [] F.H0) (hA : DVs.Ok F [] [.bslc (BR.root 0) (.f32 v359), .flt .f32 v360]) {y : Bool} (hy : slices_ContainsF_g v359 v360 = some y) : ∃ H', FnOk Try.prog 112 (DVs.av F [.bslc (BR.root 0) (.f32 v359), .flt .f32 v360]) F.H0 ((slices_ContainsF_enc v359 v360 y).1.av F) H' ∧ St F (slices_ContainsF_enc v359 v360 y).2 H' ∧ (slices_ContainsF_enc v359 v360 y).1.Ok F (slices_ContainsF_enc v359 v360 y).2 :=
  fn_fin tok slices_ContainsF_hO mixed Try.func112 Try.call112 (by kernel_rfl) (LoopsOk_eq (l := []) (by kernel_rfl) trivial) (slices_ContainsF_den v359 v360) hy hm h0 hA
noncomputable def slices_ContainsF_F : DFn := fun args L =>
  match args with
  | [a1, .flt .f32 v360] =>
    optT (rowF32 L a1) fun v359 =>
    .call (slices_ContainsF_g v359 v360) fun y => .leaf (.bool y, L)
  | _ => .fail
theorem slices_ContainsF_Fok : COk Try.prog 112 slices_ContainsF_F true := by
  intro F L H args r L' hs ha hr
  unfold slices_ContainsF_F at hr
  split at hr
  · rename_i a1 v360
    obtain ⟨v359, hv359, hr⟩ := optT_run hr
    simp only [Tree.run] at hr
    obtain ⟨y, hy, hr⟩ := Option.bind_eq_some_iff.1 hr
    simp only [Tree.run, Option.some.injEq, Prod.mk.injEq] at hr
    obtain ⟨rfl, rfl⟩ := hr
    exact call_ok0 hs (fun k => (([a1.av F] : List AV)[k]?).getD .top) [a1, .flt .f32 v360] [.bslc (BR.root 0) (.f32 v359), .flt .f32 v360] (fun F' h0 hi hρ => ⟨by simp [DVs.av, DV.av, BR.av, hρ], slices_ContainsF_fn v359 v360 F' (by rw [hi]; rfl) (st_nil hi) ⟨bslc_ok hi (by rw [h0, hρ]; exact rowF32_ok hs (DVs.okAt ha 0 rfl) hv359), trivial, trivial⟩ hy⟩) rfl
  · cases hr
/-! impl.length[int64] -/
noncomputable def impl_lengthI_LO (v372 : List Int) : LOr := fun id e L =>
  match id with
  | _ => .fail
noncomputable def impl_lengthI_tab : List (FuncId × DFn × Bool) := []
theorem impl_lengthI_hO : OrcOk Try.prog (tabD impl_lengthI_tab) (tabM impl_lengthI_tab) := tabD_nil _
noncomputable def impl_lengthI_T (v372 : List Int) : Tree (Int) :=
  .leaf ((v372.length : Nat) : Int)

noncomputable def impl_lengthI_g (v372 : List Int) : Option (Int) := (impl_lengthI_T v372).run
def impl_lengthI_enc (v372 : List Int) (y : Int) : Rs := (.int .i64 y, [])
theorem impl_lengthI_den (v372 : List Int) : (den TT (tabD impl_lengthI_tab) (tabM impl_lengthI_tab) (impl_lengthI_LO v372) (codeOf Try.f109) ([.bslc (BR.root 0) (.i64 v372)] ++ List.replicate (Try.f109.ntmps - ([.bslc (BR.root 0) (.i64 v372)] : List DV).length) .undef) []).bind (retD TT Try.f109.results.toList 0) = (impl_lengthI_T v372).bind fun y => .leaf (impl_lengthI_enc v372 y) := by kernel_rfl
theorem impl_lengthI_fn (v372 : List Int) (F : Fr) (hm : F.ids.length = 0) (h0 : St F [] F.H0) (hA : DVs.Ok F [] [.bslc (BR.root 0) (.i64 v372)]) {y : Int} (hy : impl_lengthI_g v372 = some y) : ∃ H', FnOk Try.prog 109 (DVs.av F [.bslc (BR.root 0) (.i64 v372)]) F.H0 ((impl_lengthI_enc v372 y).1.av F) H' ∧ St F (impl_lengthI_enc v372 y).2 H' ∧ (impl_lengthI_enc v372 y).1.Ok F (impl_lengthI_enc v372 y).2 :=
  fn_fin tok impl_lengthI_hO mixed Try.func109 Try.call109 (by kernel_rfl) (LoopsOk_eq (l := []) (by kernel_rfl) trivial) (impl_lengthI_den v372) hy hm h0 hA
def impl_lengthI_v (v372 : List Int) : Int :=
  ((v372.length : Nat) : Int)
theorem impl_lengthI_tot (v372 : List Int) : impl_lengthI_g v372 = some (impl_lengthI_v v372) := by
  unfold impl_lengthI_g impl_lengthI_T impl_lengthI_v
  simp only [Tree.run]
  repeat' (first | rfl | split)
noncomputable def impl_lengthI_F : DFn := fun args L =>
  match args with
  | [a1] =>
    optT (rowI64 L a1) fun v372 =>
    .leaf (.int .i64 (impl_lengthI_v v372), L)
  | _ => .fail
theorem impl_lengthI_Fok : COk Try.prog 109 impl_lengthI_F true := by
  intro F L H args r L' hs ha hr
  unfold impl_lengthI_F at hr
  split at hr
  · rename_i a1
    obtain ⟨v372, hv372, hr⟩ := optT_run hr
    have hy := impl_lengthI_tot v372
    generalize impl_lengthI_v v372 = y at hy hr
    simp only [Tree.run, Option.some.injEq, Prod.mk.injEq] at hr
    obtain ⟨rfl, rfl⟩ := hr
    exact call_ok0 hs (fun k => (([a1.av F] : List AV)[k]?).getD .top) [a1] [.bslc (BR.root 0) (.i64 v372)] (fun F' h0 hi hρ => ⟨by simp [DVs.av, DV.av, BR.av, hρ], impl_lengthI_fn v372 F' (by rw [hi]; rfl) (st_nil hi) ⟨bslc_ok hi (by rw [h0, hρ]; exact rowI64_ok hs (DVs.okAt ha 0 rfl) hv372), trivial⟩ hy⟩) rfl
  · cases hr
/-! impl.IsOrder -/
noncomputable def impl_IsOrder_LO (v371 : List Int) : LOr := fun id e L =>
  match id with
  | _ => .fail
noncomputable def impl_IsOrder_tab : List (FuncId × DFn × Bool) := [(109, impl_lengthI_F, true), (146, impl_isSide_F, true), (154, Perm_F, true)]
theorem impl_IsOrder_hO : OrcOk Try.prog (tabD impl_IsOrder_tab) (tabM impl_IsOrder_tab) := tabD_cons impl_lengthI_Fok (tabD_cons impl_isSide_Fok (tabD_cons Perm_Fok (tabD_nil _)))
noncomputable def impl_IsOrder_T (v371 : List Int) : Tree (Bool) :=
  (.br (impl_isSide_v (impl_lengthI_v v371)) (
   (.grd (decide (0 < v371.length) && decide (v371.length ≤ 4096)) <|
   .leaf (PM.permB v371))
  ) (
   .leaf false
  ))

noncomputable def impl_IsOrder_g (v371 : List Int) : Option (Bool) := (impl_IsOrder_T v371).run
def impl_IsOrder_enc (v371 : List Int) (y : Bool) : Rs := (.bool y, [])
theorem impl_IsOrder_den (v371 : List Int) : (den TT (tabD impl_IsOrder_tab) (tabM impl_IsOrder_tab) (impl_IsOrder_LO v371) (codeOf Try.f108) ([.bslc (BR.root 0) (.i64 v371)] ++ List.replicate (Try.f108.ntmps - ([.bslc (BR.root 0) (.i64 v371)] : List DV).length) .undef) []).bind (retD TT Try.f108.results.toList 0) = (impl_IsOrder_T v371).bind fun y => .leaf (impl_IsOrder_enc v371 y) := by kernel_rfl
theorem impl_IsOrder_fn (v371 : List Int) (F : Fr) (hm : F.ids.length = 0) (h0 : St F [] F.H0) (hA : DVs.Ok F [] [.bslc (BR.root 0) (.i64 v371)]) {y : Bool} (hy : impl_IsOrder_g v371 = some y) : ∃ H', FnOk Try.prog 108 (DVs.av F [.bslc (BR.root 0) (.i64 v371)]) F.H0 ((impl_IsOrder_enc v371 y).1.av F) H' ∧ St F (impl_IsOrder_enc v371 y).2 H' ∧ (impl_IsOrder_enc v371 y).1.Ok F (impl_IsOrder_enc v371 y).2 :=
  fn_fin tok impl_IsOrder_hO mixed Try.func108 Try.call108 (by kernel_rfl) (LoopsOk_eq (l := []) (by kernel_rfl) trivial) (impl_IsOrder_den v371) hy hm h0 hA
noncomputable def impl_IsOrder_F : DFn := fun args L =>
  match args with
  | [a1] =>
    optT (rowI64 L a1) fun v371 =>
    .call (impl_IsOrder_g v371) fun y => .leaf (.bool y, L)
  | _ => .fail
theorem impl_IsOrder_Fok : COk Try.prog 108 impl_IsOrder_F true := by
  intro F L H args r L' hs ha hr
  unfold impl_IsOrder_F at hr
  split at hr
  · rename_i a1
    obtain ⟨v371, hv371, hr⟩ := optT_run hr
    simp only [Tree.run] at hr
    obtain ⟨y, hy, hr⟩ := Option.bind_eq_some_iff.1 hr
    simp only [Tree.run, Option.some.injEq, Prod.mk.injEq] at hr
    obtain ⟨rfl, rfl⟩ := hr
    exact call_ok0 hs (fun k => (([a1.av F] : List AV)[k]?).getD .top) [a1] [.bslc (BR.root 0) (.i64 v371)] (fun F' h0 hi hρ => ⟨by simp [DVs.av, DV.av, BR.av, hρ], impl_IsOrder_fn v371 F' (by rw [hi]; rfl) (st_nil hi) ⟨bslc_ok hi (by rw [h0, hρ]; exact rowI64_ok hs (DVs.okAt ha 0 rfl) hv371), trivial⟩ hy⟩) rfl
  · cases hr
/-! impl.ValidFactor -/
noncomputable def impl_ValidFactor_LO (v306 : Int) (v307 : Int) (v308 : List Nat) (v309 : List Int) : LOr := fun id e L =>
  match id with
  | _ => .fail
noncomputable def impl_ValidFactor_tab : List (FuncId × DFn × Bool) := [(89, impl_isSquare_F, true), (113, impl_Matrix_middle_F, true), (112, slices_ContainsF_F, true), (108, impl_IsOrder_F, true), (109, impl_lengthI_F, true)]
theorem impl_ValidFactor_hO : OrcOk Try.prog (tabD impl_ValidFactor_tab) (tabM impl_ValidFactor_tab) := tabD_cons impl_isSquare_Fok (tabD_cons impl_Matrix_middle_Fok (tabD_cons slices_ContainsF_Fok (tabD_cons impl_IsOrder_Fok (tabD_cons impl_lengthI_Fok (tabD_nil _)))))
noncomputable def impl_ValidFactor_T (v306 : Int) (v307 : Int) (v308 : List Nat) (v309 : List Int) : Tree (Bool) :=
  (.call (impl_isSquare_g v306 v307 v308) fun v340 =>
  (.br v340 (
   (.call (impl_Matrix_middle_g v306 v307 v308) fun v358 =>
   (.call (slices_ContainsF_g v358 (0 : Nat)) fun v370 =>
   (.br (!v370) (
    (.call (impl_IsOrder_g v309) fun v373 =>
    (.br v373 (
     .leaf (decide ((impl_lengthI_v v309) = v306))
    ) (
     .leaf false
    )))
   ) (
    .leaf false
   ))))
  ) (
   .leaf false
  )))

noncomputable def impl_ValidFactor_g (v306 : Int) (v307 : Int) (v308 : List Nat) (v309 : List Int) : Option (Bool) := (impl_ValidFactor_T v306 v307 v308 v309).run
def impl_ValidFactor_enc (v306 : Int) (v307 : Int) (v308 : List Nat) (v309 : List Int) (y : Bool) : Rs := (.bool y, [])
theorem impl_ValidFactor_den (v306 : Int) (v307 : Int) (v308 : List Nat) (v309 : List Int) : (den TT (tabD impl_ValidFactor_tab) (tabM impl_ValidFactor_tab) (impl_ValidFactor_LO v306 v307 v308 v309) (codeOf Try.f49) ([.agg [.int .i64 v306, .int .i64 v307, .bslc (BR.root 0) (.f32 v308), .bslc (BR.root 1) (.i64 v309)]] ++ List.replicate (Try.f49.ntmps - ([.agg [.int .i64 v306, .int .i64 v307, .bslc (BR.root 0) (.f32 v308), .bslc (BR.root 1) (.i64 v309)]] : List DV).length) .undef) []).bind (retD TT Try.f49.results.toList 0) = (impl_ValidFactor_T v306 v307 v308 v309).bind fun y => .leaf (impl_ValidFactor_enc v306 v307 v308 v309 y) := by kernel_rfl
theorem impl_ValidFactor_fn (v306 : Int) (v307 : Int) (v308 : List Nat) (v309 : List Int) (F : Fr) (hm : F.ids.length = 0) (h0 : St F [] F.H0) (hA : DVs.Ok F [] [.agg [.int .i64 v306, .int .i64 v307, .bslc (BR.root 0) (.f32 v308), .bslc (BR.root 1) (.i64 v309)]]) {y : Bool} (hy : impl_ValidFactor_g v306 v307 v308 v309 = some y) : ∃ H', FnOk Try.prog 49 (DVs.av F [.agg [.int .i64 v306, .int .i64 v307, .bslc (BR.root 0) (.f32 v308), .bslc (BR.root 1) (.i64 v309)]]) F.H0 ((impl_ValidFactor_enc v306 v307 v308 v309 y).1.av F) H' ∧ St F (impl_ValidFactor_enc v306 v307 v308 v309 y).2 H' ∧ (impl_ValidFactor_enc v306 v307 v308 v309 y).1.Ok F (impl_ValidFactor_enc v306 v307 v308 v309 y).2 :=
  fn_fin tok impl_ValidFactor_hO mixed Try.func49 Try.call49 (by kernel_rfl) (LoopsOk_eq (l := []) (by kernel_rfl) trivial) (impl_ValidFactor_den v306 v307 v308 v309) hy hm h0 hA
noncomputable def impl_ValidFactor_F : DFn := fun args L =>
  match args with
  | [.agg [.int .i64 v306, .int .i64 v307, a1, a2]] =>
    optT (rowF32 L a1) fun v308 =>
    optT (rowI64 L a2) fun v309 =>
    .call (impl_ValidFactor_g v306 v307 v308 v309) fun y => .leaf (.bool y, L)
  | _ => .fail
theorem impl_ValidFactor_Fok : COk Try.prog 49 impl_ValidFactor_F true := by
  intro F L H args r L' hs ha hr
  unfold impl_ValidFactor_F at hr
  split at hr
  · rename_i v306 v307 a1 a2
    obtain ⟨v308, hv308, hr⟩ := optT_run hr
    obtain ⟨v309, hv309, hr⟩ := optT_run hr
    simp only [Tree.run] at hr
    obtain ⟨y, hy, hr⟩ := Option.bind_eq_some_iff.1 hr
    simp only [Tree.run, Option.some.injEq, Prod.mk.injEq] at hr
    obtain ⟨rfl, rfl⟩ := hr
    exact call_ok0 hs (fun k => (([a1.av F, a2.av F] : List AV)[k]?).getD .top) [.agg [.int .i64 v306, .int .i64 v307, a1, a2]] [.agg [.int .i64 v306, .int .i64 v307, .bslc (BR.root 0) (.f32 v308), .bslc (BR.root 1) (.i64 v309)]] (fun F' h0 hi hρ => ⟨by simp [DVs.av, DV.av, BR.av, hρ], impl_ValidFactor_fn v306 v307 v308 v309 F' (by rw [hi]; rfl) (st_nil hi) ⟨⟨trivial, trivial, bslc_ok hi (by rw [h0, hρ]; exact rowF32_ok hs (DVs.okAt (DVs.okAt ha 0 rfl) 2 rfl) hv308), bslc_ok hi (by rw [h0, hρ]; exact rowI64_ok hs (DVs.okAt (DVs.okAt ha 0 rfl) 3 rfl) hv309), trivial⟩, trivial⟩ hy⟩) rfl
  · cases hr
end Go.Proofs.Ytjadfgeemfdbmaa.AM
