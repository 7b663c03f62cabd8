/- Functions: what they come to. -/
import Derived.Test.YtjadfgeemfdbmaaBase
set_option maxRecDepth 100000
set_option maxHeartbeats 4000000
set_option linter.unusedSimpArgs false
set_option linter.unusedVariables false
namespace Go.Proofs.Ytjadfgeemfdbmaa.AM
open Go.Proofs
/-! laws.szFloat32S -/
noncomputable def laws_szFloat32S_LO (v14 : List Nat) (v15 : Int) : LOr := fun id e L =>
  match id with
  | _ => .fail
noncomputable def laws_szFloat32S_tab : List (FuncId × DFn × Bool) := []
theorem laws_szFloat32S_hO : OrcOk Try.prog (tabD laws_szFloat32S_tab) (tabM laws_szFloat32S_tab) := tabD_nil _
noncomputable def laws_szFloat32S_T (v14 : List Nat) (v15 : Int) : Tree (Int) :=
  (.br (decide (IntKind.i64.wrap (v15 - ((v14.length : Nat) : Int)) < (0 : Int))) (
   .leaf (-1 : Int)
  ) (
   .leaf (IntKind.i64.wrap (v15 - ((v14.length : Nat) : Int)))
  ))

noncomputable def laws_szFloat32S_g (v14 : List Nat) (v15 : Int) : Option (Int) := (laws_szFloat32S_T v14 v15).run
def laws_szFloat32S_enc (v14 : List Nat) (v15 : Int) (y : Int) : Rs := (.int .i64 y, [])
theorem laws_szFloat32S_den (v14 : List Nat) (v15 : Int) : (den TT (tabD laws_szFloat32S_tab) (tabM laws_szFloat32S_tab) (laws_szFloat32S_LO v14 v15) (codeOf Try.f64) ([.bslc (BR.root 0) (.f32 v14), .int .i64 v15] ++ List.replicate (Try.f64.ntmps - ([.bslc (BR.root 0) (.f32 v14), .int .i64 v15] : List DV).length) .undef) []).bind (retD TT Try.f64.results.toList 0) = (laws_szFloat32S_T v14 v15).bind fun y => .leaf (laws_szFloat32S_enc v14 v15 y) := by kernel_rfl
theorem laws_szFloat32S_fn (v14 : List Nat) (v15 : Int) (F : Fr) (hm : F.ids.length = 0) (h0 : St F [] F.H0) (hA : DVs.Ok F [] [.bslc (BR.root 0) (.f32 v14), .int .i64 v15]) {y : Int} (hy : laws_szFloat32S_g v14 v15 = some y) : ∃ H', FnOk Try.prog 64 (DVs.av F [.bslc (BR.root 0) (.f32 v14), .int .i64 v15]) F.H0 ((laws_szFloat32S_enc v14 v15 y).1.av F) H' ∧ St F (laws_szFloat32S_enc v14 v15 y).2 H' ∧ (laws_szFloat32S_enc v14 v15 y).1.Ok F (laws_szFloat32S_enc v14 v15 y).2 :=
  fn_fin tok laws_szFloat32S_hO mixed Try.func64 Try.call64 (by kernel_rfl) (LoopsOk_eq (l := []) (by kernel_rfl) trivial) (laws_szFloat32S_den v14 v15) hy hm h0 hA
def laws_szFloat32S_v (v14 : List Nat) (v15 : Int) : Int :=
  if (decide (IntKind.i64.wrap (v15 - ((v14.length : Nat) : Int)) < (0 : Int))) = true then (
   (-1 : Int)
  ) else (
   IntKind.i64.wrap (v15 - ((v14.length : Nat) : Int))
  )
theorem laws_szFloat32S_tot (v14 : List Nat) (v15 : Int) : laws_szFloat32S_g v14 v15 = some (laws_szFloat32S_v v14 v15) := by
  unfold laws_szFloat32S_g laws_szFloat32S_T laws_szFloat32S_v
  simp only [Tree.run]
  repeat' (first | rfl | split)
noncomputable def laws_szFloat32S_F : DFn := fun args L =>
  match args with
  | [a1, .int .i64 v15] =>
    optT (rowF32 L a1) fun v14 =>
    .leaf (.int .i64 (laws_szFloat32S_v v14 v15), L)
  | _ => .fail
theorem laws_szFloat32S_Fok : COk Try.prog 64 laws_szFloat32S_F true := by
  intro F L H args r L' hs ha hr
  unfold laws_szFloat32S_F at hr
  split at hr
  · rename_i a1 v15
    obtain ⟨v14, hv14, hr⟩ := optT_run hr
    have hy := laws_szFloat32S_tot v14 v15
    generalize laws_szFloat32S_v v14 v15 = y at hy hr
    simp only [Tree.run, Option.some.injEq, Prod.mk.injEq] at hr
    obtain ⟨rfl, rfl⟩ := hr
    exact call_ok0 hs (fun k => (([a1.av F] : List AV)[k]?).getD .top) [a1, .int .i64 v15] [.bslc (BR.root 0) (.f32 v14), .int .i64 v15] (fun F' h0 hi hρ => ⟨by simp [DVs.av, DV.av, BR.av, hρ], laws_szFloat32S_fn v14 v15 F' (by rw [hi]; rfl) (st_nil hi) ⟨bslc_ok hi (by rw [h0, hρ]; exact rowF32_ok hs (DVs.okAt ha 0 rfl) hv14), trivial, trivial⟩ hy⟩) rfl
  · cases hr
/-! laws.szMatrix -/
noncomputable def laws_szMatrix_LO (v10 : Int) (v11 : Int) (v12 : List Nat) (v13 : Int) : LOr := fun id e L =>
  match id with
  | _ => .fail
noncomputable def laws_szMatrix_tab : List (FuncId × DFn × Bool) := [(64, laws_szFloat32S_F, true)]
theorem laws_szMatrix_hO : OrcOk Try.prog (tabD laws_szMatrix_tab) (tabM laws_szMatrix_tab) := tabD_cons laws_szFloat32S_Fok (tabD_nil _)
noncomputable def laws_szMatrix_T (v12 : List Nat) (v13 : Int) : Tree (Int) :=
  (.br (decide ((laws_szFloat32S_v v12 v13) < (0 : Int))) (
   .leaf (-1 : Int)
  ) (
   .leaf (laws_szFloat32S_v v12 v13)
  ))

noncomputable def laws_szMatrix_g (v12 : List Nat) (v13 : Int) : Option (Int) := (laws_szMatrix_T v12 v13).run
def laws_szMatrix_enc (v10 : Int) (v11 : Int) (v12 : List Nat) (v13 : Int) (y : Int) : Rs := (.int .i64 y, [])
theorem laws_szMatrix_den (v10 : Int) (v11 : Int) (v12 : List Nat) (v13 : Int) : (den TT (tabD laws_szMatrix_tab) (tabM laws_szMatrix_tab) (laws_szMatrix_LO v10 v11 v12 v13) (codeOf Try.f29) ([.agg [.int .i64 v10, .int .i64 v11, .bslc (BR.root 0) (.f32 v12)], .int .i64 v13] ++ List.replicate (Try.f29.ntmps - ([.agg [.int .i64 v10, .int .i64 v11, .bslc (BR.root 0) (.f32 v12)], .int .i64 v13] : List DV).length) .undef) []).bind (retD TT Try.f29.results.toList 0) = (laws_szMatrix_T v12 v13).bind fun y => .leaf (laws_szMatrix_enc v10 v11 v12 v13 y) := by kernel_rfl
theorem laws_szMatrix_fn (v10 : Int) (v11 : Int) (v12 : List Nat) (v13 : Int) (F : Fr) (hm : F.ids.length = 0) (h0 : St F [] F.H0) (hA : DVs.Ok F [] [.agg [.int .i64 v10, .int .i64 v11, .bslc (BR.root 0) (.f32 v12)], .int .i64 v13]) {y : Int} (hy : laws_szMatrix_g v12 v13 = some y) : ∃ H', FnOk Try.prog 29 (DVs.av F [.agg [.int .i64 v10, .int .i64 v11, .bslc (BR.root 0) (.f32 v12)], .int .i64 v13]) F.H0 ((laws_szMatrix_enc v10 v11 v12 v13 y).1.av F) H' ∧ St F (laws_szMatrix_enc v10 v11 v12 v13 y).2 H' ∧ (laws_szMatrix_enc v10 v11 v12 v13 y).1.Ok F (laws_szMatrix_enc v10 v11 v12 v13 y).2 :=
  fn_fin tok laws_szMatrix_hO mixed Try.func29 Try.call29 (by kernel_rfl) (LoopsOk_eq (l := []) (by kernel_rfl) trivial) (laws_szMatrix_den v10 v11 v12 v13) hy hm h0 hA
def laws_szMatrix_v (v12 : List Nat) (v13 : Int) : Int :=
  if (decide ((laws_szFloat32S_v v12 v13) < (0 : Int))) = true then (
   (-1 : Int)
  ) else (
   (laws_szFloat32S_v v12 v13)
  )
theorem laws_szMatrix_tot (v12 : List Nat) (v13 : Int) : laws_szMatrix_g v12 v13 = some (laws_szMatrix_v v12 v13) := by
  unfold laws_szMatrix_g laws_szMatrix_T laws_szMatrix_v
  simp only [Tree.run]
  repeat' (first | rfl | split)
noncomputable def laws_szMatrix_F : DFn := fun args L =>
  match args with
  | [.agg [.int .i64 v10, .int .i64 v11, a1], .int .i64 v13] =>
    optT (rowF32 L a1) fun v12 =>
    .leaf (.int .i64 (laws_szMatrix_v v12 v13), L)
  | _ => .fail
theorem laws_szMatrix_Fok : COk Try.prog 29 laws_szMatrix_F true := by
  intro F L H args r L' hs ha hr
  unfold laws_szMatrix_F at hr
  split at hr
  · rename_i v10 v11 a1 v13
    obtain ⟨v12, hv12, hr⟩ := optT_run hr
    have hy := laws_szMatrix_tot v12 v13
    generalize laws_szMatrix_v v12 v13 = y at hy hr
    simp only [Tree.run, Option.some.injEq, Prod.mk.injEq] at hr
    obtain ⟨rfl, rfl⟩ := hr
    exact call_ok0 hs (fun k => (([a1.av F] : List AV)[k]?).getD .top) [.agg [.int .i64 v10, .int .i64 v11, a1], .int .i64 v13] [.agg [.int .i64 v10, .int .i64 v11, .bslc (BR.root 0) (.f32 v12)], .int .i64 v13] (fun F' h0 hi hρ => ⟨by simp [DVs.av, DV.av, BR.av, hρ], laws_szMatrix_fn v10 v11 v12 v13 F' (by rw [hi]; rfl) (st_nil hi) ⟨⟨trivial, trivial, bslc_ok hi (by rw [h0, hρ]; exact rowF32_ok hs (DVs.okAt (DVs.okAt ha 0 rfl) 2 rfl) hv12), trivial⟩, trivial, trivial⟩ hy⟩) rfl
  · cases hr
/-! laws.szInt64S -/
noncomputable def laws_szInt64S_LO (v16 : List Int) (v17 : Int) : LOr := fun id e L =>
  match id with
  | _ => .fail
noncomputable def laws_szInt64S_tab : List (FuncId × DFn × Bool) := []
theorem laws_szInt64S_hO : OrcOk Try.prog (tabD laws_szInt64S_tab) (tabM laws_szInt64S_tab) := tabD_nil _
noncomputable def laws_szInt64S_T (v16 : List Int) (v17 : Int) : Tree (Int) :=
  (.br (decide (IntKind.i64.wrap (v17 - ((v16.length : Nat) : Int)) < (0 : Int))) (
   .leaf (-1 : Int)
  ) (
   .leaf (IntKind.i64.wrap (v17 - ((v16.length : Nat) : Int)))
  ))

noncomputable def laws_szInt64S_g (v16 : List Int) (v17 : Int) : Option (Int) := (laws_szInt64S_T v16 v17).run
def laws_szInt64S_enc (v16 : List Int) (v17 : Int) (y : Int) : Rs := (.int .i64 y, [])
theorem laws_szInt64S_den (v16 : List Int) (v17 : Int) : (den TT (tabD laws_szInt64S_tab) (tabM laws_szInt64S_tab) (laws_szInt64S_LO v16 v17) (codeOf Try.f63) ([.bslc (BR.root 0) (.i64 v16), .int .i64 v17] ++ List.replicate (Try.f63.ntmps - ([.bslc (BR.root 0) (.i64 v16), .int .i64 v17] : List DV).length) .undef) []).bind (retD TT Try.f63.results.toList 0) = (laws_szInt64S_T v16 v17).bind fun y => .leaf (laws_szInt64S_enc v16 v17 y) := by kernel_rfl
theorem laws_szInt64S_fn (v16 : List Int) (v17 : Int) (F : Fr) (hm : F.ids.length = 0) (h0 : St F [] F.H0) (hA : DVs.Ok F [] [.bslc (BR.root 0) (.i64 v16), .int .i64 v17]) {y : Int} (hy : laws_szInt64S_g v16 v17 = some y) : ∃ H', FnOk Try.prog 63 (DVs.av F [.bslc (BR.root 0) (.i64 v16), .int .i64 v17]) F.H0 ((laws_szInt64S_enc v16 v17 y).1.av F) H' ∧ St F (laws_szInt64S_enc v16 v17 y).2 H' ∧ (laws_szInt64S_enc v16 v17 y).1.Ok F (laws_szInt64S_enc v16 v17 y).2 :=
  fn_fin tok laws_szInt64S_hO mixed Try.func63 Try.call63 (by kernel_rfl) (LoopsOk_eq (l := []) (by kernel_rfl) trivial) (laws_szInt64S_den v16 v17) hy hm h0 hA
def laws_szInt64S_v (v16 : List Int) (v17 : Int) : Int :=
  if (decide (IntKind.i64.wrap (v17 - ((v16.length : Nat) : Int)) < (0 : Int))) = true then (
   (-1 : Int)
  ) else (
   IntKind.i64.wrap (v17 - ((v16.length : Nat) : Int))
  )
theorem laws_szInt64S_tot (v16 : List Int) (v17 : Int) : laws_szInt64S_g v16 v17 = some (laws_szInt64S_v v16 v17) := by
  unfold laws_szInt64S_g laws_szInt64S_T laws_szInt64S_v
  simp only [Tree.run]
  repeat' (first | rfl | split)
noncomputable def laws_szInt64S_F : DFn := fun args L =>
  match args with
  | [a1, .int .i64 v17] =>
    optT (rowI64 L a1) fun v16 =>
    .leaf (.int .i64 (laws_szInt64S_v v16 v17), L)
  | _ => .fail
theorem laws_szInt64S_Fok : COk Try.prog 63 laws_szInt64S_F true := by
  intro F L H args r L' hs ha hr
  unfold laws_szInt64S_F at hr
  split at hr
  · rename_i a1 v17
    obtain ⟨v16, hv16, hr⟩ := optT_run hr
    have hy := laws_szInt64S_tot v16 v17
    generalize laws_szInt64S_v v16 v17 = y at hy hr
    simp only [Tree.run, Option.some.injEq, Prod.mk.injEq] at hr
    obtain ⟨rfl, rfl⟩ := hr
    exact call_ok0 hs (fun k => (([a1.av F] : List AV)[k]?).getD .top) [a1, .int .i64 v17] [.bslc (BR.root 0) (.i64 v16), .int .i64 v17] (fun F' h0 hi hρ => ⟨by simp [DVs.av, DV.av, BR.av, hρ], laws_szInt64S_fn v16 v17 F' (by rw [hi]; rfl) (st_nil hi) ⟨bslc_ok hi (by rw [h0, hρ]; exact rowI64_ok hs (DVs.okAt ha 0 rfl) hv16), trivial, trivial⟩ hy⟩) rfl
  · cases hr
/-! laws.szFactor -/
noncomputable def laws_szFactor_LO (v5 : Int) (v6 : Int) (v7 : List Nat) (v8 : List Int) (v9 : Int) : LOr := fun id e L =>
  match id with
  | _ => .fail
noncomputable def laws_szFactor_tab : List (FuncId × DFn × Bool) := [(29, laws_szMatrix_F, true), (63, laws_szInt64S_F, true)]
theorem laws_szFactor_hO : OrcOk Try.prog (tabD laws_szFactor_tab) (tabM laws_szFactor_tab) := tabD_cons laws_szMatrix_Fok (tabD_cons laws_szInt64S_Fok (tabD_nil _))
noncomputable def laws_szFactor_T (v7 : List Nat) (v8 : List Int) (v9 : Int) : Tree (Int) :=
  (.br (decide ((laws_szMatrix_v v7 v9) < (0 : Int))) (
   .leaf (-1 : Int)
  ) (
   (.br (decide ((laws_szInt64S_v v8 (laws_szMatrix_v v7 v9)) < (0 : Int))) (
    .leaf (-1 : Int)
   ) (
    .leaf (laws_szInt64S_v v8 (laws_szMatrix_v v7 v9))
   ))
  ))

noncomputable def laws_szFactor_g (v7 : List Nat) (v8 : List Int) (v9 : Int) : Option (Int) := (laws_szFactor_T v7 v8 v9).run
def laws_szFactor_enc (v5 : Int) (v6 : Int) (v7 : List Nat) (v8 : List Int) (v9 : Int) (y : Int) : Rs := (.int .i64 y, [])
theorem laws_szFactor_den (v5 : Int) (v6 : Int) (v7 : List Nat) (v8 : List Int) (v9 : Int) : (den TT (tabD laws_szFactor_tab) (tabM laws_szFactor_tab) (laws_szFactor_LO v5 v6 v7 v8 v9) (codeOf Try.f46) ([.agg [.int .i64 v5, .int .i64 v6, .bslc (BR.root 0) (.f32 v7), .bslc (BR.root 1) (.i64 v8)], .int .i64 v9] ++ List.replicate (Try.f46.ntmps - ([.agg [.int .i64 v5, .int .i64 v6, .bslc (BR.root 0) (.f32 v7), .bslc (BR.root 1) (.i64 v8)], .int .i64 v9] : List DV).length) .undef) []).bind (retD TT Try.f46.results.toList 0) = (laws_szFactor_T v7 v8 v9).bind fun y => .leaf (laws_szFactor_enc v5 v6 v7 v8 v9 y) := by kernel_rfl
theorem laws_szFactor_fn (v5 : Int) (v6 : Int) (v7 : List Nat) (v8 : List Int) (v9 : Int) (F : Fr) (hm : F.ids.length = 0) (h0 : St F [] F.H0) (hA : DVs.Ok F [] [.agg [.int .i64 v5, .int .i64 v6, .bslc (BR.root 0) (.f32 v7), .bslc (BR.root 1) (.i64 v8)], .int .i64 v9]) {y : Int} (hy : laws_szFactor_g v7 v8 v9 = some y) : ∃ H', FnOk Try.prog 46 (DVs.av F [.agg [.int .i64 v5, .int .i64 v6, .bslc (BR.root 0) (.f32 v7), .bslc (BR.root 1) (.i64 v8)], .int .i64 v9]) F.H0 ((laws_szFactor_enc v5 v6 v7 v8 v9 y).1.av F) H' ∧ St F (laws_szFactor_enc v5 v6 v7 v8 v9 y).2 H' ∧ (laws_szFactor_enc v5 v6 v7 v8 v9 y).1.Ok F (laws_szFactor_enc v5 v6 v7 v8 v9 y).2 :=
  fn_fin tok laws_szFactor_hO mixed Try.func46 Try.call46 (by kernel_rfl) (LoopsOk_eq (l := []) (by kernel_rfl) trivial) (laws_szFactor_den v5 v6 v7 v8 v9) hy hm h0 hA
def laws_szFactor_v (v7 : List Nat) (v8 : List Int) (v9 : Int) : Int :=
  if (decide ((laws_szMatrix_v v7 v9) < (0 : Int))) = true then (
   (-1 : Int)
  ) else (
   if (decide ((laws_szInt64S_v v8 (laws_szMatrix_v v7 v9)) < (0 : Int))) = true then (
    (-1 : Int)
   ) else (
    (laws_szInt64S_v v8 (laws_szMatrix_v v7 v9))
   )
  )
theorem laws_szFactor_tot (v7 : List Nat) (v8 : List Int) (v9 : Int) : laws_szFactor_g v7 v8 v9 = some (laws_szFactor_v v7 v8 v9) := by
  unfold laws_szFactor_g laws_szFactor_T laws_szFactor_v
  simp only [Tree.run]
  repeat' (first | rfl | split)
noncomputable def laws_szFactor_F : DFn := fun args L =>
  match args with
  | [.agg [.int .i64 v5, .int .i64 v6, a1, a2], .int .i64 v9] =>
    optT (rowF32 L a1) fun v7 =>
    optT (rowI64 L a2) fun v8 =>
    .leaf (.int .i64 (laws_szFactor_v v7 v8 v9), L)
  | _ => .fail
theorem laws_szFactor_Fok : COk Try.prog 46 laws_szFactor_F true := by
  intro F L H args r L' hs ha hr
  unfold laws_szFactor_F at hr
  split at hr
  · rename_i v5 v6 a1 a2 v9
    obtain ⟨v7, hv7, hr⟩ := optT_run hr
    obtain ⟨v8, hv8, hr⟩ := optT_run hr
    have hy := laws_szFactor_tot v7 v8 v9
    generalize laws_szFactor_v v7 v8 v9 = y at hy hr
    simp only [Tree.run, Option.some.injEq, Prod.mk.injEq] at hr
    obtain ⟨rfl, rfl⟩ := hr
    exact call_ok0 hs (fun k => (([a1.av F, a2.av F] : List AV)[k]?).getD .top) [.agg [.int .i64 v5, .int .i64 v6, a1, a2], .int .i64 v9] [.agg [.int .i64 v5, .int .i64 v6, .bslc (BR.root 0) (.f32 v7), .bslc (BR.root 1) (.i64 v8)], .int .i64 v9] (fun F' h0 hi hρ => ⟨by simp [DVs.av, DV.av, BR.av, hρ], laws_szFactor_fn v5 v6 v7 v8 v9 F' (by rw [hi]; rfl) (st_nil hi) ⟨⟨trivial, trivial, bslc_ok hi (by rw [h0, hρ]; exact rowF32_ok hs (DVs.okAt (DVs.okAt ha 0 rfl) 2 rfl) hv7), bslc_ok hi (by rw [h0, hρ]; exact rowI64_ok hs (DVs.okAt (DVs.okAt ha 0 rfl) 3 rfl) hv8), trivial⟩, trivial, trivial⟩ hy⟩) rfl
  · cases hr
/-! laws.toFloat32S -/
noncomputable def laws_toFloat32S_l0_T (v25 : List Nat) (s : Int × (List Nat)) : Tree ((Int × (List Nat)) ⊕ ((List Nat))) :=
  (.br (decide (s.1 < ((v25.length : Nat) : Int))) (
   (.grd (inb s.1 v25.length) <|
   (.grd (inb s.1 ((s.2).length)) <|
   .leaf (.inl (IntKind.i64.wrap (s.1 + (1 : Int)), List.set s.2 (Int.toNat s.1) (nth v25 (Int.toNat s.1))))))
  ) (
   .leaf (.inr s.2)
  ))

noncomputable def laws_toFloat32S_l0_g (v25 : List Nat) (s0 : Int × (List Nat)) : Option ((List Nat)) := whileM (fun s => (laws_toFloat32S_l0_T v25 s).run) s0
def laws_toFloat32S_l0_E (v25 : List Nat) (s : Int × (List Nat)) : Sd := ([.bslc (BR.root 0) (.f32 v25), .top, .top, .own 0 0 ((s.2).length), .int .i64 s.1, .top, .top, .top, .top, .top, .top, .top, .top, .top, .top, .top, .top, .top, .top, .top, .top, .top], [.row (.f32 s.2) 0])
def laws_toFloat32S_l0_X (v25 : List Nat) (x : (List Nat)) : Out := (.normal, [.top, .top, .top, .own 0 0 ((x).length), .top, .top, .top, .top, .top, .top, .top, .top, .top, .top, .top, .top, .top, .top, .top, .top, .top, .top], [.row (.f32 x) 0])
def laws_toFloat32S_l0_kill : List Nat := [0, 1, 1, 0, 0, 1, 1, 1, 1, 1, 1, 1, 1, 1, 1, 1, 1, 1, 1, 1, 1, 1]
def laws_toFloat32S_l0_nx : Exit → List Nat
  | .exit 0 => [1, 1, 1, 0, 1, 1, 1, 1, 1, 1, 1, 1, 1, 1, 1, 1, 1, 1, 1, 1, 1, 1]
  | .ret => [1, 1, 0, 1, 1, 1, 1, 1, 1, 1, 1, 1, 1, 1, 1, 1, 1, 1, 1, 1, 1, 1]
  | _ => []
noncomputable def laws_toFloat32S_LO (v25 : List Nat) : LOr := fun id e L =>
  match id with
  | 0 => .need (normA 0 laws_toFloat32S_l0_kill e L = some (laws_toFloat32S_l0_E v25 ((gI (vAt e 4)), (gRF L (vAt e 3))))) (.call (laws_toFloat32S_l0_g v25 ((gI (vAt e 4)), (gRF L (vAt e 3)))) fun x => .leaf (laws_toFloat32S_l0_X v25 x))
  | _ => .fail
noncomputable def laws_toFloat32S_tab : List (FuncId × DFn × Bool) := []
theorem laws_toFloat32S_hO : OrcOk Try.prog (tabD laws_toFloat32S_tab) (tabM laws_toFloat32S_tab) := tabD_nil _
theorem laws_toFloat32S_l0_be (v25 : List Nat) (s : Int × (List Nat)) : bodyT TT (tabD laws_toFloat32S_tab) (tabM laws_toFloat32S_tab) (laws_toFloat32S_LO v25) 0 laws_toFloat32S_l0_kill laws_toFloat32S_l0_nx (bodyOf Try.f18 0) 0 (laws_toFloat32S_l0_E v25 s) = (laws_toFloat32S_l0_T v25 s).bind fun y => .leaf (outS (laws_toFloat32S_l0_E v25) (laws_toFloat32S_l0_X v25) y) := by kernel_rfl
theorem laws_toFloat32S_l0_ok (v25 : List Nat) : LSound Try.prog 0 (laws_toFloat32S_LO v25) 0 (bodyOf Try.f18 0) := by
  intro e L out h
  exact lo_ok (E := laws_toFloat32S_l0_E v25) (gT := laws_toFloat32S_l0_T v25) (X := laws_toFloat32S_l0_X v25) (s0 := ((gI (vAt e 4)), (gRF L (vAt e 3)))) tok laws_toFloat32S_hO mixed (LoopsOk_eq (l := []) (by kernel_rfl) trivial) (laws_toFloat32S_l0_be v25) rfl (by intro x; rfl) h
noncomputable def laws_toFloat32S_T (v25 : List Nat) : Tree ((List Nat)) :=
  (.need (((v25.length : Nat) : Int) = ((v25.length : Nat) : Int)) <|
  (.grd (inb ((v25.length : Nat) : Int) (maxN + 1)) <|
  (.need (some (laws_toFloat32S_l0_E v25 ((0 : Int), List.replicate (Int.toNat ((v25.length : Nat) : Int)) (0 : Nat))) = some (laws_toFloat32S_l0_E v25 ((0 : Int), List.replicate (Int.toNat ((v25.length : Nat) : Int)) (0 : Nat)))) <|
  (.call (laws_toFloat32S_l0_g v25 ((0 : Int), List.replicate (Int.toNat ((v25.length : Nat) : Int)) (0 : Nat))) fun v31 =>
  .leaf v31))))

noncomputable def laws_toFloat32S_g (v25 : List Nat) : Option ((List Nat)) := (laws_toFloat32S_T v25).run
def laws_toFloat32S_enc (v25 : List Nat) (y : (List Nat)) : Rs := (.own 0 0 ((y).length), [.row (.f32 y) 0])
theorem laws_toFloat32S_den (v25 : List Nat) : (den TT (tabD laws_toFloat32S_tab) (tabM laws_toFloat32S_tab) (laws_toFloat32S_LO v25) (codeOf Try.f18) ([.bslc (BR.root 0) (.f32 v25)] ++ List.replicate (Try.f18.ntmps - ([.bslc (BR.root 0) (.f32 v25)] : List DV).length) .undef) []).bind (retD TT Try.f18.results.toList 0) = (laws_toFloat32S_T v25).bind fun y => .leaf (laws_toFloat32S_enc v25 y) := by kernel_rfl
theorem laws_toFloat32S_fn (v25 : List Nat) (F : Fr) (hm : F.ids.length = 0) (h0 : St F [] F.H0) (hA : DVs.Ok F [] [.bslc (BR.root 0) (.f32 v25)]) {y : (List Nat)} (hy : laws_toFloat32S_g v25 = some y) : ∃ H', FnOk Try.prog 18 (DVs.av F [.bslc (BR.root 0) (.f32 v25)]) F.H0 ((laws_toFloat32S_enc v25 y).1.av F) H' ∧ St F (laws_toFloat32S_enc v25 y).2 H' ∧ (laws_toFloat32S_enc v25 y).1.Ok F (laws_toFloat32S_enc v25 y).2 :=
  fn_fin tok laws_toFloat32S_hO mixed Try.func18 Try.call18 (by kernel_rfl) (LoopsOk_eq (l := [(0, bodyOf Try.f18 0)]) (by kernel_rfl) ⟨laws_toFloat32S_l0_ok v25, trivial⟩) (laws_toFloat32S_den v25) hy hm h0 hA
noncomputable def laws_toFloat32S_F : DFn := fun args L =>
  match args with
  | [a1] =>
    optT (rowF32 L a1) fun v25 =>
    .call (laws_toFloat32S_g v25) fun y => .leaf (.own (L.length + 0) 0 ((y).length), L ++ [.row (.f32 y) 0])
  | _ => .fail
theorem laws_toFloat32S_Fok : COk Try.prog 18 laws_toFloat32S_F true := by
  intro F L H args r L' hs ha hr
  unfold laws_toFloat32S_F at hr
  split at hr
  · rename_i a1
    obtain ⟨v25, hv25, hr⟩ := optT_run hr
    simp only [Tree.run] at hr
    obtain ⟨y, hy, hr⟩ := Option.bind_eq_some_iff.1 hr
    simp only [Tree.run, Option.some.injEq, Prod.mk.injEq] at hr
    obtain ⟨rfl, rfl⟩ := hr
    exact call_ok1 hs (fun k => (([a1.av F] : List AV)[k]?).getD .top) [a1] [.bslc (BR.root 0) (.f32 v25)] (fun F' h0 hi hρ => ⟨by simp [DVs.av, DV.av, BR.av, hρ], laws_toFloat32S_fn v25 F' (by rw [hi]; rfl) (st_nil hi) ⟨bslc_ok hi (by rw [h0, hρ]; exact rowF32_ok hs (DVs.okAt ha 0 rfl) hv25), trivial⟩ hy⟩) rfl rfl
  · cases hr
/-! laws.toMatrix -/
noncomputable def laws_toMatrix_LO (v22 : Int) (v23 : Int) (v24 : List Nat) : LOr := fun id e L =>
  match id with
  | _ => .fail
noncomputable def laws_toMatrix_tab : List (FuncId × DFn × Bool) := [(18, laws_toFloat32S_F, true)]
theorem laws_toMatrix_hO : OrcOk Try.prog (tabD laws_toMatrix_tab) (tabM laws_toMatrix_tab) := tabD_cons laws_toFloat32S_Fok (tabD_nil _)
noncomputable def laws_toMatrix_T (v22 : Int) (v23 : Int) (v24 : List Nat) : Tree (Int × Int × (List Nat)) :=
  (.call (laws_toFloat32S_g v24) fun v32 =>
  .leaf (v22, v23, v32))

noncomputable def laws_toMatrix_g (v22 : Int) (v23 : Int) (v24 : List Nat) : Option (Int × Int × (List Nat)) := (laws_toMatrix_T v22 v23 v24).run
def laws_toMatrix_enc (v22 : Int) (v23 : Int) (v24 : List Nat) (y : Int × Int × (List Nat)) : Rs := (.agg [.int .i64 y.1, .int .i64 y.2.1, .own 0 0 ((y.2.2).length)], [.row (.f32 y.2.2) 0])
theorem laws_toMatrix_den (v22 : Int) (v23 : Int) (v24 : List Nat) : (den TT (tabD laws_toMatrix_tab) (tabM laws_toMatrix_tab) (laws_toMatrix_LO v22 v23 v24) (codeOf Try.f31) ([.agg [.int .i64 v22, .int .i64 v23, .bslc (BR.root 0) (.f32 v24)]] ++ List.replicate (Try.f31.ntmps - ([.agg [.int .i64 v22, .int .i64 v23, .bslc (BR.root 0) (.f32 v24)]] : List DV).length) .undef) []).bind (retD TT Try.f31.results.toList 0) = (laws_toMatrix_T v22 v23 v24).bind fun y => .leaf (laws_toMatrix_enc v22 v23 v24 y) := by kernel_rfl
theorem laws_toMatrix_fn (v22 : Int) (v23 : Int) (v24 : List Nat) (F : Fr) (hm : F.ids.length = 0) (h0 : St F [] F.H0) (hA : DVs.Ok F [] [.agg [.int .i64 v22, .int .i64 v23, .bslc (BR.root 0) (.f32 v24)]]) {y : Int × Int × (List Nat)} (hy : laws_toMatrix_g v22 v23 v24 = some y) : ∃ H', FnOk Try.prog 31 (DVs.av F [.agg [.int .i64 v22, .int .i64 v23, .bslc (BR.root 0) (.f32 v24)]]) F.H0 ((laws_toMatrix_enc v22 v23 v24 y).1.av F) H' ∧ St F (laws_toMatrix_enc v22 v23 v24 y).2 H' ∧ (laws_toMatrix_enc v22 v23 v24 y).1.Ok F (laws_toMatrix_enc v22 v23 v24 y).2 :=
  fn_fin tok laws_toMatrix_hO mixed Try.func31 Try.call31 (by kernel_rfl) (LoopsOk_eq (l := []) (by kernel_rfl) trivial) (laws_toMatrix_den v22 v23 v24) hy hm h0 hA
noncomputable def laws_toMatrix_F : DFn := fun args L =>
  match args with
  | [.agg [.int .i64 v22, .int .i64 v23, a1]] =>
    optT (rowF32 L a1) fun v24 =>
    .call (laws_toMatrix_g v22 v23 v24) fun y => .leaf (.agg [.int .i64 y.1, .int .i64 y.2.1, .own (L.length + 0) 0 ((y.2.2).length)], L ++ [.row (.f32 y.2.2) 0])
  | _ => .fail
theorem laws_toMatrix_Fok : COk Try.prog 31 laws_toMatrix_F true := by
  intro F L H args r L' hs ha hr
  unfold laws_toMatrix_F at hr
  split at hr
  · rename_i v22 v23 a1
    obtain ⟨v24, hv24, hr⟩ := optT_run hr
    simp only [Tree.run] at hr
    obtain ⟨y, hy, hr⟩ := Option.bind_eq_some_iff.1 hr
    simp only [Tree.run, Option.some.injEq, Prod.mk.injEq] at hr
    obtain ⟨rfl, rfl⟩ := hr
    exact call_ok1 hs (fun k => (([a1.av F] : List AV)[k]?).getD .top) [.agg [.int .i64 v22, .int .i64 v23, a1]] [.agg [.int .i64 v22, .int .i64 v23, .bslc (BR.root 0) (.f32 v24)]] (fun F' h0 hi hρ => ⟨by simp [DVs.av, DV.av, BR.av, hρ], laws_toMatrix_fn v22 v23 v24 F' (by rw [hi]; rfl) (st_nil hi) ⟨⟨trivial, trivial, bslc_ok hi (by rw [h0, hρ]; exact rowF32_ok hs (DVs.okAt (DVs.okAt ha 0 rfl) 2 rfl) hv24), trivial⟩, trivial⟩ hy⟩) rfl rfl
  · cases hr
/-! laws.toInt64S -/
noncomputable def laws_toInt64S_l0_T (v34 : List Int) (s : Int × (List Int)) : Tree ((Int × (List Int)) ⊕ ((List Int))) :=
  (.br (decide (s.1 < ((v34.length : Nat) : Int))) (
   (.grd (inb s.1 v34.length) <|
   (.grd (inb s.1 ((s.2).length)) <|
   .leaf (.inl (IntKind.i64.wrap (s.1 + (1 : Int)), List.set s.2 (Int.toNat s.1) (nth v34 (Int.toNat s.1))))))
  ) (
   .leaf (.inr s.2)
  ))

noncomputable def laws_toInt64S_l0_g (v34 : List Int) (s0 : Int × (List Int)) : Option ((List Int)) := whileM (fun s => (laws_toInt64S_l0_T v34 s).run) s0
def laws_toInt64S_l0_E (v34 : List Int) (s : Int × (List Int)) : Sd := ([.bslc (BR.root 0) (.i64 v34), .top, .top, .own 0 0 ((s.2).length), .int .i64 s.1, .top, .top, .top, .top, .top, .top, .top, .top, .top, .top, .top, .top, .top, .top, .top, .top, .top], [.row (.i64 s.2) 0])
def laws_toInt64S_l0_X (v34 : List Int) (x : (List Int)) : Out := (.normal, [.top, .top, .top, .own 0 0 ((x).length), .top, .top, .top, .top, .top, .top, .top, .top, .top, .top, .top, .top, .top, .top, .top, .top, .top, .top], [.row (.i64 x) 0])
def laws_toInt64S_l0_kill : List Nat := [0, 1, 1, 0, 0, 1, 1, 1, 1, 1, 1, 1, 1, 1, 1, 1, 1, 1, 1, 1, 1, 1]
def laws_toInt64S_l0_nx : Exit → List Nat
  | .exit 0 => [1, 1, 1, 0, 1, 1, 1, 1, 1, 1, 1, 1, 1, 1, 1, 1, 1, 1, 1, 1, 1, 1]
  | .ret => [1, 1, 0, 1, 1, 1, 1, 1, 1, 1, 1, 1, 1, 1, 1, 1, 1, 1, 1, 1, 1, 1]
  | _ => []
noncomputable def laws_toInt64S_LO (v34 : List Int) : LOr := fun id e L =>
  match id with
  | 0 => .need (normA 0 laws_toInt64S_l0_kill e L = some (laws_toInt64S_l0_E v34 ((gI (vAt e 4)), (gRI L (vAt e 3))))) (.call (laws_toInt64S_l0_g v34 ((gI (vAt e 4)), (gRI L (vAt e 3)))) fun x => .leaf (laws_toInt64S_l0_X v34 x))
  | _ => .fail
noncomputable def laws_toInt64S_tab : List (FuncId × DFn × Bool) := []
theorem laws_toInt64S_hO : OrcOk Try.prog (tabD laws_toInt64S_tab) (tabM laws_toInt64S_tab) := tabD_nil _
theorem laws_toInt64S_l0_be (v34 : List Int) (s : Int × (List Int)) : bodyT TT (tabD laws_toInt64S_tab) (tabM laws_toInt64S_tab) (laws_toInt64S_LO v34) 0 laws_toInt64S_l0_kill laws_toInt64S_l0_nx (bodyOf Try.f42 0) 0 (laws_toInt64S_l0_E v34 s) = (laws_toInt64S_l0_T v34 s).bind fun y => .leaf (outS (laws_toInt64S_l0_E v34) (laws_toInt64S_l0_X v34) y) := by kernel_rfl
theorem laws_toInt64S_l0_ok (v34 : List Int) : LSound Try.prog 0 (laws_toInt64S_LO v34) 0 (bodyOf Try.f42 0) := by
  intro e L out h
  exact lo_ok (E := laws_toInt64S_l0_E v34) (gT := laws_toInt64S_l0_T v34) (X := laws_toInt64S_l0_X v34) (s0 := ((gI (vAt e 4)), (gRI L (vAt e 3)))) tok laws_toInt64S_hO mixed (LoopsOk_eq (l := []) (by kernel_rfl) trivial) (laws_toInt64S_l0_be v34) rfl (by intro x; rfl) h
noncomputable def laws_toInt64S_T (v34 : List Int) : Tree ((List Int)) :=
  (.need (((v34.length : Nat) : Int) = ((v34.length : Nat) : Int)) <|
  (.grd (inb ((v34.length : Nat) : Int) (maxN + 1)) <|
  (.need (some (laws_toInt64S_l0_E v34 ((0 : Int), List.replicate (Int.toNat ((v34.length : Nat) : Int)) (0 : Int))) = some (laws_toInt64S_l0_E v34 ((0 : Int), List.replicate (Int.toNat ((v34.length : Nat) : Int)) (0 : Int)))) <|
  (.call (laws_toInt64S_l0_g v34 ((0 : Int), List.replicate (Int.toNat ((v34.length : Nat) : Int)) (0 : Int))) fun v40 =>
  .leaf v40))))

noncomputable def laws_toInt64S_g (v34 : List Int) : Option ((List Int)) := (laws_toInt64S_T v34).run
def laws_toInt64S_enc (v34 : List Int) (y : (List Int)) : Rs := (.own 0 0 ((y).length), [.row (.i64 y) 0])
theorem laws_toInt64S_den (v34 : List Int) : (den TT (tabD laws_toInt64S_tab) (tabM laws_toInt64S_tab) (laws_toInt64S_LO v34) (codeOf Try.f42) ([.bslc (BR.root 0) (.i64 v34)] ++ List.replicate (Try.f42.ntmps - ([.bslc (BR.root 0) (.i64 v34)] : List DV).length) .undef) []).bind (retD TT Try.f42.results.toList 0) = (laws_toInt64S_T v34).bind fun y => .leaf (laws_toInt64S_enc v34 y) := by kernel_rfl
theorem laws_toInt64S_fn (v34 : List Int) (F : Fr) (hm : F.ids.length = 0) (h0 : St F [] F.H0) (hA : DVs.Ok F [] [.bslc (BR.root 0) (.i64 v34)]) {y : (List Int)} (hy : laws_toInt64S_g v34 = some y) : ∃ H', FnOk Try.prog 42 (DVs.av F [.bslc (BR.root 0) (.i64 v34)]) F.H0 ((laws_toInt64S_enc v34 y).1.av F) H' ∧ St F (laws_toInt64S_enc v34 y).2 H' ∧ (laws_toInt64S_enc v34 y).1.Ok F (laws_toInt64S_enc v34 y).2 :=
  fn_fin tok laws_toInt64S_hO mixed Try.func42 Try.call42 (by kernel_rfl) (LoopsOk_eq (l := [(0, bodyOf Try.f42 0)]) (by kernel_rfl) ⟨laws_toInt64S_l0_ok v34, trivial⟩) (laws_toInt64S_den v34) hy hm h0 hA
noncomputable def laws_toInt64S_F : DFn := fun args L =>
  match args with
  | [a1] =>
    optT (rowI64 L a1) fun v34 =>
    .call (laws_toInt64S_g v34) fun y => .leaf (.own (L.length + 0) 0 ((y).length), L ++ [.row (.i64 y) 0])
  | _ => .fail
theorem laws_toInt64S_Fok : COk Try.prog 42 laws_toInt64S_F true := by
  intro F L H args r L' hs ha hr
  unfold laws_toInt64S_F at hr
  split at hr
  · rename_i a1
    obtain ⟨v34, hv34, hr⟩ := optT_run hr
    simp only [Tree.run] at hr
    obtain ⟨y, hy, hr⟩ := Option.bind_eq_some_iff.1 hr
    simp only [Tree.run, Option.some.injEq, Prod.mk.injEq] at hr
    obtain ⟨rfl, rfl⟩ := hr
    exact call_ok1 hs (fun k => (([a1.av F] : List AV)[k]?).getD .top) [a1] [.bslc (BR.root 0) (.i64 v34)] (fun F' h0 hi hρ => ⟨by simp [DVs.av, DV.av, BR.av, hρ], laws_toInt64S_fn v34 F' (by rw [hi]; rfl) (st_nil hi) ⟨bslc_ok hi (by rw [h0, hρ]; exact rowI64_ok hs (DVs.okAt ha 0 rfl) hv34), trivial⟩ hy⟩) rfl rfl
  · cases hr
/-! laws.toFactor -/
noncomputable def laws_toFactor_LO (v18 : Int) (v19 : Int) (v20 : List Nat) (v21 : List Int) : LOr := fun id e L =>
  match id with
  | _ => .fail
noncomputable def laws_toFactor_tab : List (FuncId × DFn × Bool) := [(31, laws_toMatrix_F, true), (42, laws_toInt64S_F, true)]
theorem laws_toFactor_hO : OrcOk Try.prog (tabD laws_toFactor_tab) (tabM laws_toFactor_tab) := tabD_cons laws_toMatrix_Fok (tabD_cons laws_toInt64S_Fok (tabD_nil _))
noncomputable def laws_toFactor_T (v18 : Int) (v19 : Int) (v20 : List Nat) (v21 : List Int) : Tree (Int × Int × (List Nat) × (List Int)) :=
  (.call (laws_toMatrix_g v18 v19 v20) fun v33 =>
  (.call (laws_toInt64S_g v21) fun v41 =>
  .leaf (v33.1, v33.2.1, v33.2.2, v41)))

noncomputable def laws_toFactor_g (v18 : Int) (v19 : Int) (v20 : List Nat) (v21 : List Int) : Option (Int × Int × (List Nat) × (List Int)) := (laws_toFactor_T v18 v19 v20 v21).run
def laws_toFactor_enc (v18 : Int) (v19 : Int) (v20 : List Nat) (v21 : List Int) (y : Int × Int × (List Nat) × (List Int)) : Rs := (.agg [.int .i64 y.1, .int .i64 y.2.1, .own 0 0 ((y.2.2.1).length), .own 1 0 ((y.2.2.2).length)], [.row (.f32 y.2.2.1) 0, .row (.i64 y.2.2.2) 0])
theorem laws_toFactor_den (v18 : Int) (v19 : Int) (v20 : List Nat) (v21 : List Int) : (den TT (tabD laws_toFactor_tab) (tabM laws_toFactor_tab) (laws_toFactor_LO v18 v19 v20 v21) (codeOf Try.f48) ([.agg [.int .i64 v18, .int .i64 v19, .bslc (BR.root 0) (.f32 v20), .bslc (BR.root 1) (.i64 v21)]] ++ List.replicate (Try.f48.ntmps - ([.agg [.int .i64 v18, .int .i64 v19, .bslc (BR.root 0) (.f32 v20), .bslc (BR.root 1) (.i64 v21)]] : List DV).length) .undef) []).bind (retD TT Try.f48.results.toList 0) = (laws_toFactor_T v18 v19 v20 v21).bind fun y => .leaf (laws_toFactor_enc v18 v19 v20 v21 y) := by kernel_rfl
theorem laws_toFactor_fn (v18 : Int) (v19 : Int) (v20 : List Nat) (v21 : List Int) (F : Fr) (hm : F.ids.length = 0) (h0 : St F [] F.H0) (hA : DVs.Ok F [] [.agg [.int .i64 v18, .int .i64 v19, .bslc (BR.root 0) (.f32 v20), .bslc (BR.root 1) (.i64 v21)]]) {y : Int × Int × (List Nat) × (List Int)} (hy : laws_toFactor_g v18 v19 v20 v21 = some y) : ∃ H', FnOk Try.prog 48 (DVs.av F [.agg [.int .i64 v18, .int .i64 v19, .bslc (BR.root 0) (.f32 v20), .bslc (BR.root 1) (.i64 v21)]]) F.H0 ((laws_toFactor_enc v18 v19 v20 v21 y).1.av F) H' ∧ St F (laws_toFactor_enc v18 v19 v20 v21 y).2 H' ∧ (laws_toFactor_enc v18 v19 v20 v21 y).1.Ok F (laws_toFactor_enc v18 v19 v20 v21 y).2 :=
  fn_fin tok laws_toFactor_hO mixed Try.func48 Try.call48 (by kernel_rfl) (LoopsOk_eq (l := []) (by kernel_rfl) trivial) (laws_toFactor_den v18 v19 v20 v21) hy hm h0 hA
noncomputable def laws_toFactor_F : DFn := fun args L =>
  match args with
  | [.agg [.int .i64 v18, .int .i64 v19, a1, a2]] =>
    optT (rowF32 L a1) fun v20 =>
    optT (rowI64 L a2) fun v21 =>
    .call (laws_toFactor_g v18 v19 v20 v21) fun y => .leaf (.agg [.int .i64 y.1, .int .i64 y.2.1, .own (L.length + 0) 0 ((y.2.2.1).length), .own (L.length + 1) 0 ((y.2.2.2).length)], L ++ [.row (.f32 y.2.2.1) 0, .row (.i64 y.2.2.2) 0])
  | _ => .fail
theorem laws_toFactor_Fok : COk Try.prog 48 laws_toFactor_F true := by
  intro F L H args r L' hs ha hr
  unfold laws_toFactor_F at hr
  split at hr
  · rename_i v18 v19 a1 a2
    obtain ⟨v20, hv20, hr⟩ := optT_run hr
    obtain ⟨v21, hv21, hr⟩ := optT_run hr
    simp only [Tree.run] at hr
    obtain ⟨y, hy, hr⟩ := Option.bind_eq_some_iff.1 hr
    simp only [Tree.run, Option.some.injEq, Prod.mk.injEq] at hr
    obtain ⟨rfl, rfl⟩ := hr
    exact call_ok1 hs (fun k => (([a1.av F, a2.av F] : List AV)[k]?).getD .top) [.agg [.int .i64 v18, .int .i64 v19, a1, a2]] [.agg [.int .i64 v18, .int .i64 v19, .bslc (BR.root 0) (.f32 v20), .bslc (BR.root 1) (.i64 v21)]] (fun F' h0 hi hρ => ⟨by simp [DVs.av, DV.av, BR.av, hρ], laws_toFactor_fn v18 v19 v20 v21 F' (by rw [hi]; rfl) (st_nil hi) ⟨⟨trivial, trivial, bslc_ok hi (by rw [h0, hρ]; exact rowF32_ok hs (DVs.okAt (DVs.okAt ha 0 rfl) 2 rfl) hv20), bslc_ok hi (by rw [h0, hρ]; exact rowI64_ok hs (DVs.okAt (DVs.okAt ha 0 rfl) 3 rfl) hv21), trivial⟩, trivial⟩ hy⟩) rfl rfl
  · cases hr
/-! spec.l00In -/
noncomputable def spec_l00In_LO (v59 : Int) (v60 : Int) (v61 : Int) : LOr := fun id e L =>
  match id with
  | _ => .fail
noncomputable def spec_l00In_tab : List (FuncId × DFn × Bool) := []
theorem spec_l00In_hO : OrcOk Try.prog (tabD spec_l00In_tab) (tabM spec_l00In_tab) := tabD_nil _
noncomputable def spec_l00In_T (v59 : Int) (v60 : Int) (v61 : Int) : Tree (Bool) :=
  (.br (decide (v60 ≤ v59)) (
   .leaf (decide (v59 ≤ v61))
  ) (
   .leaf false
  ))

noncomputable def spec_l00In_g (v59 : Int) (v60 : Int) (v61 : Int) : Option (Bool) := (spec_l00In_T v59 v60 v61).run
def spec_l00In_enc (v59 : Int) (v60 : Int) (v61 : Int) (y : Bool) : Rs := (.bool y, [])
theorem spec_l00In_den (v59 : Int) (v60 : Int) (v61 : Int) : (den TT (tabD spec_l00In_tab) (tabM spec_l00In_tab) (spec_l00In_LO v59 v60 v61) (codeOf Try.f71) ([.int .i64 v59, .int .i64 v60, .int .i64 v61] ++ List.replicate (Try.f71.ntmps - ([.int .i64 v59, .int .i64 v60, .int .i64 v61] : List DV).length) .undef) []).bind (retD TT Try.f71.results.toList 0) = (spec_l00In_T v59 v60 v61).bind fun y => .leaf (spec_l00In_enc v59 v60 v61 y) := by kernel_rfl
theorem spec_l00In_fn (v59 : Int) (v60 : Int) (v61 : Int) (F : Fr) (hm : F.ids.length = 0) (h0 : St F [] F.H0) (hA : DVs.Ok F [] [.int .i64 v59, .int .i64 v60, .int .i64 v61]) {y : Bool} (hy : spec_l00In_g v59 v60 v61 = some y) : ∃ H', FnOk Try.prog 71 (DVs.av F [.int .i64 v59, .int .i64 v60, .int .i64 v61]) F.H0 ((spec_l00In_enc v59 v60 v61 y).1.av F) H' ∧ St F (spec_l00In_enc v59 v60 v61 y).2 H' ∧ (spec_l00In_enc v59 v60 v61 y).1.Ok F (spec_l00In_enc v59 v60 v61 y).2 :=
  fn_fin tok spec_l00In_hO mixed Try.func71 Try.call71 (by kernel_rfl) (LoopsOk_eq (l := []) (by kernel_rfl) trivial) (spec_l00In_den v59 v60 v61) hy hm h0 hA
def spec_l00In_v (v59 : Int) (v60 : Int) (v61 : Int) : Bool :=
  if (decide (v60 ≤ v59)) = true then (
   decide (v59 ≤ v61)
  ) else (
   false
  )
theorem spec_l00In_tot (v59 : Int) (v60 : Int) (v61 : Int) : spec_l00In_g v59 v60 v61 = some (spec_l00In_v v59 v60 v61) := by
  unfold spec_l00In_g spec_l00In_T spec_l00In_v
  simp only [Tree.run]
  repeat' (first | rfl | split)
noncomputable def spec_l00In_F : DFn := fun args L =>
  match args with
  | [.int .i64 v59, .int .i64 v60, .int .i64 v61] =>
    .leaf (.bool (spec_l00In_v v59 v60 v61), L)
  | _ => .fail
theorem spec_l00In_Fok : COk Try.prog 71 spec_l00In_F true := by
  intro F L H args r L' hs ha hr
  unfold spec_l00In_F at hr
  split at hr
  · rename_i v59 v60 v61
    have hy := spec_l00In_tot v59 v60 v61
    generalize spec_l00In_v v59 v60 v61 = y at hy hr
    simp only [Tree.run, Option.some.injEq, Prod.mk.injEq] at hr
    obtain ⟨rfl, rfl⟩ := hr
    exact call_ok0 hs (fun k => (([] : List AV)[k]?).getD .top) [.int .i64 v59, .int .i64 v60, .int .i64 v61] [.int .i64 v59, .int .i64 v60, .int .i64 v61] (fun F' h0 hi hρ => ⟨by simp [DVs.av, DV.av, BR.av, hρ], spec_l00In_fn v59 v60 v61 F' (by rw [hi]; rfl) (st_nil hi) ⟨trivial, trivial, trivial, trivial⟩ hy⟩) rfl
  · cases hr
/-! spec.l02Sides -/
noncomputable def spec_l02Sides_LO (v57 : Int) (v58 : Int) : LOr := fun id e L =>
  match id with
  | _ => .fail
noncomputable def spec_l02Sides_tab : List (FuncId × DFn × Bool) := [(71, spec_l00In_F, true)]
theorem spec_l02Sides_hO : OrcOk Try.prog (tabD spec_l02Sides_tab) (tabM spec_l02Sides_tab) := tabD_cons spec_l00In_Fok (tabD_nil _)
noncomputable def spec_l02Sides_T (v57 : Int) (v58 : Int) : Tree (Bool) :=
  (.br (spec_l00In_v v57 (1 : Int) (12 : Int)) (
   .leaf (spec_l00In_v v58 (1 : Int) (12 : Int))
  ) (
   .leaf false
  ))

noncomputable def spec_l02Sides_g (v57 : Int) (v58 : Int) : Option (Bool) := (spec_l02Sides_T v57 v58).run
def spec_l02Sides_enc (v57 : Int) (v58 : Int) (y : Bool) : Rs := (.bool y, [])
theorem spec_l02Sides_den (v57 : Int) (v58 : Int) : (den TT (tabD spec_l02Sides_tab) (tabM spec_l02Sides_tab) (spec_l02Sides_LO v57 v58) (codeOf Try.f147) ([.int .i64 v57, .int .i64 v58] ++ List.replicate (Try.f147.ntmps - ([.int .i64 v57, .int .i64 v58] : List DV).length) .undef) []).bind (retD TT Try.f147.results.toList 0) = (spec_l02Sides_T v57 v58).bind fun y => .leaf (spec_l02Sides_enc v57 v58 y) := by kernel_rfl
theorem spec_l02Sides_fn (v57 : Int) (v58 : Int) (F : Fr) (hm : F.ids.length = 0) (h0 : St F [] F.H0) (hA : DVs.Ok F [] [.int .i64 v57, .int .i64 v58]) {y : Bool} (hy : spec_l02Sides_g v57 v58 = some y) : ∃ H', FnOk Try.prog 147 (DVs.av F [.int .i64 v57, .int .i64 v58]) F.H0 ((spec_l02Sides_enc v57 v58 y).1.av F) H' ∧ St F (spec_l02Sides_enc v57 v58 y).2 H' ∧ (spec_l02Sides_enc v57 v58 y).1.Ok F (spec_l02Sides_enc v57 v58 y).2 :=
  fn_fin tok spec_l02Sides_hO mixed Try.func147 Try.call147 (by kernel_rfl) (LoopsOk_eq (l := []) (by kernel_rfl) trivial) (spec_l02Sides_den v57 v58) hy hm h0 hA
def spec_l02Sides_v (v57 : Int) (v58 : Int) : Bool :=
  if (spec_l00In_v v57 (1 : Int) (12 : Int)) = true then (
   (spec_l00In_v v58 (1 : Int) (12 : Int))
  ) else (
   false
  )
theorem spec_l02Sides_tot (v57 : Int) (v58 : Int) : spec_l02Sides_g v57 v58 = some (spec_l02Sides_v v57 v58) := by
  unfold spec_l02Sides_g spec_l02Sides_T spec_l02Sides_v
  simp only [Tree.run]
  repeat' (first | rfl | split)
noncomputable def spec_l02Sides_F : DFn := fun args L =>
  match args with
  | [.int .i64 v57, .int .i64 v58] =>
    .leaf (.bool (spec_l02Sides_v v57 v58), L)
  | _ => .fail
theorem spec_l02Sides_Fok : COk Try.prog 147 spec_l02Sides_F true := by
  intro F L H args r L' hs ha hr
  unfold spec_l02Sides_F at hr
  split at hr
  · rename_i v57 v58
    have hy := spec_l02Sides_tot v57 v58
    generalize spec_l02Sides_v v57 v58 = y at hy hr
    simp only [Tree.run, Option.some.injEq, Prod.mk.injEq] at hr
    obtain ⟨rfl, rfl⟩ := hr
    exact call_ok0 hs (fun k => (([] : List AV)[k]?).getD .top) [.int .i64 v57, .int .i64 v58] [.int .i64 v57, .int .i64 v58] (fun F' h0 hi hρ => ⟨by simp [DVs.av, DV.av, BR.av, hρ], spec_l02Sides_fn v57 v58 F' (by rw [hi]; rfl) (st_nil hi) ⟨trivial, trivial, trivial⟩ hy⟩) rfl
  · cases hr
/-! spec.l01Finite -/
noncomputable def spec_l01Finite_LO (v64 : Nat) : LOr := fun id e L =>
  match id with
  | _ => .fail
noncomputable def spec_l01Finite_tab : List (FuncId × DFn × Bool) := []
theorem spec_l01Finite_hO : OrcOk Try.prog (tabD spec_l01Finite_tab) (tabM spec_l01Finite_tab) := tabD_nil _
noncomputable def spec_l01Finite_T (v64 : Nat) : Tree (Bool) :=
  .leaf (feq .f32 (fsub .f32 v64 v64) (0 : Nat))

noncomputable def spec_l01Finite_g (v64 : Nat) : Option (Bool) := (spec_l01Finite_T v64).run
def spec_l01Finite_enc (v64 : Nat) (y : Bool) : Rs := (.bool y, [])
theorem spec_l01Finite_den (v64 : Nat) : (den TT (tabD spec_l01Finite_tab) (tabM spec_l01Finite_tab) (spec_l01Finite_LO v64) (codeOf Try.f100) ([.flt .f32 v64] ++ List.replicate (Try.f100.ntmps - ([.flt .f32 v64] : List DV).length) .undef) []).bind (retD TT Try.f100.results.toList 0) = (spec_l01Finite_T v64).bind fun y => .leaf (spec_l01Finite_enc v64 y) := by kernel_rfl
theorem spec_l01Finite_fn (v64 : Nat) (F : Fr) (hm : F.ids.length = 0) (h0 : St F [] F.H0) (hA : DVs.Ok F [] [.flt .f32 v64]) {y : Bool} (hy : spec_l01Finite_g v64 = some y) : ∃ H', FnOk Try.prog 100 (DVs.av F [.flt .f32 v64]) F.H0 ((spec_l01Finite_enc v64 y).1.av F) H' ∧ St F (spec_l01Finite_enc v64 y).2 H' ∧ (spec_l01Finite_enc v64 y).1.Ok F (spec_l01Finite_enc v64 y).2 :=
  fn_fin tok spec_l01Finite_hO mixed Try.func100 Try.call100 (by kernel_rfl) (LoopsOk_eq (l := []) (by kernel_rfl) trivial) (spec_l01Finite_den v64) hy hm h0 hA
def spec_l01Finite_v (v64 : Nat) : Bool :=
  feq .f32 (fsub .f32 v64 v64) (0 : Nat)
theorem spec_l01Finite_tot (v64 : Nat) : spec_l01Finite_g v64 = some (spec_l01Finite_v v64) := by
  unfold spec_l01Finite_g spec_l01Finite_T spec_l01Finite_v
  simp only [Tree.run]
  repeat' (first | rfl | split)
noncomputable def spec_l01Finite_F : DFn := fun args L =>
  match args with
  | [.flt .f32 v64] =>
    .leaf (.bool (spec_l01Finite_v v64), L)
  | _ => .fail
theorem spec_l01Finite_Fok : COk Try.prog 100 spec_l01Finite_F true := by
  intro F L H args r L' hs ha hr
  unfold spec_l01Finite_F at hr
  split at hr
  · rename_i v64
    have hy := spec_l01Finite_tot v64
    generalize spec_l01Finite_v v64 = y at hy hr
    simp only [Tree.run, Option.some.injEq, Prod.mk.injEq] at hr
    obtain ⟨rfl, rfl⟩ := hr
    exact call_ok0 hs (fun k => (([] : List AV)[k]?).getD .top) [.flt .f32 v64] [.flt .f32 v64] (fun F' h0 hi hρ => ⟨by simp [DVs.av, DV.av, BR.av, hρ], spec_l01Finite_fn v64 F' (by rw [hi]; rfl) (st_nil hi) ⟨trivial, trivial⟩ hy⟩) rfl
  · cases hr
/-! spec.l02Finite -/
noncomputable def spec_l02Finite_l0_T (v62 : List Nat) (s : Int) : Tree ((Int) ⊕ ((Unit) ⊕ (Unit))) :=
  (.br (decide (s < ((v62.length : Nat) : Int))) (
   (.grd (inb s v62.length) <|
   (.br (!(spec_l01Finite_v (nth v62 (Int.toNat s)))) (
    .leaf (.inr (.inl ()))
   ) (
    .leaf (.inl (IntKind.i64.wrap (s + (1 : Int))))
   )))
  ) (
   .leaf (.inr (.inr ()))
  ))

noncomputable def spec_l02Finite_l0_g (v62 : List Nat) (s0 : Int) : Option ((Unit) ⊕ (Unit)) := whileM (fun s => (spec_l02Finite_l0_T v62 s).run) s0
def spec_l02Finite_l0_E (v62 : List Nat) (s : Int) : Sd := ([.bslc (BR.root 0) (.f32 v62), .top, .top, .int .i64 s, .top, .top, .top, .top, .top, .top, .top, .top, .top, .top, .top, .top], [])
def spec_l02Finite_l0_X (v62 : List Nat) (x : (Unit) ⊕ (Unit)) : Out := (match x with | .inl x => (.ret, [.top, .top, .lit false, .top, .top, .top, .top, .top, .top, .top, .top, .top, .top, .top, .top, .top], []) | .inr x => (.normal, [.top, .top, .top, .top, .top, .top, .top, .top, .top, .top, .top, .top, .top, .top, .top, .top], []))
def spec_l02Finite_l0_kill : List Nat := [0, 1, 1, 0, 1, 1, 1, 1, 1, 1, 1, 1, 1, 1, 1, 1]
def spec_l02Finite_l0_nx : Exit → List Nat
  | .exit 0 => [1, 1, 1, 1, 1, 1, 1, 1, 1, 1, 1, 1, 1, 1, 1, 1]
  | .ret => [1, 1, 0, 1, 1, 1, 1, 1, 1, 1, 1, 1, 1, 1, 1, 1]
  | _ => []
noncomputable def spec_l02Finite_LO (v62 : List Nat) : LOr := fun id e L =>
  match id with
  | 0 => .need (normA 0 spec_l02Finite_l0_kill e L = some (spec_l02Finite_l0_E v62 (gI (vAt e 3)))) (.call (spec_l02Finite_l0_g v62 (gI (vAt e 3))) fun x => .sum x (fun b0 => .leaf (spec_l02Finite_l0_X v62 (.inl b0))) (fun c0 => .leaf (spec_l02Finite_l0_X v62 (.inr c0))))
  | _ => .fail
noncomputable def spec_l02Finite_tab : List (FuncId × DFn × Bool) := [(100, spec_l01Finite_F, true)]
theorem spec_l02Finite_hO : OrcOk Try.prog (tabD spec_l02Finite_tab) (tabM spec_l02Finite_tab) := tabD_cons spec_l01Finite_Fok (tabD_nil _)
theorem spec_l02Finite_l0_be (v62 : List Nat) (s : Int) : bodyT TT (tabD spec_l02Finite_tab) (tabM spec_l02Finite_tab) (spec_l02Finite_LO v62) 0 spec_l02Finite_l0_kill spec_l02Finite_l0_nx (bodyOf Try.f131 0) 0 (spec_l02Finite_l0_E v62 s) = (spec_l02Finite_l0_T v62 s).bind fun y => .leaf (outS (spec_l02Finite_l0_E v62) (spec_l02Finite_l0_X v62) y) := by kernel_rfl
theorem spec_l02Finite_l0_ok (v62 : List Nat) : LSound Try.prog 0 (spec_l02Finite_LO v62) 0 (bodyOf Try.f131 0) := by
  intro e L out h
  exact lo_ok (E := spec_l02Finite_l0_E v62) (gT := spec_l02Finite_l0_T v62) (X := spec_l02Finite_l0_X v62) (s0 := (gI (vAt e 3))) tok spec_l02Finite_hO mixed (LoopsOk_eq (l := []) (by kernel_rfl) trivial) (spec_l02Finite_l0_be v62) rfl (by intro x; (cases x with | inl b => rfl | inr x => exact rfl)) h
noncomputable def spec_l02Finite_T (v62 : List Nat) : Tree (Bool) :=
  (.need (some (spec_l02Finite_l0_E v62 (0 : Int)) = some (spec_l02Finite_l0_E v62 (0 : Int))) <|
  (.call (spec_l02Finite_l0_g v62 (0 : Int)) fun v67 =>
  (.sum v67 (fun v68 =>
   .leaf false
  ) (fun v69 =>
   .leaf true
  ))))

noncomputable def spec_l02Finite_g (v62 : List Nat) : Option (Bool) := (spec_l02Finite_T v62).run
def spec_l02Finite_enc (v62 : List Nat) (y : Bool) : Rs := (.bool y, [])
theorem spec_l02Finite_den (v62 : List Nat) : (den TT (tabD spec_l02Finite_tab) (tabM spec_l02Finite_tab) (spec_l02Finite_LO v62) (codeOf Try.f131) ([.bslc (BR.root 0) (.f32 v62)] ++ List.replicate (Try.f131.ntmps - ([.bslc (BR.root 0) (.f32 v62)] : List DV).length) .undef) []).bind (retD TT Try.f131.results.toList 0) = (spec_l02Finite_T v62).bind fun y => .leaf (spec_l02Finite_enc v62 y) := by kernel_rfl
theorem spec_l02Finite_fn (v62 : List Nat) (F : Fr) (hm : F.ids.length = 0) (h0 : St F [] F.H0) (hA : DVs.Ok F [] [.bslc (BR.root 0) (.f32 v62)]) {y : Bool} (hy : spec_l02Finite_g v62 = some y) : ∃ H', FnOk Try.prog 131 (DVs.av F [.bslc (BR.root 0) (.f32 v62)]) F.H0 ((spec_l02Finite_enc v62 y).1.av F) H' ∧ St F (spec_l02Finite_enc v62 y).2 H' ∧ (spec_l02Finite_enc v62 y).1.Ok F (spec_l02Finite_enc v62 y).2 :=
  fn_fin tok spec_l02Finite_hO mixed Try.func131 Try.call131 (by kernel_rfl) (LoopsOk_eq (l := [(0, bodyOf Try.f131 0)]) (by kernel_rfl) ⟨spec_l02Finite_l0_ok v62, trivial⟩) (spec_l02Finite_den v62) hy hm h0 hA
noncomputable def spec_l02Finite_F : DFn := fun args L =>
  match args with
  | [a1] =>
    optT (rowF32 L a1) fun v62 =>
    .call (spec_l02Finite_g v62) fun y => .leaf (.bool y, L)
  | _ => .fail
theorem spec_l02Finite_Fok : COk Try.prog 131 spec_l02Finite_F true := by
  intro F L H args r L' hs ha hr
  unfold spec_l02Finite_F at hr
  split at hr
  · rename_i a1
    obtain ⟨v62, hv62, hr⟩ := optT_run hr
    simp only [Tree.run] at hr
    obtain ⟨y, hy, hr⟩ := Option.bind_eq_some_iff.1 hr
    simp only [Tree.run, Option.some.injEq, Prod.mk.injEq] at hr
    obtain ⟨rfl, rfl⟩ := hr
    exact call_ok0 hs (fun k => (([a1.av F] : List AV)[k]?).getD .top) [a1] [.bslc (BR.root 0) (.f32 v62)] (fun F' h0 hi hρ => ⟨by simp [DVs.av, DV.av, BR.av, hρ], spec_l02Finite_fn v62 F' (by rw [hi]; rfl) (st_nil hi) ⟨bslc_ok hi (by rw [h0, hρ]; exact rowF32_ok hs (DVs.okAt ha 0 rfl) hv62), trivial⟩ hy⟩) rfl
  · cases hr
/-! spec.l02Is -/
noncomputable def spec_l02Is_LO (v54 : Int) (v55 : Int) (v56 : List Nat) : LOr := fun id e L =>
  match id with
  | _ => .fail
noncomputable def spec_l02Is_tab : List (FuncId × DFn × Bool) := [(147, spec_l02Sides_F, true), (131, spec_l02Finite_F, true)]
theorem spec_l02Is_hO : OrcOk Try.prog (tabD spec_l02Is_tab) (tabM spec_l02Is_tab) := tabD_cons spec_l02Sides_Fok (tabD_cons spec_l02Finite_Fok (tabD_nil _))
noncomputable def spec_l02Is_T (v54 : Int) (v55 : Int) (v56 : List Nat) : Tree (Bool) :=
  (.br (spec_l02Sides_v v54 v55) (
   (.br (decide (((v56.length : Nat) : Int) = IntKind.i64.wrap (v54 * v55))) (
    (.call (spec_l02Finite_g v56) fun v70 =>
    .leaf v70)
   ) (
    .leaf false
   ))
  ) (
   .leaf false
  ))

noncomputable def spec_l02Is_g (v54 : Int) (v55 : Int) (v56 : List Nat) : Option (Bool) := (spec_l02Is_T v54 v55 v56).run
def spec_l02Is_enc (v54 : Int) (v55 : Int) (v56 : List Nat) (y : Bool) : Rs := (.bool y, [])
theorem spec_l02Is_den (v54 : Int) (v55 : Int) (v56 : List Nat) : (den TT (tabD spec_l02Is_tab) (tabM spec_l02Is_tab) (spec_l02Is_LO v54 v55 v56) (codeOf Try.f99) ([.bptr (BR.root 0) [.int .i64 v54, .int .i64 v55, .bslc (BR.root 1) (.f32 v56)]] ++ List.replicate (Try.f99.ntmps - ([.bptr (BR.root 0) [.int .i64 v54, .int .i64 v55, .bslc (BR.root 1) (.f32 v56)]] : List DV).length) .undef) []).bind (retD TT Try.f99.results.toList 0) = (spec_l02Is_T v54 v55 v56).bind fun y => .leaf (spec_l02Is_enc v54 v55 v56 y) := by kernel_rfl
theorem spec_l02Is_fn (v54 : Int) (v55 : Int) (v56 : List Nat) (F : Fr) (hm : F.ids.length = 0) (h0 : St F [] F.H0) (hA : DVs.Ok F [] [.bptr (BR.root 0) [.int .i64 v54, .int .i64 v55, .bslc (BR.root 1) (.f32 v56)]]) {y : Bool} (hy : spec_l02Is_g v54 v55 v56 = some y) : ∃ H', FnOk Try.prog 99 (DVs.av F [.bptr (BR.root 0) [.int .i64 v54, .int .i64 v55, .bslc (BR.root 1) (.f32 v56)]]) F.H0 ((spec_l02Is_enc v54 v55 v56 y).1.av F) H' ∧ St F (spec_l02Is_enc v54 v55 v56 y).2 H' ∧ (spec_l02Is_enc v54 v55 v56 y).1.Ok F (spec_l02Is_enc v54 v55 v56 y).2 :=
  fn_fin tok spec_l02Is_hO mixed Try.func99 Try.call99 (by kernel_rfl) (LoopsOk_eq (l := []) (by kernel_rfl) trivial) (spec_l02Is_den v54 v55 v56) hy hm h0 hA
noncomputable def spec_l02Is_F : DFn := fun args L =>
  match args with
  | [a1] =>
    optT (cellsOf L 3 a1) fun cs0 =>
    (match cs0 with
    | [.int .i64 v54, .int .i64 v55, a2] =>
    optT (rowF32 L a2) fun v56 =>
    .call (spec_l02Is_g v54 v55 v56) fun y => .leaf (.bool y, L)
    | _ => .fail)
  | _ => .fail
theorem spec_l02Is_Fok : COk Try.prog 99 spec_l02Is_F true := by
  intro F L H args r L' hs ha hr
  unfold spec_l02Is_F at hr
  split at hr
  · rename_i a1
    obtain ⟨cs0, hcp0, hr⟩ := optT_run hr
    split at hr
    · rename_i v54 v55 a2
      obtain ⟨v56, hv56, hr⟩ := optT_run hr
      simp only [Tree.run] at hr
      obtain ⟨y, hy, hr⟩ := Option.bind_eq_some_iff.1 hr
      simp only [Tree.run, Option.some.injEq, Prod.mk.injEq] at hr
      obtain ⟨rfl, rfl⟩ := hr
      exact call_ok0 hs (fun k => (([a1.av F, a2.av F] : List AV)[k]?).getD .top) [a1] [.bptr (BR.root 0) [.int .i64 v54, .int .i64 v55, .bslc (BR.root 1) (.f32 v56)]] (fun F' h0 hi hρ => ⟨by simp [DVs.av, DV.av, BR.av, hρ], spec_l02Is_fn v54 v55 v56 F' (by rw [hi]; rfl) (st_nil hi) ⟨bptr_ok hi (by rw [h0]; simpa [DVs.av, DV.av, BR.av, hρ] using (cellsOf_ok hs (DVs.okAt ha 0 rfl) hcp0).1) ⟨trivial, trivial, bslc_ok hi (by rw [h0, hρ]; exact rowF32_ok hs (DVs.okAt (cellsOf_ok hs (DVs.okAt ha 0 rfl) hcp0).2 2 rfl) hv56), trivial⟩, trivial⟩ hy⟩) rfl
    · cases hr
  · cases hr
/-! spec.l02Square -/
noncomputable def spec_l02Square_LO (v51 : Int) (v52 : Int) (v53 : List Nat) : LOr := fun id e L =>
  match id with
  | _ => .fail
noncomputable def spec_l02Square_tab : List (FuncId × DFn × Bool) := [(99, spec_l02Is_F, true)]
theorem spec_l02Square_hO : OrcOk Try.prog (tabD spec_l02Square_tab) (tabM spec_l02Square_tab) := tabD_cons spec_l02Is_Fok (tabD_nil _)
noncomputable def spec_l02Square_T (v51 : Int) (v52 : Int) (v53 : List Nat) : Tree (Bool) :=
  (.call (spec_l02Is_g v51 v52 v53) fun v71 =>
  (.br v71 (
   .leaf (decide (v51 = v52))
  ) (
   .leaf false
  )))

noncomputable def spec_l02Square_g (v51 : Int) (v52 : Int) (v53 : List Nat) : Option (Bool) := (spec_l02Square_T v51 v52 v53).run
def spec_l02Square_enc (v51 : Int) (v52 : Int) (v53 : List Nat) (y : Bool) : Rs := (.bool y, [])
theorem spec_l02Square_den (v51 : Int) (v52 : Int) (v53 : List Nat) : (den TT (tabD spec_l02Square_tab) (tabM spec_l02Square_tab) (spec_l02Square_LO v51 v52 v53) (codeOf Try.f82) ([.bptr (BR.root 0) [.int .i64 v51, .int .i64 v52, .bslc (BR.root 1) (.f32 v53)]] ++ List.replicate (Try.f82.ntmps - ([.bptr (BR.root 0) [.int .i64 v51, .int .i64 v52, .bslc (BR.root 1) (.f32 v53)]] : List DV).length) .undef) []).bind (retD TT Try.f82.results.toList 0) = (spec_l02Square_T v51 v52 v53).bind fun y => .leaf (spec_l02Square_enc v51 v52 v53 y) := by kernel_rfl
theorem spec_l02Square_fn (v51 : Int) (v52 : Int) (v53 : List Nat) (F : Fr) (hm : F.ids.length = 0) (h0 : St F [] F.H0) (hA : DVs.Ok F [] [.bptr (BR.root 0) [.int .i64 v51, .int .i64 v52, .bslc (BR.root 1) (.f32 v53)]]) {y : Bool} (hy : spec_l02Square_g v51 v52 v53 = some y) : ∃ H', FnOk Try.prog 82 (DVs.av F [.bptr (BR.root 0) [.int .i64 v51, .int .i64 v52, .bslc (BR.root 1) (.f32 v53)]]) F.H0 ((spec_l02Square_enc v51 v52 v53 y).1.av F) H' ∧ St F (spec_l02Square_enc v51 v52 v53 y).2 H' ∧ (spec_l02Square_enc v51 v52 v53 y).1.Ok F (spec_l02Square_enc v51 v52 v53 y).2 :=
  fn_fin tok spec_l02Square_hO mixed Try.func82 Try.call82 (by kernel_rfl) (LoopsOk_eq (l := []) (by kernel_rfl) trivial) (spec_l02Square_den v51 v52 v53) hy hm h0 hA
noncomputable def spec_l02Square_F : DFn := fun args L =>
  match args with
  | [a1] =>
    optT (cellsOf L 3 a1) fun cs0 =>
    (match cs0 with
    | [.int .i64 v51, .int .i64 v52, a2] =>
    optT (rowF32 L a2) fun v53 =>
    .call (spec_l02Square_g v51 v52 v53) fun y => .leaf (.bool y, L)
    | _ => .fail)
  | _ => .fail
theorem spec_l02Square_Fok : COk Try.prog 82 spec_l02Square_F true := by
  intro F L H args r L' hs ha hr
  unfold spec_l02Square_F at hr
  split at hr
  · rename_i a1
    obtain ⟨cs0, hcp0, hr⟩ := optT_run hr
    split at hr
    · rename_i v51 v52 a2
      obtain ⟨v53, hv53, hr⟩ := optT_run hr
      simp only [Tree.run] at hr
      obtain ⟨y, hy, hr⟩ := Option.bind_eq_some_iff.1 hr
      simp only [Tree.run, Option.some.injEq, Prod.mk.injEq] at hr
      obtain ⟨rfl, rfl⟩ := hr
      exact call_ok0 hs (fun k => (([a1.av F, a2.av F] : List AV)[k]?).getD .top) [a1] [.bptr (BR.root 0) [.int .i64 v51, .int .i64 v52, .bslc (BR.root 1) (.f32 v53)]] (fun F' h0 hi hρ => ⟨by simp [DVs.av, DV.av, BR.av, hρ], spec_l02Square_fn v51 v52 v53 F' (by rw [hi]; rfl) (st_nil hi) ⟨bptr_ok hi (by rw [h0]; simpa [DVs.av, DV.av, BR.av, hρ] using (cellsOf_ok hs (DVs.okAt ha 0 rfl) hcp0).1) ⟨trivial, trivial, bslc_ok hi (by rw [h0, hρ]; exact rowF32_ok hs (DVs.okAt (cellsOf_ok hs (DVs.okAt ha 0 rfl) hcp0).2 2 rfl) hv53), trivial⟩, trivial⟩ hy⟩) rfl
    · cases hr
  · cases hr
/-! spec.l02Order -/
noncomputable def spec_l02Order_l0_T (v73 : List Int) (s : Int × (List Bool)) : Tree ((Int × (List Bool)) ⊕ ((Unit) ⊕ (Unit))) :=
  (.br (decide (s.1 < ((v73.length : Nat) : Int))) (
   (.grd (inb s.1 v73.length) <|
   (.br (!(spec_l00In_v (nth v73 (Int.toNat s.1)) (0 : Int) (IntKind.i64.wrap (((v73.length : Nat) : Int) - (1 : Int))))) (
    .leaf (.inr (.inl ()))
   ) (
    (.grd (inb s.1 v73.length) <|
    (.grd (inb (nth v73 (Int.toNat s.1)) ((s.2).length)) <|
    (.br (nth s.2 (Int.toNat (nth v73 (Int.toNat s.1)))) (
     .leaf (.inr (.inl ()))
    ) (
     (.grd (inb s.1 v73.length) <|
     (.grd (inb (nth v73 (Int.toNat s.1)) ((s.2).length)) <|
     .leaf (.inl (IntKind.i64.wrap (s.1 + (1 : Int)), List.set s.2 (Int.toNat (nth v73 (Int.toNat s.1))) true))))
    ))))
   )))
  ) (
   .leaf (.inr (.inr ()))
  ))

noncomputable def spec_l02Order_l0_g (v73 : List Int) (s0 : Int × (List Bool)) : Option ((Unit) ⊕ (Unit)) := whileM (fun s => (spec_l02Order_l0_T v73 s).run) s0
def spec_l02Order_l0_E (v73 : List Int) (s : Int × (List Bool)) : Sd := ([.bslc (BR.root 0) (.i64 v73), .top, .top, .own 0 0 ((s.2).length), .int .i64 s.1, .top, .top, .top, .top, .top, .top, .top, .top, .top, .top, .top, .top, .top, .top, .top, .top, .top, .top, .top, .top, .top, .top, .top, .top, .top, .top, .top, .top, .top, .top, .top, .top, .top, .top, .top, .top, .top, .top, .top, .top, .top], [.row (.bool s.2) 0])
def spec_l02Order_l0_X (v73 : List Int) (x : (Unit) ⊕ (Unit)) : Out := (match x with | .inl x => (.ret, [.top, .top, .lit false, .top, .top, .top, .top, .top, .top, .top, .top, .top, .top, .top, .top, .top, .top, .top, .top, .top, .top, .top, .top, .top, .top, .top, .top, .top, .top, .top, .top, .top, .top, .top, .top, .top, .top, .top, .top, .top, .top, .top, .top, .top, .top, .top], []) | .inr x => (.normal, [.top, .top, .top, .top, .top, .top, .top, .top, .top, .top, .top, .top, .top, .top, .top, .top, .top, .top, .top, .top, .top, .top, .top, .top, .top, .top, .top, .top, .top, .top, .top, .top, .top, .top, .top, .top, .top, .top, .top, .top, .top, .top, .top, .top, .top, .top], []))
def spec_l02Order_l0_kill : List Nat := [0, 1, 1, 0, 0, 1, 1, 1, 1, 1, 1, 1, 1, 1, 1, 1, 1, 1, 1, 1, 1, 1, 1, 1, 1, 1, 1, 1, 1, 1, 1, 1, 1, 1, 1, 1, 1, 1, 1, 1, 1, 1, 1, 1, 1, 1]
def spec_l02Order_l0_nx : Exit → List Nat
  | .exit 0 => [1, 1, 1, 1, 1, 1, 1, 1, 1, 1, 1, 1, 1, 1, 1, 1, 1, 1, 1, 1, 1, 1, 1, 1, 1, 1, 1, 1, 1, 1, 1, 1, 1, 1, 1, 1, 1, 1, 1, 1, 1, 1, 1, 1, 1, 1]
  | .ret => [1, 1, 0, 1, 1, 1, 1, 1, 1, 1, 1, 1, 1, 1, 1, 1, 1, 1, 1, 1, 1, 1, 1, 1, 1, 1, 1, 1, 1, 1, 1, 1, 1, 1, 1, 1, 1, 1, 1, 1, 1, 1, 1, 1, 1, 1]
  | _ => []
noncomputable def spec_l02Order_LO (v73 : List Int) : LOr := fun id e L =>
  match id with
  | 0 => .need (normA 0 spec_l02Order_l0_kill e L = some (spec_l02Order_l0_E v73 ((gI (vAt e 4)), (gRB L (vAt e 3))))) (.call (spec_l02Order_l0_g v73 ((gI (vAt e 4)), (gRB L (vAt e 3)))) fun x => .sum x (fun b0 => .leaf (spec_l02Order_l0_X v73 (.inl b0))) (fun c0 => .leaf (spec_l02Order_l0_X v73 (.inr c0))))
  | _ => .fail
noncomputable def spec_l02Order_tab : List (FuncId × DFn × Bool) := [(71, spec_l00In_F, true)]
theorem spec_l02Order_hO : OrcOk Try.prog (tabD spec_l02Order_tab) (tabM spec_l02Order_tab) := tabD_cons spec_l00In_Fok (tabD_nil _)
theorem spec_l02Order_l0_be (v73 : List Int) (s : Int × (List Bool)) : bodyT TT (tabD spec_l02Order_tab) (tabM spec_l02Order_tab) (spec_l02Order_LO v73) 0 spec_l02Order_l0_kill spec_l02Order_l0_nx (bodyOf Try.f106 0) 0 (spec_l02Order_l0_E v73 s) = (spec_l02Order_l0_T v73 s).bind fun y => .leaf (outS (spec_l02Order_l0_E v73) (spec_l02Order_l0_X v73) y) := by kernel_rfl
theorem spec_l02Order_l0_ok (v73 : List Int) : LSound Try.prog 0 (spec_l02Order_LO v73) 0 (bodyOf Try.f106 0) := by
  intro e L out h
  exact lo_ok (E := spec_l02Order_l0_E v73) (gT := spec_l02Order_l0_T v73) (X := spec_l02Order_l0_X v73) (s0 := ((gI (vAt e 4)), (gRB L (vAt e 3)))) tok spec_l02Order_hO mixed (LoopsOk_eq (l := []) (by kernel_rfl) trivial) (spec_l02Order_l0_be v73) rfl (by intro x; (cases x with | inl b => rfl | inr x => exact rfl)) h
noncomputable def spec_l02Order_T (v73 : List Int) : Tree (Bool) :=
  (.br (decide (((v73.length : Nat) : Int) < (1 : Int))) (
   .leaf false
  ) (
   (.br (decide ((12 : Int) < ((v73.length : Nat) : Int))) (
    .leaf false
   ) (
    (.need (((v73.length : Nat) : Int) = ((v73.length : Nat) : Int)) <|
    (.grd (inb ((v73.length : Nat) : Int) (maxN + 1)) <|
    (.need (some (spec_l02Order_l0_E v73 ((0 : Int), List.replicate (Int.toNat ((v73.length : Nat) : Int)) false)) = some (spec_l02Order_l0_E v73 ((0 : Int), List.replicate (Int.toNat ((v73.length : Nat) : Int)) false))) <|
    (.call (spec_l02Order_l0_g v73 ((0 : Int), List.replicate (Int.toNat ((v73.length : Nat) : Int)) false)) fun v79 =>
    (.sum v79 (fun v80 =>
     .leaf false
    ) (fun v81 =>
     .leaf true
    ))))))
   ))
  ))

noncomputable def spec_l02Order_g (v73 : List Int) : Option (Bool) := (spec_l02Order_T v73).run
def spec_l02Order_enc (v73 : List Int) (y : Bool) : Rs := (.bool y, [])
theorem spec_l02Order_den (v73 : List Int) : (den TT (tabD spec_l02Order_tab) (tabM spec_l02Order_tab) (spec_l02Order_LO v73) (codeOf Try.f106) ([.bslc (BR.root 0) (.i64 v73)] ++ List.replicate (Try.f106.ntmps - ([.bslc (BR.root 0) (.i64 v73)] : List DV).length) .undef) []).bind (retD TT Try.f106.results.toList 0) = (spec_l02Order_T v73).bind fun y => .leaf (spec_l02Order_enc v73 y) := by kernel_rfl
theorem spec_l02Order_fn (v73 : List Int) (F : Fr) (hm : F.ids.length = 0) (h0 : St F [] F.H0) (hA : DVs.Ok F [] [.bslc (BR.root 0) (.i64 v73)]) {y : Bool} (hy : spec_l02Order_g v73 = some y) : ∃ H', FnOk Try.prog 106 (DVs.av F [.bslc (BR.root 0) (.i64 v73)]) F.H0 ((spec_l02Order_enc v73 y).1.av F) H' ∧ St F (spec_l02Order_enc v73 y).2 H' ∧ (spec_l02Order_enc v73 y).1.Ok F (spec_l02Order_enc v73 y).2 :=
  fn_fin tok spec_l02Order_hO mixed Try.func106 Try.call106 (by kernel_rfl) (LoopsOk_eq (l := [(0, bodyOf Try.f106 0)]) (by kernel_rfl) ⟨spec_l02Order_l0_ok v73, trivial⟩) (spec_l02Order_den v73) hy hm h0 hA
noncomputable def spec_l02Order_F : DFn := fun args L =>
  match args with
  | [a1] =>
    optT (rowI64 L a1) fun v73 =>
    .call (spec_l02Order_g v73) fun y => .leaf (.bool y, L)
  | _ => .fail
theorem spec_l02Order_Fok : COk Try.prog 106 spec_l02Order_F true := by
  intro F L H args r L' hs ha hr
  unfold spec_l02Order_F at hr
  split at hr
  · rename_i a1
    obtain ⟨v73, hv73, hr⟩ := optT_run hr
    simp only [Tree.run] at hr
    obtain ⟨y, hy, hr⟩ := Option.bind_eq_some_iff.1 hr
    simp only [Tree.run, Option.some.injEq, Prod.mk.injEq] at hr
    obtain ⟨rfl, rfl⟩ := hr
    exact call_ok0 hs (fun k => (([a1.av F] : List AV)[k]?).getD .top) [a1] [.bslc (BR.root 0) (.i64 v73)] (fun F' h0 hi hρ => ⟨by simp [DVs.av, DV.av, BR.av, hρ], spec_l02Order_fn v73 F' (by rw [hi]; rfl) (st_nil hi) ⟨bslc_ok hi (by rw [h0, hρ]; exact rowI64_ok hs (DVs.okAt ha 0 rfl) hv73), trivial⟩ hy⟩) rfl
  · cases hr
/-! spec.l02At -/
noncomputable def spec_l02At_LO (v84 : Int) (v85 : Int) (v86 : List Nat) (v87 : Int) (v88 : Int) : LOr := fun id e L =>
  match id with
  | _ => .fail
noncomputable def spec_l02At_tab : List (FuncId × DFn × Bool) := []
theorem spec_l02At_hO : OrcOk Try.prog (tabD spec_l02At_tab) (tabM spec_l02At_tab) := tabD_nil _
noncomputable def spec_l02At_T (v85 : Int) (v86 : List Nat) (v87 : Int) (v88 : Int) : Tree (Nat) :=
  (.grd (inb (IntKind.i64.wrap ((IntKind.i64.wrap (v87 * v85)) + v88)) v86.length) <|
  .leaf (nth v86 (Int.toNat (IntKind.i64.wrap ((IntKind.i64.wrap (v87 * v85)) + v88)))))

noncomputable def spec_l02At_g (v85 : Int) (v86 : List Nat) (v87 : Int) (v88 : Int) : Option (Nat) := (spec_l02At_T v85 v86 v87 v88).run
def spec_l02At_enc (v84 : Int) (v85 : Int) (v86 : List Nat) (v87 : Int) (v88 : Int) (y : Nat) : Rs := (.flt .f32 y, [])
theorem spec_l02At_den (v84 : Int) (v85 : Int) (v86 : List Nat) (v87 : Int) (v88 : Int) : (den TT (tabD spec_l02At_tab) (tabM spec_l02At_tab) (spec_l02At_LO v84 v85 v86 v87 v88) (codeOf Try.f115) ([.bptr (BR.root 0) [.int .i64 v84, .int .i64 v85, .bslc (BR.root 1) (.f32 v86)], .int .i64 v87, .int .i64 v88] ++ List.replicate (Try.f115.ntmps - ([.bptr (BR.root 0) [.int .i64 v84, .int .i64 v85, .bslc (BR.root 1) (.f32 v86)], .int .i64 v87, .int .i64 v88] : List DV).length) .undef) []).bind (retD TT Try.f115.results.toList 0) = (spec_l02At_T v85 v86 v87 v88).bind fun y => .leaf (spec_l02At_enc v84 v85 v86 v87 v88 y) := by kernel_rfl
theorem spec_l02At_fn (v84 : Int) (v85 : Int) (v86 : List Nat) (v87 : Int) (v88 : Int) (F : Fr) (hm : F.ids.length = 0) (h0 : St F [] F.H0) (hA : DVs.Ok F [] [.bptr (BR.root 0) [.int .i64 v84, .int .i64 v85, .bslc (BR.root 1) (.f32 v86)], .int .i64 v87, .int .i64 v88]) {y : Nat} (hy : spec_l02At_g v85 v86 v87 v88 = some y) : ∃ H', FnOk Try.prog 115 (DVs.av F [.bptr (BR.root 0) [.int .i64 v84, .int .i64 v85, .bslc (BR.root 1) (.f32 v86)], .int .i64 v87, .int .i64 v88]) F.H0 ((spec_l02At_enc v84 v85 v86 v87 v88 y).1.av F) H' ∧ St F (spec_l02At_enc v84 v85 v86 v87 v88 y).2 H' ∧ (spec_l02At_enc v84 v85 v86 v87 v88 y).1.Ok F (spec_l02At_enc v84 v85 v86 v87 v88 y).2 :=
  fn_fin tok spec_l02At_hO mixed Try.func115 Try.call115 (by kernel_rfl) (LoopsOk_eq (l := []) (by kernel_rfl) trivial) (spec_l02At_den v84 v85 v86 v87 v88) hy hm h0 hA
noncomputable def spec_l02At_F : DFn := fun args L =>
  match args with
  | [a1, .int .i64 v87, .int .i64 v88] =>
    optT (cellsOf L 3 a1) fun cs0 =>
    (match cs0 with
    | [.int .i64 v84, .int .i64 v85, a2] =>
    optT (rowF32 L a2) fun v86 =>
    .call (spec_l02At_g v85 v86 v87 v88) fun y => .leaf (.flt .f32 y, L)
    | _ => .fail)
  | _ => .fail
theorem spec_l02At_Fok : COk Try.prog 115 spec_l02At_F true := by
  intro F L H args r L' hs ha hr
  unfold spec_l02At_F at hr
  split at hr
  · rename_i a1 v87 v88
    obtain ⟨cs0, hcp0, hr⟩ := optT_run hr
    split at hr
    · rename_i v84 v85 a2
      obtain ⟨v86, hv86, hr⟩ := optT_run hr
      simp only [Tree.run] at hr
      obtain ⟨y, hy, hr⟩ := Option.bind_eq_some_iff.1 hr
      simp only [Tree.run, Option.some.injEq, Prod.mk.injEq] at hr
      obtain ⟨rfl, rfl⟩ := hr
      exact call_ok0 hs (fun k => (([a1.av F, a2.av F] : List AV)[k]?).getD .top) [a1, .int .i64 v87, .int .i64 v88] [.bptr (BR.root 0) [.int .i64 v84, .int .i64 v85, .bslc (BR.root 1) (.f32 v86)], .int .i64 v87, .int .i64 v88] (fun F' h0 hi hρ => ⟨by simp [DVs.av, DV.av, BR.av, hρ], spec_l02At_fn v84 v85 v86 v87 v88 F' (by rw [hi]; rfl) (st_nil hi) ⟨bptr_ok hi (by rw [h0]; simpa [DVs.av, DV.av, BR.av, hρ] using (cellsOf_ok hs (DVs.okAt ha 0 rfl) hcp0).1) ⟨trivial, trivial, bslc_ok hi (by rw [h0, hρ]; exact rowF32_ok hs (DVs.okAt (cellsOf_ok hs (DVs.okAt ha 0 rfl) hcp0).2 2 rfl) hv86), trivial⟩, trivial, trivial, trivial⟩ hy⟩) rfl
    · cases hr
  · cases hr
/-! spec.l03Is -/
noncomputable def spec_l03Is_l0_T (v47 : Int) (v48 : Int) (v49 : List Nat) (s : Int) : Tree ((Int) ⊕ ((Unit) ⊕ (Unit))) :=
  (.br (decide (s < v47)) (
   (.call (spec_l02At_g v48 v49 s s) fun v93 =>
   (.br (feq .f32 v93 (0 : Nat)) (
    .leaf (.inr (.inl ()))
   ) (
    .leaf (.inl (IntKind.i64.wrap (s + (1 : Int))))
   )))
  ) (
   .leaf (.inr (.inr ()))
  ))

noncomputable def spec_l03Is_l0_g (v47 : Int) (v48 : Int) (v49 : List Nat) (s0 : Int) : Option ((Unit) ⊕ (Unit)) := whileM (fun s => (spec_l03Is_l0_T v47 v48 v49 s).run) s0
def spec_l03Is_l0_E (v47 : Int) (v48 : Int) (v49 : List Nat) (v50 : List Int) (s : Int) : Sd := ([.bptr (BR.root 0) [.int .i64 v47, .int .i64 v48, .bslc (BR.root 1) (.f32 v49), .bslc (BR.root 2) (.i64 v50)], .top, .top, .int .i64 s, .top, .top, .top, .top, .top, .top, .top, .top, .top, .top, .top, .top, .top, .top, .top, .top, .top, .top, .top, .top, .top, .top, .top, .top, .top, .top, .top, .top, .top, .top, .top, .top, .top, .top, .top, .top, .top, .top, .top, .top, .top, .top], [])
def spec_l03Is_l0_X (v47 : Int) (v48 : Int) (v49 : List Nat) (v50 : List Int) (x : (Unit) ⊕ (Unit)) : Out := (match x with | .inl x => (.ret, [.top, .top, .lit false, .top, .top, .top, .top, .top, .top, .top, .top, .top, .top, .top, .top, .top, .top, .top, .top, .top, .top, .top, .top, .top, .top, .top, .top, .top, .top, .top, .top, .top, .top, .top, .top, .top, .top, .top, .top, .top, .top, .top, .top, .top, .top, .top], []) | .inr x => (.normal, [.top, .top, .top, .top, .top, .top, .top, .top, .top, .top, .top, .top, .top, .top, .top, .top, .top, .top, .top, .top, .top, .top, .top, .top, .top, .top, .top, .top, .top, .top, .top, .top, .top, .top, .top, .top, .top, .top, .top, .top, .top, .top, .top, .top, .top, .top], []))
def spec_l03Is_l0_kill : List Nat := [0, 1, 1, 0, 1, 1, 1, 1, 1, 1, 1, 1, 1, 1, 1, 1, 1, 1, 1, 1, 1, 1, 1, 1, 1, 1, 1, 1, 1, 1, 1, 1, 1, 1, 1, 1, 1, 1, 1, 1, 1, 1, 1, 1, 1, 1]
def spec_l03Is_l0_nx : Exit → List Nat
  | .exit 0 => [1, 1, 1, 1, 1, 1, 1, 1, 1, 1, 1, 1, 1, 1, 1, 1, 1, 1, 1, 1, 1, 1, 1, 1, 1, 1, 1, 1, 1, 1, 1, 1, 1, 1, 1, 1, 1, 1, 1, 1, 1, 1, 1, 1, 1, 1]
  | .ret => [1, 1, 0, 1, 1, 1, 1, 1, 1, 1, 1, 1, 1, 1, 1, 1, 1, 1, 1, 1, 1, 1, 1, 1, 1, 1, 1, 1, 1, 1, 1, 1, 1, 1, 1, 1, 1, 1, 1, 1, 1, 1, 1, 1, 1, 1]
  | _ => []
noncomputable def spec_l03Is_LO (v47 : Int) (v48 : Int) (v49 : List Nat) (v50 : List Int) : LOr := fun id e L =>
  match id with
  | 0 => .need (normA 0 spec_l03Is_l0_kill e L = some (spec_l03Is_l0_E v47 v48 v49 v50 (gI (vAt e 3)))) (.call (spec_l03Is_l0_g v47 v48 v49 (gI (vAt e 3))) fun x => .sum x (fun b0 => .leaf (spec_l03Is_l0_X v47 v48 v49 v50 (.inl b0))) (fun c0 => .leaf (spec_l03Is_l0_X v47 v48 v49 v50 (.inr c0))))
  | _ => .fail
noncomputable def spec_l03Is_tab : List (FuncId × DFn × Bool) := [(82, spec_l02Square_F, true), (106, spec_l02Order_F, true), (115, spec_l02At_F, true)]
theorem spec_l03Is_hO : OrcOk Try.prog (tabD spec_l03Is_tab) (tabM spec_l03Is_tab) := tabD_cons spec_l02Square_Fok (tabD_cons spec_l02Order_Fok (tabD_cons spec_l02At_Fok (tabD_nil _)))
theorem spec_l03Is_l0_be (v47 : Int) (v48 : Int) (v49 : List Nat) (v50 : List Int) (s : Int) : bodyT TT (tabD spec_l03Is_tab) (tabM spec_l03Is_tab) (spec_l03Is_LO v47 v48 v49 v50) 0 spec_l03Is_l0_kill spec_l03Is_l0_nx (bodyOf Try.f111 0) 0 (spec_l03Is_l0_E v47 v48 v49 v50 s) = (spec_l03Is_l0_T v47 v48 v49 s).bind fun y => .leaf (outS (spec_l03Is_l0_E v47 v48 v49 v50) (spec_l03Is_l0_X v47 v48 v49 v50) y) := by kernel_rfl
theorem spec_l03Is_l0_ok (v47 : Int) (v48 : Int) (v49 : List Nat) (v50 : List Int) : LSound Try.prog 0 (spec_l03Is_LO v47 v48 v49 v50) 0 (bodyOf Try.f111 0) := by
  intro e L out h
  exact lo_ok (E := spec_l03Is_l0_E v47 v48 v49 v50) (gT := spec_l03Is_l0_T v47 v48 v49) (X := spec_l03Is_l0_X v47 v48 v49 v50) (s0 := (gI (vAt e 3))) tok spec_l03Is_hO mixed (LoopsOk_eq (l := []) (by kernel_rfl) trivial) (spec_l03Is_l0_be v47 v48 v49 v50) rfl (by intro x; (cases x with | inl b => rfl | inr x => exact rfl)) h
noncomputable def spec_l03Is_T (v47 : Int) (v48 : Int) (v49 : List Nat) (v50 : List Int) : Tree (Bool) :=
  (.call (spec_l02Square_g v47 v48 v49) fun v72 =>
  (.br (!v72) (
   .leaf false
  ) (
   (.call (spec_l02Order_g v50) fun v82 =>
   (.br (!v82) (
    .leaf false
   ) (
    (.br (!decide (((v50.length : Nat) : Int) = v47)) (
     .leaf false
    ) (
     (.need (some (spec_l03Is_l0_E v47 v48 v49 v50 (0 : Int)) = some (spec_l03Is_l0_E v47 v48 v49 v50 (0 : Int))) <|
     (.call (spec_l03Is_l0_g v47 v48 v49 (0 : Int)) fun v94 =>
     (.sum v94 (fun v95 =>
      .leaf false
     ) (fun v96 =>
      .leaf true
     ))))
    ))
   )))
  )))

noncomputable def spec_l03Is_g (v47 : Int) (v48 : Int) (v49 : List Nat) (v50 : List Int) : Option (Bool) := (spec_l03Is_T v47 v48 v49 v50).run
def spec_l03Is_enc (v47 : Int) (v48 : Int) (v49 : List Nat) (v50 : List Int) (y : Bool) : Rs := (.bool y, [])
theorem spec_l03Is_den (v47 : Int) (v48 : Int) (v49 : List Nat) (v50 : List Int) : (den TT (tabD spec_l03Is_tab) (tabM spec_l03Is_tab) (spec_l03Is_LO v47 v48 v49 v50) (codeOf Try.f111) ([.bptr (BR.root 0) [.int .i64 v47, .int .i64 v48, .bslc (BR.root 1) (.f32 v49), .bslc (BR.root 2) (.i64 v50)]] ++ List.replicate (Try.f111.ntmps - ([.bptr (BR.root 0) [.int .i64 v47, .int .i64 v48, .bslc (BR.root 1) (.f32 v49), .bslc (BR.root 2) (.i64 v50)]] : List DV).length) .undef) []).bind (retD TT Try.f111.results.toList 0) = (spec_l03Is_T v47 v48 v49 v50).bind fun y => .leaf (spec_l03Is_enc v47 v48 v49 v50 y) := by kernel_rfl
theorem spec_l03Is_fn (v47 : Int) (v48 : Int) (v49 : List Nat) (v50 : List Int) (F : Fr) (hm : F.ids.length = 0) (h0 : St F [] F.H0) (hA : DVs.Ok F [] [.bptr (BR.root 0) [.int .i64 v47, .int .i64 v48, .bslc (BR.root 1) (.f32 v49), .bslc (BR.root 2) (.i64 v50)]]) {y : Bool} (hy : spec_l03Is_g v47 v48 v49 v50 = some y) : ∃ H', FnOk Try.prog 111 (DVs.av F [.bptr (BR.root 0) [.int .i64 v47, .int .i64 v48, .bslc (BR.root 1) (.f32 v49), .bslc (BR.root 2) (.i64 v50)]]) F.H0 ((spec_l03Is_enc v47 v48 v49 v50 y).1.av F) H' ∧ St F (spec_l03Is_enc v47 v48 v49 v50 y).2 H' ∧ (spec_l03Is_enc v47 v48 v49 v50 y).1.Ok F (spec_l03Is_enc v47 v48 v49 v50 y).2 :=
  fn_fin tok spec_l03Is_hO mixed Try.func111 Try.call111 (by kernel_rfl) (LoopsOk_eq (l := [(0, bodyOf Try.f111 0)]) (by kernel_rfl) ⟨spec_l03Is_l0_ok v47 v48 v49 v50, trivial⟩) (spec_l03Is_den v47 v48 v49 v50) hy hm h0 hA
noncomputable def spec_l03Is_F : DFn := fun args L =>
  match args with
  | [a1] =>
    optT (cellsOf L 4 a1) fun cs0 =>
    (match cs0 with
    | [.int .i64 v47, .int .i64 v48, a2, a3] =>
    optT (rowF32 L a2) fun v49 =>
    optT (rowI64 L a3) fun v50 =>
    .call (spec_l03Is_g v47 v48 v49 v50) fun y => .leaf (.bool y, L)
    | _ => .fail)
  | _ => .fail
theorem spec_l03Is_Fok : COk Try.prog 111 spec_l03Is_F true := by
  intro F L H args r L' hs ha hr
  unfold spec_l03Is_F at hr
  split at hr
  · rename_i a1
    obtain ⟨cs0, hcp0, hr⟩ := optT_run hr
    split at hr
    · rename_i v47 v48 a2 a3
      obtain ⟨v49, hv49, hr⟩ := optT_run hr
      obtain ⟨v50, hv50, hr⟩ := optT_run hr
      simp only [Tree.run] at hr
      obtain ⟨y, hy, hr⟩ := Option.bind_eq_some_iff.1 hr
      simp only [Tree.run, Option.some.injEq, Prod.mk.injEq] at hr
      obtain ⟨rfl, rfl⟩ := hr
      exact call_ok0 hs (fun k => (([a1.av F, a2.av F, a3.av F] : List AV)[k]?).getD .top) [a1] [.bptr (BR.root 0) [.int .i64 v47, .int .i64 v48, .bslc (BR.root 1) (.f32 v49), .bslc (BR.root 2) (.i64 v50)]] (fun F' h0 hi hρ => ⟨by simp [DVs.av, DV.av, BR.av, hρ], spec_l03Is_fn v47 v48 v49 v50 F' (by rw [hi]; rfl) (st_nil hi) ⟨bptr_ok hi (by rw [h0]; simpa [DVs.av, DV.av, BR.av, hρ] using (cellsOf_ok hs (DVs.okAt ha 0 rfl) hcp0).1) ⟨trivial, trivial, bslc_ok hi (by rw [h0, hρ]; exact rowF32_ok hs (DVs.okAt (cellsOf_ok hs (DVs.okAt ha 0 rfl) hcp0).2 2 rfl) hv49), bslc_ok hi (by rw [h0, hρ]; exact rowI64_ok hs (DVs.okAt (cellsOf_ok hs (DVs.okAt ha 0 rfl) hcp0).2 3 rfl) hv50), trivial⟩, trivial⟩ hy⟩) rfl
    · cases hr
  · cases hr
/-! spec.l02Zero -/
noncomputable def spec_l02Zero_LO (v99 : Int) (v100 : Int) : LOr := fun id e L =>
  match id with
  | _ => .fail
noncomputable def spec_l02Zero_tab : List (FuncId × DFn × Bool) := []
theorem spec_l02Zero_hO : OrcOk Try.prog (tabD spec_l02Zero_tab) (tabM spec_l02Zero_tab) := tabD_nil _
noncomputable def spec_l02Zero_T (v99 : Int) (v100 : Int) : Tree (Int × Int) :=
  (.need (IntKind.i64.wrap (v99 * v100) = IntKind.i64.wrap (v99 * v100)) <|
  (.grd (inb (IntKind.i64.wrap (v99 * v100)) (maxN + 1)) <|
  .leaf (v99, v100)))

noncomputable def spec_l02Zero_g (v99 : Int) (v100 : Int) : Option (Int × Int) := (spec_l02Zero_T v99 v100).run
def spec_l02Zero_enc (v99 : Int) (v100 : Int) (y : Int × Int) : Rs := (.agg [.int .i64 y.1, .int .i64 y.2, .own 0 0 ((List.replicate (Int.toNat (IntKind.i64.wrap (v99 * v100))) (0 : Nat)).length)], [.row (.f32 (List.replicate (Int.toNat (IntKind.i64.wrap (v99 * v100))) (0 : Nat))) 0])
theorem spec_l02Zero_den (v99 : Int) (v100 : Int) : (den TT (tabD spec_l02Zero_tab) (tabM spec_l02Zero_tab) (spec_l02Zero_LO v99 v100) (codeOf Try.f138) ([.int .i64 v99, .int .i64 v100] ++ List.replicate (Try.f138.ntmps - ([.int .i64 v99, .int .i64 v100] : List DV).length) .undef) []).bind (retD TT Try.f138.results.toList 0) = (spec_l02Zero_T v99 v100).bind fun y => .leaf (spec_l02Zero_enc v99 v100 y) := by kernel_rfl
theorem spec_l02Zero_fn (v99 : Int) (v100 : Int) (F : Fr) (hm : F.ids.length = 0) (h0 : St F [] F.H0) (hA : DVs.Ok F [] [.int .i64 v99, .int .i64 v100]) {y : Int × Int} (hy : spec_l02Zero_g v99 v100 = some y) : ∃ H', FnOk Try.prog 138 (DVs.av F [.int .i64 v99, .int .i64 v100]) F.H0 ((spec_l02Zero_enc v99 v100 y).1.av F) H' ∧ St F (spec_l02Zero_enc v99 v100 y).2 H' ∧ (spec_l02Zero_enc v99 v100 y).1.Ok F (spec_l02Zero_enc v99 v100 y).2 :=
  fn_fin tok spec_l02Zero_hO mixed Try.func138 Try.call138 (by kernel_rfl) (LoopsOk_eq (l := []) (by kernel_rfl) trivial) (spec_l02Zero_den v99 v100) hy hm h0 hA
noncomputable def spec_l02Zero_F : DFn := fun args L =>
  match args with
  | [.int .i64 v99, .int .i64 v100] =>
    .call (spec_l02Zero_g v99 v100) fun y => .leaf (.agg [.int .i64 y.1, .int .i64 y.2, .own (L.length + 0) 0 ((List.replicate (Int.toNat (IntKind.i64.wrap (v99 * v100))) (0 : Nat)).length)], L ++ [.row (.f32 (List.replicate (Int.toNat (IntKind.i64.wrap (v99 * v100))) (0 : Nat))) 0])
  | _ => .fail
theorem spec_l02Zero_Fok : COk Try.prog 138 spec_l02Zero_F true := by
  intro F L H args r L' hs ha hr
  unfold spec_l02Zero_F at hr
  split at hr
  · rename_i v99 v100
    simp only [Tree.run] at hr
    obtain ⟨y, hy, hr⟩ := Option.bind_eq_some_iff.1 hr
    simp only [Tree.run, Option.some.injEq, Prod.mk.injEq] at hr
    obtain ⟨rfl, rfl⟩ := hr
    exact call_ok1 hs (fun k => (([] : List AV)[k]?).getD .top) [.int .i64 v99, .int .i64 v100] [.int .i64 v99, .int .i64 v100] (fun F' h0 hi hρ => ⟨by simp [DVs.av, DV.av, BR.av, hρ], spec_l02Zero_fn v99 v100 F' (by rw [hi]; rfl) (st_nil hi) ⟨trivial, trivial, trivial⟩ hy⟩) rfl rfl
  · cases hr
/-! spec.l02Unit -/
noncomputable def spec_l02Unit_l0_T (v98 : Int) (v110 : Int) (v111 : Int) (s : Int × (List Nat)) : Tree ((Int × (List Nat)) ⊕ ((List Nat))) :=
  (.br (decide (s.1 < v98)) (
   (.grd (inb (IntKind.i64.wrap ((IntKind.i64.wrap (s.1 * v98)) + s.1)) ((s.2).length)) <|
   .leaf (.inl (IntKind.i64.wrap (s.1 + (1 : Int)), List.set s.2 (Int.toNat (IntKind.i64.wrap ((IntKind.i64.wrap (s.1 * v98)) + s.1))) (1065353216 : Nat))))
  ) (
   .leaf (.inr s.2)
  ))

noncomputable def spec_l02Unit_l0_g (v98 : Int) (v110 : Int) (v111 : Int) (s0 : Int × (List Nat)) : Option ((List Nat)) := whileM (fun s => (spec_l02Unit_l0_T v98 v110 v111 s).run) s0
def spec_l02Unit_l0_E (v98 : Int) (v110 : Int) (v111 : Int) (s : Int × (List Nat)) : Sd := ([.int .i64 v98, .top, .ptr 0 (0 : Nat) 0 (3 : Nat), .ptr 1 (0 : Nat) 0 (3 : Nat), .int .i64 s.1, .top, .top, .top, .top, .top, .top, .top, .top, .top, .top, .top, .top, .top, .top, .top, .top, .top], [.gen [.int .i64 (0 : Int), .int .i64 (0 : Int), .nilslc] false 0, .gen [.int .i64 v110, .int .i64 v111, .own 2 0 ((s.2).length)] false 0, .row (.f32 s.2) 0])
def spec_l02Unit_l0_X (v98 : Int) (v110 : Int) (v111 : Int) (x : (List Nat)) : Out := (.normal, [.top, .top, .ptr 0 (0 : Nat) 0 (3 : Nat), .ptr 1 (0 : Nat) 0 (3 : Nat), .top, .top, .top, .top, .top, .top, .top, .top, .top, .top, .top, .top, .top, .top, .top, .top, .top, .top], [.gen [.int .i64 (0 : Int), .int .i64 (0 : Int), .nilslc] false 0, .gen [.int .i64 v110, .int .i64 v111, .own 2 0 ((x).length)] false 0, .row (.f32 x) 0])
def spec_l02Unit_l0_kill : List Nat := [0, 1, 0, 0, 0, 1, 1, 1, 1, 1, 1, 1, 1, 1, 1, 1, 1, 1, 1, 1, 1, 1]
def spec_l02Unit_l0_nx : Exit → List Nat
  | .exit 0 => [1, 1, 0, 0, 1, 1, 1, 1, 1, 1, 1, 1, 1, 1, 1, 1, 1, 1, 1, 1, 1, 1]
  | .ret => [1, 1, 0, 1, 1, 1, 1, 1, 1, 1, 1, 1, 1, 1, 1, 1, 1, 1, 1, 1, 1, 1]
  | _ => []
noncomputable def spec_l02Unit_LO (v98 : Int) : LOr := fun id e L =>
  match id with
  | 0 => .need (normA 0 spec_l02Unit_l0_kill e L = some (spec_l02Unit_l0_E v98 (gI (cAt L (vAt e 3) 0)) (gI (cAt L (vAt e 3) 1)) ((gI (vAt e 4)), (gRF L (cAt L (vAt e 3) 2))))) (.call (spec_l02Unit_l0_g v98 (gI (cAt L (vAt e 3) 0)) (gI (cAt L (vAt e 3) 1)) ((gI (vAt e 4)), (gRF L (cAt L (vAt e 3) 2)))) fun x => .leaf (spec_l02Unit_l0_X v98 (gI (cAt L (vAt e 3) 0)) (gI (cAt L (vAt e 3) 1)) x))
  | _ => .fail
noncomputable def spec_l02Unit_tab : List (FuncId × DFn × Bool) := [(138, spec_l02Zero_F, true)]
theorem spec_l02Unit_hO : OrcOk Try.prog (tabD spec_l02Unit_tab) (tabM spec_l02Unit_tab) := tabD_cons spec_l02Zero_Fok (tabD_nil _)
theorem spec_l02Unit_l0_be (v98 : Int) (v110 : Int) (v111 : Int) (s : Int × (List Nat)) : bodyT TT (tabD spec_l02Unit_tab) (tabM spec_l02Unit_tab) (spec_l02Unit_LO v98) 0 spec_l02Unit_l0_kill spec_l02Unit_l0_nx (bodyOf Try.f86 0) 0 (spec_l02Unit_l0_E v98 v110 v111 s) = (spec_l02Unit_l0_T v98 v110 v111 s).bind fun y => .leaf (outS (spec_l02Unit_l0_E v98 v110 v111) (spec_l02Unit_l0_X v98 v110 v111) y) := by kernel_rfl
theorem spec_l02Unit_l0_ok (v98 : Int) : LSound Try.prog 0 (spec_l02Unit_LO v98) 0 (bodyOf Try.f86 0) := by
  intro e L out h
  exact lo_ok (E := spec_l02Unit_l0_E v98 (gI (cAt L (vAt e 3) 0)) (gI (cAt L (vAt e 3) 1))) (gT := spec_l02Unit_l0_T v98 (gI (cAt L (vAt e 3) 0)) (gI (cAt L (vAt e 3) 1))) (X := spec_l02Unit_l0_X v98 (gI (cAt L (vAt e 3) 0)) (gI (cAt L (vAt e 3) 1))) (s0 := ((gI (vAt e 4)), (gRF L (cAt L (vAt e 3) 2)))) tok spec_l02Unit_hO mixed (LoopsOk_eq (l := []) (by kernel_rfl) trivial) (spec_l02Unit_l0_be v98 (gI (cAt L (vAt e 3) 0)) (gI (cAt L (vAt e 3) 1))) rfl (by intro x; rfl) h
noncomputable def spec_l02Unit_T (v98 : Int) : Tree (Int × Int × (List Nat)) :=
  (.call (spec_l02Zero_g v98 v98) fun v101 =>
  (.need (some (spec_l02Unit_l0_E v98 v101.1 v101.2 ((0 : Int), List.replicate (Int.toNat (IntKind.i64.wrap (v98 * v98))) (0 : Nat))) = some (spec_l02Unit_l0_E v98 v101.1 v101.2 ((0 : Int), List.replicate (Int.toNat (IntKind.i64.wrap (v98 * v98))) (0 : Nat)))) <|
  (.call (spec_l02Unit_l0_g v98 v101.1 v101.2 ((0 : Int), List.replicate (Int.toNat (IntKind.i64.wrap (v98 * v98))) (0 : Nat))) fun v113 =>
  .leaf (v101.1, v101.2, v113))))

noncomputable def spec_l02Unit_g (v98 : Int) : Option (Int × Int × (List Nat)) := (spec_l02Unit_T v98).run
def spec_l02Unit_enc (v98 : Int) (y : Int × Int × (List Nat)) : Rs := (.agg [.int .i64 y.1, .int .i64 y.2.1, .own 0 0 ((y.2.2).length)], [.row (.f32 y.2.2) 0])
theorem spec_l02Unit_den (v98 : Int) : (den TT (tabD spec_l02Unit_tab) (tabM spec_l02Unit_tab) (spec_l02Unit_LO v98) (codeOf Try.f86) ([.int .i64 v98] ++ List.replicate (Try.f86.ntmps - ([.int .i64 v98] : List DV).length) .undef) []).bind (retD TT Try.f86.results.toList 0) = (spec_l02Unit_T v98).bind fun y => .leaf (spec_l02Unit_enc v98 y) := by kernel_rfl
theorem spec_l02Unit_fn (v98 : Int) (F : Fr) (hm : F.ids.length = 0) (h0 : St F [] F.H0) (hA : DVs.Ok F [] [.int .i64 v98]) {y : Int × Int × (List Nat)} (hy : spec_l02Unit_g v98 = some y) : ∃ H', FnOk Try.prog 86 (DVs.av F [.int .i64 v98]) F.H0 ((spec_l02Unit_enc v98 y).1.av F) H' ∧ St F (spec_l02Unit_enc v98 y).2 H' ∧ (spec_l02Unit_enc v98 y).1.Ok F (spec_l02Unit_enc v98 y).2 :=
  fn_fin tok spec_l02Unit_hO mixed Try.func86 Try.call86 (by kernel_rfl) (LoopsOk_eq (l := [(0, bodyOf Try.f86 0)]) (by kernel_rfl) ⟨spec_l02Unit_l0_ok v98, trivial⟩) (spec_l02Unit_den v98) hy hm h0 hA
noncomputable def spec_l02Unit_F : DFn := fun args L =>
  match args with
  | [.int .i64 v98] =>
    .call (spec_l02Unit_g v98) fun y => .leaf (.agg [.int .i64 y.1, .int .i64 y.2.1, .own (L.length + 0) 0 ((y.2.2).length)], L ++ [.row (.f32 y.2.2) 0])
  | _ => .fail
theorem spec_l02Unit_Fok : COk Try.prog 86 spec_l02Unit_F true := by
  intro F L H args r L' hs ha hr
  unfold spec_l02Unit_F at hr
  split at hr
  · rename_i v98
    simp only [Tree.run] at hr
    obtain ⟨y, hy, hr⟩ := Option.bind_eq_some_iff.1 hr
    simp only [Tree.run, Option.some.injEq, Prod.mk.injEq] at hr
    obtain ⟨rfl, rfl⟩ := hr
    exact call_ok1 hs (fun k => (([] : List AV)[k]?).getD .top) [.int .i64 v98] [.int .i64 v98] (fun F' h0 hi hρ => ⟨by simp [DVs.av, DV.av, BR.av, hρ], spec_l02Unit_fn v98 F' (by rw [hi]; rfl) (st_nil hi) ⟨trivial, trivial⟩ hy⟩) rfl rfl
  · cases hr
/-! spec.LowerOf -/
noncomputable def spec_LowerOf_l2_T (v44 : Int) (v45 : List Nat) (v177 : Int) (v179 : Int) (v180 : Int) (s : Int × (List Nat)) : Tree ((Int × (List Nat)) ⊕ ((List Nat))) :=
  (.br (decide (s.1 < v177)) (
   (.call (spec_l02At_g v44 v45 v177 s.1) fun v182 =>
   (.grd (inb (IntKind.i64.wrap ((IntKind.i64.wrap (v177 * v180)) + s.1)) ((s.2).length)) <|
   .leaf (.inl (IntKind.i64.wrap (s.1 + (1 : Int)), List.set s.2 (Int.toNat (IntKind.i64.wrap ((IntKind.i64.wrap (v177 * v180)) + s.1))) v182))))
  ) (
   .leaf (.inr s.2)
  ))

noncomputable def spec_LowerOf_l2_g (v44 : Int) (v45 : List Nat) (v177 : Int) (v179 : Int) (v180 : Int) (s0 : Int × (List Nat)) : Option ((List Nat)) := whileM (fun s => (spec_LowerOf_l2_T v44 v45 v177 v179 v180 s).run) s0
def spec_LowerOf_l2_E (v43 : Int) (v44 : Int) (v45 : List Nat) (v46 : List Int) (v177 : Int) (v179 : Int) (v180 : Int) (s : Int × (List Nat)) : Sd := ([.top, .ptr 0 (0 : Nat) 0 (4 : Nat), .ptr 1 (0 : Nat) 0 (3 : Nat), .top, .ptr 2 (0 : Nat) 0 (3 : Nat), .int .i64 v177, .int .i64 s.1, .top, .top, .top, .top, .top, .top, .top, .top, .top, .top, .top, .top, .top, .top, .top, .top, .top, .top, .top, .top, .top, .top, .top, .top, .top, .top, .top, .top, .top, .top, .top, .top], [.gen [.int .i64 v43, .int .i64 v44, .bslc (BR.root 0) (.f32 v45), .bslc (BR.root 1) (.i64 v46)] false 0, .gen [.int .i64 (0 : Int), .int .i64 (0 : Int), .nilslc] false 0, .gen [.int .i64 v179, .int .i64 v180, .own 3 0 ((s.2).length)] false 0, .row (.f32 s.2) 0])
def spec_LowerOf_l2_X (v43 : Int) (v44 : Int) (v45 : List Nat) (v46 : List Int) (v177 : Int) (v179 : Int) (v180 : Int) (x : (List Nat)) : Out := (.normal, [.top, .ptr 0 (0 : Nat) 0 (4 : Nat), .ptr 1 (0 : Nat) 0 (3 : Nat), .top, .ptr 2 (0 : Nat) 0 (3 : Nat), .int .i64 v177, .top, .top, .top, .top, .top, .top, .top, .top, .top, .top, .top, .top, .top, .top, .top, .top, .top, .top, .top, .top, .top, .top, .top, .top, .top, .top, .top, .top, .top, .top, .top, .top, .top], [.gen [.int .i64 v43, .int .i64 v44, .bslc (BR.root 0) (.f32 v45), .bslc (BR.root 1) (.i64 v46)] false 0, .gen [.int .i64 (0 : Int), .int .i64 (0 : Int), .nilslc] false 0, .gen [.int .i64 v179, .int .i64 v180, .own 3 0 ((x).length)] false 0, .row (.f32 x) 0])
def spec_LowerOf_l2_kill : List Nat := [1, 0, 0, 1, 0, 0, 0, 1, 1, 1, 1, 1, 1, 1, 1, 1, 1, 1, 1, 1, 1, 1, 1, 1, 1, 1, 1, 1, 1, 1, 1, 1, 1, 1, 1, 1, 1, 1, 1]
def spec_LowerOf_l2_nx : Exit → List Nat
  | .exit 0 => [1, 1, 0, 1, 0, 1, 1, 1, 1, 1, 1, 1, 1, 1, 1, 1, 1, 1, 1, 1, 1, 1, 1, 1, 1, 1, 1, 1, 1, 1, 1, 1, 1, 1, 1, 1, 1, 1, 1]
  | .exit 1 => [1, 0, 0, 1, 0, 0, 1, 1, 1, 1, 1, 1, 1, 1, 1, 1, 1, 1, 1, 1, 1, 1, 1, 1, 1, 1, 1, 1, 1, 1, 1, 1, 1, 1, 1, 1, 1, 1, 1]
  | .exit 2 => [1, 0, 0, 1, 0, 0, 1, 1, 1, 1, 1, 1, 1, 1, 1, 1, 1, 1, 1, 1, 1, 1, 1, 1, 1, 1, 1, 1, 1, 1, 1, 1, 1, 1, 1, 1, 1, 1, 1]
  | .ret => [1, 1, 0, 0, 1, 1, 1, 1, 1, 1, 1, 1, 1, 1, 1, 1, 1, 1, 1, 1, 1, 1, 1, 1, 1, 1, 1, 1, 1, 1, 1, 1, 1, 1, 1, 1, 1, 1, 1]
  | _ => []
noncomputable def spec_LowerOf_l0_T (v43 : Int) (v44 : Int) (v45 : List Nat) (v46 : List Int) (v162 : Int) (v163 : Int) (s : Int × (List Nat)) : Tree ((Int × (List Nat)) ⊕ ((List Nat))) :=
  (.br (decide (s.1 < v162)) (
   (.need (some (spec_LowerOf_l2_E v43 v44 v45 v46 s.1 v162 v163 ((0 : Int), s.2)) = some (spec_LowerOf_l2_E v43 v44 v45 v46 s.1 v162 v163 ((0 : Int), s.2))) <|
   (.call (spec_LowerOf_l2_g v44 v45 s.1 v162 v163 ((0 : Int), s.2)) fun v183 =>
   .leaf (.inl (IntKind.i64.wrap (s.1 + (1 : Int)), v183))))
  ) (
   .leaf (.inr s.2)
  ))

noncomputable def spec_LowerOf_l0_g (v43 : Int) (v44 : Int) (v45 : List Nat) (v46 : List Int) (v162 : Int) (v163 : Int) (s0 : Int × (List Nat)) : Option ((List Nat)) := whileM (fun s => (spec_LowerOf_l0_T v43 v44 v45 v46 v162 v163 s).run) s0
def spec_LowerOf_l0_E (v43 : Int) (v44 : Int) (v45 : List Nat) (v46 : List Int) (v162 : Int) (v163 : Int) (s : Int × (List Nat)) : Sd := ([.top, .ptr 0 (0 : Nat) 0 (4 : Nat), .ptr 1 (0 : Nat) 0 (3 : Nat), .top, .ptr 2 (0 : Nat) 0 (3 : Nat), .int .i64 s.1, .top, .top, .top, .top, .top, .top, .top, .top, .top, .top, .top, .top, .top, .top, .top, .top, .top, .top, .top, .top, .top, .top, .top, .top, .top, .top, .top, .top, .top, .top, .top, .top, .top], [.gen [.int .i64 v43, .int .i64 v44, .bslc (BR.root 0) (.f32 v45), .bslc (BR.root 1) (.i64 v46)] false 0, .gen [.int .i64 (0 : Int), .int .i64 (0 : Int), .nilslc] false 0, .gen [.int .i64 v162, .int .i64 v163, .own 3 0 ((s.2).length)] false 0, .row (.f32 s.2) 0])
def spec_LowerOf_l0_X (v43 : Int) (v44 : Int) (v45 : List Nat) (v46 : List Int) (v162 : Int) (v163 : Int) (x : (List Nat)) : Out := (.normal, [.top, .top, .ptr 0 (0 : Nat) 0 (3 : Nat), .top, .ptr 1 (0 : Nat) 0 (3 : Nat), .top, .top, .top, .top, .top, .top, .top, .top, .top, .top, .top, .top, .top, .top, .top, .top, .top, .top, .top, .top, .top, .top, .top, .top, .top, .top, .top, .top, .top, .top, .top, .top, .top, .top], [.gen [.int .i64 (0 : Int), .int .i64 (0 : Int), .nilslc] false 0, .gen [.int .i64 v162, .int .i64 v163, .own 2 0 ((x).length)] false 0, .row (.f32 x) 0])
def spec_LowerOf_l0_kill : List Nat := [1, 0, 0, 1, 0, 0, 1, 1, 1, 1, 1, 1, 1, 1, 1, 1, 1, 1, 1, 1, 1, 1, 1, 1, 1, 1, 1, 1, 1, 1, 1, 1, 1, 1, 1, 1, 1, 1, 1]
def spec_LowerOf_l0_nx : Exit → List Nat
  | .exit 0 => [1, 1, 0, 1, 0, 1, 1, 1, 1, 1, 1, 1, 1, 1, 1, 1, 1, 1, 1, 1, 1, 1, 1, 1, 1, 1, 1, 1, 1, 1, 1, 1, 1, 1, 1, 1, 1, 1, 1]
  | .ret => [1, 1, 0, 0, 1, 1, 1, 1, 1, 1, 1, 1, 1, 1, 1, 1, 1, 1, 1, 1, 1, 1, 1, 1, 1, 1, 1, 1, 1, 1, 1, 1, 1, 1, 1, 1, 1, 1, 1]
  | _ => []
noncomputable def spec_LowerOf_LO (v43 : Int) (v44 : Int) (v45 : List Nat) (v46 : List Int) : LOr := fun id e L =>
  match id with
  | 2 => .need (normA 0 spec_LowerOf_l2_kill e L = some (spec_LowerOf_l2_E v43 v44 v45 v46 (gI (vAt e 5)) (gI (cAt L (vAt e 4) 0)) (gI (cAt L (vAt e 4) 1)) ((gI (vAt e 6)), (gRF L (cAt L (vAt e 4) 2))))) (.call (spec_LowerOf_l2_g v44 v45 (gI (vAt e 5)) (gI (cAt L (vAt e 4) 0)) (gI (cAt L (vAt e 4) 1)) ((gI (vAt e 6)), (gRF L (cAt L (vAt e 4) 2)))) fun x => .leaf (spec_LowerOf_l2_X v43 v44 v45 v46 (gI (vAt e 5)) (gI (cAt L (vAt e 4) 0)) (gI (cAt L (vAt e 4) 1)) x))
  | 0 => .need (normA 0 spec_LowerOf_l0_kill e L = some (spec_LowerOf_l0_E v43 v44 v45 v46 (gI (cAt L (vAt e 4) 0)) (gI (cAt L (vAt e 4) 1)) ((gI (vAt e 5)), (gRF L (cAt L (vAt e 4) 2))))) (.call (spec_LowerOf_l0_g v43 v44 v45 v46 (gI (cAt L (vAt e 4) 0)) (gI (cAt L (vAt e 4) 1)) ((gI (vAt e 5)), (gRF L (cAt L (vAt e 4) 2)))) fun x => .leaf (spec_LowerOf_l0_X v43 v44 v45 v46 (gI (cAt L (vAt e 4) 0)) (gI (cAt L (vAt e 4) 1)) x))
  | _ => .fail
noncomputable def spec_LowerOf_tab : List (FuncId × DFn × Bool) := [(111, spec_l03Is_F, true), (86, spec_l02Unit_F, true), (115, spec_l02At_F, true)]
theorem spec_LowerOf_hO : OrcOk Try.prog (tabD spec_LowerOf_tab) (tabM spec_LowerOf_tab) := tabD_cons spec_l03Is_Fok (tabD_cons spec_l02Unit_Fok (tabD_cons spec_l02At_Fok (tabD_nil _)))
theorem spec_LowerOf_l2_be (v43 : Int) (v44 : Int) (v45 : List Nat) (v46 : List Int) (v177 : Int) (v179 : Int) (v180 : Int) (s : Int × (List Nat)) : bodyT TT (tabD spec_LowerOf_tab) (tabM spec_LowerOf_tab) (spec_LowerOf_LO v43 v44 v45 v46) 0 spec_LowerOf_l2_kill spec_LowerOf_l2_nx (bodyOf Try.f59 2) 2 (spec_LowerOf_l2_E v43 v44 v45 v46 v177 v179 v180 s) = (spec_LowerOf_l2_T v44 v45 v177 v179 v180 s).bind fun y => .leaf (outS (spec_LowerOf_l2_E v43 v44 v45 v46 v177 v179 v180) (spec_LowerOf_l2_X v43 v44 v45 v46 v177 v179 v180) y) := by kernel_rfl
theorem spec_LowerOf_l2_ok (v43 : Int) (v44 : Int) (v45 : List Nat) (v46 : List Int) : LSound Try.prog 0 (spec_LowerOf_LO v43 v44 v45 v46) 2 (bodyOf Try.f59 2) := by
  intro e L out h
  exact lo_ok (E := spec_LowerOf_l2_E v43 v44 v45 v46 (gI (vAt e 5)) (gI (cAt L (vAt e 4) 0)) (gI (cAt L (vAt e 4) 1))) (gT := spec_LowerOf_l2_T v44 v45 (gI (vAt e 5)) (gI (cAt L (vAt e 4) 0)) (gI (cAt L (vAt e 4) 1))) (X := spec_LowerOf_l2_X v43 v44 v45 v46 (gI (vAt e 5)) (gI (cAt L (vAt e 4) 0)) (gI (cAt L (vAt e 4) 1))) (s0 := ((gI (vAt e 6)), (gRF L (cAt L (vAt e 4) 2)))) tok spec_LowerOf_hO mixed (LoopsOk_eq (l := []) (by kernel_rfl) trivial) (spec_LowerOf_l2_be v43 v44 v45 v46 (gI (vAt e 5)) (gI (cAt L (vAt e 4) 0)) (gI (cAt L (vAt e 4) 1))) rfl (by intro x; rfl) h
theorem spec_LowerOf_l0_be (v43 : Int) (v44 : Int) (v45 : List Nat) (v46 : List Int) (v162 : Int) (v163 : Int) (s : Int × (List Nat)) : bodyT TT (tabD spec_LowerOf_tab) (tabM spec_LowerOf_tab) (spec_LowerOf_LO v43 v44 v45 v46) 0 spec_LowerOf_l0_kill spec_LowerOf_l0_nx (bodyOf Try.f59 0) 0 (spec_LowerOf_l0_E v43 v44 v45 v46 v162 v163 s) = (spec_LowerOf_l0_T v43 v44 v45 v46 v162 v163 s).bind fun y => .leaf (outS (spec_LowerOf_l0_E v43 v44 v45 v46 v162 v163) (spec_LowerOf_l0_X v43 v44 v45 v46 v162 v163) y) := by kernel_rfl
theorem spec_LowerOf_l0_ok (v43 : Int) (v44 : Int) (v45 : List Nat) (v46 : List Int) : LSound Try.prog 0 (spec_LowerOf_LO v43 v44 v45 v46) 0 (bodyOf Try.f59 0) := by
  intro e L out h
  exact lo_ok (E := spec_LowerOf_l0_E v43 v44 v45 v46 (gI (cAt L (vAt e 4) 0)) (gI (cAt L (vAt e 4) 1))) (gT := spec_LowerOf_l0_T v43 v44 v45 v46 (gI (cAt L (vAt e 4) 0)) (gI (cAt L (vAt e 4) 1))) (X := spec_LowerOf_l0_X v43 v44 v45 v46 (gI (cAt L (vAt e 4) 0)) (gI (cAt L (vAt e 4) 1))) (s0 := ((gI (vAt e 5)), (gRF L (cAt L (vAt e 4) 2)))) tok spec_LowerOf_hO mixed (LoopsOk_eq (l := [(2, bodyOf Try.f59 2)]) (by kernel_rfl) ⟨spec_LowerOf_l2_ok v43 v44 v45 v46, trivial⟩) (spec_LowerOf_l0_be v43 v44 v45 v46 (gI (cAt L (vAt e 4) 0)) (gI (cAt L (vAt e 4) 1))) rfl (by intro x; rfl) h
noncomputable def spec_LowerOf_T (v43 : Int) (v44 : Int) (v45 : List Nat) (v46 : List Int) : Tree ((Unit) ⊕ (Int × Int × (List Nat))) :=
  (.call (spec_l03Is_g v43 v44 v45 v46) fun v97 =>
  (.br (!v97) (
   .leaf (.inl ())
  ) (
   (.call (spec_l02Unit_g v43) fun v114 =>
   (.need (some (spec_LowerOf_l0_E v43 v44 v45 v46 v114.1 v114.2.1 ((0 : Int), v114.2.2)) = some (spec_LowerOf_l0_E v43 v44 v45 v46 v114.1 v114.2.1 ((0 : Int), v114.2.2))) <|
   (.call (spec_LowerOf_l0_g v43 v44 v45 v46 v114.1 v114.2.1 ((0 : Int), v114.2.2)) fun v184 =>
   .leaf (.inr (v114.1, v114.2.1, v184)))))
  )))

noncomputable def spec_LowerOf_g (v43 : Int) (v44 : Int) (v45 : List Nat) (v46 : List Int) : Option ((Unit) ⊕ (Int × Int × (List Nat))) := (spec_LowerOf_T v43 v44 v45 v46).run
def spec_LowerOf_enc (v43 : Int) (v44 : Int) (v45 : List Nat) (v46 : List Int) (y : (Unit) ⊕ (Int × Int × (List Nat))) : Rs := (match y with | .inl y => (.tup [.agg [.int .i64 (0 : Int), .int .i64 (0 : Int), .nilslc], .lit false], []) | .inr y => (.tup [.agg [.int .i64 y.1, .int .i64 y.2.1, .own 0 0 ((y.2.2).length)], .lit true], [.row (.f32 y.2.2) 0]))
theorem spec_LowerOf_den (v43 : Int) (v44 : Int) (v45 : List Nat) (v46 : List Int) : (den TT (tabD spec_LowerOf_tab) (tabM spec_LowerOf_tab) (spec_LowerOf_LO v43 v44 v45 v46) (codeOf Try.f59) ([.agg [.int .i64 v43, .int .i64 v44, .bslc (BR.root 0) (.f32 v45), .bslc (BR.root 1) (.i64 v46)]] ++ List.replicate (Try.f59.ntmps - ([.agg [.int .i64 v43, .int .i64 v44, .bslc (BR.root 0) (.f32 v45), .bslc (BR.root 1) (.i64 v46)]] : List DV).length) .undef) []).bind (retD TT Try.f59.results.toList 0) = (spec_LowerOf_T v43 v44 v45 v46).bind fun y => .leaf (spec_LowerOf_enc v43 v44 v45 v46 y) := by kernel_rfl
theorem spec_LowerOf_fn (v43 : Int) (v44 : Int) (v45 : List Nat) (v46 : List Int) (F : Fr) (hm : F.ids.length = 0) (h0 : St F [] F.H0) (hA : DVs.Ok F [] [.agg [.int .i64 v43, .int .i64 v44, .bslc (BR.root 0) (.f32 v45), .bslc (BR.root 1) (.i64 v46)]]) {y : (Unit) ⊕ (Int × Int × (List Nat))} (hy : spec_LowerOf_g v43 v44 v45 v46 = some y) : ∃ H', FnOk Try.prog 59 (DVs.av F [.agg [.int .i64 v43, .int .i64 v44, .bslc (BR.root 0) (.f32 v45), .bslc (BR.root 1) (.i64 v46)]]) F.H0 ((spec_LowerOf_enc v43 v44 v45 v46 y).1.av F) H' ∧ St F (spec_LowerOf_enc v43 v44 v45 v46 y).2 H' ∧ (spec_LowerOf_enc v43 v44 v45 v46 y).1.Ok F (spec_LowerOf_enc v43 v44 v45 v46 y).2 :=
  fn_fin tok spec_LowerOf_hO mixed Try.func59 Try.call59 (by kernel_rfl) (LoopsOk_eq (l := [(0, bodyOf Try.f59 0)]) (by kernel_rfl) ⟨spec_LowerOf_l0_ok v43 v44 v45 v46, trivial⟩) (spec_LowerOf_den v43 v44 v45 v46) hy hm h0 hA
noncomputable def spec_LowerOf_F : DFn := fun args L =>
  match args with
  | [.agg [.int .i64 v43, .int .i64 v44, a1, a2]] =>
    optT (rowF32 L a1) fun v45 =>
    optT (rowI64 L a2) fun v46 =>
    .call (spec_LowerOf_g v43 v44 v45 v46) fun y => .sum y (fun y0 => .leaf (.tup [.agg [.int .i64 (0 : Int), .int .i64 (0 : Int), .nilslc], .lit false], L)) (fun z0 => .leaf (.tup [.agg [.int .i64 z0.1, .int .i64 z0.2.1, .own (L.length + 0) 0 ((z0.2.2).length)], .lit true], L ++ [.row (.f32 z0.2.2) 0]))
  | _ => .fail
theorem spec_LowerOf_Fok : COk Try.prog 59 spec_LowerOf_F true := by
  intro F L H args r L' hs ha hr
  unfold spec_LowerOf_F at hr
  split at hr
  · rename_i v43 v44 a1 a2
    obtain ⟨v45, hv45, hr⟩ := optT_run hr
    obtain ⟨v46, hv46, hr⟩ := optT_run hr
    simp only [Tree.run] at hr
    obtain ⟨y, hy, hr⟩ := Option.bind_eq_some_iff.1 hr
    cases y with
    | inl y =>
      simp only [Tree.run, Option.some.injEq, Prod.mk.injEq] at hr
      obtain ⟨rfl, rfl⟩ := hr
      exact call_ok0 hs (fun k => (([a1.av F, a2.av F] : List AV)[k]?).getD .top) [.agg [.int .i64 v43, .int .i64 v44, a1, a2]] [.agg [.int .i64 v43, .int .i64 v44, .bslc (BR.root 0) (.f32 v45), .bslc (BR.root 1) (.i64 v46)]] (fun F' h0 hi hρ => ⟨by simp [DVs.av, DV.av, BR.av, hρ], spec_LowerOf_fn v43 v44 v45 v46 F' (by rw [hi]; rfl) (st_nil hi) ⟨⟨trivial, trivial, bslc_ok hi (by rw [h0, hρ]; exact rowF32_ok hs (DVs.okAt (DVs.okAt ha 0 rfl) 2 rfl) hv45), bslc_ok hi (by rw [h0, hρ]; exact rowI64_ok hs (DVs.okAt (DVs.okAt ha 0 rfl) 3 rfl) hv46), trivial⟩, trivial⟩ hy⟩) rfl
    | inr y =>
      simp only [Tree.run, Option.some.injEq, Prod.mk.injEq] at hr
      obtain ⟨rfl, rfl⟩ := hr
      exact call_ok1 hs (fun k => (([a1.av F, a2.av F] : List AV)[k]?).getD .top) [.agg [.int .i64 v43, .int .i64 v44, a1, a2]] [.agg [.int .i64 v43, .int .i64 v44, .bslc (BR.root 0) (.f32 v45), .bslc (BR.root 1) (.i64 v46)]] (fun F' h0 hi hρ => ⟨by simp [DVs.av, DV.av, BR.av, hρ], spec_LowerOf_fn v43 v44 v45 v46 F' (by rw [hi]; rfl) (st_nil hi) ⟨⟨trivial, trivial, bslc_ok hi (by rw [h0, hρ]; exact rowF32_ok hs (DVs.okAt (DVs.okAt ha 0 rfl) 2 rfl) hv45), bslc_ok hi (by rw [h0, hρ]; exact rowI64_ok hs (DVs.okAt (DVs.okAt ha 0 rfl) 3 rfl) hv46), trivial⟩, trivial⟩ hy⟩) rfl rfl
  · cases hr
/-! impl.inRange -/
noncomputable def impl_inRange_LO (v204 : Int) (v205 : Int) (v206 : Int) : LOr := fun id e L =>
  match id with
  | _ => .fail
noncomputable def impl_inRange_tab : List (FuncId × DFn × Bool) := []
theorem impl_inRange_hO : OrcOk Try.prog (tabD impl_inRange_tab) (tabM impl_inRange_tab) := tabD_nil _
noncomputable def impl_inRange_T (v204 : Int) (v205 : Int) (v206 : Int) : Tree (Bool) :=
  (.br (decide (v205 ≤ v204)) (
   .leaf (decide (v204 ≤ v206))
  ) (
   .leaf false
  ))

noncomputable def impl_inRange_g (v204 : Int) (v205 : Int) (v206 : Int) : Option (Bool) := (impl_inRange_T v204 v205 v206).run
def impl_inRange_enc (v204 : Int) (v205 : Int) (v206 : Int) (y : Bool) : Rs := (.bool y, [])
theorem impl_inRange_den (v204 : Int) (v205 : Int) (v206 : Int) : (den TT (tabD impl_inRange_tab) (tabM impl_inRange_tab) (impl_inRange_LO v204 v205 v206) (codeOf Try.f72) ([.int .i64 v204, .int .i64 v205, .int .i64 v206] ++ List.replicate (Try.f72.ntmps - ([.int .i64 v204, .int .i64 v205, .int .i64 v206] : List DV).length) .undef) []).bind (retD TT Try.f72.results.toList 0) = (impl_inRange_T v204 v205 v206).bind fun y => .leaf (impl_inRange_enc v204 v205 v206 y) := by kernel_rfl
theorem impl_inRange_fn (v204 : Int) (v205 : Int) (v206 : Int) (F : Fr) (hm : F.ids.length = 0) (h0 : St F [] F.H0) (hA : DVs.Ok F [] [.int .i64 v204, .int .i64 v205, .int .i64 v206]) {y : Bool} (hy : impl_inRange_g v204 v205 v206 = some y) : ∃ H', FnOk Try.prog 72 (DVs.av F [.int .i64 v204, .int .i64 v205, .int .i64 v206]) F.H0 ((impl_inRange_enc v204 v205 v206 y).1.av F) H' ∧ St F (impl_inRange_enc v204 v205 v206 y).2 H' ∧ (impl_inRange_enc v204 v205 v206 y).1.Ok F (impl_inRange_enc v204 v205 v206 y).2 :=
  fn_fin tok impl_inRange_hO mixed Try.func72 Try.call72 (by kernel_rfl) (LoopsOk_eq (l := []) (by kernel_rfl) trivial) (impl_inRange_den v204 v205 v206) hy hm h0 hA
def impl_inRange_v (v204 : Int) (v205 : Int) (v206 : Int) : Bool :=
  if (decide (v205 ≤ v204)) = true then (
   decide (v204 ≤ v206)
  ) else (
   false
  )
theorem impl_inRange_tot (v204 : Int) (v205 : Int) (v206 : Int) : impl_inRange_g v204 v205 v206 = some (impl_inRange_v v204 v205 v206) := by
  unfold impl_inRange_g impl_inRange_T impl_inRange_v
  simp only [Tree.run]
  repeat' (first | rfl | split)
noncomputable def impl_inRange_F : DFn := fun args L =>
  match args with
  | [.int .i64 v204, .int .i64 v205, .int .i64 v206] =>
    .leaf (.bool (impl_inRange_v v204 v205 v206), L)
  | _ => .fail
theorem impl_inRange_Fok : COk Try.prog 72 impl_inRange_F true := by
  intro F L H args r L' hs ha hr
  unfold impl_inRange_F at hr
  split at hr
  · rename_i v204 v205 v206
    have hy := impl_inRange_tot v204 v205 v206
    generalize impl_inRange_v v204 v205 v206 = y at hy hr
    simp only [Tree.run, Option.some.injEq, Prod.mk.injEq] at hr
    obtain ⟨rfl, rfl⟩ := hr
    exact call_ok0 hs (fun k => (([] : List AV)[k]?).getD .top) [.int .i64 v204, .int .i64 v205, .int .i64 v206] [.int .i64 v204, .int .i64 v205, .int .i64 v206] (fun F' h0 hi hρ => ⟨by simp [DVs.av, DV.av, BR.av, hρ], impl_inRange_fn v204 v205 v206 F' (by rw [hi]; rfl) (st_nil hi) ⟨trivial, trivial, trivial, trivial⟩ hy⟩) rfl
  · cases hr
/-! impl.isSide -/
noncomputable def impl_isSide_LO (v203 : Int) : LOr := fun id e L =>
  match id with
  | _ => .fail
noncomputable def impl_isSide_tab : List (FuncId × DFn × Bool) := [(72, impl_inRange_F, true)]
theorem impl_isSide_hO : OrcOk Try.prog (tabD impl_isSide_tab) (tabM impl_isSide_tab) := tabD_cons impl_inRange_Fok (tabD_nil _)
noncomputable def impl_isSide_T (v203 : Int) : Tree (Bool) :=
  .leaf (impl_inRange_v v203 (1 : Int) (12 : Int))

noncomputable def impl_isSide_g (v203 : Int) : Option (Bool) := (impl_isSide_T v203).run
def impl_isSide_enc (v203 : Int) (y : Bool) : Rs := (.bool y, [])
theorem impl_isSide_den (v203 : Int) : (den TT (tabD impl_isSide_tab) (tabM impl_isSide_tab) (impl_isSide_LO v203) (codeOf Try.f146) ([.int .i64 v203] ++ List.replicate (Try.f146.ntmps - ([.int .i64 v203] : List DV).length) .undef) []).bind (retD TT Try.f146.results.toList 0) = (impl_isSide_T v203).bind fun y => .leaf (impl_isSide_enc v203 y) := by kernel_rfl
theorem impl_isSide_fn (v203 : Int) (F : Fr) (hm : F.ids.length = 0) (h0 : St F [] F.H0) (hA : DVs.Ok F [] [.int .i64 v203]) {y : Bool} (hy : impl_isSide_g v203 = some y) : ∃ H', FnOk Try.prog 146 (DVs.av F [.int .i64 v203]) F.H0 ((impl_isSide_enc v203 y).1.av F) H' ∧ St F (impl_isSide_enc v203 y).2 H' ∧ (impl_isSide_enc v203 y).1.Ok F (impl_isSide_enc v203 y).2 :=
  fn_fin tok impl_isSide_hO mixed Try.func146 Try.call146 (by kernel_rfl) (LoopsOk_eq (l := []) (by kernel_rfl) trivial) (impl_isSide_den v203) hy hm h0 hA
def impl_isSide_v (v203 : Int) : Bool :=
  (impl_inRange_v v203 (1 : Int) (12 : Int))
theorem impl_isSide_tot (v203 : Int) : impl_isSide_g v203 = some (impl_isSide_v v203) := by
  unfold impl_isSide_g impl_isSide_T impl_isSide_v
  simp only [Tree.run]
  repeat' (first | rfl | split)
noncomputable def impl_isSide_F : DFn := fun args L =>
  match args with
  | [.int .i64 v203] =>
    .leaf (.bool (impl_isSide_v v203), L)
  | _ => .fail
theorem impl_isSide_Fok : COk Try.prog 146 impl_isSide_F true := by
  intro F L H args r L' hs ha hr
  unfold impl_isSide_F at hr
  split at hr
  · rename_i v203
    have hy := impl_isSide_tot v203
    generalize impl_isSide_v v203 = y at hy hr
    simp only [Tree.run, Option.some.injEq, Prod.mk.injEq] at hr
    obtain ⟨rfl, rfl⟩ := hr
    exact call_ok0 hs (fun k => (([] : List AV)[k]?).getD .top) [.int .i64 v203] [.int .i64 v203] (fun F' h0 hi hρ => ⟨by simp [DVs.av, DV.av, BR.av, hρ], impl_isSide_fn v203 F' (by rw [hi]; rfl) (st_nil hi) ⟨trivial, trivial⟩ hy⟩) rfl
  · cases hr
/-! impl.length[float32] -/
noncomputable def impl_lengthF_LO (v207 : List Nat) : LOr := fun id e L =>
  match id with
  | _ => .fail
noncomputable def impl_lengthF_tab : List (FuncId × DFn × Bool) := []
theorem impl_lengthF_hO : OrcOk Try.prog (tabD impl_lengthF_tab) (tabM impl_lengthF_tab) := tabD_nil _
noncomputable def impl_lengthF_T (v207 : List Nat) : Tree (Int) :=
  .leaf ((v207.length : Nat) : Int)

noncomputable def impl_lengthF_g (v207 : List Nat) : Option (Int) := (impl_lengthF_T v207).run
def impl_lengthF_enc (v207 : List Nat) (y : Int) : Rs := (.int .i64 y, [])
theorem impl_lengthF_den (v207 : List Nat) : (den TT (tabD impl_lengthF_tab) (tabM impl_lengthF_tab) (impl_lengthF_LO v207) (codeOf Try.f134) ([.bslc (BR.root 0) (.f32 v207)] ++ List.replicate (Try.f134.ntmps - ([.bslc (BR.root 0) (.f32 v207)] : List DV).length) .undef) []).bind (retD TT Try.f134.results.toList 0) = (impl_lengthF_T v207).bind fun y => .leaf (impl_lengthF_enc v207 y) := by kernel_rfl
theorem impl_lengthF_fn (v207 : List Nat) (F : Fr) (hm : F.ids.length = 0) (h0 : St F [] F.H0) (hA : DVs.Ok F [] [.bslc (BR.root 0) (.f32 v207)]) {y : Int} (hy : impl_lengthF_g v207 = some y) : ∃ H', FnOk Try.prog 134 (DVs.av F [.bslc (BR.root 0) (.f32 v207)]) F.H0 ((impl_lengthF_enc v207 y).1.av F) H' ∧ St F (impl_lengthF_enc v207 y).2 H' ∧ (impl_lengthF_enc v207 y).1.Ok F (impl_lengthF_enc v207 y).2 :=
  fn_fin tok impl_lengthF_hO mixed Try.func134 Try.call134 (by kernel_rfl) (LoopsOk_eq (l := []) (by kernel_rfl) trivial) (impl_lengthF_den v207) hy hm h0 hA
def impl_lengthF_v (v207 : List Nat) : Int :=
  ((v207.length : Nat) : Int)
theorem impl_lengthF_tot (v207 : List Nat) : impl_lengthF_g v207 = some (impl_lengthF_v v207) := by
  unfold impl_lengthF_g impl_lengthF_T impl_lengthF_v
  simp only [Tree.run]
  repeat' (first | rfl | split)
noncomputable def impl_lengthF_F : DFn := fun args L =>
  match args with
  | [a1] =>
    optT (rowF32 L a1) fun v207 =>
    .leaf (.int .i64 (impl_lengthF_v v207), L)
  | _ => .fail
theorem impl_lengthF_Fok : COk Try.prog 134 impl_lengthF_F true := by
  intro F L H args r L' hs ha hr
  unfold impl_lengthF_F at hr
  split at hr
  · rename_i a1
    obtain ⟨v207, hv207, hr⟩ := optT_run hr
    have hy := impl_lengthF_tot v207
    generalize impl_lengthF_v v207 = y at hy hr
    simp only [Tree.run, Option.some.injEq, Prod.mk.injEq] at hr
    obtain ⟨rfl, rfl⟩ := hr
    exact call_ok0 hs (fun k => (([a1.av F] : List AV)[k]?).getD .top) [a1] [.bslc (BR.root 0) (.f32 v207)] (fun F' h0 hi hρ => ⟨by simp [DVs.av, DV.av, BR.av, hρ], impl_lengthF_fn v207 F' (by rw [hi]; rfl) (st_nil hi) ⟨bslc_ok hi (by rw [h0, hρ]; exact rowF32_ok hs (DVs.okAt ha 0 rfl) hv207), trivial⟩ hy⟩) rfl
  · cases hr
/-! math.IsNaN -/
noncomputable def math_IsNaN_LO (v215 : Nat) : LOr := fun id e L =>
  match id with
  | _ => .fail
noncomputable def math_IsNaN_tab : List (FuncId × DFn × Bool) := []
theorem math_IsNaN_hO : OrcOk Try.prog (tabD math_IsNaN_tab) (tabM math_IsNaN_tab) := tabD_nil _
noncomputable def math_IsNaN_T (v215 : Nat) : Tree (Bool) :=
  .leaf (!feq .f64 v215 v215)

noncomputable def math_IsNaN_g (v215 : Nat) : Option (Bool) := (math_IsNaN_T v215).run
def math_IsNaN_enc (v215 : Nat) (y : Bool) : Rs := (.bool y, [])
theorem math_IsNaN_den (v215 : Nat) : (den TT (tabD math_IsNaN_tab) (tabM math_IsNaN_tab) (math_IsNaN_LO v215) (codeOf Try.f169) ([.flt .f64 v215] ++ List.replicate (Try.f169.ntmps - ([.flt .f64 v215] : List DV).length) .undef) []).bind (retD TT Try.f169.results.toList 0) = (math_IsNaN_T v215).bind fun y => .leaf (math_IsNaN_enc v215 y) := by kernel_rfl
theorem math_IsNaN_fn (v215 : Nat) (F : Fr) (hm : F.ids.length = 0) (h0 : St F [] F.H0) (hA : DVs.Ok F [] [.flt .f64 v215]) {y : Bool} (hy : math_IsNaN_g v215 = some y) : ∃ H', FnOk Try.prog 169 (DVs.av F [.flt .f64 v215]) F.H0 ((math_IsNaN_enc v215 y).1.av F) H' ∧ St F (math_IsNaN_enc v215 y).2 H' ∧ (math_IsNaN_enc v215 y).1.Ok F (math_IsNaN_enc v215 y).2 :=
  fn_fin tok math_IsNaN_hO mixed Try.func169 Try.call169 (by kernel_rfl) (LoopsOk_eq (l := []) (by kernel_rfl) trivial) (math_IsNaN_den v215) hy hm h0 hA
def math_IsNaN_v (v215 : Nat) : Bool :=
  !feq .f64 v215 v215
theorem math_IsNaN_tot (v215 : Nat) : math_IsNaN_g v215 = some (math_IsNaN_v v215) := by
  unfold math_IsNaN_g math_IsNaN_T math_IsNaN_v
  simp only [Tree.run]
  repeat' (first | rfl | split)
noncomputable def math_IsNaN_F : DFn := fun args L =>
  match args with
  | [.flt .f64 v215] =>
    .leaf (.bool (math_IsNaN_v v215), L)
  | _ => .fail
theorem math_IsNaN_Fok : COk Try.prog 169 math_IsNaN_F true := by
  intro F L H args r L' hs ha hr
  unfold math_IsNaN_F at hr
  split at hr
  · rename_i v215
    have hy := math_IsNaN_tot v215
    generalize math_IsNaN_v v215 = y at hy hr
    simp only [Tree.run, Option.some.injEq, Prod.mk.injEq] at hr
    obtain ⟨rfl, rfl⟩ := hr
    exact call_ok0 hs (fun k => (([] : List AV)[k]?).getD .top) [.flt .f64 v215] [.flt .f64 v215] (fun F' h0 hi hρ => ⟨by simp [DVs.av, DV.av, BR.av, hρ], math_IsNaN_fn v215 F' (by rw [hi]; rfl) (st_nil hi) ⟨trivial, trivial⟩ hy⟩) rfl
  · cases hr
/-! math.IsInf -/
noncomputable def math_IsInf_LO (v216 : Nat) (v217 : Int) : LOr := fun id e L =>
  match id with
  | _ => .fail
noncomputable def math_IsInf_tab : List (FuncId × DFn × Bool) := [(104, Abs_F, true)]
theorem math_IsInf_hO : OrcOk Try.prog (tabD math_IsInf_tab) (tabM math_IsInf_tab) := tabD_cons Abs_Fok (tabD_nil _)
noncomputable def math_IsInf_T (v216 : Nat) (v217 : Int) : Tree (Bool) :=
  (.br (decide (v217 = (0 : Int))) (
   .leaf (fgrt .f64 (fabs v216) (9218868437227405311 : Nat))
  ) (
   (.br (decide (v217 < (0 : Int))) (
    .leaf (fgrt .f64 (fneg .f64 v216) (9218868437227405311 : Nat))
   ) (
    .leaf (fgrt .f64 v216 (9218868437227405311 : Nat))
   ))
  ))

noncomputable def math_IsInf_g (v216 : Nat) (v217 : Int) : Option (Bool) := (math_IsInf_T v216 v217).run
def math_IsInf_enc (v216 : Nat) (v217 : Int) (y : Bool) : Rs := (.bool y, [])
theorem math_IsInf_den (v216 : Nat) (v217 : Int) : (den TT (tabD math_IsInf_tab) (tabM math_IsInf_tab) (math_IsInf_LO v216 v217) (codeOf Try.f170) ([.flt .f64 v216, .int .i64 v217] ++ List.replicate (Try.f170.ntmps - ([.flt .f64 v216, .int .i64 v217] : List DV).length) .undef) []).bind (retD TT Try.f170.results.toList 0) = (math_IsInf_T v216 v217).bind fun y => .leaf (math_IsInf_enc v216 v217 y) := by kernel_rfl
theorem math_IsInf_fn (v216 : Nat) (v217 : Int) (F : Fr) (hm : F.ids.length = 0) (h0 : St F [] F.H0) (hA : DVs.Ok F [] [.flt .f64 v216, .int .i64 v217]) {y : Bool} (hy : math_IsInf_g v216 v217 = some y) : ∃ H', FnOk Try.prog 170 (DVs.av F [.flt .f64 v216, .int .i64 v217]) F.H0 ((math_IsInf_enc v216 v217 y).1.av F) H' ∧ St F (math_IsInf_enc v216 v217 y).2 H' ∧ (math_IsInf_enc v216 v217 y).1.Ok F (math_IsInf_enc v216 v217 y).2 :=
  fn_fin tok math_IsInf_hO mixed Try.func170 Try.call170 (by kernel_rfl) (LoopsOk_eq (l := []) (by kernel_rfl) trivial) (math_IsInf_den v216 v217) hy hm h0 hA
def math_IsInf_v (v216 : Nat) (v217 : Int) : Bool :=
  if (decide (v217 = (0 : Int))) = true then (
   fgrt .f64 (fabs v216) (9218868437227405311 : Nat)
  ) else (
   if (decide (v217 < (0 : Int))) = true then (
    fgrt .f64 (fneg .f64 v216) (9218868437227405311 : Nat)
   ) else (
    fgrt .f64 v216 (9218868437227405311 : Nat)
   )
  )
theorem math_IsInf_tot (v216 : Nat) (v217 : Int) : math_IsInf_g v216 v217 = some (math_IsInf_v v216 v217) := by
  unfold math_IsInf_g math_IsInf_T math_IsInf_v
  simp only [Tree.run]
  repeat' (first | rfl | split)
noncomputable def math_IsInf_F : DFn := fun args L =>
  match args with
  | [.flt .f64 v216, .int .i64 v217] =>
    .leaf (.bool (math_IsInf_v v216 v217), L)
  | _ => .fail
theorem math_IsInf_Fok : COk Try.prog 170 math_IsInf_F true := by
  intro F L H args r L' hs ha hr
  unfold math_IsInf_F at hr
  split at hr
  · rename_i v216 v217
    have hy := math_IsInf_tot v216 v217
    generalize math_IsInf_v v216 v217 = y at hy hr
    simp only [Tree.run, Option.some.injEq, Prod.mk.injEq] at hr
    obtain ⟨rfl, rfl⟩ := hr
    exact call_ok0 hs (fun k => (([] : List AV)[k]?).getD .top) [.flt .f64 v216, .int .i64 v217] [.flt .f64 v216, .int .i64 v217] (fun F' h0 hi hρ => ⟨by simp [DVs.av, DV.av, BR.av, hρ], math_IsInf_fn v216 v217 F' (by rw [hi]; rfl) (st_nil hi) ⟨trivial, trivial, trivial⟩ hy⟩) rfl
  · cases hr
/-! impl.isFinite64 -/
noncomputable def impl_isFinite64_LO (v214 : Nat) : LOr := fun id e L =>
  match id with
  | _ => .fail
noncomputable def impl_isFinite64_tab : List (FuncId × DFn × Bool) := [(169, math_IsNaN_F, true), (170, math_IsInf_F, true)]
theorem impl_isFinite64_hO : OrcOk Try.prog (tabD impl_isFinite64_tab) (tabM impl_isFinite64_tab) := tabD_cons math_IsNaN_Fok (tabD_cons math_IsInf_Fok (tabD_nil _))
noncomputable def impl_isFinite64_T (v214 : Nat) : Tree (Bool) :=
  (.br (!(math_IsNaN_v v214)) (
   .leaf (!(math_IsInf_v v214 (0 : Int)))
  ) (
   .leaf false
  ))

noncomputable def impl_isFinite64_g (v214 : Nat) : Option (Bool) := (impl_isFinite64_T v214).run
def impl_isFinite64_enc (v214 : Nat) (y : Bool) : Rs := (.bool y, [])
theorem impl_isFinite64_den (v214 : Nat) : (den TT (tabD impl_isFinite64_tab) (tabM impl_isFinite64_tab) (impl_isFinite64_LO v214) (codeOf Try.f151) ([.flt .f64 v214] ++ List.replicate (Try.f151.ntmps - ([.flt .f64 v214] : List DV).length) .undef) []).bind (retD TT Try.f151.results.toList 0) = (impl_isFinite64_T v214).bind fun y => .leaf (impl_isFinite64_enc v214 y) := by kernel_rfl
theorem impl_isFinite64_fn (v214 : Nat) (F : Fr) (hm : F.ids.length = 0) (h0 : St F [] F.H0) (hA : DVs.Ok F [] [.flt .f64 v214]) {y : Bool} (hy : impl_isFinite64_g v214 = some y) : ∃ H', FnOk Try.prog 151 (DVs.av F [.flt .f64 v214]) F.H0 ((impl_isFinite64_enc v214 y).1.av F) H' ∧ St F (impl_isFinite64_enc v214 y).2 H' ∧ (impl_isFinite64_enc v214 y).1.Ok F (impl_isFinite64_enc v214 y).2 :=
  fn_fin tok impl_isFinite64_hO mixed Try.func151 Try.call151 (by kernel_rfl) (LoopsOk_eq (l := []) (by kernel_rfl) trivial) (impl_isFinite64_den v214) hy hm h0 hA
def impl_isFinite64_v (v214 : Nat) : Bool :=
  if (!(math_IsNaN_v v214)) = true then (
   !(math_IsInf_v v214 (0 : Int))
  ) else (
   false
  )
theorem impl_isFinite64_tot (v214 : Nat) : impl_isFinite64_g v214 = some (impl_isFinite64_v v214) := by
  unfold impl_isFinite64_g impl_isFinite64_T impl_isFinite64_v
  simp only [Tree.run]
  repeat' (first | rfl | split)
noncomputable def impl_isFinite64_F : DFn := fun args L =>
  match args with
  | [.flt .f64 v214] =>
    .leaf (.bool (impl_isFinite64_v v214), L)
  | _ => .fail
theorem impl_isFinite64_Fok : COk Try.prog 151 impl_isFinite64_F true := by
  intro F L H args r L' hs ha hr
  unfold impl_isFinite64_F at hr
  split at hr
  · rename_i v214
    have hy := impl_isFinite64_tot v214
    generalize impl_isFinite64_v v214 = y at hy hr
    simp only [Tree.run, Option.some.injEq, Prod.mk.injEq] at hr
    obtain ⟨rfl, rfl⟩ := hr
    exact call_ok0 hs (fun k => (([] : List AV)[k]?).getD .top) [.flt .f64 v214] [.flt .f64 v214] (fun F' h0 hi hρ => ⟨by simp [DVs.av, DV.av, BR.av, hρ], impl_isFinite64_fn v214 F' (by rw [hi]; rfl) (st_nil hi) ⟨trivial, trivial⟩ hy⟩) rfl
  · cases hr
/-! impl.IsFinite -/
noncomputable def impl_IsFinite_LO (v213 : Nat) : LOr := fun id e L =>
  match id with
  | _ => .fail
noncomputable def impl_IsFinite_tab : List (FuncId × DFn × Bool) := [(151, impl_isFinite64_F, true)]
theorem impl_IsFinite_hO : OrcOk Try.prog (tabD impl_IsFinite_tab) (tabM impl_IsFinite_tab) := tabD_cons impl_isFinite64_Fok (tabD_nil _)
noncomputable def impl_IsFinite_T (v213 : Nat) : Tree (Bool) :=
  .leaf (impl_isFinite64_v (wid v213))

noncomputable def impl_IsFinite_g (v213 : Nat) : Option (Bool) := (impl_IsFinite_T v213).run
def impl_IsFinite_enc (v213 : Nat) (y : Bool) : Rs := (.bool y, [])
theorem impl_IsFinite_den (v213 : Nat) : (den TT (tabD impl_IsFinite_tab) (tabM impl_IsFinite_tab) (impl_IsFinite_LO v213) (codeOf Try.f103) ([.flt .f32 v213] ++ List.replicate (Try.f103.ntmps - ([.flt .f32 v213] : List DV).length) .undef) []).bind (retD TT Try.f103.results.toList 0) = (impl_IsFinite_T v213).bind fun y => .leaf (impl_IsFinite_enc v213 y) := by kernel_rfl
theorem impl_IsFinite_fn (v213 : Nat) (F : Fr) (hm : F.ids.length = 0) (h0 : St F [] F.H0) (hA : DVs.Ok F [] [.flt .f32 v213]) {y : Bool} (hy : impl_IsFinite_g v213 = some y) : ∃ H', FnOk Try.prog 103 (DVs.av F [.flt .f32 v213]) F.H0 ((impl_IsFinite_enc v213 y).1.av F) H' ∧ St F (impl_IsFinite_enc v213 y).2 H' ∧ (impl_IsFinite_enc v213 y).1.Ok F (impl_IsFinite_enc v213 y).2 :=
  fn_fin tok impl_IsFinite_hO mixed Try.func103 Try.call103 (by kernel_rfl) (LoopsOk_eq (l := []) (by kernel_rfl) trivial) (impl_IsFinite_den v213) hy hm h0 hA
def impl_IsFinite_v (v213 : Nat) : Bool :=
  (impl_isFinite64_v (wid v213))
theorem impl_IsFinite_tot (v213 : Nat) : impl_IsFinite_g v213 = some (impl_IsFinite_v v213) := by
  unfold impl_IsFinite_g impl_IsFinite_T impl_IsFinite_v
  simp only [Tree.run]
  repeat' (first | rfl | split)
noncomputable def impl_IsFinite_F : DFn := fun args L =>
  match args with
  | [.flt .f32 v213] =>
    .leaf (.bool (impl_IsFinite_v v213), L)
  | _ => .fail
theorem impl_IsFinite_Fok : COk Try.prog 103 impl_IsFinite_F true := by
  intro F L H args r L' hs ha hr
  unfold impl_IsFinite_F at hr
  split at hr
  · rename_i v213
    have hy := impl_IsFinite_tot v213
    generalize impl_IsFinite_v v213 = y at hy hr
    simp only [Tree.run, Option.some.injEq, Prod.mk.injEq] at hr
    obtain ⟨rfl, rfl⟩ := hr
    exact call_ok0 hs (fun k => (([] : List AV)[k]?).getD .top) [.flt .f32 v213] [.flt .f32 v213] (fun F' h0 hi hρ => ⟨by simp [DVs.av, DV.av, BR.av, hρ], impl_IsFinite_fn v213 F' (by rw [hi]; rfl) (st_nil hi) ⟨trivial, trivial⟩ hy⟩) rfl
  · cases hr
/-! impl.areFinite$1 -/
noncomputable def impl_areFinite_1_LO (v212 : Nat) : LOr := fun id e L =>
  match id with
  | _ => .fail
noncomputable def impl_areFinite_1_tab : List (FuncId × DFn × Bool) := [(103, impl_IsFinite_F, true)]
theorem impl_areFinite_1_hO : OrcOk Try.prog (tabD impl_areFinite_1_tab) (tabM impl_areFinite_1_tab) := tabD_cons impl_IsFinite_Fok (tabD_nil _)
noncomputable def impl_areFinite_1_T (v212 : Nat) : Tree (Bool) :=
  .leaf (!(impl_IsFinite_v v212))

noncomputable def impl_areFinite_1_g (v212 : Nat) : Option (Bool) := (impl_areFinite_1_T v212).run
def impl_areFinite_1_enc (v212 : Nat) (y : Bool) : Rs := (.bool y, [])
theorem impl_areFinite_1_den (v212 : Nat) : (den TT (tabD impl_areFinite_1_tab) (tabM impl_areFinite_1_tab) (impl_areFinite_1_LO v212) (codeOf Try.f165) ([.flt .f32 v212] ++ List.replicate (Try.f165.ntmps - ([.flt .f32 v212] : List DV).length) .undef) []).bind (retD TT Try.f165.results.toList 0) = (impl_areFinite_1_T v212).bind fun y => .leaf (impl_areFinite_1_enc v212 y) := by kernel_rfl
theorem impl_areFinite_1_fn (v212 : Nat) (F : Fr) (hm : F.ids.length = 0) (h0 : St F [] F.H0) (hA : DVs.Ok F [] [.flt .f32 v212]) {y : Bool} (hy : impl_areFinite_1_g v212 = some y) : ∃ H', FnOk Try.prog 165 (DVs.av F [.flt .f32 v212]) F.H0 ((impl_areFinite_1_enc v212 y).1.av F) H' ∧ St F (impl_areFinite_1_enc v212 y).2 H' ∧ (impl_areFinite_1_enc v212 y).1.Ok F (impl_areFinite_1_enc v212 y).2 :=
  fn_fin tok impl_areFinite_1_hO mixed Try.func165 Try.call165 (by kernel_rfl) (LoopsOk_eq (l := []) (by kernel_rfl) trivial) (impl_areFinite_1_den v212) hy hm h0 hA
def impl_areFinite_1_v (v212 : Nat) : Bool :=
  !(impl_IsFinite_v v212)
theorem impl_areFinite_1_tot (v212 : Nat) : impl_areFinite_1_g v212 = some (impl_areFinite_1_v v212) := by
  unfold impl_areFinite_1_g impl_areFinite_1_T impl_areFinite_1_v
  simp only [Tree.run]
  repeat' (first | rfl | split)
noncomputable def impl_areFinite_1_F : DFn := fun args L =>
  match args with
  | [.flt .f32 v212] =>
    .leaf (.bool (impl_areFinite_1_v v212), L)
  | _ => .fail
theorem impl_areFinite_1_Fok : COk Try.prog 165 impl_areFinite_1_F true := by
  intro F L H args r L' hs ha hr
  unfold impl_areFinite_1_F at hr
  split at hr
  · rename_i v212
    have hy := impl_areFinite_1_tot v212
    generalize impl_areFinite_1_v v212 = y at hy hr
    simp only [Tree.run, Option.some.injEq, Prod.mk.injEq] at hr
    obtain ⟨rfl, rfl⟩ := hr
    exact call_ok0 hs (fun k => (([] : List AV)[k]?).getD .top) [.flt .f32 v212] [.flt .f32 v212] (fun F' h0 hi hρ => ⟨by simp [DVs.av, DV.av, BR.av, hρ], impl_areFinite_1_fn v212 F' (by rw [hi]; rfl) (st_nil hi) ⟨trivial, trivial⟩ hy⟩) rfl
  · cases hr
/-! slices.IndexFunc[list of float32,float32] -/
noncomputable def slices_IndexFuncF_l0_T (v210 : List Nat) (s : Int) : Tree ((Int) ⊕ ((Int) ⊕ (Unit))) :=
  (.br (decide (s < ((v210.length : Nat) : Int))) (
   (.grd (inb s v210.length) <|
   (.br (impl_areFinite_1_v (nth v210 (Int.toNat s))) (
    .leaf (.inr (.inl s))
   ) (
    .leaf (.inl (IntKind.i64.wrap (s + (1 : Int))))
   )))
  ) (
   .leaf (.inr (.inr ()))
  ))

noncomputable def slices_IndexFuncF_l0_g (v210 : List Nat) (s0 : Int) : Option ((Int) ⊕ (Unit)) := whileM (fun s => (slices_IndexFuncF_l0_T v210 s).run) s0
def slices_IndexFuncF_l0_E (v210 : List Nat) (s : Int) : Sd := ([.bslc (BR.root 0) (.f32 v210), .fn 165 [], .top, .top, .top, .top, .top, .int .i64 ((v210.length : Nat) : Int), .int .i64 s, .top, .top, .top, .top, .top, .top, .top, .top, .top, .top], [])
def slices_IndexFuncF_l0_X (v210 : List Nat) (x : (Int) ⊕ (Unit)) : Out := (match x with | .inl x => (.ret, [.top, .top, .top, .top, .int .i64 x, .top, .top, .top, .top, .top, .top, .top, .top, .top, .top, .top, .top, .top, .top], []) | .inr x => (.normal, [.top, .top, .top, .top, .top, .top, .top, .top, .top, .top, .top, .top, .top, .top, .top, .top, .top, .top, .top], []))
def slices_IndexFuncF_l0_kill : List Nat := [0, 0, 1, 1, 1, 1, 1, 0, 0, 1, 1, 1, 1, 1, 1, 1, 1, 1, 1]
def slices_IndexFuncF_l0_nx : Exit → List Nat
  | .exit 0 => [1, 1, 1, 1, 1, 1, 1, 1, 1, 1, 1, 1, 1, 1, 1, 1, 1, 1, 1]
  | .ret => [1, 1, 1, 1, 0, 1, 1, 1, 1, 1, 1, 1, 1, 1, 1, 1, 1, 1, 1]
  | _ => []
noncomputable def slices_IndexFuncF_LO (v210 : List Nat) : LOr := fun id e L =>
  match id with
  | 0 => .need (normA 0 slices_IndexFuncF_l0_kill e L = some (slices_IndexFuncF_l0_E v210 (gI (vAt e 8)))) (.call (slices_IndexFuncF_l0_g v210 (gI (vAt e 8))) fun x => .sum x (fun b0 => .leaf (slices_IndexFuncF_l0_X v210 (.inl b0))) (fun c0 => .leaf (slices_IndexFuncF_l0_X v210 (.inr c0))))
  | _ => .fail
noncomputable def slices_IndexFuncF_tab : List (FuncId × DFn × Bool) := [(165, impl_areFinite_1_F, true)]
theorem slices_IndexFuncF_hO : OrcOk Try.prog (tabD slices_IndexFuncF_tab) (tabM slices_IndexFuncF_tab) := tabD_cons impl_areFinite_1_Fok (tabD_nil _)
theorem slices_IndexFuncF_l0_be (v210 : List Nat) (s : Int) : bodyT TT (tabD slices_IndexFuncF_tab) (tabM slices_IndexFuncF_tab) (slices_IndexFuncF_LO v210) 0 slices_IndexFuncF_l0_kill slices_IndexFuncF_l0_nx (bodyOf Try.f178 0) 0 (slices_IndexFuncF_l0_E v210 s) = (slices_IndexFuncF_l0_T v210 s).bind fun y => .leaf (outS (slices_IndexFuncF_l0_E v210) (slices_IndexFuncF_l0_X v210) y) := by kernel_rfl
theorem slices_IndexFuncF_l0_ok (v210 : List Nat) : LSound Try.prog 0 (slices_IndexFuncF_LO v210) 0 (bodyOf Try.f178 0) := by
  intro e L out h
  exact lo_ok (E := slices_IndexFuncF_l0_E v210) (gT := slices_IndexFuncF_l0_T v210) (X := slices_IndexFuncF_l0_X v210) (s0 := (gI (vAt e 8))) tok slices_IndexFuncF_hO mixed (LoopsOk_eq (l := []) (by kernel_rfl) trivial) (slices_IndexFuncF_l0_be v210) rfl (by intro x; (cases x with | inl b => rfl | inr x => exact rfl)) h
noncomputable def slices_IndexFuncF_T (v210 : List Nat) : Tree (Int) :=
  (.need (some (slices_IndexFuncF_l0_E v210 (0 : Int)) = some (slices_IndexFuncF_l0_E v210 (0 : Int))) <|
  (.call (slices_IndexFuncF_l0_g v210 (0 : Int)) fun v220 =>
  (.sum v220 (fun v221 =>
   .leaf v221
  ) (fun v222 =>
   .leaf (-1 : Int)
  ))))

noncomputable def slices_IndexFuncF_g (v210 : List Nat) : Option (Int) := (slices_IndexFuncF_T v210).run
def slices_IndexFuncF_enc (v210 : List Nat) (y : Int) : Rs := (.int .i64 y, [])
theorem slices_IndexFuncF_den (v210 : List Nat) : (den TT (tabD slices_IndexFuncF_tab) (tabM slices_IndexFuncF_tab) (slices_IndexFuncF_LO v210) (codeOf Try.f178) ([.bslc (BR.root 0) (.f32 v210), .fn 165 []] ++ List.replicate (Try.f178.ntmps - ([.bslc (BR.root 0) (.f32 v210), .fn 165 []] : List DV).length) .undef) []).bind (retD TT Try.f178.results.toList 0) = (slices_IndexFuncF_T v210).bind fun y => .leaf (slices_IndexFuncF_enc v210 y) := by kernel_rfl
theorem slices_IndexFuncF_fn (v210 : List Nat) (F : Fr) (hm : F.ids.length = 0) (h0 : St F [] F.H0) (hA : DVs.Ok F [] [.bslc (BR.root 0) (.f32 v210), .fn 165 []]) {y : Int} (hy : slices_IndexFuncF_g v210 = some y) : ∃ H', FnOk Try.prog 178 (DVs.av F [.bslc (BR.root 0) (.f32 v210), .fn 165 []]) F.H0 ((slices_IndexFuncF_enc v210 y).1.av F) H' ∧ St F (slices_IndexFuncF_enc v210 y).2 H' ∧ (slices_IndexFuncF_enc v210 y).1.Ok F (slices_IndexFuncF_enc v210 y).2 :=
  fn_fin tok slices_IndexFuncF_hO mixed Try.func178 Try.call178 (by kernel_rfl) (LoopsOk_eq (l := [(0, bodyOf Try.f178 0)]) (by kernel_rfl) ⟨slices_IndexFuncF_l0_ok v210, trivial⟩) (slices_IndexFuncF_den v210) hy hm h0 hA
noncomputable def slices_IndexFuncF_F : DFn := fun args L =>
  match args with
  | [a1, .fn 165 []] =>
    optT (rowF32 L a1) fun v210 =>
    .call (slices_IndexFuncF_g v210) fun y => .leaf (.int .i64 y, L)
  | _ => .fail
theorem slices_IndexFuncF_Fok : COk Try.prog 178 slices_IndexFuncF_F true := by
  intro F L H args r L' hs ha hr
  unfold slices_IndexFuncF_F at hr
  split at hr
  · rename_i a1
    obtain ⟨v210, hv210, hr⟩ := optT_run hr
    simp only [Tree.run] at hr
    obtain ⟨y, hy, hr⟩ := Option.bind_eq_some_iff.1 hr
    simp only [Tree.run, Option.some.injEq, Prod.mk.injEq] at hr
    obtain ⟨rfl, rfl⟩ := hr
    exact call_ok0 hs (fun k => (([a1.av F] : List AV)[k]?).getD .top) [a1, .fn 165 []] [.bslc (BR.root 0) (.f32 v210), .fn 165 []] (fun F' h0 hi hρ => ⟨by simp [DVs.av, DV.av, BR.av, hρ], slices_IndexFuncF_fn v210 F' (by rw [hi]; rfl) (st_nil hi) ⟨bslc_ok hi (by rw [h0, hρ]; exact rowF32_ok hs (DVs.okAt ha 0 rfl) hv210), trivial, trivial⟩ hy⟩) rfl
  · cases hr
/-! slices.ContainsFunc[list of float32,float32] -/
noncomputable def slices_ContainsFuncF_LO (v209 : List Nat) : LOr := fun id e L =>
  match id with
  | _ => .fail
noncomputable def slices_ContainsFuncF_tab : List (FuncId × DFn × Bool) := [(178, slices_IndexFuncF_F, true)]
theorem slices_ContainsFuncF_hO : OrcOk Try.prog (tabD slices_ContainsFuncF_tab) (tabM slices_ContainsFuncF_tab) := tabD_cons slices_IndexFuncF_Fok (tabD_nil _)
noncomputable def slices_ContainsFuncF_T (v209 : List Nat) : Tree (Bool) :=
  (.call (slices_IndexFuncF_g v209) fun v223 =>
  .leaf (decide ((0 : Int) ≤ v223)))

noncomputable def slices_ContainsFuncF_g (v209 : List Nat) : Option (Bool) := (slices_ContainsFuncF_T v209).run
def slices_ContainsFuncF_enc (v209 : List Nat) (y : Bool) : Rs := (.bool y, [])
theorem slices_ContainsFuncF_den (v209 : List Nat) : (den TT (tabD slices_ContainsFuncF_tab) (tabM slices_ContainsFuncF_tab) (slices_ContainsFuncF_LO v209) (codeOf Try.f164) ([.bslc (BR.root 0) (.f32 v209), .fn 165 []] ++ List.replicate (Try.f164.ntmps - ([.bslc (BR.root 0) (.f32 v209), .fn 165 []] : List DV).length) .undef) []).bind (retD TT Try.f164.results.toList 0) = (slices_ContainsFuncF_T v209).bind fun y => .leaf (slices_ContainsFuncF_enc v209 y) := by kernel_rfl
theorem slices_ContainsFuncF_fn (v209 : List Nat) (F : Fr) (hm : F.ids.length = 0) (h0 : St F [] F.H0) (hA : DVs.Ok F [] [.bslc (BR.root 0) (.f32 v209), .fn 165 []]) {y : Bool} (hy : slices_ContainsFuncF_g v209 = some y) : ∃ H', FnOk Try.prog 164 (DVs.av F [.bslc (BR.root 0) (.f32 v209), .fn 165 []]) F.H0 ((slices_ContainsFuncF_enc v209 y).1.av F) H' ∧ St F (slices_ContainsFuncF_enc v209 y).2 H' ∧ (slices_ContainsFuncF_enc v209 y).1.Ok F (slices_ContainsFuncF_enc v209 y).2 :=
  fn_fin tok slices_ContainsFuncF_hO mixed Try.func164 Try.call164 (by kernel_rfl) (LoopsOk_eq (l := []) (by kernel_rfl) trivial) (slices_ContainsFuncF_den v209) hy hm h0 hA
noncomputable def slices_ContainsFuncF_F : DFn := fun args L =>
  match args with
  | [a1, .fn 165 []] =>
    optT (rowF32 L a1) fun v209 =>
    .call (slices_ContainsFuncF_g v209) fun y => .leaf (.bool y, L)
  | _ => .fail
theorem slices_ContainsFuncF_Fok : COk Try.prog 164 slices_ContainsFuncF_F true := by
  intro F L H args r L' hs ha hr
  unfold slices_ContainsFuncF_F at hr
  split at hr
  · rename_i a1
    obtain ⟨v209, hv209, hr⟩ := optT_run hr
    simp only [Tree.run] at hr
    obtain ⟨y, hy, hr⟩ := Option.bind_eq_some_iff.1 hr
    simp only [Tree.run, Option.some.injEq, Prod.mk.injEq] at hr
    obtain ⟨rfl, rfl⟩ := hr
    exact call_ok0 hs (fun k => (([a1.av F] : List AV)[k]?).getD .top) [a1, .fn 165 []] [.bslc (BR.root 0) (.f32 v209), .fn 165 []] (fun F' h0 hi hρ => ⟨by simp [DVs.av, DV.av, BR.av, hρ], slices_ContainsFuncF_fn v209 F' (by rw [hi]; rfl) (st_nil hi) ⟨bslc_ok hi (by rw [h0, hρ]; exact rowF32_ok hs (DVs.okAt ha 0 rfl) hv209), trivial, trivial⟩ hy⟩) rfl
  · cases hr
/-! impl.areFinite -/
noncomputable def impl_areFinite_LO (v208 : List Nat) : LOr := fun id e L =>
  match id with
  | _ => .fail
noncomputable def impl_areFinite_tab : List (FuncId × DFn × Bool) := [(164, slices_ContainsFuncF_F, true)]
theorem impl_areFinite_hO : OrcOk Try.prog (tabD impl_areFinite_tab) (tabM impl_areFinite_tab) := tabD_cons slices_ContainsFuncF_Fok (tabD_nil _)
noncomputable def impl_areFinite_T (v208 : List Nat) : Tree (Bool) :=
  (.call (slices_ContainsFuncF_g v208) fun v224 =>
  .leaf (!v224))

noncomputable def impl_areFinite_g (v208 : List Nat) : Option (Bool) := (impl_areFinite_T v208).run
def impl_areFinite_enc (v208 : List Nat) (y : Bool) : Rs := (.bool y, [])
theorem impl_areFinite_den (v208 : List Nat) : (den TT (tabD impl_areFinite_tab) (tabM impl_areFinite_tab) (impl_areFinite_LO v208) (codeOf Try.f135) ([.bslc (BR.root 0) (.f32 v208)] ++ List.replicate (Try.f135.ntmps - ([.bslc (BR.root 0) (.f32 v208)] : List DV).length) .undef) []).bind (retD TT Try.f135.results.toList 0) = (impl_areFinite_T v208).bind fun y => .leaf (impl_areFinite_enc v208 y) := by kernel_rfl
theorem impl_areFinite_fn (v208 : List Nat) (F : Fr) (hm : F.ids.length = 0) (h0 : St F [] F.H0) (hA : DVs.Ok F [] [.bslc (BR.root 0) (.f32 v208)]) {y : Bool} (hy : impl_areFinite_g v208 = some y) : ∃ H', FnOk Try.prog 135 (DVs.av F [.bslc (BR.root 0) (.f32 v208)]) F.H0 ((impl_areFinite_enc v208 y).1.av F) H' ∧ St F (impl_areFinite_enc v208 y).2 H' ∧ (impl_areFinite_enc v208 y).1.Ok F (impl_areFinite_enc v208 y).2 :=
  fn_fin tok impl_areFinite_hO mixed Try.func135 Try.call135 (by kernel_rfl) (LoopsOk_eq (l := []) (by kernel_rfl) trivial) (impl_areFinite_den v208) hy hm h0 hA
noncomputable def impl_areFinite_F : DFn := fun args L =>
  match args with
  | [a1] =>
    optT (rowF32 L a1) fun v208 =>
    .call (impl_areFinite_g v208) fun y => .leaf (.bool y, L)
  | _ => .fail
theorem impl_areFinite_Fok : COk Try.prog 135 impl_areFinite_F true := by
  intro F L H args r L' hs ha hr
  unfold impl_areFinite_F at hr
  split at hr
  · rename_i a1
    obtain ⟨v208, hv208, hr⟩ := optT_run hr
    simp only [Tree.run] at hr
    obtain ⟨y, hy, hr⟩ := Option.bind_eq_some_iff.1 hr
    simp only [Tree.run, Option.some.injEq, Prod.mk.injEq] at hr
    obtain ⟨rfl, rfl⟩ := hr
    exact call_ok0 hs (fun k => (([a1.av F] : List AV)[k]?).getD .top) [a1] [.bslc (BR.root 0) (.f32 v208)] (fun F' h0 hi hρ => ⟨by simp [DVs.av, DV.av, BR.av, hρ], impl_areFinite_fn v208 F' (by rw [hi]; rfl) (st_nil hi) ⟨bslc_ok hi (by rw [h0, hρ]; exact rowF32_ok hs (DVs.okAt ha 0 rfl) hv208), trivial⟩ hy⟩) rfl
  · cases hr
/-! impl.ValidMatrix -/
noncomputable def impl_ValidMatrix_LO (v200 : Int) (v201 : Int) (v202 : List Nat) : LOr := fun id e L =>
  match id with
  | _ => .fail
noncomputable def impl_ValidMatrix_tab : List (FuncId × DFn × Bool) := [(146, impl_isSide_F, true), (134, impl_lengthF_F, true), (135, impl_areFinite_F, true)]
theorem impl_ValidMatrix_hO : OrcOk Try.prog (tabD impl_ValidMatrix_tab) (tabM impl_ValidMatrix_tab) := tabD_cons impl_isSide_Fok (tabD_cons impl_lengthF_Fok (tabD_cons impl_areFinite_Fok (tabD_nil _)))
noncomputable def impl_ValidMatrix_T (v200 : Int) (v201 : Int) (v202 : List Nat) : Tree (Bool) :=
  (.br (impl_isSide_v v200) (
   (.br (impl_isSide_v v201) (
    (.br (decide ((impl_lengthF_v v202) = IntKind.i64.wrap (v200 * v201))) (
     (.call (impl_areFinite_g v202) fun v225 =>
     .leaf v225)
    ) (
     .leaf false
    ))
   ) (
    .leaf false
   ))
  ) (
   .leaf false
  ))

noncomputable def impl_ValidMatrix_g (v200 : Int) (v201 : Int) (v202 : List Nat) : Option (Bool) := (impl_ValidMatrix_T v200 v201 v202).run
def impl_ValidMatrix_enc (v200 : Int) (v201 : Int) (v202 : List Nat) (y : Bool) : Rs := (.bool y, [])
theorem impl_ValidMatrix_den (v200 : Int) (v201 : Int) (v202 : List Nat) : (den TT (tabD impl_ValidMatrix_tab) (tabM impl_ValidMatrix_tab) (impl_ValidMatrix_LO v200 v201 v202) (codeOf Try.f98) ([.agg [.int .i64 v200, .int .i64 v201, .bslc (BR.root 0) (.f32 v202)]] ++ List.replicate (Try.f98.ntmps - ([.agg [.int .i64 v200, .int .i64 v201, .bslc (BR.root 0) (.f32 v202)]] : List DV).length) .undef) []).bind (retD TT Try.f98.results.toList 0) = (impl_ValidMatrix_T v200 v201 v202).bind fun y => .leaf (impl_ValidMatrix_enc v200 v201 v202 y) := by kernel_rfl
theorem impl_ValidMatrix_fn (v200 : Int) (v201 : Int) (v202 : List Nat) (F : Fr) (hm : F.ids.length = 0) (h0 : St F [] F.H0) (hA : DVs.Ok F [] [.agg [.int .i64 v200, .int .i64 v201, .bslc (BR.root 0) (.f32 v202)]]) {y : Bool} (hy : impl_ValidMatrix_g v200 v201 v202 = some y) : ∃ H', FnOk Try.prog 98 (DVs.av F [.agg [.int .i64 v200, .int .i64 v201, .bslc (BR.root 0) (.f32 v202)]]) F.H0 ((impl_ValidMatrix_enc v200 v201 v202 y).1.av F) H' ∧ St F (impl_ValidMatrix_enc v200 v201 v202 y).2 H' ∧ (impl_ValidMatrix_enc v200 v201 v202 y).1.Ok F (impl_ValidMatrix_enc v200 v201 v202 y).2 :=
  fn_fin tok impl_ValidMatrix_hO mixed Try.func98 Try.call98 (by kernel_rfl) (LoopsOk_eq (l := []) (by kernel_rfl) trivial) (impl_ValidMatrix_den v200 v201 v202) hy hm h0 hA
noncomputable def impl_ValidMatrix_F : DFn := fun args L =>
  match args with
  | [.agg [.int .i64 v200, .int .i64 v201, a1]] =>
    optT (rowF32 L a1) fun v202 =>
    .call (impl_ValidMatrix_g v200 v201 v202) fun y => .leaf (.bool y, L)
  | _ => .fail
theorem impl_ValidMatrix_Fok : COk Try.prog 98 impl_ValidMatrix_F true := by
  intro F L H args r L' hs ha hr
  unfold impl_ValidMatrix_F at hr
  split at hr
  · rename_i v200 v201 a1
    obtain ⟨v202, hv202, hr⟩ := optT_run hr
    simp only [Tree.run] at hr
    obtain ⟨y, hy, hr⟩ := Option.bind_eq_some_iff.1 hr
    simp only [Tree.run, Option.some.injEq, Prod.mk.injEq] at hr
    obtain ⟨rfl, rfl⟩ := hr
    exact call_ok0 hs (fun k => (([a1.av F] : List AV)[k]?).getD .top) [.agg [.int .i64 v200, .int .i64 v201, a1]] [.agg [.int .i64 v200, .int .i64 v201, .bslc (BR.root 0) (.f32 v202)]] (fun F' h0 hi hρ => ⟨by simp [DVs.av, DV.av, BR.av, hρ], impl_ValidMatrix_fn v200 v201 v202 F' (by rw [hi]; rfl) (st_nil hi) ⟨⟨trivial, trivial, bslc_ok hi (by rw [h0, hρ]; exact rowF32_ok hs (DVs.okAt (DVs.okAt ha 0 rfl) 2 rfl) hv202), trivial⟩, trivial⟩ hy⟩) rfl
  · cases hr
/-! impl.isSquare -/
noncomputable def impl_isSquare_LO (v197 : Int) (v198 : Int) (v199 : List Nat) : LOr := fun id e L =>
  match id with
  | _ => .fail
noncomputable def impl_isSquare_tab : List (FuncId × DFn × Bool) := [(98, impl_ValidMatrix_F, true)]
theorem impl_isSquare_hO : OrcOk Try.prog (tabD impl_isSquare_tab) (tabM impl_isSquare_tab) := tabD_cons impl_ValidMatrix_Fok (tabD_nil _)
noncomputable def impl_isSquare_T (v197 : Int) (v198 : Int) (v199 : List Nat) : Tree (Bool) :=
  (.call (impl_ValidMatrix_g v197 v198 v199) fun v226 =>
  (.br v226 (
   .leaf (decide (v197 = v198))
  ) (
   .leaf false
  )))

noncomputable def impl_isSquare_g (v197 : Int) (v198 : Int) (v199 : List Nat) : Option (Bool) := (impl_isSquare_T v197 v198 v199).run
def impl_isSquare_enc (v197 : Int) (v198 : Int) (v199 : List Nat) (y : Bool) : Rs := (.bool y, [])
theorem impl_isSquare_den (v197 : Int) (v198 : Int) (v199 : List Nat) : (den TT (tabD impl_isSquare_tab) (tabM impl_isSquare_tab) (impl_isSquare_LO v197 v198 v199) (codeOf Try.f89) ([.agg [.int .i64 v197, .int .i64 v198, .bslc (BR.root 0) (.f32 v199)]] ++ List.replicate (Try.f89.ntmps - ([.agg [.int .i64 v197, .int .i64 v198, .bslc (BR.root 0) (.f32 v199)]] : List DV).length) .undef) []).bind (retD TT Try.f89.results.toList 0) = (impl_isSquare_T v197 v198 v199).bind fun y => .leaf (impl_isSquare_enc v197 v198 v199 y) := by kernel_rfl
theorem impl_isSquare_fn (v197 : Int) (v198 : Int) (v199 : List Nat) (F : Fr) (hm : F.ids.length = 0) (h0 : St F [] F.H0) (hA : DVs.Ok F [] [.agg [.int .i64 v197, .int .i64 v198, .bslc (BR.root 0) (.f32 v199)]]) {y : Bool} (hy : impl_isSquare_g v197 v198 v199 = some y) : ∃ H', FnOk Try.prog 89 (DVs.av F [.agg [.int .i64 v197, .int .i64 v198, .bslc (BR.root 0) (.f32 v199)]]) F.H0 ((impl_isSquare_enc v197 v198 v199 y).1.av F) H' ∧ St F (impl_isSquare_enc v197 v198 v199 y).2 H' ∧ (impl_isSquare_enc v197 v198 v199 y).1.Ok F (impl_isSquare_enc v197 v198 v199 y).2 :=
  fn_fin tok impl_isSquare_hO mixed Try.func89 Try.call89 (by kernel_rfl) (LoopsOk_eq (l := []) (by kernel_rfl) trivial) (impl_isSquare_den v197 v198 v199) hy hm h0 hA
noncomputable def impl_isSquare_F : DFn := fun args L =>
  match args with
  | [.agg [.int .i64 v197, .int .i64 v198, a1]] =>
    optT (rowF32 L a1) fun v199 =>
    .call (impl_isSquare_g v197 v198 v199) fun y => .leaf (.bool y, L)
  | _ => .fail
theorem impl_isSquare_Fok : COk Try.prog 89 impl_isSquare_F true := by
  intro F L H args r L' hs ha hr
  unfold impl_isSquare_F at hr
  split at hr
  · rename_i v197 v198 a1
    obtain ⟨v199, hv199, hr⟩ := optT_run hr
    simp only [Tree.run] at hr
    obtain ⟨y, hy, hr⟩ := Option.bind_eq_some_iff.1 hr
    simp only [Tree.run, Option.some.injEq, Prod.mk.injEq] at hr
    obtain ⟨rfl, rfl⟩ := hr
    exact call_ok0 hs (fun k => (([a1.av F] : List AV)[k]?).getD .top) [.agg [.int .i64 v197, .int .i64 v198, a1]] [.agg [.int .i64 v197, .int .i64 v198, .bslc (BR.root 0) (.f32 v199)]] (fun F' h0 hi hρ => ⟨by simp [DVs.av, DV.av, BR.av, hρ], impl_isSquare_fn v197 v198 v199 F' (by rw [hi]; rfl) (st_nil hi) ⟨⟨trivial, trivial, bslc_ok hi (by rw [h0, hρ]; exact rowF32_ok hs (DVs.okAt (DVs.okAt ha 0 rfl) 2 rfl) hv199), trivial⟩, trivial⟩ hy⟩) rfl
  · cases hr
/-! (impl.Matrix).at -/
noncomputable def impl_Matrix_at_LO (v232 : Int) (v233 : Int) (v234 : List Nat) (v235 : Int) (v236 : Int) : LOr := fun id e L =>
  match id with
  | _ => .fail
noncomputable def impl_Matrix_at_tab : List (FuncId × DFn × Bool) := []
theorem impl_Matrix_at_hO : OrcOk Try.prog (tabD impl_Matrix_at_tab) (tabM impl_Matrix_at_tab) := tabD_nil _
noncomputable def impl_Matrix_at_T (v233 : Int) (v234 : List Nat) (v235 : Int) (v236 : Int) : Tree (Nat) :=
  (.grd (inb (IntKind.i64.wrap ((IntKind.i64.wrap (v235 * v233)) + v236)) v234.length) <|
  .leaf (nth v234 (Int.toNat (IntKind.i64.wrap ((IntKind.i64.wrap (v235 * v233)) + v236)))))

noncomputable def impl_Matrix_at_g (v233 : Int) (v234 : List Nat) (v235 : Int) (v236 : Int) : Option (Nat) := (impl_Matrix_at_T v233 v234 v235 v236).run
def impl_Matrix_at_enc (v232 : Int) (v233 : Int) (v234 : List Nat) (v235 : Int) (v236 : Int) (y : Nat) : Rs := (.flt .f32 y, [])
theorem impl_Matrix_at_den (v232 : Int) (v233 : Int) (v234 : List Nat) (v235 : Int) (v236 : Int) : (den TT (tabD impl_Matrix_at_tab) (tabM impl_Matrix_at_tab) (impl_Matrix_at_LO v232 v233 v234 v235 v236) (codeOf Try.f93) ([.agg [.int .i64 v232, .int .i64 v233, .bslc (BR.root 0) (.f32 v234)], .int .i64 v235, .int .i64 v236] ++ List.replicate (Try.f93.ntmps - ([.agg [.int .i64 v232, .int .i64 v233, .bslc (BR.root 0) (.f32 v234)], .int .i64 v235, .int .i64 v236] : List DV).length) .undef) []).bind (retD TT Try.f93.results.toList 0) = (impl_Matrix_at_T v233 v234 v235 v236).bind fun y => .leaf (impl_Matrix_at_enc v232 v233 v234 v235 v236 y) := by kernel_rfl
theorem impl_Matrix_at_fn (v232 : Int) (v233 : Int) (v234 : List Nat) (v235 : Int) (v236 : Int) (F : Fr) (hm : F.ids.length = 0) (h0 : St F [] F.H0) (hA : DVs.Ok F [] [.agg [.int .i64 v232, .int .i64 v233, .bslc (BR.root 0) (.f32 v234)], .int .i64 v235, .int .i64 v236]) {y : Nat} (hy : impl_Matrix_at_g v233 v234 v235 v236 = some y) : ∃ H', FnOk Try.prog 93 (DVs.av F [.agg [.int .i64 v232, .int .i64 v233, .bslc (BR.root 0) (.f32 v234)], .int .i64 v235, .int .i64 v236]) F.H0 ((impl_Matrix_at_enc v232 v233 v234 v235 v236 y).1.av F) H' ∧ St F (impl_Matrix_at_enc v232 v233 v234 v235 v236 y).2 H' ∧ (impl_Matrix_at_enc v232 v233 v234 v235 v236 y).1.Ok F (impl_Matrix_at_enc v232 v233 v234 v235 v236 y).2 :=
  fn_fin tok impl_Matrix_at_hO mixed Try.func93 Try.call93 (by kernel_rfl) (LoopsOk_eq (l := []) (by kernel_rfl) trivial) (impl_Matrix_at_den v232 v233 v234 v235 v236) hy hm h0 hA
noncomputable def impl_Matrix_at_F : DFn := fun args L =>
  match args with
  | [.agg [.int .i64 v232, .int .i64 v233, a1], .int .i64 v235, .int .i64 v236] =>
    optT (rowF32 L a1) fun v234 =>
    .call (impl_Matrix_at_g v233 v234 v235 v236) fun y => .leaf (.flt .f32 y, L)
  | _ => .fail
theorem impl_Matrix_at_Fok : COk Try.prog 93 impl_Matrix_at_F true := by
  intro F L H args r L' hs ha hr
  unfold impl_Matrix_at_F at hr
  split at hr
  · rename_i v232 v233 a1 v235 v236
    obtain ⟨v234, hv234, hr⟩ := optT_run hr
    simp only [Tree.run] at hr
    obtain ⟨y, hy, hr⟩ := Option.bind_eq_some_iff.1 hr
    simp only [Tree.run, Option.some.injEq, Prod.mk.injEq] at hr
    obtain ⟨rfl, rfl⟩ := hr
    exact call_ok0 hs (fun k => (([a1.av F] : List AV)[k]?).getD .top) [.agg [.int .i64 v232, .int .i64 v233, a1], .int .i64 v235, .int .i64 v236] [.agg [.int .i64 v232, .int .i64 v233, .bslc (BR.root 0) (.f32 v234)], .int .i64 v235, .int .i64 v236] (fun F' h0 hi hρ => ⟨by simp [DVs.av, DV.av, BR.av, hρ], impl_Matrix_at_fn v232 v233 v234 v235 v236 F' (by rw [hi]; rfl) (st_nil hi) ⟨⟨trivial, trivial, bslc_ok hi (by rw [h0, hρ]; exact rowF32_ok hs (DVs.okAt (DVs.okAt ha 0 rfl) 2 rfl) hv234), trivial⟩, trivial, trivial, trivial⟩ hy⟩) rfl
  · cases hr
/-! (impl.Matrix).middle -/
noncomputable def impl_Matrix_middle_l0_T (v228 : Int) (v229 : Int) (v230 : List Nat) (s : Int × (List Nat)) : Tree ((Int × (List Nat)) ⊕ ((List Nat))) :=
  (.br (decide (s.1 < imin v228 v229)) (
   (.call (impl_Matrix_at_g v229 v230 s.1 s.1) fun v243 =>
   (.grd (fits (s.2 ++ ([v243] : List Nat)).length) <|
   .leaf (.inl (IntKind.i64.wrap (s.1 + (1 : Int)), s.2 ++ ([v243] : List Nat)))))
  ) (
   .leaf (.inr s.2)
  ))

noncomputable def impl_Matrix_middle_l0_g (v228 : Int) (v229 : Int) (v230 : List Nat) (s0 : Int × (List Nat)) : Option ((List Nat)) := whileM (fun s => (impl_Matrix_middle_l0_T v228 v229 v230 s).run) s0
def impl_Matrix_middle_l0_E (v228 : Int) (v229 : Int) (v230 : List Nat) (s : Int × (List Nat)) : Sd := ([.top, .ptr 0 (0 : Nat) 0 (3 : Nat), .top, .own 1 0 ((s.2).length), .top, .top, .top, .top, .top, .top, .int .i64 (imin v228 v229), .int .i64 s.1, .top, .top, .top, .top, .top, .top, .top, .top, .top, .top, .top], [.gen [.int .i64 v228, .int .i64 v229, .bslc (BR.root 0) (.f32 v230)] false 0, .row (.f32 s.2) 0])
def impl_Matrix_middle_l0_X (v228 : Int) (v229 : Int) (v230 : List Nat) (x : (List Nat)) : Out := (.normal, [.top, .top, .top, .own 0 0 ((x).length), .top, .top, .top, .top, .top, .top, .top, .top, .top, .top, .top, .top, .top, .top, .top, .top, .top, .top, .top], [.row (.f32 x) 0])
def impl_Matrix_middle_l0_kill : List Nat := [1, 0, 1, 0, 1, 1, 1, 1, 1, 1, 0, 0, 1, 1, 1, 1, 1, 1, 1, 1, 1, 1, 1]
def impl_Matrix_middle_l0_nx : Exit → List Nat
  | .exit 0 => [1, 1, 1, 0, 1, 1, 1, 1, 1, 1, 1, 1, 1, 1, 1, 1, 1, 1, 1, 1, 1, 1, 1]
  | .ret => [1, 1, 0, 1, 1, 1, 1, 1, 1, 1, 1, 1, 1, 1, 1, 1, 1, 1, 1, 1, 1, 1, 1]
  | _ => []
noncomputable def impl_Matrix_middle_LO (v228 : Int) (v229 : Int) (v230 : List Nat) : LOr := fun id e L =>
  match id with
  | 0 => .need (normA 0 impl_Matrix_middle_l0_kill e L = some (impl_Matrix_middle_l0_E v228 v229 v230 ((gI (vAt e 11)), (gRF L (vAt e 3))))) (.call (impl_Matrix_middle_l0_g v228 v229 v230 ((gI (vAt e 11)), (gRF L (vAt e 3)))) fun x => .leaf (impl_Matrix_middle_l0_X v228 v229 v230 x))
  | _ => .fail
noncomputable def impl_Matrix_middle_tab : List (FuncId × DFn × Bool) := [(93, impl_Matrix_at_F, true)]
theorem impl_Matrix_middle_hO : OrcOk Try.prog (tabD impl_Matrix_middle_tab) (tabM impl_Matrix_middle_tab) := tabD_cons impl_Matrix_at_Fok (tabD_nil _)
theorem impl_Matrix_middle_l0_be (v228 : Int) (v229 : Int) (v230 : List Nat) (s : Int × (List Nat)) : bodyT TT (tabD impl_Matrix_middle_tab) (tabM impl_Matrix_middle_tab) (impl_Matrix_middle_LO v228 v229 v230) 0 impl_Matrix_middle_l0_kill impl_Matrix_middle_l0_nx (bodyOf Try.f113 0) 0 (impl_Matrix_middle_l0_E v228 v229 v230 s) = (impl_Matrix_middle_l0_T v228 v229 v230 s).bind fun y => .leaf (outS (impl_Matrix_middle_l0_E v228 v229 v230) (impl_Matrix_middle_l0_X v228 v229 v230) y) := by kernel_rfl
theorem impl_Matrix_middle_l0_ok (v228 : Int) (v229 : Int) (v230 : List Nat) : LSound Try.prog 0 (impl_Matrix_middle_LO v228 v229 v230) 0 (bodyOf Try.f113 0) := by
  intro e L out h
  exact lo_ok (E := impl_Matrix_middle_l0_E v228 v229 v230) (gT := impl_Matrix_middle_l0_T v228 v229 v230) (X := impl_Matrix_middle_l0_X v228 v229 v230) (s0 := ((gI (vAt e 11)), (gRF L (vAt e 3)))) tok impl_Matrix_middle_hO mixed (LoopsOk_eq (l := []) (by kernel_rfl) trivial) (impl_Matrix_middle_l0_be v228 v229 v230) rfl (by intro x; rfl) h
noncomputable def impl_Matrix_middle_T (v228 : Int) (v229 : Int) (v230 : List Nat) : Tree ((List Nat)) :=
  (.need (some (impl_Matrix_middle_l0_E v228 v229 v230 ((0 : Int), ([] : List Nat))) = some (impl_Matrix_middle_l0_E v228 v229 v230 ((0 : Int), ([] : List Nat)))) <|
  (.call (impl_Matrix_middle_l0_g v228 v229 v230 ((0 : Int), ([] : List Nat))) fun v244 =>
  .leaf v244))

noncomputable def impl_Matrix_middle_g (v228 : Int) (v229 : Int) (v230 : List Nat) : Option ((List Nat)) := (impl_Matrix_middle_T v228 v229 v230).run
def impl_Matrix_middle_enc (v228 : Int) (v229 : Int) (v230 : List Nat) (y : (List Nat)) : Rs := (.own 0 0 ((y).length), [.row (.f32 y) 0])
theorem impl_Matrix_middle_den (v228 : Int) (v229 : Int) (v230 : List Nat) : (den TT (tabD impl_Matrix_middle_tab) (tabM impl_Matrix_middle_tab) (impl_Matrix_middle_LO v228 v229 v230) (codeOf Try.f113) ([.agg [.int .i64 v228, .int .i64 v229, .bslc (BR.root 0) (.f32 v230)]] ++ List.replicate (Try.f113.ntmps - ([.agg [.int .i64 v228, .int .i64 v229, .bslc (BR.root 0) (.f32 v230)]] : List DV).length) .undef) []).bind (retD TT Try.f113.results.toList 0) = (impl_Matrix_middle_T v228 v229 v230).bind fun y => .leaf (impl_Matrix_middle_enc v228 v229 v230 y) := by kernel_rfl
theorem impl_Matrix_middle_fn (v228 : Int) (v229 : Int) (v230 : List Nat) (F : Fr) (hm : F.ids.length = 0) (h0 : St F [] F.H0) (hA : DVs.Ok F [] [.agg [.int .i64 v228, .int .i64 v229, .bslc (BR.root 0) (.f32 v230)]]) {y : (List Nat)} (hy : impl_Matrix_middle_g v228 v229 v230 = some y) : ∃ H', FnOk Try.prog 113 (DVs.av F [.agg [.int .i64 v228, .int .i64 v229, .bslc (BR.root 0) (.f32 v230)]]) F.H0 ((impl_Matrix_middle_enc v228 v229 v230 y).1.av F) H' ∧ St F (impl_Matrix_middle_enc v228 v229 v230 y).2 H' ∧ (impl_Matrix_middle_enc v228 v229 v230 y).1.Ok F (impl_Matrix_middle_enc v228 v229 v230 y).2 :=
  fn_fin tok impl_Matrix_middle_hO mixed Try.func113 Try.call113 (by kernel_rfl) (LoopsOk_eq (l := [(0, bodyOf Try.f113 0)]) (by kernel_rfl) ⟨impl_Matrix_middle_l0_ok v228 v229 v230, trivial⟩) (impl_Matrix_middle_den v228 v229 v230) hy hm h0 hA
noncomputable def impl_Matrix_middle_F : DFn := fun args L =>
  match args with
  | [.agg [.int .i64 v228, .int .i64 v229, a1]] =>
    optT (rowF32 L a1) fun v230 =>
    .call (impl_Matrix_middle_g v228 v229 v230) fun y => .leaf (.own (L.length + 0) 0 ((y).length), L ++ [.row (.f32 y) 0])
  | _ => .fail
theorem impl_Matrix_middle_Fok : COk Try.prog 113 impl_Matrix_middle_F true := by
  intro F L H args r L' hs ha hr
  unfold impl_Matrix_middle_F at hr
  split at hr
  · rename_i v228 v229 a1
    obtain ⟨v230, hv230, hr⟩ := optT_run hr
    simp only [Tree.run] at hr
    obtain ⟨y, hy, hr⟩ := Option.bind_eq_some_iff.1 hr
    simp only [Tree.run, Option.some.injEq, Prod.mk.injEq] at hr
    obtain ⟨rfl, rfl⟩ := hr
    exact call_ok1 hs (fun k => (([a1.av F] : List AV)[k]?).getD .top) [.agg [.int .i64 v228, .int .i64 v229, a1]] [.agg [.int .i64 v228, .int .i64 v229, .bslc (BR.root 0) (.f32 v230)]] (fun F' h0 hi hρ => ⟨by simp [DVs.av, DV.av, BR.av, hρ], impl_Matrix_middle_fn v228 v229 v230 F' (by rw [hi]; rfl) (st_nil hi) ⟨⟨trivial, trivial, bslc_ok hi (by rw [h0, hρ]; exact rowF32_ok hs (DVs.okAt (DVs.okAt ha 0 rfl) 2 rfl) hv230), trivial⟩, trivial⟩ hy⟩) rfl rfl
  · cases hr
/-! slices.Index[list of float32,float32] -/
noncomputable def slices_IndexF_l0_T (v248 : List Nat) (v249 : Nat) (s : Int) : Tree ((Int) ⊕ ((Int) ⊕ (Unit))) :=
  (.br (decide (s < ((v248.length : Nat) : Int))) (
   (.grd (inb s v248.length) <|
   (.br (feq .f32 v249 (nth v248 (Int.toNat s))) (
    .leaf (.inr (.inl s))
   ) (
    .leaf (.inl (IntKind.i64.wrap (s + (1 : Int))))
   )))
  ) (
   .leaf (.inr (.inr ()))
  ))

noncomputable def slices_IndexF_l0_g (v248 : List Nat) (v249 : Nat) (s0 : Int) : Option ((Int) ⊕ (Unit)) := whileM (fun s => (slices_IndexF_l0_T v248 v249 s).run) s0
def slices_IndexF_l0_E (v248 : List Nat) (v249 : Nat) (s : Int) : Sd := ([.bslc (BR.root 0) (.f32 v248), .flt .f32 v249, .top, .top, .top, .top, .top, .int .i64 ((v248.length : Nat) : Int), .int .i64 s, .top, .top, .top, .top, .top, .top, .top, .top, .top, .top], [])
def slices_IndexF_l0_X (v248 : List Nat) (v249 : Nat) (x : (Int) ⊕ (Unit)) : Out := (match x with | .inl x => (.ret, [.top, .top, .top, .top, .int .i64 x, .top, .top, .top, .top, .top, .top, .top, .top, .top, .top, .top, .top, .top, .top], []) | .inr x => (.normal, [.top, .top, .top, .top, .top, .top, .top, .top, .top, .top, .top, .top, .top, .top, .top, .top, .top, .top, .top], []))
def slices_IndexF_l0_kill : List Nat := [0, 0, 1, 1, 1, 1, 1, 0, 0, 1, 1, 1, 1, 1, 1, 1, 1, 1, 1]
def slices_IndexF_l0_nx : Exit → List Nat
  | .exit 0 => [1, 1, 1, 1, 1, 1, 1, 1, 1, 1, 1, 1, 1, 1, 1, 1, 1, 1, 1]
  | .ret => [1, 1, 1, 1, 0, 1, 1, 1, 1, 1, 1, 1, 1, 1, 1, 1, 1, 1, 1]
  | _ => []
noncomputable def slices_IndexF_LO (v248 : List Nat) (v249 : Nat) : LOr := fun id e L =>
  match id with
  | 0 => .need (normA 0 slices_IndexF_l0_kill e L = some (slices_IndexF_l0_E v248 v249 (gI (vAt e 8)))) (.call (slices_IndexF_l0_g v248 v249 (gI (vAt e 8))) fun x => .sum x (fun b0 => .leaf (slices_IndexF_l0_X v248 v249 (.inl b0))) (fun c0 => .leaf (slices_IndexF_l0_X v248 v249 (.inr c0))))
  | _ => .fail
noncomputable def slices_IndexF_tab : List (FuncId × DFn × Bool) := []
theorem slices_IndexF_hO : OrcOk Try.prog (tabD slices_IndexF_tab) (tabM slices_IndexF_tab) := tabD_nil _
theorem slices_IndexF_l0_be (v248 : List Nat) (v249 : Nat) (s : Int) : bodyT TT (tabD slices_IndexF_tab) (tabM slices_IndexF_tab) (slices_IndexF_LO v248 v249) 0 slices_IndexF_l0_kill slices_IndexF_l0_nx (bodyOf Try.f155 0) 0 (slices_IndexF_l0_E v248 v249 s) = (slices_IndexF_l0_T v248 v249 s).bind fun y => .leaf (outS (slices_IndexF_l0_E v248 v249) (slices_IndexF_l0_X v248 v249) y) := by kernel_rfl
theorem slices_IndexF_l0_ok (v248 : List Nat) (v249 : Nat) : LSound Try.prog 0 (slices_IndexF_LO v248 v249) 0 (bodyOf Try.f155 0) := by
  intro e L out h
  exact lo_ok (E := slices_IndexF_l0_E v248 v249) (gT := slices_IndexF_l0_T v248 v249) (X := slices_IndexF_l0_X v248 v249) (s0 := (gI (vAt e 8))) tok slices_IndexF_hO mixed (LoopsOk_eq (l := []) (by kernel_rfl) trivial) (slices_IndexF_l0_be v248 v249) rfl (by intro x; (cases x with | inl b => rfl | inr x => exact rfl)) h
noncomputable def slices_IndexF_T (v248 : List Nat) (v249 : Nat) : Tree (Int) :=
  (.need (some (slices_IndexF_l0_E v248 v249 (0 : Int)) = some (slices_IndexF_l0_E v248 v249 (0 : Int))) <|
  (.call (slices_IndexF_l0_g v248 v249 (0 : Int)) fun v253 =>
  (.sum v253 (fun v254 =>
   .leaf v254
  ) (fun v255 =>
   .leaf (-1 : Int)
  ))))

noncomputable def slices_IndexF_g (v248 : List Nat) (v249 : Nat) : Option (Int) := (slices_IndexF_T v248 v249).run
def slices_IndexF_enc (v248 : List Nat) (v249 : Nat) (y : Int) : Rs := (.int .i64 y, [])
theorem slices_IndexF_den (v248 : List Nat) (v249 : Nat) : (den TT (tabD slices_IndexF_tab) (tabM slices_IndexF_tab) (slices_IndexF_LO v248 v249) (codeOf Try.f155) ([.bslc (BR.root 0) (.f32 v248), .flt .f32 v249] ++ List.replicate (Try.f155.ntmps - ([.bslc (BR.root 0) (.f32 v248), .flt .f32 v249] : List DV).length) .undef) []).bind (retD TT Try.f155.results.toList 0) = (slices_IndexF_T v248 v249).bind fun y => .leaf (slices_IndexF_enc v248 v249 y) := by kernel_rfl
theorem slices_IndexF_fn (v248 : List Nat) (v249 : Nat) (F : Fr) (hm : F.ids.length = 0) (h0 : St F [] F.H0) (hA : DVs.Ok F [] [.bslc (BR.root 0) (.f32 v248), .flt .f32 v249]) {y : Int} (hy : slices_IndexF_g v248 v249 = some y) : ∃ H', FnOk Try.prog 155 (DVs.av F [.bslc (BR.root 0) (.f32 v248), .flt .f32 v249]) F.H0 ((slices_IndexF_enc v248 v249 y).1.av F) H' ∧ St F (slices_IndexF_enc v248 v249 y).2 H' ∧ (slices_IndexF_enc v248 v249 y).1.Ok F (slices_IndexF_enc v248 v249 y).2 :=
  fn_fin tok slices_IndexF_hO mixed Try.func155 Try.call155 (by kernel_rfl) (LoopsOk_eq (l := [(0, bodyOf Try.f155 0)]) (by kernel_rfl) ⟨slices_IndexF_l0_ok v248 v249, trivial⟩) (slices_IndexF_den v248 v249) hy hm h0 hA
noncomputable def slices_IndexF_F : DFn := fun args L =>
  match args with
  | [a1, .flt .f32 v249] =>
    optT (rowF32 L a1) fun v248 =>
    .call (slices_IndexF_g v248 v249) fun y => .leaf (.int .i64 y, L)
  | _ => .fail
theorem slices_IndexF_Fok : COk Try.prog 155 slices_IndexF_F true := by
  intro F L H args r L' hs ha hr
  unfold slices_IndexF_F at hr
  split at hr
  · rename_i a1 v249
    obtain ⟨v248, hv248, hr⟩ := optT_run hr
    simp only [Tree.run] at hr
    obtain ⟨y, hy, hr⟩ := Option.bind_eq_some_iff.1 hr
    simp only [Tree.run, Option.some.injEq, Prod.mk.injEq] at hr
    obtain ⟨rfl, rfl⟩ := hr
    exact call_ok0 hs (fun k => (([a1.av F] : List AV)[k]?).getD .top) [a1, .flt .f32 v249] [.bslc (BR.root 0) (.f32 v248), .flt .f32 v249] (fun F' h0 hi hρ => ⟨by simp [DVs.av, DV.av, BR.av, hρ], slices_IndexF_fn v248 v249 F' (by rw [hi]; rfl) (st_nil hi) ⟨bslc_ok hi (by rw [h0, hρ]; exact rowF32_ok hs (DVs.okAt ha 0 rfl) hv248), trivial, trivial⟩ hy⟩) rfl
  · cases hr
/-! slices.Contains[list of float32,float32] -/
noncomputable def slices_ContainsF_LO (v246 : List Nat) (v247 : Nat) : LOr := fun id e L =>
  match id with
  | _ => .fail
noncomputable def slices_ContainsF_tab : List (FuncId × DFn × Bool) := [(155, slices_IndexF_F, true)]
theorem slices_ContainsF_hO : OrcOk Try.prog (tabD slices_ContainsF_tab) (tabM slices_ContainsF_tab) := tabD_cons slices_IndexF_Fok (tabD_nil _)
noncomputable def slices_ContainsF_T (v246 : List Nat) (v247 : Nat) : Tree (Bool) :=
  (.call (slices_IndexF_g v246 v247) fun v256 =>
  .leaf (decide ((0 : Int) ≤ v256)))

noncomputable def slices_ContainsF_g (v246 : List Nat) (v247 : Nat) : Option (Bool) := (slices_ContainsF_T v246 v247).run
def slices_ContainsF_enc (v246 : List Nat) (v247 : Nat) (y : Bool) : Rs := (.bool y, [])
theorem slices_ContainsF_den (v246 : List Nat) (v247 : Nat) : (den TT (tabD slices_ContainsF_tab) (tabM slices_ContainsF_tab) (slices_ContainsF_LO v246 v247) (codeOf Try.f112) ([.bslc (BR.root 0) (.f32 v246), .flt .f32 v247] ++ List.replicate (Try.f112.ntmps - ([.bslc (BR.root 0) (.f32 v246), .flt .f32 v247] : List DV).length) .undef) []).bind (retD TT Try.f112.results.toList 0) = (slices_ContainsF_T v246 v247).bind fun y => .leaf (slices_ContainsF_enc v246 v247 y) := by kernel_rfl
theorem slices_ContainsF_fn (v246 : List Nat) (v247 : Nat) (F : Fr) (hm : F.ids.length = 0) (h0 : St F [] F.H0) (hA : DVs.Ok F [] [.bslc (BR.root 0) (.f32 v246), .flt .f32 v247]) {y : Bool} (hy : slices_ContainsF_g v246 v247 = some y) : ∃ H', FnOk Try.prog 112 (DVs.av F [.bslc (BR.root 0) (.f32 v246), .flt .f32 v247]) F.H0 ((slices_ContainsF_enc v246 v247 y).1.av F) H' ∧ St F (slices_ContainsF_enc v246 v247 y).2 H' ∧ (slices_ContainsF_enc v246 v247 y).1.Ok F (slices_ContainsF_enc v246 v247 y).2 :=
  fn_fin tok slices_ContainsF_hO mixed Try.func112 Try.call112 (by kernel_rfl) (LoopsOk_eq (l := []) (by kernel_rfl) trivial) (slices_ContainsF_den v246 v247) hy hm h0 hA
noncomputable def slices_ContainsF_F : DFn := fun args L =>
  match args with
  | [a1, .flt .f32 v247] =>
    optT (rowF32 L a1) fun v246 =>
    .call (slices_ContainsF_g v246 v247) fun y => .leaf (.bool y, L)
  | _ => .fail
theorem slices_ContainsF_Fok : COk Try.prog 112 slices_ContainsF_F true := by
  intro F L H args r L' hs ha hr
  unfold slices_ContainsF_F at hr
  split at hr
  · rename_i a1 v247
    obtain ⟨v246, hv246, hr⟩ := optT_run hr
    simp only [Tree.run] at hr
    obtain ⟨y, hy, hr⟩ := Option.bind_eq_some_iff.1 hr
    simp only [Tree.run, Option.some.injEq, Prod.mk.injEq] at hr
    obtain ⟨rfl, rfl⟩ := hr
    exact call_ok0 hs (fun k => (([a1.av F] : List AV)[k]?).getD .top) [a1, .flt .f32 v247] [.bslc (BR.root 0) (.f32 v246), .flt .f32 v247] (fun F' h0 hi hρ => ⟨by simp [DVs.av, DV.av, BR.av, hρ], slices_ContainsF_fn v246 v247 F' (by rw [hi]; rfl) (st_nil hi) ⟨bslc_ok hi (by rw [h0, hρ]; exact rowF32_ok hs (DVs.okAt ha 0 rfl) hv246), trivial, trivial⟩ hy⟩) rfl
  · cases hr
/-! impl.length[int64] -/
noncomputable def impl_lengthI_LO (v259 : List Int) : LOr := fun id e L =>
  match id with
  | _ => .fail
noncomputable def impl_lengthI_tab : List (FuncId × DFn × Bool) := []
theorem impl_lengthI_hO : OrcOk Try.prog (tabD impl_lengthI_tab) (tabM impl_lengthI_tab) := tabD_nil _
noncomputable def impl_lengthI_T (v259 : List Int) : Tree (Int) :=
  .leaf ((v259.length : Nat) : Int)

noncomputable def impl_lengthI_g (v259 : List Int) : Option (Int) := (impl_lengthI_T v259).run
def impl_lengthI_enc (v259 : List Int) (y : Int) : Rs := (.int .i64 y, [])
theorem impl_lengthI_den (v259 : List Int) : (den TT (tabD impl_lengthI_tab) (tabM impl_lengthI_tab) (impl_lengthI_LO v259) (codeOf Try.f109) ([.bslc (BR.root 0) (.i64 v259)] ++ List.replicate (Try.f109.ntmps - ([.bslc (BR.root 0) (.i64 v259)] : List DV).length) .undef) []).bind (retD TT Try.f109.results.toList 0) = (impl_lengthI_T v259).bind fun y => .leaf (impl_lengthI_enc v259 y) := by kernel_rfl
theorem impl_lengthI_fn (v259 : List Int) (F : Fr) (hm : F.ids.length = 0) (h0 : St F [] F.H0) (hA : DVs.Ok F [] [.bslc (BR.root 0) (.i64 v259)]) {y : Int} (hy : impl_lengthI_g v259 = some y) : ∃ H', FnOk Try.prog 109 (DVs.av F [.bslc (BR.root 0) (.i64 v259)]) F.H0 ((impl_lengthI_enc v259 y).1.av F) H' ∧ St F (impl_lengthI_enc v259 y).2 H' ∧ (impl_lengthI_enc v259 y).1.Ok F (impl_lengthI_enc v259 y).2 :=
  fn_fin tok impl_lengthI_hO mixed Try.func109 Try.call109 (by kernel_rfl) (LoopsOk_eq (l := []) (by kernel_rfl) trivial) (impl_lengthI_den v259) hy hm h0 hA
def impl_lengthI_v (v259 : List Int) : Int :=
  ((v259.length : Nat) : Int)
theorem impl_lengthI_tot (v259 : List Int) : impl_lengthI_g v259 = some (impl_lengthI_v v259) := by
  unfold impl_lengthI_g impl_lengthI_T impl_lengthI_v
  simp only [Tree.run]
  repeat' (first | rfl | split)
noncomputable def impl_lengthI_F : DFn := fun args L =>
  match args with
  | [a1] =>
    optT (rowI64 L a1) fun v259 =>
    .leaf (.int .i64 (impl_lengthI_v v259), L)
  | _ => .fail
theorem impl_lengthI_Fok : COk Try.prog 109 impl_lengthI_F true := by
  intro F L H args r L' hs ha hr
  unfold impl_lengthI_F at hr
  split at hr
  · rename_i a1
    obtain ⟨v259, hv259, hr⟩ := optT_run hr
    have hy := impl_lengthI_tot v259
    generalize impl_lengthI_v v259 = y at hy hr
    simp only [Tree.run, Option.some.injEq, Prod.mk.injEq] at hr
    obtain ⟨rfl, rfl⟩ := hr
    exact call_ok0 hs (fun k => (([a1.av F] : List AV)[k]?).getD .top) [a1] [.bslc (BR.root 0) (.i64 v259)] (fun F' h0 hi hρ => ⟨by simp [DVs.av, DV.av, BR.av, hρ], impl_lengthI_fn v259 F' (by rw [hi]; rfl) (st_nil hi) ⟨bslc_ok hi (by rw [h0, hρ]; exact rowI64_ok hs (DVs.okAt ha 0 rfl) hv259), trivial⟩ hy⟩) rfl
  · cases hr
/-! impl.IsOrder -/
noncomputable def impl_IsOrder_LO (v258 : List Int) : LOr := fun id e L =>
  match id with
  | _ => .fail
noncomputable def impl_IsOrder_tab : List (FuncId × DFn × Bool) := [(109, impl_lengthI_F, true), (146, impl_isSide_F, true), (154, Perm_F, true)]
theorem impl_IsOrder_hO : OrcOk Try.prog (tabD impl_IsOrder_tab) (tabM impl_IsOrder_tab) := tabD_cons impl_lengthI_Fok (tabD_cons impl_isSide_Fok (tabD_cons Perm_Fok (tabD_nil _)))
noncomputable def impl_IsOrder_T (v258 : List Int) : Tree (Bool) :=
  (.br (impl_isSide_v (impl_lengthI_v v258)) (
   (.grd (decide (0 < v258.length) && decide (v258.length ≤ 4096)) <|
   .leaf (PM.permB v258))
  ) (
   .leaf false
  ))

noncomputable def impl_IsOrder_g (v258 : List Int) : Option (Bool) := (impl_IsOrder_T v258).run
def impl_IsOrder_enc (v258 : List Int) (y : Bool) : Rs := (.bool y, [])
theorem impl_IsOrder_den (v258 : List Int) : (den TT (tabD impl_IsOrder_tab) (tabM impl_IsOrder_tab) (impl_IsOrder_LO v258) (codeOf Try.f108) ([.bslc (BR.root 0) (.i64 v258)] ++ List.replicate (Try.f108.ntmps - ([.bslc (BR.root 0) (.i64 v258)] : List DV).length) .undef) []).bind (retD TT Try.f108.results.toList 0) = (impl_IsOrder_T v258).bind fun y => .leaf (impl_IsOrder_enc v258 y) := by kernel_rfl
theorem impl_IsOrder_fn (v258 : List Int) (F : Fr) (hm : F.ids.length = 0) (h0 : St F [] F.H0) (hA : DVs.Ok F [] [.bslc (BR.root 0) (.i64 v258)]) {y : Bool} (hy : impl_IsOrder_g v258 = some y) : ∃ H', FnOk Try.prog 108 (DVs.av F [.bslc (BR.root 0) (.i64 v258)]) F.H0 ((impl_IsOrder_enc v258 y).1.av F) H' ∧ St F (impl_IsOrder_enc v258 y).2 H' ∧ (impl_IsOrder_enc v258 y).1.Ok F (impl_IsOrder_enc v258 y).2 :=
  fn_fin tok impl_IsOrder_hO mixed Try.func108 Try.call108 (by kernel_rfl) (LoopsOk_eq (l := []) (by kernel_rfl) trivial) (impl_IsOrder_den v258) hy hm h0 hA
noncomputable def impl_IsOrder_F : DFn := fun args L =>
  match args with
  | [a1] =>
    optT (rowI64 L a1) fun v258 =>
    .call (impl_IsOrder_g v258) fun y => .leaf (.bool y, L)
  | _ => .fail
theorem impl_IsOrder_Fok : COk Try.prog 108 impl_IsOrder_F true := by
  intro F L H args r L' hs ha hr
  unfold impl_IsOrder_F at hr
  split at hr
  · rename_i a1
    obtain ⟨v258, hv258, hr⟩ := optT_run hr
    simp only [Tree.run] at hr
    obtain ⟨y, hy, hr⟩ := Option.bind_eq_some_iff.1 hr
    simp only [Tree.run, Option.some.injEq, Prod.mk.injEq] at hr
    obtain ⟨rfl, rfl⟩ := hr
    exact call_ok0 hs (fun k => (([a1.av F] : List AV)[k]?).getD .top) [a1] [.bslc (BR.root 0) (.i64 v258)] (fun F' h0 hi hρ => ⟨by simp [DVs.av, DV.av, BR.av, hρ], impl_IsOrder_fn v258 F' (by rw [hi]; rfl) (st_nil hi) ⟨bslc_ok hi (by rw [h0, hρ]; exact rowI64_ok hs (DVs.okAt ha 0 rfl) hv258), trivial⟩ hy⟩) rfl
  · cases hr
/-! impl.ValidFactor -/
noncomputable def impl_ValidFactor_LO (v193 : Int) (v194 : Int) (v195 : List Nat) (v196 : List Int) : LOr := fun id e L =>
  match id with
  | _ => .fail
noncomputable def impl_ValidFactor_tab : List (FuncId × DFn × Bool) := [(89, impl_isSquare_F, true), (113, impl_Matrix_middle_F, true), (112, slices_ContainsF_F, true), (108, impl_IsOrder_F, true), (109, impl_lengthI_F, true)]
theorem impl_ValidFactor_hO : OrcOk Try.prog (tabD impl_ValidFactor_tab) (tabM impl_ValidFactor_tab) := tabD_cons impl_isSquare_Fok (tabD_cons impl_Matrix_middle_Fok (tabD_cons slices_ContainsF_Fok (tabD_cons impl_IsOrder_Fok (tabD_cons impl_lengthI_Fok (tabD_nil _)))))
noncomputable def impl_ValidFactor_T (v193 : Int) (v194 : Int) (v195 : List Nat) (v196 : List Int) : Tree (Bool) :=
  (.call (impl_isSquare_g v193 v194 v195) fun v227 =>
  (.br v227 (
   (.call (impl_Matrix_middle_g v193 v194 v195) fun v245 =>
   (.call (slices_ContainsF_g v245 (0 : Nat)) fun v257 =>
   (.br (!v257) (
    (.call (impl_IsOrder_g v196) fun v260 =>
    (.br v260 (
     .leaf (decide ((impl_lengthI_v v196) = v193))
    ) (
     .leaf false
    )))
   ) (
    .leaf false
   ))))
  ) (
   .leaf false
  )))

noncomputable def impl_ValidFactor_g (v193 : Int) (v194 : Int) (v195 : List Nat) (v196 : List Int) : Option (Bool) := (impl_ValidFactor_T v193 v194 v195 v196).run
def impl_ValidFactor_enc (v193 : Int) (v194 : Int) (v195 : List Nat) (v196 : List Int) (y : Bool) : Rs := (.bool y, [])
theorem impl_ValidFactor_den (v193 : Int) (v194 : Int) (v195 : List Nat) (v196 : List Int) : (den TT (tabD impl_ValidFactor_tab) (tabM impl_ValidFactor_tab) (impl_ValidFactor_LO v193 v194 v195 v196) (codeOf Try.f49) ([.agg [.int .i64 v193, .int .i64 v194, .bslc (BR.root 0) (.f32 v195), .bslc (BR.root 1) (.i64 v196)]] ++ List.replicate (Try.f49.ntmps - ([.agg [.int .i64 v193, .int .i64 v194, .bslc (BR.root 0) (.f32 v195), .bslc (BR.root 1) (.i64 v196)]] : List DV).length) .undef) []).bind (retD TT Try.f49.results.toList 0) = (impl_ValidFactor_T v193 v194 v195 v196).bind fun y => .leaf (impl_ValidFactor_enc v193 v194 v195 v196 y) := by kernel_rfl
theorem impl_ValidFactor_fn (v193 : Int) (v194 : Int) (v195 : List Nat) (v196 : List Int) (F : Fr) (hm : F.ids.length = 0) (h0 : St F [] F.H0) (hA : DVs.Ok F [] [.agg [.int .i64 v193, .int .i64 v194, .bslc (BR.root 0) (.f32 v195), .bslc (BR.root 1) (.i64 v196)]]) {y : Bool} (hy : impl_ValidFactor_g v193 v194 v195 v196 = some y) : ∃ H', FnOk Try.prog 49 (DVs.av F [.agg [.int .i64 v193, .int .i64 v194, .bslc (BR.root 0) (.f32 v195), .bslc (BR.root 1) (.i64 v196)]]) F.H0 ((impl_ValidFactor_enc v193 v194 v195 v196 y).1.av F) H' ∧ St F (impl_ValidFactor_enc v193 v194 v195 v196 y).2 H' ∧ (impl_ValidFactor_enc v193 v194 v195 v196 y).1.Ok F (impl_ValidFactor_enc v193 v194 v195 v196 y).2 :=
  fn_fin tok impl_ValidFactor_hO mixed Try.func49 Try.call49 (by kernel_rfl) (LoopsOk_eq (l := []) (by kernel_rfl) trivial) (impl_ValidFactor_den v193 v194 v195 v196) hy hm h0 hA
noncomputable def impl_ValidFactor_F : DFn := fun args L =>
  match args with
  | [.agg [.int .i64 v193, .int .i64 v194, a1, a2]] =>
    optT (rowF32 L a1) fun v195 =>
    optT (rowI64 L a2) fun v196 =>
    .call (impl_ValidFactor_g v193 v194 v195 v196) fun y => .leaf (.bool y, L)
  | _ => .fail
theorem impl_ValidFactor_Fok : COk Try.prog 49 impl_ValidFactor_F true := by
  intro F L H args r L' hs ha hr
  unfold impl_ValidFactor_F at hr
  split at hr
  · rename_i v193 v194 a1 a2
    obtain ⟨v195, hv195, hr⟩ := optT_run hr
    obtain ⟨v196, hv196, hr⟩ := optT_run hr
    simp only [Tree.run] at hr
    obtain ⟨y, hy, hr⟩ := Option.bind_eq_some_iff.1 hr
    simp only [Tree.run, Option.some.injEq, Prod.mk.injEq] at hr
    obtain ⟨rfl, rfl⟩ := hr
    exact call_ok0 hs (fun k => (([a1.av F, a2.av F] : List AV)[k]?).getD .top) [.agg [.int .i64 v193, .int .i64 v194, a1, a2]] [.agg [.int .i64 v193, .int .i64 v194, .bslc (BR.root 0) (.f32 v195), .bslc (BR.root 1) (.i64 v196)]] (fun F' h0 hi hρ => ⟨by simp [DVs.av, DV.av, BR.av, hρ], impl_ValidFactor_fn v193 v194 v195 v196 F' (by rw [hi]; rfl) (st_nil hi) ⟨⟨trivial, trivial, bslc_ok hi (by rw [h0, hρ]; exact rowF32_ok hs (DVs.okAt (DVs.okAt ha 0 rfl) 2 rfl) hv195), bslc_ok hi (by rw [h0, hρ]; exact rowI64_ok hs (DVs.okAt (DVs.okAt ha 0 rfl) 3 rfl) hv196), trivial⟩, trivial⟩ hy⟩) rfl
  · cases hr
/-! impl.newMatrix -/
noncomputable def impl_newMatrix_LO (v268 : Int) (v269 : Int) : LOr := fun id e L =>
  match id with
  | _ => .fail
noncomputable def impl_newMatrix_tab : List (FuncId × DFn × Bool) := []
theorem impl_newMatrix_hO : OrcOk Try.prog (tabD impl_newMatrix_tab) (tabM impl_newMatrix_tab) := tabD_nil _
noncomputable def impl_newMatrix_T (v268 : Int) (v269 : Int) : Tree (Int × Int) :=
  (.need (IntKind.i64.wrap (v268 * v269) = IntKind.i64.wrap (v268 * v269)) <|
  (.grd (inb (IntKind.i64.wrap (v268 * v269)) (maxN + 1)) <|
  .leaf (v268, v269)))

noncomputable def impl_newMatrix_g (v268 : Int) (v269 : Int) : Option (Int × Int) := (impl_newMatrix_T v268 v269).run
def impl_newMatrix_enc (v268 : Int) (v269 : Int) (y : Int × Int) : Rs := (.agg [.int .i64 y.1, .int .i64 y.2, .own 0 0 ((List.replicate (Int.toNat (IntKind.i64.wrap (v268 * v269))) (0 : Nat)).length)], [.row (.f32 (List.replicate (Int.toNat (IntKind.i64.wrap (v268 * v269))) (0 : Nat))) 0])
theorem impl_newMatrix_den (v268 : Int) (v269 : Int) : (den TT (tabD impl_newMatrix_tab) (tabM impl_newMatrix_tab) (impl_newMatrix_LO v268 v269) (codeOf Try.f125) ([.int .i64 v268, .int .i64 v269] ++ List.replicate (Try.f125.ntmps - ([.int .i64 v268, .int .i64 v269] : List DV).length) .undef) []).bind (retD TT Try.f125.results.toList 0) = (impl_newMatrix_T v268 v269).bind fun y => .leaf (impl_newMatrix_enc v268 v269 y) := by kernel_rfl
theorem impl_newMatrix_fn (v268 : Int) (v269 : Int) (F : Fr) (hm : F.ids.length = 0) (h0 : St F [] F.H0) (hA : DVs.Ok F [] [.int .i64 v268, .int .i64 v269]) {y : Int × Int} (hy : impl_newMatrix_g v268 v269 = some y) : ∃ H', FnOk Try.prog 125 (DVs.av F [.int .i64 v268, .int .i64 v269]) F.H0 ((impl_newMatrix_enc v268 v269 y).1.av F) H' ∧ St F (impl_newMatrix_enc v268 v269 y).2 H' ∧ (impl_newMatrix_enc v268 v269 y).1.Ok F (impl_newMatrix_enc v268 v269 y).2 :=
  fn_fin tok impl_newMatrix_hO mixed Try.func125 Try.call125 (by kernel_rfl) (LoopsOk_eq (l := []) (by kernel_rfl) trivial) (impl_newMatrix_den v268 v269) hy hm h0 hA
noncomputable def impl_newMatrix_F : DFn := fun args L =>
  match args with
  | [.int .i64 v268, .int .i64 v269] =>
    .call (impl_newMatrix_g v268 v269) fun y => .leaf (.agg [.int .i64 y.1, .int .i64 y.2, .own (L.length + 0) 0 ((List.replicate (Int.toNat (IntKind.i64.wrap (v268 * v269))) (0 : Nat)).length)], L ++ [.row (.f32 (List.replicate (Int.toNat (IntKind.i64.wrap (v268 * v269))) (0 : Nat))) 0])
  | _ => .fail
theorem impl_newMatrix_Fok : COk Try.prog 125 impl_newMatrix_F true := by
  intro F L H args r L' hs ha hr
  unfold impl_newMatrix_F at hr
  split at hr
  · rename_i v268 v269
    simp only [Tree.run] at hr
    obtain ⟨y, hy, hr⟩ := Option.bind_eq_some_iff.1 hr
    simp only [Tree.run, Option.some.injEq, Prod.mk.injEq] at hr
    obtain ⟨rfl, rfl⟩ := hr
    exact call_ok1 hs (fun k => (([] : List AV)[k]?).getD .top) [.int .i64 v268, .int .i64 v269] [.int .i64 v268, .int .i64 v269] (fun F' h0 hi hρ => ⟨by simp [DVs.av, DV.av, BR.av, hρ], impl_newMatrix_fn v268 v269 F' (by rw [hi]; rfl) (st_nil hi) ⟨trivial, trivial, trivial⟩ hy⟩) rfl rfl
  · cases hr
/-! impl.LowerOf$1 -/
noncomputable def impl_LowerOf_1_LO (v278 : Int) (v279 : Int) (v280 : Int) (v281 : Int) (v282 : List Nat) (v283 : List Int) : LOr := fun id e L =>
  match id with
  | _ => .fail
noncomputable def impl_LowerOf_1_tab : List (FuncId × DFn × Bool) := [(93, impl_Matrix_at_F, true)]
theorem impl_LowerOf_1_hO : OrcOk Try.prog (tabD impl_LowerOf_1_tab) (tabM impl_LowerOf_1_tab) := tabD_cons impl_Matrix_at_Fok (tabD_nil _)
noncomputable def impl_LowerOf_1_T (v278 : Int) (v279 : Int) (v281 : Int) (v282 : List Nat) : Tree (Nat) :=
  (.br (decide (v278 = v279)) (
   .leaf (1065353216 : Nat)
  ) (
   (.br (decide (v278 < v279)) (
    .leaf (0 : Nat)
   ) (
    (.call (impl_Matrix_at_g v281 v282 v278 v279) fun v284 =>
    .leaf v284)
   ))
  ))

noncomputable def impl_LowerOf_1_g (v278 : Int) (v279 : Int) (v281 : Int) (v282 : List Nat) : Option (Nat) := (impl_LowerOf_1_T v278 v279 v281 v282).run
def impl_LowerOf_1_enc (v278 : Int) (v279 : Int) (v280 : Int) (v281 : Int) (v282 : List Nat) (v283 : List Int) (y : Nat) : Rs := (.flt .f32 y, [])
theorem impl_LowerOf_1_den (v278 : Int) (v279 : Int) (v280 : Int) (v281 : Int) (v282 : List Nat) (v283 : List Int) : (den TT (tabD impl_LowerOf_1_tab) (tabM impl_LowerOf_1_tab) (impl_LowerOf_1_LO v278 v279 v280 v281 v282 v283) (codeOf Try.f123) ([.int .i64 v278, .int .i64 v279, .bptr (BR.root 0) [.int .i64 v280, .int .i64 v281, .bslc (BR.root 1) (.f32 v282), .bslc (BR.root 2) (.i64 v283)]] ++ List.replicate (Try.f123.ntmps - ([.int .i64 v278, .int .i64 v279, .bptr (BR.root 0) [.int .i64 v280, .int .i64 v281, .bslc (BR.root 1) (.f32 v282), .bslc (BR.root 2) (.i64 v283)]] : List DV).length) .undef) []).bind (retD TT Try.f123.results.toList 0) = (impl_LowerOf_1_T v278 v279 v281 v282).bind fun y => .leaf (impl_LowerOf_1_enc v278 v279 v280 v281 v282 v283 y) := by kernel_rfl
theorem impl_LowerOf_1_fn (v278 : Int) (v279 : Int) (v280 : Int) (v281 : Int) (v282 : List Nat) (v283 : List Int) (F : Fr) (hm : F.ids.length = 0) (h0 : St F [] F.H0) (hA : DVs.Ok F [] [.int .i64 v278, .int .i64 v279, .bptr (BR.root 0) [.int .i64 v280, .int .i64 v281, .bslc (BR.root 1) (.f32 v282), .bslc (BR.root 2) (.i64 v283)]]) {y : Nat} (hy : impl_LowerOf_1_g v278 v279 v281 v282 = some y) : ∃ H', FnOk Try.prog 123 (DVs.av F [.int .i64 v278, .int .i64 v279, .bptr (BR.root 0) [.int .i64 v280, .int .i64 v281, .bslc (BR.root 1) (.f32 v282), .bslc (BR.root 2) (.i64 v283)]]) F.H0 ((impl_LowerOf_1_enc v278 v279 v280 v281 v282 v283 y).1.av F) H' ∧ St F (impl_LowerOf_1_enc v278 v279 v280 v281 v282 v283 y).2 H' ∧ (impl_LowerOf_1_enc v278 v279 v280 v281 v282 v283 y).1.Ok F (impl_LowerOf_1_enc v278 v279 v280 v281 v282 v283 y).2 :=
  fn_fin tok impl_LowerOf_1_hO mixed Try.func123 Try.call123 (by kernel_rfl) (LoopsOk_eq (l := []) (by kernel_rfl) trivial) (impl_LowerOf_1_den v278 v279 v280 v281 v282 v283) hy hm h0 hA
noncomputable def impl_LowerOf_1_F : DFn := fun args L =>
  match args with
  | [.int .i64 v278, .int .i64 v279, a1] =>
    optT (cellsOf L 4 a1) fun cs0 =>
    (match cs0 with
    | [.int .i64 v280, .int .i64 v281, a2, a3] =>
    optT (rowF32 L a2) fun v282 =>
    optT (rowI64 L a3) fun v283 =>
    .call (impl_LowerOf_1_g v278 v279 v281 v282) fun y => .leaf (.flt .f32 y, L)
    | _ => .fail)
  | _ => .fail
theorem impl_LowerOf_1_Fok : COk Try.prog 123 impl_LowerOf_1_F true := by
  intro F L H args r L' hs ha hr
  unfold impl_LowerOf_1_F at hr
  split at hr
  · rename_i v278 v279 a1
    obtain ⟨cs0, hcp0, hr⟩ := optT_run hr
    split at hr
    · rename_i v280 v281 a2 a3
      obtain ⟨v282, hv282, hr⟩ := optT_run hr
      obtain ⟨v283, hv283, hr⟩ := optT_run hr
      simp only [Tree.run] at hr
      obtain ⟨y, hy, hr⟩ := Option.bind_eq_some_iff.1 hr
      simp only [Tree.run, Option.some.injEq, Prod.mk.injEq] at hr
      obtain ⟨rfl, rfl⟩ := hr
      exact call_ok0 hs (fun k => (([a1.av F, a2.av F, a3.av F] : List AV)[k]?).getD .top) [.int .i64 v278, .int .i64 v279, a1] [.int .i64 v278, .int .i64 v279, .bptr (BR.root 0) [.int .i64 v280, .int .i64 v281, .bslc (BR.root 1) (.f32 v282), .bslc (BR.root 2) (.i64 v283)]] (fun F' h0 hi hρ => ⟨by simp [DVs.av, DV.av, BR.av, hρ], impl_LowerOf_1_fn v278 v279 v280 v281 v282 v283 F' (by rw [hi]; rfl) (st_nil hi) ⟨trivial, trivial, bptr_ok hi (by rw [h0]; simpa [DVs.av, DV.av, BR.av, hρ] using (cellsOf_ok hs (DVs.okAt ha 2 rfl) hcp0).1) ⟨trivial, trivial, bslc_ok hi (by rw [h0, hρ]; exact rowF32_ok hs (DVs.okAt (cellsOf_ok hs (DVs.okAt ha 2 rfl) hcp0).2 2 rfl) hv282), bslc_ok hi (by rw [h0, hρ]; exact rowI64_ok hs (DVs.okAt (cellsOf_ok hs (DVs.okAt ha 2 rfl) hcp0).2 3 rfl) hv283), trivial⟩, trivial⟩ hy⟩) rfl
    · cases hr
  · cases hr
/-! (impl.Matrix).set -/
noncomputable def impl_Matrix_set_LO (v292 : Int) (v293 : Int) (v294 : List Nat) (v295 : Int) (v296 : Int) (v297 : Nat) : LOr := fun id e L =>
  match id with
  | _ => .fail
noncomputable def impl_Matrix_set_tab : List (FuncId × DFn × Bool) := []
theorem impl_Matrix_set_hO : OrcOk Try.prog (tabD impl_Matrix_set_tab) (tabM impl_Matrix_set_tab) := tabD_nil _
noncomputable def impl_Matrix_set_T (v293 : Int) (v294 : List Nat) (v295 : Int) (v296 : Int) : Tree (Unit) :=
  (.grd (inb (IntKind.i64.wrap ((IntKind.i64.wrap (v295 * v293)) + v296)) v294.length) <|
  .leaf ())

noncomputable def impl_Matrix_set_g (v293 : Int) (v294 : List Nat) (v295 : Int) (v296 : Int) : Option (Unit) := (impl_Matrix_set_T v293 v294 v295 v296).run
def impl_Matrix_set_enc (v292 : Int) (v293 : Int) (v294 : List Nat) (v295 : Int) (v296 : Int) (v297 : Nat) (y : Unit) : Rs := (.tup [], [.row (.f32 (List.set v294 (Int.toNat (IntKind.i64.wrap ((IntKind.i64.wrap (v295 * v293)) + v296))) v297)) 0])
theorem impl_Matrix_set_den (v292 : Int) (v293 : Int) (v294 : List Nat) (v295 : Int) (v296 : Int) (v297 : Nat) : (den TT (tabD impl_Matrix_set_tab) (tabM impl_Matrix_set_tab) (impl_Matrix_set_LO v292 v293 v294 v295 v296 v297) (codeOf Try.f142) ([.agg [.int .i64 v292, .int .i64 v293, .own 0 0 v294.length], .int .i64 v295, .int .i64 v296, .flt .f32 v297] ++ List.replicate (Try.f142.ntmps - ([.agg [.int .i64 v292, .int .i64 v293, .own 0 0 v294.length], .int .i64 v295, .int .i64 v296, .flt .f32 v297] : List DV).length) .undef) [.row (.f32 v294) 0]).bind (retD TT Try.f142.results.toList 1) = (impl_Matrix_set_T v293 v294 v295 v296).bind fun y => .leaf (impl_Matrix_set_enc v292 v293 v294 v295 v296 v297 y) := by kernel_rfl
theorem impl_Matrix_set_fn (v292 : Int) (v293 : Int) (v294 : List Nat) (v295 : Int) (v296 : Int) (v297 : Nat) (F : Fr) (hm : F.ids.length = 1) (h0 : St F [.row (.f32 v294) 0] F.H0) (hA : DVs.Ok F [.row (.f32 v294) 0] [.agg [.int .i64 v292, .int .i64 v293, .own 0 0 v294.length], .int .i64 v295, .int .i64 v296, .flt .f32 v297]) {y : Unit} (hy : impl_Matrix_set_g v293 v294 v295 v296 = some y) : ∃ H', FnOk Try.prog 142 (DVs.av F [.agg [.int .i64 v292, .int .i64 v293, .own 0 0 v294.length], .int .i64 v295, .int .i64 v296, .flt .f32 v297]) F.H0 ((impl_Matrix_set_enc v292 v293 v294 v295 v296 v297 y).1.av F) H' ∧ St F (impl_Matrix_set_enc v292 v293 v294 v295 v296 v297 y).2 H' ∧ (impl_Matrix_set_enc v292 v293 v294 v295 v296 v297 y).1.Ok F (impl_Matrix_set_enc v292 v293 v294 v295 v296 v297 y).2 :=
  fn_fin tok impl_Matrix_set_hO mixed Try.func142 Try.call142 (by kernel_rfl) (LoopsOk_eq (l := []) (by kernel_rfl) trivial) (impl_Matrix_set_den v292 v293 v294 v295 v296 v297) hy hm h0 hA
noncomputable def impl_Matrix_set_F : DFn := fun args L =>
  match args with
  | [.agg [.int .i64 v292, .int .i64 v293, a1], .int .i64 v295, .int .i64 v296, .flt .f32 v297] =>
    optT (ownF32 L a1) fun qv294 =>
    (match sepB [qv294.1] [] with
    | true =>
    .call (impl_Matrix_set_g v293 qv294.2 v295 v296) fun y => .grd (decide ((List.set qv294.2 (Int.toNat (IntKind.i64.wrap ((IntKind.i64.wrap (v295 * v293)) + v296))) v297).length = qv294.2.length)) (.leaf (.tup [], setRows L ([qv294.1].zip [.f32 (List.set qv294.2 (Int.toNat (IntKind.i64.wrap ((IntKind.i64.wrap (v295 * v293)) + v296))) v297)])))
    | false => .fail)
  | _ => .fail
theorem impl_Matrix_set_Fok : COk Try.prog 142 impl_Matrix_set_F false := by
  intro F L H args r L' hs ha hr
  unfold impl_Matrix_set_F at hr
  split at hr
  · rename_i v292 v293 a1 v295 v296 v297
    obtain ⟨⟨jv294, v294⟩, hqv294, hr⟩ := optT_run hr
    simp only at hr
    split at hr
    · rename_i hsep
      obtain ⟨hnd, hsepv⟩ := sepB_spec hsep
      simp only [Tree.run] at hr
      obtain ⟨y, hy, hr⟩ := Option.bind_eq_some_iff.1 hr
      try simp only [Tree.run] at hr
      obtain ⟨hl0, hr⟩ := ite_run hr
      simp only [Option.some.injEq, Prod.mk.injEq] at hr
      obtain ⟨rfl, rfl⟩ := hr
      obtain ⟨hr0, hu0, ha0, hb0⟩ := (ownR_spec (DVs.okAt (DVs.okAt ha 0 rfl) 2 rfl) (ownF32_or hqv294))
      exact mut_ok hs (fun k => (([a1.av F] : List AV)[k]?).getD .top) [.agg [.int .i64 v292, .int .i64 v293, a1], .int .i64 v295, .int .i64 v296, .flt .f32 v297] [.agg [.int .i64 v292, .int .i64 v293, .own 0 0 v294.length], .int .i64 v295, .int .i64 v296, .flt .f32 v297] [jv294] [.f32 v294] [.f32 (List.set v294 (Int.toNat (IntKind.i64.wrap ((IntKind.i64.wrap (v295 * v293)) + v296))) v297)] hnd rfl rfl (fun i j q h1 h2 => by
          rcases i with _ | i
          · simp at h1 h2; subst h1; subst h2; exact hr0
          · simp at h1) (fun i q q' h1 h2 => by
          rcases i with _ | i
          · simp at h1 h2; subst h1; subst h2; exact of_decide_eq_true hl0
          · simp at h1) (fun j hj => by simp at hj; subst hj; simp [DVs.refs, DV.refs, hu0]) (fun F' h0 hi hρ hst hS => ⟨by (have ab0 : F'.abs 0 = F.abs jv294 := (by simp [Fr.abs, hi]); simp [DVs.av, DV.av, BR.av, hρ, Row.len, ha0, ab0]), by
          obtain ⟨H1, k1, k2, _⟩ := impl_Matrix_set_fn v292 v293 v294 v295 v296 v297 F' (by rw [hi]; rfl) hst ⟨⟨trivial, trivial, ⟨_, rfl, Nat.le_refl _, Nat.le_refl _, fun _ => rfl, (ownR_spec (DVs.okAt (DVs.okAt ha 0 rfl) 2 rfl) (ownF32_or hqv294)).2.2.2⟩, trivial⟩, trivial, trivial, trivial, trivial⟩ hy
          exact ⟨H1, k1, k2⟩⟩) (fun F' => rfl) (fun L' => trivial)
    · cases hr
  · cases hr
/-! impl.made -/
noncomputable def impl_made_l2_T (v263 : Int) (v265 : Int) (v266 : List Nat) (v358 : Int) (v360 : Int) (v361 : Int) (s : Int × (List Nat)) : Tree ((Int × (List Nat)) ⊕ ((List Nat))) :=
  (.br (decide (s.1 < v263)) (
   (.call (impl_LowerOf_1_g v358 s.1 v265 v266) fun v363 =>
   (.call (impl_Matrix_set_g v361 s.2 v358 s.1) fun v364 =>
   (.grd (decide ((List.set s.2 (Int.toNat (IntKind.i64.wrap ((IntKind.i64.wrap (v358 * v361)) + s.1))) v363).length = s.2.length)) <|
   .leaf (.inl (IntKind.i64.wrap (s.1 + (1 : Int)), List.set s.2 (Int.toNat (IntKind.i64.wrap ((IntKind.i64.wrap (v358 * v361)) + s.1))) v363)))))
  ) (
   .leaf (.inr s.2)
  ))

noncomputable def impl_made_l2_g (v263 : Int) (v265 : Int) (v266 : List Nat) (v358 : Int) (v360 : Int) (v361 : Int) (s0 : Int × (List Nat)) : Option ((List Nat)) := whileM (fun s => (impl_made_l2_T v263 v265 v266 v358 v360 v361 s).run) s0
def impl_made_l2_E (v262 : Int) (v263 : Int) (v264 : Int) (v265 : Int) (v266 : List Nat) (v267 : List Int) (v358 : Int) (v360 : Int) (v361 : Int) (s : Int × (List Nat)) : Sd := ([.top, .int .i64 v263, .fn 123 [.bptr (BR.root 0) [.int .i64 v264, .int .i64 v265, .bslc (BR.root 1) (.f32 v266), .bslc (BR.root 2) (.i64 v267)]], .top, .top, .top, .ptr 0 (0 : Nat) 0 (3 : Nat), .ptr 1 (0 : Nat) 0 (3 : Nat), .int .i64 v358, .top, .top, .top, .top, .int .i64 v262, .int .i64 v358, .top, .top, .int .i64 v263, .int .i64 s.1, .top, .top, .top, .top, .top, .top, .top, .top, .top, .top, .top, .top, .top], [.gen [.int .i64 (0 : Int), .int .i64 (0 : Int), .nilslc] false 0, .gen [.int .i64 v360, .int .i64 v361, .own 2 0 ((s.2).length)] false 0, .row (.f32 s.2) 0])
def impl_made_l2_X (v262 : Int) (v263 : Int) (v264 : Int) (v265 : Int) (v266 : List Nat) (v267 : List Int) (v358 : Int) (v360 : Int) (v361 : Int) (x : (List Nat)) : Out := (.normal, [.top, .int .i64 v263, .fn 123 [.bptr (BR.root 0) [.int .i64 v264, .int .i64 v265, .bslc (BR.root 1) (.f32 v266), .bslc (BR.root 2) (.i64 v267)]], .top, .top, .top, .ptr 0 (0 : Nat) 0 (3 : Nat), .ptr 1 (0 : Nat) 0 (3 : Nat), .top, .top, .top, .top, .top, .int .i64 v262, .int .i64 v358, .top, .top, .top, .top, .top, .top, .top, .top, .top, .top, .top, .top, .top, .top, .top, .top, .top], [.gen [.int .i64 (0 : Int), .int .i64 (0 : Int), .nilslc] false 0, .gen [.int .i64 v360, .int .i64 v361, .own 2 0 ((x).length)] false 0, .row (.f32 x) 0])
def impl_made_l2_kill : List Nat := [1, 0, 0, 1, 1, 1, 0, 0, 0, 1, 1, 1, 1, 0, 0, 1, 1, 0, 0, 1, 1, 1, 1, 1, 1, 1, 1, 1, 1, 1, 1, 1]
def impl_made_l2_nx : Exit → List Nat
  | .exit 0 => [1, 1, 1, 1, 1, 1, 0, 0, 1, 1, 1, 1, 1, 1, 1, 1, 1, 1, 1, 1, 1, 1, 1, 1, 1, 1, 1, 1, 1, 1, 1, 1]
  | .exit 1 => [1, 0, 0, 1, 1, 1, 0, 0, 1, 1, 1, 1, 1, 0, 0, 1, 1, 1, 1, 1, 1, 1, 1, 1, 1, 1, 1, 1, 1, 1, 1, 1]
  | .exit 2 => [1, 0, 0, 1, 1, 1, 0, 0, 1, 1, 1, 1, 1, 0, 0, 1, 1, 1, 1, 1, 1, 1, 1, 1, 1, 1, 1, 1, 1, 1, 1, 1]
  | .ret => [1, 1, 1, 1, 1, 1, 0, 1, 1, 1, 1, 1, 1, 1, 1, 1, 1, 1, 1, 1, 1, 1, 1, 1, 1, 1, 1, 1, 1, 1, 1, 1]
  | _ => []
noncomputable def impl_made_l0_T (v262 : Int) (v263 : Int) (v264 : Int) (v265 : Int) (v266 : List Nat) (v267 : List Int) (v341 : Int) (v342 : Int) (s : Int × (List Nat)) : Tree ((Int × (List Nat)) ⊕ ((List Nat))) :=
  (.br (decide (s.1 < v262)) (
   (.need (some (impl_made_l2_E v262 v263 v264 v265 v266 v267 s.1 v341 v342 ((0 : Int), s.2)) = some (impl_made_l2_E v262 v263 v264 v265 v266 v267 s.1 v341 v342 ((0 : Int), s.2))) <|
   (.call (impl_made_l2_g v263 v265 v266 s.1 v341 v342 ((0 : Int), s.2)) fun v365 =>
   .leaf (.inl (IntKind.i64.wrap (s.1 + (1 : Int)), v365))))
  ) (
   .leaf (.inr s.2)
  ))

noncomputable def impl_made_l0_g (v262 : Int) (v263 : Int) (v264 : Int) (v265 : Int) (v266 : List Nat) (v267 : List Int) (v341 : Int) (v342 : Int) (s0 : Int × (List Nat)) : Option ((List Nat)) := whileM (fun s => (impl_made_l0_T v262 v263 v264 v265 v266 v267 v341 v342 s).run) s0
def impl_made_l0_E (v262 : Int) (v263 : Int) (v264 : Int) (v265 : Int) (v266 : List Nat) (v267 : List Int) (v341 : Int) (v342 : Int) (s : Int × (List Nat)) : Sd := ([.top, .int .i64 v263, .fn 123 [.bptr (BR.root 0) [.int .i64 v264, .int .i64 v265, .bslc (BR.root 1) (.f32 v266), .bslc (BR.root 2) (.i64 v267)]], .top, .top, .top, .ptr 0 (0 : Nat) 0 (3 : Nat), .ptr 1 (0 : Nat) 0 (3 : Nat), .top, .top, .top, .top, .top, .int .i64 v262, .int .i64 s.1, .top, .top, .top, .top, .top, .top, .top, .top, .top, .top, .top, .top, .top, .top, .top, .top, .top], [.gen [.int .i64 (0 : Int), .int .i64 (0 : Int), .nilslc] false 0, .gen [.int .i64 v341, .int .i64 v342, .own 2 0 ((s.2).length)] false 0, .row (.f32 s.2) 0])
def impl_made_l0_X (v262 : Int) (v263 : Int) (v264 : Int) (v265 : Int) (v266 : List Nat) (v267 : List Int) (v341 : Int) (v342 : Int) (x : (List Nat)) : Out := (.normal, [.top, .top, .top, .top, .top, .top, .ptr 0 (0 : Nat) 0 (3 : Nat), .ptr 1 (0 : Nat) 0 (3 : Nat), .top, .top, .top, .top, .top, .top, .top, .top, .top, .top, .top, .top, .top, .top, .top, .top, .top, .top, .top, .top, .top, .top, .top, .top], [.gen [.int .i64 (0 : Int), .int .i64 (0 : Int), .nilslc] false 0, .gen [.int .i64 v341, .int .i64 v342, .own 2 0 ((x).length)] false 0, .row (.f32 x) 0])
def impl_made_l0_kill : List Nat := [1, 0, 0, 1, 1, 1, 0, 0, 1, 1, 1, 1, 1, 0, 0, 1, 1, 1, 1, 1, 1, 1, 1, 1, 1, 1, 1, 1, 1, 1, 1, 1]
def impl_made_l0_nx : Exit → List Nat
  | .exit 0 => [1, 1, 1, 1, 1, 1, 0, 0, 1, 1, 1, 1, 1, 1, 1, 1, 1, 1, 1, 1, 1, 1, 1, 1, 1, 1, 1, 1, 1, 1, 1, 1]
  | .ret => [1, 1, 1, 1, 1, 1, 0, 1, 1, 1, 1, 1, 1, 1, 1, 1, 1, 1, 1, 1, 1, 1, 1, 1, 1, 1, 1, 1, 1, 1, 1, 1]
  | _ => []
noncomputable def impl_made_LO (v262 : Int) (v263 : Int) (v264 : Int) (v265 : Int) (v266 : List Nat) (v267 : List Int) : LOr := fun id e L =>
  match id with
  | 2 => .need (normA 0 impl_made_l2_kill e L = some (impl_made_l2_E v262 v263 v264 v265 v266 v267 (gI (vAt e 8)) (gI (cAt L (vAt e 7) 0)) (gI (cAt L (vAt e 7) 1)) ((gI (vAt e 18)), (gRF L (cAt L (vAt e 7) 2))))) (.call (impl_made_l2_g v263 v265 v266 (gI (vAt e 8)) (gI (cAt L (vAt e 7) 0)) (gI (cAt L (vAt e 7) 1)) ((gI (vAt e 18)), (gRF L (cAt L (vAt e 7) 2)))) fun x => .leaf (impl_made_l2_X v262 v263 v264 v265 v266 v267 (gI (vAt e 8)) (gI (cAt L (vAt e 7) 0)) (gI (cAt L (vAt e 7) 1)) x))
  | 0 => .need (normA 0 impl_made_l0_kill e L = some (impl_made_l0_E v262 v263 v264 v265 v266 v267 (gI (cAt L (vAt e 7) 0)) (gI (cAt L (vAt e 7) 1)) ((gI (vAt e 14)), (gRF L (cAt L (vAt e 7) 2))))) (.call (impl_made_l0_g v262 v263 v264 v265 v266 v267 (gI (cAt L (vAt e 7) 0)) (gI (cAt L (vAt e 7) 1)) ((gI (vAt e 14)), (gRF L (cAt L (vAt e 7) 2)))) fun x => .leaf (impl_made_l0_X v262 v263 v264 v265 v266 v267 (gI (cAt L (vAt e 7) 0)) (gI (cAt L (vAt e 7) 1)) x))
  | _ => .fail
noncomputable def impl_made_tab : List (FuncId × DFn × Bool) := [(125, impl_newMatrix_F, true), (123, impl_LowerOf_1_F, true), (142, impl_Matrix_set_F, false)]
theorem impl_made_hO : OrcOk Try.prog (tabD impl_made_tab) (tabM impl_made_tab) := tabD_cons impl_newMatrix_Fok (tabD_cons impl_LowerOf_1_Fok (tabD_cons impl_Matrix_set_Fok (tabD_nil _)))
theorem impl_made_l2_be (v262 : Int) (v263 : Int) (v264 : Int) (v265 : Int) (v266 : List Nat) (v267 : List Int) (v358 : Int) (v360 : Int) (v361 : Int) (s : Int × (List Nat)) : bodyT TT (tabD impl_made_tab) (tabM impl_made_tab) (impl_made_LO v262 v263 v264 v265 v266 v267) 0 impl_made_l2_kill impl_made_l2_nx (bodyOf Try.f91 2) 2 (impl_made_l2_E v262 v263 v264 v265 v266 v267 v358 v360 v361 s) = (impl_made_l2_T v263 v265 v266 v358 v360 v361 s).bind fun y => .leaf (outS (impl_made_l2_E v262 v263 v264 v265 v266 v267 v358 v360 v361) (impl_made_l2_X v262 v263 v264 v265 v266 v267 v358 v360 v361) y) := by kernel_rfl
theorem impl_made_l2_ok (v262 : Int) (v263 : Int) (v264 : Int) (v265 : Int) (v266 : List Nat) (v267 : List Int) : LSound Try.prog 0 (impl_made_LO v262 v263 v264 v265 v266 v267) 2 (bodyOf Try.f91 2) := by
  intro e L out h
  exact lo_ok (E := impl_made_l2_E v262 v263 v264 v265 v266 v267 (gI (vAt e 8)) (gI (cAt L (vAt e 7) 0)) (gI (cAt L (vAt e 7) 1))) (gT := impl_made_l2_T v263 v265 v266 (gI (vAt e 8)) (gI (cAt L (vAt e 7) 0)) (gI (cAt L (vAt e 7) 1))) (X := impl_made_l2_X v262 v263 v264 v265 v266 v267 (gI (vAt e 8)) (gI (cAt L (vAt e 7) 0)) (gI (cAt L (vAt e 7) 1))) (s0 := ((gI (vAt e 18)), (gRF L (cAt L (vAt e 7) 2)))) tok impl_made_hO mixed (LoopsOk_eq (l := []) (by kernel_rfl) trivial) (impl_made_l2_be v262 v263 v264 v265 v266 v267 (gI (vAt e 8)) (gI (cAt L (vAt e 7) 0)) (gI (cAt L (vAt e 7) 1))) rfl (by intro x; rfl) h
theorem impl_made_l0_be (v262 : Int) (v263 : Int) (v264 : Int) (v265 : Int) (v266 : List Nat) (v267 : List Int) (v341 : Int) (v342 : Int) (s : Int × (List Nat)) : bodyT TT (tabD impl_made_tab) (tabM impl_made_tab) (impl_made_LO v262 v263 v264 v265 v266 v267) 0 impl_made_l0_kill impl_made_l0_nx (bodyOf Try.f91 0) 0 (impl_made_l0_E v262 v263 v264 v265 v266 v267 v341 v342 s) = (impl_made_l0_T v262 v263 v264 v265 v266 v267 v341 v342 s).bind fun y => .leaf (outS (impl_made_l0_E v262 v263 v264 v265 v266 v267 v341 v342) (impl_made_l0_X v262 v263 v264 v265 v266 v267 v341 v342) y) := by kernel_rfl
theorem impl_made_l0_ok (v262 : Int) (v263 : Int) (v264 : Int) (v265 : Int) (v266 : List Nat) (v267 : List Int) : LSound Try.prog 0 (impl_made_LO v262 v263 v264 v265 v266 v267) 0 (bodyOf Try.f91 0) := by
  intro e L out h
  exact lo_ok (E := impl_made_l0_E v262 v263 v264 v265 v266 v267 (gI (cAt L (vAt e 7) 0)) (gI (cAt L (vAt e 7) 1))) (gT := impl_made_l0_T v262 v263 v264 v265 v266 v267 (gI (cAt L (vAt e 7) 0)) (gI (cAt L (vAt e 7) 1))) (X := impl_made_l0_X v262 v263 v264 v265 v266 v267 (gI (cAt L (vAt e 7) 0)) (gI (cAt L (vAt e 7) 1))) (s0 := ((gI (vAt e 14)), (gRF L (cAt L (vAt e 7) 2)))) tok impl_made_hO mixed (LoopsOk_eq (l := [(2, bodyOf Try.f91 2)]) (by kernel_rfl) ⟨impl_made_l2_ok v262 v263 v264 v265 v266 v267, trivial⟩) (impl_made_l0_be v262 v263 v264 v265 v266 v267 (gI (cAt L (vAt e 7) 0)) (gI (cAt L (vAt e 7) 1))) rfl (by intro x; rfl) h
noncomputable def impl_made_T (v262 : Int) (v263 : Int) (v264 : Int) (v265 : Int) (v266 : List Nat) (v267 : List Int) : Tree (Int × Int × (List Nat)) :=
  (.call (impl_newMatrix_g v262 v263) fun v270 =>
  (.need (some (impl_made_l0_E v262 v263 v264 v265 v266 v267 v270.1 v270.2 ((0 : Int), List.replicate (Int.toNat (IntKind.i64.wrap (v262 * v263))) (0 : Nat))) = some (impl_made_l0_E v262 v263 v264 v265 v266 v267 v270.1 v270.2 ((0 : Int), List.replicate (Int.toNat (IntKind.i64.wrap (v262 * v263))) (0 : Nat)))) <|
  (.call (impl_made_l0_g v262 v263 v264 v265 v266 v267 v270.1 v270.2 ((0 : Int), List.replicate (Int.toNat (IntKind.i64.wrap (v262 * v263))) (0 : Nat))) fun v366 =>
  .leaf (v270.1, v270.2, v366))))

noncomputable def impl_made_g (v262 : Int) (v263 : Int) (v264 : Int) (v265 : Int) (v266 : List Nat) (v267 : List Int) : Option (Int × Int × (List Nat)) := (impl_made_T v262 v263 v264 v265 v266 v267).run
def impl_made_enc (v262 : Int) (v263 : Int) (v264 : Int) (v265 : Int) (v266 : List Nat) (v267 : List Int) (y : Int × Int × (List Nat)) : Rs := (.agg [.int .i64 y.1, .int .i64 y.2.1, .own 0 0 ((y.2.2).length)], [.row (.f32 y.2.2) 0])
theorem impl_made_den (v262 : Int) (v263 : Int) (v264 : Int) (v265 : Int) (v266 : List Nat) (v267 : List Int) : (den TT (tabD impl_made_tab) (tabM impl_made_tab) (impl_made_LO v262 v263 v264 v265 v266 v267) (codeOf Try.f91) ([.int .i64 v262, .int .i64 v263, .fn 123 [.bptr (BR.root 0) [.int .i64 v264, .int .i64 v265, .bslc (BR.root 1) (.f32 v266), .bslc (BR.root 2) (.i64 v267)]]] ++ List.replicate (Try.f91.ntmps - ([.int .i64 v262, .int .i64 v263, .fn 123 [.bptr (BR.root 0) [.int .i64 v264, .int .i64 v265, .bslc (BR.root 1) (.f32 v266), .bslc (BR.root 2) (.i64 v267)]]] : List DV).length) .undef) []).bind (retD TT Try.f91.results.toList 0) = (impl_made_T v262 v263 v264 v265 v266 v267).bind fun y => .leaf (impl_made_enc v262 v263 v264 v265 v266 v267 y) := by kernel_rfl
theorem impl_made_fn (v262 : Int) (v263 : Int) (v264 : Int) (v265 : Int) (v266 : List Nat) (v267 : List Int) (F : Fr) (hm : F.ids.length = 0) (h0 : St F [] F.H0) (hA : DVs.Ok F [] [.int .i64 v262, .int .i64 v263, .fn 123 [.bptr (BR.root 0) [.int .i64 v264, .int .i64 v265, .bslc (BR.root 1) (.f32 v266), .bslc (BR.root 2) (.i64 v267)]]]) {y : Int × Int × (List Nat)} (hy : impl_made_g v262 v263 v264 v265 v266 v267 = some y) : ∃ H', FnOk Try.prog 91 (DVs.av F [.int .i64 v262, .int .i64 v263, .fn 123 [.bptr (BR.root 0) [.int .i64 v264, .int .i64 v265, .bslc (BR.root 1) (.f32 v266), .bslc (BR.root 2) (.i64 v267)]]]) F.H0 ((impl_made_enc v262 v263 v264 v265 v266 v267 y).1.av F) H' ∧ St F (impl_made_enc v262 v263 v264 v265 v266 v267 y).2 H' ∧ (impl_made_enc v262 v263 v264 v265 v266 v267 y).1.Ok F (impl_made_enc v262 v263 v264 v265 v266 v267 y).2 :=
  fn_fin tok impl_made_hO mixed Try.func91 Try.call91 (by kernel_rfl) (LoopsOk_eq (l := [(0, bodyOf Try.f91 0)]) (by kernel_rfl) ⟨impl_made_l0_ok v262 v263 v264 v265 v266 v267, trivial⟩) (impl_made_den v262 v263 v264 v265 v266 v267) hy hm h0 hA
noncomputable def impl_made_F : DFn := fun args L =>
  match args with
  | [.int .i64 v262, .int .i64 v263, .fn 123 [a1]] =>
    optT (cellsOf L 4 a1) fun cs0 =>
    (match cs0 with
    | [.int .i64 v264, .int .i64 v265, a2, a3] =>
    optT (rowF32 L a2) fun v266 =>
    optT (rowI64 L a3) fun v267 =>
    .call (impl_made_g v262 v263 v264 v265 v266 v267) fun y => .leaf (.agg [.int .i64 y.1, .int .i64 y.2.1, .own (L.length + 0) 0 ((y.2.2).length)], L ++ [.row (.f32 y.2.2) 0])
    | _ => .fail)
  | _ => .fail
theorem impl_made_Fok : COk Try.prog 91 impl_made_F true := by
  intro F L H args r L' hs ha hr
  unfold impl_made_F at hr
  split at hr
  · rename_i v262 v263 a1
    obtain ⟨cs0, hcp0, hr⟩ := optT_run hr
    split at hr
    · rename_i v264 v265 a2 a3
      obtain ⟨v266, hv266, hr⟩ := optT_run hr
      obtain ⟨v267, hv267, hr⟩ := optT_run hr
      simp only [Tree.run] at hr
      obtain ⟨y, hy, hr⟩ := Option.bind_eq_some_iff.1 hr
      simp only [Tree.run, Option.some.injEq, Prod.mk.injEq] at hr
      obtain ⟨rfl, rfl⟩ := hr
      exact call_ok1 hs (fun k => (([a1.av F, a2.av F, a3.av F] : List AV)[k]?).getD .top) [.int .i64 v262, .int .i64 v263, .fn 123 [a1]] [.int .i64 v262, .int .i64 v263, .fn 123 [.bptr (BR.root 0) [.int .i64 v264, .int .i64 v265, .bslc (BR.root 1) (.f32 v266), .bslc (BR.root 2) (.i64 v267)]]] (fun F' h0 hi hρ => ⟨by simp [DVs.av, DV.av, BR.av, hρ], impl_made_fn v262 v263 v264 v265 v266 v267 F' (by rw [hi]; rfl) (st_nil hi) ⟨trivial, trivial, ⟨bptr_ok hi (by rw [h0]; simpa [DVs.av, DV.av, BR.av, hρ] using (cellsOf_ok hs (DVs.okAt (DVs.okAt ha 2 rfl) 0 rfl) hcp0).1) ⟨trivial, trivial, bslc_ok hi (by rw [h0, hρ]; exact rowF32_ok hs (DVs.okAt (cellsOf_ok hs (DVs.okAt (DVs.okAt ha 2 rfl) 0 rfl) hcp0).2 2 rfl) hv266), bslc_ok hi (by rw [h0, hρ]; exact rowI64_ok hs (DVs.okAt (cellsOf_ok hs (DVs.okAt (DVs.okAt ha 2 rfl) 0 rfl) hcp0).2 3 rfl) hv267), trivial⟩, trivial⟩, trivial⟩ hy⟩) rfl rfl
    · cases hr
  · cases hr
end Go.Proofs.Ytjadfgeemfdbmaa.AM
