/- Functions: what they come to. -/
import Derived.Test.YtjadfgeemfdbmaaBase
set_option maxRecDepth 100000
set_option maxHeartbeats 4000000
set_option linter.unusedSimpArgs false
set_option linter.unusedVariables false
namespace Go.Proofs.Ytjadfgeemfdbmaa.AM
open Go.Proofs
/-! laws.szFloat32S -/
noncomputable def laws_szFloat32S_LO (v14 : List Nat) (v15 : Int) : LOr := fun id e L =>
  match id with
  | _ => .fail
noncomputable def laws_szFloat32S_tab : List (FuncId × DFn × Bool) := []
theorem laws_szFloat32S_hO : OrcOk Try.prog (tabD laws_szFloat32S_tab) (tabM laws_szFloat32S_tab) := tabD_nil _
noncomputable def laws_szFloat32S_T (v14 : List Nat) (v15 : Int) : Tree (Int) :=
  (.br (decide (IntKind.i64.wrap (v15 - ((v14.length : Nat) : Int)) < (0 : Int))) (
   .leaf (-1 : Int)
  ) (
   .leaf (IntKind.i64.wrap (v15 - ((v14.length : Nat) : Int)))
  ))

noncomputable def laws_szFloat32S_g (v14 : List Nat) (v15 : Int) : Option (Int) := (laws_szFloat32S_T v14 v15).run
def laws_szFloat32S_enc (v14 : List Nat) (v15 : Int) (y : Int) : Rs := (.int .i64 y, [])
theorem laws_szFloat32S_den (v14 : List Nat) (v15 : Int) : (den TT (tabD laws_szFloat32S_tab) (tabM laws_szFloat32S_tab) (laws_szFloat32S_LO v14 v15) (codeOf Try.f64) ([.bslc (BR.root 0) (.f32 v14), .int .i64 v15] ++ List.replicate (Try.f64.ntmps - ([.bslc (BR.root 0) (.f32 v14), .int .i64 v15] : List DV).length) .undef) []).bind (retD TT Try.f64.results.toList 0) = (laws_szFloat32S_T v14 v15).bind fun y => .leaf (laws_szFloat32S_enc v14 v15 y) := by kernel_rfl
theorem laws_szFloat32S_fn (v14 : List Nat) (v15 : Int) (F : Fr) (hm : F.ids.length = 0) (h0 : St F [] F.H0) (hA : DVs.Ok F [] [.bslc (BR.root 0) (.f32 v14), .int .i64 v15]) {y : Int} (hy : laws_szFloat32S_g v14 v15 = some y) : ∃ H', FnOk Try.prog 64 (DVs.av F [.bslc (BR.root 0) (.f32 v14), .int .i64 v15]) F.H0 ((laws_szFloat32S_enc v14 v15 y).1.av F) H' ∧ St F (laws_szFloat32S_enc v14 v15 y).2 H' ∧ (laws_szFloat32S_enc v14 v15 y).1.Ok F (laws_szFloat32S_enc v14 v15 y).2 :=
  fn_fin tok laws_szFloat32S_hO mixed Try.func64 Try.call64 (by kernel_rfl) (LoopsOk_eq (l := []) (by kernel_rfl) trivial) (laws_szFloat32S_den v14 v15) hy hm h0 hA
def laws_szFloat32S_v (v14 : List Nat) (v15 : Int) : Int :=
  if (decide (IntKind.i64.wrap (v15 - ((v14.length : Nat) : Int)) < (0 : Int))) = true then (
   (-1 : Int)
  ) else (
   IntKind.i64.wrap (v15 - ((v14.length : Nat) : Int))
  )
theorem laws_szFloat32S_tot (v14 : List Nat) (v15 : Int) : laws_szFloat32S_g v14 v15 = some (laws_szFloat32S_v v14 v15) := by
  unfold laws_szFloat32S_g laws_szFloat32S_T laws_szFloat32S_v
  simp only [Tree.run]
  repeat' (first | rfl | split)
noncomputable def laws_szFloat32S_F : DFn := fun args L =>
  match args with
  | [a1, .int .i64 v15] =>
    optT (rowF32 L a1) fun v14 =>
    .leaf (.int .i64 (laws_szFloat32S_v v14 v15), L)
  | _ => .fail
theorem laws_szFloat32S_Fok : COk Try.prog 64 laws_szFloat32S_F true := by
  intro F L H args r L' hs ha hr
  unfold laws_szFloat32S_F at hr
  split at hr
  · rename_i a1 v15
    obtain ⟨v14, hv14, hr⟩ := optT_run hr
    have hy := laws_szFloat32S_tot v14 v15
    generalize laws_szFloat32S_v v14 v15 = y at hy hr
    simp only [Tree.run, Option.some.injEq, Prod.mk.injEq] at hr
    obtain ⟨rfl, rfl⟩ := hr
    exact call_ok0 hs (fun k => (([a1.av F] : List AV)[k]?).getD .top) [a1, .int .i64 v15] [.bslc (BR.root 0) (.f32 v14), .int .i64 v15] (fun F' h0 hi hρ => ⟨by simp [DVs.av, DV.av, BR.av, hρ], laws_szFloat32S_fn v14 v15 F' (by rw [hi]; rfl) (st_nil hi) ⟨bslc_ok hi (by rw [h0, hρ]; exact rowF32_ok hs (DVs.okAt ha 0 rfl) hv14), trivial, trivial⟩ hy⟩) rfl
  · cases hr
/-! laws.szMatrix -/
noncomputable def laws_szMatrix_LO (v10 : Int) (v11 : Int) (v12 : List Nat) (v13 : Int) : LOr := fun id e L =>
  match id with
  | _ => .fail
noncomputable def laws_szMatrix_tab : List (FuncId × DFn × Bool) := [(64, laws_szFloat32S_F, true)]
theorem laws_szMatrix_hO : OrcOk Try.prog (tabD laws_szMatrix_tab) (tabM laws_szMatrix_tab) := tabD_cons laws_szFloat32S_Fok (tabD_nil _)
noncomputable def laws_szMatrix_T (v12 : List Nat) (v13 : Int) : Tree (Int) :=
  (.br (decide ((laws_szFloat32S_v v12 v13) < (0 : Int))) (
   .leaf (-1 : Int)
  ) (
   .leaf (laws_szFloat32S_v v12 v13)
  ))

noncomputable def laws_szMatrix_g (v12 : List Nat) (v13 : Int) : Option (Int) := (laws_szMatrix_T v12 v13).run
def laws_szMatrix_enc (v10 : Int) (v11 : Int) (v12 : List Nat) (v13 : Int) (y : Int) : Rs := (.int .i64 y, [])
theorem laws_szMatrix_den (v10 : Int) (v11 : Int) (v12 : List Nat) (v13 : Int) : (den TT (tabD laws_szMatrix_tab) (tabM laws_szMatrix_tab) (laws_szMatrix_LO v10 v11 v12 v13) (codeOf Try.f29) ([.agg [.int .i64 v10, .int .i64 v11, .bslc (BR.root 0) (.f32 v12)], .int .i64 v13] ++ List.replicate (Try.f29.ntmps - ([.agg [.int .i64 v10, .int .i64 v11, .bslc (BR.root 0) (.f32 v12)], .int .i64 v13] : List DV).length) .undef) []).bind (retD TT Try.f29.results.toList 0) = (laws_szMatrix_T v12 v13).bind fun y => .leaf (laws_szMatrix_enc v10 v11 v12 v13 y) := by kernel_rfl
theorem laws_szMatrix_fn (v10 : Int) (v11 : Int) (v12 : List Nat) (v13 : Int) (F : Fr) (hm : F.ids.length = 0) (h0 : St F [] F.H0) (hA : DVs.Ok F [] [.agg [.int .i64 v10, .int .i64 v11, .bslc (BR.root 0) (.f32 v12)], .int .i64 v13]) {y : Int} (hy : laws_szMatrix_g v12 v13 = some y) : ∃ H', FnOk Try.prog 29 (DVs.av F [.agg [.int .i64 v10, .int .i64 v11, .bslc (BR.root 0) (.f32 v12)], .int .i64 v13]) F.H0 ((laws_szMatrix_enc v10 v11 v12 v13 y).1.av F) H' ∧ St F (laws_szMatrix_enc v10 v11 v12 v13 y).2 H' ∧ (laws_szMatrix_enc v10 v11 v12 v13 y).1.Ok F (laws_szMatrix_enc v10 v11 v12 v13 y).2 :=
  fn_fin tok laws_szMatrix_hO mixed Try.func29 Try.call29 (by kernel_rfl) (LoopsOk_eq (l := []) (by kernel_rfl) trivial) (laws_szMatrix_den v10 v11 v12 v13) hy hm h0 hA
def laws_szMatrix_v (v12 : List Nat) (v13 : Int) : Int :=
  if (decide ((laws_szFloat32S_v v12 v13) < (0 : Int))) = true then (
   (-1 : Int)
  ) else (
   (laws_szFloat32S_v v12 v13)
  )
theorem laws_szMatrix_tot (v12 : List Nat) (v13 : Int) : laws_szMatrix_g v12 v13 = some (laws_szMatrix_v v12 v13) := by
  unfold laws_szMatrix_g laws_szMatrix_T laws_szMatrix_v
  simp only [Tree.run]
  repeat' (first | rfl | split)
noncomputable def laws_szMatrix_F : DFn := fun args L =>
  match args with
  | [.agg [.int .i64 v10, .int .i64 v11, a1], .int .i64 v13] =>
    optT (rowF32 L a1) fun v12 =>
    .leaf (.int .i64 (laws_szMatrix_v v12 v13), L)
  | _ => .fail
theorem laws_szMatrix_Fok : COk Try.prog 29 laws_szMatrix_F true := by
  intro F L H args r L' hs ha hr
  unfold laws_szMatrix_F at hr
  split at hr
  · rename_i v10 v11 a1 v13
    obtain ⟨v12, hv12, hr⟩ := optT_run hr
    have hy := laws_szMatrix_tot v12 v13
    generalize laws_szMatrix_v v12 v13 = y at hy hr
    simp only [Tree.run, Option.some.injEq, Prod.mk.injEq] at hr
    obtain ⟨rfl, rfl⟩ := hr
    exact call_ok0 hs (fun k => (([a1.av F] : List AV)[k]?).getD .top) [.agg [.int .i64 v10, .int .i64 v11, a1], .int .i64 v13] [.agg [.int .i64 v10, .int .i64 v11, .bslc (BR.root 0) (.f32 v12)], .int .i64 v13] (fun F' h0 hi hρ => ⟨by simp [DVs.av, DV.av, BR.av, hρ], laws_szMatrix_fn v10 v11 v12 v13 F' (by rw [hi]; rfl) (st_nil hi) ⟨⟨trivial, trivial, bslc_ok hi (by rw [h0, hρ]; exact rowF32_ok hs (DVs.okAt (DVs.okAt ha 0 rfl) 2 rfl) hv12), trivial⟩, trivial, trivial⟩ hy⟩) rfl
  · cases hr
/-! laws.szInt64S -/
noncomputable def laws_szInt64S_LO (v16 : List Int) (v17 : Int) : LOr := fun id e L =>
  match id with
  | _ => .fail
noncomputable def laws_szInt64S_tab : List (FuncId × DFn × Bool) := []
theorem laws_szInt64S_hO : OrcOk Try.prog (tabD laws_szInt64S_tab) (tabM laws_szInt64S_tab) := tabD_nil _
noncomputable def laws_szInt64S_T (v16 : List Int) (v17 : Int) : Tree (Int) :=
  (.br (decide (IntKind.i64.wrap (v17 - ((v16.length : Nat) : Int)) < (0 : Int))) (
   .leaf (-1 : Int)
  ) (
   .leaf (IntKind.i64.wrap (v17 - ((v16.length : Nat) : Int)))
  ))

noncomputable def laws_szInt64S_g (v16 : List Int) (v17 : Int) : Option (Int) := (laws_szInt64S_T v16 v17).run
def laws_szInt64S_enc (v16 : List Int) (v17 : Int) (y : Int) : Rs := (.int .i64 y, [])
theorem laws_szInt64S_den (v16 : List Int) (v17 : Int) : (den TT (tabD laws_szInt64S_tab) (tabM laws_szInt64S_tab) (laws_szInt64S_LO v16 v17) (codeOf Try.f63) ([.bslc (BR.root 0) (.i64 v16), .int .i64 v17] ++ List.replicate (Try.f63.ntmps - ([.bslc (BR.root 0) (.i64 v16), .int .i64 v17] : List DV).length) .undef) []).bind (retD TT Try.f63.results.toList 0) = (laws_szInt64S_T v16 v17).bind fun y => .leaf (laws_szInt64S_enc v16 v17 y) := by kernel_rfl
theorem laws_szInt64S_fn (v16 : List Int) (v17 : Int) (F : Fr) (hm : F.ids.length = 0) (h0 : St F [] F.H0) (hA : DVs.Ok F [] [.bslc (BR.root 0) (.i64 v16), .int .i64 v17]) {y : Int} (hy : laws_szInt64S_g v16 v17 = some y) : ∃ H', FnOk Try.prog 63 (DVs.av F [.bslc (BR.root 0) (.i64 v16), .int .i64 v17]) F.H0 ((laws_szInt64S_enc v16 v17 y).1.av F) H' ∧ St F (laws_szInt64S_enc v16 v17 y).2 H' ∧ (laws_szInt64S_enc v16 v17 y).1.Ok F (laws_szInt64S_enc v16 v17 y).2 :=
  fn_fin tok laws_szInt64S_hO mixed Try.func63 Try.call63 (by kernel_rfl) (LoopsOk_eq (l := []) (by kernel_rfl) trivial) (laws_szInt64S_den v16 v17) hy hm h0 hA
def laws_szInt64S_v (v16 : List Int) (v17 : Int) : Int :=
  if (decide (IntKind.i64.wrap (v17 - ((v16.length : Nat) : Int)) < (0 : Int))) = true then (
   (-1 : Int)
  ) else (
   IntKind.i64.wrap (v17 - ((v16.length : Nat) : Int))
  )
theorem laws_szInt64S_tot (v16 : List Int) (v17 : Int) : laws_szInt64S_g v16 v17 = some (laws_szInt64S_v v16 v17) := by
  unfold laws_szInt64S_g laws_szInt64S_T laws_szInt64S_v
  simp only [Tree.run]
  repeat' (first | rfl | split)
noncomputable def laws_szInt64S_F : DFn := fun args L =>
  match args with
  | [a1, .int .i64 v17] =>
    optT (rowI64 L a1) fun v16 =>
    .leaf (.int .i64 (laws_szInt64S_v v16 v17), L)
  | _ => .fail
theorem laws_szInt64S_Fok : COk Try.prog 63 laws_szInt64S_F true := by
  intro F L H args r L' hs ha hr
  unfold laws_szInt64S_F at hr
  split at hr
  · rename_i a1 v17
    obtain ⟨v16, hv16, hr⟩ := optT_run hr
    have hy := laws_szInt64S_tot v16 v17
    generalize laws_szInt64S_v v16 v17 = y at hy hr
    simp only [Tree.run, Option.some.injEq, Prod.mk.injEq] at hr
    obtain ⟨rfl, rfl⟩ := hr
    exact call_ok0 hs (fun k => (([a1.av F] : List AV)[k]?).getD .top) [a1, .int .i64 v17] [.bslc (BR.root 0) (.i64 v16), .int .i64 v17] (fun F' h0 hi hρ => ⟨by simp [DVs.av, DV.av, BR.av, hρ], laws_szInt64S_fn v16 v17 F' (by rw [hi]; rfl) (st_nil hi) ⟨bslc_ok hi (by rw [h0, hρ]; exact rowI64_ok hs (DVs.okAt ha 0 rfl) hv16), trivial, trivial⟩ hy⟩) rfl
  · cases hr
/-! laws.szFactor -/
noncomputable def laws_szFactor_LO (v5 : Int) (v6 : Int) (v7 : List Nat) (v8 : List Int) (v9 : Int) : LOr := fun id e L =>
  match id with
  | _ => .fail
noncomputable def laws_szFactor_tab : List (FuncId × DFn × Bool) := [(29, laws_szMatrix_F, true), (63, laws_szInt64S_F, true)]
theorem laws_szFactor_hO : OrcOk Try.prog (tabD laws_szFactor_tab) (tabM laws_szFactor_tab) := tabD_cons laws_szMatrix_Fok (tabD_cons laws_szInt64S_Fok (tabD_nil _))
noncomputable def laws_szFactor_T (v7 : List Nat) (v8 : List Int) (v9 : Int) : Tree (Int) :=
  (.br (decide ((laws_szMatrix_v v7 v9) < (0 : Int))) (
   .leaf (-1 : Int)
  ) (
   (.br (decide ((laws_szInt64S_v v8 (laws_szMatrix_v v7 v9)) < (0 : Int))) (
    .leaf (-1 : Int)
   ) (
    .leaf (laws_szInt64S_v v8 (laws_szMatrix_v v7 v9))
   ))
  ))

noncomputable def laws_szFactor_g (v7 : List Nat) (v8 : List Int) (v9 : Int) : Option (Int) := (laws_szFactor_T v7 v8 v9).run
def laws_szFactor_enc (v5 : Int) (v6 : Int) (v7 : List Nat) (v8 : List Int) (v9 : Int) (y : Int) : Rs := (.int .i64 y, [])
theorem laws_szFactor_den (v5 : Int) (v6 : Int) (v7 : List Nat) (v8 : List Int) (v9 : Int) : (den TT (tabD laws_szFactor_tab) (tabM laws_szFactor_tab) (laws_szFactor_LO v5 v6 v7 v8 v9) (codeOf Try.f46) ([.agg [.int .i64 v5, .int .i64 v6, .bslc (BR.root 0) (.f32 v7), .bslc (BR.root 1) (.i64 v8)], .int .i64 v9] ++ List.replicate (Try.f46.ntmps - ([.agg [.int .i64 v5, .int .i64 v6, .bslc (BR.root 0) (.f32 v7), .bslc (BR.root 1) (.i64 v8)], .int .i64 v9] : List DV).length) .undef) []).bind (retD TT Try.f46.results.toList 0) = (laws_szFactor_T v7 v8 v9).bind fun y => .leaf (laws_szFactor_enc v5 v6 v7 v8 v9 y) := by kernel_rfl
theorem laws_szFactor_fn (v5 : Int) (v6 : Int) (v7 : List Nat) (v8 : List Int) (v9 : Int) (F : Fr) (hm : F.ids.length = 0) (h0 : St F [] F.H0) (hA : DVs.Ok F [] [.agg [.int .i64 v5, .int .i64 v6, .bslc (BR.root 0) (.f32 v7), .bslc (BR.root 1) (.i64 v8)], .int .i64 v9]) {y : Int} (hy : laws_szFactor_g v7 v8 v9 = some y) : ∃ H', FnOk Try.prog 46 (DVs.av F [.agg [.int .i64 v5, .int .i64 v6, .bslc (BR.root 0) (.f32 v7), .bslc (BR.root 1) (.i64 v8)], .int .i64 v9]) F.H0 ((laws_szFactor_enc v5 v6 v7 v8 v9 y).1.av F) H' ∧ St F (laws_szFactor_enc v5 v6 v7 v8 v9 y).2 H' ∧ (laws_szFactor_enc v5 v6 v7 v8 v9 y).1.Ok F (laws_szFactor_enc v5 v6 v7 v8 v9 y).2 :=
  fn_fin tok laws_szFactor_hO mixed Try.func46 Try.call46 (by kernel_rfl) (LoopsOk_eq (l := []) (by kernel_rfl) trivial) (laws_szFactor_den v5 v6 v7 v8 v9) hy hm h0 hA
def laws_szFactor_v (v7 : List Nat) (v8 : List Int) (v9 : Int) : Int :=
  if (decide ((laws_szMatrix_v v7 v9) < (0 : Int))) = true then (
   (-1 : Int)
  ) else (
   if (decide ((laws_szInt64S_v v8 (laws_szMatrix_v v7 v9)) < (0 : Int))) = true then (
    (-1 : Int)
   ) else (
    (laws_szInt64S_v v8 (laws_szMatrix_v v7 v9))
   )
  )
theorem laws_szFactor_tot (v7 : List Nat) (v8 : List Int) (v9 : Int) : laws_szFactor_g v7 v8 v9 = some (laws_szFactor_v v7 v8 v9) := by
  unfold laws_szFactor_g laws_szFactor_T laws_szFactor_v
  simp only [Tree.run]
  repeat' (first | rfl | split)
noncomputable def laws_szFactor_F : DFn := fun args L =>
  match args with
  | [.agg [.int .i64 v5, .int .i64 v6, a1, a2], .int .i64 v9] =>
    optT (rowF32 L a1) fun v7 =>
    optT (rowI64 L a2) fun v8 =>
    .leaf (.int .i64 (laws_szFactor_v v7 v8 v9), L)
  | _ => .fail
theorem laws_szFactor_Fok : COk Try.prog 46 laws_szFactor_F true := by
  intro F L H args r L' hs ha hr
  unfold laws_szFactor_F at hr
  split at hr
  · rename_i v5 v6 a1 a2 v9
    obtain ⟨v7, hv7, hr⟩ := optT_run hr
    obtain ⟨v8, hv8, hr⟩ := optT_run hr
    have hy := laws_szFactor_tot v7 v8 v9
    generalize laws_szFactor_v v7 v8 v9 = y at hy hr
    simp only [Tree.run, Option.some.injEq, Prod.mk.injEq] at hr
    obtain ⟨rfl, rfl⟩ := hr
    exact call_ok0 hs (fun k => (([a1.av F, a2.av F] : List AV)[k]?).getD .top) [.agg [.int .i64 v5, .int .i64 v6, a1, a2], .int .i64 v9] [.agg [.int .i64 v5, .int .i64 v6, .bslc (BR.root 0) (.f32 v7), .bslc (BR.root 1) (.i64 v8)], .int .i64 v9] (fun F' h0 hi hρ => ⟨by simp [DVs.av, DV.av, BR.av, hρ], laws_szFactor_fn v5 v6 v7 v8 v9 F' (by rw [hi]; rfl) (st_nil hi) ⟨⟨trivial, trivial, bslc_ok hi (by rw [h0, hρ]; exact rowF32_ok hs (DVs.okAt (DVs.okAt ha 0 rfl) 2 rfl) hv7), bslc_ok hi (by rw [h0, hρ]; exact rowI64_ok hs (DVs.okAt (DVs.okAt ha 0 rfl) 3 rfl) hv8), trivial⟩, trivial, trivial⟩ hy⟩) rfl
  · cases hr
/-! laws.toFloat32S -/
noncomputable def laws_toFloat32S_l0_T (v25 : List Nat) (s : Int × (List Nat)) : Tree ((Int × (List Nat)) ⊕ ((List Nat))) :=
  (.br (decide (s.1 < ((v25.length : Nat) : Int))) (
   (.grd (inb s.1 v25.length) <|
   (.grd (inb s.1 ((s.2).length)) <|
   .leaf (.inl (IntKind.i64.wrap (s.1 + (1 : Int)), List.set s.2 (Int.toNat s.1) (nth v25 (Int.toNat s.1))))))
  ) (
   .leaf (.inr s.2)
  ))

noncomputable def laws_toFloat32S_l0_g (v25 : List Nat) (s0 : Int × (List Nat)) : Option ((List Nat)) := whileM (fun s => (laws_toFloat32S_l0_T v25 s).run) s0
def laws_toFloat32S_l0_E (v25 : List Nat) (s : Int × (List Nat)) : Sd := ([.bslc (BR.root 0) (.f32 v25), .top, .top, .own 0 0 ((s.2).length), .int .i64 s.1, .top, .top, .top, .top, .top, .top, .top, .top, .top, .top, .top, .top, .top, .top, .top, .top, .top], [.row (.f32 s.2) 0])
def laws_toFloat32S_l0_X (v25 : List Nat) (x : (List Nat)) : Out := (.normal, [.top, .top, .top, .own 0 0 ((x).length), .top, .top, .top, .top, .top, .top, .top, .top, .top, .top, .top, .top, .top, .top, .top, .top, .top, .top], [.row (.f32 x) 0])
def laws_toFloat32S_l0_kill : List Nat := [0, 1, 1, 0, 0, 1, 1, 1, 1, 1, 1, 1, 1, 1, 1, 1, 1, 1, 1, 1, 1, 1]
def laws_toFloat32S_l0_nx : Exit → List Nat
  | .exit 0 => [1, 1, 1, 0, 1, 1, 1, 1, 1, 1, 1, 1, 1, 1, 1, 1, 1, 1, 1, 1, 1, 1]
  | .ret => [1, 1, 0, 1, 1, 1, 1, 1, 1, 1, 1, 1, 1, 1, 1, 1, 1, 1, 1, 1, 1, 1]
  | _ => []
noncomputable def laws_toFloat32S_LO (v25 : List Nat) : LOr := fun id e L =>
  match id with
  | 0 => .need (normA 0 laws_toFloat32S_l0_kill e L = some (laws_toFloat32S_l0_E v25 ((gI (vAt e 4)), (gRF L (vAt e 3))))) (.call (laws_toFloat32S_l0_g v25 ((gI (vAt e 4)), (gRF L (vAt e 3)))) fun x => .leaf (laws_toFloat32S_l0_X v25 x))
  | _ => .fail
noncomputable def laws_toFloat32S_tab : List (FuncId × DFn × Bool) := []
theorem laws_toFloat32S_hO : OrcOk Try.prog (tabD laws_toFloat32S_tab) (tabM laws_toFloat32S_tab) := tabD_nil _
theorem laws_toFloat32S_l0_be (v25 : List Nat) (s : Int × (List Nat)) : bodyT TT (tabD laws_toFloat32S_tab) (tabM laws_toFloat32S_tab) (laws_toFloat32S_LO v25) 0 laws_toFloat32S_l0_kill laws_toFloat32S_l0_nx (bodyOf Try.f18 0) 0 (laws_toFloat32S_l0_E v25 s) = (laws_toFloat32S_l0_T v25 s).bind fun y => .leaf (outS (laws_toFloat32S_l0_E v25) (laws_toFloat32S_l0_X v25) y) := by kernel_rfl
theorem laws_toFloat32S_l0_ok (v25 : List Nat) : LSound Try.prog 0 (laws_toFloat32S_LO v25) 0 (bodyOf Try.f18 0) := by
  intro e L out h
  exact lo_ok (E := laws_toFloat32S_l0_E v25) (gT := laws_toFloat32S_l0_T v25) (X := laws_toFloat32S_l0_X v25) (s0 := ((gI (vAt e 4)), (gRF L (vAt e 3)))) tok laws_toFloat32S_hO mixed (LoopsOk_eq (l := []) (by kernel_rfl) trivial) (laws_toFloat32S_l0_be v25) rfl (by intro x; rfl) h
noncomputable def laws_toFloat32S_T (v25 : List Nat) : Tree ((List Nat)) :=
  (.need (((v25.length : Nat) : Int) = ((v25.length : Nat) : Int)) <|
  (.grd (inb ((v25.length : Nat) : Int) (maxN + 1)) <|
  (.need (some (laws_toFloat32S_l0_E v25 ((0 : Int), List.replicate (Int.toNat ((v25.length : Nat) : Int)) (0 : Nat))) = some (laws_toFloat32S_l0_E v25 ((0 : Int), List.replicate (Int.toNat ((v25.length : Nat) : Int)) (0 : Nat)))) <|
  (.call (laws_toFloat32S_l0_g v25 ((0 : Int), List.replicate (Int.toNat ((v25.length : Nat) : Int)) (0 : Nat))) fun v31 =>
  .leaf v31))))

noncomputable def laws_toFloat32S_g (v25 : List Nat) : Option ((List Nat)) := (laws_toFloat32S_T v25).run
def laws_toFloat32S_enc (v25 : List Nat) (y : (List Nat)) : Rs := (.own 0 0 ((y).length), [.row (.f32 y) 0])
theorem laws_toFloat32S_den (v25 : List Nat) : (den TT (tabD laws_toFloat32S_tab) (tabM laws_toFloat32S_tab) (laws_toFloat32S_LO v25) (codeOf Try.f18) ([.bslc (BR.root 0) (.f32 v25)] ++ List.replicate (Try.f18.ntmps - ([.bslc (BR.root 0) (.f32 v25)] : List DV).length) .undef) []).bind (retD TT Try.f18.results.toList 0) = (laws_toFloat32S_T v25).bind fun y => .leaf (laws_toFloat32S_enc v25 y) := by kernel_rfl
theorem laws_toFloat32S_fn (v25 : List Nat) (F : Fr) (hm : F.ids.length = 0) (h0 : St F [] F.H0) (hA : DVs.Ok F [] [.bslc (BR.root 0) (.f32 v25)]) {y : (List Nat)} (hy : laws_toFloat32S_g v25 = some y) : ∃ H', FnOk Try.prog 18 (DVs.av F [.bslc (BR.root 0) (.f32 v25)]) F.H0 ((laws_toFloat32S_enc v25 y).1.av F) H' ∧ St F (laws_toFloat32S_enc v25 y).2 H' ∧ (laws_toFloat32S_enc v25 y).1.Ok F (laws_toFloat32S_enc v25 y).2 :=
  fn_fin tok laws_toFloat32S_hO mixed Try.func18 Try.call18 (by kernel_rfl) (LoopsOk_eq (l := [(0, bodyOf Try.f18 0)]) (by kernel_rfl) ⟨laws_toFloat32S_l0_ok v25, trivial⟩) (laws_toFloat32S_den v25) hy hm h0 hA
noncomputable def laws_toFloat32S_F : DFn := fun args L =>
  match args with
  | [a1] =>
    optT (rowF32 L a1) fun v25 =>
    .call (laws_toFloat32S_g v25) fun y => .leaf (.own (L.length + 0) 0 ((y).length), L ++ [.row (.f32 y) 0])
  | _ => .fail
theorem laws_toFloat32S_Fok : COk Try.prog 18 laws_toFloat32S_F true := by
  intro F L H args r L' hs ha hr
  unfold laws_toFloat32S_F at hr
  split at hr
  · rename_i a1
    obtain ⟨v25, hv25, hr⟩ := optT_run hr
    simp only [Tree.run] at hr
    obtain ⟨y, hy, hr⟩ := Option.bind_eq_some_iff.1 hr
    simp only [Tree.run, Option.some.injEq, Prod.mk.injEq] at hr
    obtain ⟨rfl, rfl⟩ := hr
    exact call_ok1 hs (fun k => (([a1.av F] : List AV)[k]?).getD .top) [a1] [.bslc (BR.root 0) (.f32 v25)] (fun F' h0 hi hρ => ⟨by simp [DVs.av, DV.av, BR.av, hρ], laws_toFloat32S_fn v25 F' (by rw [hi]; rfl) (st_nil hi) ⟨bslc_ok hi (by rw [h0, hρ]; exact rowF32_ok hs (DVs.okAt ha 0 rfl) hv25), trivial⟩ hy⟩) rfl rfl
  · cases hr
/-! laws.toMatrix -/
noncomputable def laws_toMatrix_LO (v22 : Int) (v23 : Int) (v24 : List Nat) : LOr := fun id e L =>
  match id with
  | _ => .fail
noncomputable def laws_toMatrix_tab : List (FuncId × DFn × Bool) := [(18, laws_toFloat32S_F, true)]
theorem laws_toMatrix_hO : OrcOk Try.prog (tabD laws_toMatrix_tab) (tabM laws_toMatrix_tab) := tabD_cons laws_toFloat32S_Fok (tabD_nil _)
noncomputable def laws_toMatrix_T (v22 : Int) (v23 : Int) (v24 : List Nat) : Tree (Int × Int × (List Nat)) :=
  (.call (laws_toFloat32S_g v24) fun v32 =>
  .leaf (v22, v23, v32))

noncomputable def laws_toMatrix_g (v22 : Int) (v23 : Int) (v24 : List Nat) : Option (Int × Int × (List Nat)) := (laws_toMatrix_T v22 v23 v24).run
def laws_toMatrix_enc (v22 : Int) (v23 : Int) (v24 : List Nat) (y : Int × Int × (List Nat)) : Rs := (.agg [.int .i64 y.1, .int .i64 y.2.1, .own 0 0 ((y.2.2).length)], [.row (.f32 y.2.2) 0])
theorem laws_toMatrix_den (v22 : Int) (v23 : Int) (v24 : List Nat) : (den TT (tabD laws_toMatrix_tab) (tabM laws_toMatrix_tab) (laws_toMatrix_LO v22 v23 v24) (codeOf Try.f31) ([.agg [.int .i64 v22, .int .i64 v23, .bslc (BR.root 0) (.f32 v24)]] ++ List.replicate (Try.f31.ntmps - ([.agg [.int .i64 v22, .int .i64 v23, .bslc (BR.root 0) (.f32 v24)]] : List DV).length) .undef) []).bind (retD TT Try.f31.results.toList 0) = (laws_toMatrix_T v22 v23 v24).bind fun y => .leaf (laws_toMatrix_enc v22 v23 v24 y) := by kernel_rfl
theorem laws_toMatrix_fn (v22 : Int) (v23 : Int) (v24 : List Nat) (F : Fr) (hm : F.ids.length = 0) (h0 : St F [] F.H0) (hA : DVs.Ok F [] [.agg [.int .i64 v22, .int .i64 v23, .bslc (BR.root 0) (.f32 v24)]]) {y : Int × Int × (List Nat)} (hy : laws_toMatrix_g v22 v23 v24 = some y) : ∃ H', FnOk Try.prog 31 (DVs.av F [.agg [.int .i64 v22, .int .i64 v23, .bslc (BR.root 0) (.f32 v24)]]) F.H0 ((laws_toMatrix_enc v22 v23 v24 y).1.av F) H' ∧ St F (laws_toMatrix_enc v22 v23 v24 y).2 H' ∧ (laws_toMatrix_enc v22 v23 v24 y).1.Ok F (laws_toMatrix_enc v22 v23 v24 y).2 :=
  fn_fin tok laws_toMatrix_hO mixed Try.func31 Try.call31 (by kernel_rfl) (LoopsOk_eq (l := []) (by kernel_rfl) trivial) (laws_toMatrix_den v22 v23 v24) hy hm h0 hA
noncomputable def laws_toMatrix_F : DFn := fun args L =>
  match args with
  | [.agg [.int .i64 v22, .int .i64 v23, a1]] =>
    optT (rowF32 L a1) fun v24 =>
    .call (laws_toMatrix_g v22 v23 v24) fun y => .leaf (.agg [.int .i64 y.1, .int .i64 y.2.1, .own (L.length + 0) 0 ((y.2.2).length)], L ++ [.row (.f32 y.2.2) 0])
  | _ => .fail
theorem laws_toMatrix_Fok : COk Try.prog 31 laws_toMatrix_F true := by
  intro F L H args r L' hs ha hr
  unfold laws_toMatrix_F at hr
  split at hr
  · rename_i v22 v23 a1
    obtain ⟨v24, hv24, hr⟩ := optT_run hr
    simp only [Tree.run] at hr
    obtain ⟨y, hy, hr⟩ := Option.bind_eq_some_iff.1 hr
    simp only [Tree.run, Option.some.injEq, Prod.mk.injEq] at hr
    obtain ⟨rfl, rfl⟩ := hr
    exact call_ok1 hs (fun k => (([a1.av F] : List AV)[k]?).getD .top) [.agg [.int .i64 v22, .int .i64 v23, a1]] [.agg [.int .i64 v22, .int .i64 v23, .bslc (BR.root 0) (.f32 v24)]] (fun F' h0 hi hρ => ⟨by simp [DVs.av, DV.av, BR.av, hρ], laws_toMatrix_fn v22 v23 v24 F' (by rw [hi]; rfl) (st_nil hi) ⟨⟨trivial, trivial, bslc_ok hi (by rw [h0, hρ]; exact rowF32_ok hs (DVs.okAt (DVs.okAt ha 0 rfl) 2 rfl) hv24), trivial⟩, trivial⟩ hy⟩) rfl rfl
  · cases hr
/-! laws.toInt64S -/
noncomputable def laws_toInt64S_l0_T (v34 : List Int) (s : Int × (List Int)) : Tree ((Int × (List Int)) ⊕ ((List Int))) :=
  (.br (decide (s.1 < ((v34.length : Nat) : Int))) (
   (.grd (inb s.1 v34.length) <|
   (.grd (inb s.1 ((s.2).length)) <|
   .leaf (.inl (IntKind.i64.wrap (s.1 + (1 : Int)), List.set s.2 (Int.toNat s.1) (nth v34 (Int.toNat s.1))))))
  ) (
   .leaf (.inr s.2)
  ))

noncomputable def laws_toInt64S_l0_g (v34 : List Int) (s0 : Int × (List Int)) : Option ((List Int)) := whileM (fun s => (laws_toInt64S_l0_T v34 s).run) s0
def laws_toInt64S_l0_E (v34 : List Int) (s : Int × (List Int)) : Sd := ([.bslc (BR.root 0) (.i64 v34), .top, .top, .own 0 0 ((s.2).length), .int .i64 s.1, .top, .top, .top, .top, .top, .top, .top, .top, .top, .top, .top, .top, .top, .top, .top, .top, .top], [.row (.i64 s.2) 0])
def laws_toInt64S_l0_X (v34 : List Int) (x : (List Int)) : Out := (.normal, [.top, .top, .top, .own 0 0 ((x).length), .top, .top, .top, .top, .top, .top, .top, .top, .top, .top, .top, .top, .top, .top, .top, .top, .top, .top], [.row (.i64 x) 0])
def laws_toInt64S_l0_kill : List Nat := [0, 1, 1, 0, 0, 1, 1, 1, 1, 1, 1, 1, 1, 1, 1, 1, 1, 1, 1, 1, 1, 1]
def laws_toInt64S_l0_nx : Exit → List Nat
  | .exit 0 => [1, 1, 1, 0, 1, 1, 1, 1, 1, 1, 1, 1, 1, 1, 1, 1, 1, 1, 1, 1, 1, 1]
  | .ret => [1, 1, 0, 1, 1, 1, 1, 1, 1, 1, 1, 1, 1, 1, 1, 1, 1, 1, 1, 1, 1, 1]
  | _ => []
noncomputable def laws_toInt64S_LO (v34 : List Int) : LOr := fun id e L =>
  match id with
  | 0 => .need (normA 0 laws_toInt64S_l0_kill e L = some (laws_toInt64S_l0_E v34 ((gI (vAt e 4)), (gRI L (vAt e 3))))) (.call (laws_toInt64S_l0_g v34 ((gI (vAt e 4)), (gRI L (vAt e 3)))) fun x => .leaf (laws_toInt64S_l0_X v34 x))
  | _ => .fail
noncomputable def laws_toInt64S_tab : List (FuncId × DFn × Bool) := []
theorem laws_toInt64S_hO : OrcOk Try.prog (tabD laws_toInt64S_tab) (tabM laws_toInt64S_tab) := tabD_nil _
theorem laws_toInt64S_l0_be (v34 : List Int) (s : Int × (List Int)) : bodyT TT (tabD laws_toInt64S_tab) (tabM laws_toInt64S_tab) (laws_toInt64S_LO v34) 0 laws_toInt64S_l0_kill laws_toInt64S_l0_nx (bodyOf Try.f42 0) 0 (laws_toInt64S_l0_E v34 s) = (laws_toInt64S_l0_T v34 s).bind fun y => .leaf (outS (laws_toInt64S_l0_E v34) (laws_toInt64S_l0_X v34) y) := by kernel_rfl
theorem laws_toInt64S_l0_ok (v34 : List Int) : LSound Try.prog 0 (laws_toInt64S_LO v34) 0 (bodyOf Try.f42 0) := by
  intro e L out h
  exact lo_ok (E := laws_toInt64S_l0_E v34) (gT := laws_toInt64S_l0_T v34) (X := laws_toInt64S_l0_X v34) (s0 := ((gI (vAt e 4)), (gRI L (vAt e 3)))) tok laws_toInt64S_hO mixed (LoopsOk_eq (l := []) (by kernel_rfl) trivial) (laws_toInt64S_l0_be v34) rfl (by intro x; rfl) h
noncomputable def laws_toInt64S_T (v34 : List Int) : Tree ((List Int)) :=
  (.need (((v34.length : Nat) : Int) = ((v34.length : Nat) : Int)) <|
  (.grd (inb ((v34.length : Nat) : Int) (maxN + 1)) <|
  (.need (some (laws_toInt64S_l0_E v34 ((0 : Int), List.replicate (Int.toNat ((v34.length : Nat) : Int)) (0 : Int))) = some (laws_toInt64S_l0_E v34 ((0 : Int), List.replicate (Int.toNat ((v34.length : Nat) : Int)) (0 : Int)))) <|
  (.call (laws_toInt64S_l0_g v34 ((0 : Int), List.replicate (Int.toNat ((v34.length : Nat) : Int)) (0 : Int))) fun v40 =>
  .leaf v40))))

noncomputable def laws_toInt64S_g (v34 : List Int) : Option ((List Int)) := (laws_toInt64S_T v34).run
def laws_toInt64S_enc (v34 : List Int) (y : (List Int)) : Rs := (.own 0 0 ((y).length), [.row (.i64 y) 0])
theorem laws_toInt64S_den (v34 : List Int) : (den TT (tabD laws_toInt64S_tab) (tabM laws_toInt64S_tab) (laws_toInt64S_LO v34) (codeOf Try.f42) ([.bslc (BR.root 0) (.i64 v34)] ++ List.replicate (Try.f42.ntmps - ([.bslc (BR.root 0) (.i64 v34)] : List DV).length) .undef) []).bind (retD TT Try.f42.results.toList 0) = (laws_toInt64S_T v34).bind fun y => .leaf (laws_toInt64S_enc v34 y) := by kernel_rfl
theorem laws_toInt64S_fn (v34 : List Int) (F : Fr) (hm : F.ids.length = 0) (h0 : St F [] F.H0) (hA : DVs.Ok F [] [.bslc (BR.root 0) (.i64 v34)]) {y : (List Int)} (hy : laws_toInt64S_g v34 = some y) : ∃ H', FnOk Try.prog 42 (DVs.av F [.bslc (BR.root 0) (.i64 v34)]) F.H0 ((laws_toInt64S_enc v34 y).1.av F) H' ∧ St F (laws_toInt64S_enc v34 y).2 H' ∧ (laws_toInt64S_enc v34 y).1.Ok F (laws_toInt64S_enc v34 y).2 :=
  fn_fin tok laws_toInt64S_hO mixed Try.func42 Try.call42 (by kernel_rfl) (LoopsOk_eq (l := [(0, bodyOf Try.f42 0)]) (by kernel_rfl) ⟨laws_toInt64S_l0_ok v34, trivial⟩) (laws_toInt64S_den v34) hy hm h0 hA
noncomputable def laws_toInt64S_F : DFn := fun args L =>
  match args with
  | [a1] =>
    optT (rowI64 L a1) fun v34 =>
    .call (laws_toInt64S_g v34) fun y => .leaf (.own (L.length + 0) 0 ((y).length), L ++ [.row (.i64 y) 0])
  | _ => .fail
theorem laws_toInt64S_Fok : COk Try.prog 42 laws_toInt64S_F true := by
  intro F L H args r L' hs ha hr
  unfold laws_toInt64S_F at hr
  split at hr
  · rename_i a1
    obtain ⟨v34, hv34, hr⟩ := optT_run hr
    simp only [Tree.run] at hr
    obtain ⟨y, hy, hr⟩ := Option.bind_eq_some_iff.1 hr
    simp only [Tree.run, Option.some.injEq, Prod.mk.injEq] at hr
    obtain ⟨rfl, rfl⟩ := hr
    exact call_ok1 hs (fun k => (([a1.av F] : List AV)[k]?).getD .top) [a1] [.bslc (BR.root 0) (.i64 v34)] (fun F' h0 hi hρ => ⟨by simp [DVs.av, DV.av, BR.av, hρ], laws_toInt64S_fn v34 F' (by rw [hi]; rfl) (st_nil hi) ⟨bslc_ok hi (by rw [h0, hρ]; exact rowI64_ok hs (DVs.okAt ha 0 rfl) hv34), trivial⟩ hy⟩) rfl rfl
  · cases hr
/-! laws.toFactor -/
noncomputable def laws_toFactor_LO (v18 : Int) (v19 : Int) (v20 : List Nat) (v21 : List Int) : LOr := fun id e L =>
  match id with
  | _ => .fail
noncomputable def laws_toFactor_tab : List (FuncId × DFn × Bool) := [(31, laws_toMatrix_F, true), (42, laws_toInt64S_F, true)]
theorem laws_toFactor_hO : OrcOk Try.prog (tabD laws_toFactor_tab) (tabM laws_toFactor_tab) := tabD_cons laws_toMatrix_Fok (tabD_cons laws_toInt64S_Fok (tabD_nil _))
noncomputable def laws_toFactor_T (v18 : Int) (v19 : Int) (v20 : List Nat) (v21 : List Int) : Tree (Int × Int × (List Nat) × (List Int)) :=
  (.call (laws_toMatrix_g v18 v19 v20) fun v33 =>
  (.call (laws_toInt64S_g v21) fun v41 =>
  .leaf (v33.1, v33.2.1, v33.2.2, v41)))

noncomputable def laws_toFactor_g (v18 : Int) (v19 : Int) (v20 : List Nat) (v21 : List Int) : Option (Int × Int × (List Nat) × (List Int)) := (laws_toFactor_T v18 v19 v20 v21).run
def laws_toFactor_enc (v18 : Int) (v19 : Int) (v20 : List Nat) (v21 : List Int) (y : Int × Int × (List Nat) × (List Int)) : Rs := (.agg [.int .i64 y.1, .int .i64 y.2.1, .own 0 0 ((y.2.2.1).length), .own 1 0 ((y.2.2.2).length)], [.row (.f32 y.2.2.1) 0, .row (.i64 y.2.2.2) 0])
theorem laws_toFactor_den (v18 : Int) (v19 : Int) (v20 : List Nat) (v21 : List Int) : (den TT (tabD laws_toFactor_tab) (tabM laws_toFactor_tab) (laws_toFactor_LO v18 v19 v20 v21) (codeOf Try.f48) ([.agg [.int .i64 v18, .int .i64 v19, .bslc (BR.root 0) (.f32 v20), .bslc (BR.root 1) (.i64 v21)]] ++ List.replicate (Try.f48.ntmps - ([.agg [.int .i64 v18, .int .i64 v19, .bslc (BR.root 0) (.f32 v20), .bslc (BR.root 1) (.i64 v21)]] : List DV).length) .undef) []).bind (retD TT Try.f48.results.toList 0) = (laws_toFactor_T v18 v19 v20 v21).bind fun y => .leaf (laws_toFactor_enc v18 v19 v20 v21 y) := by kernel_rfl
theorem laws_toFactor_fn (v18 : Int) (v19 : Int) (v20 : List Nat) (v21 : List Int) (F : Fr) (hm : F.ids.length = 0) (h0 : St F [] F.H0) (hA : DVs.Ok F [] [.agg [.int .i64 v18, .int .i64 v19, .bslc (BR.root 0) (.f32 v20), .bslc (BR.root 1) (.i64 v21)]]) {y : Int × Int × (List Nat) × (List Int)} (hy : laws_toFactor_g v18 v19 v20 v21 = some y) : ∃ H', FnOk Try.prog 48 (DVs.av F [.agg [.int .i64 v18, .int .i64 v19, .bslc (BR.root 0) (.f32 v20), .bslc (BR.root 1) (.i64 v21)]]) F.H0 ((laws_toFactor_enc v18 v19 v20 v21 y).1.av F) H' ∧ St F (laws_toFactor_enc v18 v19 v20 v21 y).2 H' ∧ (laws_toFactor_enc v18 v19 v20 v21 y).1.Ok F (laws_toFactor_enc v18 v19 v20 v21 y).2 :=
  fn_fin tok laws_toFactor_hO mixed Try.func48 Try.call48 (by kernel_rfl) (LoopsOk_eq (l := []) (by kernel_rfl) trivial) (laws_toFactor_den v18 v19 v20 v21) hy hm h0 hA
noncomputable def laws_toFactor_F : DFn := fun args L =>
  match args with
  | [.agg [.int .i64 v18, .int .i64 v19, a1, a2]] =>
    optT (rowF32 L a1) fun v20 =>
    optT (rowI64 L a2) fun v21 =>
    .call (laws_toFactor_g v18 v19 v20 v21) fun y => .leaf (.agg [.int .i64 y.1, .int .i64 y.2.1, .own (L.length + 0) 0 ((y.2.2.1).length), .own (L.length + 1) 0 ((y.2.2.2).length)], L ++ [.row (.f32 y.2.2.1) 0, .row (.i64 y.2.2.2) 0])
  | _ => .fail
theorem laws_toFactor_Fok : COk Try.prog 48 laws_toFactor_F true := by
  intro F L H args r L' hs ha hr
  unfold laws_toFactor_F at hr
  split at hr
  · rename_i v18 v19 a1 a2
    obtain ⟨v20, hv20, hr⟩ := optT_run hr
    obtain ⟨v21, hv21, hr⟩ := optT_run hr
    simp only [Tree.run] at hr
    obtain ⟨y, hy, hr⟩ := Option.bind_eq_some_iff.1 hr
    simp only [Tree.run, Option.some.injEq, Prod.mk.injEq] at hr
    obtain ⟨rfl, rfl⟩ := hr
    exact call_ok1 hs (fun k => (([a1.av F, a2.av F] : List AV)[k]?).getD .top) [.agg [.int .i64 v18, .int .i64 v19, a1, a2]] [.agg [.int .i64 v18, .int .i64 v19, .bslc (BR.root 0) (.f32 v20), .bslc (BR.root 1) (.i64 v21)]] (fun F' h0 hi hρ => ⟨by simp [DVs.av, DV.av, BR.av, hρ], laws_toFactor_fn v18 v19 v20 v21 F' (by rw [hi]; rfl) (st_nil hi) ⟨⟨trivial, trivial, bslc_ok hi (by rw [h0, hρ]; exact rowF32_ok hs (DVs.okAt (DVs.okAt ha 0 rfl) 2 rfl) hv20), bslc_ok hi (by rw [h0, hρ]; exact rowI64_ok hs (DVs.okAt (DVs.okAt ha 0 rfl) 3 rfl) hv21), trivial⟩, trivial⟩ hy⟩) rfl rfl
  · cases hr
/-! spec.l00In -/
noncomputable def spec_l00In_LO (v59 : Int) (v60 : Int) (v61 : Int) : LOr := fun id e L =>
  match id with
  | _ => .fail
noncomputable def spec_l00In_tab : List (FuncId × DFn × Bool) := []
theorem spec_l00In_hO : OrcOk Try.prog (tabD spec_l00In_tab) (tabM spec_l00In_tab) := tabD_nil _
noncomputable def spec_l00In_T (v59 : Int) (v60 : Int) (v61 : Int) : Tree (Bool) :=
  (.br (decide (v60 ≤ v59)) (
   .leaf (decide (v59 ≤ v61))
  ) (
   .leaf false
  ))

noncomputable def spec_l00In_g (v59 : Int) (v60 : Int) (v61 : Int) : Option (Bool) := (spec_l00In_T v59 v60 v61).run
def spec_l00In_enc (v59 : Int) (v60 : Int) (v61 : Int) (y : Bool) : Rs := (.bool y, [])
theorem spec_l00In_den (v59 : Int) (v60 : Int) (v61 : Int) : (den TT (tabD spec_l00In_tab) (tabM spec_l00In_tab) (spec_l00In_LO v59 v60 v61) (codeOf Try.f71) ([.int .i64 v59, .int .i64 v60, .int .i64 v61] ++ List.replicate (Try.f71.ntmps - ([.int .i64 v59, .int .i64 v60, .int .i64 v61] : List DV).length) .undef) []).bind (retD TT Try.f71.results.toList 0) = (spec_l00In_T v59 v60 v61).bind fun y => .leaf (spec_l00In_enc v59 v60 v61 y) := by kernel_rfl
theorem spec_l00In_fn (v59 : Int) (v60 : Int) (v61 : Int) (F : Fr) (hm : F.ids.length = 0) (h0 : St F [] F.H0) (hA : DVs.Ok F [] [.int .i64 v59, .int .i64 v60, .int .i64 v61]) {y : Bool} (hy : spec_l00In_g v59 v60 v61 = some y) : ∃ H', FnOk Try.prog 71 (DVs.av F [.int .i64 v59, .int .i64 v60, .int .i64 v61]) F.H0 ((spec_l00In_enc v59 v60 v61 y).1.av F) H' ∧ St F (spec_l00In_enc v59 v60 v61 y).2 H' ∧ (spec_l00In_enc v59 v60 v61 y).1.Ok F (spec_l00In_enc v59 v60 v61 y).2 :=
  fn_fin tok spec_l00In_hO mixed Try.func71 Try.call71 (by kernel_rfl) (LoopsOk_eq (l := []) (by kernel_rfl) trivial) (spec_l00In_den v59 v60 v61) hy hm h0 hA
def spec_l00In_v (v59 : Int) (v60 : Int) (v61 : Int) : Bool :=
  if (decide (v60 ≤ v59)) = true then (
   decide (v59 ≤ v61)
  ) else (
   false
  )
theorem spec_l00In_tot (v59 : Int) (v60 : Int) (v61 : Int) : spec_l00In_g v59 v60 v61 = some (spec_l00In_v v59 v60 v61) := by
  unfold spec_l00In_g spec_l00In_T spec_l00In_v
  simp only [Tree.run]
  repeat' (first | rfl | split)
noncomputable def spec_l00In_F : DFn := fun args L =>
  match args with
  | [.int .i64 v59, .int .i64 v60, .int .i64 v61] =>
    .leaf (.bool (spec_l00In_v v59 v60 v61), L)
  | _ => .fail
theorem spec_l00In_Fok : COk Try.prog 71 spec_l00In_F true := by
  intro F L H args r L' hs ha hr
  unfold spec_l00In_F at hr
  split at hr
  · rename_i v59 v60 v61
    have hy := spec_l00In_tot v59 v60 v61
    generalize spec_l00In_v v59 v60 v61 = y at hy hr
    simp only [Tree.run, Option.some.injEq, Prod.mk.injEq] at hr
    obtain ⟨rfl, rfl⟩ := hr
    exact call_ok0 hs (fun k => (([] : List AV)[k]?).getD .top) [.int .i64 v59, .int .i64 v60, .int .i64 v61] [.int .i64 v59, .int .i64 v60, .int .i64 v61] (fun F' h0 hi hρ => ⟨by simp [DVs.av, DV.av, BR.av, hρ], spec_l00In_fn v59 v60 v61 F' (by rw [hi]; rfl) (st_nil hi) ⟨trivial, trivial, trivial, trivial⟩ hy⟩) rfl
  · cases hr
/-! spec.l02Sides -/
noncomputable def spec_l02Sides_LO (v57 : Int) (v58 : Int) : LOr := fun id e L =>
  match id with
  | _ => .fail
noncomputable def spec_l02Sides_tab : List (FuncId × DFn × Bool) := [(71, spec_l00In_F, true)]
theorem spec_l02Sides_hO : OrcOk Try.prog (tabD spec_l02Sides_tab) (tabM spec_l02Sides_tab) := tabD_cons spec_l00In_Fok (tabD_nil _)
noncomputable def spec_l02Sides_T (v57 : Int) (v58 : Int) : Tree (Bool) :=
  (.br (spec_l00In_v v57 (1 : Int) (12 : Int)) (
   .leaf (spec_l00In_v v58 (1 : Int) (12 : Int))
  ) (
   .leaf false
  ))

noncomputable def spec_l02Sides_g (v57 : Int) (v58 : Int) : Option (Bool) := (spec_l02Sides_T v57 v58).run
def spec_l02Sides_enc (v57 : Int) (v58 : Int) (y : Bool) : Rs := (.bool y, [])
theorem spec_l02Sides_den (v57 : Int) (v58 : Int) : (den TT (tabD spec_l02Sides_tab) (tabM spec_l02Sides_tab) (spec_l02Sides_LO v57 v58) (codeOf Try.f147) ([.int .i64 v57, .int .i64 v58] ++ List.replicate (Try.f147.ntmps - ([.int .i64 v57, .int .i64 v58] : List DV).length) .undef) []).bind (retD TT Try.f147.results.toList 0) = (spec_l02Sides_T v57 v58).bind fun y => .leaf (spec_l02Sides_enc v57 v58 y) := by kernel_rfl
theorem spec_l02Sides_fn (v57 : Int) (v58 : Int) (F : Fr) (hm : F.ids.length = 0) (h0 : St F [] F.H0) (hA : DVs.Ok F [] [.int .i64 v57, .int .i64 v58]) {y : Bool} (hy : spec_l02Sides_g v57 v58 = some y) : ∃ H', FnOk Try.prog 147 (DVs.av F [.int .i64 v57, .int .i64 v58]) F.H0 ((spec_l02Sides_enc v57 v58 y).1.av F) H' ∧ St F (spec_l02Sides_enc v57 v58 y).2 H' ∧ (spec_l02Sides_enc v57 v58 y).1.Ok F (spec_l02Sides_enc v57 v58 y).2 :=
  fn_fin tok spec_l02Sides_hO mixed Try.func147 Try.call147 (by kernel_rfl) (LoopsOk_eq (l := []) (by kernel_rfl) trivial) (spec_l02Sides_den v57 v58) hy hm h0 hA
def spec_l02Sides_v (v57 : Int) (v58 : Int) : Bool :=
  if (spec_l00In_v v57 (1 : Int) (12 : Int)) = true then (
   (spec_l00In_v v58 (1 : Int) (12 : Int))
  ) else (
   false
  )
theorem spec_l02Sides_tot (v57 : Int) (v58 : Int) : spec_l02Sides_g v57 v58 = some (spec_l02Sides_v v57 v58) := by
  unfold spec_l02Sides_g spec_l02Sides_T spec_l02Sides_v
  simp only [Tree.run]
  repeat' (first | rfl | split)
noncomputable def spec_l02Sides_F : DFn := fun args L =>
  match args with
  | [.int .i64 v57, .int .i64 v58] =>
    .leaf (.bool (spec_l02Sides_v v57 v58), L)
  | _ => .fail
theorem spec_l02Sides_Fok : COk Try.prog 147 spec_l02Sides_F true := by
  intro F L H args r L' hs ha hr
  unfold spec_l02Sides_F at hr
  split at hr
  · rename_i v57 v58
    have hy := spec_l02Sides_tot v57 v58
    generalize spec_l02Sides_v v57 v58 = y at hy hr
    simp only [Tree.run, Option.some.injEq, Prod.mk.injEq] at hr
    obtain ⟨rfl, rfl⟩ := hr
    exact call_ok0 hs (fun k => (([] : List AV)[k]?).getD .top) [.int .i64 v57, .int .i64 v58] [.int .i64 v57, .int .i64 v58] (fun F' h0 hi hρ => ⟨by simp [DVs.av, DV.av, BR.av, hρ], spec_l02Sides_fn v57 v58 F' (by rw [hi]; rfl) (st_nil hi) ⟨trivial, trivial, trivial⟩ hy⟩) rfl
  · cases hr
/-! spec.l01Finite -/
noncomputable def spec_l01Finite_LO (v64 : Nat) : LOr := fun id e L =>
  match id with
  | _ => .fail
noncomputable def spec_l01Finite_tab : List (FuncId × DFn × Bool) := []
theorem spec_l01Finite_hO : OrcOk Try.prog (tabD spec_l01Finite_tab) (tabM spec_l01Finite_tab) := tabD_nil _
noncomputable def spec_l01Finite_T (v64 : Nat) : Tree (Bool) :=
  .leaf (feq .f32 (fsub .f32 v64 v64) (0 : Nat))

noncomputable def spec_l01Finite_g (v64 : Nat) : Option (Bool) := (spec_l01Finite_T v64).run
def spec_l01Finite_enc (v64 : Nat) (y : Bool) : Rs := (.bool y, [])
theorem spec_l01Finite_den (v64 : Nat) : (den TT (tabD spec_l01Finite_tab) (tabM spec_l01Finite_tab) (spec_l01Finite_LO v64) (codeOf Try.f100) ([.flt .f32 v64] ++ List.replicate (Try.f100.ntmps - ([.flt .f32 v64] : List DV).length) .undef) []).bind (retD TT Try.f100.results.toList 0) = (spec_l01Finite_T v64).bind fun y => .leaf (spec_l01Finite_enc v64 y) := by kernel_rfl
theorem spec_l01Finite_fn (v64 : Nat) (F : Fr) (hm : F.ids.length = 0) (h0 : St F [] F.H0) (hA : DVs.Ok F [] [.flt .f32 v64]) {y : Bool} (hy : spec_l01Finite_g v64 = some y) : ∃ H', FnOk Try.prog 100 (DVs.av F [.flt .f32 v64]) F.H0 ((spec_l01Finite_enc v64 y).1.av F) H' ∧ St F (spec_l01Finite_enc v64 y).2 H' ∧ (spec_l01Finite_enc v64 y).1.Ok F (spec_l01Finite_enc v64 y).2 :=
  fn_fin tok spec_l01Finite_hO mixed Try.func100 Try.call100 (by kernel_rfl) (LoopsOk_eq (l := []) (by kernel_rfl) trivial) (spec_l01Finite_den v64) hy hm h0 hA
def spec_l01Finite_v (v64 : Nat) : Bool :=
  feq .f32 (fsub .f32 v64 v64) (0 : Nat)
theorem spec_l01Finite_tot (v64 : Nat) : spec_l01Finite_g v64 = some (spec_l01Finite_v v64) := by
  unfold spec_l01Finite_g spec_l01Finite_T spec_l01Finite_v
  simp only [Tree.run]
  repeat' (first | rfl | split)
noncomputable def spec_l01Finite_F : DFn := fun args L =>
  match args with
  | [.flt .f32 v64] =>
    .leaf (.bool (spec_l01Finite_v v64), L)
  | _ => .fail
theorem spec_l01Finite_Fok : COk Try.prog 100 spec_l01Finite_F true := by
  intro F L H args r L' hs ha hr
  unfold spec_l01Finite_F at hr
  split at hr
  · rename_i v64
    have hy := spec_l01Finite_tot v64
    generalize spec_l01Finite_v v64 = y at hy hr
    simp only [Tree.run, Option.some.injEq, Prod.mk.injEq] at hr
    obtain ⟨rfl, rfl⟩ := hr
    exact call_ok0 hs (fun k => (([] : List AV)[k]?).getD .top) [.flt .f32 v64] [.flt .f32 v64] (fun F' h0 hi hρ => ⟨by simp [DVs.av, DV.av, BR.av, hρ], spec_l01Finite_fn v64 F' (by rw [hi]; rfl) (st_nil hi) ⟨trivial, trivial⟩ hy⟩) rfl
  · cases hr
/-! spec.l02Finite -/
noncomputable def spec_l02Finite_l0_T (v62 : List Nat) (s : Int) : Tree ((Int) ⊕ ((Unit) ⊕ (Unit))) :=
  (.br (decide (s < ((v62.length : Nat) : Int))) (
   (.grd (inb s v62.length) <|
   (.br (!(spec_l01Finite_v (nth v62 (Int.toNat s)))) (
    .leaf (.inr (.inl ()))
   ) (
    .leaf (.inl (IntKind.i64.wrap (s + (1 : Int))))
   )))
  ) (
   .leaf (.inr (.inr ()))
  ))

noncomputable def spec_l02Finite_l0_g (v62 : List Nat) (s0 : Int) : Option ((Unit) ⊕ (Unit)) := whileM (fun s => (spec_l02Finite_l0_T v62 s).run) s0
def spec_l02Finite_l0_E (v62 : List Nat) (s : Int) : Sd := ([.bslc (BR.root 0) (.f32 v62), .top, .top, .int .i64 s, .top, .top, .top, .top, .top, .top, .top, .top, .top, .top, .top, .top], [])
def spec_l02Finite_l0_X (v62 : List Nat) (x : (Unit) ⊕ (Unit)) : Out := (match x with | .inl x => (.ret, [.top, .top, .lit false, .top, .top, .top, .top, .top, .top, .top, .top, .top, .top, .top, .top, .top], []) | .inr x => (.normal, [.top, .top, .top, .top, .top, .top, .top, .top, .top, .top, .top, .top, .top, .top, .top, .top], []))
def spec_l02Finite_l0_kill : List Nat := [0, 1, 1, 0, 1, 1, 1, 1, 1, 1, 1, 1, 1, 1, 1, 1]
def spec_l02Finite_l0_nx : Exit → List Nat
  | .exit 0 => [1, 1, 1, 1, 1, 1, 1, 1, 1, 1, 1, 1, 1, 1, 1, 1]
  | .ret => [1, 1, 0, 1, 1, 1, 1, 1, 1, 1, 1, 1, 1, 1, 1, 1]
  | _ => []
noncomputable def spec_l02Finite_LO (v62 : List Nat) : LOr := fun id e L =>
  match id with
  | 0 => .need (normA 0 spec_l02Finite_l0_kill e L = some (spec_l02Finite_l0_E v62 (gI (vAt e 3)))) (.call (spec_l02Finite_l0_g v62 (gI (vAt e 3))) fun x => .sum x (fun b0 => .leaf (spec_l02Finite_l0_X v62 (.inl b0))) (fun c0 => .leaf (spec_l02Finite_l0_X v62 (.inr c0))))
  | _ => .fail
noncomputable def spec_l02Finite_tab : List (FuncId × DFn × Bool) := [(100, spec_l01Finite_F, true)]
theorem spec_l02Finite_hO : OrcOk Try.prog (tabD spec_l02Finite_tab) (tabM spec_l02Finite_tab) := tabD_cons spec_l01Finite_Fok (tabD_nil _)
theorem spec_l02Finite_l0_be (v62 : List Nat) (s : Int) : bodyT TT (tabD spec_l02Finite_tab) (tabM spec_l02Finite_tab) (spec_l02Finite_LO v62) 0 spec_l02Finite_l0_kill spec_l02Finite_l0_nx (bodyOf Try.f131 0) 0 (spec_l02Finite_l0_E v62 s) = (spec_l02Finite_l0_T v62 s).bind fun y => .leaf (outS (spec_l02Finite_l0_E v62) (spec_l02Finite_l0_X v62) y) := by kernel_rfl
theorem spec_l02Finite_l0_ok (v62 : List Nat) : LSound Try.prog 0 (spec_l02Finite_LO v62) 0 (bodyOf Try.f131 0) := by
  intro e L out h
  exact lo_ok (E := spec_l02Finite_l0_E v62) (gT := spec_l02Finite_l0_T v62) (X := spec_l02Finite_l0_X v62) (s0 := (gI (vAt e 3))) tok spec_l02Finite_hO mixed (LoopsOk_eq (l := []) (by kernel_rfl) trivial) (spec_l02Finite_l0_be v62) rfl (by intro x; (cases x with | inl b => rfl | inr x => exact rfl)) h
noncomputable def spec_l02Finite_T (v62 : List Nat) : Tree (Bool) :=
  (.need (some (spec_l02Finite_l0_E v62 (0 : Int)) = some (spec_l02Finite_l0_E v62 (0 : Int))) <|
  (.call (spec_l02Finite_l0_g v62 (0 : Int)) fun v67 =>
  (.sum v67 (fun v68 =>
   .leaf false
  ) (fun v69 =>
   .leaf true
  ))))

noncomputable def spec_l02Finite_g (v62 : List Nat) : Option (Bool) := (spec_l02Finite_T v62).run
def spec_l02Finite_enc (v62 : List Nat) (y : Bool) : Rs := (.bool y, [])
theorem spec_l02Finite_den (v62 : List Nat) : (den TT (tabD spec_l02Finite_tab) (tabM spec_l02Finite_tab) (spec_l02Finite_LO v62) (codeOf Try.f131) ([.bslc (BR.root 0) (.f32 v62)] ++ List.replicate (Try.f131.ntmps - ([.bslc (BR.root 0) (.f32 v62)] : List DV).length) .undef) []).bind (retD TT Try.f131.results.toList 0) = (spec_l02Finite_T v62).bind fun y => .leaf (spec_l02Finite_enc v62 y) := by kernel_rfl
theorem spec_l02Finite_fn (v62 : List Nat) (F : Fr) (hm : F.ids.length = 0) (h0 : St F [] F.H0) (hA : DVs.Ok F [] [.bslc (BR.root 0) (.f32 v62)]) {y : Bool} (hy : spec_l02Finite_g v62 = some y) : ∃ H', FnOk Try.prog 131 (DVs.av F [.bslc (BR.root 0) (.f32 v62)]) F.H0 ((spec_l02Finite_enc v62 y).1.av F) H' ∧ St F (spec_l02Finite_enc v62 y).2 H' ∧ (spec_l02Finite_enc v62 y).1.Ok F (spec_l02Finite_enc v62 y).2 :=
  fn_fin tok spec_l02Finite_hO mixed Try.func131 Try.call131 (by kernel_rfl) (LoopsOk_eq (l := [(0, bodyOf Try.f131 0)]) (by kernel_rfl) ⟨spec_l02Finite_l0_ok v62, trivial⟩) (spec_l02Finite_den v62) hy hm h0 hA
noncomputable def spec_l02Finite_F : DFn := fun args L =>
  match args with
  | [a1] =>
    optT (rowF32 L a1) fun v62 =>
    .call (spec_l02Finite_g v62) fun y => .leaf (.bool y, L)
  | _ => .fail
theorem spec_l02Finite_Fok : COk Try.prog 131 spec_l02Finite_F true := by
  intro F L H args r L' hs ha hr
  unfold spec_l02Finite_F at hr
  split at hr
  · rename_i a1
    obtain ⟨v62, hv62, hr⟩ := optT_run hr
    simp only [Tree.run] at hr
    obtain ⟨y, hy, hr⟩ := Option.bind_eq_some_iff.1 hr
    simp only [Tree.run, Option.some.injEq, Prod.mk.injEq] at hr
    obtain ⟨rfl, rfl⟩ := hr
    exact call_ok0 hs (fun k => (([a1.av F] : List AV)[k]?).getD .top) [a1] [.bslc (BR.root 0) (.f32 v62)] (fun F' h0 hi hρ => ⟨by simp [DVs.av, DV.av, BR.av, hρ], spec_l02Finite_fn v62 F' (by rw [hi]; rfl) (st_nil hi) ⟨bslc_ok hi (by rw [h0, hρ]; exact rowF32_ok hs (DVs.okAt ha 0 rfl) hv62), trivial⟩ hy⟩) rfl
  · cases hr
/-! spec.l02Is -/
noncomputable def spec_l02Is_LO (v54 : Int) (v55 : Int) (v56 : List Nat) : LOr := fun id e L =>
  match id with
  | _ => .fail
noncomputable def spec_l02Is_tab : List (FuncId × DFn × Bool) := [(147, spec_l02Sides_F, true), (131, spec_l02Finite_F, true)]
theorem spec_l02Is_hO : OrcOk Try.prog (tabD spec_l02Is_tab) (tabM spec_l02Is_tab) := tabD_cons spec_l02Sides_Fok (tabD_cons spec_l02Finite_Fok (tabD_nil _))
noncomputable def spec_l02Is_T (v54 : Int) (v55 : Int) (v56 : List Nat) : Tree (Bool) :=
  (.br (spec_l02Sides_v v54 v55) (
   (.br (decide (((v56.length : Nat) : Int) = IntKind.i64.wrap (v54 * v55))) (
    (.call (spec_l02Finite_g v56) fun v70 =>
    .leaf v70)
   ) (
    .leaf false
   ))
  ) (
   .leaf false
  ))

noncomputable def spec_l02Is_g (v54 : Int) (v55 : Int) (v56 : List Nat) : Option (Bool) := (spec_l02Is_T v54 v55 v56).run
def spec_l02Is_enc (v54 : Int) (v55 : Int) (v56 : List Nat) (y : Bool) : Rs := (.bool y, [])
theorem spec_l02Is_den (v54 : Int) (v55 : Int) (v56 : List Nat) : (den TT (tabD spec_l02Is_tab) (tabM spec_l02Is_tab) (spec_l02Is_LO v54 v55 v56) (codeOf Try.f99) ([.bptr (BR.root 0) [.int .i64 v54, .int .i64 v55, .bslc (BR.root 1) (.f32 v56)]] ++ List.replicate (Try.f99.ntmps - ([.bptr (BR.root 0) [.int .i64 v54, .int .i64 v55, .bslc (BR.root 1) (.f32 v56)]] : List DV).length) .undef) []).bind (retD TT Try.f99.results.toList 0) = (spec_l02Is_T v54 v55 v56).bind fun y => .leaf (spec_l02Is_enc v54 v55 v56 y) := by kernel_rfl
theorem spec_l02Is_fn (v54 : Int) (v55 : Int) (v56 : List Nat) (F : Fr) (hm : F.ids.length = 0) (h0 : St F [] F.H0) (hA : DVs.Ok F [] [.bptr (BR.root 0) [.int .i64 v54, .int .i64 v55, .bslc (BR.root 1) (.f32 v56)]]) {y : Bool} (hy : spec_l02Is_g v54 v55 v56 = some y) : ∃ H', FnOk Try.prog 99 (DVs.av F [.bptr (BR.root 0) [.int .i64 v54, .int .i64 v55, .bslc (BR.root 1) (.f32 v56)]]) F.H0 ((spec_l02Is_enc v54 v55 v56 y).1.av F) H' ∧ St F (spec_l02Is_enc v54 v55 v56 y).2 H' ∧ (spec_l02Is_enc v54 v55 v56 y).1.Ok F (spec_l02Is_enc v54 v55 v56 y).2 :=
  fn_fin tok spec_l02Is_hO mixed Try.func99 Try.call99 (by kernel_rfl) (LoopsOk_eq (l := []) (by kernel_rfl) trivial) (spec_l02Is_den v54 v55 v56) hy hm h0 hA
noncomputable def spec_l02Is_F : DFn := fun args L =>
  match args with
  | [a1] =>
    optT (cellsOf L 3 a1) fun cs0 =>
    (match cs0 with
    | [.int .i64 v54, .int .i64 v55, a2] =>
    optT (rowF32 L a2) fun v56 =>
    .call (spec_l02Is_g v54 v55 v56) fun y => .leaf (.bool y, L)
    | _ => .fail)
  | _ => .fail
theorem spec_l02Is_Fok : COk Try.prog 99 spec_l02Is_F true := by
  intro F L H args r L' hs ha hr
  unfold spec_l02Is_F at hr
  split at hr
  · rename_i a1
    obtain ⟨cs0, hcp0, hr⟩ := optT_run hr
    split at hr
    · rename_i v54 v55 a2
      obtain ⟨v56, hv56, hr⟩ := optT_run hr
      simp only [Tree.run] at hr
      obtain ⟨y, hy, hr⟩ := Option.bind_eq_some_iff.1 hr
      simp only [Tree.run, Option.some.injEq, Prod.mk.injEq] at hr
      obtain ⟨rfl, rfl⟩ := hr
      exact call_ok0 hs (fun k => (([a1.av F, a2.av F] : List AV)[k]?).getD .top) [a1] [.bptr (BR.root 0) [.int .i64 v54, .int .i64 v55, .bslc (BR.root 1) (.f32 v56)]] (fun F' h0 hi hρ => ⟨by simp [DVs.av, DV.av, BR.av, hρ], spec_l02Is_fn v54 v55 v56 F' (by rw [hi]; rfl) (st_nil hi) ⟨bptr_ok hi (by rw [h0]; simpa [DVs.av, DV.av, BR.av, hρ] using (cellsOf_ok hs (DVs.okAt ha 0 rfl) hcp0).1) ⟨trivial, trivial, bslc_ok hi (by rw [h0, hρ]; exact rowF32_ok hs (DVs.okAt (cellsOf_ok hs (DVs.okAt ha 0 rfl) hcp0).2 2 rfl) hv56), trivial⟩, trivial⟩ hy⟩) rfl
    · cases hr
  · cases hr
/-! spec.l02Square -/
noncomputable def spec_l02Square_LO (v51 : Int) (v52 : Int) (v53 : List Nat) : LOr := fun id e L =>
  match id with
  | _ => .fail
noncomputable def spec_l02Square_tab : List (FuncId × DFn × Bool) := [(99, spec_l02Is_F, true)]
theorem spec_l02Square_hO : OrcOk Try.prog (tabD spec_l02Square_tab) (tabM spec_l02Square_tab) := tabD_cons spec_l02Is_Fok (tabD_nil _)
noncomputable def spec_l02Square_T (v51 : Int) (v52 : Int) (v53 : List Nat) : Tree (Bool) :=
  (.call (spec_l02Is_g v51 v52 v53) fun v71 =>
  (.br v71 (
   .leaf (decide (v51 = v52))
  ) (
   .leaf false
  )))

noncomputable def spec_l02Square_g (v51 : Int) (v52 : Int) (v53 : List Nat) : Option (Bool) := (spec_l02Square_T v51 v52 v53).run
def spec_l02Square_enc (v51 : Int) (v52 : Int) (v53 : List Nat) (y : Bool) : Rs := (.bool y, [])
theorem spec_l02Square_den (v51 : Int) (v52 : Int) (v53 : List Nat) : (den TT (tabD spec_l02Square_tab) (tabM spec_l02Square_tab) (spec_l02Square_LO v51 v52 v53) (codeOf Try.f82) ([.bptr (BR.root 0) [.int .i64 v51, .int .i64 v52, .bslc (BR.root 1) (.f32 v53)]] ++ List.replicate (Try.f82.ntmps - ([.bptr (BR.root 0) [.int .i64 v51, .int .i64 v52, .bslc (BR.root 1) (.f32 v53)]] : List DV).length) .undef) []).bind (retD TT Try.f82.results.toList 0) = (spec_l02Square_T v51 v52 v53).bind fun y => .leaf (spec_l02Square_enc v51 v52 v53 y) := by kernel_rfl
theorem spec_l02Square_fn (v51 : Int) (v52 : Int) (v53 : List Nat) (F : Fr) (hm : F.ids.length = 0) (h0 : St F [] F.H0) (hA : DVs.Ok F [] [.bptr (BR.root 0) [.int .i64 v51, .int .i64 v52, .bslc (BR.root 1) (.f32 v53)]]) {y : Bool} (hy : spec_l02Square_g v51 v52 v53 = some y) : ∃ H', FnOk Try.prog 82 (DVs.av F [.bptr (BR.root 0) [.int .i64 v51, .int .i64 v52, .bslc (BR.root 1) (.f32 v53)]]) F.H0 ((spec_l02Square_enc v51 v52 v53 y).1.av F) H' ∧ St F (spec_l02Square_enc v51 v52 v53 y).2 H' ∧ (spec_l02Square_enc v51 v52 v53 y).1.Ok F (spec_l02Square_enc v51 v52 v53 y).2 :=
  fn_fin tok spec_l02Square_hO mixed Try.func82 Try.call82 (by kernel_rfl) (LoopsOk_eq (l := []) (by kernel_rfl) trivial) (spec_l02Square_den v51 v52 v53) hy hm h0 hA
noncomputable def spec_l02Square_F : DFn := fun args L =>
  match args with
  | [a1] =>
    optT (cellsOf L 3 a1) fun cs0 =>
    (match cs0 with
    | [.int .i64 v51, .int .i64 v52, a2] =>
    optT (rowF32 L a2) fun v53 =>
    .call (spec_l02Square_g v51 v52 v53) fun y => .leaf (.bool y, L)
    | _ => .fail)
  | _ => .fail
theorem spec_l02Square_Fok : COk Try.prog 82 spec_l02Square_F true := by
  intro F L H args r L' hs ha hr
  unfold spec_l02Square_F at hr
  split at hr
  · rename_i a1
    obtain ⟨cs0, hcp0, hr⟩ := optT_run hr
    split at hr
    · rename_i v51 v52 a2
      obtain ⟨v53, hv53, hr⟩ := optT_run hr
      simp only [Tree.run] at hr
      obtain ⟨y, hy, hr⟩ := Option.bind_eq_some_iff.1 hr
      simp only [Tree.run, Option.some.injEq, Prod.mk.injEq] at hr
      obtain ⟨rfl, rfl⟩ := hr
      exact call_ok0 hs (fun k => (([a1.av F, a2.av F] : List AV)[k]?).getD .top) [a1] [.bptr (BR.root 0) [.int .i64 v51, .int .i64 v52, .bslc (BR.root 1) (.f32 v53)]] (fun F' h0 hi hρ => ⟨by simp [DVs.av, DV.av, BR.av, hρ], spec_l02Square_fn v51 v52 v53 F' (by rw [hi]; rfl) (st_nil hi) ⟨bptr_ok hi (by rw [h0]; simpa [DVs.av, DV.av, BR.av, hρ] using (cellsOf_ok hs (DVs.okAt ha 0 rfl) hcp0).1) ⟨trivial, trivial, bslc_ok hi (by rw [h0, hρ]; exact rowF32_ok hs (DVs.okAt (cellsOf_ok hs (DVs.okAt ha 0 rfl) hcp0).2 2 rfl) hv53), trivial⟩, trivial⟩ hy⟩) rfl
    · cases hr
  · cases hr
/-! spec.l02Order -/
noncomputable def spec_l02Order_l0_T (v73 : List Int) (s : Int × (List Bool)) : Tree ((Int × (List Bool)) ⊕ ((Unit) ⊕ (Unit))) :=
  (.br (decide (s.1 < ((v73.length : Nat) : Int))) (
   (.grd (inb s.1 v73.length) <|
   (.br (!(spec_l00In_v (nth v73 (Int.toNat s.1)) (0 : Int) (IntKind.i64.wrap (((v73.length : Nat) : Int) - (1 : Int))))) (
    .leaf (.inr (.inl ()))
   ) (
    (.grd (inb s.1 v73.length) <|
    (.grd (inb (nth v73 (Int.toNat s.1)) ((s.2).length)) <|
    (.br (nth s.2 (Int.toNat (nth v73 (Int.toNat s.1)))) (
     .leaf (.inr (.inl ()))
    ) (
     (.grd (inb s.1 v73.length) <|
     (.grd (inb (nth v73 (Int.toNat s.1)) ((s.2).length)) <|
     .leaf (.inl (IntKind.i64.wrap (s.1 + (1 : Int)), List.set s.2 (Int.toNat (nth v73 (Int.toNat s.1))) true))))
    ))))
   )))
  ) (
   .leaf (.inr (.inr ()))
  ))

noncomputable def spec_l02Order_l0_g (v73 : List Int) (s0 : Int × (List Bool)) : Option ((Unit) ⊕ (Unit)) := whileM (fun s => (spec_l02Order_l0_T v73 s).run) s0
def spec_l02Order_l0_E (v73 : List Int) (s : Int × (List Bool)) : Sd := ([.bslc (BR.root 0) (.i64 v73), .top, .top, .own 0 0 ((s.2).length), .int .i64 s.1, .top, .top, .top, .top, .top, .top, .top, .top, .top, .top, .top, .top, .top, .top, .top, .top, .top, .top, .top, .top, .top, .top, .top, .top, .top, .top, .top, .top, .top, .top, .top, .top, .top, .top, .top, .top, .top, .top, .top, .top, .top], [.row (.bool s.2) 0])
def spec_l02Order_l0_X (v73 : List Int) (x : (Unit) ⊕ (Unit)) : Out := (match x with | .inl x => (.ret, [.top, .top, .lit false, .top, .top, .top, .top, .top, .top, .top, .top, .top, .top, .top, .top, .top, .top, .top, .top, .top, .top, .top, .top, .top, .top, .top, .top, .top, .top, .top, .top, .top, .top, .top, .top, .top, .top, .top, .top, .top, .top, .top, .top, .top, .top, .top], []) | .inr x => (.normal, [.top, .top, .top, .top, .top, .top, .top, .top, .top, .top, .top, .top, .top, .top, .top, .top, .top, .top, .top, .top, .top, .top, .top, .top, .top, .top, .top, .top, .top, .top, .top, .top, .top, .top, .top, .top, .top, .top, .top, .top, .top, .top, .top, .top, .top, .top], []))
def spec_l02Order_l0_kill : List Nat := [0, 1, 1, 0, 0, 1, 1, 1, 1, 1, 1, 1, 1, 1, 1, 1, 1, 1, 1, 1, 1, 1, 1, 1, 1, 1, 1, 1, 1, 1, 1, 1, 1, 1, 1, 1, 1, 1, 1, 1, 1, 1, 1, 1, 1, 1]
def spec_l02Order_l0_nx : Exit → List Nat
  | .exit 0 => [1, 1, 1, 1, 1, 1, 1, 1, 1, 1, 1, 1, 1, 1, 1, 1, 1, 1, 1, 1, 1, 1, 1, 1, 1, 1, 1, 1, 1, 1, 1, 1, 1, 1, 1, 1, 1, 1, 1, 1, 1, 1, 1, 1, 1, 1]
  | .ret => [1, 1, 0, 1, 1, 1, 1, 1, 1, 1, 1, 1, 1, 1, 1, 1, 1, 1, 1, 1, 1, 1, 1, 1, 1, 1, 1, 1, 1, 1, 1, 1, 1, 1, 1, 1, 1, 1, 1, 1, 1, 1, 1, 1, 1, 1]
  | _ => []
noncomputable def spec_l02Order_LO (v73 : List Int) : LOr := fun id e L =>
  match id with
  | 0 => .need (normA 0 spec_l02Order_l0_kill e L = some (spec_l02Order_l0_E v73 ((gI (vAt e 4)), (gRB L (vAt e 3))))) (.call (spec_l02Order_l0_g v73 ((gI (vAt e 4)), (gRB L (vAt e 3)))) fun x => .sum x (fun b0 => .leaf (spec_l02Order_l0_X v73 (.inl b0))) (fun c0 => .leaf (spec_l02Order_l0_X v73 (.inr c0))))
  | _ => .fail
noncomputable def spec_l02Order_tab : List (FuncId × DFn × Bool) := [(71, spec_l00In_F, true)]
theorem spec_l02Order_hO : OrcOk Try.prog (tabD spec_l02Order_tab) (tabM spec_l02Order_tab) := tabD_cons spec_l00In_Fok (tabD_nil _)
theorem spec_l02Order_l0_be (v73 : List Int) (s : Int × (List Bool)) : bodyT TT (tabD spec_l02Order_tab) (tabM spec_l02Order_tab) (spec_l02Order_LO v73) 0 spec_l02Order_l0_kill spec_l02Order_l0_nx (bodyOf Try.f106 0) 0 (spec_l02Order_l0_E v73 s) = (spec_l02Order_l0_T v73 s).bind fun y => .leaf (outS (spec_l02Order_l0_E v73) (spec_l02Order_l0_X v73) y) := by kernel_rfl
theorem spec_l02Order_l0_ok (v73 : List Int) : LSound Try.prog 0 (spec_l02Order_LO v73) 0 (bodyOf Try.f106 0) := by
  intro e L out h
  exact lo_ok (E := spec_l02Order_l0_E v73) (gT := spec_l02Order_l0_T v73) (X := spec_l02Order_l0_X v73) (s0 := ((gI (vAt e 4)), (gRB L (vAt e 3)))) tok spec_l02Order_hO mixed (LoopsOk_eq (l := []) (by kernel_rfl) trivial) (spec_l02Order_l0_be v73) rfl (by intro x; (cases x with | inl b => rfl | inr x => exact rfl)) h
noncomputable def spec_l02Order_T (v73 : List Int) : Tree (Bool) :=
  (.br (decide (((v73.length : Nat) : Int) < (1 : Int))) (
   .leaf false
  ) (
   (.br (decide ((12 : Int) < ((v73.length : Nat) : Int))) (
    .leaf false
   ) (
    (.need (((v73.length : Nat) : Int) = ((v73.length : Nat) : Int)) <|
    (.grd (inb ((v73.length : Nat) : Int) (maxN + 1)) <|
    (.need (some (spec_l02Order_l0_E v73 ((0 : Int), List.replicate (Int.toNat ((v73.length : Nat) : Int)) false)) = some (spec_l02Order_l0_E v73 ((0 : Int), List.replicate (Int.toNat ((v73.length : Nat) : Int)) false))) <|
    (.call (spec_l02Order_l0_g v73 ((0 : Int), List.replicate (Int.toNat ((v73.length : Nat) : Int)) false)) fun v79 =>
    (.sum v79 (fun v80 =>
     .leaf false
    ) (fun v81 =>
     .leaf true
    ))))))
   ))
  ))

noncomputable def spec_l02Order_g (v73 : List Int) : Option (Bool) := (spec_l02Order_T v73).run
def spec_l02Order_enc (v73 : List Int) (y : Bool) : Rs := (.bool y, [])
theorem spec_l02Order_den (v73 : List Int) : (den TT (tabD spec_l02Order_tab) (tabM spec_l02Order_tab) (spec_l02Order_LO v73) (codeOf Try.f106) ([.bslc (BR.root 0) (.i64 v73)] ++ List.replicate (Try.f106.ntmps - ([.bslc (BR.root 0) (.i64 v73)] : List DV).length) .undef) []).bind (retD TT Try.f106.results.toList 0) = (spec_l02Order_T v73).bind fun y => .leaf (spec_l02Order_enc v73 y) := by kernel_rfl
theorem spec_l02Order_fn (v73 : List Int) (F : Fr) (hm : F.ids.length = 0) (h0 : St F [] F.H0) (hA : DVs.Ok F [] [.bslc (BR.root 0) (.i64 v73)]) {y : Bool} (hy : spec_l02Order_g v73 = some y) : ∃ H', FnOk Try.prog 106 (DVs.av F [.bslc (BR.root 0) (.i64 v73)]) F.H0 ((spec_l02Order_enc v73 y).1.av F) H' ∧ St F (spec_l02Order_enc v73 y).2 H' ∧ (spec_l02Order_enc v73 y).1.Ok F (spec_l02Order_enc v73 y).2 :=
  fn_fin tok spec_l02Order_hO mixed Try.func106 Try.call106 (by kernel_rfl) (LoopsOk_eq (l := [(0, bodyOf Try.f106 0)]) (by kernel_rfl) ⟨spec_l02Order_l0_ok v73, trivial⟩) (spec_l02Order_den v73) hy hm h0 hA
noncomputable def spec_l02Order_F : DFn := fun args L =>
  match args with
  | [a1] =>
    optT (rowI64 L a1) fun v73 =>
    .call (spec_l02Order_g v73) fun y => .leaf (.bool y, L)
  | _ => .fail
theorem spec_l02Order_Fok : COk Try.prog 106 spec_l02Order_F true := by
  intro F L H args r L' hs ha hr
  unfold spec_l02Order_F at hr
  split at hr
  · rename_i a1
    obtain ⟨v73, hv73, hr⟩ := optT_run hr
    simp only [Tree.run] at hr
    obtain ⟨y, hy, hr⟩ := Option.bind_eq_some_iff.1 hr
    simp only [Tree.run, Option.some.injEq, Prod.mk.injEq] at hr
    obtain ⟨rfl, rfl⟩ := hr
    exact call_ok0 hs (fun k => (([a1.av F] : List AV)[k]?).getD .top) [a1] [.bslc (BR.root 0) (.i64 v73)] (fun F' h0 hi hρ => ⟨by simp [DVs.av, DV.av, BR.av, hρ], spec_l02Order_fn v73 F' (by rw [hi]; rfl) (st_nil hi) ⟨bslc_ok hi (by rw [h0, hρ]; exact rowI64_ok hs (DVs.okAt ha 0 rfl) hv73), trivial⟩ hy⟩) rfl
  · cases hr
/-! spec.l02At -/
noncomputable def spec_l02At_LO (v84 : Int) (v85 : Int) (v86 : List Nat) (v87 : Int) (v88 : Int) : LOr := fun id e L =>
  match id with
  | _ => .fail
noncomputable def spec_l02At_tab : List (FuncId × DFn × Bool) := []
theorem spec_l02At_hO : OrcOk Try.prog (tabD spec_l02At_tab) (tabM spec_l02At_tab) := tabD_nil _
noncomputable def spec_l02At_T (v85 : Int) (v86 : List Nat) (v87 : Int) (v88 : Int) : Tree (Nat) :=
  (.grd (inb (IntKind.i64.wrap ((IntKind.i64.wrap (v87 * v85)) + v88)) v86.length) <|
  .leaf (nth v86 (Int.toNat (IntKind.i64.wrap ((IntKind.i64.wrap (v87 * v85)) + v88)))))

noncomputable def spec_l02At_g (v85 : Int) (v86 : List Nat) (v87 : Int) (v88 : Int) : Option (Nat) := (spec_l02At_T v85 v86 v87 v88).run
def spec_l02At_enc (v84 : Int) (v85 : Int) (v86 : List Nat) (v87 : Int) (v88 : Int) (y : Nat) : Rs := (.flt .f32 y, [])
theorem spec_l02At_den (v84 : Int) (v85 : Int) (v86 : List Nat) (v87 : Int) (v88 : Int) : (den TT (tabD spec_l02At_tab) (tabM spec_l02At_tab) (spec_l02At_LO v84 v85 v86 v87 v88) (codeOf Try.f115) ([.bptr (BR.root 0) [.int .i64 v84, .int .i64 v85, .bslc (BR.root 1) (.f32 v86)], .int .i64 v87, .int .i64 v88] ++ List.replicate (Try.f115.ntmps - ([.bptr (BR.root 0) [.int .i64 v84, .int .i64 v85, .bslc (BR.root 1) (.f32 v86)], .int .i64 v87, .int .i64 v88] : List DV).length) .undef) []).bind (retD TT Try.f115.results.toList 0) = (spec_l02At_T v85 v86 v87 v88).bind fun y => .leaf (spec_l02At_enc v84 v85 v86 v87 v88 y) := by kernel_rfl
theorem spec_l02At_fn (v84 : Int) (v85 : Int) (v86 : List Nat) (v87 : Int) (v88 : Int) (F : Fr) (hm : F.ids.length = 0) (h0 : St F [] F.H0) (hA : DVs.Ok F [] [.bptr (BR.root 0) [.int .i64 v84, .int .i64 v85, .bslc (BR.root 1) (.f32 v86)], .int .i64 v87, .int .i64 v88]) {y : Nat} (hy : spec_l02At_g v85 v86 v87 v88 = some y) : ∃ H', FnOk Try.prog 115 (DVs.av F [.bptr (BR.root 0) [.int .i64 v84, .int .i64 v85, .bslc (BR.root 1) (.f32 v86)], .int .i64 v87, .int .i64 v88]) F.H0 ((spec_l02At_enc v84 v85 v86 v87 v88 y).1.av F) H' ∧ St F (spec_l02At_enc v84 v85 v86 v87 v88 y).2 H' ∧ (spec_l02At_enc v84 v85 v86 v87 v88 y).1.Ok F (spec_l02At_enc v84 v85 v86 v87 v88 y).2 :=
  fn_fin tok spec_l02At_hO mixed Try.func115 Try.call115 (by kernel_rfl) (LoopsOk_eq (l := []) (by kernel_rfl) trivial) (spec_l02At_den v84 v85 v86 v87 v88) hy hm h0 hA
noncomputable def spec_l02At_F : DFn := fun args L =>
  match args with
  | [a1, .int .i64 v87, .int .i64 v88] =>
    optT (cellsOf L 3 a1) fun cs0 =>
    (match cs0 with
    | [.int .i64 v84, .int .i64 v85, a2] =>
    optT (rowF32 L a2) fun v86 =>
    .call (spec_l02At_g v85 v86 v87 v88) fun y => .leaf (.flt .f32 y, L)
    | _ => .fail)
  | _ => .fail
theorem spec_l02At_Fok : COk Try.prog 115 spec_l02At_F true := by
  intro F L H args r L' hs ha hr
  unfold spec_l02At_F at hr
  split at hr
  · rename_i a1 v87 v88
    obtain ⟨cs0, hcp0, hr⟩ := optT_run hr
    split at hr
    · rename_i v84 v85 a2
      obtain ⟨v86, hv86, hr⟩ := optT_run hr
      simp only [Tree.run] at hr
      obtain ⟨y, hy, hr⟩ := Option.bind_eq_some_iff.1 hr
      simp only [Tree.run, Option.some.injEq, Prod.mk.injEq] at hr
      obtain ⟨rfl, rfl⟩ := hr
      exact call_ok0 hs (fun k => (([a1.av F, a2.av F] : List AV)[k]?).getD .top) [a1, .int .i64 v87, .int .i64 v88] [.bptr (BR.root 0) [.int .i64 v84, .int .i64 v85, .bslc (BR.root 1) (.f32 v86)], .int .i64 v87, .int .i64 v88] (fun F' h0 hi hρ => ⟨by simp [DVs.av, DV.av, BR.av, hρ], spec_l02At_fn v84 v85 v86 v87 v88 F' (by rw [hi]; rfl) (st_nil hi) ⟨bptr_ok hi (by rw [h0]; simpa [DVs.av, DV.av, BR.av, hρ] using (cellsOf_ok hs (DVs.okAt ha 0 rfl) hcp0).1) ⟨trivial, trivial, bslc_ok hi (by rw [h0, hρ]; exact rowF32_ok hs (DVs.okAt (cellsOf_ok hs (DVs.okAt ha 0 rfl) hcp0).2 2 rfl) hv86), trivial⟩, trivial, trivial, trivial⟩ hy⟩) rfl
    · cases hr
  · cases hr
/-! spec.l03Is -/
noncomputable def spec_l03Is_l0_T (v47 : Int) (v48 : Int) (v49 : List Nat) (s : Int) : Tree ((Int) ⊕ ((Unit) ⊕ (Unit))) :=
  (.br (decide (s < v47)) (
   (.call (spec_l02At_g v48 v49 s s) fun v93 =>
   (.br (feq .f32 v93 (0 : Nat)) (
    .leaf (.inr (.inl ()))
   ) (
    .leaf (.inl (IntKind.i64.wrap (s + (1 : Int))))
   )))
  ) (
   .leaf (.inr (.inr ()))
  ))

noncomputable def spec_l03Is_l0_g (v47 : Int) (v48 : Int) (v49 : List Nat) (s0 : Int) : Option ((Unit) ⊕ (Unit)) := whileM (fun s => (spec_l03Is_l0_T v47 v48 v49 s).run) s0
def spec_l03Is_l0_E (v47 : Int) (v48 : Int) (v49 : List Nat) (v50 : List Int) (s : Int) : Sd := ([.bptr (BR.root 0) [.int .i64 v47, .int .i64 v48, .bslc (BR.root 1) (.f32 v49), .bslc (BR.root 2) (.i64 v50)], .top, .top, .int .i64 s, .top, .top, .top, .top, .top, .top, .top, .top, .top, .top, .top, .top, .top, .top, .top, .top, .top, .top, .top, .top, .top, .top, .top, .top, .top, .top, .top, .top, .top, .top, .top, .top, .top, .top, .top, .top, .top, .top, .top, .top, .top, .top], [])
def spec_l03Is_l0_X (v47 : Int) (v48 : Int) (v49 : List Nat) (v50 : List Int) (x : (Unit) ⊕ (Unit)) : Out := (match x with | .inl x => (.ret, [.top, .top, .lit false, .top, .top, .top, .top, .top, .top, .top, .top, .top, .top, .top, .top, .top, .top, .top, .top, .top, .top, .top, .top, .top, .top, .top, .top, .top, .top, .top, .top, .top, .top, .top, .top, .top, .top, .top, .top, .top, .top, .top, .top, .top, .top, .top], []) | .inr x => (.normal, [.top, .top, .top, .top, .top, .top, .top, .top, .top, .top, .top, .top, .top, .top, .top, .top, .top, .top, .top, .top, .top, .top, .top, .top, .top, .top, .top, .top, .top, .top, .top, .top, .top, .top, .top, .top, .top, .top, .top, .top, .top, .top, .top, .top, .top, .top], []))
def spec_l03Is_l0_kill : List Nat := [0, 1, 1, 0, 1, 1, 1, 1, 1, 1, 1, 1, 1, 1, 1, 1, 1, 1, 1, 1, 1, 1, 1, 1, 1, 1, 1, 1, 1, 1, 1, 1, 1, 1, 1, 1, 1, 1, 1, 1, 1, 1, 1, 1, 1, 1]
def spec_l03Is_l0_nx : Exit → List Nat
  | .exit 0 => [1, 1, 1, 1, 1, 1, 1, 1, 1, 1, 1, 1, 1, 1, 1, 1, 1, 1, 1, 1, 1, 1, 1, 1, 1, 1, 1, 1, 1, 1, 1, 1, 1, 1, 1, 1, 1, 1, 1, 1, 1, 1, 1, 1, 1, 1]
  | .ret => [1, 1, 0, 1, 1, 1, 1, 1, 1, 1, 1, 1, 1, 1, 1, 1, 1, 1, 1, 1, 1, 1, 1, 1, 1, 1, 1, 1, 1, 1, 1, 1, 1, 1, 1, 1, 1, 1, 1, 1, 1, 1, 1, 1, 1, 1]
  | _ => []
noncomputable def spec_l03Is_LO (v47 : Int) (v48 : Int) (v49 : List Nat) (v50 : List Int) : LOr := fun id e L =>
  match id with
  | 0 => .need (normA 0 spec_l03Is_l0_kill e L = some (spec_l03Is_l0_E v47 v48 v49 v50 (gI (vAt e 3)))) (.call (spec_l03Is_l0_g v47 v48 v49 (gI (vAt e 3))) fun x => .sum x (fun b0 => .leaf (spec_l03Is_l0_X v47 v48 v49 v50 (.inl b0))) (fun c0 => .leaf (spec_l03Is_l0_X v47 v48 v49 v50 (.inr c0))))
  | _ => .fail
noncomputable def spec_l03Is_tab : List (FuncId × DFn × Bool) := [(82, spec_l02Square_F, true), (106, spec_l02Order_F, true), (115, spec_l02At_F, true)]
theorem spec_l03Is_hO : OrcOk Try.prog (tabD spec_l03Is_tab) (tabM spec_l03Is_tab) := tabD_cons spec_l02Square_Fok (tabD_cons spec_l02Order_Fok (tabD_cons spec_l02At_Fok (tabD_nil _)))
theorem spec_l03Is_l0_be (v47 : Int) (v48 : Int) (v49 : List Nat) (v50 : List Int) (s : Int) : bodyT TT (tabD spec_l03Is_tab) (tabM spec_l03Is_tab) (spec_l03Is_LO v47 v48 v49 v50) 0 spec_l03Is_l0_kill spec_l03Is_l0_nx (bodyOf Try.f111 0) 0 (spec_l03Is_l0_E v47 v48 v49 v50 s) = (spec_l03Is_l0_T v47 v48 v49 s).bind fun y => .leaf (outS (spec_l03Is_l0_E v47 v48 v49 v50) (spec_l03Is_l0_X v47 v48 v49 v50) y) := by kernel_rfl
theorem spec_l03Is_l0_ok (v47 : Int) (v48 : Int) (v49 : List Nat) (v50 : List Int) : LSound Try.prog 0 (spec_l03Is_LO v47 v48 v49 v50) 0 (bodyOf Try.f111 0) := by
  intro e L out h
  exact lo_ok (E := spec_l03Is_l0_E v47 v48 v49 v50) (gT := spec_l03Is_l0_T v47 v48 v49) (X := spec_l03Is_l0_X v47 v48 v49 v50) (s0 := (gI (vAt e 3))) tok spec_l03Is_hO mixed (LoopsOk_eq (l := []) (by kernel_rfl) trivial) (spec_l03Is_l0_be v47 v48 v49 v50) rfl (by intro x; (cases x with | inl b => rfl | inr x => exact rfl)) h
noncomputable def spec_l03Is_T (v47 : Int) (v48 : Int) (v49 : List Nat) (v50 : List Int) : Tree (Bool) :=
  (.call (spec_l02Square_g v47 v48 v49) fun v72 =>
  (.br (!v72) (
   .leaf false
  ) (
   (.call (spec_l02Order_g v50) fun v82 =>
   (.br (!v82) (
    .leaf false
   ) (
    (.br (!decide (((v50.length : Nat) : Int) = v47)) (
     .leaf false
    ) (
     (.need (some (spec_l03Is_l0_E v47 v48 v49 v50 (0 : Int)) = some (spec_l03Is_l0_E v47 v48 v49 v50 (0 : Int))) <|
     (.call (spec_l03Is_l0_g v47 v48 v49 (0 : Int)) fun v94 =>
     (.sum v94 (fun v95 =>
      .leaf false
     ) (fun v96 =>
      .leaf true
     ))))
    ))
   )))
  )))

noncomputable def spec_l03Is_g (v47 : Int) (v48 : Int) (v49 : List Nat) (v50 : List Int) : Option (Bool) := (spec_l03Is_T v47 v48 v49 v50).run
def spec_l03Is_enc (v47 : Int) (v48 : Int) (v49 : List Nat) (v50 : List Int) (y : Bool) : Rs := (.bool y, [])
theorem spec_l03Is_den (v47 : Int) (v48 : Int) (v49 : List Nat) (v50 : List Int) : (den TT (tabD spec_l03Is_tab) (tabM spec_l03Is_tab) (spec_l03Is_LO v47 v48 v49 v50) (codeOf Try.f111) ([.bptr (BR.root 0) [.int .i64 v47, .int .i64 v48, .bslc (BR.root 1) (.f32 v49), .bslc (BR.root 2) (.i64 v50)]] ++ List.replicate (Try.f111.ntmps - ([.bptr (BR.root 0) [.int .i64 v47, .int .i64 v48, .bslc (BR.root 1) (.f32 v49), .bslc (BR.root 2) (.i64 v50)]] : List DV).length) .undef) []).bind (retD TT Try.f111.results.toList 0) = (spec_l03Is_T v47 v48 v49 v50).bind fun y => .leaf (spec_l03Is_enc v47 v48 v49 v50 y) := by kernel_rfl
theorem spec_l03Is_fn (v47 : Int) (v48 : Int) (v49 : List Nat) (v50 : List Int) (F : Fr) (hm : F.ids.length = 0) (h0 : St F [] F.H0) (hA : DVs.Ok F [] [.bptr (BR.root 0) [.int .i64 v47, .int .i64 v48, .bslc (BR.root 1) (.f32 v49), .bslc (BR.root 2) (.i64 v50)]]) {y : Bool} (hy : spec_l03Is_g v47 v48 v49 v50 = some y) : ∃ H', FnOk Try.prog 111 (DVs.av F [.bptr (BR.root 0) [.int .i64 v47, .int .i64 v48, .bslc (BR.root 1) (.f32 v49), .bslc (BR.root 2) (.i64 v50)]]) F.H0 ((spec_l03Is_enc v47 v48 v49 v50 y).1.av F) H' ∧ St F (spec_l03Is_enc v47 v48 v49 v50 y).2 H' ∧ (spec_l03Is_enc v47 v48 v49 v50 y).1.Ok F (spec_l03Is_enc v47 v48 v49 v50 y).2 :=
  fn_fin tok spec_l03Is_hO mixed Try.func111 Try.call111 (by kernel_rfl) (LoopsOk_eq (l := [(0, bodyOf Try.f111 0)]) (by kernel_rfl) ⟨spec_l03Is_l0_ok v47 v48 v49 v50, trivial⟩) (spec_l03Is_den v47 v48 v49 v50) hy hm h0 hA
noncomputable def spec_l03Is_F : DFn := fun args L =>
  match args with
  | [a1] =>
    optT (cellsOf L 4 a1) fun cs0 =>
    (match cs0 with
    | [.int .i64 v47, .int .i64 v48, a2, a3] =>
    optT (rowF32 L a2) fun v49 =>
    optT (rowI64 L a3) fun v50 =>
    .call (spec_l03Is_g v47 v48 v49 v50) fun y => .leaf (.bool y, L)
    | _ => .fail)
  | _ => .fail
theorem spec_l03Is_Fok : COk Try.prog 111 spec_l03Is_F true := by
  intro F L H args r L' hs ha hr
  unfold spec_l03Is_F at hr
  split at hr
  · rename_i a1
    obtain ⟨cs0, hcp0, hr⟩ := optT_run hr
    split at hr
    · rename_i v47 v48 a2 a3
      obtain ⟨v49, hv49, hr⟩ := optT_run hr
      obtain ⟨v50, hv50, hr⟩ := optT_run hr
      simp only [Tree.run] at hr
      obtain ⟨y, hy, hr⟩ := Option.bind_eq_some_iff.1 hr
      simp only [Tree.run, Option.some.injEq, Prod.mk.injEq] at hr
      obtain ⟨rfl, rfl⟩ := hr
      exact call_ok0 hs (fun k => (([a1.av F, a2.av F, a3.av F] : List AV)[k]?).getD .top) [a1] [.bptr (BR.root 0) [.int .i64 v47, .int .i64 v48, .bslc (BR.root 1) (.f32 v49), .bslc (BR.root 2) (.i64 v50)]] (fun F' h0 hi hρ => ⟨by simp [DVs.av, DV.av, BR.av, hρ], spec_l03Is_fn v47 v48 v49 v50 F' (by rw [hi]; rfl) (st_nil hi) ⟨bptr_ok hi (by rw [h0]; simpa [DVs.av, DV.av, BR.av, hρ] using (cellsOf_ok hs (DVs.okAt ha 0 rfl) hcp0).1) ⟨trivial, trivial, bslc_ok hi (by rw [h0, hρ]; exact rowF32_ok hs (DVs.okAt (cellsOf_ok hs (DVs.okAt ha 0 rfl) hcp0).2 2 rfl) hv49), bslc_ok hi (by rw [h0, hρ]; exact rowI64_ok hs (DVs.okAt (cellsOf_ok hs (DVs.okAt ha 0 rfl) hcp0).2 3 rfl) hv50), trivial⟩, trivial⟩ hy⟩) rfl
    · cases hr
  · cases hr
/-! spec.ValidFactor -/
noncomputable def spec_ValidFactor_LO (v43 : Int) (v44 : Int) (v45 : List Nat) (v46 : List Int) : LOr := fun id e L =>
  match id with
  | _ => .fail
noncomputable def spec_ValidFactor_tab : List (FuncId × DFn × Bool) := [(111, spec_l03Is_F, true)]
theorem spec_ValidFactor_hO : OrcOk Try.prog (tabD spec_ValidFactor_tab) (tabM spec_ValidFactor_tab) := tabD_cons spec_l03Is_Fok (tabD_nil _)
noncomputable def spec_ValidFactor_T (v43 : Int) (v44 : Int) (v45 : List Nat) (v46 : List Int) : Tree (Bool) :=
  (.call (spec_l03Is_g v43 v44 v45 v46) fun v97 =>
  .leaf v97)

noncomputable def spec_ValidFactor_g (v43 : Int) (v44 : Int) (v45 : List Nat) (v46 : List Int) : Option (Bool) := (spec_ValidFactor_T v43 v44 v45 v46).run
def spec_ValidFactor_enc (v43 : Int) (v44 : Int) (v45 : List Nat) (v46 : List Int) (y : Bool) : Rs := (.bool y, [])
theorem spec_ValidFactor_den (v43 : Int) (v44 : Int) (v45 : List Nat) (v46 : List Int) : (den TT (tabD spec_ValidFactor_tab) (tabM spec_ValidFactor_tab) (spec_ValidFactor_LO v43 v44 v45 v46) (codeOf Try.f47) ([.agg [.int .i64 v43, .int .i64 v44, .bslc (BR.root 0) (.f32 v45), .bslc (BR.root 1) (.i64 v46)]] ++ List.replicate (Try.f47.ntmps - ([.agg [.int .i64 v43, .int .i64 v44, .bslc (BR.root 0) (.f32 v45), .bslc (BR.root 1) (.i64 v46)]] : List DV).length) .undef) []).bind (retD TT Try.f47.results.toList 0) = (spec_ValidFactor_T v43 v44 v45 v46).bind fun y => .leaf (spec_ValidFactor_enc v43 v44 v45 v46 y) := by kernel_rfl
theorem spec_ValidFactor_fn (v43 : Int) (v44 : Int) (v45 : List Nat) (v46 : List Int) (F : Fr) (hm : F.ids.length = 0) (h0 : St F [] F.H0) (hA : DVs.Ok F [] [.agg [.int .i64 v43, .int .i64 v44, .bslc (BR.root 0) (.f32 v45), .bslc (BR.root 1) (.i64 v46)]]) {y : Bool} (hy : spec_ValidFactor_g v43 v44 v45 v46 = some y) : ∃ H', FnOk Try.prog 47 (DVs.av F [.agg [.int .i64 v43, .int .i64 v44, .bslc (BR.root 0) (.f32 v45), .bslc (BR.root 1) (.i64 v46)]]) F.H0 ((spec_ValidFactor_enc v43 v44 v45 v46 y).1.av F) H' ∧ St F (spec_ValidFactor_enc v43 v44 v45 v46 y).2 H' ∧ (spec_ValidFactor_enc v43 v44 v45 v46 y).1.Ok F (spec_ValidFactor_enc v43 v44 v45 v46 y).2 :=
  fn_fin tok spec_ValidFactor_hO mixed Try.func47 Try.call47 (by kernel_rfl) (LoopsOk_eq (l := []) (by kernel_rfl) trivial) (spec_ValidFactor_den v43 v44 v45 v46) hy hm h0 hA
noncomputable def spec_ValidFactor_F : DFn := fun args L =>
  match args with
  | [.agg [.int .i64 v43, .int .i64 v44, a1, a2]] =>
    optT (rowF32 L a1) fun v45 =>
    optT (rowI64 L a2) fun v46 =>
    .call (spec_ValidFactor_g v43 v44 v45 v46) fun y => .leaf (.bool y, L)
  | _ => .fail
theorem spec_ValidFactor_Fok : COk Try.prog 47 spec_ValidFactor_F true := by
  intro F L H args r L' hs ha hr
  unfold spec_ValidFactor_F at hr
  split at hr
  · rename_i v43 v44 a1 a2
    obtain ⟨v45, hv45, hr⟩ := optT_run hr
    obtain ⟨v46, hv46, hr⟩ := optT_run hr
    simp only [Tree.run] at hr
    obtain ⟨y, hy, hr⟩ := Option.bind_eq_some_iff.1 hr
    simp only [Tree.run, Option.some.injEq, Prod.mk.injEq] at hr
    obtain ⟨rfl, rfl⟩ := hr
    exact call_ok0 hs (fun k => (([a1.av F, a2.av F] : List AV)[k]?).getD .top) [.agg [.int .i64 v43, .int .i64 v44, a1, a2]] [.agg [.int .i64 v43, .int .i64 v44, .bslc (BR.root 0) (.f32 v45), .bslc (BR.root 1) (.i64 v46)]] (fun F' h0 hi hρ => ⟨by simp [DVs.av, DV.av, BR.av, hρ], spec_ValidFactor_fn v43 v44 v45 v46 F' (by rw [hi]; rfl) (st_nil hi) ⟨⟨trivial, trivial, bslc_ok hi (by rw [h0, hρ]; exact rowF32_ok hs (DVs.okAt (DVs.okAt ha 0 rfl) 2 rfl) hv45), bslc_ok hi (by rw [h0, hρ]; exact rowI64_ok hs (DVs.okAt (DVs.okAt ha 0 rfl) 3 rfl) hv46), trivial⟩, trivial⟩ hy⟩) rfl
  · cases hr
/-! impl.inRange -/
noncomputable def impl_inRange_LO (v111 : Int) (v112 : Int) (v113 : Int) : LOr := fun id e L =>
  match id with
  | _ => .fail
noncomputable def impl_inRange_tab : List (FuncId × DFn × Bool) := []
theorem impl_inRange_hO : OrcOk Try.prog (tabD impl_inRange_tab) (tabM impl_inRange_tab) := tabD_nil _
noncomputable def impl_inRange_T (v111 : Int) (v112 : Int) (v113 : Int) : Tree (Bool) :=
  (.br (decide (v112 ≤ v111)) (
   .leaf (decide (v111 ≤ v113))
  ) (
   .leaf false
  ))

noncomputable def impl_inRange_g (v111 : Int) (v112 : Int) (v113 : Int) : Option (Bool) := (impl_inRange_T v111 v112 v113).run
def impl_inRange_enc (v111 : Int) (v112 : Int) (v113 : Int) (y : Bool) : Rs := (.bool y, [])
theorem impl_inRange_den (v111 : Int) (v112 : Int) (v113 : Int) : (den TT (tabD impl_inRange_tab) (tabM impl_inRange_tab) (impl_inRange_LO v111 v112 v113) (codeOf Try.f72) ([.int .i64 v111, .int .i64 v112, .int .i64 v113] ++ List.replicate (Try.f72.ntmps - ([.int .i64 v111, .int .i64 v112, .int .i64 v113] : List DV).length) .undef) []).bind (retD TT Try.f72.results.toList 0) = (impl_inRange_T v111 v112 v113).bind fun y => .leaf (impl_inRange_enc v111 v112 v113 y) := by kernel_rfl
theorem impl_inRange_fn (v111 : Int) (v112 : Int) (v113 : Int) (F : Fr) (hm : F.ids.length = 0) (h0 : St F [] F.H0) (hA : DVs.Ok F [] [.int .i64 v111, .int .i64 v112, .int .i64 v113]) {y : Bool} (hy : impl_inRange_g v111 v112 v113 = some y) : ∃ H', FnOk Try.prog 72 (DVs.av F [.int .i64 v111, .int .i64 v112, .int .i64 v113]) F.H0 ((impl_inRange_enc v111 v112 v113 y).1.av F) H' ∧ St F (impl_inRange_enc v111 v112 v113 y).2 H' ∧ (impl_inRange_enc v111 v112 v113 y).1.Ok F (impl_inRange_enc v111 v112 v113 y).2 :=
  fn_fin tok impl_inRange_hO mixed Try.func72 Try.call72 (by kernel_rfl) (LoopsOk_eq (l := []) (by kernel_rfl) trivial) (impl_inRange_den v111 v112 v113) hy hm h0 hA
def impl_inRange_v (v111 : Int) (v112 : Int) (v113 : Int) : Bool :=
  if (decide (v112 ≤ v111)) = true then (
   decide (v111 ≤ v113)
  ) else (
   false
  )
theorem impl_inRange_tot (v111 : Int) (v112 : Int) (v113 : Int) : impl_inRange_g v111 v112 v113 = some (impl_inRange_v v111 v112 v113) := by
  unfold impl_inRange_g impl_inRange_T impl_inRange_v
  simp only [Tree.run]
  repeat' (first | rfl | split)
noncomputable def impl_inRange_F : DFn := fun args L =>
  match args with
  | [.int .i64 v111, .int .i64 v112, .int .i64 v113] =>
    .leaf (.bool (impl_inRange_v v111 v112 v113), L)
  | _ => .fail
theorem impl_inRange_Fok : COk Try.prog 72 impl_inRange_F true := by
  intro F L H args r L' hs ha hr
  unfold impl_inRange_F at hr
  split at hr
  · rename_i v111 v112 v113
    have hy := impl_inRange_tot v111 v112 v113
    generalize impl_inRange_v v111 v112 v113 = y at hy hr
    simp only [Tree.run, Option.some.injEq, Prod.mk.injEq] at hr
    obtain ⟨rfl, rfl⟩ := hr
    exact call_ok0 hs (fun k => (([] : List AV)[k]?).getD .top) [.int .i64 v111, .int .i64 v112, .int .i64 v113] [.int .i64 v111, .int .i64 v112, .int .i64 v113] (fun F' h0 hi hρ => ⟨by simp [DVs.av, DV.av, BR.av, hρ], impl_inRange_fn v111 v112 v113 F' (by rw [hi]; rfl) (st_nil hi) ⟨trivial, trivial, trivial, trivial⟩ hy⟩) rfl
  · cases hr
/-! impl.isSide -/
noncomputable def impl_isSide_LO (v110 : Int) : LOr := fun id e L =>
  match id with
  | _ => .fail
noncomputable def impl_isSide_tab : List (FuncId × DFn × Bool) := [(72, impl_inRange_F, true)]
theorem impl_isSide_hO : OrcOk Try.prog (tabD impl_isSide_tab) (tabM impl_isSide_tab) := tabD_cons impl_inRange_Fok (tabD_nil _)
noncomputable def impl_isSide_T (v110 : Int) : Tree (Bool) :=
  .leaf (impl_inRange_v v110 (1 : Int) (12 : Int))

noncomputable def impl_isSide_g (v110 : Int) : Option (Bool) := (impl_isSide_T v110).run
def impl_isSide_enc (v110 : Int) (y : Bool) : Rs := (.bool y, [])
theorem impl_isSide_den (v110 : Int) : (den TT (tabD impl_isSide_tab) (tabM impl_isSide_tab) (impl_isSide_LO v110) (codeOf Try.f146) ([.int .i64 v110] ++ List.replicate (Try.f146.ntmps - ([.int .i64 v110] : List DV).length) .undef) []).bind (retD TT Try.f146.results.toList 0) = (impl_isSide_T v110).bind fun y => .leaf (impl_isSide_enc v110 y) := by kernel_rfl
theorem impl_isSide_fn (v110 : Int) (F : Fr) (hm : F.ids.length = 0) (h0 : St F [] F.H0) (hA : DVs.Ok F [] [.int .i64 v110]) {y : Bool} (hy : impl_isSide_g v110 = some y) : ∃ H', FnOk Try.prog 146 (DVs.av F [.int .i64 v110]) F.H0 ((impl_isSide_enc v110 y).1.av F) H' ∧ St F (impl_isSide_enc v110 y).2 H' ∧ (impl_isSide_enc v110 y).1.Ok F (impl_isSide_enc v110 y).2 :=
  fn_fin tok impl_isSide_hO mixed Try.func146 Try.call146 (by kernel_rfl) (LoopsOk_eq (l := []) (by kernel_rfl) trivial) (impl_isSide_den v110) hy hm h0 hA
def impl_isSide_v (v110 : Int) : Bool :=
  (impl_inRange_v v110 (1 : Int) (12 : Int))
theorem impl_isSide_tot (v110 : Int) : impl_isSide_g v110 = some (impl_isSide_v v110) := by
  unfold impl_isSide_g impl_isSide_T impl_isSide_v
  simp only [Tree.run]
  repeat' (first | rfl | split)
noncomputable def impl_isSide_F : DFn := fun args L =>
  match args with
  | [.int .i64 v110] =>
    .leaf (.bool (impl_isSide_v v110), L)
  | _ => .fail
theorem impl_isSide_Fok : COk Try.prog 146 impl_isSide_F true := by
  intro F L H args r L' hs ha hr
  unfold impl_isSide_F at hr
  split at hr
  · rename_i v110
    have hy := impl_isSide_tot v110
    generalize impl_isSide_v v110 = y at hy hr
    simp only [Tree.run, Option.some.injEq, Prod.mk.injEq] at hr
    obtain ⟨rfl, rfl⟩ := hr
    exact call_ok0 hs (fun k => (([] : List AV)[k]?).getD .top) [.int .i64 v110] [.int .i64 v110] (fun F' h0 hi hρ => ⟨by simp [DVs.av, DV.av, BR.av, hρ], impl_isSide_fn v110 F' (by rw [hi]; rfl) (st_nil hi) ⟨trivial, trivial⟩ hy⟩) rfl
  · cases hr
/-! impl.length[float32] -/
noncomputable def impl_lengthF_LO (v114 : List Nat) : LOr := fun id e L =>
  match id with
  | _ => .fail
noncomputable def impl_lengthF_tab : List (FuncId × DFn × Bool) := []
theorem impl_lengthF_hO : OrcOk Try.prog (tabD impl_lengthF_tab) (tabM impl_lengthF_tab) := tabD_nil _
noncomputable def impl_lengthF_T (v114 : List Nat) : Tree (Int) :=
  .leaf ((v114.length : Nat) : Int)

noncomputable def impl_lengthF_g (v114 : List Nat) : Option (Int) := (impl_lengthF_T v114).run
def impl_lengthF_enc (v114 : List Nat) (y : Int) : Rs := (.int .i64 y, [])
theorem impl_lengthF_den (v114 : List Nat) : (den TT (tabD impl_lengthF_tab) (tabM impl_lengthF_tab) (impl_lengthF_LO v114) (codeOf Try.f134) ([.bslc (BR.root 0) (.f32 v114)] ++ List.replicate (Try.f134.ntmps - ([.bslc (BR.root 0) (.f32 v114)] : List DV).length) .undef) []).bind (retD TT Try.f134.results.toList 0) = (impl_lengthF_T v114).bind fun y => .leaf (impl_lengthF_enc v114 y) := by kernel_rfl
theorem impl_lengthF_fn (v114 : List Nat) (F : Fr) (hm : F.ids.length = 0) (h0 : St F [] F.H0) (hA : DVs.Ok F [] [.bslc (BR.root 0) (.f32 v114)]) {y : Int} (hy : impl_lengthF_g v114 = some y) : ∃ H', FnOk Try.prog 134 (DVs.av F [.bslc (BR.root 0) (.f32 v114)]) F.H0 ((impl_lengthF_enc v114 y).1.av F) H' ∧ St F (impl_lengthF_enc v114 y).2 H' ∧ (impl_lengthF_enc v114 y).1.Ok F (impl_lengthF_enc v114 y).2 :=
  fn_fin tok impl_lengthF_hO mixed Try.func134 Try.call134 (by kernel_rfl) (LoopsOk_eq (l := []) (by kernel_rfl) trivial) (impl_lengthF_den v114) hy hm h0 hA
def impl_lengthF_v (v114 : List Nat) : Int :=
  ((v114.length : Nat) : Int)
theorem impl_lengthF_tot (v114 : List Nat) : impl_lengthF_g v114 = some (impl_lengthF_v v114) := by
  unfold impl_lengthF_g impl_lengthF_T impl_lengthF_v
  simp only [Tree.run]
  repeat' (first | rfl | split)
noncomputable def impl_lengthF_F : DFn := fun args L =>
  match args with
  | [a1] =>
    optT (rowF32 L a1) fun v114 =>
    .leaf (.int .i64 (impl_lengthF_v v114), L)
  | _ => .fail
theorem impl_lengthF_Fok : COk Try.prog 134 impl_lengthF_F true := by
  intro F L H args r L' hs ha hr
  unfold impl_lengthF_F at hr
  split at hr
  · rename_i a1
    obtain ⟨v114, hv114, hr⟩ := optT_run hr
    have hy := impl_lengthF_tot v114
    generalize impl_lengthF_v v114 = y at hy hr
    simp only [Tree.run, Option.some.injEq, Prod.mk.injEq] at hr
    obtain ⟨rfl, rfl⟩ := hr
    exact call_ok0 hs (fun k => (([a1.av F] : List AV)[k]?).getD .top) [a1] [.bslc (BR.root 0) (.f32 v114)] (fun F' h0 hi hρ => ⟨by simp [DVs.av, DV.av, BR.av, hρ], impl_lengthF_fn v114 F' (by rw [hi]; rfl) (st_nil hi) ⟨bslc_ok hi (by rw [h0, hρ]; exact rowF32_ok hs (DVs.okAt ha 0 rfl) hv114), trivial⟩ hy⟩) rfl
  · cases hr
/-! math.IsNaN -/
noncomputable def math_IsNaN_LO (v122 : Nat) : LOr := fun id e L =>
  match id with
  | _ => .fail
noncomputable def math_IsNaN_tab : List (FuncId × DFn × Bool) := []
theorem math_IsNaN_hO : OrcOk Try.prog (tabD math_IsNaN_tab) (tabM math_IsNaN_tab) := tabD_nil _
noncomputable def math_IsNaN_T (v122 : Nat) : Tree (Bool) :=
  .leaf (!feq .f64 v122 v122)

noncomputable def math_IsNaN_g (v122 : Nat) : Option (Bool) := (math_IsNaN_T v122).run
def math_IsNaN_enc (v122 : Nat) (y : Bool) : Rs := (.bool y, [])
theorem math_IsNaN_den (v122 : Nat) : (den TT (tabD math_IsNaN_tab) (tabM math_IsNaN_tab) (math_IsNaN_LO v122) (codeOf Try.f169) ([.flt .f64 v122] ++ List.replicate (Try.f169.ntmps - ([.flt .f64 v122] : List DV).length) .undef) []).bind (retD TT Try.f169.results.toList 0) = (math_IsNaN_T v122).bind fun y => .leaf (math_IsNaN_enc v122 y) := by kernel_rfl
theorem math_IsNaN_fn (v122 : Nat) (F : Fr) (hm : F.ids.length = 0) (h0 : St F [] F.H0) (hA : DVs.Ok F [] [.flt .f64 v122]) {y : Bool} (hy : math_IsNaN_g v122 = some y) : ∃ H', FnOk Try.prog 169 (DVs.av F [.flt .f64 v122]) F.H0 ((math_IsNaN_enc v122 y).1.av F) H' ∧ St F (math_IsNaN_enc v122 y).2 H' ∧ (math_IsNaN_enc v122 y).1.Ok F (math_IsNaN_enc v122 y).2 :=
  fn_fin tok math_IsNaN_hO mixed Try.func169 Try.call169 (by kernel_rfl) (LoopsOk_eq (l := []) (by kernel_rfl) trivial) (math_IsNaN_den v122) hy hm h0 hA
def math_IsNaN_v (v122 : Nat) : Bool :=
  !feq .f64 v122 v122
theorem math_IsNaN_tot (v122 : Nat) : math_IsNaN_g v122 = some (math_IsNaN_v v122) := by
  unfold math_IsNaN_g math_IsNaN_T math_IsNaN_v
  simp only [Tree.run]
  repeat' (first | rfl | split)
noncomputable def math_IsNaN_F : DFn := fun args L =>
  match args with
  | [.flt .f64 v122] =>
    .leaf (.bool (math_IsNaN_v v122), L)
  | _ => .fail
theorem math_IsNaN_Fok : COk Try.prog 169 math_IsNaN_F true := by
  intro F L H args r L' hs ha hr
  unfold math_IsNaN_F at hr
  split at hr
  · rename_i v122
    have hy := math_IsNaN_tot v122
    generalize math_IsNaN_v v122 = y at hy hr
    simp only [Tree.run, Option.some.injEq, Prod.mk.injEq] at hr
    obtain ⟨rfl, rfl⟩ := hr
    exact call_ok0 hs (fun k => (([] : List AV)[k]?).getD .top) [.flt .f64 v122] [.flt .f64 v122] (fun F' h0 hi hρ => ⟨by simp [DVs.av, DV.av, BR.av, hρ], math_IsNaN_fn v122 F' (by rw [hi]; rfl) (st_nil hi) ⟨trivial, trivial⟩ hy⟩) rfl
  · cases hr
/-! math.IsInf -/
noncomputable def math_IsInf_LO (v123 : Nat) (v124 : Int) : LOr := fun id e L =>
  match id with
  | _ => .fail
noncomputable def math_IsInf_tab : List (FuncId × DFn × Bool) := [(104, Abs_F, true)]
theorem math_IsInf_hO : OrcOk Try.prog (tabD math_IsInf_tab) (tabM math_IsInf_tab) := tabD_cons Abs_Fok (tabD_nil _)
noncomputable def math_IsInf_T (v123 : Nat) (v124 : Int) : Tree (Bool) :=
  (.br (decide (v124 = (0 : Int))) (
   .leaf (fgrt .f64 (fabs v123) (9218868437227405311 : Nat))
  ) (
   (.br (decide (v124 < (0 : Int))) (
    .leaf (fgrt .f64 (fneg .f64 v123) (9218868437227405311 : Nat))
   ) (
    .leaf (fgrt .f64 v123 (9218868437227405311 : Nat))
   ))
  ))

noncomputable def math_IsInf_g (v123 : Nat) (v124 : Int) : Option (Bool) := (math_IsInf_T v123 v124).run
def math_IsInf_enc (v123 : Nat) (v124 : Int) (y : Bool) : Rs := (.bool y, [])
theorem math_IsInf_den (v123 : Nat) (v124 : Int) : (den TT (tabD math_IsInf_tab) (tabM math_IsInf_tab) (math_IsInf_LO v123 v124) (codeOf Try.f170) ([.flt .f64 v123, .int .i64 v124] ++ List.replicate (Try.f170.ntmps - ([.flt .f64 v123, .int .i64 v124] : List DV).length) .undef) []).bind (retD TT Try.f170.results.toList 0) = (math_IsInf_T v123 v124).bind fun y => .leaf (math_IsInf_enc v123 v124 y) := by kernel_rfl
theorem math_IsInf_fn (v123 : Nat) (v124 : Int) (F : Fr) (hm : F.ids.length = 0) (h0 : St F [] F.H0) (hA : DVs.Ok F [] [.flt .f64 v123, .int .i64 v124]) {y : Bool} (hy : math_IsInf_g v123 v124 = some y) : ∃ H', FnOk Try.prog 170 (DVs.av F [.flt .f64 v123, .int .i64 v124]) F.H0 ((math_IsInf_enc v123 v124 y).1.av F) H' ∧ St F (math_IsInf_enc v123 v124 y).2 H' ∧ (math_IsInf_enc v123 v124 y).1.Ok F (math_IsInf_enc v123 v124 y).2 :=
  fn_fin tok math_IsInf_hO mixed Try.func170 Try.call170 (by kernel_rfl) (LoopsOk_eq (l := []) (by kernel_rfl) trivial) (math_IsInf_den v123 v124) hy hm h0 hA
def math_IsInf_v (v123 : Nat) (v124 : Int) : Bool :=
  if (decide (v124 = (0 : Int))) = true then (
   fgrt .f64 (fabs v123) (9218868437227405311 : Nat)
  ) else (
   if (decide (v124 < (0 : Int))) = true then (
    fgrt .f64 (fneg .f64 v123) (9218868437227405311 : Nat)
   ) else (
    fgrt .f64 v123 (9218868437227405311 : Nat)
   )
  )
theorem math_IsInf_tot (v123 : Nat) (v124 : Int) : math_IsInf_g v123 v124 = some (math_IsInf_v v123 v124) := by
  unfold math_IsInf_g math_IsInf_T math_IsInf_v
  simp only [Tree.run]
  repeat' (first | rfl | split)
noncomputable def math_IsInf_F : DFn := fun args L =>
  match args with
  | [.flt .f64 v123, .int .i64 v124] =>
    .leaf (.bool (math_IsInf_v v123 v124), L)
  | _ => .fail
theorem math_IsInf_Fok : COk Try.prog 170 math_IsInf_F true := by
  intro F L H args r L' hs ha hr
  unfold math_IsInf_F at hr
  split at hr
  · rename_i v123 v124
    have hy := math_IsInf_tot v123 v124
    generalize math_IsInf_v v123 v124 = y at hy hr
    simp only [Tree.run, Option.some.injEq, Prod.mk.injEq] at hr
    obtain ⟨rfl, rfl⟩ := hr
    exact call_ok0 hs (fun k => (([] : List AV)[k]?).getD .top) [.flt .f64 v123, .int .i64 v124] [.flt .f64 v123, .int .i64 v124] (fun F' h0 hi hρ => ⟨by simp [DVs.av, DV.av, BR.av, hρ], math_IsInf_fn v123 v124 F' (by rw [hi]; rfl) (st_nil hi) ⟨trivial, trivial, trivial⟩ hy⟩) rfl
  · cases hr
/-! impl.isFinite64 -/
noncomputable def impl_isFinite64_LO (v121 : Nat) : LOr := fun id e L =>
  match id with
  | _ => .fail
noncomputable def impl_isFinite64_tab : List (FuncId × DFn × Bool) := [(169, math_IsNaN_F, true), (170, math_IsInf_F, true)]
theorem impl_isFinite64_hO : OrcOk Try.prog (tabD impl_isFinite64_tab) (tabM impl_isFinite64_tab) := tabD_cons math_IsNaN_Fok (tabD_cons math_IsInf_Fok (tabD_nil _))
noncomputable def impl_isFinite64_T (v121 : Nat) : Tree (Bool) :=
  (.br (!(math_IsNaN_v v121)) (
   .leaf (!(math_IsInf_v v121 (0 : Int)))
  ) (
   .leaf false
  ))

noncomputable def impl_isFinite64_g (v121 : Nat) : Option (Bool) := (impl_isFinite64_T v121).run
def impl_isFinite64_enc (v121 : Nat) (y : Bool) : Rs := (.bool y, [])
theorem impl_isFinite64_den (v121 : Nat) : (den TT (tabD impl_isFinite64_tab) (tabM impl_isFinite64_tab) (impl_isFinite64_LO v121) (codeOf Try.f151) ([.flt .f64 v121] ++ List.replicate (Try.f151.ntmps - ([.flt .f64 v121] : List DV).length) .undef) []).bind (retD TT Try.f151.results.toList 0) = (impl_isFinite64_T v121).bind fun y => .leaf (impl_isFinite64_enc v121 y) := by kernel_rfl
theorem impl_isFinite64_fn (v121 : Nat) (F : Fr) (hm : F.ids.length = 0) (h0 : St F [] F.H0) (hA : DVs.Ok F [] [.flt .f64 v121]) {y : Bool} (hy : impl_isFinite64_g v121 = some y) : ∃ H', FnOk Try.prog 151 (DVs.av F [.flt .f64 v121]) F.H0 ((impl_isFinite64_enc v121 y).1.av F) H' ∧ St F (impl_isFinite64_enc v121 y).2 H' ∧ (impl_isFinite64_enc v121 y).1.Ok F (impl_isFinite64_enc v121 y).2 :=
  fn_fin tok impl_isFinite64_hO mixed Try.func151 Try.call151 (by kernel_rfl) (LoopsOk_eq (l := []) (by kernel_rfl) trivial) (impl_isFinite64_den v121) hy hm h0 hA
def impl_isFinite64_v (v121 : Nat) : Bool :=
  if (!(math_IsNaN_v v121)) = true then (
   !(math_IsInf_v v121 (0 : Int))
  ) else (
   false
  )
theorem impl_isFinite64_tot (v121 : Nat) : impl_isFinite64_g v121 = some (impl_isFinite64_v v121) := by
  unfold impl_isFinite64_g impl_isFinite64_T impl_isFinite64_v
  simp only [Tree.run]
  repeat' (first | rfl | split)
noncomputable def impl_isFinite64_F : DFn := fun args L =>
  match args with
  | [.flt .f64 v121] =>
    .leaf (.bool (impl_isFinite64_v v121), L)
  | _ => .fail
theorem impl_isFinite64_Fok : COk Try.prog 151 impl_isFinite64_F true := by
  intro F L H args r L' hs ha hr
  unfold impl_isFinite64_F at hr
  split at hr
  · rename_i v121
    have hy := impl_isFinite64_tot v121
    generalize impl_isFinite64_v v121 = y at hy hr
    simp only [Tree.run, Option.some.injEq, Prod.mk.injEq] at hr
    obtain ⟨rfl, rfl⟩ := hr
    exact call_ok0 hs (fun k => (([] : List AV)[k]?).getD .top) [.flt .f64 v121] [.flt .f64 v121] (fun F' h0 hi hρ => ⟨by simp [DVs.av, DV.av, BR.av, hρ], impl_isFinite64_fn v121 F' (by rw [hi]; rfl) (st_nil hi) ⟨trivial, trivial⟩ hy⟩) rfl
  · cases hr
/-! impl.IsFinite -/
noncomputable def impl_IsFinite_LO (v120 : Nat) : LOr := fun id e L =>
  match id with
  | _ => .fail
noncomputable def impl_IsFinite_tab : List (FuncId × DFn × Bool) := [(151, impl_isFinite64_F, true)]
theorem impl_IsFinite_hO : OrcOk Try.prog (tabD impl_IsFinite_tab) (tabM impl_IsFinite_tab) := tabD_cons impl_isFinite64_Fok (tabD_nil _)
noncomputable def impl_IsFinite_T (v120 : Nat) : Tree (Bool) :=
  .leaf (impl_isFinite64_v (wid v120))

noncomputable def impl_IsFinite_g (v120 : Nat) : Option (Bool) := (impl_IsFinite_T v120).run
def impl_IsFinite_enc (v120 : Nat) (y : Bool) : Rs := (.bool y, [])
theorem impl_IsFinite_den (v120 : Nat) : (den TT (tabD impl_IsFinite_tab) (tabM impl_IsFinite_tab) (impl_IsFinite_LO v120) (codeOf Try.f103) ([.flt .f32 v120] ++ List.replicate (Try.f103.ntmps - ([.flt .f32 v120] : List DV).length) .undef) []).bind (retD TT Try.f103.results.toList 0) = (impl_IsFinite_T v120).bind fun y => .leaf (impl_IsFinite_enc v120 y) := by kernel_rfl
theorem impl_IsFinite_fn (v120 : Nat) (F : Fr) (hm : F.ids.length = 0) (h0 : St F [] F.H0) (hA : DVs.Ok F [] [.flt .f32 v120]) {y : Bool} (hy : impl_IsFinite_g v120 = some y) : ∃ H', FnOk Try.prog 103 (DVs.av F [.flt .f32 v120]) F.H0 ((impl_IsFinite_enc v120 y).1.av F) H' ∧ St F (impl_IsFinite_enc v120 y).2 H' ∧ (impl_IsFinite_enc v120 y).1.Ok F (impl_IsFinite_enc v120 y).2 :=
  fn_fin tok impl_IsFinite_hO mixed Try.func103 Try.call103 (by kernel_rfl) (LoopsOk_eq (l := []) (by kernel_rfl) trivial) (impl_IsFinite_den v120) hy hm h0 hA
def impl_IsFinite_v (v120 : Nat) : Bool :=
  (impl_isFinite64_v (wid v120))
theorem impl_IsFinite_tot (v120 : Nat) : impl_IsFinite_g v120 = some (impl_IsFinite_v v120) := by
  unfold impl_IsFinite_g impl_IsFinite_T impl_IsFinite_v
  simp only [Tree.run]
  repeat' (first | rfl | split)
noncomputable def impl_IsFinite_F : DFn := fun args L =>
  match args with
  | [.flt .f32 v120] =>
    .leaf (.bool (impl_IsFinite_v v120), L)
  | _ => .fail
theorem impl_IsFinite_Fok : COk Try.prog 103 impl_IsFinite_F true := by
  intro F L H args r L' hs ha hr
  unfold impl_IsFinite_F at hr
  split at hr
  · rename_i v120
    have hy := impl_IsFinite_tot v120
    generalize impl_IsFinite_v v120 = y at hy hr
    simp only [Tree.run, Option.some.injEq, Prod.mk.injEq] at hr
    obtain ⟨rfl, rfl⟩ := hr
    exact call_ok0 hs (fun k => (([] : List AV)[k]?).getD .top) [.flt .f32 v120] [.flt .f32 v120] (fun F' h0 hi hρ => ⟨by simp [DVs.av, DV.av, BR.av, hρ], impl_IsFinite_fn v120 F' (by rw [hi]; rfl) (st_nil hi) ⟨trivial, trivial⟩ hy⟩) rfl
  · cases hr
/-! impl.areFinite$1 -/
noncomputable def impl_areFinite_1_LO (v119 : Nat) : LOr := fun id e L =>
  match id with
  | _ => .fail
noncomputable def impl_areFinite_1_tab : List (FuncId × DFn × Bool) := [(103, impl_IsFinite_F, true)]
theorem impl_areFinite_1_hO : OrcOk Try.prog (tabD impl_areFinite_1_tab) (tabM impl_areFinite_1_tab) := tabD_cons impl_IsFinite_Fok (tabD_nil _)
noncomputable def impl_areFinite_1_T (v119 : Nat) : Tree (Bool) :=
  .leaf (!(impl_IsFinite_v v119))

noncomputable def impl_areFinite_1_g (v119 : Nat) : Option (Bool) := (impl_areFinite_1_T v119).run
def impl_areFinite_1_enc (v119 : Nat) (y : Bool) : Rs := (.bool y, [])
theorem impl_areFinite_1_den (v119 : Nat) : (den TT (tabD impl_areFinite_1_tab) (tabM impl_areFinite_1_tab) (impl_areFinite_1_LO v119) (codeOf Try.f165) ([.flt .f32 v119] ++ List.replicate (Try.f165.ntmps - ([.flt .f32 v119] : List DV).length) .undef) []).bind (retD TT Try.f165.results.toList 0) = (impl_areFinite_1_T v119).bind fun y => .leaf (impl_areFinite_1_enc v119 y) := by kernel_rfl
theorem impl_areFinite_1_fn (v119 : Nat) (F : Fr) (hm : F.ids.length = 0) (h0 : St F [] F.H0) (hA : DVs.Ok F [] [.flt .f32 v119]) {y : Bool} (hy : impl_areFinite_1_g v119 = some y) : ∃ H', FnOk Try.prog 165 (DVs.av F [.flt .f32 v119]) F.H0 ((impl_areFinite_1_enc v119 y).1.av F) H' ∧ St F (impl_areFinite_1_enc v119 y).2 H' ∧ (impl_areFinite_1_enc v119 y).1.Ok F (impl_areFinite_1_enc v119 y).2 :=
  fn_fin tok impl_areFinite_1_hO mixed Try.func165 Try.call165 (by kernel_rfl) (LoopsOk_eq (l := []) (by kernel_rfl) trivial) (impl_areFinite_1_den v119) hy hm h0 hA
def impl_areFinite_1_v (v119 : Nat) : Bool :=
  !(impl_IsFinite_v v119)
theorem impl_areFinite_1_tot (v119 : Nat) : impl_areFinite_1_g v119 = some (impl_areFinite_1_v v119) := by
  unfold impl_areFinite_1_g impl_areFinite_1_T impl_areFinite_1_v
  simp only [Tree.run]
  repeat' (first | rfl | split)
noncomputable def impl_areFinite_1_F : DFn := fun args L =>
  match args with
  | [.flt .f32 v119] =>
    .leaf (.bool (impl_areFinite_1_v v119), L)
  | _ => .fail
theorem impl_areFinite_1_Fok : COk Try.prog 165 impl_areFinite_1_F true := by
  intro F L H args r L' hs ha hr
  unfold impl_areFinite_1_F at hr
  split at hr
  · rename_i v119
    have hy := impl_areFinite_1_tot v119
    generalize impl_areFinite_1_v v119 = y at hy hr
    simp only [Tree.run, Option.some.injEq, Prod.mk.injEq] at hr
    obtain ⟨rfl, rfl⟩ := hr
    exact call_ok0 hs (fun k => (([] : List AV)[k]?).getD .top) [.flt .f32 v119] [.flt .f32 v119] (fun F' h0 hi hρ => ⟨by simp [DVs.av, DV.av, BR.av, hρ], impl_areFinite_1_fn v119 F' (by rw [hi]; rfl) (st_nil hi) ⟨trivial, trivial⟩ hy⟩) rfl
  · cases hr
/-! slices.IndexFunc[list of float32,float32] -/
noncomputable def slices_IndexFuncF_l0_T (v117 : List Nat) (s : Int) : Tree ((Int) ⊕ ((Int) ⊕ (Unit))) :=
  (.br (decide (s < ((v117.length : Nat) : Int))) (
   (.grd (inb s v117.length) <|
   (.br (impl_areFinite_1_v (nth v117 (Int.toNat s))) (
    .leaf (.inr (.inl s))
   ) (
    .leaf (.inl (IntKind.i64.wrap (s + (1 : Int))))
   )))
  ) (
   .leaf (.inr (.inr ()))
  ))

noncomputable def slices_IndexFuncF_l0_g (v117 : List Nat) (s0 : Int) : Option ((Int) ⊕ (Unit)) := whileM (fun s => (slices_IndexFuncF_l0_T v117 s).run) s0
def slices_IndexFuncF_l0_E (v117 : List Nat) (s : Int) : Sd := ([.bslc (BR.root 0) (.f32 v117), .fn 165 [], .top, .top, .top, .top, .top, .int .i64 ((v117.length : Nat) : Int), .int .i64 s, .top, .top, .top, .top, .top, .top, .top, .top, .top, .top], [])
def slices_IndexFuncF_l0_X (v117 : List Nat) (x : (Int) ⊕ (Unit)) : Out := (match x with | .inl x => (.ret, [.top, .top, .top, .top, .int .i64 x, .top, .top, .top, .top, .top, .top, .top, .top, .top, .top, .top, .top, .top, .top], []) | .inr x => (.normal, [.top, .top, .top, .top, .top, .top, .top, .top, .top, .top, .top, .top, .top, .top, .top, .top, .top, .top, .top], []))
def slices_IndexFuncF_l0_kill : List Nat := [0, 0, 1, 1, 1, 1, 1, 0, 0, 1, 1, 1, 1, 1, 1, 1, 1, 1, 1]
def slices_IndexFuncF_l0_nx : Exit → List Nat
  | .exit 0 => [1, 1, 1, 1, 1, 1, 1, 1, 1, 1, 1, 1, 1, 1, 1, 1, 1, 1, 1]
  | .ret => [1, 1, 1, 1, 0, 1, 1, 1, 1, 1, 1, 1, 1, 1, 1, 1, 1, 1, 1]
  | _ => []
noncomputable def slices_IndexFuncF_LO (v117 : List Nat) : LOr := fun id e L =>
  match id with
  | 0 => .need (normA 0 slices_IndexFuncF_l0_kill e L = some (slices_IndexFuncF_l0_E v117 (gI (vAt e 8)))) (.call (slices_IndexFuncF_l0_g v117 (gI (vAt e 8))) fun x => .sum x (fun b0 => .leaf (slices_IndexFuncF_l0_X v117 (.inl b0))) (fun c0 => .leaf (slices_IndexFuncF_l0_X v117 (.inr c0))))
  | _ => .fail
noncomputable def slices_IndexFuncF_tab : List (FuncId × DFn × Bool) := [(165, impl_areFinite_1_F, true)]
theorem slices_IndexFuncF_hO : OrcOk Try.prog (tabD slices_IndexFuncF_tab) (tabM slices_IndexFuncF_tab) := tabD_cons impl_areFinite_1_Fok (tabD_nil _)
theorem slices_IndexFuncF_l0_be (v117 : List Nat) (s : Int) : bodyT TT (tabD slices_IndexFuncF_tab) (tabM slices_IndexFuncF_tab) (slices_IndexFuncF_LO v117) 0 slices_IndexFuncF_l0_kill slices_IndexFuncF_l0_nx (bodyOf Try.f178 0) 0 (slices_IndexFuncF_l0_E v117 s) = (slices_IndexFuncF_l0_T v117 s).bind fun y => .leaf (outS (slices_IndexFuncF_l0_E v117) (slices_IndexFuncF_l0_X v117) y) := by kernel_rfl
theorem slices_IndexFuncF_l0_ok (v117 : List Nat) : LSound Try.prog 0 (slices_IndexFuncF_LO v117) 0 (bodyOf Try.f178 0) := by
  intro e L out h
  exact lo_ok (E := slices_IndexFuncF_l0_E v117) (gT := slices_IndexFuncF_l0_T v117) (X := slices_IndexFuncF_l0_X v117) (s0 := (gI (vAt e 8))) tok slices_IndexFuncF_hO mixed (LoopsOk_eq (l := []) (by kernel_rfl) trivial) (slices_IndexFuncF_l0_be v117) rfl (by intro x; (cases x with | inl b => rfl | inr x => exact rfl)) h
noncomputable def slices_IndexFuncF_T (v117 : List Nat) : Tree (Int) :=
  (.need (some (slices_IndexFuncF_l0_E v117 (0 : Int)) = some (slices_IndexFuncF_l0_E v117 (0 : Int))) <|
  (.call (slices_IndexFuncF_l0_g v117 (0 : Int)) fun v127 =>
  (.sum v127 (fun v128 =>
   .leaf v128
  ) (fun v129 =>
   .leaf (-1 : Int)
  ))))

noncomputable def slices_IndexFuncF_g (v117 : List Nat) : Option (Int) := (slices_IndexFuncF_T v117).run
def slices_IndexFuncF_enc (v117 : List Nat) (y : Int) : Rs := (.int .i64 y, [])
theorem slices_IndexFuncF_den (v117 : List Nat) : (den TT (tabD slices_IndexFuncF_tab) (tabM slices_IndexFuncF_tab) (slices_IndexFuncF_LO v117) (codeOf Try.f178) ([.bslc (BR.root 0) (.f32 v117), .fn 165 []] ++ List.replicate (Try.f178.ntmps - ([.bslc (BR.root 0) (.f32 v117), .fn 165 []] : List DV).length) .undef) []).bind (retD TT Try.f178.results.toList 0) = (slices_IndexFuncF_T v117).bind fun y => .leaf (slices_IndexFuncF_enc v117 y) := by kernel_rfl
theorem slices_IndexFuncF_fn (v117 : List Nat) (F : Fr) (hm : F.ids.length = 0) (h0 : St F [] F.H0) (hA : DVs.Ok F [] [.bslc (BR.root 0) (.f32 v117), .fn 165 []]) {y : Int} (hy : slices_IndexFuncF_g v117 = some y) : ∃ H', FnOk Try.prog 178 (DVs.av F [.bslc (BR.root 0) (.f32 v117), .fn 165 []]) F.H0 ((slices_IndexFuncF_enc v117 y).1.av F) H' ∧ St F (slices_IndexFuncF_enc v117 y).2 H' ∧ (slices_IndexFuncF_enc v117 y).1.Ok F (slices_IndexFuncF_enc v117 y).2 :=
  fn_fin tok slices_IndexFuncF_hO mixed Try.func178 Try.call178 (by kernel_rfl) (LoopsOk_eq (l := [(0, bodyOf Try.f178 0)]) (by kernel_rfl) ⟨slices_IndexFuncF_l0_ok v117, trivial⟩) (slices_IndexFuncF_den v117) hy hm h0 hA
noncomputable def slices_IndexFuncF_F : DFn := fun args L =>
  match args with
  | [a1, .fn 165 []] =>
    optT (rowF32 L a1) fun v117 =>
    .call (slices_IndexFuncF_g v117) fun y => .leaf (.int .i64 y, L)
  | _ => .fail
theorem slices_IndexFuncF_Fok : COk Try.prog 178 slices_IndexFuncF_F true := by
  intro F L H args r L' hs ha hr
  unfold slices_IndexFuncF_F at hr
  split at hr
  · rename_i a1
    obtain ⟨v117, hv117, hr⟩ := optT_run hr
    simp only [Tree.run] at hr
    obtain ⟨y, hy, hr⟩ := Option.bind_eq_some_iff.1 hr
    simp only [Tree.run, Option.some.injEq, Prod.mk.injEq] at hr
    obtain ⟨rfl, rfl⟩ := hr
    exact call_ok0 hs (fun k => (([a1.av F] : List AV)[k]?).getD .top) [a1, .fn 165 []] [.bslc (BR.root 0) (.f32 v117), .fn 165 []] (fun F' h0 hi hρ => ⟨by simp [DVs.av, DV.av, BR.av, hρ], slices_IndexFuncF_fn v117 F' (by rw [hi]; rfl) (st_nil hi) ⟨bslc_ok hi (by rw [h0, hρ]; exact rowF32_ok hs (DVs.okAt ha 0 rfl) hv117), trivial, trivial⟩ hy⟩) rfl
  · cases hr
/-! slices.ContainsFunc[list of float32,float32] -/
noncomputable def slices_ContainsFuncF_LO (v116 : List Nat) : LOr := fun id e L =>
  match id with
  | _ => .fail
noncomputable def slices_ContainsFuncF_tab : List (FuncId × DFn × Bool) := [(178, slices_IndexFuncF_F, true)]
theorem slices_ContainsFuncF_hO : OrcOk Try.prog (tabD slices_ContainsFuncF_tab) (tabM slices_ContainsFuncF_tab) := tabD_cons slices_IndexFuncF_Fok (tabD_nil _)
noncomputable def slices_ContainsFuncF_T (v116 : List Nat) : Tree (Bool) :=
  (.call (slices_IndexFuncF_g v116) fun v130 =>
  .leaf (decide ((0 : Int) ≤ v130)))

noncomputable def slices_ContainsFuncF_g (v116 : List Nat) : Option (Bool) := (slices_ContainsFuncF_T v116).run
def slices_ContainsFuncF_enc (v116 : List Nat) (y : Bool) : Rs := (.bool y, [])
theorem slices_ContainsFuncF_den (v116 : List Nat) : (den TT (tabD slices_ContainsFuncF_tab) (tabM slices_ContainsFuncF_tab) (slices_ContainsFuncF_LO v116) (codeOf Try.f164) ([.bslc (BR.root 0) (.f32 v116), .fn 165 []] ++ List.replicate (Try.f164.ntmps - ([.bslc (BR.root 0) (.f32 v116), .fn 165 []] : List DV).length) .undef) []).bind (retD TT Try.f164.results.toList 0) = (slices_ContainsFuncF_T v116).bind fun y => .leaf (slices_ContainsFuncF_enc v116 y) := by kernel_rfl
theorem slices_ContainsFuncF_fn (v116 : List Nat) (F : Fr) (hm : F.ids.length = 0) (h0 : St F [] F.H0) (hA : DVs.Ok F [] [.bslc (BR.root 0) (.f32 v116), .fn 165 []]) {y : Bool} (hy : slices_ContainsFuncF_g v116 = some y) : ∃ H', FnOk Try.prog 164 (DVs.av F [.bslc (BR.root 0) (.f32 v116), .fn 165 []]) F.H0 ((slices_ContainsFuncF_enc v116 y).1.av F) H' ∧ St F (slices_ContainsFuncF_enc v116 y).2 H' ∧ (slices_ContainsFuncF_enc v116 y).1.Ok F (slices_ContainsFuncF_enc v116 y).2 :=
  fn_fin tok slices_ContainsFuncF_hO mixed Try.func164 Try.call164 (by kernel_rfl) (LoopsOk_eq (l := []) (by kernel_rfl) trivial) (slices_ContainsFuncF_den v116) hy hm h0 hA
noncomputable def slices_ContainsFuncF_F : DFn := fun args L =>
  match args with
  | [a1, .fn 165 []] =>
    optT (rowF32 L a1) fun v116 =>
    .call (slices_ContainsFuncF_g v116) fun y => .leaf (.bool y, L)
  | _ => .fail
theorem slices_ContainsFuncF_Fok : COk Try.prog 164 slices_ContainsFuncF_F true := by
  intro F L H args r L' hs ha hr
  unfold slices_ContainsFuncF_F at hr
  split at hr
  · rename_i a1
    obtain ⟨v116, hv116, hr⟩ := optT_run hr
    simp only [Tree.run] at hr
    obtain ⟨y, hy, hr⟩ := Option.bind_eq_some_iff.1 hr
    simp only [Tree.run, Option.some.injEq, Prod.mk.injEq] at hr
    obtain ⟨rfl, rfl⟩ := hr
    exact call_ok0 hs (fun k => (([a1.av F] : List AV)[k]?).getD .top) [a1, .fn 165 []] [.bslc (BR.root 0) (.f32 v116), .fn 165 []] (fun F' h0 hi hρ => ⟨by simp [DVs.av, DV.av, BR.av, hρ], slices_ContainsFuncF_fn v116 F' (by rw [hi]; rfl) (st_nil hi) ⟨bslc_ok hi (by rw [h0, hρ]; exact rowF32_ok hs (DVs.okAt ha 0 rfl) hv116), trivial, trivial⟩ hy⟩) rfl
  · cases hr
/-! impl.areFinite -/
noncomputable def impl_areFinite_LO (v115 : List Nat) : LOr := fun id e L =>
  match id with
  | _ => .fail
noncomputable def impl_areFinite_tab : List (FuncId × DFn × Bool) := [(164, slices_ContainsFuncF_F, true)]
theorem impl_areFinite_hO : OrcOk Try.prog (tabD impl_areFinite_tab) (tabM impl_areFinite_tab) := tabD_cons slices_ContainsFuncF_Fok (tabD_nil _)
noncomputable def impl_areFinite_T (v115 : List Nat) : Tree (Bool) :=
  (.call (slices_ContainsFuncF_g v115) fun v131 =>
  .leaf (!v131))

noncomputable def impl_areFinite_g (v115 : List Nat) : Option (Bool) := (impl_areFinite_T v115).run
def impl_areFinite_enc (v115 : List Nat) (y : Bool) : Rs := (.bool y, [])
theorem impl_areFinite_den (v115 : List Nat) : (den TT (tabD impl_areFinite_tab) (tabM impl_areFinite_tab) (impl_areFinite_LO v115) (codeOf Try.f135) ([.bslc (BR.root 0) (.f32 v115)] ++ List.replicate (Try.f135.ntmps - ([.bslc (BR.root 0) (.f32 v115)] : List DV).length) .undef) []).bind (retD TT Try.f135.results.toList 0) = (impl_areFinite_T v115).bind fun y => .leaf (impl_areFinite_enc v115 y) := by kernel_rfl
theorem impl_areFinite_fn (v115 : List Nat) (F : Fr) (hm : F.ids.length = 0) (h0 : St F [] F.H0) (hA : DVs.Ok F [] [.bslc (BR.root 0) (.f32 v115)]) {y : Bool} (hy : impl_areFinite_g v115 = some y) : ∃ H', FnOk Try.prog 135 (DVs.av F [.bslc (BR.root 0) (.f32 v115)]) F.H0 ((impl_areFinite_enc v115 y).1.av F) H' ∧ St F (impl_areFinite_enc v115 y).2 H' ∧ (impl_areFinite_enc v115 y).1.Ok F (impl_areFinite_enc v115 y).2 :=
  fn_fin tok impl_areFinite_hO mixed Try.func135 Try.call135 (by kernel_rfl) (LoopsOk_eq (l := []) (by kernel_rfl) trivial) (impl_areFinite_den v115) hy hm h0 hA
noncomputable def impl_areFinite_F : DFn := fun args L =>
  match args with
  | [a1] =>
    optT (rowF32 L a1) fun v115 =>
    .call (impl_areFinite_g v115) fun y => .leaf (.bool y, L)
  | _ => .fail
theorem impl_areFinite_Fok : COk Try.prog 135 impl_areFinite_F true := by
  intro F L H args r L' hs ha hr
  unfold impl_areFinite_F at hr
  split at hr
  · rename_i a1
    obtain ⟨v115, hv115, hr⟩ := optT_run hr
    simp only [Tree.run] at hr
    obtain ⟨y, hy, hr⟩ := Option.bind_eq_some_iff.1 hr
    simp only [Tree.run, Option.some.injEq, Prod.mk.injEq] at hr
    obtain ⟨rfl, rfl⟩ := hr
    exact call_ok0 hs (fun k => (([a1.av F] : List AV)[k]?).getD .top) [a1] [.bslc (BR.root 0) (.f32 v115)] (fun F' h0 hi hρ => ⟨by simp [DVs.av, DV.av, BR.av, hρ], impl_areFinite_fn v115 F' (by rw [hi]; rfl) (st_nil hi) ⟨bslc_ok hi (by rw [h0, hρ]; exact rowF32_ok hs (DVs.okAt ha 0 rfl) hv115), trivial⟩ hy⟩) rfl
  · cases hr
/-! impl.ValidMatrix -/
noncomputable def impl_ValidMatrix_LO (v107 : Int) (v108 : Int) (v109 : List Nat) : LOr := fun id e L =>
  match id with
  | _ => .fail
noncomputable def impl_ValidMatrix_tab : List (FuncId × DFn × Bool) := [(146, impl_isSide_F, true), (134, impl_lengthF_F, true), (135, impl_areFinite_F, true)]
theorem impl_ValidMatrix_hO : OrcOk Try.prog (tabD impl_ValidMatrix_tab) (tabM impl_ValidMatrix_tab) := tabD_cons impl_isSide_Fok (tabD_cons impl_lengthF_Fok (tabD_cons impl_areFinite_Fok (tabD_nil _)))
noncomputable def impl_ValidMatrix_T (v107 : Int) (v108 : Int) (v109 : List Nat) : Tree (Bool) :=
  (.br (impl_isSide_v v107) (
   (.br (impl_isSide_v v108) (
    (.br (decide ((impl_lengthF_v v109) = IntKind.i64.wrap (v107 * v108))) (
     (.call (impl_areFinite_g v109) fun v132 =>
     .leaf v132)
    ) (
     .leaf false
    ))
   ) (
    .leaf false
   ))
  ) (
   .leaf false
  ))

noncomputable def impl_ValidMatrix_g (v107 : Int) (v108 : Int) (v109 : List Nat) : Option (Bool) := (impl_ValidMatrix_T v107 v108 v109).run
def impl_ValidMatrix_enc (v107 : Int) (v108 : Int) (v109 : List Nat) (y : Bool) : Rs := (.bool y, [])
theorem impl_ValidMatrix_den (v107 : Int) (v108 : Int) (v109 : List Nat) : (den TT (tabD impl_ValidMatrix_tab) (tabM impl_ValidMatrix_tab) (impl_ValidMatrix_LO v107 v108 v109) (codeOf Try.f98) ([.agg [.int .i64 v107, .int .i64 v108, .bslc (BR.root 0) (.f32 v109)]] ++ List.replicate (Try.f98.ntmps - ([.agg [.int .i64 v107, .int .i64 v108, .bslc (BR.root 0) (.f32 v109)]] : List DV).length) .undef) []).bind (retD TT Try.f98.results.toList 0) = (impl_ValidMatrix_T v107 v108 v109).bind fun y => .leaf (impl_ValidMatrix_enc v107 v108 v109 y) := by kernel_rfl
theorem impl_ValidMatrix_fn (v107 : Int) (v108 : Int) (v109 : List Nat) (F : Fr) (hm : F.ids.length = 0) (h0 : St F [] F.H0) (hA : DVs.Ok F [] [.agg [.int .i64 v107, .int .i64 v108, .bslc (BR.root 0) (.f32 v109)]]) {y : Bool} (hy : impl_ValidMatrix_g v107 v108 v109 = some y) : ∃ H', FnOk Try.prog 98 (DVs.av F [.agg [.int .i64 v107, .int .i64 v108, .bslc (BR.root 0) (.f32 v109)]]) F.H0 ((impl_ValidMatrix_enc v107 v108 v109 y).1.av F) H' ∧ St F (impl_ValidMatrix_enc v107 v108 v109 y).2 H' ∧ (impl_ValidMatrix_enc v107 v108 v109 y).1.Ok F (impl_ValidMatrix_enc v107 v108 v109 y).2 :=
  fn_fin tok impl_ValidMatrix_hO mixed Try.func98 Try.call98 (by kernel_rfl) (LoopsOk_eq (l := []) (by kernel_rfl) trivial) (impl_ValidMatrix_den v107 v108 v109) hy hm h0 hA
noncomputable def impl_ValidMatrix_F : DFn := fun args L =>
  match args with
  | [.agg [.int .i64 v107, .int .i64 v108, a1]] =>
    optT (rowF32 L a1) fun v109 =>
    .call (impl_ValidMatrix_g v107 v108 v109) fun y => .leaf (.bool y, L)
  | _ => .fail
theorem impl_ValidMatrix_Fok : COk Try.prog 98 impl_ValidMatrix_F true := by
  intro F L H args r L' hs ha hr
  unfold impl_ValidMatrix_F at hr
  split at hr
  · rename_i v107 v108 a1
    obtain ⟨v109, hv109, hr⟩ := optT_run hr
    simp only [Tree.run] at hr
    obtain ⟨y, hy, hr⟩ := Option.bind_eq_some_iff.1 hr
    simp only [Tree.run, Option.some.injEq, Prod.mk.injEq] at hr
    obtain ⟨rfl, rfl⟩ := hr
    exact call_ok0 hs (fun k => (([a1.av F] : List AV)[k]?).getD .top) [.agg [.int .i64 v107, .int .i64 v108, a1]] [.agg [.int .i64 v107, .int .i64 v108, .bslc (BR.root 0) (.f32 v109)]] (fun F' h0 hi hρ => ⟨by simp [DVs.av, DV.av, BR.av, hρ], impl_ValidMatrix_fn v107 v108 v109 F' (by rw [hi]; rfl) (st_nil hi) ⟨⟨trivial, trivial, bslc_ok hi (by rw [h0, hρ]; exact rowF32_ok hs (DVs.okAt (DVs.okAt ha 0 rfl) 2 rfl) hv109), trivial⟩, trivial⟩ hy⟩) rfl
  · cases hr
/-! impl.isSquare -/
noncomputable def impl_isSquare_LO (v104 : Int) (v105 : Int) (v106 : List Nat) : LOr := fun id e L =>
  match id with
  | _ => .fail
noncomputable def impl_isSquare_tab : List (FuncId × DFn × Bool) := [(98, impl_ValidMatrix_F, true)]
theorem impl_isSquare_hO : OrcOk Try.prog (tabD impl_isSquare_tab) (tabM impl_isSquare_tab) := tabD_cons impl_ValidMatrix_Fok (tabD_nil _)
noncomputable def impl_isSquare_T (v104 : Int) (v105 : Int) (v106 : List Nat) : Tree (Bool) :=
  (.call (impl_ValidMatrix_g v104 v105 v106) fun v133 =>
  (.br v133 (
   .leaf (decide (v104 = v105))
  ) (
   .leaf false
  )))

noncomputable def impl_isSquare_g (v104 : Int) (v105 : Int) (v106 : List Nat) : Option (Bool) := (impl_isSquare_T v104 v105 v106).run
def impl_isSquare_enc (v104 : Int) (v105 : Int) (v106 : List Nat) (y : Bool) : Rs := (.bool y, [])
theorem impl_isSquare_den (v104 : Int) (v105 : Int) (v106 : List Nat) : (den TT (tabD impl_isSquare_tab) (tabM impl_isSquare_tab) (impl_isSquare_LO v104 v105 v106) (codeOf Try.f89) ([.agg [.int .i64 v104, .int .i64 v105, .bslc (BR.root 0) (.f32 v106)]] ++ List.replicate (Try.f89.ntmps - ([.agg [.int .i64 v104, .int .i64 v105, .bslc (BR.root 0) (.f32 v106)]] : List DV).length) .undef) []).bind (retD TT Try.f89.results.toList 0) = (impl_isSquare_T v104 v105 v106).bind fun y => .leaf (impl_isSquare_enc v104 v105 v106 y) := by kernel_rfl
theorem impl_isSquare_fn (v104 : Int) (v105 : Int) (v106 : List Nat) (F : Fr) (hm : F.ids.length = 0) (h0 : St F [] F.H0) (hA : DVs.Ok F [] [.agg [.int .i64 v104, .int .i64 v105, .bslc (BR.root 0) (.f32 v106)]]) {y : Bool} (hy : impl_isSquare_g v104 v105 v106 = some y) : ∃ H', FnOk Try.prog 89 (DVs.av F [.agg [.int .i64 v104, .int .i64 v105, .bslc (BR.root 0) (.f32 v106)]]) F.H0 ((impl_isSquare_enc v104 v105 v106 y).1.av F) H' ∧ St F (impl_isSquare_enc v104 v105 v106 y).2 H' ∧ (impl_isSquare_enc v104 v105 v106 y).1.Ok F (impl_isSquare_enc v104 v105 v106 y).2 :=
  fn_fin tok impl_isSquare_hO mixed Try.func89 Try.call89 (by kernel_rfl) (LoopsOk_eq (l := []) (by kernel_rfl) trivial) (impl_isSquare_den v104 v105 v106) hy hm h0 hA
noncomputable def impl_isSquare_F : DFn := fun args L =>
  match args with
  | [.agg [.int .i64 v104, .int .i64 v105, a1]] =>
    optT (rowF32 L a1) fun v106 =>
    .call (impl_isSquare_g v104 v105 v106) fun y => .leaf (.bool y, L)
  | _ => .fail
theorem impl_isSquare_Fok : COk Try.prog 89 impl_isSquare_F true := by
  intro F L H args r L' hs ha hr
  unfold impl_isSquare_F at hr
  split at hr
  · rename_i v104 v105 a1
    obtain ⟨v106, hv106, hr⟩ := optT_run hr
    simp only [Tree.run] at hr
    obtain ⟨y, hy, hr⟩ := Option.bind_eq_some_iff.1 hr
    simp only [Tree.run, Option.some.injEq, Prod.mk.injEq] at hr
    obtain ⟨rfl, rfl⟩ := hr
    exact call_ok0 hs (fun k => (([a1.av F] : List AV)[k]?).getD .top) [.agg [.int .i64 v104, .int .i64 v105, a1]] [.agg [.int .i64 v104, .int .i64 v105, .bslc (BR.root 0) (.f32 v106)]] (fun F' h0 hi hρ => ⟨by simp [DVs.av, DV.av, BR.av, hρ], impl_isSquare_fn v104 v105 v106 F' (by rw [hi]; rfl) (st_nil hi) ⟨⟨trivial, trivial, bslc_ok hi (by rw [h0, hρ]; exact rowF32_ok hs (DVs.okAt (DVs.okAt ha 0 rfl) 2 rfl) hv106), trivial⟩, trivial⟩ hy⟩) rfl
  · cases hr
/-! (impl.Matrix).at -/
noncomputable def impl_Matrix_at_LO (v139 : Int) (v140 : Int) (v141 : List Nat) (v142 : Int) (v143 : Int) : LOr := fun id e L =>
  match id with
  | _ => .fail
noncomputable def impl_Matrix_at_tab : List (FuncId × DFn × Bool) := []
theorem impl_Matrix_at_hO : OrcOk Try.prog (tabD impl_Matrix_at_tab) (tabM impl_Matrix_at_tab) := tabD_nil _
noncomputable def impl_Matrix_at_T (v140 : Int) (v141 : List Nat) (v142 : Int) (v143 : Int) : Tree (Nat) :=
  (.grd (inb (IntKind.i64.wrap ((IntKind.i64.wrap (v142 * v140)) + v143)) v141.length) <|
  .leaf (nth v141 (Int.toNat (IntKind.i64.wrap ((IntKind.i64.wrap (v142 * v140)) + v143)))))

noncomputable def impl_Matrix_at_g (v140 : Int) (v141 : List Nat) (v142 : Int) (v143 : Int) : Option (Nat) := (impl_Matrix_at_T v140 v141 v142 v143).run
def impl_Matrix_at_enc (v139 : Int) (v140 : Int) (v141 : List Nat) (v142 : Int) (v143 : Int) (y : Nat) : Rs := (.flt .f32 y, [])
theorem impl_Matrix_at_den (v139 : Int) (v140 : Int) (v141 : List Nat) (v142 : Int) (v143 : Int) : (den TT (tabD impl_Matrix_at_tab) (tabM impl_Matrix_at_tab) (impl_Matrix_at_LO v139 v140 v141 v142 v143) (codeOf Try.f93) ([.agg [.int .i64 v139, .int .i64 v140, .bslc (BR.root 0) (.f32 v141)], .int .i64 v142, .int .i64 v143] ++ List.replicate (Try.f93.ntmps - ([.agg [.int .i64 v139, .int .i64 v140, .bslc (BR.root 0) (.f32 v141)], .int .i64 v142, .int .i64 v143] : List DV).length) .undef) []).bind (retD TT Try.f93.results.toList 0) = (impl_Matrix_at_T v140 v141 v142 v143).bind fun y => .leaf (impl_Matrix_at_enc v139 v140 v141 v142 v143 y) := by kernel_rfl
theorem impl_Matrix_at_fn (v139 : Int) (v140 : Int) (v141 : List Nat) (v142 : Int) (v143 : Int) (F : Fr) (hm : F.ids.length = 0) (h0 : St F [] F.H0) (hA : DVs.Ok F [] [.agg [.int .i64 v139, .int .i64 v140, .bslc (BR.root 0) (.f32 v141)], .int .i64 v142, .int .i64 v143]) {y : Nat} (hy : impl_Matrix_at_g v140 v141 v142 v143 = some y) : ∃ H', FnOk Try.prog 93 (DVs.av F [.agg [.int .i64 v139, .int .i64 v140, .bslc (BR.root 0) (.f32 v141)], .int .i64 v142, .int .i64 v143]) F.H0 ((impl_Matrix_at_enc v139 v140 v141 v142 v143 y).1.av F) H' ∧ St F (impl_Matrix_at_enc v139 v140 v141 v142 v143 y).2 H' ∧ (impl_Matrix_at_enc v139 v140 v141 v142 v143 y).1.Ok F (impl_Matrix_at_enc v139 v140 v141 v142 v143 y).2 :=
  fn_fin tok impl_Matrix_at_hO mixed Try.func93 Try.call93 (by kernel_rfl) (LoopsOk_eq (l := []) (by kernel_rfl) trivial) (impl_Matrix_at_den v139 v140 v141 v142 v143) hy hm h0 hA
noncomputable def impl_Matrix_at_F : DFn := fun args L =>
  match args with
  | [.agg [.int .i64 v139, .int .i64 v140, a1], .int .i64 v142, .int .i64 v143] =>
    optT (rowF32 L a1) fun v141 =>
    .call (impl_Matrix_at_g v140 v141 v142 v143) fun y => .leaf (.flt .f32 y, L)
  | _ => .fail
theorem impl_Matrix_at_Fok : COk Try.prog 93 impl_Matrix_at_F true := by
  intro F L H args r L' hs ha hr
  unfold impl_Matrix_at_F at hr
  split at hr
  · rename_i v139 v140 a1 v142 v143
    obtain ⟨v141, hv141, hr⟩ := optT_run hr
    simp only [Tree.run] at hr
    obtain ⟨y, hy, hr⟩ := Option.bind_eq_some_iff.1 hr
    simp only [Tree.run, Option.some.injEq, Prod.mk.injEq] at hr
    obtain ⟨rfl, rfl⟩ := hr
    exact call_ok0 hs (fun k => (([a1.av F] : List AV)[k]?).getD .top) [.agg [.int .i64 v139, .int .i64 v140, a1], .int .i64 v142, .int .i64 v143] [.agg [.int .i64 v139, .int .i64 v140, .bslc (BR.root 0) (.f32 v141)], .int .i64 v142, .int .i64 v143] (fun F' h0 hi hρ => ⟨by simp [DVs.av, DV.av, BR.av, hρ], impl_Matrix_at_fn v139 v140 v141 v142 v143 F' (by rw [hi]; rfl) (st_nil hi) ⟨⟨trivial, trivial, bslc_ok hi (by rw [h0, hρ]; exact rowF32_ok hs (DVs.okAt (DVs.okAt ha 0 rfl) 2 rfl) hv141), trivial⟩, trivial, trivial, trivial⟩ hy⟩) rfl
  · cases hr
/-! (impl.Matrix).middle -/
noncomputable def impl_Matrix_middle_l0_T (v135 : Int) (v136 : Int) (v137 : List Nat) (s : Int × (List Nat)) : Tree ((Int × (List Nat)) ⊕ ((List Nat))) :=
  (.br (decide (s.1 < imin v135 v136)) (
   (.call (impl_Matrix_at_g v136 v137 s.1 s.1) fun v150 =>
   (.grd (fits (s.2 ++ ([v150] : List Nat)).length) <|
   .leaf (.inl (IntKind.i64.wrap (s.1 + (1 : Int)), s.2 ++ ([v150] : List Nat)))))
  ) (
   .leaf (.inr s.2)
  ))

noncomputable def impl_Matrix_middle_l0_g (v135 : Int) (v136 : Int) (v137 : List Nat) (s0 : Int × (List Nat)) : Option ((List Nat)) := whileM (fun s => (impl_Matrix_middle_l0_T v135 v136 v137 s).run) s0
def impl_Matrix_middle_l0_E (v135 : Int) (v136 : Int) (v137 : List Nat) (s : Int × (List Nat)) : Sd := ([.top, .ptr 0 (0 : Nat) 0 (3 : Nat), .top, .own 1 0 ((s.2).length), .top, .top, .top, .top, .top, .top, .int .i64 (imin v135 v136), .int .i64 s.1, .top, .top, .top, .top, .top, .top, .top, .top, .top, .top, .top], [.gen [.int .i64 v135, .int .i64 v136, .bslc (BR.root 0) (.f32 v137)] false 0, .row (.f32 s.2) 0])
def impl_Matrix_middle_l0_X (v135 : Int) (v136 : Int) (v137 : List Nat) (x : (List Nat)) : Out := (.normal, [.top, .top, .top, .own 0 0 ((x).length), .top, .top, .top, .top, .top, .top, .top, .top, .top, .top, .top, .top, .top, .top, .top, .top, .top, .top, .top], [.row (.f32 x) 0])
def impl_Matrix_middle_l0_kill : List Nat := [1, 0, 1, 0, 1, 1, 1, 1, 1, 1, 0, 0, 1, 1, 1, 1, 1, 1, 1, 1, 1, 1, 1]
def impl_Matrix_middle_l0_nx : Exit → List Nat
  | .exit 0 => [1, 1, 1, 0, 1, 1, 1, 1, 1, 1, 1, 1, 1, 1, 1, 1, 1, 1, 1, 1, 1, 1, 1]
  | .ret => [1, 1, 0, 1, 1, 1, 1, 1, 1, 1, 1, 1, 1, 1, 1, 1, 1, 1, 1, 1, 1, 1, 1]
  | _ => []
noncomputable def impl_Matrix_middle_LO (v135 : Int) (v136 : Int) (v137 : List Nat) : LOr := fun id e L =>
  match id with
  | 0 => .need (normA 0 impl_Matrix_middle_l0_kill e L = some (impl_Matrix_middle_l0_E v135 v136 v137 ((gI (vAt e 11)), (gRF L (vAt e 3))))) (.call (impl_Matrix_middle_l0_g v135 v136 v137 ((gI (vAt e 11)), (gRF L (vAt e 3)))) fun x => .leaf (impl_Matrix_middle_l0_X v135 v136 v137 x))
  | _ => .fail
noncomputable def impl_Matrix_middle_tab : List (FuncId × DFn × Bool) := [(93, impl_Matrix_at_F, true)]
theorem impl_Matrix_middle_hO : OrcOk Try.prog (tabD impl_Matrix_middle_tab) (tabM impl_Matrix_middle_tab) := tabD_cons impl_Matrix_at_Fok (tabD_nil _)
theorem impl_Matrix_middle_l0_be (v135 : Int) (v136 : Int) (v137 : List Nat) (s : Int × (List Nat)) : bodyT TT (tabD impl_Matrix_middle_tab) (tabM impl_Matrix_middle_tab) (impl_Matrix_middle_LO v135 v136 v137) 0 impl_Matrix_middle_l0_kill impl_Matrix_middle_l0_nx (bodyOf Try.f113 0) 0 (impl_Matrix_middle_l0_E v135 v136 v137 s) = (impl_Matrix_middle_l0_T v135 v136 v137 s).bind fun y => .leaf (outS (impl_Matrix_middle_l0_E v135 v136 v137) (impl_Matrix_middle_l0_X v135 v136 v137) y) := by kernel_rfl
theorem impl_Matrix_middle_l0_ok (v135 : Int) (v136 : Int) (v137 : List Nat) : LSound Try.prog 0 (impl_Matrix_middle_LO v135 v136 v137) 0 (bodyOf Try.f113 0) := by
  intro e L out h
  exact lo_ok (E := impl_Matrix_middle_l0_E v135 v136 v137) (gT := impl_Matrix_middle_l0_T v135 v136 v137) (X := impl_Matrix_middle_l0_X v135 v136 v137) (s0 := ((gI (vAt e 11)), (gRF L (vAt e 3)))) tok impl_Matrix_middle_hO mixed (LoopsOk_eq (l := []) (by kernel_rfl) trivial) (impl_Matrix_middle_l0_be v135 v136 v137) rfl (by intro x; rfl) h
noncomputable def impl_Matrix_middle_T (v135 : Int) (v136 : Int) (v137 : List Nat) : Tree ((List Nat)) :=
  (.need (some (impl_Matrix_middle_l0_E v135 v136 v137 ((0 : Int), ([] : List Nat))) = some (impl_Matrix_middle_l0_E v135 v136 v137 ((0 : Int), ([] : List Nat)))) <|
  (.call (impl_Matrix_middle_l0_g v135 v136 v137 ((0 : Int), ([] : List Nat))) fun v151 =>
  .leaf v151))

noncomputable def impl_Matrix_middle_g (v135 : Int) (v136 : Int) (v137 : List Nat) : Option ((List Nat)) := (impl_Matrix_middle_T v135 v136 v137).run
def impl_Matrix_middle_enc (v135 : Int) (v136 : Int) (v137 : List Nat) (y : (List Nat)) : Rs := (.own 0 0 ((y).length), [.row (.f32 y) 0])
theorem impl_Matrix_middle_den (v135 : Int) (v136 : Int) (v137 : List Nat) : (den TT (tabD impl_Matrix_middle_tab) (tabM impl_Matrix_middle_tab) (impl_Matrix_middle_LO v135 v136 v137) (codeOf Try.f113) ([.agg [.int .i64 v135, .int .i64 v136, .bslc (BR.root 0) (.f32 v137)]] ++ List.replicate (Try.f113.ntmps - ([.agg [.int .i64 v135, .int .i64 v136, .bslc (BR.root 0) (.f32 v137)]] : List DV).length) .undef) []).bind (retD TT Try.f113.results.toList 0) = (impl_Matrix_middle_T v135 v136 v137).bind fun y => .leaf (impl_Matrix_middle_enc v135 v136 v137 y) := by kernel_rfl
theorem impl_Matrix_middle_fn (v135 : Int) (v136 : Int) (v137 : List Nat) (F : Fr) (hm : F.ids.length = 0) (h0 : St F [] F.H0) (hA : DVs.Ok F [] [.agg [.int .i64 v135, .int .i64 v136, .bslc (BR.root 0) (.f32 v137)]]) {y : (List Nat)} (hy : impl_Matrix_middle_g v135 v136 v137 = some y) : ∃ H', FnOk Try.prog 113 (DVs.av F [.agg [.int .i64 v135, .int .i64 v136, .bslc (BR.root 0) (.f32 v137)]]) F.H0 ((impl_Matrix_middle_enc v135 v136 v137 y).1.av F) H' ∧ St F (impl_Matrix_middle_enc v135 v136 v137 y).2 H' ∧ (impl_Matrix_middle_enc v135 v136 v137 y).1.Ok F (impl_Matrix_middle_enc v135 v136 v137 y).2 :=
  fn_fin tok impl_Matrix_middle_hO mixed Try.func113 Try.call113 (by kernel_rfl) (LoopsOk_eq (l := [(0, bodyOf Try.f113 0)]) (by kernel_rfl) ⟨impl_Matrix_middle_l0_ok v135 v136 v137, trivial⟩) (impl_Matrix_middle_den v135 v136 v137) hy hm h0 hA
noncomputable def impl_Matrix_middle_F : DFn := fun args L =>
  match args with
  | [.agg [.int .i64 v135, .int .i64 v136, a1]] =>
    optT (rowF32 L a1) fun v137 =>
    .call (impl_Matrix_middle_g v135 v136 v137) fun y => .leaf (.own (L.length + 0) 0 ((y).length), L ++ [.row (.f32 y) 0])
  | _ => .fail
theorem impl_Matrix_middle_Fok : COk Try.prog 113 impl_Matrix_middle_F true := by
  intro F L H args r L' hs ha hr
  unfold impl_Matrix_middle_F at hr
  split at hr
  · rename_i v135 v136 a1
    obtain ⟨v137, hv137, hr⟩ := optT_run hr
    simp only [Tree.run] at hr
    obtain ⟨y, hy, hr⟩ := Option.bind_eq_some_iff.1 hr
    simp only [Tree.run, Option.some.injEq, Prod.mk.injEq] at hr
    obtain ⟨rfl, rfl⟩ := hr
    exact call_ok1 hs (fun k => (([a1.av F] : List AV)[k]?).getD .top) [.agg [.int .i64 v135, .int .i64 v136, a1]] [.agg [.int .i64 v135, .int .i64 v136, .bslc (BR.root 0) (.f32 v137)]] (fun F' h0 hi hρ => ⟨by simp [DVs.av, DV.av, BR.av, hρ], impl_Matrix_middle_fn v135 v136 v137 F' (by rw [hi]; rfl) (st_nil hi) ⟨⟨trivial, trivial, bslc_ok hi (by rw [h0, hρ]; exact rowF32_ok hs (DVs.okAt (DVs.okAt ha 0 rfl) 2 rfl) hv137), trivial⟩, trivial⟩ hy⟩) rfl rfl
  · cases hr
/-! slices.Index[list of float32,float32] -/
noncomputable def slices_IndexF_l0_T (v155 : List Nat) (v156 : Nat) (s : Int) : Tree ((Int) ⊕ ((Int) ⊕ (Unit))) :=
  (.br (decide (s < ((v155.length : Nat) : Int))) (
   (.grd (inb s v155.length) <|
   (.br (feq .f32 v156 (nth v155 (Int.toNat s))) (
    .leaf (.inr (.inl s))
   ) (
    .leaf (.inl (IntKind.i64.wrap (s + (1 : Int))))
   )))
  ) (
   .leaf (.inr (.inr ()))
  ))

noncomputable def slices_IndexF_l0_g (v155 : List Nat) (v156 : Nat) (s0 : Int) : Option ((Int) ⊕ (Unit)) := whileM (fun s => (slices_IndexF_l0_T v155 v156 s).run) s0
def slices_IndexF_l0_E (v155 : List Nat) (v156 : Nat) (s : Int) : Sd := ([.bslc (BR.root 0) (.f32 v155), .flt .f32 v156, .top, .top, .top, .top, .top, .int .i64 ((v155.length : Nat) : Int), .int .i64 s, .top, .top, .top, .top, .top, .top, .top, .top, .top, .top], [])
def slices_IndexF_l0_X (v155 : List Nat) (v156 : Nat) (x : (Int) ⊕ (Unit)) : Out := (match x with | .inl x => (.ret, [.top, .top, .top, .top, .int .i64 x, .top, .top, .top, .top, .top, .top, .top, .top, .top, .top, .top, .top, .top, .top], []) | .inr x => (.normal, [.top, .top, .top, .top, .top, .top, .top, .top, .top, .top, .top, .top, .top, .top, .top, .top, .top, .top, .top], []))
def slices_IndexF_l0_kill : List Nat := [0, 0, 1, 1, 1, 1, 1, 0, 0, 1, 1, 1, 1, 1, 1, 1, 1, 1, 1]
def slices_IndexF_l0_nx : Exit → List Nat
  | .exit 0 => [1, 1, 1, 1, 1, 1, 1, 1, 1, 1, 1, 1, 1, 1, 1, 1, 1, 1, 1]
  | .ret => [1, 1, 1, 1, 0, 1, 1, 1, 1, 1, 1, 1, 1, 1, 1, 1, 1, 1, 1]
  | _ => []
noncomputable def slices_IndexF_LO (v155 : List Nat) (v156 : Nat) : LOr := fun id e L =>
  match id with
  | 0 => .need (normA 0 slices_IndexF_l0_kill e L = some (slices_IndexF_l0_E v155 v156 (gI (vAt e 8)))) (.call (slices_IndexF_l0_g v155 v156 (gI (vAt e 8))) fun x => .sum x (fun b0 => .leaf (slices_IndexF_l0_X v155 v156 (.inl b0))) (fun c0 => .leaf (slices_IndexF_l0_X v155 v156 (.inr c0))))
  | _ => .fail
noncomputable def slices_IndexF_tab : List (FuncId × DFn × Bool) := []
theorem slices_IndexF_hO : OrcOk Try.prog (tabD slices_IndexF_tab) (tabM slices_IndexF_tab) := tabD_nil _
theorem slices_IndexF_l0_be (v155 : List Nat) (v156 : Nat) (s : Int) : bodyT TT (tabD slices_IndexF_tab) (tabM slices_IndexF_tab) (slices_IndexF_LO v155 v156) 0 slices_IndexF_l0_kill slices_IndexF_l0_nx (bodyOf Try.f155 0) 0 (slices_IndexF_l0_E v155 v156 s) = (slices_IndexF_l0_T v155 v156 s).bind fun y => .leaf (outS (slices_IndexF_l0_E v155 v156) (slices_IndexF_l0_X v155 v156) y) := by kernel_rfl
theorem slices_IndexF_l0_ok (v155 : List Nat) (v156 : Nat) : LSound Try.prog 0 (slices_IndexF_LO v155 v156) 0 (bodyOf Try.f155 0) := by
  intro e L out h
  exact lo_ok (E := slices_IndexF_l0_E v155 v156) (gT := slices_IndexF_l0_T v155 v156) (X := slices_IndexF_l0_X v155 v156) (s0 := (gI (vAt e 8))) tok slices_IndexF_hO mixed (LoopsOk_eq (l := []) (by kernel_rfl) trivial) (slices_IndexF_l0_be v155 v156) rfl (by intro x; (cases x with | inl b => rfl | inr x => exact rfl)) h
noncomputable def slices_IndexF_T (v155 : List Nat) (v156 : Nat) : Tree (Int) :=
  (.need (some (slices_IndexF_l0_E v155 v156 (0 : Int)) = some (slices_IndexF_l0_E v155 v156 (0 : Int))) <|
  (.call (slices_IndexF_l0_g v155 v156 (0 : Int)) fun v160 =>
  (.sum v160 (fun v161 =>
   .leaf v161
  ) (fun v162 =>
   .leaf (-1 : Int)
  ))))

noncomputable def slices_IndexF_g (v155 : List Nat) (v156 : Nat) : Option (Int) := (slices_IndexF_T v155 v156).run
def slices_IndexF_enc (v155 : List Nat) (v156 : Nat) (y : Int) : Rs := (.int .i64 y, [])
theorem slices_IndexF_den (v155 : List Nat) (v156 : Nat) : (den TT (tabD slices_IndexF_tab) (tabM slices_IndexF_tab) (slices_IndexF_LO v155 v156) (codeOf Try.f155) ([.bslc (BR.root 0) (.f32 v155), .flt .f32 v156] ++ List.replicate (Try.f155.ntmps - ([.bslc (BR.root 0) (.f32 v155), .flt .f32 v156] : List DV).length) .undef) []).bind (retD TT Try.f155.results.toList 0) = (slices_IndexF_T v155 v156).bind fun y => .leaf (slices_IndexF_enc v155 v156 y) := by kernel_rfl
theorem slices_IndexF_fn (v155 : List Nat) (v156 : Nat) (F : Fr) (hm : F.ids.length = 0) (h0 : St F [] F.H0) (hA : DVs.Ok F [] [.bslc (BR.root 0) (.f32 v155), .flt .f32 v156]) {y : Int} (hy : slices_IndexF_g v155 v156 = some y) : ∃ H', FnOk Try.prog 155 (DVs.av F [.bslc (BR.root 0) (.f32 v155), .flt .f32 v156]) F.H0 ((slices_IndexF_enc v155 v156 y).1.av F) H' ∧ St F (slices_IndexF_enc v155 v156 y).2 H' ∧ (slices_IndexF_enc v155 v156 y).1.Ok F (slices_IndexF_enc v155 v156 y).2 :=
  fn_fin tok slices_IndexF_hO mixed Try.func155 Try.call155 (by kernel_rfl) (LoopsOk_eq (l := [(0, bodyOf Try.f155 0)]) (by kernel_rfl) ⟨slices_IndexF_l0_ok v155 v156, trivial⟩) (slices_IndexF_den v155 v156) hy hm h0 hA
noncomputable def slices_IndexF_F : DFn := fun args L =>
  match args with
  | [a1, .flt .f32 v156] =>
    optT (rowF32 L a1) fun v155 =>
    .call (slices_IndexF_g v155 v156) fun y => .leaf (.int .i64 y, L)
  | _ => .fail
theorem slices_IndexF_Fok : COk Try.prog 155 slices_IndexF_F true := by
  intro F L H args r L' hs ha hr
  unfold slices_IndexF_F at hr
  split at hr
  · rename_i a1 v156
    obtain ⟨v155, hv155, hr⟩ := optT_run hr
    simp only [Tree.run] at hr
    obtain ⟨y, hy, hr⟩ := Option.bind_eq_some_iff.1 hr
    simp only [Tree.run, Option.some.injEq, Prod.mk.injEq] at hr
    obtain ⟨rfl, rfl⟩ := hr
    exact call_ok0 hs (fun k => (([a1.av F] : List AV)[k]?).getD .top) [a1, .flt .f32 v156] [.bslc (BR.root 0) (.f32 v155), .flt .f32 v156] (fun F' h0 hi hρ => ⟨by simp [DVs.av, DV.av, BR.av, hρ], slices_IndexF_fn v155 v156 F' (by rw [hi]; rfl) (st_nil hi) ⟨bslc_ok hi (by rw [h0, hρ]; exact rowF32_ok hs (DVs.okAt ha 0 rfl) hv155), trivial, trivial⟩ hy⟩) rfl
  · cases hr
/-! slices.Contains[list of float32,float32] -/
noncomputable def slices_ContainsF_LO (v153 : List Nat) (v154 : Nat) : LOr := fun id e L =>
  match id with
  | _ => .fail
noncomputable def slices_ContainsF_tab : List (FuncId × DFn × Bool) := [(155, slices_IndexF_F, true)]
theorem slices_ContainsF_hO : OrcOk Try.prog (tabD slices_ContainsF_tab) (tabM slices_ContainsF_tab) := tabD_cons slices_IndexF_Fok (tabD_nil _)
noncomputable def slices_ContainsF_T (v153 : List Nat) (v154 : Nat) : Tree (Bool) :=
  (.call (slices_IndexF_g v153 v154) fun v163 =>
  .leaf (decide ((0 : Int) ≤ v163)))

noncomputable def slices_ContainsF_g (v153 : List Nat) (v154 : Nat) : Option (Bool) := (slices_ContainsF_T v153 v154).run
def slices_ContainsF_enc (v153 : List Nat) (v154 : Nat) (y : Bool) : Rs := (.bool y, [])
theorem slices_ContainsF_den (v153 : List Nat) (v154 : Nat) : (den TT (tabD slices_ContainsF_tab) (tabM slices_ContainsF_tab) (slices_ContainsF_LO v153 v154) (codeOf Try.f112) ([.bslc (BR.root 0) (.f32 v153), .flt .f32 v154] ++ List.replicate (Try.f112.ntmps - ([.bslc (BR.root 0) (.f32 v153), .flt .f32 v154] : List DV).length) .undef) []).bind (retD TT Try.f112.results.toList 0) = (slices_ContainsF_T v153 v154).bind fun y => .leaf (slices_ContainsF_enc v153 v154 y) := by kernel_rfl
theorem slices_ContainsF_fn (v153 : List Nat) (v154 : Nat) (F : Fr) (hm : F.ids.length = 0) (h0 : St F [] F.H0) (hA : DVs.Ok F [] [.bslc (BR.root 0) (.f32 v153), .flt .f32 v154]) {y : Bool} (hy : slices_ContainsF_g v153 v154 = some y) : ∃ H', FnOk Try.prog 112 (DVs.av F [.bslc (BR.root 0) (.f32 v153), .flt .f32 v154]) F.H0 ((slices_ContainsF_enc v153 v154 y).1.av F) H' ∧ St F (slices_ContainsF_enc v153 v154 y).2 H' ∧ (slices_ContainsF_enc v153 v154 y).1.Ok F (slices_ContainsF_enc v153 v154 y).2 :=
  fn_fin tok slices_ContainsF_hO mixed Try.func112 Try.call112 (by kernel_rfl) (LoopsOk_eq (l := []) (by kernel_rfl) trivial) (slices_ContainsF_den v153 v154) hy hm h0 hA
noncomputable def slices_ContainsF_F : DFn := fun args L =>
  match args with
  | [a1, .flt .f32 v154] =>
    optT (rowF32 L a1) fun v153 =>
    .call (slices_ContainsF_g v153 v154) fun y => .leaf (.bool y, L)
  | _ => .fail
theorem slices_ContainsF_Fok : COk Try.prog 112 slices_ContainsF_F true := by
  intro F L H args r L' hs ha hr
  unfold slices_ContainsF_F at hr
  split at hr
  · rename_i a1 v154
    obtain ⟨v153, hv153, hr⟩ := optT_run hr
    simp only [Tree.run] at hr
    obtain ⟨y, hy, hr⟩ := Option.bind_eq_some_iff.1 hr
    simp only [Tree.run, Option.some.injEq, Prod.mk.injEq] at hr
    obtain ⟨rfl, rfl⟩ := hr
    exact call_ok0 hs (fun k => (([a1.av F] : List AV)[k]?).getD .top) [a1, .flt .f32 v154] [.bslc (BR.root 0) (.f32 v153), .flt .f32 v154] (fun F' h0 hi hρ => ⟨by simp [DVs.av, DV.av, BR.av, hρ], slices_ContainsF_fn v153 v154 F' (by rw [hi]; rfl) (st_nil hi) ⟨bslc_ok hi (by rw [h0, hρ]; exact rowF32_ok hs (DVs.okAt ha 0 rfl) hv153), trivial, trivial⟩ hy⟩) rfl
  · cases hr
/-! impl.length[int64] -/
noncomputable def impl_lengthI_LO (v166 : List Int) : LOr := fun id e L =>
  match id with
  | _ => .fail
noncomputable def impl_lengthI_tab : List (FuncId × DFn × Bool) := []
theorem impl_lengthI_hO : OrcOk Try.prog (tabD impl_lengthI_tab) (tabM impl_lengthI_tab) := tabD_nil _
noncomputable def impl_lengthI_T (v166 : List Int) : Tree (Int) :=
  .leaf ((v166.length : Nat) : Int)

noncomputable def impl_lengthI_g (v166 : List Int) : Option (Int) := (impl_lengthI_T v166).run
def impl_lengthI_enc (v166 : List Int) (y : Int) : Rs := (.int .i64 y, [])
theorem impl_lengthI_den (v166 : List Int) : (den TT (tabD impl_lengthI_tab) (tabM impl_lengthI_tab) (impl_lengthI_LO v166) (codeOf Try.f109) ([.bslc (BR.root 0) (.i64 v166)] ++ List.replicate (Try.f109.ntmps - ([.bslc (BR.root 0) (.i64 v166)] : List DV).length) .undef) []).bind (retD TT Try.f109.results.toList 0) = (impl_lengthI_T v166).bind fun y => .leaf (impl_lengthI_enc v166 y) := by kernel_rfl
theorem impl_lengthI_fn (v166 : List Int) (F : Fr) (hm : F.ids.length = 0) (h0 : St F [] F.H0) (hA : DVs.Ok F [] [.bslc (BR.root 0) (.i64 v166)]) {y : Int} (hy : impl_lengthI_g v166 = some y) : ∃ H', FnOk Try.prog 109 (DVs.av F [.bslc (BR.root 0) (.i64 v166)]) F.H0 ((impl_lengthI_enc v166 y).1.av F) H' ∧ St F (impl_lengthI_enc v166 y).2 H' ∧ (impl_lengthI_enc v166 y).1.Ok F (impl_lengthI_enc v166 y).2 :=
  fn_fin tok impl_lengthI_hO mixed Try.func109 Try.call109 (by kernel_rfl) (LoopsOk_eq (l := []) (by kernel_rfl) trivial) (impl_lengthI_den v166) hy hm h0 hA
def impl_lengthI_v (v166 : List Int) : Int :=
  ((v166.length : Nat) : Int)
theorem impl_lengthI_tot (v166 : List Int) : impl_lengthI_g v166 = some (impl_lengthI_v v166) := by
  unfold impl_lengthI_g impl_lengthI_T impl_lengthI_v
  simp only [Tree.run]
  repeat' (first | rfl | split)
noncomputable def impl_lengthI_F : DFn := fun args L =>
  match args with
  | [a1] =>
    optT (rowI64 L a1) fun v166 =>
    .leaf (.int .i64 (impl_lengthI_v v166), L)
  | _ => .fail
theorem impl_lengthI_Fok : COk Try.prog 109 impl_lengthI_F true := by
  intro F L H args r L' hs ha hr
  unfold impl_lengthI_F at hr
  split at hr
  · rename_i a1
    obtain ⟨v166, hv166, hr⟩ := optT_run hr
    have hy := impl_lengthI_tot v166
    generalize impl_lengthI_v v166 = y at hy hr
    simp only [Tree.run, Option.some.injEq, Prod.mk.injEq] at hr
    obtain ⟨rfl, rfl⟩ := hr
    exact call_ok0 hs (fun k => (([a1.av F] : List AV)[k]?).getD .top) [a1] [.bslc (BR.root 0) (.i64 v166)] (fun F' h0 hi hρ => ⟨by simp [DVs.av, DV.av, BR.av, hρ], impl_lengthI_fn v166 F' (by rw [hi]; rfl) (st_nil hi) ⟨bslc_ok hi (by rw [h0, hρ]; exact rowI64_ok hs (DVs.okAt ha 0 rfl) hv166), trivial⟩ hy⟩) rfl
  · cases hr
/-! impl.IsOrder -/
noncomputable def impl_IsOrder_LO (v165 : List Int) : LOr := fun id e L =>
  match id with
  | _ => .fail
noncomputable def impl_IsOrder_tab : List (FuncId × DFn × Bool) := [(109, impl_lengthI_F, true), (146, impl_isSide_F, true), (154, Perm_F, true)]
theorem impl_IsOrder_hO : OrcOk Try.prog (tabD impl_IsOrder_tab) (tabM impl_IsOrder_tab) := tabD_cons impl_lengthI_Fok (tabD_cons impl_isSide_Fok (tabD_cons Perm_Fok (tabD_nil _)))
noncomputable def impl_IsOrder_T (v165 : List Int) : Tree (Bool) :=
  (.br (impl_isSide_v (impl_lengthI_v v165)) (
   (.grd (decide (0 < v165.length) && decide (v165.length ≤ 4096)) <|
   .leaf (PM.permB v165))
  ) (
   .leaf false
  ))

noncomputable def impl_IsOrder_g (v165 : List Int) : Option (Bool) := (impl_IsOrder_T v165).run
def impl_IsOrder_enc (v165 : List Int) (y : Bool) : Rs := (.bool y, [])
theorem impl_IsOrder_den (v165 : List Int) : (den TT (tabD impl_IsOrder_tab) (tabM impl_IsOrder_tab) (impl_IsOrder_LO v165) (codeOf Try.f108) ([.bslc (BR.root 0) (.i64 v165)] ++ List.replicate (Try.f108.ntmps - ([.bslc (BR.root 0) (.i64 v165)] : List DV).length) .undef) []).bind (retD TT Try.f108.results.toList 0) = (impl_IsOrder_T v165).bind fun y => .leaf (impl_IsOrder_enc v165 y) := by kernel_rfl
theorem impl_IsOrder_fn (v165 : List Int) (F : Fr) (hm : F.ids.length = 0) (h0 : St F [] F.H0) (hA : DVs.Ok F [] [.bslc (BR.root 0) (.i64 v165)]) {y : Bool} (hy : impl_IsOrder_g v165 = some y) : ∃ H', FnOk Try.prog 108 (DVs.av F [.bslc (BR.root 0) (.i64 v165)]) F.H0 ((impl_IsOrder_enc v165 y).1.av F) H' ∧ St F (impl_IsOrder_enc v165 y).2 H' ∧ (impl_IsOrder_enc v165 y).1.Ok F (impl_IsOrder_enc v165 y).2 :=
  fn_fin tok impl_IsOrder_hO mixed Try.func108 Try.call108 (by kernel_rfl) (LoopsOk_eq (l := []) (by kernel_rfl) trivial) (impl_IsOrder_den v165) hy hm h0 hA
noncomputable def impl_IsOrder_F : DFn := fun args L =>
  match args with
  | [a1] =>
    optT (rowI64 L a1) fun v165 =>
    .call (impl_IsOrder_g v165) fun y => .leaf (.bool y, L)
  | _ => .fail
theorem impl_IsOrder_Fok : COk Try.prog 108 impl_IsOrder_F true := by
  intro F L H args r L' hs ha hr
  unfold impl_IsOrder_F at hr
  split at hr
  · rename_i a1
    obtain ⟨v165, hv165, hr⟩ := optT_run hr
    simp only [Tree.run] at hr
    obtain ⟨y, hy, hr⟩ := Option.bind_eq_some_iff.1 hr
    simp only [Tree.run, Option.some.injEq, Prod.mk.injEq] at hr
    obtain ⟨rfl, rfl⟩ := hr
    exact call_ok0 hs (fun k => (([a1.av F] : List AV)[k]?).getD .top) [a1] [.bslc (BR.root 0) (.i64 v165)] (fun F' h0 hi hρ => ⟨by simp [DVs.av, DV.av, BR.av, hρ], impl_IsOrder_fn v165 F' (by rw [hi]; rfl) (st_nil hi) ⟨bslc_ok hi (by rw [h0, hρ]; exact rowI64_ok hs (DVs.okAt ha 0 rfl) hv165), trivial⟩ hy⟩) rfl
  · cases hr
/-! impl.ValidFactor -/
noncomputable def impl_ValidFactor_LO (v100 : Int) (v101 : Int) (v102 : List Nat) (v103 : List Int) : LOr := fun id e L =>
  match id with
  | _ => .fail
noncomputable def impl_ValidFactor_tab : List (FuncId × DFn × Bool) := [(89, impl_isSquare_F, true), (113, impl_Matrix_middle_F, true), (112, slices_ContainsF_F, true), (108, impl_IsOrder_F, true), (109, impl_lengthI_F, true)]
theorem impl_ValidFactor_hO : OrcOk Try.prog (tabD impl_ValidFactor_tab) (tabM impl_ValidFactor_tab) := tabD_cons impl_isSquare_Fok (tabD_cons impl_Matrix_middle_Fok (tabD_cons slices_ContainsF_Fok (tabD_cons impl_IsOrder_Fok (tabD_cons impl_lengthI_Fok (tabD_nil _)))))
noncomputable def impl_ValidFactor_T (v100 : Int) (v101 : Int) (v102 : List Nat) (v103 : List Int) : Tree (Bool) :=
  (.call (impl_isSquare_g v100 v101 v102) fun v134 =>
  (.br v134 (
   (.call (impl_Matrix_middle_g v100 v101 v102) fun v152 =>
   (.call (slices_ContainsF_g v152 (0 : Nat)) fun v164 =>
   (.br (!v164) (
    (.call (impl_IsOrder_g v103) fun v167 =>
    (.br v167 (
     .leaf (decide ((impl_lengthI_v v103) = v100))
    ) (
     .leaf false
    )))
   ) (
    .leaf false
   ))))
  ) (
   .leaf false
  )))

noncomputable def impl_ValidFactor_g (v100 : Int) (v101 : Int) (v102 : List Nat) (v103 : List Int) : Option (Bool) := (impl_ValidFactor_T v100 v101 v102 v103).run
def impl_ValidFactor_enc (v100 : Int) (v101 : Int) (v102 : List Nat) (v103 : List Int) (y : Bool) : Rs := (.bool y, [])
theorem impl_ValidFactor_den (v100 : Int) (v101 : Int) (v102 : List Nat) (v103 : List Int) : (den TT (tabD impl_ValidFactor_tab) (tabM impl_ValidFactor_tab) (impl_ValidFactor_LO v100 v101 v102 v103) (codeOf Try.f49) ([.agg [.int .i64 v100, .int .i64 v101, .bslc (BR.root 0) (.f32 v102), .bslc (BR.root 1) (.i64 v103)]] ++ List.replicate (Try.f49.ntmps - ([.agg [.int .i64 v100, .int .i64 v101, .bslc (BR.root 0) (.f32 v102), .bslc (BR.root 1) (.i64 v103)]] : List DV).length) .undef) []).bind (retD TT Try.f49.results.toList 0) = (impl_ValidFactor_T v100 v101 v102 v103).bind fun y => .leaf (impl_ValidFactor_enc v100 v101 v102 v103 y) := by kernel_rfl
theorem impl_ValidFactor_fn (v100 : Int) (v101 : Int) (v102 : List Nat) (v103 : List Int) (F : Fr) (hm : F.ids.length = 0) (h0 : St F [] F.H0) (hA : DVs.Ok F [] [.agg [.int .i64 v100, .int .i64 v101, .bslc (BR.root 0) (.f32 v102), .bslc (BR.root 1) (.i64 v103)]]) {y : Bool} (hy : impl_ValidFactor_g v100 v101 v102 v103 = some y) : ∃ H', FnOk Try.prog 49 (DVs.av F [.agg [.int .i64 v100, .int .i64 v101, .bslc (BR.root 0) (.f32 v102), .bslc (BR.root 1) (.i64 v103)]]) F.H0 ((impl_ValidFactor_enc v100 v101 v102 v103 y).1.av F) H' ∧ St F (impl_ValidFactor_enc v100 v101 v102 v103 y).2 H' ∧ (impl_ValidFactor_enc v100 v101 v102 v103 y).1.Ok F (impl_ValidFactor_enc v100 v101 v102 v103 y).2 :=
  fn_fin tok impl_ValidFactor_hO mixed Try.func49 Try.call49 (by kernel_rfl) (LoopsOk_eq (l := []) (by kernel_rfl) trivial) (impl_ValidFactor_den v100 v101 v102 v103) hy hm h0 hA
noncomputable def impl_ValidFactor_F : DFn := fun args L =>
  match args with
  | [.agg [.int .i64 v100, .int .i64 v101, a1, a2]] =>
    optT (rowF32 L a1) fun v102 =>
    optT (rowI64 L a2) fun v103 =>
    .call (impl_ValidFactor_g v100 v101 v102 v103) fun y => .leaf (.bool y, L)
  | _ => .fail
theorem impl_ValidFactor_Fok : COk Try.prog 49 impl_ValidFactor_F true := by
  intro F L H args r L' hs ha hr
  unfold impl_ValidFactor_F at hr
  split at hr
  · rename_i v100 v101 a1 a2
    obtain ⟨v102, hv102, hr⟩ := optT_run hr
    obtain ⟨v103, hv103, hr⟩ := optT_run hr
    simp only [Tree.run] at hr
    obtain ⟨y, hy, hr⟩ := Option.bind_eq_some_iff.1 hr
    simp only [Tree.run, Option.some.injEq, Prod.mk.injEq] at hr
    obtain ⟨rfl, rfl⟩ := hr
    exact call_ok0 hs (fun k => (([a1.av F, a2.av F] : List AV)[k]?).getD .top) [.agg [.int .i64 v100, .int .i64 v101, a1, a2]] [.agg [.int .i64 v100, .int .i64 v101, .bslc (BR.root 0) (.f32 v102), .bslc (BR.root 1) (.i64 v103)]] (fun F' h0 hi hρ => ⟨by simp [DVs.av, DV.av, BR.av, hρ], impl_ValidFactor_fn v100 v101 v102 v103 F' (by rw [hi]; rfl) (st_nil hi) ⟨⟨trivial, trivial, bslc_ok hi (by rw [h0, hρ]; exact rowF32_ok hs (DVs.okAt (DVs.okAt ha 0 rfl) 2 rfl) hv102), bslc_ok hi (by rw [h0, hρ]; exact rowI64_ok hs (DVs.okAt (DVs.okAt ha 0 rfl) 3 rfl) hv103), trivial⟩, trivial⟩ hy⟩) rfl
  · cases hr
/-! laws.sameFloat -/
noncomputable def laws_sameFloat_LO (v187 : Nat) (v188 : Nat) : LOr := fun id e L =>
  match id with
  | _ => .fail
noncomputable def laws_sameFloat_tab : List (FuncId × DFn × Bool) := []
theorem laws_sameFloat_hO : OrcOk Try.prog (tabD laws_sameFloat_tab) (tabM laws_sameFloat_tab) := tabD_nil _
noncomputable def laws_sameFloat_T (v187 : Nat) (v188 : Nat) : Tree (Bool) :=
  (.br (!feq .f64 v187 v187) (
   (.br (!feq .f64 v187 v187) (
    .leaf (!feq .f64 v188 v188)
   ) (
    .leaf false
   ))
  ) (
   (.br (!feq .f64 v188 v188) (
    (.br (!feq .f64 v187 v187) (
     .leaf (!feq .f64 v188 v188)
    ) (
     .leaf false
    ))
   ) (
    (.br (feq .f64 v187 (0 : Nat)) (
     (.br (feq .f64 v188 (0 : Nat)) (
      .leaf ((fgrt .f64 (fdiv .f64 (4607182418800017408 : Nat) v187) (0 : Nat)) == (fgrt .f64 (fdiv .f64 (4607182418800017408 : Nat) v188) (0 : Nat)))
     ) (
      .leaf (feq .f64 v187 v188)
     ))
    ) (
     .leaf (feq .f64 v187 v188)
    ))
   ))
  ))

noncomputable def laws_sameFloat_g (v187 : Nat) (v188 : Nat) : Option (Bool) := (laws_sameFloat_T v187 v188).run
def laws_sameFloat_enc (v187 : Nat) (v188 : Nat) (y : Bool) : Rs := (.bool y, [])
theorem laws_sameFloat_den (v187 : Nat) (v188 : Nat) : (den TT (tabD laws_sameFloat_tab) (tabM laws_sameFloat_tab) (laws_sameFloat_LO v187 v188) (codeOf Try.f53) ([.flt .f64 v187, .flt .f64 v188] ++ List.replicate (Try.f53.ntmps - ([.flt .f64 v187, .flt .f64 v188] : List DV).length) .undef) []).bind (retD TT Try.f53.results.toList 0) = (laws_sameFloat_T v187 v188).bind fun y => .leaf (laws_sameFloat_enc v187 v188 y) := by kernel_rfl
theorem laws_sameFloat_fn (v187 : Nat) (v188 : Nat) (F : Fr) (hm : F.ids.length = 0) (h0 : St F [] F.H0) (hA : DVs.Ok F [] [.flt .f64 v187, .flt .f64 v188]) {y : Bool} (hy : laws_sameFloat_g v187 v188 = some y) : ∃ H', FnOk Try.prog 53 (DVs.av F [.flt .f64 v187, .flt .f64 v188]) F.H0 ((laws_sameFloat_enc v187 v188 y).1.av F) H' ∧ St F (laws_sameFloat_enc v187 v188 y).2 H' ∧ (laws_sameFloat_enc v187 v188 y).1.Ok F (laws_sameFloat_enc v187 v188 y).2 :=
  fn_fin tok laws_sameFloat_hO mixed Try.func53 Try.call53 (by kernel_rfl) (LoopsOk_eq (l := []) (by kernel_rfl) trivial) (laws_sameFloat_den v187 v188) hy hm h0 hA
def laws_sameFloat_v (v187 : Nat) (v188 : Nat) : Bool :=
  if (!feq .f64 v187 v187) = true then (
   if (!feq .f64 v187 v187) = true then (
    !feq .f64 v188 v188
   ) else (
    false
   )
  ) else (
   if (!feq .f64 v188 v188) = true then (
    if (!feq .f64 v187 v187) = true then (
     !feq .f64 v188 v188
    ) else (
     false
    )
   ) else (
    if (feq .f64 v187 (0 : Nat)) = true then (
     if (feq .f64 v188 (0 : Nat)) = true then (
      (fgrt .f64 (fdiv .f64 (4607182418800017408 : Nat) v187) (0 : Nat)) == (fgrt .f64 (fdiv .f64 (4607182418800017408 : Nat) v188) (0 : Nat))
     ) else (
      feq .f64 v187 v188
     )
    ) else (
     feq .f64 v187 v188
    )
   )
  )
theorem laws_sameFloat_tot (v187 : Nat) (v188 : Nat) : laws_sameFloat_g v187 v188 = some (laws_sameFloat_v v187 v188) := by
  unfold laws_sameFloat_g laws_sameFloat_T laws_sameFloat_v
  simp only [Tree.run]
  repeat' (first | rfl | split)
noncomputable def laws_sameFloat_F : DFn := fun args L =>
  match args with
  | [.flt .f64 v187, .flt .f64 v188] =>
    .leaf (.bool (laws_sameFloat_v v187 v188), L)
  | _ => .fail
theorem laws_sameFloat_Fok : COk Try.prog 53 laws_sameFloat_F true := by
  intro F L H args r L' hs ha hr
  unfold laws_sameFloat_F at hr
  split at hr
  · rename_i v187 v188
    have hy := laws_sameFloat_tot v187 v188
    generalize laws_sameFloat_v v187 v188 = y at hy hr
    simp only [Tree.run, Option.some.injEq, Prod.mk.injEq] at hr
    obtain ⟨rfl, rfl⟩ := hr
    exact call_ok0 hs (fun k => (([] : List AV)[k]?).getD .top) [.flt .f64 v187, .flt .f64 v188] [.flt .f64 v187, .flt .f64 v188] (fun F' h0 hi hρ => ⟨by simp [DVs.av, DV.av, BR.av, hρ], laws_sameFloat_fn v187 v188 F' (by rw [hi]; rfl) (st_nil hi) ⟨trivial, trivial, trivial⟩ hy⟩) rfl
  · cases hr
/-! laws.eqFloat32S -/
noncomputable def laws_eqFloat32S_l0_T (v184 : List Nat) (v185 : List Nat) (s : Int) : Tree ((Int) ⊕ ((Unit) ⊕ (Unit))) :=
  (.br (decide (s < ((v184.length : Nat) : Int))) (
   (.grd (inb s v184.length) <|
   (.grd (inb s v185.length) <|
   (.br (!(laws_sameFloat_v (wid (nth v184 (Int.toNat s))) (wid (nth v185 (Int.toNat s))))) (
    .leaf (.inr (.inl ()))
   ) (
    .leaf (.inl (IntKind.i64.wrap (s + (1 : Int))))
   ))))
  ) (
   .leaf (.inr (.inr ()))
  ))

noncomputable def laws_eqFloat32S_l0_g (v184 : List Nat) (v185 : List Nat) (s0 : Int) : Option ((Unit) ⊕ (Unit)) := whileM (fun s => (laws_eqFloat32S_l0_T v184 v185 s).run) s0
def laws_eqFloat32S_l0_E (v184 : List Nat) (v185 : List Nat) (s : Int) : Sd := ([.bslc (BR.root 0) (.f32 v184), .bslc (BR.root 1) (.f32 v185), .top, .top, .top, .int .i64 s, .top, .top, .top, .top, .top, .top, .top, .top, .top, .top, .top, .top, .top, .top, .top, .top, .top, .top, .top, .top, .top, .top, .top], [])
def laws_eqFloat32S_l0_X (v184 : List Nat) (v185 : List Nat) (x : (Unit) ⊕ (Unit)) : Out := (match x with | .inl x => (.ret, [.top, .top, .top, .top, .lit false, .top, .top, .top, .top, .top, .top, .top, .top, .top, .top, .top, .top, .top, .top, .top, .top, .top, .top, .top, .top, .top, .top, .top, .top], []) | .inr x => (.normal, [.top, .top, .top, .top, .top, .top, .top, .top, .top, .top, .top, .top, .top, .top, .top, .top, .top, .top, .top, .top, .top, .top, .top, .top, .top, .top, .top, .top, .top], []))
def laws_eqFloat32S_l0_kill : List Nat := [0, 0, 1, 1, 1, 0, 1, 1, 1, 1, 1, 1, 1, 1, 1, 1, 1, 1, 1, 1, 1, 1, 1, 1, 1, 1, 1, 1, 1]
def laws_eqFloat32S_l0_nx : Exit → List Nat
  | .exit 0 => [1, 1, 1, 1, 1, 1, 1, 1, 1, 1, 1, 1, 1, 1, 1, 1, 1, 1, 1, 1, 1, 1, 1, 1, 1, 1, 1, 1, 1]
  | .ret => [1, 1, 1, 1, 0, 1, 1, 1, 1, 1, 1, 1, 1, 1, 1, 1, 1, 1, 1, 1, 1, 1, 1, 1, 1, 1, 1, 1, 1]
  | _ => []
noncomputable def laws_eqFloat32S_LO (v184 : List Nat) (v185 : List Nat) : LOr := fun id e L =>
  match id with
  | 0 => .need (normA 0 laws_eqFloat32S_l0_kill e L = some (laws_eqFloat32S_l0_E v184 v185 (gI (vAt e 5)))) (.call (laws_eqFloat32S_l0_g v184 v185 (gI (vAt e 5))) fun x => .sum x (fun b0 => .leaf (laws_eqFloat32S_l0_X v184 v185 (.inl b0))) (fun c0 => .leaf (laws_eqFloat32S_l0_X v184 v185 (.inr c0))))
  | _ => .fail
noncomputable def laws_eqFloat32S_tab : List (FuncId × DFn × Bool) := [(53, laws_sameFloat_F, true)]
theorem laws_eqFloat32S_hO : OrcOk Try.prog (tabD laws_eqFloat32S_tab) (tabM laws_eqFloat32S_tab) := tabD_cons laws_sameFloat_Fok (tabD_nil _)
theorem laws_eqFloat32S_l0_be (v184 : List Nat) (v185 : List Nat) (s : Int) : bodyT TT (tabD laws_eqFloat32S_tab) (tabM laws_eqFloat32S_tab) (laws_eqFloat32S_LO v184 v185) 0 laws_eqFloat32S_l0_kill laws_eqFloat32S_l0_nx (bodyOf Try.f20 0) 0 (laws_eqFloat32S_l0_E v184 v185 s) = (laws_eqFloat32S_l0_T v184 v185 s).bind fun y => .leaf (outS (laws_eqFloat32S_l0_E v184 v185) (laws_eqFloat32S_l0_X v184 v185) y) := by kernel_rfl
theorem laws_eqFloat32S_l0_ok (v184 : List Nat) (v185 : List Nat) : LSound Try.prog 0 (laws_eqFloat32S_LO v184 v185) 0 (bodyOf Try.f20 0) := by
  intro e L out h
  exact lo_ok (E := laws_eqFloat32S_l0_E v184 v185) (gT := laws_eqFloat32S_l0_T v184 v185) (X := laws_eqFloat32S_l0_X v184 v185) (s0 := (gI (vAt e 5))) tok laws_eqFloat32S_hO mixed (LoopsOk_eq (l := []) (by kernel_rfl) trivial) (laws_eqFloat32S_l0_be v184 v185) rfl (by intro x; (cases x with | inl b => rfl | inr x => exact rfl)) h
noncomputable def laws_eqFloat32S_T (v184 : List Nat) (v185 : List Nat) : Tree (Bool) :=
  (.br (!decide (((v184.length : Nat) : Int) = ((v185.length : Nat) : Int))) (
   .leaf false
  ) (
   (.need (some (laws_eqFloat32S_l0_E v184 v185 (0 : Int)) = some (laws_eqFloat32S_l0_E v184 v185 (0 : Int))) <|
   (.call (laws_eqFloat32S_l0_g v184 v185 (0 : Int)) fun v191 =>
   (.sum v191 (fun v192 =>
    .leaf false
   ) (fun v193 =>
    .leaf true
   ))))
  ))

noncomputable def laws_eqFloat32S_g (v184 : List Nat) (v185 : List Nat) : Option (Bool) := (laws_eqFloat32S_T v184 v185).run
def laws_eqFloat32S_enc (v184 : List Nat) (v185 : List Nat) (y : Bool) : Rs := (.bool y, [])
theorem laws_eqFloat32S_den (v184 : List Nat) (v185 : List Nat) : (den TT (tabD laws_eqFloat32S_tab) (tabM laws_eqFloat32S_tab) (laws_eqFloat32S_LO v184 v185) (codeOf Try.f20) ([.bslc (BR.root 0) (.f32 v184), .bslc (BR.root 1) (.f32 v185)] ++ List.replicate (Try.f20.ntmps - ([.bslc (BR.root 0) (.f32 v184), .bslc (BR.root 1) (.f32 v185)] : List DV).length) .undef) []).bind (retD TT Try.f20.results.toList 0) = (laws_eqFloat32S_T v184 v185).bind fun y => .leaf (laws_eqFloat32S_enc v184 v185 y) := by kernel_rfl
theorem laws_eqFloat32S_fn (v184 : List Nat) (v185 : List Nat) (F : Fr) (hm : F.ids.length = 0) (h0 : St F [] F.H0) (hA : DVs.Ok F [] [.bslc (BR.root 0) (.f32 v184), .bslc (BR.root 1) (.f32 v185)]) {y : Bool} (hy : laws_eqFloat32S_g v184 v185 = some y) : ∃ H', FnOk Try.prog 20 (DVs.av F [.bslc (BR.root 0) (.f32 v184), .bslc (BR.root 1) (.f32 v185)]) F.H0 ((laws_eqFloat32S_enc v184 v185 y).1.av F) H' ∧ St F (laws_eqFloat32S_enc v184 v185 y).2 H' ∧ (laws_eqFloat32S_enc v184 v185 y).1.Ok F (laws_eqFloat32S_enc v184 v185 y).2 :=
  fn_fin tok laws_eqFloat32S_hO mixed Try.func20 Try.call20 (by kernel_rfl) (LoopsOk_eq (l := [(0, bodyOf Try.f20 0)]) (by kernel_rfl) ⟨laws_eqFloat32S_l0_ok v184 v185, trivial⟩) (laws_eqFloat32S_den v184 v185) hy hm h0 hA
noncomputable def laws_eqFloat32S_F : DFn := fun args L =>
  match args with
  | [a1, a2] =>
    optT (rowF32 L a1) fun v184 =>
    optT (rowF32 L a2) fun v185 =>
    .call (laws_eqFloat32S_g v184 v185) fun y => .leaf (.bool y, L)
  | _ => .fail
theorem laws_eqFloat32S_Fok : COk Try.prog 20 laws_eqFloat32S_F true := by
  intro F L H args r L' hs ha hr
  unfold laws_eqFloat32S_F at hr
  split at hr
  · rename_i a1 a2
    obtain ⟨v184, hv184, hr⟩ := optT_run hr
    obtain ⟨v185, hv185, hr⟩ := optT_run hr
    simp only [Tree.run] at hr
    obtain ⟨y, hy, hr⟩ := Option.bind_eq_some_iff.1 hr
    simp only [Tree.run, Option.some.injEq, Prod.mk.injEq] at hr
    obtain ⟨rfl, rfl⟩ := hr
    exact call_ok0 hs (fun k => (([a1.av F, a2.av F] : List AV)[k]?).getD .top) [a1, a2] [.bslc (BR.root 0) (.f32 v184), .bslc (BR.root 1) (.f32 v185)] (fun F' h0 hi hρ => ⟨by simp [DVs.av, DV.av, BR.av, hρ], laws_eqFloat32S_fn v184 v185 F' (by rw [hi]; rfl) (st_nil hi) ⟨bslc_ok hi (by rw [h0, hρ]; exact rowF32_ok hs (DVs.okAt ha 0 rfl) hv184), bslc_ok hi (by rw [h0, hρ]; exact rowF32_ok hs (DVs.okAt ha 1 rfl) hv185), trivial⟩ hy⟩) rfl
  · cases hr
/-! laws.eqMatrix -/
noncomputable def laws_eqMatrix_LO (v178 : Int) (v179 : Int) (v180 : List Nat) (v181 : Int) (v182 : Int) (v183 : List Nat) : LOr := fun id e L =>
  match id with
  | _ => .fail
noncomputable def laws_eqMatrix_tab : List (FuncId × DFn × Bool) := [(20, laws_eqFloat32S_F, true)]
theorem laws_eqMatrix_hO : OrcOk Try.prog (tabD laws_eqMatrix_tab) (tabM laws_eqMatrix_tab) := tabD_cons laws_eqFloat32S_Fok (tabD_nil _)
noncomputable def laws_eqMatrix_T (v178 : Int) (v179 : Int) (v180 : List Nat) (v181 : Int) (v182 : Int) (v183 : List Nat) : Tree (Bool) :=
  (.br (!decide (v178 = v181)) (
   .leaf false
  ) (
   (.br (!decide (v179 = v182)) (
    .leaf false
   ) (
    (.call (laws_eqFloat32S_g v180 v183) fun v194 =>
    (.br (!v194) (
     .leaf false
    ) (
     .leaf true
    )))
   ))
  ))

noncomputable def laws_eqMatrix_g (v178 : Int) (v179 : Int) (v180 : List Nat) (v181 : Int) (v182 : Int) (v183 : List Nat) : Option (Bool) := (laws_eqMatrix_T v178 v179 v180 v181 v182 v183).run
def laws_eqMatrix_enc (v178 : Int) (v179 : Int) (v180 : List Nat) (v181 : Int) (v182 : Int) (v183 : List Nat) (y : Bool) : Rs := (.bool y, [])
theorem laws_eqMatrix_den (v178 : Int) (v179 : Int) (v180 : List Nat) (v181 : Int) (v182 : Int) (v183 : List Nat) : (den TT (tabD laws_eqMatrix_tab) (tabM laws_eqMatrix_tab) (laws_eqMatrix_LO v178 v179 v180 v181 v182 v183) (codeOf Try.f33) ([.agg [.int .i64 v178, .int .i64 v179, .bslc (BR.root 0) (.f32 v180)], .agg [.int .i64 v181, .int .i64 v182, .bslc (BR.root 1) (.f32 v183)]] ++ List.replicate (Try.f33.ntmps - ([.agg [.int .i64 v178, .int .i64 v179, .bslc (BR.root 0) (.f32 v180)], .agg [.int .i64 v181, .int .i64 v182, .bslc (BR.root 1) (.f32 v183)]] : List DV).length) .undef) []).bind (retD TT Try.f33.results.toList 0) = (laws_eqMatrix_T v178 v179 v180 v181 v182 v183).bind fun y => .leaf (laws_eqMatrix_enc v178 v179 v180 v181 v182 v183 y) := by kernel_rfl
theorem laws_eqMatrix_fn (v178 : Int) (v179 : Int) (v180 : List Nat) (v181 : Int) (v182 : Int) (v183 : List Nat) (F : Fr) (hm : F.ids.length = 0) (h0 : St F [] F.H0) (hA : DVs.Ok F [] [.agg [.int .i64 v178, .int .i64 v179, .bslc (BR.root 0) (.f32 v180)], .agg [.int .i64 v181, .int .i64 v182, .bslc (BR.root 1) (.f32 v183)]]) {y : Bool} (hy : laws_eqMatrix_g v178 v179 v180 v181 v182 v183 = some y) : ∃ H', FnOk Try.prog 33 (DVs.av F [.agg [.int .i64 v178, .int .i64 v179, .bslc (BR.root 0) (.f32 v180)], .agg [.int .i64 v181, .int .i64 v182, .bslc (BR.root 1) (.f32 v183)]]) F.H0 ((laws_eqMatrix_enc v178 v179 v180 v181 v182 v183 y).1.av F) H' ∧ St F (laws_eqMatrix_enc v178 v179 v180 v181 v182 v183 y).2 H' ∧ (laws_eqMatrix_enc v178 v179 v180 v181 v182 v183 y).1.Ok F (laws_eqMatrix_enc v178 v179 v180 v181 v182 v183 y).2 :=
  fn_fin tok laws_eqMatrix_hO mixed Try.func33 Try.call33 (by kernel_rfl) (LoopsOk_eq (l := []) (by kernel_rfl) trivial) (laws_eqMatrix_den v178 v179 v180 v181 v182 v183) hy hm h0 hA
noncomputable def laws_eqMatrix_F : DFn := fun args L =>
  match args with
  | [.agg [.int .i64 v178, .int .i64 v179, a1], .agg [.int .i64 v181, .int .i64 v182, a2]] =>
    optT (rowF32 L a1) fun v180 =>
    optT (rowF32 L a2) fun v183 =>
    .call (laws_eqMatrix_g v178 v179 v180 v181 v182 v183) fun y => .leaf (.bool y, L)
  | _ => .fail
theorem laws_eqMatrix_Fok : COk Try.prog 33 laws_eqMatrix_F true := by
  intro F L H args r L' hs ha hr
  unfold laws_eqMatrix_F at hr
  split at hr
  · rename_i v178 v179 a1 v181 v182 a2
    obtain ⟨v180, hv180, hr⟩ := optT_run hr
    obtain ⟨v183, hv183, hr⟩ := optT_run hr
    simp only [Tree.run] at hr
    obtain ⟨y, hy, hr⟩ := Option.bind_eq_some_iff.1 hr
    simp only [Tree.run, Option.some.injEq, Prod.mk.injEq] at hr
    obtain ⟨rfl, rfl⟩ := hr
    exact call_ok0 hs (fun k => (([a1.av F, a2.av F] : List AV)[k]?).getD .top) [.agg [.int .i64 v178, .int .i64 v179, a1], .agg [.int .i64 v181, .int .i64 v182, a2]] [.agg [.int .i64 v178, .int .i64 v179, .bslc (BR.root 0) (.f32 v180)], .agg [.int .i64 v181, .int .i64 v182, .bslc (BR.root 1) (.f32 v183)]] (fun F' h0 hi hρ => ⟨by simp [DVs.av, DV.av, BR.av, hρ], laws_eqMatrix_fn v178 v179 v180 v181 v182 v183 F' (by rw [hi]; rfl) (st_nil hi) ⟨⟨trivial, trivial, bslc_ok hi (by rw [h0, hρ]; exact rowF32_ok hs (DVs.okAt (DVs.okAt ha 0 rfl) 2 rfl) hv180), trivial⟩, ⟨trivial, trivial, bslc_ok hi (by rw [h0, hρ]; exact rowF32_ok hs (DVs.okAt (DVs.okAt ha 1 rfl) 2 rfl) hv183), trivial⟩, trivial⟩ hy⟩) rfl
  · cases hr
/-! laws.eqInt64S -/
noncomputable def laws_eqInt64S_l0_T (v196 : List Int) (v197 : List Int) (s : Int) : Tree ((Int) ⊕ ((Unit) ⊕ (Unit))) :=
  (.br (decide (s < ((v196.length : Nat) : Int))) (
   (.grd (inb s v196.length) <|
   (.grd (inb s v197.length) <|
   (.br (!decide (nth v196 (Int.toNat s) = nth v197 (Int.toNat s))) (
    .leaf (.inr (.inl ()))
   ) (
    .leaf (.inl (IntKind.i64.wrap (s + (1 : Int))))
   ))))
  ) (
   .leaf (.inr (.inr ()))
  ))

noncomputable def laws_eqInt64S_l0_g (v196 : List Int) (v197 : List Int) (s0 : Int) : Option ((Unit) ⊕ (Unit)) := whileM (fun s => (laws_eqInt64S_l0_T v196 v197 s).run) s0
def laws_eqInt64S_l0_E (v196 : List Int) (v197 : List Int) (s : Int) : Sd := ([.bslc (BR.root 0) (.i64 v196), .bslc (BR.root 1) (.i64 v197), .top, .top, .top, .int .i64 s, .top, .top, .top, .top, .top, .top, .top, .top, .top, .top, .top, .top, .top, .top, .top, .top, .top, .top, .top, .top], [])
def laws_eqInt64S_l0_X (v196 : List Int) (v197 : List Int) (x : (Unit) ⊕ (Unit)) : Out := (match x with | .inl x => (.ret, [.top, .top, .top, .top, .lit false, .top, .top, .top, .top, .top, .top, .top, .top, .top, .top, .top, .top, .top, .top, .top, .top, .top, .top, .top, .top, .top], []) | .inr x => (.normal, [.top, .top, .top, .top, .top, .top, .top, .top, .top, .top, .top, .top, .top, .top, .top, .top, .top, .top, .top, .top, .top, .top, .top, .top, .top, .top], []))
def laws_eqInt64S_l0_kill : List Nat := [0, 0, 1, 1, 1, 0, 1, 1, 1, 1, 1, 1, 1, 1, 1, 1, 1, 1, 1, 1, 1, 1, 1, 1, 1, 1]
def laws_eqInt64S_l0_nx : Exit → List Nat
  | .exit 0 => [1, 1, 1, 1, 1, 1, 1, 1, 1, 1, 1, 1, 1, 1, 1, 1, 1, 1, 1, 1, 1, 1, 1, 1, 1, 1]
  | .ret => [1, 1, 1, 1, 0, 1, 1, 1, 1, 1, 1, 1, 1, 1, 1, 1, 1, 1, 1, 1, 1, 1, 1, 1, 1, 1]
  | _ => []
noncomputable def laws_eqInt64S_LO (v196 : List Int) (v197 : List Int) : LOr := fun id e L =>
  match id with
  | 0 => .need (normA 0 laws_eqInt64S_l0_kill e L = some (laws_eqInt64S_l0_E v196 v197 (gI (vAt e 5)))) (.call (laws_eqInt64S_l0_g v196 v197 (gI (vAt e 5))) fun x => .sum x (fun b0 => .leaf (laws_eqInt64S_l0_X v196 v197 (.inl b0))) (fun c0 => .leaf (laws_eqInt64S_l0_X v196 v197 (.inr c0))))
  | _ => .fail
noncomputable def laws_eqInt64S_tab : List (FuncId × DFn × Bool) := []
theorem laws_eqInt64S_hO : OrcOk Try.prog (tabD laws_eqInt64S_tab) (tabM laws_eqInt64S_tab) := tabD_nil _
theorem laws_eqInt64S_l0_be (v196 : List Int) (v197 : List Int) (s : Int) : bodyT TT (tabD laws_eqInt64S_tab) (tabM laws_eqInt64S_tab) (laws_eqInt64S_LO v196 v197) 0 laws_eqInt64S_l0_kill laws_eqInt64S_l0_nx (bodyOf Try.f44 0) 0 (laws_eqInt64S_l0_E v196 v197 s) = (laws_eqInt64S_l0_T v196 v197 s).bind fun y => .leaf (outS (laws_eqInt64S_l0_E v196 v197) (laws_eqInt64S_l0_X v196 v197) y) := by kernel_rfl
theorem laws_eqInt64S_l0_ok (v196 : List Int) (v197 : List Int) : LSound Try.prog 0 (laws_eqInt64S_LO v196 v197) 0 (bodyOf Try.f44 0) := by
  intro e L out h
  exact lo_ok (E := laws_eqInt64S_l0_E v196 v197) (gT := laws_eqInt64S_l0_T v196 v197) (X := laws_eqInt64S_l0_X v196 v197) (s0 := (gI (vAt e 5))) tok laws_eqInt64S_hO mixed (LoopsOk_eq (l := []) (by kernel_rfl) trivial) (laws_eqInt64S_l0_be v196 v197) rfl (by intro x; (cases x with | inl b => rfl | inr x => exact rfl)) h
noncomputable def laws_eqInt64S_T (v196 : List Int) (v197 : List Int) : Tree (Bool) :=
  (.br (!decide (((v196.length : Nat) : Int) = ((v197.length : Nat) : Int))) (
   .leaf false
  ) (
   (.need (some (laws_eqInt64S_l0_E v196 v197 (0 : Int)) = some (laws_eqInt64S_l0_E v196 v197 (0 : Int))) <|
   (.call (laws_eqInt64S_l0_g v196 v197 (0 : Int)) fun v201 =>
   (.sum v201 (fun v202 =>
    .leaf false
   ) (fun v203 =>
    .leaf true
   ))))
  ))

noncomputable def laws_eqInt64S_g (v196 : List Int) (v197 : List Int) : Option (Bool) := (laws_eqInt64S_T v196 v197).run
def laws_eqInt64S_enc (v196 : List Int) (v197 : List Int) (y : Bool) : Rs := (.bool y, [])
theorem laws_eqInt64S_den (v196 : List Int) (v197 : List Int) : (den TT (tabD laws_eqInt64S_tab) (tabM laws_eqInt64S_tab) (laws_eqInt64S_LO v196 v197) (codeOf Try.f44) ([.bslc (BR.root 0) (.i64 v196), .bslc (BR.root 1) (.i64 v197)] ++ List.replicate (Try.f44.ntmps - ([.bslc (BR.root 0) (.i64 v196), .bslc (BR.root 1) (.i64 v197)] : List DV).length) .undef) []).bind (retD TT Try.f44.results.toList 0) = (laws_eqInt64S_T v196 v197).bind fun y => .leaf (laws_eqInt64S_enc v196 v197 y) := by kernel_rfl
theorem laws_eqInt64S_fn (v196 : List Int) (v197 : List Int) (F : Fr) (hm : F.ids.length = 0) (h0 : St F [] F.H0) (hA : DVs.Ok F [] [.bslc (BR.root 0) (.i64 v196), .bslc (BR.root 1) (.i64 v197)]) {y : Bool} (hy : laws_eqInt64S_g v196 v197 = some y) : ∃ H', FnOk Try.prog 44 (DVs.av F [.bslc (BR.root 0) (.i64 v196), .bslc (BR.root 1) (.i64 v197)]) F.H0 ((laws_eqInt64S_enc v196 v197 y).1.av F) H' ∧ St F (laws_eqInt64S_enc v196 v197 y).2 H' ∧ (laws_eqInt64S_enc v196 v197 y).1.Ok F (laws_eqInt64S_enc v196 v197 y).2 :=
  fn_fin tok laws_eqInt64S_hO mixed Try.func44 Try.call44 (by kernel_rfl) (LoopsOk_eq (l := [(0, bodyOf Try.f44 0)]) (by kernel_rfl) ⟨laws_eqInt64S_l0_ok v196 v197, trivial⟩) (laws_eqInt64S_den v196 v197) hy hm h0 hA
noncomputable def laws_eqInt64S_F : DFn := fun args L =>
  match args with
  | [a1, a2] =>
    optT (rowI64 L a1) fun v196 =>
    optT (rowI64 L a2) fun v197 =>
    .call (laws_eqInt64S_g v196 v197) fun y => .leaf (.bool y, L)
  | _ => .fail
theorem laws_eqInt64S_Fok : COk Try.prog 44 laws_eqInt64S_F true := by
  intro F L H args r L' hs ha hr
  unfold laws_eqInt64S_F at hr
  split at hr
  · rename_i a1 a2
    obtain ⟨v196, hv196, hr⟩ := optT_run hr
    obtain ⟨v197, hv197, hr⟩ := optT_run hr
    simp only [Tree.run] at hr
    obtain ⟨y, hy, hr⟩ := Option.bind_eq_some_iff.1 hr
    simp only [Tree.run, Option.some.injEq, Prod.mk.injEq] at hr
    obtain ⟨rfl, rfl⟩ := hr
    exact call_ok0 hs (fun k => (([a1.av F, a2.av F] : List AV)[k]?).getD .top) [a1, a2] [.bslc (BR.root 0) (.i64 v196), .bslc (BR.root 1) (.i64 v197)] (fun F' h0 hi hρ => ⟨by simp [DVs.av, DV.av, BR.av, hρ], laws_eqInt64S_fn v196 v197 F' (by rw [hi]; rfl) (st_nil hi) ⟨bslc_ok hi (by rw [h0, hρ]; exact rowI64_ok hs (DVs.okAt ha 0 rfl) hv196), bslc_ok hi (by rw [h0, hρ]; exact rowI64_ok hs (DVs.okAt ha 1 rfl) hv197), trivial⟩ hy⟩) rfl
  · cases hr
/-! laws.eqFactor -/
noncomputable def laws_eqFactor_LO (v170 : Int) (v171 : Int) (v172 : List Nat) (v173 : List Int) (v174 : Int) (v175 : Int) (v176 : List Nat) (v177 : List Int) : LOr := fun id e L =>
  match id with
  | _ => .fail
noncomputable def laws_eqFactor_tab : List (FuncId × DFn × Bool) := [(33, laws_eqMatrix_F, true), (44, laws_eqInt64S_F, true)]
theorem laws_eqFactor_hO : OrcOk Try.prog (tabD laws_eqFactor_tab) (tabM laws_eqFactor_tab) := tabD_cons laws_eqMatrix_Fok (tabD_cons laws_eqInt64S_Fok (tabD_nil _))
noncomputable def laws_eqFactor_T (v170 : Int) (v171 : Int) (v172 : List Nat) (v173 : List Int) (v174 : Int) (v175 : Int) (v176 : List Nat) (v177 : List Int) : Tree (Bool) :=
  (.call (laws_eqMatrix_g v170 v171 v172 v174 v175 v176) fun v195 =>
  (.br (!v195) (
   .leaf false
  ) (
   (.call (laws_eqInt64S_g v173 v177) fun v204 =>
   (.br (!v204) (
    .leaf false
   ) (
    .leaf true
   )))
  )))

noncomputable def laws_eqFactor_g (v170 : Int) (v171 : Int) (v172 : List Nat) (v173 : List Int) (v174 : Int) (v175 : Int) (v176 : List Nat) (v177 : List Int) : Option (Bool) := (laws_eqFactor_T v170 v171 v172 v173 v174 v175 v176 v177).run
def laws_eqFactor_enc (v170 : Int) (v171 : Int) (v172 : List Nat) (v173 : List Int) (v174 : Int) (v175 : Int) (v176 : List Nat) (v177 : List Int) (y : Bool) : Rs := (.bool y, [])
theorem laws_eqFactor_den (v170 : Int) (v171 : Int) (v172 : List Nat) (v173 : List Int) (v174 : Int) (v175 : Int) (v176 : List Nat) (v177 : List Int) : (den TT (tabD laws_eqFactor_tab) (tabM laws_eqFactor_tab) (laws_eqFactor_LO v170 v171 v172 v173 v174 v175 v176 v177) (codeOf Try.f50) ([.agg [.int .i64 v170, .int .i64 v171, .bslc (BR.root 0) (.f32 v172), .bslc (BR.root 1) (.i64 v173)], .agg [.int .i64 v174, .int .i64 v175, .bslc (BR.root 2) (.f32 v176), .bslc (BR.root 3) (.i64 v177)]] ++ List.replicate (Try.f50.ntmps - ([.agg [.int .i64 v170, .int .i64 v171, .bslc (BR.root 0) (.f32 v172), .bslc (BR.root 1) (.i64 v173)], .agg [.int .i64 v174, .int .i64 v175, .bslc (BR.root 2) (.f32 v176), .bslc (BR.root 3) (.i64 v177)]] : List DV).length) .undef) []).bind (retD TT Try.f50.results.toList 0) = (laws_eqFactor_T v170 v171 v172 v173 v174 v175 v176 v177).bind fun y => .leaf (laws_eqFactor_enc v170 v171 v172 v173 v174 v175 v176 v177 y) := by kernel_rfl
theorem laws_eqFactor_fn (v170 : Int) (v171 : Int) (v172 : List Nat) (v173 : List Int) (v174 : Int) (v175 : Int) (v176 : List Nat) (v177 : List Int) (F : Fr) (hm : F.ids.length = 0) (h0 : St F [] F.H0) (hA : DVs.Ok F [] [.agg [.int .i64 v170, .int .i64 v171, .bslc (BR.root 0) (.f32 v172), .bslc (BR.root 1) (.i64 v173)], .agg [.int .i64 v174, .int .i64 v175, .bslc (BR.root 2) (.f32 v176), .bslc (BR.root 3) (.i64 v177)]]) {y : Bool} (hy : laws_eqFactor_g v170 v171 v172 v173 v174 v175 v176 v177 = some y) : ∃ H', FnOk Try.prog 50 (DVs.av F [.agg [.int .i64 v170, .int .i64 v171, .bslc (BR.root 0) (.f32 v172), .bslc (BR.root 1) (.i64 v173)], .agg [.int .i64 v174, .int .i64 v175, .bslc (BR.root 2) (.f32 v176), .bslc (BR.root 3) (.i64 v177)]]) F.H0 ((laws_eqFactor_enc v170 v171 v172 v173 v174 v175 v176 v177 y).1.av F) H' ∧ St F (laws_eqFactor_enc v170 v171 v172 v173 v174 v175 v176 v177 y).2 H' ∧ (laws_eqFactor_enc v170 v171 v172 v173 v174 v175 v176 v177 y).1.Ok F (laws_eqFactor_enc v170 v171 v172 v173 v174 v175 v176 v177 y).2 :=
  fn_fin tok laws_eqFactor_hO mixed Try.func50 Try.call50 (by kernel_rfl) (LoopsOk_eq (l := []) (by kernel_rfl) trivial) (laws_eqFactor_den v170 v171 v172 v173 v174 v175 v176 v177) hy hm h0 hA
noncomputable def laws_eqFactor_F : DFn := fun args L =>
  match args with
  | [.agg [.int .i64 v170, .int .i64 v171, a1, a2], .agg [.int .i64 v174, .int .i64 v175, a3, a4]] =>
    optT (rowF32 L a1) fun v172 =>
    optT (rowI64 L a2) fun v173 =>
    optT (rowF32 L a3) fun v176 =>
    optT (rowI64 L a4) fun v177 =>
    .call (laws_eqFactor_g v170 v171 v172 v173 v174 v175 v176 v177) fun y => .leaf (.bool y, L)
  | _ => .fail
theorem laws_eqFactor_Fok : COk Try.prog 50 laws_eqFactor_F true := by
  intro F L H args r L' hs ha hr
  unfold laws_eqFactor_F at hr
  split at hr
  · rename_i v170 v171 a1 a2 v174 v175 a3 a4
    obtain ⟨v172, hv172, hr⟩ := optT_run hr
    obtain ⟨v173, hv173, hr⟩ := optT_run hr
    obtain ⟨v176, hv176, hr⟩ := optT_run hr
    obtain ⟨v177, hv177, hr⟩ := optT_run hr
    simp only [Tree.run] at hr
    obtain ⟨y, hy, hr⟩ := Option.bind_eq_some_iff.1 hr
    simp only [Tree.run, Option.some.injEq, Prod.mk.injEq] at hr
    obtain ⟨rfl, rfl⟩ := hr
    exact call_ok0 hs (fun k => (([a1.av F, a2.av F, a3.av F, a4.av F] : List AV)[k]?).getD .top) [.agg [.int .i64 v170, .int .i64 v171, a1, a2], .agg [.int .i64 v174, .int .i64 v175, a3, a4]] [.agg [.int .i64 v170, .int .i64 v171, .bslc (BR.root 0) (.f32 v172), .bslc (BR.root 1) (.i64 v173)], .agg [.int .i64 v174, .int .i64 v175, .bslc (BR.root 2) (.f32 v176), .bslc (BR.root 3) (.i64 v177)]] (fun F' h0 hi hρ => ⟨by simp [DVs.av, DV.av, BR.av, hρ], laws_eqFactor_fn v170 v171 v172 v173 v174 v175 v176 v177 F' (by rw [hi]; rfl) (st_nil hi) ⟨⟨trivial, trivial, bslc_ok hi (by rw [h0, hρ]; exact rowF32_ok hs (DVs.okAt (DVs.okAt ha 0 rfl) 2 rfl) hv172), bslc_ok hi (by rw [h0, hρ]; exact rowI64_ok hs (DVs.okAt (DVs.okAt ha 0 rfl) 3 rfl) hv173), trivial⟩, ⟨trivial, trivial, bslc_ok hi (by rw [h0, hρ]; exact rowF32_ok hs (DVs.okAt (DVs.okAt ha 1 rfl) 2 rfl) hv176), bslc_ok hi (by rw [h0, hρ]; exact rowI64_ok hs (DVs.okAt (DVs.okAt ha 1 rfl) 3 rfl) hv177), trivial⟩, trivial⟩ hy⟩) rfl
  · cases hr
/-! laws.FnExactValidFactor -/
noncomputable def laws_FnExactValidFactor_LO (v1 : Int) (v2 : Int) (v3 : List Nat) (v4 : List Int) : LOr := fun id e L =>
  match id with
  | _ => .fail
noncomputable def laws_FnExactValidFactor_tab : List (FuncId × DFn × Bool) := [(46, laws_szFactor_F, true), (48, laws_toFactor_F, true), (47, spec_ValidFactor_F, true), (49, impl_ValidFactor_F, true), (50, laws_eqFactor_F, true)]
theorem laws_FnExactValidFactor_hO : OrcOk Try.prog (tabD laws_FnExactValidFactor_tab) (tabM laws_FnExactValidFactor_tab) := tabD_cons laws_szFactor_Fok (tabD_cons laws_toFactor_Fok (tabD_cons spec_ValidFactor_Fok (tabD_cons impl_ValidFactor_Fok (tabD_cons laws_eqFactor_Fok (tabD_nil _)))))
noncomputable def laws_FnExactValidFactor_T (v1 : Int) (v2 : Int) (v3 : List Nat) (v4 : List Int) : Tree (Bool) :=
  (.br (decide ((laws_szFactor_v v3 v4 (1048576 : Int)) < (0 : Int))) (
   .leaf true
  ) (
   (.call (laws_toFactor_g v1 v2 v3 v4) fun v42 =>
   (.call (spec_ValidFactor_g v42.1 v42.2.1 v42.2.2.1 v42.2.2.2) fun v98 =>
   (.call (laws_toFactor_g v1 v2 v3 v4) fun v99 =>
   (.call (impl_ValidFactor_g v99.1 v99.2.1 v99.2.2.1 v99.2.2.2) fun v168 =>
   (.br (!(v168 == v98)) (
    .leaf false
   ) (
    (.call (laws_toFactor_g v1 v2 v3 v4) fun v169 =>
    (.call (laws_eqFactor_g v99.1 v99.2.1 v99.2.2.1 v99.2.2.2 v169.1 v169.2.1 v169.2.2.1 v169.2.2.2) fun v205 =>
    (.br (!v205) (
     .leaf false
    ) (
     .leaf true
    ))))
   ))))))
  ))

noncomputable def laws_FnExactValidFactor_g (v1 : Int) (v2 : Int) (v3 : List Nat) (v4 : List Int) : Option (Bool) := (laws_FnExactValidFactor_T v1 v2 v3 v4).run
def laws_FnExactValidFactor_enc (v1 : Int) (v2 : Int) (v3 : List Nat) (v4 : List Int) (y : Bool) : Rs := (.bool y, [])
theorem laws_FnExactValidFactor_den (v1 : Int) (v2 : Int) (v3 : List Nat) (v4 : List Int) : (den TT (tabD laws_FnExactValidFactor_tab) (tabM laws_FnExactValidFactor_tab) (laws_FnExactValidFactor_LO v1 v2 v3 v4) (codeOf Try.f9) ([.agg [.int .i64 v1, .int .i64 v2, .bslc (BR.root 0) (.f32 v3), .bslc (BR.root 1) (.i64 v4)]] ++ List.replicate (Try.f9.ntmps - ([.agg [.int .i64 v1, .int .i64 v2, .bslc (BR.root 0) (.f32 v3), .bslc (BR.root 1) (.i64 v4)]] : List DV).length) .undef) []).bind (retD TT Try.f9.results.toList 0) = (laws_FnExactValidFactor_T v1 v2 v3 v4).bind fun y => .leaf (laws_FnExactValidFactor_enc v1 v2 v3 v4 y) := by kernel_rfl
theorem laws_FnExactValidFactor_fn (v1 : Int) (v2 : Int) (v3 : List Nat) (v4 : List Int) (F : Fr) (hm : F.ids.length = 0) (h0 : St F [] F.H0) (hA : DVs.Ok F [] [.agg [.int .i64 v1, .int .i64 v2, .bslc (BR.root 0) (.f32 v3), .bslc (BR.root 1) (.i64 v4)]]) {y : Bool} (hy : laws_FnExactValidFactor_g v1 v2 v3 v4 = some y) : ∃ H', FnOk Try.prog 9 (DVs.av F [.agg [.int .i64 v1, .int .i64 v2, .bslc (BR.root 0) (.f32 v3), .bslc (BR.root 1) (.i64 v4)]]) F.H0 ((laws_FnExactValidFactor_enc v1 v2 v3 v4 y).1.av F) H' ∧ St F (laws_FnExactValidFactor_enc v1 v2 v3 v4 y).2 H' ∧ (laws_FnExactValidFactor_enc v1 v2 v3 v4 y).1.Ok F (laws_FnExactValidFactor_enc v1 v2 v3 v4 y).2 :=
  fn_fin tok laws_FnExactValidFactor_hO mixed Try.func9 Try.call9 (by kernel_rfl) (LoopsOk_eq (l := []) (by kernel_rfl) trivial) (laws_FnExactValidFactor_den v1 v2 v3 v4) hy hm h0 hA
noncomputable def laws_FnExactValidFactor_F : DFn := fun args L =>
  match args with
  | [.agg [.int .i64 v1, .int .i64 v2, a1, a2]] =>
    optT (rowF32 L a1) fun v3 =>
    optT (rowI64 L a2) fun v4 =>
    .call (laws_FnExactValidFactor_g v1 v2 v3 v4) fun y => .leaf (.bool y, L)
  | _ => .fail
theorem laws_FnExactValidFactor_Fok : COk Try.prog 9 laws_FnExactValidFactor_F true := by
  intro F L H args r L' hs ha hr
  unfold laws_FnExactValidFactor_F at hr
  split at hr
  · rename_i v1 v2 a1 a2
    obtain ⟨v3, hv3, hr⟩ := optT_run hr
    obtain ⟨v4, hv4, hr⟩ := optT_run hr
    simp only [Tree.run] at hr
    obtain ⟨y, hy, hr⟩ := Option.bind_eq_some_iff.1 hr
    simp only [Tree.run, Option.some.injEq, Prod.mk.injEq] at hr
    obtain ⟨rfl, rfl⟩ := hr
    exact call_ok0 hs (fun k => (([a1.av F, a2.av F] : List AV)[k]?).getD .top) [.agg [.int .i64 v1, .int .i64 v2, a1, a2]] [.agg [.int .i64 v1, .int .i64 v2, .bslc (BR.root 0) (.f32 v3), .bslc (BR.root 1) (.i64 v4)]] (fun F' h0 hi hρ => ⟨by simp [DVs.av, DV.av, BR.av, hρ], laws_FnExactValidFactor_fn v1 v2 v3 v4 F' (by rw [hi]; rfl) (st_nil hi) ⟨⟨trivial, trivial, bslc_ok hi (by rw [h0, hρ]; exact rowF32_ok hs (DVs.okAt (DVs.okAt ha 0 rfl) 2 rfl) hv3), bslc_ok hi (by rw [h0, hρ]; exact rowI64_ok hs (DVs.okAt (DVs.okAt ha 0 rfl) 3 rfl) hv4), trivial⟩, trivial⟩ hy⟩) rfl
  · cases hr
/-! laws.szFloat32S -/
noncomputable def laws_szFloat32S_len_LO (v219 : Nat) (v220 : Int) : LOr := fun id e L =>
  match id with
  | _ => .fail
noncomputable def laws_szFloat32S_len_tab : List (FuncId × DFn × Bool) := []
theorem laws_szFloat32S_len_hO : OrcOk Try.prog (tabD laws_szFloat32S_len_tab) (tabM laws_szFloat32S_len_tab) := tabD_nil _
noncomputable def laws_szFloat32S_len_T (v219 : Nat) (v220 : Int) : Tree (Int) :=
  (.br (decide (IntKind.i64.wrap (v220 - ((v219 : Nat) : Int)) < (0 : Int))) (
   .leaf (-1 : Int)
  ) (
   .leaf (IntKind.i64.wrap (v220 - ((v219 : Nat) : Int)))
  ))

noncomputable def laws_szFloat32S_len_g (v219 : Nat) (v220 : Int) : Option (Int) := (laws_szFloat32S_len_T v219 v220).run
def laws_szFloat32S_len_enc (v219 : Nat) (v220 : Int) (y : Int) : Rs := (.int .i64 y, [])
theorem laws_szFloat32S_len_den (v219 : Nat) (v220 : Int) : (den TT (tabD laws_szFloat32S_len_tab) (tabM laws_szFloat32S_len_tab) (laws_szFloat32S_len_LO v219 v220) (codeOf Try.f64) ([.hslc (BR.root 0) v219, .int .i64 v220] ++ List.replicate (Try.f64.ntmps - ([.hslc (BR.root 0) v219, .int .i64 v220] : List DV).length) .undef) []).bind (retD TT Try.f64.results.toList 0) = (laws_szFloat32S_len_T v219 v220).bind fun y => .leaf (laws_szFloat32S_len_enc v219 v220 y) := by kernel_rfl
theorem laws_szFloat32S_len_fn (v219 : Nat) (v220 : Int) (F : Fr) (hm : F.ids.length = 0) (h0 : St F [] F.H0) (hA : DVs.Ok F [] [.hslc (BR.root 0) v219, .int .i64 v220]) {y : Int} (hy : laws_szFloat32S_len_g v219 v220 = some y) : ∃ H', FnOk Try.prog 64 (DVs.av F [.hslc (BR.root 0) v219, .int .i64 v220]) F.H0 ((laws_szFloat32S_len_enc v219 v220 y).1.av F) H' ∧ St F (laws_szFloat32S_len_enc v219 v220 y).2 H' ∧ (laws_szFloat32S_len_enc v219 v220 y).1.Ok F (laws_szFloat32S_len_enc v219 v220 y).2 :=
  fn_fin tok laws_szFloat32S_len_hO mixed Try.func64 Try.call64 (by kernel_rfl) (LoopsOk_eq (l := []) (by kernel_rfl) trivial) (laws_szFloat32S_len_den v219 v220) hy hm h0 hA
def laws_szFloat32S_len_v (v219 : Nat) (v220 : Int) : Int :=
  if (decide (IntKind.i64.wrap (v220 - ((v219 : Nat) : Int)) < (0 : Int))) = true then (
   (-1 : Int)
  ) else (
   IntKind.i64.wrap (v220 - ((v219 : Nat) : Int))
  )
theorem laws_szFloat32S_len_tot (v219 : Nat) (v220 : Int) : laws_szFloat32S_len_g v219 v220 = some (laws_szFloat32S_len_v v219 v220) := by
  unfold laws_szFloat32S_len_g laws_szFloat32S_len_T laws_szFloat32S_len_v
  simp only [Tree.run]
  repeat' (first | rfl | split)
noncomputable def laws_szFloat32S_len_F : DFn := fun args L =>
  match args with
  | [a1, .int .i64 v220] =>
    optT (lenV L a1) fun v219 =>
    .leaf (.int .i64 (laws_szFloat32S_len_v v219 v220), L)
  | _ => .fail
theorem laws_szFloat32S_len_Fok : COk Try.prog 64 laws_szFloat32S_len_F true := by
  intro F L H args r L' hs ha hr
  unfold laws_szFloat32S_len_F at hr
  split at hr
  · rename_i a1 v220
    obtain ⟨v219, hv219, hr⟩ := optT_run hr
    have hy := laws_szFloat32S_len_tot v219 v220
    generalize laws_szFloat32S_len_v v219 v220 = y at hy hr
    simp only [Tree.run, Option.some.injEq, Prod.mk.injEq] at hr
    obtain ⟨rfl, rfl⟩ := hr
    exact call_ok0 hs (fun k => (([a1.av F] : List AV)[k]?).getD .top) [a1, .int .i64 v220] [.hslc (BR.root 0) v219, .int .i64 v220] (fun F' h0 hi hρ => ⟨by simp [DVs.av, DV.av, BR.av, hρ], laws_szFloat32S_len_fn v219 v220 F' (by rw [hi]; rfl) (st_nil hi) ⟨hslc_ok hi (by rw [h0, hρ]; exact lenV_ok hs (DVs.okAt ha 0 rfl) hv219), trivial, trivial⟩ hy⟩) rfl
  · cases hr
/-! laws.szMatrix -/
noncomputable def laws_szMatrix_len_LO (v215 : Int) (v216 : Int) (v217 : Nat) (v218 : Int) : LOr := fun id e L =>
  match id with
  | _ => .fail
noncomputable def laws_szMatrix_len_tab : List (FuncId × DFn × Bool) := [(64, laws_szFloat32S_len_F, true)]
theorem laws_szMatrix_len_hO : OrcOk Try.prog (tabD laws_szMatrix_len_tab) (tabM laws_szMatrix_len_tab) := tabD_cons laws_szFloat32S_len_Fok (tabD_nil _)
noncomputable def laws_szMatrix_len_T (v217 : Nat) (v218 : Int) : Tree (Int) :=
  (.br (decide ((laws_szFloat32S_len_v v217 v218) < (0 : Int))) (
   .leaf (-1 : Int)
  ) (
   .leaf (laws_szFloat32S_len_v v217 v218)
  ))

noncomputable def laws_szMatrix_len_g (v217 : Nat) (v218 : Int) : Option (Int) := (laws_szMatrix_len_T v217 v218).run
def laws_szMatrix_len_enc (v215 : Int) (v216 : Int) (v217 : Nat) (v218 : Int) (y : Int) : Rs := (.int .i64 y, [])
theorem laws_szMatrix_len_den (v215 : Int) (v216 : Int) (v217 : Nat) (v218 : Int) : (den TT (tabD laws_szMatrix_len_tab) (tabM laws_szMatrix_len_tab) (laws_szMatrix_len_LO v215 v216 v217 v218) (codeOf Try.f29) ([.agg [.int .i64 v215, .int .i64 v216, .hslc (BR.root 0) v217], .int .i64 v218] ++ List.replicate (Try.f29.ntmps - ([.agg [.int .i64 v215, .int .i64 v216, .hslc (BR.root 0) v217], .int .i64 v218] : List DV).length) .undef) []).bind (retD TT Try.f29.results.toList 0) = (laws_szMatrix_len_T v217 v218).bind fun y => .leaf (laws_szMatrix_len_enc v215 v216 v217 v218 y) := by kernel_rfl
theorem laws_szMatrix_len_fn (v215 : Int) (v216 : Int) (v217 : Nat) (v218 : Int) (F : Fr) (hm : F.ids.length = 0) (h0 : St F [] F.H0) (hA : DVs.Ok F [] [.agg [.int .i64 v215, .int .i64 v216, .hslc (BR.root 0) v217], .int .i64 v218]) {y : Int} (hy : laws_szMatrix_len_g v217 v218 = some y) : ∃ H', FnOk Try.prog 29 (DVs.av F [.agg [.int .i64 v215, .int .i64 v216, .hslc (BR.root 0) v217], .int .i64 v218]) F.H0 ((laws_szMatrix_len_enc v215 v216 v217 v218 y).1.av F) H' ∧ St F (laws_szMatrix_len_enc v215 v216 v217 v218 y).2 H' ∧ (laws_szMatrix_len_enc v215 v216 v217 v218 y).1.Ok F (laws_szMatrix_len_enc v215 v216 v217 v218 y).2 :=
  fn_fin tok laws_szMatrix_len_hO mixed Try.func29 Try.call29 (by kernel_rfl) (LoopsOk_eq (l := []) (by kernel_rfl) trivial) (laws_szMatrix_len_den v215 v216 v217 v218) hy hm h0 hA
def laws_szMatrix_len_v (v217 : Nat) (v218 : Int) : Int :=
  if (decide ((laws_szFloat32S_len_v v217 v218) < (0 : Int))) = true then (
   (-1 : Int)
  ) else (
   (laws_szFloat32S_len_v v217 v218)
  )
theorem laws_szMatrix_len_tot (v217 : Nat) (v218 : Int) : laws_szMatrix_len_g v217 v218 = some (laws_szMatrix_len_v v217 v218) := by
  unfold laws_szMatrix_len_g laws_szMatrix_len_T laws_szMatrix_len_v
  simp only [Tree.run]
  repeat' (first | rfl | split)
noncomputable def laws_szMatrix_len_F : DFn := fun args L =>
  match args with
  | [.agg [.int .i64 v215, .int .i64 v216, a1], .int .i64 v218] =>
    optT (lenV L a1) fun v217 =>
    .leaf (.int .i64 (laws_szMatrix_len_v v217 v218), L)
  | _ => .fail
theorem laws_szMatrix_len_Fok : COk Try.prog 29 laws_szMatrix_len_F true := by
  intro F L H args r L' hs ha hr
  unfold laws_szMatrix_len_F at hr
  split at hr
  · rename_i v215 v216 a1 v218
    obtain ⟨v217, hv217, hr⟩ := optT_run hr
    have hy := laws_szMatrix_len_tot v217 v218
    generalize laws_szMatrix_len_v v217 v218 = y at hy hr
    simp only [Tree.run, Option.some.injEq, Prod.mk.injEq] at hr
    obtain ⟨rfl, rfl⟩ := hr
    exact call_ok0 hs (fun k => (([a1.av F] : List AV)[k]?).getD .top) [.agg [.int .i64 v215, .int .i64 v216, a1], .int .i64 v218] [.agg [.int .i64 v215, .int .i64 v216, .hslc (BR.root 0) v217], .int .i64 v218] (fun F' h0 hi hρ => ⟨by simp [DVs.av, DV.av, BR.av, hρ], laws_szMatrix_len_fn v215 v216 v217 v218 F' (by rw [hi]; rfl) (st_nil hi) ⟨⟨trivial, trivial, hslc_ok hi (by rw [h0, hρ]; exact lenV_ok hs (DVs.okAt (DVs.okAt ha 0 rfl) 2 rfl) hv217), trivial⟩, trivial, trivial⟩ hy⟩) rfl
  · cases hr
/-! laws.szInt64S -/
noncomputable def laws_szInt64S_len_LO (v221 : Nat) (v222 : Int) : LOr := fun id e L =>
  match id with
  | _ => .fail
noncomputable def laws_szInt64S_len_tab : List (FuncId × DFn × Bool) := []
theorem laws_szInt64S_len_hO : OrcOk Try.prog (tabD laws_szInt64S_len_tab) (tabM laws_szInt64S_len_tab) := tabD_nil _
noncomputable def laws_szInt64S_len_T (v221 : Nat) (v222 : Int) : Tree (Int) :=
  (.br (decide (IntKind.i64.wrap (v222 - ((v221 : Nat) : Int)) < (0 : Int))) (
   .leaf (-1 : Int)
  ) (
   .leaf (IntKind.i64.wrap (v222 - ((v221 : Nat) : Int)))
  ))

noncomputable def laws_szInt64S_len_g (v221 : Nat) (v222 : Int) : Option (Int) := (laws_szInt64S_len_T v221 v222).run
def laws_szInt64S_len_enc (v221 : Nat) (v222 : Int) (y : Int) : Rs := (.int .i64 y, [])
theorem laws_szInt64S_len_den (v221 : Nat) (v222 : Int) : (den TT (tabD laws_szInt64S_len_tab) (tabM laws_szInt64S_len_tab) (laws_szInt64S_len_LO v221 v222) (codeOf Try.f63) ([.hslc (BR.root 0) v221, .int .i64 v222] ++ List.replicate (Try.f63.ntmps - ([.hslc (BR.root 0) v221, .int .i64 v222] : List DV).length) .undef) []).bind (retD TT Try.f63.results.toList 0) = (laws_szInt64S_len_T v221 v222).bind fun y => .leaf (laws_szInt64S_len_enc v221 v222 y) := by kernel_rfl
theorem laws_szInt64S_len_fn (v221 : Nat) (v222 : Int) (F : Fr) (hm : F.ids.length = 0) (h0 : St F [] F.H0) (hA : DVs.Ok F [] [.hslc (BR.root 0) v221, .int .i64 v222]) {y : Int} (hy : laws_szInt64S_len_g v221 v222 = some y) : ∃ H', FnOk Try.prog 63 (DVs.av F [.hslc (BR.root 0) v221, .int .i64 v222]) F.H0 ((laws_szInt64S_len_enc v221 v222 y).1.av F) H' ∧ St F (laws_szInt64S_len_enc v221 v222 y).2 H' ∧ (laws_szInt64S_len_enc v221 v222 y).1.Ok F (laws_szInt64S_len_enc v221 v222 y).2 :=
  fn_fin tok laws_szInt64S_len_hO mixed Try.func63 Try.call63 (by kernel_rfl) (LoopsOk_eq (l := []) (by kernel_rfl) trivial) (laws_szInt64S_len_den v221 v222) hy hm h0 hA
def laws_szInt64S_len_v (v221 : Nat) (v222 : Int) : Int :=
  if (decide (IntKind.i64.wrap (v222 - ((v221 : Nat) : Int)) < (0 : Int))) = true then (
   (-1 : Int)
  ) else (
   IntKind.i64.wrap (v222 - ((v221 : Nat) : Int))
  )
theorem laws_szInt64S_len_tot (v221 : Nat) (v222 : Int) : laws_szInt64S_len_g v221 v222 = some (laws_szInt64S_len_v v221 v222) := by
  unfold laws_szInt64S_len_g laws_szInt64S_len_T laws_szInt64S_len_v
  simp only [Tree.run]
  repeat' (first | rfl | split)
noncomputable def laws_szInt64S_len_F : DFn := fun args L =>
  match args with
  | [a1, .int .i64 v222] =>
    optT (lenV L a1) fun v221 =>
    .leaf (.int .i64 (laws_szInt64S_len_v v221 v222), L)
  | _ => .fail
theorem laws_szInt64S_len_Fok : COk Try.prog 63 laws_szInt64S_len_F true := by
  intro F L H args r L' hs ha hr
  unfold laws_szInt64S_len_F at hr
  split at hr
  · rename_i a1 v222
    obtain ⟨v221, hv221, hr⟩ := optT_run hr
    have hy := laws_szInt64S_len_tot v221 v222
    generalize laws_szInt64S_len_v v221 v222 = y at hy hr
    simp only [Tree.run, Option.some.injEq, Prod.mk.injEq] at hr
    obtain ⟨rfl, rfl⟩ := hr
    exact call_ok0 hs (fun k => (([a1.av F] : List AV)[k]?).getD .top) [a1, .int .i64 v222] [.hslc (BR.root 0) v221, .int .i64 v222] (fun F' h0 hi hρ => ⟨by simp [DVs.av, DV.av, BR.av, hρ], laws_szInt64S_len_fn v221 v222 F' (by rw [hi]; rfl) (st_nil hi) ⟨hslc_ok hi (by rw [h0, hρ]; exact lenV_ok hs (DVs.okAt ha 0 rfl) hv221), trivial, trivial⟩ hy⟩) rfl
  · cases hr
/-! laws.szFactor -/
noncomputable def laws_szFactor_len_LO (v210 : Int) (v211 : Int) (v212 : Nat) (v213 : Nat) (v214 : Int) : LOr := fun id e L =>
  match id with
  | _ => .fail
noncomputable def laws_szFactor_len_tab : List (FuncId × DFn × Bool) := [(29, laws_szMatrix_len_F, true), (63, laws_szInt64S_len_F, true)]
theorem laws_szFactor_len_hO : OrcOk Try.prog (tabD laws_szFactor_len_tab) (tabM laws_szFactor_len_tab) := tabD_cons laws_szMatrix_len_Fok (tabD_cons laws_szInt64S_len_Fok (tabD_nil _))
noncomputable def laws_szFactor_len_T (v212 : Nat) (v213 : Nat) (v214 : Int) : Tree (Int) :=
  (.br (decide ((laws_szMatrix_len_v v212 v214) < (0 : Int))) (
   .leaf (-1 : Int)
  ) (
   (.br (decide ((laws_szInt64S_len_v v213 (laws_szMatrix_len_v v212 v214)) < (0 : Int))) (
    .leaf (-1 : Int)
   ) (
    .leaf (laws_szInt64S_len_v v213 (laws_szMatrix_len_v v212 v214))
   ))
  ))

noncomputable def laws_szFactor_len_g (v212 : Nat) (v213 : Nat) (v214 : Int) : Option (Int) := (laws_szFactor_len_T v212 v213 v214).run
def laws_szFactor_len_enc (v210 : Int) (v211 : Int) (v212 : Nat) (v213 : Nat) (v214 : Int) (y : Int) : Rs := (.int .i64 y, [])
theorem laws_szFactor_len_den (v210 : Int) (v211 : Int) (v212 : Nat) (v213 : Nat) (v214 : Int) : (den TT (tabD laws_szFactor_len_tab) (tabM laws_szFactor_len_tab) (laws_szFactor_len_LO v210 v211 v212 v213 v214) (codeOf Try.f46) ([.agg [.int .i64 v210, .int .i64 v211, .hslc (BR.root 0) v212, .hslc (BR.root 1) v213], .int .i64 v214] ++ List.replicate (Try.f46.ntmps - ([.agg [.int .i64 v210, .int .i64 v211, .hslc (BR.root 0) v212, .hslc (BR.root 1) v213], .int .i64 v214] : List DV).length) .undef) []).bind (retD TT Try.f46.results.toList 0) = (laws_szFactor_len_T v212 v213 v214).bind fun y => .leaf (laws_szFactor_len_enc v210 v211 v212 v213 v214 y) := by kernel_rfl
theorem laws_szFactor_len_fn (v210 : Int) (v211 : Int) (v212 : Nat) (v213 : Nat) (v214 : Int) (F : Fr) (hm : F.ids.length = 0) (h0 : St F [] F.H0) (hA : DVs.Ok F [] [.agg [.int .i64 v210, .int .i64 v211, .hslc (BR.root 0) v212, .hslc (BR.root 1) v213], .int .i64 v214]) {y : Int} (hy : laws_szFactor_len_g v212 v213 v214 = some y) : ∃ H', FnOk Try.prog 46 (DVs.av F [.agg [.int .i64 v210, .int .i64 v211, .hslc (BR.root 0) v212, .hslc (BR.root 1) v213], .int .i64 v214]) F.H0 ((laws_szFactor_len_enc v210 v211 v212 v213 v214 y).1.av F) H' ∧ St F (laws_szFactor_len_enc v210 v211 v212 v213 v214 y).2 H' ∧ (laws_szFactor_len_enc v210 v211 v212 v213 v214 y).1.Ok F (laws_szFactor_len_enc v210 v211 v212 v213 v214 y).2 :=
  fn_fin tok laws_szFactor_len_hO mixed Try.func46 Try.call46 (by kernel_rfl) (LoopsOk_eq (l := []) (by kernel_rfl) trivial) (laws_szFactor_len_den v210 v211 v212 v213 v214) hy hm h0 hA
def laws_szFactor_len_v (v212 : Nat) (v213 : Nat) (v214 : Int) : Int :=
  if (decide ((laws_szMatrix_len_v v212 v214) < (0 : Int))) = true then (
   (-1 : Int)
  ) else (
   if (decide ((laws_szInt64S_len_v v213 (laws_szMatrix_len_v v212 v214)) < (0 : Int))) = true then (
    (-1 : Int)
   ) else (
    (laws_szInt64S_len_v v213 (laws_szMatrix_len_v v212 v214))
   )
  )
theorem laws_szFactor_len_tot (v212 : Nat) (v213 : Nat) (v214 : Int) : laws_szFactor_len_g v212 v213 v214 = some (laws_szFactor_len_v v212 v213 v214) := by
  unfold laws_szFactor_len_g laws_szFactor_len_T laws_szFactor_len_v
  simp only [Tree.run]
  repeat' (first | rfl | split)
noncomputable def laws_szFactor_len_F : DFn := fun args L =>
  match args with
  | [.agg [.int .i64 v210, .int .i64 v211, a1, a2], .int .i64 v214] =>
    optT (lenV L a1) fun v212 =>
    optT (lenV L a2) fun v213 =>
    .leaf (.int .i64 (laws_szFactor_len_v v212 v213 v214), L)
  | _ => .fail
theorem laws_szFactor_len_Fok : COk Try.prog 46 laws_szFactor_len_F true := by
  intro F L H args r L' hs ha hr
  unfold laws_szFactor_len_F at hr
  split at hr
  · rename_i v210 v211 a1 a2 v214
    obtain ⟨v212, hv212, hr⟩ := optT_run hr
    obtain ⟨v213, hv213, hr⟩ := optT_run hr
    have hy := laws_szFactor_len_tot v212 v213 v214
    generalize laws_szFactor_len_v v212 v213 v214 = y at hy hr
    simp only [Tree.run, Option.some.injEq, Prod.mk.injEq] at hr
    obtain ⟨rfl, rfl⟩ := hr
    exact call_ok0 hs (fun k => (([a1.av F, a2.av F] : List AV)[k]?).getD .top) [.agg [.int .i64 v210, .int .i64 v211, a1, a2], .int .i64 v214] [.agg [.int .i64 v210, .int .i64 v211, .hslc (BR.root 0) v212, .hslc (BR.root 1) v213], .int .i64 v214] (fun F' h0 hi hρ => ⟨by simp [DVs.av, DV.av, BR.av, hρ], laws_szFactor_len_fn v210 v211 v212 v213 v214 F' (by rw [hi]; rfl) (st_nil hi) ⟨⟨trivial, trivial, hslc_ok hi (by rw [h0, hρ]; exact lenV_ok hs (DVs.okAt (DVs.okAt ha 0 rfl) 2 rfl) hv212), hslc_ok hi (by rw [h0, hρ]; exact lenV_ok hs (DVs.okAt (DVs.okAt ha 0 rfl) 3 rfl) hv213), trivial⟩, trivial, trivial⟩ hy⟩) rfl
  · cases hr
/-! laws.FnExactValidFactor -/
noncomputable def laws_FnExactValidFactor_len_LO (v206 : Int) (v207 : Int) (v208 : Nat) (v209 : Nat) : LOr := fun id e L =>
  match id with
  | _ => .fail
noncomputable def laws_FnExactValidFactor_len_tab : List (FuncId × DFn × Bool) := [(46, laws_szFactor_len_F, true)]
theorem laws_FnExactValidFactor_len_hO : OrcOk Try.prog (tabD laws_FnExactValidFactor_len_tab) (tabM laws_FnExactValidFactor_len_tab) := tabD_cons laws_szFactor_len_Fok (tabD_nil _)
noncomputable def laws_FnExactValidFactor_len_T (v208 : Nat) (v209 : Nat) : Tree (Bool) :=
  (.br (decide ((laws_szFactor_len_v v208 v209 (1048576 : Int)) < (0 : Int))) (
   .leaf true
  ) (
   .fail
  ))

noncomputable def laws_FnExactValidFactor_len_g (v208 : Nat) (v209 : Nat) : Option (Bool) := (laws_FnExactValidFactor_len_T v208 v209).run
def laws_FnExactValidFactor_len_enc (v206 : Int) (v207 : Int) (v208 : Nat) (v209 : Nat) (y : Bool) : Rs := (.bool y, [])
theorem laws_FnExactValidFactor_len_den (v206 : Int) (v207 : Int) (v208 : Nat) (v209 : Nat) : (den TT (tabD laws_FnExactValidFactor_len_tab) (tabM laws_FnExactValidFactor_len_tab) (laws_FnExactValidFactor_len_LO v206 v207 v208 v209) (codeOf Try.f9) ([.agg [.int .i64 v206, .int .i64 v207, .hslc (BR.root 0) v208, .hslc (BR.root 1) v209]] ++ List.replicate (Try.f9.ntmps - ([.agg [.int .i64 v206, .int .i64 v207, .hslc (BR.root 0) v208, .hslc (BR.root 1) v209]] : List DV).length) .undef) []).bind (retD TT Try.f9.results.toList 0) = (laws_FnExactValidFactor_len_T v208 v209).bind fun y => .leaf (laws_FnExactValidFactor_len_enc v206 v207 v208 v209 y) := by kernel_rfl
theorem laws_FnExactValidFactor_len_fn (v206 : Int) (v207 : Int) (v208 : Nat) (v209 : Nat) (F : Fr) (hm : F.ids.length = 0) (h0 : St F [] F.H0) (hA : DVs.Ok F [] [.agg [.int .i64 v206, .int .i64 v207, .hslc (BR.root 0) v208, .hslc (BR.root 1) v209]]) {y : Bool} (hy : laws_FnExactValidFactor_len_g v208 v209 = some y) : ∃ H', FnOk Try.prog 9 (DVs.av F [.agg [.int .i64 v206, .int .i64 v207, .hslc (BR.root 0) v208, .hslc (BR.root 1) v209]]) F.H0 ((laws_FnExactValidFactor_len_enc v206 v207 v208 v209 y).1.av F) H' ∧ St F (laws_FnExactValidFactor_len_enc v206 v207 v208 v209 y).2 H' ∧ (laws_FnExactValidFactor_len_enc v206 v207 v208 v209 y).1.Ok F (laws_FnExactValidFactor_len_enc v206 v207 v208 v209 y).2 :=
  fn_fin tok laws_FnExactValidFactor_len_hO mixed Try.func9 Try.call9 (by kernel_rfl) (LoopsOk_eq (l := []) (by kernel_rfl) trivial) (laws_FnExactValidFactor_len_den v206 v207 v208 v209) hy hm h0 hA
noncomputable def laws_FnExactValidFactor_len_F : DFn := fun args L =>
  match args with
  | [.agg [.int .i64 v206, .int .i64 v207, a1, a2]] =>
    optT (lenV L a1) fun v208 =>
    optT (lenV L a2) fun v209 =>
    .call (laws_FnExactValidFactor_len_g v208 v209) fun y => .leaf (.bool y, L)
  | _ => .fail
theorem laws_FnExactValidFactor_len_Fok : COk Try.prog 9 laws_FnExactValidFactor_len_F true := by
  intro F L H args r L' hs ha hr
  unfold laws_FnExactValidFactor_len_F at hr
  split at hr
  · rename_i v206 v207 a1 a2
    obtain ⟨v208, hv208, hr⟩ := optT_run hr
    obtain ⟨v209, hv209, hr⟩ := optT_run hr
    simp only [Tree.run] at hr
    obtain ⟨y, hy, hr⟩ := Option.bind_eq_some_iff.1 hr
    simp only [Tree.run, Option.some.injEq, Prod.mk.injEq] at hr
    obtain ⟨rfl, rfl⟩ := hr
    exact call_ok0 hs (fun k => (([a1.av F, a2.av F] : List AV)[k]?).getD .top) [.agg [.int .i64 v206, .int .i64 v207, a1, a2]] [.agg [.int .i64 v206, .int .i64 v207, .hslc (BR.root 0) v208, .hslc (BR.root 1) v209]] (fun F' h0 hi hρ => ⟨by simp [DVs.av, DV.av, BR.av, hρ], laws_FnExactValidFactor_len_fn v206 v207 v208 v209 F' (by rw [hi]; rfl) (st_nil hi) ⟨⟨trivial, trivial, hslc_ok hi (by rw [h0, hρ]; exact lenV_ok hs (DVs.okAt (DVs.okAt ha 0 rfl) 2 rfl) hv208), hslc_ok hi (by rw [h0, hρ]; exact lenV_ok hs (DVs.okAt (DVs.okAt ha 0 rfl) 3 rfl) hv209), trivial⟩, trivial⟩ hy⟩) rfl
  · cases hr
end Go.Proofs.Ytjadfgeemfdbmaa.AM
