/- Functions: what they come to. -/
import Derived.Test.YtjadfgeemfdbmaaBase
set_option maxRecDepth 100000
set_option maxHeartbeats 4000000
set_option linter.unusedSimpArgs false
set_option linter.unusedVariables false
namespace Go.Proofs.Ytjadfgeemfdbmaa.AM
open Go.Proofs
/-! laws.szFloat32S -/
noncomputable def laws_szFloat32S_LO (v12 : List Nat) (v13 : Int) : LOr := fun id e L =>
  match id with
  | _ => .fail
noncomputable def laws_szFloat32S_tab : List (FuncId × DFn × Bool) := []
theorem laws_szFloat32S_hO : OrcOk Try.prog (tabD laws_szFloat32S_tab) (tabM laws_szFloat32S_tab) := tabD_nil _
noncomputable def laws_szFloat32S_T (v12 : List Nat) (v13 : Int) : Tree (Int) :=
  (.br (decide (IntKind.i64.wrap (v13 - ((v12.length : Nat) : Int)) < (0 : Int))) (
   .leaf (-1 : Int)
  ) (
   .leaf (IntKind.i64.wrap (v13 - ((v12.length : Nat) : Int)))
  ))

noncomputable def laws_szFloat32S_g (v12 : List Nat) (v13 : Int) : Option (Int) := (laws_szFloat32S_T v12 v13).run
def laws_szFloat32S_enc (v12 : List Nat) (v13 : Int) (y : Int) : Rs := (.int .i64 y, [])
theorem laws_szFloat32S_den (v12 : List Nat) (v13 : Int) : (den TT (tabD laws_szFloat32S_tab) (tabM laws_szFloat32S_tab) (laws_szFloat32S_LO v12 v13) (codeOf Try.f64) ([.bslc (BR.root 0) (.f32 v12), .int .i64 v13] ++ List.replicate (Try.f64.ntmps - ([.bslc (BR.root 0) (.f32 v12), .int .i64 v13] : List DV).length) .undef) []).bind (retD TT Try.f64.results.toList 0) = (laws_szFloat32S_T v12 v13).bind fun y => .leaf (laws_szFloat32S_enc v12 v13 y) := by kernel_rfl
theorem laws_szFloat32S_fn (v12 : List Nat) (v13 : Int) (F : Fr) (hm : F.ids.length = 0) (h0 : St F [] F.H0) (hA : DVs.Ok F [] [.bslc (BR.root 0) (.f32 v12), .int .i64 v13]) {y : Int} (hy : laws_szFloat32S_g v12 v13 = some y) : ∃ H', FnOk Try.prog 64 (DVs.av F [.bslc (BR.root 0) (.f32 v12), .int .i64 v13]) F.H0 ((laws_szFloat32S_enc v12 v13 y).1.av F) H' ∧ St F (laws_szFloat32S_enc v12 v13 y).2 H' ∧ (laws_szFloat32S_enc v12 v13 y).1.Ok F (laws_szFloat32S_enc v12 v13 y).2 :=
  fn_fin tok laws_szFloat32S_hO mixed Try.func64 Try.call64 (by kernel_rfl) (LoopsOk_eq (l := []) (by kernel_rfl) trivial) (laws_szFloat32S_den v12 v13) hy hm h0 hA
def laws_szFloat32S_v (v12 : List Nat) (v13 : Int) : Int :=
  if (decide (IntKind.i64.wrap (v13 - ((v12.length : Nat) : Int)) < (0 : Int))) = true then (
   (-1 : Int)
  ) else (
   IntKind.i64.wrap (v13 - ((v12.length : Nat) : Int))
  )
theorem laws_szFloat32S_tot (v12 : List Nat) (v13 : Int) : laws_szFloat32S_g v12 v13 = some (laws_szFloat32S_v v12 v13) := by
  unfold laws_szFloat32S_g laws_szFloat32S_T laws_szFloat32S_v
  simp only [Tree.run]
  repeat' (first | rfl | split)
noncomputable def laws_szFloat32S_F : DFn := fun args L =>
  match args with
  | [a1, .int .i64 v13] =>
    optT (rowF32 L a1) fun v12 =>
    .leaf (.int .i64 (laws_szFloat32S_v v12 v13), L)
  | _ => .fail
theorem laws_szFloat32S_Fok : COk Try.prog 64 laws_szFloat32S_F true := by
  intro F L H args r L' hs ha hr
  unfold laws_szFloat32S_F at hr
  split at hr
  · rename_i a1 v13
    obtain ⟨v12, hv12, hr⟩ := optT_run hr
    have hy := laws_szFloat32S_tot v12 v13
    generalize laws_szFloat32S_v v12 v13 = y at hy hr
    simp only [Tree.run, Option.some.injEq, Prod.mk.injEq] at hr
    obtain ⟨rfl, rfl⟩ := hr
    exact call_ok0 hs (fun k => (([a1.av F] : List AV)[k]?).getD .top) [a1, .int .i64 v13] [.bslc (BR.root 0) (.f32 v12), .int .i64 v13] (fun F' h0 hi hρ => ⟨by simp [DVs.av, DV.av, BR.av, hρ], laws_szFloat32S_fn v12 v13 F' (by rw [hi]; rfl) (st_nil hi) ⟨bslc_ok hi (by rw [h0, hρ]; exact rowF32_ok hs (DVs.okAt ha 0 rfl) hv12), trivial, trivial⟩ hy⟩) rfl
  · cases hr
/-! laws.szMatrix -/
noncomputable def laws_szMatrix_LO (v8 : Int) (v9 : Int) (v10 : List Nat) (v11 : Int) : LOr := fun id e L =>
  match id with
  | _ => .fail
noncomputable def laws_szMatrix_tab : List (FuncId × DFn × Bool) := [(64, laws_szFloat32S_F, true)]
theorem laws_szMatrix_hO : OrcOk Try.prog (tabD laws_szMatrix_tab) (tabM laws_szMatrix_tab) := tabD_cons laws_szFloat32S_Fok (tabD_nil _)
noncomputable def laws_szMatrix_T (v10 : List Nat) (v11 : Int) : Tree (Int) :=
  (.br (decide ((laws_szFloat32S_v v10 v11) < (0 : Int))) (
   .leaf (-1 : Int)
  ) (
   .leaf (laws_szFloat32S_v v10 v11)
  ))

noncomputable def laws_szMatrix_g (v10 : List Nat) (v11 : Int) : Option (Int) := (laws_szMatrix_T v10 v11).run
def laws_szMatrix_enc (v8 : Int) (v9 : Int) (v10 : List Nat) (v11 : Int) (y : Int) : Rs := (.int .i64 y, [])
theorem laws_szMatrix_den (v8 : Int) (v9 : Int) (v10 : List Nat) (v11 : Int) : (den TT (tabD laws_szMatrix_tab) (tabM laws_szMatrix_tab) (laws_szMatrix_LO v8 v9 v10 v11) (codeOf Try.f29) ([.agg [.int .i64 v8, .int .i64 v9, .bslc (BR.root 0) (.f32 v10)], .int .i64 v11] ++ List.replicate (Try.f29.ntmps - ([.agg [.int .i64 v8, .int .i64 v9, .bslc (BR.root 0) (.f32 v10)], .int .i64 v11] : List DV).length) .undef) []).bind (retD TT Try.f29.results.toList 0) = (laws_szMatrix_T v10 v11).bind fun y => .leaf (laws_szMatrix_enc v8 v9 v10 v11 y) := by kernel_rfl
theorem laws_szMatrix_fn (v8 : Int) (v9 : Int) (v10 : List Nat) (v11 : Int) (F : Fr) (hm : F.ids.length = 0) (h0 : St F [] F.H0) (hA : DVs.Ok F [] [.agg [.int .i64 v8, .int .i64 v9, .bslc (BR.root 0) (.f32 v10)], .int .i64 v11]) {y : Int} (hy : laws_szMatrix_g v10 v11 = some y) : ∃ H', FnOk Try.prog 29 (DVs.av F [.agg [.int .i64 v8, .int .i64 v9, .bslc (BR.root 0) (.f32 v10)], .int .i64 v11]) F.H0 ((laws_szMatrix_enc v8 v9 v10 v11 y).1.av F) H' ∧ St F (laws_szMatrix_enc v8 v9 v10 v11 y).2 H' ∧ (laws_szMatrix_enc v8 v9 v10 v11 y).1.Ok F (laws_szMatrix_enc v8 v9 v10 v11 y).2 :=
  fn_fin tok laws_szMatrix_hO mixed Try.func29 Try.call29 (by kernel_rfl) (LoopsOk_eq (l := []) (by kernel_rfl) trivial) (laws_szMatrix_den v8 v9 v10 v11) hy hm h0 hA
def laws_szMatrix_v (v10 : List Nat) (v11 : Int) : Int :=
  if (decide ((laws_szFloat32S_v v10 v11) < (0 : Int))) = true then (
   (-1 : Int)
  ) else (
   (laws_szFloat32S_v v10 v11)
  )
theorem laws_szMatrix_tot (v10 : List Nat) (v11 : Int) : laws_szMatrix_g v10 v11 = some (laws_szMatrix_v v10 v11) := by
  unfold laws_szMatrix_g laws_szMatrix_T laws_szMatrix_v
  simp only [Tree.run]
  repeat' (first | rfl | split)
noncomputable def laws_szMatrix_F : DFn := fun args L =>
  match args with
  | [.agg [.int .i64 v8, .int .i64 v9, a1], .int .i64 v11] =>
    optT (rowF32 L a1) fun v10 =>
    .leaf (.int .i64 (laws_szMatrix_v v10 v11), L)
  | _ => .fail
theorem laws_szMatrix_Fok : COk Try.prog 29 laws_szMatrix_F true := by
  intro F L H args r L' hs ha hr
  unfold laws_szMatrix_F at hr
  split at hr
  · rename_i v8 v9 a1 v11
    obtain ⟨v10, hv10, hr⟩ := optT_run hr
    have hy := laws_szMatrix_tot v10 v11
    generalize laws_szMatrix_v v10 v11 = y at hy hr
    simp only [Tree.run, Option.some.injEq, Prod.mk.injEq] at hr
    obtain ⟨rfl, rfl⟩ := hr
    exact call_ok0 hs (fun k => (([a1.av F] : List AV)[k]?).getD .top) [.agg [.int .i64 v8, .int .i64 v9, a1], .int .i64 v11] [.agg [.int .i64 v8, .int .i64 v9, .bslc (BR.root 0) (.f32 v10)], .int .i64 v11] (fun F' h0 hi hρ => ⟨by simp [DVs.av, DV.av, BR.av, hρ], laws_szMatrix_fn v8 v9 v10 v11 F' (by rw [hi]; rfl) (st_nil hi) ⟨⟨trivial, trivial, bslc_ok hi (by rw [h0, hρ]; exact rowF32_ok hs (DVs.okAt (DVs.okAt ha 0 rfl) 2 rfl) hv10), trivial⟩, trivial, trivial⟩ hy⟩) rfl
  · cases hr
/-! laws.szInt64S -/
noncomputable def laws_szInt64S_LO (v19 : List Int) (v20 : Int) : LOr := fun id e L =>
  match id with
  | _ => .fail
noncomputable def laws_szInt64S_tab : List (FuncId × DFn × Bool) := []
theorem laws_szInt64S_hO : OrcOk Try.prog (tabD laws_szInt64S_tab) (tabM laws_szInt64S_tab) := tabD_nil _
noncomputable def laws_szInt64S_T (v19 : List Int) (v20 : Int) : Tree (Int) :=
  (.br (decide (IntKind.i64.wrap (v20 - ((v19.length : Nat) : Int)) < (0 : Int))) (
   .leaf (-1 : Int)
  ) (
   .leaf (IntKind.i64.wrap (v20 - ((v19.length : Nat) : Int)))
  ))

noncomputable def laws_szInt64S_g (v19 : List Int) (v20 : Int) : Option (Int) := (laws_szInt64S_T v19 v20).run
def laws_szInt64S_enc (v19 : List Int) (v20 : Int) (y : Int) : Rs := (.int .i64 y, [])
theorem laws_szInt64S_den (v19 : List Int) (v20 : Int) : (den TT (tabD laws_szInt64S_tab) (tabM laws_szInt64S_tab) (laws_szInt64S_LO v19 v20) (codeOf Try.f63) ([.bslc (BR.root 0) (.i64 v19), .int .i64 v20] ++ List.replicate (Try.f63.ntmps - ([.bslc (BR.root 0) (.i64 v19), .int .i64 v20] : List DV).length) .undef) []).bind (retD TT Try.f63.results.toList 0) = (laws_szInt64S_T v19 v20).bind fun y => .leaf (laws_szInt64S_enc v19 v20 y) := by kernel_rfl
theorem laws_szInt64S_fn (v19 : List Int) (v20 : Int) (F : Fr) (hm : F.ids.length = 0) (h0 : St F [] F.H0) (hA : DVs.Ok F [] [.bslc (BR.root 0) (.i64 v19), .int .i64 v20]) {y : Int} (hy : laws_szInt64S_g v19 v20 = some y) : ∃ H', FnOk Try.prog 63 (DVs.av F [.bslc (BR.root 0) (.i64 v19), .int .i64 v20]) F.H0 ((laws_szInt64S_enc v19 v20 y).1.av F) H' ∧ St F (laws_szInt64S_enc v19 v20 y).2 H' ∧ (laws_szInt64S_enc v19 v20 y).1.Ok F (laws_szInt64S_enc v19 v20 y).2 :=
  fn_fin tok laws_szInt64S_hO mixed Try.func63 Try.call63 (by kernel_rfl) (LoopsOk_eq (l := []) (by kernel_rfl) trivial) (laws_szInt64S_den v19 v20) hy hm h0 hA
def laws_szInt64S_v (v19 : List Int) (v20 : Int) : Int :=
  if (decide (IntKind.i64.wrap (v20 - ((v19.length : Nat) : Int)) < (0 : Int))) = true then (
   (-1 : Int)
  ) else (
   IntKind.i64.wrap (v20 - ((v19.length : Nat) : Int))
  )
theorem laws_szInt64S_tot (v19 : List Int) (v20 : Int) : laws_szInt64S_g v19 v20 = some (laws_szInt64S_v v19 v20) := by
  unfold laws_szInt64S_g laws_szInt64S_T laws_szInt64S_v
  simp only [Tree.run]
  repeat' (first | rfl | split)
noncomputable def laws_szInt64S_F : DFn := fun args L =>
  match args with
  | [a1, .int .i64 v20] =>
    optT (rowI64 L a1) fun v19 =>
    .leaf (.int .i64 (laws_szInt64S_v v19 v20), L)
  | _ => .fail
theorem laws_szInt64S_Fok : COk Try.prog 63 laws_szInt64S_F true := by
  intro F L H args r L' hs ha hr
  unfold laws_szInt64S_F at hr
  split at hr
  · rename_i a1 v20
    obtain ⟨v19, hv19, hr⟩ := optT_run hr
    have hy := laws_szInt64S_tot v19 v20
    generalize laws_szInt64S_v v19 v20 = y at hy hr
    simp only [Tree.run, Option.some.injEq, Prod.mk.injEq] at hr
    obtain ⟨rfl, rfl⟩ := hr
    exact call_ok0 hs (fun k => (([a1.av F] : List AV)[k]?).getD .top) [a1, .int .i64 v20] [.bslc (BR.root 0) (.i64 v19), .int .i64 v20] (fun F' h0 hi hρ => ⟨by simp [DVs.av, DV.av, BR.av, hρ], laws_szInt64S_fn v19 v20 F' (by rw [hi]; rfl) (st_nil hi) ⟨bslc_ok hi (by rw [h0, hρ]; exact rowI64_ok hs (DVs.okAt ha 0 rfl) hv19), trivial, trivial⟩ hy⟩) rfl
  · cases hr
/-! laws.szFactor -/
noncomputable def laws_szFactor_LO (v14 : Int) (v15 : Int) (v16 : List Nat) (v17 : List Int) (v18 : Int) : LOr := fun id e L =>
  match id with
  | _ => .fail
noncomputable def laws_szFactor_tab : List (FuncId × DFn × Bool) := [(29, laws_szMatrix_F, true), (63, laws_szInt64S_F, true)]
theorem laws_szFactor_hO : OrcOk Try.prog (tabD laws_szFactor_tab) (tabM laws_szFactor_tab) := tabD_cons laws_szMatrix_Fok (tabD_cons laws_szInt64S_Fok (tabD_nil _))
noncomputable def laws_szFactor_T (v16 : List Nat) (v17 : List Int) (v18 : Int) : Tree (Int) :=
  (.br (decide ((laws_szMatrix_v v16 v18) < (0 : Int))) (
   .leaf (-1 : Int)
  ) (
   (.br (decide ((laws_szInt64S_v v17 (laws_szMatrix_v v16 v18)) < (0 : Int))) (
    .leaf (-1 : Int)
   ) (
    .leaf (laws_szInt64S_v v17 (laws_szMatrix_v v16 v18))
   ))
  ))

noncomputable def laws_szFactor_g (v16 : List Nat) (v17 : List Int) (v18 : Int) : Option (Int) := (laws_szFactor_T v16 v17 v18).run
def laws_szFactor_enc (v14 : Int) (v15 : Int) (v16 : List Nat) (v17 : List Int) (v18 : Int) (y : Int) : Rs := (.int .i64 y, [])
theorem laws_szFactor_den (v14 : Int) (v15 : Int) (v16 : List Nat) (v17 : List Int) (v18 : Int) : (den TT (tabD laws_szFactor_tab) (tabM laws_szFactor_tab) (laws_szFactor_LO v14 v15 v16 v17 v18) (codeOf Try.f46) ([.agg [.int .i64 v14, .int .i64 v15, .bslc (BR.root 0) (.f32 v16), .bslc (BR.root 1) (.i64 v17)], .int .i64 v18] ++ List.replicate (Try.f46.ntmps - ([.agg [.int .i64 v14, .int .i64 v15, .bslc (BR.root 0) (.f32 v16), .bslc (BR.root 1) (.i64 v17)], .int .i64 v18] : List DV).length) .undef) []).bind (retD TT Try.f46.results.toList 0) = (laws_szFactor_T v16 v17 v18).bind fun y => .leaf (laws_szFactor_enc v14 v15 v16 v17 v18 y) := by kernel_rfl
theorem laws_szFactor_fn (v14 : Int) (v15 : Int) (v16 : List Nat) (v17 : List Int) (v18 : Int) (F : Fr) (hm : F.ids.length = 0) (h0 : St F [] F.H0) (hA : DVs.Ok F [] [.agg [.int .i64 v14, .int .i64 v15, .bslc (BR.root 0) (.f32 v16), .bslc (BR.root 1) (.i64 v17)], .int .i64 v18]) {y : Int} (hy : laws_szFactor_g v16 v17 v18 = some y) : ∃ H', FnOk Try.prog 46 (DVs.av F [.agg [.int .i64 v14, .int .i64 v15, .bslc (BR.root 0) (.f32 v16), .bslc (BR.root 1) (.i64 v17)], .int .i64 v18]) F.H0 ((laws_szFactor_enc v14 v15 v16 v17 v18 y).1.av F) H' ∧ St F (laws_szFactor_enc v14 v15 v16 v17 v18 y).2 H' ∧ (laws_szFactor_enc v14 v15 v16 v17 v18 y).1.Ok F (laws_szFactor_enc v14 v15 v16 v17 v18 y).2 :=
  fn_fin tok laws_szFactor_hO mixed Try.func46 Try.call46 (by kernel_rfl) (LoopsOk_eq (l := []) (by kernel_rfl) trivial) (laws_szFactor_den v14 v15 v16 v17 v18) hy hm h0 hA
def laws_szFactor_v (v16 : List Nat) (v17 : List Int) (v18 : Int) : Int :=
  if (decide ((laws_szMatrix_v v16 v18) < (0 : Int))) = true then (
   (-1 : Int)
  ) else (
   if (decide ((laws_szInt64S_v v17 (laws_szMatrix_v v16 v18)) < (0 : Int))) = true then (
    (-1 : Int)
   ) else (
    (laws_szInt64S_v v17 (laws_szMatrix_v v16 v18))
   )
  )
theorem laws_szFactor_tot (v16 : List Nat) (v17 : List Int) (v18 : Int) : laws_szFactor_g v16 v17 v18 = some (laws_szFactor_v v16 v17 v18) := by
  unfold laws_szFactor_g laws_szFactor_T laws_szFactor_v
  simp only [Tree.run]
  repeat' (first | rfl | split)
noncomputable def laws_szFactor_F : DFn := fun args L =>
  match args with
  | [.agg [.int .i64 v14, .int .i64 v15, a1, a2], .int .i64 v18] =>
    optT (rowF32 L a1) fun v16 =>
    optT (rowI64 L a2) fun v17 =>
    .leaf (.int .i64 (laws_szFactor_v v16 v17 v18), L)
  | _ => .fail
theorem laws_szFactor_Fok : COk Try.prog 46 laws_szFactor_F true := by
  intro F L H args r L' hs ha hr
  unfold laws_szFactor_F at hr
  split at hr
  · rename_i v14 v15 a1 a2 v18
    obtain ⟨v16, hv16, hr⟩ := optT_run hr
    obtain ⟨v17, hv17, hr⟩ := optT_run hr
    have hy := laws_szFactor_tot v16 v17 v18
    generalize laws_szFactor_v v16 v17 v18 = y at hy hr
    simp only [Tree.run, Option.some.injEq, Prod.mk.injEq] at hr
    obtain ⟨rfl, rfl⟩ := hr
    exact call_ok0 hs (fun k => (([a1.av F, a2.av F] : List AV)[k]?).getD .top) [.agg [.int .i64 v14, .int .i64 v15, a1, a2], .int .i64 v18] [.agg [.int .i64 v14, .int .i64 v15, .bslc (BR.root 0) (.f32 v16), .bslc (BR.root 1) (.i64 v17)], .int .i64 v18] (fun F' h0 hi hρ => ⟨by simp [DVs.av, DV.av, BR.av, hρ], laws_szFactor_fn v14 v15 v16 v17 v18 F' (by rw [hi]; rfl) (st_nil hi) ⟨⟨trivial, trivial, bslc_ok hi (by rw [h0, hρ]; exact rowF32_ok hs (DVs.okAt (DVs.okAt ha 0 rfl) 2 rfl) hv16), bslc_ok hi (by rw [h0, hρ]; exact rowI64_ok hs (DVs.okAt (DVs.okAt ha 0 rfl) 3 rfl) hv17), trivial⟩, trivial, trivial⟩ hy⟩) rfl
  · cases hr
/-! laws.toFloat32S -/
noncomputable def laws_toFloat32S_l0_T (v24 : List Nat) (s : Int × (List Nat)) : Tree ((Int × (List Nat)) ⊕ ((List Nat))) :=
  (.br (decide (s.1 < ((v24.length : Nat) : Int))) (
   (.grd (inb s.1 v24.length) <|
   (.grd (inb s.1 ((s.2).length)) <|
   .leaf (.inl (IntKind.i64.wrap (s.1 + (1 : Int)), List.set s.2 (Int.toNat s.1) (nth v24 (Int.toNat s.1))))))
  ) (
   .leaf (.inr s.2)
  ))

noncomputable def laws_toFloat32S_l0_g (v24 : List Nat) (s0 : Int × (List Nat)) : Option ((List Nat)) := whileM (fun s => (laws_toFloat32S_l0_T v24 s).run) s0
def laws_toFloat32S_l0_E (v24 : List Nat) (s : Int × (List Nat)) : Sd := ([.bslc (BR.root 0) (.f32 v24), .top, .top, .own 0 0 ((s.2).length), .int .i64 s.1, .top, .top, .top, .top, .top, .top, .top, .top, .top, .top, .top, .top, .top, .top, .top, .top, .top], [.row (.f32 s.2) 0])
def laws_toFloat32S_l0_X (v24 : List Nat) (x : (List Nat)) : Out := (.normal, [.top, .top, .top, .own 0 0 ((x).length), .top, .top, .top, .top, .top, .top, .top, .top, .top, .top, .top, .top, .top, .top, .top, .top, .top, .top], [.row (.f32 x) 0])
def laws_toFloat32S_l0_kill : List Nat := [0, 1, 1, 0, 0, 1, 1, 1, 1, 1, 1, 1, 1, 1, 1, 1, 1, 1, 1, 1, 1, 1]
def laws_toFloat32S_l0_nx : Exit → List Nat
  | .exit 0 => [1, 1, 1, 0, 1, 1, 1, 1, 1, 1, 1, 1, 1, 1, 1, 1, 1, 1, 1, 1, 1, 1]
  | .ret => [1, 1, 0, 1, 1, 1, 1, 1, 1, 1, 1, 1, 1, 1, 1, 1, 1, 1, 1, 1, 1, 1]
  | _ => []
noncomputable def laws_toFloat32S_LO (v24 : List Nat) : LOr := fun id e L =>
  match id with
  | 0 => .need (normA 0 laws_toFloat32S_l0_kill e L = some (laws_toFloat32S_l0_E v24 ((gI (vAt e 4)), (gRF L (vAt e 3))))) (.call (laws_toFloat32S_l0_g v24 ((gI (vAt e 4)), (gRF L (vAt e 3)))) fun x => .leaf (laws_toFloat32S_l0_X v24 x))
  | _ => .fail
noncomputable def laws_toFloat32S_tab : List (FuncId × DFn × Bool) := []
theorem laws_toFloat32S_hO : OrcOk Try.prog (tabD laws_toFloat32S_tab) (tabM laws_toFloat32S_tab) := tabD_nil _
theorem laws_toFloat32S_l0_be (v24 : List Nat) (s : Int × (List Nat)) : bodyT TT (tabD laws_toFloat32S_tab) (tabM laws_toFloat32S_tab) (laws_toFloat32S_LO v24) 0 laws_toFloat32S_l0_kill laws_toFloat32S_l0_nx (bodyOf Try.f18 0) 0 (laws_toFloat32S_l0_E v24 s) = (laws_toFloat32S_l0_T v24 s).bind fun y => .leaf (outS (laws_toFloat32S_l0_E v24) (laws_toFloat32S_l0_X v24) y) := by kernel_rfl
theorem laws_toFloat32S_l0_ok (v24 : List Nat) : LSound Try.prog 0 (laws_toFloat32S_LO v24) 0 (bodyOf Try.f18 0) := by
  intro e L out h
  exact lo_ok (E := laws_toFloat32S_l0_E v24) (gT := laws_toFloat32S_l0_T v24) (X := laws_toFloat32S_l0_X v24) (s0 := ((gI (vAt e 4)), (gRF L (vAt e 3)))) tok laws_toFloat32S_hO mixed (LoopsOk_eq (l := []) (by kernel_rfl) trivial) (laws_toFloat32S_l0_be v24) rfl (by intro x; rfl) h
noncomputable def laws_toFloat32S_T (v24 : List Nat) : Tree ((List Nat)) :=
  (.need (((v24.length : Nat) : Int) = ((v24.length : Nat) : Int)) <|
  (.grd (inb ((v24.length : Nat) : Int) (maxN + 1)) <|
  (.need (some (laws_toFloat32S_l0_E v24 ((0 : Int), List.replicate (Int.toNat ((v24.length : Nat) : Int)) (0 : Nat))) = some (laws_toFloat32S_l0_E v24 ((0 : Int), List.replicate (Int.toNat ((v24.length : Nat) : Int)) (0 : Nat)))) <|
  (.call (laws_toFloat32S_l0_g v24 ((0 : Int), List.replicate (Int.toNat ((v24.length : Nat) : Int)) (0 : Nat))) fun v30 =>
  .leaf v30))))

noncomputable def laws_toFloat32S_g (v24 : List Nat) : Option ((List Nat)) := (laws_toFloat32S_T v24).run
def laws_toFloat32S_enc (v24 : List Nat) (y : (List Nat)) : Rs := (.own 0 0 ((y).length), [.row (.f32 y) 0])
theorem laws_toFloat32S_den (v24 : List Nat) : (den TT (tabD laws_toFloat32S_tab) (tabM laws_toFloat32S_tab) (laws_toFloat32S_LO v24) (codeOf Try.f18) ([.bslc (BR.root 0) (.f32 v24)] ++ List.replicate (Try.f18.ntmps - ([.bslc (BR.root 0) (.f32 v24)] : List DV).length) .undef) []).bind (retD TT Try.f18.results.toList 0) = (laws_toFloat32S_T v24).bind fun y => .leaf (laws_toFloat32S_enc v24 y) := by kernel_rfl
theorem laws_toFloat32S_fn (v24 : List Nat) (F : Fr) (hm : F.ids.length = 0) (h0 : St F [] F.H0) (hA : DVs.Ok F [] [.bslc (BR.root 0) (.f32 v24)]) {y : (List Nat)} (hy : laws_toFloat32S_g v24 = some y) : ∃ H', FnOk Try.prog 18 (DVs.av F [.bslc (BR.root 0) (.f32 v24)]) F.H0 ((laws_toFloat32S_enc v24 y).1.av F) H' ∧ St F (laws_toFloat32S_enc v24 y).2 H' ∧ (laws_toFloat32S_enc v24 y).1.Ok F (laws_toFloat32S_enc v24 y).2 :=
  fn_fin tok laws_toFloat32S_hO mixed Try.func18 Try.call18 (by kernel_rfl) (LoopsOk_eq (l := [(0, bodyOf Try.f18 0)]) (by kernel_rfl) ⟨laws_toFloat32S_l0_ok v24, trivial⟩) (laws_toFloat32S_den v24) hy hm h0 hA
noncomputable def laws_toFloat32S_F : DFn := fun args L =>
  match args with
  | [a1] =>
    optT (rowF32 L a1) fun v24 =>
    .call (laws_toFloat32S_g v24) fun y => .leaf (.own (L.length + 0) 0 ((y).length), L ++ [.row (.f32 y) 0])
  | _ => .fail
theorem laws_toFloat32S_Fok : COk Try.prog 18 laws_toFloat32S_F true := by
  intro F L H args r L' hs ha hr
  unfold laws_toFloat32S_F at hr
  split at hr
  · rename_i a1
    obtain ⟨v24, hv24, hr⟩ := optT_run hr
    simp only [Tree.run] at hr
    obtain ⟨y, hy, hr⟩ := Option.bind_eq_some_iff.1 hr
    simp only [Tree.run, Option.some.injEq, Prod.mk.injEq] at hr
    obtain ⟨rfl, rfl⟩ := hr
    exact call_ok1 hs (fun k => (([a1.av F] : List AV)[k]?).getD .top) [a1] [.bslc (BR.root 0) (.f32 v24)] (fun F' h0 hi hρ => ⟨by simp [DVs.av, DV.av, BR.av, hρ], laws_toFloat32S_fn v24 F' (by rw [hi]; rfl) (st_nil hi) ⟨bslc_ok hi (by rw [h0, hρ]; exact rowF32_ok hs (DVs.okAt ha 0 rfl) hv24), trivial⟩ hy⟩) rfl rfl
  · cases hr
/-! laws.toMatrix -/
noncomputable def laws_toMatrix_LO (v21 : Int) (v22 : Int) (v23 : List Nat) : LOr := fun id e L =>
  match id with
  | _ => .fail
noncomputable def laws_toMatrix_tab : List (FuncId × DFn × Bool) := [(18, laws_toFloat32S_F, true)]
theorem laws_toMatrix_hO : OrcOk Try.prog (tabD laws_toMatrix_tab) (tabM laws_toMatrix_tab) := tabD_cons laws_toFloat32S_Fok (tabD_nil _)
noncomputable def laws_toMatrix_T (v21 : Int) (v22 : Int) (v23 : List Nat) : Tree (Int × Int × (List Nat)) :=
  (.call (laws_toFloat32S_g v23) fun v31 =>
  .leaf (v21, v22, v31))

noncomputable def laws_toMatrix_g (v21 : Int) (v22 : Int) (v23 : List Nat) : Option (Int × Int × (List Nat)) := (laws_toMatrix_T v21 v22 v23).run
def laws_toMatrix_enc (v21 : Int) (v22 : Int) (v23 : List Nat) (y : Int × Int × (List Nat)) : Rs := (.agg [.int .i64 y.1, .int .i64 y.2.1, .own 0 0 ((y.2.2).length)], [.row (.f32 y.2.2) 0])
theorem laws_toMatrix_den (v21 : Int) (v22 : Int) (v23 : List Nat) : (den TT (tabD laws_toMatrix_tab) (tabM laws_toMatrix_tab) (laws_toMatrix_LO v21 v22 v23) (codeOf Try.f31) ([.agg [.int .i64 v21, .int .i64 v22, .bslc (BR.root 0) (.f32 v23)]] ++ List.replicate (Try.f31.ntmps - ([.agg [.int .i64 v21, .int .i64 v22, .bslc (BR.root 0) (.f32 v23)]] : List DV).length) .undef) []).bind (retD TT Try.f31.results.toList 0) = (laws_toMatrix_T v21 v22 v23).bind fun y => .leaf (laws_toMatrix_enc v21 v22 v23 y) := by kernel_rfl
theorem laws_toMatrix_fn (v21 : Int) (v22 : Int) (v23 : List Nat) (F : Fr) (hm : F.ids.length = 0) (h0 : St F [] F.H0) (hA : DVs.Ok F [] [.agg [.int .i64 v21, .int .i64 v22, .bslc (BR.root 0) (.f32 v23)]]) {y : Int × Int × (List Nat)} (hy : laws_toMatrix_g v21 v22 v23 = some y) : ∃ H', FnOk Try.prog 31 (DVs.av F [.agg [.int .i64 v21, .int .i64 v22, .bslc (BR.root 0) (.f32 v23)]]) F.H0 ((laws_toMatrix_enc v21 v22 v23 y).1.av F) H' ∧ St F (laws_toMatrix_enc v21 v22 v23 y).2 H' ∧ (laws_toMatrix_enc v21 v22 v23 y).1.Ok F (laws_toMatrix_enc v21 v22 v23 y).2 :=
  fn_fin tok laws_toMatrix_hO mixed Try.func31 Try.call31 (by kernel_rfl) (LoopsOk_eq (l := []) (by kernel_rfl) trivial) (laws_toMatrix_den v21 v22 v23) hy hm h0 hA
noncomputable def laws_toMatrix_F : DFn := fun args L =>
  match args with
  | [.agg [.int .i64 v21, .int .i64 v22, a1]] =>
    optT (rowF32 L a1) fun v23 =>
    .call (laws_toMatrix_g v21 v22 v23) fun y => .leaf (.agg [.int .i64 y.1, .int .i64 y.2.1, .own (L.length + 0) 0 ((y.2.2).length)], L ++ [.row (.f32 y.2.2) 0])
  | _ => .fail
theorem laws_toMatrix_Fok : COk Try.prog 31 laws_toMatrix_F true := by
  intro F L H args r L' hs ha hr
  unfold laws_toMatrix_F at hr
  split at hr
  · rename_i v21 v22 a1
    obtain ⟨v23, hv23, hr⟩ := optT_run hr
    simp only [Tree.run] at hr
    obtain ⟨y, hy, hr⟩ := Option.bind_eq_some_iff.1 hr
    simp only [Tree.run, Option.some.injEq, Prod.mk.injEq] at hr
    obtain ⟨rfl, rfl⟩ := hr
    exact call_ok1 hs (fun k => (([a1.av F] : List AV)[k]?).getD .top) [.agg [.int .i64 v21, .int .i64 v22, a1]] [.agg [.int .i64 v21, .int .i64 v22, .bslc (BR.root 0) (.f32 v23)]] (fun F' h0 hi hρ => ⟨by simp [DVs.av, DV.av, BR.av, hρ], laws_toMatrix_fn v21 v22 v23 F' (by rw [hi]; rfl) (st_nil hi) ⟨⟨trivial, trivial, bslc_ok hi (by rw [h0, hρ]; exact rowF32_ok hs (DVs.okAt (DVs.okAt ha 0 rfl) 2 rfl) hv23), trivial⟩, trivial⟩ hy⟩) rfl rfl
  · cases hr
/-! laws.toInt64S -/
noncomputable def laws_toInt64S_l0_T (v38 : List Int) (s : Int × (List Int)) : Tree ((Int × (List Int)) ⊕ ((List Int))) :=
  (.br (decide (s.1 < ((v38.length : Nat) : Int))) (
   (.grd (inb s.1 v38.length) <|
   (.grd (inb s.1 ((s.2).length)) <|
   .leaf (.inl (IntKind.i64.wrap (s.1 + (1 : Int)), List.set s.2 (Int.toNat s.1) (nth v38 (Int.toNat s.1))))))
  ) (
   .leaf (.inr s.2)
  ))

noncomputable def laws_toInt64S_l0_g (v38 : List Int) (s0 : Int × (List Int)) : Option ((List Int)) := whileM (fun s => (laws_toInt64S_l0_T v38 s).run) s0
def laws_toInt64S_l0_E (v38 : List Int) (s : Int × (List Int)) : Sd := ([.bslc (BR.root 0) (.i64 v38), .top, .top, .own 0 0 ((s.2).length), .int .i64 s.1, .top, .top, .top, .top, .top, .top, .top, .top, .top, .top, .top, .top, .top, .top, .top, .top, .top], [.row (.i64 s.2) 0])
def laws_toInt64S_l0_X (v38 : List Int) (x : (List Int)) : Out := (.normal, [.top, .top, .top, .own 0 0 ((x).length), .top, .top, .top, .top, .top, .top, .top, .top, .top, .top, .top, .top, .top, .top, .top, .top, .top, .top], [.row (.i64 x) 0])
def laws_toInt64S_l0_kill : List Nat := [0, 1, 1, 0, 0, 1, 1, 1, 1, 1, 1, 1, 1, 1, 1, 1, 1, 1, 1, 1, 1, 1]
def laws_toInt64S_l0_nx : Exit → List Nat
  | .exit 0 => [1, 1, 1, 0, 1, 1, 1, 1, 1, 1, 1, 1, 1, 1, 1, 1, 1, 1, 1, 1, 1, 1]
  | .ret => [1, 1, 0, 1, 1, 1, 1, 1, 1, 1, 1, 1, 1, 1, 1, 1, 1, 1, 1, 1, 1, 1]
  | _ => []
noncomputable def laws_toInt64S_LO (v38 : List Int) : LOr := fun id e L =>
  match id with
  | 0 => .need (normA 0 laws_toInt64S_l0_kill e L = some (laws_toInt64S_l0_E v38 ((gI (vAt e 4)), (gRI L (vAt e 3))))) (.call (laws_toInt64S_l0_g v38 ((gI (vAt e 4)), (gRI L (vAt e 3)))) fun x => .leaf (laws_toInt64S_l0_X v38 x))
  | _ => .fail
noncomputable def laws_toInt64S_tab : List (FuncId × DFn × Bool) := []
theorem laws_toInt64S_hO : OrcOk Try.prog (tabD laws_toInt64S_tab) (tabM laws_toInt64S_tab) := tabD_nil _
theorem laws_toInt64S_l0_be (v38 : List Int) (s : Int × (List Int)) : bodyT TT (tabD laws_toInt64S_tab) (tabM laws_toInt64S_tab) (laws_toInt64S_LO v38) 0 laws_toInt64S_l0_kill laws_toInt64S_l0_nx (bodyOf Try.f42 0) 0 (laws_toInt64S_l0_E v38 s) = (laws_toInt64S_l0_T v38 s).bind fun y => .leaf (outS (laws_toInt64S_l0_E v38) (laws_toInt64S_l0_X v38) y) := by kernel_rfl
theorem laws_toInt64S_l0_ok (v38 : List Int) : LSound Try.prog 0 (laws_toInt64S_LO v38) 0 (bodyOf Try.f42 0) := by
  intro e L out h
  exact lo_ok (E := laws_toInt64S_l0_E v38) (gT := laws_toInt64S_l0_T v38) (X := laws_toInt64S_l0_X v38) (s0 := ((gI (vAt e 4)), (gRI L (vAt e 3)))) tok laws_toInt64S_hO mixed (LoopsOk_eq (l := []) (by kernel_rfl) trivial) (laws_toInt64S_l0_be v38) rfl (by intro x; rfl) h
noncomputable def laws_toInt64S_T (v38 : List Int) : Tree ((List Int)) :=
  (.need (((v38.length : Nat) : Int) = ((v38.length : Nat) : Int)) <|
  (.grd (inb ((v38.length : Nat) : Int) (maxN + 1)) <|
  (.need (some (laws_toInt64S_l0_E v38 ((0 : Int), List.replicate (Int.toNat ((v38.length : Nat) : Int)) (0 : Int))) = some (laws_toInt64S_l0_E v38 ((0 : Int), List.replicate (Int.toNat ((v38.length : Nat) : Int)) (0 : Int)))) <|
  (.call (laws_toInt64S_l0_g v38 ((0 : Int), List.replicate (Int.toNat ((v38.length : Nat) : Int)) (0 : Int))) fun v44 =>
  .leaf v44))))

noncomputable def laws_toInt64S_g (v38 : List Int) : Option ((List Int)) := (laws_toInt64S_T v38).run
def laws_toInt64S_enc (v38 : List Int) (y : (List Int)) : Rs := (.own 0 0 ((y).length), [.row (.i64 y) 0])
theorem laws_toInt64S_den (v38 : List Int) : (den TT (tabD laws_toInt64S_tab) (tabM laws_toInt64S_tab) (laws_toInt64S_LO v38) (codeOf Try.f42) ([.bslc (BR.root 0) (.i64 v38)] ++ List.replicate (Try.f42.ntmps - ([.bslc (BR.root 0) (.i64 v38)] : List DV).length) .undef) []).bind (retD TT Try.f42.results.toList 0) = (laws_toInt64S_T v38).bind fun y => .leaf (laws_toInt64S_enc v38 y) := by kernel_rfl
theorem laws_toInt64S_fn (v38 : List Int) (F : Fr) (hm : F.ids.length = 0) (h0 : St F [] F.H0) (hA : DVs.Ok F [] [.bslc (BR.root 0) (.i64 v38)]) {y : (List Int)} (hy : laws_toInt64S_g v38 = some y) : ∃ H', FnOk Try.prog 42 (DVs.av F [.bslc (BR.root 0) (.i64 v38)]) F.H0 ((laws_toInt64S_enc v38 y).1.av F) H' ∧ St F (laws_toInt64S_enc v38 y).2 H' ∧ (laws_toInt64S_enc v38 y).1.Ok F (laws_toInt64S_enc v38 y).2 :=
  fn_fin tok laws_toInt64S_hO mixed Try.func42 Try.call42 (by kernel_rfl) (LoopsOk_eq (l := [(0, bodyOf Try.f42 0)]) (by kernel_rfl) ⟨laws_toInt64S_l0_ok v38, trivial⟩) (laws_toInt64S_den v38) hy hm h0 hA
noncomputable def laws_toInt64S_F : DFn := fun args L =>
  match args with
  | [a1] =>
    optT (rowI64 L a1) fun v38 =>
    .call (laws_toInt64S_g v38) fun y => .leaf (.own (L.length + 0) 0 ((y).length), L ++ [.row (.i64 y) 0])
  | _ => .fail
theorem laws_toInt64S_Fok : COk Try.prog 42 laws_toInt64S_F true := by
  intro F L H args r L' hs ha hr
  unfold laws_toInt64S_F at hr
  split at hr
  · rename_i a1
    obtain ⟨v38, hv38, hr⟩ := optT_run hr
    simp only [Tree.run] at hr
    obtain ⟨y, hy, hr⟩ := Option.bind_eq_some_iff.1 hr
    simp only [Tree.run, Option.some.injEq, Prod.mk.injEq] at hr
    obtain ⟨rfl, rfl⟩ := hr
    exact call_ok1 hs (fun k => (([a1.av F] : List AV)[k]?).getD .top) [a1] [.bslc (BR.root 0) (.i64 v38)] (fun F' h0 hi hρ => ⟨by simp [DVs.av, DV.av, BR.av, hρ], laws_toInt64S_fn v38 F' (by rw [hi]; rfl) (st_nil hi) ⟨bslc_ok hi (by rw [h0, hρ]; exact rowI64_ok hs (DVs.okAt ha 0 rfl) hv38), trivial⟩ hy⟩) rfl rfl
  · cases hr
/-! laws.toFactor -/
noncomputable def laws_toFactor_LO (v33 : Int) (v34 : Int) (v35 : List Nat) (v36 : List Int) : LOr := fun id e L =>
  match id with
  | _ => .fail
noncomputable def laws_toFactor_tab : List (FuncId × DFn × Bool) := [(31, laws_toMatrix_F, true), (42, laws_toInt64S_F, true)]
theorem laws_toFactor_hO : OrcOk Try.prog (tabD laws_toFactor_tab) (tabM laws_toFactor_tab) := tabD_cons laws_toMatrix_Fok (tabD_cons laws_toInt64S_Fok (tabD_nil _))
noncomputable def laws_toFactor_T (v33 : Int) (v34 : Int) (v35 : List Nat) (v36 : List Int) : Tree (Int × Int × (List Nat) × (List Int)) :=
  (.call (laws_toMatrix_g v33 v34 v35) fun v37 =>
  (.call (laws_toInt64S_g v36) fun v45 =>
  .leaf (v37.1, v37.2.1, v37.2.2, v45)))

noncomputable def laws_toFactor_g (v33 : Int) (v34 : Int) (v35 : List Nat) (v36 : List Int) : Option (Int × Int × (List Nat) × (List Int)) := (laws_toFactor_T v33 v34 v35 v36).run
def laws_toFactor_enc (v33 : Int) (v34 : Int) (v35 : List Nat) (v36 : List Int) (y : Int × Int × (List Nat) × (List Int)) : Rs := (.agg [.int .i64 y.1, .int .i64 y.2.1, .own 0 0 ((y.2.2.1).length), .own 1 0 ((y.2.2.2).length)], [.row (.f32 y.2.2.1) 0, .row (.i64 y.2.2.2) 0])
theorem laws_toFactor_den (v33 : Int) (v34 : Int) (v35 : List Nat) (v36 : List Int) : (den TT (tabD laws_toFactor_tab) (tabM laws_toFactor_tab) (laws_toFactor_LO v33 v34 v35 v36) (codeOf Try.f48) ([.agg [.int .i64 v33, .int .i64 v34, .bslc (BR.root 0) (.f32 v35), .bslc (BR.root 1) (.i64 v36)]] ++ List.replicate (Try.f48.ntmps - ([.agg [.int .i64 v33, .int .i64 v34, .bslc (BR.root 0) (.f32 v35), .bslc (BR.root 1) (.i64 v36)]] : List DV).length) .undef) []).bind (retD TT Try.f48.results.toList 0) = (laws_toFactor_T v33 v34 v35 v36).bind fun y => .leaf (laws_toFactor_enc v33 v34 v35 v36 y) := by kernel_rfl
theorem laws_toFactor_fn (v33 : Int) (v34 : Int) (v35 : List Nat) (v36 : List Int) (F : Fr) (hm : F.ids.length = 0) (h0 : St F [] F.H0) (hA : DVs.Ok F [] [.agg [.int .i64 v33, .int .i64 v34, .bslc (BR.root 0) (.f32 v35), .bslc (BR.root 1) (.i64 v36)]]) {y : Int × Int × (List Nat) × (List Int)} (hy : laws_toFactor_g v33 v34 v35 v36 = some y) : ∃ H', FnOk Try.prog 48 (DVs.av F [.agg [.int .i64 v33, .int .i64 v34, .bslc (BR.root 0) (.f32 v35), .bslc (BR.root 1) (.i64 v36)]]) F.H0 ((laws_toFactor_enc v33 v34 v35 v36 y).1.av F) H' ∧ St F (laws_toFactor_enc v33 v34 v35 v36 y).2 H' ∧ (laws_toFactor_enc v33 v34 v35 v36 y).1.Ok F (laws_toFactor_enc v33 v34 v35 v36 y).2 :=
  fn_fin tok laws_toFactor_hO mixed Try.func48 Try.call48 (by kernel_rfl) (LoopsOk_eq (l := []) (by kernel_rfl) trivial) (laws_toFactor_den v33 v34 v35 v36) hy hm h0 hA
noncomputable def laws_toFactor_F : DFn := fun args L =>
  match args with
  | [.agg [.int .i64 v33, .int .i64 v34, a1, a2]] =>
    optT (rowF32 L a1) fun v35 =>
    optT (rowI64 L a2) fun v36 =>
    .call (laws_toFactor_g v33 v34 v35 v36) fun y => .leaf (.agg [.int .i64 y.1, .int .i64 y.2.1, .own (L.length + 0) 0 ((y.2.2.1).length), .own (L.length + 1) 0 ((y.2.2.2).length)], L ++ [.row (.f32 y.2.2.1) 0, .row (.i64 y.2.2.2) 0])
  | _ => .fail
theorem laws_toFactor_Fok : COk Try.prog 48 laws_toFactor_F true := by
  intro F L H args r L' hs ha hr
  unfold laws_toFactor_F at hr
  split at hr
  · rename_i v33 v34 a1 a2
    obtain ⟨v35, hv35, hr⟩ := optT_run hr
    obtain ⟨v36, hv36, hr⟩ := optT_run hr
    simp only [Tree.run] at hr
    obtain ⟨y, hy, hr⟩ := Option.bind_eq_some_iff.1 hr
    simp only [Tree.run, Option.some.injEq, Prod.mk.injEq] at hr
    obtain ⟨rfl, rfl⟩ := hr
    exact call_ok1 hs (fun k => (([a1.av F, a2.av F] : List AV)[k]?).getD .top) [.agg [.int .i64 v33, .int .i64 v34, a1, a2]] [.agg [.int .i64 v33, .int .i64 v34, .bslc (BR.root 0) (.f32 v35), .bslc (BR.root 1) (.i64 v36)]] (fun F' h0 hi hρ => ⟨by simp [DVs.av, DV.av, BR.av, hρ], laws_toFactor_fn v33 v34 v35 v36 F' (by rw [hi]; rfl) (st_nil hi) ⟨⟨trivial, trivial, bslc_ok hi (by rw [h0, hρ]; exact rowF32_ok hs (DVs.okAt (DVs.okAt ha 0 rfl) 2 rfl) hv35), bslc_ok hi (by rw [h0, hρ]; exact rowI64_ok hs (DVs.okAt (DVs.okAt ha 0 rfl) 3 rfl) hv36), trivial⟩, trivial⟩ hy⟩) rfl rfl
  · cases hr
/-! spec.l00In -/
noncomputable def spec_l00In_LO (v59 : Int) (v60 : Int) (v61 : Int) : LOr := fun id e L =>
  match id with
  | _ => .fail
noncomputable def spec_l00In_tab : List (FuncId × DFn × Bool) := []
theorem spec_l00In_hO : OrcOk Try.prog (tabD spec_l00In_tab) (tabM spec_l00In_tab) := tabD_nil _
noncomputable def spec_l00In_T (v59 : Int) (v60 : Int) (v61 : Int) : Tree (Bool) :=
  (.br (decide (v60 ≤ v59)) (
   .leaf (decide (v59 ≤ v61))
  ) (
   .leaf false
  ))

noncomputable def spec_l00In_g (v59 : Int) (v60 : Int) (v61 : Int) : Option (Bool) := (spec_l00In_T v59 v60 v61).run
def spec_l00In_enc (v59 : Int) (v60 : Int) (v61 : Int) (y : Bool) : Rs := (.bool y, [])
theorem spec_l00In_den (v59 : Int) (v60 : Int) (v61 : Int) : (den TT (tabD spec_l00In_tab) (tabM spec_l00In_tab) (spec_l00In_LO v59 v60 v61) (codeOf Try.f71) ([.int .i64 v59, .int .i64 v60, .int .i64 v61] ++ List.replicate (Try.f71.ntmps - ([.int .i64 v59, .int .i64 v60, .int .i64 v61] : List DV).length) .undef) []).bind (retD TT Try.f71.results.toList 0) = (spec_l00In_T v59 v60 v61).bind fun y => .leaf (spec_l00In_enc v59 v60 v61 y) := by kernel_rfl
theorem spec_l00In_fn (v59 : Int) (v60 : Int) (v61 : Int) (F : Fr) (hm : F.ids.length = 0) (h0 : St F [] F.H0) (hA : DVs.Ok F [] [.int .i64 v59, .int .i64 v60, .int .i64 v61]) {y : Bool} (hy : spec_l00In_g v59 v60 v61 = some y) : ∃ H', FnOk Try.prog 71 (DVs.av F [.int .i64 v59, .int .i64 v60, .int .i64 v61]) F.H0 ((spec_l00In_enc v59 v60 v61 y).1.av F) H' ∧ St F (spec_l00In_enc v59 v60 v61 y).2 H' ∧ (spec_l00In_enc v59 v60 v61 y).1.Ok F (spec_l00In_enc v59 v60 v61 y).2 :=
  fn_fin tok spec_l00In_hO mixed Try.func71 Try.call71 (by kernel_rfl) (LoopsOk_eq (l := []) (by kernel_rfl) trivial) (spec_l00In_den v59 v60 v61) hy hm h0 hA
def spec_l00In_v (v59 : Int) (v60 : Int) (v61 : Int) : Bool :=
  if (decide (v60 ≤ v59)) = true then (
   decide (v59 ≤ v61)
  ) else (
   false
  )
theorem spec_l00In_tot (v59 : Int) (v60 : Int) (v61 : Int) : spec_l00In_g v59 v60 v61 = some (spec_l00In_v v59 v60 v61) := by
  unfold spec_l00In_g spec_l00In_T spec_l00In_v
  simp only [Tree.run]
  repeat' (first | rfl | split)
noncomputable def spec_l00In_F : DFn := fun args L =>
  match args with
  | [.int .i64 v59, .int .i64 v60, .int .i64 v61] =>
    .leaf (.bool (spec_l00In_v v59 v60 v61), L)
  | _ => .fail
theorem spec_l00In_Fok : COk Try.prog 71 spec_l00In_F true := by
  intro F L H args r L' hs ha hr
  unfold spec_l00In_F at hr
  split at hr
  · rename_i v59 v60 v61
    have hy := spec_l00In_tot v59 v60 v61
    generalize spec_l00In_v v59 v60 v61 = y at hy hr
    simp only [Tree.run, Option.some.injEq, Prod.mk.injEq] at hr
    obtain ⟨rfl, rfl⟩ := hr
    exact call_ok0 hs (fun k => (([] : List AV)[k]?).getD .top) [.int .i64 v59, .int .i64 v60, .int .i64 v61] [.int .i64 v59, .int .i64 v60, .int .i64 v61] (fun F' h0 hi hρ => ⟨by simp [DVs.av, DV.av, BR.av, hρ], spec_l00In_fn v59 v60 v61 F' (by rw [hi]; rfl) (st_nil hi) ⟨trivial, trivial, trivial, trivial⟩ hy⟩) rfl
  · cases hr
/-! spec.l02Sides -/
noncomputable def spec_l02Sides_LO (v57 : Int) (v58 : Int) : LOr := fun id e L =>
  match id with
  | _ => .fail
noncomputable def spec_l02Sides_tab : List (FuncId × DFn × Bool) := [(71, spec_l00In_F, true)]
theorem spec_l02Sides_hO : OrcOk Try.prog (tabD spec_l02Sides_tab) (tabM spec_l02Sides_tab) := tabD_cons spec_l00In_Fok (tabD_nil _)
noncomputable def spec_l02Sides_T (v57 : Int) (v58 : Int) : Tree (Bool) :=
  (.br (spec_l00In_v v57 (1 : Int) (12 : Int)) (
   .leaf (spec_l00In_v v58 (1 : Int) (12 : Int))
  ) (
   .leaf false
  ))

noncomputable def spec_l02Sides_g (v57 : Int) (v58 : Int) : Option (Bool) := (spec_l02Sides_T v57 v58).run
def spec_l02Sides_enc (v57 : Int) (v58 : Int) (y : Bool) : Rs := (.bool y, [])
theorem spec_l02Sides_den (v57 : Int) (v58 : Int) : (den TT (tabD spec_l02Sides_tab) (tabM spec_l02Sides_tab) (spec_l02Sides_LO v57 v58) (codeOf Try.f147) ([.int .i64 v57, .int .i64 v58] ++ List.replicate (Try.f147.ntmps - ([.int .i64 v57, .int .i64 v58] : List DV).length) .undef) []).bind (retD TT Try.f147.results.toList 0) = (spec_l02Sides_T v57 v58).bind fun y => .leaf (spec_l02Sides_enc v57 v58 y) := by kernel_rfl
theorem spec_l02Sides_fn (v57 : Int) (v58 : Int) (F : Fr) (hm : F.ids.length = 0) (h0 : St F [] F.H0) (hA : DVs.Ok F [] [.int .i64 v57, .int .i64 v58]) {y : Bool} (hy : spec_l02Sides_g v57 v58 = some y) : ∃ H', FnOk Try.prog 147 (DVs.av F [.int .i64 v57, .int .i64 v58]) F.H0 ((spec_l02Sides_enc v57 v58 y).1.av F) H' ∧ St F (spec_l02Sides_enc v57 v58 y).2 H' ∧ (spec_l02Sides_enc v57 v58 y).1.Ok F (spec_l02Sides_enc v57 v58 y).2 :=
  fn_fin tok spec_l02Sides_hO mixed Try.func147 Try.call147 (by kernel_rfl) (LoopsOk_eq (l := []) (by kernel_rfl) trivial) (spec_l02Sides_den v57 v58) hy hm h0 hA
def spec_l02Sides_v (v57 : Int) (v58 : Int) : Bool :=
  if (spec_l00In_v v57 (1 : Int) (12 : Int)) = true then (
   (spec_l00In_v v58 (1 : Int) (12 : Int))
  ) else (
   false
  )
theorem spec_l02Sides_tot (v57 : Int) (v58 : Int) : spec_l02Sides_g v57 v58 = some (spec_l02Sides_v v57 v58) := by
  unfold spec_l02Sides_g spec_l02Sides_T spec_l02Sides_v
  simp only [Tree.run]
  repeat' (first | rfl | split)
noncomputable def spec_l02Sides_F : DFn := fun args L =>
  match args with
  | [.int .i64 v57, .int .i64 v58] =>
    .leaf (.bool (spec_l02Sides_v v57 v58), L)
  | _ => .fail
theorem spec_l02Sides_Fok : COk Try.prog 147 spec_l02Sides_F true := by
  intro F L H args r L' hs ha hr
  unfold spec_l02Sides_F at hr
  split at hr
  · rename_i v57 v58
    have hy := spec_l02Sides_tot v57 v58
    generalize spec_l02Sides_v v57 v58 = y at hy hr
    simp only [Tree.run, Option.some.injEq, Prod.mk.injEq] at hr
    obtain ⟨rfl, rfl⟩ := hr
    exact call_ok0 hs (fun k => (([] : List AV)[k]?).getD .top) [.int .i64 v57, .int .i64 v58] [.int .i64 v57, .int .i64 v58] (fun F' h0 hi hρ => ⟨by simp [DVs.av, DV.av, BR.av, hρ], spec_l02Sides_fn v57 v58 F' (by rw [hi]; rfl) (st_nil hi) ⟨trivial, trivial, trivial⟩ hy⟩) rfl
  · cases hr
/-! spec.l01Finite -/
noncomputable def spec_l01Finite_LO (v64 : Nat) : LOr := fun id e L =>
  match id with
  | _ => .fail
noncomputable def spec_l01Finite_tab : List (FuncId × DFn × Bool) := []
theorem spec_l01Finite_hO : OrcOk Try.prog (tabD spec_l01Finite_tab) (tabM spec_l01Finite_tab) := tabD_nil _
noncomputable def spec_l01Finite_T (v64 : Nat) : Tree (Bool) :=
  .leaf (feq .f32 (fsub .f32 v64 v64) (0 : Nat))

noncomputable def spec_l01Finite_g (v64 : Nat) : Option (Bool) := (spec_l01Finite_T v64).run
def spec_l01Finite_enc (v64 : Nat) (y : Bool) : Rs := (.bool y, [])
theorem spec_l01Finite_den (v64 : Nat) : (den TT (tabD spec_l01Finite_tab) (tabM spec_l01Finite_tab) (spec_l01Finite_LO v64) (codeOf Try.f100) ([.flt .f32 v64] ++ List.replicate (Try.f100.ntmps - ([.flt .f32 v64] : List DV).length) .undef) []).bind (retD TT Try.f100.results.toList 0) = (spec_l01Finite_T v64).bind fun y => .leaf (spec_l01Finite_enc v64 y) := by kernel_rfl
theorem spec_l01Finite_fn (v64 : Nat) (F : Fr) (hm : F.ids.length = 0) (h0 : St F [] F.H0) (hA : DVs.Ok F [] [.flt .f32 v64]) {y : Bool} (hy : spec_l01Finite_g v64 = some y) : ∃ H', FnOk Try.prog 100 (DVs.av F [.flt .f32 v64]) F.H0 ((spec_l01Finite_enc v64 y).1.av F) H' ∧ St F (spec_l01Finite_enc v64 y).2 H' ∧ (spec_l01Finite_enc v64 y).1.Ok F (spec_l01Finite_enc v64 y).2 :=
  fn_fin tok spec_l01Finite_hO mixed Try.func100 Try.call100 (by kernel_rfl) (LoopsOk_eq (l := []) (by kernel_rfl) trivial) (spec_l01Finite_den v64) hy hm h0 hA
def spec_l01Finite_v (v64 : Nat) : Bool :=
  feq .f32 (fsub .f32 v64 v64) (0 : Nat)
theorem spec_l01Finite_tot (v64 : Nat) : spec_l01Finite_g v64 = some (spec_l01Finite_v v64) := by
  unfold spec_l01Finite_g spec_l01Finite_T spec_l01Finite_v
  simp only [Tree.run]
  repeat' (first | rfl | split)
noncomputable def spec_l01Finite_F : DFn := fun args L =>
  match args with
  | [.flt .f32 v64] =>
    .leaf (.bool (spec_l01Finite_v v64), L)
  | _ => .fail
theorem spec_l01Finite_Fok : COk Try.prog 100 spec_l01Finite_F true := by
  intro F L H args r L' hs ha hr
  unfold spec_l01Finite_F at hr
  split at hr
  · rename_i v64
    have hy := spec_l01Finite_tot v64
    generalize spec_l01Finite_v v64 = y at hy hr
    simp only [Tree.run, Option.some.injEq, Prod.mk.injEq] at hr
    obtain ⟨rfl, rfl⟩ := hr
    exact call_ok0 hs (fun k => (([] : List AV)[k]?).getD .top) [.flt .f32 v64] [.flt .f32 v64] (fun F' h0 hi hρ => ⟨by simp [DVs.av, DV.av, BR.av, hρ], spec_l01Finite_fn v64 F' (by rw [hi]; rfl) (st_nil hi) ⟨trivial, trivial⟩ hy⟩) rfl
  · cases hr
/-! spec.l02Finite -/
noncomputable def spec_l02Finite_l0_T (v62 : List Nat) (s : Int) : Tree ((Int) ⊕ ((Unit) ⊕ (Unit))) :=
  (.br (decide (s < ((v62.length : Nat) : Int))) (
   (.grd (inb s v62.length) <|
   (.br (!(spec_l01Finite_v (nth v62 (Int.toNat s)))) (
    .leaf (.inr (.inl ()))
   ) (
    .leaf (.inl (IntKind.i64.wrap (s + (1 : Int))))
   )))
  ) (
   .leaf (.inr (.inr ()))
  ))

noncomputable def spec_l02Finite_l0_g (v62 : List Nat) (s0 : Int) : Option ((Unit) ⊕ (Unit)) := whileM (fun s => (spec_l02Finite_l0_T v62 s).run) s0
def spec_l02Finite_l0_E (v62 : List Nat) (s : Int) : Sd := ([.bslc (BR.root 0) (.f32 v62), .top, .top, .int .i64 s, .top, .top, .top, .top, .top, .top, .top, .top, .top, .top, .top, .top], [])
def spec_l02Finite_l0_X (v62 : List Nat) (x : (Unit) ⊕ (Unit)) : Out := (match x with | .inl x => (.ret, [.top, .top, .lit false, .top, .top, .top, .top, .top, .top, .top, .top, .top, .top, .top, .top, .top], []) | .inr x => (.normal, [.top, .top, .top, .top, .top, .top, .top, .top, .top, .top, .top, .top, .top, .top, .top, .top], []))
def spec_l02Finite_l0_kill : List Nat := [0, 1, 1, 0, 1, 1, 1, 1, 1, 1, 1, 1, 1, 1, 1, 1]
def spec_l02Finite_l0_nx : Exit → List Nat
  | .exit 0 => [1, 1, 1, 1, 1, 1, 1, 1, 1, 1, 1, 1, 1, 1, 1, 1]
  | .ret => [1, 1, 0, 1, 1, 1, 1, 1, 1, 1, 1, 1, 1, 1, 1, 1]
  | _ => []
noncomputable def spec_l02Finite_LO (v62 : List Nat) : LOr := fun id e L =>
  match id with
  | 0 => .need (normA 0 spec_l02Finite_l0_kill e L = some (spec_l02Finite_l0_E v62 (gI (vAt e 3)))) (.call (spec_l02Finite_l0_g v62 (gI (vAt e 3))) fun x => .sum x (fun b0 => .leaf (spec_l02Finite_l0_X v62 (.inl b0))) (fun c0 => .leaf (spec_l02Finite_l0_X v62 (.inr c0))))
  | _ => .fail
noncomputable def spec_l02Finite_tab : List (FuncId × DFn × Bool) := [(100, spec_l01Finite_F, true)]
theorem spec_l02Finite_hO : OrcOk Try.prog (tabD spec_l02Finite_tab) (tabM spec_l02Finite_tab) := tabD_cons spec_l01Finite_Fok (tabD_nil _)
theorem spec_l02Finite_l0_be (v62 : List Nat) (s : Int) : bodyT TT (tabD spec_l02Finite_tab) (tabM spec_l02Finite_tab) (spec_l02Finite_LO v62) 0 spec_l02Finite_l0_kill spec_l02Finite_l0_nx (bodyOf Try.f131 0) 0 (spec_l02Finite_l0_E v62 s) = (spec_l02Finite_l0_T v62 s).bind fun y => .leaf (outS (spec_l02Finite_l0_E v62) (spec_l02Finite_l0_X v62) y) := by kernel_rfl
theorem spec_l02Finite_l0_ok (v62 : List Nat) : LSound Try.prog 0 (spec_l02Finite_LO v62) 0 (bodyOf Try.f131 0) := by
  intro e L out h
  exact lo_ok (E := spec_l02Finite_l0_E v62) (gT := spec_l02Finite_l0_T v62) (X := spec_l02Finite_l0_X v62) (s0 := (gI (vAt e 3))) tok spec_l02Finite_hO mixed (LoopsOk_eq (l := []) (by kernel_rfl) trivial) (spec_l02Finite_l0_be v62) rfl (by intro x; (cases x with | inl b => rfl | inr x => exact rfl)) h
noncomputable def spec_l02Finite_T (v62 : List Nat) : Tree (Bool) :=
  (.need (some (spec_l02Finite_l0_E v62 (0 : Int)) = some (spec_l02Finite_l0_E v62 (0 : Int))) <|
  (.call (spec_l02Finite_l0_g v62 (0 : Int)) fun v67 =>
  (.sum v67 (fun v68 =>
   .leaf false
  ) (fun v69 =>
   .leaf true
  ))))

noncomputable def spec_l02Finite_g (v62 : List Nat) : Option (Bool) := (spec_l02Finite_T v62).run
def spec_l02Finite_enc (v62 : List Nat) (y : Bool) : Rs := (.bool y, [])
theorem spec_l02Finite_den (v62 : List Nat) : (den TT (tabD spec_l02Finite_tab) (tabM spec_l02Finite_tab) (spec_l02Finite_LO v62) (codeOf Try.f131) ([.bslc (BR.root 0) (.f32 v62)] ++ List.replicate (Try.f131.ntmps - ([.bslc (BR.root 0) (.f32 v62)] : List DV).length) .undef) []).bind (retD TT Try.f131.results.toList 0) = (spec_l02Finite_T v62).bind fun y => .leaf (spec_l02Finite_enc v62 y) := by kernel_rfl
theorem spec_l02Finite_fn (v62 : List Nat) (F : Fr) (hm : F.ids.length = 0) (h0 : St F [] F.H0) (hA : DVs.Ok F [] [.bslc (BR.root 0) (.f32 v62)]) {y : Bool} (hy : spec_l02Finite_g v62 = some y) : ∃ H', FnOk Try.prog 131 (DVs.av F [.bslc (BR.root 0) (.f32 v62)]) F.H0 ((spec_l02Finite_enc v62 y).1.av F) H' ∧ St F (spec_l02Finite_enc v62 y).2 H' ∧ (spec_l02Finite_enc v62 y).1.Ok F (spec_l02Finite_enc v62 y).2 :=
  fn_fin tok spec_l02Finite_hO mixed Try.func131 Try.call131 (by kernel_rfl) (LoopsOk_eq (l := [(0, bodyOf Try.f131 0)]) (by kernel_rfl) ⟨spec_l02Finite_l0_ok v62, trivial⟩) (spec_l02Finite_den v62) hy hm h0 hA
noncomputable def spec_l02Finite_F : DFn := fun args L =>
  match args with
  | [a1] =>
    optT (rowF32 L a1) fun v62 =>
    .call (spec_l02Finite_g v62) fun y => .leaf (.bool y, L)
  | _ => .fail
theorem spec_l02Finite_Fok : COk Try.prog 131 spec_l02Finite_F true := by
  intro F L H args r L' hs ha hr
  unfold spec_l02Finite_F at hr
  split at hr
  · rename_i a1
    obtain ⟨v62, hv62, hr⟩ := optT_run hr
    simp only [Tree.run] at hr
    obtain ⟨y, hy, hr⟩ := Option.bind_eq_some_iff.1 hr
    simp only [Tree.run, Option.some.injEq, Prod.mk.injEq] at hr
    obtain ⟨rfl, rfl⟩ := hr
    exact call_ok0 hs (fun k => (([a1.av F] : List AV)[k]?).getD .top) [a1] [.bslc (BR.root 0) (.f32 v62)] (fun F' h0 hi hρ => ⟨by simp [DVs.av, DV.av, BR.av, hρ], spec_l02Finite_fn v62 F' (by rw [hi]; rfl) (st_nil hi) ⟨bslc_ok hi (by rw [h0, hρ]; exact rowF32_ok hs (DVs.okAt ha 0 rfl) hv62), trivial⟩ hy⟩) rfl
  · cases hr
/-! spec.l02Is -/
noncomputable def spec_l02Is_LO (v54 : Int) (v55 : Int) (v56 : List Nat) : LOr := fun id e L =>
  match id with
  | _ => .fail
noncomputable def spec_l02Is_tab : List (FuncId × DFn × Bool) := [(147, spec_l02Sides_F, true), (131, spec_l02Finite_F, true)]
theorem spec_l02Is_hO : OrcOk Try.prog (tabD spec_l02Is_tab) (tabM spec_l02Is_tab) := tabD_cons spec_l02Sides_Fok (tabD_cons spec_l02Finite_Fok (tabD_nil _))
noncomputable def spec_l02Is_T (v54 : Int) (v55 : Int) (v56 : List Nat) : Tree (Bool) :=
  (.br (spec_l02Sides_v v54 v55) (
   (.br (decide (((v56.length : Nat) : Int) = IntKind.i64.wrap (v54 * v55))) (
    (.call (spec_l02Finite_g v56) fun v70 =>
    .leaf v70)
   ) (
    .leaf false
   ))
  ) (
   .leaf false
  ))

noncomputable def spec_l02Is_g (v54 : Int) (v55 : Int) (v56 : List Nat) : Option (Bool) := (spec_l02Is_T v54 v55 v56).run
def spec_l02Is_enc (v54 : Int) (v55 : Int) (v56 : List Nat) (y : Bool) : Rs := (.bool y, [])
theorem spec_l02Is_den (v54 : Int) (v55 : Int) (v56 : List Nat) : (den TT (tabD spec_l02Is_tab) (tabM spec_l02Is_tab) (spec_l02Is_LO v54 v55 v56) (codeOf Try.f99) ([.bptr (BR.root 0) [.int .i64 v54, .int .i64 v55, .bslc (BR.root 1) (.f32 v56)]] ++ List.replicate (Try.f99.ntmps - ([.bptr (BR.root 0) [.int .i64 v54, .int .i64 v55, .bslc (BR.root 1) (.f32 v56)]] : List DV).length) .undef) []).bind (retD TT Try.f99.results.toList 0) = (spec_l02Is_T v54 v55 v56).bind fun y => .leaf (spec_l02Is_enc v54 v55 v56 y) := by kernel_rfl
theorem spec_l02Is_fn (v54 : Int) (v55 : Int) (v56 : List Nat) (F : Fr) (hm : F.ids.length = 0) (h0 : St F [] F.H0) (hA : DVs.Ok F [] [.bptr (BR.root 0) [.int .i64 v54, .int .i64 v55, .bslc (BR.root 1) (.f32 v56)]]) {y : Bool} (hy : spec_l02Is_g v54 v55 v56 = some y) : ∃ H', FnOk Try.prog 99 (DVs.av F [.bptr (BR.root 0) [.int .i64 v54, .int .i64 v55, .bslc (BR.root 1) (.f32 v56)]]) F.H0 ((spec_l02Is_enc v54 v55 v56 y).1.av F) H' ∧ St F (spec_l02Is_enc v54 v55 v56 y).2 H' ∧ (spec_l02Is_enc v54 v55 v56 y).1.Ok F (spec_l02Is_enc v54 v55 v56 y).2 :=
  fn_fin tok spec_l02Is_hO mixed Try.func99 Try.call99 (by kernel_rfl) (LoopsOk_eq (l := []) (by kernel_rfl) trivial) (spec_l02Is_den v54 v55 v56) hy hm h0 hA
noncomputable def spec_l02Is_F : DFn := fun args L =>
  match args with
  | [a1] =>
    optT (cellsOf L 3 a1) fun cs0 =>
    (match cs0 with
    | [.int .i64 v54, .int .i64 v55, a2] =>
    optT (rowF32 L a2) fun v56 =>
    .call (spec_l02Is_g v54 v55 v56) fun y => .leaf (.bool y, L)
    | _ => .fail)
  | _ => .fail
theorem spec_l02Is_Fok : COk Try.prog 99 spec_l02Is_F true := by
  intro F L H args r L' hs ha hr
  unfold spec_l02Is_F at hr
  split at hr
  · rename_i a1
    obtain ⟨cs0, hcp0, hr⟩ := optT_run hr
    split at hr
    · rename_i v54 v55 a2
      obtain ⟨v56, hv56, hr⟩ := optT_run hr
      simp only [Tree.run] at hr
      obtain ⟨y, hy, hr⟩ := Option.bind_eq_some_iff.1 hr
      simp only [Tree.run, Option.some.injEq, Prod.mk.injEq] at hr
      obtain ⟨rfl, rfl⟩ := hr
      exact call_ok0 hs (fun k => (([a1.av F, a2.av F] : List AV)[k]?).getD .top) [a1] [.bptr (BR.root 0) [.int .i64 v54, .int .i64 v55, .bslc (BR.root 1) (.f32 v56)]] (fun F' h0 hi hρ => ⟨by simp [DVs.av, DV.av, BR.av, hρ], spec_l02Is_fn v54 v55 v56 F' (by rw [hi]; rfl) (st_nil hi) ⟨bptr_ok hi (by rw [h0]; simpa [DVs.av, DV.av, BR.av, hρ] using (cellsOf_ok hs (DVs.okAt ha 0 rfl) hcp0).1) ⟨trivial, trivial, bslc_ok hi (by rw [h0, hρ]; exact rowF32_ok hs (DVs.okAt (cellsOf_ok hs (DVs.okAt ha 0 rfl) hcp0).2 2 rfl) hv56), trivial⟩, trivial⟩ hy⟩) rfl
    · cases hr
  · cases hr
/-! spec.l02Square -/
noncomputable def spec_l02Square_LO (v76 : Int) (v77 : Int) (v78 : List Nat) : LOr := fun id e L =>
  match id with
  | _ => .fail
noncomputable def spec_l02Square_tab : List (FuncId × DFn × Bool) := [(99, spec_l02Is_F, true)]
theorem spec_l02Square_hO : OrcOk Try.prog (tabD spec_l02Square_tab) (tabM spec_l02Square_tab) := tabD_cons spec_l02Is_Fok (tabD_nil _)
noncomputable def spec_l02Square_T (v76 : Int) (v77 : Int) (v78 : List Nat) : Tree (Bool) :=
  (.call (spec_l02Is_g v76 v77 v78) fun v79 =>
  (.br v79 (
   .leaf (decide (v76 = v77))
  ) (
   .leaf false
  )))

noncomputable def spec_l02Square_g (v76 : Int) (v77 : Int) (v78 : List Nat) : Option (Bool) := (spec_l02Square_T v76 v77 v78).run
def spec_l02Square_enc (v76 : Int) (v77 : Int) (v78 : List Nat) (y : Bool) : Rs := (.bool y, [])
theorem spec_l02Square_den (v76 : Int) (v77 : Int) (v78 : List Nat) : (den TT (tabD spec_l02Square_tab) (tabM spec_l02Square_tab) (spec_l02Square_LO v76 v77 v78) (codeOf Try.f82) ([.bptr (BR.root 0) [.int .i64 v76, .int .i64 v77, .bslc (BR.root 1) (.f32 v78)]] ++ List.replicate (Try.f82.ntmps - ([.bptr (BR.root 0) [.int .i64 v76, .int .i64 v77, .bslc (BR.root 1) (.f32 v78)]] : List DV).length) .undef) []).bind (retD TT Try.f82.results.toList 0) = (spec_l02Square_T v76 v77 v78).bind fun y => .leaf (spec_l02Square_enc v76 v77 v78 y) := by kernel_rfl
theorem spec_l02Square_fn (v76 : Int) (v77 : Int) (v78 : List Nat) (F : Fr) (hm : F.ids.length = 0) (h0 : St F [] F.H0) (hA : DVs.Ok F [] [.bptr (BR.root 0) [.int .i64 v76, .int .i64 v77, .bslc (BR.root 1) (.f32 v78)]]) {y : Bool} (hy : spec_l02Square_g v76 v77 v78 = some y) : ∃ H', FnOk Try.prog 82 (DVs.av F [.bptr (BR.root 0) [.int .i64 v76, .int .i64 v77, .bslc (BR.root 1) (.f32 v78)]]) F.H0 ((spec_l02Square_enc v76 v77 v78 y).1.av F) H' ∧ St F (spec_l02Square_enc v76 v77 v78 y).2 H' ∧ (spec_l02Square_enc v76 v77 v78 y).1.Ok F (spec_l02Square_enc v76 v77 v78 y).2 :=
  fn_fin tok spec_l02Square_hO mixed Try.func82 Try.call82 (by kernel_rfl) (LoopsOk_eq (l := []) (by kernel_rfl) trivial) (spec_l02Square_den v76 v77 v78) hy hm h0 hA
noncomputable def spec_l02Square_F : DFn := fun args L =>
  match args with
  | [a1] =>
    optT (cellsOf L 3 a1) fun cs0 =>
    (match cs0 with
    | [.int .i64 v76, .int .i64 v77, a2] =>
    optT (rowF32 L a2) fun v78 =>
    .call (spec_l02Square_g v76 v77 v78) fun y => .leaf (.bool y, L)
    | _ => .fail)
  | _ => .fail
theorem spec_l02Square_Fok : COk Try.prog 82 spec_l02Square_F true := by
  intro F L H args r L' hs ha hr
  unfold spec_l02Square_F at hr
  split at hr
  · rename_i a1
    obtain ⟨cs0, hcp0, hr⟩ := optT_run hr
    split at hr
    · rename_i v76 v77 a2
      obtain ⟨v78, hv78, hr⟩ := optT_run hr
      simp only [Tree.run] at hr
      obtain ⟨y, hy, hr⟩ := Option.bind_eq_some_iff.1 hr
      simp only [Tree.run, Option.some.injEq, Prod.mk.injEq] at hr
      obtain ⟨rfl, rfl⟩ := hr
      exact call_ok0 hs (fun k => (([a1.av F, a2.av F] : List AV)[k]?).getD .top) [a1] [.bptr (BR.root 0) [.int .i64 v76, .int .i64 v77, .bslc (BR.root 1) (.f32 v78)]] (fun F' h0 hi hρ => ⟨by simp [DVs.av, DV.av, BR.av, hρ], spec_l02Square_fn v76 v77 v78 F' (by rw [hi]; rfl) (st_nil hi) ⟨bptr_ok hi (by rw [h0]; simpa [DVs.av, DV.av, BR.av, hρ] using (cellsOf_ok hs (DVs.okAt ha 0 rfl) hcp0).1) ⟨trivial, trivial, bslc_ok hi (by rw [h0, hρ]; exact rowF32_ok hs (DVs.okAt (cellsOf_ok hs (DVs.okAt ha 0 rfl) hcp0).2 2 rfl) hv78), trivial⟩, trivial⟩ hy⟩) rfl
    · cases hr
  · cases hr
/-! spec.l02Order -/
noncomputable def spec_l02Order_l0_T (v81 : List Int) (s : Int × (List Bool)) : Tree ((Int × (List Bool)) ⊕ ((Unit) ⊕ (Unit))) :=
  (.br (decide (s.1 < ((v81.length : Nat) : Int))) (
   (.grd (inb s.1 v81.length) <|
   (.br (!(spec_l00In_v (nth v81 (Int.toNat s.1)) (0 : Int) (IntKind.i64.wrap (((v81.length : Nat) : Int) - (1 : Int))))) (
    .leaf (.inr (.inl ()))
   ) (
    (.grd (inb s.1 v81.length) <|
    (.grd (inb (nth v81 (Int.toNat s.1)) ((s.2).length)) <|
    (.br (nth s.2 (Int.toNat (nth v81 (Int.toNat s.1)))) (
     .leaf (.inr (.inl ()))
    ) (
     (.grd (inb s.1 v81.length) <|
     (.grd (inb (nth v81 (Int.toNat s.1)) ((s.2).length)) <|
     .leaf (.inl (IntKind.i64.wrap (s.1 + (1 : Int)), List.set s.2 (Int.toNat (nth v81 (Int.toNat s.1))) true))))
    ))))
   )))
  ) (
   .leaf (.inr (.inr ()))
  ))

noncomputable def spec_l02Order_l0_g (v81 : List Int) (s0 : Int × (List Bool)) : Option ((Unit) ⊕ (Unit)) := whileM (fun s => (spec_l02Order_l0_T v81 s).run) s0
def spec_l02Order_l0_E (v81 : List Int) (s : Int × (List Bool)) : Sd := ([.bslc (BR.root 0) (.i64 v81), .top, .top, .own 0 0 ((s.2).length), .int .i64 s.1, .top, .top, .top, .top, .top, .top, .top, .top, .top, .top, .top, .top, .top, .top, .top, .top, .top, .top, .top, .top, .top, .top, .top, .top, .top, .top, .top, .top, .top, .top, .top, .top, .top, .top, .top, .top, .top, .top, .top, .top, .top], [.row (.bool s.2) 0])
def spec_l02Order_l0_X (v81 : List Int) (x : (Unit) ⊕ (Unit)) : Out := (match x with | .inl x => (.ret, [.top, .top, .lit false, .top, .top, .top, .top, .top, .top, .top, .top, .top, .top, .top, .top, .top, .top, .top, .top, .top, .top, .top, .top, .top, .top, .top, .top, .top, .top, .top, .top, .top, .top, .top, .top, .top, .top, .top, .top, .top, .top, .top, .top, .top, .top, .top], []) | .inr x => (.normal, [.top, .top, .top, .top, .top, .top, .top, .top, .top, .top, .top, .top, .top, .top, .top, .top, .top, .top, .top, .top, .top, .top, .top, .top, .top, .top, .top, .top, .top, .top, .top, .top, .top, .top, .top, .top, .top, .top, .top, .top, .top, .top, .top, .top, .top, .top], []))
def spec_l02Order_l0_kill : List Nat := [0, 1, 1, 0, 0, 1, 1, 1, 1, 1, 1, 1, 1, 1, 1, 1, 1, 1, 1, 1, 1, 1, 1, 1, 1, 1, 1, 1, 1, 1, 1, 1, 1, 1, 1, 1, 1, 1, 1, 1, 1, 1, 1, 1, 1, 1]
def spec_l02Order_l0_nx : Exit → List Nat
  | .exit 0 => [1, 1, 1, 1, 1, 1, 1, 1, 1, 1, 1, 1, 1, 1, 1, 1, 1, 1, 1, 1, 1, 1, 1, 1, 1, 1, 1, 1, 1, 1, 1, 1, 1, 1, 1, 1, 1, 1, 1, 1, 1, 1, 1, 1, 1, 1]
  | .ret => [1, 1, 0, 1, 1, 1, 1, 1, 1, 1, 1, 1, 1, 1, 1, 1, 1, 1, 1, 1, 1, 1, 1, 1, 1, 1, 1, 1, 1, 1, 1, 1, 1, 1, 1, 1, 1, 1, 1, 1, 1, 1, 1, 1, 1, 1]
  | _ => []
noncomputable def spec_l02Order_LO (v81 : List Int) : LOr := fun id e L =>
  match id with
  | 0 => .need (normA 0 spec_l02Order_l0_kill e L = some (spec_l02Order_l0_E v81 ((gI (vAt e 4)), (gRB L (vAt e 3))))) (.call (spec_l02Order_l0_g v81 ((gI (vAt e 4)), (gRB L (vAt e 3)))) fun x => .sum x (fun b0 => .leaf (spec_l02Order_l0_X v81 (.inl b0))) (fun c0 => .leaf (spec_l02Order_l0_X v81 (.inr c0))))
  | _ => .fail
noncomputable def spec_l02Order_tab : List (FuncId × DFn × Bool) := [(71, spec_l00In_F, true)]
theorem spec_l02Order_hO : OrcOk Try.prog (tabD spec_l02Order_tab) (tabM spec_l02Order_tab) := tabD_cons spec_l00In_Fok (tabD_nil _)
theorem spec_l02Order_l0_be (v81 : List Int) (s : Int × (List Bool)) : bodyT TT (tabD spec_l02Order_tab) (tabM spec_l02Order_tab) (spec_l02Order_LO v81) 0 spec_l02Order_l0_kill spec_l02Order_l0_nx (bodyOf Try.f106 0) 0 (spec_l02Order_l0_E v81 s) = (spec_l02Order_l0_T v81 s).bind fun y => .leaf (outS (spec_l02Order_l0_E v81) (spec_l02Order_l0_X v81) y) := by kernel_rfl
theorem spec_l02Order_l0_ok (v81 : List Int) : LSound Try.prog 0 (spec_l02Order_LO v81) 0 (bodyOf Try.f106 0) := by
  intro e L out h
  exact lo_ok (E := spec_l02Order_l0_E v81) (gT := spec_l02Order_l0_T v81) (X := spec_l02Order_l0_X v81) (s0 := ((gI (vAt e 4)), (gRB L (vAt e 3)))) tok spec_l02Order_hO mixed (LoopsOk_eq (l := []) (by kernel_rfl) trivial) (spec_l02Order_l0_be v81) rfl (by intro x; (cases x with | inl b => rfl | inr x => exact rfl)) h
noncomputable def spec_l02Order_T (v81 : List Int) : Tree (Bool) :=
  (.br (decide (((v81.length : Nat) : Int) < (1 : Int))) (
   .leaf false
  ) (
   (.br (decide ((12 : Int) < ((v81.length : Nat) : Int))) (
    .leaf false
   ) (
    (.need (((v81.length : Nat) : Int) = ((v81.length : Nat) : Int)) <|
    (.grd (inb ((v81.length : Nat) : Int) (maxN + 1)) <|
    (.need (some (spec_l02Order_l0_E v81 ((0 : Int), List.replicate (Int.toNat ((v81.length : Nat) : Int)) false)) = some (spec_l02Order_l0_E v81 ((0 : Int), List.replicate (Int.toNat ((v81.length : Nat) : Int)) false))) <|
    (.call (spec_l02Order_l0_g v81 ((0 : Int), List.replicate (Int.toNat ((v81.length : Nat) : Int)) false)) fun v87 =>
    (.sum v87 (fun v88 =>
     .leaf false
    ) (fun v89 =>
     .leaf true
    ))))))
   ))
  ))

noncomputable def spec_l02Order_g (v81 : List Int) : Option (Bool) := (spec_l02Order_T v81).run
def spec_l02Order_enc (v81 : List Int) (y : Bool) : Rs := (.bool y, [])
theorem spec_l02Order_den (v81 : List Int) : (den TT (tabD spec_l02Order_tab) (tabM spec_l02Order_tab) (spec_l02Order_LO v81) (codeOf Try.f106) ([.bslc (BR.root 0) (.i64 v81)] ++ List.replicate (Try.f106.ntmps - ([.bslc (BR.root 0) (.i64 v81)] : List DV).length) .undef) []).bind (retD TT Try.f106.results.toList 0) = (spec_l02Order_T v81).bind fun y => .leaf (spec_l02Order_enc v81 y) := by kernel_rfl
theorem spec_l02Order_fn (v81 : List Int) (F : Fr) (hm : F.ids.length = 0) (h0 : St F [] F.H0) (hA : DVs.Ok F [] [.bslc (BR.root 0) (.i64 v81)]) {y : Bool} (hy : spec_l02Order_g v81 = some y) : ∃ H', FnOk Try.prog 106 (DVs.av F [.bslc (BR.root 0) (.i64 v81)]) F.H0 ((spec_l02Order_enc v81 y).1.av F) H' ∧ St F (spec_l02Order_enc v81 y).2 H' ∧ (spec_l02Order_enc v81 y).1.Ok F (spec_l02Order_enc v81 y).2 :=
  fn_fin tok spec_l02Order_hO mixed Try.func106 Try.call106 (by kernel_rfl) (LoopsOk_eq (l := [(0, bodyOf Try.f106 0)]) (by kernel_rfl) ⟨spec_l02Order_l0_ok v81, trivial⟩) (spec_l02Order_den v81) hy hm h0 hA
noncomputable def spec_l02Order_F : DFn := fun args L =>
  match args with
  | [a1] =>
    optT (rowI64 L a1) fun v81 =>
    .call (spec_l02Order_g v81) fun y => .leaf (.bool y, L)
  | _ => .fail
theorem spec_l02Order_Fok : COk Try.prog 106 spec_l02Order_F true := by
  intro F L H args r L' hs ha hr
  unfold spec_l02Order_F at hr
  split at hr
  · rename_i a1
    obtain ⟨v81, hv81, hr⟩ := optT_run hr
    simp only [Tree.run] at hr
    obtain ⟨y, hy, hr⟩ := Option.bind_eq_some_iff.1 hr
    simp only [Tree.run, Option.some.injEq, Prod.mk.injEq] at hr
    obtain ⟨rfl, rfl⟩ := hr
    exact call_ok0 hs (fun k => (([a1.av F] : List AV)[k]?).getD .top) [a1] [.bslc (BR.root 0) (.i64 v81)] (fun F' h0 hi hρ => ⟨by simp [DVs.av, DV.av, BR.av, hρ], spec_l02Order_fn v81 F' (by rw [hi]; rfl) (st_nil hi) ⟨bslc_ok hi (by rw [h0, hρ]; exact rowI64_ok hs (DVs.okAt ha 0 rfl) hv81), trivial⟩ hy⟩) rfl
  · cases hr
/-! spec.l02At -/
noncomputable def spec_l02At_LO (v92 : Int) (v93 : Int) (v94 : List Nat) (v95 : Int) (v96 : Int) : LOr := fun id e L =>
  match id with
  | _ => .fail
noncomputable def spec_l02At_tab : List (FuncId × DFn × Bool) := []
theorem spec_l02At_hO : OrcOk Try.prog (tabD spec_l02At_tab) (tabM spec_l02At_tab) := tabD_nil _
noncomputable def spec_l02At_T (v93 : Int) (v94 : List Nat) (v95 : Int) (v96 : Int) : Tree (Nat) :=
  (.grd (inb (IntKind.i64.wrap ((IntKind.i64.wrap (v95 * v93)) + v96)) v94.length) <|
  .leaf (nth v94 (Int.toNat (IntKind.i64.wrap ((IntKind.i64.wrap (v95 * v93)) + v96)))))

noncomputable def spec_l02At_g (v93 : Int) (v94 : List Nat) (v95 : Int) (v96 : Int) : Option (Nat) := (spec_l02At_T v93 v94 v95 v96).run
def spec_l02At_enc (v92 : Int) (v93 : Int) (v94 : List Nat) (v95 : Int) (v96 : Int) (y : Nat) : Rs := (.flt .f32 y, [])
theorem spec_l02At_den (v92 : Int) (v93 : Int) (v94 : List Nat) (v95 : Int) (v96 : Int) : (den TT (tabD spec_l02At_tab) (tabM spec_l02At_tab) (spec_l02At_LO v92 v93 v94 v95 v96) (codeOf Try.f115) ([.bptr (BR.root 0) [.int .i64 v92, .int .i64 v93, .bslc (BR.root 1) (.f32 v94)], .int .i64 v95, .int .i64 v96] ++ List.replicate (Try.f115.ntmps - ([.bptr (BR.root 0) [.int .i64 v92, .int .i64 v93, .bslc (BR.root 1) (.f32 v94)], .int .i64 v95, .int .i64 v96] : List DV).length) .undef) []).bind (retD TT Try.f115.results.toList 0) = (spec_l02At_T v93 v94 v95 v96).bind fun y => .leaf (spec_l02At_enc v92 v93 v94 v95 v96 y) := by kernel_rfl
theorem spec_l02At_fn (v92 : Int) (v93 : Int) (v94 : List Nat) (v95 : Int) (v96 : Int) (F : Fr) (hm : F.ids.length = 0) (h0 : St F [] F.H0) (hA : DVs.Ok F [] [.bptr (BR.root 0) [.int .i64 v92, .int .i64 v93, .bslc (BR.root 1) (.f32 v94)], .int .i64 v95, .int .i64 v96]) {y : Nat} (hy : spec_l02At_g v93 v94 v95 v96 = some y) : ∃ H', FnOk Try.prog 115 (DVs.av F [.bptr (BR.root 0) [.int .i64 v92, .int .i64 v93, .bslc (BR.root 1) (.f32 v94)], .int .i64 v95, .int .i64 v96]) F.H0 ((spec_l02At_enc v92 v93 v94 v95 v96 y).1.av F) H' ∧ St F (spec_l02At_enc v92 v93 v94 v95 v96 y).2 H' ∧ (spec_l02At_enc v92 v93 v94 v95 v96 y).1.Ok F (spec_l02At_enc v92 v93 v94 v95 v96 y).2 :=
  fn_fin tok spec_l02At_hO mixed Try.func115 Try.call115 (by kernel_rfl) (LoopsOk_eq (l := []) (by kernel_rfl) trivial) (spec_l02At_den v92 v93 v94 v95 v96) hy hm h0 hA
noncomputable def spec_l02At_F : DFn := fun args L =>
  match args with
  | [a1, .int .i64 v95, .int .i64 v96] =>
    optT (cellsOf L 3 a1) fun cs0 =>
    (match cs0 with
    | [.int .i64 v92, .int .i64 v93, a2] =>
    optT (rowF32 L a2) fun v94 =>
    .call (spec_l02At_g v93 v94 v95 v96) fun y => .leaf (.flt .f32 y, L)
    | _ => .fail)
  | _ => .fail
theorem spec_l02At_Fok : COk Try.prog 115 spec_l02At_F true := by
  intro F L H args r L' hs ha hr
  unfold spec_l02At_F at hr
  split at hr
  · rename_i a1 v95 v96
    obtain ⟨cs0, hcp0, hr⟩ := optT_run hr
    split at hr
    · rename_i v92 v93 a2
      obtain ⟨v94, hv94, hr⟩ := optT_run hr
      simp only [Tree.run] at hr
      obtain ⟨y, hy, hr⟩ := Option.bind_eq_some_iff.1 hr
      simp only [Tree.run, Option.some.injEq, Prod.mk.injEq] at hr
      obtain ⟨rfl, rfl⟩ := hr
      exact call_ok0 hs (fun k => (([a1.av F, a2.av F] : List AV)[k]?).getD .top) [a1, .int .i64 v95, .int .i64 v96] [.bptr (BR.root 0) [.int .i64 v92, .int .i64 v93, .bslc (BR.root 1) (.f32 v94)], .int .i64 v95, .int .i64 v96] (fun F' h0 hi hρ => ⟨by simp [DVs.av, DV.av, BR.av, hρ], spec_l02At_fn v92 v93 v94 v95 v96 F' (by rw [hi]; rfl) (st_nil hi) ⟨bptr_ok hi (by rw [h0]; simpa [DVs.av, DV.av, BR.av, hρ] using (cellsOf_ok hs (DVs.okAt ha 0 rfl) hcp0).1) ⟨trivial, trivial, bslc_ok hi (by rw [h0, hρ]; exact rowF32_ok hs (DVs.okAt (cellsOf_ok hs (DVs.okAt ha 0 rfl) hcp0).2 2 rfl) hv94), trivial⟩, trivial, trivial, trivial⟩ hy⟩) rfl
    · cases hr
  · cases hr
/-! spec.l03Is -/
noncomputable def spec_l03Is_l0_T (v72 : Int) (v73 : Int) (v74 : List Nat) (s : Int) : Tree ((Int) ⊕ ((Unit) ⊕ (Unit))) :=
  (.br (decide (s < v72)) (
   (.call (spec_l02At_g v73 v74 s s) fun v101 =>
   (.br (feq .f32 v101 (0 : Nat)) (
    .leaf (.inr (.inl ()))
   ) (
    .leaf (.inl (IntKind.i64.wrap (s + (1 : Int))))
   )))
  ) (
   .leaf (.inr (.inr ()))
  ))

noncomputable def spec_l03Is_l0_g (v72 : Int) (v73 : Int) (v74 : List Nat) (s0 : Int) : Option ((Unit) ⊕ (Unit)) := whileM (fun s => (spec_l03Is_l0_T v72 v73 v74 s).run) s0
def spec_l03Is_l0_E (v72 : Int) (v73 : Int) (v74 : List Nat) (v75 : List Int) (s : Int) : Sd := ([.bptr (BR.root 0) [.int .i64 v72, .int .i64 v73, .bslc (BR.root 1) (.f32 v74), .bslc (BR.root 2) (.i64 v75)], .top, .top, .int .i64 s, .top, .top, .top, .top, .top, .top, .top, .top, .top, .top, .top, .top, .top, .top, .top, .top, .top, .top, .top, .top, .top, .top, .top, .top, .top, .top, .top, .top, .top, .top, .top, .top, .top, .top, .top, .top, .top, .top, .top, .top, .top, .top], [])
def spec_l03Is_l0_X (v72 : Int) (v73 : Int) (v74 : List Nat) (v75 : List Int) (x : (Unit) ⊕ (Unit)) : Out := (match x with | .inl x => (.ret, [.top, .top, .lit false, .top, .top, .top, .top, .top, .top, .top, .top, .top, .top, .top, .top, .top, .top, .top, .top, .top, .top, .top, .top, .top, .top, .top, .top, .top, .top, .top, .top, .top, .top, .top, .top, .top, .top, .top, .top, .top, .top, .top, .top, .top, .top, .top], []) | .inr x => (.normal, [.top, .top, .top, .top, .top, .top, .top, .top, .top, .top, .top, .top, .top, .top, .top, .top, .top, .top, .top, .top, .top, .top, .top, .top, .top, .top, .top, .top, .top, .top, .top, .top, .top, .top, .top, .top, .top, .top, .top, .top, .top, .top, .top, .top, .top, .top], []))
def spec_l03Is_l0_kill : List Nat := [0, 1, 1, 0, 1, 1, 1, 1, 1, 1, 1, 1, 1, 1, 1, 1, 1, 1, 1, 1, 1, 1, 1, 1, 1, 1, 1, 1, 1, 1, 1, 1, 1, 1, 1, 1, 1, 1, 1, 1, 1, 1, 1, 1, 1, 1]
def spec_l03Is_l0_nx : Exit → List Nat
  | .exit 0 => [1, 1, 1, 1, 1, 1, 1, 1, 1, 1, 1, 1, 1, 1, 1, 1, 1, 1, 1, 1, 1, 1, 1, 1, 1, 1, 1, 1, 1, 1, 1, 1, 1, 1, 1, 1, 1, 1, 1, 1, 1, 1, 1, 1, 1, 1]
  | .ret => [1, 1, 0, 1, 1, 1, 1, 1, 1, 1, 1, 1, 1, 1, 1, 1, 1, 1, 1, 1, 1, 1, 1, 1, 1, 1, 1, 1, 1, 1, 1, 1, 1, 1, 1, 1, 1, 1, 1, 1, 1, 1, 1, 1, 1, 1]
  | _ => []
noncomputable def spec_l03Is_LO (v72 : Int) (v73 : Int) (v74 : List Nat) (v75 : List Int) : LOr := fun id e L =>
  match id with
  | 0 => .need (normA 0 spec_l03Is_l0_kill e L = some (spec_l03Is_l0_E v72 v73 v74 v75 (gI (vAt e 3)))) (.call (spec_l03Is_l0_g v72 v73 v74 (gI (vAt e 3))) fun x => .sum x (fun b0 => .leaf (spec_l03Is_l0_X v72 v73 v74 v75 (.inl b0))) (fun c0 => .leaf (spec_l03Is_l0_X v72 v73 v74 v75 (.inr c0))))
  | _ => .fail
noncomputable def spec_l03Is_tab : List (FuncId × DFn × Bool) := [(82, spec_l02Square_F, true), (106, spec_l02Order_F, true), (115, spec_l02At_F, true)]
theorem spec_l03Is_hO : OrcOk Try.prog (tabD spec_l03Is_tab) (tabM spec_l03Is_tab) := tabD_cons spec_l02Square_Fok (tabD_cons spec_l02Order_Fok (tabD_cons spec_l02At_Fok (tabD_nil _)))
theorem spec_l03Is_l0_be (v72 : Int) (v73 : Int) (v74 : List Nat) (v75 : List Int) (s : Int) : bodyT TT (tabD spec_l03Is_tab) (tabM spec_l03Is_tab) (spec_l03Is_LO v72 v73 v74 v75) 0 spec_l03Is_l0_kill spec_l03Is_l0_nx (bodyOf Try.f111 0) 0 (spec_l03Is_l0_E v72 v73 v74 v75 s) = (spec_l03Is_l0_T v72 v73 v74 s).bind fun y => .leaf (outS (spec_l03Is_l0_E v72 v73 v74 v75) (spec_l03Is_l0_X v72 v73 v74 v75) y) := by kernel_rfl
theorem spec_l03Is_l0_ok (v72 : Int) (v73 : Int) (v74 : List Nat) (v75 : List Int) : LSound Try.prog 0 (spec_l03Is_LO v72 v73 v74 v75) 0 (bodyOf Try.f111 0) := by
  intro e L out h
  exact lo_ok (E := spec_l03Is_l0_E v72 v73 v74 v75) (gT := spec_l03Is_l0_T v72 v73 v74) (X := spec_l03Is_l0_X v72 v73 v74 v75) (s0 := (gI (vAt e 3))) tok spec_l03Is_hO mixed (LoopsOk_eq (l := []) (by kernel_rfl) trivial) (spec_l03Is_l0_be v72 v73 v74 v75) rfl (by intro x; (cases x with | inl b => rfl | inr x => exact rfl)) h
noncomputable def spec_l03Is_T (v72 : Int) (v73 : Int) (v74 : List Nat) (v75 : List Int) : Tree (Bool) :=
  (.call (spec_l02Square_g v72 v73 v74) fun v80 =>
  (.br (!v80) (
   .leaf false
  ) (
   (.call (spec_l02Order_g v75) fun v90 =>
   (.br (!v90) (
    .leaf false
   ) (
    (.br (!decide (((v75.length : Nat) : Int) = v72)) (
     .leaf false
    ) (
     (.need (some (spec_l03Is_l0_E v72 v73 v74 v75 (0 : Int)) = some (spec_l03Is_l0_E v72 v73 v74 v75 (0 : Int))) <|
     (.call (spec_l03Is_l0_g v72 v73 v74 (0 : Int)) fun v102 =>
     (.sum v102 (fun v103 =>
      .leaf false
     ) (fun v104 =>
      .leaf true
     ))))
    ))
   )))
  )))

noncomputable def spec_l03Is_g (v72 : Int) (v73 : Int) (v74 : List Nat) (v75 : List Int) : Option (Bool) := (spec_l03Is_T v72 v73 v74 v75).run
def spec_l03Is_enc (v72 : Int) (v73 : Int) (v74 : List Nat) (v75 : List Int) (y : Bool) : Rs := (.bool y, [])
theorem spec_l03Is_den (v72 : Int) (v73 : Int) (v74 : List Nat) (v75 : List Int) : (den TT (tabD spec_l03Is_tab) (tabM spec_l03Is_tab) (spec_l03Is_LO v72 v73 v74 v75) (codeOf Try.f111) ([.bptr (BR.root 0) [.int .i64 v72, .int .i64 v73, .bslc (BR.root 1) (.f32 v74), .bslc (BR.root 2) (.i64 v75)]] ++ List.replicate (Try.f111.ntmps - ([.bptr (BR.root 0) [.int .i64 v72, .int .i64 v73, .bslc (BR.root 1) (.f32 v74), .bslc (BR.root 2) (.i64 v75)]] : List DV).length) .undef) []).bind (retD TT Try.f111.results.toList 0) = (spec_l03Is_T v72 v73 v74 v75).bind fun y => .leaf (spec_l03Is_enc v72 v73 v74 v75 y) := by kernel_rfl
theorem spec_l03Is_fn (v72 : Int) (v73 : Int) (v74 : List Nat) (v75 : List Int) (F : Fr) (hm : F.ids.length = 0) (h0 : St F [] F.H0) (hA : DVs.Ok F [] [.bptr (BR.root 0) [.int .i64 v72, .int .i64 v73, .bslc (BR.root 1) (.f32 v74), .bslc (BR.root 2) (.i64 v75)]]) {y : Bool} (hy : spec_l03Is_g v72 v73 v74 v75 = some y) : ∃ H', FnOk Try.prog 111 (DVs.av F [.bptr (BR.root 0) [.int .i64 v72, .int .i64 v73, .bslc (BR.root 1) (.f32 v74), .bslc (BR.root 2) (.i64 v75)]]) F.H0 ((spec_l03Is_enc v72 v73 v74 v75 y).1.av F) H' ∧ St F (spec_l03Is_enc v72 v73 v74 v75 y).2 H' ∧ (spec_l03Is_enc v72 v73 v74 v75 y).1.Ok F (spec_l03Is_enc v72 v73 v74 v75 y).2 :=
  fn_fin tok spec_l03Is_hO mixed Try.func111 Try.call111 (by kernel_rfl) (LoopsOk_eq (l := [(0, bodyOf Try.f111 0)]) (by kernel_rfl) ⟨spec_l03Is_l0_ok v72 v73 v74 v75, trivial⟩) (spec_l03Is_den v72 v73 v74 v75) hy hm h0 hA
noncomputable def spec_l03Is_F : DFn := fun args L =>
  match args with
  | [a1] =>
    optT (cellsOf L 4 a1) fun cs0 =>
    (match cs0 with
    | [.int .i64 v72, .int .i64 v73, a2, a3] =>
    optT (rowF32 L a2) fun v74 =>
    optT (rowI64 L a3) fun v75 =>
    .call (spec_l03Is_g v72 v73 v74 v75) fun y => .leaf (.bool y, L)
    | _ => .fail)
  | _ => .fail
theorem spec_l03Is_Fok : COk Try.prog 111 spec_l03Is_F true := by
  intro F L H args r L' hs ha hr
  unfold spec_l03Is_F at hr
  split at hr
  · rename_i a1
    obtain ⟨cs0, hcp0, hr⟩ := optT_run hr
    split at hr
    · rename_i v72 v73 a2 a3
      obtain ⟨v74, hv74, hr⟩ := optT_run hr
      obtain ⟨v75, hv75, hr⟩ := optT_run hr
      simp only [Tree.run] at hr
      obtain ⟨y, hy, hr⟩ := Option.bind_eq_some_iff.1 hr
      simp only [Tree.run, Option.some.injEq, Prod.mk.injEq] at hr
      obtain ⟨rfl, rfl⟩ := hr
      exact call_ok0 hs (fun k => (([a1.av F, a2.av F, a3.av F] : List AV)[k]?).getD .top) [a1] [.bptr (BR.root 0) [.int .i64 v72, .int .i64 v73, .bslc (BR.root 1) (.f32 v74), .bslc (BR.root 2) (.i64 v75)]] (fun F' h0 hi hρ => ⟨by simp [DVs.av, DV.av, BR.av, hρ], spec_l03Is_fn v72 v73 v74 v75 F' (by rw [hi]; rfl) (st_nil hi) ⟨bptr_ok hi (by rw [h0]; simpa [DVs.av, DV.av, BR.av, hρ] using (cellsOf_ok hs (DVs.okAt ha 0 rfl) hcp0).1) ⟨trivial, trivial, bslc_ok hi (by rw [h0, hρ]; exact rowF32_ok hs (DVs.okAt (cellsOf_ok hs (DVs.okAt ha 0 rfl) hcp0).2 2 rfl) hv74), bslc_ok hi (by rw [h0, hρ]; exact rowI64_ok hs (DVs.okAt (cellsOf_ok hs (DVs.okAt ha 0 rfl) hcp0).2 3 rfl) hv75), trivial⟩, trivial⟩ hy⟩) rfl
    · cases hr
  · cases hr
/-! spec.l02Size -/
noncomputable def spec_l02Size_LO (v111 : Nat) : LOr := fun id e L =>
  match id with
  | _ => .fail
noncomputable def spec_l02Size_tab : List (FuncId × DFn × Bool) := []
theorem spec_l02Size_hO : OrcOk Try.prog (tabD spec_l02Size_tab) (tabM spec_l02Size_tab) := tabD_nil _
noncomputable def spec_l02Size_T (v111 : Nat) : Tree (Nat) :=
  (.br (fless .f32 v111 (0 : Nat) || feq .f32 v111 (0 : Nat)) (
   .leaf (fsub .f32 (0 : Nat) v111)
  ) (
   .leaf v111
  ))

noncomputable def spec_l02Size_g (v111 : Nat) : Option (Nat) := (spec_l02Size_T v111).run
def spec_l02Size_enc (v111 : Nat) (y : Nat) : Rs := (.flt .f32 y, [])
theorem spec_l02Size_den (v111 : Nat) : (den TT (tabD spec_l02Size_tab) (tabM spec_l02Size_tab) (spec_l02Size_LO v111) (codeOf Try.f157) ([.flt .f32 v111] ++ List.replicate (Try.f157.ntmps - ([.flt .f32 v111] : List DV).length) .undef) []).bind (retD TT Try.f157.results.toList 0) = (spec_l02Size_T v111).bind fun y => .leaf (spec_l02Size_enc v111 y) := by kernel_rfl
theorem spec_l02Size_fn (v111 : Nat) (F : Fr) (hm : F.ids.length = 0) (h0 : St F [] F.H0) (hA : DVs.Ok F [] [.flt .f32 v111]) {y : Nat} (hy : spec_l02Size_g v111 = some y) : ∃ H', FnOk Try.prog 157 (DVs.av F [.flt .f32 v111]) F.H0 ((spec_l02Size_enc v111 y).1.av F) H' ∧ St F (spec_l02Size_enc v111 y).2 H' ∧ (spec_l02Size_enc v111 y).1.Ok F (spec_l02Size_enc v111 y).2 :=
  fn_fin tok spec_l02Size_hO mixed Try.func157 Try.call157 (by kernel_rfl) (LoopsOk_eq (l := []) (by kernel_rfl) trivial) (spec_l02Size_den v111) hy hm h0 hA
def spec_l02Size_v (v111 : Nat) : Nat :=
  if (fless .f32 v111 (0 : Nat) || feq .f32 v111 (0 : Nat)) = true then (
   fsub .f32 (0 : Nat) v111
  ) else (
   v111
  )
theorem spec_l02Size_tot (v111 : Nat) : spec_l02Size_g v111 = some (spec_l02Size_v v111) := by
  unfold spec_l02Size_g spec_l02Size_T spec_l02Size_v
  simp only [Tree.run]
  repeat' (first | rfl | split)
noncomputable def spec_l02Size_F : DFn := fun args L =>
  match args with
  | [.flt .f32 v111] =>
    .leaf (.flt .f32 (spec_l02Size_v v111), L)
  | _ => .fail
theorem spec_l02Size_Fok : COk Try.prog 157 spec_l02Size_F true := by
  intro F L H args r L' hs ha hr
  unfold spec_l02Size_F at hr
  split at hr
  · rename_i v111
    have hy := spec_l02Size_tot v111
    generalize spec_l02Size_v v111 = y at hy hr
    simp only [Tree.run, Option.some.injEq, Prod.mk.injEq] at hr
    obtain ⟨rfl, rfl⟩ := hr
    exact call_ok0 hs (fun k => (([] : List AV)[k]?).getD .top) [.flt .f32 v111] [.flt .f32 v111] (fun F' h0 hi hρ => ⟨by simp [DVs.av, DV.av, BR.av, hρ], spec_l02Size_fn v111 F' (by rw [hi]; rfl) (st_nil hi) ⟨trivial, trivial⟩ hy⟩) rfl
  · cases hr
/-! spec.l03Most -/
noncomputable def spec_l03Most_l0_T (v108 : List Nat) (s : Nat × Int) : Tree ((Nat × Int) ⊕ (Nat)) :=
  (.br (decide (s.2 < ((v108.length : Nat) : Int))) (
   (.grd (inb s.2 v108.length) <|
   (.br (fgrt .f32 (spec_l02Size_v (nth v108 (Int.toNat s.2))) s.1) (
    .leaf (.inl ((spec_l02Size_v (nth v108 (Int.toNat s.2))), IntKind.i64.wrap (s.2 + (1 : Int))))
   ) (
    .leaf (.inl (s.1, IntKind.i64.wrap (s.2 + (1 : Int))))
   )))
  ) (
   .leaf (.inr s.1)
  ))

noncomputable def spec_l03Most_l0_g (v108 : List Nat) (s0 : Nat × Int) : Option (Nat) := whileM (fun s => (spec_l03Most_l0_T v108 s).run) s0
def spec_l03Most_l0_E (v106 : Int) (v107 : Int) (v108 : List Nat) (s : Nat × Int) : Sd := ([.bptr (BR.root 0) [.int .i64 v106, .int .i64 v107, .bslc (BR.root 1) (.f32 v108)], .top, .top, .flt .f32 s.1, .top, .top, .top, .top, .top, .top, .int .i64 ((v108.length : Nat) : Int), .int .i64 s.2, .top, .top, .top, .top, .top, .top, .top, .top, .top, .top, .top, .top, .top, .top, .top, .top], [])
def spec_l03Most_l0_X (v106 : Int) (v107 : Int) (v108 : List Nat) (x : Nat) : Out := (.normal, [.top, .top, .top, .flt .f32 x, .top, .top, .top, .top, .top, .top, .top, .top, .top, .top, .top, .top, .top, .top, .top, .top, .top, .top, .top, .top, .top, .top, .top, .top], [])
def spec_l03Most_l0_kill : List Nat := [0, 1, 1, 0, 1, 1, 1, 1, 1, 1, 0, 0, 1, 1, 1, 1, 1, 1, 1, 1, 1, 1, 1, 1, 1, 1, 1, 1]
def spec_l03Most_l0_nx : Exit → List Nat
  | .exit 0 => [1, 1, 1, 0, 1, 1, 1, 1, 1, 1, 1, 1, 1, 1, 1, 1, 1, 1, 1, 1, 1, 1, 1, 1, 1, 1, 1, 1]
  | .ret => [1, 1, 0, 1, 1, 1, 1, 1, 1, 1, 1, 1, 1, 1, 1, 1, 1, 1, 1, 1, 1, 1, 1, 1, 1, 1, 1, 1]
  | _ => []
noncomputable def spec_l03Most_LO (v106 : Int) (v107 : Int) (v108 : List Nat) : LOr := fun id e L =>
  match id with
  | 0 => .need (normA 0 spec_l03Most_l0_kill e L = some (spec_l03Most_l0_E v106 v107 v108 ((gF (vAt e 3)), (gI (vAt e 11))))) (.call (spec_l03Most_l0_g v108 ((gF (vAt e 3)), (gI (vAt e 11)))) fun x => .leaf (spec_l03Most_l0_X v106 v107 v108 x))
  | _ => .fail
noncomputable def spec_l03Most_tab : List (FuncId × DFn × Bool) := [(157, spec_l02Size_F, true)]
theorem spec_l03Most_hO : OrcOk Try.prog (tabD spec_l03Most_tab) (tabM spec_l03Most_tab) := tabD_cons spec_l02Size_Fok (tabD_nil _)
theorem spec_l03Most_l0_be (v106 : Int) (v107 : Int) (v108 : List Nat) (s : Nat × Int) : bodyT TT (tabD spec_l03Most_tab) (tabM spec_l03Most_tab) (spec_l03Most_LO v106 v107 v108) 0 spec_l03Most_l0_kill spec_l03Most_l0_nx (bodyOf Try.f121 0) 0 (spec_l03Most_l0_E v106 v107 v108 s) = (spec_l03Most_l0_T v108 s).bind fun y => .leaf (outS (spec_l03Most_l0_E v106 v107 v108) (spec_l03Most_l0_X v106 v107 v108) y) := by kernel_rfl
theorem spec_l03Most_l0_ok (v106 : Int) (v107 : Int) (v108 : List Nat) : LSound Try.prog 0 (spec_l03Most_LO v106 v107 v108) 0 (bodyOf Try.f121 0) := by
  intro e L out h
  exact lo_ok (E := spec_l03Most_l0_E v106 v107 v108) (gT := spec_l03Most_l0_T v108) (X := spec_l03Most_l0_X v106 v107 v108) (s0 := ((gF (vAt e 3)), (gI (vAt e 11)))) tok spec_l03Most_hO mixed (LoopsOk_eq (l := []) (by kernel_rfl) trivial) (spec_l03Most_l0_be v106 v107 v108) rfl (by intro x; rfl) h
noncomputable def spec_l03Most_T (v106 : Int) (v107 : Int) (v108 : List Nat) : Tree (Nat) :=
  (.need (some (spec_l03Most_l0_E v106 v107 v108 ((0 : Nat), (0 : Int))) = some (spec_l03Most_l0_E v106 v107 v108 ((0 : Nat), (0 : Int)))) <|
  (.call (spec_l03Most_l0_g v108 ((0 : Nat), (0 : Int))) fun v116 =>
  .leaf v116))

noncomputable def spec_l03Most_g (v106 : Int) (v107 : Int) (v108 : List Nat) : Option (Nat) := (spec_l03Most_T v106 v107 v108).run
def spec_l03Most_enc (v106 : Int) (v107 : Int) (v108 : List Nat) (y : Nat) : Rs := (.flt .f32 y, [])
theorem spec_l03Most_den (v106 : Int) (v107 : Int) (v108 : List Nat) : (den TT (tabD spec_l03Most_tab) (tabM spec_l03Most_tab) (spec_l03Most_LO v106 v107 v108) (codeOf Try.f121) ([.bptr (BR.root 0) [.int .i64 v106, .int .i64 v107, .bslc (BR.root 1) (.f32 v108)]] ++ List.replicate (Try.f121.ntmps - ([.bptr (BR.root 0) [.int .i64 v106, .int .i64 v107, .bslc (BR.root 1) (.f32 v108)]] : List DV).length) .undef) []).bind (retD TT Try.f121.results.toList 0) = (spec_l03Most_T v106 v107 v108).bind fun y => .leaf (spec_l03Most_enc v106 v107 v108 y) := by kernel_rfl
theorem spec_l03Most_fn (v106 : Int) (v107 : Int) (v108 : List Nat) (F : Fr) (hm : F.ids.length = 0) (h0 : St F [] F.H0) (hA : DVs.Ok F [] [.bptr (BR.root 0) [.int .i64 v106, .int .i64 v107, .bslc (BR.root 1) (.f32 v108)]]) {y : Nat} (hy : spec_l03Most_g v106 v107 v108 = some y) : ∃ H', FnOk Try.prog 121 (DVs.av F [.bptr (BR.root 0) [.int .i64 v106, .int .i64 v107, .bslc (BR.root 1) (.f32 v108)]]) F.H0 ((spec_l03Most_enc v106 v107 v108 y).1.av F) H' ∧ St F (spec_l03Most_enc v106 v107 v108 y).2 H' ∧ (spec_l03Most_enc v106 v107 v108 y).1.Ok F (spec_l03Most_enc v106 v107 v108 y).2 :=
  fn_fin tok spec_l03Most_hO mixed Try.func121 Try.call121 (by kernel_rfl) (LoopsOk_eq (l := [(0, bodyOf Try.f121 0)]) (by kernel_rfl) ⟨spec_l03Most_l0_ok v106 v107 v108, trivial⟩) (spec_l03Most_den v106 v107 v108) hy hm h0 hA
noncomputable def spec_l03Most_F : DFn := fun args L =>
  match args with
  | [a1] =>
    optT (cellsOf L 3 a1) fun cs0 =>
    (match cs0 with
    | [.int .i64 v106, .int .i64 v107, a2] =>
    optT (rowF32 L a2) fun v108 =>
    .call (spec_l03Most_g v106 v107 v108) fun y => .leaf (.flt .f32 y, L)
    | _ => .fail)
  | _ => .fail
theorem spec_l03Most_Fok : COk Try.prog 121 spec_l03Most_F true := by
  intro F L H args r L' hs ha hr
  unfold spec_l03Most_F at hr
  split at hr
  · rename_i a1
    obtain ⟨cs0, hcp0, hr⟩ := optT_run hr
    split at hr
    · rename_i v106 v107 a2
      obtain ⟨v108, hv108, hr⟩ := optT_run hr
      simp only [Tree.run] at hr
      obtain ⟨y, hy, hr⟩ := Option.bind_eq_some_iff.1 hr
      simp only [Tree.run, Option.some.injEq, Prod.mk.injEq] at hr
      obtain ⟨rfl, rfl⟩ := hr
      exact call_ok0 hs (fun k => (([a1.av F, a2.av F] : List AV)[k]?).getD .top) [a1] [.bptr (BR.root 0) [.int .i64 v106, .int .i64 v107, .bslc (BR.root 1) (.f32 v108)]] (fun F' h0 hi hρ => ⟨by simp [DVs.av, DV.av, BR.av, hρ], spec_l03Most_fn v106 v107 v108 F' (by rw [hi]; rfl) (st_nil hi) ⟨bptr_ok hi (by rw [h0]; simpa [DVs.av, DV.av, BR.av, hρ] using (cellsOf_ok hs (DVs.okAt ha 0 rfl) hcp0).1) ⟨trivial, trivial, bslc_ok hi (by rw [h0, hρ]; exact rowF32_ok hs (DVs.okAt (cellsOf_ok hs (DVs.okAt ha 0 rfl) hcp0).2 2 rfl) hv108), trivial⟩, trivial⟩ hy⟩) rfl
    · cases hr
  · cases hr
/-! spec.l02Own -/
noncomputable def spec_l02Own_LO (v121 : Int) (v122 : Int) (v123 : List Nat) : LOr := fun id e L =>
  match id with
  | _ => .fail
noncomputable def spec_l02Own_tab : List (FuncId × DFn × Bool) := []
theorem spec_l02Own_hO : OrcOk Try.prog (tabD spec_l02Own_tab) (tabM spec_l02Own_tab) := tabD_nil _
noncomputable def spec_l02Own_T (v121 : Int) (v122 : Int) (v123 : List Nat) : Tree (Int × Int) :=
  (.grd (fits (([] : List Nat) ++ v123).length) <|
  .leaf (v121, v122))

noncomputable def spec_l02Own_g (v121 : Int) (v122 : Int) (v123 : List Nat) : Option (Int × Int) := (spec_l02Own_T v121 v122 v123).run
def spec_l02Own_enc (v121 : Int) (v122 : Int) (v123 : List Nat) (y : Int × Int) : Rs := (.agg [.int .i64 y.1, .int .i64 y.2, .own 0 0 ((([] : List Nat) ++ v123).length)], [.row (.f32 (([] : List Nat) ++ v123)) 0])
theorem spec_l02Own_den (v121 : Int) (v122 : Int) (v123 : List Nat) : (den TT (tabD spec_l02Own_tab) (tabM spec_l02Own_tab) (spec_l02Own_LO v121 v122 v123) (codeOf Try.f83) ([.bptr (BR.root 0) [.int .i64 v121, .int .i64 v122, .bslc (BR.root 1) (.f32 v123)]] ++ List.replicate (Try.f83.ntmps - ([.bptr (BR.root 0) [.int .i64 v121, .int .i64 v122, .bslc (BR.root 1) (.f32 v123)]] : List DV).length) .undef) []).bind (retD TT Try.f83.results.toList 0) = (spec_l02Own_T v121 v122 v123).bind fun y => .leaf (spec_l02Own_enc v121 v122 v123 y) := by kernel_rfl
theorem spec_l02Own_fn (v121 : Int) (v122 : Int) (v123 : List Nat) (F : Fr) (hm : F.ids.length = 0) (h0 : St F [] F.H0) (hA : DVs.Ok F [] [.bptr (BR.root 0) [.int .i64 v121, .int .i64 v122, .bslc (BR.root 1) (.f32 v123)]]) {y : Int × Int} (hy : spec_l02Own_g v121 v122 v123 = some y) : ∃ H', FnOk Try.prog 83 (DVs.av F [.bptr (BR.root 0) [.int .i64 v121, .int .i64 v122, .bslc (BR.root 1) (.f32 v123)]]) F.H0 ((spec_l02Own_enc v121 v122 v123 y).1.av F) H' ∧ St F (spec_l02Own_enc v121 v122 v123 y).2 H' ∧ (spec_l02Own_enc v121 v122 v123 y).1.Ok F (spec_l02Own_enc v121 v122 v123 y).2 :=
  fn_fin tok spec_l02Own_hO mixed Try.func83 Try.call83 (by kernel_rfl) (LoopsOk_eq (l := []) (by kernel_rfl) trivial) (spec_l02Own_den v121 v122 v123) hy hm h0 hA
noncomputable def spec_l02Own_F : DFn := fun args L =>
  match args with
  | [a1] =>
    optT (cellsOf L 3 a1) fun cs0 =>
    (match cs0 with
    | [.int .i64 v121, .int .i64 v122, a2] =>
    optT (rowF32 L a2) fun v123 =>
    .call (spec_l02Own_g v121 v122 v123) fun y => .leaf (.agg [.int .i64 y.1, .int .i64 y.2, .own (L.length + 0) 0 ((([] : List Nat) ++ v123).length)], L ++ [.row (.f32 (([] : List Nat) ++ v123)) 0])
    | _ => .fail)
  | _ => .fail
theorem spec_l02Own_Fok : COk Try.prog 83 spec_l02Own_F true := by
  intro F L H args r L' hs ha hr
  unfold spec_l02Own_F at hr
  split at hr
  · rename_i a1
    obtain ⟨cs0, hcp0, hr⟩ := optT_run hr
    split at hr
    · rename_i v121 v122 a2
      obtain ⟨v123, hv123, hr⟩ := optT_run hr
      simp only [Tree.run] at hr
      obtain ⟨y, hy, hr⟩ := Option.bind_eq_some_iff.1 hr
      simp only [Tree.run, Option.some.injEq, Prod.mk.injEq] at hr
      obtain ⟨rfl, rfl⟩ := hr
      exact call_ok1 hs (fun k => (([a1.av F, a2.av F] : List AV)[k]?).getD .top) [a1] [.bptr (BR.root 0) [.int .i64 v121, .int .i64 v122, .bslc (BR.root 1) (.f32 v123)]] (fun F' h0 hi hρ => ⟨by simp [DVs.av, DV.av, BR.av, hρ], spec_l02Own_fn v121 v122 v123 F' (by rw [hi]; rfl) (st_nil hi) ⟨bptr_ok hi (by rw [h0]; simpa [DVs.av, DV.av, BR.av, hρ] using (cellsOf_ok hs (DVs.okAt ha 0 rfl) hcp0).1) ⟨trivial, trivial, bslc_ok hi (by rw [h0, hρ]; exact rowF32_ok hs (DVs.okAt (cellsOf_ok hs (DVs.okAt ha 0 rfl) hcp0).2 2 rfl) hv123), trivial⟩, trivial⟩ hy⟩) rfl rfl
    · cases hr
  · cases hr
/-! spec.l03Upper -/
noncomputable def spec_l03Upper_l2_T (v177 : Int) (v179 : Int) (v180 : Int) (s : Int × (List Nat)) : Tree ((Int × (List Nat)) ⊕ ((List Nat))) :=
  (.br (decide (s.1 < v177)) (
   (.grd (inb (IntKind.i64.wrap ((IntKind.i64.wrap (v177 * v180)) + s.1)) ((s.2).length)) <|
   .leaf (.inl (IntKind.i64.wrap (s.1 + (1 : Int)), List.set s.2 (Int.toNat (IntKind.i64.wrap ((IntKind.i64.wrap (v177 * v180)) + s.1))) (0 : Nat))))
  ) (
   .leaf (.inr s.2)
  ))

noncomputable def spec_l03Upper_l2_g (v177 : Int) (v179 : Int) (v180 : Int) (s0 : Int × (List Nat)) : Option ((List Nat)) := whileM (fun s => (spec_l03Upper_l2_T v177 v179 v180 s).run) s0
def spec_l03Upper_l2_E (v118 : Int) (v119 : Int) (v120 : List Nat) (v177 : Int) (v179 : Int) (v180 : Int) (s : Int × (List Nat)) : Sd := ([.top, .top, .ptr 0 (0 : Nat) 0 (3 : Nat), .ptr 1 (0 : Nat) 0 (3 : Nat), .int .i64 v177, .int .i64 s.1, .top, .top, .top, .top, .top, .top, .top, .top, .top, .top, .top, .top, .top, .top, .top, .top, .top, .top, .top, .top, .top, .top, .top], [.gen [.int .i64 (0 : Int), .int .i64 (0 : Int), .nilslc] false 0, .gen [.int .i64 v179, .int .i64 v180, .own 2 0 ((s.2).length)] false 0, .row (.f32 s.2) 0])
def spec_l03Upper_l2_X (v118 : Int) (v119 : Int) (v120 : List Nat) (v177 : Int) (v179 : Int) (v180 : Int) (x : (List Nat)) : Out := (.normal, [.top, .top, .ptr 0 (0 : Nat) 0 (3 : Nat), .ptr 1 (0 : Nat) 0 (3 : Nat), .int .i64 v177, .top, .top, .top, .top, .top, .top, .top, .top, .top, .top, .top, .top, .top, .top, .top, .top, .top, .top, .top, .top, .top, .top, .top, .top], [.gen [.int .i64 (0 : Int), .int .i64 (0 : Int), .nilslc] false 0, .gen [.int .i64 v179, .int .i64 v180, .own 2 0 ((x).length)] false 0, .row (.f32 x) 0])
def spec_l03Upper_l2_kill : List Nat := [1, 1, 0, 0, 0, 0, 1, 1, 1, 1, 1, 1, 1, 1, 1, 1, 1, 1, 1, 1, 1, 1, 1, 1, 1, 1, 1, 1, 1]
def spec_l03Upper_l2_nx : Exit → List Nat
  | .exit 0 => [1, 1, 0, 0, 1, 1, 1, 1, 1, 1, 1, 1, 1, 1, 1, 1, 1, 1, 1, 1, 1, 1, 1, 1, 1, 1, 1, 1, 1]
  | .exit 1 => [1, 1, 0, 0, 0, 1, 1, 1, 1, 1, 1, 1, 1, 1, 1, 1, 1, 1, 1, 1, 1, 1, 1, 1, 1, 1, 1, 1, 1]
  | .exit 2 => [1, 1, 0, 0, 0, 1, 1, 1, 1, 1, 1, 1, 1, 1, 1, 1, 1, 1, 1, 1, 1, 1, 1, 1, 1, 1, 1, 1, 1]
  | .ret => [1, 1, 0, 1, 1, 1, 1, 1, 1, 1, 1, 1, 1, 1, 1, 1, 1, 1, 1, 1, 1, 1, 1, 1, 1, 1, 1, 1, 1]
  | _ => []
noncomputable def spec_l03Upper_l0_T (v118 : Int) (v119 : Int) (v120 : List Nat) (v164 : Int) (v165 : Int) (s : Int × (List Nat)) : Tree ((Int × (List Nat)) ⊕ ((List Nat))) :=
  (.br (decide (s.1 < v164)) (
   (.need (some (spec_l03Upper_l2_E v118 v119 v120 s.1 v164 v165 ((0 : Int), s.2)) = some (spec_l03Upper_l2_E v118 v119 v120 s.1 v164 v165 ((0 : Int), s.2))) <|
   (.call (spec_l03Upper_l2_g s.1 v164 v165 ((0 : Int), s.2)) fun v182 =>
   .leaf (.inl (IntKind.i64.wrap (s.1 + (1 : Int)), v182))))
  ) (
   .leaf (.inr s.2)
  ))

noncomputable def spec_l03Upper_l0_g (v118 : Int) (v119 : Int) (v120 : List Nat) (v164 : Int) (v165 : Int) (s0 : Int × (List Nat)) : Option ((List Nat)) := whileM (fun s => (spec_l03Upper_l0_T v118 v119 v120 v164 v165 s).run) s0
def spec_l03Upper_l0_E (v118 : Int) (v119 : Int) (v120 : List Nat) (v164 : Int) (v165 : Int) (s : Int × (List Nat)) : Sd := ([.top, .top, .ptr 0 (0 : Nat) 0 (3 : Nat), .ptr 1 (0 : Nat) 0 (3 : Nat), .int .i64 s.1, .top, .top, .top, .top, .top, .top, .top, .top, .top, .top, .top, .top, .top, .top, .top, .top, .top, .top, .top, .top, .top, .top, .top, .top], [.gen [.int .i64 (0 : Int), .int .i64 (0 : Int), .nilslc] false 0, .gen [.int .i64 v164, .int .i64 v165, .own 2 0 ((s.2).length)] false 0, .row (.f32 s.2) 0])
def spec_l03Upper_l0_X (v118 : Int) (v119 : Int) (v120 : List Nat) (v164 : Int) (v165 : Int) (x : (List Nat)) : Out := (.normal, [.top, .top, .ptr 0 (0 : Nat) 0 (3 : Nat), .ptr 1 (0 : Nat) 0 (3 : Nat), .top, .top, .top, .top, .top, .top, .top, .top, .top, .top, .top, .top, .top, .top, .top, .top, .top, .top, .top, .top, .top, .top, .top, .top, .top], [.gen [.int .i64 (0 : Int), .int .i64 (0 : Int), .nilslc] false 0, .gen [.int .i64 v164, .int .i64 v165, .own 2 0 ((x).length)] false 0, .row (.f32 x) 0])
def spec_l03Upper_l0_kill : List Nat := [1, 1, 0, 0, 0, 1, 1, 1, 1, 1, 1, 1, 1, 1, 1, 1, 1, 1, 1, 1, 1, 1, 1, 1, 1, 1, 1, 1, 1]
def spec_l03Upper_l0_nx : Exit → List Nat
  | .exit 0 => [1, 1, 0, 0, 1, 1, 1, 1, 1, 1, 1, 1, 1, 1, 1, 1, 1, 1, 1, 1, 1, 1, 1, 1, 1, 1, 1, 1, 1]
  | .ret => [1, 1, 0, 1, 1, 1, 1, 1, 1, 1, 1, 1, 1, 1, 1, 1, 1, 1, 1, 1, 1, 1, 1, 1, 1, 1, 1, 1, 1]
  | _ => []
noncomputable def spec_l03Upper_LO (v118 : Int) (v119 : Int) (v120 : List Nat) : LOr := fun id e L =>
  match id with
  | 2 => .need (normA 0 spec_l03Upper_l2_kill e L = some (spec_l03Upper_l2_E v118 v119 v120 (gI (vAt e 4)) (gI (cAt L (vAt e 3) 0)) (gI (cAt L (vAt e 3) 1)) ((gI (vAt e 5)), (gRF L (cAt L (vAt e 3) 2))))) (.call (spec_l03Upper_l2_g (gI (vAt e 4)) (gI (cAt L (vAt e 3) 0)) (gI (cAt L (vAt e 3) 1)) ((gI (vAt e 5)), (gRF L (cAt L (vAt e 3) 2)))) fun x => .leaf (spec_l03Upper_l2_X v118 v119 v120 (gI (vAt e 4)) (gI (cAt L (vAt e 3) 0)) (gI (cAt L (vAt e 3) 1)) x))
  | 0 => .need (normA 0 spec_l03Upper_l0_kill e L = some (spec_l03Upper_l0_E v118 v119 v120 (gI (cAt L (vAt e 3) 0)) (gI (cAt L (vAt e 3) 1)) ((gI (vAt e 4)), (gRF L (cAt L (vAt e 3) 2))))) (.call (spec_l03Upper_l0_g v118 v119 v120 (gI (cAt L (vAt e 3) 0)) (gI (cAt L (vAt e 3) 1)) ((gI (vAt e 4)), (gRF L (cAt L (vAt e 3) 2)))) fun x => .leaf (spec_l03Upper_l0_X v118 v119 v120 (gI (cAt L (vAt e 3) 0)) (gI (cAt L (vAt e 3) 1)) x))
  | _ => .fail
noncomputable def spec_l03Upper_tab : List (FuncId × DFn × Bool) := [(83, spec_l02Own_F, true)]
theorem spec_l03Upper_hO : OrcOk Try.prog (tabD spec_l03Upper_tab) (tabM spec_l03Upper_tab) := tabD_cons spec_l02Own_Fok (tabD_nil _)
theorem spec_l03Upper_l2_be (v118 : Int) (v119 : Int) (v120 : List Nat) (v177 : Int) (v179 : Int) (v180 : Int) (s : Int × (List Nat)) : bodyT TT (tabD spec_l03Upper_tab) (tabM spec_l03Upper_tab) (spec_l03Upper_LO v118 v119 v120) 0 spec_l03Upper_l2_kill spec_l03Upper_l2_nx (bodyOf Try.f119 2) 2 (spec_l03Upper_l2_E v118 v119 v120 v177 v179 v180 s) = (spec_l03Upper_l2_T v177 v179 v180 s).bind fun y => .leaf (outS (spec_l03Upper_l2_E v118 v119 v120 v177 v179 v180) (spec_l03Upper_l2_X v118 v119 v120 v177 v179 v180) y) := by kernel_rfl
theorem spec_l03Upper_l2_ok (v118 : Int) (v119 : Int) (v120 : List Nat) : LSound Try.prog 0 (spec_l03Upper_LO v118 v119 v120) 2 (bodyOf Try.f119 2) := by
  intro e L out h
  exact lo_ok (E := spec_l03Upper_l2_E v118 v119 v120 (gI (vAt e 4)) (gI (cAt L (vAt e 3) 0)) (gI (cAt L (vAt e 3) 1))) (gT := spec_l03Upper_l2_T (gI (vAt e 4)) (gI (cAt L (vAt e 3) 0)) (gI (cAt L (vAt e 3) 1))) (X := spec_l03Upper_l2_X v118 v119 v120 (gI (vAt e 4)) (gI (cAt L (vAt e 3) 0)) (gI (cAt L (vAt e 3) 1))) (s0 := ((gI (vAt e 5)), (gRF L (cAt L (vAt e 3) 2)))) tok spec_l03Upper_hO mixed (LoopsOk_eq (l := []) (by kernel_rfl) trivial) (spec_l03Upper_l2_be v118 v119 v120 (gI (vAt e 4)) (gI (cAt L (vAt e 3) 0)) (gI (cAt L (vAt e 3) 1))) rfl (by intro x; rfl) h
theorem spec_l03Upper_l0_be (v118 : Int) (v119 : Int) (v120 : List Nat) (v164 : Int) (v165 : Int) (s : Int × (List Nat)) : bodyT TT (tabD spec_l03Upper_tab) (tabM spec_l03Upper_tab) (spec_l03Upper_LO v118 v119 v120) 0 spec_l03Upper_l0_kill spec_l03Upper_l0_nx (bodyOf Try.f119 0) 0 (spec_l03Upper_l0_E v118 v119 v120 v164 v165 s) = (spec_l03Upper_l0_T v118 v119 v120 v164 v165 s).bind fun y => .leaf (outS (spec_l03Upper_l0_E v118 v119 v120 v164 v165) (spec_l03Upper_l0_X v118 v119 v120 v164 v165) y) := by kernel_rfl
theorem spec_l03Upper_l0_ok (v118 : Int) (v119 : Int) (v120 : List Nat) : LSound Try.prog 0 (spec_l03Upper_LO v118 v119 v120) 0 (bodyOf Try.f119 0) := by
  intro e L out h
  exact lo_ok (E := spec_l03Upper_l0_E v118 v119 v120 (gI (cAt L (vAt e 3) 0)) (gI (cAt L (vAt e 3) 1))) (gT := spec_l03Upper_l0_T v118 v119 v120 (gI (cAt L (vAt e 3) 0)) (gI (cAt L (vAt e 3) 1))) (X := spec_l03Upper_l0_X v118 v119 v120 (gI (cAt L (vAt e 3) 0)) (gI (cAt L (vAt e 3) 1))) (s0 := ((gI (vAt e 4)), (gRF L (cAt L (vAt e 3) 2)))) tok spec_l03Upper_hO mixed (LoopsOk_eq (l := [(2, bodyOf Try.f119 2)]) (by kernel_rfl) ⟨spec_l03Upper_l2_ok v118 v119 v120, trivial⟩) (spec_l03Upper_l0_be v118 v119 v120 (gI (cAt L (vAt e 3) 0)) (gI (cAt L (vAt e 3) 1))) rfl (by intro x; rfl) h
noncomputable def spec_l03Upper_T (v118 : Int) (v119 : Int) (v120 : List Nat) : Tree (Int × Int × (List Nat)) :=
  (.call (spec_l02Own_g v118 v119 v120) fun v124 =>
  (.need (some (spec_l03Upper_l0_E v118 v119 v120 v124.1 v124.2 ((0 : Int), ([] : List Nat) ++ v120)) = some (spec_l03Upper_l0_E v118 v119 v120 v124.1 v124.2 ((0 : Int), ([] : List Nat) ++ v120))) <|
  (.call (spec_l03Upper_l0_g v118 v119 v120 v124.1 v124.2 ((0 : Int), ([] : List Nat) ++ v120)) fun v183 =>
  .leaf (v124.1, v124.2, v183))))

noncomputable def spec_l03Upper_g (v118 : Int) (v119 : Int) (v120 : List Nat) : Option (Int × Int × (List Nat)) := (spec_l03Upper_T v118 v119 v120).run
def spec_l03Upper_enc (v118 : Int) (v119 : Int) (v120 : List Nat) (y : Int × Int × (List Nat)) : Rs := (.agg [.int .i64 y.1, .int .i64 y.2.1, .own 0 0 ((y.2.2).length)], [.row (.f32 y.2.2) 0])
theorem spec_l03Upper_den (v118 : Int) (v119 : Int) (v120 : List Nat) : (den TT (tabD spec_l03Upper_tab) (tabM spec_l03Upper_tab) (spec_l03Upper_LO v118 v119 v120) (codeOf Try.f119) ([.bptr (BR.root 0) [.int .i64 v118, .int .i64 v119, .bslc (BR.root 1) (.f32 v120)]] ++ List.replicate (Try.f119.ntmps - ([.bptr (BR.root 0) [.int .i64 v118, .int .i64 v119, .bslc (BR.root 1) (.f32 v120)]] : List DV).length) .undef) []).bind (retD TT Try.f119.results.toList 0) = (spec_l03Upper_T v118 v119 v120).bind fun y => .leaf (spec_l03Upper_enc v118 v119 v120 y) := by kernel_rfl
theorem spec_l03Upper_fn (v118 : Int) (v119 : Int) (v120 : List Nat) (F : Fr) (hm : F.ids.length = 0) (h0 : St F [] F.H0) (hA : DVs.Ok F [] [.bptr (BR.root 0) [.int .i64 v118, .int .i64 v119, .bslc (BR.root 1) (.f32 v120)]]) {y : Int × Int × (List Nat)} (hy : spec_l03Upper_g v118 v119 v120 = some y) : ∃ H', FnOk Try.prog 119 (DVs.av F [.bptr (BR.root 0) [.int .i64 v118, .int .i64 v119, .bslc (BR.root 1) (.f32 v120)]]) F.H0 ((spec_l03Upper_enc v118 v119 v120 y).1.av F) H' ∧ St F (spec_l03Upper_enc v118 v119 v120 y).2 H' ∧ (spec_l03Upper_enc v118 v119 v120 y).1.Ok F (spec_l03Upper_enc v118 v119 v120 y).2 :=
  fn_fin tok spec_l03Upper_hO mixed Try.func119 Try.call119 (by kernel_rfl) (LoopsOk_eq (l := [(0, bodyOf Try.f119 0)]) (by kernel_rfl) ⟨spec_l03Upper_l0_ok v118 v119 v120, trivial⟩) (spec_l03Upper_den v118 v119 v120) hy hm h0 hA
noncomputable def spec_l03Upper_F : DFn := fun args L =>
  match args with
  | [a1] =>
    optT (cellsOf L 3 a1) fun cs0 =>
    (match cs0 with
    | [.int .i64 v118, .int .i64 v119, a2] =>
    optT (rowF32 L a2) fun v120 =>
    .call (spec_l03Upper_g v118 v119 v120) fun y => .leaf (.agg [.int .i64 y.1, .int .i64 y.2.1, .own (L.length + 0) 0 ((y.2.2).length)], L ++ [.row (.f32 y.2.2) 0])
    | _ => .fail)
  | _ => .fail
theorem spec_l03Upper_Fok : COk Try.prog 119 spec_l03Upper_F true := by
  intro F L H args r L' hs ha hr
  unfold spec_l03Upper_F at hr
  split at hr
  · rename_i a1
    obtain ⟨cs0, hcp0, hr⟩ := optT_run hr
    split at hr
    · rename_i v118 v119 a2
      obtain ⟨v120, hv120, hr⟩ := optT_run hr
      simp only [Tree.run] at hr
      obtain ⟨y, hy, hr⟩ := Option.bind_eq_some_iff.1 hr
      simp only [Tree.run, Option.some.injEq, Prod.mk.injEq] at hr
      obtain ⟨rfl, rfl⟩ := hr
      exact call_ok1 hs (fun k => (([a1.av F, a2.av F] : List AV)[k]?).getD .top) [a1] [.bptr (BR.root 0) [.int .i64 v118, .int .i64 v119, .bslc (BR.root 1) (.f32 v120)]] (fun F' h0 hi hρ => ⟨by simp [DVs.av, DV.av, BR.av, hρ], spec_l03Upper_fn v118 v119 v120 F' (by rw [hi]; rfl) (st_nil hi) ⟨bptr_ok hi (by rw [h0]; simpa [DVs.av, DV.av, BR.av, hρ] using (cellsOf_ok hs (DVs.okAt ha 0 rfl) hcp0).1) ⟨trivial, trivial, bslc_ok hi (by rw [h0, hρ]; exact rowF32_ok hs (DVs.okAt (cellsOf_ok hs (DVs.okAt ha 0 rfl) hcp0).2 2 rfl) hv120), trivial⟩, trivial⟩ hy⟩) rfl rfl
    · cases hr
  · cases hr
/-! spec.l02Number -/
noncomputable def spec_l02Number_LO (v186 : Nat) : LOr := fun id e L =>
  match id with
  | _ => .fail
noncomputable def spec_l02Number_tab : List (FuncId × DFn × Bool) := [(100, spec_l01Finite_F, true)]
theorem spec_l02Number_hO : OrcOk Try.prog (tabD spec_l02Number_tab) (tabM spec_l02Number_tab) := tabD_cons spec_l01Finite_Fok (tabD_nil _)
noncomputable def spec_l02Number_T (v186 : Nat) : Tree ((Unit) ⊕ (Nat)) :=
  (.br (!(spec_l01Finite_v v186)) (
   .leaf (.inl ())
  ) (
   .leaf (.inr v186)
  ))

noncomputable def spec_l02Number_g (v186 : Nat) : Option ((Unit) ⊕ (Nat)) := (spec_l02Number_T v186).run
def spec_l02Number_enc (v186 : Nat) (y : (Unit) ⊕ (Nat)) : Rs := (match y with | .inl y => (.tup [.flt .f32 (0 : Nat), .lit false], []) | .inr y => (.tup [.flt .f32 y, .lit true], []))
theorem spec_l02Number_den (v186 : Nat) : (den TT (tabD spec_l02Number_tab) (tabM spec_l02Number_tab) (spec_l02Number_LO v186) (codeOf Try.f116) ([.flt .f32 v186] ++ List.replicate (Try.f116.ntmps - ([.flt .f32 v186] : List DV).length) .undef) []).bind (retD TT Try.f116.results.toList 0) = (spec_l02Number_T v186).bind fun y => .leaf (spec_l02Number_enc v186 y) := by kernel_rfl
theorem spec_l02Number_fn (v186 : Nat) (F : Fr) (hm : F.ids.length = 0) (h0 : St F [] F.H0) (hA : DVs.Ok F [] [.flt .f32 v186]) {y : (Unit) ⊕ (Nat)} (hy : spec_l02Number_g v186 = some y) : ∃ H', FnOk Try.prog 116 (DVs.av F [.flt .f32 v186]) F.H0 ((spec_l02Number_enc v186 y).1.av F) H' ∧ St F (spec_l02Number_enc v186 y).2 H' ∧ (spec_l02Number_enc v186 y).1.Ok F (spec_l02Number_enc v186 y).2 :=
  fn_fin tok spec_l02Number_hO mixed Try.func116 Try.call116 (by kernel_rfl) (LoopsOk_eq (l := []) (by kernel_rfl) trivial) (spec_l02Number_den v186) hy hm h0 hA
def spec_l02Number_v (v186 : Nat) : (Unit) ⊕ (Nat) :=
  if (!(spec_l01Finite_v v186)) = true then (
   .inl ()
  ) else (
   .inr v186
  )
theorem spec_l02Number_tot (v186 : Nat) : spec_l02Number_g v186 = some (spec_l02Number_v v186) := by
  unfold spec_l02Number_g spec_l02Number_T spec_l02Number_v
  simp only [Tree.run]
  repeat' (first | rfl | split)
noncomputable def spec_l02Number_F : DFn := fun args L =>
  match args with
  | [.flt .f32 v186] =>
    .sum (spec_l02Number_v v186) (fun y0 => .leaf (.tup [.flt .f32 (0 : Nat), .lit false], L)) (fun z0 => .leaf (.tup [.flt .f32 z0, .lit true], L))
  | _ => .fail
theorem spec_l02Number_Fok : COk Try.prog 116 spec_l02Number_F true := by
  intro F L H args r L' hs ha hr
  unfold spec_l02Number_F at hr
  split at hr
  · rename_i v186
    have hy := spec_l02Number_tot v186
    generalize spec_l02Number_v v186 = y at hy hr
    cases y with
    | inl y =>
      simp only [Tree.run, Option.some.injEq, Prod.mk.injEq] at hr
      obtain ⟨rfl, rfl⟩ := hr
      exact call_ok0 hs (fun k => (([] : List AV)[k]?).getD .top) [.flt .f32 v186] [.flt .f32 v186] (fun F' h0 hi hρ => ⟨by simp [DVs.av, DV.av, BR.av, hρ], spec_l02Number_fn v186 F' (by rw [hi]; rfl) (st_nil hi) ⟨trivial, trivial⟩ hy⟩) rfl
    | inr y =>
      simp only [Tree.run, Option.some.injEq, Prod.mk.injEq] at hr
      obtain ⟨rfl, rfl⟩ := hr
      exact call_ok0 hs (fun k => (([] : List AV)[k]?).getD .top) [.flt .f32 v186] [.flt .f32 v186] (fun F' h0 hi hρ => ⟨by simp [DVs.av, DV.av, BR.av, hρ], spec_l02Number_fn v186 F' (by rw [hi]; rfl) (st_nil hi) ⟨trivial, trivial⟩ hy⟩) rfl
  · cases hr
/-! spec.FactorGrowth -/
noncomputable def spec_FactorGrowth_LO (v47 : Int) (v48 : Int) (v49 : List Nat) (v50 : Int) (v51 : Int) (v52 : List Nat) (v53 : List Int) : LOr := fun id e L =>
  match id with
  | _ => .fail
noncomputable def spec_FactorGrowth_tab : List (FuncId × DFn × Bool) := [(99, spec_l02Is_F, true), (111, spec_l03Is_F, true), (121, spec_l03Most_F, true), (119, spec_l03Upper_F, true), (116, spec_l02Number_F, true)]
theorem spec_FactorGrowth_hO : OrcOk Try.prog (tabD spec_FactorGrowth_tab) (tabM spec_FactorGrowth_tab) := tabD_cons spec_l02Is_Fok (tabD_cons spec_l03Is_Fok (tabD_cons spec_l03Most_Fok (tabD_cons spec_l03Upper_Fok (tabD_cons spec_l02Number_Fok (tabD_nil _)))))
noncomputable def spec_FactorGrowth_T (v47 : Int) (v48 : Int) (v49 : List Nat) (v50 : Int) (v51 : Int) (v52 : List Nat) (v53 : List Int) : Tree ((Unit) ⊕ (Nat)) :=
  (.call (spec_l02Is_g v47 v48 v49) fun v71 =>
  (.br (!v71) (
   .leaf (.inl ())
  ) (
   (.call (spec_l03Is_g v50 v51 v52 v53) fun v105 =>
   (.br (!v105) (
    .leaf (.inl ())
   ) (
    (.call (spec_l03Most_g v47 v48 v49) fun v117 =>
    (.br (!(fgrt .f32 v117 (0 : Nat))) (
     .leaf (.inl ())
    ) (
     (.call (spec_l03Upper_g v50 v51 v52) fun v184 =>
     (.call (spec_l03Most_g v184.1 v184.2.1 v184.2.2) fun v185 =>
     (.sum (spec_l02Number_v (fdiv .f32 v185 v117)) (fun v187 =>
      .leaf (.inl ())
     ) (fun v188 =>
      .leaf (.inr v188)
     ))))
    )))
   )))
  )))

noncomputable def spec_FactorGrowth_g (v47 : Int) (v48 : Int) (v49 : List Nat) (v50 : Int) (v51 : Int) (v52 : List Nat) (v53 : List Int) : Option ((Unit) ⊕ (Nat)) := (spec_FactorGrowth_T v47 v48 v49 v50 v51 v52 v53).run
def spec_FactorGrowth_enc (v47 : Int) (v48 : Int) (v49 : List Nat) (v50 : Int) (v51 : Int) (v52 : List Nat) (v53 : List Int) (y : (Unit) ⊕ (Nat)) : Rs := (match y with | .inl y => (.tup [.flt .f32 (0 : Nat), .lit false], []) | .inr y => (.tup [.flt .f32 y, .lit true], []))
theorem spec_FactorGrowth_den (v47 : Int) (v48 : Int) (v49 : List Nat) (v50 : Int) (v51 : Int) (v52 : List Nat) (v53 : List Int) : (den TT (tabD spec_FactorGrowth_tab) (tabM spec_FactorGrowth_tab) (spec_FactorGrowth_LO v47 v48 v49 v50 v51 v52 v53) (codeOf Try.f57) ([.agg [.int .i64 v47, .int .i64 v48, .bslc (BR.root 0) (.f32 v49)], .agg [.int .i64 v50, .int .i64 v51, .bslc (BR.root 1) (.f32 v52), .bslc (BR.root 2) (.i64 v53)]] ++ List.replicate (Try.f57.ntmps - ([.agg [.int .i64 v47, .int .i64 v48, .bslc (BR.root 0) (.f32 v49)], .agg [.int .i64 v50, .int .i64 v51, .bslc (BR.root 1) (.f32 v52), .bslc (BR.root 2) (.i64 v53)]] : List DV).length) .undef) []).bind (retD TT Try.f57.results.toList 0) = (spec_FactorGrowth_T v47 v48 v49 v50 v51 v52 v53).bind fun y => .leaf (spec_FactorGrowth_enc v47 v48 v49 v50 v51 v52 v53 y) := by kernel_rfl
theorem spec_FactorGrowth_fn (v47 : Int) (v48 : Int) (v49 : List Nat) (v50 : Int) (v51 : Int) (v52 : List Nat) (v53 : List Int) (F : Fr) (hm : F.ids.length = 0) (h0 : St F [] F.H0) (hA : DVs.Ok F [] [.agg [.int .i64 v47, .int .i64 v48, .bslc (BR.root 0) (.f32 v49)], .agg [.int .i64 v50, .int .i64 v51, .bslc (BR.root 1) (.f32 v52), .bslc (BR.root 2) (.i64 v53)]]) {y : (Unit) ⊕ (Nat)} (hy : spec_FactorGrowth_g v47 v48 v49 v50 v51 v52 v53 = some y) : ∃ H', FnOk Try.prog 57 (DVs.av F [.agg [.int .i64 v47, .int .i64 v48, .bslc (BR.root 0) (.f32 v49)], .agg [.int .i64 v50, .int .i64 v51, .bslc (BR.root 1) (.f32 v52), .bslc (BR.root 2) (.i64 v53)]]) F.H0 ((spec_FactorGrowth_enc v47 v48 v49 v50 v51 v52 v53 y).1.av F) H' ∧ St F (spec_FactorGrowth_enc v47 v48 v49 v50 v51 v52 v53 y).2 H' ∧ (spec_FactorGrowth_enc v47 v48 v49 v50 v51 v52 v53 y).1.Ok F (spec_FactorGrowth_enc v47 v48 v49 v50 v51 v52 v53 y).2 :=
  fn_fin tok spec_FactorGrowth_hO mixed Try.func57 Try.call57 (by kernel_rfl) (LoopsOk_eq (l := []) (by kernel_rfl) trivial) (spec_FactorGrowth_den v47 v48 v49 v50 v51 v52 v53) hy hm h0 hA
noncomputable def spec_FactorGrowth_F : DFn := fun args L =>
  match args with
  | [.agg [.int .i64 v47, .int .i64 v48, a1], .agg [.int .i64 v50, .int .i64 v51, a2, a3]] =>
    optT (rowF32 L a1) fun v49 =>
    optT (rowF32 L a2) fun v52 =>
    optT (rowI64 L a3) fun v53 =>
    .call (spec_FactorGrowth_g v47 v48 v49 v50 v51 v52 v53) fun y => .sum y (fun y0 => .leaf (.tup [.flt .f32 (0 : Nat), .lit false], L)) (fun z0 => .leaf (.tup [.flt .f32 z0, .lit true], L))
  | _ => .fail
theorem spec_FactorGrowth_Fok : COk Try.prog 57 spec_FactorGrowth_F true := by
  intro F L H args r L' hs ha hr
  unfold spec_FactorGrowth_F at hr
  split at hr
  · rename_i v47 v48 a1 v50 v51 a2 a3
    obtain ⟨v49, hv49, hr⟩ := optT_run hr
    obtain ⟨v52, hv52, hr⟩ := optT_run hr
    obtain ⟨v53, hv53, hr⟩ := optT_run hr
    simp only [Tree.run] at hr
    obtain ⟨y, hy, hr⟩ := Option.bind_eq_some_iff.1 hr
    cases y with
    | inl y =>
      simp only [Tree.run, Option.some.injEq, Prod.mk.injEq] at hr
      obtain ⟨rfl, rfl⟩ := hr
      exact call_ok0 hs (fun k => (([a1.av F, a2.av F, a3.av F] : List AV)[k]?).getD .top) [.agg [.int .i64 v47, .int .i64 v48, a1], .agg [.int .i64 v50, .int .i64 v51, a2, a3]] [.agg [.int .i64 v47, .int .i64 v48, .bslc (BR.root 0) (.f32 v49)], .agg [.int .i64 v50, .int .i64 v51, .bslc (BR.root 1) (.f32 v52), .bslc (BR.root 2) (.i64 v53)]] (fun F' h0 hi hρ => ⟨by simp [DVs.av, DV.av, BR.av, hρ], spec_FactorGrowth_fn v47 v48 v49 v50 v51 v52 v53 F' (by rw [hi]; rfl) (st_nil hi) ⟨⟨trivial, trivial, bslc_ok hi (by rw [h0, hρ]; exact rowF32_ok hs (DVs.okAt (DVs.okAt ha 0 rfl) 2 rfl) hv49), trivial⟩, ⟨trivial, trivial, bslc_ok hi (by rw [h0, hρ]; exact rowF32_ok hs (DVs.okAt (DVs.okAt ha 1 rfl) 2 rfl) hv52), bslc_ok hi (by rw [h0, hρ]; exact rowI64_ok hs (DVs.okAt (DVs.okAt ha 1 rfl) 3 rfl) hv53), trivial⟩, trivial⟩ hy⟩) rfl
    | inr y =>
      simp only [Tree.run, Option.some.injEq, Prod.mk.injEq] at hr
      obtain ⟨rfl, rfl⟩ := hr
      exact call_ok0 hs (fun k => (([a1.av F, a2.av F, a3.av F] : List AV)[k]?).getD .top) [.agg [.int .i64 v47, .int .i64 v48, a1], .agg [.int .i64 v50, .int .i64 v51, a2, a3]] [.agg [.int .i64 v47, .int .i64 v48, .bslc (BR.root 0) (.f32 v49)], .agg [.int .i64 v50, .int .i64 v51, .bslc (BR.root 1) (.f32 v52), .bslc (BR.root 2) (.i64 v53)]] (fun F' h0 hi hρ => ⟨by simp [DVs.av, DV.av, BR.av, hρ], spec_FactorGrowth_fn v47 v48 v49 v50 v51 v52 v53 F' (by rw [hi]; rfl) (st_nil hi) ⟨⟨trivial, trivial, bslc_ok hi (by rw [h0, hρ]; exact rowF32_ok hs (DVs.okAt (DVs.okAt ha 0 rfl) 2 rfl) hv49), trivial⟩, ⟨trivial, trivial, bslc_ok hi (by rw [h0, hρ]; exact rowF32_ok hs (DVs.okAt (DVs.okAt ha 1 rfl) 2 rfl) hv52), bslc_ok hi (by rw [h0, hρ]; exact rowI64_ok hs (DVs.okAt (DVs.okAt ha 1 rfl) 3 rfl) hv53), trivial⟩, trivial⟩ hy⟩) rfl
  · cases hr
/-! impl.inRange -/
noncomputable def impl_inRange_LO (v205 : Int) (v206 : Int) (v207 : Int) : LOr := fun id e L =>
  match id with
  | _ => .fail
noncomputable def impl_inRange_tab : List (FuncId × DFn × Bool) := []
theorem impl_inRange_hO : OrcOk Try.prog (tabD impl_inRange_tab) (tabM impl_inRange_tab) := tabD_nil _
noncomputable def impl_inRange_T (v205 : Int) (v206 : Int) (v207 : Int) : Tree (Bool) :=
  (.br (decide (v206 ≤ v205)) (
   .leaf (decide (v205 ≤ v207))
  ) (
   .leaf false
  ))

noncomputable def impl_inRange_g (v205 : Int) (v206 : Int) (v207 : Int) : Option (Bool) := (impl_inRange_T v205 v206 v207).run
def impl_inRange_enc (v205 : Int) (v206 : Int) (v207 : Int) (y : Bool) : Rs := (.bool y, [])
theorem impl_inRange_den (v205 : Int) (v206 : Int) (v207 : Int) : (den TT (tabD impl_inRange_tab) (tabM impl_inRange_tab) (impl_inRange_LO v205 v206 v207) (codeOf Try.f72) ([.int .i64 v205, .int .i64 v206, .int .i64 v207] ++ List.replicate (Try.f72.ntmps - ([.int .i64 v205, .int .i64 v206, .int .i64 v207] : List DV).length) .undef) []).bind (retD TT Try.f72.results.toList 0) = (impl_inRange_T v205 v206 v207).bind fun y => .leaf (impl_inRange_enc v205 v206 v207 y) := by kernel_rfl
theorem impl_inRange_fn (v205 : Int) (v206 : Int) (v207 : Int) (F : Fr) (hm : F.ids.length = 0) (h0 : St F [] F.H0) (hA : DVs.Ok F [] [.int .i64 v205, .int .i64 v206, .int .i64 v207]) {y : Bool} (hy : impl_inRange_g v205 v206 v207 = some y) : ∃ H', FnOk Try.prog 72 (DVs.av F [.int .i64 v205, .int .i64 v206, .int .i64 v207]) F.H0 ((impl_inRange_enc v205 v206 v207 y).1.av F) H' ∧ St F (impl_inRange_enc v205 v206 v207 y).2 H' ∧ (impl_inRange_enc v205 v206 v207 y).1.Ok F (impl_inRange_enc v205 v206 v207 y).2 :=
  fn_fin tok impl_inRange_hO mixed Try.func72 Try.call72 (by kernel_rfl) (LoopsOk_eq (l := []) (by kernel_rfl) trivial) (impl_inRange_den v205 v206 v207) hy hm h0 hA
def impl_inRange_v (v205 : Int) (v206 : Int) (v207 : Int) : Bool :=
  if (decide (v206 ≤ v205)) = true then (
   decide (v205 ≤ v207)
  ) else (
   false
  )
theorem impl_inRange_tot (v205 : Int) (v206 : Int) (v207 : Int) : impl_inRange_g v205 v206 v207 = some (impl_inRange_v v205 v206 v207) := by
  unfold impl_inRange_g impl_inRange_T impl_inRange_v
  simp only [Tree.run]
  repeat' (first | rfl | split)
noncomputable def impl_inRange_F : DFn := fun args L =>
  match args with
  | [.int .i64 v205, .int .i64 v206, .int .i64 v207] =>
    .leaf (.bool (impl_inRange_v v205 v206 v207), L)
  | _ => .fail
theorem impl_inRange_Fok : COk Try.prog 72 impl_inRange_F true := by
  intro F L H args r L' hs ha hr
  unfold impl_inRange_F at hr
  split at hr
  · rename_i v205 v206 v207
    have hy := impl_inRange_tot v205 v206 v207
    generalize impl_inRange_v v205 v206 v207 = y at hy hr
    simp only [Tree.run, Option.some.injEq, Prod.mk.injEq] at hr
    obtain ⟨rfl, rfl⟩ := hr
    exact call_ok0 hs (fun k => (([] : List AV)[k]?).getD .top) [.int .i64 v205, .int .i64 v206, .int .i64 v207] [.int .i64 v205, .int .i64 v206, .int .i64 v207] (fun F' h0 hi hρ => ⟨by simp [DVs.av, DV.av, BR.av, hρ], impl_inRange_fn v205 v206 v207 F' (by rw [hi]; rfl) (st_nil hi) ⟨trivial, trivial, trivial, trivial⟩ hy⟩) rfl
  · cases hr
/-! impl.isSide -/
noncomputable def impl_isSide_LO (v204 : Int) : LOr := fun id e L =>
  match id with
  | _ => .fail
noncomputable def impl_isSide_tab : List (FuncId × DFn × Bool) := [(72, impl_inRange_F, true)]
theorem impl_isSide_hO : OrcOk Try.prog (tabD impl_isSide_tab) (tabM impl_isSide_tab) := tabD_cons impl_inRange_Fok (tabD_nil _)
noncomputable def impl_isSide_T (v204 : Int) : Tree (Bool) :=
  .leaf (impl_inRange_v v204 (1 : Int) (12 : Int))

noncomputable def impl_isSide_g (v204 : Int) : Option (Bool) := (impl_isSide_T v204).run
def impl_isSide_enc (v204 : Int) (y : Bool) : Rs := (.bool y, [])
theorem impl_isSide_den (v204 : Int) : (den TT (tabD impl_isSide_tab) (tabM impl_isSide_tab) (impl_isSide_LO v204) (codeOf Try.f146) ([.int .i64 v204] ++ List.replicate (Try.f146.ntmps - ([.int .i64 v204] : List DV).length) .undef) []).bind (retD TT Try.f146.results.toList 0) = (impl_isSide_T v204).bind fun y => .leaf (impl_isSide_enc v204 y) := by kernel_rfl
theorem impl_isSide_fn (v204 : Int) (F : Fr) (hm : F.ids.length = 0) (h0 : St F [] F.H0) (hA : DVs.Ok F [] [.int .i64 v204]) {y : Bool} (hy : impl_isSide_g v204 = some y) : ∃ H', FnOk Try.prog 146 (DVs.av F [.int .i64 v204]) F.H0 ((impl_isSide_enc v204 y).1.av F) H' ∧ St F (impl_isSide_enc v204 y).2 H' ∧ (impl_isSide_enc v204 y).1.Ok F (impl_isSide_enc v204 y).2 :=
  fn_fin tok impl_isSide_hO mixed Try.func146 Try.call146 (by kernel_rfl) (LoopsOk_eq (l := []) (by kernel_rfl) trivial) (impl_isSide_den v204) hy hm h0 hA
def impl_isSide_v (v204 : Int) : Bool :=
  (impl_inRange_v v204 (1 : Int) (12 : Int))
theorem impl_isSide_tot (v204 : Int) : impl_isSide_g v204 = some (impl_isSide_v v204) := by
  unfold impl_isSide_g impl_isSide_T impl_isSide_v
  simp only [Tree.run]
  repeat' (first | rfl | split)
noncomputable def impl_isSide_F : DFn := fun args L =>
  match args with
  | [.int .i64 v204] =>
    .leaf (.bool (impl_isSide_v v204), L)
  | _ => .fail
theorem impl_isSide_Fok : COk Try.prog 146 impl_isSide_F true := by
  intro F L H args r L' hs ha hr
  unfold impl_isSide_F at hr
  split at hr
  · rename_i v204
    have hy := impl_isSide_tot v204
    generalize impl_isSide_v v204 = y at hy hr
    simp only [Tree.run, Option.some.injEq, Prod.mk.injEq] at hr
    obtain ⟨rfl, rfl⟩ := hr
    exact call_ok0 hs (fun k => (([] : List AV)[k]?).getD .top) [.int .i64 v204] [.int .i64 v204] (fun F' h0 hi hρ => ⟨by simp [DVs.av, DV.av, BR.av, hρ], impl_isSide_fn v204 F' (by rw [hi]; rfl) (st_nil hi) ⟨trivial, trivial⟩ hy⟩) rfl
  · cases hr
/-! impl.length[float32] -/
noncomputable def impl_lengthF_LO (v208 : List Nat) : LOr := fun id e L =>
  match id with
  | _ => .fail
noncomputable def impl_lengthF_tab : List (FuncId × DFn × Bool) := []
theorem impl_lengthF_hO : OrcOk Try.prog (tabD impl_lengthF_tab) (tabM impl_lengthF_tab) := tabD_nil _
noncomputable def impl_lengthF_T (v208 : List Nat) : Tree (Int) :=
  .leaf ((v208.length : Nat) : Int)

noncomputable def impl_lengthF_g (v208 : List Nat) : Option (Int) := (impl_lengthF_T v208).run
def impl_lengthF_enc (v208 : List Nat) (y : Int) : Rs := (.int .i64 y, [])
theorem impl_lengthF_den (v208 : List Nat) : (den TT (tabD impl_lengthF_tab) (tabM impl_lengthF_tab) (impl_lengthF_LO v208) (codeOf Try.f134) ([.bslc (BR.root 0) (.f32 v208)] ++ List.replicate (Try.f134.ntmps - ([.bslc (BR.root 0) (.f32 v208)] : List DV).length) .undef) []).bind (retD TT Try.f134.results.toList 0) = (impl_lengthF_T v208).bind fun y => .leaf (impl_lengthF_enc v208 y) := by kernel_rfl
theorem impl_lengthF_fn (v208 : List Nat) (F : Fr) (hm : F.ids.length = 0) (h0 : St F [] F.H0) (hA : DVs.Ok F [] [.bslc (BR.root 0) (.f32 v208)]) {y : Int} (hy : impl_lengthF_g v208 = some y) : ∃ H', FnOk Try.prog 134 (DVs.av F [.bslc (BR.root 0) (.f32 v208)]) F.H0 ((impl_lengthF_enc v208 y).1.av F) H' ∧ St F (impl_lengthF_enc v208 y).2 H' ∧ (impl_lengthF_enc v208 y).1.Ok F (impl_lengthF_enc v208 y).2 :=
  fn_fin tok impl_lengthF_hO mixed Try.func134 Try.call134 (by kernel_rfl) (LoopsOk_eq (l := []) (by kernel_rfl) trivial) (impl_lengthF_den v208) hy hm h0 hA
def impl_lengthF_v (v208 : List Nat) : Int :=
  ((v208.length : Nat) : Int)
theorem impl_lengthF_tot (v208 : List Nat) : impl_lengthF_g v208 = some (impl_lengthF_v v208) := by
  unfold impl_lengthF_g impl_lengthF_T impl_lengthF_v
  simp only [Tree.run]
  repeat' (first | rfl | split)
noncomputable def impl_lengthF_F : DFn := fun args L =>
  match args with
  | [a1] =>
    optT (rowF32 L a1) fun v208 =>
    .leaf (.int .i64 (impl_lengthF_v v208), L)
  | _ => .fail
theorem impl_lengthF_Fok : COk Try.prog 134 impl_lengthF_F true := by
  intro F L H args r L' hs ha hr
  unfold impl_lengthF_F at hr
  split at hr
  · rename_i a1
    obtain ⟨v208, hv208, hr⟩ := optT_run hr
    have hy := impl_lengthF_tot v208
    generalize impl_lengthF_v v208 = y at hy hr
    simp only [Tree.run, Option.some.injEq, Prod.mk.injEq] at hr
    obtain ⟨rfl, rfl⟩ := hr
    exact call_ok0 hs (fun k => (([a1.av F] : List AV)[k]?).getD .top) [a1] [.bslc (BR.root 0) (.f32 v208)] (fun F' h0 hi hρ => ⟨by simp [DVs.av, DV.av, BR.av, hρ], impl_lengthF_fn v208 F' (by rw [hi]; rfl) (st_nil hi) ⟨bslc_ok hi (by rw [h0, hρ]; exact rowF32_ok hs (DVs.okAt ha 0 rfl) hv208), trivial⟩ hy⟩) rfl
  · cases hr
/-! math.IsNaN -/
noncomputable def math_IsNaN_LO (v216 : Nat) : LOr := fun id e L =>
  match id with
  | _ => .fail
noncomputable def math_IsNaN_tab : List (FuncId × DFn × Bool) := []
theorem math_IsNaN_hO : OrcOk Try.prog (tabD math_IsNaN_tab) (tabM math_IsNaN_tab) := tabD_nil _
noncomputable def math_IsNaN_T (v216 : Nat) : Tree (Bool) :=
  .leaf (!feq .f64 v216 v216)

noncomputable def math_IsNaN_g (v216 : Nat) : Option (Bool) := (math_IsNaN_T v216).run
def math_IsNaN_enc (v216 : Nat) (y : Bool) : Rs := (.bool y, [])
theorem math_IsNaN_den (v216 : Nat) : (den TT (tabD math_IsNaN_tab) (tabM math_IsNaN_tab) (math_IsNaN_LO v216) (codeOf Try.f169) ([.flt .f64 v216] ++ List.replicate (Try.f169.ntmps - ([.flt .f64 v216] : List DV).length) .undef) []).bind (retD TT Try.f169.results.toList 0) = (math_IsNaN_T v216).bind fun y => .leaf (math_IsNaN_enc v216 y) := by kernel_rfl
theorem math_IsNaN_fn (v216 : Nat) (F : Fr) (hm : F.ids.length = 0) (h0 : St F [] F.H0) (hA : DVs.Ok F [] [.flt .f64 v216]) {y : Bool} (hy : math_IsNaN_g v216 = some y) : ∃ H', FnOk Try.prog 169 (DVs.av F [.flt .f64 v216]) F.H0 ((math_IsNaN_enc v216 y).1.av F) H' ∧ St F (math_IsNaN_enc v216 y).2 H' ∧ (math_IsNaN_enc v216 y).1.Ok F (math_IsNaN_enc v216 y).2 :=
  fn_fin tok math_IsNaN_hO mixed Try.func169 Try.call169 (by kernel_rfl) (LoopsOk_eq (l := []) (by kernel_rfl) trivial) (math_IsNaN_den v216) hy hm h0 hA
def math_IsNaN_v (v216 : Nat) : Bool :=
  !feq .f64 v216 v216
theorem math_IsNaN_tot (v216 : Nat) : math_IsNaN_g v216 = some (math_IsNaN_v v216) := by
  unfold math_IsNaN_g math_IsNaN_T math_IsNaN_v
  simp only [Tree.run]
  repeat' (first | rfl | split)
noncomputable def math_IsNaN_F : DFn := fun args L =>
  match args with
  | [.flt .f64 v216] =>
    .leaf (.bool (math_IsNaN_v v216), L)
  | _ => .fail
theorem math_IsNaN_Fok : COk Try.prog 169 math_IsNaN_F true := by
  intro F L H args r L' hs ha hr
  unfold math_IsNaN_F at hr
  split at hr
  · rename_i v216
    have hy := math_IsNaN_tot v216
    generalize math_IsNaN_v v216 = y at hy hr
    simp only [Tree.run, Option.some.injEq, Prod.mk.injEq] at hr
    obtain ⟨rfl, rfl⟩ := hr
    exact call_ok0 hs (fun k => (([] : List AV)[k]?).getD .top) [.flt .f64 v216] [.flt .f64 v216] (fun F' h0 hi hρ => ⟨by simp [DVs.av, DV.av, BR.av, hρ], math_IsNaN_fn v216 F' (by rw [hi]; rfl) (st_nil hi) ⟨trivial, trivial⟩ hy⟩) rfl
  · cases hr
/-! math.IsInf -/
noncomputable def math_IsInf_LO (v217 : Nat) (v218 : Int) : LOr := fun id e L =>
  match id with
  | _ => .fail
noncomputable def math_IsInf_tab : List (FuncId × DFn × Bool) := [(104, Abs_F, true)]
theorem math_IsInf_hO : OrcOk Try.prog (tabD math_IsInf_tab) (tabM math_IsInf_tab) := tabD_cons Abs_Fok (tabD_nil _)
noncomputable def math_IsInf_T (v217 : Nat) (v218 : Int) : Tree (Bool) :=
  (.br (decide (v218 = (0 : Int))) (
   .leaf (fgrt .f64 (fabs v217) (9218868437227405311 : Nat))
  ) (
   (.br (decide (v218 < (0 : Int))) (
    .leaf (fgrt .f64 (fneg .f64 v217) (9218868437227405311 : Nat))
   ) (
    .leaf (fgrt .f64 v217 (9218868437227405311 : Nat))
   ))
  ))

noncomputable def math_IsInf_g (v217 : Nat) (v218 : Int) : Option (Bool) := (math_IsInf_T v217 v218).run
def math_IsInf_enc (v217 : Nat) (v218 : Int) (y : Bool) : Rs := (.bool y, [])
theorem math_IsInf_den (v217 : Nat) (v218 : Int) : (den TT (tabD math_IsInf_tab) (tabM math_IsInf_tab) (math_IsInf_LO v217 v218) (codeOf Try.f170) ([.flt .f64 v217, .int .i64 v218] ++ List.replicate (Try.f170.ntmps - ([.flt .f64 v217, .int .i64 v218] : List DV).length) .undef) []).bind (retD TT Try.f170.results.toList 0) = (math_IsInf_T v217 v218).bind fun y => .leaf (math_IsInf_enc v217 v218 y) := by kernel_rfl
theorem math_IsInf_fn (v217 : Nat) (v218 : Int) (F : Fr) (hm : F.ids.length = 0) (h0 : St F [] F.H0) (hA : DVs.Ok F [] [.flt .f64 v217, .int .i64 v218]) {y : Bool} (hy : math_IsInf_g v217 v218 = some y) : ∃ H', FnOk Try.prog 170 (DVs.av F [.flt .f64 v217, .int .i64 v218]) F.H0 ((math_IsInf_enc v217 v218 y).1.av F) H' ∧ St F (math_IsInf_enc v217 v218 y).2 H' ∧ (math_IsInf_enc v217 v218 y).1.Ok F (math_IsInf_enc v217 v218 y).2 :=
  fn_fin tok math_IsInf_hO mixed Try.func170 Try.call170 (by kernel_rfl) (LoopsOk_eq (l := []) (by kernel_rfl) trivial) (math_IsInf_den v217 v218) hy hm h0 hA
def math_IsInf_v (v217 : Nat) (v218 : Int) : Bool :=
  if (decide (v218 = (0 : Int))) = true then (
   fgrt .f64 (fabs v217) (9218868437227405311 : Nat)
  ) else (
   if (decide (v218 < (0 : Int))) = true then (
    fgrt .f64 (fneg .f64 v217) (9218868437227405311 : Nat)
   ) else (
    fgrt .f64 v217 (9218868437227405311 : Nat)
   )
  )
theorem math_IsInf_tot (v217 : Nat) (v218 : Int) : math_IsInf_g v217 v218 = some (math_IsInf_v v217 v218) := by
  unfold math_IsInf_g math_IsInf_T math_IsInf_v
  simp only [Tree.run]
  repeat' (first | rfl | split)
noncomputable def math_IsInf_F : DFn := fun args L =>
  match args with
  | [.flt .f64 v217, .int .i64 v218] =>
    .leaf (.bool (math_IsInf_v v217 v218), L)
  | _ => .fail
theorem math_IsInf_Fok : COk Try.prog 170 math_IsInf_F true := by
  intro F L H args r L' hs ha hr
  unfold math_IsInf_F at hr
  split at hr
  · rename_i v217 v218
    have hy := math_IsInf_tot v217 v218
    generalize math_IsInf_v v217 v218 = y at hy hr
    simp only [Tree.run, Option.some.injEq, Prod.mk.injEq] at hr
    obtain ⟨rfl, rfl⟩ := hr
    exact call_ok0 hs (fun k => (([] : List AV)[k]?).getD .top) [.flt .f64 v217, .int .i64 v218] [.flt .f64 v217, .int .i64 v218] (fun F' h0 hi hρ => ⟨by simp [DVs.av, DV.av, BR.av, hρ], math_IsInf_fn v217 v218 F' (by rw [hi]; rfl) (st_nil hi) ⟨trivial, trivial, trivial⟩ hy⟩) rfl
  · cases hr
/-! impl.isFinite64 -/
noncomputable def impl_isFinite64_LO (v215 : Nat) : LOr := fun id e L =>
  match id with
  | _ => .fail
noncomputable def impl_isFinite64_tab : List (FuncId × DFn × Bool) := [(169, math_IsNaN_F, true), (170, math_IsInf_F, true)]
theorem impl_isFinite64_hO : OrcOk Try.prog (tabD impl_isFinite64_tab) (tabM impl_isFinite64_tab) := tabD_cons math_IsNaN_Fok (tabD_cons math_IsInf_Fok (tabD_nil _))
noncomputable def impl_isFinite64_T (v215 : Nat) : Tree (Bool) :=
  (.br (!(math_IsNaN_v v215)) (
   .leaf (!(math_IsInf_v v215 (0 : Int)))
  ) (
   .leaf false
  ))

noncomputable def impl_isFinite64_g (v215 : Nat) : Option (Bool) := (impl_isFinite64_T v215).run
def impl_isFinite64_enc (v215 : Nat) (y : Bool) : Rs := (.bool y, [])
theorem impl_isFinite64_den (v215 : Nat) : (den TT (tabD impl_isFinite64_tab) (tabM impl_isFinite64_tab) (impl_isFinite64_LO v215) (codeOf Try.f151) ([.flt .f64 v215] ++ List.replicate (Try.f151.ntmps - ([.flt .f64 v215] : List DV).length) .undef) []).bind (retD TT Try.f151.results.toList 0) = (impl_isFinite64_T v215).bind fun y => .leaf (impl_isFinite64_enc v215 y) := by kernel_rfl
theorem impl_isFinite64_fn (v215 : Nat) (F : Fr) (hm : F.ids.length = 0) (h0 : St F [] F.H0) (hA : DVs.Ok F [] [.flt .f64 v215]) {y : Bool} (hy : impl_isFinite64_g v215 = some y) : ∃ H', FnOk Try.prog 151 (DVs.av F [.flt .f64 v215]) F.H0 ((impl_isFinite64_enc v215 y).1.av F) H' ∧ St F (impl_isFinite64_enc v215 y).2 H' ∧ (impl_isFinite64_enc v215 y).1.Ok F (impl_isFinite64_enc v215 y).2 :=
  fn_fin tok impl_isFinite64_hO mixed Try.func151 Try.call151 (by kernel_rfl) (LoopsOk_eq (l := []) (by kernel_rfl) trivial) (impl_isFinite64_den v215) hy hm h0 hA
def impl_isFinite64_v (v215 : Nat) : Bool :=
  if (!(math_IsNaN_v v215)) = true then (
   !(math_IsInf_v v215 (0 : Int))
  ) else (
   false
  )
theorem impl_isFinite64_tot (v215 : Nat) : impl_isFinite64_g v215 = some (impl_isFinite64_v v215) := by
  unfold impl_isFinite64_g impl_isFinite64_T impl_isFinite64_v
  simp only [Tree.run]
  repeat' (first | rfl | split)
noncomputable def impl_isFinite64_F : DFn := fun args L =>
  match args with
  | [.flt .f64 v215] =>
    .leaf (.bool (impl_isFinite64_v v215), L)
  | _ => .fail
theorem impl_isFinite64_Fok : COk Try.prog 151 impl_isFinite64_F true := by
  intro F L H args r L' hs ha hr
  unfold impl_isFinite64_F at hr
  split at hr
  · rename_i v215
    have hy := impl_isFinite64_tot v215
    generalize impl_isFinite64_v v215 = y at hy hr
    simp only [Tree.run, Option.some.injEq, Prod.mk.injEq] at hr
    obtain ⟨rfl, rfl⟩ := hr
    exact call_ok0 hs (fun k => (([] : List AV)[k]?).getD .top) [.flt .f64 v215] [.flt .f64 v215] (fun F' h0 hi hρ => ⟨by simp [DVs.av, DV.av, BR.av, hρ], impl_isFinite64_fn v215 F' (by rw [hi]; rfl) (st_nil hi) ⟨trivial, trivial⟩ hy⟩) rfl
  · cases hr
/-! impl.IsFinite -/
noncomputable def impl_IsFinite_LO (v214 : Nat) : LOr := fun id e L =>
  match id with
  | _ => .fail
noncomputable def impl_IsFinite_tab : List (FuncId × DFn × Bool) := [(151, impl_isFinite64_F, true)]
theorem impl_IsFinite_hO : OrcOk Try.prog (tabD impl_IsFinite_tab) (tabM impl_IsFinite_tab) := tabD_cons impl_isFinite64_Fok (tabD_nil _)
noncomputable def impl_IsFinite_T (v214 : Nat) : Tree (Bool) :=
  .leaf (impl_isFinite64_v (wid v214))

noncomputable def impl_IsFinite_g (v214 : Nat) : Option (Bool) := (impl_IsFinite_T v214).run
def impl_IsFinite_enc (v214 : Nat) (y : Bool) : Rs := (.bool y, [])
theorem impl_IsFinite_den (v214 : Nat) : (den TT (tabD impl_IsFinite_tab) (tabM impl_IsFinite_tab) (impl_IsFinite_LO v214) (codeOf Try.f103) ([.flt .f32 v214] ++ List.replicate (Try.f103.ntmps - ([.flt .f32 v214] : List DV).length) .undef) []).bind (retD TT Try.f103.results.toList 0) = (impl_IsFinite_T v214).bind fun y => .leaf (impl_IsFinite_enc v214 y) := by kernel_rfl
theorem impl_IsFinite_fn (v214 : Nat) (F : Fr) (hm : F.ids.length = 0) (h0 : St F [] F.H0) (hA : DVs.Ok F [] [.flt .f32 v214]) {y : Bool} (hy : impl_IsFinite_g v214 = some y) : ∃ H', FnOk Try.prog 103 (DVs.av F [.flt .f32 v214]) F.H0 ((impl_IsFinite_enc v214 y).1.av F) H' ∧ St F (impl_IsFinite_enc v214 y).2 H' ∧ (impl_IsFinite_enc v214 y).1.Ok F (impl_IsFinite_enc v214 y).2 :=
  fn_fin tok impl_IsFinite_hO mixed Try.func103 Try.call103 (by kernel_rfl) (LoopsOk_eq (l := []) (by kernel_rfl) trivial) (impl_IsFinite_den v214) hy hm h0 hA
def impl_IsFinite_v (v214 : Nat) : Bool :=
  (impl_isFinite64_v (wid v214))
theorem impl_IsFinite_tot (v214 : Nat) : impl_IsFinite_g v214 = some (impl_IsFinite_v v214) := by
  unfold impl_IsFinite_g impl_IsFinite_T impl_IsFinite_v
  simp only [Tree.run]
  repeat' (first | rfl | split)
noncomputable def impl_IsFinite_F : DFn := fun args L =>
  match args with
  | [.flt .f32 v214] =>
    .leaf (.bool (impl_IsFinite_v v214), L)
  | _ => .fail
theorem impl_IsFinite_Fok : COk Try.prog 103 impl_IsFinite_F true := by
  intro F L H args r L' hs ha hr
  unfold impl_IsFinite_F at hr
  split at hr
  · rename_i v214
    have hy := impl_IsFinite_tot v214
    generalize impl_IsFinite_v v214 = y at hy hr
    simp only [Tree.run, Option.some.injEq, Prod.mk.injEq] at hr
    obtain ⟨rfl, rfl⟩ := hr
    exact call_ok0 hs (fun k => (([] : List AV)[k]?).getD .top) [.flt .f32 v214] [.flt .f32 v214] (fun F' h0 hi hρ => ⟨by simp [DVs.av, DV.av, BR.av, hρ], impl_IsFinite_fn v214 F' (by rw [hi]; rfl) (st_nil hi) ⟨trivial, trivial⟩ hy⟩) rfl
  · cases hr
/-! impl.areFinite$1 -/
noncomputable def impl_areFinite_1_LO (v213 : Nat) : LOr := fun id e L =>
  match id with
  | _ => .fail
noncomputable def impl_areFinite_1_tab : List (FuncId × DFn × Bool) := [(103, impl_IsFinite_F, true)]
theorem impl_areFinite_1_hO : OrcOk Try.prog (tabD impl_areFinite_1_tab) (tabM impl_areFinite_1_tab) := tabD_cons impl_IsFinite_Fok (tabD_nil _)
noncomputable def impl_areFinite_1_T (v213 : Nat) : Tree (Bool) :=
  .leaf (!(impl_IsFinite_v v213))

noncomputable def impl_areFinite_1_g (v213 : Nat) : Option (Bool) := (impl_areFinite_1_T v213).run
def impl_areFinite_1_enc (v213 : Nat) (y : Bool) : Rs := (.bool y, [])
theorem impl_areFinite_1_den (v213 : Nat) : (den TT (tabD impl_areFinite_1_tab) (tabM impl_areFinite_1_tab) (impl_areFinite_1_LO v213) (codeOf Try.f165) ([.flt .f32 v213] ++ List.replicate (Try.f165.ntmps - ([.flt .f32 v213] : List DV).length) .undef) []).bind (retD TT Try.f165.results.toList 0) = (impl_areFinite_1_T v213).bind fun y => .leaf (impl_areFinite_1_enc v213 y) := by kernel_rfl
theorem impl_areFinite_1_fn (v213 : Nat) (F : Fr) (hm : F.ids.length = 0) (h0 : St F [] F.H0) (hA : DVs.Ok F [] [.flt .f32 v213]) {y : Bool} (hy : impl_areFinite_1_g v213 = some y) : ∃ H', FnOk Try.prog 165 (DVs.av F [.flt .f32 v213]) F.H0 ((impl_areFinite_1_enc v213 y).1.av F) H' ∧ St F (impl_areFinite_1_enc v213 y).2 H' ∧ (impl_areFinite_1_enc v213 y).1.Ok F (impl_areFinite_1_enc v213 y).2 :=
  fn_fin tok impl_areFinite_1_hO mixed Try.func165 Try.call165 (by kernel_rfl) (LoopsOk_eq (l := []) (by kernel_rfl) trivial) (impl_areFinite_1_den v213) hy hm h0 hA
def impl_areFinite_1_v (v213 : Nat) : Bool :=
  !(impl_IsFinite_v v213)
theorem impl_areFinite_1_tot (v213 : Nat) : impl_areFinite_1_g v213 = some (impl_areFinite_1_v v213) := by
  unfold impl_areFinite_1_g impl_areFinite_1_T impl_areFinite_1_v
  simp only [Tree.run]
  repeat' (first | rfl | split)
noncomputable def impl_areFinite_1_F : DFn := fun args L =>
  match args with
  | [.flt .f32 v213] =>
    .leaf (.bool (impl_areFinite_1_v v213), L)
  | _ => .fail
theorem impl_areFinite_1_Fok : COk Try.prog 165 impl_areFinite_1_F true := by
  intro F L H args r L' hs ha hr
  unfold impl_areFinite_1_F at hr
  split at hr
  · rename_i v213
    have hy := impl_areFinite_1_tot v213
    generalize impl_areFinite_1_v v213 = y at hy hr
    simp only [Tree.run, Option.some.injEq, Prod.mk.injEq] at hr
    obtain ⟨rfl, rfl⟩ := hr
    exact call_ok0 hs (fun k => (([] : List AV)[k]?).getD .top) [.flt .f32 v213] [.flt .f32 v213] (fun F' h0 hi hρ => ⟨by simp [DVs.av, DV.av, BR.av, hρ], impl_areFinite_1_fn v213 F' (by rw [hi]; rfl) (st_nil hi) ⟨trivial, trivial⟩ hy⟩) rfl
  · cases hr
/-! slices.IndexFunc[list of float32,float32] -/
noncomputable def slices_IndexFuncF_l0_T (v211 : List Nat) (s : Int) : Tree ((Int) ⊕ ((Int) ⊕ (Unit))) :=
  (.br (decide (s < ((v211.length : Nat) : Int))) (
   (.grd (inb s v211.length) <|
   (.br (impl_areFinite_1_v (nth v211 (Int.toNat s))) (
    .leaf (.inr (.inl s))
   ) (
    .leaf (.inl (IntKind.i64.wrap (s + (1 : Int))))
   )))
  ) (
   .leaf (.inr (.inr ()))
  ))

noncomputable def slices_IndexFuncF_l0_g (v211 : List Nat) (s0 : Int) : Option ((Int) ⊕ (Unit)) := whileM (fun s => (slices_IndexFuncF_l0_T v211 s).run) s0
def slices_IndexFuncF_l0_E (v211 : List Nat) (s : Int) : Sd := ([.bslc (BR.root 0) (.f32 v211), .fn 165 [], .top, .top, .top, .top, .top, .int .i64 ((v211.length : Nat) : Int), .int .i64 s, .top, .top, .top, .top, .top, .top, .top, .top, .top, .top], [])
def slices_IndexFuncF_l0_X (v211 : List Nat) (x : (Int) ⊕ (Unit)) : Out := (match x with | .inl x => (.ret, [.top, .top, .top, .top, .int .i64 x, .top, .top, .top, .top, .top, .top, .top, .top, .top, .top, .top, .top, .top, .top], []) | .inr x => (.normal, [.top, .top, .top, .top, .top, .top, .top, .top, .top, .top, .top, .top, .top, .top, .top, .top, .top, .top, .top], []))
def slices_IndexFuncF_l0_kill : List Nat := [0, 0, 1, 1, 1, 1, 1, 0, 0, 1, 1, 1, 1, 1, 1, 1, 1, 1, 1]
def slices_IndexFuncF_l0_nx : Exit → List Nat
  | .exit 0 => [1, 1, 1, 1, 1, 1, 1, 1, 1, 1, 1, 1, 1, 1, 1, 1, 1, 1, 1]
  | .ret => [1, 1, 1, 1, 0, 1, 1, 1, 1, 1, 1, 1, 1, 1, 1, 1, 1, 1, 1]
  | _ => []
noncomputable def slices_IndexFuncF_LO (v211 : List Nat) : LOr := fun id e L =>
  match id with
  | 0 => .need (normA 0 slices_IndexFuncF_l0_kill e L = some (slices_IndexFuncF_l0_E v211 (gI (vAt e 8)))) (.call (slices_IndexFuncF_l0_g v211 (gI (vAt e 8))) fun x => .sum x (fun b0 => .leaf (slices_IndexFuncF_l0_X v211 (.inl b0))) (fun c0 => .leaf (slices_IndexFuncF_l0_X v211 (.inr c0))))
  | _ => .fail
noncomputable def slices_IndexFuncF_tab : List (FuncId × DFn × Bool) := [(165, impl_areFinite_1_F, true)]
theorem slices_IndexFuncF_hO : OrcOk Try.prog (tabD slices_IndexFuncF_tab) (tabM slices_IndexFuncF_tab) := tabD_cons impl_areFinite_1_Fok (tabD_nil _)
theorem slices_IndexFuncF_l0_be (v211 : List Nat) (s : Int) : bodyT TT (tabD slices_IndexFuncF_tab) (tabM slices_IndexFuncF_tab) (slices_IndexFuncF_LO v211) 0 slices_IndexFuncF_l0_kill slices_IndexFuncF_l0_nx (bodyOf Try.f178 0) 0 (slices_IndexFuncF_l0_E v211 s) = (slices_IndexFuncF_l0_T v211 s).bind fun y => .leaf (outS (slices_IndexFuncF_l0_E v211) (slices_IndexFuncF_l0_X v211) y) := by kernel_rfl
theorem slices_IndexFuncF_l0_ok (v211 : List Nat) : LSound Try.prog 0 (slices_IndexFuncF_LO v211) 0 (bodyOf Try.f178 0) := by
  intro e L out h
  exact lo_ok (E := slices_IndexFuncF_l0_E v211) (gT := slices_IndexFuncF_l0_T v211) (X := slices_IndexFuncF_l0_X v211) (s0 := (gI (vAt e 8))) tok slices_IndexFuncF_hO mixed (LoopsOk_eq (l := []) (by kernel_rfl) trivial) (slices_IndexFuncF_l0_be v211) rfl (by intro x; (cases x with | inl b => rfl | inr x => exact rfl)) h
noncomputable def slices_IndexFuncF_T (v211 : List Nat) : Tree (Int) :=
  (.need (some (slices_IndexFuncF_l0_E v211 (0 : Int)) = some (slices_IndexFuncF_l0_E v211 (0 : Int))) <|
  (.call (slices_IndexFuncF_l0_g v211 (0 : Int)) fun v221 =>
  (.sum v221 (fun v222 =>
   .leaf v222
  ) (fun v223 =>
   .leaf (-1 : Int)
  ))))

noncomputable def slices_IndexFuncF_g (v211 : List Nat) : Option (Int) := (slices_IndexFuncF_T v211).run
def slices_IndexFuncF_enc (v211 : List Nat) (y : Int) : Rs := (.int .i64 y, [])
theorem slices_IndexFuncF_den (v211 : List Nat) : (den TT (tabD slices_IndexFuncF_tab) (tabM slices_IndexFuncF_tab) (slices_IndexFuncF_LO v211) (codeOf Try.f178) ([.bslc (BR.root 0) (.f32 v211), .fn 165 []] ++ List.replicate (Try.f178.ntmps - ([.bslc (BR.root 0) (.f32 v211), .fn 165 []] : List DV).length) .undef) []).bind (retD TT Try.f178.results.toList 0) = (slices_IndexFuncF_T v211).bind fun y => .leaf (slices_IndexFuncF_enc v211 y) := by kernel_rfl
theorem slices_IndexFuncF_fn (v211 : List Nat) (F : Fr) (hm : F.ids.length = 0) (h0 : St F [] F.H0) (hA : DVs.Ok F [] [.bslc (BR.root 0) (.f32 v211), .fn 165 []]) {y : Int} (hy : slices_IndexFuncF_g v211 = some y) : ∃ H', FnOk Try.prog 178 (DVs.av F [.bslc (BR.root 0) (.f32 v211), .fn 165 []]) F.H0 ((slices_IndexFuncF_enc v211 y).1.av F) H' ∧ St F (slices_IndexFuncF_enc v211 y).2 H' ∧ (slices_IndexFuncF_enc v211 y).1.Ok F (slices_IndexFuncF_enc v211 y).2 :=
  fn_fin tok slices_IndexFuncF_hO mixed Try.func178 Try.call178 (by kernel_rfl) (LoopsOk_eq (l := [(0, bodyOf Try.f178 0)]) (by kernel_rfl) ⟨slices_IndexFuncF_l0_ok v211, trivial⟩) (slices_IndexFuncF_den v211) hy hm h0 hA
noncomputable def slices_IndexFuncF_F : DFn := fun args L =>
  match args with
  | [a1, .fn 165 []] =>
    optT (rowF32 L a1) fun v211 =>
    .call (slices_IndexFuncF_g v211) fun y => .leaf (.int .i64 y, L)
  | _ => .fail
theorem slices_IndexFuncF_Fok : COk Try.prog 178 slices_IndexFuncF_F true := by
  intro F L H args r L' hs ha hr
  unfold slices_IndexFuncF_F at hr
  split at hr
  · rename_i a1
    obtain ⟨v211, hv211, hr⟩ := optT_run hr
    simp only [Tree.run] at hr
    obtain ⟨y, hy, hr⟩ := Option.bind_eq_some_iff.1 hr
    simp only [Tree.run, Option.some.injEq, Prod.mk.injEq] at hr
    obtain ⟨rfl, rfl⟩ := hr
    exact call_ok0 hs (fun k => (([a1.av F] : List AV)[k]?).getD .top) [a1, .fn 165 []] [.bslc (BR.root 0) (.f32 v211), .fn 165 []] (fun F' h0 hi hρ => ⟨by simp [DVs.av, DV.av, BR.av, hρ], slices_IndexFuncF_fn v211 F' (by rw [hi]; rfl) (st_nil hi) ⟨bslc_ok hi (by rw [h0, hρ]; exact rowF32_ok hs (DVs.okAt ha 0 rfl) hv211), trivial, trivial⟩ hy⟩) rfl
  · cases hr
/-! slices.ContainsFunc[list of float32,float32] -/
noncomputable def slices_ContainsFuncF_LO (v210 : List Nat) : LOr := fun id e L =>
  match id with
  | _ => .fail
noncomputable def slices_ContainsFuncF_tab : List (FuncId × DFn × Bool) := [(178, slices_IndexFuncF_F, true)]
theorem slices_ContainsFuncF_hO : OrcOk Try.prog (tabD slices_ContainsFuncF_tab) (tabM slices_ContainsFuncF_tab) := tabD_cons slices_IndexFuncF_Fok (tabD_nil _)
noncomputable def slices_ContainsFuncF_T (v210 : List Nat) : Tree (Bool) :=
  (.call (slices_IndexFuncF_g v210) fun v224 =>
  .leaf (decide ((0 : Int) ≤ v224)))

noncomputable def slices_ContainsFuncF_g (v210 : List Nat) : Option (Bool) := (slices_ContainsFuncF_T v210).run
def slices_ContainsFuncF_enc (v210 : List Nat) (y : Bool) : Rs := (.bool y, [])
theorem slices_ContainsFuncF_den (v210 : List Nat) : (den TT (tabD slices_ContainsFuncF_tab) (tabM slices_ContainsFuncF_tab) (slices_ContainsFuncF_LO v210) (codeOf Try.f164) ([.bslc (BR.root 0) (.f32 v210), .fn 165 []] ++ List.replicate (Try.f164.ntmps - ([.bslc (BR.root 0) (.f32 v210), .fn 165 []] : List DV).length) .undef) []).bind (retD TT Try.f164.results.toList 0) = (slices_ContainsFuncF_T v210).bind fun y => .leaf (slices_ContainsFuncF_enc v210 y) := by kernel_rfl
theorem slices_ContainsFuncF_fn (v210 : List Nat) (F : Fr) (hm : F.ids.length = 0) (h0 : St F [] F.H0) (hA : DVs.Ok F [] [.bslc (BR.root 0) (.f32 v210), .fn 165 []]) {y : Bool} (hy : slices_ContainsFuncF_g v210 = some y) : ∃ H', FnOk Try.prog 164 (DVs.av F [.bslc (BR.root 0) (.f32 v210), .fn 165 []]) F.H0 ((slices_ContainsFuncF_enc v210 y).1.av F) H' ∧ St F (slices_ContainsFuncF_enc v210 y).2 H' ∧ (slices_ContainsFuncF_enc v210 y).1.Ok F (slices_ContainsFuncF_enc v210 y).2 :=
  fn_fin tok slices_ContainsFuncF_hO mixed Try.func164 Try.call164 (by kernel_rfl) (LoopsOk_eq (l := []) (by kernel_rfl) trivial) (slices_ContainsFuncF_den v210) hy hm h0 hA
noncomputable def slices_ContainsFuncF_F : DFn := fun args L =>
  match args with
  | [a1, .fn 165 []] =>
    optT (rowF32 L a1) fun v210 =>
    .call (slices_ContainsFuncF_g v210) fun y => .leaf (.bool y, L)
  | _ => .fail
theorem slices_ContainsFuncF_Fok : COk Try.prog 164 slices_ContainsFuncF_F true := by
  intro F L H args r L' hs ha hr
  unfold slices_ContainsFuncF_F at hr
  split at hr
  · rename_i a1
    obtain ⟨v210, hv210, hr⟩ := optT_run hr
    simp only [Tree.run] at hr
    obtain ⟨y, hy, hr⟩ := Option.bind_eq_some_iff.1 hr
    simp only [Tree.run, Option.some.injEq, Prod.mk.injEq] at hr
    obtain ⟨rfl, rfl⟩ := hr
    exact call_ok0 hs (fun k => (([a1.av F] : List AV)[k]?).getD .top) [a1, .fn 165 []] [.bslc (BR.root 0) (.f32 v210), .fn 165 []] (fun F' h0 hi hρ => ⟨by simp [DVs.av, DV.av, BR.av, hρ], slices_ContainsFuncF_fn v210 F' (by rw [hi]; rfl) (st_nil hi) ⟨bslc_ok hi (by rw [h0, hρ]; exact rowF32_ok hs (DVs.okAt ha 0 rfl) hv210), trivial, trivial⟩ hy⟩) rfl
  · cases hr
/-! impl.areFinite -/
noncomputable def impl_areFinite_LO (v209 : List Nat) : LOr := fun id e L =>
  match id with
  | _ => .fail
noncomputable def impl_areFinite_tab : List (FuncId × DFn × Bool) := [(164, slices_ContainsFuncF_F, true)]
theorem impl_areFinite_hO : OrcOk Try.prog (tabD impl_areFinite_tab) (tabM impl_areFinite_tab) := tabD_cons slices_ContainsFuncF_Fok (tabD_nil _)
noncomputable def impl_areFinite_T (v209 : List Nat) : Tree (Bool) :=
  (.call (slices_ContainsFuncF_g v209) fun v225 =>
  .leaf (!v225))

noncomputable def impl_areFinite_g (v209 : List Nat) : Option (Bool) := (impl_areFinite_T v209).run
def impl_areFinite_enc (v209 : List Nat) (y : Bool) : Rs := (.bool y, [])
theorem impl_areFinite_den (v209 : List Nat) : (den TT (tabD impl_areFinite_tab) (tabM impl_areFinite_tab) (impl_areFinite_LO v209) (codeOf Try.f135) ([.bslc (BR.root 0) (.f32 v209)] ++ List.replicate (Try.f135.ntmps - ([.bslc (BR.root 0) (.f32 v209)] : List DV).length) .undef) []).bind (retD TT Try.f135.results.toList 0) = (impl_areFinite_T v209).bind fun y => .leaf (impl_areFinite_enc v209 y) := by kernel_rfl
theorem impl_areFinite_fn (v209 : List Nat) (F : Fr) (hm : F.ids.length = 0) (h0 : St F [] F.H0) (hA : DVs.Ok F [] [.bslc (BR.root 0) (.f32 v209)]) {y : Bool} (hy : impl_areFinite_g v209 = some y) : ∃ H', FnOk Try.prog 135 (DVs.av F [.bslc (BR.root 0) (.f32 v209)]) F.H0 ((impl_areFinite_enc v209 y).1.av F) H' ∧ St F (impl_areFinite_enc v209 y).2 H' ∧ (impl_areFinite_enc v209 y).1.Ok F (impl_areFinite_enc v209 y).2 :=
  fn_fin tok impl_areFinite_hO mixed Try.func135 Try.call135 (by kernel_rfl) (LoopsOk_eq (l := []) (by kernel_rfl) trivial) (impl_areFinite_den v209) hy hm h0 hA
noncomputable def impl_areFinite_F : DFn := fun args L =>
  match args with
  | [a1] =>
    optT (rowF32 L a1) fun v209 =>
    .call (impl_areFinite_g v209) fun y => .leaf (.bool y, L)
  | _ => .fail
theorem impl_areFinite_Fok : COk Try.prog 135 impl_areFinite_F true := by
  intro F L H args r L' hs ha hr
  unfold impl_areFinite_F at hr
  split at hr
  · rename_i a1
    obtain ⟨v209, hv209, hr⟩ := optT_run hr
    simp only [Tree.run] at hr
    obtain ⟨y, hy, hr⟩ := Option.bind_eq_some_iff.1 hr
    simp only [Tree.run, Option.some.injEq, Prod.mk.injEq] at hr
    obtain ⟨rfl, rfl⟩ := hr
    exact call_ok0 hs (fun k => (([a1.av F] : List AV)[k]?).getD .top) [a1] [.bslc (BR.root 0) (.f32 v209)] (fun F' h0 hi hρ => ⟨by simp [DVs.av, DV.av, BR.av, hρ], impl_areFinite_fn v209 F' (by rw [hi]; rfl) (st_nil hi) ⟨bslc_ok hi (by rw [h0, hρ]; exact rowF32_ok hs (DVs.okAt ha 0 rfl) hv209), trivial⟩ hy⟩) rfl
  · cases hr
/-! impl.ValidMatrix -/
noncomputable def impl_ValidMatrix_LO (v201 : Int) (v202 : Int) (v203 : List Nat) : LOr := fun id e L =>
  match id with
  | _ => .fail
noncomputable def impl_ValidMatrix_tab : List (FuncId × DFn × Bool) := [(146, impl_isSide_F, true), (134, impl_lengthF_F, true), (135, impl_areFinite_F, true)]
theorem impl_ValidMatrix_hO : OrcOk Try.prog (tabD impl_ValidMatrix_tab) (tabM impl_ValidMatrix_tab) := tabD_cons impl_isSide_Fok (tabD_cons impl_lengthF_Fok (tabD_cons impl_areFinite_Fok (tabD_nil _)))
noncomputable def impl_ValidMatrix_T (v201 : Int) (v202 : Int) (v203 : List Nat) : Tree (Bool) :=
  (.br (impl_isSide_v v201) (
   (.br (impl_isSide_v v202) (
    (.br (decide ((impl_lengthF_v v203) = IntKind.i64.wrap (v201 * v202))) (
     (.call (impl_areFinite_g v203) fun v226 =>
     .leaf v226)
    ) (
     .leaf false
    ))
   ) (
    .leaf false
   ))
  ) (
   .leaf false
  ))

noncomputable def impl_ValidMatrix_g (v201 : Int) (v202 : Int) (v203 : List Nat) : Option (Bool) := (impl_ValidMatrix_T v201 v202 v203).run
def impl_ValidMatrix_enc (v201 : Int) (v202 : Int) (v203 : List Nat) (y : Bool) : Rs := (.bool y, [])
theorem impl_ValidMatrix_den (v201 : Int) (v202 : Int) (v203 : List Nat) : (den TT (tabD impl_ValidMatrix_tab) (tabM impl_ValidMatrix_tab) (impl_ValidMatrix_LO v201 v202 v203) (codeOf Try.f98) ([.agg [.int .i64 v201, .int .i64 v202, .bslc (BR.root 0) (.f32 v203)]] ++ List.replicate (Try.f98.ntmps - ([.agg [.int .i64 v201, .int .i64 v202, .bslc (BR.root 0) (.f32 v203)]] : List DV).length) .undef) []).bind (retD TT Try.f98.results.toList 0) = (impl_ValidMatrix_T v201 v202 v203).bind fun y => .leaf (impl_ValidMatrix_enc v201 v202 v203 y) := by kernel_rfl
theorem impl_ValidMatrix_fn (v201 : Int) (v202 : Int) (v203 : List Nat) (F : Fr) (hm : F.ids.length = 0) (h0 : St F [] F.H0) (hA : DVs.Ok F [] [.agg [.int .i64 v201, .int .i64 v202, .bslc (BR.root 0) (.f32 v203)]]) {y : Bool} (hy : impl_ValidMatrix_g v201 v202 v203 = some y) : ∃ H', FnOk Try.prog 98 (DVs.av F [.agg [.int .i64 v201, .int .i64 v202, .bslc (BR.root 0) (.f32 v203)]]) F.H0 ((impl_ValidMatrix_enc v201 v202 v203 y).1.av F) H' ∧ St F (impl_ValidMatrix_enc v201 v202 v203 y).2 H' ∧ (impl_ValidMatrix_enc v201 v202 v203 y).1.Ok F (impl_ValidMatrix_enc v201 v202 v203 y).2 :=
  fn_fin tok impl_ValidMatrix_hO mixed Try.func98 Try.call98 (by kernel_rfl) (LoopsOk_eq (l := []) (by kernel_rfl) trivial) (impl_ValidMatrix_den v201 v202 v203) hy hm h0 hA
noncomputable def impl_ValidMatrix_F : DFn := fun args L =>
  match args with
  | [.agg [.int .i64 v201, .int .i64 v202, a1]] =>
    optT (rowF32 L a1) fun v203 =>
    .call (impl_ValidMatrix_g v201 v202 v203) fun y => .leaf (.bool y, L)
  | _ => .fail
theorem impl_ValidMatrix_Fok : COk Try.prog 98 impl_ValidMatrix_F true := by
  intro F L H args r L' hs ha hr
  unfold impl_ValidMatrix_F at hr
  split at hr
  · rename_i v201 v202 a1
    obtain ⟨v203, hv203, hr⟩ := optT_run hr
    simp only [Tree.run] at hr
    obtain ⟨y, hy, hr⟩ := Option.bind_eq_some_iff.1 hr
    simp only [Tree.run, Option.some.injEq, Prod.mk.injEq] at hr
    obtain ⟨rfl, rfl⟩ := hr
    exact call_ok0 hs (fun k => (([a1.av F] : List AV)[k]?).getD .top) [.agg [.int .i64 v201, .int .i64 v202, a1]] [.agg [.int .i64 v201, .int .i64 v202, .bslc (BR.root 0) (.f32 v203)]] (fun F' h0 hi hρ => ⟨by simp [DVs.av, DV.av, BR.av, hρ], impl_ValidMatrix_fn v201 v202 v203 F' (by rw [hi]; rfl) (st_nil hi) ⟨⟨trivial, trivial, bslc_ok hi (by rw [h0, hρ]; exact rowF32_ok hs (DVs.okAt (DVs.okAt ha 0 rfl) 2 rfl) hv203), trivial⟩, trivial⟩ hy⟩) rfl
  · cases hr
/-! impl.isSquare -/
noncomputable def impl_isSquare_LO (v232 : Int) (v233 : Int) (v234 : List Nat) : LOr := fun id e L =>
  match id with
  | _ => .fail
noncomputable def impl_isSquare_tab : List (FuncId × DFn × Bool) := [(98, impl_ValidMatrix_F, true)]
theorem impl_isSquare_hO : OrcOk Try.prog (tabD impl_isSquare_tab) (tabM impl_isSquare_tab) := tabD_cons impl_ValidMatrix_Fok (tabD_nil _)
noncomputable def impl_isSquare_T (v232 : Int) (v233 : Int) (v234 : List Nat) : Tree (Bool) :=
  (.call (impl_ValidMatrix_g v232 v233 v234) fun v235 =>
  (.br v235 (
   .leaf (decide (v232 = v233))
  ) (
   .leaf false
  )))

noncomputable def impl_isSquare_g (v232 : Int) (v233 : Int) (v234 : List Nat) : Option (Bool) := (impl_isSquare_T v232 v233 v234).run
def impl_isSquare_enc (v232 : Int) (v233 : Int) (v234 : List Nat) (y : Bool) : Rs := (.bool y, [])
theorem impl_isSquare_den (v232 : Int) (v233 : Int) (v234 : List Nat) : (den TT (tabD impl_isSquare_tab) (tabM impl_isSquare_tab) (impl_isSquare_LO v232 v233 v234) (codeOf Try.f89) ([.agg [.int .i64 v232, .int .i64 v233, .bslc (BR.root 0) (.f32 v234)]] ++ List.replicate (Try.f89.ntmps - ([.agg [.int .i64 v232, .int .i64 v233, .bslc (BR.root 0) (.f32 v234)]] : List DV).length) .undef) []).bind (retD TT Try.f89.results.toList 0) = (impl_isSquare_T v232 v233 v234).bind fun y => .leaf (impl_isSquare_enc v232 v233 v234 y) := by kernel_rfl
theorem impl_isSquare_fn (v232 : Int) (v233 : Int) (v234 : List Nat) (F : Fr) (hm : F.ids.length = 0) (h0 : St F [] F.H0) (hA : DVs.Ok F [] [.agg [.int .i64 v232, .int .i64 v233, .bslc (BR.root 0) (.f32 v234)]]) {y : Bool} (hy : impl_isSquare_g v232 v233 v234 = some y) : ∃ H', FnOk Try.prog 89 (DVs.av F [.agg [.int .i64 v232, .int .i64 v233, .bslc (BR.root 0) (.f32 v234)]]) F.H0 ((impl_isSquare_enc v232 v233 v234 y).1.av F) H' ∧ St F (impl_isSquare_enc v232 v233 v234 y).2 H' ∧ (impl_isSquare_enc v232 v233 v234 y).1.Ok F (impl_isSquare_enc v232 v233 v234 y).2 :=
  fn_fin tok impl_isSquare_hO mixed Try.func89 Try.call89 (by kernel_rfl) (LoopsOk_eq (l := []) (by kernel_rfl) trivial) (impl_isSquare_den v232 v233 v234) hy hm h0 hA
noncomputable def impl_isSquare_F : DFn := fun args L =>
  match args with
  | [.agg [.int .i64 v232, .int .i64 v233, a1]] =>
    optT (rowF32 L a1) fun v234 =>
    .call (impl_isSquare_g v232 v233 v234) fun y => .leaf (.bool y, L)
  | _ => .fail
theorem impl_isSquare_Fok : COk Try.prog 89 impl_isSquare_F true := by
  intro F L H args r L' hs ha hr
  unfold impl_isSquare_F at hr
  split at hr
  · rename_i v232 v233 a1
    obtain ⟨v234, hv234, hr⟩ := optT_run hr
    simp only [Tree.run] at hr
    obtain ⟨y, hy, hr⟩ := Option.bind_eq_some_iff.1 hr
    simp only [Tree.run, Option.some.injEq, Prod.mk.injEq] at hr
    obtain ⟨rfl, rfl⟩ := hr
    exact call_ok0 hs (fun k => (([a1.av F] : List AV)[k]?).getD .top) [.agg [.int .i64 v232, .int .i64 v233, a1]] [.agg [.int .i64 v232, .int .i64 v233, .bslc (BR.root 0) (.f32 v234)]] (fun F' h0 hi hρ => ⟨by simp [DVs.av, DV.av, BR.av, hρ], impl_isSquare_fn v232 v233 v234 F' (by rw [hi]; rfl) (st_nil hi) ⟨⟨trivial, trivial, bslc_ok hi (by rw [h0, hρ]; exact rowF32_ok hs (DVs.okAt (DVs.okAt ha 0 rfl) 2 rfl) hv234), trivial⟩, trivial⟩ hy⟩) rfl
  · cases hr
/-! (impl.Matrix).at -/
noncomputable def impl_Matrix_at_LO (v241 : Int) (v242 : Int) (v243 : List Nat) (v244 : Int) (v245 : Int) : LOr := fun id e L =>
  match id with
  | _ => .fail
noncomputable def impl_Matrix_at_tab : List (FuncId × DFn × Bool) := []
theorem impl_Matrix_at_hO : OrcOk Try.prog (tabD impl_Matrix_at_tab) (tabM impl_Matrix_at_tab) := tabD_nil _
noncomputable def impl_Matrix_at_T (v242 : Int) (v243 : List Nat) (v244 : Int) (v245 : Int) : Tree (Nat) :=
  (.grd (inb (IntKind.i64.wrap ((IntKind.i64.wrap (v244 * v242)) + v245)) v243.length) <|
  .leaf (nth v243 (Int.toNat (IntKind.i64.wrap ((IntKind.i64.wrap (v244 * v242)) + v245)))))

noncomputable def impl_Matrix_at_g (v242 : Int) (v243 : List Nat) (v244 : Int) (v245 : Int) : Option (Nat) := (impl_Matrix_at_T v242 v243 v244 v245).run
def impl_Matrix_at_enc (v241 : Int) (v242 : Int) (v243 : List Nat) (v244 : Int) (v245 : Int) (y : Nat) : Rs := (.flt .f32 y, [])
theorem impl_Matrix_at_den (v241 : Int) (v242 : Int) (v243 : List Nat) (v244 : Int) (v245 : Int) : (den TT (tabD impl_Matrix_at_tab) (tabM impl_Matrix_at_tab) (impl_Matrix_at_LO v241 v242 v243 v244 v245) (codeOf Try.f93) ([.agg [.int .i64 v241, .int .i64 v242, .bslc (BR.root 0) (.f32 v243)], .int .i64 v244, .int .i64 v245] ++ List.replicate (Try.f93.ntmps - ([.agg [.int .i64 v241, .int .i64 v242, .bslc (BR.root 0) (.f32 v243)], .int .i64 v244, .int .i64 v245] : List DV).length) .undef) []).bind (retD TT Try.f93.results.toList 0) = (impl_Matrix_at_T v242 v243 v244 v245).bind fun y => .leaf (impl_Matrix_at_enc v241 v242 v243 v244 v245 y) := by kernel_rfl
theorem impl_Matrix_at_fn (v241 : Int) (v242 : Int) (v243 : List Nat) (v244 : Int) (v245 : Int) (F : Fr) (hm : F.ids.length = 0) (h0 : St F [] F.H0) (hA : DVs.Ok F [] [.agg [.int .i64 v241, .int .i64 v242, .bslc (BR.root 0) (.f32 v243)], .int .i64 v244, .int .i64 v245]) {y : Nat} (hy : impl_Matrix_at_g v242 v243 v244 v245 = some y) : ∃ H', FnOk Try.prog 93 (DVs.av F [.agg [.int .i64 v241, .int .i64 v242, .bslc (BR.root 0) (.f32 v243)], .int .i64 v244, .int .i64 v245]) F.H0 ((impl_Matrix_at_enc v241 v242 v243 v244 v245 y).1.av F) H' ∧ St F (impl_Matrix_at_enc v241 v242 v243 v244 v245 y).2 H' ∧ (impl_Matrix_at_enc v241 v242 v243 v244 v245 y).1.Ok F (impl_Matrix_at_enc v241 v242 v243 v244 v245 y).2 :=
  fn_fin tok impl_Matrix_at_hO mixed Try.func93 Try.call93 (by kernel_rfl) (LoopsOk_eq (l := []) (by kernel_rfl) trivial) (impl_Matrix_at_den v241 v242 v243 v244 v245) hy hm h0 hA
noncomputable def impl_Matrix_at_F : DFn := fun args L =>
  match args with
  | [.agg [.int .i64 v241, .int .i64 v242, a1], .int .i64 v244, .int .i64 v245] =>
    optT (rowF32 L a1) fun v243 =>
    .call (impl_Matrix_at_g v242 v243 v244 v245) fun y => .leaf (.flt .f32 y, L)
  | _ => .fail
theorem impl_Matrix_at_Fok : COk Try.prog 93 impl_Matrix_at_F true := by
  intro F L H args r L' hs ha hr
  unfold impl_Matrix_at_F at hr
  split at hr
  · rename_i v241 v242 a1 v244 v245
    obtain ⟨v243, hv243, hr⟩ := optT_run hr
    simp only [Tree.run] at hr
    obtain ⟨y, hy, hr⟩ := Option.bind_eq_some_iff.1 hr
    simp only [Tree.run, Option.some.injEq, Prod.mk.injEq] at hr
    obtain ⟨rfl, rfl⟩ := hr
    exact call_ok0 hs (fun k => (([a1.av F] : List AV)[k]?).getD .top) [.agg [.int .i64 v241, .int .i64 v242, a1], .int .i64 v244, .int .i64 v245] [.agg [.int .i64 v241, .int .i64 v242, .bslc (BR.root 0) (.f32 v243)], .int .i64 v244, .int .i64 v245] (fun F' h0 hi hρ => ⟨by simp [DVs.av, DV.av, BR.av, hρ], impl_Matrix_at_fn v241 v242 v243 v244 v245 F' (by rw [hi]; rfl) (st_nil hi) ⟨⟨trivial, trivial, bslc_ok hi (by rw [h0, hρ]; exact rowF32_ok hs (DVs.okAt (DVs.okAt ha 0 rfl) 2 rfl) hv243), trivial⟩, trivial, trivial, trivial⟩ hy⟩) rfl
  · cases hr
/-! (impl.Matrix).middle -/
noncomputable def impl_Matrix_middle_l0_T (v237 : Int) (v238 : Int) (v239 : List Nat) (s : Int × (List Nat)) : Tree ((Int × (List Nat)) ⊕ ((List Nat))) :=
  (.br (decide (s.1 < imin v237 v238)) (
   (.call (impl_Matrix_at_g v238 v239 s.1 s.1) fun v252 =>
   (.grd (fits (s.2 ++ ([v252] : List Nat)).length) <|
   .leaf (.inl (IntKind.i64.wrap (s.1 + (1 : Int)), s.2 ++ ([v252] : List Nat)))))
  ) (
   .leaf (.inr s.2)
  ))

noncomputable def impl_Matrix_middle_l0_g (v237 : Int) (v238 : Int) (v239 : List Nat) (s0 : Int × (List Nat)) : Option ((List Nat)) := whileM (fun s => (impl_Matrix_middle_l0_T v237 v238 v239 s).run) s0
def impl_Matrix_middle_l0_E (v237 : Int) (v238 : Int) (v239 : List Nat) (s : Int × (List Nat)) : Sd := ([.top, .ptr 0 (0 : Nat) 0 (3 : Nat), .top, .own 1 0 ((s.2).length), .top, .top, .top, .top, .top, .top, .int .i64 (imin v237 v238), .int .i64 s.1, .top, .top, .top, .top, .top, .top, .top, .top, .top, .top, .top], [.gen [.int .i64 v237, .int .i64 v238, .bslc (BR.root 0) (.f32 v239)] false 0, .row (.f32 s.2) 0])
def impl_Matrix_middle_l0_X (v237 : Int) (v238 : Int) (v239 : List Nat) (x : (List Nat)) : Out := (.normal, [.top, .top, .top, .own 0 0 ((x).length), .top, .top, .top, .top, .top, .top, .top, .top, .top, .top, .top, .top, .top, .top, .top, .top, .top, .top, .top], [.row (.f32 x) 0])
def impl_Matrix_middle_l0_kill : List Nat := [1, 0, 1, 0, 1, 1, 1, 1, 1, 1, 0, 0, 1, 1, 1, 1, 1, 1, 1, 1, 1, 1, 1]
def impl_Matrix_middle_l0_nx : Exit → List Nat
  | .exit 0 => [1, 1, 1, 0, 1, 1, 1, 1, 1, 1, 1, 1, 1, 1, 1, 1, 1, 1, 1, 1, 1, 1, 1]
  | .ret => [1, 1, 0, 1, 1, 1, 1, 1, 1, 1, 1, 1, 1, 1, 1, 1, 1, 1, 1, 1, 1, 1, 1]
  | _ => []
noncomputable def impl_Matrix_middle_LO (v237 : Int) (v238 : Int) (v239 : List Nat) : LOr := fun id e L =>
  match id with
  | 0 => .need (normA 0 impl_Matrix_middle_l0_kill e L = some (impl_Matrix_middle_l0_E v237 v238 v239 ((gI (vAt e 11)), (gRF L (vAt e 3))))) (.call (impl_Matrix_middle_l0_g v237 v238 v239 ((gI (vAt e 11)), (gRF L (vAt e 3)))) fun x => .leaf (impl_Matrix_middle_l0_X v237 v238 v239 x))
  | _ => .fail
noncomputable def impl_Matrix_middle_tab : List (FuncId × DFn × Bool) := [(93, impl_Matrix_at_F, true)]
theorem impl_Matrix_middle_hO : OrcOk Try.prog (tabD impl_Matrix_middle_tab) (tabM impl_Matrix_middle_tab) := tabD_cons impl_Matrix_at_Fok (tabD_nil _)
theorem impl_Matrix_middle_l0_be (v237 : Int) (v238 : Int) (v239 : List Nat) (s : Int × (List Nat)) : bodyT TT (tabD impl_Matrix_middle_tab) (tabM impl_Matrix_middle_tab) (impl_Matrix_middle_LO v237 v238 v239) 0 impl_Matrix_middle_l0_kill impl_Matrix_middle_l0_nx (bodyOf Try.f113 0) 0 (impl_Matrix_middle_l0_E v237 v238 v239 s) = (impl_Matrix_middle_l0_T v237 v238 v239 s).bind fun y => .leaf (outS (impl_Matrix_middle_l0_E v237 v238 v239) (impl_Matrix_middle_l0_X v237 v238 v239) y) := by kernel_rfl
theorem impl_Matrix_middle_l0_ok (v237 : Int) (v238 : Int) (v239 : List Nat) : LSound Try.prog 0 (impl_Matrix_middle_LO v237 v238 v239) 0 (bodyOf Try.f113 0) := by
  intro e L out h
  exact lo_ok (E := impl_Matrix_middle_l0_E v237 v238 v239) (gT := impl_Matrix_middle_l0_T v237 v238 v239) (X := impl_Matrix_middle_l0_X v237 v238 v239) (s0 := ((gI (vAt e 11)), (gRF L (vAt e 3)))) tok impl_Matrix_middle_hO mixed (LoopsOk_eq (l := []) (by kernel_rfl) trivial) (impl_Matrix_middle_l0_be v237 v238 v239) rfl (by intro x; rfl) h
noncomputable def impl_Matrix_middle_T (v237 : Int) (v238 : Int) (v239 : List Nat) : Tree ((List Nat)) :=
  (.need (some (impl_Matrix_middle_l0_E v237 v238 v239 ((0 : Int), ([] : List Nat))) = some (impl_Matrix_middle_l0_E v237 v238 v239 ((0 : Int), ([] : List Nat)))) <|
  (.call (impl_Matrix_middle_l0_g v237 v238 v239 ((0 : Int), ([] : List Nat))) fun v253 =>
  .leaf v253))

noncomputable def impl_Matrix_middle_g (v237 : Int) (v238 : Int) (v239 : List Nat) : Option ((List Nat)) := (impl_Matrix_middle_T v237 v238 v239).run
def impl_Matrix_middle_enc (v237 : Int) (v238 : Int) (v239 : List Nat) (y : (List Nat)) : Rs := (.own 0 0 ((y).length), [.row (.f32 y) 0])
theorem impl_Matrix_middle_den (v237 : Int) (v238 : Int) (v239 : List Nat) : (den TT (tabD impl_Matrix_middle_tab) (tabM impl_Matrix_middle_tab) (impl_Matrix_middle_LO v237 v238 v239) (codeOf Try.f113) ([.agg [.int .i64 v237, .int .i64 v238, .bslc (BR.root 0) (.f32 v239)]] ++ List.replicate (Try.f113.ntmps - ([.agg [.int .i64 v237, .int .i64 v238, .bslc (BR.root 0) (.f32 v239)]] : List DV).length) .undef) []).bind (retD TT Try.f113.results.toList 0) = (impl_Matrix_middle_T v237 v238 v239).bind fun y => .leaf (impl_Matrix_middle_enc v237 v238 v239 y) := by kernel_rfl
theorem impl_Matrix_middle_fn (v237 : Int) (v238 : Int) (v239 : List Nat) (F : Fr) (hm : F.ids.length = 0) (h0 : St F [] F.H0) (hA : DVs.Ok F [] [.agg [.int .i64 v237, .int .i64 v238, .bslc (BR.root 0) (.f32 v239)]]) {y : (List Nat)} (hy : impl_Matrix_middle_g v237 v238 v239 = some y) : ∃ H', FnOk Try.prog 113 (DVs.av F [.agg [.int .i64 v237, .int .i64 v238, .bslc (BR.root 0) (.f32 v239)]]) F.H0 ((impl_Matrix_middle_enc v237 v238 v239 y).1.av F) H' ∧ St F (impl_Matrix_middle_enc v237 v238 v239 y).2 H' ∧ (impl_Matrix_middle_enc v237 v238 v239 y).1.Ok F (impl_Matrix_middle_enc v237 v238 v239 y).2 :=
  fn_fin tok impl_Matrix_middle_hO mixed Try.func113 Try.call113 (by kernel_rfl) (LoopsOk_eq (l := [(0, bodyOf Try.f113 0)]) (by kernel_rfl) ⟨impl_Matrix_middle_l0_ok v237 v238 v239, trivial⟩) (impl_Matrix_middle_den v237 v238 v239) hy hm h0 hA
noncomputable def impl_Matrix_middle_F : DFn := fun args L =>
  match args with
  | [.agg [.int .i64 v237, .int .i64 v238, a1]] =>
    optT (rowF32 L a1) fun v239 =>
    .call (impl_Matrix_middle_g v237 v238 v239) fun y => .leaf (.own (L.length + 0) 0 ((y).length), L ++ [.row (.f32 y) 0])
  | _ => .fail
theorem impl_Matrix_middle_Fok : COk Try.prog 113 impl_Matrix_middle_F true := by
  intro F L H args r L' hs ha hr
  unfold impl_Matrix_middle_F at hr
  split at hr
  · rename_i v237 v238 a1
    obtain ⟨v239, hv239, hr⟩ := optT_run hr
    simp only [Tree.run] at hr
    obtain ⟨y, hy, hr⟩ := Option.bind_eq_some_iff.1 hr
    simp only [Tree.run, Option.some.injEq, Prod.mk.injEq] at hr
    obtain ⟨rfl, rfl⟩ := hr
    exact call_ok1 hs (fun k => (([a1.av F] : List AV)[k]?).getD .top) [.agg [.int .i64 v237, .int .i64 v238, a1]] [.agg [.int .i64 v237, .int .i64 v238, .bslc (BR.root 0) (.f32 v239)]] (fun F' h0 hi hρ => ⟨by simp [DVs.av, DV.av, BR.av, hρ], impl_Matrix_middle_fn v237 v238 v239 F' (by rw [hi]; rfl) (st_nil hi) ⟨⟨trivial, trivial, bslc_ok hi (by rw [h0, hρ]; exact rowF32_ok hs (DVs.okAt (DVs.okAt ha 0 rfl) 2 rfl) hv239), trivial⟩, trivial⟩ hy⟩) rfl rfl
  · cases hr
/-! slices.Index[list of float32,float32] -/
noncomputable def slices_IndexF_l0_T (v257 : List Nat) (v258 : Nat) (s : Int) : Tree ((Int) ⊕ ((Int) ⊕ (Unit))) :=
  (.br (decide (s < ((v257.length : Nat) : Int))) (
   (.grd (inb s v257.length) <|
   (.br (feq .f32 v258 (nth v257 (Int.toNat s))) (
    .leaf (.inr (.inl s))
   ) (
    .leaf (.inl (IntKind.i64.wrap (s + (1 : Int))))
   )))
  ) (
   .leaf (.inr (.inr ()))
  ))

noncomputable def slices_IndexF_l0_g (v257 : List Nat) (v258 : Nat) (s0 : Int) : Option ((Int) ⊕ (Unit)) := whileM (fun s => (slices_IndexF_l0_T v257 v258 s).run) s0
def slices_IndexF_l0_E (v257 : List Nat) (v258 : Nat) (s : Int) : Sd := ([.bslc (BR.root 0) (.f32 v257), .flt .f32 v258, .top, .top, .top, .top, .top, .int .i64 ((v257.length : Nat) : Int), .int .i64 s, .top, .top, .top, .top, .top, .top, .top, .top, .top, .top], [])
def slices_IndexF_l0_X (v257 : List Nat) (v258 : Nat) (x : (Int) ⊕ (Unit)) : Out := (match x with | .inl x => (.ret, [.top, .top, .top, .top, .int .i64 x, .top, .top, .top, .top, .top, .top, .top, .top, .top, .top, .top, .top, .top, .top], []) | .inr x => (.normal, [.top, .top, .top, .top, .top, .top, .top, .top, .top, .top, .top, .top, .top, .top, .top, .top, .top, .top, .top], []))
def slices_IndexF_l0_kill : List Nat := [0, 0, 1, 1, 1, 1, 1, 0, 0, 1, 1, 1, 1, 1, 1, 1, 1, 1, 1]
def slices_IndexF_l0_nx : Exit → List Nat
  | .exit 0 => [1, 1, 1, 1, 1, 1, 1, 1, 1, 1, 1, 1, 1, 1, 1, 1, 1, 1, 1]
  | .ret => [1, 1, 1, 1, 0, 1, 1, 1, 1, 1, 1, 1, 1, 1, 1, 1, 1, 1, 1]
  | _ => []
noncomputable def slices_IndexF_LO (v257 : List Nat) (v258 : Nat) : LOr := fun id e L =>
  match id with
  | 0 => .need (normA 0 slices_IndexF_l0_kill e L = some (slices_IndexF_l0_E v257 v258 (gI (vAt e 8)))) (.call (slices_IndexF_l0_g v257 v258 (gI (vAt e 8))) fun x => .sum x (fun b0 => .leaf (slices_IndexF_l0_X v257 v258 (.inl b0))) (fun c0 => .leaf (slices_IndexF_l0_X v257 v258 (.inr c0))))
  | _ => .fail
noncomputable def slices_IndexF_tab : List (FuncId × DFn × Bool) := []
theorem slices_IndexF_hO : OrcOk Try.prog (tabD slices_IndexF_tab) (tabM slices_IndexF_tab) := tabD_nil _
theorem slices_IndexF_l0_be (v257 : List Nat) (v258 : Nat) (s : Int) : bodyT TT (tabD slices_IndexF_tab) (tabM slices_IndexF_tab) (slices_IndexF_LO v257 v258) 0 slices_IndexF_l0_kill slices_IndexF_l0_nx (bodyOf Try.f155 0) 0 (slices_IndexF_l0_E v257 v258 s) = (slices_IndexF_l0_T v257 v258 s).bind fun y => .leaf (outS (slices_IndexF_l0_E v257 v258) (slices_IndexF_l0_X v257 v258) y) := by kernel_rfl
theorem slices_IndexF_l0_ok (v257 : List Nat) (v258 : Nat) : LSound Try.prog 0 (slices_IndexF_LO v257 v258) 0 (bodyOf Try.f155 0) := by
  intro e L out h
  exact lo_ok (E := slices_IndexF_l0_E v257 v258) (gT := slices_IndexF_l0_T v257 v258) (X := slices_IndexF_l0_X v257 v258) (s0 := (gI (vAt e 8))) tok slices_IndexF_hO mixed (LoopsOk_eq (l := []) (by kernel_rfl) trivial) (slices_IndexF_l0_be v257 v258) rfl (by intro x; (cases x with | inl b => rfl | inr x => exact rfl)) h
noncomputable def slices_IndexF_T (v257 : List Nat) (v258 : Nat) : Tree (Int) :=
  (.need (some (slices_IndexF_l0_E v257 v258 (0 : Int)) = some (slices_IndexF_l0_E v257 v258 (0 : Int))) <|
  (.call (slices_IndexF_l0_g v257 v258 (0 : Int)) fun v262 =>
  (.sum v262 (fun v263 =>
   .leaf v263
  ) (fun v264 =>
   .leaf (-1 : Int)
  ))))

noncomputable def slices_IndexF_g (v257 : List Nat) (v258 : Nat) : Option (Int) := (slices_IndexF_T v257 v258).run
def slices_IndexF_enc (v257 : List Nat) (v258 : Nat) (y : Int) : Rs := (.int .i64 y, [])
theorem slices_IndexF_den (v257 : List Nat) (v258 : Nat) : (den TT (tabD slices_IndexF_tab) (tabM slices_IndexF_tab) (slices_IndexF_LO v257 v258) (codeOf Try.f155) ([.bslc (BR.root 0) (.f32 v257), .flt .f32 v258] ++ List.replicate (Try.f155.ntmps - ([.bslc (BR.root 0) (.f32 v257), .flt .f32 v258] : List DV).length) .undef) []).bind (retD TT Try.f155.results.toList 0) = (slices_IndexF_T v257 v258).bind fun y => .leaf (slices_IndexF_enc v257 v258 y) := by kernel_rfl
theorem slices_IndexF_fn (v257 : List Nat) (v258 : Nat) (F : Fr) (hm : F.ids.length = 0) (h0 : St F [] F.H0) (hA : DVs.Ok F [] [.bslc (BR.root 0) (.f32 v257), .flt .f32 v258]) {y : Int} (hy : slices_IndexF_g v257 v258 = some y) : ∃ H', FnOk Try.prog 155 (DVs.av F [.bslc (BR.root 0) (.f32 v257), .flt .f32 v258]) F.H0 ((slices_IndexF_enc v257 v258 y).1.av F) H' ∧ St F (slices_IndexF_enc v257 v258 y).2 H' ∧ (slices_IndexF_enc v257 v258 y).1.Ok F (slices_IndexF_enc v257 v258 y).2 :=
  fn_fin tok slices_IndexF_hO mixed Try.func155 Try.call155 (by kernel_rfl) (LoopsOk_eq (l := [(0, bodyOf Try.f155 0)]) (by kernel_rfl) ⟨slices_IndexF_l0_ok v257 v258, trivial⟩) (slices_IndexF_den v257 v258) hy hm h0 hA
noncomputable def slices_IndexF_F : DFn := fun args L =>
  match args with
  | [a1, .flt .f32 v258] =>
    optT (rowF32 L a1) fun v257 =>
    .call (slices_IndexF_g v257 v258) fun y => .leaf (.int .i64 y, L)
  | _ => .fail
theorem slices_IndexF_Fok : COk Try.prog 155 slices_IndexF_F true := by
  intro F L H args r L' hs ha hr
  unfold slices_IndexF_F at hr
  split at hr
  · rename_i a1 v258
    obtain ⟨v257, hv257, hr⟩ := optT_run hr
    simp only [Tree.run] at hr
    obtain ⟨y, hy, hr⟩ := Option.bind_eq_some_iff.1 hr
    simp only [Tree.run, Option.some.injEq, Prod.mk.injEq] at hr
    obtain ⟨rfl, rfl⟩ := hr
    exact call_ok0 hs (fun k => (([a1.av F] : List AV)[k]?).getD .top) [a1, .flt .f32 v258] [.bslc (BR.root 0) (.f32 v257), .flt .f32 v258] (fun F' h0 hi hρ => ⟨by simp [DVs.av, DV.av, BR.av, hρ], slices_IndexF_fn v257 v258 F' (by rw [hi]; rfl) (st_nil hi) ⟨bslc_ok hi (by rw [h0, hρ]; exact rowF32_ok hs (DVs.okAt ha 0 rfl) hv257), trivial, trivial⟩ hy⟩) rfl
  · cases hr
/-! slices.Contains[list of float32,float32] -/
noncomputable def slices_ContainsF_LO (v255 : List Nat) (v256 : Nat) : LOr := fun id e L =>
  match id with
  | _ => .fail
noncomputable def slices_ContainsF_tab : List (FuncId × DFn × Bool) := [(155, slices_IndexF_F, true)]
theorem slices_ContainsF_hO : OrcOk Try.prog (tabD slices_ContainsF_tab) (tabM slices_ContainsF_tab) := tabD_cons slices_IndexF_Fok (tabD_nil _)
noncomputable def slices_ContainsF_T (v255 : List Nat) (v256 : Nat) : Tree (Bool) :=
  (.call (slices_IndexF_g v255 v256) fun v265 =>
  .leaf (decide ((0 : Int) ≤ v265)))

noncomputable def slices_ContainsF_g (v255 : List Nat) (v256 : Nat) : Option (Bool) := (slices_ContainsF_T v255 v256).run
def slices_ContainsF_enc (v255 : List Nat) (v256 : Nat) (y : Bool) : Rs := (.bool y, [])
theorem slices_ContainsF_den (v255 : List Nat) (v256 : Nat) : (den TT (tabD slices_ContainsF_tab) (tabM slices_ContainsF_tab) (slices_ContainsF_LO v255 v256) (codeOf Try.f112) ([.bslc (BR.root 0) (.f32 v255), .flt .f32 v256] ++ List.replicate (Try.f112.ntmps - ([.bslc (BR.root 0) (.f32 v255), .flt .f32 v256] : List DV).length) .undef) []).bind (retD TT Try.f112.results.toList 0) = (slices_ContainsF_T v255 v256).bind fun y => .leaf (slices_ContainsF_enc v255 v256 y) := by kernel_rfl
theorem slices_ContainsF_fn (v255 : List Nat) (v256 : Nat) (F : Fr) (hm : F.ids.length = 0) (h0 : St F [] F.H0) (hA : DVs.Ok F [] [.bslc (BR.root 0) (.f32 v255), .flt .f32 v256]) {y : Bool} (hy : slices_ContainsF_g v255 v256 = some y) : ∃ H', FnOk Try.prog 112 (DVs.av F [.bslc (BR.root 0) (.f32 v255), .flt .f32 v256]) F.H0 ((slices_ContainsF_enc v255 v256 y).1.av F) H' ∧ St F (slices_ContainsF_enc v255 v256 y).2 H' ∧ (slices_ContainsF_enc v255 v256 y).1.Ok F (slices_ContainsF_enc v255 v256 y).2 :=
  fn_fin tok slices_ContainsF_hO mixed Try.func112 Try.call112 (by kernel_rfl) (LoopsOk_eq (l := []) (by kernel_rfl) trivial) (slices_ContainsF_den v255 v256) hy hm h0 hA
noncomputable def slices_ContainsF_F : DFn := fun args L =>
  match args with
  | [a1, .flt .f32 v256] =>
    optT (rowF32 L a1) fun v255 =>
    .call (slices_ContainsF_g v255 v256) fun y => .leaf (.bool y, L)
  | _ => .fail
theorem slices_ContainsF_Fok : COk Try.prog 112 slices_ContainsF_F true := by
  intro F L H args r L' hs ha hr
  unfold slices_ContainsF_F at hr
  split at hr
  · rename_i a1 v256
    obtain ⟨v255, hv255, hr⟩ := optT_run hr
    simp only [Tree.run] at hr
    obtain ⟨y, hy, hr⟩ := Option.bind_eq_some_iff.1 hr
    simp only [Tree.run, Option.some.injEq, Prod.mk.injEq] at hr
    obtain ⟨rfl, rfl⟩ := hr
    exact call_ok0 hs (fun k => (([a1.av F] : List AV)[k]?).getD .top) [a1, .flt .f32 v256] [.bslc (BR.root 0) (.f32 v255), .flt .f32 v256] (fun F' h0 hi hρ => ⟨by simp [DVs.av, DV.av, BR.av, hρ], slices_ContainsF_fn v255 v256 F' (by rw [hi]; rfl) (st_nil hi) ⟨bslc_ok hi (by rw [h0, hρ]; exact rowF32_ok hs (DVs.okAt ha 0 rfl) hv255), trivial, trivial⟩ hy⟩) rfl
  · cases hr
/-! impl.length[int64] -/
noncomputable def impl_lengthI_LO (v268 : List Int) : LOr := fun id e L =>
  match id with
  | _ => .fail
noncomputable def impl_lengthI_tab : List (FuncId × DFn × Bool) := []
theorem impl_lengthI_hO : OrcOk Try.prog (tabD impl_lengthI_tab) (tabM impl_lengthI_tab) := tabD_nil _
noncomputable def impl_lengthI_T (v268 : List Int) : Tree (Int) :=
  .leaf ((v268.length : Nat) : Int)

noncomputable def impl_lengthI_g (v268 : List Int) : Option (Int) := (impl_lengthI_T v268).run
def impl_lengthI_enc (v268 : List Int) (y : Int) : Rs := (.int .i64 y, [])
theorem impl_lengthI_den (v268 : List Int) : (den TT (tabD impl_lengthI_tab) (tabM impl_lengthI_tab) (impl_lengthI_LO v268) (codeOf Try.f109) ([.bslc (BR.root 0) (.i64 v268)] ++ List.replicate (Try.f109.ntmps - ([.bslc (BR.root 0) (.i64 v268)] : List DV).length) .undef) []).bind (retD TT Try.f109.results.toList 0) = (impl_lengthI_T v268).bind fun y => .leaf (impl_lengthI_enc v268 y) := by kernel_rfl
theorem impl_lengthI_fn (v268 : List Int) (F : Fr) (hm : F.ids.length = 0) (h0 : St F [] F.H0) (hA : DVs.Ok F [] [.bslc (BR.root 0) (.i64 v268)]) {y : Int} (hy : impl_lengthI_g v268 = some y) : ∃ H', FnOk Try.prog 109 (DVs.av F [.bslc (BR.root 0) (.i64 v268)]) F.H0 ((impl_lengthI_enc v268 y).1.av F) H' ∧ St F (impl_lengthI_enc v268 y).2 H' ∧ (impl_lengthI_enc v268 y).1.Ok F (impl_lengthI_enc v268 y).2 :=
  fn_fin tok impl_lengthI_hO mixed Try.func109 Try.call109 (by kernel_rfl) (LoopsOk_eq (l := []) (by kernel_rfl) trivial) (impl_lengthI_den v268) hy hm h0 hA
def impl_lengthI_v (v268 : List Int) : Int :=
  ((v268.length : Nat) : Int)
theorem impl_lengthI_tot (v268 : List Int) : impl_lengthI_g v268 = some (impl_lengthI_v v268) := by
  unfold impl_lengthI_g impl_lengthI_T impl_lengthI_v
  simp only [Tree.run]
  repeat' (first | rfl | split)
noncomputable def impl_lengthI_F : DFn := fun args L =>
  match args with
  | [a1] =>
    optT (rowI64 L a1) fun v268 =>
    .leaf (.int .i64 (impl_lengthI_v v268), L)
  | _ => .fail
theorem impl_lengthI_Fok : COk Try.prog 109 impl_lengthI_F true := by
  intro F L H args r L' hs ha hr
  unfold impl_lengthI_F at hr
  split at hr
  · rename_i a1
    obtain ⟨v268, hv268, hr⟩ := optT_run hr
    have hy := impl_lengthI_tot v268
    generalize impl_lengthI_v v268 = y at hy hr
    simp only [Tree.run, Option.some.injEq, Prod.mk.injEq] at hr
    obtain ⟨rfl, rfl⟩ := hr
    exact call_ok0 hs (fun k => (([a1.av F] : List AV)[k]?).getD .top) [a1] [.bslc (BR.root 0) (.i64 v268)] (fun F' h0 hi hρ => ⟨by simp [DVs.av, DV.av, BR.av, hρ], impl_lengthI_fn v268 F' (by rw [hi]; rfl) (st_nil hi) ⟨bslc_ok hi (by rw [h0, hρ]; exact rowI64_ok hs (DVs.okAt ha 0 rfl) hv268), trivial⟩ hy⟩) rfl
  · cases hr
/-! impl.IsOrder -/
noncomputable def impl_IsOrder_LO (v267 : List Int) : LOr := fun id e L =>
  match id with
  | _ => .fail
noncomputable def impl_IsOrder_tab : List (FuncId × DFn × Bool) := [(109, impl_lengthI_F, true), (146, impl_isSide_F, true), (154, Perm_F, true)]
theorem impl_IsOrder_hO : OrcOk Try.prog (tabD impl_IsOrder_tab) (tabM impl_IsOrder_tab) := tabD_cons impl_lengthI_Fok (tabD_cons impl_isSide_Fok (tabD_cons Perm_Fok (tabD_nil _)))
noncomputable def impl_IsOrder_T (v267 : List Int) : Tree (Bool) :=
  (.br (impl_isSide_v (impl_lengthI_v v267)) (
   (.grd (decide (0 < v267.length) && decide (v267.length ≤ 4096)) <|
   .leaf (PM.permB v267))
  ) (
   .leaf false
  ))

noncomputable def impl_IsOrder_g (v267 : List Int) : Option (Bool) := (impl_IsOrder_T v267).run
def impl_IsOrder_enc (v267 : List Int) (y : Bool) : Rs := (.bool y, [])
theorem impl_IsOrder_den (v267 : List Int) : (den TT (tabD impl_IsOrder_tab) (tabM impl_IsOrder_tab) (impl_IsOrder_LO v267) (codeOf Try.f108) ([.bslc (BR.root 0) (.i64 v267)] ++ List.replicate (Try.f108.ntmps - ([.bslc (BR.root 0) (.i64 v267)] : List DV).length) .undef) []).bind (retD TT Try.f108.results.toList 0) = (impl_IsOrder_T v267).bind fun y => .leaf (impl_IsOrder_enc v267 y) := by kernel_rfl
theorem impl_IsOrder_fn (v267 : List Int) (F : Fr) (hm : F.ids.length = 0) (h0 : St F [] F.H0) (hA : DVs.Ok F [] [.bslc (BR.root 0) (.i64 v267)]) {y : Bool} (hy : impl_IsOrder_g v267 = some y) : ∃ H', FnOk Try.prog 108 (DVs.av F [.bslc (BR.root 0) (.i64 v267)]) F.H0 ((impl_IsOrder_enc v267 y).1.av F) H' ∧ St F (impl_IsOrder_enc v267 y).2 H' ∧ (impl_IsOrder_enc v267 y).1.Ok F (impl_IsOrder_enc v267 y).2 :=
  fn_fin tok impl_IsOrder_hO mixed Try.func108 Try.call108 (by kernel_rfl) (LoopsOk_eq (l := []) (by kernel_rfl) trivial) (impl_IsOrder_den v267) hy hm h0 hA
noncomputable def impl_IsOrder_F : DFn := fun args L =>
  match args with
  | [a1] =>
    optT (rowI64 L a1) fun v267 =>
    .call (impl_IsOrder_g v267) fun y => .leaf (.bool y, L)
  | _ => .fail
theorem impl_IsOrder_Fok : COk Try.prog 108 impl_IsOrder_F true := by
  intro F L H args r L' hs ha hr
  unfold impl_IsOrder_F at hr
  split at hr
  · rename_i a1
    obtain ⟨v267, hv267, hr⟩ := optT_run hr
    simp only [Tree.run] at hr
    obtain ⟨y, hy, hr⟩ := Option.bind_eq_some_iff.1 hr
    simp only [Tree.run, Option.some.injEq, Prod.mk.injEq] at hr
    obtain ⟨rfl, rfl⟩ := hr
    exact call_ok0 hs (fun k => (([a1.av F] : List AV)[k]?).getD .top) [a1] [.bslc (BR.root 0) (.i64 v267)] (fun F' h0 hi hρ => ⟨by simp [DVs.av, DV.av, BR.av, hρ], impl_IsOrder_fn v267 F' (by rw [hi]; rfl) (st_nil hi) ⟨bslc_ok hi (by rw [h0, hρ]; exact rowI64_ok hs (DVs.okAt ha 0 rfl) hv267), trivial⟩ hy⟩) rfl
  · cases hr
/-! impl.ValidFactor -/
noncomputable def impl_ValidFactor_LO (v228 : Int) (v229 : Int) (v230 : List Nat) (v231 : List Int) : LOr := fun id e L =>
  match id with
  | _ => .fail
noncomputable def impl_ValidFactor_tab : List (FuncId × DFn × Bool) := [(89, impl_isSquare_F, true), (113, impl_Matrix_middle_F, true), (112, slices_ContainsF_F, true), (108, impl_IsOrder_F, true), (109, impl_lengthI_F, true)]
theorem impl_ValidFactor_hO : OrcOk Try.prog (tabD impl_ValidFactor_tab) (tabM impl_ValidFactor_tab) := tabD_cons impl_isSquare_Fok (tabD_cons impl_Matrix_middle_Fok (tabD_cons slices_ContainsF_Fok (tabD_cons impl_IsOrder_Fok (tabD_cons impl_lengthI_Fok (tabD_nil _)))))
noncomputable def impl_ValidFactor_T (v228 : Int) (v229 : Int) (v230 : List Nat) (v231 : List Int) : Tree (Bool) :=
  (.call (impl_isSquare_g v228 v229 v230) fun v236 =>
  (.br v236 (
   (.call (impl_Matrix_middle_g v228 v229 v230) fun v254 =>
   (.call (slices_ContainsF_g v254 (0 : Nat)) fun v266 =>
   (.br (!v266) (
    (.call (impl_IsOrder_g v231) fun v269 =>
    (.br v269 (
     .leaf (decide ((impl_lengthI_v v231) = v228))
    ) (
     .leaf false
    )))
   ) (
    .leaf false
   ))))
  ) (
   .leaf false
  )))

noncomputable def impl_ValidFactor_g (v228 : Int) (v229 : Int) (v230 : List Nat) (v231 : List Int) : Option (Bool) := (impl_ValidFactor_T v228 v229 v230 v231).run
def impl_ValidFactor_enc (v228 : Int) (v229 : Int) (v230 : List Nat) (v231 : List Int) (y : Bool) : Rs := (.bool y, [])
theorem impl_ValidFactor_den (v228 : Int) (v229 : Int) (v230 : List Nat) (v231 : List Int) : (den TT (tabD impl_ValidFactor_tab) (tabM impl_ValidFactor_tab) (impl_ValidFactor_LO v228 v229 v230 v231) (codeOf Try.f49) ([.agg [.int .i64 v228, .int .i64 v229, .bslc (BR.root 0) (.f32 v230), .bslc (BR.root 1) (.i64 v231)]] ++ List.replicate (Try.f49.ntmps - ([.agg [.int .i64 v228, .int .i64 v229, .bslc (BR.root 0) (.f32 v230), .bslc (BR.root 1) (.i64 v231)]] : List DV).length) .undef) []).bind (retD TT Try.f49.results.toList 0) = (impl_ValidFactor_T v228 v229 v230 v231).bind fun y => .leaf (impl_ValidFactor_enc v228 v229 v230 v231 y) := by kernel_rfl
theorem impl_ValidFactor_fn (v228 : Int) (v229 : Int) (v230 : List Nat) (v231 : List Int) (F : Fr) (hm : F.ids.length = 0) (h0 : St F [] F.H0) (hA : DVs.Ok F [] [.agg [.int .i64 v228, .int .i64 v229, .bslc (BR.root 0) (.f32 v230), .bslc (BR.root 1) (.i64 v231)]]) {y : Bool} (hy : impl_ValidFactor_g v228 v229 v230 v231 = some y) : ∃ H', FnOk Try.prog 49 (DVs.av F [.agg [.int .i64 v228, .int .i64 v229, .bslc (BR.root 0) (.f32 v230), .bslc (BR.root 1) (.i64 v231)]]) F.H0 ((impl_ValidFactor_enc v228 v229 v230 v231 y).1.av F) H' ∧ St F (impl_ValidFactor_enc v228 v229 v230 v231 y).2 H' ∧ (impl_ValidFactor_enc v228 v229 v230 v231 y).1.Ok F (impl_ValidFactor_enc v228 v229 v230 v231 y).2 :=
  fn_fin tok impl_ValidFactor_hO mixed Try.func49 Try.call49 (by kernel_rfl) (LoopsOk_eq (l := []) (by kernel_rfl) trivial) (impl_ValidFactor_den v228 v229 v230 v231) hy hm h0 hA
noncomputable def impl_ValidFactor_F : DFn := fun args L =>
  match args with
  | [.agg [.int .i64 v228, .int .i64 v229, a1, a2]] =>
    optT (rowF32 L a1) fun v230 =>
    optT (rowI64 L a2) fun v231 =>
    .call (impl_ValidFactor_g v228 v229 v230 v231) fun y => .leaf (.bool y, L)
  | _ => .fail
theorem impl_ValidFactor_Fok : COk Try.prog 49 impl_ValidFactor_F true := by
  intro F L H args r L' hs ha hr
  unfold impl_ValidFactor_F at hr
  split at hr
  · rename_i v228 v229 a1 a2
    obtain ⟨v230, hv230, hr⟩ := optT_run hr
    obtain ⟨v231, hv231, hr⟩ := optT_run hr
    simp only [Tree.run] at hr
    obtain ⟨y, hy, hr⟩ := Option.bind_eq_some_iff.1 hr
    simp only [Tree.run, Option.some.injEq, Prod.mk.injEq] at hr
    obtain ⟨rfl, rfl⟩ := hr
    exact call_ok0 hs (fun k => (([a1.av F, a2.av F] : List AV)[k]?).getD .top) [.agg [.int .i64 v228, .int .i64 v229, a1, a2]] [.agg [.int .i64 v228, .int .i64 v229, .bslc (BR.root 0) (.f32 v230), .bslc (BR.root 1) (.i64 v231)]] (fun F' h0 hi hρ => ⟨by simp [DVs.av, DV.av, BR.av, hρ], impl_ValidFactor_fn v228 v229 v230 v231 F' (by rw [hi]; rfl) (st_nil hi) ⟨⟨trivial, trivial, bslc_ok hi (by rw [h0, hρ]; exact rowF32_ok hs (DVs.okAt (DVs.okAt ha 0 rfl) 2 rfl) hv230), bslc_ok hi (by rw [h0, hρ]; exact rowI64_ok hs (DVs.okAt (DVs.okAt ha 0 rfl) 3 rfl) hv231), trivial⟩, trivial⟩ hy⟩) rfl
  · cases hr
/-! impl.absolute -/
noncomputable def impl_absolute_LO (v276 : Nat) : LOr := fun id e L =>
  match id with
  | _ => .fail
noncomputable def impl_absolute_tab : List (FuncId × DFn × Bool) := [(104, Abs_F, true)]
theorem impl_absolute_hO : OrcOk Try.prog (tabD impl_absolute_tab) (tabM impl_absolute_tab) := tabD_cons Abs_Fok (tabD_nil _)
noncomputable def impl_absolute_T (v276 : Nat) : Tree (Nat) :=
  (.call (fconv .f64 (fabs (wid v276)) .f32) fun v277 =>
  .leaf v277)

noncomputable def impl_absolute_g (v276 : Nat) : Option (Nat) := (impl_absolute_T v276).run
def impl_absolute_enc (v276 : Nat) (y : Nat) : Rs := (.flt .f32 y, [])
theorem impl_absolute_den (v276 : Nat) : (den TT (tabD impl_absolute_tab) (tabM impl_absolute_tab) (impl_absolute_LO v276) (codeOf Try.f158) ([.flt .f32 v276] ++ List.replicate (Try.f158.ntmps - ([.flt .f32 v276] : List DV).length) .undef) []).bind (retD TT Try.f158.results.toList 0) = (impl_absolute_T v276).bind fun y => .leaf (impl_absolute_enc v276 y) := by kernel_rfl
theorem impl_absolute_fn (v276 : Nat) (F : Fr) (hm : F.ids.length = 0) (h0 : St F [] F.H0) (hA : DVs.Ok F [] [.flt .f32 v276]) {y : Nat} (hy : impl_absolute_g v276 = some y) : ∃ H', FnOk Try.prog 158 (DVs.av F [.flt .f32 v276]) F.H0 ((impl_absolute_enc v276 y).1.av F) H' ∧ St F (impl_absolute_enc v276 y).2 H' ∧ (impl_absolute_enc v276 y).1.Ok F (impl_absolute_enc v276 y).2 :=
  fn_fin tok impl_absolute_hO mixed Try.func158 Try.call158 (by kernel_rfl) (LoopsOk_eq (l := []) (by kernel_rfl) trivial) (impl_absolute_den v276) hy hm h0 hA
noncomputable def impl_absolute_F : DFn := fun args L =>
  match args with
  | [.flt .f32 v276] =>
    .call (impl_absolute_g v276) fun y => .leaf (.flt .f32 y, L)
  | _ => .fail
theorem impl_absolute_Fok : COk Try.prog 158 impl_absolute_F true := by
  intro F L H args r L' hs ha hr
  unfold impl_absolute_F at hr
  split at hr
  · rename_i v276
    simp only [Tree.run] at hr
    obtain ⟨y, hy, hr⟩ := Option.bind_eq_some_iff.1 hr
    simp only [Tree.run, Option.some.injEq, Prod.mk.injEq] at hr
    obtain ⟨rfl, rfl⟩ := hr
    exact call_ok0 hs (fun k => (([] : List AV)[k]?).getD .top) [.flt .f32 v276] [.flt .f32 v276] (fun F' h0 hi hρ => ⟨by simp [DVs.av, DV.av, BR.av, hρ], impl_absolute_fn v276 F' (by rw [hi]; rfl) (st_nil hi) ⟨trivial, trivial⟩ hy⟩) rfl
  · cases hr
/-! (impl.Matrix).greatest -/
noncomputable def impl_Matrix_greatest_l0_T (v273 : List Nat) (s : Nat × Int) : Tree ((Nat × Int) ⊕ (Nat)) :=
  (.br (decide (s.2 < ((v273.length : Nat) : Int))) (
   (.grd (inb s.2 v273.length) <|
   (.call (impl_absolute_g (nth v273 (Int.toNat s.2))) fun v284 =>
   .leaf (.inl (fmaxA .f32 s.1 v284, IntKind.i64.wrap (s.2 + (1 : Int))))))
  ) (
   .leaf (.inr s.1)
  ))

noncomputable def impl_Matrix_greatest_l0_g (v273 : List Nat) (s0 : Nat × Int) : Option (Nat) := whileM (fun s => (impl_Matrix_greatest_l0_T v273 s).run) s0
def impl_Matrix_greatest_l0_E (v271 : Int) (v272 : Int) (v273 : List Nat) (s : Nat × Int) : Sd := ([.top, .top, .top, .flt .f32 s.1, .top, .top, .top, .bslc (BR.root 0) (.f32 v273), .int .i64 ((v273.length : Nat) : Int), .int .i64 s.2, .top, .top, .top, .top, .top, .top, .top, .top, .top], [])
def impl_Matrix_greatest_l0_X (v271 : Int) (v272 : Int) (v273 : List Nat) (x : Nat) : Out := (.normal, [.top, .top, .top, .flt .f32 x, .top, .top, .top, .top, .top, .top, .top, .top, .top, .top, .top, .top, .top, .top, .top], [])
def impl_Matrix_greatest_l0_kill : List Nat := [1, 1, 1, 0, 1, 1, 1, 0, 0, 0, 1, 1, 1, 1, 1, 1, 1, 1, 1]
def impl_Matrix_greatest_l0_nx : Exit → List Nat
  | .exit 0 => [1, 1, 1, 0, 1, 1, 1, 1, 1, 1, 1, 1, 1, 1, 1, 1, 1, 1, 1]
  | .ret => [1, 1, 0, 1, 1, 1, 1, 1, 1, 1, 1, 1, 1, 1, 1, 1, 1, 1, 1]
  | _ => []
noncomputable def impl_Matrix_greatest_LO (v271 : Int) (v272 : Int) (v273 : List Nat) : LOr := fun id e L =>
  match id with
  | 0 => .need (normA 0 impl_Matrix_greatest_l0_kill e L = some (impl_Matrix_greatest_l0_E v271 v272 v273 ((gF (vAt e 3)), (gI (vAt e 9))))) (.call (impl_Matrix_greatest_l0_g v273 ((gF (vAt e 3)), (gI (vAt e 9)))) fun x => .leaf (impl_Matrix_greatest_l0_X v271 v272 v273 x))
  | _ => .fail
noncomputable def impl_Matrix_greatest_tab : List (FuncId × DFn × Bool) := [(158, impl_absolute_F, true)]
theorem impl_Matrix_greatest_hO : OrcOk Try.prog (tabD impl_Matrix_greatest_tab) (tabM impl_Matrix_greatest_tab) := tabD_cons impl_absolute_Fok (tabD_nil _)
theorem impl_Matrix_greatest_l0_be (v271 : Int) (v272 : Int) (v273 : List Nat) (s : Nat × Int) : bodyT TT (tabD impl_Matrix_greatest_tab) (tabM impl_Matrix_greatest_tab) (impl_Matrix_greatest_LO v271 v272 v273) 0 impl_Matrix_greatest_l0_kill impl_Matrix_greatest_l0_nx (bodyOf Try.f122 0) 0 (impl_Matrix_greatest_l0_E v271 v272 v273 s) = (impl_Matrix_greatest_l0_T v273 s).bind fun y => .leaf (outS (impl_Matrix_greatest_l0_E v271 v272 v273) (impl_Matrix_greatest_l0_X v271 v272 v273) y) := by kernel_rfl
theorem impl_Matrix_greatest_l0_ok (v271 : Int) (v272 : Int) (v273 : List Nat) : LSound Try.prog 0 (impl_Matrix_greatest_LO v271 v272 v273) 0 (bodyOf Try.f122 0) := by
  intro e L out h
  exact lo_ok (E := impl_Matrix_greatest_l0_E v271 v272 v273) (gT := impl_Matrix_greatest_l0_T v273) (X := impl_Matrix_greatest_l0_X v271 v272 v273) (s0 := ((gF (vAt e 3)), (gI (vAt e 9)))) tok impl_Matrix_greatest_hO mixed (LoopsOk_eq (l := []) (by kernel_rfl) trivial) (impl_Matrix_greatest_l0_be v271 v272 v273) rfl (by intro x; rfl) h
noncomputable def impl_Matrix_greatest_T (v271 : Int) (v272 : Int) (v273 : List Nat) : Tree (Nat) :=
  (.need (some (impl_Matrix_greatest_l0_E v271 v272 v273 ((0 : Nat), (0 : Int))) = some (impl_Matrix_greatest_l0_E v271 v272 v273 ((0 : Nat), (0 : Int)))) <|
  (.call (impl_Matrix_greatest_l0_g v273 ((0 : Nat), (0 : Int))) fun v285 =>
  .leaf v285))

noncomputable def impl_Matrix_greatest_g (v271 : Int) (v272 : Int) (v273 : List Nat) : Option (Nat) := (impl_Matrix_greatest_T v271 v272 v273).run
def impl_Matrix_greatest_enc (v271 : Int) (v272 : Int) (v273 : List Nat) (y : Nat) : Rs := (.flt .f32 y, [])
theorem impl_Matrix_greatest_den (v271 : Int) (v272 : Int) (v273 : List Nat) : (den TT (tabD impl_Matrix_greatest_tab) (tabM impl_Matrix_greatest_tab) (impl_Matrix_greatest_LO v271 v272 v273) (codeOf Try.f122) ([.agg [.int .i64 v271, .int .i64 v272, .bslc (BR.root 0) (.f32 v273)]] ++ List.replicate (Try.f122.ntmps - ([.agg [.int .i64 v271, .int .i64 v272, .bslc (BR.root 0) (.f32 v273)]] : List DV).length) .undef) []).bind (retD TT Try.f122.results.toList 0) = (impl_Matrix_greatest_T v271 v272 v273).bind fun y => .leaf (impl_Matrix_greatest_enc v271 v272 v273 y) := by kernel_rfl
theorem impl_Matrix_greatest_fn (v271 : Int) (v272 : Int) (v273 : List Nat) (F : Fr) (hm : F.ids.length = 0) (h0 : St F [] F.H0) (hA : DVs.Ok F [] [.agg [.int .i64 v271, .int .i64 v272, .bslc (BR.root 0) (.f32 v273)]]) {y : Nat} (hy : impl_Matrix_greatest_g v271 v272 v273 = some y) : ∃ H', FnOk Try.prog 122 (DVs.av F [.agg [.int .i64 v271, .int .i64 v272, .bslc (BR.root 0) (.f32 v273)]]) F.H0 ((impl_Matrix_greatest_enc v271 v272 v273 y).1.av F) H' ∧ St F (impl_Matrix_greatest_enc v271 v272 v273 y).2 H' ∧ (impl_Matrix_greatest_enc v271 v272 v273 y).1.Ok F (impl_Matrix_greatest_enc v271 v272 v273 y).2 :=
  fn_fin tok impl_Matrix_greatest_hO mixed Try.func122 Try.call122 (by kernel_rfl) (LoopsOk_eq (l := [(0, bodyOf Try.f122 0)]) (by kernel_rfl) ⟨impl_Matrix_greatest_l0_ok v271 v272 v273, trivial⟩) (impl_Matrix_greatest_den v271 v272 v273) hy hm h0 hA
noncomputable def impl_Matrix_greatest_F : DFn := fun args L =>
  match args with
  | [.agg [.int .i64 v271, .int .i64 v272, a1]] =>
    optT (rowF32 L a1) fun v273 =>
    .call (impl_Matrix_greatest_g v271 v272 v273) fun y => .leaf (.flt .f32 y, L)
  | _ => .fail
theorem impl_Matrix_greatest_Fok : COk Try.prog 122 impl_Matrix_greatest_F true := by
  intro F L H args r L' hs ha hr
  unfold impl_Matrix_greatest_F at hr
  split at hr
  · rename_i v271 v272 a1
    obtain ⟨v273, hv273, hr⟩ := optT_run hr
    simp only [Tree.run] at hr
    obtain ⟨y, hy, hr⟩ := Option.bind_eq_some_iff.1 hr
    simp only [Tree.run, Option.some.injEq, Prod.mk.injEq] at hr
    obtain ⟨rfl, rfl⟩ := hr
    exact call_ok0 hs (fun k => (([a1.av F] : List AV)[k]?).getD .top) [.agg [.int .i64 v271, .int .i64 v272, a1]] [.agg [.int .i64 v271, .int .i64 v272, .bslc (BR.root 0) (.f32 v273)]] (fun F' h0 hi hρ => ⟨by simp [DVs.av, DV.av, BR.av, hρ], impl_Matrix_greatest_fn v271 v272 v273 F' (by rw [hi]; rfl) (st_nil hi) ⟨⟨trivial, trivial, bslc_ok hi (by rw [h0, hρ]; exact rowF32_ok hs (DVs.okAt (DVs.okAt ha 0 rfl) 2 rfl) hv273), trivial⟩, trivial⟩ hy⟩) rfl
  · cases hr
/-! impl.newMatrix -/
noncomputable def impl_newMatrix_LO (v295 : Int) (v296 : Int) : LOr := fun id e L =>
  match id with
  | _ => .fail
noncomputable def impl_newMatrix_tab : List (FuncId × DFn × Bool) := []
theorem impl_newMatrix_hO : OrcOk Try.prog (tabD impl_newMatrix_tab) (tabM impl_newMatrix_tab) := tabD_nil _
noncomputable def impl_newMatrix_T (v295 : Int) (v296 : Int) : Tree (Int × Int) :=
  (.need (IntKind.i64.wrap (v295 * v296) = IntKind.i64.wrap (v295 * v296)) <|
  (.grd (inb (IntKind.i64.wrap (v295 * v296)) (maxN + 1)) <|
  .leaf (v295, v296)))

noncomputable def impl_newMatrix_g (v295 : Int) (v296 : Int) : Option (Int × Int) := (impl_newMatrix_T v295 v296).run
def impl_newMatrix_enc (v295 : Int) (v296 : Int) (y : Int × Int) : Rs := (.agg [.int .i64 y.1, .int .i64 y.2, .own 0 0 ((List.replicate (Int.toNat (IntKind.i64.wrap (v295 * v296))) (0 : Nat)).length)], [.row (.f32 (List.replicate (Int.toNat (IntKind.i64.wrap (v295 * v296))) (0 : Nat))) 0])
theorem impl_newMatrix_den (v295 : Int) (v296 : Int) : (den TT (tabD impl_newMatrix_tab) (tabM impl_newMatrix_tab) (impl_newMatrix_LO v295 v296) (codeOf Try.f125) ([.int .i64 v295, .int .i64 v296] ++ List.replicate (Try.f125.ntmps - ([.int .i64 v295, .int .i64 v296] : List DV).length) .undef) []).bind (retD TT Try.f125.results.toList 0) = (impl_newMatrix_T v295 v296).bind fun y => .leaf (impl_newMatrix_enc v295 v296 y) := by kernel_rfl
theorem impl_newMatrix_fn (v295 : Int) (v296 : Int) (F : Fr) (hm : F.ids.length = 0) (h0 : St F [] F.H0) (hA : DVs.Ok F [] [.int .i64 v295, .int .i64 v296]) {y : Int × Int} (hy : impl_newMatrix_g v295 v296 = some y) : ∃ H', FnOk Try.prog 125 (DVs.av F [.int .i64 v295, .int .i64 v296]) F.H0 ((impl_newMatrix_enc v295 v296 y).1.av F) H' ∧ St F (impl_newMatrix_enc v295 v296 y).2 H' ∧ (impl_newMatrix_enc v295 v296 y).1.Ok F (impl_newMatrix_enc v295 v296 y).2 :=
  fn_fin tok impl_newMatrix_hO mixed Try.func125 Try.call125 (by kernel_rfl) (LoopsOk_eq (l := []) (by kernel_rfl) trivial) (impl_newMatrix_den v295 v296) hy hm h0 hA
noncomputable def impl_newMatrix_F : DFn := fun args L =>
  match args with
  | [.int .i64 v295, .int .i64 v296] =>
    .call (impl_newMatrix_g v295 v296) fun y => .leaf (.agg [.int .i64 y.1, .int .i64 y.2, .own (L.length + 0) 0 ((List.replicate (Int.toNat (IntKind.i64.wrap (v295 * v296))) (0 : Nat)).length)], L ++ [.row (.f32 (List.replicate (Int.toNat (IntKind.i64.wrap (v295 * v296))) (0 : Nat))) 0])
  | _ => .fail
theorem impl_newMatrix_Fok : COk Try.prog 125 impl_newMatrix_F true := by
  intro F L H args r L' hs ha hr
  unfold impl_newMatrix_F at hr
  split at hr
  · rename_i v295 v296
    simp only [Tree.run] at hr
    obtain ⟨y, hy, hr⟩ := Option.bind_eq_some_iff.1 hr
    simp only [Tree.run, Option.some.injEq, Prod.mk.injEq] at hr
    obtain ⟨rfl, rfl⟩ := hr
    exact call_ok1 hs (fun k => (([] : List AV)[k]?).getD .top) [.int .i64 v295, .int .i64 v296] [.int .i64 v295, .int .i64 v296] (fun F' h0 hi hρ => ⟨by simp [DVs.av, DV.av, BR.av, hρ], impl_newMatrix_fn v295 v296 F' (by rw [hi]; rfl) (st_nil hi) ⟨trivial, trivial, trivial⟩ hy⟩) rfl rfl
  · cases hr
/-! (impl.Matrix).upper$1 -/
noncomputable def impl_Matrix_upper_1_LO (v305 : Int) (v306 : Int) (v307 : Int) (v308 : Int) (v309 : List Nat) : LOr := fun id e L =>
  match id with
  | _ => .fail
noncomputable def impl_Matrix_upper_1_tab : List (FuncId × DFn × Bool) := [(93, impl_Matrix_at_F, true)]
theorem impl_Matrix_upper_1_hO : OrcOk Try.prog (tabD impl_Matrix_upper_1_tab) (tabM impl_Matrix_upper_1_tab) := tabD_cons impl_Matrix_at_Fok (tabD_nil _)
noncomputable def impl_Matrix_upper_1_T (v305 : Int) (v306 : Int) (v308 : Int) (v309 : List Nat) : Tree (Nat) :=
  (.br (decide (v306 < v305)) (
   .leaf (0 : Nat)
  ) (
   (.call (impl_Matrix_at_g v308 v309 v305 v306) fun v310 =>
   .leaf v310)
  ))

noncomputable def impl_Matrix_upper_1_g (v305 : Int) (v306 : Int) (v308 : Int) (v309 : List Nat) : Option (Nat) := (impl_Matrix_upper_1_T v305 v306 v308 v309).run
def impl_Matrix_upper_1_enc (v305 : Int) (v306 : Int) (v307 : Int) (v308 : Int) (v309 : List Nat) (y : Nat) : Rs := (.flt .f32 y, [])
theorem impl_Matrix_upper_1_den (v305 : Int) (v306 : Int) (v307 : Int) (v308 : Int) (v309 : List Nat) : (den TT (tabD impl_Matrix_upper_1_tab) (tabM impl_Matrix_upper_1_tab) (impl_Matrix_upper_1_LO v305 v306 v307 v308 v309) (codeOf Try.f156) ([.int .i64 v305, .int .i64 v306, .bptr (BR.root 0) [.int .i64 v307, .int .i64 v308, .bslc (BR.root 1) (.f32 v309)]] ++ List.replicate (Try.f156.ntmps - ([.int .i64 v305, .int .i64 v306, .bptr (BR.root 0) [.int .i64 v307, .int .i64 v308, .bslc (BR.root 1) (.f32 v309)]] : List DV).length) .undef) []).bind (retD TT Try.f156.results.toList 0) = (impl_Matrix_upper_1_T v305 v306 v308 v309).bind fun y => .leaf (impl_Matrix_upper_1_enc v305 v306 v307 v308 v309 y) := by kernel_rfl
theorem impl_Matrix_upper_1_fn (v305 : Int) (v306 : Int) (v307 : Int) (v308 : Int) (v309 : List Nat) (F : Fr) (hm : F.ids.length = 0) (h0 : St F [] F.H0) (hA : DVs.Ok F [] [.int .i64 v305, .int .i64 v306, .bptr (BR.root 0) [.int .i64 v307, .int .i64 v308, .bslc (BR.root 1) (.f32 v309)]]) {y : Nat} (hy : impl_Matrix_upper_1_g v305 v306 v308 v309 = some y) : ∃ H', FnOk Try.prog 156 (DVs.av F [.int .i64 v305, .int .i64 v306, .bptr (BR.root 0) [.int .i64 v307, .int .i64 v308, .bslc (BR.root 1) (.f32 v309)]]) F.H0 ((impl_Matrix_upper_1_enc v305 v306 v307 v308 v309 y).1.av F) H' ∧ St F (impl_Matrix_upper_1_enc v305 v306 v307 v308 v309 y).2 H' ∧ (impl_Matrix_upper_1_enc v305 v306 v307 v308 v309 y).1.Ok F (impl_Matrix_upper_1_enc v305 v306 v307 v308 v309 y).2 :=
  fn_fin tok impl_Matrix_upper_1_hO mixed Try.func156 Try.call156 (by kernel_rfl) (LoopsOk_eq (l := []) (by kernel_rfl) trivial) (impl_Matrix_upper_1_den v305 v306 v307 v308 v309) hy hm h0 hA
noncomputable def impl_Matrix_upper_1_F : DFn := fun args L =>
  match args with
  | [.int .i64 v305, .int .i64 v306, a1] =>
    optT (cellsOf L 3 a1) fun cs0 =>
    (match cs0 with
    | [.int .i64 v307, .int .i64 v308, a2] =>
    optT (rowF32 L a2) fun v309 =>
    .call (impl_Matrix_upper_1_g v305 v306 v308 v309) fun y => .leaf (.flt .f32 y, L)
    | _ => .fail)
  | _ => .fail
theorem impl_Matrix_upper_1_Fok : COk Try.prog 156 impl_Matrix_upper_1_F true := by
  intro F L H args r L' hs ha hr
  unfold impl_Matrix_upper_1_F at hr
  split at hr
  · rename_i v305 v306 a1
    obtain ⟨cs0, hcp0, hr⟩ := optT_run hr
    split at hr
    · rename_i v307 v308 a2
      obtain ⟨v309, hv309, hr⟩ := optT_run hr
      simp only [Tree.run] at hr
      obtain ⟨y, hy, hr⟩ := Option.bind_eq_some_iff.1 hr
      simp only [Tree.run, Option.some.injEq, Prod.mk.injEq] at hr
      obtain ⟨rfl, rfl⟩ := hr
      exact call_ok0 hs (fun k => (([a1.av F, a2.av F] : List AV)[k]?).getD .top) [.int .i64 v305, .int .i64 v306, a1] [.int .i64 v305, .int .i64 v306, .bptr (BR.root 0) [.int .i64 v307, .int .i64 v308, .bslc (BR.root 1) (.f32 v309)]] (fun F' h0 hi hρ => ⟨by simp [DVs.av, DV.av, BR.av, hρ], impl_Matrix_upper_1_fn v305 v306 v307 v308 v309 F' (by rw [hi]; rfl) (st_nil hi) ⟨trivial, trivial, bptr_ok hi (by rw [h0]; simpa [DVs.av, DV.av, BR.av, hρ] using (cellsOf_ok hs (DVs.okAt ha 2 rfl) hcp0).1) ⟨trivial, trivial, bslc_ok hi (by rw [h0, hρ]; exact rowF32_ok hs (DVs.okAt (cellsOf_ok hs (DVs.okAt ha 2 rfl) hcp0).2 2 rfl) hv309), trivial⟩, trivial⟩ hy⟩) rfl
    · cases hr
  · cases hr
/-! (impl.Matrix).set -/
noncomputable def impl_Matrix_set_LO (v318 : Int) (v319 : Int) (v320 : List Nat) (v321 : Int) (v322 : Int) (v323 : Nat) : LOr := fun id e L =>
  match id with
  | _ => .fail
noncomputable def impl_Matrix_set_tab : List (FuncId × DFn × Bool) := []
theorem impl_Matrix_set_hO : OrcOk Try.prog (tabD impl_Matrix_set_tab) (tabM impl_Matrix_set_tab) := tabD_nil _
noncomputable def impl_Matrix_set_T (v319 : Int) (v320 : List Nat) (v321 : Int) (v322 : Int) : Tree (Unit) :=
  (.grd (inb (IntKind.i64.wrap ((IntKind.i64.wrap (v321 * v319)) + v322)) v320.length) <|
  .leaf ())

noncomputable def impl_Matrix_set_g (v319 : Int) (v320 : List Nat) (v321 : Int) (v322 : Int) : Option (Unit) := (impl_Matrix_set_T v319 v320 v321 v322).run
def impl_Matrix_set_enc (v318 : Int) (v319 : Int) (v320 : List Nat) (v321 : Int) (v322 : Int) (v323 : Nat) (y : Unit) : Rs := (.tup [], [.row (.f32 (List.set v320 (Int.toNat (IntKind.i64.wrap ((IntKind.i64.wrap (v321 * v319)) + v322))) v323)) 0])
theorem impl_Matrix_set_den (v318 : Int) (v319 : Int) (v320 : List Nat) (v321 : Int) (v322 : Int) (v323 : Nat) : (den TT (tabD impl_Matrix_set_tab) (tabM impl_Matrix_set_tab) (impl_Matrix_set_LO v318 v319 v320 v321 v322 v323) (codeOf Try.f142) ([.agg [.int .i64 v318, .int .i64 v319, .own 0 0 v320.length], .int .i64 v321, .int .i64 v322, .flt .f32 v323] ++ List.replicate (Try.f142.ntmps - ([.agg [.int .i64 v318, .int .i64 v319, .own 0 0 v320.length], .int .i64 v321, .int .i64 v322, .flt .f32 v323] : List DV).length) .undef) [.row (.f32 v320) 0]).bind (retD TT Try.f142.results.toList 1) = (impl_Matrix_set_T v319 v320 v321 v322).bind fun y => .leaf (impl_Matrix_set_enc v318 v319 v320 v321 v322 v323 y) := by kernel_rfl
theorem impl_Matrix_set_fn (v318 : Int) (v319 : Int) (v320 : List Nat) (v321 : Int) (v322 : Int) (v323 : Nat) (F : Fr) (hm : F.ids.length = 1) (h0 : St F [.row (.f32 v320) 0] F.H0) (hA : DVs.Ok F [.row (.f32 v320) 0] [.agg [.int .i64 v318, .int .i64 v319, .own 0 0 v320.length], .int .i64 v321, .int .i64 v322, .flt .f32 v323]) {y : Unit} (hy : impl_Matrix_set_g v319 v320 v321 v322 = some y) : ∃ H', FnOk Try.prog 142 (DVs.av F [.agg [.int .i64 v318, .int .i64 v319, .own 0 0 v320.length], .int .i64 v321, .int .i64 v322, .flt .f32 v323]) F.H0 ((impl_Matrix_set_enc v318 v319 v320 v321 v322 v323 y).1.av F) H' ∧ St F (impl_Matrix_set_enc v318 v319 v320 v321 v322 v323 y).2 H' ∧ (impl_Matrix_set_enc v318 v319 v320 v321 v322 v323 y).1.Ok F (impl_Matrix_set_enc v318 v319 v320 v321 v322 v323 y).2 :=
  fn_fin tok impl_Matrix_set_hO mixed Try.func142 Try.call142 (by kernel_rfl) (LoopsOk_eq (l := []) (by kernel_rfl) trivial) (impl_Matrix_set_den v318 v319 v320 v321 v322 v323) hy hm h0 hA
noncomputable def impl_Matrix_set_F : DFn := fun args L =>
  match args with
  | [.agg [.int .i64 v318, .int .i64 v319, a1], .int .i64 v321, .int .i64 v322, .flt .f32 v323] =>
    optT (ownF32 L a1) fun qv320 =>
    (match sepB [qv320.1] [] with
    | true =>
    .call (impl_Matrix_set_g v319 qv320.2 v321 v322) fun y => .grd (decide ((List.set qv320.2 (Int.toNat (IntKind.i64.wrap ((IntKind.i64.wrap (v321 * v319)) + v322))) v323).length = qv320.2.length)) (.leaf (.tup [], setRows L ([qv320.1].zip [.f32 (List.set qv320.2 (Int.toNat (IntKind.i64.wrap ((IntKind.i64.wrap (v321 * v319)) + v322))) v323)])))
    | false => .fail)
  | _ => .fail
theorem impl_Matrix_set_Fok : COk Try.prog 142 impl_Matrix_set_F false := by
  intro F L H args r L' hs ha hr
  unfold impl_Matrix_set_F at hr
  split at hr
  · rename_i v318 v319 a1 v321 v322 v323
    obtain ⟨⟨jv320, v320⟩, hqv320, hr⟩ := optT_run hr
    simp only at hr
    split at hr
    · rename_i hsep
      obtain ⟨hnd, hsepv⟩ := sepB_spec hsep
      simp only [Tree.run] at hr
      obtain ⟨y, hy, hr⟩ := Option.bind_eq_some_iff.1 hr
      try simp only [Tree.run] at hr
      obtain ⟨hl0, hr⟩ := ite_run hr
      simp only [Option.some.injEq, Prod.mk.injEq] at hr
      obtain ⟨rfl, rfl⟩ := hr
      obtain ⟨hr0, hu0, ha0, hb0⟩ := (ownR_spec (DVs.okAt (DVs.okAt ha 0 rfl) 2 rfl) (ownF32_or hqv320))
      exact mut_ok hs (fun k => (([a1.av F] : List AV)[k]?).getD .top) [.agg [.int .i64 v318, .int .i64 v319, a1], .int .i64 v321, .int .i64 v322, .flt .f32 v323] [.agg [.int .i64 v318, .int .i64 v319, .own 0 0 v320.length], .int .i64 v321, .int .i64 v322, .flt .f32 v323] [jv320] [.f32 v320] [.f32 (List.set v320 (Int.toNat (IntKind.i64.wrap ((IntKind.i64.wrap (v321 * v319)) + v322))) v323)] hnd rfl rfl (fun i j q h1 h2 => by
          rcases i with _ | i
          · simp at h1 h2; subst h1; subst h2; exact hr0
          · simp at h1) (fun i q q' h1 h2 => by
          rcases i with _ | i
          · simp at h1 h2; subst h1; subst h2; exact of_decide_eq_true hl0
          · simp at h1) (fun j hj => by simp at hj; subst hj; simp [DVs.refs, DV.refs, hu0]) (fun F' h0 hi hρ hst hS => ⟨by (have ab0 : F'.abs 0 = F.abs jv320 := (by simp [Fr.abs, hi]); simp [DVs.av, DV.av, BR.av, hρ, Row.len, ha0, ab0]), by
          obtain ⟨H1, k1, k2, _⟩ := impl_Matrix_set_fn v318 v319 v320 v321 v322 v323 F' (by rw [hi]; rfl) hst ⟨⟨trivial, trivial, ⟨_, rfl, Nat.le_refl _, Nat.le_refl _, fun _ => rfl, (ownR_spec (DVs.okAt (DVs.okAt ha 0 rfl) 2 rfl) (ownF32_or hqv320)).2.2.2⟩, trivial⟩, trivial, trivial, trivial, trivial⟩ hy
          exact ⟨H1, k1, k2⟩⟩) (fun F' => rfl) (fun L' => trivial)
    · cases hr
  · cases hr
/-! impl.made -/
noncomputable def impl_made_l2_T (v291 : Int) (v293 : Int) (v294 : List Nat) (v384 : Int) (v386 : Int) (v387 : Int) (s : Int × (List Nat)) : Tree ((Int × (List Nat)) ⊕ ((List Nat))) :=
  (.br (decide (s.1 < v291)) (
   (.call (impl_Matrix_upper_1_g v384 s.1 v293 v294) fun v389 =>
   (.call (impl_Matrix_set_g v387 s.2 v384 s.1) fun v390 =>
   (.grd (decide ((List.set s.2 (Int.toNat (IntKind.i64.wrap ((IntKind.i64.wrap (v384 * v387)) + s.1))) v389).length = s.2.length)) <|
   .leaf (.inl (IntKind.i64.wrap (s.1 + (1 : Int)), List.set s.2 (Int.toNat (IntKind.i64.wrap ((IntKind.i64.wrap (v384 * v387)) + s.1))) v389)))))
  ) (
   .leaf (.inr s.2)
  ))

noncomputable def impl_made_l2_g (v291 : Int) (v293 : Int) (v294 : List Nat) (v384 : Int) (v386 : Int) (v387 : Int) (s0 : Int × (List Nat)) : Option ((List Nat)) := whileM (fun s => (impl_made_l2_T v291 v293 v294 v384 v386 v387 s).run) s0
def impl_made_l2_E (v290 : Int) (v291 : Int) (v292 : Int) (v293 : Int) (v294 : List Nat) (v384 : Int) (v386 : Int) (v387 : Int) (s : Int × (List Nat)) : Sd := ([.top, .int .i64 v291, .fn 156 [.bptr (BR.root 0) [.int .i64 v292, .int .i64 v293, .bslc (BR.root 1) (.f32 v294)]], .top, .top, .top, .ptr 0 (0 : Nat) 0 (3 : Nat), .ptr 1 (0 : Nat) 0 (3 : Nat), .int .i64 v384, .top, .top, .top, .top, .int .i64 v290, .int .i64 v384, .top, .top, .int .i64 v291, .int .i64 s.1, .top, .top, .top, .top, .top, .top, .top, .top, .top, .top, .top, .top, .top], [.gen [.int .i64 (0 : Int), .int .i64 (0 : Int), .nilslc] false 0, .gen [.int .i64 v386, .int .i64 v387, .own 2 0 ((s.2).length)] false 0, .row (.f32 s.2) 0])
def impl_made_l2_X (v290 : Int) (v291 : Int) (v292 : Int) (v293 : Int) (v294 : List Nat) (v384 : Int) (v386 : Int) (v387 : Int) (x : (List Nat)) : Out := (.normal, [.top, .int .i64 v291, .fn 156 [.bptr (BR.root 0) [.int .i64 v292, .int .i64 v293, .bslc (BR.root 1) (.f32 v294)]], .top, .top, .top, .ptr 0 (0 : Nat) 0 (3 : Nat), .ptr 1 (0 : Nat) 0 (3 : Nat), .top, .top, .top, .top, .top, .int .i64 v290, .int .i64 v384, .top, .top, .top, .top, .top, .top, .top, .top, .top, .top, .top, .top, .top, .top, .top, .top, .top], [.gen [.int .i64 (0 : Int), .int .i64 (0 : Int), .nilslc] false 0, .gen [.int .i64 v386, .int .i64 v387, .own 2 0 ((x).length)] false 0, .row (.f32 x) 0])
def impl_made_l2_kill : List Nat := [1, 0, 0, 1, 1, 1, 0, 0, 0, 1, 1, 1, 1, 0, 0, 1, 1, 0, 0, 1, 1, 1, 1, 1, 1, 1, 1, 1, 1, 1, 1, 1]
def impl_made_l2_nx : Exit → List Nat
  | .exit 0 => [1, 1, 1, 1, 1, 1, 0, 0, 1, 1, 1, 1, 1, 1, 1, 1, 1, 1, 1, 1, 1, 1, 1, 1, 1, 1, 1, 1, 1, 1, 1, 1]
  | .exit 1 => [1, 0, 0, 1, 1, 1, 0, 0, 1, 1, 1, 1, 1, 0, 0, 1, 1, 1, 1, 1, 1, 1, 1, 1, 1, 1, 1, 1, 1, 1, 1, 1]
  | .exit 2 => [1, 0, 0, 1, 1, 1, 0, 0, 1, 1, 1, 1, 1, 0, 0, 1, 1, 1, 1, 1, 1, 1, 1, 1, 1, 1, 1, 1, 1, 1, 1, 1]
  | .ret => [1, 1, 1, 1, 1, 1, 0, 1, 1, 1, 1, 1, 1, 1, 1, 1, 1, 1, 1, 1, 1, 1, 1, 1, 1, 1, 1, 1, 1, 1, 1, 1]
  | _ => []
noncomputable def impl_made_l0_T (v290 : Int) (v291 : Int) (v292 : Int) (v293 : Int) (v294 : List Nat) (v367 : Int) (v368 : Int) (s : Int × (List Nat)) : Tree ((Int × (List Nat)) ⊕ ((List Nat))) :=
  (.br (decide (s.1 < v290)) (
   (.need (some (impl_made_l2_E v290 v291 v292 v293 v294 s.1 v367 v368 ((0 : Int), s.2)) = some (impl_made_l2_E v290 v291 v292 v293 v294 s.1 v367 v368 ((0 : Int), s.2))) <|
   (.call (impl_made_l2_g v291 v293 v294 s.1 v367 v368 ((0 : Int), s.2)) fun v391 =>
   .leaf (.inl (IntKind.i64.wrap (s.1 + (1 : Int)), v391))))
  ) (
   .leaf (.inr s.2)
  ))

noncomputable def impl_made_l0_g (v290 : Int) (v291 : Int) (v292 : Int) (v293 : Int) (v294 : List Nat) (v367 : Int) (v368 : Int) (s0 : Int × (List Nat)) : Option ((List Nat)) := whileM (fun s => (impl_made_l0_T v290 v291 v292 v293 v294 v367 v368 s).run) s0
def impl_made_l0_E (v290 : Int) (v291 : Int) (v292 : Int) (v293 : Int) (v294 : List Nat) (v367 : Int) (v368 : Int) (s : Int × (List Nat)) : Sd := ([.top, .int .i64 v291, .fn 156 [.bptr (BR.root 0) [.int .i64 v292, .int .i64 v293, .bslc (BR.root 1) (.f32 v294)]], .top, .top, .top, .ptr 0 (0 : Nat) 0 (3 : Nat), .ptr 1 (0 : Nat) 0 (3 : Nat), .top, .top, .top, .top, .top, .int .i64 v290, .int .i64 s.1, .top, .top, .top, .top, .top, .top, .top, .top, .top, .top, .top, .top, .top, .top, .top, .top, .top], [.gen [.int .i64 (0 : Int), .int .i64 (0 : Int), .nilslc] false 0, .gen [.int .i64 v367, .int .i64 v368, .own 2 0 ((s.2).length)] false 0, .row (.f32 s.2) 0])
def impl_made_l0_X (v290 : Int) (v291 : Int) (v292 : Int) (v293 : Int) (v294 : List Nat) (v367 : Int) (v368 : Int) (x : (List Nat)) : Out := (.normal, [.top, .top, .top, .top, .top, .top, .ptr 0 (0 : Nat) 0 (3 : Nat), .ptr 1 (0 : Nat) 0 (3 : Nat), .top, .top, .top, .top, .top, .top, .top, .top, .top, .top, .top, .top, .top, .top, .top, .top, .top, .top, .top, .top, .top, .top, .top, .top], [.gen [.int .i64 (0 : Int), .int .i64 (0 : Int), .nilslc] false 0, .gen [.int .i64 v367, .int .i64 v368, .own 2 0 ((x).length)] false 0, .row (.f32 x) 0])
def impl_made_l0_kill : List Nat := [1, 0, 0, 1, 1, 1, 0, 0, 1, 1, 1, 1, 1, 0, 0, 1, 1, 1, 1, 1, 1, 1, 1, 1, 1, 1, 1, 1, 1, 1, 1, 1]
def impl_made_l0_nx : Exit → List Nat
  | .exit 0 => [1, 1, 1, 1, 1, 1, 0, 0, 1, 1, 1, 1, 1, 1, 1, 1, 1, 1, 1, 1, 1, 1, 1, 1, 1, 1, 1, 1, 1, 1, 1, 1]
  | .ret => [1, 1, 1, 1, 1, 1, 0, 1, 1, 1, 1, 1, 1, 1, 1, 1, 1, 1, 1, 1, 1, 1, 1, 1, 1, 1, 1, 1, 1, 1, 1, 1]
  | _ => []
noncomputable def impl_made_LO (v290 : Int) (v291 : Int) (v292 : Int) (v293 : Int) (v294 : List Nat) : LOr := fun id e L =>
  match id with
  | 2 => .need (normA 0 impl_made_l2_kill e L = some (impl_made_l2_E v290 v291 v292 v293 v294 (gI (vAt e 8)) (gI (cAt L (vAt e 7) 0)) (gI (cAt L (vAt e 7) 1)) ((gI (vAt e 18)), (gRF L (cAt L (vAt e 7) 2))))) (.call (impl_made_l2_g v291 v293 v294 (gI (vAt e 8)) (gI (cAt L (vAt e 7) 0)) (gI (cAt L (vAt e 7) 1)) ((gI (vAt e 18)), (gRF L (cAt L (vAt e 7) 2)))) fun x => .leaf (impl_made_l2_X v290 v291 v292 v293 v294 (gI (vAt e 8)) (gI (cAt L (vAt e 7) 0)) (gI (cAt L (vAt e 7) 1)) x))
  | 0 => .need (normA 0 impl_made_l0_kill e L = some (impl_made_l0_E v290 v291 v292 v293 v294 (gI (cAt L (vAt e 7) 0)) (gI (cAt L (vAt e 7) 1)) ((gI (vAt e 14)), (gRF L (cAt L (vAt e 7) 2))))) (.call (impl_made_l0_g v290 v291 v292 v293 v294 (gI (cAt L (vAt e 7) 0)) (gI (cAt L (vAt e 7) 1)) ((gI (vAt e 14)), (gRF L (cAt L (vAt e 7) 2)))) fun x => .leaf (impl_made_l0_X v290 v291 v292 v293 v294 (gI (cAt L (vAt e 7) 0)) (gI (cAt L (vAt e 7) 1)) x))
  | _ => .fail
noncomputable def impl_made_tab : List (FuncId × DFn × Bool) := [(125, impl_newMatrix_F, true), (156, impl_Matrix_upper_1_F, true), (142, impl_Matrix_set_F, false)]
theorem impl_made_hO : OrcOk Try.prog (tabD impl_made_tab) (tabM impl_made_tab) := tabD_cons impl_newMatrix_Fok (tabD_cons impl_Matrix_upper_1_Fok (tabD_cons impl_Matrix_set_Fok (tabD_nil _)))
theorem impl_made_l2_be (v290 : Int) (v291 : Int) (v292 : Int) (v293 : Int) (v294 : List Nat) (v384 : Int) (v386 : Int) (v387 : Int) (s : Int × (List Nat)) : bodyT TT (tabD impl_made_tab) (tabM impl_made_tab) (impl_made_LO v290 v291 v292 v293 v294) 0 impl_made_l2_kill impl_made_l2_nx (bodyOf Try.f91 2) 2 (impl_made_l2_E v290 v291 v292 v293 v294 v384 v386 v387 s) = (impl_made_l2_T v291 v293 v294 v384 v386 v387 s).bind fun y => .leaf (outS (impl_made_l2_E v290 v291 v292 v293 v294 v384 v386 v387) (impl_made_l2_X v290 v291 v292 v293 v294 v384 v386 v387) y) := by kernel_rfl
theorem impl_made_l2_ok (v290 : Int) (v291 : Int) (v292 : Int) (v293 : Int) (v294 : List Nat) : LSound Try.prog 0 (impl_made_LO v290 v291 v292 v293 v294) 2 (bodyOf Try.f91 2) := by
  intro e L out h
  exact lo_ok (E := impl_made_l2_E v290 v291 v292 v293 v294 (gI (vAt e 8)) (gI (cAt L (vAt e 7) 0)) (gI (cAt L (vAt e 7) 1))) (gT := impl_made_l2_T v291 v293 v294 (gI (vAt e 8)) (gI (cAt L (vAt e 7) 0)) (gI (cAt L (vAt e 7) 1))) (X := impl_made_l2_X v290 v291 v292 v293 v294 (gI (vAt e 8)) (gI (cAt L (vAt e 7) 0)) (gI (cAt L (vAt e 7) 1))) (s0 := ((gI (vAt e 18)), (gRF L (cAt L (vAt e 7) 2)))) tok impl_made_hO mixed (LoopsOk_eq (l := []) (by kernel_rfl) trivial) (impl_made_l2_be v290 v291 v292 v293 v294 (gI (vAt e 8)) (gI (cAt L (vAt e 7) 0)) (gI (cAt L (vAt e 7) 1))) rfl (by intro x; rfl) h
theorem impl_made_l0_be (v290 : Int) (v291 : Int) (v292 : Int) (v293 : Int) (v294 : List Nat) (v367 : Int) (v368 : Int) (s : Int × (List Nat)) : bodyT TT (tabD impl_made_tab) (tabM impl_made_tab) (impl_made_LO v290 v291 v292 v293 v294) 0 impl_made_l0_kill impl_made_l0_nx (bodyOf Try.f91 0) 0 (impl_made_l0_E v290 v291 v292 v293 v294 v367 v368 s) = (impl_made_l0_T v290 v291 v292 v293 v294 v367 v368 s).bind fun y => .leaf (outS (impl_made_l0_E v290 v291 v292 v293 v294 v367 v368) (impl_made_l0_X v290 v291 v292 v293 v294 v367 v368) y) := by kernel_rfl
theorem impl_made_l0_ok (v290 : Int) (v291 : Int) (v292 : Int) (v293 : Int) (v294 : List Nat) : LSound Try.prog 0 (impl_made_LO v290 v291 v292 v293 v294) 0 (bodyOf Try.f91 0) := by
  intro e L out h
  exact lo_ok (E := impl_made_l0_E v290 v291 v292 v293 v294 (gI (cAt L (vAt e 7) 0)) (gI (cAt L (vAt e 7) 1))) (gT := impl_made_l0_T v290 v291 v292 v293 v294 (gI (cAt L (vAt e 7) 0)) (gI (cAt L (vAt e 7) 1))) (X := impl_made_l0_X v290 v291 v292 v293 v294 (gI (cAt L (vAt e 7) 0)) (gI (cAt L (vAt e 7) 1))) (s0 := ((gI (vAt e 14)), (gRF L (cAt L (vAt e 7) 2)))) tok impl_made_hO mixed (LoopsOk_eq (l := [(2, bodyOf Try.f91 2)]) (by kernel_rfl) ⟨impl_made_l2_ok v290 v291 v292 v293 v294, trivial⟩) (impl_made_l0_be v290 v291 v292 v293 v294 (gI (cAt L (vAt e 7) 0)) (gI (cAt L (vAt e 7) 1))) rfl (by intro x; rfl) h
noncomputable def impl_made_T (v290 : Int) (v291 : Int) (v292 : Int) (v293 : Int) (v294 : List Nat) : Tree (Int × Int × (List Nat)) :=
  (.call (impl_newMatrix_g v290 v291) fun v297 =>
  (.need (some (impl_made_l0_E v290 v291 v292 v293 v294 v297.1 v297.2 ((0 : Int), List.replicate (Int.toNat (IntKind.i64.wrap (v290 * v291))) (0 : Nat))) = some (impl_made_l0_E v290 v291 v292 v293 v294 v297.1 v297.2 ((0 : Int), List.replicate (Int.toNat (IntKind.i64.wrap (v290 * v291))) (0 : Nat)))) <|
  (.call (impl_made_l0_g v290 v291 v292 v293 v294 v297.1 v297.2 ((0 : Int), List.replicate (Int.toNat (IntKind.i64.wrap (v290 * v291))) (0 : Nat))) fun v392 =>
  .leaf (v297.1, v297.2, v392))))

noncomputable def impl_made_g (v290 : Int) (v291 : Int) (v292 : Int) (v293 : Int) (v294 : List Nat) : Option (Int × Int × (List Nat)) := (impl_made_T v290 v291 v292 v293 v294).run
def impl_made_enc (v290 : Int) (v291 : Int) (v292 : Int) (v293 : Int) (v294 : List Nat) (y : Int × Int × (List Nat)) : Rs := (.agg [.int .i64 y.1, .int .i64 y.2.1, .own 0 0 ((y.2.2).length)], [.row (.f32 y.2.2) 0])
theorem impl_made_den (v290 : Int) (v291 : Int) (v292 : Int) (v293 : Int) (v294 : List Nat) : (den TT (tabD impl_made_tab) (tabM impl_made_tab) (impl_made_LO v290 v291 v292 v293 v294) (codeOf Try.f91) ([.int .i64 v290, .int .i64 v291, .fn 156 [.bptr (BR.root 0) [.int .i64 v292, .int .i64 v293, .bslc (BR.root 1) (.f32 v294)]]] ++ List.replicate (Try.f91.ntmps - ([.int .i64 v290, .int .i64 v291, .fn 156 [.bptr (BR.root 0) [.int .i64 v292, .int .i64 v293, .bslc (BR.root 1) (.f32 v294)]]] : List DV).length) .undef) []).bind (retD TT Try.f91.results.toList 0) = (impl_made_T v290 v291 v292 v293 v294).bind fun y => .leaf (impl_made_enc v290 v291 v292 v293 v294 y) := by kernel_rfl
theorem impl_made_fn (v290 : Int) (v291 : Int) (v292 : Int) (v293 : Int) (v294 : List Nat) (F : Fr) (hm : F.ids.length = 0) (h0 : St F [] F.H0) (hA : DVs.Ok F [] [.int .i64 v290, .int .i64 v291, .fn 156 [.bptr (BR.root 0) [.int .i64 v292, .int .i64 v293, .bslc (BR.root 1) (.f32 v294)]]]) {y : Int × Int × (List Nat)} (hy : impl_made_g v290 v291 v292 v293 v294 = some y) : ∃ H', FnOk Try.prog 91 (DVs.av F [.int .i64 v290, .int .i64 v291, .fn 156 [.bptr (BR.root 0) [.int .i64 v292, .int .i64 v293, .bslc (BR.root 1) (.f32 v294)]]]) F.H0 ((impl_made_enc v290 v291 v292 v293 v294 y).1.av F) H' ∧ St F (impl_made_enc v290 v291 v292 v293 v294 y).2 H' ∧ (impl_made_enc v290 v291 v292 v293 v294 y).1.Ok F (impl_made_enc v290 v291 v292 v293 v294 y).2 :=
  fn_fin tok impl_made_hO mixed Try.func91 Try.call91 (by kernel_rfl) (LoopsOk_eq (l := [(0, bodyOf Try.f91 0)]) (by kernel_rfl) ⟨impl_made_l0_ok v290 v291 v292 v293 v294, trivial⟩) (impl_made_den v290 v291 v292 v293 v294) hy hm h0 hA
noncomputable def impl_made_F : DFn := fun args L =>
  match args with
  | [.int .i64 v290, .int .i64 v291, .fn 156 [a1]] =>
    optT (cellsOf L 3 a1) fun cs0 =>
    (match cs0 with
    | [.int .i64 v292, .int .i64 v293, a2] =>
    optT (rowF32 L a2) fun v294 =>
    .call (impl_made_g v290 v291 v292 v293 v294) fun y => .leaf (.agg [.int .i64 y.1, .int .i64 y.2.1, .own (L.length + 0) 0 ((y.2.2).length)], L ++ [.row (.f32 y.2.2) 0])
    | _ => .fail)
  | _ => .fail
theorem impl_made_Fok : COk Try.prog 91 impl_made_F true := by
  intro F L H args r L' hs ha hr
  unfold impl_made_F at hr
  split at hr
  · rename_i v290 v291 a1
    obtain ⟨cs0, hcp0, hr⟩ := optT_run hr
    split at hr
    · rename_i v292 v293 a2
      obtain ⟨v294, hv294, hr⟩ := optT_run hr
      simp only [Tree.run] at hr
      obtain ⟨y, hy, hr⟩ := Option.bind_eq_some_iff.1 hr
      simp only [Tree.run, Option.some.injEq, Prod.mk.injEq] at hr
      obtain ⟨rfl, rfl⟩ := hr
      exact call_ok1 hs (fun k => (([a1.av F, a2.av F] : List AV)[k]?).getD .top) [.int .i64 v290, .int .i64 v291, .fn 156 [a1]] [.int .i64 v290, .int .i64 v291, .fn 156 [.bptr (BR.root 0) [.int .i64 v292, .int .i64 v293, .bslc (BR.root 1) (.f32 v294)]]] (fun F' h0 hi hρ => ⟨by simp [DVs.av, DV.av, BR.av, hρ], impl_made_fn v290 v291 v292 v293 v294 F' (by rw [hi]; rfl) (st_nil hi) ⟨trivial, trivial, ⟨bptr_ok hi (by rw [h0]; simpa [DVs.av, DV.av, BR.av, hρ] using (cellsOf_ok hs (DVs.okAt (DVs.okAt ha 2 rfl) 0 rfl) hcp0).1) ⟨trivial, trivial, bslc_ok hi (by rw [h0, hρ]; exact rowF32_ok hs (DVs.okAt (cellsOf_ok hs (DVs.okAt (DVs.okAt ha 2 rfl) 0 rfl) hcp0).2 2 rfl) hv294), trivial⟩, trivial⟩, trivial⟩ hy⟩) rfl rfl
    · cases hr
  · cases hr
/-! (impl.Matrix).upper -/
noncomputable def impl_Matrix_upper_LO (v287 : Int) (v288 : Int) (v289 : List Nat) : LOr := fun id e L =>
  match id with
  | _ => .fail
noncomputable def impl_Matrix_upper_tab : List (FuncId × DFn × Bool) := [(91, impl_made_F, true)]
theorem impl_Matrix_upper_hO : OrcOk Try.prog (tabD impl_Matrix_upper_tab) (tabM impl_Matrix_upper_tab) := tabD_cons impl_made_Fok (tabD_nil _)
noncomputable def impl_Matrix_upper_T (v287 : Int) (v288 : Int) (v289 : List Nat) : Tree (Int × Int × (List Nat)) :=
  (.call (impl_made_g v287 v288 v287 v288 v289) fun v393 =>
  .leaf (v393.1, v393.2.1, v393.2.2))

noncomputable def impl_Matrix_upper_g (v287 : Int) (v288 : Int) (v289 : List Nat) : Option (Int × Int × (List Nat)) := (impl_Matrix_upper_T v287 v288 v289).run
def impl_Matrix_upper_enc (v287 : Int) (v288 : Int) (v289 : List Nat) (y : Int × Int × (List Nat)) : Rs := (.agg [.int .i64 y.1, .int .i64 y.2.1, .own 0 0 ((y.2.2).length)], [.row (.f32 y.2.2) 0])
theorem impl_Matrix_upper_den (v287 : Int) (v288 : Int) (v289 : List Nat) : (den TT (tabD impl_Matrix_upper_tab) (tabM impl_Matrix_upper_tab) (impl_Matrix_upper_LO v287 v288 v289) (codeOf Try.f120) ([.agg [.int .i64 v287, .int .i64 v288, .bslc (BR.root 0) (.f32 v289)]] ++ List.replicate (Try.f120.ntmps - ([.agg [.int .i64 v287, .int .i64 v288, .bslc (BR.root 0) (.f32 v289)]] : List DV).length) .undef) []).bind (retD TT Try.f120.results.toList 0) = (impl_Matrix_upper_T v287 v288 v289).bind fun y => .leaf (impl_Matrix_upper_enc v287 v288 v289 y) := by kernel_rfl
theorem impl_Matrix_upper_fn (v287 : Int) (v288 : Int) (v289 : List Nat) (F : Fr) (hm : F.ids.length = 0) (h0 : St F [] F.H0) (hA : DVs.Ok F [] [.agg [.int .i64 v287, .int .i64 v288, .bslc (BR.root 0) (.f32 v289)]]) {y : Int × Int × (List Nat)} (hy : impl_Matrix_upper_g v287 v288 v289 = some y) : ∃ H', FnOk Try.prog 120 (DVs.av F [.agg [.int .i64 v287, .int .i64 v288, .bslc (BR.root 0) (.f32 v289)]]) F.H0 ((impl_Matrix_upper_enc v287 v288 v289 y).1.av F) H' ∧ St F (impl_Matrix_upper_enc v287 v288 v289 y).2 H' ∧ (impl_Matrix_upper_enc v287 v288 v289 y).1.Ok F (impl_Matrix_upper_enc v287 v288 v289 y).2 :=
  fn_fin tok impl_Matrix_upper_hO mixed Try.func120 Try.call120 (by kernel_rfl) (LoopsOk_eq (l := []) (by kernel_rfl) trivial) (impl_Matrix_upper_den v287 v288 v289) hy hm h0 hA
noncomputable def impl_Matrix_upper_F : DFn := fun args L =>
  match args with
  | [.agg [.int .i64 v287, .int .i64 v288, a1]] =>
    optT (rowF32 L a1) fun v289 =>
    .call (impl_Matrix_upper_g v287 v288 v289) fun y => .leaf (.agg [.int .i64 y.1, .int .i64 y.2.1, .own (L.length + 0) 0 ((y.2.2).length)], L ++ [.row (.f32 y.2.2) 0])
  | _ => .fail
theorem impl_Matrix_upper_Fok : COk Try.prog 120 impl_Matrix_upper_F true := by
  intro F L H args r L' hs ha hr
  unfold impl_Matrix_upper_F at hr
  split at hr
  · rename_i v287 v288 a1
    obtain ⟨v289, hv289, hr⟩ := optT_run hr
    simp only [Tree.run] at hr
    obtain ⟨y, hy, hr⟩ := Option.bind_eq_some_iff.1 hr
    simp only [Tree.run, Option.some.injEq, Prod.mk.injEq] at hr
    obtain ⟨rfl, rfl⟩ := hr
    exact call_ok1 hs (fun k => (([a1.av F] : List AV)[k]?).getD .top) [.agg [.int .i64 v287, .int .i64 v288, a1]] [.agg [.int .i64 v287, .int .i64 v288, .bslc (BR.root 0) (.f32 v289)]] (fun F' h0 hi hρ => ⟨by simp [DVs.av, DV.av, BR.av, hρ], impl_Matrix_upper_fn v287 v288 v289 F' (by rw [hi]; rfl) (st_nil hi) ⟨⟨trivial, trivial, bslc_ok hi (by rw [h0, hρ]; exact rowF32_ok hs (DVs.okAt (DVs.okAt ha 0 rfl) 2 rfl) hv289), trivial⟩, trivial⟩ hy⟩) rfl rfl
  · cases hr
/-! impl.finite -/
noncomputable def impl_finite_LO (v397 : Nat) : LOr := fun id e L =>
  match id with
  | _ => .fail
noncomputable def impl_finite_tab : List (FuncId × DFn × Bool) := [(103, impl_IsFinite_F, true)]
theorem impl_finite_hO : OrcOk Try.prog (tabD impl_finite_tab) (tabM impl_finite_tab) := tabD_cons impl_IsFinite_Fok (tabD_nil _)
noncomputable def impl_finite_T (v397 : Nat) : Tree ((Unit) ⊕ (Nat)) :=
  (.br (!(impl_IsFinite_v v397)) (
   .leaf (.inl ())
  ) (
   .leaf (.inr v397)
  ))

noncomputable def impl_finite_g (v397 : Nat) : Option ((Unit) ⊕ (Nat)) := (impl_finite_T v397).run
def impl_finite_enc (v397 : Nat) (y : (Unit) ⊕ (Nat)) : Rs := (match y with | .inl y => (.tup [.flt .f32 (0 : Nat), .lit false], []) | .inr y => (.tup [.flt .f32 y, .lit true], []))
theorem impl_finite_den (v397 : Nat) : (den TT (tabD impl_finite_tab) (tabM impl_finite_tab) (impl_finite_LO v397) (codeOf Try.f118) ([.flt .f32 v397] ++ List.replicate (Try.f118.ntmps - ([.flt .f32 v397] : List DV).length) .undef) []).bind (retD TT Try.f118.results.toList 0) = (impl_finite_T v397).bind fun y => .leaf (impl_finite_enc v397 y) := by kernel_rfl
theorem impl_finite_fn (v397 : Nat) (F : Fr) (hm : F.ids.length = 0) (h0 : St F [] F.H0) (hA : DVs.Ok F [] [.flt .f32 v397]) {y : (Unit) ⊕ (Nat)} (hy : impl_finite_g v397 = some y) : ∃ H', FnOk Try.prog 118 (DVs.av F [.flt .f32 v397]) F.H0 ((impl_finite_enc v397 y).1.av F) H' ∧ St F (impl_finite_enc v397 y).2 H' ∧ (impl_finite_enc v397 y).1.Ok F (impl_finite_enc v397 y).2 :=
  fn_fin tok impl_finite_hO mixed Try.func118 Try.call118 (by kernel_rfl) (LoopsOk_eq (l := []) (by kernel_rfl) trivial) (impl_finite_den v397) hy hm h0 hA
def impl_finite_v (v397 : Nat) : (Unit) ⊕ (Nat) :=
  if (!(impl_IsFinite_v v397)) = true then (
   .inl ()
  ) else (
   .inr v397
  )
theorem impl_finite_tot (v397 : Nat) : impl_finite_g v397 = some (impl_finite_v v397) := by
  unfold impl_finite_g impl_finite_T impl_finite_v
  simp only [Tree.run]
  repeat' (first | rfl | split)
noncomputable def impl_finite_F : DFn := fun args L =>
  match args with
  | [.flt .f32 v397] =>
    .sum (impl_finite_v v397) (fun y0 => .leaf (.tup [.flt .f32 (0 : Nat), .lit false], L)) (fun z0 => .leaf (.tup [.flt .f32 z0, .lit true], L))
  | _ => .fail
theorem impl_finite_Fok : COk Try.prog 118 impl_finite_F true := by
  intro F L H args r L' hs ha hr
  unfold impl_finite_F at hr
  split at hr
  · rename_i v397
    have hy := impl_finite_tot v397
    generalize impl_finite_v v397 = y at hy hr
    cases y with
    | inl y =>
      simp only [Tree.run, Option.some.injEq, Prod.mk.injEq] at hr
      obtain ⟨rfl, rfl⟩ := hr
      exact call_ok0 hs (fun k => (([] : List AV)[k]?).getD .top) [.flt .f32 v397] [.flt .f32 v397] (fun F' h0 hi hρ => ⟨by simp [DVs.av, DV.av, BR.av, hρ], impl_finite_fn v397 F' (by rw [hi]; rfl) (st_nil hi) ⟨trivial, trivial⟩ hy⟩) rfl
    | inr y =>
      simp only [Tree.run, Option.some.injEq, Prod.mk.injEq] at hr
      obtain ⟨rfl, rfl⟩ := hr
      exact call_ok0 hs (fun k => (([] : List AV)[k]?).getD .top) [.flt .f32 v397] [.flt .f32 v397] (fun F' h0 hi hρ => ⟨by simp [DVs.av, DV.av, BR.av, hρ], impl_finite_fn v397 F' (by rw [hi]; rfl) (st_nil hi) ⟨trivial, trivial⟩ hy⟩) rfl
  · cases hr
/-! impl.FactorGrowth -/
noncomputable def impl_FactorGrowth_LO (v194 : Int) (v195 : Int) (v196 : List Nat) (v197 : Int) (v198 : Int) (v199 : List Nat) (v200 : List Int) : LOr := fun id e L =>
  match id with
  | _ => .fail
noncomputable def impl_FactorGrowth_tab : List (FuncId × DFn × Bool) := [(98, impl_ValidMatrix_F, true), (49, impl_ValidFactor_F, true), (122, impl_Matrix_greatest_F, true), (120, impl_Matrix_upper_F, true), (118, impl_finite_F, true)]
theorem impl_FactorGrowth_hO : OrcOk Try.prog (tabD impl_FactorGrowth_tab) (tabM impl_FactorGrowth_tab) := tabD_cons impl_ValidMatrix_Fok (tabD_cons impl_ValidFactor_Fok (tabD_cons impl_Matrix_greatest_Fok (tabD_cons impl_Matrix_upper_Fok (tabD_cons impl_finite_Fok (tabD_nil _)))))
noncomputable def impl_FactorGrowth_T (v194 : Int) (v195 : Int) (v196 : List Nat) (v197 : Int) (v198 : Int) (v199 : List Nat) (v200 : List Int) : Tree ((Unit) ⊕ (Nat)) :=
  (.call (impl_ValidMatrix_g v194 v195 v196) fun v227 =>
  (.br (!v227) (
   .leaf (.inl ())
  ) (
   (.call (impl_ValidFactor_g v197 v198 v199 v200) fun v270 =>
   (.br (!v270) (
    .leaf (.inl ())
   ) (
    (.call (impl_Matrix_greatest_g v194 v195 v196) fun v286 =>
    (.br (feq .f32 v286 (0 : Nat)) (
     .leaf (.inl ())
    ) (
     (.call (impl_Matrix_upper_g v197 v198 v199) fun v394 =>
     (.call (impl_Matrix_greatest_g v394.1 v394.2.1 v394.2.2) fun v395 =>
     (.call (impl_Matrix_greatest_g v194 v195 v196) fun v396 =>
     (.sum (impl_finite_v (fdiv .f32 v395 v396)) (fun v398 =>
      .leaf (.inl ())
     ) (fun v399 =>
      .leaf (.inr v399)
     )))))
    )))
   )))
  )))

noncomputable def impl_FactorGrowth_g (v194 : Int) (v195 : Int) (v196 : List Nat) (v197 : Int) (v198 : Int) (v199 : List Nat) (v200 : List Int) : Option ((Unit) ⊕ (Nat)) := (impl_FactorGrowth_T v194 v195 v196 v197 v198 v199 v200).run
def impl_FactorGrowth_enc (v194 : Int) (v195 : Int) (v196 : List Nat) (v197 : Int) (v198 : Int) (v199 : List Nat) (v200 : List Int) (y : (Unit) ⊕ (Nat)) : Rs := (match y with | .inl y => (.tup [.flt .f32 (0 : Nat), .lit false], []) | .inr y => (.tup [.flt .f32 y, .lit true], []))
theorem impl_FactorGrowth_den (v194 : Int) (v195 : Int) (v196 : List Nat) (v197 : Int) (v198 : Int) (v199 : List Nat) (v200 : List Int) : (den TT (tabD impl_FactorGrowth_tab) (tabM impl_FactorGrowth_tab) (impl_FactorGrowth_LO v194 v195 v196 v197 v198 v199 v200) (codeOf Try.f58) ([.agg [.int .i64 v194, .int .i64 v195, .bslc (BR.root 0) (.f32 v196)], .agg [.int .i64 v197, .int .i64 v198, .bslc (BR.root 1) (.f32 v199), .bslc (BR.root 2) (.i64 v200)]] ++ List.replicate (Try.f58.ntmps - ([.agg [.int .i64 v194, .int .i64 v195, .bslc (BR.root 0) (.f32 v196)], .agg [.int .i64 v197, .int .i64 v198, .bslc (BR.root 1) (.f32 v199), .bslc (BR.root 2) (.i64 v200)]] : List DV).length) .undef) []).bind (retD TT Try.f58.results.toList 0) = (impl_FactorGrowth_T v194 v195 v196 v197 v198 v199 v200).bind fun y => .leaf (impl_FactorGrowth_enc v194 v195 v196 v197 v198 v199 v200 y) := by kernel_rfl
theorem impl_FactorGrowth_fn (v194 : Int) (v195 : Int) (v196 : List Nat) (v197 : Int) (v198 : Int) (v199 : List Nat) (v200 : List Int) (F : Fr) (hm : F.ids.length = 0) (h0 : St F [] F.H0) (hA : DVs.Ok F [] [.agg [.int .i64 v194, .int .i64 v195, .bslc (BR.root 0) (.f32 v196)], .agg [.int .i64 v197, .int .i64 v198, .bslc (BR.root 1) (.f32 v199), .bslc (BR.root 2) (.i64 v200)]]) {y : (Unit) ⊕ (Nat)} (hy : impl_FactorGrowth_g v194 v195 v196 v197 v198 v199 v200 = some y) : ∃ H', FnOk Try.prog 58 (DVs.av F [.agg [.int .i64 v194, .int .i64 v195, .bslc (BR.root 0) (.f32 v196)], .agg [.int .i64 v197, .int .i64 v198, .bslc (BR.root 1) (.f32 v199), .bslc (BR.root 2) (.i64 v200)]]) F.H0 ((impl_FactorGrowth_enc v194 v195 v196 v197 v198 v199 v200 y).1.av F) H' ∧ St F (impl_FactorGrowth_enc v194 v195 v196 v197 v198 v199 v200 y).2 H' ∧ (impl_FactorGrowth_enc v194 v195 v196 v197 v198 v199 v200 y).1.Ok F (impl_FactorGrowth_enc v194 v195 v196 v197 v198 v199 v200 y).2 :=
  fn_fin tok impl_FactorGrowth_hO mixed Try.func58 Try.call58 (by kernel_rfl) (LoopsOk_eq (l := []) (by kernel_rfl) trivial) (impl_FactorGrowth_den v194 v195 v196 v197 v198 v199 v200) hy hm h0 hA
noncomputable def impl_FactorGrowth_F : DFn := fun args L =>
  match args with
  | [.agg [.int .i64 v194, .int .i64 v195, a1], .agg [.int .i64 v197, .int .i64 v198, a2, a3]] =>
    optT (rowF32 L a1) fun v196 =>
    optT (rowF32 L a2) fun v199 =>
    optT (rowI64 L a3) fun v200 =>
    .call (impl_FactorGrowth_g v194 v195 v196 v197 v198 v199 v200) fun y => .sum y (fun y0 => .leaf (.tup [.flt .f32 (0 : Nat), .lit false], L)) (fun z0 => .leaf (.tup [.flt .f32 z0, .lit true], L))
  | _ => .fail
theorem impl_FactorGrowth_Fok : COk Try.prog 58 impl_FactorGrowth_F true := by
  intro F L H args r L' hs ha hr
  unfold impl_FactorGrowth_F at hr
  split at hr
  · rename_i v194 v195 a1 v197 v198 a2 a3
    obtain ⟨v196, hv196, hr⟩ := optT_run hr
    obtain ⟨v199, hv199, hr⟩ := optT_run hr
    obtain ⟨v200, hv200, hr⟩ := optT_run hr
    simp only [Tree.run] at hr
    obtain ⟨y, hy, hr⟩ := Option.bind_eq_some_iff.1 hr
    cases y with
    | inl y =>
      simp only [Tree.run, Option.some.injEq, Prod.mk.injEq] at hr
      obtain ⟨rfl, rfl⟩ := hr
      exact call_ok0 hs (fun k => (([a1.av F, a2.av F, a3.av F] : List AV)[k]?).getD .top) [.agg [.int .i64 v194, .int .i64 v195, a1], .agg [.int .i64 v197, .int .i64 v198, a2, a3]] [.agg [.int .i64 v194, .int .i64 v195, .bslc (BR.root 0) (.f32 v196)], .agg [.int .i64 v197, .int .i64 v198, .bslc (BR.root 1) (.f32 v199), .bslc (BR.root 2) (.i64 v200)]] (fun F' h0 hi hρ => ⟨by simp [DVs.av, DV.av, BR.av, hρ], impl_FactorGrowth_fn v194 v195 v196 v197 v198 v199 v200 F' (by rw [hi]; rfl) (st_nil hi) ⟨⟨trivial, trivial, bslc_ok hi (by rw [h0, hρ]; exact rowF32_ok hs (DVs.okAt (DVs.okAt ha 0 rfl) 2 rfl) hv196), trivial⟩, ⟨trivial, trivial, bslc_ok hi (by rw [h0, hρ]; exact rowF32_ok hs (DVs.okAt (DVs.okAt ha 1 rfl) 2 rfl) hv199), bslc_ok hi (by rw [h0, hρ]; exact rowI64_ok hs (DVs.okAt (DVs.okAt ha 1 rfl) 3 rfl) hv200), trivial⟩, trivial⟩ hy⟩) rfl
    | inr y =>
      simp only [Tree.run, Option.some.injEq, Prod.mk.injEq] at hr
      obtain ⟨rfl, rfl⟩ := hr
      exact call_ok0 hs (fun k => (([a1.av F, a2.av F, a3.av F] : List AV)[k]?).getD .top) [.agg [.int .i64 v194, .int .i64 v195, a1], .agg [.int .i64 v197, .int .i64 v198, a2, a3]] [.agg [.int .i64 v194, .int .i64 v195, .bslc (BR.root 0) (.f32 v196)], .agg [.int .i64 v197, .int .i64 v198, .bslc (BR.root 1) (.f32 v199), .bslc (BR.root 2) (.i64 v200)]] (fun F' h0 hi hρ => ⟨by simp [DVs.av, DV.av, BR.av, hρ], impl_FactorGrowth_fn v194 v195 v196 v197 v198 v199 v200 F' (by rw [hi]; rfl) (st_nil hi) ⟨⟨trivial, trivial, bslc_ok hi (by rw [h0, hρ]; exact rowF32_ok hs (DVs.okAt (DVs.okAt ha 0 rfl) 2 rfl) hv196), trivial⟩, ⟨trivial, trivial, bslc_ok hi (by rw [h0, hρ]; exact rowF32_ok hs (DVs.okAt (DVs.okAt ha 1 rfl) 2 rfl) hv199), bslc_ok hi (by rw [h0, hρ]; exact rowI64_ok hs (DVs.okAt (DVs.okAt ha 1 rfl) 3 rfl) hv200), trivial⟩, trivial⟩ hy⟩) rfl
  · cases hr
/-! laws.sameFloat -/
noncomputable def laws_sameFloat_LO (v403 : Nat) (v404 : Nat) : LOr := fun id e L =>
  match id with
  | _ => .fail
noncomputable def laws_sameFloat_tab : List (FuncId × DFn × Bool) := []
theorem laws_sameFloat_hO : OrcOk Try.prog (tabD laws_sameFloat_tab) (tabM laws_sameFloat_tab) := tabD_nil _
noncomputable def laws_sameFloat_T (v403 : Nat) (v404 : Nat) : Tree (Bool) :=
  (.br (!feq .f64 v403 v403) (
   (.br (!feq .f64 v403 v403) (
    .leaf (!feq .f64 v404 v404)
   ) (
    .leaf false
   ))
  ) (
   (.br (!feq .f64 v404 v404) (
    (.br (!feq .f64 v403 v403) (
     .leaf (!feq .f64 v404 v404)
    ) (
     .leaf false
    ))
   ) (
    (.br (feq .f64 v403 (0 : Nat)) (
     (.br (feq .f64 v404 (0 : Nat)) (
      .leaf ((fgrt .f64 (fdiv .f64 (4607182418800017408 : Nat) v403) (0 : Nat)) == (fgrt .f64 (fdiv .f64 (4607182418800017408 : Nat) v404) (0 : Nat)))
     ) (
      .leaf (feq .f64 v403 v404)
     ))
    ) (
     .leaf (feq .f64 v403 v404)
    ))
   ))
  ))

noncomputable def laws_sameFloat_g (v403 : Nat) (v404 : Nat) : Option (Bool) := (laws_sameFloat_T v403 v404).run
def laws_sameFloat_enc (v403 : Nat) (v404 : Nat) (y : Bool) : Rs := (.bool y, [])
theorem laws_sameFloat_den (v403 : Nat) (v404 : Nat) : (den TT (tabD laws_sameFloat_tab) (tabM laws_sameFloat_tab) (laws_sameFloat_LO v403 v404) (codeOf Try.f53) ([.flt .f64 v403, .flt .f64 v404] ++ List.replicate (Try.f53.ntmps - ([.flt .f64 v403, .flt .f64 v404] : List DV).length) .undef) []).bind (retD TT Try.f53.results.toList 0) = (laws_sameFloat_T v403 v404).bind fun y => .leaf (laws_sameFloat_enc v403 v404 y) := by kernel_rfl
theorem laws_sameFloat_fn (v403 : Nat) (v404 : Nat) (F : Fr) (hm : F.ids.length = 0) (h0 : St F [] F.H0) (hA : DVs.Ok F [] [.flt .f64 v403, .flt .f64 v404]) {y : Bool} (hy : laws_sameFloat_g v403 v404 = some y) : ∃ H', FnOk Try.prog 53 (DVs.av F [.flt .f64 v403, .flt .f64 v404]) F.H0 ((laws_sameFloat_enc v403 v404 y).1.av F) H' ∧ St F (laws_sameFloat_enc v403 v404 y).2 H' ∧ (laws_sameFloat_enc v403 v404 y).1.Ok F (laws_sameFloat_enc v403 v404 y).2 :=
  fn_fin tok laws_sameFloat_hO mixed Try.func53 Try.call53 (by kernel_rfl) (LoopsOk_eq (l := []) (by kernel_rfl) trivial) (laws_sameFloat_den v403 v404) hy hm h0 hA
def laws_sameFloat_v (v403 : Nat) (v404 : Nat) : Bool :=
  if (!feq .f64 v403 v403) = true then (
   if (!feq .f64 v403 v403) = true then (
    !feq .f64 v404 v404
   ) else (
    false
   )
  ) else (
   if (!feq .f64 v404 v404) = true then (
    if (!feq .f64 v403 v403) = true then (
     !feq .f64 v404 v404
    ) else (
     false
    )
   ) else (
    if (feq .f64 v403 (0 : Nat)) = true then (
     if (feq .f64 v404 (0 : Nat)) = true then (
      (fgrt .f64 (fdiv .f64 (4607182418800017408 : Nat) v403) (0 : Nat)) == (fgrt .f64 (fdiv .f64 (4607182418800017408 : Nat) v404) (0 : Nat))
     ) else (
      feq .f64 v403 v404
     )
    ) else (
     feq .f64 v403 v404
    )
   )
  )
theorem laws_sameFloat_tot (v403 : Nat) (v404 : Nat) : laws_sameFloat_g v403 v404 = some (laws_sameFloat_v v403 v404) := by
  unfold laws_sameFloat_g laws_sameFloat_T laws_sameFloat_v
  simp only [Tree.run]
  repeat' (first | rfl | split)
noncomputable def laws_sameFloat_F : DFn := fun args L =>
  match args with
  | [.flt .f64 v403, .flt .f64 v404] =>
    .leaf (.bool (laws_sameFloat_v v403 v404), L)
  | _ => .fail
theorem laws_sameFloat_Fok : COk Try.prog 53 laws_sameFloat_F true := by
  intro F L H args r L' hs ha hr
  unfold laws_sameFloat_F at hr
  split at hr
  · rename_i v403 v404
    have hy := laws_sameFloat_tot v403 v404
    generalize laws_sameFloat_v v403 v404 = y at hy hr
    simp only [Tree.run, Option.some.injEq, Prod.mk.injEq] at hr
    obtain ⟨rfl, rfl⟩ := hr
    exact call_ok0 hs (fun k => (([] : List AV)[k]?).getD .top) [.flt .f64 v403, .flt .f64 v404] [.flt .f64 v403, .flt .f64 v404] (fun F' h0 hi hρ => ⟨by simp [DVs.av, DV.av, BR.av, hρ], laws_sameFloat_fn v403 v404 F' (by rw [hi]; rfl) (st_nil hi) ⟨trivial, trivial, trivial⟩ hy⟩) rfl
  · cases hr
/-! laws.eqFloat32S -/
noncomputable def laws_eqFloat32S_l0_T (v412 : List Nat) (v413 : List Nat) (s : Int) : Tree ((Int) ⊕ ((Unit) ⊕ (Unit))) :=
  (.br (decide (s < ((v412.length : Nat) : Int))) (
   (.grd (inb s v412.length) <|
   (.grd (inb s v413.length) <|
   (.br (!(laws_sameFloat_v (wid (nth v412 (Int.toNat s))) (wid (nth v413 (Int.toNat s))))) (
    .leaf (.inr (.inl ()))
   ) (
    .leaf (.inl (IntKind.i64.wrap (s + (1 : Int))))
   ))))
  ) (
   .leaf (.inr (.inr ()))
  ))

noncomputable def laws_eqFloat32S_l0_g (v412 : List Nat) (v413 : List Nat) (s0 : Int) : Option ((Unit) ⊕ (Unit)) := whileM (fun s => (laws_eqFloat32S_l0_T v412 v413 s).run) s0
def laws_eqFloat32S_l0_E (v412 : List Nat) (v413 : List Nat) (s : Int) : Sd := ([.bslc (BR.root 0) (.f32 v412), .bslc (BR.root 1) (.f32 v413), .top, .top, .top, .int .i64 s, .top, .top, .top, .top, .top, .top, .top, .top, .top, .top, .top, .top, .top, .top, .top, .top, .top, .top, .top, .top, .top, .top, .top], [])
def laws_eqFloat32S_l0_X (v412 : List Nat) (v413 : List Nat) (x : (Unit) ⊕ (Unit)) : Out := (match x with | .inl x => (.ret, [.top, .top, .top, .top, .lit false, .top, .top, .top, .top, .top, .top, .top, .top, .top, .top, .top, .top, .top, .top, .top, .top, .top, .top, .top, .top, .top, .top, .top, .top], []) | .inr x => (.normal, [.top, .top, .top, .top, .top, .top, .top, .top, .top, .top, .top, .top, .top, .top, .top, .top, .top, .top, .top, .top, .top, .top, .top, .top, .top, .top, .top, .top, .top], []))
def laws_eqFloat32S_l0_kill : List Nat := [0, 0, 1, 1, 1, 0, 1, 1, 1, 1, 1, 1, 1, 1, 1, 1, 1, 1, 1, 1, 1, 1, 1, 1, 1, 1, 1, 1, 1]
def laws_eqFloat32S_l0_nx : Exit → List Nat
  | .exit 0 => [1, 1, 1, 1, 1, 1, 1, 1, 1, 1, 1, 1, 1, 1, 1, 1, 1, 1, 1, 1, 1, 1, 1, 1, 1, 1, 1, 1, 1]
  | .ret => [1, 1, 1, 1, 0, 1, 1, 1, 1, 1, 1, 1, 1, 1, 1, 1, 1, 1, 1, 1, 1, 1, 1, 1, 1, 1, 1, 1, 1]
  | _ => []
noncomputable def laws_eqFloat32S_LO (v412 : List Nat) (v413 : List Nat) : LOr := fun id e L =>
  match id with
  | 0 => .need (normA 0 laws_eqFloat32S_l0_kill e L = some (laws_eqFloat32S_l0_E v412 v413 (gI (vAt e 5)))) (.call (laws_eqFloat32S_l0_g v412 v413 (gI (vAt e 5))) fun x => .sum x (fun b0 => .leaf (laws_eqFloat32S_l0_X v412 v413 (.inl b0))) (fun c0 => .leaf (laws_eqFloat32S_l0_X v412 v413 (.inr c0))))
  | _ => .fail
noncomputable def laws_eqFloat32S_tab : List (FuncId × DFn × Bool) := [(53, laws_sameFloat_F, true)]
theorem laws_eqFloat32S_hO : OrcOk Try.prog (tabD laws_eqFloat32S_tab) (tabM laws_eqFloat32S_tab) := tabD_cons laws_sameFloat_Fok (tabD_nil _)
theorem laws_eqFloat32S_l0_be (v412 : List Nat) (v413 : List Nat) (s : Int) : bodyT TT (tabD laws_eqFloat32S_tab) (tabM laws_eqFloat32S_tab) (laws_eqFloat32S_LO v412 v413) 0 laws_eqFloat32S_l0_kill laws_eqFloat32S_l0_nx (bodyOf Try.f20 0) 0 (laws_eqFloat32S_l0_E v412 v413 s) = (laws_eqFloat32S_l0_T v412 v413 s).bind fun y => .leaf (outS (laws_eqFloat32S_l0_E v412 v413) (laws_eqFloat32S_l0_X v412 v413) y) := by kernel_rfl
theorem laws_eqFloat32S_l0_ok (v412 : List Nat) (v413 : List Nat) : LSound Try.prog 0 (laws_eqFloat32S_LO v412 v413) 0 (bodyOf Try.f20 0) := by
  intro e L out h
  exact lo_ok (E := laws_eqFloat32S_l0_E v412 v413) (gT := laws_eqFloat32S_l0_T v412 v413) (X := laws_eqFloat32S_l0_X v412 v413) (s0 := (gI (vAt e 5))) tok laws_eqFloat32S_hO mixed (LoopsOk_eq (l := []) (by kernel_rfl) trivial) (laws_eqFloat32S_l0_be v412 v413) rfl (by intro x; (cases x with | inl b => rfl | inr x => exact rfl)) h
noncomputable def laws_eqFloat32S_T (v412 : List Nat) (v413 : List Nat) : Tree (Bool) :=
  (.br (!decide (((v412.length : Nat) : Int) = ((v413.length : Nat) : Int))) (
   .leaf false
  ) (
   (.need (some (laws_eqFloat32S_l0_E v412 v413 (0 : Int)) = some (laws_eqFloat32S_l0_E v412 v413 (0 : Int))) <|
   (.call (laws_eqFloat32S_l0_g v412 v413 (0 : Int)) fun v417 =>
   (.sum v417 (fun v418 =>
    .leaf false
   ) (fun v419 =>
    .leaf true
   ))))
  ))

noncomputable def laws_eqFloat32S_g (v412 : List Nat) (v413 : List Nat) : Option (Bool) := (laws_eqFloat32S_T v412 v413).run
def laws_eqFloat32S_enc (v412 : List Nat) (v413 : List Nat) (y : Bool) : Rs := (.bool y, [])
theorem laws_eqFloat32S_den (v412 : List Nat) (v413 : List Nat) : (den TT (tabD laws_eqFloat32S_tab) (tabM laws_eqFloat32S_tab) (laws_eqFloat32S_LO v412 v413) (codeOf Try.f20) ([.bslc (BR.root 0) (.f32 v412), .bslc (BR.root 1) (.f32 v413)] ++ List.replicate (Try.f20.ntmps - ([.bslc (BR.root 0) (.f32 v412), .bslc (BR.root 1) (.f32 v413)] : List DV).length) .undef) []).bind (retD TT Try.f20.results.toList 0) = (laws_eqFloat32S_T v412 v413).bind fun y => .leaf (laws_eqFloat32S_enc v412 v413 y) := by kernel_rfl
theorem laws_eqFloat32S_fn (v412 : List Nat) (v413 : List Nat) (F : Fr) (hm : F.ids.length = 0) (h0 : St F [] F.H0) (hA : DVs.Ok F [] [.bslc (BR.root 0) (.f32 v412), .bslc (BR.root 1) (.f32 v413)]) {y : Bool} (hy : laws_eqFloat32S_g v412 v413 = some y) : ∃ H', FnOk Try.prog 20 (DVs.av F [.bslc (BR.root 0) (.f32 v412), .bslc (BR.root 1) (.f32 v413)]) F.H0 ((laws_eqFloat32S_enc v412 v413 y).1.av F) H' ∧ St F (laws_eqFloat32S_enc v412 v413 y).2 H' ∧ (laws_eqFloat32S_enc v412 v413 y).1.Ok F (laws_eqFloat32S_enc v412 v413 y).2 :=
  fn_fin tok laws_eqFloat32S_hO mixed Try.func20 Try.call20 (by kernel_rfl) (LoopsOk_eq (l := [(0, bodyOf Try.f20 0)]) (by kernel_rfl) ⟨laws_eqFloat32S_l0_ok v412 v413, trivial⟩) (laws_eqFloat32S_den v412 v413) hy hm h0 hA
noncomputable def laws_eqFloat32S_F : DFn := fun args L =>
  match args with
  | [a1, a2] =>
    optT (rowF32 L a1) fun v412 =>
    optT (rowF32 L a2) fun v413 =>
    .call (laws_eqFloat32S_g v412 v413) fun y => .leaf (.bool y, L)
  | _ => .fail
theorem laws_eqFloat32S_Fok : COk Try.prog 20 laws_eqFloat32S_F true := by
  intro F L H args r L' hs ha hr
  unfold laws_eqFloat32S_F at hr
  split at hr
  · rename_i a1 a2
    obtain ⟨v412, hv412, hr⟩ := optT_run hr
    obtain ⟨v413, hv413, hr⟩ := optT_run hr
    simp only [Tree.run] at hr
    obtain ⟨y, hy, hr⟩ := Option.bind_eq_some_iff.1 hr
    simp only [Tree.run, Option.some.injEq, Prod.mk.injEq] at hr
    obtain ⟨rfl, rfl⟩ := hr
    exact call_ok0 hs (fun k => (([a1.av F, a2.av F] : List AV)[k]?).getD .top) [a1, a2] [.bslc (BR.root 0) (.f32 v412), .bslc (BR.root 1) (.f32 v413)] (fun F' h0 hi hρ => ⟨by simp [DVs.av, DV.av, BR.av, hρ], laws_eqFloat32S_fn v412 v413 F' (by rw [hi]; rfl) (st_nil hi) ⟨bslc_ok hi (by rw [h0, hρ]; exact rowF32_ok hs (DVs.okAt ha 0 rfl) hv412), bslc_ok hi (by rw [h0, hρ]; exact rowF32_ok hs (DVs.okAt ha 1 rfl) hv413), trivial⟩ hy⟩) rfl
  · cases hr
/-! laws.eqMatrix -/
noncomputable def laws_eqMatrix_LO (v406 : Int) (v407 : Int) (v408 : List Nat) (v409 : Int) (v410 : Int) (v411 : List Nat) : LOr := fun id e L =>
  match id with
  | _ => .fail
noncomputable def laws_eqMatrix_tab : List (FuncId × DFn × Bool) := [(20, laws_eqFloat32S_F, true)]
theorem laws_eqMatrix_hO : OrcOk Try.prog (tabD laws_eqMatrix_tab) (tabM laws_eqMatrix_tab) := tabD_cons laws_eqFloat32S_Fok (tabD_nil _)
noncomputable def laws_eqMatrix_T (v406 : Int) (v407 : Int) (v408 : List Nat) (v409 : Int) (v410 : Int) (v411 : List Nat) : Tree (Bool) :=
  (.br (!decide (v406 = v409)) (
   .leaf false
  ) (
   (.br (!decide (v407 = v410)) (
    .leaf false
   ) (
    (.call (laws_eqFloat32S_g v408 v411) fun v420 =>
    (.br (!v420) (
     .leaf false
    ) (
     .leaf true
    )))
   ))
  ))

noncomputable def laws_eqMatrix_g (v406 : Int) (v407 : Int) (v408 : List Nat) (v409 : Int) (v410 : Int) (v411 : List Nat) : Option (Bool) := (laws_eqMatrix_T v406 v407 v408 v409 v410 v411).run
def laws_eqMatrix_enc (v406 : Int) (v407 : Int) (v408 : List Nat) (v409 : Int) (v410 : Int) (v411 : List Nat) (y : Bool) : Rs := (.bool y, [])
theorem laws_eqMatrix_den (v406 : Int) (v407 : Int) (v408 : List Nat) (v409 : Int) (v410 : Int) (v411 : List Nat) : (den TT (tabD laws_eqMatrix_tab) (tabM laws_eqMatrix_tab) (laws_eqMatrix_LO v406 v407 v408 v409 v410 v411) (codeOf Try.f33) ([.agg [.int .i64 v406, .int .i64 v407, .bslc (BR.root 0) (.f32 v408)], .agg [.int .i64 v409, .int .i64 v410, .bslc (BR.root 1) (.f32 v411)]] ++ List.replicate (Try.f33.ntmps - ([.agg [.int .i64 v406, .int .i64 v407, .bslc (BR.root 0) (.f32 v408)], .agg [.int .i64 v409, .int .i64 v410, .bslc (BR.root 1) (.f32 v411)]] : List DV).length) .undef) []).bind (retD TT Try.f33.results.toList 0) = (laws_eqMatrix_T v406 v407 v408 v409 v410 v411).bind fun y => .leaf (laws_eqMatrix_enc v406 v407 v408 v409 v410 v411 y) := by kernel_rfl
theorem laws_eqMatrix_fn (v406 : Int) (v407 : Int) (v408 : List Nat) (v409 : Int) (v410 : Int) (v411 : List Nat) (F : Fr) (hm : F.ids.length = 0) (h0 : St F [] F.H0) (hA : DVs.Ok F [] [.agg [.int .i64 v406, .int .i64 v407, .bslc (BR.root 0) (.f32 v408)], .agg [.int .i64 v409, .int .i64 v410, .bslc (BR.root 1) (.f32 v411)]]) {y : Bool} (hy : laws_eqMatrix_g v406 v407 v408 v409 v410 v411 = some y) : ∃ H', FnOk Try.prog 33 (DVs.av F [.agg [.int .i64 v406, .int .i64 v407, .bslc (BR.root 0) (.f32 v408)], .agg [.int .i64 v409, .int .i64 v410, .bslc (BR.root 1) (.f32 v411)]]) F.H0 ((laws_eqMatrix_enc v406 v407 v408 v409 v410 v411 y).1.av F) H' ∧ St F (laws_eqMatrix_enc v406 v407 v408 v409 v410 v411 y).2 H' ∧ (laws_eqMatrix_enc v406 v407 v408 v409 v410 v411 y).1.Ok F (laws_eqMatrix_enc v406 v407 v408 v409 v410 v411 y).2 :=
  fn_fin tok laws_eqMatrix_hO mixed Try.func33 Try.call33 (by kernel_rfl) (LoopsOk_eq (l := []) (by kernel_rfl) trivial) (laws_eqMatrix_den v406 v407 v408 v409 v410 v411) hy hm h0 hA
noncomputable def laws_eqMatrix_F : DFn := fun args L =>
  match args with
  | [.agg [.int .i64 v406, .int .i64 v407, a1], .agg [.int .i64 v409, .int .i64 v410, a2]] =>
    optT (rowF32 L a1) fun v408 =>
    optT (rowF32 L a2) fun v411 =>
    .call (laws_eqMatrix_g v406 v407 v408 v409 v410 v411) fun y => .leaf (.bool y, L)
  | _ => .fail
theorem laws_eqMatrix_Fok : COk Try.prog 33 laws_eqMatrix_F true := by
  intro F L H args r L' hs ha hr
  unfold laws_eqMatrix_F at hr
  split at hr
  · rename_i v406 v407 a1 v409 v410 a2
    obtain ⟨v408, hv408, hr⟩ := optT_run hr
    obtain ⟨v411, hv411, hr⟩ := optT_run hr
    simp only [Tree.run] at hr
    obtain ⟨y, hy, hr⟩ := Option.bind_eq_some_iff.1 hr
    simp only [Tree.run, Option.some.injEq, Prod.mk.injEq] at hr
    obtain ⟨rfl, rfl⟩ := hr
    exact call_ok0 hs (fun k => (([a1.av F, a2.av F] : List AV)[k]?).getD .top) [.agg [.int .i64 v406, .int .i64 v407, a1], .agg [.int .i64 v409, .int .i64 v410, a2]] [.agg [.int .i64 v406, .int .i64 v407, .bslc (BR.root 0) (.f32 v408)], .agg [.int .i64 v409, .int .i64 v410, .bslc (BR.root 1) (.f32 v411)]] (fun F' h0 hi hρ => ⟨by simp [DVs.av, DV.av, BR.av, hρ], laws_eqMatrix_fn v406 v407 v408 v409 v410 v411 F' (by rw [hi]; rfl) (st_nil hi) ⟨⟨trivial, trivial, bslc_ok hi (by rw [h0, hρ]; exact rowF32_ok hs (DVs.okAt (DVs.okAt ha 0 rfl) 2 rfl) hv408), trivial⟩, ⟨trivial, trivial, bslc_ok hi (by rw [h0, hρ]; exact rowF32_ok hs (DVs.okAt (DVs.okAt ha 1 rfl) 2 rfl) hv411), trivial⟩, trivial⟩ hy⟩) rfl
  · cases hr
/-! laws.eqInt64S -/
noncomputable def laws_eqInt64S_l0_T (v432 : List Int) (v433 : List Int) (s : Int) : Tree ((Int) ⊕ ((Unit) ⊕ (Unit))) :=
  (.br (decide (s < ((v432.length : Nat) : Int))) (
   (.grd (inb s v432.length) <|
   (.grd (inb s v433.length) <|
   (.br (!decide (nth v432 (Int.toNat s) = nth v433 (Int.toNat s))) (
    .leaf (.inr (.inl ()))
   ) (
    .leaf (.inl (IntKind.i64.wrap (s + (1 : Int))))
   ))))
  ) (
   .leaf (.inr (.inr ()))
  ))

noncomputable def laws_eqInt64S_l0_g (v432 : List Int) (v433 : List Int) (s0 : Int) : Option ((Unit) ⊕ (Unit)) := whileM (fun s => (laws_eqInt64S_l0_T v432 v433 s).run) s0
def laws_eqInt64S_l0_E (v432 : List Int) (v433 : List Int) (s : Int) : Sd := ([.bslc (BR.root 0) (.i64 v432), .bslc (BR.root 1) (.i64 v433), .top, .top, .top, .int .i64 s, .top, .top, .top, .top, .top, .top, .top, .top, .top, .top, .top, .top, .top, .top, .top, .top, .top, .top, .top, .top], [])
def laws_eqInt64S_l0_X (v432 : List Int) (v433 : List Int) (x : (Unit) ⊕ (Unit)) : Out := (match x with | .inl x => (.ret, [.top, .top, .top, .top, .lit false, .top, .top, .top, .top, .top, .top, .top, .top, .top, .top, .top, .top, .top, .top, .top, .top, .top, .top, .top, .top, .top], []) | .inr x => (.normal, [.top, .top, .top, .top, .top, .top, .top, .top, .top, .top, .top, .top, .top, .top, .top, .top, .top, .top, .top, .top, .top, .top, .top, .top, .top, .top], []))
def laws_eqInt64S_l0_kill : List Nat := [0, 0, 1, 1, 1, 0, 1, 1, 1, 1, 1, 1, 1, 1, 1, 1, 1, 1, 1, 1, 1, 1, 1, 1, 1, 1]
def laws_eqInt64S_l0_nx : Exit → List Nat
  | .exit 0 => [1, 1, 1, 1, 1, 1, 1, 1, 1, 1, 1, 1, 1, 1, 1, 1, 1, 1, 1, 1, 1, 1, 1, 1, 1, 1]
  | .ret => [1, 1, 1, 1, 0, 1, 1, 1, 1, 1, 1, 1, 1, 1, 1, 1, 1, 1, 1, 1, 1, 1, 1, 1, 1, 1]
  | _ => []
noncomputable def laws_eqInt64S_LO (v432 : List Int) (v433 : List Int) : LOr := fun id e L =>
  match id with
  | 0 => .need (normA 0 laws_eqInt64S_l0_kill e L = some (laws_eqInt64S_l0_E v432 v433 (gI (vAt e 5)))) (.call (laws_eqInt64S_l0_g v432 v433 (gI (vAt e 5))) fun x => .sum x (fun b0 => .leaf (laws_eqInt64S_l0_X v432 v433 (.inl b0))) (fun c0 => .leaf (laws_eqInt64S_l0_X v432 v433 (.inr c0))))
  | _ => .fail
noncomputable def laws_eqInt64S_tab : List (FuncId × DFn × Bool) := []
theorem laws_eqInt64S_hO : OrcOk Try.prog (tabD laws_eqInt64S_tab) (tabM laws_eqInt64S_tab) := tabD_nil _
theorem laws_eqInt64S_l0_be (v432 : List Int) (v433 : List Int) (s : Int) : bodyT TT (tabD laws_eqInt64S_tab) (tabM laws_eqInt64S_tab) (laws_eqInt64S_LO v432 v433) 0 laws_eqInt64S_l0_kill laws_eqInt64S_l0_nx (bodyOf Try.f44 0) 0 (laws_eqInt64S_l0_E v432 v433 s) = (laws_eqInt64S_l0_T v432 v433 s).bind fun y => .leaf (outS (laws_eqInt64S_l0_E v432 v433) (laws_eqInt64S_l0_X v432 v433) y) := by kernel_rfl
theorem laws_eqInt64S_l0_ok (v432 : List Int) (v433 : List Int) : LSound Try.prog 0 (laws_eqInt64S_LO v432 v433) 0 (bodyOf Try.f44 0) := by
  intro e L out h
  exact lo_ok (E := laws_eqInt64S_l0_E v432 v433) (gT := laws_eqInt64S_l0_T v432 v433) (X := laws_eqInt64S_l0_X v432 v433) (s0 := (gI (vAt e 5))) tok laws_eqInt64S_hO mixed (LoopsOk_eq (l := []) (by kernel_rfl) trivial) (laws_eqInt64S_l0_be v432 v433) rfl (by intro x; (cases x with | inl b => rfl | inr x => exact rfl)) h
noncomputable def laws_eqInt64S_T (v432 : List Int) (v433 : List Int) : Tree (Bool) :=
  (.br (!decide (((v432.length : Nat) : Int) = ((v433.length : Nat) : Int))) (
   .leaf false
  ) (
   (.need (some (laws_eqInt64S_l0_E v432 v433 (0 : Int)) = some (laws_eqInt64S_l0_E v432 v433 (0 : Int))) <|
   (.call (laws_eqInt64S_l0_g v432 v433 (0 : Int)) fun v437 =>
   (.sum v437 (fun v438 =>
    .leaf false
   ) (fun v439 =>
    .leaf true
   ))))
  ))

noncomputable def laws_eqInt64S_g (v432 : List Int) (v433 : List Int) : Option (Bool) := (laws_eqInt64S_T v432 v433).run
def laws_eqInt64S_enc (v432 : List Int) (v433 : List Int) (y : Bool) : Rs := (.bool y, [])
theorem laws_eqInt64S_den (v432 : List Int) (v433 : List Int) : (den TT (tabD laws_eqInt64S_tab) (tabM laws_eqInt64S_tab) (laws_eqInt64S_LO v432 v433) (codeOf Try.f44) ([.bslc (BR.root 0) (.i64 v432), .bslc (BR.root 1) (.i64 v433)] ++ List.replicate (Try.f44.ntmps - ([.bslc (BR.root 0) (.i64 v432), .bslc (BR.root 1) (.i64 v433)] : List DV).length) .undef) []).bind (retD TT Try.f44.results.toList 0) = (laws_eqInt64S_T v432 v433).bind fun y => .leaf (laws_eqInt64S_enc v432 v433 y) := by kernel_rfl
theorem laws_eqInt64S_fn (v432 : List Int) (v433 : List Int) (F : Fr) (hm : F.ids.length = 0) (h0 : St F [] F.H0) (hA : DVs.Ok F [] [.bslc (BR.root 0) (.i64 v432), .bslc (BR.root 1) (.i64 v433)]) {y : Bool} (hy : laws_eqInt64S_g v432 v433 = some y) : ∃ H', FnOk Try.prog 44 (DVs.av F [.bslc (BR.root 0) (.i64 v432), .bslc (BR.root 1) (.i64 v433)]) F.H0 ((laws_eqInt64S_enc v432 v433 y).1.av F) H' ∧ St F (laws_eqInt64S_enc v432 v433 y).2 H' ∧ (laws_eqInt64S_enc v432 v433 y).1.Ok F (laws_eqInt64S_enc v432 v433 y).2 :=
  fn_fin tok laws_eqInt64S_hO mixed Try.func44 Try.call44 (by kernel_rfl) (LoopsOk_eq (l := [(0, bodyOf Try.f44 0)]) (by kernel_rfl) ⟨laws_eqInt64S_l0_ok v432 v433, trivial⟩) (laws_eqInt64S_den v432 v433) hy hm h0 hA
noncomputable def laws_eqInt64S_F : DFn := fun args L =>
  match args with
  | [a1, a2] =>
    optT (rowI64 L a1) fun v432 =>
    optT (rowI64 L a2) fun v433 =>
    .call (laws_eqInt64S_g v432 v433) fun y => .leaf (.bool y, L)
  | _ => .fail
theorem laws_eqInt64S_Fok : COk Try.prog 44 laws_eqInt64S_F true := by
  intro F L H args r L' hs ha hr
  unfold laws_eqInt64S_F at hr
  split at hr
  · rename_i a1 a2
    obtain ⟨v432, hv432, hr⟩ := optT_run hr
    obtain ⟨v433, hv433, hr⟩ := optT_run hr
    simp only [Tree.run] at hr
    obtain ⟨y, hy, hr⟩ := Option.bind_eq_some_iff.1 hr
    simp only [Tree.run, Option.some.injEq, Prod.mk.injEq] at hr
    obtain ⟨rfl, rfl⟩ := hr
    exact call_ok0 hs (fun k => (([a1.av F, a2.av F] : List AV)[k]?).getD .top) [a1, a2] [.bslc (BR.root 0) (.i64 v432), .bslc (BR.root 1) (.i64 v433)] (fun F' h0 hi hρ => ⟨by simp [DVs.av, DV.av, BR.av, hρ], laws_eqInt64S_fn v432 v433 F' (by rw [hi]; rfl) (st_nil hi) ⟨bslc_ok hi (by rw [h0, hρ]; exact rowI64_ok hs (DVs.okAt ha 0 rfl) hv432), bslc_ok hi (by rw [h0, hρ]; exact rowI64_ok hs (DVs.okAt ha 1 rfl) hv433), trivial⟩ hy⟩) rfl
  · cases hr
/-! laws.eqFactor -/
noncomputable def laws_eqFactor_LO (v423 : Int) (v424 : Int) (v425 : List Nat) (v426 : List Int) (v427 : Int) (v428 : Int) (v429 : List Nat) (v430 : List Int) : LOr := fun id e L =>
  match id with
  | _ => .fail
noncomputable def laws_eqFactor_tab : List (FuncId × DFn × Bool) := [(33, laws_eqMatrix_F, true), (44, laws_eqInt64S_F, true)]
theorem laws_eqFactor_hO : OrcOk Try.prog (tabD laws_eqFactor_tab) (tabM laws_eqFactor_tab) := tabD_cons laws_eqMatrix_Fok (tabD_cons laws_eqInt64S_Fok (tabD_nil _))
noncomputable def laws_eqFactor_T (v423 : Int) (v424 : Int) (v425 : List Nat) (v426 : List Int) (v427 : Int) (v428 : Int) (v429 : List Nat) (v430 : List Int) : Tree (Bool) :=
  (.call (laws_eqMatrix_g v423 v424 v425 v427 v428 v429) fun v431 =>
  (.br (!v431) (
   .leaf false
  ) (
   (.call (laws_eqInt64S_g v426 v430) fun v440 =>
   (.br (!v440) (
    .leaf false
   ) (
    .leaf true
   )))
  )))

noncomputable def laws_eqFactor_g (v423 : Int) (v424 : Int) (v425 : List Nat) (v426 : List Int) (v427 : Int) (v428 : Int) (v429 : List Nat) (v430 : List Int) : Option (Bool) := (laws_eqFactor_T v423 v424 v425 v426 v427 v428 v429 v430).run
def laws_eqFactor_enc (v423 : Int) (v424 : Int) (v425 : List Nat) (v426 : List Int) (v427 : Int) (v428 : Int) (v429 : List Nat) (v430 : List Int) (y : Bool) : Rs := (.bool y, [])
theorem laws_eqFactor_den (v423 : Int) (v424 : Int) (v425 : List Nat) (v426 : List Int) (v427 : Int) (v428 : Int) (v429 : List Nat) (v430 : List Int) : (den TT (tabD laws_eqFactor_tab) (tabM laws_eqFactor_tab) (laws_eqFactor_LO v423 v424 v425 v426 v427 v428 v429 v430) (codeOf Try.f50) ([.agg [.int .i64 v423, .int .i64 v424, .bslc (BR.root 0) (.f32 v425), .bslc (BR.root 1) (.i64 v426)], .agg [.int .i64 v427, .int .i64 v428, .bslc (BR.root 2) (.f32 v429), .bslc (BR.root 3) (.i64 v430)]] ++ List.replicate (Try.f50.ntmps - ([.agg [.int .i64 v423, .int .i64 v424, .bslc (BR.root 0) (.f32 v425), .bslc (BR.root 1) (.i64 v426)], .agg [.int .i64 v427, .int .i64 v428, .bslc (BR.root 2) (.f32 v429), .bslc (BR.root 3) (.i64 v430)]] : List DV).length) .undef) []).bind (retD TT Try.f50.results.toList 0) = (laws_eqFactor_T v423 v424 v425 v426 v427 v428 v429 v430).bind fun y => .leaf (laws_eqFactor_enc v423 v424 v425 v426 v427 v428 v429 v430 y) := by kernel_rfl
theorem laws_eqFactor_fn (v423 : Int) (v424 : Int) (v425 : List Nat) (v426 : List Int) (v427 : Int) (v428 : Int) (v429 : List Nat) (v430 : List Int) (F : Fr) (hm : F.ids.length = 0) (h0 : St F [] F.H0) (hA : DVs.Ok F [] [.agg [.int .i64 v423, .int .i64 v424, .bslc (BR.root 0) (.f32 v425), .bslc (BR.root 1) (.i64 v426)], .agg [.int .i64 v427, .int .i64 v428, .bslc (BR.root 2) (.f32 v429), .bslc (BR.root 3) (.i64 v430)]]) {y : Bool} (hy : laws_eqFactor_g v423 v424 v425 v426 v427 v428 v429 v430 = some y) : ∃ H', FnOk Try.prog 50 (DVs.av F [.agg [.int .i64 v423, .int .i64 v424, .bslc (BR.root 0) (.f32 v425), .bslc (BR.root 1) (.i64 v426)], .agg [.int .i64 v427, .int .i64 v428, .bslc (BR.root 2) (.f32 v429), .bslc (BR.root 3) (.i64 v430)]]) F.H0 ((laws_eqFactor_enc v423 v424 v425 v426 v427 v428 v429 v430 y).1.av F) H' ∧ St F (laws_eqFactor_enc v423 v424 v425 v426 v427 v428 v429 v430 y).2 H' ∧ (laws_eqFactor_enc v423 v424 v425 v426 v427 v428 v429 v430 y).1.Ok F (laws_eqFactor_enc v423 v424 v425 v426 v427 v428 v429 v430 y).2 :=
  fn_fin tok laws_eqFactor_hO mixed Try.func50 Try.call50 (by kernel_rfl) (LoopsOk_eq (l := []) (by kernel_rfl) trivial) (laws_eqFactor_den v423 v424 v425 v426 v427 v428 v429 v430) hy hm h0 hA
noncomputable def laws_eqFactor_F : DFn := fun args L =>
  match args with
  | [.agg [.int .i64 v423, .int .i64 v424, a1, a2], .agg [.int .i64 v427, .int .i64 v428, a3, a4]] =>
    optT (rowF32 L a1) fun v425 =>
    optT (rowI64 L a2) fun v426 =>
    optT (rowF32 L a3) fun v429 =>
    optT (rowI64 L a4) fun v430 =>
    .call (laws_eqFactor_g v423 v424 v425 v426 v427 v428 v429 v430) fun y => .leaf (.bool y, L)
  | _ => .fail
theorem laws_eqFactor_Fok : COk Try.prog 50 laws_eqFactor_F true := by
  intro F L H args r L' hs ha hr
  unfold laws_eqFactor_F at hr
  split at hr
  · rename_i v423 v424 a1 a2 v427 v428 a3 a4
    obtain ⟨v425, hv425, hr⟩ := optT_run hr
    obtain ⟨v426, hv426, hr⟩ := optT_run hr
    obtain ⟨v429, hv429, hr⟩ := optT_run hr
    obtain ⟨v430, hv430, hr⟩ := optT_run hr
    simp only [Tree.run] at hr
    obtain ⟨y, hy, hr⟩ := Option.bind_eq_some_iff.1 hr
    simp only [Tree.run, Option.some.injEq, Prod.mk.injEq] at hr
    obtain ⟨rfl, rfl⟩ := hr
    exact call_ok0 hs (fun k => (([a1.av F, a2.av F, a3.av F, a4.av F] : List AV)[k]?).getD .top) [.agg [.int .i64 v423, .int .i64 v424, a1, a2], .agg [.int .i64 v427, .int .i64 v428, a3, a4]] [.agg [.int .i64 v423, .int .i64 v424, .bslc (BR.root 0) (.f32 v425), .bslc (BR.root 1) (.i64 v426)], .agg [.int .i64 v427, .int .i64 v428, .bslc (BR.root 2) (.f32 v429), .bslc (BR.root 3) (.i64 v430)]] (fun F' h0 hi hρ => ⟨by simp [DVs.av, DV.av, BR.av, hρ], laws_eqFactor_fn v423 v424 v425 v426 v427 v428 v429 v430 F' (by rw [hi]; rfl) (st_nil hi) ⟨⟨trivial, trivial, bslc_ok hi (by rw [h0, hρ]; exact rowF32_ok hs (DVs.okAt (DVs.okAt ha 0 rfl) 2 rfl) hv425), bslc_ok hi (by rw [h0, hρ]; exact rowI64_ok hs (DVs.okAt (DVs.okAt ha 0 rfl) 3 rfl) hv426), trivial⟩, ⟨trivial, trivial, bslc_ok hi (by rw [h0, hρ]; exact rowF32_ok hs (DVs.okAt (DVs.okAt ha 1 rfl) 2 rfl) hv429), bslc_ok hi (by rw [h0, hρ]; exact rowI64_ok hs (DVs.okAt (DVs.okAt ha 1 rfl) 3 rfl) hv430), trivial⟩, trivial⟩ hy⟩) rfl
  · cases hr
/-! laws.FnExactFactorGrowth -/
noncomputable def laws_FnExactFactorGrowth_LO (v1 : Int) (v2 : Int) (v3 : List Nat) (v4 : Int) (v5 : Int) (v6 : List Nat) (v7 : List Int) : LOr := fun id e L =>
  match id with
  | _ => .fail
noncomputable def laws_FnExactFactorGrowth_tab : List (FuncId × DFn × Bool) := [(29, laws_szMatrix_F, true), (46, laws_szFactor_F, true), (31, laws_toMatrix_F, true), (48, laws_toFactor_F, true), (57, spec_FactorGrowth_F, true), (58, impl_FactorGrowth_F, true), (53, laws_sameFloat_F, true), (33, laws_eqMatrix_F, true), (50, laws_eqFactor_F, true)]
theorem laws_FnExactFactorGrowth_hO : OrcOk Try.prog (tabD laws_FnExactFactorGrowth_tab) (tabM laws_FnExactFactorGrowth_tab) := tabD_cons laws_szMatrix_Fok (tabD_cons laws_szFactor_Fok (tabD_cons laws_toMatrix_Fok (tabD_cons laws_toFactor_Fok (tabD_cons spec_FactorGrowth_Fok (tabD_cons impl_FactorGrowth_Fok (tabD_cons laws_sameFloat_Fok (tabD_cons laws_eqMatrix_Fok (tabD_cons laws_eqFactor_Fok (tabD_nil _)))))))))
noncomputable def laws_FnExactFactorGrowth_T (v1 : Int) (v2 : Int) (v3 : List Nat) (v4 : Int) (v5 : Int) (v6 : List Nat) (v7 : List Int) : Tree (Bool) :=
  (.br (decide ((laws_szMatrix_v v3 (1048576 : Int)) < (0 : Int))) (
   .leaf true
  ) (
   (.br (decide ((laws_szFactor_v v6 v7 (laws_szMatrix_v v3 (1048576 : Int))) < (0 : Int))) (
    .leaf true
   ) (
    (.call (laws_toMatrix_g v1 v2 v3) fun v32 =>
    (.call (laws_toFactor_g v4 v5 v6 v7) fun v46 =>
    (.call (spec_FactorGrowth_g v32.1 v32.2.1 v32.2.2 v46.1 v46.2.1 v46.2.2.1 v46.2.2.2) fun v189 =>
    (.sum v189 (fun v190 =>
     (.call (laws_toMatrix_g v1 v2 v3) fun v192 =>
     (.call (laws_toFactor_g v4 v5 v6 v7) fun v193 =>
     (.call (impl_FactorGrowth_g v192.1 v192.2.1 v192.2.2 v193.1 v193.2.1 v193.2.2.1 v193.2.2.2) fun v400 =>
     (.sum v400 (fun v401 =>
      (.br (!(laws_sameFloat_v (wid (0 : Nat)) (wid (0 : Nat)))) (
       .leaf false
      ) (
       (.br (!(false == false)) (
        .leaf false
       ) (
        (.call (laws_toMatrix_g v1 v2 v3) fun v405 =>
        (.call (laws_eqMatrix_g v192.1 v192.2.1 v192.2.2 v405.1 v405.2.1 v405.2.2) fun v421 =>
        (.br (!v421) (
         .leaf false
        ) (
         (.call (laws_toFactor_g v4 v5 v6 v7) fun v422 =>
         (.call (laws_eqFactor_g v193.1 v193.2.1 v193.2.2.1 v193.2.2.2 v422.1 v422.2.1 v422.2.2.1 v422.2.2.2) fun v441 =>
         (.br (!v441) (
          .leaf false
         ) (
          .leaf true
         ))))
        ))))
       ))
      ))
     ) (fun v402 =>
      (.br (!(laws_sameFloat_v (wid v402) (wid (0 : Nat)))) (
       .leaf false
      ) (
       (.br (!(true == false)) (
        .leaf false
       ) (
        (.call (laws_toMatrix_g v1 v2 v3) fun v442 =>
        (.call (laws_eqMatrix_g v192.1 v192.2.1 v192.2.2 v442.1 v442.2.1 v442.2.2) fun v443 =>
        (.br (!v443) (
         .leaf false
        ) (
         (.call (laws_toFactor_g v4 v5 v6 v7) fun v444 =>
         (.call (laws_eqFactor_g v193.1 v193.2.1 v193.2.2.1 v193.2.2.2 v444.1 v444.2.1 v444.2.2.1 v444.2.2.2) fun v445 =>
         (.br (!v445) (
          .leaf false
         ) (
          .leaf true
         ))))
        ))))
       ))
      ))
     )))))
    ) (fun v191 =>
     (.call (laws_toMatrix_g v1 v2 v3) fun v446 =>
     (.call (laws_toFactor_g v4 v5 v6 v7) fun v447 =>
     (.call (impl_FactorGrowth_g v446.1 v446.2.1 v446.2.2 v447.1 v447.2.1 v447.2.2.1 v447.2.2.2) fun v448 =>
     (.sum v448 (fun v449 =>
      (.br (!(laws_sameFloat_v (wid (0 : Nat)) (wid v191))) (
       .leaf false
      ) (
       (.br (!(false == true)) (
        .leaf false
       ) (
        (.call (laws_toMatrix_g v1 v2 v3) fun v451 =>
        (.call (laws_eqMatrix_g v446.1 v446.2.1 v446.2.2 v451.1 v451.2.1 v451.2.2) fun v452 =>
        (.br (!v452) (
         .leaf false
        ) (
         (.call (laws_toFactor_g v4 v5 v6 v7) fun v453 =>
         (.call (laws_eqFactor_g v447.1 v447.2.1 v447.2.2.1 v447.2.2.2 v453.1 v453.2.1 v453.2.2.1 v453.2.2.2) fun v454 =>
         (.br (!v454) (
          .leaf false
         ) (
          .leaf true
         ))))
        ))))
       ))
      ))
     ) (fun v450 =>
      (.br (!(laws_sameFloat_v (wid v450) (wid v191))) (
       .leaf false
      ) (
       (.br (!(true == true)) (
        .leaf false
       ) (
        (.call (laws_toMatrix_g v1 v2 v3) fun v455 =>
        (.call (laws_eqMatrix_g v446.1 v446.2.1 v446.2.2 v455.1 v455.2.1 v455.2.2) fun v456 =>
        (.br (!v456) (
         .leaf false
        ) (
         (.call (laws_toFactor_g v4 v5 v6 v7) fun v457 =>
         (.call (laws_eqFactor_g v447.1 v447.2.1 v447.2.2.1 v447.2.2.2 v457.1 v457.2.1 v457.2.2.1 v457.2.2.2) fun v458 =>
         (.br (!v458) (
          .leaf false
         ) (
          .leaf true
         ))))
        ))))
       ))
      ))
     )))))
    )))))
   ))
  ))

noncomputable def laws_FnExactFactorGrowth_g (v1 : Int) (v2 : Int) (v3 : List Nat) (v4 : Int) (v5 : Int) (v6 : List Nat) (v7 : List Int) : Option (Bool) := (laws_FnExactFactorGrowth_T v1 v2 v3 v4 v5 v6 v7).run
def laws_FnExactFactorGrowth_enc (v1 : Int) (v2 : Int) (v3 : List Nat) (v4 : Int) (v5 : Int) (v6 : List Nat) (v7 : List Int) (y : Bool) : Rs := (.bool y, [])
theorem laws_FnExactFactorGrowth_den (v1 : Int) (v2 : Int) (v3 : List Nat) (v4 : Int) (v5 : Int) (v6 : List Nat) (v7 : List Int) : (den TT (tabD laws_FnExactFactorGrowth_tab) (tabM laws_FnExactFactorGrowth_tab) (laws_FnExactFactorGrowth_LO v1 v2 v3 v4 v5 v6 v7) (codeOf Try.f12) ([.agg [.int .i64 v1, .int .i64 v2, .bslc (BR.root 0) (.f32 v3)], .agg [.int .i64 v4, .int .i64 v5, .bslc (BR.root 1) (.f32 v6), .bslc (BR.root 2) (.i64 v7)]] ++ List.replicate (Try.f12.ntmps - ([.agg [.int .i64 v1, .int .i64 v2, .bslc (BR.root 0) (.f32 v3)], .agg [.int .i64 v4, .int .i64 v5, .bslc (BR.root 1) (.f32 v6), .bslc (BR.root 2) (.i64 v7)]] : List DV).length) .undef) []).bind (retD TT Try.f12.results.toList 0) = (laws_FnExactFactorGrowth_T v1 v2 v3 v4 v5 v6 v7).bind fun y => .leaf (laws_FnExactFactorGrowth_enc v1 v2 v3 v4 v5 v6 v7 y) := by kernel_rfl
theorem laws_FnExactFactorGrowth_fn (v1 : Int) (v2 : Int) (v3 : List Nat) (v4 : Int) (v5 : Int) (v6 : List Nat) (v7 : List Int) (F : Fr) (hm : F.ids.length = 0) (h0 : St F [] F.H0) (hA : DVs.Ok F [] [.agg [.int .i64 v1, .int .i64 v2, .bslc (BR.root 0) (.f32 v3)], .agg [.int .i64 v4, .int .i64 v5, .bslc (BR.root 1) (.f32 v6), .bslc (BR.root 2) (.i64 v7)]]) {y : Bool} (hy : laws_FnExactFactorGrowth_g v1 v2 v3 v4 v5 v6 v7 = some y) : ∃ H', FnOk Try.prog 12 (DVs.av F [.agg [.int .i64 v1, .int .i64 v2, .bslc (BR.root 0) (.f32 v3)], .agg [.int .i64 v4, .int .i64 v5, .bslc (BR.root 1) (.f32 v6), .bslc (BR.root 2) (.i64 v7)]]) F.H0 ((laws_FnExactFactorGrowth_enc v1 v2 v3 v4 v5 v6 v7 y).1.av F) H' ∧ St F (laws_FnExactFactorGrowth_enc v1 v2 v3 v4 v5 v6 v7 y).2 H' ∧ (laws_FnExactFactorGrowth_enc v1 v2 v3 v4 v5 v6 v7 y).1.Ok F (laws_FnExactFactorGrowth_enc v1 v2 v3 v4 v5 v6 v7 y).2 :=
  fn_fin tok laws_FnExactFactorGrowth_hO mixed Try.func12 Try.call12 (by kernel_rfl) (LoopsOk_eq (l := []) (by kernel_rfl) trivial) (laws_FnExactFactorGrowth_den v1 v2 v3 v4 v5 v6 v7) hy hm h0 hA
noncomputable def laws_FnExactFactorGrowth_F : DFn := fun args L =>
  match args with
  | [.agg [.int .i64 v1, .int .i64 v2, a1], .agg [.int .i64 v4, .int .i64 v5, a2, a3]] =>
    optT (rowF32 L a1) fun v3 =>
    optT (rowF32 L a2) fun v6 =>
    optT (rowI64 L a3) fun v7 =>
    .call (laws_FnExactFactorGrowth_g v1 v2 v3 v4 v5 v6 v7) fun y => .leaf (.bool y, L)
  | _ => .fail
theorem laws_FnExactFactorGrowth_Fok : COk Try.prog 12 laws_FnExactFactorGrowth_F true := by
  intro F L H args r L' hs ha hr
  unfold laws_FnExactFactorGrowth_F at hr
  split at hr
  · rename_i v1 v2 a1 v4 v5 a2 a3
    obtain ⟨v3, hv3, hr⟩ := optT_run hr
    obtain ⟨v6, hv6, hr⟩ := optT_run hr
    obtain ⟨v7, hv7, hr⟩ := optT_run hr
    simp only [Tree.run] at hr
    obtain ⟨y, hy, hr⟩ := Option.bind_eq_some_iff.1 hr
    simp only [Tree.run, Option.some.injEq, Prod.mk.injEq] at hr
    obtain ⟨rfl, rfl⟩ := hr
    exact call_ok0 hs (fun k => (([a1.av F, a2.av F, a3.av F] : List AV)[k]?).getD .top) [.agg [.int .i64 v1, .int .i64 v2, a1], .agg [.int .i64 v4, .int .i64 v5, a2, a3]] [.agg [.int .i64 v1, .int .i64 v2, .bslc (BR.root 0) (.f32 v3)], .agg [.int .i64 v4, .int .i64 v5, .bslc (BR.root 1) (.f32 v6), .bslc (BR.root 2) (.i64 v7)]] (fun F' h0 hi hρ => ⟨by simp [DVs.av, DV.av, BR.av, hρ], laws_FnExactFactorGrowth_fn v1 v2 v3 v4 v5 v6 v7 F' (by rw [hi]; rfl) (st_nil hi) ⟨⟨trivial, trivial, bslc_ok hi (by rw [h0, hρ]; exact rowF32_ok hs (DVs.okAt (DVs.okAt ha 0 rfl) 2 rfl) hv3), trivial⟩, ⟨trivial, trivial, bslc_ok hi (by rw [h0, hρ]; exact rowF32_ok hs (DVs.okAt (DVs.okAt ha 1 rfl) 2 rfl) hv6), bslc_ok hi (by rw [h0, hρ]; exact rowI64_ok hs (DVs.okAt (DVs.okAt ha 1 rfl) 3 rfl) hv7), trivial⟩, trivial⟩ hy⟩) rfl
  · cases hr
/-! laws.szFloat32S -/
noncomputable def laws_szFloat32S_len_LO (v470 : Nat) (v471 : Int) : LOr := fun id e L =>
  match id with
  | _ => .fail
noncomputable def laws_szFloat32S_len_tab : List (FuncId × DFn × Bool) := []
theorem laws_szFloat32S_len_hO : OrcOk Try.prog (tabD laws_szFloat32S_len_tab) (tabM laws_szFloat32S_len_tab) := tabD_nil _
noncomputable def laws_szFloat32S_len_T (v470 : Nat) (v471 : Int) : Tree (Int) :=
  (.br (decide (IntKind.i64.wrap (v471 - ((v470 : Nat) : Int)) < (0 : Int))) (
   .leaf (-1 : Int)
  ) (
   .leaf (IntKind.i64.wrap (v471 - ((v470 : Nat) : Int)))
  ))

noncomputable def laws_szFloat32S_len_g (v470 : Nat) (v471 : Int) : Option (Int) := (laws_szFloat32S_len_T v470 v471).run
def laws_szFloat32S_len_enc (v470 : Nat) (v471 : Int) (y : Int) : Rs := (.int .i64 y, [])
theorem laws_szFloat32S_len_den (v470 : Nat) (v471 : Int) : (den TT (tabD laws_szFloat32S_len_tab) (tabM laws_szFloat32S_len_tab) (laws_szFloat32S_len_LO v470 v471) (codeOf Try.f64) ([.hslc (BR.root 0) v470, .int .i64 v471] ++ List.replicate (Try.f64.ntmps - ([.hslc (BR.root 0) v470, .int .i64 v471] : List DV).length) .undef) []).bind (retD TT Try.f64.results.toList 0) = (laws_szFloat32S_len_T v470 v471).bind fun y => .leaf (laws_szFloat32S_len_enc v470 v471 y) := by kernel_rfl
theorem laws_szFloat32S_len_fn (v470 : Nat) (v471 : Int) (F : Fr) (hm : F.ids.length = 0) (h0 : St F [] F.H0) (hA : DVs.Ok F [] [.hslc (BR.root 0) v470, .int .i64 v471]) {y : Int} (hy : laws_szFloat32S_len_g v470 v471 = some y) : ∃ H', FnOk Try.prog 64 (DVs.av F [.hslc (BR.root 0) v470, .int .i64 v471]) F.H0 ((laws_szFloat32S_len_enc v470 v471 y).1.av F) H' ∧ St F (laws_szFloat32S_len_enc v470 v471 y).2 H' ∧ (laws_szFloat32S_len_enc v470 v471 y).1.Ok F (laws_szFloat32S_len_enc v470 v471 y).2 :=
  fn_fin tok laws_szFloat32S_len_hO mixed Try.func64 Try.call64 (by kernel_rfl) (LoopsOk_eq (l := []) (by kernel_rfl) trivial) (laws_szFloat32S_len_den v470 v471) hy hm h0 hA
def laws_szFloat32S_len_v (v470 : Nat) (v471 : Int) : Int :=
  if (decide (IntKind.i64.wrap (v471 - ((v470 : Nat) : Int)) < (0 : Int))) = true then (
   (-1 : Int)
  ) else (
   IntKind.i64.wrap (v471 - ((v470 : Nat) : Int))
  )
theorem laws_szFloat32S_len_tot (v470 : Nat) (v471 : Int) : laws_szFloat32S_len_g v470 v471 = some (laws_szFloat32S_len_v v470 v471) := by
  unfold laws_szFloat32S_len_g laws_szFloat32S_len_T laws_szFloat32S_len_v
  simp only [Tree.run]
  repeat' (first | rfl | split)
noncomputable def laws_szFloat32S_len_F : DFn := fun args L =>
  match args with
  | [a1, .int .i64 v471] =>
    optT (lenV L a1) fun v470 =>
    .leaf (.int .i64 (laws_szFloat32S_len_v v470 v471), L)
  | _ => .fail
theorem laws_szFloat32S_len_Fok : COk Try.prog 64 laws_szFloat32S_len_F true := by
  intro F L H args r L' hs ha hr
  unfold laws_szFloat32S_len_F at hr
  split at hr
  · rename_i a1 v471
    obtain ⟨v470, hv470, hr⟩ := optT_run hr
    have hy := laws_szFloat32S_len_tot v470 v471
    generalize laws_szFloat32S_len_v v470 v471 = y at hy hr
    simp only [Tree.run, Option.some.injEq, Prod.mk.injEq] at hr
    obtain ⟨rfl, rfl⟩ := hr
    exact call_ok0 hs (fun k => (([a1.av F] : List AV)[k]?).getD .top) [a1, .int .i64 v471] [.hslc (BR.root 0) v470, .int .i64 v471] (fun F' h0 hi hρ => ⟨by simp [DVs.av, DV.av, BR.av, hρ], laws_szFloat32S_len_fn v470 v471 F' (by rw [hi]; rfl) (st_nil hi) ⟨hslc_ok hi (by rw [h0, hρ]; exact lenV_ok hs (DVs.okAt ha 0 rfl) hv470), trivial, trivial⟩ hy⟩) rfl
  · cases hr
/-! laws.szMatrix -/
noncomputable def laws_szMatrix_len_LO (v466 : Int) (v467 : Int) (v468 : Nat) (v469 : Int) : LOr := fun id e L =>
  match id with
  | _ => .fail
noncomputable def laws_szMatrix_len_tab : List (FuncId × DFn × Bool) := [(64, laws_szFloat32S_len_F, true)]
theorem laws_szMatrix_len_hO : OrcOk Try.prog (tabD laws_szMatrix_len_tab) (tabM laws_szMatrix_len_tab) := tabD_cons laws_szFloat32S_len_Fok (tabD_nil _)
noncomputable def laws_szMatrix_len_T (v468 : Nat) (v469 : Int) : Tree (Int) :=
  (.br (decide ((laws_szFloat32S_len_v v468 v469) < (0 : Int))) (
   .leaf (-1 : Int)
  ) (
   .leaf (laws_szFloat32S_len_v v468 v469)
  ))

noncomputable def laws_szMatrix_len_g (v468 : Nat) (v469 : Int) : Option (Int) := (laws_szMatrix_len_T v468 v469).run
def laws_szMatrix_len_enc (v466 : Int) (v467 : Int) (v468 : Nat) (v469 : Int) (y : Int) : Rs := (.int .i64 y, [])
theorem laws_szMatrix_len_den (v466 : Int) (v467 : Int) (v468 : Nat) (v469 : Int) : (den TT (tabD laws_szMatrix_len_tab) (tabM laws_szMatrix_len_tab) (laws_szMatrix_len_LO v466 v467 v468 v469) (codeOf Try.f29) ([.agg [.int .i64 v466, .int .i64 v467, .hslc (BR.root 0) v468], .int .i64 v469] ++ List.replicate (Try.f29.ntmps - ([.agg [.int .i64 v466, .int .i64 v467, .hslc (BR.root 0) v468], .int .i64 v469] : List DV).length) .undef) []).bind (retD TT Try.f29.results.toList 0) = (laws_szMatrix_len_T v468 v469).bind fun y => .leaf (laws_szMatrix_len_enc v466 v467 v468 v469 y) := by kernel_rfl
theorem laws_szMatrix_len_fn (v466 : Int) (v467 : Int) (v468 : Nat) (v469 : Int) (F : Fr) (hm : F.ids.length = 0) (h0 : St F [] F.H0) (hA : DVs.Ok F [] [.agg [.int .i64 v466, .int .i64 v467, .hslc (BR.root 0) v468], .int .i64 v469]) {y : Int} (hy : laws_szMatrix_len_g v468 v469 = some y) : ∃ H', FnOk Try.prog 29 (DVs.av F [.agg [.int .i64 v466, .int .i64 v467, .hslc (BR.root 0) v468], .int .i64 v469]) F.H0 ((laws_szMatrix_len_enc v466 v467 v468 v469 y).1.av F) H' ∧ St F (laws_szMatrix_len_enc v466 v467 v468 v469 y).2 H' ∧ (laws_szMatrix_len_enc v466 v467 v468 v469 y).1.Ok F (laws_szMatrix_len_enc v466 v467 v468 v469 y).2 :=
  fn_fin tok laws_szMatrix_len_hO mixed Try.func29 Try.call29 (by kernel_rfl) (LoopsOk_eq (l := []) (by kernel_rfl) trivial) (laws_szMatrix_len_den v466 v467 v468 v469) hy hm h0 hA
def laws_szMatrix_len_v (v468 : Nat) (v469 : Int) : Int :=
  if (decide ((laws_szFloat32S_len_v v468 v469) < (0 : Int))) = true then (
   (-1 : Int)
  ) else (
   (laws_szFloat32S_len_v v468 v469)
  )
theorem laws_szMatrix_len_tot (v468 : Nat) (v469 : Int) : laws_szMatrix_len_g v468 v469 = some (laws_szMatrix_len_v v468 v469) := by
  unfold laws_szMatrix_len_g laws_szMatrix_len_T laws_szMatrix_len_v
  simp only [Tree.run]
  repeat' (first | rfl | split)
noncomputable def laws_szMatrix_len_F : DFn := fun args L =>
  match args with
  | [.agg [.int .i64 v466, .int .i64 v467, a1], .int .i64 v469] =>
    optT (lenV L a1) fun v468 =>
    .leaf (.int .i64 (laws_szMatrix_len_v v468 v469), L)
  | _ => .fail
theorem laws_szMatrix_len_Fok : COk Try.prog 29 laws_szMatrix_len_F true := by
  intro F L H args r L' hs ha hr
  unfold laws_szMatrix_len_F at hr
  split at hr
  · rename_i v466 v467 a1 v469
    obtain ⟨v468, hv468, hr⟩ := optT_run hr
    have hy := laws_szMatrix_len_tot v468 v469
    generalize laws_szMatrix_len_v v468 v469 = y at hy hr
    simp only [Tree.run, Option.some.injEq, Prod.mk.injEq] at hr
    obtain ⟨rfl, rfl⟩ := hr
    exact call_ok0 hs (fun k => (([a1.av F] : List AV)[k]?).getD .top) [.agg [.int .i64 v466, .int .i64 v467, a1], .int .i64 v469] [.agg [.int .i64 v466, .int .i64 v467, .hslc (BR.root 0) v468], .int .i64 v469] (fun F' h0 hi hρ => ⟨by simp [DVs.av, DV.av, BR.av, hρ], laws_szMatrix_len_fn v466 v467 v468 v469 F' (by rw [hi]; rfl) (st_nil hi) ⟨⟨trivial, trivial, hslc_ok hi (by rw [h0, hρ]; exact lenV_ok hs (DVs.okAt (DVs.okAt ha 0 rfl) 2 rfl) hv468), trivial⟩, trivial, trivial⟩ hy⟩) rfl
  · cases hr
/-! laws.szInt64S -/
noncomputable def laws_szInt64S_len_LO (v477 : Nat) (v478 : Int) : LOr := fun id e L =>
  match id with
  | _ => .fail
noncomputable def laws_szInt64S_len_tab : List (FuncId × DFn × Bool) := []
theorem laws_szInt64S_len_hO : OrcOk Try.prog (tabD laws_szInt64S_len_tab) (tabM laws_szInt64S_len_tab) := tabD_nil _
noncomputable def laws_szInt64S_len_T (v477 : Nat) (v478 : Int) : Tree (Int) :=
  (.br (decide (IntKind.i64.wrap (v478 - ((v477 : Nat) : Int)) < (0 : Int))) (
   .leaf (-1 : Int)
  ) (
   .leaf (IntKind.i64.wrap (v478 - ((v477 : Nat) : Int)))
  ))

noncomputable def laws_szInt64S_len_g (v477 : Nat) (v478 : Int) : Option (Int) := (laws_szInt64S_len_T v477 v478).run
def laws_szInt64S_len_enc (v477 : Nat) (v478 : Int) (y : Int) : Rs := (.int .i64 y, [])
theorem laws_szInt64S_len_den (v477 : Nat) (v478 : Int) : (den TT (tabD laws_szInt64S_len_tab) (tabM laws_szInt64S_len_tab) (laws_szInt64S_len_LO v477 v478) (codeOf Try.f63) ([.hslc (BR.root 0) v477, .int .i64 v478] ++ List.replicate (Try.f63.ntmps - ([.hslc (BR.root 0) v477, .int .i64 v478] : List DV).length) .undef) []).bind (retD TT Try.f63.results.toList 0) = (laws_szInt64S_len_T v477 v478).bind fun y => .leaf (laws_szInt64S_len_enc v477 v478 y) := by kernel_rfl
theorem laws_szInt64S_len_fn (v477 : Nat) (v478 : Int) (F : Fr) (hm : F.ids.length = 0) (h0 : St F [] F.H0) (hA : DVs.Ok F [] [.hslc (BR.root 0) v477, .int .i64 v478]) {y : Int} (hy : laws_szInt64S_len_g v477 v478 = some y) : ∃ H', FnOk Try.prog 63 (DVs.av F [.hslc (BR.root 0) v477, .int .i64 v478]) F.H0 ((laws_szInt64S_len_enc v477 v478 y).1.av F) H' ∧ St F (laws_szInt64S_len_enc v477 v478 y).2 H' ∧ (laws_szInt64S_len_enc v477 v478 y).1.Ok F (laws_szInt64S_len_enc v477 v478 y).2 :=
  fn_fin tok laws_szInt64S_len_hO mixed Try.func63 Try.call63 (by kernel_rfl) (LoopsOk_eq (l := []) (by kernel_rfl) trivial) (laws_szInt64S_len_den v477 v478) hy hm h0 hA
def laws_szInt64S_len_v (v477 : Nat) (v478 : Int) : Int :=
  if (decide (IntKind.i64.wrap (v478 - ((v477 : Nat) : Int)) < (0 : Int))) = true then (
   (-1 : Int)
  ) else (
   IntKind.i64.wrap (v478 - ((v477 : Nat) : Int))
  )
theorem laws_szInt64S_len_tot (v477 : Nat) (v478 : Int) : laws_szInt64S_len_g v477 v478 = some (laws_szInt64S_len_v v477 v478) := by
  unfold laws_szInt64S_len_g laws_szInt64S_len_T laws_szInt64S_len_v
  simp only [Tree.run]
  repeat' (first | rfl | split)
noncomputable def laws_szInt64S_len_F : DFn := fun args L =>
  match args with
  | [a1, .int .i64 v478] =>
    optT (lenV L a1) fun v477 =>
    .leaf (.int .i64 (laws_szInt64S_len_v v477 v478), L)
  | _ => .fail
theorem laws_szInt64S_len_Fok : COk Try.prog 63 laws_szInt64S_len_F true := by
  intro F L H args r L' hs ha hr
  unfold laws_szInt64S_len_F at hr
  split at hr
  · rename_i a1 v478
    obtain ⟨v477, hv477, hr⟩ := optT_run hr
    have hy := laws_szInt64S_len_tot v477 v478
    generalize laws_szInt64S_len_v v477 v478 = y at hy hr
    simp only [Tree.run, Option.some.injEq, Prod.mk.injEq] at hr
    obtain ⟨rfl, rfl⟩ := hr
    exact call_ok0 hs (fun k => (([a1.av F] : List AV)[k]?).getD .top) [a1, .int .i64 v478] [.hslc (BR.root 0) v477, .int .i64 v478] (fun F' h0 hi hρ => ⟨by simp [DVs.av, DV.av, BR.av, hρ], laws_szInt64S_len_fn v477 v478 F' (by rw [hi]; rfl) (st_nil hi) ⟨hslc_ok hi (by rw [h0, hρ]; exact lenV_ok hs (DVs.okAt ha 0 rfl) hv477), trivial, trivial⟩ hy⟩) rfl
  · cases hr
/-! laws.szFactor -/
noncomputable def laws_szFactor_len_LO (v472 : Int) (v473 : Int) (v474 : Nat) (v475 : Nat) (v476 : Int) : LOr := fun id e L =>
  match id with
  | _ => .fail
noncomputable def laws_szFactor_len_tab : List (FuncId × DFn × Bool) := [(29, laws_szMatrix_len_F, true), (63, laws_szInt64S_len_F, true)]
theorem laws_szFactor_len_hO : OrcOk Try.prog (tabD laws_szFactor_len_tab) (tabM laws_szFactor_len_tab) := tabD_cons laws_szMatrix_len_Fok (tabD_cons laws_szInt64S_len_Fok (tabD_nil _))
noncomputable def laws_szFactor_len_T (v474 : Nat) (v475 : Nat) (v476 : Int) : Tree (Int) :=
  (.br (decide ((laws_szMatrix_len_v v474 v476) < (0 : Int))) (
   .leaf (-1 : Int)
  ) (
   (.br (decide ((laws_szInt64S_len_v v475 (laws_szMatrix_len_v v474 v476)) < (0 : Int))) (
    .leaf (-1 : Int)
   ) (
    .leaf (laws_szInt64S_len_v v475 (laws_szMatrix_len_v v474 v476))
   ))
  ))

noncomputable def laws_szFactor_len_g (v474 : Nat) (v475 : Nat) (v476 : Int) : Option (Int) := (laws_szFactor_len_T v474 v475 v476).run
def laws_szFactor_len_enc (v472 : Int) (v473 : Int) (v474 : Nat) (v475 : Nat) (v476 : Int) (y : Int) : Rs := (.int .i64 y, [])
theorem laws_szFactor_len_den (v472 : Int) (v473 : Int) (v474 : Nat) (v475 : Nat) (v476 : Int) : (den TT (tabD laws_szFactor_len_tab) (tabM laws_szFactor_len_tab) (laws_szFactor_len_LO v472 v473 v474 v475 v476) (codeOf Try.f46) ([.agg [.int .i64 v472, .int .i64 v473, .hslc (BR.root 0) v474, .hslc (BR.root 1) v475], .int .i64 v476] ++ List.replicate (Try.f46.ntmps - ([.agg [.int .i64 v472, .int .i64 v473, .hslc (BR.root 0) v474, .hslc (BR.root 1) v475], .int .i64 v476] : List DV).length) .undef) []).bind (retD TT Try.f46.results.toList 0) = (laws_szFactor_len_T v474 v475 v476).bind fun y => .leaf (laws_szFactor_len_enc v472 v473 v474 v475 v476 y) := by kernel_rfl
theorem laws_szFactor_len_fn (v472 : Int) (v473 : Int) (v474 : Nat) (v475 : Nat) (v476 : Int) (F : Fr) (hm : F.ids.length = 0) (h0 : St F [] F.H0) (hA : DVs.Ok F [] [.agg [.int .i64 v472, .int .i64 v473, .hslc (BR.root 0) v474, .hslc (BR.root 1) v475], .int .i64 v476]) {y : Int} (hy : laws_szFactor_len_g v474 v475 v476 = some y) : ∃ H', FnOk Try.prog 46 (DVs.av F [.agg [.int .i64 v472, .int .i64 v473, .hslc (BR.root 0) v474, .hslc (BR.root 1) v475], .int .i64 v476]) F.H0 ((laws_szFactor_len_enc v472 v473 v474 v475 v476 y).1.av F) H' ∧ St F (laws_szFactor_len_enc v472 v473 v474 v475 v476 y).2 H' ∧ (laws_szFactor_len_enc v472 v473 v474 v475 v476 y).1.Ok F (laws_szFactor_len_enc v472 v473 v474 v475 v476 y).2 :=
  fn_fin tok laws_szFactor_len_hO mixed Try.func46 Try.call46 (by kernel_rfl) (LoopsOk_eq (l := []) (by kernel_rfl) trivial) (laws_szFactor_len_den v472 v473 v474 v475 v476) hy hm h0 hA
def laws_szFactor_len_v (v474 : Nat) (v475 : Nat) (v476 : Int) : Int :=
  if (decide ((laws_szMatrix_len_v v474 v476) < (0 : Int))) = true then (
   (-1 : Int)
  ) else (
   if (decide ((laws_szInt64S_len_v v475 (laws_szMatrix_len_v v474 v476)) < (0 : Int))) = true then (
    (-1 : Int)
   ) else (
    (laws_szInt64S_len_v v475 (laws_szMatrix_len_v v474 v476))
   )
  )
theorem laws_szFactor_len_tot (v474 : Nat) (v475 : Nat) (v476 : Int) : laws_szFactor_len_g v474 v475 v476 = some (laws_szFactor_len_v v474 v475 v476) := by
  unfold laws_szFactor_len_g laws_szFactor_len_T laws_szFactor_len_v
  simp only [Tree.run]
  repeat' (first | rfl | split)
noncomputable def laws_szFactor_len_F : DFn := fun args L =>
  match args with
  | [.agg [.int .i64 v472, .int .i64 v473, a1, a2], .int .i64 v476] =>
    optT (lenV L a1) fun v474 =>
    optT (lenV L a2) fun v475 =>
    .leaf (.int .i64 (laws_szFactor_len_v v474 v475 v476), L)
  | _ => .fail
theorem laws_szFactor_len_Fok : COk Try.prog 46 laws_szFactor_len_F true := by
  intro F L H args r L' hs ha hr
  unfold laws_szFactor_len_F at hr
  split at hr
  · rename_i v472 v473 a1 a2 v476
    obtain ⟨v474, hv474, hr⟩ := optT_run hr
    obtain ⟨v475, hv475, hr⟩ := optT_run hr
    have hy := laws_szFactor_len_tot v474 v475 v476
    generalize laws_szFactor_len_v v474 v475 v476 = y at hy hr
    simp only [Tree.run, Option.some.injEq, Prod.mk.injEq] at hr
    obtain ⟨rfl, rfl⟩ := hr
    exact call_ok0 hs (fun k => (([a1.av F, a2.av F] : List AV)[k]?).getD .top) [.agg [.int .i64 v472, .int .i64 v473, a1, a2], .int .i64 v476] [.agg [.int .i64 v472, .int .i64 v473, .hslc (BR.root 0) v474, .hslc (BR.root 1) v475], .int .i64 v476] (fun F' h0 hi hρ => ⟨by simp [DVs.av, DV.av, BR.av, hρ], laws_szFactor_len_fn v472 v473 v474 v475 v476 F' (by rw [hi]; rfl) (st_nil hi) ⟨⟨trivial, trivial, hslc_ok hi (by rw [h0, hρ]; exact lenV_ok hs (DVs.okAt (DVs.okAt ha 0 rfl) 2 rfl) hv474), hslc_ok hi (by rw [h0, hρ]; exact lenV_ok hs (DVs.okAt (DVs.okAt ha 0 rfl) 3 rfl) hv475), trivial⟩, trivial, trivial⟩ hy⟩) rfl
  · cases hr
/-! laws.FnExactFactorGrowth -/
noncomputable def laws_FnExactFactorGrowth_len_LO (v459 : Int) (v460 : Int) (v461 : Nat) (v462 : Int) (v463 : Int) (v464 : Nat) (v465 : Nat) : LOr := fun id e L =>
  match id with
  | _ => .fail
noncomputable def laws_FnExactFactorGrowth_len_tab : List (FuncId × DFn × Bool) := [(29, laws_szMatrix_len_F, true), (46, laws_szFactor_len_F, true)]
theorem laws_FnExactFactorGrowth_len_hO : OrcOk Try.prog (tabD laws_FnExactFactorGrowth_len_tab) (tabM laws_FnExactFactorGrowth_len_tab) := tabD_cons laws_szMatrix_len_Fok (tabD_cons laws_szFactor_len_Fok (tabD_nil _))
noncomputable def laws_FnExactFactorGrowth_len_T (v461 : Nat) (v464 : Nat) (v465 : Nat) : Tree (Bool) :=
  (.br (decide ((laws_szMatrix_len_v v461 (1048576 : Int)) < (0 : Int))) (
   .leaf true
  ) (
   (.br (decide ((laws_szFactor_len_v v464 v465 (laws_szMatrix_len_v v461 (1048576 : Int))) < (0 : Int))) (
    .leaf true
   ) (
    .fail
   ))
  ))

noncomputable def laws_FnExactFactorGrowth_len_g (v461 : Nat) (v464 : Nat) (v465 : Nat) : Option (Bool) := (laws_FnExactFactorGrowth_len_T v461 v464 v465).run
def laws_FnExactFactorGrowth_len_enc (v459 : Int) (v460 : Int) (v461 : Nat) (v462 : Int) (v463 : Int) (v464 : Nat) (v465 : Nat) (y : Bool) : Rs := (.bool y, [])
theorem laws_FnExactFactorGrowth_len_den (v459 : Int) (v460 : Int) (v461 : Nat) (v462 : Int) (v463 : Int) (v464 : Nat) (v465 : Nat) : (den TT (tabD laws_FnExactFactorGrowth_len_tab) (tabM laws_FnExactFactorGrowth_len_tab) (laws_FnExactFactorGrowth_len_LO v459 v460 v461 v462 v463 v464 v465) (codeOf Try.f12) ([.agg [.int .i64 v459, .int .i64 v460, .hslc (BR.root 0) v461], .agg [.int .i64 v462, .int .i64 v463, .hslc (BR.root 1) v464, .hslc (BR.root 2) v465]] ++ List.replicate (Try.f12.ntmps - ([.agg [.int .i64 v459, .int .i64 v460, .hslc (BR.root 0) v461], .agg [.int .i64 v462, .int .i64 v463, .hslc (BR.root 1) v464, .hslc (BR.root 2) v465]] : List DV).length) .undef) []).bind (retD TT Try.f12.results.toList 0) = (laws_FnExactFactorGrowth_len_T v461 v464 v465).bind fun y => .leaf (laws_FnExactFactorGrowth_len_enc v459 v460 v461 v462 v463 v464 v465 y) := by kernel_rfl
theorem laws_FnExactFactorGrowth_len_fn (v459 : Int) (v460 : Int) (v461 : Nat) (v462 : Int) (v463 : Int) (v464 : Nat) (v465 : Nat) (F : Fr) (hm : F.ids.length = 0) (h0 : St F [] F.H0) (hA : DVs.Ok F [] [.agg [.int .i64 v459, .int .i64 v460, .hslc (BR.root 0) v461], .agg [.int .i64 v462, .int .i64 v463, .hslc (BR.root 1) v464, .hslc (BR.root 2) v465]]) {y : Bool} (hy : laws_FnExactFactorGrowth_len_g v461 v464 v465 = some y) : ∃ H', FnOk Try.prog 12 (DVs.av F [.agg [.int .i64 v459, .int .i64 v460, .hslc (BR.root 0) v461], .agg [.int .i64 v462, .int .i64 v463, .hslc (BR.root 1) v464, .hslc (BR.root 2) v465]]) F.H0 ((laws_FnExactFactorGrowth_len_enc v459 v460 v461 v462 v463 v464 v465 y).1.av F) H' ∧ St F (laws_FnExactFactorGrowth_len_enc v459 v460 v461 v462 v463 v464 v465 y).2 H' ∧ (laws_FnExactFactorGrowth_len_enc v459 v460 v461 v462 v463 v464 v465 y).1.Ok F (laws_FnExactFactorGrowth_len_enc v459 v460 v461 v462 v463 v464 v465 y).2 :=
  fn_fin tok laws_FnExactFactorGrowth_len_hO mixed Try.func12 Try.call12 (by kernel_rfl) (LoopsOk_eq (l := []) (by kernel_rfl) trivial) (laws_FnExactFactorGrowth_len_den v459 v460 v461 v462 v463 v464 v465) hy hm h0 hA
noncomputable def laws_FnExactFactorGrowth_len_F : DFn := fun args L =>
  match args with
  | [.agg [.int .i64 v459, .int .i64 v460, a1], .agg [.int .i64 v462, .int .i64 v463, a2, a3]] =>
    optT (lenV L a1) fun v461 =>
    optT (lenV L a2) fun v464 =>
    optT (lenV L a3) fun v465 =>
    .call (laws_FnExactFactorGrowth_len_g v461 v464 v465) fun y => .leaf (.bool y, L)
  | _ => .fail
theorem laws_FnExactFactorGrowth_len_Fok : COk Try.prog 12 laws_FnExactFactorGrowth_len_F true := by
  intro F L H args r L' hs ha hr
  unfold laws_FnExactFactorGrowth_len_F at hr
  split at hr
  · rename_i v459 v460 a1 v462 v463 a2 a3
    obtain ⟨v461, hv461, hr⟩ := optT_run hr
    obtain ⟨v464, hv464, hr⟩ := optT_run hr
    obtain ⟨v465, hv465, hr⟩ := optT_run hr
    simp only [Tree.run] at hr
    obtain ⟨y, hy, hr⟩ := Option.bind_eq_some_iff.1 hr
    simp only [Tree.run, Option.some.injEq, Prod.mk.injEq] at hr
    obtain ⟨rfl, rfl⟩ := hr
    exact call_ok0 hs (fun k => (([a1.av F, a2.av F, a3.av F] : List AV)[k]?).getD .top) [.agg [.int .i64 v459, .int .i64 v460, a1], .agg [.int .i64 v462, .int .i64 v463, a2, a3]] [.agg [.int .i64 v459, .int .i64 v460, .hslc (BR.root 0) v461], .agg [.int .i64 v462, .int .i64 v463, .hslc (BR.root 1) v464, .hslc (BR.root 2) v465]] (fun F' h0 hi hρ => ⟨by simp [DVs.av, DV.av, BR.av, hρ], laws_FnExactFactorGrowth_len_fn v459 v460 v461 v462 v463 v464 v465 F' (by rw [hi]; rfl) (st_nil hi) ⟨⟨trivial, trivial, hslc_ok hi (by rw [h0, hρ]; exact lenV_ok hs (DVs.okAt (DVs.okAt ha 0 rfl) 2 rfl) hv461), trivial⟩, ⟨trivial, trivial, hslc_ok hi (by rw [h0, hρ]; exact lenV_ok hs (DVs.okAt (DVs.okAt ha 1 rfl) 2 rfl) hv464), hslc_ok hi (by rw [h0, hρ]; exact lenV_ok hs (DVs.okAt (DVs.okAt ha 1 rfl) 3 rfl) hv465), trivial⟩, trivial⟩ hy⟩) rfl
  · cases hr
end Go.Proofs.Ytjadfgeemfdbmaa.AM
