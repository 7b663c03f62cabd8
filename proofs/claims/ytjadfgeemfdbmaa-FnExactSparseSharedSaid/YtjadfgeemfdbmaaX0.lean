/- Functions: what they come to. -/
import Derived.Test.YtjadfgeemfdbmaaBase
set_option maxRecDepth 100000
set_option maxHeartbeats 4000000
set_option linter.unusedSimpArgs false
set_option linter.unusedVariables false
namespace Go.Proofs.Ytjadfgeemfdbmaa.AM
open Go.Proofs
/-! laws.szInt64S -/
noncomputable def laws_szInt64S_LO (v12 : List Int) (v13 : Int) : LOr := fun id e L =>
  match id with
  | _ => .fail
noncomputable def laws_szInt64S_tab : List (FuncId × DFn × Bool) := []
theorem laws_szInt64S_hO : OrcOk Try.prog (tabD laws_szInt64S_tab) (tabM laws_szInt64S_tab) := tabD_nil _
noncomputable def laws_szInt64S_T (v12 : List Int) (v13 : Int) : Tree (Int) :=
  (.br (decide (IntKind.i64.wrap (v13 - ((v12.length : Nat) : Int)) < (0 : Int))) (
   .leaf (-1 : Int)
  ) (
   .leaf (IntKind.i64.wrap (v13 - ((v12.length : Nat) : Int)))
  ))

noncomputable def laws_szInt64S_g (v12 : List Int) (v13 : Int) : Option (Int) := (laws_szInt64S_T v12 v13).run
def laws_szInt64S_enc (v12 : List Int) (v13 : Int) (y : Int) : Rs := (.int .i64 y, [])
theorem laws_szInt64S_den (v12 : List Int) (v13 : Int) : (den TT (tabD laws_szInt64S_tab) (tabM laws_szInt64S_tab) (laws_szInt64S_LO v12 v13) (codeOf Try.f63) ([.bslc (BR.root 0) (.i64 v12), .int .i64 v13] ++ List.replicate (Try.f63.ntmps - ([.bslc (BR.root 0) (.i64 v12), .int .i64 v13] : List DV).length) .undef) []).bind (retD TT Try.f63.results.toList 0) = (laws_szInt64S_T v12 v13).bind fun y => .leaf (laws_szInt64S_enc v12 v13 y) := by kernel_rfl
theorem laws_szInt64S_fn (v12 : List Int) (v13 : Int) (F : Fr) (hm : F.ids.length = 0) (h0 : St F [] F.H0) (hA : DVs.Ok F [] [.bslc (BR.root 0) (.i64 v12), .int .i64 v13]) {y : Int} (hy : laws_szInt64S_g v12 v13 = some y) : ∃ H', FnOk Try.prog 63 (DVs.av F [.bslc (BR.root 0) (.i64 v12), .int .i64 v13]) F.H0 ((laws_szInt64S_enc v12 v13 y).1.av F) H' ∧ St F (laws_szInt64S_enc v12 v13 y).2 H' ∧ (laws_szInt64S_enc v12 v13 y).1.Ok F (laws_szInt64S_enc v12 v13 y).2 :=
  fn_fin tok laws_szInt64S_hO mixed Try.func63 Try.call63 (by kernel_rfl) (LoopsOk_eq (l := []) (by kernel_rfl) trivial) (laws_szInt64S_den v12 v13) hy hm h0 hA
def laws_szInt64S_v (v12 : List Int) (v13 : Int) : Int :=
  if (decide (IntKind.i64.wrap (v13 - ((v12.length : Nat) : Int)) < (0 : Int))) = true then (
   (-1 : Int)
  ) else (
   IntKind.i64.wrap (v13 - ((v12.length : Nat) : Int))
  )
theorem laws_szInt64S_tot (v12 : List Int) (v13 : Int) : laws_szInt64S_g v12 v13 = some (laws_szInt64S_v v12 v13) := by
  unfold laws_szInt64S_g laws_szInt64S_T laws_szInt64S_v
  simp only [Tree.run]
  repeat' (first | rfl | split)
noncomputable def laws_szInt64S_F : DFn := fun args L =>
  match args with
  | [a1, .int .i64 v13] =>
    optT (rowI64 L a1) fun v12 =>
    .leaf (.int .i64 (laws_szInt64S_v v12 v13), L)
  | _ => .fail
theorem laws_szInt64S_Fok : COk Try.prog 63 laws_szInt64S_F true := by
  intro F L H args r L' hs ha hr
  unfold laws_szInt64S_F at hr
  split at hr
  · rename_i a1 v13
    obtain ⟨v12, hv12, hr⟩ := optT_run hr
    have hy := laws_szInt64S_tot v12 v13
    generalize laws_szInt64S_v v12 v13 = y at hy hr
    simp only [Tree.run, Option.some.injEq, Prod.mk.injEq] at hr
    obtain ⟨rfl, rfl⟩ := hr
    exact call_ok0 hs (fun k => (([a1.av F] : List AV)[k]?).getD .top) [a1, .int .i64 v13] [.bslc (BR.root 0) (.i64 v12), .int .i64 v13] (fun F' h0 hi hρ => ⟨by simp [DVs.av, DV.av, BR.av, hρ], laws_szInt64S_fn v12 v13 F' (by rw [hi]; rfl) (st_nil hi) ⟨bslc_ok hi (by rw [h0, hρ]; exact rowI64_ok hs (DVs.okAt ha 0 rfl) hv12), trivial, trivial⟩ hy⟩) rfl
  · cases hr
/-! laws.szFloat32S -/
noncomputable def laws_szFloat32S_LO (v14 : List Nat) (v15 : Int) : LOr := fun id e L =>
  match id with
  | _ => .fail
noncomputable def laws_szFloat32S_tab : List (FuncId × DFn × Bool) := []
theorem laws_szFloat32S_hO : OrcOk Try.prog (tabD laws_szFloat32S_tab) (tabM laws_szFloat32S_tab) := tabD_nil _
noncomputable def laws_szFloat32S_T (v14 : List Nat) (v15 : Int) : Tree (Int) :=
  (.br (decide (IntKind.i64.wrap (v15 - ((v14.length : Nat) : Int)) < (0 : Int))) (
   .leaf (-1 : Int)
  ) (
   .leaf (IntKind.i64.wrap (v15 - ((v14.length : Nat) : Int)))
  ))

noncomputable def laws_szFloat32S_g (v14 : List Nat) (v15 : Int) : Option (Int) := (laws_szFloat32S_T v14 v15).run
def laws_szFloat32S_enc (v14 : List Nat) (v15 : Int) (y : Int) : Rs := (.int .i64 y, [])
theorem laws_szFloat32S_den (v14 : List Nat) (v15 : Int) : (den TT (tabD laws_szFloat32S_tab) (tabM laws_szFloat32S_tab) (laws_szFloat32S_LO v14 v15) (codeOf Try.f64) ([.bslc (BR.root 0) (.f32 v14), .int .i64 v15] ++ List.replicate (Try.f64.ntmps - ([.bslc (BR.root 0) (.f32 v14), .int .i64 v15] : List DV).length) .undef) []).bind (retD TT Try.f64.results.toList 0) = (laws_szFloat32S_T v14 v15).bind fun y => .leaf (laws_szFloat32S_enc v14 v15 y) := by kernel_rfl
theorem laws_szFloat32S_fn (v14 : List Nat) (v15 : Int) (F : Fr) (hm : F.ids.length = 0) (h0 : St F [] F.H0) (hA : DVs.Ok F [] [.bslc (BR.root 0) (.f32 v14), .int .i64 v15]) {y : Int} (hy : laws_szFloat32S_g v14 v15 = some y) : ∃ H', FnOk Try.prog 64 (DVs.av F [.bslc (BR.root 0) (.f32 v14), .int .i64 v15]) F.H0 ((laws_szFloat32S_enc v14 v15 y).1.av F) H' ∧ St F (laws_szFloat32S_enc v14 v15 y).2 H' ∧ (laws_szFloat32S_enc v14 v15 y).1.Ok F (laws_szFloat32S_enc v14 v15 y).2 :=
  fn_fin tok laws_szFloat32S_hO mixed Try.func64 Try.call64 (by kernel_rfl) (LoopsOk_eq (l := []) (by kernel_rfl) trivial) (laws_szFloat32S_den v14 v15) hy hm h0 hA
def laws_szFloat32S_v (v14 : List Nat) (v15 : Int) : Int :=
  if (decide (IntKind.i64.wrap (v15 - ((v14.length : Nat) : Int)) < (0 : Int))) = true then (
   (-1 : Int)
  ) else (
   IntKind.i64.wrap (v15 - ((v14.length : Nat) : Int))
  )
theorem laws_szFloat32S_tot (v14 : List Nat) (v15 : Int) : laws_szFloat32S_g v14 v15 = some (laws_szFloat32S_v v14 v15) := by
  unfold laws_szFloat32S_g laws_szFloat32S_T laws_szFloat32S_v
  simp only [Tree.run]
  repeat' (first | rfl | split)
noncomputable def laws_szFloat32S_F : DFn := fun args L =>
  match args with
  | [a1, .int .i64 v15] =>
    optT (rowF32 L a1) fun v14 =>
    .leaf (.int .i64 (laws_szFloat32S_v v14 v15), L)
  | _ => .fail
theorem laws_szFloat32S_Fok : COk Try.prog 64 laws_szFloat32S_F true := by
  intro F L H args r L' hs ha hr
  unfold laws_szFloat32S_F at hr
  split at hr
  · rename_i a1 v15
    obtain ⟨v14, hv14, hr⟩ := optT_run hr
    have hy := laws_szFloat32S_tot v14 v15
    generalize laws_szFloat32S_v v14 v15 = y at hy hr
    simp only [Tree.run, Option.some.injEq, Prod.mk.injEq] at hr
    obtain ⟨rfl, rfl⟩ := hr
    exact call_ok0 hs (fun k => (([a1.av F] : List AV)[k]?).getD .top) [a1, .int .i64 v15] [.bslc (BR.root 0) (.f32 v14), .int .i64 v15] (fun F' h0 hi hρ => ⟨by simp [DVs.av, DV.av, BR.av, hρ], laws_szFloat32S_fn v14 v15 F' (by rw [hi]; rfl) (st_nil hi) ⟨bslc_ok hi (by rw [h0, hρ]; exact rowF32_ok hs (DVs.okAt ha 0 rfl) hv14), trivial, trivial⟩ hy⟩) rfl
  · cases hr
/-! laws.szSparse -/
noncomputable def laws_szSparse_LO (v7 : Int) (v8 : List Int) (v9 : List Int) (v10 : List Nat) (v11 : Int) : LOr := fun id e L =>
  match id with
  | _ => .fail
noncomputable def laws_szSparse_tab : List (FuncId × DFn × Bool) := [(63, laws_szInt64S_F, true), (64, laws_szFloat32S_F, true)]
theorem laws_szSparse_hO : OrcOk Try.prog (tabD laws_szSparse_tab) (tabM laws_szSparse_tab) := tabD_cons laws_szInt64S_Fok (tabD_cons laws_szFloat32S_Fok (tabD_nil _))
noncomputable def laws_szSparse_T (v8 : List Int) (v9 : List Int) (v10 : List Nat) (v11 : Int) : Tree (Int) :=
  (.br (decide ((laws_szInt64S_v v8 v11) < (0 : Int))) (
   .leaf (-1 : Int)
  ) (
   (.br (decide ((laws_szInt64S_v v9 (laws_szInt64S_v v8 v11)) < (0 : Int))) (
    .leaf (-1 : Int)
   ) (
    (.br (decide ((laws_szFloat32S_v v10 (laws_szInt64S_v v9 (laws_szInt64S_v v8 v11))) < (0 : Int))) (
     .leaf (-1 : Int)
    ) (
     .leaf (laws_szFloat32S_v v10 (laws_szInt64S_v v9 (laws_szInt64S_v v8 v11)))
    ))
   ))
  ))

noncomputable def laws_szSparse_g (v8 : List Int) (v9 : List Int) (v10 : List Nat) (v11 : Int) : Option (Int) := (laws_szSparse_T v8 v9 v10 v11).run
def laws_szSparse_enc (v7 : Int) (v8 : List Int) (v9 : List Int) (v10 : List Nat) (v11 : Int) (y : Int) : Rs := (.int .i64 y, [])
theorem laws_szSparse_den (v7 : Int) (v8 : List Int) (v9 : List Int) (v10 : List Nat) (v11 : Int) : (den TT (tabD laws_szSparse_tab) (tabM laws_szSparse_tab) (laws_szSparse_LO v7 v8 v9 v10 v11) (codeOf Try.f15) ([.agg [.int .i64 v7, .bslc (BR.root 0) (.i64 v8), .bslc (BR.root 1) (.i64 v9), .bslc (BR.root 2) (.f32 v10)], .int .i64 v11] ++ List.replicate (Try.f15.ntmps - ([.agg [.int .i64 v7, .bslc (BR.root 0) (.i64 v8), .bslc (BR.root 1) (.i64 v9), .bslc (BR.root 2) (.f32 v10)], .int .i64 v11] : List DV).length) .undef) []).bind (retD TT Try.f15.results.toList 0) = (laws_szSparse_T v8 v9 v10 v11).bind fun y => .leaf (laws_szSparse_enc v7 v8 v9 v10 v11 y) := by kernel_rfl
theorem laws_szSparse_fn (v7 : Int) (v8 : List Int) (v9 : List Int) (v10 : List Nat) (v11 : Int) (F : Fr) (hm : F.ids.length = 0) (h0 : St F [] F.H0) (hA : DVs.Ok F [] [.agg [.int .i64 v7, .bslc (BR.root 0) (.i64 v8), .bslc (BR.root 1) (.i64 v9), .bslc (BR.root 2) (.f32 v10)], .int .i64 v11]) {y : Int} (hy : laws_szSparse_g v8 v9 v10 v11 = some y) : ∃ H', FnOk Try.prog 15 (DVs.av F [.agg [.int .i64 v7, .bslc (BR.root 0) (.i64 v8), .bslc (BR.root 1) (.i64 v9), .bslc (BR.root 2) (.f32 v10)], .int .i64 v11]) F.H0 ((laws_szSparse_enc v7 v8 v9 v10 v11 y).1.av F) H' ∧ St F (laws_szSparse_enc v7 v8 v9 v10 v11 y).2 H' ∧ (laws_szSparse_enc v7 v8 v9 v10 v11 y).1.Ok F (laws_szSparse_enc v7 v8 v9 v10 v11 y).2 :=
  fn_fin tok laws_szSparse_hO mixed Try.func15 Try.call15 (by kernel_rfl) (LoopsOk_eq (l := []) (by kernel_rfl) trivial) (laws_szSparse_den v7 v8 v9 v10 v11) hy hm h0 hA
def laws_szSparse_v (v8 : List Int) (v9 : List Int) (v10 : List Nat) (v11 : Int) : Int :=
  if (decide ((laws_szInt64S_v v8 v11) < (0 : Int))) = true then (
   (-1 : Int)
  ) else (
   if (decide ((laws_szInt64S_v v9 (laws_szInt64S_v v8 v11)) < (0 : Int))) = true then (
    (-1 : Int)
   ) else (
    if (decide ((laws_szFloat32S_v v10 (laws_szInt64S_v v9 (laws_szInt64S_v v8 v11))) < (0 : Int))) = true then (
     (-1 : Int)
    ) else (
     (laws_szFloat32S_v v10 (laws_szInt64S_v v9 (laws_szInt64S_v v8 v11)))
    )
   )
  )
theorem laws_szSparse_tot (v8 : List Int) (v9 : List Int) (v10 : List Nat) (v11 : Int) : laws_szSparse_g v8 v9 v10 v11 = some (laws_szSparse_v v8 v9 v10 v11) := by
  unfold laws_szSparse_g laws_szSparse_T laws_szSparse_v
  simp only [Tree.run]
  repeat' (first | rfl | split)
noncomputable def laws_szSparse_F : DFn := fun args L =>
  match args with
  | [.agg [.int .i64 v7, a1, a2, a3], .int .i64 v11] =>
    optT (rowI64 L a1) fun v8 =>
    optT (rowI64 L a2) fun v9 =>
    optT (rowF32 L a3) fun v10 =>
    .leaf (.int .i64 (laws_szSparse_v v8 v9 v10 v11), L)
  | _ => .fail
theorem laws_szSparse_Fok : COk Try.prog 15 laws_szSparse_F true := by
  intro F L H args r L' hs ha hr
  unfold laws_szSparse_F at hr
  split at hr
  · rename_i v7 a1 a2 a3 v11
    obtain ⟨v8, hv8, hr⟩ := optT_run hr
    obtain ⟨v9, hv9, hr⟩ := optT_run hr
    obtain ⟨v10, hv10, hr⟩ := optT_run hr
    have hy := laws_szSparse_tot v8 v9 v10 v11
    generalize laws_szSparse_v v8 v9 v10 v11 = y at hy hr
    simp only [Tree.run, Option.some.injEq, Prod.mk.injEq] at hr
    obtain ⟨rfl, rfl⟩ := hr
    exact call_ok0 hs (fun k => (([a1.av F, a2.av F, a3.av F] : List AV)[k]?).getD .top) [.agg [.int .i64 v7, a1, a2, a3], .int .i64 v11] [.agg [.int .i64 v7, .bslc (BR.root 0) (.i64 v8), .bslc (BR.root 1) (.i64 v9), .bslc (BR.root 2) (.f32 v10)], .int .i64 v11] (fun F' h0 hi hρ => ⟨by simp [DVs.av, DV.av, BR.av, hρ], laws_szSparse_fn v7 v8 v9 v10 v11 F' (by rw [hi]; rfl) (st_nil hi) ⟨⟨trivial, bslc_ok hi (by rw [h0, hρ]; exact rowI64_ok hs (DVs.okAt (DVs.okAt ha 0 rfl) 1 rfl) hv8), bslc_ok hi (by rw [h0, hρ]; exact rowI64_ok hs (DVs.okAt (DVs.okAt ha 0 rfl) 2 rfl) hv9), bslc_ok hi (by rw [h0, hρ]; exact rowF32_ok hs (DVs.okAt (DVs.okAt ha 0 rfl) 3 rfl) hv10), trivial⟩, trivial, trivial⟩ hy⟩) rfl
  · cases hr
/-! laws.toInt64S -/
noncomputable def laws_toInt64S_l0_T (v20 : List Int) (s : Int × (List Int)) : Tree ((Int × (List Int)) ⊕ ((List Int))) :=
  (.br (decide (s.1 < ((v20.length : Nat) : Int))) (
   (.grd (inb s.1 v20.length) <|
   (.grd (inb s.1 ((s.2).length)) <|
   .leaf (.inl (IntKind.i64.wrap (s.1 + (1 : Int)), List.set s.2 (Int.toNat s.1) (nth v20 (Int.toNat s.1))))))
  ) (
   .leaf (.inr s.2)
  ))

noncomputable def laws_toInt64S_l0_g (v20 : List Int) (s0 : Int × (List Int)) : Option ((List Int)) := whileM (fun s => (laws_toInt64S_l0_T v20 s).run) s0
def laws_toInt64S_l0_E (v20 : List Int) (s : Int × (List Int)) : Sd := ([.bslc (BR.root 0) (.i64 v20), .top, .top, .own 0 0 ((s.2).length), .int .i64 s.1, .top, .top, .top, .top, .top, .top, .top, .top, .top, .top, .top, .top, .top, .top, .top, .top, .top], [.row (.i64 s.2) 0])
def laws_toInt64S_l0_X (v20 : List Int) (x : (List Int)) : Out := (.normal, [.top, .top, .top, .own 0 0 ((x).length), .top, .top, .top, .top, .top, .top, .top, .top, .top, .top, .top, .top, .top, .top, .top, .top, .top, .top], [.row (.i64 x) 0])
def laws_toInt64S_l0_kill : List Nat := [0, 1, 1, 0, 0, 1, 1, 1, 1, 1, 1, 1, 1, 1, 1, 1, 1, 1, 1, 1, 1, 1]
def laws_toInt64S_l0_nx : Exit → List Nat
  | .exit 0 => [1, 1, 1, 0, 1, 1, 1, 1, 1, 1, 1, 1, 1, 1, 1, 1, 1, 1, 1, 1, 1, 1]
  | .ret => [1, 1, 0, 1, 1, 1, 1, 1, 1, 1, 1, 1, 1, 1, 1, 1, 1, 1, 1, 1, 1, 1]
  | _ => []
noncomputable def laws_toInt64S_LO (v20 : List Int) : LOr := fun id e L =>
  match id with
  | 0 => .need (normA 0 laws_toInt64S_l0_kill e L = some (laws_toInt64S_l0_E v20 ((gI (vAt e 4)), (gRI L (vAt e 3))))) (.call (laws_toInt64S_l0_g v20 ((gI (vAt e 4)), (gRI L (vAt e 3)))) fun x => .leaf (laws_toInt64S_l0_X v20 x))
  | _ => .fail
noncomputable def laws_toInt64S_tab : List (FuncId × DFn × Bool) := []
theorem laws_toInt64S_hO : OrcOk Try.prog (tabD laws_toInt64S_tab) (tabM laws_toInt64S_tab) := tabD_nil _
theorem laws_toInt64S_l0_be (v20 : List Int) (s : Int × (List Int)) : bodyT TT (tabD laws_toInt64S_tab) (tabM laws_toInt64S_tab) (laws_toInt64S_LO v20) 0 laws_toInt64S_l0_kill laws_toInt64S_l0_nx (bodyOf Try.f42 0) 0 (laws_toInt64S_l0_E v20 s) = (laws_toInt64S_l0_T v20 s).bind fun y => .leaf (outS (laws_toInt64S_l0_E v20) (laws_toInt64S_l0_X v20) y) := by kernel_rfl
theorem laws_toInt64S_l0_ok (v20 : List Int) : LSound Try.prog 0 (laws_toInt64S_LO v20) 0 (bodyOf Try.f42 0) := by
  intro e L out h
  exact lo_ok (E := laws_toInt64S_l0_E v20) (gT := laws_toInt64S_l0_T v20) (X := laws_toInt64S_l0_X v20) (s0 := ((gI (vAt e 4)), (gRI L (vAt e 3)))) tok laws_toInt64S_hO mixed (LoopsOk_eq (l := []) (by kernel_rfl) trivial) (laws_toInt64S_l0_be v20) rfl (by intro x; rfl) h
noncomputable def laws_toInt64S_T (v20 : List Int) : Tree ((List Int)) :=
  (.need (((v20.length : Nat) : Int) = ((v20.length : Nat) : Int)) <|
  (.grd (inb ((v20.length : Nat) : Int) (maxN + 1)) <|
  (.need (some (laws_toInt64S_l0_E v20 ((0 : Int), List.replicate (Int.toNat ((v20.length : Nat) : Int)) (0 : Int))) = some (laws_toInt64S_l0_E v20 ((0 : Int), List.replicate (Int.toNat ((v20.length : Nat) : Int)) (0 : Int)))) <|
  (.call (laws_toInt64S_l0_g v20 ((0 : Int), List.replicate (Int.toNat ((v20.length : Nat) : Int)) (0 : Int))) fun v26 =>
  .leaf v26))))

noncomputable def laws_toInt64S_g (v20 : List Int) : Option ((List Int)) := (laws_toInt64S_T v20).run
def laws_toInt64S_enc (v20 : List Int) (y : (List Int)) : Rs := (.own 0 0 ((y).length), [.row (.i64 y) 0])
theorem laws_toInt64S_den (v20 : List Int) : (den TT (tabD laws_toInt64S_tab) (tabM laws_toInt64S_tab) (laws_toInt64S_LO v20) (codeOf Try.f42) ([.bslc (BR.root 0) (.i64 v20)] ++ List.replicate (Try.f42.ntmps - ([.bslc (BR.root 0) (.i64 v20)] : List DV).length) .undef) []).bind (retD TT Try.f42.results.toList 0) = (laws_toInt64S_T v20).bind fun y => .leaf (laws_toInt64S_enc v20 y) := by kernel_rfl
theorem laws_toInt64S_fn (v20 : List Int) (F : Fr) (hm : F.ids.length = 0) (h0 : St F [] F.H0) (hA : DVs.Ok F [] [.bslc (BR.root 0) (.i64 v20)]) {y : (List Int)} (hy : laws_toInt64S_g v20 = some y) : ∃ H', FnOk Try.prog 42 (DVs.av F [.bslc (BR.root 0) (.i64 v20)]) F.H0 ((laws_toInt64S_enc v20 y).1.av F) H' ∧ St F (laws_toInt64S_enc v20 y).2 H' ∧ (laws_toInt64S_enc v20 y).1.Ok F (laws_toInt64S_enc v20 y).2 :=
  fn_fin tok laws_toInt64S_hO mixed Try.func42 Try.call42 (by kernel_rfl) (LoopsOk_eq (l := [(0, bodyOf Try.f42 0)]) (by kernel_rfl) ⟨laws_toInt64S_l0_ok v20, trivial⟩) (laws_toInt64S_den v20) hy hm h0 hA
noncomputable def laws_toInt64S_F : DFn := fun args L =>
  match args with
  | [a1] =>
    optT (rowI64 L a1) fun v20 =>
    .call (laws_toInt64S_g v20) fun y => .leaf (.own (L.length + 0) 0 ((y).length), L ++ [.row (.i64 y) 0])
  | _ => .fail
theorem laws_toInt64S_Fok : COk Try.prog 42 laws_toInt64S_F true := by
  intro F L H args r L' hs ha hr
  unfold laws_toInt64S_F at hr
  split at hr
  · rename_i a1
    obtain ⟨v20, hv20, hr⟩ := optT_run hr
    simp only [Tree.run] at hr
    obtain ⟨y, hy, hr⟩ := Option.bind_eq_some_iff.1 hr
    simp only [Tree.run, Option.some.injEq, Prod.mk.injEq] at hr
    obtain ⟨rfl, rfl⟩ := hr
    exact call_ok1 hs (fun k => (([a1.av F] : List AV)[k]?).getD .top) [a1] [.bslc (BR.root 0) (.i64 v20)] (fun F' h0 hi hρ => ⟨by simp [DVs.av, DV.av, BR.av, hρ], laws_toInt64S_fn v20 F' (by rw [hi]; rfl) (st_nil hi) ⟨bslc_ok hi (by rw [h0, hρ]; exact rowI64_ok hs (DVs.okAt ha 0 rfl) hv20), trivial⟩ hy⟩) rfl rfl
  · cases hr
/-! laws.toFloat32S -/
noncomputable def laws_toFloat32S_l0_T (v29 : List Nat) (s : Int × (List Nat)) : Tree ((Int × (List Nat)) ⊕ ((List Nat))) :=
  (.br (decide (s.1 < ((v29.length : Nat) : Int))) (
   (.grd (inb s.1 v29.length) <|
   (.grd (inb s.1 ((s.2).length)) <|
   .leaf (.inl (IntKind.i64.wrap (s.1 + (1 : Int)), List.set s.2 (Int.toNat s.1) (nth v29 (Int.toNat s.1))))))
  ) (
   .leaf (.inr s.2)
  ))

noncomputable def laws_toFloat32S_l0_g (v29 : List Nat) (s0 : Int × (List Nat)) : Option ((List Nat)) := whileM (fun s => (laws_toFloat32S_l0_T v29 s).run) s0
def laws_toFloat32S_l0_E (v29 : List Nat) (s : Int × (List Nat)) : Sd := ([.bslc (BR.root 0) (.f32 v29), .top, .top, .own 0 0 ((s.2).length), .int .i64 s.1, .top, .top, .top, .top, .top, .top, .top, .top, .top, .top, .top, .top, .top, .top, .top, .top, .top], [.row (.f32 s.2) 0])
def laws_toFloat32S_l0_X (v29 : List Nat) (x : (List Nat)) : Out := (.normal, [.top, .top, .top, .own 0 0 ((x).length), .top, .top, .top, .top, .top, .top, .top, .top, .top, .top, .top, .top, .top, .top, .top, .top, .top, .top], [.row (.f32 x) 0])
def laws_toFloat32S_l0_kill : List Nat := [0, 1, 1, 0, 0, 1, 1, 1, 1, 1, 1, 1, 1, 1, 1, 1, 1, 1, 1, 1, 1, 1]
def laws_toFloat32S_l0_nx : Exit → List Nat
  | .exit 0 => [1, 1, 1, 0, 1, 1, 1, 1, 1, 1, 1, 1, 1, 1, 1, 1, 1, 1, 1, 1, 1, 1]
  | .ret => [1, 1, 0, 1, 1, 1, 1, 1, 1, 1, 1, 1, 1, 1, 1, 1, 1, 1, 1, 1, 1, 1]
  | _ => []
noncomputable def laws_toFloat32S_LO (v29 : List Nat) : LOr := fun id e L =>
  match id with
  | 0 => .need (normA 0 laws_toFloat32S_l0_kill e L = some (laws_toFloat32S_l0_E v29 ((gI (vAt e 4)), (gRF L (vAt e 3))))) (.call (laws_toFloat32S_l0_g v29 ((gI (vAt e 4)), (gRF L (vAt e 3)))) fun x => .leaf (laws_toFloat32S_l0_X v29 x))
  | _ => .fail
noncomputable def laws_toFloat32S_tab : List (FuncId × DFn × Bool) := []
theorem laws_toFloat32S_hO : OrcOk Try.prog (tabD laws_toFloat32S_tab) (tabM laws_toFloat32S_tab) := tabD_nil _
theorem laws_toFloat32S_l0_be (v29 : List Nat) (s : Int × (List Nat)) : bodyT TT (tabD laws_toFloat32S_tab) (tabM laws_toFloat32S_tab) (laws_toFloat32S_LO v29) 0 laws_toFloat32S_l0_kill laws_toFloat32S_l0_nx (bodyOf Try.f18 0) 0 (laws_toFloat32S_l0_E v29 s) = (laws_toFloat32S_l0_T v29 s).bind fun y => .leaf (outS (laws_toFloat32S_l0_E v29) (laws_toFloat32S_l0_X v29) y) := by kernel_rfl
theorem laws_toFloat32S_l0_ok (v29 : List Nat) : LSound Try.prog 0 (laws_toFloat32S_LO v29) 0 (bodyOf Try.f18 0) := by
  intro e L out h
  exact lo_ok (E := laws_toFloat32S_l0_E v29) (gT := laws_toFloat32S_l0_T v29) (X := laws_toFloat32S_l0_X v29) (s0 := ((gI (vAt e 4)), (gRF L (vAt e 3)))) tok laws_toFloat32S_hO mixed (LoopsOk_eq (l := []) (by kernel_rfl) trivial) (laws_toFloat32S_l0_be v29) rfl (by intro x; rfl) h
noncomputable def laws_toFloat32S_T (v29 : List Nat) : Tree ((List Nat)) :=
  (.need (((v29.length : Nat) : Int) = ((v29.length : Nat) : Int)) <|
  (.grd (inb ((v29.length : Nat) : Int) (maxN + 1)) <|
  (.need (some (laws_toFloat32S_l0_E v29 ((0 : Int), List.replicate (Int.toNat ((v29.length : Nat) : Int)) (0 : Nat))) = some (laws_toFloat32S_l0_E v29 ((0 : Int), List.replicate (Int.toNat ((v29.length : Nat) : Int)) (0 : Nat)))) <|
  (.call (laws_toFloat32S_l0_g v29 ((0 : Int), List.replicate (Int.toNat ((v29.length : Nat) : Int)) (0 : Nat))) fun v35 =>
  .leaf v35))))

noncomputable def laws_toFloat32S_g (v29 : List Nat) : Option ((List Nat)) := (laws_toFloat32S_T v29).run
def laws_toFloat32S_enc (v29 : List Nat) (y : (List Nat)) : Rs := (.own 0 0 ((y).length), [.row (.f32 y) 0])
theorem laws_toFloat32S_den (v29 : List Nat) : (den TT (tabD laws_toFloat32S_tab) (tabM laws_toFloat32S_tab) (laws_toFloat32S_LO v29) (codeOf Try.f18) ([.bslc (BR.root 0) (.f32 v29)] ++ List.replicate (Try.f18.ntmps - ([.bslc (BR.root 0) (.f32 v29)] : List DV).length) .undef) []).bind (retD TT Try.f18.results.toList 0) = (laws_toFloat32S_T v29).bind fun y => .leaf (laws_toFloat32S_enc v29 y) := by kernel_rfl
theorem laws_toFloat32S_fn (v29 : List Nat) (F : Fr) (hm : F.ids.length = 0) (h0 : St F [] F.H0) (hA : DVs.Ok F [] [.bslc (BR.root 0) (.f32 v29)]) {y : (List Nat)} (hy : laws_toFloat32S_g v29 = some y) : ∃ H', FnOk Try.prog 18 (DVs.av F [.bslc (BR.root 0) (.f32 v29)]) F.H0 ((laws_toFloat32S_enc v29 y).1.av F) H' ∧ St F (laws_toFloat32S_enc v29 y).2 H' ∧ (laws_toFloat32S_enc v29 y).1.Ok F (laws_toFloat32S_enc v29 y).2 :=
  fn_fin tok laws_toFloat32S_hO mixed Try.func18 Try.call18 (by kernel_rfl) (LoopsOk_eq (l := [(0, bodyOf Try.f18 0)]) (by kernel_rfl) ⟨laws_toFloat32S_l0_ok v29, trivial⟩) (laws_toFloat32S_den v29) hy hm h0 hA
noncomputable def laws_toFloat32S_F : DFn := fun args L =>
  match args with
  | [a1] =>
    optT (rowF32 L a1) fun v29 =>
    .call (laws_toFloat32S_g v29) fun y => .leaf (.own (L.length + 0) 0 ((y).length), L ++ [.row (.f32 y) 0])
  | _ => .fail
theorem laws_toFloat32S_Fok : COk Try.prog 18 laws_toFloat32S_F true := by
  intro F L H args r L' hs ha hr
  unfold laws_toFloat32S_F at hr
  split at hr
  · rename_i a1
    obtain ⟨v29, hv29, hr⟩ := optT_run hr
    simp only [Tree.run] at hr
    obtain ⟨y, hy, hr⟩ := Option.bind_eq_some_iff.1 hr
    simp only [Tree.run, Option.some.injEq, Prod.mk.injEq] at hr
    obtain ⟨rfl, rfl⟩ := hr
    exact call_ok1 hs (fun k => (([a1.av F] : List AV)[k]?).getD .top) [a1] [.bslc (BR.root 0) (.f32 v29)] (fun F' h0 hi hρ => ⟨by simp [DVs.av, DV.av, BR.av, hρ], laws_toFloat32S_fn v29 F' (by rw [hi]; rfl) (st_nil hi) ⟨bslc_ok hi (by rw [h0, hρ]; exact rowF32_ok hs (DVs.okAt ha 0 rfl) hv29), trivial⟩ hy⟩) rfl rfl
  · cases hr
/-! laws.toSparse -/
noncomputable def laws_toSparse_LO (v16 : Int) (v17 : List Int) (v18 : List Int) (v19 : List Nat) : LOr := fun id e L =>
  match id with
  | _ => .fail
noncomputable def laws_toSparse_tab : List (FuncId × DFn × Bool) := [(42, laws_toInt64S_F, true), (18, laws_toFloat32S_F, true)]
theorem laws_toSparse_hO : OrcOk Try.prog (tabD laws_toSparse_tab) (tabM laws_toSparse_tab) := tabD_cons laws_toInt64S_Fok (tabD_cons laws_toFloat32S_Fok (tabD_nil _))
noncomputable def laws_toSparse_T (v16 : Int) (v17 : List Int) (v18 : List Int) (v19 : List Nat) : Tree (Int × (List Int) × (List Int) × (List Nat)) :=
  (.call (laws_toInt64S_g v17) fun v27 =>
  (.call (laws_toInt64S_g v18) fun v28 =>
  (.call (laws_toFloat32S_g v19) fun v36 =>
  .leaf (v16, v27, v28, v36))))

noncomputable def laws_toSparse_g (v16 : Int) (v17 : List Int) (v18 : List Int) (v19 : List Nat) : Option (Int × (List Int) × (List Int) × (List Nat)) := (laws_toSparse_T v16 v17 v18 v19).run
def laws_toSparse_enc (v16 : Int) (v17 : List Int) (v18 : List Int) (v19 : List Nat) (y : Int × (List Int) × (List Int) × (List Nat)) : Rs := (.agg [.int .i64 y.1, .own 0 0 ((y.2.1).length), .own 1 0 ((y.2.2.1).length), .own 2 0 ((y.2.2.2).length)], [.row (.i64 y.2.1) 0, .row (.i64 y.2.2.1) 0, .row (.f32 y.2.2.2) 0])
theorem laws_toSparse_den (v16 : Int) (v17 : List Int) (v18 : List Int) (v19 : List Nat) : (den TT (tabD laws_toSparse_tab) (tabM laws_toSparse_tab) (laws_toSparse_LO v16 v17 v18 v19) (codeOf Try.f17) ([.agg [.int .i64 v16, .bslc (BR.root 0) (.i64 v17), .bslc (BR.root 1) (.i64 v18), .bslc (BR.root 2) (.f32 v19)]] ++ List.replicate (Try.f17.ntmps - ([.agg [.int .i64 v16, .bslc (BR.root 0) (.i64 v17), .bslc (BR.root 1) (.i64 v18), .bslc (BR.root 2) (.f32 v19)]] : List DV).length) .undef) []).bind (retD TT Try.f17.results.toList 0) = (laws_toSparse_T v16 v17 v18 v19).bind fun y => .leaf (laws_toSparse_enc v16 v17 v18 v19 y) := by kernel_rfl
theorem laws_toSparse_fn (v16 : Int) (v17 : List Int) (v18 : List Int) (v19 : List Nat) (F : Fr) (hm : F.ids.length = 0) (h0 : St F [] F.H0) (hA : DVs.Ok F [] [.agg [.int .i64 v16, .bslc (BR.root 0) (.i64 v17), .bslc (BR.root 1) (.i64 v18), .bslc (BR.root 2) (.f32 v19)]]) {y : Int × (List Int) × (List Int) × (List Nat)} (hy : laws_toSparse_g v16 v17 v18 v19 = some y) : ∃ H', FnOk Try.prog 17 (DVs.av F [.agg [.int .i64 v16, .bslc (BR.root 0) (.i64 v17), .bslc (BR.root 1) (.i64 v18), .bslc (BR.root 2) (.f32 v19)]]) F.H0 ((laws_toSparse_enc v16 v17 v18 v19 y).1.av F) H' ∧ St F (laws_toSparse_enc v16 v17 v18 v19 y).2 H' ∧ (laws_toSparse_enc v16 v17 v18 v19 y).1.Ok F (laws_toSparse_enc v16 v17 v18 v19 y).2 :=
  fn_fin tok laws_toSparse_hO mixed Try.func17 Try.call17 (by kernel_rfl) (LoopsOk_eq (l := []) (by kernel_rfl) trivial) (laws_toSparse_den v16 v17 v18 v19) hy hm h0 hA
noncomputable def laws_toSparse_F : DFn := fun args L =>
  match args with
  | [.agg [.int .i64 v16, a1, a2, a3]] =>
    optT (rowI64 L a1) fun v17 =>
    optT (rowI64 L a2) fun v18 =>
    optT (rowF32 L a3) fun v19 =>
    .call (laws_toSparse_g v16 v17 v18 v19) fun y => .leaf (.agg [.int .i64 y.1, .own (L.length + 0) 0 ((y.2.1).length), .own (L.length + 1) 0 ((y.2.2.1).length), .own (L.length + 2) 0 ((y.2.2.2).length)], L ++ [.row (.i64 y.2.1) 0, .row (.i64 y.2.2.1) 0, .row (.f32 y.2.2.2) 0])
  | _ => .fail
theorem laws_toSparse_Fok : COk Try.prog 17 laws_toSparse_F true := by
  intro F L H args r L' hs ha hr
  unfold laws_toSparse_F at hr
  split at hr
  · rename_i v16 a1 a2 a3
    obtain ⟨v17, hv17, hr⟩ := optT_run hr
    obtain ⟨v18, hv18, hr⟩ := optT_run hr
    obtain ⟨v19, hv19, hr⟩ := optT_run hr
    simp only [Tree.run] at hr
    obtain ⟨y, hy, hr⟩ := Option.bind_eq_some_iff.1 hr
    simp only [Tree.run, Option.some.injEq, Prod.mk.injEq] at hr
    obtain ⟨rfl, rfl⟩ := hr
    exact call_ok1 hs (fun k => (([a1.av F, a2.av F, a3.av F] : List AV)[k]?).getD .top) [.agg [.int .i64 v16, a1, a2, a3]] [.agg [.int .i64 v16, .bslc (BR.root 0) (.i64 v17), .bslc (BR.root 1) (.i64 v18), .bslc (BR.root 2) (.f32 v19)]] (fun F' h0 hi hρ => ⟨by simp [DVs.av, DV.av, BR.av, hρ], laws_toSparse_fn v16 v17 v18 v19 F' (by rw [hi]; rfl) (st_nil hi) ⟨⟨trivial, bslc_ok hi (by rw [h0, hρ]; exact rowI64_ok hs (DVs.okAt (DVs.okAt ha 0 rfl) 1 rfl) hv17), bslc_ok hi (by rw [h0, hρ]; exact rowI64_ok hs (DVs.okAt (DVs.okAt ha 0 rfl) 2 rfl) hv18), bslc_ok hi (by rw [h0, hρ]; exact rowF32_ok hs (DVs.okAt (DVs.okAt ha 0 rfl) 3 rfl) hv19), trivial⟩, trivial⟩ hy⟩) rfl rfl
  · cases hr
/-! spec.l00In -/
noncomputable def spec_l00In_LO (v54 : Int) (v55 : Int) (v56 : Int) : LOr := fun id e L =>
  match id with
  | _ => .fail
noncomputable def spec_l00In_tab : List (FuncId × DFn × Bool) := []
theorem spec_l00In_hO : OrcOk Try.prog (tabD spec_l00In_tab) (tabM spec_l00In_tab) := tabD_nil _
noncomputable def spec_l00In_T (v54 : Int) (v55 : Int) (v56 : Int) : Tree (Bool) :=
  (.br (decide (v55 ≤ v54)) (
   .leaf (decide (v54 ≤ v56))
  ) (
   .leaf false
  ))

noncomputable def spec_l00In_g (v54 : Int) (v55 : Int) (v56 : Int) : Option (Bool) := (spec_l00In_T v54 v55 v56).run
def spec_l00In_enc (v54 : Int) (v55 : Int) (v56 : Int) (y : Bool) : Rs := (.bool y, [])
theorem spec_l00In_den (v54 : Int) (v55 : Int) (v56 : Int) : (den TT (tabD spec_l00In_tab) (tabM spec_l00In_tab) (spec_l00In_LO v54 v55 v56) (codeOf Try.f71) ([.int .i64 v54, .int .i64 v55, .int .i64 v56] ++ List.replicate (Try.f71.ntmps - ([.int .i64 v54, .int .i64 v55, .int .i64 v56] : List DV).length) .undef) []).bind (retD TT Try.f71.results.toList 0) = (spec_l00In_T v54 v55 v56).bind fun y => .leaf (spec_l00In_enc v54 v55 v56 y) := by kernel_rfl
theorem spec_l00In_fn (v54 : Int) (v55 : Int) (v56 : Int) (F : Fr) (hm : F.ids.length = 0) (h0 : St F [] F.H0) (hA : DVs.Ok F [] [.int .i64 v54, .int .i64 v55, .int .i64 v56]) {y : Bool} (hy : spec_l00In_g v54 v55 v56 = some y) : ∃ H', FnOk Try.prog 71 (DVs.av F [.int .i64 v54, .int .i64 v55, .int .i64 v56]) F.H0 ((spec_l00In_enc v54 v55 v56 y).1.av F) H' ∧ St F (spec_l00In_enc v54 v55 v56 y).2 H' ∧ (spec_l00In_enc v54 v55 v56 y).1.Ok F (spec_l00In_enc v54 v55 v56 y).2 :=
  fn_fin tok spec_l00In_hO mixed Try.func71 Try.call71 (by kernel_rfl) (LoopsOk_eq (l := []) (by kernel_rfl) trivial) (spec_l00In_den v54 v55 v56) hy hm h0 hA
def spec_l00In_v (v54 : Int) (v55 : Int) (v56 : Int) : Bool :=
  if (decide (v55 ≤ v54)) = true then (
   decide (v54 ≤ v56)
  ) else (
   false
  )
theorem spec_l00In_tot (v54 : Int) (v55 : Int) (v56 : Int) : spec_l00In_g v54 v55 v56 = some (spec_l00In_v v54 v55 v56) := by
  unfold spec_l00In_g spec_l00In_T spec_l00In_v
  simp only [Tree.run]
  repeat' (first | rfl | split)
noncomputable def spec_l00In_F : DFn := fun args L =>
  match args with
  | [.int .i64 v54, .int .i64 v55, .int .i64 v56] =>
    .leaf (.bool (spec_l00In_v v54 v55 v56), L)
  | _ => .fail
theorem spec_l00In_Fok : COk Try.prog 71 spec_l00In_F true := by
  intro F L H args r L' hs ha hr
  unfold spec_l00In_F at hr
  split at hr
  · rename_i v54 v55 v56
    have hy := spec_l00In_tot v54 v55 v56
    generalize spec_l00In_v v54 v55 v56 = y at hy hr
    simp only [Tree.run, Option.some.injEq, Prod.mk.injEq] at hr
    obtain ⟨rfl, rfl⟩ := hr
    exact call_ok0 hs (fun k => (([] : List AV)[k]?).getD .top) [.int .i64 v54, .int .i64 v55, .int .i64 v56] [.int .i64 v54, .int .i64 v55, .int .i64 v56] (fun F' h0 hi hρ => ⟨by simp [DVs.av, DV.av, BR.av, hρ], spec_l00In_fn v54 v55 v56 F' (by rw [hi]; rfl) (st_nil hi) ⟨trivial, trivial, trivial, trivial⟩ hy⟩) rfl
  · cases hr
/-! spec.l01Finite -/
noncomputable def spec_l01Finite_LO (v59 : Nat) : LOr := fun id e L =>
  match id with
  | _ => .fail
noncomputable def spec_l01Finite_tab : List (FuncId × DFn × Bool) := []
theorem spec_l01Finite_hO : OrcOk Try.prog (tabD spec_l01Finite_tab) (tabM spec_l01Finite_tab) := tabD_nil _
noncomputable def spec_l01Finite_T (v59 : Nat) : Tree (Bool) :=
  .leaf (feq .f32 (fsub .f32 v59 v59) (0 : Nat))

noncomputable def spec_l01Finite_g (v59 : Nat) : Option (Bool) := (spec_l01Finite_T v59).run
def spec_l01Finite_enc (v59 : Nat) (y : Bool) : Rs := (.bool y, [])
theorem spec_l01Finite_den (v59 : Nat) : (den TT (tabD spec_l01Finite_tab) (tabM spec_l01Finite_tab) (spec_l01Finite_LO v59) (codeOf Try.f100) ([.flt .f32 v59] ++ List.replicate (Try.f100.ntmps - ([.flt .f32 v59] : List DV).length) .undef) []).bind (retD TT Try.f100.results.toList 0) = (spec_l01Finite_T v59).bind fun y => .leaf (spec_l01Finite_enc v59 y) := by kernel_rfl
theorem spec_l01Finite_fn (v59 : Nat) (F : Fr) (hm : F.ids.length = 0) (h0 : St F [] F.H0) (hA : DVs.Ok F [] [.flt .f32 v59]) {y : Bool} (hy : spec_l01Finite_g v59 = some y) : ∃ H', FnOk Try.prog 100 (DVs.av F [.flt .f32 v59]) F.H0 ((spec_l01Finite_enc v59 y).1.av F) H' ∧ St F (spec_l01Finite_enc v59 y).2 H' ∧ (spec_l01Finite_enc v59 y).1.Ok F (spec_l01Finite_enc v59 y).2 :=
  fn_fin tok spec_l01Finite_hO mixed Try.func100 Try.call100 (by kernel_rfl) (LoopsOk_eq (l := []) (by kernel_rfl) trivial) (spec_l01Finite_den v59) hy hm h0 hA
def spec_l01Finite_v (v59 : Nat) : Bool :=
  feq .f32 (fsub .f32 v59 v59) (0 : Nat)
theorem spec_l01Finite_tot (v59 : Nat) : spec_l01Finite_g v59 = some (spec_l01Finite_v v59) := by
  unfold spec_l01Finite_g spec_l01Finite_T spec_l01Finite_v
  simp only [Tree.run]
  repeat' (first | rfl | split)
noncomputable def spec_l01Finite_F : DFn := fun args L =>
  match args with
  | [.flt .f32 v59] =>
    .leaf (.bool (spec_l01Finite_v v59), L)
  | _ => .fail
theorem spec_l01Finite_Fok : COk Try.prog 100 spec_l01Finite_F true := by
  intro F L H args r L' hs ha hr
  unfold spec_l01Finite_F at hr
  split at hr
  · rename_i v59
    have hy := spec_l01Finite_tot v59
    generalize spec_l01Finite_v v59 = y at hy hr
    simp only [Tree.run, Option.some.injEq, Prod.mk.injEq] at hr
    obtain ⟨rfl, rfl⟩ := hr
    exact call_ok0 hs (fun k => (([] : List AV)[k]?).getD .top) [.flt .f32 v59] [.flt .f32 v59] (fun F' h0 hi hρ => ⟨by simp [DVs.av, DV.av, BR.av, hρ], spec_l01Finite_fn v59 F' (by rw [hi]; rfl) (st_nil hi) ⟨trivial, trivial⟩ hy⟩) rfl
  · cases hr
/-! spec.l02Finite -/
noncomputable def spec_l02Finite_l0_T (v57 : List Nat) (s : Int) : Tree ((Int) ⊕ ((Unit) ⊕ (Unit))) :=
  (.br (decide (s < ((v57.length : Nat) : Int))) (
   (.grd (inb s v57.length) <|
   (.br (!(spec_l01Finite_v (nth v57 (Int.toNat s)))) (
    .leaf (.inr (.inl ()))
   ) (
    .leaf (.inl (IntKind.i64.wrap (s + (1 : Int))))
   )))
  ) (
   .leaf (.inr (.inr ()))
  ))

noncomputable def spec_l02Finite_l0_g (v57 : List Nat) (s0 : Int) : Option ((Unit) ⊕ (Unit)) := whileM (fun s => (spec_l02Finite_l0_T v57 s).run) s0
def spec_l02Finite_l0_E (v57 : List Nat) (s : Int) : Sd := ([.bslc (BR.root 0) (.f32 v57), .top, .top, .int .i64 s, .top, .top, .top, .top, .top, .top, .top, .top, .top, .top, .top, .top], [])
def spec_l02Finite_l0_X (v57 : List Nat) (x : (Unit) ⊕ (Unit)) : Out := (match x with | .inl x => (.ret, [.top, .top, .lit false, .top, .top, .top, .top, .top, .top, .top, .top, .top, .top, .top, .top, .top], []) | .inr x => (.normal, [.top, .top, .top, .top, .top, .top, .top, .top, .top, .top, .top, .top, .top, .top, .top, .top], []))
def spec_l02Finite_l0_kill : List Nat := [0, 1, 1, 0, 1, 1, 1, 1, 1, 1, 1, 1, 1, 1, 1, 1]
def spec_l02Finite_l0_nx : Exit → List Nat
  | .exit 0 => [1, 1, 1, 1, 1, 1, 1, 1, 1, 1, 1, 1, 1, 1, 1, 1]
  | .ret => [1, 1, 0, 1, 1, 1, 1, 1, 1, 1, 1, 1, 1, 1, 1, 1]
  | _ => []
noncomputable def spec_l02Finite_LO (v57 : List Nat) : LOr := fun id e L =>
  match id with
  | 0 => .need (normA 0 spec_l02Finite_l0_kill e L = some (spec_l02Finite_l0_E v57 (gI (vAt e 3)))) (.call (spec_l02Finite_l0_g v57 (gI (vAt e 3))) fun x => .sum x (fun b0 => .leaf (spec_l02Finite_l0_X v57 (.inl b0))) (fun c0 => .leaf (spec_l02Finite_l0_X v57 (.inr c0))))
  | _ => .fail
noncomputable def spec_l02Finite_tab : List (FuncId × DFn × Bool) := [(100, spec_l01Finite_F, true)]
theorem spec_l02Finite_hO : OrcOk Try.prog (tabD spec_l02Finite_tab) (tabM spec_l02Finite_tab) := tabD_cons spec_l01Finite_Fok (tabD_nil _)
theorem spec_l02Finite_l0_be (v57 : List Nat) (s : Int) : bodyT TT (tabD spec_l02Finite_tab) (tabM spec_l02Finite_tab) (spec_l02Finite_LO v57) 0 spec_l02Finite_l0_kill spec_l02Finite_l0_nx (bodyOf Try.f131 0) 0 (spec_l02Finite_l0_E v57 s) = (spec_l02Finite_l0_T v57 s).bind fun y => .leaf (outS (spec_l02Finite_l0_E v57) (spec_l02Finite_l0_X v57) y) := by kernel_rfl
theorem spec_l02Finite_l0_ok (v57 : List Nat) : LSound Try.prog 0 (spec_l02Finite_LO v57) 0 (bodyOf Try.f131 0) := by
  intro e L out h
  exact lo_ok (E := spec_l02Finite_l0_E v57) (gT := spec_l02Finite_l0_T v57) (X := spec_l02Finite_l0_X v57) (s0 := (gI (vAt e 3))) tok spec_l02Finite_hO mixed (LoopsOk_eq (l := []) (by kernel_rfl) trivial) (spec_l02Finite_l0_be v57) rfl (by intro x; (cases x with | inl b => rfl | inr x => exact rfl)) h
noncomputable def spec_l02Finite_T (v57 : List Nat) : Tree (Bool) :=
  (.need (some (spec_l02Finite_l0_E v57 (0 : Int)) = some (spec_l02Finite_l0_E v57 (0 : Int))) <|
  (.call (spec_l02Finite_l0_g v57 (0 : Int)) fun v62 =>
  (.sum v62 (fun v63 =>
   .leaf false
  ) (fun v64 =>
   .leaf true
  ))))

noncomputable def spec_l02Finite_g (v57 : List Nat) : Option (Bool) := (spec_l02Finite_T v57).run
def spec_l02Finite_enc (v57 : List Nat) (y : Bool) : Rs := (.bool y, [])
theorem spec_l02Finite_den (v57 : List Nat) : (den TT (tabD spec_l02Finite_tab) (tabM spec_l02Finite_tab) (spec_l02Finite_LO v57) (codeOf Try.f131) ([.bslc (BR.root 0) (.f32 v57)] ++ List.replicate (Try.f131.ntmps - ([.bslc (BR.root 0) (.f32 v57)] : List DV).length) .undef) []).bind (retD TT Try.f131.results.toList 0) = (spec_l02Finite_T v57).bind fun y => .leaf (spec_l02Finite_enc v57 y) := by kernel_rfl
theorem spec_l02Finite_fn (v57 : List Nat) (F : Fr) (hm : F.ids.length = 0) (h0 : St F [] F.H0) (hA : DVs.Ok F [] [.bslc (BR.root 0) (.f32 v57)]) {y : Bool} (hy : spec_l02Finite_g v57 = some y) : ∃ H', FnOk Try.prog 131 (DVs.av F [.bslc (BR.root 0) (.f32 v57)]) F.H0 ((spec_l02Finite_enc v57 y).1.av F) H' ∧ St F (spec_l02Finite_enc v57 y).2 H' ∧ (spec_l02Finite_enc v57 y).1.Ok F (spec_l02Finite_enc v57 y).2 :=
  fn_fin tok spec_l02Finite_hO mixed Try.func131 Try.call131 (by kernel_rfl) (LoopsOk_eq (l := [(0, bodyOf Try.f131 0)]) (by kernel_rfl) ⟨spec_l02Finite_l0_ok v57, trivial⟩) (spec_l02Finite_den v57) hy hm h0 hA
noncomputable def spec_l02Finite_F : DFn := fun args L =>
  match args with
  | [a1] =>
    optT (rowF32 L a1) fun v57 =>
    .call (spec_l02Finite_g v57) fun y => .leaf (.bool y, L)
  | _ => .fail
theorem spec_l02Finite_Fok : COk Try.prog 131 spec_l02Finite_F true := by
  intro F L H args r L' hs ha hr
  unfold spec_l02Finite_F at hr
  split at hr
  · rename_i a1
    obtain ⟨v57, hv57, hr⟩ := optT_run hr
    simp only [Tree.run] at hr
    obtain ⟨y, hy, hr⟩ := Option.bind_eq_some_iff.1 hr
    simp only [Tree.run, Option.some.injEq, Prod.mk.injEq] at hr
    obtain ⟨rfl, rfl⟩ := hr
    exact call_ok0 hs (fun k => (([a1.av F] : List AV)[k]?).getD .top) [a1] [.bslc (BR.root 0) (.f32 v57)] (fun F' h0 hi hρ => ⟨by simp [DVs.av, DV.av, BR.av, hρ], spec_l02Finite_fn v57 F' (by rw [hi]; rfl) (st_nil hi) ⟨bslc_ok hi (by rw [h0, hρ]; exact rowF32_ok hs (DVs.okAt ha 0 rfl) hv57), trivial⟩ hy⟩) rfl
  · cases hr
/-! spec.l05Is -/
noncomputable def spec_l05Is_l2_T (v50 : Int) (v51 : List Int) (v52 : List Int) (v91 : Int) (s : Int) : Tree ((Int) ⊕ ((Unit) ⊕ (Unit))) :=
  (.grd (inb (IntKind.i64.wrap (v91 + (1 : Int))) v51.length) <|
  (.br (decide (s < nth v51 (Int.toNat (IntKind.i64.wrap (v91 + (1 : Int)))))) (
   (.grd (inb s v52.length) <|
   (.br (!(spec_l00In_v (nth v52 (Int.toNat s)) (0 : Int) (IntKind.i64.wrap (v50 - (1 : Int))))) (
    .leaf (.inr (.inl ()))
   ) (
    (.grd (inb v91 v51.length) <|
    (.br (decide (nth v51 (Int.toNat v91) < s)) (
     (.grd (inb s v52.length) <|
     (.grd (inb (IntKind.i64.wrap (s - (1 : Int))) v52.length) <|
     (.br (decide (nth v52 (Int.toNat s) ≤ nth v52 (Int.toNat (IntKind.i64.wrap (s - (1 : Int)))))) (
      .leaf (.inr (.inl ()))
     ) (
      .leaf (.inl (IntKind.i64.wrap (s + (1 : Int))))
     ))))
    ) (
     .leaf (.inl (IntKind.i64.wrap (s + (1 : Int))))
    )))
   )))
  ) (
   .leaf (.inr (.inr ()))
  )))

noncomputable def spec_l05Is_l2_g (v50 : Int) (v51 : List Int) (v52 : List Int) (v91 : Int) (s0 : Int) : Option ((Unit) ⊕ (Unit)) := whileM (fun s => (spec_l05Is_l2_T v50 v51 v52 v91 s).run) s0
def spec_l05Is_l2_E (v50 : Int) (v51 : List Int) (v52 : List Int) (v53 : List Nat) (v91 : Int) (s : Int) : Sd := ([.bptr (BR.root 0) [.int .i64 v50, .bslc (BR.root 1) (.i64 v51), .bslc (BR.root 2) (.i64 v52), .bslc (BR.root 3) (.f32 v53)], .top, .top, .int .i64 ((v52.length : Nat) : Int), .int .i64 v91, .int .i64 s, .top, .top, .top, .top, .top, .top, .top, .top, .top, .top, .top, .top, .top, .top, .top, .top, .top, .top, .top, .top, .top, .top, .top, .top, .top, .top, .top, .top, .top, .top, .top, .top, .top, .top, .top, .top, .top, .top, .top, .top, .top, .top, .top, .top, .top, .top, .top, .top, .top, .top, .top, .top, .top, .top, .top, .top, .top, .top, .top, .top, .top, .top, .top, .top, .top, .top, .top, .top, .top, .top, .top, .top, .top, .top, .top, .top, .top, .top, .top, .top, .top, .top, .top, .top, .top, .top, .top, .top, .top, .top, .top, .top, .top, .top, .top, .top, .top, .top, .top, .top, .top, .top, .top, .top, .top, .top, .top, .top, .top, .top, .top, .top, .top, .top, .top, .top, .top, .top, .top, .top, .top, .top, .top, .top, .top, .top, .top, .top, .top, .top, .top, .top, .top, .top, .top, .top, .top, .top, .top, .top, .top, .top, .top, .top, .top, .top, .top, .top, .top, .top, .top, .top, .top, .top, .top, .top, .top, .top, .top, .top, .top, .top, .top, .top], [])
def spec_l05Is_l2_X (v50 : Int) (v51 : List Int) (v52 : List Int) (v53 : List Nat) (v91 : Int) (x : (Unit) ⊕ (Unit)) : Out := (match x with | .inl x => (.ret, [.top, .top, .lit false, .top, .top, .top, .top, .top, .top, .top, .top, .top, .top, .top, .top, .top, .top, .top, .top, .top, .top, .top, .top, .top, .top, .top, .top, .top, .top, .top, .top, .top, .top, .top, .top, .top, .top, .top, .top, .top, .top, .top, .top, .top, .top, .top, .top, .top, .top, .top, .top, .top, .top, .top, .top, .top, .top, .top, .top, .top, .top, .top, .top, .top, .top, .top, .top, .top, .top, .top, .top, .top, .top, .top, .top, .top, .top, .top, .top, .top, .top, .top, .top, .top, .top, .top, .top, .top, .top, .top, .top, .top, .top, .top, .top, .top, .top, .top, .top, .top, .top, .top, .top, .top, .top, .top, .top, .top, .top, .top, .top, .top, .top, .top, .top, .top, .top, .top, .top, .top, .top, .top, .top, .top, .top, .top, .top, .top, .top, .top, .top, .top, .top, .top, .top, .top, .top, .top, .top, .top, .top, .top, .top, .top, .top, .top, .top, .top, .top, .top, .top, .top, .top, .top, .top, .top, .top, .top, .top, .top, .top, .top, .top, .top, .top, .top, .top, .top, .top, .top], []) | .inr x => (.normal, [.bptr (BR.root 0) [.int .i64 v50, .bslc (BR.root 1) (.i64 v51), .bslc (BR.root 2) (.i64 v52), .bslc (BR.root 3) (.f32 v53)], .top, .top, .int .i64 ((v52.length : Nat) : Int), .int .i64 v91, .top, .top, .top, .top, .top, .top, .top, .top, .top, .top, .top, .top, .top, .top, .top, .top, .top, .top, .top, .top, .top, .top, .top, .top, .top, .top, .top, .top, .top, .top, .top, .top, .top, .top, .top, .top, .top, .top, .top, .top, .top, .top, .top, .top, .top, .top, .top, .top, .top, .top, .top, .top, .top, .top, .top, .top, .top, .top, .top, .top, .top, .top, .top, .top, .top, .top, .top, .top, .top, .top, .top, .top, .top, .top, .top, .top, .top, .top, .top, .top, .top, .top, .top, .top, .top, .top, .top, .top, .top, .top, .top, .top, .top, .top, .top, .top, .top, .top, .top, .top, .top, .top, .top, .top, .top, .top, .top, .top, .top, .top, .top, .top, .top, .top, .top, .top, .top, .top, .top, .top, .top, .top, .top, .top, .top, .top, .top, .top, .top, .top, .top, .top, .top, .top, .top, .top, .top, .top, .top, .top, .top, .top, .top, .top, .top, .top, .top, .top, .top, .top, .top, .top, .top, .top, .top, .top, .top, .top, .top, .top, .top, .top, .top, .top, .top], []))
def spec_l05Is_l2_kill : List Nat := [0, 1, 1, 0, 0, 0, 1, 1, 1, 1, 1, 1, 1, 1, 1, 1, 1, 1, 1, 1, 1, 1, 1, 1, 1, 1, 1, 1, 1, 1, 1, 1, 1, 1, 1, 1, 1, 1, 1, 1, 1, 1, 1, 1, 1, 1, 1, 1, 1, 1, 1, 1, 1, 1, 1, 1, 1, 1, 1, 1, 1, 1, 1, 1, 1, 1, 1, 1, 1, 1, 1, 1, 1, 1, 1, 1, 1, 1, 1, 1, 1, 1, 1, 1, 1, 1, 1, 1, 1, 1, 1, 1, 1, 1, 1, 1, 1, 1, 1, 1, 1, 1, 1, 1, 1, 1, 1, 1, 1, 1, 1, 1, 1, 1, 1, 1, 1, 1, 1, 1, 1, 1, 1, 1, 1, 1, 1, 1, 1, 1, 1, 1, 1, 1, 1, 1, 1, 1, 1, 1, 1, 1, 1, 1, 1, 1, 1, 1, 1, 1, 1, 1, 1, 1, 1, 1, 1, 1, 1, 1, 1, 1, 1, 1, 1, 1, 1, 1, 1, 1]
def spec_l05Is_l2_nx : Exit → List Nat
  | .exit 0 => [1, 1, 1, 1, 1, 1, 1, 1, 1, 1, 1, 1, 1, 1, 1, 1, 1, 1, 1, 1, 1, 1, 1, 1, 1, 1, 1, 1, 1, 1, 1, 1, 1, 1, 1, 1, 1, 1, 1, 1, 1, 1, 1, 1, 1, 1, 1, 1, 1, 1, 1, 1, 1, 1, 1, 1, 1, 1, 1, 1, 1, 1, 1, 1, 1, 1, 1, 1, 1, 1, 1, 1, 1, 1, 1, 1, 1, 1, 1, 1, 1, 1, 1, 1, 1, 1, 1, 1, 1, 1, 1, 1, 1, 1, 1, 1, 1, 1, 1, 1, 1, 1, 1, 1, 1, 1, 1, 1, 1, 1, 1, 1, 1, 1, 1, 1, 1, 1, 1, 1, 1, 1, 1, 1, 1, 1, 1, 1, 1, 1, 1, 1, 1, 1, 1, 1, 1, 1, 1, 1, 1, 1, 1, 1, 1, 1, 1, 1, 1, 1, 1, 1, 1, 1, 1, 1, 1, 1, 1, 1, 1, 1, 1, 1, 1, 1, 1, 1, 1, 1]
  | .exit 1 => [0, 1, 1, 0, 0, 1, 1, 1, 1, 1, 1, 1, 1, 1, 1, 1, 1, 1, 1, 1, 1, 1, 1, 1, 1, 1, 1, 1, 1, 1, 1, 1, 1, 1, 1, 1, 1, 1, 1, 1, 1, 1, 1, 1, 1, 1, 1, 1, 1, 1, 1, 1, 1, 1, 1, 1, 1, 1, 1, 1, 1, 1, 1, 1, 1, 1, 1, 1, 1, 1, 1, 1, 1, 1, 1, 1, 1, 1, 1, 1, 1, 1, 1, 1, 1, 1, 1, 1, 1, 1, 1, 1, 1, 1, 1, 1, 1, 1, 1, 1, 1, 1, 1, 1, 1, 1, 1, 1, 1, 1, 1, 1, 1, 1, 1, 1, 1, 1, 1, 1, 1, 1, 1, 1, 1, 1, 1, 1, 1, 1, 1, 1, 1, 1, 1, 1, 1, 1, 1, 1, 1, 1, 1, 1, 1, 1, 1, 1, 1, 1, 1, 1, 1, 1, 1, 1, 1, 1, 1, 1, 1, 1, 1, 1, 1, 1, 1, 1, 1, 1]
  | .exit 2 => [0, 1, 1, 0, 0, 1, 1, 1, 1, 1, 1, 1, 1, 1, 1, 1, 1, 1, 1, 1, 1, 1, 1, 1, 1, 1, 1, 1, 1, 1, 1, 1, 1, 1, 1, 1, 1, 1, 1, 1, 1, 1, 1, 1, 1, 1, 1, 1, 1, 1, 1, 1, 1, 1, 1, 1, 1, 1, 1, 1, 1, 1, 1, 1, 1, 1, 1, 1, 1, 1, 1, 1, 1, 1, 1, 1, 1, 1, 1, 1, 1, 1, 1, 1, 1, 1, 1, 1, 1, 1, 1, 1, 1, 1, 1, 1, 1, 1, 1, 1, 1, 1, 1, 1, 1, 1, 1, 1, 1, 1, 1, 1, 1, 1, 1, 1, 1, 1, 1, 1, 1, 1, 1, 1, 1, 1, 1, 1, 1, 1, 1, 1, 1, 1, 1, 1, 1, 1, 1, 1, 1, 1, 1, 1, 1, 1, 1, 1, 1, 1, 1, 1, 1, 1, 1, 1, 1, 1, 1, 1, 1, 1, 1, 1, 1, 1, 1, 1, 1, 1]
  | .ret => [1, 1, 0, 1, 1, 1, 1, 1, 1, 1, 1, 1, 1, 1, 1, 1, 1, 1, 1, 1, 1, 1, 1, 1, 1, 1, 1, 1, 1, 1, 1, 1, 1, 1, 1, 1, 1, 1, 1, 1, 1, 1, 1, 1, 1, 1, 1, 1, 1, 1, 1, 1, 1, 1, 1, 1, 1, 1, 1, 1, 1, 1, 1, 1, 1, 1, 1, 1, 1, 1, 1, 1, 1, 1, 1, 1, 1, 1, 1, 1, 1, 1, 1, 1, 1, 1, 1, 1, 1, 1, 1, 1, 1, 1, 1, 1, 1, 1, 1, 1, 1, 1, 1, 1, 1, 1, 1, 1, 1, 1, 1, 1, 1, 1, 1, 1, 1, 1, 1, 1, 1, 1, 1, 1, 1, 1, 1, 1, 1, 1, 1, 1, 1, 1, 1, 1, 1, 1, 1, 1, 1, 1, 1, 1, 1, 1, 1, 1, 1, 1, 1, 1, 1, 1, 1, 1, 1, 1, 1, 1, 1, 1, 1, 1, 1, 1, 1, 1, 1, 1]
  | _ => []
noncomputable def spec_l05Is_l0_T (v50 : Int) (v51 : List Int) (v52 : List Int) (v53 : List Nat) (s : Int) : Tree ((Int) ⊕ ((Unit) ⊕ (Unit))) :=
  (.br (decide (s < v50)) (
   (.grd (inb (IntKind.i64.wrap (s + (1 : Int))) v51.length) <|
   (.grd (inb s v51.length) <|
   (.br (decide (nth v51 (Int.toNat (IntKind.i64.wrap (s + (1 : Int)))) < nth v51 (Int.toNat s))) (
    .leaf (.inr (.inl ()))
   ) (
    (.grd (inb (IntKind.i64.wrap (s + (1 : Int))) v51.length) <|
    (.br (decide (((v52.length : Nat) : Int) < nth v51 (Int.toNat (IntKind.i64.wrap (s + (1 : Int)))))) (
     .leaf (.inr (.inl ()))
    ) (
     (.grd (inb s v51.length) <|
     (.need (some (spec_l05Is_l2_E v50 v51 v52 v53 s (nth v51 (Int.toNat s))) = some (spec_l05Is_l2_E v50 v51 v52 v53 s (nth v51 (Int.toNat s)))) <|
     (.call (spec_l05Is_l2_g v50 v51 v52 s (nth v51 (Int.toNat s))) fun v93 =>
     (.sum v93 (fun v94 =>
      .leaf (.inr (.inl ()))
     ) (fun v95 =>
      .leaf (.inl (IntKind.i64.wrap (s + (1 : Int))))
     )))))
    )))
   ))))
  ) (
   .leaf (.inr (.inr ()))
  ))

noncomputable def spec_l05Is_l0_g (v50 : Int) (v51 : List Int) (v52 : List Int) (v53 : List Nat) (s0 : Int) : Option ((Unit) ⊕ (Unit)) := whileM (fun s => (spec_l05Is_l0_T v50 v51 v52 v53 s).run) s0
def spec_l05Is_l0_E (v50 : Int) (v51 : List Int) (v52 : List Int) (v53 : List Nat) (s : Int) : Sd := ([.bptr (BR.root 0) [.int .i64 v50, .bslc (BR.root 1) (.i64 v51), .bslc (BR.root 2) (.i64 v52), .bslc (BR.root 3) (.f32 v53)], .top, .top, .int .i64 ((v52.length : Nat) : Int), .int .i64 s, .top, .top, .top, .top, .top, .top, .top, .top, .top, .top, .top, .top, .top, .top, .top, .top, .top, .top, .top, .top, .top, .top, .top, .top, .top, .top, .top, .top, .top, .top, .top, .top, .top, .top, .top, .top, .top, .top, .top, .top, .top, .top, .top, .top, .top, .top, .top, .top, .top, .top, .top, .top, .top, .top, .top, .top, .top, .top, .top, .top, .top, .top, .top, .top, .top, .top, .top, .top, .top, .top, .top, .top, .top, .top, .top, .top, .top, .top, .top, .top, .top, .top, .top, .top, .top, .top, .top, .top, .top, .top, .top, .top, .top, .top, .top, .top, .top, .top, .top, .top, .top, .top, .top, .top, .top, .top, .top, .top, .top, .top, .top, .top, .top, .top, .top, .top, .top, .top, .top, .top, .top, .top, .top, .top, .top, .top, .top, .top, .top, .top, .top, .top, .top, .top, .top, .top, .top, .top, .top, .top, .top, .top, .top, .top, .top, .top, .top, .top, .top, .top, .top, .top, .top, .top, .top, .top, .top, .top, .top, .top, .top, .top, .top, .top, .top], [])
def spec_l05Is_l0_X (v50 : Int) (v51 : List Int) (v52 : List Int) (v53 : List Nat) (x : (Unit) ⊕ (Unit)) : Out := (match x with | .inl x => (.ret, [.top, .top, .lit false, .top, .top, .top, .top, .top, .top, .top, .top, .top, .top, .top, .top, .top, .top, .top, .top, .top, .top, .top, .top, .top, .top, .top, .top, .top, .top, .top, .top, .top, .top, .top, .top, .top, .top, .top, .top, .top, .top, .top, .top, .top, .top, .top, .top, .top, .top, .top, .top, .top, .top, .top, .top, .top, .top, .top, .top, .top, .top, .top, .top, .top, .top, .top, .top, .top, .top, .top, .top, .top, .top, .top, .top, .top, .top, .top, .top, .top, .top, .top, .top, .top, .top, .top, .top, .top, .top, .top, .top, .top, .top, .top, .top, .top, .top, .top, .top, .top, .top, .top, .top, .top, .top, .top, .top, .top, .top, .top, .top, .top, .top, .top, .top, .top, .top, .top, .top, .top, .top, .top, .top, .top, .top, .top, .top, .top, .top, .top, .top, .top, .top, .top, .top, .top, .top, .top, .top, .top, .top, .top, .top, .top, .top, .top, .top, .top, .top, .top, .top, .top, .top, .top, .top, .top, .top, .top, .top, .top, .top, .top, .top, .top, .top, .top, .top, .top, .top, .top], []) | .inr x => (.normal, [.top, .top, .top, .top, .top, .top, .top, .top, .top, .top, .top, .top, .top, .top, .top, .top, .top, .top, .top, .top, .top, .top, .top, .top, .top, .top, .top, .top, .top, .top, .top, .top, .top, .top, .top, .top, .top, .top, .top, .top, .top, .top, .top, .top, .top, .top, .top, .top, .top, .top, .top, .top, .top, .top, .top, .top, .top, .top, .top, .top, .top, .top, .top, .top, .top, .top, .top, .top, .top, .top, .top, .top, .top, .top, .top, .top, .top, .top, .top, .top, .top, .top, .top, .top, .top, .top, .top, .top, .top, .top, .top, .top, .top, .top, .top, .top, .top, .top, .top, .top, .top, .top, .top, .top, .top, .top, .top, .top, .top, .top, .top, .top, .top, .top, .top, .top, .top, .top, .top, .top, .top, .top, .top, .top, .top, .top, .top, .top, .top, .top, .top, .top, .top, .top, .top, .top, .top, .top, .top, .top, .top, .top, .top, .top, .top, .top, .top, .top, .top, .top, .top, .top, .top, .top, .top, .top, .top, .top, .top, .top, .top, .top, .top, .top, .top, .top, .top, .top, .top, .top], []))
def spec_l05Is_l0_kill : List Nat := [0, 1, 1, 0, 0, 1, 1, 1, 1, 1, 1, 1, 1, 1, 1, 1, 1, 1, 1, 1, 1, 1, 1, 1, 1, 1, 1, 1, 1, 1, 1, 1, 1, 1, 1, 1, 1, 1, 1, 1, 1, 1, 1, 1, 1, 1, 1, 1, 1, 1, 1, 1, 1, 1, 1, 1, 1, 1, 1, 1, 1, 1, 1, 1, 1, 1, 1, 1, 1, 1, 1, 1, 1, 1, 1, 1, 1, 1, 1, 1, 1, 1, 1, 1, 1, 1, 1, 1, 1, 1, 1, 1, 1, 1, 1, 1, 1, 1, 1, 1, 1, 1, 1, 1, 1, 1, 1, 1, 1, 1, 1, 1, 1, 1, 1, 1, 1, 1, 1, 1, 1, 1, 1, 1, 1, 1, 1, 1, 1, 1, 1, 1, 1, 1, 1, 1, 1, 1, 1, 1, 1, 1, 1, 1, 1, 1, 1, 1, 1, 1, 1, 1, 1, 1, 1, 1, 1, 1, 1, 1, 1, 1, 1, 1, 1, 1, 1, 1, 1, 1]
def spec_l05Is_l0_nx : Exit → List Nat
  | .exit 0 => [1, 1, 1, 1, 1, 1, 1, 1, 1, 1, 1, 1, 1, 1, 1, 1, 1, 1, 1, 1, 1, 1, 1, 1, 1, 1, 1, 1, 1, 1, 1, 1, 1, 1, 1, 1, 1, 1, 1, 1, 1, 1, 1, 1, 1, 1, 1, 1, 1, 1, 1, 1, 1, 1, 1, 1, 1, 1, 1, 1, 1, 1, 1, 1, 1, 1, 1, 1, 1, 1, 1, 1, 1, 1, 1, 1, 1, 1, 1, 1, 1, 1, 1, 1, 1, 1, 1, 1, 1, 1, 1, 1, 1, 1, 1, 1, 1, 1, 1, 1, 1, 1, 1, 1, 1, 1, 1, 1, 1, 1, 1, 1, 1, 1, 1, 1, 1, 1, 1, 1, 1, 1, 1, 1, 1, 1, 1, 1, 1, 1, 1, 1, 1, 1, 1, 1, 1, 1, 1, 1, 1, 1, 1, 1, 1, 1, 1, 1, 1, 1, 1, 1, 1, 1, 1, 1, 1, 1, 1, 1, 1, 1, 1, 1, 1, 1, 1, 1, 1, 1]
  | .ret => [1, 1, 0, 1, 1, 1, 1, 1, 1, 1, 1, 1, 1, 1, 1, 1, 1, 1, 1, 1, 1, 1, 1, 1, 1, 1, 1, 1, 1, 1, 1, 1, 1, 1, 1, 1, 1, 1, 1, 1, 1, 1, 1, 1, 1, 1, 1, 1, 1, 1, 1, 1, 1, 1, 1, 1, 1, 1, 1, 1, 1, 1, 1, 1, 1, 1, 1, 1, 1, 1, 1, 1, 1, 1, 1, 1, 1, 1, 1, 1, 1, 1, 1, 1, 1, 1, 1, 1, 1, 1, 1, 1, 1, 1, 1, 1, 1, 1, 1, 1, 1, 1, 1, 1, 1, 1, 1, 1, 1, 1, 1, 1, 1, 1, 1, 1, 1, 1, 1, 1, 1, 1, 1, 1, 1, 1, 1, 1, 1, 1, 1, 1, 1, 1, 1, 1, 1, 1, 1, 1, 1, 1, 1, 1, 1, 1, 1, 1, 1, 1, 1, 1, 1, 1, 1, 1, 1, 1, 1, 1, 1, 1, 1, 1, 1, 1, 1, 1, 1, 1]
  | _ => []
noncomputable def spec_l05Is_LO (v50 : Int) (v51 : List Int) (v52 : List Int) (v53 : List Nat) : LOr := fun id e L =>
  match id with
  | 2 => .need (normA 0 spec_l05Is_l2_kill e L = some (spec_l05Is_l2_E v50 v51 v52 v53 (gI (vAt e 4)) (gI (vAt e 5)))) (.call (spec_l05Is_l2_g v50 v51 v52 (gI (vAt e 4)) (gI (vAt e 5))) fun x => .sum x (fun b0 => .leaf (spec_l05Is_l2_X v50 v51 v52 v53 (gI (vAt e 4)) (.inl b0))) (fun c0 => .leaf (spec_l05Is_l2_X v50 v51 v52 v53 (gI (vAt e 4)) (.inr c0))))
  | 0 => .need (normA 0 spec_l05Is_l0_kill e L = some (spec_l05Is_l0_E v50 v51 v52 v53 (gI (vAt e 4)))) (.call (spec_l05Is_l0_g v50 v51 v52 v53 (gI (vAt e 4))) fun x => .sum x (fun b0 => .leaf (spec_l05Is_l0_X v50 v51 v52 v53 (.inl b0))) (fun c0 => .leaf (spec_l05Is_l0_X v50 v51 v52 v53 (.inr c0))))
  | _ => .fail
noncomputable def spec_l05Is_tab : List (FuncId × DFn × Bool) := [(71, spec_l00In_F, true), (131, spec_l02Finite_F, true)]
theorem spec_l05Is_hO : OrcOk Try.prog (tabD spec_l05Is_tab) (tabM spec_l05Is_tab) := tabD_cons spec_l00In_Fok (tabD_cons spec_l02Finite_Fok (tabD_nil _))
theorem spec_l05Is_l2_be (v50 : Int) (v51 : List Int) (v52 : List Int) (v53 : List Nat) (v91 : Int) (s : Int) : bodyT TT (tabD spec_l05Is_tab) (tabM spec_l05Is_tab) (spec_l05Is_LO v50 v51 v52 v53) 0 spec_l05Is_l2_kill spec_l05Is_l2_nx (bodyOf Try.f130 2) 2 (spec_l05Is_l2_E v50 v51 v52 v53 v91 s) = (spec_l05Is_l2_T v50 v51 v52 v91 s).bind fun y => .leaf (outS (spec_l05Is_l2_E v50 v51 v52 v53 v91) (spec_l05Is_l2_X v50 v51 v52 v53 v91) y) := by kernel_rfl
theorem spec_l05Is_l2_ok (v50 : Int) (v51 : List Int) (v52 : List Int) (v53 : List Nat) : LSound Try.prog 0 (spec_l05Is_LO v50 v51 v52 v53) 2 (bodyOf Try.f130 2) := by
  intro e L out h
  exact lo_ok (E := spec_l05Is_l2_E v50 v51 v52 v53 (gI (vAt e 4))) (gT := spec_l05Is_l2_T v50 v51 v52 (gI (vAt e 4))) (X := spec_l05Is_l2_X v50 v51 v52 v53 (gI (vAt e 4))) (s0 := (gI (vAt e 5))) tok spec_l05Is_hO mixed (LoopsOk_eq (l := []) (by kernel_rfl) trivial) (spec_l05Is_l2_be v50 v51 v52 v53 (gI (vAt e 4))) rfl (by intro x; (cases x with | inl b => rfl | inr x => exact rfl)) h
theorem spec_l05Is_l0_be (v50 : Int) (v51 : List Int) (v52 : List Int) (v53 : List Nat) (s : Int) : bodyT TT (tabD spec_l05Is_tab) (tabM spec_l05Is_tab) (spec_l05Is_LO v50 v51 v52 v53) 0 spec_l05Is_l0_kill spec_l05Is_l0_nx (bodyOf Try.f130 0) 0 (spec_l05Is_l0_E v50 v51 v52 v53 s) = (spec_l05Is_l0_T v50 v51 v52 v53 s).bind fun y => .leaf (outS (spec_l05Is_l0_E v50 v51 v52 v53) (spec_l05Is_l0_X v50 v51 v52 v53) y) := by kernel_rfl
theorem spec_l05Is_l0_ok (v50 : Int) (v51 : List Int) (v52 : List Int) (v53 : List Nat) : LSound Try.prog 0 (spec_l05Is_LO v50 v51 v52 v53) 0 (bodyOf Try.f130 0) := by
  intro e L out h
  exact lo_ok (E := spec_l05Is_l0_E v50 v51 v52 v53) (gT := spec_l05Is_l0_T v50 v51 v52 v53) (X := spec_l05Is_l0_X v50 v51 v52 v53) (s0 := (gI (vAt e 4))) tok spec_l05Is_hO mixed (LoopsOk_eq (l := [(2, bodyOf Try.f130 2)]) (by kernel_rfl) ⟨spec_l05Is_l2_ok v50 v51 v52 v53, trivial⟩) (spec_l05Is_l0_be v50 v51 v52 v53) rfl (by intro x; (cases x with | inl b => rfl | inr x => exact rfl)) h
noncomputable def spec_l05Is_T (v50 : Int) (v51 : List Int) (v52 : List Int) (v53 : List Nat) : Tree (Bool) :=
  (.br (!(spec_l00In_v v50 (1 : Int) (32 : Int))) (
   .leaf false
  ) (
   (.br (!decide (((v51.length : Nat) : Int) = IntKind.i64.wrap (v50 + (1 : Int)))) (
    .leaf false
   ) (
    (.br (decide ((512 : Int) < ((v52.length : Nat) : Int))) (
     .leaf false
    ) (
     (.br (!decide (((v53.length : Nat) : Int) = ((v52.length : Nat) : Int))) (
      .leaf false
     ) (
      (.call (spec_l02Finite_g v53) fun v65 =>
      (.br (!v65) (
       .leaf false
      ) (
       (.grd (inb (0 : Int) v51.length) <|
       (.br (!decide (nth v51 (Int.toNat (0 : Int)) = (0 : Int))) (
        .leaf false
       ) (
        (.grd (inb v50 v51.length) <|
        (.br (!decide (nth v51 (Int.toNat v50) = ((v52.length : Nat) : Int))) (
         .leaf false
        ) (
         (.need (some (spec_l05Is_l0_E v50 v51 v52 v53 (0 : Int)) = some (spec_l05Is_l0_E v50 v51 v52 v53 (0 : Int))) <|
         (.call (spec_l05Is_l0_g v50 v51 v52 v53 (0 : Int)) fun v96 =>
         (.sum v96 (fun v97 =>
          .leaf false
         ) (fun v98 =>
          .leaf true
         ))))
        )))
       )))
      )))
     ))
    ))
   ))
  ))

noncomputable def spec_l05Is_g (v50 : Int) (v51 : List Int) (v52 : List Int) (v53 : List Nat) : Option (Bool) := (spec_l05Is_T v50 v51 v52 v53).run
def spec_l05Is_enc (v50 : Int) (v51 : List Int) (v52 : List Int) (v53 : List Nat) (y : Bool) : Rs := (.bool y, [])
theorem spec_l05Is_den (v50 : Int) (v51 : List Int) (v52 : List Int) (v53 : List Nat) : (den TT (tabD spec_l05Is_tab) (tabM spec_l05Is_tab) (spec_l05Is_LO v50 v51 v52 v53) (codeOf Try.f130) ([.bptr (BR.root 0) [.int .i64 v50, .bslc (BR.root 1) (.i64 v51), .bslc (BR.root 2) (.i64 v52), .bslc (BR.root 3) (.f32 v53)]] ++ List.replicate (Try.f130.ntmps - ([.bptr (BR.root 0) [.int .i64 v50, .bslc (BR.root 1) (.i64 v51), .bslc (BR.root 2) (.i64 v52), .bslc (BR.root 3) (.f32 v53)]] : List DV).length) .undef) []).bind (retD TT Try.f130.results.toList 0) = (spec_l05Is_T v50 v51 v52 v53).bind fun y => .leaf (spec_l05Is_enc v50 v51 v52 v53 y) := by kernel_rfl
theorem spec_l05Is_fn (v50 : Int) (v51 : List Int) (v52 : List Int) (v53 : List Nat) (F : Fr) (hm : F.ids.length = 0) (h0 : St F [] F.H0) (hA : DVs.Ok F [] [.bptr (BR.root 0) [.int .i64 v50, .bslc (BR.root 1) (.i64 v51), .bslc (BR.root 2) (.i64 v52), .bslc (BR.root 3) (.f32 v53)]]) {y : Bool} (hy : spec_l05Is_g v50 v51 v52 v53 = some y) : ∃ H', FnOk Try.prog 130 (DVs.av F [.bptr (BR.root 0) [.int .i64 v50, .bslc (BR.root 1) (.i64 v51), .bslc (BR.root 2) (.i64 v52), .bslc (BR.root 3) (.f32 v53)]]) F.H0 ((spec_l05Is_enc v50 v51 v52 v53 y).1.av F) H' ∧ St F (spec_l05Is_enc v50 v51 v52 v53 y).2 H' ∧ (spec_l05Is_enc v50 v51 v52 v53 y).1.Ok F (spec_l05Is_enc v50 v51 v52 v53 y).2 :=
  fn_fin tok spec_l05Is_hO mixed Try.func130 Try.call130 (by kernel_rfl) (LoopsOk_eq (l := [(0, bodyOf Try.f130 0)]) (by kernel_rfl) ⟨spec_l05Is_l0_ok v50 v51 v52 v53, trivial⟩) (spec_l05Is_den v50 v51 v52 v53) hy hm h0 hA
noncomputable def spec_l05Is_F : DFn := fun args L =>
  match args with
  | [a1] =>
    optT (cellsOf L 4 a1) fun cs0 =>
    (match cs0 with
    | [.int .i64 v50, a2, a3, a4] =>
    optT (rowI64 L a2) fun v51 =>
    optT (rowI64 L a3) fun v52 =>
    optT (rowF32 L a4) fun v53 =>
    .call (spec_l05Is_g v50 v51 v52 v53) fun y => .leaf (.bool y, L)
    | _ => .fail)
  | _ => .fail
theorem spec_l05Is_Fok : COk Try.prog 130 spec_l05Is_F true := by
  intro F L H args r L' hs ha hr
  unfold spec_l05Is_F at hr
  split at hr
  · rename_i a1
    obtain ⟨cs0, hcp0, hr⟩ := optT_run hr
    split at hr
    · rename_i v50 a2 a3 a4
      obtain ⟨v51, hv51, hr⟩ := optT_run hr
      obtain ⟨v52, hv52, hr⟩ := optT_run hr
      obtain ⟨v53, hv53, hr⟩ := optT_run hr
      simp only [Tree.run] at hr
      obtain ⟨y, hy, hr⟩ := Option.bind_eq_some_iff.1 hr
      simp only [Tree.run, Option.some.injEq, Prod.mk.injEq] at hr
      obtain ⟨rfl, rfl⟩ := hr
      exact call_ok0 hs (fun k => (([a1.av F, a2.av F, a3.av F, a4.av F] : List AV)[k]?).getD .top) [a1] [.bptr (BR.root 0) [.int .i64 v50, .bslc (BR.root 1) (.i64 v51), .bslc (BR.root 2) (.i64 v52), .bslc (BR.root 3) (.f32 v53)]] (fun F' h0 hi hρ => ⟨by simp [DVs.av, DV.av, BR.av, hρ], spec_l05Is_fn v50 v51 v52 v53 F' (by rw [hi]; rfl) (st_nil hi) ⟨bptr_ok hi (by rw [h0]; simpa [DVs.av, DV.av, BR.av, hρ] using (cellsOf_ok hs (DVs.okAt ha 0 rfl) hcp0).1) ⟨trivial, bslc_ok hi (by rw [h0, hρ]; exact rowI64_ok hs (DVs.okAt (cellsOf_ok hs (DVs.okAt ha 0 rfl) hcp0).2 1 rfl) hv51), bslc_ok hi (by rw [h0, hρ]; exact rowI64_ok hs (DVs.okAt (cellsOf_ok hs (DVs.okAt ha 0 rfl) hcp0).2 2 rfl) hv52), bslc_ok hi (by rw [h0, hρ]; exact rowF32_ok hs (DVs.okAt (cellsOf_ok hs (DVs.okAt ha 0 rfl) hcp0).2 3 rfl) hv53), trivial⟩, trivial⟩ hy⟩) rfl
    · cases hr
  · cases hr
/-! spec.l05Fits -/
noncomputable def spec_l05Fits_LO (v45 : Int) (v46 : List Int) (v47 : List Int) (v48 : List Nat) (v49 : List Nat) : LOr := fun id e L =>
  match id with
  | _ => .fail
noncomputable def spec_l05Fits_tab : List (FuncId × DFn × Bool) := [(130, spec_l05Is_F, true), (131, spec_l02Finite_F, true)]
theorem spec_l05Fits_hO : OrcOk Try.prog (tabD spec_l05Fits_tab) (tabM spec_l05Fits_tab) := tabD_cons spec_l05Is_Fok (tabD_cons spec_l02Finite_Fok (tabD_nil _))
noncomputable def spec_l05Fits_T (v45 : Int) (v46 : List Int) (v47 : List Int) (v48 : List Nat) (v49 : List Nat) : Tree (Bool) :=
  (.call (spec_l05Is_g v45 v46 v47 v48) fun v99 =>
  (.br v99 (
   (.br (decide (((v49.length : Nat) : Int) = v45)) (
    (.call (spec_l02Finite_g v49) fun v100 =>
    .leaf v100)
   ) (
    .leaf false
   ))
  ) (
   .leaf false
  )))

noncomputable def spec_l05Fits_g (v45 : Int) (v46 : List Int) (v47 : List Int) (v48 : List Nat) (v49 : List Nat) : Option (Bool) := (spec_l05Fits_T v45 v46 v47 v48 v49).run
def spec_l05Fits_enc (v45 : Int) (v46 : List Int) (v47 : List Int) (v48 : List Nat) (v49 : List Nat) (y : Bool) : Rs := (.bool y, [])
theorem spec_l05Fits_den (v45 : Int) (v46 : List Int) (v47 : List Int) (v48 : List Nat) (v49 : List Nat) : (den TT (tabD spec_l05Fits_tab) (tabM spec_l05Fits_tab) (spec_l05Fits_LO v45 v46 v47 v48 v49) (codeOf Try.f65) ([.bptr (BR.root 0) [.int .i64 v45, .bslc (BR.root 1) (.i64 v46), .bslc (BR.root 2) (.i64 v47), .bslc (BR.root 3) (.f32 v48)], .bslc (BR.root 4) (.f32 v49)] ++ List.replicate (Try.f65.ntmps - ([.bptr (BR.root 0) [.int .i64 v45, .bslc (BR.root 1) (.i64 v46), .bslc (BR.root 2) (.i64 v47), .bslc (BR.root 3) (.f32 v48)], .bslc (BR.root 4) (.f32 v49)] : List DV).length) .undef) []).bind (retD TT Try.f65.results.toList 0) = (spec_l05Fits_T v45 v46 v47 v48 v49).bind fun y => .leaf (spec_l05Fits_enc v45 v46 v47 v48 v49 y) := by kernel_rfl
theorem spec_l05Fits_fn (v45 : Int) (v46 : List Int) (v47 : List Int) (v48 : List Nat) (v49 : List Nat) (F : Fr) (hm : F.ids.length = 0) (h0 : St F [] F.H0) (hA : DVs.Ok F [] [.bptr (BR.root 0) [.int .i64 v45, .bslc (BR.root 1) (.i64 v46), .bslc (BR.root 2) (.i64 v47), .bslc (BR.root 3) (.f32 v48)], .bslc (BR.root 4) (.f32 v49)]) {y : Bool} (hy : spec_l05Fits_g v45 v46 v47 v48 v49 = some y) : ∃ H', FnOk Try.prog 65 (DVs.av F [.bptr (BR.root 0) [.int .i64 v45, .bslc (BR.root 1) (.i64 v46), .bslc (BR.root 2) (.i64 v47), .bslc (BR.root 3) (.f32 v48)], .bslc (BR.root 4) (.f32 v49)]) F.H0 ((spec_l05Fits_enc v45 v46 v47 v48 v49 y).1.av F) H' ∧ St F (spec_l05Fits_enc v45 v46 v47 v48 v49 y).2 H' ∧ (spec_l05Fits_enc v45 v46 v47 v48 v49 y).1.Ok F (spec_l05Fits_enc v45 v46 v47 v48 v49 y).2 :=
  fn_fin tok spec_l05Fits_hO mixed Try.func65 Try.call65 (by kernel_rfl) (LoopsOk_eq (l := []) (by kernel_rfl) trivial) (spec_l05Fits_den v45 v46 v47 v48 v49) hy hm h0 hA
noncomputable def spec_l05Fits_F : DFn := fun args L =>
  match args with
  | [a1, a5] =>
    optT (cellsOf L 4 a1) fun cs0 =>
    (match cs0 with
    | [.int .i64 v45, a2, a3, a4] =>
    optT (rowI64 L a2) fun v46 =>
    optT (rowI64 L a3) fun v47 =>
    optT (rowF32 L a4) fun v48 =>
    optT (rowF32 L a5) fun v49 =>
    .call (spec_l05Fits_g v45 v46 v47 v48 v49) fun y => .leaf (.bool y, L)
    | _ => .fail)
  | _ => .fail
theorem spec_l05Fits_Fok : COk Try.prog 65 spec_l05Fits_F true := by
  intro F L H args r L' hs ha hr
  unfold spec_l05Fits_F at hr
  split at hr
  · rename_i a1 a5
    obtain ⟨cs0, hcp0, hr⟩ := optT_run hr
    split at hr
    · rename_i v45 a2 a3 a4
      obtain ⟨v46, hv46, hr⟩ := optT_run hr
      obtain ⟨v47, hv47, hr⟩ := optT_run hr
      obtain ⟨v48, hv48, hr⟩ := optT_run hr
      obtain ⟨v49, hv49, hr⟩ := optT_run hr
      simp only [Tree.run] at hr
      obtain ⟨y, hy, hr⟩ := Option.bind_eq_some_iff.1 hr
      simp only [Tree.run, Option.some.injEq, Prod.mk.injEq] at hr
      obtain ⟨rfl, rfl⟩ := hr
      exact call_ok0 hs (fun k => (([a1.av F, a2.av F, a3.av F, a4.av F, a5.av F] : List AV)[k]?).getD .top) [a1, a5] [.bptr (BR.root 0) [.int .i64 v45, .bslc (BR.root 1) (.i64 v46), .bslc (BR.root 2) (.i64 v47), .bslc (BR.root 3) (.f32 v48)], .bslc (BR.root 4) (.f32 v49)] (fun F' h0 hi hρ => ⟨by simp [DVs.av, DV.av, BR.av, hρ], spec_l05Fits_fn v45 v46 v47 v48 v49 F' (by rw [hi]; rfl) (st_nil hi) ⟨bptr_ok hi (by rw [h0]; simpa [DVs.av, DV.av, BR.av, hρ] using (cellsOf_ok hs (DVs.okAt ha 0 rfl) hcp0).1) ⟨trivial, bslc_ok hi (by rw [h0, hρ]; exact rowI64_ok hs (DVs.okAt (cellsOf_ok hs (DVs.okAt ha 0 rfl) hcp0).2 1 rfl) hv46), bslc_ok hi (by rw [h0, hρ]; exact rowI64_ok hs (DVs.okAt (cellsOf_ok hs (DVs.okAt ha 0 rfl) hcp0).2 2 rfl) hv47), bslc_ok hi (by rw [h0, hρ]; exact rowF32_ok hs (DVs.okAt (cellsOf_ok hs (DVs.okAt ha 0 rfl) hcp0).2 3 rfl) hv48), trivial⟩, bslc_ok hi (by rw [h0, hρ]; exact rowF32_ok hs (DVs.okAt ha 1 rfl) hv49), trivial⟩ hy⟩) rfl
    · cases hr
  · cases hr
/-! spec.l05Times -/
noncomputable def spec_l05Times_l2_T (v103 : List Int) (v104 : List Int) (v105 : List Nat) (v106 : List Nat) (v143 : Int) (v146 : List Nat) (s : Nat × Int) : Tree ((Nat × Int) ⊕ (Nat)) :=
  (.grd (inb (IntKind.i64.wrap (v143 + (1 : Int))) v103.length) <|
  (.br (decide (s.2 < nth v103 (Int.toNat (IntKind.i64.wrap (v143 + (1 : Int)))))) (
   (.grd (inb s.2 v105.length) <|
   (.grd (inb s.2 v104.length) <|
   (.grd (inb (nth v104 (Int.toNat s.2)) v106.length) <|
   .leaf (.inl (fadd .f32 s.1 (fmul .f32 (nth v105 (Int.toNat s.2)) (nth v106 (Int.toNat (nth v104 (Int.toNat s.2))))), IntKind.i64.wrap (s.2 + (1 : Int)))))))
  ) (
   .leaf (.inr s.1)
  )))

noncomputable def spec_l05Times_l2_g (v103 : List Int) (v104 : List Int) (v105 : List Nat) (v106 : List Nat) (v143 : Int) (v146 : List Nat) (s0 : Nat × Int) : Option (Nat) := whileM (fun s => (spec_l05Times_l2_T v103 v104 v105 v106 v143 v146 s).run) s0
def spec_l05Times_l2_E (v102 : Int) (v103 : List Int) (v104 : List Int) (v105 : List Nat) (v106 : List Nat) (v143 : Int) (v146 : List Nat) (s : Nat × Int) : Sd := ([.bptr (BR.root 0) [.int .i64 v102, .bslc (BR.root 1) (.i64 v103), .bslc (BR.root 2) (.i64 v104), .bslc (BR.root 3) (.f32 v105)], .bslc (BR.root 4) (.f32 v106), .top, .top, .top, .own 0 0 ((v146).length), .int .i64 v143, .flt .f32 s.1, .int .i64 s.2, .top, .top, .top, .top, .top, .top, .top, .top, .top, .top, .top, .top, .top, .top, .top, .top, .top, .top, .top, .top, .top, .top, .top, .top, .top, .top, .top, .top, .top, .top, .top, .top, .top, .top, .top, .top, .top, .top, .top, .top, .top, .top, .top, .top, .top, .top, .top, .top, .top, .top, .top, .top, .top], [.row (.f32 v146) 0])
def spec_l05Times_l2_X (v102 : Int) (v103 : List Int) (v104 : List Int) (v105 : List Nat) (v106 : List Nat) (v143 : Int) (v146 : List Nat) (x : Nat) : Out := (.normal, [.bptr (BR.root 0) [.int .i64 v102, .bslc (BR.root 1) (.i64 v103), .bslc (BR.root 2) (.i64 v104), .bslc (BR.root 3) (.f32 v105)], .bslc (BR.root 4) (.f32 v106), .top, .top, .top, .own 0 0 ((v146).length), .int .i64 v143, .flt .f32 x, .top, .top, .top, .top, .top, .top, .top, .top, .top, .top, .top, .top, .top, .top, .top, .top, .top, .top, .top, .top, .top, .top, .top, .top, .top, .top, .top, .top, .top, .top, .top, .top, .top, .top, .top, .top, .top, .top, .top, .top, .top, .top, .top, .top, .top, .top, .top, .top, .top, .top, .top, .top, .top, .top], [.row (.f32 v146) 0])
def spec_l05Times_l2_kill : List Nat := [0, 0, 1, 1, 1, 0, 0, 0, 0, 1, 1, 1, 1, 1, 1, 1, 1, 1, 1, 1, 1, 1, 1, 1, 1, 1, 1, 1, 1, 1, 1, 1, 1, 1, 1, 1, 1, 1, 1, 1, 1, 1, 1, 1, 1, 1, 1, 1, 1, 1, 1, 1, 1, 1, 1, 1, 1, 1, 1, 1, 1, 1]
def spec_l05Times_l2_nx : Exit → List Nat
  | .exit 0 => [1, 1, 1, 1, 1, 0, 1, 1, 1, 1, 1, 1, 1, 1, 1, 1, 1, 1, 1, 1, 1, 1, 1, 1, 1, 1, 1, 1, 1, 1, 1, 1, 1, 1, 1, 1, 1, 1, 1, 1, 1, 1, 1, 1, 1, 1, 1, 1, 1, 1, 1, 1, 1, 1, 1, 1, 1, 1, 1, 1, 1, 1]
  | .exit 1 => [0, 0, 1, 1, 1, 0, 0, 1, 1, 1, 1, 1, 1, 1, 1, 1, 1, 1, 1, 1, 1, 1, 1, 1, 1, 1, 1, 1, 1, 1, 1, 1, 1, 1, 1, 1, 1, 1, 1, 1, 1, 1, 1, 1, 1, 1, 1, 1, 1, 1, 1, 1, 1, 1, 1, 1, 1, 1, 1, 1, 1, 1]
  | .exit 2 => [0, 0, 1, 1, 1, 0, 0, 0, 1, 1, 1, 1, 1, 1, 1, 1, 1, 1, 1, 1, 1, 1, 1, 1, 1, 1, 1, 1, 1, 1, 1, 1, 1, 1, 1, 1, 1, 1, 1, 1, 1, 1, 1, 1, 1, 1, 1, 1, 1, 1, 1, 1, 1, 1, 1, 1, 1, 1, 1, 1, 1, 1]
  | .ret => [1, 1, 1, 1, 0, 1, 1, 1, 1, 1, 1, 1, 1, 1, 1, 1, 1, 1, 1, 1, 1, 1, 1, 1, 1, 1, 1, 1, 1, 1, 1, 1, 1, 1, 1, 1, 1, 1, 1, 1, 1, 1, 1, 1, 1, 1, 1, 1, 1, 1, 1, 1, 1, 1, 1, 1, 1, 1, 1, 1, 1, 1]
  | _ => []
noncomputable def spec_l05Times_l0_T (v102 : Int) (v103 : List Int) (v104 : List Int) (v105 : List Nat) (v106 : List Nat) (s : Int × (List Nat)) : Tree ((Int × (List Nat)) ⊕ ((List Nat))) :=
  (.br (decide (s.1 < v102)) (
   (.grd (inb s.1 v103.length) <|
   (.need (some (spec_l05Times_l2_E v102 v103 v104 v105 v106 s.1 s.2 ((0 : Nat), nth v103 (Int.toNat s.1))) = some (spec_l05Times_l2_E v102 v103 v104 v105 v106 s.1 s.2 ((0 : Nat), nth v103 (Int.toNat s.1)))) <|
   (.call (spec_l05Times_l2_g v103 v104 v105 v106 s.1 s.2 ((0 : Nat), nth v103 (Int.toNat s.1))) fun v147 =>
   (.grd (fits (s.2 ++ ([v147] : List Nat)).length) <|
   .leaf (.inl (IntKind.i64.wrap (s.1 + (1 : Int)), s.2 ++ ([v147] : List Nat)))))))
  ) (
   .leaf (.inr s.2)
  ))

noncomputable def spec_l05Times_l0_g (v102 : Int) (v103 : List Int) (v104 : List Int) (v105 : List Nat) (v106 : List Nat) (s0 : Int × (List Nat)) : Option ((List Nat)) := whileM (fun s => (spec_l05Times_l0_T v102 v103 v104 v105 v106 s).run) s0
def spec_l05Times_l0_E (v102 : Int) (v103 : List Int) (v104 : List Int) (v105 : List Nat) (v106 : List Nat) (s : Int × (List Nat)) : Sd := ([.bptr (BR.root 0) [.int .i64 v102, .bslc (BR.root 1) (.i64 v103), .bslc (BR.root 2) (.i64 v104), .bslc (BR.root 3) (.f32 v105)], .bslc (BR.root 4) (.f32 v106), .top, .top, .top, .own 0 0 ((s.2).length), .int .i64 s.1, .top, .top, .top, .top, .top, .top, .top, .top, .top, .top, .top, .top, .top, .top, .top, .top, .top, .top, .top, .top, .top, .top, .top, .top, .top, .top, .top, .top, .top, .top, .top, .top, .top, .top, .top, .top, .top, .top, .top, .top, .top, .top, .top, .top, .top, .top, .top, .top, .top, .top, .top, .top, .top, .top, .top], [.row (.f32 s.2) 0])
def spec_l05Times_l0_X (v102 : Int) (v103 : List Int) (v104 : List Int) (v105 : List Nat) (v106 : List Nat) (x : (List Nat)) : Out := (.normal, [.top, .top, .top, .top, .top, .own 0 0 ((x).length), .top, .top, .top, .top, .top, .top, .top, .top, .top, .top, .top, .top, .top, .top, .top, .top, .top, .top, .top, .top, .top, .top, .top, .top, .top, .top, .top, .top, .top, .top, .top, .top, .top, .top, .top, .top, .top, .top, .top, .top, .top, .top, .top, .top, .top, .top, .top, .top, .top, .top, .top, .top, .top, .top, .top, .top], [.row (.f32 x) 0])
def spec_l05Times_l0_kill : List Nat := [0, 0, 1, 1, 1, 0, 0, 1, 1, 1, 1, 1, 1, 1, 1, 1, 1, 1, 1, 1, 1, 1, 1, 1, 1, 1, 1, 1, 1, 1, 1, 1, 1, 1, 1, 1, 1, 1, 1, 1, 1, 1, 1, 1, 1, 1, 1, 1, 1, 1, 1, 1, 1, 1, 1, 1, 1, 1, 1, 1, 1, 1]
def spec_l05Times_l0_nx : Exit → List Nat
  | .exit 0 => [1, 1, 1, 1, 1, 0, 1, 1, 1, 1, 1, 1, 1, 1, 1, 1, 1, 1, 1, 1, 1, 1, 1, 1, 1, 1, 1, 1, 1, 1, 1, 1, 1, 1, 1, 1, 1, 1, 1, 1, 1, 1, 1, 1, 1, 1, 1, 1, 1, 1, 1, 1, 1, 1, 1, 1, 1, 1, 1, 1, 1, 1]
  | .ret => [1, 1, 1, 1, 0, 1, 1, 1, 1, 1, 1, 1, 1, 1, 1, 1, 1, 1, 1, 1, 1, 1, 1, 1, 1, 1, 1, 1, 1, 1, 1, 1, 1, 1, 1, 1, 1, 1, 1, 1, 1, 1, 1, 1, 1, 1, 1, 1, 1, 1, 1, 1, 1, 1, 1, 1, 1, 1, 1, 1, 1, 1]
  | _ => []
noncomputable def spec_l05Times_LO (v102 : Int) (v103 : List Int) (v104 : List Int) (v105 : List Nat) (v106 : List Nat) : LOr := fun id e L =>
  match id with
  | 2 => .need (normA 0 spec_l05Times_l2_kill e L = some (spec_l05Times_l2_E v102 v103 v104 v105 v106 (gI (vAt e 6)) (gRF L (vAt e 5)) ((gF (vAt e 7)), (gI (vAt e 8))))) (.call (spec_l05Times_l2_g v103 v104 v105 v106 (gI (vAt e 6)) (gRF L (vAt e 5)) ((gF (vAt e 7)), (gI (vAt e 8)))) fun x => .leaf (spec_l05Times_l2_X v102 v103 v104 v105 v106 (gI (vAt e 6)) (gRF L (vAt e 5)) x))
  | 0 => .need (normA 0 spec_l05Times_l0_kill e L = some (spec_l05Times_l0_E v102 v103 v104 v105 v106 ((gI (vAt e 6)), (gRF L (vAt e 5))))) (.call (spec_l05Times_l0_g v102 v103 v104 v105 v106 ((gI (vAt e 6)), (gRF L (vAt e 5)))) fun x => .leaf (spec_l05Times_l0_X v102 v103 v104 v105 v106 x))
  | _ => .fail
noncomputable def spec_l05Times_tab : List (FuncId × DFn × Bool) := []
theorem spec_l05Times_hO : OrcOk Try.prog (tabD spec_l05Times_tab) (tabM spec_l05Times_tab) := tabD_nil _
theorem spec_l05Times_l2_be (v102 : Int) (v103 : List Int) (v104 : List Int) (v105 : List Nat) (v106 : List Nat) (v143 : Int) (v146 : List Nat) (s : Nat × Int) : bodyT TT (tabD spec_l05Times_tab) (tabM spec_l05Times_tab) (spec_l05Times_LO v102 v103 v104 v105 v106) 0 spec_l05Times_l2_kill spec_l05Times_l2_nx (bodyOf Try.f67 2) 2 (spec_l05Times_l2_E v102 v103 v104 v105 v106 v143 v146 s) = (spec_l05Times_l2_T v103 v104 v105 v106 v143 v146 s).bind fun y => .leaf (outS (spec_l05Times_l2_E v102 v103 v104 v105 v106 v143 v146) (spec_l05Times_l2_X v102 v103 v104 v105 v106 v143 v146) y) := by kernel_rfl
theorem spec_l05Times_l2_ok (v102 : Int) (v103 : List Int) (v104 : List Int) (v105 : List Nat) (v106 : List Nat) : LSound Try.prog 0 (spec_l05Times_LO v102 v103 v104 v105 v106) 2 (bodyOf Try.f67 2) := by
  intro e L out h
  exact lo_ok (E := spec_l05Times_l2_E v102 v103 v104 v105 v106 (gI (vAt e 6)) (gRF L (vAt e 5))) (gT := spec_l05Times_l2_T v103 v104 v105 v106 (gI (vAt e 6)) (gRF L (vAt e 5))) (X := spec_l05Times_l2_X v102 v103 v104 v105 v106 (gI (vAt e 6)) (gRF L (vAt e 5))) (s0 := ((gF (vAt e 7)), (gI (vAt e 8)))) tok spec_l05Times_hO mixed (LoopsOk_eq (l := []) (by kernel_rfl) trivial) (spec_l05Times_l2_be v102 v103 v104 v105 v106 (gI (vAt e 6)) (gRF L (vAt e 5))) rfl (by intro x; rfl) h
theorem spec_l05Times_l0_be (v102 : Int) (v103 : List Int) (v104 : List Int) (v105 : List Nat) (v106 : List Nat) (s : Int × (List Nat)) : bodyT TT (tabD spec_l05Times_tab) (tabM spec_l05Times_tab) (spec_l05Times_LO v102 v103 v104 v105 v106) 0 spec_l05Times_l0_kill spec_l05Times_l0_nx (bodyOf Try.f67 0) 0 (spec_l05Times_l0_E v102 v103 v104 v105 v106 s) = (spec_l05Times_l0_T v102 v103 v104 v105 v106 s).bind fun y => .leaf (outS (spec_l05Times_l0_E v102 v103 v104 v105 v106) (spec_l05Times_l0_X v102 v103 v104 v105 v106) y) := by kernel_rfl
theorem spec_l05Times_l0_ok (v102 : Int) (v103 : List Int) (v104 : List Int) (v105 : List Nat) (v106 : List Nat) : LSound Try.prog 0 (spec_l05Times_LO v102 v103 v104 v105 v106) 0 (bodyOf Try.f67 0) := by
  intro e L out h
  exact lo_ok (E := spec_l05Times_l0_E v102 v103 v104 v105 v106) (gT := spec_l05Times_l0_T v102 v103 v104 v105 v106) (X := spec_l05Times_l0_X v102 v103 v104 v105 v106) (s0 := ((gI (vAt e 6)), (gRF L (vAt e 5)))) tok spec_l05Times_hO mixed (LoopsOk_eq (l := [(2, bodyOf Try.f67 2)]) (by kernel_rfl) ⟨spec_l05Times_l2_ok v102 v103 v104 v105 v106, trivial⟩) (spec_l05Times_l0_be v102 v103 v104 v105 v106) rfl (by intro x; rfl) h
noncomputable def spec_l05Times_T (v102 : Int) (v103 : List Int) (v104 : List Int) (v105 : List Nat) (v106 : List Nat) : Tree ((List Nat)) :=
  (.need (some (spec_l05Times_l0_E v102 v103 v104 v105 v106 ((0 : Int), ([] : List Nat))) = some (spec_l05Times_l0_E v102 v103 v104 v105 v106 ((0 : Int), ([] : List Nat)))) <|
  (.call (spec_l05Times_l0_g v102 v103 v104 v105 v106 ((0 : Int), ([] : List Nat))) fun v148 =>
  .leaf v148))

noncomputable def spec_l05Times_g (v102 : Int) (v103 : List Int) (v104 : List Int) (v105 : List Nat) (v106 : List Nat) : Option ((List Nat)) := (spec_l05Times_T v102 v103 v104 v105 v106).run
def spec_l05Times_enc (v102 : Int) (v103 : List Int) (v104 : List Int) (v105 : List Nat) (v106 : List Nat) (y : (List Nat)) : Rs := (.own 0 0 ((y).length), [.row (.f32 y) 0])
theorem spec_l05Times_den (v102 : Int) (v103 : List Int) (v104 : List Int) (v105 : List Nat) (v106 : List Nat) : (den TT (tabD spec_l05Times_tab) (tabM spec_l05Times_tab) (spec_l05Times_LO v102 v103 v104 v105 v106) (codeOf Try.f67) ([.bptr (BR.root 0) [.int .i64 v102, .bslc (BR.root 1) (.i64 v103), .bslc (BR.root 2) (.i64 v104), .bslc (BR.root 3) (.f32 v105)], .bslc (BR.root 4) (.f32 v106)] ++ List.replicate (Try.f67.ntmps - ([.bptr (BR.root 0) [.int .i64 v102, .bslc (BR.root 1) (.i64 v103), .bslc (BR.root 2) (.i64 v104), .bslc (BR.root 3) (.f32 v105)], .bslc (BR.root 4) (.f32 v106)] : List DV).length) .undef) []).bind (retD TT Try.f67.results.toList 0) = (spec_l05Times_T v102 v103 v104 v105 v106).bind fun y => .leaf (spec_l05Times_enc v102 v103 v104 v105 v106 y) := by kernel_rfl
theorem spec_l05Times_fn (v102 : Int) (v103 : List Int) (v104 : List Int) (v105 : List Nat) (v106 : List Nat) (F : Fr) (hm : F.ids.length = 0) (h0 : St F [] F.H0) (hA : DVs.Ok F [] [.bptr (BR.root 0) [.int .i64 v102, .bslc (BR.root 1) (.i64 v103), .bslc (BR.root 2) (.i64 v104), .bslc (BR.root 3) (.f32 v105)], .bslc (BR.root 4) (.f32 v106)]) {y : (List Nat)} (hy : spec_l05Times_g v102 v103 v104 v105 v106 = some y) : ∃ H', FnOk Try.prog 67 (DVs.av F [.bptr (BR.root 0) [.int .i64 v102, .bslc (BR.root 1) (.i64 v103), .bslc (BR.root 2) (.i64 v104), .bslc (BR.root 3) (.f32 v105)], .bslc (BR.root 4) (.f32 v106)]) F.H0 ((spec_l05Times_enc v102 v103 v104 v105 v106 y).1.av F) H' ∧ St F (spec_l05Times_enc v102 v103 v104 v105 v106 y).2 H' ∧ (spec_l05Times_enc v102 v103 v104 v105 v106 y).1.Ok F (spec_l05Times_enc v102 v103 v104 v105 v106 y).2 :=
  fn_fin tok spec_l05Times_hO mixed Try.func67 Try.call67 (by kernel_rfl) (LoopsOk_eq (l := [(0, bodyOf Try.f67 0)]) (by kernel_rfl) ⟨spec_l05Times_l0_ok v102 v103 v104 v105 v106, trivial⟩) (spec_l05Times_den v102 v103 v104 v105 v106) hy hm h0 hA
noncomputable def spec_l05Times_F : DFn := fun args L =>
  match args with
  | [a1, a5] =>
    optT (cellsOf L 4 a1) fun cs0 =>
    (match cs0 with
    | [.int .i64 v102, a2, a3, a4] =>
    optT (rowI64 L a2) fun v103 =>
    optT (rowI64 L a3) fun v104 =>
    optT (rowF32 L a4) fun v105 =>
    optT (rowF32 L a5) fun v106 =>
    .call (spec_l05Times_g v102 v103 v104 v105 v106) fun y => .leaf (.own (L.length + 0) 0 ((y).length), L ++ [.row (.f32 y) 0])
    | _ => .fail)
  | _ => .fail
theorem spec_l05Times_Fok : COk Try.prog 67 spec_l05Times_F true := by
  intro F L H args r L' hs ha hr
  unfold spec_l05Times_F at hr
  split at hr
  · rename_i a1 a5
    obtain ⟨cs0, hcp0, hr⟩ := optT_run hr
    split at hr
    · rename_i v102 a2 a3 a4
      obtain ⟨v103, hv103, hr⟩ := optT_run hr
      obtain ⟨v104, hv104, hr⟩ := optT_run hr
      obtain ⟨v105, hv105, hr⟩ := optT_run hr
      obtain ⟨v106, hv106, hr⟩ := optT_run hr
      simp only [Tree.run] at hr
      obtain ⟨y, hy, hr⟩ := Option.bind_eq_some_iff.1 hr
      simp only [Tree.run, Option.some.injEq, Prod.mk.injEq] at hr
      obtain ⟨rfl, rfl⟩ := hr
      exact call_ok1 hs (fun k => (([a1.av F, a2.av F, a3.av F, a4.av F, a5.av F] : List AV)[k]?).getD .top) [a1, a5] [.bptr (BR.root 0) [.int .i64 v102, .bslc (BR.root 1) (.i64 v103), .bslc (BR.root 2) (.i64 v104), .bslc (BR.root 3) (.f32 v105)], .bslc (BR.root 4) (.f32 v106)] (fun F' h0 hi hρ => ⟨by simp [DVs.av, DV.av, BR.av, hρ], spec_l05Times_fn v102 v103 v104 v105 v106 F' (by rw [hi]; rfl) (st_nil hi) ⟨bptr_ok hi (by rw [h0]; simpa [DVs.av, DV.av, BR.av, hρ] using (cellsOf_ok hs (DVs.okAt ha 0 rfl) hcp0).1) ⟨trivial, bslc_ok hi (by rw [h0, hρ]; exact rowI64_ok hs (DVs.okAt (cellsOf_ok hs (DVs.okAt ha 0 rfl) hcp0).2 1 rfl) hv103), bslc_ok hi (by rw [h0, hρ]; exact rowI64_ok hs (DVs.okAt (cellsOf_ok hs (DVs.okAt ha 0 rfl) hcp0).2 2 rfl) hv104), bslc_ok hi (by rw [h0, hρ]; exact rowF32_ok hs (DVs.okAt (cellsOf_ok hs (DVs.okAt ha 0 rfl) hcp0).2 3 rfl) hv105), trivial⟩, bslc_ok hi (by rw [h0, hρ]; exact rowF32_ok hs (DVs.okAt ha 1 rfl) hv106), trivial⟩ hy⟩) rfl rfl
    · cases hr
  · cases hr
/-! spec.l02List -/
noncomputable def spec_l02List_LO (v150 : List Nat) : LOr := fun id e L =>
  match id with
  | _ => .fail
noncomputable def spec_l02List_tab : List (FuncId × DFn × Bool) := [(131, spec_l02Finite_F, true)]
theorem spec_l02List_hO : OrcOk Try.prog (tabD spec_l02List_tab) (tabM spec_l02List_tab) := tabD_cons spec_l02Finite_Fok (tabD_nil _)
noncomputable def spec_l02List_T (v150 : List Nat) : Tree ((Unit) ⊕ (Unit)) :=
  (.call (spec_l02Finite_g v150) fun v151 =>
  (.br (!v151) (
   .leaf (.inl ())
  ) (
   .leaf (.inr ())
  )))

noncomputable def spec_l02List_g (v150 : List Nat) : Option ((Unit) ⊕ (Unit)) := (spec_l02List_T v150).run
def spec_l02List_enc (v150 : List Nat) (y : (Unit) ⊕ (Unit)) : Rs := (match y with | .inl y => (.tup [.nilslc, .lit false], []) | .inr y => (.tup [.bslc (BR.root 0) (.f32 v150), .lit true], []))
theorem spec_l02List_den (v150 : List Nat) : (den TT (tabD spec_l02List_tab) (tabM spec_l02List_tab) (spec_l02List_LO v150) (codeOf Try.f66) ([.bslc (BR.root 0) (.f32 v150)] ++ List.replicate (Try.f66.ntmps - ([.bslc (BR.root 0) (.f32 v150)] : List DV).length) .undef) []).bind (retD TT Try.f66.results.toList 0) = (spec_l02List_T v150).bind fun y => .leaf (spec_l02List_enc v150 y) := by kernel_rfl
theorem spec_l02List_fn (v150 : List Nat) (F : Fr) (hm : F.ids.length = 0) (h0 : St F [] F.H0) (hA : DVs.Ok F [] [.bslc (BR.root 0) (.f32 v150)]) {y : (Unit) ⊕ (Unit)} (hy : spec_l02List_g v150 = some y) : ∃ H', FnOk Try.prog 66 (DVs.av F [.bslc (BR.root 0) (.f32 v150)]) F.H0 ((spec_l02List_enc v150 y).1.av F) H' ∧ St F (spec_l02List_enc v150 y).2 H' ∧ (spec_l02List_enc v150 y).1.Ok F (spec_l02List_enc v150 y).2 :=
  fn_fin tok spec_l02List_hO mixed Try.func66 Try.call66 (by kernel_rfl) (LoopsOk_eq (l := []) (by kernel_rfl) trivial) (spec_l02List_den v150) hy hm h0 hA
noncomputable def spec_l02List_F : DFn := fun args L =>
  match args with
  | [a1] =>
    optT (rowF32 L a1) fun v150 =>
    .call (spec_l02List_g v150) fun y => .sum y (fun y0 => .leaf (.tup [.nilslc, .lit false], L)) (fun z0 => .leaf (.tup [a1, .lit true], L))
  | _ => .fail
theorem spec_l02List_Fok : COk Try.prog 66 spec_l02List_F true := by
  intro F L H args r L' hs ha hr
  unfold spec_l02List_F at hr
  split at hr
  · rename_i a1
    obtain ⟨v150, hv150, hr⟩ := optT_run hr
    simp only [Tree.run] at hr
    obtain ⟨y, hy, hr⟩ := Option.bind_eq_some_iff.1 hr
    cases y with
    | inl y =>
      simp only [Tree.run, Option.some.injEq, Prod.mk.injEq] at hr
      obtain ⟨rfl, rfl⟩ := hr
      exact call_ok0 hs (fun k => (([a1.av F] : List AV)[k]?).getD .top) [a1] [.bslc (BR.root 0) (.f32 v150)] (fun F' h0 hi hρ => ⟨by simp [DVs.av, DV.av, BR.av, hρ], spec_l02List_fn v150 F' (by rw [hi]; rfl) (st_nil hi) ⟨bslc_ok hi (by rw [h0, hρ]; exact rowF32_ok hs (DVs.okAt ha 0 rfl) hv150), trivial⟩ hy⟩) rfl
    | inr y =>
      simp only [Tree.run, Option.some.injEq, Prod.mk.injEq] at hr
      obtain ⟨rfl, rfl⟩ := hr
      exact call_al0 hs (fun k => (([a1.av F] : List AV)[k]?).getD .top) [a1] [.bslc (BR.root 0) (.f32 v150)] (fun F' h0 hi hρ => ⟨by simp [DVs.av, DV.av, BR.av, hρ], spec_l02List_fn v150 F' (by rw [hi]; rfl) (st_nil hi) ⟨bslc_ok hi (by rw [h0, hρ]; exact rowF32_ok hs (DVs.okAt ha 0 rfl) hv150), trivial⟩ hy⟩) (fun F' h0 hi hρ => by simp [spec_l02List_enc, DVs.av, DV.av, BR.av, hρ]) ⟨(DVs.okAt ha 0 rfl), trivial, trivial⟩
  · cases hr
/-! spec.SparseShared -/
noncomputable def spec_SparseShared_LO (v39 : Int) (v40 : List Int) (v41 : List Int) (v42 : List Nat) (v43 : List Nat) (v44 : Int) : LOr := fun id e L =>
  match id with
  | _ => .fail
noncomputable def spec_SparseShared_tab : List (FuncId × DFn × Bool) := [(65, spec_l05Fits_F, true), (71, spec_l00In_F, true), (67, spec_l05Times_F, true), (66, spec_l02List_F, true)]
theorem spec_SparseShared_hO : OrcOk Try.prog (tabD spec_SparseShared_tab) (tabM spec_SparseShared_tab) := tabD_cons spec_l05Fits_Fok (tabD_cons spec_l00In_Fok (tabD_cons spec_l05Times_Fok (tabD_cons spec_l02List_Fok (tabD_nil _))))
noncomputable def spec_SparseShared_T (v39 : Int) (v40 : List Int) (v41 : List Int) (v42 : List Nat) (v43 : List Nat) (v44 : Int) : Tree ((Unit) ⊕ ((List Nat))) :=
  (.call (spec_l05Fits_g v39 v40 v41 v42 v43) fun v101 =>
  (.br (!v101) (
   .leaf (.inl ())
  ) (
   (.br (!(spec_l00In_v v44 (1 : Int) (8 : Int))) (
    .leaf (.inl ())
   ) (
    (.call (spec_l05Times_g v39 v40 v41 v42 v43) fun v149 =>
    (.call (spec_l02List_g v149) fun v152 =>
    (.sum v152 (fun v153 =>
     .leaf (.inl ())
    ) (fun v154 =>
     .leaf (.inr v149)
    ))))
   ))
  )))

noncomputable def spec_SparseShared_g (v39 : Int) (v40 : List Int) (v41 : List Int) (v42 : List Nat) (v43 : List Nat) (v44 : Int) : Option ((Unit) ⊕ ((List Nat))) := (spec_SparseShared_T v39 v40 v41 v42 v43 v44).run
def spec_SparseShared_enc (v39 : Int) (v40 : List Int) (v41 : List Int) (v42 : List Nat) (v43 : List Nat) (v44 : Int) (y : (Unit) ⊕ ((List Nat))) : Rs := (match y with | .inl y => (.tup [.nilslc, .lit false], []) | .inr y => (.tup [.own 0 0 ((y).length), .lit true], [.row (.f32 y) 0]))
theorem spec_SparseShared_den (v39 : Int) (v40 : List Int) (v41 : List Int) (v42 : List Nat) (v43 : List Nat) (v44 : Int) : (den TT (tabD spec_SparseShared_tab) (tabM spec_SparseShared_tab) (spec_SparseShared_LO v39 v40 v41 v42 v43 v44) (codeOf Try.f25) ([.agg [.int .i64 v39, .bslc (BR.root 0) (.i64 v40), .bslc (BR.root 1) (.i64 v41), .bslc (BR.root 2) (.f32 v42)], .bslc (BR.root 3) (.f32 v43), .int .i64 v44] ++ List.replicate (Try.f25.ntmps - ([.agg [.int .i64 v39, .bslc (BR.root 0) (.i64 v40), .bslc (BR.root 1) (.i64 v41), .bslc (BR.root 2) (.f32 v42)], .bslc (BR.root 3) (.f32 v43), .int .i64 v44] : List DV).length) .undef) []).bind (retD TT Try.f25.results.toList 0) = (spec_SparseShared_T v39 v40 v41 v42 v43 v44).bind fun y => .leaf (spec_SparseShared_enc v39 v40 v41 v42 v43 v44 y) := by kernel_rfl
theorem spec_SparseShared_fn (v39 : Int) (v40 : List Int) (v41 : List Int) (v42 : List Nat) (v43 : List Nat) (v44 : Int) (F : Fr) (hm : F.ids.length = 0) (h0 : St F [] F.H0) (hA : DVs.Ok F [] [.agg [.int .i64 v39, .bslc (BR.root 0) (.i64 v40), .bslc (BR.root 1) (.i64 v41), .bslc (BR.root 2) (.f32 v42)], .bslc (BR.root 3) (.f32 v43), .int .i64 v44]) {y : (Unit) ⊕ ((List Nat))} (hy : spec_SparseShared_g v39 v40 v41 v42 v43 v44 = some y) : ∃ H', FnOk Try.prog 25 (DVs.av F [.agg [.int .i64 v39, .bslc (BR.root 0) (.i64 v40), .bslc (BR.root 1) (.i64 v41), .bslc (BR.root 2) (.f32 v42)], .bslc (BR.root 3) (.f32 v43), .int .i64 v44]) F.H0 ((spec_SparseShared_enc v39 v40 v41 v42 v43 v44 y).1.av F) H' ∧ St F (spec_SparseShared_enc v39 v40 v41 v42 v43 v44 y).2 H' ∧ (spec_SparseShared_enc v39 v40 v41 v42 v43 v44 y).1.Ok F (spec_SparseShared_enc v39 v40 v41 v42 v43 v44 y).2 :=
  fn_fin tok spec_SparseShared_hO mixed Try.func25 Try.call25 (by kernel_rfl) (LoopsOk_eq (l := []) (by kernel_rfl) trivial) (spec_SparseShared_den v39 v40 v41 v42 v43 v44) hy hm h0 hA
noncomputable def spec_SparseShared_F : DFn := fun args L =>
  match args with
  | [.agg [.int .i64 v39, a1, a2, a3], a4, .int .i64 v44] =>
    optT (rowI64 L a1) fun v40 =>
    optT (rowI64 L a2) fun v41 =>
    optT (rowF32 L a3) fun v42 =>
    optT (rowF32 L a4) fun v43 =>
    .call (spec_SparseShared_g v39 v40 v41 v42 v43 v44) fun y => .sum y (fun y0 => .leaf (.tup [.nilslc, .lit false], L)) (fun z0 => .leaf (.tup [.own (L.length + 0) 0 ((z0).length), .lit true], L ++ [.row (.f32 z0) 0]))
  | _ => .fail
theorem spec_SparseShared_Fok : COk Try.prog 25 spec_SparseShared_F true := by
  intro F L H args r L' hs ha hr
  unfold spec_SparseShared_F at hr
  split at hr
  · rename_i v39 a1 a2 a3 a4 v44
    obtain ⟨v40, hv40, hr⟩ := optT_run hr
    obtain ⟨v41, hv41, hr⟩ := optT_run hr
    obtain ⟨v42, hv42, hr⟩ := optT_run hr
    obtain ⟨v43, hv43, hr⟩ := optT_run hr
    simp only [Tree.run] at hr
    obtain ⟨y, hy, hr⟩ := Option.bind_eq_some_iff.1 hr
    cases y with
    | inl y =>
      simp only [Tree.run, Option.some.injEq, Prod.mk.injEq] at hr
      obtain ⟨rfl, rfl⟩ := hr
      exact call_ok0 hs (fun k => (([a1.av F, a2.av F, a3.av F, a4.av F] : List AV)[k]?).getD .top) [.agg [.int .i64 v39, a1, a2, a3], a4, .int .i64 v44] [.agg [.int .i64 v39, .bslc (BR.root 0) (.i64 v40), .bslc (BR.root 1) (.i64 v41), .bslc (BR.root 2) (.f32 v42)], .bslc (BR.root 3) (.f32 v43), .int .i64 v44] (fun F' h0 hi hρ => ⟨by simp [DVs.av, DV.av, BR.av, hρ], spec_SparseShared_fn v39 v40 v41 v42 v43 v44 F' (by rw [hi]; rfl) (st_nil hi) ⟨⟨trivial, bslc_ok hi (by rw [h0, hρ]; exact rowI64_ok hs (DVs.okAt (DVs.okAt ha 0 rfl) 1 rfl) hv40), bslc_ok hi (by rw [h0, hρ]; exact rowI64_ok hs (DVs.okAt (DVs.okAt ha 0 rfl) 2 rfl) hv41), bslc_ok hi (by rw [h0, hρ]; exact rowF32_ok hs (DVs.okAt (DVs.okAt ha 0 rfl) 3 rfl) hv42), trivial⟩, bslc_ok hi (by rw [h0, hρ]; exact rowF32_ok hs (DVs.okAt ha 1 rfl) hv43), trivial, trivial⟩ hy⟩) rfl
    | inr y =>
      simp only [Tree.run, Option.some.injEq, Prod.mk.injEq] at hr
      obtain ⟨rfl, rfl⟩ := hr
      exact call_ok1 hs (fun k => (([a1.av F, a2.av F, a3.av F, a4.av F] : List AV)[k]?).getD .top) [.agg [.int .i64 v39, a1, a2, a3], a4, .int .i64 v44] [.agg [.int .i64 v39, .bslc (BR.root 0) (.i64 v40), .bslc (BR.root 1) (.i64 v41), .bslc (BR.root 2) (.f32 v42)], .bslc (BR.root 3) (.f32 v43), .int .i64 v44] (fun F' h0 hi hρ => ⟨by simp [DVs.av, DV.av, BR.av, hρ], spec_SparseShared_fn v39 v40 v41 v42 v43 v44 F' (by rw [hi]; rfl) (st_nil hi) ⟨⟨trivial, bslc_ok hi (by rw [h0, hρ]; exact rowI64_ok hs (DVs.okAt (DVs.okAt ha 0 rfl) 1 rfl) hv40), bslc_ok hi (by rw [h0, hρ]; exact rowI64_ok hs (DVs.okAt (DVs.okAt ha 0 rfl) 2 rfl) hv41), bslc_ok hi (by rw [h0, hρ]; exact rowF32_ok hs (DVs.okAt (DVs.okAt ha 0 rfl) 3 rfl) hv42), trivial⟩, bslc_ok hi (by rw [h0, hρ]; exact rowF32_ok hs (DVs.okAt ha 1 rfl) hv43), trivial, trivial⟩ hy⟩) rfl rfl
  · cases hr
/-! impl.inRange -/
noncomputable def impl_inRange_LO (v166 : Int) (v167 : Int) (v168 : Int) : LOr := fun id e L =>
  match id with
  | _ => .fail
noncomputable def impl_inRange_tab : List (FuncId × DFn × Bool) := []
theorem impl_inRange_hO : OrcOk Try.prog (tabD impl_inRange_tab) (tabM impl_inRange_tab) := tabD_nil _
noncomputable def impl_inRange_T (v166 : Int) (v167 : Int) (v168 : Int) : Tree (Bool) :=
  (.br (decide (v167 ≤ v166)) (
   .leaf (decide (v166 ≤ v168))
  ) (
   .leaf false
  ))

noncomputable def impl_inRange_g (v166 : Int) (v167 : Int) (v168 : Int) : Option (Bool) := (impl_inRange_T v166 v167 v168).run
def impl_inRange_enc (v166 : Int) (v167 : Int) (v168 : Int) (y : Bool) : Rs := (.bool y, [])
theorem impl_inRange_den (v166 : Int) (v167 : Int) (v168 : Int) : (den TT (tabD impl_inRange_tab) (tabM impl_inRange_tab) (impl_inRange_LO v166 v167 v168) (codeOf Try.f72) ([.int .i64 v166, .int .i64 v167, .int .i64 v168] ++ List.replicate (Try.f72.ntmps - ([.int .i64 v166, .int .i64 v167, .int .i64 v168] : List DV).length) .undef) []).bind (retD TT Try.f72.results.toList 0) = (impl_inRange_T v166 v167 v168).bind fun y => .leaf (impl_inRange_enc v166 v167 v168 y) := by kernel_rfl
theorem impl_inRange_fn (v166 : Int) (v167 : Int) (v168 : Int) (F : Fr) (hm : F.ids.length = 0) (h0 : St F [] F.H0) (hA : DVs.Ok F [] [.int .i64 v166, .int .i64 v167, .int .i64 v168]) {y : Bool} (hy : impl_inRange_g v166 v167 v168 = some y) : ∃ H', FnOk Try.prog 72 (DVs.av F [.int .i64 v166, .int .i64 v167, .int .i64 v168]) F.H0 ((impl_inRange_enc v166 v167 v168 y).1.av F) H' ∧ St F (impl_inRange_enc v166 v167 v168 y).2 H' ∧ (impl_inRange_enc v166 v167 v168 y).1.Ok F (impl_inRange_enc v166 v167 v168 y).2 :=
  fn_fin tok impl_inRange_hO mixed Try.func72 Try.call72 (by kernel_rfl) (LoopsOk_eq (l := []) (by kernel_rfl) trivial) (impl_inRange_den v166 v167 v168) hy hm h0 hA
def impl_inRange_v (v166 : Int) (v167 : Int) (v168 : Int) : Bool :=
  if (decide (v167 ≤ v166)) = true then (
   decide (v166 ≤ v168)
  ) else (
   false
  )
theorem impl_inRange_tot (v166 : Int) (v167 : Int) (v168 : Int) : impl_inRange_g v166 v167 v168 = some (impl_inRange_v v166 v167 v168) := by
  unfold impl_inRange_g impl_inRange_T impl_inRange_v
  simp only [Tree.run]
  repeat' (first | rfl | split)
noncomputable def impl_inRange_F : DFn := fun args L =>
  match args with
  | [.int .i64 v166, .int .i64 v167, .int .i64 v168] =>
    .leaf (.bool (impl_inRange_v v166 v167 v168), L)
  | _ => .fail
theorem impl_inRange_Fok : COk Try.prog 72 impl_inRange_F true := by
  intro F L H args r L' hs ha hr
  unfold impl_inRange_F at hr
  split at hr
  · rename_i v166 v167 v168
    have hy := impl_inRange_tot v166 v167 v168
    generalize impl_inRange_v v166 v167 v168 = y at hy hr
    simp only [Tree.run, Option.some.injEq, Prod.mk.injEq] at hr
    obtain ⟨rfl, rfl⟩ := hr
    exact call_ok0 hs (fun k => (([] : List AV)[k]?).getD .top) [.int .i64 v166, .int .i64 v167, .int .i64 v168] [.int .i64 v166, .int .i64 v167, .int .i64 v168] (fun F' h0 hi hρ => ⟨by simp [DVs.av, DV.av, BR.av, hρ], impl_inRange_fn v166 v167 v168 F' (by rw [hi]; rfl) (st_nil hi) ⟨trivial, trivial, trivial, trivial⟩ hy⟩) rfl
  · cases hr
/-! impl.length[int64] -/
noncomputable def impl_lengthI_LO (v183 : List Int) : LOr := fun id e L =>
  match id with
  | _ => .fail
noncomputable def impl_lengthI_tab : List (FuncId × DFn × Bool) := []
theorem impl_lengthI_hO : OrcOk Try.prog (tabD impl_lengthI_tab) (tabM impl_lengthI_tab) := tabD_nil _
noncomputable def impl_lengthI_T (v183 : List Int) : Tree (Int) :=
  .leaf ((v183.length : Nat) : Int)

noncomputable def impl_lengthI_g (v183 : List Int) : Option (Int) := (impl_lengthI_T v183).run
def impl_lengthI_enc (v183 : List Int) (y : Int) : Rs := (.int .i64 y, [])
theorem impl_lengthI_den (v183 : List Int) : (den TT (tabD impl_lengthI_tab) (tabM impl_lengthI_tab) (impl_lengthI_LO v183) (codeOf Try.f109) ([.bslc (BR.root 0) (.i64 v183)] ++ List.replicate (Try.f109.ntmps - ([.bslc (BR.root 0) (.i64 v183)] : List DV).length) .undef) []).bind (retD TT Try.f109.results.toList 0) = (impl_lengthI_T v183).bind fun y => .leaf (impl_lengthI_enc v183 y) := by kernel_rfl
theorem impl_lengthI_fn (v183 : List Int) (F : Fr) (hm : F.ids.length = 0) (h0 : St F [] F.H0) (hA : DVs.Ok F [] [.bslc (BR.root 0) (.i64 v183)]) {y : Int} (hy : impl_lengthI_g v183 = some y) : ∃ H', FnOk Try.prog 109 (DVs.av F [.bslc (BR.root 0) (.i64 v183)]) F.H0 ((impl_lengthI_enc v183 y).1.av F) H' ∧ St F (impl_lengthI_enc v183 y).2 H' ∧ (impl_lengthI_enc v183 y).1.Ok F (impl_lengthI_enc v183 y).2 :=
  fn_fin tok impl_lengthI_hO mixed Try.func109 Try.call109 (by kernel_rfl) (LoopsOk_eq (l := []) (by kernel_rfl) trivial) (impl_lengthI_den v183) hy hm h0 hA
def impl_lengthI_v (v183 : List Int) : Int :=
  ((v183.length : Nat) : Int)
theorem impl_lengthI_tot (v183 : List Int) : impl_lengthI_g v183 = some (impl_lengthI_v v183) := by
  unfold impl_lengthI_g impl_lengthI_T impl_lengthI_v
  simp only [Tree.run]
  repeat' (first | rfl | split)
noncomputable def impl_lengthI_F : DFn := fun args L =>
  match args with
  | [a1] =>
    optT (rowI64 L a1) fun v183 =>
    .leaf (.int .i64 (impl_lengthI_v v183), L)
  | _ => .fail
theorem impl_lengthI_Fok : COk Try.prog 109 impl_lengthI_F true := by
  intro F L H args r L' hs ha hr
  unfold impl_lengthI_F at hr
  split at hr
  · rename_i a1
    obtain ⟨v183, hv183, hr⟩ := optT_run hr
    have hy := impl_lengthI_tot v183
    generalize impl_lengthI_v v183 = y at hy hr
    simp only [Tree.run, Option.some.injEq, Prod.mk.injEq] at hr
    obtain ⟨rfl, rfl⟩ := hr
    exact call_ok0 hs (fun k => (([a1.av F] : List AV)[k]?).getD .top) [a1] [.bslc (BR.root 0) (.i64 v183)] (fun F' h0 hi hρ => ⟨by simp [DVs.av, DV.av, BR.av, hρ], impl_lengthI_fn v183 F' (by rw [hi]; rfl) (st_nil hi) ⟨bslc_ok hi (by rw [h0, hρ]; exact rowI64_ok hs (DVs.okAt ha 0 rfl) hv183), trivial⟩ hy⟩) rfl
  · cases hr
/-! cmp.isNaN[int64] -/
noncomputable def cmp_isNaNI_LO (v188 : Int) : LOr := fun id e L =>
  match id with
  | _ => .fail
noncomputable def cmp_isNaNI_tab : List (FuncId × DFn × Bool) := []
theorem cmp_isNaNI_hO : OrcOk Try.prog (tabD cmp_isNaNI_tab) (tabM cmp_isNaNI_tab) := tabD_nil _
noncomputable def cmp_isNaNI_T (v188 : Int) : Tree (Bool) :=
  .leaf (!decide (v188 = v188))

noncomputable def cmp_isNaNI_g (v188 : Int) : Option (Bool) := (cmp_isNaNI_T v188).run
def cmp_isNaNI_enc (v188 : Int) (y : Bool) : Rs := (.bool y, [])
theorem cmp_isNaNI_den (v188 : Int) : (den TT (tabD cmp_isNaNI_tab) (tabM cmp_isNaNI_tab) (cmp_isNaNI_LO v188) (codeOf Try.f184) ([.int .i64 v188] ++ List.replicate (Try.f184.ntmps - ([.int .i64 v188] : List DV).length) .undef) []).bind (retD TT Try.f184.results.toList 0) = (cmp_isNaNI_T v188).bind fun y => .leaf (cmp_isNaNI_enc v188 y) := by kernel_rfl
theorem cmp_isNaNI_fn (v188 : Int) (F : Fr) (hm : F.ids.length = 0) (h0 : St F [] F.H0) (hA : DVs.Ok F [] [.int .i64 v188]) {y : Bool} (hy : cmp_isNaNI_g v188 = some y) : ∃ H', FnOk Try.prog 184 (DVs.av F [.int .i64 v188]) F.H0 ((cmp_isNaNI_enc v188 y).1.av F) H' ∧ St F (cmp_isNaNI_enc v188 y).2 H' ∧ (cmp_isNaNI_enc v188 y).1.Ok F (cmp_isNaNI_enc v188 y).2 :=
  fn_fin tok cmp_isNaNI_hO mixed Try.func184 Try.call184 (by kernel_rfl) (LoopsOk_eq (l := []) (by kernel_rfl) trivial) (cmp_isNaNI_den v188) hy hm h0 hA
def cmp_isNaNI_v (v188 : Int) : Bool :=
  !decide (v188 = v188)
theorem cmp_isNaNI_tot (v188 : Int) : cmp_isNaNI_g v188 = some (cmp_isNaNI_v v188) := by
  unfold cmp_isNaNI_g cmp_isNaNI_T cmp_isNaNI_v
  simp only [Tree.run]
  repeat' (first | rfl | split)
noncomputable def cmp_isNaNI_F : DFn := fun args L =>
  match args with
  | [.int .i64 v188] =>
    .leaf (.bool (cmp_isNaNI_v v188), L)
  | _ => .fail
theorem cmp_isNaNI_Fok : COk Try.prog 184 cmp_isNaNI_F true := by
  intro F L H args r L' hs ha hr
  unfold cmp_isNaNI_F at hr
  split at hr
  · rename_i v188
    have hy := cmp_isNaNI_tot v188
    generalize cmp_isNaNI_v v188 = y at hy hr
    simp only [Tree.run, Option.some.injEq, Prod.mk.injEq] at hr
    obtain ⟨rfl, rfl⟩ := hr
    exact call_ok0 hs (fun k => (([] : List AV)[k]?).getD .top) [.int .i64 v188] [.int .i64 v188] (fun F' h0 hi hρ => ⟨by simp [DVs.av, DV.av, BR.av, hρ], cmp_isNaNI_fn v188 F' (by rw [hi]; rfl) (st_nil hi) ⟨trivial, trivial⟩ hy⟩) rfl
  · cases hr
/-! cmp.Less[int64] -/
noncomputable def cmp_LessI_LO (v186 : Int) (v187 : Int) : LOr := fun id e L =>
  match id with
  | _ => .fail
noncomputable def cmp_LessI_tab : List (FuncId × DFn × Bool) := [(184, cmp_isNaNI_F, true)]
theorem cmp_LessI_hO : OrcOk Try.prog (tabD cmp_LessI_tab) (tabM cmp_LessI_tab) := tabD_cons cmp_isNaNI_Fok (tabD_nil _)
noncomputable def cmp_LessI_T (v186 : Int) (v187 : Int) : Tree (Bool) :=
  (.br (cmp_isNaNI_v v186) (
   (.br (!(cmp_isNaNI_v v187)) (
    .leaf true
   ) (
    .leaf (decide (v186 < v187))
   ))
  ) (
   .leaf (decide (v186 < v187))
  ))

noncomputable def cmp_LessI_g (v186 : Int) (v187 : Int) : Option (Bool) := (cmp_LessI_T v186 v187).run
def cmp_LessI_enc (v186 : Int) (v187 : Int) (y : Bool) : Rs := (.bool y, [])
theorem cmp_LessI_den (v186 : Int) (v187 : Int) : (den TT (tabD cmp_LessI_tab) (tabM cmp_LessI_tab) (cmp_LessI_LO v186 v187) (codeOf Try.f175) ([.int .i64 v186, .int .i64 v187] ++ List.replicate (Try.f175.ntmps - ([.int .i64 v186, .int .i64 v187] : List DV).length) .undef) []).bind (retD TT Try.f175.results.toList 0) = (cmp_LessI_T v186 v187).bind fun y => .leaf (cmp_LessI_enc v186 v187 y) := by kernel_rfl
theorem cmp_LessI_fn (v186 : Int) (v187 : Int) (F : Fr) (hm : F.ids.length = 0) (h0 : St F [] F.H0) (hA : DVs.Ok F [] [.int .i64 v186, .int .i64 v187]) {y : Bool} (hy : cmp_LessI_g v186 v187 = some y) : ∃ H', FnOk Try.prog 175 (DVs.av F [.int .i64 v186, .int .i64 v187]) F.H0 ((cmp_LessI_enc v186 v187 y).1.av F) H' ∧ St F (cmp_LessI_enc v186 v187 y).2 H' ∧ (cmp_LessI_enc v186 v187 y).1.Ok F (cmp_LessI_enc v186 v187 y).2 :=
  fn_fin tok cmp_LessI_hO mixed Try.func175 Try.call175 (by kernel_rfl) (LoopsOk_eq (l := []) (by kernel_rfl) trivial) (cmp_LessI_den v186 v187) hy hm h0 hA
def cmp_LessI_v (v186 : Int) (v187 : Int) : Bool :=
  if (cmp_isNaNI_v v186) = true then (
   if (!(cmp_isNaNI_v v187)) = true then (
    true
   ) else (
    decide (v186 < v187)
   )
  ) else (
   decide (v186 < v187)
  )
theorem cmp_LessI_tot (v186 : Int) (v187 : Int) : cmp_LessI_g v186 v187 = some (cmp_LessI_v v186 v187) := by
  unfold cmp_LessI_g cmp_LessI_T cmp_LessI_v
  simp only [Tree.run]
  repeat' (first | rfl | split)
noncomputable def cmp_LessI_F : DFn := fun args L =>
  match args with
  | [.int .i64 v186, .int .i64 v187] =>
    .leaf (.bool (cmp_LessI_v v186 v187), L)
  | _ => .fail
theorem cmp_LessI_Fok : COk Try.prog 175 cmp_LessI_F true := by
  intro F L H args r L' hs ha hr
  unfold cmp_LessI_F at hr
  split at hr
  · rename_i v186 v187
    have hy := cmp_LessI_tot v186 v187
    generalize cmp_LessI_v v186 v187 = y at hy hr
    simp only [Tree.run, Option.some.injEq, Prod.mk.injEq] at hr
    obtain ⟨rfl, rfl⟩ := hr
    exact call_ok0 hs (fun k => (([] : List AV)[k]?).getD .top) [.int .i64 v186, .int .i64 v187] [.int .i64 v186, .int .i64 v187] (fun F' h0 hi hρ => ⟨by simp [DVs.av, DV.av, BR.av, hρ], cmp_LessI_fn v186 v187 F' (by rw [hi]; rfl) (st_nil hi) ⟨trivial, trivial, trivial⟩ hy⟩) rfl
  · cases hr
/-! slices.IsSorted[list of int64,int64] -/
noncomputable def slices_IsSortedI_l0_T (v184 : List Int) (s : Int) : Tree ((Int) ⊕ ((Unit) ⊕ (Unit))) :=
  (.br (decide ((0 : Int) < s)) (
   (.grd (inb s v184.length) <|
   (.grd (inb (IntKind.i64.wrap (s - (1 : Int))) v184.length) <|
   (.br (cmp_LessI_v (nth v184 (Int.toNat s)) (nth v184 (Int.toNat (IntKind.i64.wrap (s - (1 : Int)))))) (
    .leaf (.inr (.inl ()))
   ) (
    .leaf (.inl (IntKind.i64.wrap (s - (1 : Int))))
   ))))
  ) (
   .leaf (.inr (.inr ()))
  ))

noncomputable def slices_IsSortedI_l0_g (v184 : List Int) (s0 : Int) : Option ((Unit) ⊕ (Unit)) := whileM (fun s => (slices_IsSortedI_l0_T v184 s).run) s0
def slices_IsSortedI_l0_E (v184 : List Int) (s : Int) : Sd := ([.bslc (BR.root 0) (.i64 v184), .top, .top, .int .i64 s, .top, .top, .top, .top, .top, .top, .top, .top, .top, .top, .top, .top, .top, .top, .top, .top, .top], [])
def slices_IsSortedI_l0_X (v184 : List Int) (x : (Unit) ⊕ (Unit)) : Out := (match x with | .inl x => (.ret, [.top, .top, .lit false, .top, .top, .top, .top, .top, .top, .top, .top, .top, .top, .top, .top, .top, .top, .top, .top, .top, .top], []) | .inr x => (.normal, [.top, .top, .top, .top, .top, .top, .top, .top, .top, .top, .top, .top, .top, .top, .top, .top, .top, .top, .top, .top, .top], []))
def slices_IsSortedI_l0_kill : List Nat := [0, 1, 1, 0, 1, 1, 1, 1, 1, 1, 1, 1, 1, 1, 1, 1, 1, 1, 1, 1, 1]
def slices_IsSortedI_l0_nx : Exit → List Nat
  | .exit 0 => [1, 1, 1, 1, 1, 1, 1, 1, 1, 1, 1, 1, 1, 1, 1, 1, 1, 1, 1, 1, 1]
  | .ret => [1, 1, 0, 1, 1, 1, 1, 1, 1, 1, 1, 1, 1, 1, 1, 1, 1, 1, 1, 1, 1]
  | _ => []
noncomputable def slices_IsSortedI_LO (v184 : List Int) : LOr := fun id e L =>
  match id with
  | 0 => .need (normA 0 slices_IsSortedI_l0_kill e L = some (slices_IsSortedI_l0_E v184 (gI (vAt e 3)))) (.call (slices_IsSortedI_l0_g v184 (gI (vAt e 3))) fun x => .sum x (fun b0 => .leaf (slices_IsSortedI_l0_X v184 (.inl b0))) (fun c0 => .leaf (slices_IsSortedI_l0_X v184 (.inr c0))))
  | _ => .fail
noncomputable def slices_IsSortedI_tab : List (FuncId × DFn × Bool) := [(175, cmp_LessI_F, true)]
theorem slices_IsSortedI_hO : OrcOk Try.prog (tabD slices_IsSortedI_tab) (tabM slices_IsSortedI_tab) := tabD_cons cmp_LessI_Fok (tabD_nil _)
theorem slices_IsSortedI_l0_be (v184 : List Int) (s : Int) : bodyT TT (tabD slices_IsSortedI_tab) (tabM slices_IsSortedI_tab) (slices_IsSortedI_LO v184) 0 slices_IsSortedI_l0_kill slices_IsSortedI_l0_nx (bodyOf Try.f162 0) 0 (slices_IsSortedI_l0_E v184 s) = (slices_IsSortedI_l0_T v184 s).bind fun y => .leaf (outS (slices_IsSortedI_l0_E v184) (slices_IsSortedI_l0_X v184) y) := by kernel_rfl
theorem slices_IsSortedI_l0_ok (v184 : List Int) : LSound Try.prog 0 (slices_IsSortedI_LO v184) 0 (bodyOf Try.f162 0) := by
  intro e L out h
  exact lo_ok (E := slices_IsSortedI_l0_E v184) (gT := slices_IsSortedI_l0_T v184) (X := slices_IsSortedI_l0_X v184) (s0 := (gI (vAt e 3))) tok slices_IsSortedI_hO mixed (LoopsOk_eq (l := []) (by kernel_rfl) trivial) (slices_IsSortedI_l0_be v184) rfl (by intro x; (cases x with | inl b => rfl | inr x => exact rfl)) h
noncomputable def slices_IsSortedI_T (v184 : List Int) : Tree (Bool) :=
  (.need (some (slices_IsSortedI_l0_E v184 (IntKind.i64.wrap (((v184.length : Nat) : Int) - (1 : Int)))) = some (slices_IsSortedI_l0_E v184 (IntKind.i64.wrap (((v184.length : Nat) : Int) - (1 : Int))))) <|
  (.call (slices_IsSortedI_l0_g v184 (IntKind.i64.wrap (((v184.length : Nat) : Int) - (1 : Int)))) fun v191 =>
  (.sum v191 (fun v192 =>
   .leaf false
  ) (fun v193 =>
   .leaf true
  ))))

noncomputable def slices_IsSortedI_g (v184 : List Int) : Option (Bool) := (slices_IsSortedI_T v184).run
def slices_IsSortedI_enc (v184 : List Int) (y : Bool) : Rs := (.bool y, [])
theorem slices_IsSortedI_den (v184 : List Int) : (den TT (tabD slices_IsSortedI_tab) (tabM slices_IsSortedI_tab) (slices_IsSortedI_LO v184) (codeOf Try.f162) ([.bslc (BR.root 0) (.i64 v184)] ++ List.replicate (Try.f162.ntmps - ([.bslc (BR.root 0) (.i64 v184)] : List DV).length) .undef) []).bind (retD TT Try.f162.results.toList 0) = (slices_IsSortedI_T v184).bind fun y => .leaf (slices_IsSortedI_enc v184 y) := by kernel_rfl
theorem slices_IsSortedI_fn (v184 : List Int) (F : Fr) (hm : F.ids.length = 0) (h0 : St F [] F.H0) (hA : DVs.Ok F [] [.bslc (BR.root 0) (.i64 v184)]) {y : Bool} (hy : slices_IsSortedI_g v184 = some y) : ∃ H', FnOk Try.prog 162 (DVs.av F [.bslc (BR.root 0) (.i64 v184)]) F.H0 ((slices_IsSortedI_enc v184 y).1.av F) H' ∧ St F (slices_IsSortedI_enc v184 y).2 H' ∧ (slices_IsSortedI_enc v184 y).1.Ok F (slices_IsSortedI_enc v184 y).2 :=
  fn_fin tok slices_IsSortedI_hO mixed Try.func162 Try.call162 (by kernel_rfl) (LoopsOk_eq (l := [(0, bodyOf Try.f162 0)]) (by kernel_rfl) ⟨slices_IsSortedI_l0_ok v184, trivial⟩) (slices_IsSortedI_den v184) hy hm h0 hA
noncomputable def slices_IsSortedI_F : DFn := fun args L =>
  match args with
  | [a1] =>
    optT (rowI64 L a1) fun v184 =>
    .call (slices_IsSortedI_g v184) fun y => .leaf (.bool y, L)
  | _ => .fail
theorem slices_IsSortedI_Fok : COk Try.prog 162 slices_IsSortedI_F true := by
  intro F L H args r L' hs ha hr
  unfold slices_IsSortedI_F at hr
  split at hr
  · rename_i a1
    obtain ⟨v184, hv184, hr⟩ := optT_run hr
    simp only [Tree.run] at hr
    obtain ⟨y, hy, hr⟩ := Option.bind_eq_some_iff.1 hr
    simp only [Tree.run, Option.some.injEq, Prod.mk.injEq] at hr
    obtain ⟨rfl, rfl⟩ := hr
    exact call_ok0 hs (fun k => (([a1.av F] : List AV)[k]?).getD .top) [a1] [.bslc (BR.root 0) (.i64 v184)] (fun F' h0 hi hρ => ⟨by simp [DVs.av, DV.av, BR.av, hρ], slices_IsSortedI_fn v184 F' (by rw [hi]; rfl) (st_nil hi) ⟨bslc_ok hi (by rw [h0, hρ]; exact rowI64_ok hs (DVs.okAt ha 0 rfl) hv184), trivial⟩ hy⟩) rfl
  · cases hr
/-! impl.allIn$1 -/
noncomputable def impl_allIn_1_LO (v205 : Int) (v206 : Int) (v207 : Int) : LOr := fun id e L =>
  match id with
  | _ => .fail
noncomputable def impl_allIn_1_tab : List (FuncId × DFn × Bool) := [(72, impl_inRange_F, true)]
theorem impl_allIn_1_hO : OrcOk Try.prog (tabD impl_allIn_1_tab) (tabM impl_allIn_1_tab) := tabD_cons impl_inRange_Fok (tabD_nil _)
noncomputable def impl_allIn_1_T (v205 : Int) (v206 : Int) (v207 : Int) : Tree (Bool) :=
  .leaf (!(impl_inRange_v v205 v206 v207))

noncomputable def impl_allIn_1_g (v205 : Int) (v206 : Int) (v207 : Int) : Option (Bool) := (impl_allIn_1_T v205 v206 v207).run
def impl_allIn_1_enc (v205 : Int) (v206 : Int) (v207 : Int) (y : Bool) : Rs := (.bool y, [])
theorem impl_allIn_1_den (v205 : Int) (v206 : Int) (v207 : Int) : (den TT (tabD impl_allIn_1_tab) (tabM impl_allIn_1_tab) (impl_allIn_1_LO v205 v206 v207) (codeOf Try.f177) ([.int .i64 v205, .bptr (BR.root 0) [.int .i64 v206], .bptr (BR.root 1) [.int .i64 v207]] ++ List.replicate (Try.f177.ntmps - ([.int .i64 v205, .bptr (BR.root 0) [.int .i64 v206], .bptr (BR.root 1) [.int .i64 v207]] : List DV).length) .undef) []).bind (retD TT Try.f177.results.toList 0) = (impl_allIn_1_T v205 v206 v207).bind fun y => .leaf (impl_allIn_1_enc v205 v206 v207 y) := by kernel_rfl
theorem impl_allIn_1_fn (v205 : Int) (v206 : Int) (v207 : Int) (F : Fr) (hm : F.ids.length = 0) (h0 : St F [] F.H0) (hA : DVs.Ok F [] [.int .i64 v205, .bptr (BR.root 0) [.int .i64 v206], .bptr (BR.root 1) [.int .i64 v207]]) {y : Bool} (hy : impl_allIn_1_g v205 v206 v207 = some y) : ∃ H', FnOk Try.prog 177 (DVs.av F [.int .i64 v205, .bptr (BR.root 0) [.int .i64 v206], .bptr (BR.root 1) [.int .i64 v207]]) F.H0 ((impl_allIn_1_enc v205 v206 v207 y).1.av F) H' ∧ St F (impl_allIn_1_enc v205 v206 v207 y).2 H' ∧ (impl_allIn_1_enc v205 v206 v207 y).1.Ok F (impl_allIn_1_enc v205 v206 v207 y).2 :=
  fn_fin tok impl_allIn_1_hO mixed Try.func177 Try.call177 (by kernel_rfl) (LoopsOk_eq (l := []) (by kernel_rfl) trivial) (impl_allIn_1_den v205 v206 v207) hy hm h0 hA
def impl_allIn_1_v (v205 : Int) (v206 : Int) (v207 : Int) : Bool :=
  !(impl_inRange_v v205 v206 v207)
theorem impl_allIn_1_tot (v205 : Int) (v206 : Int) (v207 : Int) : impl_allIn_1_g v205 v206 v207 = some (impl_allIn_1_v v205 v206 v207) := by
  unfold impl_allIn_1_g impl_allIn_1_T impl_allIn_1_v
  simp only [Tree.run]
  repeat' (first | rfl | split)
noncomputable def impl_allIn_1_F : DFn := fun args L =>
  match args with
  | [.int .i64 v205, a1, a2] =>
    optT (cellsOf L 1 a1) fun cs0 =>
    (match cs0 with
    | [.int .i64 v206] =>
    optT (cellsOf L 1 a2) fun cs1 =>
    (match cs1 with
    | [.int .i64 v207] =>
    .leaf (.bool (impl_allIn_1_v v205 v206 v207), L)
    | _ => .fail)
    | _ => .fail)
  | _ => .fail
theorem impl_allIn_1_Fok : COk Try.prog 177 impl_allIn_1_F true := by
  intro F L H args r L' hs ha hr
  unfold impl_allIn_1_F at hr
  split at hr
  · rename_i v205 a1 a2
    obtain ⟨cs0, hcp0, hr⟩ := optT_run hr
    split at hr
    · rename_i v206
      obtain ⟨cs1, hcp1, hr⟩ := optT_run hr
      split at hr
      · rename_i v207
        have hy := impl_allIn_1_tot v205 v206 v207
        generalize impl_allIn_1_v v205 v206 v207 = y at hy hr
        simp only [Tree.run, Option.some.injEq, Prod.mk.injEq] at hr
        obtain ⟨rfl, rfl⟩ := hr
        exact call_ok0 hs (fun k => (([a1.av F, a2.av F] : List AV)[k]?).getD .top) [.int .i64 v205, a1, a2] [.int .i64 v205, .bptr (BR.root 0) [.int .i64 v206], .bptr (BR.root 1) [.int .i64 v207]] (fun F' h0 hi hρ => ⟨by simp [DVs.av, DV.av, BR.av, hρ], impl_allIn_1_fn v205 v206 v207 F' (by rw [hi]; rfl) (st_nil hi) ⟨trivial, bptr_ok hi (by rw [h0]; simpa [DVs.av, DV.av, BR.av, hρ] using (cellsOf_ok hs (DVs.okAt ha 1 rfl) hcp0).1) ⟨trivial, trivial⟩, bptr_ok hi (by rw [h0]; simpa [DVs.av, DV.av, BR.av, hρ] using (cellsOf_ok hs (DVs.okAt ha 2 rfl) hcp1).1) ⟨trivial, trivial⟩, trivial⟩ hy⟩) rfl
      · cases hr
    · cases hr
  · cases hr
/-! slices.IndexFunc[list of int64,int64] -/
noncomputable def slices_IndexFuncI_l0_T (v201 : List Int) (v202 : Int) (v203 : Int) (s : Int) : Tree ((Int) ⊕ ((Int) ⊕ (Unit))) :=
  (.br (decide (s < ((v201.length : Nat) : Int))) (
   (.grd (inb s v201.length) <|
   (.br (impl_allIn_1_v (nth v201 (Int.toNat s)) v202 v203) (
    .leaf (.inr (.inl s))
   ) (
    .leaf (.inl (IntKind.i64.wrap (s + (1 : Int))))
   )))
  ) (
   .leaf (.inr (.inr ()))
  ))

noncomputable def slices_IndexFuncI_l0_g (v201 : List Int) (v202 : Int) (v203 : Int) (s0 : Int) : Option ((Int) ⊕ (Unit)) := whileM (fun s => (slices_IndexFuncI_l0_T v201 v202 v203 s).run) s0
def slices_IndexFuncI_l0_E (v201 : List Int) (v202 : Int) (v203 : Int) (s : Int) : Sd := ([.bslc (BR.root 0) (.i64 v201), .fn 177 [.bptr (BR.root 1) [.int .i64 v202], .bptr (BR.root 2) [.int .i64 v203]], .top, .top, .top, .top, .top, .int .i64 ((v201.length : Nat) : Int), .int .i64 s, .top, .top, .top, .top, .top, .top, .top, .top, .top, .top], [])
def slices_IndexFuncI_l0_X (v201 : List Int) (v202 : Int) (v203 : Int) (x : (Int) ⊕ (Unit)) : Out := (match x with | .inl x => (.ret, [.top, .top, .top, .top, .int .i64 x, .top, .top, .top, .top, .top, .top, .top, .top, .top, .top, .top, .top, .top, .top], []) | .inr x => (.normal, [.top, .top, .top, .top, .top, .top, .top, .top, .top, .top, .top, .top, .top, .top, .top, .top, .top, .top, .top], []))
def slices_IndexFuncI_l0_kill : List Nat := [0, 0, 1, 1, 1, 1, 1, 0, 0, 1, 1, 1, 1, 1, 1, 1, 1, 1, 1]
def slices_IndexFuncI_l0_nx : Exit → List Nat
  | .exit 0 => [1, 1, 1, 1, 1, 1, 1, 1, 1, 1, 1, 1, 1, 1, 1, 1, 1, 1, 1]
  | .ret => [1, 1, 1, 1, 0, 1, 1, 1, 1, 1, 1, 1, 1, 1, 1, 1, 1, 1, 1]
  | _ => []
noncomputable def slices_IndexFuncI_LO (v201 : List Int) (v202 : Int) (v203 : Int) : LOr := fun id e L =>
  match id with
  | 0 => .need (normA 0 slices_IndexFuncI_l0_kill e L = some (slices_IndexFuncI_l0_E v201 v202 v203 (gI (vAt e 8)))) (.call (slices_IndexFuncI_l0_g v201 v202 v203 (gI (vAt e 8))) fun x => .sum x (fun b0 => .leaf (slices_IndexFuncI_l0_X v201 v202 v203 (.inl b0))) (fun c0 => .leaf (slices_IndexFuncI_l0_X v201 v202 v203 (.inr c0))))
  | _ => .fail
noncomputable def slices_IndexFuncI_tab : List (FuncId × DFn × Bool) := [(177, impl_allIn_1_F, true)]
theorem slices_IndexFuncI_hO : OrcOk Try.prog (tabD slices_IndexFuncI_tab) (tabM slices_IndexFuncI_tab) := tabD_cons impl_allIn_1_Fok (tabD_nil _)
theorem slices_IndexFuncI_l0_be (v201 : List Int) (v202 : Int) (v203 : Int) (s : Int) : bodyT TT (tabD slices_IndexFuncI_tab) (tabM slices_IndexFuncI_tab) (slices_IndexFuncI_LO v201 v202 v203) 0 slices_IndexFuncI_l0_kill slices_IndexFuncI_l0_nx (bodyOf Try.f185 0) 0 (slices_IndexFuncI_l0_E v201 v202 v203 s) = (slices_IndexFuncI_l0_T v201 v202 v203 s).bind fun y => .leaf (outS (slices_IndexFuncI_l0_E v201 v202 v203) (slices_IndexFuncI_l0_X v201 v202 v203) y) := by kernel_rfl
theorem slices_IndexFuncI_l0_ok (v201 : List Int) (v202 : Int) (v203 : Int) : LSound Try.prog 0 (slices_IndexFuncI_LO v201 v202 v203) 0 (bodyOf Try.f185 0) := by
  intro e L out h
  exact lo_ok (E := slices_IndexFuncI_l0_E v201 v202 v203) (gT := slices_IndexFuncI_l0_T v201 v202 v203) (X := slices_IndexFuncI_l0_X v201 v202 v203) (s0 := (gI (vAt e 8))) tok slices_IndexFuncI_hO mixed (LoopsOk_eq (l := []) (by kernel_rfl) trivial) (slices_IndexFuncI_l0_be v201 v202 v203) rfl (by intro x; (cases x with | inl b => rfl | inr x => exact rfl)) h
noncomputable def slices_IndexFuncI_T (v201 : List Int) (v202 : Int) (v203 : Int) : Tree (Int) :=
  (.need (some (slices_IndexFuncI_l0_E v201 v202 v203 (0 : Int)) = some (slices_IndexFuncI_l0_E v201 v202 v203 (0 : Int))) <|
  (.call (slices_IndexFuncI_l0_g v201 v202 v203 (0 : Int)) fun v210 =>
  (.sum v210 (fun v211 =>
   .leaf v211
  ) (fun v212 =>
   .leaf (-1 : Int)
  ))))

noncomputable def slices_IndexFuncI_g (v201 : List Int) (v202 : Int) (v203 : Int) : Option (Int) := (slices_IndexFuncI_T v201 v202 v203).run
def slices_IndexFuncI_enc (v201 : List Int) (v202 : Int) (v203 : Int) (y : Int) : Rs := (.int .i64 y, [])
theorem slices_IndexFuncI_den (v201 : List Int) (v202 : Int) (v203 : Int) : (den TT (tabD slices_IndexFuncI_tab) (tabM slices_IndexFuncI_tab) (slices_IndexFuncI_LO v201 v202 v203) (codeOf Try.f185) ([.bslc (BR.root 0) (.i64 v201), .fn 177 [.bptr (BR.root 1) [.int .i64 v202], .bptr (BR.root 2) [.int .i64 v203]]] ++ List.replicate (Try.f185.ntmps - ([.bslc (BR.root 0) (.i64 v201), .fn 177 [.bptr (BR.root 1) [.int .i64 v202], .bptr (BR.root 2) [.int .i64 v203]]] : List DV).length) .undef) []).bind (retD TT Try.f185.results.toList 0) = (slices_IndexFuncI_T v201 v202 v203).bind fun y => .leaf (slices_IndexFuncI_enc v201 v202 v203 y) := by kernel_rfl
theorem slices_IndexFuncI_fn (v201 : List Int) (v202 : Int) (v203 : Int) (F : Fr) (hm : F.ids.length = 0) (h0 : St F [] F.H0) (hA : DVs.Ok F [] [.bslc (BR.root 0) (.i64 v201), .fn 177 [.bptr (BR.root 1) [.int .i64 v202], .bptr (BR.root 2) [.int .i64 v203]]]) {y : Int} (hy : slices_IndexFuncI_g v201 v202 v203 = some y) : ∃ H', FnOk Try.prog 185 (DVs.av F [.bslc (BR.root 0) (.i64 v201), .fn 177 [.bptr (BR.root 1) [.int .i64 v202], .bptr (BR.root 2) [.int .i64 v203]]]) F.H0 ((slices_IndexFuncI_enc v201 v202 v203 y).1.av F) H' ∧ St F (slices_IndexFuncI_enc v201 v202 v203 y).2 H' ∧ (slices_IndexFuncI_enc v201 v202 v203 y).1.Ok F (slices_IndexFuncI_enc v201 v202 v203 y).2 :=
  fn_fin tok slices_IndexFuncI_hO mixed Try.func185 Try.call185 (by kernel_rfl) (LoopsOk_eq (l := [(0, bodyOf Try.f185 0)]) (by kernel_rfl) ⟨slices_IndexFuncI_l0_ok v201 v202 v203, trivial⟩) (slices_IndexFuncI_den v201 v202 v203) hy hm h0 hA
noncomputable def slices_IndexFuncI_F : DFn := fun args L =>
  match args with
  | [a1, .fn 177 [a2, a3]] =>
    optT (rowI64 L a1) fun v201 =>
    optT (cellsOf L 1 a2) fun cs1 =>
    (match cs1 with
    | [.int .i64 v202] =>
    optT (cellsOf L 1 a3) fun cs2 =>
    (match cs2 with
    | [.int .i64 v203] =>
    .call (slices_IndexFuncI_g v201 v202 v203) fun y => .leaf (.int .i64 y, L)
    | _ => .fail)
    | _ => .fail)
  | _ => .fail
theorem slices_IndexFuncI_Fok : COk Try.prog 185 slices_IndexFuncI_F true := by
  intro F L H args r L' hs ha hr
  unfold slices_IndexFuncI_F at hr
  split at hr
  · rename_i a1 a2 a3
    obtain ⟨v201, hv201, hr⟩ := optT_run hr
    obtain ⟨cs1, hcp1, hr⟩ := optT_run hr
    split at hr
    · rename_i v202
      obtain ⟨cs2, hcp2, hr⟩ := optT_run hr
      split at hr
      · rename_i v203
        simp only [Tree.run] at hr
        obtain ⟨y, hy, hr⟩ := Option.bind_eq_some_iff.1 hr
        simp only [Tree.run, Option.some.injEq, Prod.mk.injEq] at hr
        obtain ⟨rfl, rfl⟩ := hr
        exact call_ok0 hs (fun k => (([a1.av F, a2.av F, a3.av F] : List AV)[k]?).getD .top) [a1, .fn 177 [a2, a3]] [.bslc (BR.root 0) (.i64 v201), .fn 177 [.bptr (BR.root 1) [.int .i64 v202], .bptr (BR.root 2) [.int .i64 v203]]] (fun F' h0 hi hρ => ⟨by simp [DVs.av, DV.av, BR.av, hρ], slices_IndexFuncI_fn v201 v202 v203 F' (by rw [hi]; rfl) (st_nil hi) ⟨bslc_ok hi (by rw [h0, hρ]; exact rowI64_ok hs (DVs.okAt ha 0 rfl) hv201), ⟨bptr_ok hi (by rw [h0]; simpa [DVs.av, DV.av, BR.av, hρ] using (cellsOf_ok hs (DVs.okAt (DVs.okAt ha 1 rfl) 0 rfl) hcp1).1) ⟨trivial, trivial⟩, bptr_ok hi (by rw [h0]; simpa [DVs.av, DV.av, BR.av, hρ] using (cellsOf_ok hs (DVs.okAt (DVs.okAt ha 1 rfl) 1 rfl) hcp2).1) ⟨trivial, trivial⟩, trivial⟩, trivial⟩ hy⟩) rfl
      · cases hr
    · cases hr
  · cases hr
/-! slices.ContainsFunc[list of int64,int64] -/
noncomputable def slices_ContainsFuncI_LO (v198 : List Int) (v199 : Int) (v200 : Int) : LOr := fun id e L =>
  match id with
  | _ => .fail
noncomputable def slices_ContainsFuncI_tab : List (FuncId × DFn × Bool) := [(185, slices_IndexFuncI_F, true)]
theorem slices_ContainsFuncI_hO : OrcOk Try.prog (tabD slices_ContainsFuncI_tab) (tabM slices_ContainsFuncI_tab) := tabD_cons slices_IndexFuncI_Fok (tabD_nil _)
noncomputable def slices_ContainsFuncI_T (v198 : List Int) (v199 : Int) (v200 : Int) : Tree (Bool) :=
  (.call (slices_IndexFuncI_g v198 v199 v200) fun v213 =>
  .leaf (decide ((0 : Int) ≤ v213)))

noncomputable def slices_ContainsFuncI_g (v198 : List Int) (v199 : Int) (v200 : Int) : Option (Bool) := (slices_ContainsFuncI_T v198 v199 v200).run
def slices_ContainsFuncI_enc (v198 : List Int) (v199 : Int) (v200 : Int) (y : Bool) : Rs := (.bool y, [])
theorem slices_ContainsFuncI_den (v198 : List Int) (v199 : Int) (v200 : Int) : (den TT (tabD slices_ContainsFuncI_tab) (tabM slices_ContainsFuncI_tab) (slices_ContainsFuncI_LO v198 v199 v200) (codeOf Try.f176) ([.bslc (BR.root 0) (.i64 v198), .fn 177 [.bptr (BR.root 1) [.int .i64 v199], .bptr (BR.root 2) [.int .i64 v200]]] ++ List.replicate (Try.f176.ntmps - ([.bslc (BR.root 0) (.i64 v198), .fn 177 [.bptr (BR.root 1) [.int .i64 v199], .bptr (BR.root 2) [.int .i64 v200]]] : List DV).length) .undef) []).bind (retD TT Try.f176.results.toList 0) = (slices_ContainsFuncI_T v198 v199 v200).bind fun y => .leaf (slices_ContainsFuncI_enc v198 v199 v200 y) := by kernel_rfl
theorem slices_ContainsFuncI_fn (v198 : List Int) (v199 : Int) (v200 : Int) (F : Fr) (hm : F.ids.length = 0) (h0 : St F [] F.H0) (hA : DVs.Ok F [] [.bslc (BR.root 0) (.i64 v198), .fn 177 [.bptr (BR.root 1) [.int .i64 v199], .bptr (BR.root 2) [.int .i64 v200]]]) {y : Bool} (hy : slices_ContainsFuncI_g v198 v199 v200 = some y) : ∃ H', FnOk Try.prog 176 (DVs.av F [.bslc (BR.root 0) (.i64 v198), .fn 177 [.bptr (BR.root 1) [.int .i64 v199], .bptr (BR.root 2) [.int .i64 v200]]]) F.H0 ((slices_ContainsFuncI_enc v198 v199 v200 y).1.av F) H' ∧ St F (slices_ContainsFuncI_enc v198 v199 v200 y).2 H' ∧ (slices_ContainsFuncI_enc v198 v199 v200 y).1.Ok F (slices_ContainsFuncI_enc v198 v199 v200 y).2 :=
  fn_fin tok slices_ContainsFuncI_hO mixed Try.func176 Try.call176 (by kernel_rfl) (LoopsOk_eq (l := []) (by kernel_rfl) trivial) (slices_ContainsFuncI_den v198 v199 v200) hy hm h0 hA
noncomputable def slices_ContainsFuncI_F : DFn := fun args L =>
  match args with
  | [a1, .fn 177 [a2, a3]] =>
    optT (rowI64 L a1) fun v198 =>
    optT (cellsOf L 1 a2) fun cs1 =>
    (match cs1 with
    | [.int .i64 v199] =>
    optT (cellsOf L 1 a3) fun cs2 =>
    (match cs2 with
    | [.int .i64 v200] =>
    .call (slices_ContainsFuncI_g v198 v199 v200) fun y => .leaf (.bool y, L)
    | _ => .fail)
    | _ => .fail)
  | _ => .fail
theorem slices_ContainsFuncI_Fok : COk Try.prog 176 slices_ContainsFuncI_F true := by
  intro F L H args r L' hs ha hr
  unfold slices_ContainsFuncI_F at hr
  split at hr
  · rename_i a1 a2 a3
    obtain ⟨v198, hv198, hr⟩ := optT_run hr
    obtain ⟨cs1, hcp1, hr⟩ := optT_run hr
    split at hr
    · rename_i v199
      obtain ⟨cs2, hcp2, hr⟩ := optT_run hr
      split at hr
      · rename_i v200
        simp only [Tree.run] at hr
        obtain ⟨y, hy, hr⟩ := Option.bind_eq_some_iff.1 hr
        simp only [Tree.run, Option.some.injEq, Prod.mk.injEq] at hr
        obtain ⟨rfl, rfl⟩ := hr
        exact call_ok0 hs (fun k => (([a1.av F, a2.av F, a3.av F] : List AV)[k]?).getD .top) [a1, .fn 177 [a2, a3]] [.bslc (BR.root 0) (.i64 v198), .fn 177 [.bptr (BR.root 1) [.int .i64 v199], .bptr (BR.root 2) [.int .i64 v200]]] (fun F' h0 hi hρ => ⟨by simp [DVs.av, DV.av, BR.av, hρ], slices_ContainsFuncI_fn v198 v199 v200 F' (by rw [hi]; rfl) (st_nil hi) ⟨bslc_ok hi (by rw [h0, hρ]; exact rowI64_ok hs (DVs.okAt ha 0 rfl) hv198), ⟨bptr_ok hi (by rw [h0]; simpa [DVs.av, DV.av, BR.av, hρ] using (cellsOf_ok hs (DVs.okAt (DVs.okAt ha 1 rfl) 0 rfl) hcp1).1) ⟨trivial, trivial⟩, bptr_ok hi (by rw [h0]; simpa [DVs.av, DV.av, BR.av, hρ] using (cellsOf_ok hs (DVs.okAt (DVs.okAt ha 1 rfl) 1 rfl) hcp2).1) ⟨trivial, trivial⟩, trivial⟩, trivial⟩ hy⟩) rfl
      · cases hr
    · cases hr
  · cases hr
/-! impl.allIn -/
noncomputable def impl_allIn_LO (v195 : List Int) (v196 : Int) (v197 : Int) : LOr := fun id e L =>
  match id with
  | _ => .fail
noncomputable def impl_allIn_tab : List (FuncId × DFn × Bool) := [(176, slices_ContainsFuncI_F, true)]
theorem impl_allIn_hO : OrcOk Try.prog (tabD impl_allIn_tab) (tabM impl_allIn_tab) := tabD_cons slices_ContainsFuncI_Fok (tabD_nil _)
noncomputable def impl_allIn_T (v195 : List Int) (v196 : Int) (v197 : Int) : Tree (Bool) :=
  (.call (slices_ContainsFuncI_g v195 v196 v197) fun v214 =>
  .leaf (!v214))

noncomputable def impl_allIn_g (v195 : List Int) (v196 : Int) (v197 : Int) : Option (Bool) := (impl_allIn_T v195 v196 v197).run
def impl_allIn_enc (v195 : List Int) (v196 : Int) (v197 : Int) (y : Bool) : Rs := (.bool y, [])
theorem impl_allIn_den (v195 : List Int) (v196 : Int) (v197 : Int) : (den TT (tabD impl_allIn_tab) (tabM impl_allIn_tab) (impl_allIn_LO v195 v196 v197) (codeOf Try.f163) ([.bslc (BR.root 0) (.i64 v195), .int .i64 v196, .int .i64 v197] ++ List.replicate (Try.f163.ntmps - ([.bslc (BR.root 0) (.i64 v195), .int .i64 v196, .int .i64 v197] : List DV).length) .undef) []).bind (retD TT Try.f163.results.toList 0) = (impl_allIn_T v195 v196 v197).bind fun y => .leaf (impl_allIn_enc v195 v196 v197 y) := by kernel_rfl
theorem impl_allIn_fn (v195 : List Int) (v196 : Int) (v197 : Int) (F : Fr) (hm : F.ids.length = 0) (h0 : St F [] F.H0) (hA : DVs.Ok F [] [.bslc (BR.root 0) (.i64 v195), .int .i64 v196, .int .i64 v197]) {y : Bool} (hy : impl_allIn_g v195 v196 v197 = some y) : ∃ H', FnOk Try.prog 163 (DVs.av F [.bslc (BR.root 0) (.i64 v195), .int .i64 v196, .int .i64 v197]) F.H0 ((impl_allIn_enc v195 v196 v197 y).1.av F) H' ∧ St F (impl_allIn_enc v195 v196 v197 y).2 H' ∧ (impl_allIn_enc v195 v196 v197 y).1.Ok F (impl_allIn_enc v195 v196 v197 y).2 :=
  fn_fin tok impl_allIn_hO mixed Try.func163 Try.call163 (by kernel_rfl) (LoopsOk_eq (l := []) (by kernel_rfl) trivial) (impl_allIn_den v195 v196 v197) hy hm h0 hA
noncomputable def impl_allIn_F : DFn := fun args L =>
  match args with
  | [a1, .int .i64 v196, .int .i64 v197] =>
    optT (rowI64 L a1) fun v195 =>
    .call (impl_allIn_g v195 v196 v197) fun y => .leaf (.bool y, L)
  | _ => .fail
theorem impl_allIn_Fok : COk Try.prog 163 impl_allIn_F true := by
  intro F L H args r L' hs ha hr
  unfold impl_allIn_F at hr
  split at hr
  · rename_i a1 v196 v197
    obtain ⟨v195, hv195, hr⟩ := optT_run hr
    simp only [Tree.run] at hr
    obtain ⟨y, hy, hr⟩ := Option.bind_eq_some_iff.1 hr
    simp only [Tree.run, Option.some.injEq, Prod.mk.injEq] at hr
    obtain ⟨rfl, rfl⟩ := hr
    exact call_ok0 hs (fun k => (([a1.av F] : List AV)[k]?).getD .top) [a1, .int .i64 v196, .int .i64 v197] [.bslc (BR.root 0) (.i64 v195), .int .i64 v196, .int .i64 v197] (fun F' h0 hi hρ => ⟨by simp [DVs.av, DV.av, BR.av, hρ], impl_allIn_fn v195 v196 v197 F' (by rw [hi]; rfl) (st_nil hi) ⟨bslc_ok hi (by rw [h0, hρ]; exact rowI64_ok hs (DVs.okAt ha 0 rfl) hv195), trivial, trivial, trivial⟩ hy⟩) rfl
  · cases hr
/-! math.IsNaN -/
noncomputable def math_IsNaN_LO (v223 : Nat) : LOr := fun id e L =>
  match id with
  | _ => .fail
noncomputable def math_IsNaN_tab : List (FuncId × DFn × Bool) := []
theorem math_IsNaN_hO : OrcOk Try.prog (tabD math_IsNaN_tab) (tabM math_IsNaN_tab) := tabD_nil _
noncomputable def math_IsNaN_T (v223 : Nat) : Tree (Bool) :=
  .leaf (!feq .f64 v223 v223)

noncomputable def math_IsNaN_g (v223 : Nat) : Option (Bool) := (math_IsNaN_T v223).run
def math_IsNaN_enc (v223 : Nat) (y : Bool) : Rs := (.bool y, [])
theorem math_IsNaN_den (v223 : Nat) : (den TT (tabD math_IsNaN_tab) (tabM math_IsNaN_tab) (math_IsNaN_LO v223) (codeOf Try.f169) ([.flt .f64 v223] ++ List.replicate (Try.f169.ntmps - ([.flt .f64 v223] : List DV).length) .undef) []).bind (retD TT Try.f169.results.toList 0) = (math_IsNaN_T v223).bind fun y => .leaf (math_IsNaN_enc v223 y) := by kernel_rfl
theorem math_IsNaN_fn (v223 : Nat) (F : Fr) (hm : F.ids.length = 0) (h0 : St F [] F.H0) (hA : DVs.Ok F [] [.flt .f64 v223]) {y : Bool} (hy : math_IsNaN_g v223 = some y) : ∃ H', FnOk Try.prog 169 (DVs.av F [.flt .f64 v223]) F.H0 ((math_IsNaN_enc v223 y).1.av F) H' ∧ St F (math_IsNaN_enc v223 y).2 H' ∧ (math_IsNaN_enc v223 y).1.Ok F (math_IsNaN_enc v223 y).2 :=
  fn_fin tok math_IsNaN_hO mixed Try.func169 Try.call169 (by kernel_rfl) (LoopsOk_eq (l := []) (by kernel_rfl) trivial) (math_IsNaN_den v223) hy hm h0 hA
def math_IsNaN_v (v223 : Nat) : Bool :=
  !feq .f64 v223 v223
theorem math_IsNaN_tot (v223 : Nat) : math_IsNaN_g v223 = some (math_IsNaN_v v223) := by
  unfold math_IsNaN_g math_IsNaN_T math_IsNaN_v
  simp only [Tree.run]
  repeat' (first | rfl | split)
noncomputable def math_IsNaN_F : DFn := fun args L =>
  match args with
  | [.flt .f64 v223] =>
    .leaf (.bool (math_IsNaN_v v223), L)
  | _ => .fail
theorem math_IsNaN_Fok : COk Try.prog 169 math_IsNaN_F true := by
  intro F L H args r L' hs ha hr
  unfold math_IsNaN_F at hr
  split at hr
  · rename_i v223
    have hy := math_IsNaN_tot v223
    generalize math_IsNaN_v v223 = y at hy hr
    simp only [Tree.run, Option.some.injEq, Prod.mk.injEq] at hr
    obtain ⟨rfl, rfl⟩ := hr
    exact call_ok0 hs (fun k => (([] : List AV)[k]?).getD .top) [.flt .f64 v223] [.flt .f64 v223] (fun F' h0 hi hρ => ⟨by simp [DVs.av, DV.av, BR.av, hρ], math_IsNaN_fn v223 F' (by rw [hi]; rfl) (st_nil hi) ⟨trivial, trivial⟩ hy⟩) rfl
  · cases hr
/-! math.IsInf -/
noncomputable def math_IsInf_LO (v224 : Nat) (v225 : Int) : LOr := fun id e L =>
  match id with
  | _ => .fail
noncomputable def math_IsInf_tab : List (FuncId × DFn × Bool) := [(104, Abs_F, true)]
theorem math_IsInf_hO : OrcOk Try.prog (tabD math_IsInf_tab) (tabM math_IsInf_tab) := tabD_cons Abs_Fok (tabD_nil _)
noncomputable def math_IsInf_T (v224 : Nat) (v225 : Int) : Tree (Bool) :=
  (.br (decide (v225 = (0 : Int))) (
   .leaf (fgrt .f64 (fabs v224) (9218868437227405311 : Nat))
  ) (
   (.br (decide (v225 < (0 : Int))) (
    .leaf (fgrt .f64 (fneg .f64 v224) (9218868437227405311 : Nat))
   ) (
    .leaf (fgrt .f64 v224 (9218868437227405311 : Nat))
   ))
  ))

noncomputable def math_IsInf_g (v224 : Nat) (v225 : Int) : Option (Bool) := (math_IsInf_T v224 v225).run
def math_IsInf_enc (v224 : Nat) (v225 : Int) (y : Bool) : Rs := (.bool y, [])
theorem math_IsInf_den (v224 : Nat) (v225 : Int) : (den TT (tabD math_IsInf_tab) (tabM math_IsInf_tab) (math_IsInf_LO v224 v225) (codeOf Try.f170) ([.flt .f64 v224, .int .i64 v225] ++ List.replicate (Try.f170.ntmps - ([.flt .f64 v224, .int .i64 v225] : List DV).length) .undef) []).bind (retD TT Try.f170.results.toList 0) = (math_IsInf_T v224 v225).bind fun y => .leaf (math_IsInf_enc v224 v225 y) := by kernel_rfl
theorem math_IsInf_fn (v224 : Nat) (v225 : Int) (F : Fr) (hm : F.ids.length = 0) (h0 : St F [] F.H0) (hA : DVs.Ok F [] [.flt .f64 v224, .int .i64 v225]) {y : Bool} (hy : math_IsInf_g v224 v225 = some y) : ∃ H', FnOk Try.prog 170 (DVs.av F [.flt .f64 v224, .int .i64 v225]) F.H0 ((math_IsInf_enc v224 v225 y).1.av F) H' ∧ St F (math_IsInf_enc v224 v225 y).2 H' ∧ (math_IsInf_enc v224 v225 y).1.Ok F (math_IsInf_enc v224 v225 y).2 :=
  fn_fin tok math_IsInf_hO mixed Try.func170 Try.call170 (by kernel_rfl) (LoopsOk_eq (l := []) (by kernel_rfl) trivial) (math_IsInf_den v224 v225) hy hm h0 hA
def math_IsInf_v (v224 : Nat) (v225 : Int) : Bool :=
  if (decide (v225 = (0 : Int))) = true then (
   fgrt .f64 (fabs v224) (9218868437227405311 : Nat)
  ) else (
   if (decide (v225 < (0 : Int))) = true then (
    fgrt .f64 (fneg .f64 v224) (9218868437227405311 : Nat)
   ) else (
    fgrt .f64 v224 (9218868437227405311 : Nat)
   )
  )
theorem math_IsInf_tot (v224 : Nat) (v225 : Int) : math_IsInf_g v224 v225 = some (math_IsInf_v v224 v225) := by
  unfold math_IsInf_g math_IsInf_T math_IsInf_v
  simp only [Tree.run]
  repeat' (first | rfl | split)
noncomputable def math_IsInf_F : DFn := fun args L =>
  match args with
  | [.flt .f64 v224, .int .i64 v225] =>
    .leaf (.bool (math_IsInf_v v224 v225), L)
  | _ => .fail
theorem math_IsInf_Fok : COk Try.prog 170 math_IsInf_F true := by
  intro F L H args r L' hs ha hr
  unfold math_IsInf_F at hr
  split at hr
  · rename_i v224 v225
    have hy := math_IsInf_tot v224 v225
    generalize math_IsInf_v v224 v225 = y at hy hr
    simp only [Tree.run, Option.some.injEq, Prod.mk.injEq] at hr
    obtain ⟨rfl, rfl⟩ := hr
    exact call_ok0 hs (fun k => (([] : List AV)[k]?).getD .top) [.flt .f64 v224, .int .i64 v225] [.flt .f64 v224, .int .i64 v225] (fun F' h0 hi hρ => ⟨by simp [DVs.av, DV.av, BR.av, hρ], math_IsInf_fn v224 v225 F' (by rw [hi]; rfl) (st_nil hi) ⟨trivial, trivial, trivial⟩ hy⟩) rfl
  · cases hr
/-! impl.isFinite64 -/
noncomputable def impl_isFinite64_LO (v222 : Nat) : LOr := fun id e L =>
  match id with
  | _ => .fail
noncomputable def impl_isFinite64_tab : List (FuncId × DFn × Bool) := [(169, math_IsNaN_F, true), (170, math_IsInf_F, true)]
theorem impl_isFinite64_hO : OrcOk Try.prog (tabD impl_isFinite64_tab) (tabM impl_isFinite64_tab) := tabD_cons math_IsNaN_Fok (tabD_cons math_IsInf_Fok (tabD_nil _))
noncomputable def impl_isFinite64_T (v222 : Nat) : Tree (Bool) :=
  (.br (!(math_IsNaN_v v222)) (
   .leaf (!(math_IsInf_v v222 (0 : Int)))
  ) (
   .leaf false
  ))

noncomputable def impl_isFinite64_g (v222 : Nat) : Option (Bool) := (impl_isFinite64_T v222).run
def impl_isFinite64_enc (v222 : Nat) (y : Bool) : Rs := (.bool y, [])
theorem impl_isFinite64_den (v222 : Nat) : (den TT (tabD impl_isFinite64_tab) (tabM impl_isFinite64_tab) (impl_isFinite64_LO v222) (codeOf Try.f151) ([.flt .f64 v222] ++ List.replicate (Try.f151.ntmps - ([.flt .f64 v222] : List DV).length) .undef) []).bind (retD TT Try.f151.results.toList 0) = (impl_isFinite64_T v222).bind fun y => .leaf (impl_isFinite64_enc v222 y) := by kernel_rfl
theorem impl_isFinite64_fn (v222 : Nat) (F : Fr) (hm : F.ids.length = 0) (h0 : St F [] F.H0) (hA : DVs.Ok F [] [.flt .f64 v222]) {y : Bool} (hy : impl_isFinite64_g v222 = some y) : ∃ H', FnOk Try.prog 151 (DVs.av F [.flt .f64 v222]) F.H0 ((impl_isFinite64_enc v222 y).1.av F) H' ∧ St F (impl_isFinite64_enc v222 y).2 H' ∧ (impl_isFinite64_enc v222 y).1.Ok F (impl_isFinite64_enc v222 y).2 :=
  fn_fin tok impl_isFinite64_hO mixed Try.func151 Try.call151 (by kernel_rfl) (LoopsOk_eq (l := []) (by kernel_rfl) trivial) (impl_isFinite64_den v222) hy hm h0 hA
def impl_isFinite64_v (v222 : Nat) : Bool :=
  if (!(math_IsNaN_v v222)) = true then (
   !(math_IsInf_v v222 (0 : Int))
  ) else (
   false
  )
theorem impl_isFinite64_tot (v222 : Nat) : impl_isFinite64_g v222 = some (impl_isFinite64_v v222) := by
  unfold impl_isFinite64_g impl_isFinite64_T impl_isFinite64_v
  simp only [Tree.run]
  repeat' (first | rfl | split)
noncomputable def impl_isFinite64_F : DFn := fun args L =>
  match args with
  | [.flt .f64 v222] =>
    .leaf (.bool (impl_isFinite64_v v222), L)
  | _ => .fail
theorem impl_isFinite64_Fok : COk Try.prog 151 impl_isFinite64_F true := by
  intro F L H args r L' hs ha hr
  unfold impl_isFinite64_F at hr
  split at hr
  · rename_i v222
    have hy := impl_isFinite64_tot v222
    generalize impl_isFinite64_v v222 = y at hy hr
    simp only [Tree.run, Option.some.injEq, Prod.mk.injEq] at hr
    obtain ⟨rfl, rfl⟩ := hr
    exact call_ok0 hs (fun k => (([] : List AV)[k]?).getD .top) [.flt .f64 v222] [.flt .f64 v222] (fun F' h0 hi hρ => ⟨by simp [DVs.av, DV.av, BR.av, hρ], impl_isFinite64_fn v222 F' (by rw [hi]; rfl) (st_nil hi) ⟨trivial, trivial⟩ hy⟩) rfl
  · cases hr
/-! impl.IsFinite -/
noncomputable def impl_IsFinite_LO (v221 : Nat) : LOr := fun id e L =>
  match id with
  | _ => .fail
noncomputable def impl_IsFinite_tab : List (FuncId × DFn × Bool) := [(151, impl_isFinite64_F, true)]
theorem impl_IsFinite_hO : OrcOk Try.prog (tabD impl_IsFinite_tab) (tabM impl_IsFinite_tab) := tabD_cons impl_isFinite64_Fok (tabD_nil _)
noncomputable def impl_IsFinite_T (v221 : Nat) : Tree (Bool) :=
  .leaf (impl_isFinite64_v (wid v221))

noncomputable def impl_IsFinite_g (v221 : Nat) : Option (Bool) := (impl_IsFinite_T v221).run
def impl_IsFinite_enc (v221 : Nat) (y : Bool) : Rs := (.bool y, [])
theorem impl_IsFinite_den (v221 : Nat) : (den TT (tabD impl_IsFinite_tab) (tabM impl_IsFinite_tab) (impl_IsFinite_LO v221) (codeOf Try.f103) ([.flt .f32 v221] ++ List.replicate (Try.f103.ntmps - ([.flt .f32 v221] : List DV).length) .undef) []).bind (retD TT Try.f103.results.toList 0) = (impl_IsFinite_T v221).bind fun y => .leaf (impl_IsFinite_enc v221 y) := by kernel_rfl
theorem impl_IsFinite_fn (v221 : Nat) (F : Fr) (hm : F.ids.length = 0) (h0 : St F [] F.H0) (hA : DVs.Ok F [] [.flt .f32 v221]) {y : Bool} (hy : impl_IsFinite_g v221 = some y) : ∃ H', FnOk Try.prog 103 (DVs.av F [.flt .f32 v221]) F.H0 ((impl_IsFinite_enc v221 y).1.av F) H' ∧ St F (impl_IsFinite_enc v221 y).2 H' ∧ (impl_IsFinite_enc v221 y).1.Ok F (impl_IsFinite_enc v221 y).2 :=
  fn_fin tok impl_IsFinite_hO mixed Try.func103 Try.call103 (by kernel_rfl) (LoopsOk_eq (l := []) (by kernel_rfl) trivial) (impl_IsFinite_den v221) hy hm h0 hA
def impl_IsFinite_v (v221 : Nat) : Bool :=
  (impl_isFinite64_v (wid v221))
theorem impl_IsFinite_tot (v221 : Nat) : impl_IsFinite_g v221 = some (impl_IsFinite_v v221) := by
  unfold impl_IsFinite_g impl_IsFinite_T impl_IsFinite_v
  simp only [Tree.run]
  repeat' (first | rfl | split)
noncomputable def impl_IsFinite_F : DFn := fun args L =>
  match args with
  | [.flt .f32 v221] =>
    .leaf (.bool (impl_IsFinite_v v221), L)
  | _ => .fail
theorem impl_IsFinite_Fok : COk Try.prog 103 impl_IsFinite_F true := by
  intro F L H args r L' hs ha hr
  unfold impl_IsFinite_F at hr
  split at hr
  · rename_i v221
    have hy := impl_IsFinite_tot v221
    generalize impl_IsFinite_v v221 = y at hy hr
    simp only [Tree.run, Option.some.injEq, Prod.mk.injEq] at hr
    obtain ⟨rfl, rfl⟩ := hr
    exact call_ok0 hs (fun k => (([] : List AV)[k]?).getD .top) [.flt .f32 v221] [.flt .f32 v221] (fun F' h0 hi hρ => ⟨by simp [DVs.av, DV.av, BR.av, hρ], impl_IsFinite_fn v221 F' (by rw [hi]; rfl) (st_nil hi) ⟨trivial, trivial⟩ hy⟩) rfl
  · cases hr
/-! impl.areFinite$1 -/
noncomputable def impl_areFinite_1_LO (v220 : Nat) : LOr := fun id e L =>
  match id with
  | _ => .fail
noncomputable def impl_areFinite_1_tab : List (FuncId × DFn × Bool) := [(103, impl_IsFinite_F, true)]
theorem impl_areFinite_1_hO : OrcOk Try.prog (tabD impl_areFinite_1_tab) (tabM impl_areFinite_1_tab) := tabD_cons impl_IsFinite_Fok (tabD_nil _)
noncomputable def impl_areFinite_1_T (v220 : Nat) : Tree (Bool) :=
  .leaf (!(impl_IsFinite_v v220))

noncomputable def impl_areFinite_1_g (v220 : Nat) : Option (Bool) := (impl_areFinite_1_T v220).run
def impl_areFinite_1_enc (v220 : Nat) (y : Bool) : Rs := (.bool y, [])
theorem impl_areFinite_1_den (v220 : Nat) : (den TT (tabD impl_areFinite_1_tab) (tabM impl_areFinite_1_tab) (impl_areFinite_1_LO v220) (codeOf Try.f165) ([.flt .f32 v220] ++ List.replicate (Try.f165.ntmps - ([.flt .f32 v220] : List DV).length) .undef) []).bind (retD TT Try.f165.results.toList 0) = (impl_areFinite_1_T v220).bind fun y => .leaf (impl_areFinite_1_enc v220 y) := by kernel_rfl
theorem impl_areFinite_1_fn (v220 : Nat) (F : Fr) (hm : F.ids.length = 0) (h0 : St F [] F.H0) (hA : DVs.Ok F [] [.flt .f32 v220]) {y : Bool} (hy : impl_areFinite_1_g v220 = some y) : ∃ H', FnOk Try.prog 165 (DVs.av F [.flt .f32 v220]) F.H0 ((impl_areFinite_1_enc v220 y).1.av F) H' ∧ St F (impl_areFinite_1_enc v220 y).2 H' ∧ (impl_areFinite_1_enc v220 y).1.Ok F (impl_areFinite_1_enc v220 y).2 :=
  fn_fin tok impl_areFinite_1_hO mixed Try.func165 Try.call165 (by kernel_rfl) (LoopsOk_eq (l := []) (by kernel_rfl) trivial) (impl_areFinite_1_den v220) hy hm h0 hA
def impl_areFinite_1_v (v220 : Nat) : Bool :=
  !(impl_IsFinite_v v220)
theorem impl_areFinite_1_tot (v220 : Nat) : impl_areFinite_1_g v220 = some (impl_areFinite_1_v v220) := by
  unfold impl_areFinite_1_g impl_areFinite_1_T impl_areFinite_1_v
  simp only [Tree.run]
  repeat' (first | rfl | split)
noncomputable def impl_areFinite_1_F : DFn := fun args L =>
  match args with
  | [.flt .f32 v220] =>
    .leaf (.bool (impl_areFinite_1_v v220), L)
  | _ => .fail
theorem impl_areFinite_1_Fok : COk Try.prog 165 impl_areFinite_1_F true := by
  intro F L H args r L' hs ha hr
  unfold impl_areFinite_1_F at hr
  split at hr
  · rename_i v220
    have hy := impl_areFinite_1_tot v220
    generalize impl_areFinite_1_v v220 = y at hy hr
    simp only [Tree.run, Option.some.injEq, Prod.mk.injEq] at hr
    obtain ⟨rfl, rfl⟩ := hr
    exact call_ok0 hs (fun k => (([] : List AV)[k]?).getD .top) [.flt .f32 v220] [.flt .f32 v220] (fun F' h0 hi hρ => ⟨by simp [DVs.av, DV.av, BR.av, hρ], impl_areFinite_1_fn v220 F' (by rw [hi]; rfl) (st_nil hi) ⟨trivial, trivial⟩ hy⟩) rfl
  · cases hr
/-! slices.IndexFunc[list of float32,float32] -/
noncomputable def slices_IndexFuncF_l0_T (v218 : List Nat) (s : Int) : Tree ((Int) ⊕ ((Int) ⊕ (Unit))) :=
  (.br (decide (s < ((v218.length : Nat) : Int))) (
   (.grd (inb s v218.length) <|
   (.br (impl_areFinite_1_v (nth v218 (Int.toNat s))) (
    .leaf (.inr (.inl s))
   ) (
    .leaf (.inl (IntKind.i64.wrap (s + (1 : Int))))
   )))
  ) (
   .leaf (.inr (.inr ()))
  ))

noncomputable def slices_IndexFuncF_l0_g (v218 : List Nat) (s0 : Int) : Option ((Int) ⊕ (Unit)) := whileM (fun s => (slices_IndexFuncF_l0_T v218 s).run) s0
def slices_IndexFuncF_l0_E (v218 : List Nat) (s : Int) : Sd := ([.bslc (BR.root 0) (.f32 v218), .fn 165 [], .top, .top, .top, .top, .top, .int .i64 ((v218.length : Nat) : Int), .int .i64 s, .top, .top, .top, .top, .top, .top, .top, .top, .top, .top], [])
def slices_IndexFuncF_l0_X (v218 : List Nat) (x : (Int) ⊕ (Unit)) : Out := (match x with | .inl x => (.ret, [.top, .top, .top, .top, .int .i64 x, .top, .top, .top, .top, .top, .top, .top, .top, .top, .top, .top, .top, .top, .top], []) | .inr x => (.normal, [.top, .top, .top, .top, .top, .top, .top, .top, .top, .top, .top, .top, .top, .top, .top, .top, .top, .top, .top], []))
def slices_IndexFuncF_l0_kill : List Nat := [0, 0, 1, 1, 1, 1, 1, 0, 0, 1, 1, 1, 1, 1, 1, 1, 1, 1, 1]
def slices_IndexFuncF_l0_nx : Exit → List Nat
  | .exit 0 => [1, 1, 1, 1, 1, 1, 1, 1, 1, 1, 1, 1, 1, 1, 1, 1, 1, 1, 1]
  | .ret => [1, 1, 1, 1, 0, 1, 1, 1, 1, 1, 1, 1, 1, 1, 1, 1, 1, 1, 1]
  | _ => []
noncomputable def slices_IndexFuncF_LO (v218 : List Nat) : LOr := fun id e L =>
  match id with
  | 0 => .need (normA 0 slices_IndexFuncF_l0_kill e L = some (slices_IndexFuncF_l0_E v218 (gI (vAt e 8)))) (.call (slices_IndexFuncF_l0_g v218 (gI (vAt e 8))) fun x => .sum x (fun b0 => .leaf (slices_IndexFuncF_l0_X v218 (.inl b0))) (fun c0 => .leaf (slices_IndexFuncF_l0_X v218 (.inr c0))))
  | _ => .fail
noncomputable def slices_IndexFuncF_tab : List (FuncId × DFn × Bool) := [(165, impl_areFinite_1_F, true)]
theorem slices_IndexFuncF_hO : OrcOk Try.prog (tabD slices_IndexFuncF_tab) (tabM slices_IndexFuncF_tab) := tabD_cons impl_areFinite_1_Fok (tabD_nil _)
theorem slices_IndexFuncF_l0_be (v218 : List Nat) (s : Int) : bodyT TT (tabD slices_IndexFuncF_tab) (tabM slices_IndexFuncF_tab) (slices_IndexFuncF_LO v218) 0 slices_IndexFuncF_l0_kill slices_IndexFuncF_l0_nx (bodyOf Try.f178 0) 0 (slices_IndexFuncF_l0_E v218 s) = (slices_IndexFuncF_l0_T v218 s).bind fun y => .leaf (outS (slices_IndexFuncF_l0_E v218) (slices_IndexFuncF_l0_X v218) y) := by kernel_rfl
theorem slices_IndexFuncF_l0_ok (v218 : List Nat) : LSound Try.prog 0 (slices_IndexFuncF_LO v218) 0 (bodyOf Try.f178 0) := by
  intro e L out h
  exact lo_ok (E := slices_IndexFuncF_l0_E v218) (gT := slices_IndexFuncF_l0_T v218) (X := slices_IndexFuncF_l0_X v218) (s0 := (gI (vAt e 8))) tok slices_IndexFuncF_hO mixed (LoopsOk_eq (l := []) (by kernel_rfl) trivial) (slices_IndexFuncF_l0_be v218) rfl (by intro x; (cases x with | inl b => rfl | inr x => exact rfl)) h
noncomputable def slices_IndexFuncF_T (v218 : List Nat) : Tree (Int) :=
  (.need (some (slices_IndexFuncF_l0_E v218 (0 : Int)) = some (slices_IndexFuncF_l0_E v218 (0 : Int))) <|
  (.call (slices_IndexFuncF_l0_g v218 (0 : Int)) fun v228 =>
  (.sum v228 (fun v229 =>
   .leaf v229
  ) (fun v230 =>
   .leaf (-1 : Int)
  ))))

noncomputable def slices_IndexFuncF_g (v218 : List Nat) : Option (Int) := (slices_IndexFuncF_T v218).run
def slices_IndexFuncF_enc (v218 : List Nat) (y : Int) : Rs := (.int .i64 y, [])
theorem slices_IndexFuncF_den (v218 : List Nat) : (den TT (tabD slices_IndexFuncF_tab) (tabM slices_IndexFuncF_tab) (slices_IndexFuncF_LO v218) (codeOf Try.f178) ([.bslc (BR.root 0) (.f32 v218), .fn 165 []] ++ List.replicate (Try.f178.ntmps - ([.bslc (BR.root 0) (.f32 v218), .fn 165 []] : List DV).length) .undef) []).bind (retD TT Try.f178.results.toList 0) = (slices_IndexFuncF_T v218).bind fun y => .leaf (slices_IndexFuncF_enc v218 y) := by kernel_rfl
theorem slices_IndexFuncF_fn (v218 : List Nat) (F : Fr) (hm : F.ids.length = 0) (h0 : St F [] F.H0) (hA : DVs.Ok F [] [.bslc (BR.root 0) (.f32 v218), .fn 165 []]) {y : Int} (hy : slices_IndexFuncF_g v218 = some y) : ∃ H', FnOk Try.prog 178 (DVs.av F [.bslc (BR.root 0) (.f32 v218), .fn 165 []]) F.H0 ((slices_IndexFuncF_enc v218 y).1.av F) H' ∧ St F (slices_IndexFuncF_enc v218 y).2 H' ∧ (slices_IndexFuncF_enc v218 y).1.Ok F (slices_IndexFuncF_enc v218 y).2 :=
  fn_fin tok slices_IndexFuncF_hO mixed Try.func178 Try.call178 (by kernel_rfl) (LoopsOk_eq (l := [(0, bodyOf Try.f178 0)]) (by kernel_rfl) ⟨slices_IndexFuncF_l0_ok v218, trivial⟩) (slices_IndexFuncF_den v218) hy hm h0 hA
noncomputable def slices_IndexFuncF_F : DFn := fun args L =>
  match args with
  | [a1, .fn 165 []] =>
    optT (rowF32 L a1) fun v218 =>
    .call (slices_IndexFuncF_g v218) fun y => .leaf (.int .i64 y, L)
  | _ => .fail
theorem slices_IndexFuncF_Fok : COk Try.prog 178 slices_IndexFuncF_F true := by
  intro F L H args r L' hs ha hr
  unfold slices_IndexFuncF_F at hr
  split at hr
  · rename_i a1
    obtain ⟨v218, hv218, hr⟩ := optT_run hr
    simp only [Tree.run] at hr
    obtain ⟨y, hy, hr⟩ := Option.bind_eq_some_iff.1 hr
    simp only [Tree.run, Option.some.injEq, Prod.mk.injEq] at hr
    obtain ⟨rfl, rfl⟩ := hr
    exact call_ok0 hs (fun k => (([a1.av F] : List AV)[k]?).getD .top) [a1, .fn 165 []] [.bslc (BR.root 0) (.f32 v218), .fn 165 []] (fun F' h0 hi hρ => ⟨by simp [DVs.av, DV.av, BR.av, hρ], slices_IndexFuncF_fn v218 F' (by rw [hi]; rfl) (st_nil hi) ⟨bslc_ok hi (by rw [h0, hρ]; exact rowF32_ok hs (DVs.okAt ha 0 rfl) hv218), trivial, trivial⟩ hy⟩) rfl
  · cases hr
/-! slices.ContainsFunc[list of float32,float32] -/
noncomputable def slices_ContainsFuncF_LO (v217 : List Nat) : LOr := fun id e L =>
  match id with
  | _ => .fail
noncomputable def slices_ContainsFuncF_tab : List (FuncId × DFn × Bool) := [(178, slices_IndexFuncF_F, true)]
theorem slices_ContainsFuncF_hO : OrcOk Try.prog (tabD slices_ContainsFuncF_tab) (tabM slices_ContainsFuncF_tab) := tabD_cons slices_IndexFuncF_Fok (tabD_nil _)
noncomputable def slices_ContainsFuncF_T (v217 : List Nat) : Tree (Bool) :=
  (.call (slices_IndexFuncF_g v217) fun v231 =>
  .leaf (decide ((0 : Int) ≤ v231)))

noncomputable def slices_ContainsFuncF_g (v217 : List Nat) : Option (Bool) := (slices_ContainsFuncF_T v217).run
def slices_ContainsFuncF_enc (v217 : List Nat) (y : Bool) : Rs := (.bool y, [])
theorem slices_ContainsFuncF_den (v217 : List Nat) : (den TT (tabD slices_ContainsFuncF_tab) (tabM slices_ContainsFuncF_tab) (slices_ContainsFuncF_LO v217) (codeOf Try.f164) ([.bslc (BR.root 0) (.f32 v217), .fn 165 []] ++ List.replicate (Try.f164.ntmps - ([.bslc (BR.root 0) (.f32 v217), .fn 165 []] : List DV).length) .undef) []).bind (retD TT Try.f164.results.toList 0) = (slices_ContainsFuncF_T v217).bind fun y => .leaf (slices_ContainsFuncF_enc v217 y) := by kernel_rfl
theorem slices_ContainsFuncF_fn (v217 : List Nat) (F : Fr) (hm : F.ids.length = 0) (h0 : St F [] F.H0) (hA : DVs.Ok F [] [.bslc (BR.root 0) (.f32 v217), .fn 165 []]) {y : Bool} (hy : slices_ContainsFuncF_g v217 = some y) : ∃ H', FnOk Try.prog 164 (DVs.av F [.bslc (BR.root 0) (.f32 v217), .fn 165 []]) F.H0 ((slices_ContainsFuncF_enc v217 y).1.av F) H' ∧ St F (slices_ContainsFuncF_enc v217 y).2 H' ∧ (slices_ContainsFuncF_enc v217 y).1.Ok F (slices_ContainsFuncF_enc v217 y).2 :=
  fn_fin tok slices_ContainsFuncF_hO mixed Try.func164 Try.call164 (by kernel_rfl) (LoopsOk_eq (l := []) (by kernel_rfl) trivial) (slices_ContainsFuncF_den v217) hy hm h0 hA
noncomputable def slices_ContainsFuncF_F : DFn := fun args L =>
  match args with
  | [a1, .fn 165 []] =>
    optT (rowF32 L a1) fun v217 =>
    .call (slices_ContainsFuncF_g v217) fun y => .leaf (.bool y, L)
  | _ => .fail
theorem slices_ContainsFuncF_Fok : COk Try.prog 164 slices_ContainsFuncF_F true := by
  intro F L H args r L' hs ha hr
  unfold slices_ContainsFuncF_F at hr
  split at hr
  · rename_i a1
    obtain ⟨v217, hv217, hr⟩ := optT_run hr
    simp only [Tree.run] at hr
    obtain ⟨y, hy, hr⟩ := Option.bind_eq_some_iff.1 hr
    simp only [Tree.run, Option.some.injEq, Prod.mk.injEq] at hr
    obtain ⟨rfl, rfl⟩ := hr
    exact call_ok0 hs (fun k => (([a1.av F] : List AV)[k]?).getD .top) [a1, .fn 165 []] [.bslc (BR.root 0) (.f32 v217), .fn 165 []] (fun F' h0 hi hρ => ⟨by simp [DVs.av, DV.av, BR.av, hρ], slices_ContainsFuncF_fn v217 F' (by rw [hi]; rfl) (st_nil hi) ⟨bslc_ok hi (by rw [h0, hρ]; exact rowF32_ok hs (DVs.okAt ha 0 rfl) hv217), trivial, trivial⟩ hy⟩) rfl
  · cases hr
/-! impl.areFinite -/
noncomputable def impl_areFinite_LO (v216 : List Nat) : LOr := fun id e L =>
  match id with
  | _ => .fail
noncomputable def impl_areFinite_tab : List (FuncId × DFn × Bool) := [(164, slices_ContainsFuncF_F, true)]
theorem impl_areFinite_hO : OrcOk Try.prog (tabD impl_areFinite_tab) (tabM impl_areFinite_tab) := tabD_cons slices_ContainsFuncF_Fok (tabD_nil _)
noncomputable def impl_areFinite_T (v216 : List Nat) : Tree (Bool) :=
  (.call (slices_ContainsFuncF_g v216) fun v232 =>
  .leaf (!v232))

noncomputable def impl_areFinite_g (v216 : List Nat) : Option (Bool) := (impl_areFinite_T v216).run
def impl_areFinite_enc (v216 : List Nat) (y : Bool) : Rs := (.bool y, [])
theorem impl_areFinite_den (v216 : List Nat) : (den TT (tabD impl_areFinite_tab) (tabM impl_areFinite_tab) (impl_areFinite_LO v216) (codeOf Try.f135) ([.bslc (BR.root 0) (.f32 v216)] ++ List.replicate (Try.f135.ntmps - ([.bslc (BR.root 0) (.f32 v216)] : List DV).length) .undef) []).bind (retD TT Try.f135.results.toList 0) = (impl_areFinite_T v216).bind fun y => .leaf (impl_areFinite_enc v216 y) := by kernel_rfl
theorem impl_areFinite_fn (v216 : List Nat) (F : Fr) (hm : F.ids.length = 0) (h0 : St F [] F.H0) (hA : DVs.Ok F [] [.bslc (BR.root 0) (.f32 v216)]) {y : Bool} (hy : impl_areFinite_g v216 = some y) : ∃ H', FnOk Try.prog 135 (DVs.av F [.bslc (BR.root 0) (.f32 v216)]) F.H0 ((impl_areFinite_enc v216 y).1.av F) H' ∧ St F (impl_areFinite_enc v216 y).2 H' ∧ (impl_areFinite_enc v216 y).1.Ok F (impl_areFinite_enc v216 y).2 :=
  fn_fin tok impl_areFinite_hO mixed Try.func135 Try.call135 (by kernel_rfl) (LoopsOk_eq (l := []) (by kernel_rfl) trivial) (impl_areFinite_den v216) hy hm h0 hA
noncomputable def impl_areFinite_F : DFn := fun args L =>
  match args with
  | [a1] =>
    optT (rowF32 L a1) fun v216 =>
    .call (impl_areFinite_g v216) fun y => .leaf (.bool y, L)
  | _ => .fail
theorem impl_areFinite_Fok : COk Try.prog 135 impl_areFinite_F true := by
  intro F L H args r L' hs ha hr
  unfold impl_areFinite_F at hr
  split at hr
  · rename_i a1
    obtain ⟨v216, hv216, hr⟩ := optT_run hr
    simp only [Tree.run] at hr
    obtain ⟨y, hy, hr⟩ := Option.bind_eq_some_iff.1 hr
    simp only [Tree.run, Option.some.injEq, Prod.mk.injEq] at hr
    obtain ⟨rfl, rfl⟩ := hr
    exact call_ok0 hs (fun k => (([a1.av F] : List AV)[k]?).getD .top) [a1] [.bslc (BR.root 0) (.f32 v216)] (fun F' h0 hi hρ => ⟨by simp [DVs.av, DV.av, BR.av, hρ], impl_areFinite_fn v216 F' (by rw [hi]; rfl) (st_nil hi) ⟨bslc_ok hi (by rw [h0, hρ]; exact rowF32_ok hs (DVs.okAt ha 0 rfl) hv216), trivial⟩ hy⟩) rfl
  · cases hr
/-! impl.ValidSparse -/
noncomputable def impl_ValidSparse_l2_T (v180 : List Int) (v181 : List Int) (v259 : Int) (s : Int) : Tree ((Int) ⊕ ((Unit) ⊕ (Unit))) :=
  (.grd (inb (IntKind.i64.wrap (v259 + (1 : Int))) v180.length) <|
  (.br (decide (s < nth v180 (Int.toNat (IntKind.i64.wrap (v259 + (1 : Int)))))) (
   (.grd (inb (IntKind.i64.wrap (s - (1 : Int))) v181.length) <|
   (.grd (inb s v181.length) <|
   (.br (decide (nth v181 (Int.toNat s) ≤ nth v181 (Int.toNat (IntKind.i64.wrap (s - (1 : Int)))))) (
    .leaf (.inr (.inl ()))
   ) (
    .leaf (.inl (IntKind.i64.wrap (s + (1 : Int))))
   ))))
  ) (
   .leaf (.inr (.inr ()))
  )))

noncomputable def impl_ValidSparse_l2_g (v180 : List Int) (v181 : List Int) (v259 : Int) (s0 : Int) : Option ((Unit) ⊕ (Unit)) := whileM (fun s => (impl_ValidSparse_l2_T v180 v181 v259 s).run) s0
def impl_ValidSparse_l2_E (v179 : Int) (v180 : List Int) (v181 : List Int) (v182 : List Nat) (v259 : Int) (s : Int) : Sd := ([.top, .ptr 0 (0 : Nat) 0 (4 : Nat), .top, .top, .int .i64 v259, .int .i64 s, .top, .top, .top, .top, .top, .top, .top, .top, .top, .top, .top, .top, .top, .top, .top, .top, .top, .top, .top, .top, .top, .top, .top, .top, .top, .top, .top, .top, .top, .top, .top, .top, .top, .top, .top, .top, .top, .top, .top, .top, .top, .top, .top, .top, .top, .top, .top, .top, .top, .top, .top, .top, .top, .top, .top, .top, .top, .top, .top, .top, .top, .top, .top, .top, .top, .top, .int .i64 v179, .int .i64 v259, .top, .top, .top, .top, .top, .top, .top, .top, .top, .top, .top, .top, .top, .top, .top, .top, .top, .top, .top, .top, .top, .top, .top, .top, .top, .top, .top, .top, .top, .top, .top], [.gen [.int .i64 v179, .bslc (BR.root 0) (.i64 v180), .bslc (BR.root 1) (.i64 v181), .bslc (BR.root 2) (.f32 v182)] false 0])
def impl_ValidSparse_l2_X (v179 : Int) (v180 : List Int) (v181 : List Int) (v182 : List Nat) (v259 : Int) (x : (Unit) ⊕ (Unit)) : Out := (match x with | .inl x => (.ret, [.top, .top, .lit false, .top, .top, .top, .top, .top, .top, .top, .top, .top, .top, .top, .top, .top, .top, .top, .top, .top, .top, .top, .top, .top, .top, .top, .top, .top, .top, .top, .top, .top, .top, .top, .top, .top, .top, .top, .top, .top, .top, .top, .top, .top, .top, .top, .top, .top, .top, .top, .top, .top, .top, .top, .top, .top, .top, .top, .top, .top, .top, .top, .top, .top, .top, .top, .top, .top, .top, .top, .top, .top, .top, .top, .top, .top, .top, .top, .top, .top, .top, .top, .top, .top, .top, .top, .top, .top, .top, .top, .top, .top, .top, .top, .top, .top, .top, .top, .top, .top, .top, .top, .top, .top, .top], []) | .inr x => (.normal, [.top, .ptr 0 (0 : Nat) 0 (4 : Nat), .top, .top, .top, .top, .top, .top, .top, .top, .top, .top, .top, .top, .top, .top, .top, .top, .top, .top, .top, .top, .top, .top, .top, .top, .top, .top, .top, .top, .top, .top, .top, .top, .top, .top, .top, .top, .top, .top, .top, .top, .top, .top, .top, .top, .top, .top, .top, .top, .top, .top, .top, .top, .top, .top, .top, .top, .top, .top, .top, .top, .top, .top, .top, .top, .top, .top, .top, .top, .top, .top, .int .i64 v179, .int .i64 v259, .top, .top, .top, .top, .top, .top, .top, .top, .top, .top, .top, .top, .top, .top, .top, .top, .top, .top, .top, .top, .top, .top, .top, .top, .top, .top, .top, .top, .top, .top, .top], [.gen [.int .i64 v179, .bslc (BR.root 0) (.i64 v180), .bslc (BR.root 1) (.i64 v181), .bslc (BR.root 2) (.f32 v182)] false 0]))
def impl_ValidSparse_l2_kill : List Nat := [1, 0, 1, 1, 0, 0, 1, 1, 1, 1, 1, 1, 1, 1, 1, 1, 1, 1, 1, 1, 1, 1, 1, 1, 1, 1, 1, 1, 1, 1, 1, 1, 1, 1, 1, 1, 1, 1, 1, 1, 1, 1, 1, 1, 1, 1, 1, 1, 1, 1, 1, 1, 1, 1, 1, 1, 1, 1, 1, 1, 1, 1, 1, 1, 1, 1, 1, 1, 1, 1, 1, 1, 0, 0, 1, 1, 1, 1, 1, 1, 1, 1, 1, 1, 1, 1, 1, 1, 1, 1, 1, 1, 1, 1, 1, 1, 1, 1, 1, 1, 1, 1, 1, 1, 1]
def impl_ValidSparse_l2_nx : Exit → List Nat
  | .exit 0 => [1, 1, 1, 1, 1, 1, 1, 1, 1, 1, 1, 1, 1, 1, 1, 1, 1, 1, 1, 1, 1, 1, 1, 1, 1, 1, 1, 1, 1, 1, 1, 1, 1, 1, 1, 1, 1, 1, 1, 1, 1, 1, 1, 1, 1, 1, 1, 1, 1, 1, 1, 1, 1, 1, 1, 1, 1, 1, 1, 1, 1, 1, 1, 1, 1, 1, 1, 1, 1, 1, 1, 1, 1, 1, 1, 1, 1, 1, 1, 1, 1, 1, 1, 1, 1, 1, 1, 1, 1, 1, 1, 1, 1, 1, 1, 1, 1, 1, 1, 1, 1, 1, 1, 1, 1]
  | .exit 1 => [1, 0, 1, 1, 1, 1, 1, 1, 1, 1, 1, 1, 1, 1, 1, 1, 1, 1, 1, 1, 1, 1, 1, 1, 1, 1, 1, 1, 1, 1, 1, 1, 1, 1, 1, 1, 1, 1, 1, 1, 1, 1, 1, 1, 1, 1, 1, 1, 1, 1, 1, 1, 1, 1, 1, 1, 1, 1, 1, 1, 1, 1, 1, 1, 1, 1, 1, 1, 1, 1, 1, 1, 0, 0, 1, 1, 1, 1, 1, 1, 1, 1, 1, 1, 1, 1, 1, 1, 1, 1, 1, 1, 1, 1, 1, 1, 1, 1, 1, 1, 1, 1, 1, 1, 1]
  | .exit 2 => [1, 0, 1, 1, 1, 1, 1, 1, 1, 1, 1, 1, 1, 1, 1, 1, 1, 1, 1, 1, 1, 1, 1, 1, 1, 1, 1, 1, 1, 1, 1, 1, 1, 1, 1, 1, 1, 1, 1, 1, 1, 1, 1, 1, 1, 1, 1, 1, 1, 1, 1, 1, 1, 1, 1, 1, 1, 1, 1, 1, 1, 1, 1, 1, 1, 1, 1, 1, 1, 1, 1, 1, 0, 0, 1, 1, 1, 1, 1, 1, 1, 1, 1, 1, 1, 1, 1, 1, 1, 1, 1, 1, 1, 1, 1, 1, 1, 1, 1, 1, 1, 1, 1, 1, 1]
  | .ret => [1, 1, 0, 1, 1, 1, 1, 1, 1, 1, 1, 1, 1, 1, 1, 1, 1, 1, 1, 1, 1, 1, 1, 1, 1, 1, 1, 1, 1, 1, 1, 1, 1, 1, 1, 1, 1, 1, 1, 1, 1, 1, 1, 1, 1, 1, 1, 1, 1, 1, 1, 1, 1, 1, 1, 1, 1, 1, 1, 1, 1, 1, 1, 1, 1, 1, 1, 1, 1, 1, 1, 1, 1, 1, 1, 1, 1, 1, 1, 1, 1, 1, 1, 1, 1, 1, 1, 1, 1, 1, 1, 1, 1, 1, 1, 1, 1, 1, 1, 1, 1, 1, 1, 1, 1]
  | _ => []
noncomputable def impl_ValidSparse_l0_T (v179 : Int) (v180 : List Int) (v181 : List Int) (v182 : List Nat) (s : Int) : Tree ((Int) ⊕ ((Unit) ⊕ (Unit))) :=
  (.br (decide (s < v179)) (
   (.grd (inb s v180.length) <|
   (.need (some (impl_ValidSparse_l2_E v179 v180 v181 v182 s (IntKind.i64.wrap ((nth v180 (Int.toNat s)) + (1 : Int)))) = some (impl_ValidSparse_l2_E v179 v180 v181 v182 s (IntKind.i64.wrap ((nth v180 (Int.toNat s)) + (1 : Int))))) <|
   (.call (impl_ValidSparse_l2_g v180 v181 s (IntKind.i64.wrap ((nth v180 (Int.toNat s)) + (1 : Int)))) fun v261 =>
   (.sum v261 (fun v262 =>
    .leaf (.inr (.inl ()))
   ) (fun v263 =>
    .leaf (.inl (IntKind.i64.wrap (s + (1 : Int))))
   )))))
  ) (
   .leaf (.inr (.inr ()))
  ))

noncomputable def impl_ValidSparse_l0_g (v179 : Int) (v180 : List Int) (v181 : List Int) (v182 : List Nat) (s0 : Int) : Option ((Unit) ⊕ (Unit)) := whileM (fun s => (impl_ValidSparse_l0_T v179 v180 v181 v182 s).run) s0
def impl_ValidSparse_l0_E (v179 : Int) (v180 : List Int) (v181 : List Int) (v182 : List Nat) (s : Int) : Sd := ([.top, .ptr 0 (0 : Nat) 0 (4 : Nat), .top, .top, .top, .top, .top, .top, .top, .top, .top, .top, .top, .top, .top, .top, .top, .top, .top, .top, .top, .top, .top, .top, .top, .top, .top, .top, .top, .top, .top, .top, .top, .top, .top, .top, .top, .top, .top, .top, .top, .top, .top, .top, .top, .top, .top, .top, .top, .top, .top, .top, .top, .top, .top, .top, .top, .top, .top, .top, .top, .top, .top, .top, .top, .top, .top, .top, .top, .top, .top, .top, .int .i64 v179, .int .i64 s, .top, .top, .top, .top, .top, .top, .top, .top, .top, .top, .top, .top, .top, .top, .top, .top, .top, .top, .top, .top, .top, .top, .top, .top, .top, .top, .top, .top, .top, .top, .top], [.gen [.int .i64 v179, .bslc (BR.root 0) (.i64 v180), .bslc (BR.root 1) (.i64 v181), .bslc (BR.root 2) (.f32 v182)] false 0])
def impl_ValidSparse_l0_X (v179 : Int) (v180 : List Int) (v181 : List Int) (v182 : List Nat) (x : (Unit) ⊕ (Unit)) : Out := (match x with | .inl x => (.ret, [.top, .top, .lit false, .top, .top, .top, .top, .top, .top, .top, .top, .top, .top, .top, .top, .top, .top, .top, .top, .top, .top, .top, .top, .top, .top, .top, .top, .top, .top, .top, .top, .top, .top, .top, .top, .top, .top, .top, .top, .top, .top, .top, .top, .top, .top, .top, .top, .top, .top, .top, .top, .top, .top, .top, .top, .top, .top, .top, .top, .top, .top, .top, .top, .top, .top, .top, .top, .top, .top, .top, .top, .top, .top, .top, .top, .top, .top, .top, .top, .top, .top, .top, .top, .top, .top, .top, .top, .top, .top, .top, .top, .top, .top, .top, .top, .top, .top, .top, .top, .top, .top, .top, .top, .top, .top], []) | .inr x => (.normal, [.top, .top, .top, .top, .top, .top, .top, .top, .top, .top, .top, .top, .top, .top, .top, .top, .top, .top, .top, .top, .top, .top, .top, .top, .top, .top, .top, .top, .top, .top, .top, .top, .top, .top, .top, .top, .top, .top, .top, .top, .top, .top, .top, .top, .top, .top, .top, .top, .top, .top, .top, .top, .top, .top, .top, .top, .top, .top, .top, .top, .top, .top, .top, .top, .top, .top, .top, .top, .top, .top, .top, .top, .top, .top, .top, .top, .top, .top, .top, .top, .top, .top, .top, .top, .top, .top, .top, .top, .top, .top, .top, .top, .top, .top, .top, .top, .top, .top, .top, .top, .top, .top, .top, .top, .top], []))
def impl_ValidSparse_l0_kill : List Nat := [1, 0, 1, 1, 1, 1, 1, 1, 1, 1, 1, 1, 1, 1, 1, 1, 1, 1, 1, 1, 1, 1, 1, 1, 1, 1, 1, 1, 1, 1, 1, 1, 1, 1, 1, 1, 1, 1, 1, 1, 1, 1, 1, 1, 1, 1, 1, 1, 1, 1, 1, 1, 1, 1, 1, 1, 1, 1, 1, 1, 1, 1, 1, 1, 1, 1, 1, 1, 1, 1, 1, 1, 0, 0, 1, 1, 1, 1, 1, 1, 1, 1, 1, 1, 1, 1, 1, 1, 1, 1, 1, 1, 1, 1, 1, 1, 1, 1, 1, 1, 1, 1, 1, 1, 1]
def impl_ValidSparse_l0_nx : Exit → List Nat
  | .exit 0 => [1, 1, 1, 1, 1, 1, 1, 1, 1, 1, 1, 1, 1, 1, 1, 1, 1, 1, 1, 1, 1, 1, 1, 1, 1, 1, 1, 1, 1, 1, 1, 1, 1, 1, 1, 1, 1, 1, 1, 1, 1, 1, 1, 1, 1, 1, 1, 1, 1, 1, 1, 1, 1, 1, 1, 1, 1, 1, 1, 1, 1, 1, 1, 1, 1, 1, 1, 1, 1, 1, 1, 1, 1, 1, 1, 1, 1, 1, 1, 1, 1, 1, 1, 1, 1, 1, 1, 1, 1, 1, 1, 1, 1, 1, 1, 1, 1, 1, 1, 1, 1, 1, 1, 1, 1]
  | .ret => [1, 1, 0, 1, 1, 1, 1, 1, 1, 1, 1, 1, 1, 1, 1, 1, 1, 1, 1, 1, 1, 1, 1, 1, 1, 1, 1, 1, 1, 1, 1, 1, 1, 1, 1, 1, 1, 1, 1, 1, 1, 1, 1, 1, 1, 1, 1, 1, 1, 1, 1, 1, 1, 1, 1, 1, 1, 1, 1, 1, 1, 1, 1, 1, 1, 1, 1, 1, 1, 1, 1, 1, 1, 1, 1, 1, 1, 1, 1, 1, 1, 1, 1, 1, 1, 1, 1, 1, 1, 1, 1, 1, 1, 1, 1, 1, 1, 1, 1, 1, 1, 1, 1, 1, 1]
  | _ => []
noncomputable def impl_ValidSparse_LO (v179 : Int) (v180 : List Int) (v181 : List Int) (v182 : List Nat) : LOr := fun id e L =>
  match id with
  | 2 => .need (normA 0 impl_ValidSparse_l2_kill e L = some (impl_ValidSparse_l2_E v179 v180 v181 v182 (gI (vAt e 4)) (gI (vAt e 5)))) (.call (impl_ValidSparse_l2_g v180 v181 (gI (vAt e 4)) (gI (vAt e 5))) fun x => .sum x (fun b0 => .leaf (impl_ValidSparse_l2_X v179 v180 v181 v182 (gI (vAt e 4)) (.inl b0))) (fun c0 => .leaf (impl_ValidSparse_l2_X v179 v180 v181 v182 (gI (vAt e 4)) (.inr c0))))
  | 0 => .need (normA 0 impl_ValidSparse_l0_kill e L = some (impl_ValidSparse_l0_E v179 v180 v181 v182 (gI (vAt e 73)))) (.call (impl_ValidSparse_l0_g v179 v180 v181 v182 (gI (vAt e 73))) fun x => .sum x (fun b0 => .leaf (impl_ValidSparse_l0_X v179 v180 v181 v182 (.inl b0))) (fun c0 => .leaf (impl_ValidSparse_l0_X v179 v180 v181 v182 (.inr c0))))
  | _ => .fail
noncomputable def impl_ValidSparse_tab : List (FuncId × DFn × Bool) := [(109, impl_lengthI_F, true), (72, impl_inRange_F, true), (162, slices_IsSortedI_F, true), (163, impl_allIn_F, true), (135, impl_areFinite_F, true)]
theorem impl_ValidSparse_hO : OrcOk Try.prog (tabD impl_ValidSparse_tab) (tabM impl_ValidSparse_tab) := tabD_cons impl_lengthI_Fok (tabD_cons impl_inRange_Fok (tabD_cons slices_IsSortedI_Fok (tabD_cons impl_allIn_Fok (tabD_cons impl_areFinite_Fok (tabD_nil _)))))
theorem impl_ValidSparse_l2_be (v179 : Int) (v180 : List Int) (v181 : List Int) (v182 : List Nat) (v259 : Int) (s : Int) : bodyT TT (tabD impl_ValidSparse_tab) (tabM impl_ValidSparse_tab) (impl_ValidSparse_LO v179 v180 v181 v182) 0 impl_ValidSparse_l2_kill impl_ValidSparse_l2_nx (bodyOf Try.f132 2) 2 (impl_ValidSparse_l2_E v179 v180 v181 v182 v259 s) = (impl_ValidSparse_l2_T v180 v181 v259 s).bind fun y => .leaf (outS (impl_ValidSparse_l2_E v179 v180 v181 v182 v259) (impl_ValidSparse_l2_X v179 v180 v181 v182 v259) y) := by kernel_rfl
theorem impl_ValidSparse_l2_ok (v179 : Int) (v180 : List Int) (v181 : List Int) (v182 : List Nat) : LSound Try.prog 0 (impl_ValidSparse_LO v179 v180 v181 v182) 2 (bodyOf Try.f132 2) := by
  intro e L out h
  exact lo_ok (E := impl_ValidSparse_l2_E v179 v180 v181 v182 (gI (vAt e 4))) (gT := impl_ValidSparse_l2_T v180 v181 (gI (vAt e 4))) (X := impl_ValidSparse_l2_X v179 v180 v181 v182 (gI (vAt e 4))) (s0 := (gI (vAt e 5))) tok impl_ValidSparse_hO mixed (LoopsOk_eq (l := []) (by kernel_rfl) trivial) (impl_ValidSparse_l2_be v179 v180 v181 v182 (gI (vAt e 4))) rfl (by intro x; (cases x with | inl b => rfl | inr x => exact rfl)) h
theorem impl_ValidSparse_l0_be (v179 : Int) (v180 : List Int) (v181 : List Int) (v182 : List Nat) (s : Int) : bodyT TT (tabD impl_ValidSparse_tab) (tabM impl_ValidSparse_tab) (impl_ValidSparse_LO v179 v180 v181 v182) 0 impl_ValidSparse_l0_kill impl_ValidSparse_l0_nx (bodyOf Try.f132 0) 0 (impl_ValidSparse_l0_E v179 v180 v181 v182 s) = (impl_ValidSparse_l0_T v179 v180 v181 v182 s).bind fun y => .leaf (outS (impl_ValidSparse_l0_E v179 v180 v181 v182) (impl_ValidSparse_l0_X v179 v180 v181 v182) y) := by kernel_rfl
theorem impl_ValidSparse_l0_ok (v179 : Int) (v180 : List Int) (v181 : List Int) (v182 : List Nat) : LSound Try.prog 0 (impl_ValidSparse_LO v179 v180 v181 v182) 0 (bodyOf Try.f132 0) := by
  intro e L out h
  exact lo_ok (E := impl_ValidSparse_l0_E v179 v180 v181 v182) (gT := impl_ValidSparse_l0_T v179 v180 v181 v182) (X := impl_ValidSparse_l0_X v179 v180 v181 v182) (s0 := (gI (vAt e 73))) tok impl_ValidSparse_hO mixed (LoopsOk_eq (l := [(2, bodyOf Try.f132 2)]) (by kernel_rfl) ⟨impl_ValidSparse_l2_ok v179 v180 v181 v182, trivial⟩) (impl_ValidSparse_l0_be v179 v180 v181 v182) rfl (by intro x; (cases x with | inl b => rfl | inr x => exact rfl)) h
noncomputable def impl_ValidSparse_T (v179 : Int) (v180 : List Int) (v181 : List Int) (v182 : List Nat) : Tree (Bool) :=
  (.br (!(impl_inRange_v v179 (1 : Int) (32 : Int))) (
   .leaf false
  ) (
   (.br (!decide ((impl_lengthI_v v180) = IntKind.i64.wrap (v179 + (1 : Int)))) (
    .leaf false
   ) (
    (.br (decide ((512 : Int) < (impl_lengthI_v v181))) (
     .leaf false
    ) (
     (.br (!decide (((v182.length : Nat) : Int) = ((v181.length : Nat) : Int))) (
      .leaf false
     ) (
      (.grd (inb (0 : Int) v180.length) <|
      (.br (!decide (nth v180 (Int.toNat (0 : Int)) = (0 : Int))) (
       .leaf false
      ) (
       (.grd (inb v179 v180.length) <|
       (.br (!decide (nth v180 (Int.toNat v179) = (impl_lengthI_v v181))) (
        .leaf false
       ) (
        (.call (slices_IsSortedI_g v180) fun v194 =>
        (.br (!v194) (
         .leaf false
        ) (
         (.call (impl_allIn_g v181 (0 : Int) (IntKind.i64.wrap (v179 - (1 : Int)))) fun v215 =>
         (.br (!v215) (
          .leaf false
         ) (
          (.call (impl_areFinite_g v182) fun v233 =>
          (.br (!v233) (
           .leaf false
          ) (
           (.need (some (impl_ValidSparse_l0_E v179 v180 v181 v182 (0 : Int)) = some (impl_ValidSparse_l0_E v179 v180 v181 v182 (0 : Int))) <|
           (.call (impl_ValidSparse_l0_g v179 v180 v181 v182 (0 : Int)) fun v264 =>
           (.sum v264 (fun v265 =>
            .leaf false
           ) (fun v266 =>
            .leaf true
           ))))
          )))
         )))
        )))
       )))
      )))
     ))
    ))
   ))
  ))

noncomputable def impl_ValidSparse_g (v179 : Int) (v180 : List Int) (v181 : List Int) (v182 : List Nat) : Option (Bool) := (impl_ValidSparse_T v179 v180 v181 v182).run
def impl_ValidSparse_enc (v179 : Int) (v180 : List Int) (v181 : List Int) (v182 : List Nat) (y : Bool) : Rs := (.bool y, [])
theorem impl_ValidSparse_den (v179 : Int) (v180 : List Int) (v181 : List Int) (v182 : List Nat) : (den TT (tabD impl_ValidSparse_tab) (tabM impl_ValidSparse_tab) (impl_ValidSparse_LO v179 v180 v181 v182) (codeOf Try.f132) ([.agg [.int .i64 v179, .bslc (BR.root 0) (.i64 v180), .bslc (BR.root 1) (.i64 v181), .bslc (BR.root 2) (.f32 v182)]] ++ List.replicate (Try.f132.ntmps - ([.agg [.int .i64 v179, .bslc (BR.root 0) (.i64 v180), .bslc (BR.root 1) (.i64 v181), .bslc (BR.root 2) (.f32 v182)]] : List DV).length) .undef) []).bind (retD TT Try.f132.results.toList 0) = (impl_ValidSparse_T v179 v180 v181 v182).bind fun y => .leaf (impl_ValidSparse_enc v179 v180 v181 v182 y) := by kernel_rfl
theorem impl_ValidSparse_fn (v179 : Int) (v180 : List Int) (v181 : List Int) (v182 : List Nat) (F : Fr) (hm : F.ids.length = 0) (h0 : St F [] F.H0) (hA : DVs.Ok F [] [.agg [.int .i64 v179, .bslc (BR.root 0) (.i64 v180), .bslc (BR.root 1) (.i64 v181), .bslc (BR.root 2) (.f32 v182)]]) {y : Bool} (hy : impl_ValidSparse_g v179 v180 v181 v182 = some y) : ∃ H', FnOk Try.prog 132 (DVs.av F [.agg [.int .i64 v179, .bslc (BR.root 0) (.i64 v180), .bslc (BR.root 1) (.i64 v181), .bslc (BR.root 2) (.f32 v182)]]) F.H0 ((impl_ValidSparse_enc v179 v180 v181 v182 y).1.av F) H' ∧ St F (impl_ValidSparse_enc v179 v180 v181 v182 y).2 H' ∧ (impl_ValidSparse_enc v179 v180 v181 v182 y).1.Ok F (impl_ValidSparse_enc v179 v180 v181 v182 y).2 :=
  fn_fin tok impl_ValidSparse_hO mixed Try.func132 Try.call132 (by kernel_rfl) (LoopsOk_eq (l := [(0, bodyOf Try.f132 0)]) (by kernel_rfl) ⟨impl_ValidSparse_l0_ok v179 v180 v181 v182, trivial⟩) (impl_ValidSparse_den v179 v180 v181 v182) hy hm h0 hA
noncomputable def impl_ValidSparse_F : DFn := fun args L =>
  match args with
  | [.agg [.int .i64 v179, a1, a2, a3]] =>
    optT (rowI64 L a1) fun v180 =>
    optT (rowI64 L a2) fun v181 =>
    optT (rowF32 L a3) fun v182 =>
    .call (impl_ValidSparse_g v179 v180 v181 v182) fun y => .leaf (.bool y, L)
  | _ => .fail
theorem impl_ValidSparse_Fok : COk Try.prog 132 impl_ValidSparse_F true := by
  intro F L H args r L' hs ha hr
  unfold impl_ValidSparse_F at hr
  split at hr
  · rename_i v179 a1 a2 a3
    obtain ⟨v180, hv180, hr⟩ := optT_run hr
    obtain ⟨v181, hv181, hr⟩ := optT_run hr
    obtain ⟨v182, hv182, hr⟩ := optT_run hr
    simp only [Tree.run] at hr
    obtain ⟨y, hy, hr⟩ := Option.bind_eq_some_iff.1 hr
    simp only [Tree.run, Option.some.injEq, Prod.mk.injEq] at hr
    obtain ⟨rfl, rfl⟩ := hr
    exact call_ok0 hs (fun k => (([a1.av F, a2.av F, a3.av F] : List AV)[k]?).getD .top) [.agg [.int .i64 v179, a1, a2, a3]] [.agg [.int .i64 v179, .bslc (BR.root 0) (.i64 v180), .bslc (BR.root 1) (.i64 v181), .bslc (BR.root 2) (.f32 v182)]] (fun F' h0 hi hρ => ⟨by simp [DVs.av, DV.av, BR.av, hρ], impl_ValidSparse_fn v179 v180 v181 v182 F' (by rw [hi]; rfl) (st_nil hi) ⟨⟨trivial, bslc_ok hi (by rw [h0, hρ]; exact rowI64_ok hs (DVs.okAt (DVs.okAt ha 0 rfl) 1 rfl) hv180), bslc_ok hi (by rw [h0, hρ]; exact rowI64_ok hs (DVs.okAt (DVs.okAt ha 0 rfl) 2 rfl) hv181), bslc_ok hi (by rw [h0, hρ]; exact rowF32_ok hs (DVs.okAt (DVs.okAt ha 0 rfl) 3 rfl) hv182), trivial⟩, trivial⟩ hy⟩) rfl
  · cases hr
/-! impl.length[float32] -/
noncomputable def impl_lengthF_LO (v269 : List Nat) : LOr := fun id e L =>
  match id with
  | _ => .fail
noncomputable def impl_lengthF_tab : List (FuncId × DFn × Bool) := []
theorem impl_lengthF_hO : OrcOk Try.prog (tabD impl_lengthF_tab) (tabM impl_lengthF_tab) := tabD_nil _
noncomputable def impl_lengthF_T (v269 : List Nat) : Tree (Int) :=
  .leaf ((v269.length : Nat) : Int)

noncomputable def impl_lengthF_g (v269 : List Nat) : Option (Int) := (impl_lengthF_T v269).run
def impl_lengthF_enc (v269 : List Nat) (y : Int) : Rs := (.int .i64 y, [])
theorem impl_lengthF_den (v269 : List Nat) : (den TT (tabD impl_lengthF_tab) (tabM impl_lengthF_tab) (impl_lengthF_LO v269) (codeOf Try.f134) ([.bslc (BR.root 0) (.f32 v269)] ++ List.replicate (Try.f134.ntmps - ([.bslc (BR.root 0) (.f32 v269)] : List DV).length) .undef) []).bind (retD TT Try.f134.results.toList 0) = (impl_lengthF_T v269).bind fun y => .leaf (impl_lengthF_enc v269 y) := by kernel_rfl
theorem impl_lengthF_fn (v269 : List Nat) (F : Fr) (hm : F.ids.length = 0) (h0 : St F [] F.H0) (hA : DVs.Ok F [] [.bslc (BR.root 0) (.f32 v269)]) {y : Int} (hy : impl_lengthF_g v269 = some y) : ∃ H', FnOk Try.prog 134 (DVs.av F [.bslc (BR.root 0) (.f32 v269)]) F.H0 ((impl_lengthF_enc v269 y).1.av F) H' ∧ St F (impl_lengthF_enc v269 y).2 H' ∧ (impl_lengthF_enc v269 y).1.Ok F (impl_lengthF_enc v269 y).2 :=
  fn_fin tok impl_lengthF_hO mixed Try.func134 Try.call134 (by kernel_rfl) (LoopsOk_eq (l := []) (by kernel_rfl) trivial) (impl_lengthF_den v269) hy hm h0 hA
def impl_lengthF_v (v269 : List Nat) : Int :=
  ((v269.length : Nat) : Int)
theorem impl_lengthF_tot (v269 : List Nat) : impl_lengthF_g v269 = some (impl_lengthF_v v269) := by
  unfold impl_lengthF_g impl_lengthF_T impl_lengthF_v
  simp only [Tree.run]
  repeat' (first | rfl | split)
noncomputable def impl_lengthF_F : DFn := fun args L =>
  match args with
  | [a1] =>
    optT (rowF32 L a1) fun v269 =>
    .leaf (.int .i64 (impl_lengthF_v v269), L)
  | _ => .fail
theorem impl_lengthF_Fok : COk Try.prog 134 impl_lengthF_F true := by
  intro F L H args r L' hs ha hr
  unfold impl_lengthF_F at hr
  split at hr
  · rename_i a1
    obtain ⟨v269, hv269, hr⟩ := optT_run hr
    have hy := impl_lengthF_tot v269
    generalize impl_lengthF_v v269 = y at hy hr
    simp only [Tree.run, Option.some.injEq, Prod.mk.injEq] at hr
    obtain ⟨rfl, rfl⟩ := hr
    exact call_ok0 hs (fun k => (([a1.av F] : List AV)[k]?).getD .top) [a1] [.bslc (BR.root 0) (.f32 v269)] (fun F' h0 hi hρ => ⟨by simp [DVs.av, DV.av, BR.av, hρ], impl_lengthF_fn v269 F' (by rw [hi]; rfl) (st_nil hi) ⟨bslc_ok hi (by rw [h0, hρ]; exact rowF32_ok hs (DVs.okAt ha 0 rfl) hv269), trivial⟩ hy⟩) rfl
  · cases hr
/-! impl.IsVector -/
noncomputable def impl_IsVector_LO (v268 : List Nat) : LOr := fun id e L =>
  match id with
  | _ => .fail
noncomputable def impl_IsVector_tab : List (FuncId × DFn × Bool) := [(134, impl_lengthF_F, true), (72, impl_inRange_F, true), (135, impl_areFinite_F, true)]
theorem impl_IsVector_hO : OrcOk Try.prog (tabD impl_IsVector_tab) (tabM impl_IsVector_tab) := tabD_cons impl_lengthF_Fok (tabD_cons impl_inRange_Fok (tabD_cons impl_areFinite_Fok (tabD_nil _)))
noncomputable def impl_IsVector_T (v268 : List Nat) : Tree (Bool) :=
  (.br (impl_inRange_v (impl_lengthF_v v268) (1 : Int) (256 : Int)) (
   (.call (impl_areFinite_g v268) fun v270 =>
   .leaf v270)
  ) (
   .leaf false
  ))

noncomputable def impl_IsVector_g (v268 : List Nat) : Option (Bool) := (impl_IsVector_T v268).run
def impl_IsVector_enc (v268 : List Nat) (y : Bool) : Rs := (.bool y, [])
theorem impl_IsVector_den (v268 : List Nat) : (den TT (tabD impl_IsVector_tab) (tabM impl_IsVector_tab) (impl_IsVector_LO v268) (codeOf Try.f133) ([.bslc (BR.root 0) (.f32 v268)] ++ List.replicate (Try.f133.ntmps - ([.bslc (BR.root 0) (.f32 v268)] : List DV).length) .undef) []).bind (retD TT Try.f133.results.toList 0) = (impl_IsVector_T v268).bind fun y => .leaf (impl_IsVector_enc v268 y) := by kernel_rfl
theorem impl_IsVector_fn (v268 : List Nat) (F : Fr) (hm : F.ids.length = 0) (h0 : St F [] F.H0) (hA : DVs.Ok F [] [.bslc (BR.root 0) (.f32 v268)]) {y : Bool} (hy : impl_IsVector_g v268 = some y) : ∃ H', FnOk Try.prog 133 (DVs.av F [.bslc (BR.root 0) (.f32 v268)]) F.H0 ((impl_IsVector_enc v268 y).1.av F) H' ∧ St F (impl_IsVector_enc v268 y).2 H' ∧ (impl_IsVector_enc v268 y).1.Ok F (impl_IsVector_enc v268 y).2 :=
  fn_fin tok impl_IsVector_hO mixed Try.func133 Try.call133 (by kernel_rfl) (LoopsOk_eq (l := []) (by kernel_rfl) trivial) (impl_IsVector_den v268) hy hm h0 hA
noncomputable def impl_IsVector_F : DFn := fun args L =>
  match args with
  | [a1] =>
    optT (rowF32 L a1) fun v268 =>
    .call (impl_IsVector_g v268) fun y => .leaf (.bool y, L)
  | _ => .fail
theorem impl_IsVector_Fok : COk Try.prog 133 impl_IsVector_F true := by
  intro F L H args r L' hs ha hr
  unfold impl_IsVector_F at hr
  split at hr
  · rename_i a1
    obtain ⟨v268, hv268, hr⟩ := optT_run hr
    simp only [Tree.run] at hr
    obtain ⟨y, hy, hr⟩ := Option.bind_eq_some_iff.1 hr
    simp only [Tree.run, Option.some.injEq, Prod.mk.injEq] at hr
    obtain ⟨rfl, rfl⟩ := hr
    exact call_ok0 hs (fun k => (([a1.av F] : List AV)[k]?).getD .top) [a1] [.bslc (BR.root 0) (.f32 v268)] (fun F' h0 hi hρ => ⟨by simp [DVs.av, DV.av, BR.av, hρ], impl_IsVector_fn v268 F' (by rw [hi]; rfl) (st_nil hi) ⟨bslc_ok hi (by rw [h0, hρ]; exact rowF32_ok hs (DVs.okAt ha 0 rfl) hv268), trivial⟩ hy⟩) rfl
  · cases hr
/-! (impl.Sparse).takes -/
noncomputable def impl_Sparse_takes_LO (v174 : Int) (v175 : List Int) (v176 : List Int) (v177 : List Nat) (v178 : List Nat) : LOr := fun id e L =>
  match id with
  | _ => .fail
noncomputable def impl_Sparse_takes_tab : List (FuncId × DFn × Bool) := [(132, impl_ValidSparse_F, true), (133, impl_IsVector_F, true), (134, impl_lengthF_F, true)]
theorem impl_Sparse_takes_hO : OrcOk Try.prog (tabD impl_Sparse_takes_tab) (tabM impl_Sparse_takes_tab) := tabD_cons impl_ValidSparse_Fok (tabD_cons impl_IsVector_Fok (tabD_cons impl_lengthF_Fok (tabD_nil _)))
noncomputable def impl_Sparse_takes_T (v174 : Int) (v175 : List Int) (v176 : List Int) (v177 : List Nat) (v178 : List Nat) : Tree (Bool) :=
  (.call (impl_ValidSparse_g v174 v175 v176 v177) fun v267 =>
  (.br v267 (
   (.call (impl_IsVector_g v178) fun v271 =>
   (.br v271 (
    .leaf (decide ((impl_lengthF_v v178) = v174))
   ) (
    .leaf false
   )))
  ) (
   .leaf false
  )))

noncomputable def impl_Sparse_takes_g (v174 : Int) (v175 : List Int) (v176 : List Int) (v177 : List Nat) (v178 : List Nat) : Option (Bool) := (impl_Sparse_takes_T v174 v175 v176 v177 v178).run
def impl_Sparse_takes_enc (v174 : Int) (v175 : List Int) (v176 : List Int) (v177 : List Nat) (v178 : List Nat) (y : Bool) : Rs := (.bool y, [])
theorem impl_Sparse_takes_den (v174 : Int) (v175 : List Int) (v176 : List Int) (v177 : List Nat) (v178 : List Nat) : (den TT (tabD impl_Sparse_takes_tab) (tabM impl_Sparse_takes_tab) (impl_Sparse_takes_LO v174 v175 v176 v177 v178) (codeOf Try.f68) ([.agg [.int .i64 v174, .bslc (BR.root 0) (.i64 v175), .bslc (BR.root 1) (.i64 v176), .bslc (BR.root 2) (.f32 v177)], .bslc (BR.root 3) (.f32 v178)] ++ List.replicate (Try.f68.ntmps - ([.agg [.int .i64 v174, .bslc (BR.root 0) (.i64 v175), .bslc (BR.root 1) (.i64 v176), .bslc (BR.root 2) (.f32 v177)], .bslc (BR.root 3) (.f32 v178)] : List DV).length) .undef) []).bind (retD TT Try.f68.results.toList 0) = (impl_Sparse_takes_T v174 v175 v176 v177 v178).bind fun y => .leaf (impl_Sparse_takes_enc v174 v175 v176 v177 v178 y) := by kernel_rfl
theorem impl_Sparse_takes_fn (v174 : Int) (v175 : List Int) (v176 : List Int) (v177 : List Nat) (v178 : List Nat) (F : Fr) (hm : F.ids.length = 0) (h0 : St F [] F.H0) (hA : DVs.Ok F [] [.agg [.int .i64 v174, .bslc (BR.root 0) (.i64 v175), .bslc (BR.root 1) (.i64 v176), .bslc (BR.root 2) (.f32 v177)], .bslc (BR.root 3) (.f32 v178)]) {y : Bool} (hy : impl_Sparse_takes_g v174 v175 v176 v177 v178 = some y) : ∃ H', FnOk Try.prog 68 (DVs.av F [.agg [.int .i64 v174, .bslc (BR.root 0) (.i64 v175), .bslc (BR.root 1) (.i64 v176), .bslc (BR.root 2) (.f32 v177)], .bslc (BR.root 3) (.f32 v178)]) F.H0 ((impl_Sparse_takes_enc v174 v175 v176 v177 v178 y).1.av F) H' ∧ St F (impl_Sparse_takes_enc v174 v175 v176 v177 v178 y).2 H' ∧ (impl_Sparse_takes_enc v174 v175 v176 v177 v178 y).1.Ok F (impl_Sparse_takes_enc v174 v175 v176 v177 v178 y).2 :=
  fn_fin tok impl_Sparse_takes_hO mixed Try.func68 Try.call68 (by kernel_rfl) (LoopsOk_eq (l := []) (by kernel_rfl) trivial) (impl_Sparse_takes_den v174 v175 v176 v177 v178) hy hm h0 hA
noncomputable def impl_Sparse_takes_F : DFn := fun args L =>
  match args with
  | [.agg [.int .i64 v174, a1, a2, a3], a4] =>
    optT (rowI64 L a1) fun v175 =>
    optT (rowI64 L a2) fun v176 =>
    optT (rowF32 L a3) fun v177 =>
    optT (rowF32 L a4) fun v178 =>
    .call (impl_Sparse_takes_g v174 v175 v176 v177 v178) fun y => .leaf (.bool y, L)
  | _ => .fail
theorem impl_Sparse_takes_Fok : COk Try.prog 68 impl_Sparse_takes_F true := by
  intro F L H args r L' hs ha hr
  unfold impl_Sparse_takes_F at hr
  split at hr
  · rename_i v174 a1 a2 a3 a4
    obtain ⟨v175, hv175, hr⟩ := optT_run hr
    obtain ⟨v176, hv176, hr⟩ := optT_run hr
    obtain ⟨v177, hv177, hr⟩ := optT_run hr
    obtain ⟨v178, hv178, hr⟩ := optT_run hr
    simp only [Tree.run] at hr
    obtain ⟨y, hy, hr⟩ := Option.bind_eq_some_iff.1 hr
    simp only [Tree.run, Option.some.injEq, Prod.mk.injEq] at hr
    obtain ⟨rfl, rfl⟩ := hr
    exact call_ok0 hs (fun k => (([a1.av F, a2.av F, a3.av F, a4.av F] : List AV)[k]?).getD .top) [.agg [.int .i64 v174, a1, a2, a3], a4] [.agg [.int .i64 v174, .bslc (BR.root 0) (.i64 v175), .bslc (BR.root 1) (.i64 v176), .bslc (BR.root 2) (.f32 v177)], .bslc (BR.root 3) (.f32 v178)] (fun F' h0 hi hρ => ⟨by simp [DVs.av, DV.av, BR.av, hρ], impl_Sparse_takes_fn v174 v175 v176 v177 v178 F' (by rw [hi]; rfl) (st_nil hi) ⟨⟨trivial, bslc_ok hi (by rw [h0, hρ]; exact rowI64_ok hs (DVs.okAt (DVs.okAt ha 0 rfl) 1 rfl) hv175), bslc_ok hi (by rw [h0, hρ]; exact rowI64_ok hs (DVs.okAt (DVs.okAt ha 0 rfl) 2 rfl) hv176), bslc_ok hi (by rw [h0, hρ]; exact rowF32_ok hs (DVs.okAt (DVs.okAt ha 0 rfl) 3 rfl) hv177), trivial⟩, bslc_ok hi (by rw [h0, hρ]; exact rowF32_ok hs (DVs.okAt ha 1 rfl) hv178), trivial⟩ hy⟩) rfl
  · cases hr
/-! impl.mul -/
noncomputable def impl_mul_LO (v291 : Nat) (v292 : Nat) : LOr := fun id e L =>
  match id with
  | _ => .fail
noncomputable def impl_mul_tab : List (FuncId × DFn × Bool) := []
theorem impl_mul_hO : OrcOk Try.prog (tabD impl_mul_tab) (tabM impl_mul_tab) := tabD_nil _
noncomputable def impl_mul_T (v291 : Nat) (v292 : Nat) : Tree (Nat) :=
  .leaf (fmul .f32 v291 v292)

noncomputable def impl_mul_g (v291 : Nat) (v292 : Nat) : Option (Nat) := (impl_mul_T v291 v292).run
def impl_mul_enc (v291 : Nat) (v292 : Nat) (y : Nat) : Rs := (.flt .f32 y, [])
theorem impl_mul_den (v291 : Nat) (v292 : Nat) : (den TT (tabD impl_mul_tab) (tabM impl_mul_tab) (impl_mul_LO v291 v292) (codeOf Try.f80) ([.flt .f32 v291, .flt .f32 v292] ++ List.replicate (Try.f80.ntmps - ([.flt .f32 v291, .flt .f32 v292] : List DV).length) .undef) []).bind (retD TT Try.f80.results.toList 0) = (impl_mul_T v291 v292).bind fun y => .leaf (impl_mul_enc v291 v292 y) := by kernel_rfl
theorem impl_mul_fn (v291 : Nat) (v292 : Nat) (F : Fr) (hm : F.ids.length = 0) (h0 : St F [] F.H0) (hA : DVs.Ok F [] [.flt .f32 v291, .flt .f32 v292]) {y : Nat} (hy : impl_mul_g v291 v292 = some y) : ∃ H', FnOk Try.prog 80 (DVs.av F [.flt .f32 v291, .flt .f32 v292]) F.H0 ((impl_mul_enc v291 v292 y).1.av F) H' ∧ St F (impl_mul_enc v291 v292 y).2 H' ∧ (impl_mul_enc v291 v292 y).1.Ok F (impl_mul_enc v291 v292 y).2 :=
  fn_fin tok impl_mul_hO mixed Try.func80 Try.call80 (by kernel_rfl) (LoopsOk_eq (l := []) (by kernel_rfl) trivial) (impl_mul_den v291 v292) hy hm h0 hA
def impl_mul_v (v291 : Nat) (v292 : Nat) : Nat :=
  fmul .f32 v291 v292
theorem impl_mul_tot (v291 : Nat) (v292 : Nat) : impl_mul_g v291 v292 = some (impl_mul_v v291 v292) := by
  unfold impl_mul_g impl_mul_T impl_mul_v
  simp only [Tree.run]
  repeat' (first | rfl | split)
noncomputable def impl_mul_F : DFn := fun args L =>
  match args with
  | [.flt .f32 v291, .flt .f32 v292] =>
    .leaf (.flt .f32 (impl_mul_v v291 v292), L)
  | _ => .fail
theorem impl_mul_Fok : COk Try.prog 80 impl_mul_F true := by
  intro F L H args r L' hs ha hr
  unfold impl_mul_F at hr
  split at hr
  · rename_i v291 v292
    have hy := impl_mul_tot v291 v292
    generalize impl_mul_v v291 v292 = y at hy hr
    simp only [Tree.run, Option.some.injEq, Prod.mk.injEq] at hr
    obtain ⟨rfl, rfl⟩ := hr
    exact call_ok0 hs (fun k => (([] : List AV)[k]?).getD .top) [.flt .f32 v291, .flt .f32 v292] [.flt .f32 v291, .flt .f32 v292] (fun F' h0 hi hρ => ⟨by simp [DVs.av, DV.av, BR.av, hρ], impl_mul_fn v291 v292 F' (by rw [hi]; rfl) (st_nil hi) ⟨trivial, trivial, trivial⟩ hy⟩) rfl
  · cases hr
/-! (impl.Sparse).times$1 -/
noncomputable def impl_Sparse_times_1_LO (v293 : Int) (v294 : Nat) (v295 : Nat) (v296 : List Nat) : LOr := fun id e L =>
  match id with
  | _ => .fail
noncomputable def impl_Sparse_times_1_tab : List (FuncId × DFn × Bool) := [(80, impl_mul_F, true)]
theorem impl_Sparse_times_1_hO : OrcOk Try.prog (tabD impl_Sparse_times_1_tab) (tabM impl_Sparse_times_1_tab) := tabD_cons impl_mul_Fok (tabD_nil _)
noncomputable def impl_Sparse_times_1_T (v293 : Int) (v294 : Nat) (v295 : Nat) (v296 : List Nat) : Tree (Nat) :=
  (.grd (inb v293 v296.length) <|
  .leaf (fadd .f32 v295 (impl_mul_v v294 (nth v296 (Int.toNat v293)))))

noncomputable def impl_Sparse_times_1_g (v293 : Int) (v294 : Nat) (v295 : Nat) (v296 : List Nat) : Option (Nat) := (impl_Sparse_times_1_T v293 v294 v295 v296).run
def impl_Sparse_times_1_enc (v293 : Int) (v294 : Nat) (v295 : Nat) (v296 : List Nat) (y : Nat) : Rs := (.tup [], [.gen [.flt .f32 y] false 0])
theorem impl_Sparse_times_1_den (v293 : Int) (v294 : Nat) (v295 : Nat) (v296 : List Nat) : (den TT (tabD impl_Sparse_times_1_tab) (tabM impl_Sparse_times_1_tab) (impl_Sparse_times_1_LO v293 v294 v295 v296) (codeOf Try.f136) ([.int .i64 v293, .flt .f32 v294, .ptr 0 (0 : Nat) 0 (1 : Nat), .bptr (BR.root 1) [.bslc (BR.root 2) (.f32 v296)]] ++ List.replicate (Try.f136.ntmps - ([.int .i64 v293, .flt .f32 v294, .ptr 0 (0 : Nat) 0 (1 : Nat), .bptr (BR.root 1) [.bslc (BR.root 2) (.f32 v296)]] : List DV).length) .undef) [.gen [.flt .f32 v295] false 0]).bind (retD TT Try.f136.results.toList 1) = (impl_Sparse_times_1_T v293 v294 v295 v296).bind fun y => .leaf (impl_Sparse_times_1_enc v293 v294 v295 v296 y) := by kernel_rfl
theorem impl_Sparse_times_1_fn (v293 : Int) (v294 : Nat) (v295 : Nat) (v296 : List Nat) (F : Fr) (hm : F.ids.length = 1) (h0 : St F [.gen [.flt .f32 v295] false 0] F.H0) (hA : DVs.Ok F [.gen [.flt .f32 v295] false 0] [.int .i64 v293, .flt .f32 v294, .ptr 0 (0 : Nat) 0 (1 : Nat), .bptr (BR.root 1) [.bslc (BR.root 2) (.f32 v296)]]) {y : Nat} (hy : impl_Sparse_times_1_g v293 v294 v295 v296 = some y) : ∃ H', FnOk Try.prog 136 (DVs.av F [.int .i64 v293, .flt .f32 v294, .ptr 0 (0 : Nat) 0 (1 : Nat), .bptr (BR.root 1) [.bslc (BR.root 2) (.f32 v296)]]) F.H0 ((impl_Sparse_times_1_enc v293 v294 v295 v296 y).1.av F) H' ∧ St F (impl_Sparse_times_1_enc v293 v294 v295 v296 y).2 H' ∧ (impl_Sparse_times_1_enc v293 v294 v295 v296 y).1.Ok F (impl_Sparse_times_1_enc v293 v294 v295 v296 y).2 :=
  fn_fin tok impl_Sparse_times_1_hO mixed Try.func136 Try.call136 (by kernel_rfl) (LoopsOk_eq (l := []) (by kernel_rfl) trivial) (impl_Sparse_times_1_den v293 v294 v295 v296) hy hm h0 hA
noncomputable def impl_Sparse_times_1_F : DFn := fun args L =>
  match args with
  | [.int .i64 v293, .flt .f32 v294, a1, a2] =>
    optT (genOf L 1 false a1) fun qg0 =>
    (match qg0.2 with
    | [.flt .f32 v295] =>
    optT (cellsOf L 1 a2) fun cs1 =>
    (match cs1 with
    | [a3] =>
    optT (rowF32 L a3) fun v296 =>
    (match sepB [qg0.1] [DV.tip a2, a3] with
    | true =>
    .call (impl_Sparse_times_1_g v293 v294 v295 v296) fun y => .leaf (.tup [], setB L [(qg0.1, .gen [.flt .f32 y] false (verAt L qg0.1))] ++ [])
    | false => .fail)
    | _ => .fail)
    | _ => .fail)
  | _ => .fail
theorem impl_Sparse_times_1_Fok : COk Try.prog 136 impl_Sparse_times_1_F false := by
  intro F L H args r L' hs ha hr
  unfold impl_Sparse_times_1_F at hr
  split at hr
  · rename_i v293 v294 a1 a2
    obtain ⟨⟨jg0, cg0⟩, hg0, hr⟩ := optT_run hr
    simp only at hr
    split at hr
    · rename_i v295
      obtain ⟨hge0, hgu0, hga0, hgn0, hgc0, hgf0⟩ := genOf_spec hs (DVs.okAt ha 2 rfl) hg0
      obtain ⟨cs1, hcp1, hr⟩ := optT_run hr
      split at hr
      · rename_i a3
        obtain ⟨v296, hv296, hr⟩ := optT_run hr
        split at hr
        · rename_i hsep
          obtain ⟨hnd, hsepv⟩ := sepB_spec hsep
          simp only [Tree.run] at hr
          obtain ⟨y, hy, hr⟩ := Option.bind_eq_some_iff.1 hr
          try simp only [Tree.run] at hr
          simp only [Option.some.injEq, Prod.mk.injEq] at hr
          obtain ⟨rfl, rfl⟩ := hr
          exact mutG_ok hs [a1, a2, a3] ⟨(DVs.okAt ha 2 rfl), (DVs.okAt ha 3 rfl), (DVs.okAt (cellsOf_ok hs (DVs.okAt ha 3 rfl) hcp1).2 0 rfl), trivial⟩ [.int .i64 v293, .flt .f32 v294, a1, a2] [.int .i64 v293, .flt .f32 v294, .ptr 0 (0 : Nat) 0 (1 : Nat), .bptr (BR.root 1) [.bslc (BR.root 2) (.f32 v296)]] [jg0] [verAt L jg0] [.gen [.flt .f32 v295] false 0] [.gen [.flt .f32 y] false 0] [.gen [.flt .f32 y] false (verAt L jg0)] [] hnd rfl rfl (fun j hj => by
              simp at hj
              subst hj; exact ex_lt hge0) (fun j hj => by
              simp at hj
              subst hj; exact reach_refs (by simp [DVs.refs, DV.refs, hgu0])) (fun F' h0 hi hρ ab hS => by
              have ab0 := ab 0 _ rfl;
              refine ⟨fun i j b' h1 h2 => ?_, by simp [DBlk.blk, DVs.av, DV.av, BR.av, hρ, Row.len, hga0, ab0], fun hst => impl_Sparse_times_1_fn v293 v294 v295 v296 F' (by rw [hi]; rfl) hst ⟨trivial, trivial, ⟨_, rfl, Nat.le_refl _, by decide, Nat.le_refl _, fun _ => rfl⟩, (bptrM hS (by rw [hρ]; rfl) (hsepv (DV.tip a2) (by simp)) (DVs.okAt ha 3 rfl) hcp1 (by simp [DBlk.blk, DVs.av, DV.av, BR.av, hρ, Row.len, hga0, ab0]) ⟨bslcM hS (by rw [hρ]; rfl) (hsepv a3 (by simp)) (DVs.okAt (cellsOf_ok hs (DVs.okAt ha 3 rfl) hcp1).2 0 rfl) (rowF32_or hv296), trivial⟩), trivial⟩ hy⟩
              rcases i with _ | i
              · simp at h1 h2; subst h1; subst h2; obtain ⟨ver_, hv_⟩ := hge0; exact ⟨_, hv_, by simp [DBlk.blk, DVs.av, DV.av, BR.av, hρ, Row.len, hga0, ab0], ⟨⟨trivial, trivial⟩, fun hf => by cases hf⟩⟩
              · simp at h1) rfl rfl (fun i j b b' h1 h2 h3 => by
              rcases i with _ | i
              · simp at h1; subst h1; cases h3; exact growG hge0 rfl h2
              · simp at h1)
        · cases hr
      · cases hr
    · cases hr
  · cases hr
/-! (impl.Sparse).times$1 -/
noncomputable def impl_Sparse_times_1_i1_LO (v309 : Int) (v310 : Nat) (v311 : Nat) (v312 : List Nat) : LOr := fun id e L =>
  match id with
  | _ => .fail
noncomputable def impl_Sparse_times_1_i1_tab : List (FuncId × DFn × Bool) := [(80, impl_mul_F, true)]
theorem impl_Sparse_times_1_i1_hO : OrcOk Try.prog (tabD impl_Sparse_times_1_i1_tab) (tabM impl_Sparse_times_1_i1_tab) := tabD_cons impl_mul_Fok (tabD_nil _)
noncomputable def impl_Sparse_times_1_i1_T (v309 : Int) (v310 : Nat) (v311 : Nat) (v312 : List Nat) : Tree (Nat) :=
  (.grd (inb v309 v312.length) <|
  .leaf (fadd .f32 v311 (impl_mul_v v310 (nth v312 (Int.toNat v309)))))

noncomputable def impl_Sparse_times_1_i1_g (v309 : Int) (v310 : Nat) (v311 : Nat) (v312 : List Nat) : Option (Nat) := (impl_Sparse_times_1_i1_T v309 v310 v311 v312).run
def impl_Sparse_times_1_i1_enc (v309 : Int) (v310 : Nat) (v311 : Nat) (v312 : List Nat) (y : Nat) : Rs := (.tup [], [.gen [.flt .f32 y] true 0])
theorem impl_Sparse_times_1_i1_den (v309 : Int) (v310 : Nat) (v311 : Nat) (v312 : List Nat) : (den TT (tabD impl_Sparse_times_1_i1_tab) (tabM impl_Sparse_times_1_i1_tab) (impl_Sparse_times_1_i1_LO v309 v310 v311 v312) (codeOf Try.f136) ([.int .i64 v309, .flt .f32 v310, .ptr 0 (0 : Nat) 0 (1 : Nat), .bptr (BR.root 1) [.bslc (BR.root 2) (.f32 v312)]] ++ List.replicate (Try.f136.ntmps - ([.int .i64 v309, .flt .f32 v310, .ptr 0 (0 : Nat) 0 (1 : Nat), .bptr (BR.root 1) [.bslc (BR.root 2) (.f32 v312)]] : List DV).length) .undef) [.gen [.flt .f32 v311] true 0]).bind (retD TT Try.f136.results.toList 1) = (impl_Sparse_times_1_i1_T v309 v310 v311 v312).bind fun y => .leaf (impl_Sparse_times_1_i1_enc v309 v310 v311 v312 y) := by kernel_rfl
theorem impl_Sparse_times_1_i1_fn (v309 : Int) (v310 : Nat) (v311 : Nat) (v312 : List Nat) (F : Fr) (hm : F.ids.length = 1) (h0 : St F [.gen [.flt .f32 v311] true 0] F.H0) (hA : DVs.Ok F [.gen [.flt .f32 v311] true 0] [.int .i64 v309, .flt .f32 v310, .ptr 0 (0 : Nat) 0 (1 : Nat), .bptr (BR.root 1) [.bslc (BR.root 2) (.f32 v312)]]) {y : Nat} (hy : impl_Sparse_times_1_i1_g v309 v310 v311 v312 = some y) : ∃ H', FnOk Try.prog 136 (DVs.av F [.int .i64 v309, .flt .f32 v310, .ptr 0 (0 : Nat) 0 (1 : Nat), .bptr (BR.root 1) [.bslc (BR.root 2) (.f32 v312)]]) F.H0 ((impl_Sparse_times_1_i1_enc v309 v310 v311 v312 y).1.av F) H' ∧ St F (impl_Sparse_times_1_i1_enc v309 v310 v311 v312 y).2 H' ∧ (impl_Sparse_times_1_i1_enc v309 v310 v311 v312 y).1.Ok F (impl_Sparse_times_1_i1_enc v309 v310 v311 v312 y).2 :=
  fn_fin tok impl_Sparse_times_1_i1_hO mixed Try.func136 Try.call136 (by kernel_rfl) (LoopsOk_eq (l := []) (by kernel_rfl) trivial) (impl_Sparse_times_1_i1_den v309 v310 v311 v312) hy hm h0 hA
noncomputable def impl_Sparse_times_1_i1_F : DFn := fun args L =>
  match args with
  | [.int .i64 v309, .flt .f32 v310, a1, a2] =>
    optT (genOf L 1 true a1) fun qg0 =>
    (match qg0.2 with
    | [.flt .f32 v311] =>
    optT (cellsOf L 1 a2) fun cs1 =>
    (match cs1 with
    | [a3] =>
    optT (rowF32 L a3) fun v312 =>
    (match sepB [qg0.1] [DV.tip a2, a3] with
    | true =>
    .call (impl_Sparse_times_1_i1_g v309 v310 v311 v312) fun y => .leaf (.tup [], setB L [(qg0.1, .gen [.flt .f32 y] true (verAt L qg0.1))] ++ [])
    | false => .fail)
    | _ => .fail)
    | _ => .fail)
  | _ => .fail
theorem impl_Sparse_times_1_i1_Fok : COk Try.prog 136 impl_Sparse_times_1_i1_F false := by
  intro F L H args r L' hs ha hr
  unfold impl_Sparse_times_1_i1_F at hr
  split at hr
  · rename_i v309 v310 a1 a2
    obtain ⟨⟨jg0, cg0⟩, hg0, hr⟩ := optT_run hr
    simp only at hr
    split at hr
    · rename_i v311
      obtain ⟨hge0, hgu0, hga0, hgn0, hgc0, hgf0⟩ := genOf_spec hs (DVs.okAt ha 2 rfl) hg0
      obtain ⟨cs1, hcp1, hr⟩ := optT_run hr
      split at hr
      · rename_i a3
        obtain ⟨v312, hv312, hr⟩ := optT_run hr
        split at hr
        · rename_i hsep
          obtain ⟨hnd, hsepv⟩ := sepB_spec hsep
          simp only [Tree.run] at hr
          obtain ⟨y, hy, hr⟩ := Option.bind_eq_some_iff.1 hr
          try simp only [Tree.run] at hr
          simp only [Option.some.injEq, Prod.mk.injEq] at hr
          obtain ⟨rfl, rfl⟩ := hr
          exact mutG_ok hs [a1, a2, a3] ⟨(DVs.okAt ha 2 rfl), (DVs.okAt ha 3 rfl), (DVs.okAt (cellsOf_ok hs (DVs.okAt ha 3 rfl) hcp1).2 0 rfl), trivial⟩ [.int .i64 v309, .flt .f32 v310, a1, a2] [.int .i64 v309, .flt .f32 v310, .ptr 0 (0 : Nat) 0 (1 : Nat), .bptr (BR.root 1) [.bslc (BR.root 2) (.f32 v312)]] [jg0] [verAt L jg0] [.gen [.flt .f32 v311] true 0] [.gen [.flt .f32 y] true 0] [.gen [.flt .f32 y] true (verAt L jg0)] [] hnd rfl rfl (fun j hj => by
              simp at hj
              subst hj; exact ex_lt hge0) (fun j hj => by
              simp at hj
              subst hj; exact reach_refs (by simp [DVs.refs, DV.refs, hgu0])) (fun F' h0 hi hρ ab hS => by
              have ab0 := ab 0 _ rfl;
              refine ⟨fun i j b' h1 h2 => ?_, by simp [DBlk.blk, DVs.av, DV.av, BR.av, hρ, Row.len, hga0, ab0], fun hst => impl_Sparse_times_1_i1_fn v309 v310 v311 v312 F' (by rw [hi]; rfl) hst ⟨trivial, trivial, ⟨_, rfl, Nat.le_refl _, by decide, Nat.le_refl _, fun _ => rfl⟩, (bptrM hS (by rw [hρ]; rfl) (hsepv (DV.tip a2) (by simp)) (DVs.okAt ha 3 rfl) hcp1 (by simp [DBlk.blk, DVs.av, DV.av, BR.av, hρ, Row.len, hga0, ab0]) ⟨bslcM hS (by rw [hρ]; rfl) (hsepv a3 (by simp)) (DVs.okAt (cellsOf_ok hs (DVs.okAt ha 3 rfl) hcp1).2 0 rfl) (rowF32_or hv312), trivial⟩), trivial⟩ hy⟩
              rcases i with _ | i
              · simp at h1 h2; subst h1; subst h2; obtain ⟨ver_, hv_⟩ := hge0; exact ⟨_, hv_, by simp [DBlk.blk, DVs.av, DV.av, BR.av, hρ, Row.len, hga0, ab0], ⟨⟨trivial, trivial⟩, fun _ c hc => by simp at hc; subst hc; rfl⟩⟩
              · simp at h1) rfl rfl (fun i j b b' h1 h2 h3 => by
              rcases i with _ | i
              · simp at h1; subst h1; cases h3; exact growG hge0 rfl h2
              · simp at h1)
        · cases hr
      · cases hr
    · cases hr
  · cases hr
end Go.Proofs.Ytjadfgeemfdbmaa.AM
