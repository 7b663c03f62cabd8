/- Functions: what they come to. -/
import Derived.Test.YtjadfgeemfdbmaaBase
set_option maxRecDepth 100000
set_option maxHeartbeats 4000000
set_option linter.unusedSimpArgs false
set_option linter.unusedVariables false
namespace Go.Proofs.Ytjadfgeemfdbmaa.AM
open Go.Proofs
/-! laws.szInt64S -/
noncomputable def laws_szInt64S_LO (v11 : List Int) (v12 : Int) : LOr := fun id e L =>
  match id with
  | _ => .fail
noncomputable def laws_szInt64S_tab : List (FuncId × DFn × Bool) := []
theorem laws_szInt64S_hO : OrcOk Try.prog (tabD laws_szInt64S_tab) (tabM laws_szInt64S_tab) := tabD_nil _
noncomputable def laws_szInt64S_T (v11 : List Int) (v12 : Int) : Tree (Int) :=
  (.br (decide (IntKind.i64.wrap (v12 - ((v11.length : Nat) : Int)) < (0 : Int))) (
   .leaf (-1 : Int)
  ) (
   .leaf (IntKind.i64.wrap (v12 - ((v11.length : Nat) : Int)))
  ))

noncomputable def laws_szInt64S_g (v11 : List Int) (v12 : Int) : Option (Int) := (laws_szInt64S_T v11 v12).run
def laws_szInt64S_enc (v11 : List Int) (v12 : Int) (y : Int) : Rs := (.int .i64 y, [])
theorem laws_szInt64S_den (v11 : List Int) (v12 : Int) : (den TT (tabD laws_szInt64S_tab) (tabM laws_szInt64S_tab) (laws_szInt64S_LO v11 v12) (codeOf Try.f63) ([.bslc (BR.root 0) (.i64 v11), .int .i64 v12] ++ List.replicate (Try.f63.ntmps - ([.bslc (BR.root 0) (.i64 v11), .int .i64 v12] : List DV).length) .undef) []).bind (retD TT Try.f63.results.toList 0) = (laws_szInt64S_T v11 v12).bind fun y => .leaf (laws_szInt64S_enc v11 v12 y) := by kernel_rfl
theorem laws_szInt64S_fn (v11 : List Int) (v12 : Int) (F : Fr) (hm : F.ids.length = 0) (h0 : St F [] F.H0) (hA : DVs.Ok F [] [.bslc (BR.root 0) (.i64 v11), .int .i64 v12]) {y : Int} (hy : laws_szInt64S_g v11 v12 = some y) : ∃ H', FnOk Try.prog 63 (DVs.av F [.bslc (BR.root 0) (.i64 v11), .int .i64 v12]) F.H0 ((laws_szInt64S_enc v11 v12 y).1.av F) H' ∧ St F (laws_szInt64S_enc v11 v12 y).2 H' ∧ (laws_szInt64S_enc v11 v12 y).1.Ok F (laws_szInt64S_enc v11 v12 y).2 :=
  fn_fin tok laws_szInt64S_hO mixed Try.func63 Try.call63 (by kernel_rfl) (LoopsOk_eq (l := []) (by kernel_rfl) trivial) (laws_szInt64S_den v11 v12) hy hm h0 hA
def laws_szInt64S_v (v11 : List Int) (v12 : Int) : Int :=
  if (decide (IntKind.i64.wrap (v12 - ((v11.length : Nat) : Int)) < (0 : Int))) = true then (
   (-1 : Int)
  ) else (
   IntKind.i64.wrap (v12 - ((v11.length : Nat) : Int))
  )
theorem laws_szInt64S_tot (v11 : List Int) (v12 : Int) : laws_szInt64S_g v11 v12 = some (laws_szInt64S_v v11 v12) := by
  unfold laws_szInt64S_g laws_szInt64S_T laws_szInt64S_v
  simp only [Tree.run]
  repeat' (first | rfl | split)
noncomputable def laws_szInt64S_F : DFn := fun args L =>
  match args with
  | [a1, .int .i64 v12] =>
    optT (rowI64 L a1) fun v11 =>
    .leaf (.int .i64 (laws_szInt64S_v v11 v12), L)
  | _ => .fail
theorem laws_szInt64S_Fok : COk Try.prog 63 laws_szInt64S_F true := by
  intro F L H args r L' hs ha hr
  unfold laws_szInt64S_F at hr
  split at hr
  · rename_i a1 v12
    obtain ⟨v11, hv11, hr⟩ := optT_run hr
    have hy := laws_szInt64S_tot v11 v12
    generalize laws_szInt64S_v v11 v12 = y at hy hr
    simp only [Tree.run, Option.some.injEq, Prod.mk.injEq] at hr
    obtain ⟨rfl, rfl⟩ := hr
    exact call_ok0 hs (fun k => (([a1.av F] : List AV)[k]?).getD .top) [a1, .int .i64 v12] [.bslc (BR.root 0) (.i64 v11), .int .i64 v12] (fun F' h0 hi hρ => ⟨by simp [DVs.av, DV.av, BR.av, hρ], laws_szInt64S_fn v11 v12 F' (by rw [hi]; rfl) (st_nil hi) ⟨bslc_ok hi (by rw [h0, hρ]; exact rowI64_ok hs (DVs.okAt ha 0 rfl) hv11), trivial, trivial⟩ hy⟩) rfl
  · cases hr
/-! laws.szFloat32S -/
noncomputable def laws_szFloat32S_LO (v13 : List Nat) (v14 : Int) : LOr := fun id e L =>
  match id with
  | _ => .fail
noncomputable def laws_szFloat32S_tab : List (FuncId × DFn × Bool) := []
theorem laws_szFloat32S_hO : OrcOk Try.prog (tabD laws_szFloat32S_tab) (tabM laws_szFloat32S_tab) := tabD_nil _
noncomputable def laws_szFloat32S_T (v13 : List Nat) (v14 : Int) : Tree (Int) :=
  (.br (decide (IntKind.i64.wrap (v14 - ((v13.length : Nat) : Int)) < (0 : Int))) (
   .leaf (-1 : Int)
  ) (
   .leaf (IntKind.i64.wrap (v14 - ((v13.length : Nat) : Int)))
  ))

noncomputable def laws_szFloat32S_g (v13 : List Nat) (v14 : Int) : Option (Int) := (laws_szFloat32S_T v13 v14).run
def laws_szFloat32S_enc (v13 : List Nat) (v14 : Int) (y : Int) : Rs := (.int .i64 y, [])
theorem laws_szFloat32S_den (v13 : List Nat) (v14 : Int) : (den TT (tabD laws_szFloat32S_tab) (tabM laws_szFloat32S_tab) (laws_szFloat32S_LO v13 v14) (codeOf Try.f64) ([.bslc (BR.root 0) (.f32 v13), .int .i64 v14] ++ List.replicate (Try.f64.ntmps - ([.bslc (BR.root 0) (.f32 v13), .int .i64 v14] : List DV).length) .undef) []).bind (retD TT Try.f64.results.toList 0) = (laws_szFloat32S_T v13 v14).bind fun y => .leaf (laws_szFloat32S_enc v13 v14 y) := by kernel_rfl
theorem laws_szFloat32S_fn (v13 : List Nat) (v14 : Int) (F : Fr) (hm : F.ids.length = 0) (h0 : St F [] F.H0) (hA : DVs.Ok F [] [.bslc (BR.root 0) (.f32 v13), .int .i64 v14]) {y : Int} (hy : laws_szFloat32S_g v13 v14 = some y) : ∃ H', FnOk Try.prog 64 (DVs.av F [.bslc (BR.root 0) (.f32 v13), .int .i64 v14]) F.H0 ((laws_szFloat32S_enc v13 v14 y).1.av F) H' ∧ St F (laws_szFloat32S_enc v13 v14 y).2 H' ∧ (laws_szFloat32S_enc v13 v14 y).1.Ok F (laws_szFloat32S_enc v13 v14 y).2 :=
  fn_fin tok laws_szFloat32S_hO mixed Try.func64 Try.call64 (by kernel_rfl) (LoopsOk_eq (l := []) (by kernel_rfl) trivial) (laws_szFloat32S_den v13 v14) hy hm h0 hA
def laws_szFloat32S_v (v13 : List Nat) (v14 : Int) : Int :=
  if (decide (IntKind.i64.wrap (v14 - ((v13.length : Nat) : Int)) < (0 : Int))) = true then (
   (-1 : Int)
  ) else (
   IntKind.i64.wrap (v14 - ((v13.length : Nat) : Int))
  )
theorem laws_szFloat32S_tot (v13 : List Nat) (v14 : Int) : laws_szFloat32S_g v13 v14 = some (laws_szFloat32S_v v13 v14) := by
  unfold laws_szFloat32S_g laws_szFloat32S_T laws_szFloat32S_v
  simp only [Tree.run]
  repeat' (first | rfl | split)
noncomputable def laws_szFloat32S_F : DFn := fun args L =>
  match args with
  | [a1, .int .i64 v14] =>
    optT (rowF32 L a1) fun v13 =>
    .leaf (.int .i64 (laws_szFloat32S_v v13 v14), L)
  | _ => .fail
theorem laws_szFloat32S_Fok : COk Try.prog 64 laws_szFloat32S_F true := by
  intro F L H args r L' hs ha hr
  unfold laws_szFloat32S_F at hr
  split at hr
  · rename_i a1 v14
    obtain ⟨v13, hv13, hr⟩ := optT_run hr
    have hy := laws_szFloat32S_tot v13 v14
    generalize laws_szFloat32S_v v13 v14 = y at hy hr
    simp only [Tree.run, Option.some.injEq, Prod.mk.injEq] at hr
    obtain ⟨rfl, rfl⟩ := hr
    exact call_ok0 hs (fun k => (([a1.av F] : List AV)[k]?).getD .top) [a1, .int .i64 v14] [.bslc (BR.root 0) (.f32 v13), .int .i64 v14] (fun F' h0 hi hρ => ⟨by simp [DVs.av, DV.av, BR.av, hρ], laws_szFloat32S_fn v13 v14 F' (by rw [hi]; rfl) (st_nil hi) ⟨bslc_ok hi (by rw [h0, hρ]; exact rowF32_ok hs (DVs.okAt ha 0 rfl) hv13), trivial, trivial⟩ hy⟩) rfl
  · cases hr
/-! laws.szSparse -/
noncomputable def laws_szSparse_LO (v6 : Int) (v7 : List Int) (v8 : List Int) (v9 : List Nat) (v10 : Int) : LOr := fun id e L =>
  match id with
  | _ => .fail
noncomputable def laws_szSparse_tab : List (FuncId × DFn × Bool) := [(63, laws_szInt64S_F, true), (64, laws_szFloat32S_F, true)]
theorem laws_szSparse_hO : OrcOk Try.prog (tabD laws_szSparse_tab) (tabM laws_szSparse_tab) := tabD_cons laws_szInt64S_Fok (tabD_cons laws_szFloat32S_Fok (tabD_nil _))
noncomputable def laws_szSparse_T (v7 : List Int) (v8 : List Int) (v9 : List Nat) (v10 : Int) : Tree (Int) :=
  (.br (decide ((laws_szInt64S_v v7 v10) < (0 : Int))) (
   .leaf (-1 : Int)
  ) (
   (.br (decide ((laws_szInt64S_v v8 (laws_szInt64S_v v7 v10)) < (0 : Int))) (
    .leaf (-1 : Int)
   ) (
    (.br (decide ((laws_szFloat32S_v v9 (laws_szInt64S_v v8 (laws_szInt64S_v v7 v10))) < (0 : Int))) (
     .leaf (-1 : Int)
    ) (
     .leaf (laws_szFloat32S_v v9 (laws_szInt64S_v v8 (laws_szInt64S_v v7 v10)))
    ))
   ))
  ))

noncomputable def laws_szSparse_g (v7 : List Int) (v8 : List Int) (v9 : List Nat) (v10 : Int) : Option (Int) := (laws_szSparse_T v7 v8 v9 v10).run
def laws_szSparse_enc (v6 : Int) (v7 : List Int) (v8 : List Int) (v9 : List Nat) (v10 : Int) (y : Int) : Rs := (.int .i64 y, [])
theorem laws_szSparse_den (v6 : Int) (v7 : List Int) (v8 : List Int) (v9 : List Nat) (v10 : Int) : (den TT (tabD laws_szSparse_tab) (tabM laws_szSparse_tab) (laws_szSparse_LO v6 v7 v8 v9 v10) (codeOf Try.f15) ([.agg [.int .i64 v6, .bslc (BR.root 0) (.i64 v7), .bslc (BR.root 1) (.i64 v8), .bslc (BR.root 2) (.f32 v9)], .int .i64 v10] ++ List.replicate (Try.f15.ntmps - ([.agg [.int .i64 v6, .bslc (BR.root 0) (.i64 v7), .bslc (BR.root 1) (.i64 v8), .bslc (BR.root 2) (.f32 v9)], .int .i64 v10] : List DV).length) .undef) []).bind (retD TT Try.f15.results.toList 0) = (laws_szSparse_T v7 v8 v9 v10).bind fun y => .leaf (laws_szSparse_enc v6 v7 v8 v9 v10 y) := by kernel_rfl
theorem laws_szSparse_fn (v6 : Int) (v7 : List Int) (v8 : List Int) (v9 : List Nat) (v10 : Int) (F : Fr) (hm : F.ids.length = 0) (h0 : St F [] F.H0) (hA : DVs.Ok F [] [.agg [.int .i64 v6, .bslc (BR.root 0) (.i64 v7), .bslc (BR.root 1) (.i64 v8), .bslc (BR.root 2) (.f32 v9)], .int .i64 v10]) {y : Int} (hy : laws_szSparse_g v7 v8 v9 v10 = some y) : ∃ H', FnOk Try.prog 15 (DVs.av F [.agg [.int .i64 v6, .bslc (BR.root 0) (.i64 v7), .bslc (BR.root 1) (.i64 v8), .bslc (BR.root 2) (.f32 v9)], .int .i64 v10]) F.H0 ((laws_szSparse_enc v6 v7 v8 v9 v10 y).1.av F) H' ∧ St F (laws_szSparse_enc v6 v7 v8 v9 v10 y).2 H' ∧ (laws_szSparse_enc v6 v7 v8 v9 v10 y).1.Ok F (laws_szSparse_enc v6 v7 v8 v9 v10 y).2 :=
  fn_fin tok laws_szSparse_hO mixed Try.func15 Try.call15 (by kernel_rfl) (LoopsOk_eq (l := []) (by kernel_rfl) trivial) (laws_szSparse_den v6 v7 v8 v9 v10) hy hm h0 hA
def laws_szSparse_v (v7 : List Int) (v8 : List Int) (v9 : List Nat) (v10 : Int) : Int :=
  if (decide ((laws_szInt64S_v v7 v10) < (0 : Int))) = true then (
   (-1 : Int)
  ) else (
   if (decide ((laws_szInt64S_v v8 (laws_szInt64S_v v7 v10)) < (0 : Int))) = true then (
    (-1 : Int)
   ) else (
    if (decide ((laws_szFloat32S_v v9 (laws_szInt64S_v v8 (laws_szInt64S_v v7 v10))) < (0 : Int))) = true then (
     (-1 : Int)
    ) else (
     (laws_szFloat32S_v v9 (laws_szInt64S_v v8 (laws_szInt64S_v v7 v10)))
    )
   )
  )
theorem laws_szSparse_tot (v7 : List Int) (v8 : List Int) (v9 : List Nat) (v10 : Int) : laws_szSparse_g v7 v8 v9 v10 = some (laws_szSparse_v v7 v8 v9 v10) := by
  unfold laws_szSparse_g laws_szSparse_T laws_szSparse_v
  simp only [Tree.run]
  repeat' (first | rfl | split)
noncomputable def laws_szSparse_F : DFn := fun args L =>
  match args with
  | [.agg [.int .i64 v6, a1, a2, a3], .int .i64 v10] =>
    optT (rowI64 L a1) fun v7 =>
    optT (rowI64 L a2) fun v8 =>
    optT (rowF32 L a3) fun v9 =>
    .leaf (.int .i64 (laws_szSparse_v v7 v8 v9 v10), L)
  | _ => .fail
theorem laws_szSparse_Fok : COk Try.prog 15 laws_szSparse_F true := by
  intro F L H args r L' hs ha hr
  unfold laws_szSparse_F at hr
  split at hr
  · rename_i v6 a1 a2 a3 v10
    obtain ⟨v7, hv7, hr⟩ := optT_run hr
    obtain ⟨v8, hv8, hr⟩ := optT_run hr
    obtain ⟨v9, hv9, hr⟩ := optT_run hr
    have hy := laws_szSparse_tot v7 v8 v9 v10
    generalize laws_szSparse_v v7 v8 v9 v10 = y at hy hr
    simp only [Tree.run, Option.some.injEq, Prod.mk.injEq] at hr
    obtain ⟨rfl, rfl⟩ := hr
    exact call_ok0 hs (fun k => (([a1.av F, a2.av F, a3.av F] : List AV)[k]?).getD .top) [.agg [.int .i64 v6, a1, a2, a3], .int .i64 v10] [.agg [.int .i64 v6, .bslc (BR.root 0) (.i64 v7), .bslc (BR.root 1) (.i64 v8), .bslc (BR.root 2) (.f32 v9)], .int .i64 v10] (fun F' h0 hi hρ => ⟨by simp [DVs.av, DV.av, BR.av, hρ], laws_szSparse_fn v6 v7 v8 v9 v10 F' (by rw [hi]; rfl) (st_nil hi) ⟨⟨trivial, bslc_ok hi (by rw [h0, hρ]; exact rowI64_ok hs (DVs.okAt (DVs.okAt ha 0 rfl) 1 rfl) hv7), bslc_ok hi (by rw [h0, hρ]; exact rowI64_ok hs (DVs.okAt (DVs.okAt ha 0 rfl) 2 rfl) hv8), bslc_ok hi (by rw [h0, hρ]; exact rowF32_ok hs (DVs.okAt (DVs.okAt ha 0 rfl) 3 rfl) hv9), trivial⟩, trivial, trivial⟩ hy⟩) rfl
  · cases hr
/-! laws.toInt64S -/
noncomputable def laws_toInt64S_l0_T (v19 : List Int) (s : Int × (List Int)) : Tree ((Int × (List Int)) ⊕ ((List Int))) :=
  (.br (decide (s.1 < ((v19.length : Nat) : Int))) (
   (.grd (inb s.1 v19.length) <|
   (.grd (inb s.1 ((s.2).length)) <|
   .leaf (.inl (IntKind.i64.wrap (s.1 + (1 : Int)), List.set s.2 (Int.toNat s.1) (nth v19 (Int.toNat s.1))))))
  ) (
   .leaf (.inr s.2)
  ))

noncomputable def laws_toInt64S_l0_g (v19 : List Int) (s0 : Int × (List Int)) : Option ((List Int)) := whileM (fun s => (laws_toInt64S_l0_T v19 s).run) s0
def laws_toInt64S_l0_E (v19 : List Int) (s : Int × (List Int)) : Sd := ([.bslc (BR.root 0) (.i64 v19), .top, .top, .own 0 0 ((s.2).length), .int .i64 s.1, .top, .top, .top, .top, .top, .top, .top, .top, .top, .top, .top, .top, .top, .top, .top, .top, .top], [.row (.i64 s.2) 0])
def laws_toInt64S_l0_X (v19 : List Int) (x : (List Int)) : Out := (.normal, [.top, .top, .top, .own 0 0 ((x).length), .top, .top, .top, .top, .top, .top, .top, .top, .top, .top, .top, .top, .top, .top, .top, .top, .top, .top], [.row (.i64 x) 0])
def laws_toInt64S_l0_kill : List Nat := [0, 1, 1, 0, 0, 1, 1, 1, 1, 1, 1, 1, 1, 1, 1, 1, 1, 1, 1, 1, 1, 1]
def laws_toInt64S_l0_nx : Exit → List Nat
  | .exit 0 => [1, 1, 1, 0, 1, 1, 1, 1, 1, 1, 1, 1, 1, 1, 1, 1, 1, 1, 1, 1, 1, 1]
  | .ret => [1, 1, 0, 1, 1, 1, 1, 1, 1, 1, 1, 1, 1, 1, 1, 1, 1, 1, 1, 1, 1, 1]
  | _ => []
noncomputable def laws_toInt64S_LO (v19 : List Int) : LOr := fun id e L =>
  match id with
  | 0 => .need (normA 0 laws_toInt64S_l0_kill e L = some (laws_toInt64S_l0_E v19 ((gI (vAt e 4)), (gRI L (vAt e 3))))) (.call (laws_toInt64S_l0_g v19 ((gI (vAt e 4)), (gRI L (vAt e 3)))) fun x => .leaf (laws_toInt64S_l0_X v19 x))
  | _ => .fail
noncomputable def laws_toInt64S_tab : List (FuncId × DFn × Bool) := []
theorem laws_toInt64S_hO : OrcOk Try.prog (tabD laws_toInt64S_tab) (tabM laws_toInt64S_tab) := tabD_nil _
theorem laws_toInt64S_l0_be (v19 : List Int) (s : Int × (List Int)) : bodyT TT (tabD laws_toInt64S_tab) (tabM laws_toInt64S_tab) (laws_toInt64S_LO v19) 0 laws_toInt64S_l0_kill laws_toInt64S_l0_nx (bodyOf Try.f42 0) 0 (laws_toInt64S_l0_E v19 s) = (laws_toInt64S_l0_T v19 s).bind fun y => .leaf (outS (laws_toInt64S_l0_E v19) (laws_toInt64S_l0_X v19) y) := by kernel_rfl
theorem laws_toInt64S_l0_ok (v19 : List Int) : LSound Try.prog 0 (laws_toInt64S_LO v19) 0 (bodyOf Try.f42 0) := by
  intro e L out h
  exact lo_ok (E := laws_toInt64S_l0_E v19) (gT := laws_toInt64S_l0_T v19) (X := laws_toInt64S_l0_X v19) (s0 := ((gI (vAt e 4)), (gRI L (vAt e 3)))) tok laws_toInt64S_hO mixed (LoopsOk_eq (l := []) (by kernel_rfl) trivial) (laws_toInt64S_l0_be v19) rfl (by intro x; rfl) h
noncomputable def laws_toInt64S_T (v19 : List Int) : Tree ((List Int)) :=
  (.need (((v19.length : Nat) : Int) = ((v19.length : Nat) : Int)) <|
  (.grd (inb ((v19.length : Nat) : Int) (maxN + 1)) <|
  (.need (some (laws_toInt64S_l0_E v19 ((0 : Int), List.replicate (Int.toNat ((v19.length : Nat) : Int)) (0 : Int))) = some (laws_toInt64S_l0_E v19 ((0 : Int), List.replicate (Int.toNat ((v19.length : Nat) : Int)) (0 : Int)))) <|
  (.call (laws_toInt64S_l0_g v19 ((0 : Int), List.replicate (Int.toNat ((v19.length : Nat) : Int)) (0 : Int))) fun v25 =>
  .leaf v25))))

noncomputable def laws_toInt64S_g (v19 : List Int) : Option ((List Int)) := (laws_toInt64S_T v19).run
def laws_toInt64S_enc (v19 : List Int) (y : (List Int)) : Rs := (.own 0 0 ((y).length), [.row (.i64 y) 0])
theorem laws_toInt64S_den (v19 : List Int) : (den TT (tabD laws_toInt64S_tab) (tabM laws_toInt64S_tab) (laws_toInt64S_LO v19) (codeOf Try.f42) ([.bslc (BR.root 0) (.i64 v19)] ++ List.replicate (Try.f42.ntmps - ([.bslc (BR.root 0) (.i64 v19)] : List DV).length) .undef) []).bind (retD TT Try.f42.results.toList 0) = (laws_toInt64S_T v19).bind fun y => .leaf (laws_toInt64S_enc v19 y) := by kernel_rfl
theorem laws_toInt64S_fn (v19 : List Int) (F : Fr) (hm : F.ids.length = 0) (h0 : St F [] F.H0) (hA : DVs.Ok F [] [.bslc (BR.root 0) (.i64 v19)]) {y : (List Int)} (hy : laws_toInt64S_g v19 = some y) : ∃ H', FnOk Try.prog 42 (DVs.av F [.bslc (BR.root 0) (.i64 v19)]) F.H0 ((laws_toInt64S_enc v19 y).1.av F) H' ∧ St F (laws_toInt64S_enc v19 y).2 H' ∧ (laws_toInt64S_enc v19 y).1.Ok F (laws_toInt64S_enc v19 y).2 :=
  fn_fin tok laws_toInt64S_hO mixed Try.func42 Try.call42 (by kernel_rfl) (LoopsOk_eq (l := [(0, bodyOf Try.f42 0)]) (by kernel_rfl) ⟨laws_toInt64S_l0_ok v19, trivial⟩) (laws_toInt64S_den v19) hy hm h0 hA
noncomputable def laws_toInt64S_F : DFn := fun args L =>
  match args with
  | [a1] =>
    optT (rowI64 L a1) fun v19 =>
    .call (laws_toInt64S_g v19) fun y => .leaf (.own (L.length + 0) 0 ((y).length), L ++ [.row (.i64 y) 0])
  | _ => .fail
theorem laws_toInt64S_Fok : COk Try.prog 42 laws_toInt64S_F true := by
  intro F L H args r L' hs ha hr
  unfold laws_toInt64S_F at hr
  split at hr
  · rename_i a1
    obtain ⟨v19, hv19, hr⟩ := optT_run hr
    simp only [Tree.run] at hr
    obtain ⟨y, hy, hr⟩ := Option.bind_eq_some_iff.1 hr
    simp only [Tree.run, Option.some.injEq, Prod.mk.injEq] at hr
    obtain ⟨rfl, rfl⟩ := hr
    exact call_ok1 hs (fun k => (([a1.av F] : List AV)[k]?).getD .top) [a1] [.bslc (BR.root 0) (.i64 v19)] (fun F' h0 hi hρ => ⟨by simp [DVs.av, DV.av, BR.av, hρ], laws_toInt64S_fn v19 F' (by rw [hi]; rfl) (st_nil hi) ⟨bslc_ok hi (by rw [h0, hρ]; exact rowI64_ok hs (DVs.okAt ha 0 rfl) hv19), trivial⟩ hy⟩) rfl rfl
  · cases hr
/-! laws.toFloat32S -/
noncomputable def laws_toFloat32S_l0_T (v28 : List Nat) (s : Int × (List Nat)) : Tree ((Int × (List Nat)) ⊕ ((List Nat))) :=
  (.br (decide (s.1 < ((v28.length : Nat) : Int))) (
   (.grd (inb s.1 v28.length) <|
   (.grd (inb s.1 ((s.2).length)) <|
   .leaf (.inl (IntKind.i64.wrap (s.1 + (1 : Int)), List.set s.2 (Int.toNat s.1) (nth v28 (Int.toNat s.1))))))
  ) (
   .leaf (.inr s.2)
  ))

noncomputable def laws_toFloat32S_l0_g (v28 : List Nat) (s0 : Int × (List Nat)) : Option ((List Nat)) := whileM (fun s => (laws_toFloat32S_l0_T v28 s).run) s0
def laws_toFloat32S_l0_E (v28 : List Nat) (s : Int × (List Nat)) : Sd := ([.bslc (BR.root 0) (.f32 v28), .top, .top, .own 0 0 ((s.2).length), .int .i64 s.1, .top, .top, .top, .top, .top, .top, .top, .top, .top, .top, .top, .top, .top, .top, .top, .top, .top], [.row (.f32 s.2) 0])
def laws_toFloat32S_l0_X (v28 : List Nat) (x : (List Nat)) : Out := (.normal, [.top, .top, .top, .own 0 0 ((x).length), .top, .top, .top, .top, .top, .top, .top, .top, .top, .top, .top, .top, .top, .top, .top, .top, .top, .top], [.row (.f32 x) 0])
def laws_toFloat32S_l0_kill : List Nat := [0, 1, 1, 0, 0, 1, 1, 1, 1, 1, 1, 1, 1, 1, 1, 1, 1, 1, 1, 1, 1, 1]
def laws_toFloat32S_l0_nx : Exit → List Nat
  | .exit 0 => [1, 1, 1, 0, 1, 1, 1, 1, 1, 1, 1, 1, 1, 1, 1, 1, 1, 1, 1, 1, 1, 1]
  | .ret => [1, 1, 0, 1, 1, 1, 1, 1, 1, 1, 1, 1, 1, 1, 1, 1, 1, 1, 1, 1, 1, 1]
  | _ => []
noncomputable def laws_toFloat32S_LO (v28 : List Nat) : LOr := fun id e L =>
  match id with
  | 0 => .need (normA 0 laws_toFloat32S_l0_kill e L = some (laws_toFloat32S_l0_E v28 ((gI (vAt e 4)), (gRF L (vAt e 3))))) (.call (laws_toFloat32S_l0_g v28 ((gI (vAt e 4)), (gRF L (vAt e 3)))) fun x => .leaf (laws_toFloat32S_l0_X v28 x))
  | _ => .fail
noncomputable def laws_toFloat32S_tab : List (FuncId × DFn × Bool) := []
theorem laws_toFloat32S_hO : OrcOk Try.prog (tabD laws_toFloat32S_tab) (tabM laws_toFloat32S_tab) := tabD_nil _
theorem laws_toFloat32S_l0_be (v28 : List Nat) (s : Int × (List Nat)) : bodyT TT (tabD laws_toFloat32S_tab) (tabM laws_toFloat32S_tab) (laws_toFloat32S_LO v28) 0 laws_toFloat32S_l0_kill laws_toFloat32S_l0_nx (bodyOf Try.f18 0) 0 (laws_toFloat32S_l0_E v28 s) = (laws_toFloat32S_l0_T v28 s).bind fun y => .leaf (outS (laws_toFloat32S_l0_E v28) (laws_toFloat32S_l0_X v28) y) := by kernel_rfl
theorem laws_toFloat32S_l0_ok (v28 : List Nat) : LSound Try.prog 0 (laws_toFloat32S_LO v28) 0 (bodyOf Try.f18 0) := by
  intro e L out h
  exact lo_ok (E := laws_toFloat32S_l0_E v28) (gT := laws_toFloat32S_l0_T v28) (X := laws_toFloat32S_l0_X v28) (s0 := ((gI (vAt e 4)), (gRF L (vAt e 3)))) tok laws_toFloat32S_hO mixed (LoopsOk_eq (l := []) (by kernel_rfl) trivial) (laws_toFloat32S_l0_be v28) rfl (by intro x; rfl) h
noncomputable def laws_toFloat32S_T (v28 : List Nat) : Tree ((List Nat)) :=
  (.need (((v28.length : Nat) : Int) = ((v28.length : Nat) : Int)) <|
  (.grd (inb ((v28.length : Nat) : Int) (maxN + 1)) <|
  (.need (some (laws_toFloat32S_l0_E v28 ((0 : Int), List.replicate (Int.toNat ((v28.length : Nat) : Int)) (0 : Nat))) = some (laws_toFloat32S_l0_E v28 ((0 : Int), List.replicate (Int.toNat ((v28.length : Nat) : Int)) (0 : Nat)))) <|
  (.call (laws_toFloat32S_l0_g v28 ((0 : Int), List.replicate (Int.toNat ((v28.length : Nat) : Int)) (0 : Nat))) fun v34 =>
  .leaf v34))))

noncomputable def laws_toFloat32S_g (v28 : List Nat) : Option ((List Nat)) := (laws_toFloat32S_T v28).run
def laws_toFloat32S_enc (v28 : List Nat) (y : (List Nat)) : Rs := (.own 0 0 ((y).length), [.row (.f32 y) 0])
theorem laws_toFloat32S_den (v28 : List Nat) : (den TT (tabD laws_toFloat32S_tab) (tabM laws_toFloat32S_tab) (laws_toFloat32S_LO v28) (codeOf Try.f18) ([.bslc (BR.root 0) (.f32 v28)] ++ List.replicate (Try.f18.ntmps - ([.bslc (BR.root 0) (.f32 v28)] : List DV).length) .undef) []).bind (retD TT Try.f18.results.toList 0) = (laws_toFloat32S_T v28).bind fun y => .leaf (laws_toFloat32S_enc v28 y) := by kernel_rfl
theorem laws_toFloat32S_fn (v28 : List Nat) (F : Fr) (hm : F.ids.length = 0) (h0 : St F [] F.H0) (hA : DVs.Ok F [] [.bslc (BR.root 0) (.f32 v28)]) {y : (List Nat)} (hy : laws_toFloat32S_g v28 = some y) : ∃ H', FnOk Try.prog 18 (DVs.av F [.bslc (BR.root 0) (.f32 v28)]) F.H0 ((laws_toFloat32S_enc v28 y).1.av F) H' ∧ St F (laws_toFloat32S_enc v28 y).2 H' ∧ (laws_toFloat32S_enc v28 y).1.Ok F (laws_toFloat32S_enc v28 y).2 :=
  fn_fin tok laws_toFloat32S_hO mixed Try.func18 Try.call18 (by kernel_rfl) (LoopsOk_eq (l := [(0, bodyOf Try.f18 0)]) (by kernel_rfl) ⟨laws_toFloat32S_l0_ok v28, trivial⟩) (laws_toFloat32S_den v28) hy hm h0 hA
noncomputable def laws_toFloat32S_F : DFn := fun args L =>
  match args with
  | [a1] =>
    optT (rowF32 L a1) fun v28 =>
    .call (laws_toFloat32S_g v28) fun y => .leaf (.own (L.length + 0) 0 ((y).length), L ++ [.row (.f32 y) 0])
  | _ => .fail
theorem laws_toFloat32S_Fok : COk Try.prog 18 laws_toFloat32S_F true := by
  intro F L H args r L' hs ha hr
  unfold laws_toFloat32S_F at hr
  split at hr
  · rename_i a1
    obtain ⟨v28, hv28, hr⟩ := optT_run hr
    simp only [Tree.run] at hr
    obtain ⟨y, hy, hr⟩ := Option.bind_eq_some_iff.1 hr
    simp only [Tree.run, Option.some.injEq, Prod.mk.injEq] at hr
    obtain ⟨rfl, rfl⟩ := hr
    exact call_ok1 hs (fun k => (([a1.av F] : List AV)[k]?).getD .top) [a1] [.bslc (BR.root 0) (.f32 v28)] (fun F' h0 hi hρ => ⟨by simp [DVs.av, DV.av, BR.av, hρ], laws_toFloat32S_fn v28 F' (by rw [hi]; rfl) (st_nil hi) ⟨bslc_ok hi (by rw [h0, hρ]; exact rowF32_ok hs (DVs.okAt ha 0 rfl) hv28), trivial⟩ hy⟩) rfl rfl
  · cases hr
/-! laws.toSparse -/
noncomputable def laws_toSparse_LO (v15 : Int) (v16 : List Int) (v17 : List Int) (v18 : List Nat) : LOr := fun id e L =>
  match id with
  | _ => .fail
noncomputable def laws_toSparse_tab : List (FuncId × DFn × Bool) := [(42, laws_toInt64S_F, true), (18, laws_toFloat32S_F, true)]
theorem laws_toSparse_hO : OrcOk Try.prog (tabD laws_toSparse_tab) (tabM laws_toSparse_tab) := tabD_cons laws_toInt64S_Fok (tabD_cons laws_toFloat32S_Fok (tabD_nil _))
noncomputable def laws_toSparse_T (v15 : Int) (v16 : List Int) (v17 : List Int) (v18 : List Nat) : Tree (Int × (List Int) × (List Int) × (List Nat)) :=
  (.call (laws_toInt64S_g v16) fun v26 =>
  (.call (laws_toInt64S_g v17) fun v27 =>
  (.call (laws_toFloat32S_g v18) fun v35 =>
  .leaf (v15, v26, v27, v35))))

noncomputable def laws_toSparse_g (v15 : Int) (v16 : List Int) (v17 : List Int) (v18 : List Nat) : Option (Int × (List Int) × (List Int) × (List Nat)) := (laws_toSparse_T v15 v16 v17 v18).run
def laws_toSparse_enc (v15 : Int) (v16 : List Int) (v17 : List Int) (v18 : List Nat) (y : Int × (List Int) × (List Int) × (List Nat)) : Rs := (.agg [.int .i64 y.1, .own 0 0 ((y.2.1).length), .own 1 0 ((y.2.2.1).length), .own 2 0 ((y.2.2.2).length)], [.row (.i64 y.2.1) 0, .row (.i64 y.2.2.1) 0, .row (.f32 y.2.2.2) 0])
theorem laws_toSparse_den (v15 : Int) (v16 : List Int) (v17 : List Int) (v18 : List Nat) : (den TT (tabD laws_toSparse_tab) (tabM laws_toSparse_tab) (laws_toSparse_LO v15 v16 v17 v18) (codeOf Try.f17) ([.agg [.int .i64 v15, .bslc (BR.root 0) (.i64 v16), .bslc (BR.root 1) (.i64 v17), .bslc (BR.root 2) (.f32 v18)]] ++ List.replicate (Try.f17.ntmps - ([.agg [.int .i64 v15, .bslc (BR.root 0) (.i64 v16), .bslc (BR.root 1) (.i64 v17), .bslc (BR.root 2) (.f32 v18)]] : List DV).length) .undef) []).bind (retD TT Try.f17.results.toList 0) = (laws_toSparse_T v15 v16 v17 v18).bind fun y => .leaf (laws_toSparse_enc v15 v16 v17 v18 y) := by kernel_rfl
theorem laws_toSparse_fn (v15 : Int) (v16 : List Int) (v17 : List Int) (v18 : List Nat) (F : Fr) (hm : F.ids.length = 0) (h0 : St F [] F.H0) (hA : DVs.Ok F [] [.agg [.int .i64 v15, .bslc (BR.root 0) (.i64 v16), .bslc (BR.root 1) (.i64 v17), .bslc (BR.root 2) (.f32 v18)]]) {y : Int × (List Int) × (List Int) × (List Nat)} (hy : laws_toSparse_g v15 v16 v17 v18 = some y) : ∃ H', FnOk Try.prog 17 (DVs.av F [.agg [.int .i64 v15, .bslc (BR.root 0) (.i64 v16), .bslc (BR.root 1) (.i64 v17), .bslc (BR.root 2) (.f32 v18)]]) F.H0 ((laws_toSparse_enc v15 v16 v17 v18 y).1.av F) H' ∧ St F (laws_toSparse_enc v15 v16 v17 v18 y).2 H' ∧ (laws_toSparse_enc v15 v16 v17 v18 y).1.Ok F (laws_toSparse_enc v15 v16 v17 v18 y).2 :=
  fn_fin tok laws_toSparse_hO mixed Try.func17 Try.call17 (by kernel_rfl) (LoopsOk_eq (l := []) (by kernel_rfl) trivial) (laws_toSparse_den v15 v16 v17 v18) hy hm h0 hA
noncomputable def laws_toSparse_F : DFn := fun args L =>
  match args with
  | [.agg [.int .i64 v15, a1, a2, a3]] =>
    optT (rowI64 L a1) fun v16 =>
    optT (rowI64 L a2) fun v17 =>
    optT (rowF32 L a3) fun v18 =>
    .call (laws_toSparse_g v15 v16 v17 v18) fun y => .leaf (.agg [.int .i64 y.1, .own (L.length + 0) 0 ((y.2.1).length), .own (L.length + 1) 0 ((y.2.2.1).length), .own (L.length + 2) 0 ((y.2.2.2).length)], L ++ [.row (.i64 y.2.1) 0, .row (.i64 y.2.2.1) 0, .row (.f32 y.2.2.2) 0])
  | _ => .fail
theorem laws_toSparse_Fok : COk Try.prog 17 laws_toSparse_F true := by
  intro F L H args r L' hs ha hr
  unfold laws_toSparse_F at hr
  split at hr
  · rename_i v15 a1 a2 a3
    obtain ⟨v16, hv16, hr⟩ := optT_run hr
    obtain ⟨v17, hv17, hr⟩ := optT_run hr
    obtain ⟨v18, hv18, hr⟩ := optT_run hr
    simp only [Tree.run] at hr
    obtain ⟨y, hy, hr⟩ := Option.bind_eq_some_iff.1 hr
    simp only [Tree.run, Option.some.injEq, Prod.mk.injEq] at hr
    obtain ⟨rfl, rfl⟩ := hr
    exact call_ok1 hs (fun k => (([a1.av F, a2.av F, a3.av F] : List AV)[k]?).getD .top) [.agg [.int .i64 v15, a1, a2, a3]] [.agg [.int .i64 v15, .bslc (BR.root 0) (.i64 v16), .bslc (BR.root 1) (.i64 v17), .bslc (BR.root 2) (.f32 v18)]] (fun F' h0 hi hρ => ⟨by simp [DVs.av, DV.av, BR.av, hρ], laws_toSparse_fn v15 v16 v17 v18 F' (by rw [hi]; rfl) (st_nil hi) ⟨⟨trivial, bslc_ok hi (by rw [h0, hρ]; exact rowI64_ok hs (DVs.okAt (DVs.okAt ha 0 rfl) 1 rfl) hv16), bslc_ok hi (by rw [h0, hρ]; exact rowI64_ok hs (DVs.okAt (DVs.okAt ha 0 rfl) 2 rfl) hv17), bslc_ok hi (by rw [h0, hρ]; exact rowF32_ok hs (DVs.okAt (DVs.okAt ha 0 rfl) 3 rfl) hv18), trivial⟩, trivial⟩ hy⟩) rfl rfl
  · cases hr
/-! spec.l00In -/
noncomputable def spec_l00In_LO (v52 : Int) (v53 : Int) (v54 : Int) : LOr := fun id e L =>
  match id with
  | _ => .fail
noncomputable def spec_l00In_tab : List (FuncId × DFn × Bool) := []
theorem spec_l00In_hO : OrcOk Try.prog (tabD spec_l00In_tab) (tabM spec_l00In_tab) := tabD_nil _
noncomputable def spec_l00In_T (v52 : Int) (v53 : Int) (v54 : Int) : Tree (Bool) :=
  (.br (decide (v53 ≤ v52)) (
   .leaf (decide (v52 ≤ v54))
  ) (
   .leaf false
  ))

noncomputable def spec_l00In_g (v52 : Int) (v53 : Int) (v54 : Int) : Option (Bool) := (spec_l00In_T v52 v53 v54).run
def spec_l00In_enc (v52 : Int) (v53 : Int) (v54 : Int) (y : Bool) : Rs := (.bool y, [])
theorem spec_l00In_den (v52 : Int) (v53 : Int) (v54 : Int) : (den TT (tabD spec_l00In_tab) (tabM spec_l00In_tab) (spec_l00In_LO v52 v53 v54) (codeOf Try.f71) ([.int .i64 v52, .int .i64 v53, .int .i64 v54] ++ List.replicate (Try.f71.ntmps - ([.int .i64 v52, .int .i64 v53, .int .i64 v54] : List DV).length) .undef) []).bind (retD TT Try.f71.results.toList 0) = (spec_l00In_T v52 v53 v54).bind fun y => .leaf (spec_l00In_enc v52 v53 v54 y) := by kernel_rfl
theorem spec_l00In_fn (v52 : Int) (v53 : Int) (v54 : Int) (F : Fr) (hm : F.ids.length = 0) (h0 : St F [] F.H0) (hA : DVs.Ok F [] [.int .i64 v52, .int .i64 v53, .int .i64 v54]) {y : Bool} (hy : spec_l00In_g v52 v53 v54 = some y) : ∃ H', FnOk Try.prog 71 (DVs.av F [.int .i64 v52, .int .i64 v53, .int .i64 v54]) F.H0 ((spec_l00In_enc v52 v53 v54 y).1.av F) H' ∧ St F (spec_l00In_enc v52 v53 v54 y).2 H' ∧ (spec_l00In_enc v52 v53 v54 y).1.Ok F (spec_l00In_enc v52 v53 v54 y).2 :=
  fn_fin tok spec_l00In_hO mixed Try.func71 Try.call71 (by kernel_rfl) (LoopsOk_eq (l := []) (by kernel_rfl) trivial) (spec_l00In_den v52 v53 v54) hy hm h0 hA
def spec_l00In_v (v52 : Int) (v53 : Int) (v54 : Int) : Bool :=
  if (decide (v53 ≤ v52)) = true then (
   decide (v52 ≤ v54)
  ) else (
   false
  )
theorem spec_l00In_tot (v52 : Int) (v53 : Int) (v54 : Int) : spec_l00In_g v52 v53 v54 = some (spec_l00In_v v52 v53 v54) := by
  unfold spec_l00In_g spec_l00In_T spec_l00In_v
  simp only [Tree.run]
  repeat' (first | rfl | split)
noncomputable def spec_l00In_F : DFn := fun args L =>
  match args with
  | [.int .i64 v52, .int .i64 v53, .int .i64 v54] =>
    .leaf (.bool (spec_l00In_v v52 v53 v54), L)
  | _ => .fail
theorem spec_l00In_Fok : COk Try.prog 71 spec_l00In_F true := by
  intro F L H args r L' hs ha hr
  unfold spec_l00In_F at hr
  split at hr
  · rename_i v52 v53 v54
    have hy := spec_l00In_tot v52 v53 v54
    generalize spec_l00In_v v52 v53 v54 = y at hy hr
    simp only [Tree.run, Option.some.injEq, Prod.mk.injEq] at hr
    obtain ⟨rfl, rfl⟩ := hr
    exact call_ok0 hs (fun k => (([] : List AV)[k]?).getD .top) [.int .i64 v52, .int .i64 v53, .int .i64 v54] [.int .i64 v52, .int .i64 v53, .int .i64 v54] (fun F' h0 hi hρ => ⟨by simp [DVs.av, DV.av, BR.av, hρ], spec_l00In_fn v52 v53 v54 F' (by rw [hi]; rfl) (st_nil hi) ⟨trivial, trivial, trivial, trivial⟩ hy⟩) rfl
  · cases hr
/-! spec.l01Finite -/
noncomputable def spec_l01Finite_LO (v57 : Nat) : LOr := fun id e L =>
  match id with
  | _ => .fail
noncomputable def spec_l01Finite_tab : List (FuncId × DFn × Bool) := []
theorem spec_l01Finite_hO : OrcOk Try.prog (tabD spec_l01Finite_tab) (tabM spec_l01Finite_tab) := tabD_nil _
noncomputable def spec_l01Finite_T (v57 : Nat) : Tree (Bool) :=
  .leaf (feq .f32 (fsub .f32 v57 v57) (0 : Nat))

noncomputable def spec_l01Finite_g (v57 : Nat) : Option (Bool) := (spec_l01Finite_T v57).run
def spec_l01Finite_enc (v57 : Nat) (y : Bool) : Rs := (.bool y, [])
theorem spec_l01Finite_den (v57 : Nat) : (den TT (tabD spec_l01Finite_tab) (tabM spec_l01Finite_tab) (spec_l01Finite_LO v57) (codeOf Try.f100) ([.flt .f32 v57] ++ List.replicate (Try.f100.ntmps - ([.flt .f32 v57] : List DV).length) .undef) []).bind (retD TT Try.f100.results.toList 0) = (spec_l01Finite_T v57).bind fun y => .leaf (spec_l01Finite_enc v57 y) := by kernel_rfl
theorem spec_l01Finite_fn (v57 : Nat) (F : Fr) (hm : F.ids.length = 0) (h0 : St F [] F.H0) (hA : DVs.Ok F [] [.flt .f32 v57]) {y : Bool} (hy : spec_l01Finite_g v57 = some y) : ∃ H', FnOk Try.prog 100 (DVs.av F [.flt .f32 v57]) F.H0 ((spec_l01Finite_enc v57 y).1.av F) H' ∧ St F (spec_l01Finite_enc v57 y).2 H' ∧ (spec_l01Finite_enc v57 y).1.Ok F (spec_l01Finite_enc v57 y).2 :=
  fn_fin tok spec_l01Finite_hO mixed Try.func100 Try.call100 (by kernel_rfl) (LoopsOk_eq (l := []) (by kernel_rfl) trivial) (spec_l01Finite_den v57) hy hm h0 hA
def spec_l01Finite_v (v57 : Nat) : Bool :=
  feq .f32 (fsub .f32 v57 v57) (0 : Nat)
theorem spec_l01Finite_tot (v57 : Nat) : spec_l01Finite_g v57 = some (spec_l01Finite_v v57) := by
  unfold spec_l01Finite_g spec_l01Finite_T spec_l01Finite_v
  simp only [Tree.run]
  repeat' (first | rfl | split)
noncomputable def spec_l01Finite_F : DFn := fun args L =>
  match args with
  | [.flt .f32 v57] =>
    .leaf (.bool (spec_l01Finite_v v57), L)
  | _ => .fail
theorem spec_l01Finite_Fok : COk Try.prog 100 spec_l01Finite_F true := by
  intro F L H args r L' hs ha hr
  unfold spec_l01Finite_F at hr
  split at hr
  · rename_i v57
    have hy := spec_l01Finite_tot v57
    generalize spec_l01Finite_v v57 = y at hy hr
    simp only [Tree.run, Option.some.injEq, Prod.mk.injEq] at hr
    obtain ⟨rfl, rfl⟩ := hr
    exact call_ok0 hs (fun k => (([] : List AV)[k]?).getD .top) [.flt .f32 v57] [.flt .f32 v57] (fun F' h0 hi hρ => ⟨by simp [DVs.av, DV.av, BR.av, hρ], spec_l01Finite_fn v57 F' (by rw [hi]; rfl) (st_nil hi) ⟨trivial, trivial⟩ hy⟩) rfl
  · cases hr
/-! spec.l02Finite -/
noncomputable def spec_l02Finite_l0_T (v55 : List Nat) (s : Int) : Tree ((Int) ⊕ ((Unit) ⊕ (Unit))) :=
  (.br (decide (s < ((v55.length : Nat) : Int))) (
   (.grd (inb s v55.length) <|
   (.br (!(spec_l01Finite_v (nth v55 (Int.toNat s)))) (
    .leaf (.inr (.inl ()))
   ) (
    .leaf (.inl (IntKind.i64.wrap (s + (1 : Int))))
   )))
  ) (
   .leaf (.inr (.inr ()))
  ))

noncomputable def spec_l02Finite_l0_g (v55 : List Nat) (s0 : Int) : Option ((Unit) ⊕ (Unit)) := whileM (fun s => (spec_l02Finite_l0_T v55 s).run) s0
def spec_l02Finite_l0_E (v55 : List Nat) (s : Int) : Sd := ([.bslc (BR.root 0) (.f32 v55), .top, .top, .int .i64 s, .top, .top, .top, .top, .top, .top, .top, .top, .top, .top, .top, .top], [])
def spec_l02Finite_l0_X (v55 : List Nat) (x : (Unit) ⊕ (Unit)) : Out := (match x with | .inl x => (.ret, [.top, .top, .lit false, .top, .top, .top, .top, .top, .top, .top, .top, .top, .top, .top, .top, .top], []) | .inr x => (.normal, [.top, .top, .top, .top, .top, .top, .top, .top, .top, .top, .top, .top, .top, .top, .top, .top], []))
def spec_l02Finite_l0_kill : List Nat := [0, 1, 1, 0, 1, 1, 1, 1, 1, 1, 1, 1, 1, 1, 1, 1]
def spec_l02Finite_l0_nx : Exit → List Nat
  | .exit 0 => [1, 1, 1, 1, 1, 1, 1, 1, 1, 1, 1, 1, 1, 1, 1, 1]
  | .ret => [1, 1, 0, 1, 1, 1, 1, 1, 1, 1, 1, 1, 1, 1, 1, 1]
  | _ => []
noncomputable def spec_l02Finite_LO (v55 : List Nat) : LOr := fun id e L =>
  match id with
  | 0 => .need (normA 0 spec_l02Finite_l0_kill e L = some (spec_l02Finite_l0_E v55 (gI (vAt e 3)))) (.call (spec_l02Finite_l0_g v55 (gI (vAt e 3))) fun x => .sum x (fun b0 => .leaf (spec_l02Finite_l0_X v55 (.inl b0))) (fun c0 => .leaf (spec_l02Finite_l0_X v55 (.inr c0))))
  | _ => .fail
noncomputable def spec_l02Finite_tab : List (FuncId × DFn × Bool) := [(100, spec_l01Finite_F, true)]
theorem spec_l02Finite_hO : OrcOk Try.prog (tabD spec_l02Finite_tab) (tabM spec_l02Finite_tab) := tabD_cons spec_l01Finite_Fok (tabD_nil _)
theorem spec_l02Finite_l0_be (v55 : List Nat) (s : Int) : bodyT TT (tabD spec_l02Finite_tab) (tabM spec_l02Finite_tab) (spec_l02Finite_LO v55) 0 spec_l02Finite_l0_kill spec_l02Finite_l0_nx (bodyOf Try.f131 0) 0 (spec_l02Finite_l0_E v55 s) = (spec_l02Finite_l0_T v55 s).bind fun y => .leaf (outS (spec_l02Finite_l0_E v55) (spec_l02Finite_l0_X v55) y) := by kernel_rfl
theorem spec_l02Finite_l0_ok (v55 : List Nat) : LSound Try.prog 0 (spec_l02Finite_LO v55) 0 (bodyOf Try.f131 0) := by
  intro e L out h
  exact lo_ok (E := spec_l02Finite_l0_E v55) (gT := spec_l02Finite_l0_T v55) (X := spec_l02Finite_l0_X v55) (s0 := (gI (vAt e 3))) tok spec_l02Finite_hO mixed (LoopsOk_eq (l := []) (by kernel_rfl) trivial) (spec_l02Finite_l0_be v55) rfl (by intro x; (cases x with | inl b => rfl | inr x => exact rfl)) h
noncomputable def spec_l02Finite_T (v55 : List Nat) : Tree (Bool) :=
  (.need (some (spec_l02Finite_l0_E v55 (0 : Int)) = some (spec_l02Finite_l0_E v55 (0 : Int))) <|
  (.call (spec_l02Finite_l0_g v55 (0 : Int)) fun v60 =>
  (.sum v60 (fun v61 =>
   .leaf false
  ) (fun v62 =>
   .leaf true
  ))))

noncomputable def spec_l02Finite_g (v55 : List Nat) : Option (Bool) := (spec_l02Finite_T v55).run
def spec_l02Finite_enc (v55 : List Nat) (y : Bool) : Rs := (.bool y, [])
theorem spec_l02Finite_den (v55 : List Nat) : (den TT (tabD spec_l02Finite_tab) (tabM spec_l02Finite_tab) (spec_l02Finite_LO v55) (codeOf Try.f131) ([.bslc (BR.root 0) (.f32 v55)] ++ List.replicate (Try.f131.ntmps - ([.bslc (BR.root 0) (.f32 v55)] : List DV).length) .undef) []).bind (retD TT Try.f131.results.toList 0) = (spec_l02Finite_T v55).bind fun y => .leaf (spec_l02Finite_enc v55 y) := by kernel_rfl
theorem spec_l02Finite_fn (v55 : List Nat) (F : Fr) (hm : F.ids.length = 0) (h0 : St F [] F.H0) (hA : DVs.Ok F [] [.bslc (BR.root 0) (.f32 v55)]) {y : Bool} (hy : spec_l02Finite_g v55 = some y) : ∃ H', FnOk Try.prog 131 (DVs.av F [.bslc (BR.root 0) (.f32 v55)]) F.H0 ((spec_l02Finite_enc v55 y).1.av F) H' ∧ St F (spec_l02Finite_enc v55 y).2 H' ∧ (spec_l02Finite_enc v55 y).1.Ok F (spec_l02Finite_enc v55 y).2 :=
  fn_fin tok spec_l02Finite_hO mixed Try.func131 Try.call131 (by kernel_rfl) (LoopsOk_eq (l := [(0, bodyOf Try.f131 0)]) (by kernel_rfl) ⟨spec_l02Finite_l0_ok v55, trivial⟩) (spec_l02Finite_den v55) hy hm h0 hA
noncomputable def spec_l02Finite_F : DFn := fun args L =>
  match args with
  | [a1] =>
    optT (rowF32 L a1) fun v55 =>
    .call (spec_l02Finite_g v55) fun y => .leaf (.bool y, L)
  | _ => .fail
theorem spec_l02Finite_Fok : COk Try.prog 131 spec_l02Finite_F true := by
  intro F L H args r L' hs ha hr
  unfold spec_l02Finite_F at hr
  split at hr
  · rename_i a1
    obtain ⟨v55, hv55, hr⟩ := optT_run hr
    simp only [Tree.run] at hr
    obtain ⟨y, hy, hr⟩ := Option.bind_eq_some_iff.1 hr
    simp only [Tree.run, Option.some.injEq, Prod.mk.injEq] at hr
    obtain ⟨rfl, rfl⟩ := hr
    exact call_ok0 hs (fun k => (([a1.av F] : List AV)[k]?).getD .top) [a1] [.bslc (BR.root 0) (.f32 v55)] (fun F' h0 hi hρ => ⟨by simp [DVs.av, DV.av, BR.av, hρ], spec_l02Finite_fn v55 F' (by rw [hi]; rfl) (st_nil hi) ⟨bslc_ok hi (by rw [h0, hρ]; exact rowF32_ok hs (DVs.okAt ha 0 rfl) hv55), trivial⟩ hy⟩) rfl
  · cases hr
/-! spec.l05Is -/
noncomputable def spec_l05Is_l2_T (v48 : Int) (v49 : List Int) (v50 : List Int) (v89 : Int) (s : Int) : Tree ((Int) ⊕ ((Unit) ⊕ (Unit))) :=
  (.grd (inb (IntKind.i64.wrap (v89 + (1 : Int))) v49.length) <|
  (.br (decide (s < nth v49 (Int.toNat (IntKind.i64.wrap (v89 + (1 : Int)))))) (
   (.grd (inb s v50.length) <|
   (.br (!(spec_l00In_v (nth v50 (Int.toNat s)) (0 : Int) (IntKind.i64.wrap (v48 - (1 : Int))))) (
    .leaf (.inr (.inl ()))
   ) (
    (.grd (inb v89 v49.length) <|
    (.br (decide (nth v49 (Int.toNat v89) < s)) (
     (.grd (inb s v50.length) <|
     (.grd (inb (IntKind.i64.wrap (s - (1 : Int))) v50.length) <|
     (.br (decide (nth v50 (Int.toNat s) ≤ nth v50 (Int.toNat (IntKind.i64.wrap (s - (1 : Int)))))) (
      .leaf (.inr (.inl ()))
     ) (
      .leaf (.inl (IntKind.i64.wrap (s + (1 : Int))))
     ))))
    ) (
     .leaf (.inl (IntKind.i64.wrap (s + (1 : Int))))
    )))
   )))
  ) (
   .leaf (.inr (.inr ()))
  )))

noncomputable def spec_l05Is_l2_g (v48 : Int) (v49 : List Int) (v50 : List Int) (v89 : Int) (s0 : Int) : Option ((Unit) ⊕ (Unit)) := whileM (fun s => (spec_l05Is_l2_T v48 v49 v50 v89 s).run) s0
def spec_l05Is_l2_E (v48 : Int) (v49 : List Int) (v50 : List Int) (v51 : List Nat) (v89 : Int) (s : Int) : Sd := ([.bptr (BR.root 0) [.int .i64 v48, .bslc (BR.root 1) (.i64 v49), .bslc (BR.root 2) (.i64 v50), .bslc (BR.root 3) (.f32 v51)], .top, .top, .int .i64 ((v50.length : Nat) : Int), .int .i64 v89, .int .i64 s, .top, .top, .top, .top, .top, .top, .top, .top, .top, .top, .top, .top, .top, .top, .top, .top, .top, .top, .top, .top, .top, .top, .top, .top, .top, .top, .top, .top, .top, .top, .top, .top, .top, .top, .top, .top, .top, .top, .top, .top, .top, .top, .top, .top, .top, .top, .top, .top, .top, .top, .top, .top, .top, .top, .top, .top, .top, .top, .top, .top, .top, .top, .top, .top, .top, .top, .top, .top, .top, .top, .top, .top, .top, .top, .top, .top, .top, .top, .top, .top, .top, .top, .top, .top, .top, .top, .top, .top, .top, .top, .top, .top, .top, .top, .top, .top, .top, .top, .top, .top, .top, .top, .top, .top, .top, .top, .top, .top, .top, .top, .top, .top, .top, .top, .top, .top, .top, .top, .top, .top, .top, .top, .top, .top, .top, .top, .top, .top, .top, .top, .top, .top, .top, .top, .top, .top, .top, .top, .top, .top, .top, .top, .top, .top, .top, .top, .top, .top, .top, .top, .top, .top, .top, .top, .top, .top, .top, .top, .top, .top, .top, .top, .top, .top], [])
def spec_l05Is_l2_X (v48 : Int) (v49 : List Int) (v50 : List Int) (v51 : List Nat) (v89 : Int) (x : (Unit) ⊕ (Unit)) : Out := (match x with | .inl x => (.ret, [.top, .top, .lit false, .top, .top, .top, .top, .top, .top, .top, .top, .top, .top, .top, .top, .top, .top, .top, .top, .top, .top, .top, .top, .top, .top, .top, .top, .top, .top, .top, .top, .top, .top, .top, .top, .top, .top, .top, .top, .top, .top, .top, .top, .top, .top, .top, .top, .top, .top, .top, .top, .top, .top, .top, .top, .top, .top, .top, .top, .top, .top, .top, .top, .top, .top, .top, .top, .top, .top, .top, .top, .top, .top, .top, .top, .top, .top, .top, .top, .top, .top, .top, .top, .top, .top, .top, .top, .top, .top, .top, .top, .top, .top, .top, .top, .top, .top, .top, .top, .top, .top, .top, .top, .top, .top, .top, .top, .top, .top, .top, .top, .top, .top, .top, .top, .top, .top, .top, .top, .top, .top, .top, .top, .top, .top, .top, .top, .top, .top, .top, .top, .top, .top, .top, .top, .top, .top, .top, .top, .top, .top, .top, .top, .top, .top, .top, .top, .top, .top, .top, .top, .top, .top, .top, .top, .top, .top, .top, .top, .top, .top, .top, .top, .top, .top, .top, .top, .top, .top, .top], []) | .inr x => (.normal, [.bptr (BR.root 0) [.int .i64 v48, .bslc (BR.root 1) (.i64 v49), .bslc (BR.root 2) (.i64 v50), .bslc (BR.root 3) (.f32 v51)], .top, .top, .int .i64 ((v50.length : Nat) : Int), .int .i64 v89, .top, .top, .top, .top, .top, .top, .top, .top, .top, .top, .top, .top, .top, .top, .top, .top, .top, .top, .top, .top, .top, .top, .top, .top, .top, .top, .top, .top, .top, .top, .top, .top, .top, .top, .top, .top, .top, .top, .top, .top, .top, .top, .top, .top, .top, .top, .top, .top, .top, .top, .top, .top, .top, .top, .top, .top, .top, .top, .top, .top, .top, .top, .top, .top, .top, .top, .top, .top, .top, .top, .top, .top, .top, .top, .top, .top, .top, .top, .top, .top, .top, .top, .top, .top, .top, .top, .top, .top, .top, .top, .top, .top, .top, .top, .top, .top, .top, .top, .top, .top, .top, .top, .top, .top, .top, .top, .top, .top, .top, .top, .top, .top, .top, .top, .top, .top, .top, .top, .top, .top, .top, .top, .top, .top, .top, .top, .top, .top, .top, .top, .top, .top, .top, .top, .top, .top, .top, .top, .top, .top, .top, .top, .top, .top, .top, .top, .top, .top, .top, .top, .top, .top, .top, .top, .top, .top, .top, .top, .top, .top, .top, .top, .top, .top, .top], []))
def spec_l05Is_l2_kill : List Nat := [0, 1, 1, 0, 0, 0, 1, 1, 1, 1, 1, 1, 1, 1, 1, 1, 1, 1, 1, 1, 1, 1, 1, 1, 1, 1, 1, 1, 1, 1, 1, 1, 1, 1, 1, 1, 1, 1, 1, 1, 1, 1, 1, 1, 1, 1, 1, 1, 1, 1, 1, 1, 1, 1, 1, 1, 1, 1, 1, 1, 1, 1, 1, 1, 1, 1, 1, 1, 1, 1, 1, 1, 1, 1, 1, 1, 1, 1, 1, 1, 1, 1, 1, 1, 1, 1, 1, 1, 1, 1, 1, 1, 1, 1, 1, 1, 1, 1, 1, 1, 1, 1, 1, 1, 1, 1, 1, 1, 1, 1, 1, 1, 1, 1, 1, 1, 1, 1, 1, 1, 1, 1, 1, 1, 1, 1, 1, 1, 1, 1, 1, 1, 1, 1, 1, 1, 1, 1, 1, 1, 1, 1, 1, 1, 1, 1, 1, 1, 1, 1, 1, 1, 1, 1, 1, 1, 1, 1, 1, 1, 1, 1, 1, 1, 1, 1, 1, 1, 1, 1]
def spec_l05Is_l2_nx : Exit → List Nat
  | .exit 0 => [1, 1, 1, 1, 1, 1, 1, 1, 1, 1, 1, 1, 1, 1, 1, 1, 1, 1, 1, 1, 1, 1, 1, 1, 1, 1, 1, 1, 1, 1, 1, 1, 1, 1, 1, 1, 1, 1, 1, 1, 1, 1, 1, 1, 1, 1, 1, 1, 1, 1, 1, 1, 1, 1, 1, 1, 1, 1, 1, 1, 1, 1, 1, 1, 1, 1, 1, 1, 1, 1, 1, 1, 1, 1, 1, 1, 1, 1, 1, 1, 1, 1, 1, 1, 1, 1, 1, 1, 1, 1, 1, 1, 1, 1, 1, 1, 1, 1, 1, 1, 1, 1, 1, 1, 1, 1, 1, 1, 1, 1, 1, 1, 1, 1, 1, 1, 1, 1, 1, 1, 1, 1, 1, 1, 1, 1, 1, 1, 1, 1, 1, 1, 1, 1, 1, 1, 1, 1, 1, 1, 1, 1, 1, 1, 1, 1, 1, 1, 1, 1, 1, 1, 1, 1, 1, 1, 1, 1, 1, 1, 1, 1, 1, 1, 1, 1, 1, 1, 1, 1]
  | .exit 1 => [0, 1, 1, 0, 0, 1, 1, 1, 1, 1, 1, 1, 1, 1, 1, 1, 1, 1, 1, 1, 1, 1, 1, 1, 1, 1, 1, 1, 1, 1, 1, 1, 1, 1, 1, 1, 1, 1, 1, 1, 1, 1, 1, 1, 1, 1, 1, 1, 1, 1, 1, 1, 1, 1, 1, 1, 1, 1, 1, 1, 1, 1, 1, 1, 1, 1, 1, 1, 1, 1, 1, 1, 1, 1, 1, 1, 1, 1, 1, 1, 1, 1, 1, 1, 1, 1, 1, 1, 1, 1, 1, 1, 1, 1, 1, 1, 1, 1, 1, 1, 1, 1, 1, 1, 1, 1, 1, 1, 1, 1, 1, 1, 1, 1, 1, 1, 1, 1, 1, 1, 1, 1, 1, 1, 1, 1, 1, 1, 1, 1, 1, 1, 1, 1, 1, 1, 1, 1, 1, 1, 1, 1, 1, 1, 1, 1, 1, 1, 1, 1, 1, 1, 1, 1, 1, 1, 1, 1, 1, 1, 1, 1, 1, 1, 1, 1, 1, 1, 1, 1]
  | .exit 2 => [0, 1, 1, 0, 0, 1, 1, 1, 1, 1, 1, 1, 1, 1, 1, 1, 1, 1, 1, 1, 1, 1, 1, 1, 1, 1, 1, 1, 1, 1, 1, 1, 1, 1, 1, 1, 1, 1, 1, 1, 1, 1, 1, 1, 1, 1, 1, 1, 1, 1, 1, 1, 1, 1, 1, 1, 1, 1, 1, 1, 1, 1, 1, 1, 1, 1, 1, 1, 1, 1, 1, 1, 1, 1, 1, 1, 1, 1, 1, 1, 1, 1, 1, 1, 1, 1, 1, 1, 1, 1, 1, 1, 1, 1, 1, 1, 1, 1, 1, 1, 1, 1, 1, 1, 1, 1, 1, 1, 1, 1, 1, 1, 1, 1, 1, 1, 1, 1, 1, 1, 1, 1, 1, 1, 1, 1, 1, 1, 1, 1, 1, 1, 1, 1, 1, 1, 1, 1, 1, 1, 1, 1, 1, 1, 1, 1, 1, 1, 1, 1, 1, 1, 1, 1, 1, 1, 1, 1, 1, 1, 1, 1, 1, 1, 1, 1, 1, 1, 1, 1]
  | .ret => [1, 1, 0, 1, 1, 1, 1, 1, 1, 1, 1, 1, 1, 1, 1, 1, 1, 1, 1, 1, 1, 1, 1, 1, 1, 1, 1, 1, 1, 1, 1, 1, 1, 1, 1, 1, 1, 1, 1, 1, 1, 1, 1, 1, 1, 1, 1, 1, 1, 1, 1, 1, 1, 1, 1, 1, 1, 1, 1, 1, 1, 1, 1, 1, 1, 1, 1, 1, 1, 1, 1, 1, 1, 1, 1, 1, 1, 1, 1, 1, 1, 1, 1, 1, 1, 1, 1, 1, 1, 1, 1, 1, 1, 1, 1, 1, 1, 1, 1, 1, 1, 1, 1, 1, 1, 1, 1, 1, 1, 1, 1, 1, 1, 1, 1, 1, 1, 1, 1, 1, 1, 1, 1, 1, 1, 1, 1, 1, 1, 1, 1, 1, 1, 1, 1, 1, 1, 1, 1, 1, 1, 1, 1, 1, 1, 1, 1, 1, 1, 1, 1, 1, 1, 1, 1, 1, 1, 1, 1, 1, 1, 1, 1, 1, 1, 1, 1, 1, 1, 1]
  | _ => []
noncomputable def spec_l05Is_l0_T (v48 : Int) (v49 : List Int) (v50 : List Int) (v51 : List Nat) (s : Int) : Tree ((Int) ⊕ ((Unit) ⊕ (Unit))) :=
  (.br (decide (s < v48)) (
   (.grd (inb (IntKind.i64.wrap (s + (1 : Int))) v49.length) <|
   (.grd (inb s v49.length) <|
   (.br (decide (nth v49 (Int.toNat (IntKind.i64.wrap (s + (1 : Int)))) < nth v49 (Int.toNat s))) (
    .leaf (.inr (.inl ()))
   ) (
    (.grd (inb (IntKind.i64.wrap (s + (1 : Int))) v49.length) <|
    (.br (decide (((v50.length : Nat) : Int) < nth v49 (Int.toNat (IntKind.i64.wrap (s + (1 : Int)))))) (
     .leaf (.inr (.inl ()))
    ) (
     (.grd (inb s v49.length) <|
     (.need (some (spec_l05Is_l2_E v48 v49 v50 v51 s (nth v49 (Int.toNat s))) = some (spec_l05Is_l2_E v48 v49 v50 v51 s (nth v49 (Int.toNat s)))) <|
     (.call (spec_l05Is_l2_g v48 v49 v50 s (nth v49 (Int.toNat s))) fun v91 =>
     (.sum v91 (fun v92 =>
      .leaf (.inr (.inl ()))
     ) (fun v93 =>
      .leaf (.inl (IntKind.i64.wrap (s + (1 : Int))))
     )))))
    )))
   ))))
  ) (
   .leaf (.inr (.inr ()))
  ))

noncomputable def spec_l05Is_l0_g (v48 : Int) (v49 : List Int) (v50 : List Int) (v51 : List Nat) (s0 : Int) : Option ((Unit) ⊕ (Unit)) := whileM (fun s => (spec_l05Is_l0_T v48 v49 v50 v51 s).run) s0
def spec_l05Is_l0_E (v48 : Int) (v49 : List Int) (v50 : List Int) (v51 : List Nat) (s : Int) : Sd := ([.bptr (BR.root 0) [.int .i64 v48, .bslc (BR.root 1) (.i64 v49), .bslc (BR.root 2) (.i64 v50), .bslc (BR.root 3) (.f32 v51)], .top, .top, .int .i64 ((v50.length : Nat) : Int), .int .i64 s, .top, .top, .top, .top, .top, .top, .top, .top, .top, .top, .top, .top, .top, .top, .top, .top, .top, .top, .top, .top, .top, .top, .top, .top, .top, .top, .top, .top, .top, .top, .top, .top, .top, .top, .top, .top, .top, .top, .top, .top, .top, .top, .top, .top, .top, .top, .top, .top, .top, .top, .top, .top, .top, .top, .top, .top, .top, .top, .top, .top, .top, .top, .top, .top, .top, .top, .top, .top, .top, .top, .top, .top, .top, .top, .top, .top, .top, .top, .top, .top, .top, .top, .top, .top, .top, .top, .top, .top, .top, .top, .top, .top, .top, .top, .top, .top, .top, .top, .top, .top, .top, .top, .top, .top, .top, .top, .top, .top, .top, .top, .top, .top, .top, .top, .top, .top, .top, .top, .top, .top, .top, .top, .top, .top, .top, .top, .top, .top, .top, .top, .top, .top, .top, .top, .top, .top, .top, .top, .top, .top, .top, .top, .top, .top, .top, .top, .top, .top, .top, .top, .top, .top, .top, .top, .top, .top, .top, .top, .top, .top, .top, .top, .top, .top, .top], [])
def spec_l05Is_l0_X (v48 : Int) (v49 : List Int) (v50 : List Int) (v51 : List Nat) (x : (Unit) ⊕ (Unit)) : Out := (match x with | .inl x => (.ret, [.top, .top, .lit false, .top, .top, .top, .top, .top, .top, .top, .top, .top, .top, .top, .top, .top, .top, .top, .top, .top, .top, .top, .top, .top, .top, .top, .top, .top, .top, .top, .top, .top, .top, .top, .top, .top, .top, .top, .top, .top, .top, .top, .top, .top, .top, .top, .top, .top, .top, .top, .top, .top, .top, .top, .top, .top, .top, .top, .top, .top, .top, .top, .top, .top, .top, .top, .top, .top, .top, .top, .top, .top, .top, .top, .top, .top, .top, .top, .top, .top, .top, .top, .top, .top, .top, .top, .top, .top, .top, .top, .top, .top, .top, .top, .top, .top, .top, .top, .top, .top, .top, .top, .top, .top, .top, .top, .top, .top, .top, .top, .top, .top, .top, .top, .top, .top, .top, .top, .top, .top, .top, .top, .top, .top, .top, .top, .top, .top, .top, .top, .top, .top, .top, .top, .top, .top, .top, .top, .top, .top, .top, .top, .top, .top, .top, .top, .top, .top, .top, .top, .top, .top, .top, .top, .top, .top, .top, .top, .top, .top, .top, .top, .top, .top, .top, .top, .top, .top, .top, .top], []) | .inr x => (.normal, [.top, .top, .top, .top, .top, .top, .top, .top, .top, .top, .top, .top, .top, .top, .top, .top, .top, .top, .top, .top, .top, .top, .top, .top, .top, .top, .top, .top, .top, .top, .top, .top, .top, .top, .top, .top, .top, .top, .top, .top, .top, .top, .top, .top, .top, .top, .top, .top, .top, .top, .top, .top, .top, .top, .top, .top, .top, .top, .top, .top, .top, .top, .top, .top, .top, .top, .top, .top, .top, .top, .top, .top, .top, .top, .top, .top, .top, .top, .top, .top, .top, .top, .top, .top, .top, .top, .top, .top, .top, .top, .top, .top, .top, .top, .top, .top, .top, .top, .top, .top, .top, .top, .top, .top, .top, .top, .top, .top, .top, .top, .top, .top, .top, .top, .top, .top, .top, .top, .top, .top, .top, .top, .top, .top, .top, .top, .top, .top, .top, .top, .top, .top, .top, .top, .top, .top, .top, .top, .top, .top, .top, .top, .top, .top, .top, .top, .top, .top, .top, .top, .top, .top, .top, .top, .top, .top, .top, .top, .top, .top, .top, .top, .top, .top, .top, .top, .top, .top, .top, .top], []))
def spec_l05Is_l0_kill : List Nat := [0, 1, 1, 0, 0, 1, 1, 1, 1, 1, 1, 1, 1, 1, 1, 1, 1, 1, 1, 1, 1, 1, 1, 1, 1, 1, 1, 1, 1, 1, 1, 1, 1, 1, 1, 1, 1, 1, 1, 1, 1, 1, 1, 1, 1, 1, 1, 1, 1, 1, 1, 1, 1, 1, 1, 1, 1, 1, 1, 1, 1, 1, 1, 1, 1, 1, 1, 1, 1, 1, 1, 1, 1, 1, 1, 1, 1, 1, 1, 1, 1, 1, 1, 1, 1, 1, 1, 1, 1, 1, 1, 1, 1, 1, 1, 1, 1, 1, 1, 1, 1, 1, 1, 1, 1, 1, 1, 1, 1, 1, 1, 1, 1, 1, 1, 1, 1, 1, 1, 1, 1, 1, 1, 1, 1, 1, 1, 1, 1, 1, 1, 1, 1, 1, 1, 1, 1, 1, 1, 1, 1, 1, 1, 1, 1, 1, 1, 1, 1, 1, 1, 1, 1, 1, 1, 1, 1, 1, 1, 1, 1, 1, 1, 1, 1, 1, 1, 1, 1, 1]
def spec_l05Is_l0_nx : Exit → List Nat
  | .exit 0 => [1, 1, 1, 1, 1, 1, 1, 1, 1, 1, 1, 1, 1, 1, 1, 1, 1, 1, 1, 1, 1, 1, 1, 1, 1, 1, 1, 1, 1, 1, 1, 1, 1, 1, 1, 1, 1, 1, 1, 1, 1, 1, 1, 1, 1, 1, 1, 1, 1, 1, 1, 1, 1, 1, 1, 1, 1, 1, 1, 1, 1, 1, 1, 1, 1, 1, 1, 1, 1, 1, 1, 1, 1, 1, 1, 1, 1, 1, 1, 1, 1, 1, 1, 1, 1, 1, 1, 1, 1, 1, 1, 1, 1, 1, 1, 1, 1, 1, 1, 1, 1, 1, 1, 1, 1, 1, 1, 1, 1, 1, 1, 1, 1, 1, 1, 1, 1, 1, 1, 1, 1, 1, 1, 1, 1, 1, 1, 1, 1, 1, 1, 1, 1, 1, 1, 1, 1, 1, 1, 1, 1, 1, 1, 1, 1, 1, 1, 1, 1, 1, 1, 1, 1, 1, 1, 1, 1, 1, 1, 1, 1, 1, 1, 1, 1, 1, 1, 1, 1, 1]
  | .ret => [1, 1, 0, 1, 1, 1, 1, 1, 1, 1, 1, 1, 1, 1, 1, 1, 1, 1, 1, 1, 1, 1, 1, 1, 1, 1, 1, 1, 1, 1, 1, 1, 1, 1, 1, 1, 1, 1, 1, 1, 1, 1, 1, 1, 1, 1, 1, 1, 1, 1, 1, 1, 1, 1, 1, 1, 1, 1, 1, 1, 1, 1, 1, 1, 1, 1, 1, 1, 1, 1, 1, 1, 1, 1, 1, 1, 1, 1, 1, 1, 1, 1, 1, 1, 1, 1, 1, 1, 1, 1, 1, 1, 1, 1, 1, 1, 1, 1, 1, 1, 1, 1, 1, 1, 1, 1, 1, 1, 1, 1, 1, 1, 1, 1, 1, 1, 1, 1, 1, 1, 1, 1, 1, 1, 1, 1, 1, 1, 1, 1, 1, 1, 1, 1, 1, 1, 1, 1, 1, 1, 1, 1, 1, 1, 1, 1, 1, 1, 1, 1, 1, 1, 1, 1, 1, 1, 1, 1, 1, 1, 1, 1, 1, 1, 1, 1, 1, 1, 1, 1]
  | _ => []
noncomputable def spec_l05Is_LO (v48 : Int) (v49 : List Int) (v50 : List Int) (v51 : List Nat) : LOr := fun id e L =>
  match id with
  | 2 => .need (normA 0 spec_l05Is_l2_kill e L = some (spec_l05Is_l2_E v48 v49 v50 v51 (gI (vAt e 4)) (gI (vAt e 5)))) (.call (spec_l05Is_l2_g v48 v49 v50 (gI (vAt e 4)) (gI (vAt e 5))) fun x => .sum x (fun b0 => .leaf (spec_l05Is_l2_X v48 v49 v50 v51 (gI (vAt e 4)) (.inl b0))) (fun c0 => .leaf (spec_l05Is_l2_X v48 v49 v50 v51 (gI (vAt e 4)) (.inr c0))))
  | 0 => .need (normA 0 spec_l05Is_l0_kill e L = some (spec_l05Is_l0_E v48 v49 v50 v51 (gI (vAt e 4)))) (.call (spec_l05Is_l0_g v48 v49 v50 v51 (gI (vAt e 4))) fun x => .sum x (fun b0 => .leaf (spec_l05Is_l0_X v48 v49 v50 v51 (.inl b0))) (fun c0 => .leaf (spec_l05Is_l0_X v48 v49 v50 v51 (.inr c0))))
  | _ => .fail
noncomputable def spec_l05Is_tab : List (FuncId × DFn × Bool) := [(71, spec_l00In_F, true), (131, spec_l02Finite_F, true)]
theorem spec_l05Is_hO : OrcOk Try.prog (tabD spec_l05Is_tab) (tabM spec_l05Is_tab) := tabD_cons spec_l00In_Fok (tabD_cons spec_l02Finite_Fok (tabD_nil _))
theorem spec_l05Is_l2_be (v48 : Int) (v49 : List Int) (v50 : List Int) (v51 : List Nat) (v89 : Int) (s : Int) : bodyT TT (tabD spec_l05Is_tab) (tabM spec_l05Is_tab) (spec_l05Is_LO v48 v49 v50 v51) 0 spec_l05Is_l2_kill spec_l05Is_l2_nx (bodyOf Try.f130 2) 2 (spec_l05Is_l2_E v48 v49 v50 v51 v89 s) = (spec_l05Is_l2_T v48 v49 v50 v89 s).bind fun y => .leaf (outS (spec_l05Is_l2_E v48 v49 v50 v51 v89) (spec_l05Is_l2_X v48 v49 v50 v51 v89) y) := by kernel_rfl
theorem spec_l05Is_l2_ok (v48 : Int) (v49 : List Int) (v50 : List Int) (v51 : List Nat) : LSound Try.prog 0 (spec_l05Is_LO v48 v49 v50 v51) 2 (bodyOf Try.f130 2) := by
  intro e L out h
  exact lo_ok (E := spec_l05Is_l2_E v48 v49 v50 v51 (gI (vAt e 4))) (gT := spec_l05Is_l2_T v48 v49 v50 (gI (vAt e 4))) (X := spec_l05Is_l2_X v48 v49 v50 v51 (gI (vAt e 4))) (s0 := (gI (vAt e 5))) tok spec_l05Is_hO mixed (LoopsOk_eq (l := []) (by kernel_rfl) trivial) (spec_l05Is_l2_be v48 v49 v50 v51 (gI (vAt e 4))) rfl (by intro x; (cases x with | inl b => rfl | inr x => exact rfl)) h
theorem spec_l05Is_l0_be (v48 : Int) (v49 : List Int) (v50 : List Int) (v51 : List Nat) (s : Int) : bodyT TT (tabD spec_l05Is_tab) (tabM spec_l05Is_tab) (spec_l05Is_LO v48 v49 v50 v51) 0 spec_l05Is_l0_kill spec_l05Is_l0_nx (bodyOf Try.f130 0) 0 (spec_l05Is_l0_E v48 v49 v50 v51 s) = (spec_l05Is_l0_T v48 v49 v50 v51 s).bind fun y => .leaf (outS (spec_l05Is_l0_E v48 v49 v50 v51) (spec_l05Is_l0_X v48 v49 v50 v51) y) := by kernel_rfl
theorem spec_l05Is_l0_ok (v48 : Int) (v49 : List Int) (v50 : List Int) (v51 : List Nat) : LSound Try.prog 0 (spec_l05Is_LO v48 v49 v50 v51) 0 (bodyOf Try.f130 0) := by
  intro e L out h
  exact lo_ok (E := spec_l05Is_l0_E v48 v49 v50 v51) (gT := spec_l05Is_l0_T v48 v49 v50 v51) (X := spec_l05Is_l0_X v48 v49 v50 v51) (s0 := (gI (vAt e 4))) tok spec_l05Is_hO mixed (LoopsOk_eq (l := [(2, bodyOf Try.f130 2)]) (by kernel_rfl) ⟨spec_l05Is_l2_ok v48 v49 v50 v51, trivial⟩) (spec_l05Is_l0_be v48 v49 v50 v51) rfl (by intro x; (cases x with | inl b => rfl | inr x => exact rfl)) h
noncomputable def spec_l05Is_T (v48 : Int) (v49 : List Int) (v50 : List Int) (v51 : List Nat) : Tree (Bool) :=
  (.br (!(spec_l00In_v v48 (1 : Int) (32 : Int))) (
   .leaf false
  ) (
   (.br (!decide (((v49.length : Nat) : Int) = IntKind.i64.wrap (v48 + (1 : Int)))) (
    .leaf false
   ) (
    (.br (decide ((512 : Int) < ((v50.length : Nat) : Int))) (
     .leaf false
    ) (
     (.br (!decide (((v51.length : Nat) : Int) = ((v50.length : Nat) : Int))) (
      .leaf false
     ) (
      (.call (spec_l02Finite_g v51) fun v63 =>
      (.br (!v63) (
       .leaf false
      ) (
       (.grd (inb (0 : Int) v49.length) <|
       (.br (!decide (nth v49 (Int.toNat (0 : Int)) = (0 : Int))) (
        .leaf false
       ) (
        (.grd (inb v48 v49.length) <|
        (.br (!decide (nth v49 (Int.toNat v48) = ((v50.length : Nat) : Int))) (
         .leaf false
        ) (
         (.need (some (spec_l05Is_l0_E v48 v49 v50 v51 (0 : Int)) = some (spec_l05Is_l0_E v48 v49 v50 v51 (0 : Int))) <|
         (.call (spec_l05Is_l0_g v48 v49 v50 v51 (0 : Int)) fun v94 =>
         (.sum v94 (fun v95 =>
          .leaf false
         ) (fun v96 =>
          .leaf true
         ))))
        )))
       )))
      )))
     ))
    ))
   ))
  ))

noncomputable def spec_l05Is_g (v48 : Int) (v49 : List Int) (v50 : List Int) (v51 : List Nat) : Option (Bool) := (spec_l05Is_T v48 v49 v50 v51).run
def spec_l05Is_enc (v48 : Int) (v49 : List Int) (v50 : List Int) (v51 : List Nat) (y : Bool) : Rs := (.bool y, [])
theorem spec_l05Is_den (v48 : Int) (v49 : List Int) (v50 : List Int) (v51 : List Nat) : (den TT (tabD spec_l05Is_tab) (tabM spec_l05Is_tab) (spec_l05Is_LO v48 v49 v50 v51) (codeOf Try.f130) ([.bptr (BR.root 0) [.int .i64 v48, .bslc (BR.root 1) (.i64 v49), .bslc (BR.root 2) (.i64 v50), .bslc (BR.root 3) (.f32 v51)]] ++ List.replicate (Try.f130.ntmps - ([.bptr (BR.root 0) [.int .i64 v48, .bslc (BR.root 1) (.i64 v49), .bslc (BR.root 2) (.i64 v50), .bslc (BR.root 3) (.f32 v51)]] : List DV).length) .undef) []).bind (retD TT Try.f130.results.toList 0) = (spec_l05Is_T v48 v49 v50 v51).bind fun y => .leaf (spec_l05Is_enc v48 v49 v50 v51 y) := by kernel_rfl
theorem spec_l05Is_fn (v48 : Int) (v49 : List Int) (v50 : List Int) (v51 : List Nat) (F : Fr) (hm : F.ids.length = 0) (h0 : St F [] F.H0) (hA : DVs.Ok F [] [.bptr (BR.root 0) [.int .i64 v48, .bslc (BR.root 1) (.i64 v49), .bslc (BR.root 2) (.i64 v50), .bslc (BR.root 3) (.f32 v51)]]) {y : Bool} (hy : spec_l05Is_g v48 v49 v50 v51 = some y) : ∃ H', FnOk Try.prog 130 (DVs.av F [.bptr (BR.root 0) [.int .i64 v48, .bslc (BR.root 1) (.i64 v49), .bslc (BR.root 2) (.i64 v50), .bslc (BR.root 3) (.f32 v51)]]) F.H0 ((spec_l05Is_enc v48 v49 v50 v51 y).1.av F) H' ∧ St F (spec_l05Is_enc v48 v49 v50 v51 y).2 H' ∧ (spec_l05Is_enc v48 v49 v50 v51 y).1.Ok F (spec_l05Is_enc v48 v49 v50 v51 y).2 :=
  fn_fin tok spec_l05Is_hO mixed Try.func130 Try.call130 (by kernel_rfl) (LoopsOk_eq (l := [(0, bodyOf Try.f130 0)]) (by kernel_rfl) ⟨spec_l05Is_l0_ok v48 v49 v50 v51, trivial⟩) (spec_l05Is_den v48 v49 v50 v51) hy hm h0 hA
noncomputable def spec_l05Is_F : DFn := fun args L =>
  match args with
  | [a1] =>
    optT (cellsOf L 4 a1) fun cs0 =>
    (match cs0 with
    | [.int .i64 v48, a2, a3, a4] =>
    optT (rowI64 L a2) fun v49 =>
    optT (rowI64 L a3) fun v50 =>
    optT (rowF32 L a4) fun v51 =>
    .call (spec_l05Is_g v48 v49 v50 v51) fun y => .leaf (.bool y, L)
    | _ => .fail)
  | _ => .fail
theorem spec_l05Is_Fok : COk Try.prog 130 spec_l05Is_F true := by
  intro F L H args r L' hs ha hr
  unfold spec_l05Is_F at hr
  split at hr
  · rename_i a1
    obtain ⟨cs0, hcp0, hr⟩ := optT_run hr
    split at hr
    · rename_i v48 a2 a3 a4
      obtain ⟨v49, hv49, hr⟩ := optT_run hr
      obtain ⟨v50, hv50, hr⟩ := optT_run hr
      obtain ⟨v51, hv51, hr⟩ := optT_run hr
      simp only [Tree.run] at hr
      obtain ⟨y, hy, hr⟩ := Option.bind_eq_some_iff.1 hr
      simp only [Tree.run, Option.some.injEq, Prod.mk.injEq] at hr
      obtain ⟨rfl, rfl⟩ := hr
      exact call_ok0 hs (fun k => (([a1.av F, a2.av F, a3.av F, a4.av F] : List AV)[k]?).getD .top) [a1] [.bptr (BR.root 0) [.int .i64 v48, .bslc (BR.root 1) (.i64 v49), .bslc (BR.root 2) (.i64 v50), .bslc (BR.root 3) (.f32 v51)]] (fun F' h0 hi hρ => ⟨by simp [DVs.av, DV.av, BR.av, hρ], spec_l05Is_fn v48 v49 v50 v51 F' (by rw [hi]; rfl) (st_nil hi) ⟨bptr_ok hi (by rw [h0]; simpa [DVs.av, DV.av, BR.av, hρ] using (cellsOf_ok hs (DVs.okAt ha 0 rfl) hcp0).1) ⟨trivial, bslc_ok hi (by rw [h0, hρ]; exact rowI64_ok hs (DVs.okAt (cellsOf_ok hs (DVs.okAt ha 0 rfl) hcp0).2 1 rfl) hv49), bslc_ok hi (by rw [h0, hρ]; exact rowI64_ok hs (DVs.okAt (cellsOf_ok hs (DVs.okAt ha 0 rfl) hcp0).2 2 rfl) hv50), bslc_ok hi (by rw [h0, hρ]; exact rowF32_ok hs (DVs.okAt (cellsOf_ok hs (DVs.okAt ha 0 rfl) hcp0).2 3 rfl) hv51), trivial⟩, trivial⟩ hy⟩) rfl
    · cases hr
  · cases hr
/-! spec.l05Fits -/
noncomputable def spec_l05Fits_LO (v43 : Int) (v44 : List Int) (v45 : List Int) (v46 : List Nat) (v47 : List Nat) : LOr := fun id e L =>
  match id with
  | _ => .fail
noncomputable def spec_l05Fits_tab : List (FuncId × DFn × Bool) := [(130, spec_l05Is_F, true), (131, spec_l02Finite_F, true)]
theorem spec_l05Fits_hO : OrcOk Try.prog (tabD spec_l05Fits_tab) (tabM spec_l05Fits_tab) := tabD_cons spec_l05Is_Fok (tabD_cons spec_l02Finite_Fok (tabD_nil _))
noncomputable def spec_l05Fits_T (v43 : Int) (v44 : List Int) (v45 : List Int) (v46 : List Nat) (v47 : List Nat) : Tree (Bool) :=
  (.call (spec_l05Is_g v43 v44 v45 v46) fun v97 =>
  (.br v97 (
   (.br (decide (((v47.length : Nat) : Int) = v43)) (
    (.call (spec_l02Finite_g v47) fun v98 =>
    .leaf v98)
   ) (
    .leaf false
   ))
  ) (
   .leaf false
  )))

noncomputable def spec_l05Fits_g (v43 : Int) (v44 : List Int) (v45 : List Int) (v46 : List Nat) (v47 : List Nat) : Option (Bool) := (spec_l05Fits_T v43 v44 v45 v46 v47).run
def spec_l05Fits_enc (v43 : Int) (v44 : List Int) (v45 : List Int) (v46 : List Nat) (v47 : List Nat) (y : Bool) : Rs := (.bool y, [])
theorem spec_l05Fits_den (v43 : Int) (v44 : List Int) (v45 : List Int) (v46 : List Nat) (v47 : List Nat) : (den TT (tabD spec_l05Fits_tab) (tabM spec_l05Fits_tab) (spec_l05Fits_LO v43 v44 v45 v46 v47) (codeOf Try.f65) ([.bptr (BR.root 0) [.int .i64 v43, .bslc (BR.root 1) (.i64 v44), .bslc (BR.root 2) (.i64 v45), .bslc (BR.root 3) (.f32 v46)], .bslc (BR.root 4) (.f32 v47)] ++ List.replicate (Try.f65.ntmps - ([.bptr (BR.root 0) [.int .i64 v43, .bslc (BR.root 1) (.i64 v44), .bslc (BR.root 2) (.i64 v45), .bslc (BR.root 3) (.f32 v46)], .bslc (BR.root 4) (.f32 v47)] : List DV).length) .undef) []).bind (retD TT Try.f65.results.toList 0) = (spec_l05Fits_T v43 v44 v45 v46 v47).bind fun y => .leaf (spec_l05Fits_enc v43 v44 v45 v46 v47 y) := by kernel_rfl
theorem spec_l05Fits_fn (v43 : Int) (v44 : List Int) (v45 : List Int) (v46 : List Nat) (v47 : List Nat) (F : Fr) (hm : F.ids.length = 0) (h0 : St F [] F.H0) (hA : DVs.Ok F [] [.bptr (BR.root 0) [.int .i64 v43, .bslc (BR.root 1) (.i64 v44), .bslc (BR.root 2) (.i64 v45), .bslc (BR.root 3) (.f32 v46)], .bslc (BR.root 4) (.f32 v47)]) {y : Bool} (hy : spec_l05Fits_g v43 v44 v45 v46 v47 = some y) : ∃ H', FnOk Try.prog 65 (DVs.av F [.bptr (BR.root 0) [.int .i64 v43, .bslc (BR.root 1) (.i64 v44), .bslc (BR.root 2) (.i64 v45), .bslc (BR.root 3) (.f32 v46)], .bslc (BR.root 4) (.f32 v47)]) F.H0 ((spec_l05Fits_enc v43 v44 v45 v46 v47 y).1.av F) H' ∧ St F (spec_l05Fits_enc v43 v44 v45 v46 v47 y).2 H' ∧ (spec_l05Fits_enc v43 v44 v45 v46 v47 y).1.Ok F (spec_l05Fits_enc v43 v44 v45 v46 v47 y).2 :=
  fn_fin tok spec_l05Fits_hO mixed Try.func65 Try.call65 (by kernel_rfl) (LoopsOk_eq (l := []) (by kernel_rfl) trivial) (spec_l05Fits_den v43 v44 v45 v46 v47) hy hm h0 hA
noncomputable def spec_l05Fits_F : DFn := fun args L =>
  match args with
  | [a1, a5] =>
    optT (cellsOf L 4 a1) fun cs0 =>
    (match cs0 with
    | [.int .i64 v43, a2, a3, a4] =>
    optT (rowI64 L a2) fun v44 =>
    optT (rowI64 L a3) fun v45 =>
    optT (rowF32 L a4) fun v46 =>
    optT (rowF32 L a5) fun v47 =>
    .call (spec_l05Fits_g v43 v44 v45 v46 v47) fun y => .leaf (.bool y, L)
    | _ => .fail)
  | _ => .fail
theorem spec_l05Fits_Fok : COk Try.prog 65 spec_l05Fits_F true := by
  intro F L H args r L' hs ha hr
  unfold spec_l05Fits_F at hr
  split at hr
  · rename_i a1 a5
    obtain ⟨cs0, hcp0, hr⟩ := optT_run hr
    split at hr
    · rename_i v43 a2 a3 a4
      obtain ⟨v44, hv44, hr⟩ := optT_run hr
      obtain ⟨v45, hv45, hr⟩ := optT_run hr
      obtain ⟨v46, hv46, hr⟩ := optT_run hr
      obtain ⟨v47, hv47, hr⟩ := optT_run hr
      simp only [Tree.run] at hr
      obtain ⟨y, hy, hr⟩ := Option.bind_eq_some_iff.1 hr
      simp only [Tree.run, Option.some.injEq, Prod.mk.injEq] at hr
      obtain ⟨rfl, rfl⟩ := hr
      exact call_ok0 hs (fun k => (([a1.av F, a2.av F, a3.av F, a4.av F, a5.av F] : List AV)[k]?).getD .top) [a1, a5] [.bptr (BR.root 0) [.int .i64 v43, .bslc (BR.root 1) (.i64 v44), .bslc (BR.root 2) (.i64 v45), .bslc (BR.root 3) (.f32 v46)], .bslc (BR.root 4) (.f32 v47)] (fun F' h0 hi hρ => ⟨by simp [DVs.av, DV.av, BR.av, hρ], spec_l05Fits_fn v43 v44 v45 v46 v47 F' (by rw [hi]; rfl) (st_nil hi) ⟨bptr_ok hi (by rw [h0]; simpa [DVs.av, DV.av, BR.av, hρ] using (cellsOf_ok hs (DVs.okAt ha 0 rfl) hcp0).1) ⟨trivial, bslc_ok hi (by rw [h0, hρ]; exact rowI64_ok hs (DVs.okAt (cellsOf_ok hs (DVs.okAt ha 0 rfl) hcp0).2 1 rfl) hv44), bslc_ok hi (by rw [h0, hρ]; exact rowI64_ok hs (DVs.okAt (cellsOf_ok hs (DVs.okAt ha 0 rfl) hcp0).2 2 rfl) hv45), bslc_ok hi (by rw [h0, hρ]; exact rowF32_ok hs (DVs.okAt (cellsOf_ok hs (DVs.okAt ha 0 rfl) hcp0).2 3 rfl) hv46), trivial⟩, bslc_ok hi (by rw [h0, hρ]; exact rowF32_ok hs (DVs.okAt ha 1 rfl) hv47), trivial⟩ hy⟩) rfl
    · cases hr
  · cases hr
/-! spec.l05Lower -/
noncomputable def spec_l05Lower_l0_T (v100 : Int) (v101 : List Int) (v102 : List Int) (v103 : List Nat) (s : Int) : Tree ((Int) ⊕ ((Unit) ⊕ (Unit))) :=
  (.br (decide (s < v100)) (
   (.grd (inb (IntKind.i64.wrap (s + (1 : Int))) v101.length) <|
   (.grd (inb s v101.length) <|
   (.br (decide (IntKind.i64.wrap ((nth v101 (Int.toNat (IntKind.i64.wrap (s + (1 : Int))))) - (1 : Int)) < nth v101 (Int.toNat s))) (
    .leaf (.inr (.inl ()))
   ) (
    (.grd (inb (IntKind.i64.wrap ((nth v101 (Int.toNat (IntKind.i64.wrap (s + (1 : Int))))) - (1 : Int))) v102.length) <|
    (.br (!decide (nth v102 (Int.toNat (IntKind.i64.wrap ((nth v101 (Int.toNat (IntKind.i64.wrap (s + (1 : Int))))) - (1 : Int)))) = s)) (
     .leaf (.inr (.inl ()))
    ) (
     (.grd (inb (IntKind.i64.wrap ((nth v101 (Int.toNat (IntKind.i64.wrap (s + (1 : Int))))) - (1 : Int))) v103.length) <|
     (.br (!(fgrt .f32 (nth v103 (Int.toNat (IntKind.i64.wrap ((nth v101 (Int.toNat (IntKind.i64.wrap (s + (1 : Int))))) - (1 : Int))))) (0 : Nat))) (
      .leaf (.inr (.inl ()))
     ) (
      .leaf (.inl (IntKind.i64.wrap (s + (1 : Int))))
     )))
    )))
   ))))
  ) (
   .leaf (.inr (.inr ()))
  ))

noncomputable def spec_l05Lower_l0_g (v100 : Int) (v101 : List Int) (v102 : List Int) (v103 : List Nat) (s0 : Int) : Option ((Unit) ⊕ (Unit)) := whileM (fun s => (spec_l05Lower_l0_T v100 v101 v102 v103 s).run) s0
def spec_l05Lower_l0_E (v100 : Int) (v101 : List Int) (v102 : List Int) (v103 : List Nat) (s : Int) : Sd := ([.bptr (BR.root 0) [.int .i64 v100, .bslc (BR.root 1) (.i64 v101), .bslc (BR.root 2) (.i64 v102), .bslc (BR.root 3) (.f32 v103)], .top, .top, .int .i64 s, .top, .top, .top, .top, .top, .top, .top, .top, .top, .top, .top, .top, .top, .top, .top, .top, .top, .top, .top, .top, .top, .top, .top, .top, .top, .top, .top, .top, .top, .top, .top, .top, .top, .top, .top, .top, .top, .top, .top, .top, .top, .top, .top, .top, .top, .top, .top, .top, .top], [])
def spec_l05Lower_l0_X (v100 : Int) (v101 : List Int) (v102 : List Int) (v103 : List Nat) (x : (Unit) ⊕ (Unit)) : Out := (match x with | .inl x => (.ret, [.top, .top, .lit false, .top, .top, .top, .top, .top, .top, .top, .top, .top, .top, .top, .top, .top, .top, .top, .top, .top, .top, .top, .top, .top, .top, .top, .top, .top, .top, .top, .top, .top, .top, .top, .top, .top, .top, .top, .top, .top, .top, .top, .top, .top, .top, .top, .top, .top, .top, .top, .top, .top, .top], []) | .inr x => (.normal, [.top, .top, .top, .top, .top, .top, .top, .top, .top, .top, .top, .top, .top, .top, .top, .top, .top, .top, .top, .top, .top, .top, .top, .top, .top, .top, .top, .top, .top, .top, .top, .top, .top, .top, .top, .top, .top, .top, .top, .top, .top, .top, .top, .top, .top, .top, .top, .top, .top, .top, .top, .top, .top], []))
def spec_l05Lower_l0_kill : List Nat := [0, 1, 1, 0, 1, 1, 1, 1, 1, 1, 1, 1, 1, 1, 1, 1, 1, 1, 1, 1, 1, 1, 1, 1, 1, 1, 1, 1, 1, 1, 1, 1, 1, 1, 1, 1, 1, 1, 1, 1, 1, 1, 1, 1, 1, 1, 1, 1, 1, 1, 1, 1, 1]
def spec_l05Lower_l0_nx : Exit → List Nat
  | .exit 0 => [1, 1, 1, 1, 1, 1, 1, 1, 1, 1, 1, 1, 1, 1, 1, 1, 1, 1, 1, 1, 1, 1, 1, 1, 1, 1, 1, 1, 1, 1, 1, 1, 1, 1, 1, 1, 1, 1, 1, 1, 1, 1, 1, 1, 1, 1, 1, 1, 1, 1, 1, 1, 1]
  | .ret => [1, 1, 0, 1, 1, 1, 1, 1, 1, 1, 1, 1, 1, 1, 1, 1, 1, 1, 1, 1, 1, 1, 1, 1, 1, 1, 1, 1, 1, 1, 1, 1, 1, 1, 1, 1, 1, 1, 1, 1, 1, 1, 1, 1, 1, 1, 1, 1, 1, 1, 1, 1, 1]
  | _ => []
noncomputable def spec_l05Lower_LO (v100 : Int) (v101 : List Int) (v102 : List Int) (v103 : List Nat) : LOr := fun id e L =>
  match id with
  | 0 => .need (normA 0 spec_l05Lower_l0_kill e L = some (spec_l05Lower_l0_E v100 v101 v102 v103 (gI (vAt e 3)))) (.call (spec_l05Lower_l0_g v100 v101 v102 v103 (gI (vAt e 3))) fun x => .sum x (fun b0 => .leaf (spec_l05Lower_l0_X v100 v101 v102 v103 (.inl b0))) (fun c0 => .leaf (spec_l05Lower_l0_X v100 v101 v102 v103 (.inr c0))))
  | _ => .fail
noncomputable def spec_l05Lower_tab : List (FuncId × DFn × Bool) := []
theorem spec_l05Lower_hO : OrcOk Try.prog (tabD spec_l05Lower_tab) (tabM spec_l05Lower_tab) := tabD_nil _
theorem spec_l05Lower_l0_be (v100 : Int) (v101 : List Int) (v102 : List Int) (v103 : List Nat) (s : Int) : bodyT TT (tabD spec_l05Lower_tab) (tabM spec_l05Lower_tab) (spec_l05Lower_LO v100 v101 v102 v103) 0 spec_l05Lower_l0_kill spec_l05Lower_l0_nx (bodyOf Try.f73 0) 0 (spec_l05Lower_l0_E v100 v101 v102 v103 s) = (spec_l05Lower_l0_T v100 v101 v102 v103 s).bind fun y => .leaf (outS (spec_l05Lower_l0_E v100 v101 v102 v103) (spec_l05Lower_l0_X v100 v101 v102 v103) y) := by kernel_rfl
theorem spec_l05Lower_l0_ok (v100 : Int) (v101 : List Int) (v102 : List Int) (v103 : List Nat) : LSound Try.prog 0 (spec_l05Lower_LO v100 v101 v102 v103) 0 (bodyOf Try.f73 0) := by
  intro e L out h
  exact lo_ok (E := spec_l05Lower_l0_E v100 v101 v102 v103) (gT := spec_l05Lower_l0_T v100 v101 v102 v103) (X := spec_l05Lower_l0_X v100 v101 v102 v103) (s0 := (gI (vAt e 3))) tok spec_l05Lower_hO mixed (LoopsOk_eq (l := []) (by kernel_rfl) trivial) (spec_l05Lower_l0_be v100 v101 v102 v103) rfl (by intro x; (cases x with | inl b => rfl | inr x => exact rfl)) h
noncomputable def spec_l05Lower_T (v100 : Int) (v101 : List Int) (v102 : List Int) (v103 : List Nat) : Tree (Bool) :=
  (.need (some (spec_l05Lower_l0_E v100 v101 v102 v103 (0 : Int)) = some (spec_l05Lower_l0_E v100 v101 v102 v103 (0 : Int))) <|
  (.call (spec_l05Lower_l0_g v100 v101 v102 v103 (0 : Int)) fun v107 =>
  (.sum v107 (fun v108 =>
   .leaf false
  ) (fun v109 =>
   .leaf true
  ))))

noncomputable def spec_l05Lower_g (v100 : Int) (v101 : List Int) (v102 : List Int) (v103 : List Nat) : Option (Bool) := (spec_l05Lower_T v100 v101 v102 v103).run
def spec_l05Lower_enc (v100 : Int) (v101 : List Int) (v102 : List Int) (v103 : List Nat) (y : Bool) : Rs := (.bool y, [])
theorem spec_l05Lower_den (v100 : Int) (v101 : List Int) (v102 : List Int) (v103 : List Nat) : (den TT (tabD spec_l05Lower_tab) (tabM spec_l05Lower_tab) (spec_l05Lower_LO v100 v101 v102 v103) (codeOf Try.f73) ([.bptr (BR.root 0) [.int .i64 v100, .bslc (BR.root 1) (.i64 v101), .bslc (BR.root 2) (.i64 v102), .bslc (BR.root 3) (.f32 v103)]] ++ List.replicate (Try.f73.ntmps - ([.bptr (BR.root 0) [.int .i64 v100, .bslc (BR.root 1) (.i64 v101), .bslc (BR.root 2) (.i64 v102), .bslc (BR.root 3) (.f32 v103)]] : List DV).length) .undef) []).bind (retD TT Try.f73.results.toList 0) = (spec_l05Lower_T v100 v101 v102 v103).bind fun y => .leaf (spec_l05Lower_enc v100 v101 v102 v103 y) := by kernel_rfl
theorem spec_l05Lower_fn (v100 : Int) (v101 : List Int) (v102 : List Int) (v103 : List Nat) (F : Fr) (hm : F.ids.length = 0) (h0 : St F [] F.H0) (hA : DVs.Ok F [] [.bptr (BR.root 0) [.int .i64 v100, .bslc (BR.root 1) (.i64 v101), .bslc (BR.root 2) (.i64 v102), .bslc (BR.root 3) (.f32 v103)]]) {y : Bool} (hy : spec_l05Lower_g v100 v101 v102 v103 = some y) : ∃ H', FnOk Try.prog 73 (DVs.av F [.bptr (BR.root 0) [.int .i64 v100, .bslc (BR.root 1) (.i64 v101), .bslc (BR.root 2) (.i64 v102), .bslc (BR.root 3) (.f32 v103)]]) F.H0 ((spec_l05Lower_enc v100 v101 v102 v103 y).1.av F) H' ∧ St F (spec_l05Lower_enc v100 v101 v102 v103 y).2 H' ∧ (spec_l05Lower_enc v100 v101 v102 v103 y).1.Ok F (spec_l05Lower_enc v100 v101 v102 v103 y).2 :=
  fn_fin tok spec_l05Lower_hO mixed Try.func73 Try.call73 (by kernel_rfl) (LoopsOk_eq (l := [(0, bodyOf Try.f73 0)]) (by kernel_rfl) ⟨spec_l05Lower_l0_ok v100 v101 v102 v103, trivial⟩) (spec_l05Lower_den v100 v101 v102 v103) hy hm h0 hA
noncomputable def spec_l05Lower_F : DFn := fun args L =>
  match args with
  | [a1] =>
    optT (cellsOf L 4 a1) fun cs0 =>
    (match cs0 with
    | [.int .i64 v100, a2, a3, a4] =>
    optT (rowI64 L a2) fun v101 =>
    optT (rowI64 L a3) fun v102 =>
    optT (rowF32 L a4) fun v103 =>
    .call (spec_l05Lower_g v100 v101 v102 v103) fun y => .leaf (.bool y, L)
    | _ => .fail)
  | _ => .fail
theorem spec_l05Lower_Fok : COk Try.prog 73 spec_l05Lower_F true := by
  intro F L H args r L' hs ha hr
  unfold spec_l05Lower_F at hr
  split at hr
  · rename_i a1
    obtain ⟨cs0, hcp0, hr⟩ := optT_run hr
    split at hr
    · rename_i v100 a2 a3 a4
      obtain ⟨v101, hv101, hr⟩ := optT_run hr
      obtain ⟨v102, hv102, hr⟩ := optT_run hr
      obtain ⟨v103, hv103, hr⟩ := optT_run hr
      simp only [Tree.run] at hr
      obtain ⟨y, hy, hr⟩ := Option.bind_eq_some_iff.1 hr
      simp only [Tree.run, Option.some.injEq, Prod.mk.injEq] at hr
      obtain ⟨rfl, rfl⟩ := hr
      exact call_ok0 hs (fun k => (([a1.av F, a2.av F, a3.av F, a4.av F] : List AV)[k]?).getD .top) [a1] [.bptr (BR.root 0) [.int .i64 v100, .bslc (BR.root 1) (.i64 v101), .bslc (BR.root 2) (.i64 v102), .bslc (BR.root 3) (.f32 v103)]] (fun F' h0 hi hρ => ⟨by simp [DVs.av, DV.av, BR.av, hρ], spec_l05Lower_fn v100 v101 v102 v103 F' (by rw [hi]; rfl) (st_nil hi) ⟨bptr_ok hi (by rw [h0]; simpa [DVs.av, DV.av, BR.av, hρ] using (cellsOf_ok hs (DVs.okAt ha 0 rfl) hcp0).1) ⟨trivial, bslc_ok hi (by rw [h0, hρ]; exact rowI64_ok hs (DVs.okAt (cellsOf_ok hs (DVs.okAt ha 0 rfl) hcp0).2 1 rfl) hv101), bslc_ok hi (by rw [h0, hρ]; exact rowI64_ok hs (DVs.okAt (cellsOf_ok hs (DVs.okAt ha 0 rfl) hcp0).2 2 rfl) hv102), bslc_ok hi (by rw [h0, hρ]; exact rowF32_ok hs (DVs.okAt (cellsOf_ok hs (DVs.okAt ha 0 rfl) hcp0).2 3 rfl) hv103), trivial⟩, trivial⟩ hy⟩) rfl
    · cases hr
  · cases hr
/-! spec.l05Solve -/
noncomputable def spec_l05Solve_l2_T (v113 : List Int) (v114 : List Nat) (v160 : Int) (v162 : Int) (v164 : List Nat) (s : Nat × Int) : Tree ((Nat × Int) ⊕ (Nat)) :=
  (.br (decide (s.2 < v162)) (
   (.grd (inb s.2 v114.length) <|
   (.grd (inb s.2 v113.length) <|
   (.grd (inb (nth v113 (Int.toNat s.2)) ((v164).length)) <|
   .leaf (.inl (fsub .f32 s.1 (fmul .f32 (nth v114 (Int.toNat s.2)) (nth v164 (Int.toNat (nth v113 (Int.toNat s.2))))), IntKind.i64.wrap (s.2 + (1 : Int)))))))
  ) (
   .leaf (.inr s.1)
  ))

noncomputable def spec_l05Solve_l2_g (v113 : List Int) (v114 : List Nat) (v160 : Int) (v162 : Int) (v164 : List Nat) (s0 : Nat × Int) : Option (Nat) := whileM (fun s => (spec_l05Solve_l2_T v113 v114 v160 v162 v164 s).run) s0
def spec_l05Solve_l2_E (v111 : Int) (v112 : List Int) (v113 : List Int) (v114 : List Nat) (v115 : List Nat) (v160 : Int) (v162 : Int) (v164 : List Nat) (s : Nat × Int) : Sd := ([.bptr (BR.root 0) [.int .i64 v111, .bslc (BR.root 1) (.i64 v112), .bslc (BR.root 2) (.i64 v113), .bslc (BR.root 3) (.f32 v114)], .bslc (BR.root 4) (.f32 v115), .top, .top, .top, .own 0 0 ((v164).length), .int .i64 v160, .flt .f32 s.1, .int .i64 v162, .int .i64 s.2, .top, .top, .top, .top, .top, .top, .top, .top, .top, .top, .top, .top, .top, .top, .top, .top, .top, .top, .top, .top, .top, .top, .top, .top, .top, .top, .top, .top, .top, .top, .top, .top, .top, .top, .top, .top, .top, .top, .top, .top, .top, .top, .top, .top, .top, .top, .top, .top, .top, .top, .top, .top, .top, .top, .top, .top, .top, .top, .top, .top, .top, .top, .top, .top, .top, .top, .top, .top, .top, .top, .top, .top, .top, .top, .top, .top, .top, .top, .top, .top, .top, .top, .top, .top, .top, .top, .top, .top, .top, .top, .top, .top, .top, .top, .top, .top, .top, .top, .top, .top, .top, .top, .top, .top, .top, .top, .top, .top, .top, .top, .top, .top, .top, .top, .top, .top, .top, .top, .top, .top, .top, .top, .top, .top, .top, .top, .top, .top, .top, .top, .top, .top, .top, .top, .top, .top, .top, .top, .top, .top, .top, .top, .top, .top, .top, .top, .top], [.row (.f32 v164) 0])
def spec_l05Solve_l2_X (v111 : Int) (v112 : List Int) (v113 : List Int) (v114 : List Nat) (v115 : List Nat) (v160 : Int) (v162 : Int) (v164 : List Nat) (x : Nat) : Out := (.normal, [.bptr (BR.root 0) [.int .i64 v111, .bslc (BR.root 1) (.i64 v112), .bslc (BR.root 2) (.i64 v113), .bslc (BR.root 3) (.f32 v114)], .bslc (BR.root 4) (.f32 v115), .top, .top, .top, .own 0 0 ((v164).length), .int .i64 v160, .flt .f32 x, .int .i64 v162, .top, .top, .top, .top, .top, .top, .top, .top, .top, .top, .top, .top, .top, .top, .top, .top, .top, .top, .top, .top, .top, .top, .top, .top, .top, .top, .top, .top, .top, .top, .top, .top, .top, .top, .top, .top, .top, .top, .top, .top, .top, .top, .top, .top, .top, .top, .top, .top, .top, .top, .top, .top, .top, .top, .top, .top, .top, .top, .top, .top, .top, .top, .top, .top, .top, .top, .top, .top, .top, .top, .top, .top, .top, .top, .top, .top, .top, .top, .top, .top, .top, .top, .top, .top, .top, .top, .top, .top, .top, .top, .top, .top, .top, .top, .top, .top, .top, .top, .top, .top, .top, .top, .top, .top, .top, .top, .top, .top, .top, .top, .top, .top, .top, .top, .top, .top, .top, .top, .top, .top, .top, .top, .top, .top, .top, .top, .top, .top, .top, .top, .top, .top, .top, .top, .top, .top, .top, .top, .top, .top, .top, .top, .top, .top, .top, .top, .top, .top], [.row (.f32 v164) 0])
def spec_l05Solve_l2_kill : List Nat := [0, 0, 1, 1, 1, 0, 0, 0, 0, 0, 1, 1, 1, 1, 1, 1, 1, 1, 1, 1, 1, 1, 1, 1, 1, 1, 1, 1, 1, 1, 1, 1, 1, 1, 1, 1, 1, 1, 1, 1, 1, 1, 1, 1, 1, 1, 1, 1, 1, 1, 1, 1, 1, 1, 1, 1, 1, 1, 1, 1, 1, 1, 1, 1, 1, 1, 1, 1, 1, 1, 1, 1, 1, 1, 1, 1, 1, 1, 1, 1, 1, 1, 1, 1, 1, 1, 1, 1, 1, 1, 1, 1, 1, 1, 1, 1, 1, 1, 1, 1, 1, 1, 1, 1, 1, 1, 1, 1, 1, 1, 1, 1, 1, 1, 1, 1, 1, 1, 1, 1, 1, 1, 1, 1, 1, 1, 1, 1, 1, 1, 1, 1, 1, 1, 1, 1, 1, 1, 1, 1, 1, 1, 1, 1, 1, 1, 1, 1, 1, 1, 1, 1, 1, 1, 1, 1, 1]
def spec_l05Solve_l2_nx : Exit → List Nat
  | .exit 0 => [0, 1, 1, 1, 1, 0, 1, 1, 1, 1, 1, 1, 1, 1, 1, 1, 1, 1, 1, 1, 1, 1, 1, 1, 1, 1, 1, 1, 1, 1, 1, 1, 1, 1, 1, 1, 1, 1, 1, 1, 1, 1, 1, 1, 1, 1, 1, 1, 1, 1, 1, 1, 1, 1, 1, 1, 1, 1, 1, 1, 1, 1, 1, 1, 1, 1, 1, 1, 1, 1, 1, 1, 1, 1, 1, 1, 1, 1, 1, 1, 1, 1, 1, 1, 1, 1, 1, 1, 1, 1, 1, 1, 1, 1, 1, 1, 1, 1, 1, 1, 1, 1, 1, 1, 1, 1, 1, 1, 1, 1, 1, 1, 1, 1, 1, 1, 1, 1, 1, 1, 1, 1, 1, 1, 1, 1, 1, 1, 1, 1, 1, 1, 1, 1, 1, 1, 1, 1, 1, 1, 1, 1, 1, 1, 1, 1, 1, 1, 1, 1, 1, 1, 1, 1, 1, 1, 1]
  | .exit 1 => [0, 0, 1, 1, 1, 0, 0, 1, 1, 1, 1, 1, 1, 1, 1, 1, 1, 1, 1, 1, 1, 1, 1, 1, 1, 1, 1, 1, 1, 1, 1, 1, 1, 1, 1, 1, 1, 1, 1, 1, 1, 1, 1, 1, 1, 1, 1, 1, 1, 1, 1, 1, 1, 1, 1, 1, 1, 1, 1, 1, 1, 1, 1, 1, 1, 1, 1, 1, 1, 1, 1, 1, 1, 1, 1, 1, 1, 1, 1, 1, 1, 1, 1, 1, 1, 1, 1, 1, 1, 1, 1, 1, 1, 1, 1, 1, 1, 1, 1, 1, 1, 1, 1, 1, 1, 1, 1, 1, 1, 1, 1, 1, 1, 1, 1, 1, 1, 1, 1, 1, 1, 1, 1, 1, 1, 1, 1, 1, 1, 1, 1, 1, 1, 1, 1, 1, 1, 1, 1, 1, 1, 1, 1, 1, 1, 1, 1, 1, 1, 1, 1, 1, 1, 1, 1, 1, 1]
  | .exit 2 => [0, 0, 1, 1, 1, 0, 0, 0, 0, 1, 1, 1, 1, 1, 1, 1, 1, 1, 1, 1, 1, 1, 1, 1, 1, 1, 1, 1, 1, 1, 1, 1, 1, 1, 1, 1, 1, 1, 1, 1, 1, 1, 1, 1, 1, 1, 1, 1, 1, 1, 1, 1, 1, 1, 1, 1, 1, 1, 1, 1, 1, 1, 1, 1, 1, 1, 1, 1, 1, 1, 1, 1, 1, 1, 1, 1, 1, 1, 1, 1, 1, 1, 1, 1, 1, 1, 1, 1, 1, 1, 1, 1, 1, 1, 1, 1, 1, 1, 1, 1, 1, 1, 1, 1, 1, 1, 1, 1, 1, 1, 1, 1, 1, 1, 1, 1, 1, 1, 1, 1, 1, 1, 1, 1, 1, 1, 1, 1, 1, 1, 1, 1, 1, 1, 1, 1, 1, 1, 1, 1, 1, 1, 1, 1, 1, 1, 1, 1, 1, 1, 1, 1, 1, 1, 1, 1, 1]
  | .ret => [1, 1, 1, 1, 0, 1, 1, 1, 1, 1, 1, 1, 1, 1, 1, 1, 1, 1, 1, 1, 1, 1, 1, 1, 1, 1, 1, 1, 1, 1, 1, 1, 1, 1, 1, 1, 1, 1, 1, 1, 1, 1, 1, 1, 1, 1, 1, 1, 1, 1, 1, 1, 1, 1, 1, 1, 1, 1, 1, 1, 1, 1, 1, 1, 1, 1, 1, 1, 1, 1, 1, 1, 1, 1, 1, 1, 1, 1, 1, 1, 1, 1, 1, 1, 1, 1, 1, 1, 1, 1, 1, 1, 1, 1, 1, 1, 1, 1, 1, 1, 1, 1, 1, 1, 1, 1, 1, 1, 1, 1, 1, 1, 1, 1, 1, 1, 1, 1, 1, 1, 1, 1, 1, 1, 1, 1, 1, 1, 1, 1, 1, 1, 1, 1, 1, 1, 1, 1, 1, 1, 1, 1, 1, 1, 1, 1, 1, 1, 1, 1, 1, 1, 1, 1, 1, 1, 1]
  | _ => []
noncomputable def spec_l05Solve_l0_T (v111 : Int) (v112 : List Int) (v113 : List Int) (v114 : List Nat) (v115 : List Nat) (s : Int × (List Nat)) : Tree ((Int × (List Nat)) ⊕ ((List Nat))) :=
  (.br (decide (s.1 < v111)) (
   (.grd (inb s.1 v115.length) <|
   (.grd (inb (IntKind.i64.wrap (s.1 + (1 : Int))) v112.length) <|
   (.grd (inb s.1 v112.length) <|
   (.need (some (spec_l05Solve_l2_E v111 v112 v113 v114 v115 s.1 (IntKind.i64.wrap ((nth v112 (Int.toNat (IntKind.i64.wrap (s.1 + (1 : Int))))) - (1 : Int))) s.2 (nth v115 (Int.toNat s.1), nth v112 (Int.toNat s.1))) = some (spec_l05Solve_l2_E v111 v112 v113 v114 v115 s.1 (IntKind.i64.wrap ((nth v112 (Int.toNat (IntKind.i64.wrap (s.1 + (1 : Int))))) - (1 : Int))) s.2 (nth v115 (Int.toNat s.1), nth v112 (Int.toNat s.1)))) <|
   (.call (spec_l05Solve_l2_g v113 v114 s.1 (IntKind.i64.wrap ((nth v112 (Int.toNat (IntKind.i64.wrap (s.1 + (1 : Int))))) - (1 : Int))) s.2 (nth v115 (Int.toNat s.1), nth v112 (Int.toNat s.1))) fun v165 =>
   (.grd (inb (IntKind.i64.wrap ((nth v112 (Int.toNat (IntKind.i64.wrap (s.1 + (1 : Int))))) - (1 : Int))) v114.length) <|
   (.grd (fits (s.2 ++ ([fdiv .f32 v165 (nth v114 (Int.toNat (IntKind.i64.wrap ((nth v112 (Int.toNat (IntKind.i64.wrap (s.1 + (1 : Int))))) - (1 : Int)))))] : List Nat)).length) <|
   .leaf (.inl (IntKind.i64.wrap (s.1 + (1 : Int)), s.2 ++ ([fdiv .f32 v165 (nth v114 (Int.toNat (IntKind.i64.wrap ((nth v112 (Int.toNat (IntKind.i64.wrap (s.1 + (1 : Int))))) - (1 : Int)))))] : List Nat))))))))))
  ) (
   .leaf (.inr s.2)
  ))

noncomputable def spec_l05Solve_l0_g (v111 : Int) (v112 : List Int) (v113 : List Int) (v114 : List Nat) (v115 : List Nat) (s0 : Int × (List Nat)) : Option ((List Nat)) := whileM (fun s => (spec_l05Solve_l0_T v111 v112 v113 v114 v115 s).run) s0
def spec_l05Solve_l0_E (v111 : Int) (v112 : List Int) (v113 : List Int) (v114 : List Nat) (v115 : List Nat) (s : Int × (List Nat)) : Sd := ([.bptr (BR.root 0) [.int .i64 v111, .bslc (BR.root 1) (.i64 v112), .bslc (BR.root 2) (.i64 v113), .bslc (BR.root 3) (.f32 v114)], .bslc (BR.root 4) (.f32 v115), .top, .top, .top, .own 0 0 ((s.2).length), .int .i64 s.1, .top, .top, .top, .top, .top, .top, .top, .top, .top, .top, .top, .top, .top, .top, .top, .top, .top, .top, .top, .top, .top, .top, .top, .top, .top, .top, .top, .top, .top, .top, .top, .top, .top, .top, .top, .top, .top, .top, .top, .top, .top, .top, .top, .top, .top, .top, .top, .top, .top, .top, .top, .top, .top, .top, .top, .top, .top, .top, .top, .top, .top, .top, .top, .top, .top, .top, .top, .top, .top, .top, .top, .top, .top, .top, .top, .top, .top, .top, .top, .top, .top, .top, .top, .top, .top, .top, .top, .top, .top, .top, .top, .top, .top, .top, .top, .top, .top, .top, .top, .top, .top, .top, .top, .top, .top, .top, .top, .top, .top, .top, .top, .top, .top, .top, .top, .top, .top, .top, .top, .top, .top, .top, .top, .top, .top, .top, .top, .top, .top, .top, .top, .top, .top, .top, .top, .top, .top, .top, .top, .top, .top, .top, .top, .top, .top, .top, .top, .top, .top, .top], [.row (.f32 s.2) 0])
def spec_l05Solve_l0_X (v111 : Int) (v112 : List Int) (v113 : List Int) (v114 : List Nat) (v115 : List Nat) (x : (List Nat)) : Out := (.normal, [.bptr (BR.root 0) [.int .i64 v111, .bslc (BR.root 1) (.i64 v112), .bslc (BR.root 2) (.i64 v113), .bslc (BR.root 3) (.f32 v114)], .top, .top, .top, .top, .own 0 0 ((x).length), .top, .top, .top, .top, .top, .top, .top, .top, .top, .top, .top, .top, .top, .top, .top, .top, .top, .top, .top, .top, .top, .top, .top, .top, .top, .top, .top, .top, .top, .top, .top, .top, .top, .top, .top, .top, .top, .top, .top, .top, .top, .top, .top, .top, .top, .top, .top, .top, .top, .top, .top, .top, .top, .top, .top, .top, .top, .top, .top, .top, .top, .top, .top, .top, .top, .top, .top, .top, .top, .top, .top, .top, .top, .top, .top, .top, .top, .top, .top, .top, .top, .top, .top, .top, .top, .top, .top, .top, .top, .top, .top, .top, .top, .top, .top, .top, .top, .top, .top, .top, .top, .top, .top, .top, .top, .top, .top, .top, .top, .top, .top, .top, .top, .top, .top, .top, .top, .top, .top, .top, .top, .top, .top, .top, .top, .top, .top, .top, .top, .top, .top, .top, .top, .top, .top, .top, .top, .top, .top, .top, .top, .top, .top, .top, .top, .top, .top, .top, .top, .top, .top], [.row (.f32 x) 0])
def spec_l05Solve_l0_kill : List Nat := [0, 0, 1, 1, 1, 0, 0, 1, 1, 1, 1, 1, 1, 1, 1, 1, 1, 1, 1, 1, 1, 1, 1, 1, 1, 1, 1, 1, 1, 1, 1, 1, 1, 1, 1, 1, 1, 1, 1, 1, 1, 1, 1, 1, 1, 1, 1, 1, 1, 1, 1, 1, 1, 1, 1, 1, 1, 1, 1, 1, 1, 1, 1, 1, 1, 1, 1, 1, 1, 1, 1, 1, 1, 1, 1, 1, 1, 1, 1, 1, 1, 1, 1, 1, 1, 1, 1, 1, 1, 1, 1, 1, 1, 1, 1, 1, 1, 1, 1, 1, 1, 1, 1, 1, 1, 1, 1, 1, 1, 1, 1, 1, 1, 1, 1, 1, 1, 1, 1, 1, 1, 1, 1, 1, 1, 1, 1, 1, 1, 1, 1, 1, 1, 1, 1, 1, 1, 1, 1, 1, 1, 1, 1, 1, 1, 1, 1, 1, 1, 1, 1, 1, 1, 1, 1, 1, 1]
def spec_l05Solve_l0_nx : Exit → List Nat
  | .exit 0 => [0, 1, 1, 1, 1, 0, 1, 1, 1, 1, 1, 1, 1, 1, 1, 1, 1, 1, 1, 1, 1, 1, 1, 1, 1, 1, 1, 1, 1, 1, 1, 1, 1, 1, 1, 1, 1, 1, 1, 1, 1, 1, 1, 1, 1, 1, 1, 1, 1, 1, 1, 1, 1, 1, 1, 1, 1, 1, 1, 1, 1, 1, 1, 1, 1, 1, 1, 1, 1, 1, 1, 1, 1, 1, 1, 1, 1, 1, 1, 1, 1, 1, 1, 1, 1, 1, 1, 1, 1, 1, 1, 1, 1, 1, 1, 1, 1, 1, 1, 1, 1, 1, 1, 1, 1, 1, 1, 1, 1, 1, 1, 1, 1, 1, 1, 1, 1, 1, 1, 1, 1, 1, 1, 1, 1, 1, 1, 1, 1, 1, 1, 1, 1, 1, 1, 1, 1, 1, 1, 1, 1, 1, 1, 1, 1, 1, 1, 1, 1, 1, 1, 1, 1, 1, 1, 1, 1]
  | .ret => [1, 1, 1, 1, 0, 1, 1, 1, 1, 1, 1, 1, 1, 1, 1, 1, 1, 1, 1, 1, 1, 1, 1, 1, 1, 1, 1, 1, 1, 1, 1, 1, 1, 1, 1, 1, 1, 1, 1, 1, 1, 1, 1, 1, 1, 1, 1, 1, 1, 1, 1, 1, 1, 1, 1, 1, 1, 1, 1, 1, 1, 1, 1, 1, 1, 1, 1, 1, 1, 1, 1, 1, 1, 1, 1, 1, 1, 1, 1, 1, 1, 1, 1, 1, 1, 1, 1, 1, 1, 1, 1, 1, 1, 1, 1, 1, 1, 1, 1, 1, 1, 1, 1, 1, 1, 1, 1, 1, 1, 1, 1, 1, 1, 1, 1, 1, 1, 1, 1, 1, 1, 1, 1, 1, 1, 1, 1, 1, 1, 1, 1, 1, 1, 1, 1, 1, 1, 1, 1, 1, 1, 1, 1, 1, 1, 1, 1, 1, 1, 1, 1, 1, 1, 1, 1, 1, 1]
  | _ => []
noncomputable def spec_l05Solve_l6_T (v113 : List Int) (v114 : List Nat) (v207 : Int) (v208 : Int) (s : Int × (List Nat)) : Tree ((Int × (List Nat)) ⊕ ((List Nat))) :=
  (.br (decide (s.1 < v208)) (
   (.grd (inb s.1 v113.length) <|
   (.grd (inb s.1 v113.length) <|
   (.grd (inb (nth v113 (Int.toNat s.1)) ((s.2).length)) <|
   (.grd (inb s.1 v114.length) <|
   (.grd (inb v207 ((s.2).length)) <|
   (.grd (inb (nth v113 (Int.toNat s.1)) ((s.2).length)) <|
   .leaf (.inl (IntKind.i64.wrap (s.1 + (1 : Int)), List.set s.2 (Int.toNat (nth v113 (Int.toNat s.1))) (fsub .f32 (nth s.2 (Int.toNat (nth v113 (Int.toNat s.1)))) (fmul .f32 (nth v114 (Int.toNat s.1)) (nth s.2 (Int.toNat v207))))))))))))
  ) (
   .leaf (.inr s.2)
  ))

noncomputable def spec_l05Solve_l6_g (v113 : List Int) (v114 : List Nat) (v207 : Int) (v208 : Int) (s0 : Int × (List Nat)) : Option ((List Nat)) := whileM (fun s => (spec_l05Solve_l6_T v113 v114 v207 v208 s).run) s0
def spec_l05Solve_l6_E (v111 : Int) (v112 : List Int) (v113 : List Int) (v114 : List Nat) (v115 : List Nat) (v207 : Int) (v208 : Int) (s : Int × (List Nat)) : Sd := ([.bptr (BR.root 0) [.int .i64 v111, .bslc (BR.root 1) (.i64 v112), .bslc (BR.root 2) (.i64 v113), .bslc (BR.root 3) (.f32 v114)], .top, .top, .top, .top, .own 0 0 ((s.2).length), .top, .top, .top, .top, .int .i64 v207, .int .i64 v208, .int .i64 s.1, .top, .top, .top, .top, .top, .top, .top, .top, .top, .top, .top, .top, .top, .top, .top, .top, .top, .top, .top, .top, .top, .top, .top, .top, .top, .top, .top, .top, .top, .top, .top, .top, .top, .top, .top, .top, .top, .top, .top, .top, .top, .top, .top, .top, .top, .top, .top, .top, .top, .top, .top, .top, .top, .top, .top, .top, .top, .top, .top, .top, .top, .top, .top, .top, .top, .top, .top, .top, .top, .top, .top, .top, .top, .top, .top, .top, .top, .top, .top, .top, .top, .top, .top, .top, .top, .top, .top, .top, .top, .top, .top, .top, .top, .top, .top, .top, .top, .top, .top, .top, .top, .top, .top, .top, .top, .top, .top, .top, .top, .top, .top, .top, .top, .top, .top, .top, .top, .top, .top, .top, .top, .top, .top, .top, .top, .top, .top, .top, .top, .top, .top, .top, .top, .top, .top, .top, .top, .top, .top, .top, .top, .top, .top, .top], [.row (.f32 s.2) 0])
def spec_l05Solve_l6_X (v111 : Int) (v112 : List Int) (v113 : List Int) (v114 : List Nat) (v115 : List Nat) (v207 : Int) (v208 : Int) (x : (List Nat)) : Out := (.normal, [.bptr (BR.root 0) [.int .i64 v111, .bslc (BR.root 1) (.i64 v112), .bslc (BR.root 2) (.i64 v113), .bslc (BR.root 3) (.f32 v114)], .top, .top, .top, .top, .own 0 0 ((x).length), .top, .top, .top, .top, .int .i64 v207, .top, .top, .top, .top, .top, .top, .top, .top, .top, .top, .top, .top, .top, .top, .top, .top, .top, .top, .top, .top, .top, .top, .top, .top, .top, .top, .top, .top, .top, .top, .top, .top, .top, .top, .top, .top, .top, .top, .top, .top, .top, .top, .top, .top, .top, .top, .top, .top, .top, .top, .top, .top, .top, .top, .top, .top, .top, .top, .top, .top, .top, .top, .top, .top, .top, .top, .top, .top, .top, .top, .top, .top, .top, .top, .top, .top, .top, .top, .top, .top, .top, .top, .top, .top, .top, .top, .top, .top, .top, .top, .top, .top, .top, .top, .top, .top, .top, .top, .top, .top, .top, .top, .top, .top, .top, .top, .top, .top, .top, .top, .top, .top, .top, .top, .top, .top, .top, .top, .top, .top, .top, .top, .top, .top, .top, .top, .top, .top, .top, .top, .top, .top, .top, .top, .top, .top, .top, .top, .top, .top, .top, .top, .top, .top, .top, .top], [.row (.f32 x) 0])
def spec_l05Solve_l6_kill : List Nat := [0, 1, 1, 1, 1, 0, 1, 1, 1, 1, 0, 0, 0, 1, 1, 1, 1, 1, 1, 1, 1, 1, 1, 1, 1, 1, 1, 1, 1, 1, 1, 1, 1, 1, 1, 1, 1, 1, 1, 1, 1, 1, 1, 1, 1, 1, 1, 1, 1, 1, 1, 1, 1, 1, 1, 1, 1, 1, 1, 1, 1, 1, 1, 1, 1, 1, 1, 1, 1, 1, 1, 1, 1, 1, 1, 1, 1, 1, 1, 1, 1, 1, 1, 1, 1, 1, 1, 1, 1, 1, 1, 1, 1, 1, 1, 1, 1, 1, 1, 1, 1, 1, 1, 1, 1, 1, 1, 1, 1, 1, 1, 1, 1, 1, 1, 1, 1, 1, 1, 1, 1, 1, 1, 1, 1, 1, 1, 1, 1, 1, 1, 1, 1, 1, 1, 1, 1, 1, 1, 1, 1, 1, 1, 1, 1, 1, 1, 1, 1, 1, 1, 1, 1, 1, 1, 1, 1]
def spec_l05Solve_l6_nx : Exit → List Nat
  | .exit 4 => [1, 1, 1, 1, 1, 0, 1, 1, 1, 1, 1, 1, 1, 1, 1, 1, 1, 1, 1, 1, 1, 1, 1, 1, 1, 1, 1, 1, 1, 1, 1, 1, 1, 1, 1, 1, 1, 1, 1, 1, 1, 1, 1, 1, 1, 1, 1, 1, 1, 1, 1, 1, 1, 1, 1, 1, 1, 1, 1, 1, 1, 1, 1, 1, 1, 1, 1, 1, 1, 1, 1, 1, 1, 1, 1, 1, 1, 1, 1, 1, 1, 1, 1, 1, 1, 1, 1, 1, 1, 1, 1, 1, 1, 1, 1, 1, 1, 1, 1, 1, 1, 1, 1, 1, 1, 1, 1, 1, 1, 1, 1, 1, 1, 1, 1, 1, 1, 1, 1, 1, 1, 1, 1, 1, 1, 1, 1, 1, 1, 1, 1, 1, 1, 1, 1, 1, 1, 1, 1, 1, 1, 1, 1, 1, 1, 1, 1, 1, 1, 1, 1, 1, 1, 1, 1, 1, 1]
  | .exit 5 => [0, 1, 1, 1, 1, 0, 1, 1, 1, 1, 0, 1, 1, 1, 1, 1, 1, 1, 1, 1, 1, 1, 1, 1, 1, 1, 1, 1, 1, 1, 1, 1, 1, 1, 1, 1, 1, 1, 1, 1, 1, 1, 1, 1, 1, 1, 1, 1, 1, 1, 1, 1, 1, 1, 1, 1, 1, 1, 1, 1, 1, 1, 1, 1, 1, 1, 1, 1, 1, 1, 1, 1, 1, 1, 1, 1, 1, 1, 1, 1, 1, 1, 1, 1, 1, 1, 1, 1, 1, 1, 1, 1, 1, 1, 1, 1, 1, 1, 1, 1, 1, 1, 1, 1, 1, 1, 1, 1, 1, 1, 1, 1, 1, 1, 1, 1, 1, 1, 1, 1, 1, 1, 1, 1, 1, 1, 1, 1, 1, 1, 1, 1, 1, 1, 1, 1, 1, 1, 1, 1, 1, 1, 1, 1, 1, 1, 1, 1, 1, 1, 1, 1, 1, 1, 1, 1, 1]
  | .exit 6 => [0, 1, 1, 1, 1, 0, 1, 1, 1, 1, 0, 1, 1, 1, 1, 1, 1, 1, 1, 1, 1, 1, 1, 1, 1, 1, 1, 1, 1, 1, 1, 1, 1, 1, 1, 1, 1, 1, 1, 1, 1, 1, 1, 1, 1, 1, 1, 1, 1, 1, 1, 1, 1, 1, 1, 1, 1, 1, 1, 1, 1, 1, 1, 1, 1, 1, 1, 1, 1, 1, 1, 1, 1, 1, 1, 1, 1, 1, 1, 1, 1, 1, 1, 1, 1, 1, 1, 1, 1, 1, 1, 1, 1, 1, 1, 1, 1, 1, 1, 1, 1, 1, 1, 1, 1, 1, 1, 1, 1, 1, 1, 1, 1, 1, 1, 1, 1, 1, 1, 1, 1, 1, 1, 1, 1, 1, 1, 1, 1, 1, 1, 1, 1, 1, 1, 1, 1, 1, 1, 1, 1, 1, 1, 1, 1, 1, 1, 1, 1, 1, 1, 1, 1, 1, 1, 1, 1]
  | .ret => [1, 1, 1, 1, 0, 1, 1, 1, 1, 1, 1, 1, 1, 1, 1, 1, 1, 1, 1, 1, 1, 1, 1, 1, 1, 1, 1, 1, 1, 1, 1, 1, 1, 1, 1, 1, 1, 1, 1, 1, 1, 1, 1, 1, 1, 1, 1, 1, 1, 1, 1, 1, 1, 1, 1, 1, 1, 1, 1, 1, 1, 1, 1, 1, 1, 1, 1, 1, 1, 1, 1, 1, 1, 1, 1, 1, 1, 1, 1, 1, 1, 1, 1, 1, 1, 1, 1, 1, 1, 1, 1, 1, 1, 1, 1, 1, 1, 1, 1, 1, 1, 1, 1, 1, 1, 1, 1, 1, 1, 1, 1, 1, 1, 1, 1, 1, 1, 1, 1, 1, 1, 1, 1, 1, 1, 1, 1, 1, 1, 1, 1, 1, 1, 1, 1, 1, 1, 1, 1, 1, 1, 1, 1, 1, 1, 1, 1, 1, 1, 1, 1, 1, 1, 1, 1, 1, 1]
  | _ => []
noncomputable def spec_l05Solve_l4_T (v111 : Int) (v112 : List Int) (v113 : List Int) (v114 : List Nat) (v115 : List Nat) (s : Int × (List Nat)) : Tree ((Int × (List Nat)) ⊕ ((List Nat))) :=
  (.br (decide ((0 : Int) ≤ s.1)) (
   (.grd (inb (IntKind.i64.wrap (s.1 + (1 : Int))) v112.length) <|
   (.grd (inb s.1 ((s.2).length)) <|
   (.grd (inb (IntKind.i64.wrap ((nth v112 (Int.toNat (IntKind.i64.wrap (s.1 + (1 : Int))))) - (1 : Int))) v114.length) <|
   (.grd (inb s.1 ((s.2).length)) <|
   (.grd (inb s.1 v112.length) <|
   (.need (some (spec_l05Solve_l6_E v111 v112 v113 v114 v115 s.1 (IntKind.i64.wrap ((nth v112 (Int.toNat (IntKind.i64.wrap (s.1 + (1 : Int))))) - (1 : Int))) (nth v112 (Int.toNat s.1), List.set s.2 (Int.toNat s.1) (fdiv .f32 (nth s.2 (Int.toNat s.1)) (nth v114 (Int.toNat (IntKind.i64.wrap ((nth v112 (Int.toNat (IntKind.i64.wrap (s.1 + (1 : Int))))) - (1 : Int)))))))) = some (spec_l05Solve_l6_E v111 v112 v113 v114 v115 s.1 (IntKind.i64.wrap ((nth v112 (Int.toNat (IntKind.i64.wrap (s.1 + (1 : Int))))) - (1 : Int))) (nth v112 (Int.toNat s.1), List.set s.2 (Int.toNat s.1) (fdiv .f32 (nth s.2 (Int.toNat s.1)) (nth v114 (Int.toNat (IntKind.i64.wrap ((nth v112 (Int.toNat (IntKind.i64.wrap (s.1 + (1 : Int))))) - (1 : Int))))))))) <|
   (.call (spec_l05Solve_l6_g v113 v114 s.1 (IntKind.i64.wrap ((nth v112 (Int.toNat (IntKind.i64.wrap (s.1 + (1 : Int))))) - (1 : Int))) (nth v112 (Int.toNat s.1), List.set s.2 (Int.toNat s.1) (fdiv .f32 (nth s.2 (Int.toNat s.1)) (nth v114 (Int.toNat (IntKind.i64.wrap ((nth v112 (Int.toNat (IntKind.i64.wrap (s.1 + (1 : Int))))) - (1 : Int)))))))) fun v211 =>
   .leaf (.inl (IntKind.i64.wrap (s.1 - (1 : Int)), v211)))))))))
  ) (
   .leaf (.inr s.2)
  ))

noncomputable def spec_l05Solve_l4_g (v111 : Int) (v112 : List Int) (v113 : List Int) (v114 : List Nat) (v115 : List Nat) (s0 : Int × (List Nat)) : Option ((List Nat)) := whileM (fun s => (spec_l05Solve_l4_T v111 v112 v113 v114 v115 s).run) s0
def spec_l05Solve_l4_E (v111 : Int) (v112 : List Int) (v113 : List Int) (v114 : List Nat) (v115 : List Nat) (s : Int × (List Nat)) : Sd := ([.bptr (BR.root 0) [.int .i64 v111, .bslc (BR.root 1) (.i64 v112), .bslc (BR.root 2) (.i64 v113), .bslc (BR.root 3) (.f32 v114)], .top, .top, .top, .top, .own 0 0 ((s.2).length), .top, .top, .top, .top, .int .i64 s.1, .top, .top, .top, .top, .top, .top, .top, .top, .top, .top, .top, .top, .top, .top, .top, .top, .top, .top, .top, .top, .top, .top, .top, .top, .top, .top, .top, .top, .top, .top, .top, .top, .top, .top, .top, .top, .top, .top, .top, .top, .top, .top, .top, .top, .top, .top, .top, .top, .top, .top, .top, .top, .top, .top, .top, .top, .top, .top, .top, .top, .top, .top, .top, .top, .top, .top, .top, .top, .top, .top, .top, .top, .top, .top, .top, .top, .top, .top, .top, .top, .top, .top, .top, .top, .top, .top, .top, .top, .top, .top, .top, .top, .top, .top, .top, .top, .top, .top, .top, .top, .top, .top, .top, .top, .top, .top, .top, .top, .top, .top, .top, .top, .top, .top, .top, .top, .top, .top, .top, .top, .top, .top, .top, .top, .top, .top, .top, .top, .top, .top, .top, .top, .top, .top, .top, .top, .top, .top, .top, .top, .top, .top, .top, .top, .top, .top], [.row (.f32 s.2) 0])
def spec_l05Solve_l4_X (v111 : Int) (v112 : List Int) (v113 : List Int) (v114 : List Nat) (v115 : List Nat) (x : (List Nat)) : Out := (.normal, [.top, .top, .top, .top, .top, .own 0 0 ((x).length), .top, .top, .top, .top, .top, .top, .top, .top, .top, .top, .top, .top, .top, .top, .top, .top, .top, .top, .top, .top, .top, .top, .top, .top, .top, .top, .top, .top, .top, .top, .top, .top, .top, .top, .top, .top, .top, .top, .top, .top, .top, .top, .top, .top, .top, .top, .top, .top, .top, .top, .top, .top, .top, .top, .top, .top, .top, .top, .top, .top, .top, .top, .top, .top, .top, .top, .top, .top, .top, .top, .top, .top, .top, .top, .top, .top, .top, .top, .top, .top, .top, .top, .top, .top, .top, .top, .top, .top, .top, .top, .top, .top, .top, .top, .top, .top, .top, .top, .top, .top, .top, .top, .top, .top, .top, .top, .top, .top, .top, .top, .top, .top, .top, .top, .top, .top, .top, .top, .top, .top, .top, .top, .top, .top, .top, .top, .top, .top, .top, .top, .top, .top, .top, .top, .top, .top, .top, .top, .top, .top, .top, .top, .top, .top, .top, .top, .top, .top, .top, .top, .top], [.row (.f32 x) 0])
def spec_l05Solve_l4_kill : List Nat := [0, 1, 1, 1, 1, 0, 1, 1, 1, 1, 0, 1, 1, 1, 1, 1, 1, 1, 1, 1, 1, 1, 1, 1, 1, 1, 1, 1, 1, 1, 1, 1, 1, 1, 1, 1, 1, 1, 1, 1, 1, 1, 1, 1, 1, 1, 1, 1, 1, 1, 1, 1, 1, 1, 1, 1, 1, 1, 1, 1, 1, 1, 1, 1, 1, 1, 1, 1, 1, 1, 1, 1, 1, 1, 1, 1, 1, 1, 1, 1, 1, 1, 1, 1, 1, 1, 1, 1, 1, 1, 1, 1, 1, 1, 1, 1, 1, 1, 1, 1, 1, 1, 1, 1, 1, 1, 1, 1, 1, 1, 1, 1, 1, 1, 1, 1, 1, 1, 1, 1, 1, 1, 1, 1, 1, 1, 1, 1, 1, 1, 1, 1, 1, 1, 1, 1, 1, 1, 1, 1, 1, 1, 1, 1, 1, 1, 1, 1, 1, 1, 1, 1, 1, 1, 1, 1, 1]
def spec_l05Solve_l4_nx : Exit → List Nat
  | .exit 4 => [1, 1, 1, 1, 1, 0, 1, 1, 1, 1, 1, 1, 1, 1, 1, 1, 1, 1, 1, 1, 1, 1, 1, 1, 1, 1, 1, 1, 1, 1, 1, 1, 1, 1, 1, 1, 1, 1, 1, 1, 1, 1, 1, 1, 1, 1, 1, 1, 1, 1, 1, 1, 1, 1, 1, 1, 1, 1, 1, 1, 1, 1, 1, 1, 1, 1, 1, 1, 1, 1, 1, 1, 1, 1, 1, 1, 1, 1, 1, 1, 1, 1, 1, 1, 1, 1, 1, 1, 1, 1, 1, 1, 1, 1, 1, 1, 1, 1, 1, 1, 1, 1, 1, 1, 1, 1, 1, 1, 1, 1, 1, 1, 1, 1, 1, 1, 1, 1, 1, 1, 1, 1, 1, 1, 1, 1, 1, 1, 1, 1, 1, 1, 1, 1, 1, 1, 1, 1, 1, 1, 1, 1, 1, 1, 1, 1, 1, 1, 1, 1, 1, 1, 1, 1, 1, 1, 1]
  | .ret => [1, 1, 1, 1, 0, 1, 1, 1, 1, 1, 1, 1, 1, 1, 1, 1, 1, 1, 1, 1, 1, 1, 1, 1, 1, 1, 1, 1, 1, 1, 1, 1, 1, 1, 1, 1, 1, 1, 1, 1, 1, 1, 1, 1, 1, 1, 1, 1, 1, 1, 1, 1, 1, 1, 1, 1, 1, 1, 1, 1, 1, 1, 1, 1, 1, 1, 1, 1, 1, 1, 1, 1, 1, 1, 1, 1, 1, 1, 1, 1, 1, 1, 1, 1, 1, 1, 1, 1, 1, 1, 1, 1, 1, 1, 1, 1, 1, 1, 1, 1, 1, 1, 1, 1, 1, 1, 1, 1, 1, 1, 1, 1, 1, 1, 1, 1, 1, 1, 1, 1, 1, 1, 1, 1, 1, 1, 1, 1, 1, 1, 1, 1, 1, 1, 1, 1, 1, 1, 1, 1, 1, 1, 1, 1, 1, 1, 1, 1, 1, 1, 1, 1, 1, 1, 1, 1, 1]
  | _ => []
noncomputable def spec_l05Solve_LO (v111 : Int) (v112 : List Int) (v113 : List Int) (v114 : List Nat) (v115 : List Nat) : LOr := fun id e L =>
  match id with
  | 2 => .need (normA 0 spec_l05Solve_l2_kill e L = some (spec_l05Solve_l2_E v111 v112 v113 v114 v115 (gI (vAt e 6)) (gI (vAt e 8)) (gRF L (vAt e 5)) ((gF (vAt e 7)), (gI (vAt e 9))))) (.call (spec_l05Solve_l2_g v113 v114 (gI (vAt e 6)) (gI (vAt e 8)) (gRF L (vAt e 5)) ((gF (vAt e 7)), (gI (vAt e 9)))) fun x => .leaf (spec_l05Solve_l2_X v111 v112 v113 v114 v115 (gI (vAt e 6)) (gI (vAt e 8)) (gRF L (vAt e 5)) x))
  | 0 => .need (normA 0 spec_l05Solve_l0_kill e L = some (spec_l05Solve_l0_E v111 v112 v113 v114 v115 ((gI (vAt e 6)), (gRF L (vAt e 5))))) (.call (spec_l05Solve_l0_g v111 v112 v113 v114 v115 ((gI (vAt e 6)), (gRF L (vAt e 5)))) fun x => .leaf (spec_l05Solve_l0_X v111 v112 v113 v114 v115 x))
  | 6 => .need (normA 0 spec_l05Solve_l6_kill e L = some (spec_l05Solve_l6_E v111 v112 v113 v114 v115 (gI (vAt e 10)) (gI (vAt e 11)) ((gI (vAt e 12)), (gRF L (vAt e 5))))) (.call (spec_l05Solve_l6_g v113 v114 (gI (vAt e 10)) (gI (vAt e 11)) ((gI (vAt e 12)), (gRF L (vAt e 5)))) fun x => .leaf (spec_l05Solve_l6_X v111 v112 v113 v114 v115 (gI (vAt e 10)) (gI (vAt e 11)) x))
  | 4 => .need (normA 0 spec_l05Solve_l4_kill e L = some (spec_l05Solve_l4_E v111 v112 v113 v114 v115 ((gI (vAt e 10)), (gRF L (vAt e 5))))) (.call (spec_l05Solve_l4_g v111 v112 v113 v114 v115 ((gI (vAt e 10)), (gRF L (vAt e 5)))) fun x => .leaf (spec_l05Solve_l4_X v111 v112 v113 v114 v115 x))
  | _ => .fail
noncomputable def spec_l05Solve_tab : List (FuncId × DFn × Bool) := []
theorem spec_l05Solve_hO : OrcOk Try.prog (tabD spec_l05Solve_tab) (tabM spec_l05Solve_tab) := tabD_nil _
theorem spec_l05Solve_l2_be (v111 : Int) (v112 : List Int) (v113 : List Int) (v114 : List Nat) (v115 : List Nat) (v160 : Int) (v162 : Int) (v164 : List Nat) (s : Nat × Int) : bodyT TT (tabD spec_l05Solve_tab) (tabM spec_l05Solve_tab) (spec_l05Solve_LO v111 v112 v113 v114 v115) 0 spec_l05Solve_l2_kill spec_l05Solve_l2_nx (bodyOf Try.f74 2) 2 (spec_l05Solve_l2_E v111 v112 v113 v114 v115 v160 v162 v164 s) = (spec_l05Solve_l2_T v113 v114 v160 v162 v164 s).bind fun y => .leaf (outS (spec_l05Solve_l2_E v111 v112 v113 v114 v115 v160 v162 v164) (spec_l05Solve_l2_X v111 v112 v113 v114 v115 v160 v162 v164) y) := by kernel_rfl
theorem spec_l05Solve_l2_ok (v111 : Int) (v112 : List Int) (v113 : List Int) (v114 : List Nat) (v115 : List Nat) : LSound Try.prog 0 (spec_l05Solve_LO v111 v112 v113 v114 v115) 2 (bodyOf Try.f74 2) := by
  intro e L out h
  exact lo_ok (E := spec_l05Solve_l2_E v111 v112 v113 v114 v115 (gI (vAt e 6)) (gI (vAt e 8)) (gRF L (vAt e 5))) (gT := spec_l05Solve_l2_T v113 v114 (gI (vAt e 6)) (gI (vAt e 8)) (gRF L (vAt e 5))) (X := spec_l05Solve_l2_X v111 v112 v113 v114 v115 (gI (vAt e 6)) (gI (vAt e 8)) (gRF L (vAt e 5))) (s0 := ((gF (vAt e 7)), (gI (vAt e 9)))) tok spec_l05Solve_hO mixed (LoopsOk_eq (l := []) (by kernel_rfl) trivial) (spec_l05Solve_l2_be v111 v112 v113 v114 v115 (gI (vAt e 6)) (gI (vAt e 8)) (gRF L (vAt e 5))) rfl (by intro x; rfl) h
theorem spec_l05Solve_l0_be (v111 : Int) (v112 : List Int) (v113 : List Int) (v114 : List Nat) (v115 : List Nat) (s : Int × (List Nat)) : bodyT TT (tabD spec_l05Solve_tab) (tabM spec_l05Solve_tab) (spec_l05Solve_LO v111 v112 v113 v114 v115) 0 spec_l05Solve_l0_kill spec_l05Solve_l0_nx (bodyOf Try.f74 0) 0 (spec_l05Solve_l0_E v111 v112 v113 v114 v115 s) = (spec_l05Solve_l0_T v111 v112 v113 v114 v115 s).bind fun y => .leaf (outS (spec_l05Solve_l0_E v111 v112 v113 v114 v115) (spec_l05Solve_l0_X v111 v112 v113 v114 v115) y) := by kernel_rfl
theorem spec_l05Solve_l0_ok (v111 : Int) (v112 : List Int) (v113 : List Int) (v114 : List Nat) (v115 : List Nat) : LSound Try.prog 0 (spec_l05Solve_LO v111 v112 v113 v114 v115) 0 (bodyOf Try.f74 0) := by
  intro e L out h
  exact lo_ok (E := spec_l05Solve_l0_E v111 v112 v113 v114 v115) (gT := spec_l05Solve_l0_T v111 v112 v113 v114 v115) (X := spec_l05Solve_l0_X v111 v112 v113 v114 v115) (s0 := ((gI (vAt e 6)), (gRF L (vAt e 5)))) tok spec_l05Solve_hO mixed (LoopsOk_eq (l := [(2, bodyOf Try.f74 2)]) (by kernel_rfl) ⟨spec_l05Solve_l2_ok v111 v112 v113 v114 v115, trivial⟩) (spec_l05Solve_l0_be v111 v112 v113 v114 v115) rfl (by intro x; rfl) h
theorem spec_l05Solve_l6_be (v111 : Int) (v112 : List Int) (v113 : List Int) (v114 : List Nat) (v115 : List Nat) (v207 : Int) (v208 : Int) (s : Int × (List Nat)) : bodyT TT (tabD spec_l05Solve_tab) (tabM spec_l05Solve_tab) (spec_l05Solve_LO v111 v112 v113 v114 v115) 0 spec_l05Solve_l6_kill spec_l05Solve_l6_nx (bodyOf Try.f74 6) 6 (spec_l05Solve_l6_E v111 v112 v113 v114 v115 v207 v208 s) = (spec_l05Solve_l6_T v113 v114 v207 v208 s).bind fun y => .leaf (outS (spec_l05Solve_l6_E v111 v112 v113 v114 v115 v207 v208) (spec_l05Solve_l6_X v111 v112 v113 v114 v115 v207 v208) y) := by kernel_rfl
theorem spec_l05Solve_l6_ok (v111 : Int) (v112 : List Int) (v113 : List Int) (v114 : List Nat) (v115 : List Nat) : LSound Try.prog 0 (spec_l05Solve_LO v111 v112 v113 v114 v115) 6 (bodyOf Try.f74 6) := by
  intro e L out h
  exact lo_ok (E := spec_l05Solve_l6_E v111 v112 v113 v114 v115 (gI (vAt e 10)) (gI (vAt e 11))) (gT := spec_l05Solve_l6_T v113 v114 (gI (vAt e 10)) (gI (vAt e 11))) (X := spec_l05Solve_l6_X v111 v112 v113 v114 v115 (gI (vAt e 10)) (gI (vAt e 11))) (s0 := ((gI (vAt e 12)), (gRF L (vAt e 5)))) tok spec_l05Solve_hO mixed (LoopsOk_eq (l := []) (by kernel_rfl) trivial) (spec_l05Solve_l6_be v111 v112 v113 v114 v115 (gI (vAt e 10)) (gI (vAt e 11))) rfl (by intro x; rfl) h
theorem spec_l05Solve_l4_be (v111 : Int) (v112 : List Int) (v113 : List Int) (v114 : List Nat) (v115 : List Nat) (s : Int × (List Nat)) : bodyT TT (tabD spec_l05Solve_tab) (tabM spec_l05Solve_tab) (spec_l05Solve_LO v111 v112 v113 v114 v115) 0 spec_l05Solve_l4_kill spec_l05Solve_l4_nx (bodyOf Try.f74 4) 4 (spec_l05Solve_l4_E v111 v112 v113 v114 v115 s) = (spec_l05Solve_l4_T v111 v112 v113 v114 v115 s).bind fun y => .leaf (outS (spec_l05Solve_l4_E v111 v112 v113 v114 v115) (spec_l05Solve_l4_X v111 v112 v113 v114 v115) y) := by kernel_rfl
theorem spec_l05Solve_l4_ok (v111 : Int) (v112 : List Int) (v113 : List Int) (v114 : List Nat) (v115 : List Nat) : LSound Try.prog 0 (spec_l05Solve_LO v111 v112 v113 v114 v115) 4 (bodyOf Try.f74 4) := by
  intro e L out h
  exact lo_ok (E := spec_l05Solve_l4_E v111 v112 v113 v114 v115) (gT := spec_l05Solve_l4_T v111 v112 v113 v114 v115) (X := spec_l05Solve_l4_X v111 v112 v113 v114 v115) (s0 := ((gI (vAt e 10)), (gRF L (vAt e 5)))) tok spec_l05Solve_hO mixed (LoopsOk_eq (l := [(6, bodyOf Try.f74 6)]) (by kernel_rfl) ⟨spec_l05Solve_l6_ok v111 v112 v113 v114 v115, trivial⟩) (spec_l05Solve_l4_be v111 v112 v113 v114 v115) rfl (by intro x; rfl) h
noncomputable def spec_l05Solve_T (v111 : Int) (v112 : List Int) (v113 : List Int) (v114 : List Nat) (v115 : List Nat) : Tree ((List Nat)) :=
  (.need (some (spec_l05Solve_l0_E v111 v112 v113 v114 v115 ((0 : Int), ([] : List Nat))) = some (spec_l05Solve_l0_E v111 v112 v113 v114 v115 ((0 : Int), ([] : List Nat)))) <|
  (.call (spec_l05Solve_l0_g v111 v112 v113 v114 v115 ((0 : Int), ([] : List Nat))) fun v166 =>
  (.need (some (spec_l05Solve_l4_E v111 v112 v113 v114 v115 (IntKind.i64.wrap (v111 - (1 : Int)), v166)) = some (spec_l05Solve_l4_E v111 v112 v113 v114 v115 (IntKind.i64.wrap (v111 - (1 : Int)), v166))) <|
  (.call (spec_l05Solve_l4_g v111 v112 v113 v114 v115 (IntKind.i64.wrap (v111 - (1 : Int)), v166)) fun v212 =>
  .leaf v212))))

noncomputable def spec_l05Solve_g (v111 : Int) (v112 : List Int) (v113 : List Int) (v114 : List Nat) (v115 : List Nat) : Option ((List Nat)) := (spec_l05Solve_T v111 v112 v113 v114 v115).run
def spec_l05Solve_enc (v111 : Int) (v112 : List Int) (v113 : List Int) (v114 : List Nat) (v115 : List Nat) (y : (List Nat)) : Rs := (.own 0 0 ((y).length), [.row (.f32 y) 0])
theorem spec_l05Solve_den (v111 : Int) (v112 : List Int) (v113 : List Int) (v114 : List Nat) (v115 : List Nat) : (den TT (tabD spec_l05Solve_tab) (tabM spec_l05Solve_tab) (spec_l05Solve_LO v111 v112 v113 v114 v115) (codeOf Try.f74) ([.bptr (BR.root 0) [.int .i64 v111, .bslc (BR.root 1) (.i64 v112), .bslc (BR.root 2) (.i64 v113), .bslc (BR.root 3) (.f32 v114)], .bslc (BR.root 4) (.f32 v115)] ++ List.replicate (Try.f74.ntmps - ([.bptr (BR.root 0) [.int .i64 v111, .bslc (BR.root 1) (.i64 v112), .bslc (BR.root 2) (.i64 v113), .bslc (BR.root 3) (.f32 v114)], .bslc (BR.root 4) (.f32 v115)] : List DV).length) .undef) []).bind (retD TT Try.f74.results.toList 0) = (spec_l05Solve_T v111 v112 v113 v114 v115).bind fun y => .leaf (spec_l05Solve_enc v111 v112 v113 v114 v115 y) := by kernel_rfl
theorem spec_l05Solve_fn (v111 : Int) (v112 : List Int) (v113 : List Int) (v114 : List Nat) (v115 : List Nat) (F : Fr) (hm : F.ids.length = 0) (h0 : St F [] F.H0) (hA : DVs.Ok F [] [.bptr (BR.root 0) [.int .i64 v111, .bslc (BR.root 1) (.i64 v112), .bslc (BR.root 2) (.i64 v113), .bslc (BR.root 3) (.f32 v114)], .bslc (BR.root 4) (.f32 v115)]) {y : (List Nat)} (hy : spec_l05Solve_g v111 v112 v113 v114 v115 = some y) : ∃ H', FnOk Try.prog 74 (DVs.av F [.bptr (BR.root 0) [.int .i64 v111, .bslc (BR.root 1) (.i64 v112), .bslc (BR.root 2) (.i64 v113), .bslc (BR.root 3) (.f32 v114)], .bslc (BR.root 4) (.f32 v115)]) F.H0 ((spec_l05Solve_enc v111 v112 v113 v114 v115 y).1.av F) H' ∧ St F (spec_l05Solve_enc v111 v112 v113 v114 v115 y).2 H' ∧ (spec_l05Solve_enc v111 v112 v113 v114 v115 y).1.Ok F (spec_l05Solve_enc v111 v112 v113 v114 v115 y).2 :=
  fn_fin tok spec_l05Solve_hO mixed Try.func74 Try.call74 (by kernel_rfl) (LoopsOk_eq (l := [(0, bodyOf Try.f74 0), (4, bodyOf Try.f74 4)]) (by kernel_rfl) ⟨spec_l05Solve_l0_ok v111 v112 v113 v114 v115, spec_l05Solve_l4_ok v111 v112 v113 v114 v115, trivial⟩) (spec_l05Solve_den v111 v112 v113 v114 v115) hy hm h0 hA
noncomputable def spec_l05Solve_F : DFn := fun args L =>
  match args with
  | [a1, a5] =>
    optT (cellsOf L 4 a1) fun cs0 =>
    (match cs0 with
    | [.int .i64 v111, a2, a3, a4] =>
    optT (rowI64 L a2) fun v112 =>
    optT (rowI64 L a3) fun v113 =>
    optT (rowF32 L a4) fun v114 =>
    optT (rowF32 L a5) fun v115 =>
    .call (spec_l05Solve_g v111 v112 v113 v114 v115) fun y => .leaf (.own (L.length + 0) 0 ((y).length), L ++ [.row (.f32 y) 0])
    | _ => .fail)
  | _ => .fail
theorem spec_l05Solve_Fok : COk Try.prog 74 spec_l05Solve_F true := by
  intro F L H args r L' hs ha hr
  unfold spec_l05Solve_F at hr
  split at hr
  · rename_i a1 a5
    obtain ⟨cs0, hcp0, hr⟩ := optT_run hr
    split at hr
    · rename_i v111 a2 a3 a4
      obtain ⟨v112, hv112, hr⟩ := optT_run hr
      obtain ⟨v113, hv113, hr⟩ := optT_run hr
      obtain ⟨v114, hv114, hr⟩ := optT_run hr
      obtain ⟨v115, hv115, hr⟩ := optT_run hr
      simp only [Tree.run] at hr
      obtain ⟨y, hy, hr⟩ := Option.bind_eq_some_iff.1 hr
      simp only [Tree.run, Option.some.injEq, Prod.mk.injEq] at hr
      obtain ⟨rfl, rfl⟩ := hr
      exact call_ok1 hs (fun k => (([a1.av F, a2.av F, a3.av F, a4.av F, a5.av F] : List AV)[k]?).getD .top) [a1, a5] [.bptr (BR.root 0) [.int .i64 v111, .bslc (BR.root 1) (.i64 v112), .bslc (BR.root 2) (.i64 v113), .bslc (BR.root 3) (.f32 v114)], .bslc (BR.root 4) (.f32 v115)] (fun F' h0 hi hρ => ⟨by simp [DVs.av, DV.av, BR.av, hρ], spec_l05Solve_fn v111 v112 v113 v114 v115 F' (by rw [hi]; rfl) (st_nil hi) ⟨bptr_ok hi (by rw [h0]; simpa [DVs.av, DV.av, BR.av, hρ] using (cellsOf_ok hs (DVs.okAt ha 0 rfl) hcp0).1) ⟨trivial, bslc_ok hi (by rw [h0, hρ]; exact rowI64_ok hs (DVs.okAt (cellsOf_ok hs (DVs.okAt ha 0 rfl) hcp0).2 1 rfl) hv112), bslc_ok hi (by rw [h0, hρ]; exact rowI64_ok hs (DVs.okAt (cellsOf_ok hs (DVs.okAt ha 0 rfl) hcp0).2 2 rfl) hv113), bslc_ok hi (by rw [h0, hρ]; exact rowF32_ok hs (DVs.okAt (cellsOf_ok hs (DVs.okAt ha 0 rfl) hcp0).2 3 rfl) hv114), trivial⟩, bslc_ok hi (by rw [h0, hρ]; exact rowF32_ok hs (DVs.okAt ha 1 rfl) hv115), trivial⟩ hy⟩) rfl rfl
    · cases hr
  · cases hr
/-! spec.l02List -/
noncomputable def spec_l02List_LO (v214 : List Nat) : LOr := fun id e L =>
  match id with
  | _ => .fail
noncomputable def spec_l02List_tab : List (FuncId × DFn × Bool) := [(131, spec_l02Finite_F, true)]
theorem spec_l02List_hO : OrcOk Try.prog (tabD spec_l02List_tab) (tabM spec_l02List_tab) := tabD_cons spec_l02Finite_Fok (tabD_nil _)
noncomputable def spec_l02List_T (v214 : List Nat) : Tree ((Unit) ⊕ (Unit)) :=
  (.call (spec_l02Finite_g v214) fun v215 =>
  (.br (!v215) (
   .leaf (.inl ())
  ) (
   .leaf (.inr ())
  )))

noncomputable def spec_l02List_g (v214 : List Nat) : Option ((Unit) ⊕ (Unit)) := (spec_l02List_T v214).run
def spec_l02List_enc (v214 : List Nat) (y : (Unit) ⊕ (Unit)) : Rs := (match y with | .inl y => (.tup [.nilslc, .lit false], []) | .inr y => (.tup [.bslc (BR.root 0) (.f32 v214), .lit true], []))
theorem spec_l02List_den (v214 : List Nat) : (den TT (tabD spec_l02List_tab) (tabM spec_l02List_tab) (spec_l02List_LO v214) (codeOf Try.f66) ([.bslc (BR.root 0) (.f32 v214)] ++ List.replicate (Try.f66.ntmps - ([.bslc (BR.root 0) (.f32 v214)] : List DV).length) .undef) []).bind (retD TT Try.f66.results.toList 0) = (spec_l02List_T v214).bind fun y => .leaf (spec_l02List_enc v214 y) := by kernel_rfl
theorem spec_l02List_fn (v214 : List Nat) (F : Fr) (hm : F.ids.length = 0) (h0 : St F [] F.H0) (hA : DVs.Ok F [] [.bslc (BR.root 0) (.f32 v214)]) {y : (Unit) ⊕ (Unit)} (hy : spec_l02List_g v214 = some y) : ∃ H', FnOk Try.prog 66 (DVs.av F [.bslc (BR.root 0) (.f32 v214)]) F.H0 ((spec_l02List_enc v214 y).1.av F) H' ∧ St F (spec_l02List_enc v214 y).2 H' ∧ (spec_l02List_enc v214 y).1.Ok F (spec_l02List_enc v214 y).2 :=
  fn_fin tok spec_l02List_hO mixed Try.func66 Try.call66 (by kernel_rfl) (LoopsOk_eq (l := []) (by kernel_rfl) trivial) (spec_l02List_den v214) hy hm h0 hA
noncomputable def spec_l02List_F : DFn := fun args L =>
  match args with
  | [a1] =>
    optT (rowF32 L a1) fun v214 =>
    .call (spec_l02List_g v214) fun y => .sum y (fun y0 => .leaf (.tup [.nilslc, .lit false], L)) (fun z0 => .leaf (.tup [a1, .lit true], L))
  | _ => .fail
theorem spec_l02List_Fok : COk Try.prog 66 spec_l02List_F true := by
  intro F L H args r L' hs ha hr
  unfold spec_l02List_F at hr
  split at hr
  · rename_i a1
    obtain ⟨v214, hv214, hr⟩ := optT_run hr
    simp only [Tree.run] at hr
    obtain ⟨y, hy, hr⟩ := Option.bind_eq_some_iff.1 hr
    cases y with
    | inl y =>
      simp only [Tree.run, Option.some.injEq, Prod.mk.injEq] at hr
      obtain ⟨rfl, rfl⟩ := hr
      exact call_ok0 hs (fun k => (([a1.av F] : List AV)[k]?).getD .top) [a1] [.bslc (BR.root 0) (.f32 v214)] (fun F' h0 hi hρ => ⟨by simp [DVs.av, DV.av, BR.av, hρ], spec_l02List_fn v214 F' (by rw [hi]; rfl) (st_nil hi) ⟨bslc_ok hi (by rw [h0, hρ]; exact rowF32_ok hs (DVs.okAt ha 0 rfl) hv214), trivial⟩ hy⟩) rfl
    | inr y =>
      simp only [Tree.run, Option.some.injEq, Prod.mk.injEq] at hr
      obtain ⟨rfl, rfl⟩ := hr
      exact call_al0 hs (fun k => (([a1.av F] : List AV)[k]?).getD .top) [a1] [.bslc (BR.root 0) (.f32 v214)] (fun F' h0 hi hρ => ⟨by simp [DVs.av, DV.av, BR.av, hρ], spec_l02List_fn v214 F' (by rw [hi]; rfl) (st_nil hi) ⟨bslc_ok hi (by rw [h0, hρ]; exact rowF32_ok hs (DVs.okAt ha 0 rfl) hv214), trivial⟩ hy⟩) (fun F' h0 hi hρ => by simp [spec_l02List_enc, DVs.av, DV.av, BR.av, hρ]) ⟨(DVs.okAt ha 0 rfl), trivial, trivial⟩
  · cases hr
/-! spec.SparseRootSolve -/
noncomputable def spec_SparseRootSolve_LO (v38 : Int) (v39 : List Int) (v40 : List Int) (v41 : List Nat) (v42 : List Nat) : LOr := fun id e L =>
  match id with
  | _ => .fail
noncomputable def spec_SparseRootSolve_tab : List (FuncId × DFn × Bool) := [(65, spec_l05Fits_F, true), (73, spec_l05Lower_F, true), (74, spec_l05Solve_F, true), (66, spec_l02List_F, true)]
theorem spec_SparseRootSolve_hO : OrcOk Try.prog (tabD spec_SparseRootSolve_tab) (tabM spec_SparseRootSolve_tab) := tabD_cons spec_l05Fits_Fok (tabD_cons spec_l05Lower_Fok (tabD_cons spec_l05Solve_Fok (tabD_cons spec_l02List_Fok (tabD_nil _))))
noncomputable def spec_SparseRootSolve_T (v38 : Int) (v39 : List Int) (v40 : List Int) (v41 : List Nat) (v42 : List Nat) : Tree ((Unit) ⊕ ((List Nat))) :=
  (.call (spec_l05Fits_g v38 v39 v40 v41 v42) fun v99 =>
  (.br (!v99) (
   .leaf (.inl ())
  ) (
   (.call (spec_l05Lower_g v38 v39 v40 v41) fun v110 =>
   (.br (!v110) (
    .leaf (.inl ())
   ) (
    (.call (spec_l05Solve_g v38 v39 v40 v41 v42) fun v213 =>
    (.call (spec_l02List_g v213) fun v216 =>
    (.sum v216 (fun v217 =>
     .leaf (.inl ())
    ) (fun v218 =>
     .leaf (.inr v213)
    ))))
   )))
  )))

noncomputable def spec_SparseRootSolve_g (v38 : Int) (v39 : List Int) (v40 : List Int) (v41 : List Nat) (v42 : List Nat) : Option ((Unit) ⊕ ((List Nat))) := (spec_SparseRootSolve_T v38 v39 v40 v41 v42).run
def spec_SparseRootSolve_enc (v38 : Int) (v39 : List Int) (v40 : List Int) (v41 : List Nat) (v42 : List Nat) (y : (Unit) ⊕ ((List Nat))) : Rs := (match y with | .inl y => (.tup [.nilslc, .lit false], []) | .inr y => (.tup [.own 0 0 ((y).length), .lit true], [.row (.f32 y) 0]))
theorem spec_SparseRootSolve_den (v38 : Int) (v39 : List Int) (v40 : List Int) (v41 : List Nat) (v42 : List Nat) : (den TT (tabD spec_SparseRootSolve_tab) (tabM spec_SparseRootSolve_tab) (spec_SparseRootSolve_LO v38 v39 v40 v41 v42) (codeOf Try.f27) ([.agg [.int .i64 v38, .bslc (BR.root 0) (.i64 v39), .bslc (BR.root 1) (.i64 v40), .bslc (BR.root 2) (.f32 v41)], .bslc (BR.root 3) (.f32 v42)] ++ List.replicate (Try.f27.ntmps - ([.agg [.int .i64 v38, .bslc (BR.root 0) (.i64 v39), .bslc (BR.root 1) (.i64 v40), .bslc (BR.root 2) (.f32 v41)], .bslc (BR.root 3) (.f32 v42)] : List DV).length) .undef) []).bind (retD TT Try.f27.results.toList 0) = (spec_SparseRootSolve_T v38 v39 v40 v41 v42).bind fun y => .leaf (spec_SparseRootSolve_enc v38 v39 v40 v41 v42 y) := by kernel_rfl
theorem spec_SparseRootSolve_fn (v38 : Int) (v39 : List Int) (v40 : List Int) (v41 : List Nat) (v42 : List Nat) (F : Fr) (hm : F.ids.length = 0) (h0 : St F [] F.H0) (hA : DVs.Ok F [] [.agg [.int .i64 v38, .bslc (BR.root 0) (.i64 v39), .bslc (BR.root 1) (.i64 v40), .bslc (BR.root 2) (.f32 v41)], .bslc (BR.root 3) (.f32 v42)]) {y : (Unit) ⊕ ((List Nat))} (hy : spec_SparseRootSolve_g v38 v39 v40 v41 v42 = some y) : ∃ H', FnOk Try.prog 27 (DVs.av F [.agg [.int .i64 v38, .bslc (BR.root 0) (.i64 v39), .bslc (BR.root 1) (.i64 v40), .bslc (BR.root 2) (.f32 v41)], .bslc (BR.root 3) (.f32 v42)]) F.H0 ((spec_SparseRootSolve_enc v38 v39 v40 v41 v42 y).1.av F) H' ∧ St F (spec_SparseRootSolve_enc v38 v39 v40 v41 v42 y).2 H' ∧ (spec_SparseRootSolve_enc v38 v39 v40 v41 v42 y).1.Ok F (spec_SparseRootSolve_enc v38 v39 v40 v41 v42 y).2 :=
  fn_fin tok spec_SparseRootSolve_hO mixed Try.func27 Try.call27 (by kernel_rfl) (LoopsOk_eq (l := []) (by kernel_rfl) trivial) (spec_SparseRootSolve_den v38 v39 v40 v41 v42) hy hm h0 hA
noncomputable def spec_SparseRootSolve_F : DFn := fun args L =>
  match args with
  | [.agg [.int .i64 v38, a1, a2, a3], a4] =>
    optT (rowI64 L a1) fun v39 =>
    optT (rowI64 L a2) fun v40 =>
    optT (rowF32 L a3) fun v41 =>
    optT (rowF32 L a4) fun v42 =>
    .call (spec_SparseRootSolve_g v38 v39 v40 v41 v42) fun y => .sum y (fun y0 => .leaf (.tup [.nilslc, .lit false], L)) (fun z0 => .leaf (.tup [.own (L.length + 0) 0 ((z0).length), .lit true], L ++ [.row (.f32 z0) 0]))
  | _ => .fail
theorem spec_SparseRootSolve_Fok : COk Try.prog 27 spec_SparseRootSolve_F true := by
  intro F L H args r L' hs ha hr
  unfold spec_SparseRootSolve_F at hr
  split at hr
  · rename_i v38 a1 a2 a3 a4
    obtain ⟨v39, hv39, hr⟩ := optT_run hr
    obtain ⟨v40, hv40, hr⟩ := optT_run hr
    obtain ⟨v41, hv41, hr⟩ := optT_run hr
    obtain ⟨v42, hv42, hr⟩ := optT_run hr
    simp only [Tree.run] at hr
    obtain ⟨y, hy, hr⟩ := Option.bind_eq_some_iff.1 hr
    cases y with
    | inl y =>
      simp only [Tree.run, Option.some.injEq, Prod.mk.injEq] at hr
      obtain ⟨rfl, rfl⟩ := hr
      exact call_ok0 hs (fun k => (([a1.av F, a2.av F, a3.av F, a4.av F] : List AV)[k]?).getD .top) [.agg [.int .i64 v38, a1, a2, a3], a4] [.agg [.int .i64 v38, .bslc (BR.root 0) (.i64 v39), .bslc (BR.root 1) (.i64 v40), .bslc (BR.root 2) (.f32 v41)], .bslc (BR.root 3) (.f32 v42)] (fun F' h0 hi hρ => ⟨by simp [DVs.av, DV.av, BR.av, hρ], spec_SparseRootSolve_fn v38 v39 v40 v41 v42 F' (by rw [hi]; rfl) (st_nil hi) ⟨⟨trivial, bslc_ok hi (by rw [h0, hρ]; exact rowI64_ok hs (DVs.okAt (DVs.okAt ha 0 rfl) 1 rfl) hv39), bslc_ok hi (by rw [h0, hρ]; exact rowI64_ok hs (DVs.okAt (DVs.okAt ha 0 rfl) 2 rfl) hv40), bslc_ok hi (by rw [h0, hρ]; exact rowF32_ok hs (DVs.okAt (DVs.okAt ha 0 rfl) 3 rfl) hv41), trivial⟩, bslc_ok hi (by rw [h0, hρ]; exact rowF32_ok hs (DVs.okAt ha 1 rfl) hv42), trivial⟩ hy⟩) rfl
    | inr y =>
      simp only [Tree.run, Option.some.injEq, Prod.mk.injEq] at hr
      obtain ⟨rfl, rfl⟩ := hr
      exact call_ok1 hs (fun k => (([a1.av F, a2.av F, a3.av F, a4.av F] : List AV)[k]?).getD .top) [.agg [.int .i64 v38, a1, a2, a3], a4] [.agg [.int .i64 v38, .bslc (BR.root 0) (.i64 v39), .bslc (BR.root 1) (.i64 v40), .bslc (BR.root 2) (.f32 v41)], .bslc (BR.root 3) (.f32 v42)] (fun F' h0 hi hρ => ⟨by simp [DVs.av, DV.av, BR.av, hρ], spec_SparseRootSolve_fn v38 v39 v40 v41 v42 F' (by rw [hi]; rfl) (st_nil hi) ⟨⟨trivial, bslc_ok hi (by rw [h0, hρ]; exact rowI64_ok hs (DVs.okAt (DVs.okAt ha 0 rfl) 1 rfl) hv39), bslc_ok hi (by rw [h0, hρ]; exact rowI64_ok hs (DVs.okAt (DVs.okAt ha 0 rfl) 2 rfl) hv40), bslc_ok hi (by rw [h0, hρ]; exact rowF32_ok hs (DVs.okAt (DVs.okAt ha 0 rfl) 3 rfl) hv41), trivial⟩, bslc_ok hi (by rw [h0, hρ]; exact rowF32_ok hs (DVs.okAt ha 1 rfl) hv42), trivial⟩ hy⟩) rfl rfl
  · cases hr
/-! impl.length[int64] -/
noncomputable def impl_lengthI_LO (v237 : List Int) : LOr := fun id e L =>
  match id with
  | _ => .fail
noncomputable def impl_lengthI_tab : List (FuncId × DFn × Bool) := []
theorem impl_lengthI_hO : OrcOk Try.prog (tabD impl_lengthI_tab) (tabM impl_lengthI_tab) := tabD_nil _
noncomputable def impl_lengthI_T (v237 : List Int) : Tree (Int) :=
  .leaf ((v237.length : Nat) : Int)

noncomputable def impl_lengthI_g (v237 : List Int) : Option (Int) := (impl_lengthI_T v237).run
def impl_lengthI_enc (v237 : List Int) (y : Int) : Rs := (.int .i64 y, [])
theorem impl_lengthI_den (v237 : List Int) : (den TT (tabD impl_lengthI_tab) (tabM impl_lengthI_tab) (impl_lengthI_LO v237) (codeOf Try.f109) ([.bslc (BR.root 0) (.i64 v237)] ++ List.replicate (Try.f109.ntmps - ([.bslc (BR.root 0) (.i64 v237)] : List DV).length) .undef) []).bind (retD TT Try.f109.results.toList 0) = (impl_lengthI_T v237).bind fun y => .leaf (impl_lengthI_enc v237 y) := by kernel_rfl
theorem impl_lengthI_fn (v237 : List Int) (F : Fr) (hm : F.ids.length = 0) (h0 : St F [] F.H0) (hA : DVs.Ok F [] [.bslc (BR.root 0) (.i64 v237)]) {y : Int} (hy : impl_lengthI_g v237 = some y) : ∃ H', FnOk Try.prog 109 (DVs.av F [.bslc (BR.root 0) (.i64 v237)]) F.H0 ((impl_lengthI_enc v237 y).1.av F) H' ∧ St F (impl_lengthI_enc v237 y).2 H' ∧ (impl_lengthI_enc v237 y).1.Ok F (impl_lengthI_enc v237 y).2 :=
  fn_fin tok impl_lengthI_hO mixed Try.func109 Try.call109 (by kernel_rfl) (LoopsOk_eq (l := []) (by kernel_rfl) trivial) (impl_lengthI_den v237) hy hm h0 hA
def impl_lengthI_v (v237 : List Int) : Int :=
  ((v237.length : Nat) : Int)
theorem impl_lengthI_tot (v237 : List Int) : impl_lengthI_g v237 = some (impl_lengthI_v v237) := by
  unfold impl_lengthI_g impl_lengthI_T impl_lengthI_v
  simp only [Tree.run]
  repeat' (first | rfl | split)
noncomputable def impl_lengthI_F : DFn := fun args L =>
  match args with
  | [a1] =>
    optT (rowI64 L a1) fun v237 =>
    .leaf (.int .i64 (impl_lengthI_v v237), L)
  | _ => .fail
theorem impl_lengthI_Fok : COk Try.prog 109 impl_lengthI_F true := by
  intro F L H args r L' hs ha hr
  unfold impl_lengthI_F at hr
  split at hr
  · rename_i a1
    obtain ⟨v237, hv237, hr⟩ := optT_run hr
    have hy := impl_lengthI_tot v237
    generalize impl_lengthI_v v237 = y at hy hr
    simp only [Tree.run, Option.some.injEq, Prod.mk.injEq] at hr
    obtain ⟨rfl, rfl⟩ := hr
    exact call_ok0 hs (fun k => (([a1.av F] : List AV)[k]?).getD .top) [a1] [.bslc (BR.root 0) (.i64 v237)] (fun F' h0 hi hρ => ⟨by simp [DVs.av, DV.av, BR.av, hρ], impl_lengthI_fn v237 F' (by rw [hi]; rfl) (st_nil hi) ⟨bslc_ok hi (by rw [h0, hρ]; exact rowI64_ok hs (DVs.okAt ha 0 rfl) hv237), trivial⟩ hy⟩) rfl
  · cases hr
/-! impl.inRange -/
noncomputable def impl_inRange_LO (v238 : Int) (v239 : Int) (v240 : Int) : LOr := fun id e L =>
  match id with
  | _ => .fail
noncomputable def impl_inRange_tab : List (FuncId × DFn × Bool) := []
theorem impl_inRange_hO : OrcOk Try.prog (tabD impl_inRange_tab) (tabM impl_inRange_tab) := tabD_nil _
noncomputable def impl_inRange_T (v238 : Int) (v239 : Int) (v240 : Int) : Tree (Bool) :=
  (.br (decide (v239 ≤ v238)) (
   .leaf (decide (v238 ≤ v240))
  ) (
   .leaf false
  ))

noncomputable def impl_inRange_g (v238 : Int) (v239 : Int) (v240 : Int) : Option (Bool) := (impl_inRange_T v238 v239 v240).run
def impl_inRange_enc (v238 : Int) (v239 : Int) (v240 : Int) (y : Bool) : Rs := (.bool y, [])
theorem impl_inRange_den (v238 : Int) (v239 : Int) (v240 : Int) : (den TT (tabD impl_inRange_tab) (tabM impl_inRange_tab) (impl_inRange_LO v238 v239 v240) (codeOf Try.f72) ([.int .i64 v238, .int .i64 v239, .int .i64 v240] ++ List.replicate (Try.f72.ntmps - ([.int .i64 v238, .int .i64 v239, .int .i64 v240] : List DV).length) .undef) []).bind (retD TT Try.f72.results.toList 0) = (impl_inRange_T v238 v239 v240).bind fun y => .leaf (impl_inRange_enc v238 v239 v240 y) := by kernel_rfl
theorem impl_inRange_fn (v238 : Int) (v239 : Int) (v240 : Int) (F : Fr) (hm : F.ids.length = 0) (h0 : St F [] F.H0) (hA : DVs.Ok F [] [.int .i64 v238, .int .i64 v239, .int .i64 v240]) {y : Bool} (hy : impl_inRange_g v238 v239 v240 = some y) : ∃ H', FnOk Try.prog 72 (DVs.av F [.int .i64 v238, .int .i64 v239, .int .i64 v240]) F.H0 ((impl_inRange_enc v238 v239 v240 y).1.av F) H' ∧ St F (impl_inRange_enc v238 v239 v240 y).2 H' ∧ (impl_inRange_enc v238 v239 v240 y).1.Ok F (impl_inRange_enc v238 v239 v240 y).2 :=
  fn_fin tok impl_inRange_hO mixed Try.func72 Try.call72 (by kernel_rfl) (LoopsOk_eq (l := []) (by kernel_rfl) trivial) (impl_inRange_den v238 v239 v240) hy hm h0 hA
def impl_inRange_v (v238 : Int) (v239 : Int) (v240 : Int) : Bool :=
  if (decide (v239 ≤ v238)) = true then (
   decide (v238 ≤ v240)
  ) else (
   false
  )
theorem impl_inRange_tot (v238 : Int) (v239 : Int) (v240 : Int) : impl_inRange_g v238 v239 v240 = some (impl_inRange_v v238 v239 v240) := by
  unfold impl_inRange_g impl_inRange_T impl_inRange_v
  simp only [Tree.run]
  repeat' (first | rfl | split)
noncomputable def impl_inRange_F : DFn := fun args L =>
  match args with
  | [.int .i64 v238, .int .i64 v239, .int .i64 v240] =>
    .leaf (.bool (impl_inRange_v v238 v239 v240), L)
  | _ => .fail
theorem impl_inRange_Fok : COk Try.prog 72 impl_inRange_F true := by
  intro F L H args r L' hs ha hr
  unfold impl_inRange_F at hr
  split at hr
  · rename_i v238 v239 v240
    have hy := impl_inRange_tot v238 v239 v240
    generalize impl_inRange_v v238 v239 v240 = y at hy hr
    simp only [Tree.run, Option.some.injEq, Prod.mk.injEq] at hr
    obtain ⟨rfl, rfl⟩ := hr
    exact call_ok0 hs (fun k => (([] : List AV)[k]?).getD .top) [.int .i64 v238, .int .i64 v239, .int .i64 v240] [.int .i64 v238, .int .i64 v239, .int .i64 v240] (fun F' h0 hi hρ => ⟨by simp [DVs.av, DV.av, BR.av, hρ], impl_inRange_fn v238 v239 v240 F' (by rw [hi]; rfl) (st_nil hi) ⟨trivial, trivial, trivial, trivial⟩ hy⟩) rfl
  · cases hr
/-! cmp.isNaN[int64] -/
noncomputable def cmp_isNaNI_LO (v245 : Int) : LOr := fun id e L =>
  match id with
  | _ => .fail
noncomputable def cmp_isNaNI_tab : List (FuncId × DFn × Bool) := []
theorem cmp_isNaNI_hO : OrcOk Try.prog (tabD cmp_isNaNI_tab) (tabM cmp_isNaNI_tab) := tabD_nil _
noncomputable def cmp_isNaNI_T (v245 : Int) : Tree (Bool) :=
  .leaf (!decide (v245 = v245))

noncomputable def cmp_isNaNI_g (v245 : Int) : Option (Bool) := (cmp_isNaNI_T v245).run
def cmp_isNaNI_enc (v245 : Int) (y : Bool) : Rs := (.bool y, [])
theorem cmp_isNaNI_den (v245 : Int) : (den TT (tabD cmp_isNaNI_tab) (tabM cmp_isNaNI_tab) (cmp_isNaNI_LO v245) (codeOf Try.f184) ([.int .i64 v245] ++ List.replicate (Try.f184.ntmps - ([.int .i64 v245] : List DV).length) .undef) []).bind (retD TT Try.f184.results.toList 0) = (cmp_isNaNI_T v245).bind fun y => .leaf (cmp_isNaNI_enc v245 y) := by kernel_rfl
theorem cmp_isNaNI_fn (v245 : Int) (F : Fr) (hm : F.ids.length = 0) (h0 : St F [] F.H0) (hA : DVs.Ok F [] [.int .i64 v245]) {y : Bool} (hy : cmp_isNaNI_g v245 = some y) : ∃ H', FnOk Try.prog 184 (DVs.av F [.int .i64 v245]) F.H0 ((cmp_isNaNI_enc v245 y).1.av F) H' ∧ St F (cmp_isNaNI_enc v245 y).2 H' ∧ (cmp_isNaNI_enc v245 y).1.Ok F (cmp_isNaNI_enc v245 y).2 :=
  fn_fin tok cmp_isNaNI_hO mixed Try.func184 Try.call184 (by kernel_rfl) (LoopsOk_eq (l := []) (by kernel_rfl) trivial) (cmp_isNaNI_den v245) hy hm h0 hA
def cmp_isNaNI_v (v245 : Int) : Bool :=
  !decide (v245 = v245)
theorem cmp_isNaNI_tot (v245 : Int) : cmp_isNaNI_g v245 = some (cmp_isNaNI_v v245) := by
  unfold cmp_isNaNI_g cmp_isNaNI_T cmp_isNaNI_v
  simp only [Tree.run]
  repeat' (first | rfl | split)
noncomputable def cmp_isNaNI_F : DFn := fun args L =>
  match args with
  | [.int .i64 v245] =>
    .leaf (.bool (cmp_isNaNI_v v245), L)
  | _ => .fail
theorem cmp_isNaNI_Fok : COk Try.prog 184 cmp_isNaNI_F true := by
  intro F L H args r L' hs ha hr
  unfold cmp_isNaNI_F at hr
  split at hr
  · rename_i v245
    have hy := cmp_isNaNI_tot v245
    generalize cmp_isNaNI_v v245 = y at hy hr
    simp only [Tree.run, Option.some.injEq, Prod.mk.injEq] at hr
    obtain ⟨rfl, rfl⟩ := hr
    exact call_ok0 hs (fun k => (([] : List AV)[k]?).getD .top) [.int .i64 v245] [.int .i64 v245] (fun F' h0 hi hρ => ⟨by simp [DVs.av, DV.av, BR.av, hρ], cmp_isNaNI_fn v245 F' (by rw [hi]; rfl) (st_nil hi) ⟨trivial, trivial⟩ hy⟩) rfl
  · cases hr
/-! cmp.Less[int64] -/
noncomputable def cmp_LessI_LO (v243 : Int) (v244 : Int) : LOr := fun id e L =>
  match id with
  | _ => .fail
noncomputable def cmp_LessI_tab : List (FuncId × DFn × Bool) := [(184, cmp_isNaNI_F, true)]
theorem cmp_LessI_hO : OrcOk Try.prog (tabD cmp_LessI_tab) (tabM cmp_LessI_tab) := tabD_cons cmp_isNaNI_Fok (tabD_nil _)
noncomputable def cmp_LessI_T (v243 : Int) (v244 : Int) : Tree (Bool) :=
  (.br (cmp_isNaNI_v v243) (
   (.br (!(cmp_isNaNI_v v244)) (
    .leaf true
   ) (
    .leaf (decide (v243 < v244))
   ))
  ) (
   .leaf (decide (v243 < v244))
  ))

noncomputable def cmp_LessI_g (v243 : Int) (v244 : Int) : Option (Bool) := (cmp_LessI_T v243 v244).run
def cmp_LessI_enc (v243 : Int) (v244 : Int) (y : Bool) : Rs := (.bool y, [])
theorem cmp_LessI_den (v243 : Int) (v244 : Int) : (den TT (tabD cmp_LessI_tab) (tabM cmp_LessI_tab) (cmp_LessI_LO v243 v244) (codeOf Try.f175) ([.int .i64 v243, .int .i64 v244] ++ List.replicate (Try.f175.ntmps - ([.int .i64 v243, .int .i64 v244] : List DV).length) .undef) []).bind (retD TT Try.f175.results.toList 0) = (cmp_LessI_T v243 v244).bind fun y => .leaf (cmp_LessI_enc v243 v244 y) := by kernel_rfl
theorem cmp_LessI_fn (v243 : Int) (v244 : Int) (F : Fr) (hm : F.ids.length = 0) (h0 : St F [] F.H0) (hA : DVs.Ok F [] [.int .i64 v243, .int .i64 v244]) {y : Bool} (hy : cmp_LessI_g v243 v244 = some y) : ∃ H', FnOk Try.prog 175 (DVs.av F [.int .i64 v243, .int .i64 v244]) F.H0 ((cmp_LessI_enc v243 v244 y).1.av F) H' ∧ St F (cmp_LessI_enc v243 v244 y).2 H' ∧ (cmp_LessI_enc v243 v244 y).1.Ok F (cmp_LessI_enc v243 v244 y).2 :=
  fn_fin tok cmp_LessI_hO mixed Try.func175 Try.call175 (by kernel_rfl) (LoopsOk_eq (l := []) (by kernel_rfl) trivial) (cmp_LessI_den v243 v244) hy hm h0 hA
def cmp_LessI_v (v243 : Int) (v244 : Int) : Bool :=
  if (cmp_isNaNI_v v243) = true then (
   if (!(cmp_isNaNI_v v244)) = true then (
    true
   ) else (
    decide (v243 < v244)
   )
  ) else (
   decide (v243 < v244)
  )
theorem cmp_LessI_tot (v243 : Int) (v244 : Int) : cmp_LessI_g v243 v244 = some (cmp_LessI_v v243 v244) := by
  unfold cmp_LessI_g cmp_LessI_T cmp_LessI_v
  simp only [Tree.run]
  repeat' (first | rfl | split)
noncomputable def cmp_LessI_F : DFn := fun args L =>
  match args with
  | [.int .i64 v243, .int .i64 v244] =>
    .leaf (.bool (cmp_LessI_v v243 v244), L)
  | _ => .fail
theorem cmp_LessI_Fok : COk Try.prog 175 cmp_LessI_F true := by
  intro F L H args r L' hs ha hr
  unfold cmp_LessI_F at hr
  split at hr
  · rename_i v243 v244
    have hy := cmp_LessI_tot v243 v244
    generalize cmp_LessI_v v243 v244 = y at hy hr
    simp only [Tree.run, Option.some.injEq, Prod.mk.injEq] at hr
    obtain ⟨rfl, rfl⟩ := hr
    exact call_ok0 hs (fun k => (([] : List AV)[k]?).getD .top) [.int .i64 v243, .int .i64 v244] [.int .i64 v243, .int .i64 v244] (fun F' h0 hi hρ => ⟨by simp [DVs.av, DV.av, BR.av, hρ], cmp_LessI_fn v243 v244 F' (by rw [hi]; rfl) (st_nil hi) ⟨trivial, trivial, trivial⟩ hy⟩) rfl
  · cases hr
/-! slices.IsSorted[list of int64,int64] -/
noncomputable def slices_IsSortedI_l0_T (v241 : List Int) (s : Int) : Tree ((Int) ⊕ ((Unit) ⊕ (Unit))) :=
  (.br (decide ((0 : Int) < s)) (
   (.grd (inb s v241.length) <|
   (.grd (inb (IntKind.i64.wrap (s - (1 : Int))) v241.length) <|
   (.br (cmp_LessI_v (nth v241 (Int.toNat s)) (nth v241 (Int.toNat (IntKind.i64.wrap (s - (1 : Int)))))) (
    .leaf (.inr (.inl ()))
   ) (
    .leaf (.inl (IntKind.i64.wrap (s - (1 : Int))))
   ))))
  ) (
   .leaf (.inr (.inr ()))
  ))

noncomputable def slices_IsSortedI_l0_g (v241 : List Int) (s0 : Int) : Option ((Unit) ⊕ (Unit)) := whileM (fun s => (slices_IsSortedI_l0_T v241 s).run) s0
def slices_IsSortedI_l0_E (v241 : List Int) (s : Int) : Sd := ([.bslc (BR.root 0) (.i64 v241), .top, .top, .int .i64 s, .top, .top, .top, .top, .top, .top, .top, .top, .top, .top, .top, .top, .top, .top, .top, .top, .top], [])
def slices_IsSortedI_l0_X (v241 : List Int) (x : (Unit) ⊕ (Unit)) : Out := (match x with | .inl x => (.ret, [.top, .top, .lit false, .top, .top, .top, .top, .top, .top, .top, .top, .top, .top, .top, .top, .top, .top, .top, .top, .top, .top], []) | .inr x => (.normal, [.top, .top, .top, .top, .top, .top, .top, .top, .top, .top, .top, .top, .top, .top, .top, .top, .top, .top, .top, .top, .top], []))
def slices_IsSortedI_l0_kill : List Nat := [0, 1, 1, 0, 1, 1, 1, 1, 1, 1, 1, 1, 1, 1, 1, 1, 1, 1, 1, 1, 1]
def slices_IsSortedI_l0_nx : Exit → List Nat
  | .exit 0 => [1, 1, 1, 1, 1, 1, 1, 1, 1, 1, 1, 1, 1, 1, 1, 1, 1, 1, 1, 1, 1]
  | .ret => [1, 1, 0, 1, 1, 1, 1, 1, 1, 1, 1, 1, 1, 1, 1, 1, 1, 1, 1, 1, 1]
  | _ => []
noncomputable def slices_IsSortedI_LO (v241 : List Int) : LOr := fun id e L =>
  match id with
  | 0 => .need (normA 0 slices_IsSortedI_l0_kill e L = some (slices_IsSortedI_l0_E v241 (gI (vAt e 3)))) (.call (slices_IsSortedI_l0_g v241 (gI (vAt e 3))) fun x => .sum x (fun b0 => .leaf (slices_IsSortedI_l0_X v241 (.inl b0))) (fun c0 => .leaf (slices_IsSortedI_l0_X v241 (.inr c0))))
  | _ => .fail
noncomputable def slices_IsSortedI_tab : List (FuncId × DFn × Bool) := [(175, cmp_LessI_F, true)]
theorem slices_IsSortedI_hO : OrcOk Try.prog (tabD slices_IsSortedI_tab) (tabM slices_IsSortedI_tab) := tabD_cons cmp_LessI_Fok (tabD_nil _)
theorem slices_IsSortedI_l0_be (v241 : List Int) (s : Int) : bodyT TT (tabD slices_IsSortedI_tab) (tabM slices_IsSortedI_tab) (slices_IsSortedI_LO v241) 0 slices_IsSortedI_l0_kill slices_IsSortedI_l0_nx (bodyOf Try.f162 0) 0 (slices_IsSortedI_l0_E v241 s) = (slices_IsSortedI_l0_T v241 s).bind fun y => .leaf (outS (slices_IsSortedI_l0_E v241) (slices_IsSortedI_l0_X v241) y) := by kernel_rfl
theorem slices_IsSortedI_l0_ok (v241 : List Int) : LSound Try.prog 0 (slices_IsSortedI_LO v241) 0 (bodyOf Try.f162 0) := by
  intro e L out h
  exact lo_ok (E := slices_IsSortedI_l0_E v241) (gT := slices_IsSortedI_l0_T v241) (X := slices_IsSortedI_l0_X v241) (s0 := (gI (vAt e 3))) tok slices_IsSortedI_hO mixed (LoopsOk_eq (l := []) (by kernel_rfl) trivial) (slices_IsSortedI_l0_be v241) rfl (by intro x; (cases x with | inl b => rfl | inr x => exact rfl)) h
noncomputable def slices_IsSortedI_T (v241 : List Int) : Tree (Bool) :=
  (.need (some (slices_IsSortedI_l0_E v241 (IntKind.i64.wrap (((v241.length : Nat) : Int) - (1 : Int)))) = some (slices_IsSortedI_l0_E v241 (IntKind.i64.wrap (((v241.length : Nat) : Int) - (1 : Int))))) <|
  (.call (slices_IsSortedI_l0_g v241 (IntKind.i64.wrap (((v241.length : Nat) : Int) - (1 : Int)))) fun v248 =>
  (.sum v248 (fun v249 =>
   .leaf false
  ) (fun v250 =>
   .leaf true
  ))))

noncomputable def slices_IsSortedI_g (v241 : List Int) : Option (Bool) := (slices_IsSortedI_T v241).run
def slices_IsSortedI_enc (v241 : List Int) (y : Bool) : Rs := (.bool y, [])
theorem slices_IsSortedI_den (v241 : List Int) : (den TT (tabD slices_IsSortedI_tab) (tabM slices_IsSortedI_tab) (slices_IsSortedI_LO v241) (codeOf Try.f162) ([.bslc (BR.root 0) (.i64 v241)] ++ List.replicate (Try.f162.ntmps - ([.bslc (BR.root 0) (.i64 v241)] : List DV).length) .undef) []).bind (retD TT Try.f162.results.toList 0) = (slices_IsSortedI_T v241).bind fun y => .leaf (slices_IsSortedI_enc v241 y) := by kernel_rfl
theorem slices_IsSortedI_fn (v241 : List Int) (F : Fr) (hm : F.ids.length = 0) (h0 : St F [] F.H0) (hA : DVs.Ok F [] [.bslc (BR.root 0) (.i64 v241)]) {y : Bool} (hy : slices_IsSortedI_g v241 = some y) : ∃ H', FnOk Try.prog 162 (DVs.av F [.bslc (BR.root 0) (.i64 v241)]) F.H0 ((slices_IsSortedI_enc v241 y).1.av F) H' ∧ St F (slices_IsSortedI_enc v241 y).2 H' ∧ (slices_IsSortedI_enc v241 y).1.Ok F (slices_IsSortedI_enc v241 y).2 :=
  fn_fin tok slices_IsSortedI_hO mixed Try.func162 Try.call162 (by kernel_rfl) (LoopsOk_eq (l := [(0, bodyOf Try.f162 0)]) (by kernel_rfl) ⟨slices_IsSortedI_l0_ok v241, trivial⟩) (slices_IsSortedI_den v241) hy hm h0 hA
noncomputable def slices_IsSortedI_F : DFn := fun args L =>
  match args with
  | [a1] =>
    optT (rowI64 L a1) fun v241 =>
    .call (slices_IsSortedI_g v241) fun y => .leaf (.bool y, L)
  | _ => .fail
theorem slices_IsSortedI_Fok : COk Try.prog 162 slices_IsSortedI_F true := by
  intro F L H args r L' hs ha hr
  unfold slices_IsSortedI_F at hr
  split at hr
  · rename_i a1
    obtain ⟨v241, hv241, hr⟩ := optT_run hr
    simp only [Tree.run] at hr
    obtain ⟨y, hy, hr⟩ := Option.bind_eq_some_iff.1 hr
    simp only [Tree.run, Option.some.injEq, Prod.mk.injEq] at hr
    obtain ⟨rfl, rfl⟩ := hr
    exact call_ok0 hs (fun k => (([a1.av F] : List AV)[k]?).getD .top) [a1] [.bslc (BR.root 0) (.i64 v241)] (fun F' h0 hi hρ => ⟨by simp [DVs.av, DV.av, BR.av, hρ], slices_IsSortedI_fn v241 F' (by rw [hi]; rfl) (st_nil hi) ⟨bslc_ok hi (by rw [h0, hρ]; exact rowI64_ok hs (DVs.okAt ha 0 rfl) hv241), trivial⟩ hy⟩) rfl
  · cases hr
/-! impl.allIn$1 -/
noncomputable def impl_allIn_1_LO (v262 : Int) (v263 : Int) (v264 : Int) : LOr := fun id e L =>
  match id with
  | _ => .fail
noncomputable def impl_allIn_1_tab : List (FuncId × DFn × Bool) := [(72, impl_inRange_F, true)]
theorem impl_allIn_1_hO : OrcOk Try.prog (tabD impl_allIn_1_tab) (tabM impl_allIn_1_tab) := tabD_cons impl_inRange_Fok (tabD_nil _)
noncomputable def impl_allIn_1_T (v262 : Int) (v263 : Int) (v264 : Int) : Tree (Bool) :=
  .leaf (!(impl_inRange_v v262 v263 v264))

noncomputable def impl_allIn_1_g (v262 : Int) (v263 : Int) (v264 : Int) : Option (Bool) := (impl_allIn_1_T v262 v263 v264).run
def impl_allIn_1_enc (v262 : Int) (v263 : Int) (v264 : Int) (y : Bool) : Rs := (.bool y, [])
theorem impl_allIn_1_den (v262 : Int) (v263 : Int) (v264 : Int) : (den TT (tabD impl_allIn_1_tab) (tabM impl_allIn_1_tab) (impl_allIn_1_LO v262 v263 v264) (codeOf Try.f177) ([.int .i64 v262, .bptr (BR.root 0) [.int .i64 v263], .bptr (BR.root 1) [.int .i64 v264]] ++ List.replicate (Try.f177.ntmps - ([.int .i64 v262, .bptr (BR.root 0) [.int .i64 v263], .bptr (BR.root 1) [.int .i64 v264]] : List DV).length) .undef) []).bind (retD TT Try.f177.results.toList 0) = (impl_allIn_1_T v262 v263 v264).bind fun y => .leaf (impl_allIn_1_enc v262 v263 v264 y) := by kernel_rfl
theorem impl_allIn_1_fn (v262 : Int) (v263 : Int) (v264 : Int) (F : Fr) (hm : F.ids.length = 0) (h0 : St F [] F.H0) (hA : DVs.Ok F [] [.int .i64 v262, .bptr (BR.root 0) [.int .i64 v263], .bptr (BR.root 1) [.int .i64 v264]]) {y : Bool} (hy : impl_allIn_1_g v262 v263 v264 = some y) : ∃ H', FnOk Try.prog 177 (DVs.av F [.int .i64 v262, .bptr (BR.root 0) [.int .i64 v263], .bptr (BR.root 1) [.int .i64 v264]]) F.H0 ((impl_allIn_1_enc v262 v263 v264 y).1.av F) H' ∧ St F (impl_allIn_1_enc v262 v263 v264 y).2 H' ∧ (impl_allIn_1_enc v262 v263 v264 y).1.Ok F (impl_allIn_1_enc v262 v263 v264 y).2 :=
  fn_fin tok impl_allIn_1_hO mixed Try.func177 Try.call177 (by kernel_rfl) (LoopsOk_eq (l := []) (by kernel_rfl) trivial) (impl_allIn_1_den v262 v263 v264) hy hm h0 hA
def impl_allIn_1_v (v262 : Int) (v263 : Int) (v264 : Int) : Bool :=
  !(impl_inRange_v v262 v263 v264)
theorem impl_allIn_1_tot (v262 : Int) (v263 : Int) (v264 : Int) : impl_allIn_1_g v262 v263 v264 = some (impl_allIn_1_v v262 v263 v264) := by
  unfold impl_allIn_1_g impl_allIn_1_T impl_allIn_1_v
  simp only [Tree.run]
  repeat' (first | rfl | split)
noncomputable def impl_allIn_1_F : DFn := fun args L =>
  match args with
  | [.int .i64 v262, a1, a2] =>
    optT (cellsOf L 1 a1) fun cs0 =>
    (match cs0 with
    | [.int .i64 v263] =>
    optT (cellsOf L 1 a2) fun cs1 =>
    (match cs1 with
    | [.int .i64 v264] =>
    .leaf (.bool (impl_allIn_1_v v262 v263 v264), L)
    | _ => .fail)
    | _ => .fail)
  | _ => .fail
theorem impl_allIn_1_Fok : COk Try.prog 177 impl_allIn_1_F true := by
  intro F L H args r L' hs ha hr
  unfold impl_allIn_1_F at hr
  split at hr
  · rename_i v262 a1 a2
    obtain ⟨cs0, hcp0, hr⟩ := optT_run hr
    split at hr
    · rename_i v263
      obtain ⟨cs1, hcp1, hr⟩ := optT_run hr
      split at hr
      · rename_i v264
        have hy := impl_allIn_1_tot v262 v263 v264
        generalize impl_allIn_1_v v262 v263 v264 = y at hy hr
        simp only [Tree.run, Option.some.injEq, Prod.mk.injEq] at hr
        obtain ⟨rfl, rfl⟩ := hr
        exact call_ok0 hs (fun k => (([a1.av F, a2.av F] : List AV)[k]?).getD .top) [.int .i64 v262, a1, a2] [.int .i64 v262, .bptr (BR.root 0) [.int .i64 v263], .bptr (BR.root 1) [.int .i64 v264]] (fun F' h0 hi hρ => ⟨by simp [DVs.av, DV.av, BR.av, hρ], impl_allIn_1_fn v262 v263 v264 F' (by rw [hi]; rfl) (st_nil hi) ⟨trivial, bptr_ok hi (by rw [h0]; simpa [DVs.av, DV.av, BR.av, hρ] using (cellsOf_ok hs (DVs.okAt ha 1 rfl) hcp0).1) ⟨trivial, trivial⟩, bptr_ok hi (by rw [h0]; simpa [DVs.av, DV.av, BR.av, hρ] using (cellsOf_ok hs (DVs.okAt ha 2 rfl) hcp1).1) ⟨trivial, trivial⟩, trivial⟩ hy⟩) rfl
      · cases hr
    · cases hr
  · cases hr
/-! slices.IndexFunc[list of int64,int64] -/
noncomputable def slices_IndexFuncI_l0_T (v258 : List Int) (v259 : Int) (v260 : Int) (s : Int) : Tree ((Int) ⊕ ((Int) ⊕ (Unit))) :=
  (.br (decide (s < ((v258.length : Nat) : Int))) (
   (.grd (inb s v258.length) <|
   (.br (impl_allIn_1_v (nth v258 (Int.toNat s)) v259 v260) (
    .leaf (.inr (.inl s))
   ) (
    .leaf (.inl (IntKind.i64.wrap (s + (1 : Int))))
   )))
  ) (
   .leaf (.inr (.inr ()))
  ))

noncomputable def slices_IndexFuncI_l0_g (v258 : List Int) (v259 : Int) (v260 : Int) (s0 : Int) : Option ((Int) ⊕ (Unit)) := whileM (fun s => (slices_IndexFuncI_l0_T v258 v259 v260 s).run) s0
def slices_IndexFuncI_l0_E (v258 : List Int) (v259 : Int) (v260 : Int) (s : Int) : Sd := ([.bslc (BR.root 0) (.i64 v258), .fn 177 [.bptr (BR.root 1) [.int .i64 v259], .bptr (BR.root 2) [.int .i64 v260]], .top, .top, .top, .top, .top, .int .i64 ((v258.length : Nat) : Int), .int .i64 s, .top, .top, .top, .top, .top, .top, .top, .top, .top, .top], [])
def slices_IndexFuncI_l0_X (v258 : List Int) (v259 : Int) (v260 : Int) (x : (Int) ⊕ (Unit)) : Out := (match x with | .inl x => (.ret, [.top, .top, .top, .top, .int .i64 x, .top, .top, .top, .top, .top, .top, .top, .top, .top, .top, .top, .top, .top, .top], []) | .inr x => (.normal, [.top, .top, .top, .top, .top, .top, .top, .top, .top, .top, .top, .top, .top, .top, .top, .top, .top, .top, .top], []))
def slices_IndexFuncI_l0_kill : List Nat := [0, 0, 1, 1, 1, 1, 1, 0, 0, 1, 1, 1, 1, 1, 1, 1, 1, 1, 1]
def slices_IndexFuncI_l0_nx : Exit → List Nat
  | .exit 0 => [1, 1, 1, 1, 1, 1, 1, 1, 1, 1, 1, 1, 1, 1, 1, 1, 1, 1, 1]
  | .ret => [1, 1, 1, 1, 0, 1, 1, 1, 1, 1, 1, 1, 1, 1, 1, 1, 1, 1, 1]
  | _ => []
noncomputable def slices_IndexFuncI_LO (v258 : List Int) (v259 : Int) (v260 : Int) : LOr := fun id e L =>
  match id with
  | 0 => .need (normA 0 slices_IndexFuncI_l0_kill e L = some (slices_IndexFuncI_l0_E v258 v259 v260 (gI (vAt e 8)))) (.call (slices_IndexFuncI_l0_g v258 v259 v260 (gI (vAt e 8))) fun x => .sum x (fun b0 => .leaf (slices_IndexFuncI_l0_X v258 v259 v260 (.inl b0))) (fun c0 => .leaf (slices_IndexFuncI_l0_X v258 v259 v260 (.inr c0))))
  | _ => .fail
noncomputable def slices_IndexFuncI_tab : List (FuncId × DFn × Bool) := [(177, impl_allIn_1_F, true)]
theorem slices_IndexFuncI_hO : OrcOk Try.prog (tabD slices_IndexFuncI_tab) (tabM slices_IndexFuncI_tab) := tabD_cons impl_allIn_1_Fok (tabD_nil _)
theorem slices_IndexFuncI_l0_be (v258 : List Int) (v259 : Int) (v260 : Int) (s : Int) : bodyT TT (tabD slices_IndexFuncI_tab) (tabM slices_IndexFuncI_tab) (slices_IndexFuncI_LO v258 v259 v260) 0 slices_IndexFuncI_l0_kill slices_IndexFuncI_l0_nx (bodyOf Try.f185 0) 0 (slices_IndexFuncI_l0_E v258 v259 v260 s) = (slices_IndexFuncI_l0_T v258 v259 v260 s).bind fun y => .leaf (outS (slices_IndexFuncI_l0_E v258 v259 v260) (slices_IndexFuncI_l0_X v258 v259 v260) y) := by kernel_rfl
theorem slices_IndexFuncI_l0_ok (v258 : List Int) (v259 : Int) (v260 : Int) : LSound Try.prog 0 (slices_IndexFuncI_LO v258 v259 v260) 0 (bodyOf Try.f185 0) := by
  intro e L out h
  exact lo_ok (E := slices_IndexFuncI_l0_E v258 v259 v260) (gT := slices_IndexFuncI_l0_T v258 v259 v260) (X := slices_IndexFuncI_l0_X v258 v259 v260) (s0 := (gI (vAt e 8))) tok slices_IndexFuncI_hO mixed (LoopsOk_eq (l := []) (by kernel_rfl) trivial) (slices_IndexFuncI_l0_be v258 v259 v260) rfl (by intro x; (cases x with | inl b => rfl | inr x => exact rfl)) h
noncomputable def slices_IndexFuncI_T (v258 : List Int) (v259 : Int) (v260 : Int) : Tree (Int) :=
  (.need (some (slices_IndexFuncI_l0_E v258 v259 v260 (0 : Int)) = some (slices_IndexFuncI_l0_E v258 v259 v260 (0 : Int))) <|
  (.call (slices_IndexFuncI_l0_g v258 v259 v260 (0 : Int)) fun v267 =>
  (.sum v267 (fun v268 =>
   .leaf v268
  ) (fun v269 =>
   .leaf (-1 : Int)
  ))))

noncomputable def slices_IndexFuncI_g (v258 : List Int) (v259 : Int) (v260 : Int) : Option (Int) := (slices_IndexFuncI_T v258 v259 v260).run
def slices_IndexFuncI_enc (v258 : List Int) (v259 : Int) (v260 : Int) (y : Int) : Rs := (.int .i64 y, [])
theorem slices_IndexFuncI_den (v258 : List Int) (v259 : Int) (v260 : Int) : (den TT (tabD slices_IndexFuncI_tab) (tabM slices_IndexFuncI_tab) (slices_IndexFuncI_LO v258 v259 v260) (codeOf Try.f185) ([.bslc (BR.root 0) (.i64 v258), .fn 177 [.bptr (BR.root 1) [.int .i64 v259], .bptr (BR.root 2) [.int .i64 v260]]] ++ List.replicate (Try.f185.ntmps - ([.bslc (BR.root 0) (.i64 v258), .fn 177 [.bptr (BR.root 1) [.int .i64 v259], .bptr (BR.root 2) [.int .i64 v260]]] : List DV).length) .undef) []).bind (retD TT Try.f185.results.toList 0) = (slices_IndexFuncI_T v258 v259 v260).bind fun y => .leaf (slices_IndexFuncI_enc v258 v259 v260 y) := by kernel_rfl
theorem slices_IndexFuncI_fn (v258 : List Int) (v259 : Int) (v260 : Int) (F : Fr) (hm : F.ids.length = 0) (h0 : St F [] F.H0) (hA : DVs.Ok F [] [.bslc (BR.root 0) (.i64 v258), .fn 177 [.bptr (BR.root 1) [.int .i64 v259], .bptr (BR.root 2) [.int .i64 v260]]]) {y : Int} (hy : slices_IndexFuncI_g v258 v259 v260 = some y) : ∃ H', FnOk Try.prog 185 (DVs.av F [.bslc (BR.root 0) (.i64 v258), .fn 177 [.bptr (BR.root 1) [.int .i64 v259], .bptr (BR.root 2) [.int .i64 v260]]]) F.H0 ((slices_IndexFuncI_enc v258 v259 v260 y).1.av F) H' ∧ St F (slices_IndexFuncI_enc v258 v259 v260 y).2 H' ∧ (slices_IndexFuncI_enc v258 v259 v260 y).1.Ok F (slices_IndexFuncI_enc v258 v259 v260 y).2 :=
  fn_fin tok slices_IndexFuncI_hO mixed Try.func185 Try.call185 (by kernel_rfl) (LoopsOk_eq (l := [(0, bodyOf Try.f185 0)]) (by kernel_rfl) ⟨slices_IndexFuncI_l0_ok v258 v259 v260, trivial⟩) (slices_IndexFuncI_den v258 v259 v260) hy hm h0 hA
noncomputable def slices_IndexFuncI_F : DFn := fun args L =>
  match args with
  | [a1, .fn 177 [a2, a3]] =>
    optT (rowI64 L a1) fun v258 =>
    optT (cellsOf L 1 a2) fun cs1 =>
    (match cs1 with
    | [.int .i64 v259] =>
    optT (cellsOf L 1 a3) fun cs2 =>
    (match cs2 with
    | [.int .i64 v260] =>
    .call (slices_IndexFuncI_g v258 v259 v260) fun y => .leaf (.int .i64 y, L)
    | _ => .fail)
    | _ => .fail)
  | _ => .fail
theorem slices_IndexFuncI_Fok : COk Try.prog 185 slices_IndexFuncI_F true := by
  intro F L H args r L' hs ha hr
  unfold slices_IndexFuncI_F at hr
  split at hr
  · rename_i a1 a2 a3
    obtain ⟨v258, hv258, hr⟩ := optT_run hr
    obtain ⟨cs1, hcp1, hr⟩ := optT_run hr
    split at hr
    · rename_i v259
      obtain ⟨cs2, hcp2, hr⟩ := optT_run hr
      split at hr
      · rename_i v260
        simp only [Tree.run] at hr
        obtain ⟨y, hy, hr⟩ := Option.bind_eq_some_iff.1 hr
        simp only [Tree.run, Option.some.injEq, Prod.mk.injEq] at hr
        obtain ⟨rfl, rfl⟩ := hr
        exact call_ok0 hs (fun k => (([a1.av F, a2.av F, a3.av F] : List AV)[k]?).getD .top) [a1, .fn 177 [a2, a3]] [.bslc (BR.root 0) (.i64 v258), .fn 177 [.bptr (BR.root 1) [.int .i64 v259], .bptr (BR.root 2) [.int .i64 v260]]] (fun F' h0 hi hρ => ⟨by simp [DVs.av, DV.av, BR.av, hρ], slices_IndexFuncI_fn v258 v259 v260 F' (by rw [hi]; rfl) (st_nil hi) ⟨bslc_ok hi (by rw [h0, hρ]; exact rowI64_ok hs (DVs.okAt ha 0 rfl) hv258), ⟨bptr_ok hi (by rw [h0]; simpa [DVs.av, DV.av, BR.av, hρ] using (cellsOf_ok hs (DVs.okAt (DVs.okAt ha 1 rfl) 0 rfl) hcp1).1) ⟨trivial, trivial⟩, bptr_ok hi (by rw [h0]; simpa [DVs.av, DV.av, BR.av, hρ] using (cellsOf_ok hs (DVs.okAt (DVs.okAt ha 1 rfl) 1 rfl) hcp2).1) ⟨trivial, trivial⟩, trivial⟩, trivial⟩ hy⟩) rfl
      · cases hr
    · cases hr
  · cases hr
/-! slices.ContainsFunc[list of int64,int64] -/
noncomputable def slices_ContainsFuncI_LO (v255 : List Int) (v256 : Int) (v257 : Int) : LOr := fun id e L =>
  match id with
  | _ => .fail
noncomputable def slices_ContainsFuncI_tab : List (FuncId × DFn × Bool) := [(185, slices_IndexFuncI_F, true)]
theorem slices_ContainsFuncI_hO : OrcOk Try.prog (tabD slices_ContainsFuncI_tab) (tabM slices_ContainsFuncI_tab) := tabD_cons slices_IndexFuncI_Fok (tabD_nil _)
noncomputable def slices_ContainsFuncI_T (v255 : List Int) (v256 : Int) (v257 : Int) : Tree (Bool) :=
  (.call (slices_IndexFuncI_g v255 v256 v257) fun v270 =>
  .leaf (decide ((0 : Int) ≤ v270)))

noncomputable def slices_ContainsFuncI_g (v255 : List Int) (v256 : Int) (v257 : Int) : Option (Bool) := (slices_ContainsFuncI_T v255 v256 v257).run
def slices_ContainsFuncI_enc (v255 : List Int) (v256 : Int) (v257 : Int) (y : Bool) : Rs := (.bool y, [])
theorem slices_ContainsFuncI_den (v255 : List Int) (v256 : Int) (v257 : Int) : (den TT (tabD slices_ContainsFuncI_tab) (tabM slices_ContainsFuncI_tab) (slices_ContainsFuncI_LO v255 v256 v257) (codeOf Try.f176) ([.bslc (BR.root 0) (.i64 v255), .fn 177 [.bptr (BR.root 1) [.int .i64 v256], .bptr (BR.root 2) [.int .i64 v257]]] ++ List.replicate (Try.f176.ntmps - ([.bslc (BR.root 0) (.i64 v255), .fn 177 [.bptr (BR.root 1) [.int .i64 v256], .bptr (BR.root 2) [.int .i64 v257]]] : List DV).length) .undef) []).bind (retD TT Try.f176.results.toList 0) = (slices_ContainsFuncI_T v255 v256 v257).bind fun y => .leaf (slices_ContainsFuncI_enc v255 v256 v257 y) := by kernel_rfl
theorem slices_ContainsFuncI_fn (v255 : List Int) (v256 : Int) (v257 : Int) (F : Fr) (hm : F.ids.length = 0) (h0 : St F [] F.H0) (hA : DVs.Ok F [] [.bslc (BR.root 0) (.i64 v255), .fn 177 [.bptr (BR.root 1) [.int .i64 v256], .bptr (BR.root 2) [.int .i64 v257]]]) {y : Bool} (hy : slices_ContainsFuncI_g v255 v256 v257 = some y) : ∃ H', FnOk Try.prog 176 (DVs.av F [.bslc (BR.root 0) (.i64 v255), .fn 177 [.bptr (BR.root 1) [.int .i64 v256], .bptr (BR.root 2) [.int .i64 v257]]]) F.H0 ((slices_ContainsFuncI_enc v255 v256 v257 y).1.av F) H' ∧ St F (slices_ContainsFuncI_enc v255 v256 v257 y).2 H' ∧ (slices_ContainsFuncI_enc v255 v256 v257 y).1.Ok F (slices_ContainsFuncI_enc v255 v256 v257 y).2 :=
  fn_fin tok slices_ContainsFuncI_hO mixed Try.func176 Try.call176 (by kernel_rfl) (LoopsOk_eq (l := []) (by kernel_rfl) trivial) (slices_ContainsFuncI_den v255 v256 v257) hy hm h0 hA
noncomputable def slices_ContainsFuncI_F : DFn := fun args L =>
  match args with
  | [a1, .fn 177 [a2, a3]] =>
    optT (rowI64 L a1) fun v255 =>
    optT (cellsOf L 1 a2) fun cs1 =>
    (match cs1 with
    | [.int .i64 v256] =>
    optT (cellsOf L 1 a3) fun cs2 =>
    (match cs2 with
    | [.int .i64 v257] =>
    .call (slices_ContainsFuncI_g v255 v256 v257) fun y => .leaf (.bool y, L)
    | _ => .fail)
    | _ => .fail)
  | _ => .fail
theorem slices_ContainsFuncI_Fok : COk Try.prog 176 slices_ContainsFuncI_F true := by
  intro F L H args r L' hs ha hr
  unfold slices_ContainsFuncI_F at hr
  split at hr
  · rename_i a1 a2 a3
    obtain ⟨v255, hv255, hr⟩ := optT_run hr
    obtain ⟨cs1, hcp1, hr⟩ := optT_run hr
    split at hr
    · rename_i v256
      obtain ⟨cs2, hcp2, hr⟩ := optT_run hr
      split at hr
      · rename_i v257
        simp only [Tree.run] at hr
        obtain ⟨y, hy, hr⟩ := Option.bind_eq_some_iff.1 hr
        simp only [Tree.run, Option.some.injEq, Prod.mk.injEq] at hr
        obtain ⟨rfl, rfl⟩ := hr
        exact call_ok0 hs (fun k => (([a1.av F, a2.av F, a3.av F] : List AV)[k]?).getD .top) [a1, .fn 177 [a2, a3]] [.bslc (BR.root 0) (.i64 v255), .fn 177 [.bptr (BR.root 1) [.int .i64 v256], .bptr (BR.root 2) [.int .i64 v257]]] (fun F' h0 hi hρ => ⟨by simp [DVs.av, DV.av, BR.av, hρ], slices_ContainsFuncI_fn v255 v256 v257 F' (by rw [hi]; rfl) (st_nil hi) ⟨bslc_ok hi (by rw [h0, hρ]; exact rowI64_ok hs (DVs.okAt ha 0 rfl) hv255), ⟨bptr_ok hi (by rw [h0]; simpa [DVs.av, DV.av, BR.av, hρ] using (cellsOf_ok hs (DVs.okAt (DVs.okAt ha 1 rfl) 0 rfl) hcp1).1) ⟨trivial, trivial⟩, bptr_ok hi (by rw [h0]; simpa [DVs.av, DV.av, BR.av, hρ] using (cellsOf_ok hs (DVs.okAt (DVs.okAt ha 1 rfl) 1 rfl) hcp2).1) ⟨trivial, trivial⟩, trivial⟩, trivial⟩ hy⟩) rfl
      · cases hr
    · cases hr
  · cases hr
/-! impl.allIn -/
noncomputable def impl_allIn_LO (v252 : List Int) (v253 : Int) (v254 : Int) : LOr := fun id e L =>
  match id with
  | _ => .fail
noncomputable def impl_allIn_tab : List (FuncId × DFn × Bool) := [(176, slices_ContainsFuncI_F, true)]
theorem impl_allIn_hO : OrcOk Try.prog (tabD impl_allIn_tab) (tabM impl_allIn_tab) := tabD_cons slices_ContainsFuncI_Fok (tabD_nil _)
noncomputable def impl_allIn_T (v252 : List Int) (v253 : Int) (v254 : Int) : Tree (Bool) :=
  (.call (slices_ContainsFuncI_g v252 v253 v254) fun v271 =>
  .leaf (!v271))

noncomputable def impl_allIn_g (v252 : List Int) (v253 : Int) (v254 : Int) : Option (Bool) := (impl_allIn_T v252 v253 v254).run
def impl_allIn_enc (v252 : List Int) (v253 : Int) (v254 : Int) (y : Bool) : Rs := (.bool y, [])
theorem impl_allIn_den (v252 : List Int) (v253 : Int) (v254 : Int) : (den TT (tabD impl_allIn_tab) (tabM impl_allIn_tab) (impl_allIn_LO v252 v253 v254) (codeOf Try.f163) ([.bslc (BR.root 0) (.i64 v252), .int .i64 v253, .int .i64 v254] ++ List.replicate (Try.f163.ntmps - ([.bslc (BR.root 0) (.i64 v252), .int .i64 v253, .int .i64 v254] : List DV).length) .undef) []).bind (retD TT Try.f163.results.toList 0) = (impl_allIn_T v252 v253 v254).bind fun y => .leaf (impl_allIn_enc v252 v253 v254 y) := by kernel_rfl
theorem impl_allIn_fn (v252 : List Int) (v253 : Int) (v254 : Int) (F : Fr) (hm : F.ids.length = 0) (h0 : St F [] F.H0) (hA : DVs.Ok F [] [.bslc (BR.root 0) (.i64 v252), .int .i64 v253, .int .i64 v254]) {y : Bool} (hy : impl_allIn_g v252 v253 v254 = some y) : ∃ H', FnOk Try.prog 163 (DVs.av F [.bslc (BR.root 0) (.i64 v252), .int .i64 v253, .int .i64 v254]) F.H0 ((impl_allIn_enc v252 v253 v254 y).1.av F) H' ∧ St F (impl_allIn_enc v252 v253 v254 y).2 H' ∧ (impl_allIn_enc v252 v253 v254 y).1.Ok F (impl_allIn_enc v252 v253 v254 y).2 :=
  fn_fin tok impl_allIn_hO mixed Try.func163 Try.call163 (by kernel_rfl) (LoopsOk_eq (l := []) (by kernel_rfl) trivial) (impl_allIn_den v252 v253 v254) hy hm h0 hA
noncomputable def impl_allIn_F : DFn := fun args L =>
  match args with
  | [a1, .int .i64 v253, .int .i64 v254] =>
    optT (rowI64 L a1) fun v252 =>
    .call (impl_allIn_g v252 v253 v254) fun y => .leaf (.bool y, L)
  | _ => .fail
theorem impl_allIn_Fok : COk Try.prog 163 impl_allIn_F true := by
  intro F L H args r L' hs ha hr
  unfold impl_allIn_F at hr
  split at hr
  · rename_i a1 v253 v254
    obtain ⟨v252, hv252, hr⟩ := optT_run hr
    simp only [Tree.run] at hr
    obtain ⟨y, hy, hr⟩ := Option.bind_eq_some_iff.1 hr
    simp only [Tree.run, Option.some.injEq, Prod.mk.injEq] at hr
    obtain ⟨rfl, rfl⟩ := hr
    exact call_ok0 hs (fun k => (([a1.av F] : List AV)[k]?).getD .top) [a1, .int .i64 v253, .int .i64 v254] [.bslc (BR.root 0) (.i64 v252), .int .i64 v253, .int .i64 v254] (fun F' h0 hi hρ => ⟨by simp [DVs.av, DV.av, BR.av, hρ], impl_allIn_fn v252 v253 v254 F' (by rw [hi]; rfl) (st_nil hi) ⟨bslc_ok hi (by rw [h0, hρ]; exact rowI64_ok hs (DVs.okAt ha 0 rfl) hv252), trivial, trivial, trivial⟩ hy⟩) rfl
  · cases hr
/-! math.IsNaN -/
noncomputable def math_IsNaN_LO (v280 : Nat) : LOr := fun id e L =>
  match id with
  | _ => .fail
noncomputable def math_IsNaN_tab : List (FuncId × DFn × Bool) := []
theorem math_IsNaN_hO : OrcOk Try.prog (tabD math_IsNaN_tab) (tabM math_IsNaN_tab) := tabD_nil _
noncomputable def math_IsNaN_T (v280 : Nat) : Tree (Bool) :=
  .leaf (!feq .f64 v280 v280)

noncomputable def math_IsNaN_g (v280 : Nat) : Option (Bool) := (math_IsNaN_T v280).run
def math_IsNaN_enc (v280 : Nat) (y : Bool) : Rs := (.bool y, [])
theorem math_IsNaN_den (v280 : Nat) : (den TT (tabD math_IsNaN_tab) (tabM math_IsNaN_tab) (math_IsNaN_LO v280) (codeOf Try.f169) ([.flt .f64 v280] ++ List.replicate (Try.f169.ntmps - ([.flt .f64 v280] : List DV).length) .undef) []).bind (retD TT Try.f169.results.toList 0) = (math_IsNaN_T v280).bind fun y => .leaf (math_IsNaN_enc v280 y) := by kernel_rfl
theorem math_IsNaN_fn (v280 : Nat) (F : Fr) (hm : F.ids.length = 0) (h0 : St F [] F.H0) (hA : DVs.Ok F [] [.flt .f64 v280]) {y : Bool} (hy : math_IsNaN_g v280 = some y) : ∃ H', FnOk Try.prog 169 (DVs.av F [.flt .f64 v280]) F.H0 ((math_IsNaN_enc v280 y).1.av F) H' ∧ St F (math_IsNaN_enc v280 y).2 H' ∧ (math_IsNaN_enc v280 y).1.Ok F (math_IsNaN_enc v280 y).2 :=
  fn_fin tok math_IsNaN_hO mixed Try.func169 Try.call169 (by kernel_rfl) (LoopsOk_eq (l := []) (by kernel_rfl) trivial) (math_IsNaN_den v280) hy hm h0 hA
def math_IsNaN_v (v280 : Nat) : Bool :=
  !feq .f64 v280 v280
theorem math_IsNaN_tot (v280 : Nat) : math_IsNaN_g v280 = some (math_IsNaN_v v280) := by
  unfold math_IsNaN_g math_IsNaN_T math_IsNaN_v
  simp only [Tree.run]
  repeat' (first | rfl | split)
noncomputable def math_IsNaN_F : DFn := fun args L =>
  match args with
  | [.flt .f64 v280] =>
    .leaf (.bool (math_IsNaN_v v280), L)
  | _ => .fail
theorem math_IsNaN_Fok : COk Try.prog 169 math_IsNaN_F true := by
  intro F L H args r L' hs ha hr
  unfold math_IsNaN_F at hr
  split at hr
  · rename_i v280
    have hy := math_IsNaN_tot v280
    generalize math_IsNaN_v v280 = y at hy hr
    simp only [Tree.run, Option.some.injEq, Prod.mk.injEq] at hr
    obtain ⟨rfl, rfl⟩ := hr
    exact call_ok0 hs (fun k => (([] : List AV)[k]?).getD .top) [.flt .f64 v280] [.flt .f64 v280] (fun F' h0 hi hρ => ⟨by simp [DVs.av, DV.av, BR.av, hρ], math_IsNaN_fn v280 F' (by rw [hi]; rfl) (st_nil hi) ⟨trivial, trivial⟩ hy⟩) rfl
  · cases hr
/-! math.IsInf -/
noncomputable def math_IsInf_LO (v281 : Nat) (v282 : Int) : LOr := fun id e L =>
  match id with
  | _ => .fail
noncomputable def math_IsInf_tab : List (FuncId × DFn × Bool) := [(104, Abs_F, true)]
theorem math_IsInf_hO : OrcOk Try.prog (tabD math_IsInf_tab) (tabM math_IsInf_tab) := tabD_cons Abs_Fok (tabD_nil _)
noncomputable def math_IsInf_T (v281 : Nat) (v282 : Int) : Tree (Bool) :=
  (.br (decide (v282 = (0 : Int))) (
   .leaf (fgrt .f64 (fabs v281) (9218868437227405311 : Nat))
  ) (
   (.br (decide (v282 < (0 : Int))) (
    .leaf (fgrt .f64 (fneg .f64 v281) (9218868437227405311 : Nat))
   ) (
    .leaf (fgrt .f64 v281 (9218868437227405311 : Nat))
   ))
  ))

noncomputable def math_IsInf_g (v281 : Nat) (v282 : Int) : Option (Bool) := (math_IsInf_T v281 v282).run
def math_IsInf_enc (v281 : Nat) (v282 : Int) (y : Bool) : Rs := (.bool y, [])
theorem math_IsInf_den (v281 : Nat) (v282 : Int) : (den TT (tabD math_IsInf_tab) (tabM math_IsInf_tab) (math_IsInf_LO v281 v282) (codeOf Try.f170) ([.flt .f64 v281, .int .i64 v282] ++ List.replicate (Try.f170.ntmps - ([.flt .f64 v281, .int .i64 v282] : List DV).length) .undef) []).bind (retD TT Try.f170.results.toList 0) = (math_IsInf_T v281 v282).bind fun y => .leaf (math_IsInf_enc v281 v282 y) := by kernel_rfl
theorem math_IsInf_fn (v281 : Nat) (v282 : Int) (F : Fr) (hm : F.ids.length = 0) (h0 : St F [] F.H0) (hA : DVs.Ok F [] [.flt .f64 v281, .int .i64 v282]) {y : Bool} (hy : math_IsInf_g v281 v282 = some y) : ∃ H', FnOk Try.prog 170 (DVs.av F [.flt .f64 v281, .int .i64 v282]) F.H0 ((math_IsInf_enc v281 v282 y).1.av F) H' ∧ St F (math_IsInf_enc v281 v282 y).2 H' ∧ (math_IsInf_enc v281 v282 y).1.Ok F (math_IsInf_enc v281 v282 y).2 :=
  fn_fin tok math_IsInf_hO mixed Try.func170 Try.call170 (by kernel_rfl) (LoopsOk_eq (l := []) (by kernel_rfl) trivial) (math_IsInf_den v281 v282) hy hm h0 hA
def math_IsInf_v (v281 : Nat) (v282 : Int) : Bool :=
  if (decide (v282 = (0 : Int))) = true then (
   fgrt .f64 (fabs v281) (9218868437227405311 : Nat)
  ) else (
   if (decide (v282 < (0 : Int))) = true then (
    fgrt .f64 (fneg .f64 v281) (9218868437227405311 : Nat)
   ) else (
    fgrt .f64 v281 (9218868437227405311 : Nat)
   )
  )
theorem math_IsInf_tot (v281 : Nat) (v282 : Int) : math_IsInf_g v281 v282 = some (math_IsInf_v v281 v282) := by
  unfold math_IsInf_g math_IsInf_T math_IsInf_v
  simp only [Tree.run]
  repeat' (first | rfl | split)
noncomputable def math_IsInf_F : DFn := fun args L =>
  match args with
  | [.flt .f64 v281, .int .i64 v282] =>
    .leaf (.bool (math_IsInf_v v281 v282), L)
  | _ => .fail
theorem math_IsInf_Fok : COk Try.prog 170 math_IsInf_F true := by
  intro F L H args r L' hs ha hr
  unfold math_IsInf_F at hr
  split at hr
  · rename_i v281 v282
    have hy := math_IsInf_tot v281 v282
    generalize math_IsInf_v v281 v282 = y at hy hr
    simp only [Tree.run, Option.some.injEq, Prod.mk.injEq] at hr
    obtain ⟨rfl, rfl⟩ := hr
    exact call_ok0 hs (fun k => (([] : List AV)[k]?).getD .top) [.flt .f64 v281, .int .i64 v282] [.flt .f64 v281, .int .i64 v282] (fun F' h0 hi hρ => ⟨by simp [DVs.av, DV.av, BR.av, hρ], math_IsInf_fn v281 v282 F' (by rw [hi]; rfl) (st_nil hi) ⟨trivial, trivial, trivial⟩ hy⟩) rfl
  · cases hr
/-! impl.isFinite64 -/
noncomputable def impl_isFinite64_LO (v279 : Nat) : LOr := fun id e L =>
  match id with
  | _ => .fail
noncomputable def impl_isFinite64_tab : List (FuncId × DFn × Bool) := [(169, math_IsNaN_F, true), (170, math_IsInf_F, true)]
theorem impl_isFinite64_hO : OrcOk Try.prog (tabD impl_isFinite64_tab) (tabM impl_isFinite64_tab) := tabD_cons math_IsNaN_Fok (tabD_cons math_IsInf_Fok (tabD_nil _))
noncomputable def impl_isFinite64_T (v279 : Nat) : Tree (Bool) :=
  (.br (!(math_IsNaN_v v279)) (
   .leaf (!(math_IsInf_v v279 (0 : Int)))
  ) (
   .leaf false
  ))

noncomputable def impl_isFinite64_g (v279 : Nat) : Option (Bool) := (impl_isFinite64_T v279).run
def impl_isFinite64_enc (v279 : Nat) (y : Bool) : Rs := (.bool y, [])
theorem impl_isFinite64_den (v279 : Nat) : (den TT (tabD impl_isFinite64_tab) (tabM impl_isFinite64_tab) (impl_isFinite64_LO v279) (codeOf Try.f151) ([.flt .f64 v279] ++ List.replicate (Try.f151.ntmps - ([.flt .f64 v279] : List DV).length) .undef) []).bind (retD TT Try.f151.results.toList 0) = (impl_isFinite64_T v279).bind fun y => .leaf (impl_isFinite64_enc v279 y) := by kernel_rfl
theorem impl_isFinite64_fn (v279 : Nat) (F : Fr) (hm : F.ids.length = 0) (h0 : St F [] F.H0) (hA : DVs.Ok F [] [.flt .f64 v279]) {y : Bool} (hy : impl_isFinite64_g v279 = some y) : ∃ H', FnOk Try.prog 151 (DVs.av F [.flt .f64 v279]) F.H0 ((impl_isFinite64_enc v279 y).1.av F) H' ∧ St F (impl_isFinite64_enc v279 y).2 H' ∧ (impl_isFinite64_enc v279 y).1.Ok F (impl_isFinite64_enc v279 y).2 :=
  fn_fin tok impl_isFinite64_hO mixed Try.func151 Try.call151 (by kernel_rfl) (LoopsOk_eq (l := []) (by kernel_rfl) trivial) (impl_isFinite64_den v279) hy hm h0 hA
def impl_isFinite64_v (v279 : Nat) : Bool :=
  if (!(math_IsNaN_v v279)) = true then (
   !(math_IsInf_v v279 (0 : Int))
  ) else (
   false
  )
theorem impl_isFinite64_tot (v279 : Nat) : impl_isFinite64_g v279 = some (impl_isFinite64_v v279) := by
  unfold impl_isFinite64_g impl_isFinite64_T impl_isFinite64_v
  simp only [Tree.run]
  repeat' (first | rfl | split)
noncomputable def impl_isFinite64_F : DFn := fun args L =>
  match args with
  | [.flt .f64 v279] =>
    .leaf (.bool (impl_isFinite64_v v279), L)
  | _ => .fail
theorem impl_isFinite64_Fok : COk Try.prog 151 impl_isFinite64_F true := by
  intro F L H args r L' hs ha hr
  unfold impl_isFinite64_F at hr
  split at hr
  · rename_i v279
    have hy := impl_isFinite64_tot v279
    generalize impl_isFinite64_v v279 = y at hy hr
    simp only [Tree.run, Option.some.injEq, Prod.mk.injEq] at hr
    obtain ⟨rfl, rfl⟩ := hr
    exact call_ok0 hs (fun k => (([] : List AV)[k]?).getD .top) [.flt .f64 v279] [.flt .f64 v279] (fun F' h0 hi hρ => ⟨by simp [DVs.av, DV.av, BR.av, hρ], impl_isFinite64_fn v279 F' (by rw [hi]; rfl) (st_nil hi) ⟨trivial, trivial⟩ hy⟩) rfl
  · cases hr
/-! impl.IsFinite -/
noncomputable def impl_IsFinite_LO (v278 : Nat) : LOr := fun id e L =>
  match id with
  | _ => .fail
noncomputable def impl_IsFinite_tab : List (FuncId × DFn × Bool) := [(151, impl_isFinite64_F, true)]
theorem impl_IsFinite_hO : OrcOk Try.prog (tabD impl_IsFinite_tab) (tabM impl_IsFinite_tab) := tabD_cons impl_isFinite64_Fok (tabD_nil _)
noncomputable def impl_IsFinite_T (v278 : Nat) : Tree (Bool) :=
  .leaf (impl_isFinite64_v (wid v278))

noncomputable def impl_IsFinite_g (v278 : Nat) : Option (Bool) := (impl_IsFinite_T v278).run
def impl_IsFinite_enc (v278 : Nat) (y : Bool) : Rs := (.bool y, [])
theorem impl_IsFinite_den (v278 : Nat) : (den TT (tabD impl_IsFinite_tab) (tabM impl_IsFinite_tab) (impl_IsFinite_LO v278) (codeOf Try.f103) ([.flt .f32 v278] ++ List.replicate (Try.f103.ntmps - ([.flt .f32 v278] : List DV).length) .undef) []).bind (retD TT Try.f103.results.toList 0) = (impl_IsFinite_T v278).bind fun y => .leaf (impl_IsFinite_enc v278 y) := by kernel_rfl
theorem impl_IsFinite_fn (v278 : Nat) (F : Fr) (hm : F.ids.length = 0) (h0 : St F [] F.H0) (hA : DVs.Ok F [] [.flt .f32 v278]) {y : Bool} (hy : impl_IsFinite_g v278 = some y) : ∃ H', FnOk Try.prog 103 (DVs.av F [.flt .f32 v278]) F.H0 ((impl_IsFinite_enc v278 y).1.av F) H' ∧ St F (impl_IsFinite_enc v278 y).2 H' ∧ (impl_IsFinite_enc v278 y).1.Ok F (impl_IsFinite_enc v278 y).2 :=
  fn_fin tok impl_IsFinite_hO mixed Try.func103 Try.call103 (by kernel_rfl) (LoopsOk_eq (l := []) (by kernel_rfl) trivial) (impl_IsFinite_den v278) hy hm h0 hA
def impl_IsFinite_v (v278 : Nat) : Bool :=
  (impl_isFinite64_v (wid v278))
theorem impl_IsFinite_tot (v278 : Nat) : impl_IsFinite_g v278 = some (impl_IsFinite_v v278) := by
  unfold impl_IsFinite_g impl_IsFinite_T impl_IsFinite_v
  simp only [Tree.run]
  repeat' (first | rfl | split)
noncomputable def impl_IsFinite_F : DFn := fun args L =>
  match args with
  | [.flt .f32 v278] =>
    .leaf (.bool (impl_IsFinite_v v278), L)
  | _ => .fail
theorem impl_IsFinite_Fok : COk Try.prog 103 impl_IsFinite_F true := by
  intro F L H args r L' hs ha hr
  unfold impl_IsFinite_F at hr
  split at hr
  · rename_i v278
    have hy := impl_IsFinite_tot v278
    generalize impl_IsFinite_v v278 = y at hy hr
    simp only [Tree.run, Option.some.injEq, Prod.mk.injEq] at hr
    obtain ⟨rfl, rfl⟩ := hr
    exact call_ok0 hs (fun k => (([] : List AV)[k]?).getD .top) [.flt .f32 v278] [.flt .f32 v278] (fun F' h0 hi hρ => ⟨by simp [DVs.av, DV.av, BR.av, hρ], impl_IsFinite_fn v278 F' (by rw [hi]; rfl) (st_nil hi) ⟨trivial, trivial⟩ hy⟩) rfl
  · cases hr
/-! impl.areFinite$1 -/
noncomputable def impl_areFinite_1_LO (v277 : Nat) : LOr := fun id e L =>
  match id with
  | _ => .fail
noncomputable def impl_areFinite_1_tab : List (FuncId × DFn × Bool) := [(103, impl_IsFinite_F, true)]
theorem impl_areFinite_1_hO : OrcOk Try.prog (tabD impl_areFinite_1_tab) (tabM impl_areFinite_1_tab) := tabD_cons impl_IsFinite_Fok (tabD_nil _)
noncomputable def impl_areFinite_1_T (v277 : Nat) : Tree (Bool) :=
  .leaf (!(impl_IsFinite_v v277))

noncomputable def impl_areFinite_1_g (v277 : Nat) : Option (Bool) := (impl_areFinite_1_T v277).run
def impl_areFinite_1_enc (v277 : Nat) (y : Bool) : Rs := (.bool y, [])
theorem impl_areFinite_1_den (v277 : Nat) : (den TT (tabD impl_areFinite_1_tab) (tabM impl_areFinite_1_tab) (impl_areFinite_1_LO v277) (codeOf Try.f165) ([.flt .f32 v277] ++ List.replicate (Try.f165.ntmps - ([.flt .f32 v277] : List DV).length) .undef) []).bind (retD TT Try.f165.results.toList 0) = (impl_areFinite_1_T v277).bind fun y => .leaf (impl_areFinite_1_enc v277 y) := by kernel_rfl
theorem impl_areFinite_1_fn (v277 : Nat) (F : Fr) (hm : F.ids.length = 0) (h0 : St F [] F.H0) (hA : DVs.Ok F [] [.flt .f32 v277]) {y : Bool} (hy : impl_areFinite_1_g v277 = some y) : ∃ H', FnOk Try.prog 165 (DVs.av F [.flt .f32 v277]) F.H0 ((impl_areFinite_1_enc v277 y).1.av F) H' ∧ St F (impl_areFinite_1_enc v277 y).2 H' ∧ (impl_areFinite_1_enc v277 y).1.Ok F (impl_areFinite_1_enc v277 y).2 :=
  fn_fin tok impl_areFinite_1_hO mixed Try.func165 Try.call165 (by kernel_rfl) (LoopsOk_eq (l := []) (by kernel_rfl) trivial) (impl_areFinite_1_den v277) hy hm h0 hA
def impl_areFinite_1_v (v277 : Nat) : Bool :=
  !(impl_IsFinite_v v277)
theorem impl_areFinite_1_tot (v277 : Nat) : impl_areFinite_1_g v277 = some (impl_areFinite_1_v v277) := by
  unfold impl_areFinite_1_g impl_areFinite_1_T impl_areFinite_1_v
  simp only [Tree.run]
  repeat' (first | rfl | split)
noncomputable def impl_areFinite_1_F : DFn := fun args L =>
  match args with
  | [.flt .f32 v277] =>
    .leaf (.bool (impl_areFinite_1_v v277), L)
  | _ => .fail
theorem impl_areFinite_1_Fok : COk Try.prog 165 impl_areFinite_1_F true := by
  intro F L H args r L' hs ha hr
  unfold impl_areFinite_1_F at hr
  split at hr
  · rename_i v277
    have hy := impl_areFinite_1_tot v277
    generalize impl_areFinite_1_v v277 = y at hy hr
    simp only [Tree.run, Option.some.injEq, Prod.mk.injEq] at hr
    obtain ⟨rfl, rfl⟩ := hr
    exact call_ok0 hs (fun k => (([] : List AV)[k]?).getD .top) [.flt .f32 v277] [.flt .f32 v277] (fun F' h0 hi hρ => ⟨by simp [DVs.av, DV.av, BR.av, hρ], impl_areFinite_1_fn v277 F' (by rw [hi]; rfl) (st_nil hi) ⟨trivial, trivial⟩ hy⟩) rfl
  · cases hr
/-! slices.IndexFunc[list of float32,float32] -/
noncomputable def slices_IndexFuncF_l0_T (v275 : List Nat) (s : Int) : Tree ((Int) ⊕ ((Int) ⊕ (Unit))) :=
  (.br (decide (s < ((v275.length : Nat) : Int))) (
   (.grd (inb s v275.length) <|
   (.br (impl_areFinite_1_v (nth v275 (Int.toNat s))) (
    .leaf (.inr (.inl s))
   ) (
    .leaf (.inl (IntKind.i64.wrap (s + (1 : Int))))
   )))
  ) (
   .leaf (.inr (.inr ()))
  ))

noncomputable def slices_IndexFuncF_l0_g (v275 : List Nat) (s0 : Int) : Option ((Int) ⊕ (Unit)) := whileM (fun s => (slices_IndexFuncF_l0_T v275 s).run) s0
def slices_IndexFuncF_l0_E (v275 : List Nat) (s : Int) : Sd := ([.bslc (BR.root 0) (.f32 v275), .fn 165 [], .top, .top, .top, .top, .top, .int .i64 ((v275.length : Nat) : Int), .int .i64 s, .top, .top, .top, .top, .top, .top, .top, .top, .top, .top], [])
def slices_IndexFuncF_l0_X (v275 : List Nat) (x : (Int) ⊕ (Unit)) : Out := (match x with | .inl x => (.ret, [.top, .top, .top, .top, .int .i64 x, .top, .top, .top, .top, .top, .top, .top, .top, .top, .top, .top, .top, .top, .top], []) | .inr x => (.normal, [.top, .top, .top, .top, .top, .top, .top, .top, .top, .top, .top, .top, .top, .top, .top, .top, .top, .top, .top], []))
def slices_IndexFuncF_l0_kill : List Nat := [0, 0, 1, 1, 1, 1, 1, 0, 0, 1, 1, 1, 1, 1, 1, 1, 1, 1, 1]
def slices_IndexFuncF_l0_nx : Exit → List Nat
  | .exit 0 => [1, 1, 1, 1, 1, 1, 1, 1, 1, 1, 1, 1, 1, 1, 1, 1, 1, 1, 1]
  | .ret => [1, 1, 1, 1, 0, 1, 1, 1, 1, 1, 1, 1, 1, 1, 1, 1, 1, 1, 1]
  | _ => []
noncomputable def slices_IndexFuncF_LO (v275 : List Nat) : LOr := fun id e L =>
  match id with
  | 0 => .need (normA 0 slices_IndexFuncF_l0_kill e L = some (slices_IndexFuncF_l0_E v275 (gI (vAt e 8)))) (.call (slices_IndexFuncF_l0_g v275 (gI (vAt e 8))) fun x => .sum x (fun b0 => .leaf (slices_IndexFuncF_l0_X v275 (.inl b0))) (fun c0 => .leaf (slices_IndexFuncF_l0_X v275 (.inr c0))))
  | _ => .fail
noncomputable def slices_IndexFuncF_tab : List (FuncId × DFn × Bool) := [(165, impl_areFinite_1_F, true)]
theorem slices_IndexFuncF_hO : OrcOk Try.prog (tabD slices_IndexFuncF_tab) (tabM slices_IndexFuncF_tab) := tabD_cons impl_areFinite_1_Fok (tabD_nil _)
theorem slices_IndexFuncF_l0_be (v275 : List Nat) (s : Int) : bodyT TT (tabD slices_IndexFuncF_tab) (tabM slices_IndexFuncF_tab) (slices_IndexFuncF_LO v275) 0 slices_IndexFuncF_l0_kill slices_IndexFuncF_l0_nx (bodyOf Try.f178 0) 0 (slices_IndexFuncF_l0_E v275 s) = (slices_IndexFuncF_l0_T v275 s).bind fun y => .leaf (outS (slices_IndexFuncF_l0_E v275) (slices_IndexFuncF_l0_X v275) y) := by kernel_rfl
theorem slices_IndexFuncF_l0_ok (v275 : List Nat) : LSound Try.prog 0 (slices_IndexFuncF_LO v275) 0 (bodyOf Try.f178 0) := by
  intro e L out h
  exact lo_ok (E := slices_IndexFuncF_l0_E v275) (gT := slices_IndexFuncF_l0_T v275) (X := slices_IndexFuncF_l0_X v275) (s0 := (gI (vAt e 8))) tok slices_IndexFuncF_hO mixed (LoopsOk_eq (l := []) (by kernel_rfl) trivial) (slices_IndexFuncF_l0_be v275) rfl (by intro x; (cases x with | inl b => rfl | inr x => exact rfl)) h
noncomputable def slices_IndexFuncF_T (v275 : List Nat) : Tree (Int) :=
  (.need (some (slices_IndexFuncF_l0_E v275 (0 : Int)) = some (slices_IndexFuncF_l0_E v275 (0 : Int))) <|
  (.call (slices_IndexFuncF_l0_g v275 (0 : Int)) fun v285 =>
  (.sum v285 (fun v286 =>
   .leaf v286
  ) (fun v287 =>
   .leaf (-1 : Int)
  ))))

noncomputable def slices_IndexFuncF_g (v275 : List Nat) : Option (Int) := (slices_IndexFuncF_T v275).run
def slices_IndexFuncF_enc (v275 : List Nat) (y : Int) : Rs := (.int .i64 y, [])
theorem slices_IndexFuncF_den (v275 : List Nat) : (den TT (tabD slices_IndexFuncF_tab) (tabM slices_IndexFuncF_tab) (slices_IndexFuncF_LO v275) (codeOf Try.f178) ([.bslc (BR.root 0) (.f32 v275), .fn 165 []] ++ List.replicate (Try.f178.ntmps - ([.bslc (BR.root 0) (.f32 v275), .fn 165 []] : List DV).length) .undef) []).bind (retD TT Try.f178.results.toList 0) = (slices_IndexFuncF_T v275).bind fun y => .leaf (slices_IndexFuncF_enc v275 y) := by kernel_rfl
theorem slices_IndexFuncF_fn (v275 : List Nat) (F : Fr) (hm : F.ids.length = 0) (h0 : St F [] F.H0) (hA : DVs.Ok F [] [.bslc (BR.root 0) (.f32 v275), .fn 165 []]) {y : Int} (hy : slices_IndexFuncF_g v275 = some y) : ∃ H', FnOk Try.prog 178 (DVs.av F [.bslc (BR.root 0) (.f32 v275), .fn 165 []]) F.H0 ((slices_IndexFuncF_enc v275 y).1.av F) H' ∧ St F (slices_IndexFuncF_enc v275 y).2 H' ∧ (slices_IndexFuncF_enc v275 y).1.Ok F (slices_IndexFuncF_enc v275 y).2 :=
  fn_fin tok slices_IndexFuncF_hO mixed Try.func178 Try.call178 (by kernel_rfl) (LoopsOk_eq (l := [(0, bodyOf Try.f178 0)]) (by kernel_rfl) ⟨slices_IndexFuncF_l0_ok v275, trivial⟩) (slices_IndexFuncF_den v275) hy hm h0 hA
noncomputable def slices_IndexFuncF_F : DFn := fun args L =>
  match args with
  | [a1, .fn 165 []] =>
    optT (rowF32 L a1) fun v275 =>
    .call (slices_IndexFuncF_g v275) fun y => .leaf (.int .i64 y, L)
  | _ => .fail
theorem slices_IndexFuncF_Fok : COk Try.prog 178 slices_IndexFuncF_F true := by
  intro F L H args r L' hs ha hr
  unfold slices_IndexFuncF_F at hr
  split at hr
  · rename_i a1
    obtain ⟨v275, hv275, hr⟩ := optT_run hr
    simp only [Tree.run] at hr
    obtain ⟨y, hy, hr⟩ := Option.bind_eq_some_iff.1 hr
    simp only [Tree.run, Option.some.injEq, Prod.mk.injEq] at hr
    obtain ⟨rfl, rfl⟩ := hr
    exact call_ok0 hs (fun k => (([a1.av F] : List AV)[k]?).getD .top) [a1, .fn 165 []] [.bslc (BR.root 0) (.f32 v275), .fn 165 []] (fun F' h0 hi hρ => ⟨by simp [DVs.av, DV.av, BR.av, hρ], slices_IndexFuncF_fn v275 F' (by rw [hi]; rfl) (st_nil hi) ⟨bslc_ok hi (by rw [h0, hρ]; exact rowF32_ok hs (DVs.okAt ha 0 rfl) hv275), trivial, trivial⟩ hy⟩) rfl
  · cases hr
/-! slices.ContainsFunc[list of float32,float32] -/
noncomputable def slices_ContainsFuncF_LO (v274 : List Nat) : LOr := fun id e L =>
  match id with
  | _ => .fail
noncomputable def slices_ContainsFuncF_tab : List (FuncId × DFn × Bool) := [(178, slices_IndexFuncF_F, true)]
theorem slices_ContainsFuncF_hO : OrcOk Try.prog (tabD slices_ContainsFuncF_tab) (tabM slices_ContainsFuncF_tab) := tabD_cons slices_IndexFuncF_Fok (tabD_nil _)
noncomputable def slices_ContainsFuncF_T (v274 : List Nat) : Tree (Bool) :=
  (.call (slices_IndexFuncF_g v274) fun v288 =>
  .leaf (decide ((0 : Int) ≤ v288)))

noncomputable def slices_ContainsFuncF_g (v274 : List Nat) : Option (Bool) := (slices_ContainsFuncF_T v274).run
def slices_ContainsFuncF_enc (v274 : List Nat) (y : Bool) : Rs := (.bool y, [])
theorem slices_ContainsFuncF_den (v274 : List Nat) : (den TT (tabD slices_ContainsFuncF_tab) (tabM slices_ContainsFuncF_tab) (slices_ContainsFuncF_LO v274) (codeOf Try.f164) ([.bslc (BR.root 0) (.f32 v274), .fn 165 []] ++ List.replicate (Try.f164.ntmps - ([.bslc (BR.root 0) (.f32 v274), .fn 165 []] : List DV).length) .undef) []).bind (retD TT Try.f164.results.toList 0) = (slices_ContainsFuncF_T v274).bind fun y => .leaf (slices_ContainsFuncF_enc v274 y) := by kernel_rfl
theorem slices_ContainsFuncF_fn (v274 : List Nat) (F : Fr) (hm : F.ids.length = 0) (h0 : St F [] F.H0) (hA : DVs.Ok F [] [.bslc (BR.root 0) (.f32 v274), .fn 165 []]) {y : Bool} (hy : slices_ContainsFuncF_g v274 = some y) : ∃ H', FnOk Try.prog 164 (DVs.av F [.bslc (BR.root 0) (.f32 v274), .fn 165 []]) F.H0 ((slices_ContainsFuncF_enc v274 y).1.av F) H' ∧ St F (slices_ContainsFuncF_enc v274 y).2 H' ∧ (slices_ContainsFuncF_enc v274 y).1.Ok F (slices_ContainsFuncF_enc v274 y).2 :=
  fn_fin tok slices_ContainsFuncF_hO mixed Try.func164 Try.call164 (by kernel_rfl) (LoopsOk_eq (l := []) (by kernel_rfl) trivial) (slices_ContainsFuncF_den v274) hy hm h0 hA
noncomputable def slices_ContainsFuncF_F : DFn := fun args L =>
  match args with
  | [a1, .fn 165 []] =>
    optT (rowF32 L a1) fun v274 =>
    .call (slices_ContainsFuncF_g v274) fun y => .leaf (.bool y, L)
  | _ => .fail
theorem slices_ContainsFuncF_Fok : COk Try.prog 164 slices_ContainsFuncF_F true := by
  intro F L H args r L' hs ha hr
  unfold slices_ContainsFuncF_F at hr
  split at hr
  · rename_i a1
    obtain ⟨v274, hv274, hr⟩ := optT_run hr
    simp only [Tree.run] at hr
    obtain ⟨y, hy, hr⟩ := Option.bind_eq_some_iff.1 hr
    simp only [Tree.run, Option.some.injEq, Prod.mk.injEq] at hr
    obtain ⟨rfl, rfl⟩ := hr
    exact call_ok0 hs (fun k => (([a1.av F] : List AV)[k]?).getD .top) [a1, .fn 165 []] [.bslc (BR.root 0) (.f32 v274), .fn 165 []] (fun F' h0 hi hρ => ⟨by simp [DVs.av, DV.av, BR.av, hρ], slices_ContainsFuncF_fn v274 F' (by rw [hi]; rfl) (st_nil hi) ⟨bslc_ok hi (by rw [h0, hρ]; exact rowF32_ok hs (DVs.okAt ha 0 rfl) hv274), trivial, trivial⟩ hy⟩) rfl
  · cases hr
/-! impl.areFinite -/
noncomputable def impl_areFinite_LO (v273 : List Nat) : LOr := fun id e L =>
  match id with
  | _ => .fail
noncomputable def impl_areFinite_tab : List (FuncId × DFn × Bool) := [(164, slices_ContainsFuncF_F, true)]
theorem impl_areFinite_hO : OrcOk Try.prog (tabD impl_areFinite_tab) (tabM impl_areFinite_tab) := tabD_cons slices_ContainsFuncF_Fok (tabD_nil _)
noncomputable def impl_areFinite_T (v273 : List Nat) : Tree (Bool) :=
  (.call (slices_ContainsFuncF_g v273) fun v289 =>
  .leaf (!v289))

noncomputable def impl_areFinite_g (v273 : List Nat) : Option (Bool) := (impl_areFinite_T v273).run
def impl_areFinite_enc (v273 : List Nat) (y : Bool) : Rs := (.bool y, [])
theorem impl_areFinite_den (v273 : List Nat) : (den TT (tabD impl_areFinite_tab) (tabM impl_areFinite_tab) (impl_areFinite_LO v273) (codeOf Try.f135) ([.bslc (BR.root 0) (.f32 v273)] ++ List.replicate (Try.f135.ntmps - ([.bslc (BR.root 0) (.f32 v273)] : List DV).length) .undef) []).bind (retD TT Try.f135.results.toList 0) = (impl_areFinite_T v273).bind fun y => .leaf (impl_areFinite_enc v273 y) := by kernel_rfl
theorem impl_areFinite_fn (v273 : List Nat) (F : Fr) (hm : F.ids.length = 0) (h0 : St F [] F.H0) (hA : DVs.Ok F [] [.bslc (BR.root 0) (.f32 v273)]) {y : Bool} (hy : impl_areFinite_g v273 = some y) : ∃ H', FnOk Try.prog 135 (DVs.av F [.bslc (BR.root 0) (.f32 v273)]) F.H0 ((impl_areFinite_enc v273 y).1.av F) H' ∧ St F (impl_areFinite_enc v273 y).2 H' ∧ (impl_areFinite_enc v273 y).1.Ok F (impl_areFinite_enc v273 y).2 :=
  fn_fin tok impl_areFinite_hO mixed Try.func135 Try.call135 (by kernel_rfl) (LoopsOk_eq (l := []) (by kernel_rfl) trivial) (impl_areFinite_den v273) hy hm h0 hA
noncomputable def impl_areFinite_F : DFn := fun args L =>
  match args with
  | [a1] =>
    optT (rowF32 L a1) fun v273 =>
    .call (impl_areFinite_g v273) fun y => .leaf (.bool y, L)
  | _ => .fail
theorem impl_areFinite_Fok : COk Try.prog 135 impl_areFinite_F true := by
  intro F L H args r L' hs ha hr
  unfold impl_areFinite_F at hr
  split at hr
  · rename_i a1
    obtain ⟨v273, hv273, hr⟩ := optT_run hr
    simp only [Tree.run] at hr
    obtain ⟨y, hy, hr⟩ := Option.bind_eq_some_iff.1 hr
    simp only [Tree.run, Option.some.injEq, Prod.mk.injEq] at hr
    obtain ⟨rfl, rfl⟩ := hr
    exact call_ok0 hs (fun k => (([a1.av F] : List AV)[k]?).getD .top) [a1] [.bslc (BR.root 0) (.f32 v273)] (fun F' h0 hi hρ => ⟨by simp [DVs.av, DV.av, BR.av, hρ], impl_areFinite_fn v273 F' (by rw [hi]; rfl) (st_nil hi) ⟨bslc_ok hi (by rw [h0, hρ]; exact rowF32_ok hs (DVs.okAt ha 0 rfl) hv273), trivial⟩ hy⟩) rfl
  · cases hr
end Go.Proofs.Ytjadfgeemfdbmaa.AM
