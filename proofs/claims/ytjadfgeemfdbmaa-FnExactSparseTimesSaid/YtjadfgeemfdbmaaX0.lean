/- Functions: what they come to. -/
import Derived.Test.YtjadfgeemfdbmaaBase
set_option maxRecDepth 100000
set_option maxHeartbeats 4000000
set_option linter.unusedSimpArgs false
set_option linter.unusedVariables false
namespace Go.Proofs.Ytjadfgeemfdbmaa.AM
open Go.Proofs
/-! laws.szInt64S -/
noncomputable def laws_szInt64S_LO (v11 : List Int) (v12 : Int) : LOr := fun id e L =>
  match id with
  | _ => .fail
noncomputable def laws_szInt64S_tab : List (FuncId × DFn × Bool) := []
theorem laws_szInt64S_hO : OrcOk Try.prog (tabD laws_szInt64S_tab) (tabM laws_szInt64S_tab) := tabD_nil _
noncomputable def laws_szInt64S_T (v11 : List Int) (v12 : Int) : Tree (Int) :=
  (.br (decide (IntKind.i64.wrap (v12 - ((v11.length : Nat) : Int)) < (0 : Int))) (
   .leaf (-1 : Int)
  ) (
   .leaf (IntKind.i64.wrap (v12 - ((v11.length : Nat) : Int)))
  ))

noncomputable def laws_szInt64S_g (v11 : List Int) (v12 : Int) : Option (Int) := (laws_szInt64S_T v11 v12).run
def laws_szInt64S_enc (v11 : List Int) (v12 : Int) (y : Int) : Rs := (.int .i64 y, [])
theorem laws_szInt64S_den (v11 : List Int) (v12 : Int) : (den TT (tabD laws_szInt64S_tab) (tabM laws_szInt64S_tab) (laws_szInt64S_LO v11 v12) (codeOf Try.f63) ([.bslc (BR.root 0) (.i64 v11), .int .i64 v12] ++ List.replicate (Try.f63.ntmps - ([.bslc (BR.root 0) (.i64 v11), .int .i64 v12] : List DV).length) .undef) []).bind (retD TT Try.f63.results.toList 0) = (laws_szInt64S_T v11 v12).bind fun y => .leaf (laws_szInt64S_enc v11 v12 y) := by kernel_rfl
theorem laws_szInt64S_fn (v11 : List Int) (v12 : Int) (F : Fr) (hm : F.ids.length = 0) (h0 : St F [] F.H0) (hA : DVs.Ok F [] [.bslc (BR.root 0) (.i64 v11), .int .i64 v12]) {y : Int} (hy : laws_szInt64S_g v11 v12 = some y) : ∃ H', FnOk Try.prog 63 (DVs.av F [.bslc (BR.root 0) (.i64 v11), .int .i64 v12]) F.H0 ((laws_szInt64S_enc v11 v12 y).1.av F) H' ∧ St F (laws_szInt64S_enc v11 v12 y).2 H' ∧ (laws_szInt64S_enc v11 v12 y).1.Ok F (laws_szInt64S_enc v11 v12 y).2 :=
  fn_fin tok laws_szInt64S_hO mixed Try.func63 Try.call63 (by kernel_rfl) (LoopsOk_eq (l := []) (by kernel_rfl) trivial) (laws_szInt64S_den v11 v12) hy hm h0 hA
def laws_szInt64S_v (v11 : List Int) (v12 : Int) : Int :=
  if (decide (IntKind.i64.wrap (v12 - ((v11.length : Nat) : Int)) < (0 : Int))) = true then (
   (-1 : Int)
  ) else (
   IntKind.i64.wrap (v12 - ((v11.length : Nat) : Int))
  )
theorem laws_szInt64S_tot (v11 : List Int) (v12 : Int) : laws_szInt64S_g v11 v12 = some (laws_szInt64S_v v11 v12) := by
  unfold laws_szInt64S_g laws_szInt64S_T laws_szInt64S_v
  simp only [Tree.run]
  repeat' (first | rfl | split)
noncomputable def laws_szInt64S_F : DFn := fun args L =>
  match args with
  | [a1, .int .i64 v12] =>
    optT (rowI64 L a1) fun v11 =>
    .leaf (.int .i64 (laws_szInt64S_v v11 v12), L)
  | _ => .fail
theorem laws_szInt64S_Fok : COk Try.prog 63 laws_szInt64S_F true := by
  intro F L H args r L' hs ha hr
  unfold laws_szInt64S_F at hr
  split at hr
  · rename_i a1 v12
    obtain ⟨v11, hv11, hr⟩ := optT_run hr
    have hy := laws_szInt64S_tot v11 v12
    generalize laws_szInt64S_v v11 v12 = y at hy hr
    simp only [Tree.run, Option.some.injEq, Prod.mk.injEq] at hr
    obtain ⟨rfl, rfl⟩ := hr
    exact call_ok0 hs (fun k => (([a1.av F] : List AV)[k]?).getD .top) [a1, .int .i64 v12] [.bslc (BR.root 0) (.i64 v11), .int .i64 v12] (fun F' h0 hi hρ => ⟨by simp [DVs.av, DV.av, BR.av, hρ], laws_szInt64S_fn v11 v12 F' (by rw [hi]; rfl) (st_nil hi) ⟨bslc_ok hi (by rw [h0, hρ]; exact rowI64_ok hs (DVs.okAt ha 0 rfl) hv11), trivial, trivial⟩ hy⟩) rfl
  · cases hr
/-! laws.szFloat32S -/
noncomputable def laws_szFloat32S_LO (v13 : List Nat) (v14 : Int) : LOr := fun id e L =>
  match id with
  | _ => .fail
noncomputable def laws_szFloat32S_tab : List (FuncId × DFn × Bool) := []
theorem laws_szFloat32S_hO : OrcOk Try.prog (tabD laws_szFloat32S_tab) (tabM laws_szFloat32S_tab) := tabD_nil _
noncomputable def laws_szFloat32S_T (v13 : List Nat) (v14 : Int) : Tree (Int) :=
  (.br (decide (IntKind.i64.wrap (v14 - ((v13.length : Nat) : Int)) < (0 : Int))) (
   .leaf (-1 : Int)
  ) (
   .leaf (IntKind.i64.wrap (v14 - ((v13.length : Nat) : Int)))
  ))

noncomputable def laws_szFloat32S_g (v13 : List Nat) (v14 : Int) : Option (Int) := (laws_szFloat32S_T v13 v14).run
def laws_szFloat32S_enc (v13 : List Nat) (v14 : Int) (y : Int) : Rs := (.int .i64 y, [])
theorem laws_szFloat32S_den (v13 : List Nat) (v14 : Int) : (den TT (tabD laws_szFloat32S_tab) (tabM laws_szFloat32S_tab) (laws_szFloat32S_LO v13 v14) (codeOf Try.f64) ([.bslc (BR.root 0) (.f32 v13), .int .i64 v14] ++ List.replicate (Try.f64.ntmps - ([.bslc (BR.root 0) (.f32 v13), .int .i64 v14] : List DV).length) .undef) []).bind (retD TT Try.f64.results.toList 0) = (laws_szFloat32S_T v13 v14).bind fun y => .leaf (laws_szFloat32S_enc v13 v14 y) := by kernel_rfl
theorem laws_szFloat32S_fn (v13 : List Nat) (v14 : Int) (F : Fr) (hm : F.ids.length = 0) (h0 : St F [] F.H0) (hA : DVs.Ok F [] [.bslc (BR.root 0) (.f32 v13), .int .i64 v14]) {y : Int} (hy : laws_szFloat32S_g v13 v14 = some y) : ∃ H', FnOk Try.prog 64 (DVs.av F [.bslc (BR.root 0) (.f32 v13), .int .i64 v14]) F.H0 ((laws_szFloat32S_enc v13 v14 y).1.av F) H' ∧ St F (laws_szFloat32S_enc v13 v14 y).2 H' ∧ (laws_szFloat32S_enc v13 v14 y).1.Ok F (laws_szFloat32S_enc v13 v14 y).2 :=
  fn_fin tok laws_szFloat32S_hO mixed Try.func64 Try.call64 (by kernel_rfl) (LoopsOk_eq (l := []) (by kernel_rfl) trivial) (laws_szFloat32S_den v13 v14) hy hm h0 hA
def laws_szFloat32S_v (v13 : List Nat) (v14 : Int) : Int :=
  if (decide (IntKind.i64.wrap (v14 - ((v13.length : Nat) : Int)) < (0 : Int))) = true then (
   (-1 : Int)
  ) else (
   IntKind.i64.wrap (v14 - ((v13.length : Nat) : Int))
  )
theorem laws_szFloat32S_tot (v13 : List Nat) (v14 : Int) : laws_szFloat32S_g v13 v14 = some (laws_szFloat32S_v v13 v14) := by
  unfold laws_szFloat32S_g laws_szFloat32S_T laws_szFloat32S_v
  simp only [Tree.run]
  repeat' (first | rfl | split)
noncomputable def laws_szFloat32S_F : DFn := fun args L =>
  match args with
  | [a1, .int .i64 v14] =>
    optT (rowF32 L a1) fun v13 =>
    .leaf (.int .i64 (laws_szFloat32S_v v13 v14), L)
  | _ => .fail
theorem laws_szFloat32S_Fok : COk Try.prog 64 laws_szFloat32S_F true := by
  intro F L H args r L' hs ha hr
  unfold laws_szFloat32S_F at hr
  split at hr
  · rename_i a1 v14
    obtain ⟨v13, hv13, hr⟩ := optT_run hr
    have hy := laws_szFloat32S_tot v13 v14
    generalize laws_szFloat32S_v v13 v14 = y at hy hr
    simp only [Tree.run, Option.some.injEq, Prod.mk.injEq] at hr
    obtain ⟨rfl, rfl⟩ := hr
    exact call_ok0 hs (fun k => (([a1.av F] : List AV)[k]?).getD .top) [a1, .int .i64 v14] [.bslc (BR.root 0) (.f32 v13), .int .i64 v14] (fun F' h0 hi hρ => ⟨by simp [DVs.av, DV.av, BR.av, hρ], laws_szFloat32S_fn v13 v14 F' (by rw [hi]; rfl) (st_nil hi) ⟨bslc_ok hi (by rw [h0, hρ]; exact rowF32_ok hs (DVs.okAt ha 0 rfl) hv13), trivial, trivial⟩ hy⟩) rfl
  · cases hr
/-! laws.szSparse -/
noncomputable def laws_szSparse_LO (v6 : Int) (v7 : List Int) (v8 : List Int) (v9 : List Nat) (v10 : Int) : LOr := fun id e L =>
  match id with
  | _ => .fail
noncomputable def laws_szSparse_tab : List (FuncId × DFn × Bool) := [(63, laws_szInt64S_F, true), (64, laws_szFloat32S_F, true)]
theorem laws_szSparse_hO : OrcOk Try.prog (tabD laws_szSparse_tab) (tabM laws_szSparse_tab) := tabD_cons laws_szInt64S_Fok (tabD_cons laws_szFloat32S_Fok (tabD_nil _))
noncomputable def laws_szSparse_T (v7 : List Int) (v8 : List Int) (v9 : List Nat) (v10 : Int) : Tree (Int) :=
  (.br (decide ((laws_szInt64S_v v7 v10) < (0 : Int))) (
   .leaf (-1 : Int)
  ) (
   (.br (decide ((laws_szInt64S_v v8 (laws_szInt64S_v v7 v10)) < (0 : Int))) (
    .leaf (-1 : Int)
   ) (
    (.br (decide ((laws_szFloat32S_v v9 (laws_szInt64S_v v8 (laws_szInt64S_v v7 v10))) < (0 : Int))) (
     .leaf (-1 : Int)
    ) (
     .leaf (laws_szFloat32S_v v9 (laws_szInt64S_v v8 (laws_szInt64S_v v7 v10)))
    ))
   ))
  ))

noncomputable def laws_szSparse_g (v7 : List Int) (v8 : List Int) (v9 : List Nat) (v10 : Int) : Option (Int) := (laws_szSparse_T v7 v8 v9 v10).run
def laws_szSparse_enc (v6 : Int) (v7 : List Int) (v8 : List Int) (v9 : List Nat) (v10 : Int) (y : Int) : Rs := (.int .i64 y, [])
theorem laws_szSparse_den (v6 : Int) (v7 : List Int) (v8 : List Int) (v9 : List Nat) (v10 : Int) : (den TT (tabD laws_szSparse_tab) (tabM laws_szSparse_tab) (laws_szSparse_LO v6 v7 v8 v9 v10) (codeOf Try.f15) ([.agg [.int .i64 v6, .bslc (BR.root 0) (.i64 v7), .bslc (BR.root 1) (.i64 v8), .bslc (BR.root 2) (.f32 v9)], .int .i64 v10] ++ List.replicate (Try.f15.ntmps - ([.agg [.int .i64 v6, .bslc (BR.root 0) (.i64 v7), .bslc (BR.root 1) (.i64 v8), .bslc (BR.root 2) (.f32 v9)], .int .i64 v10] : List DV).length) .undef) []).bind (retD TT Try.f15.results.toList 0) = (laws_szSparse_T v7 v8 v9 v10).bind fun y => .leaf (laws_szSparse_enc v6 v7 v8 v9 v10 y) := by kernel_rfl
theorem laws_szSparse_fn (v6 : Int) (v7 : List Int) (v8 : List Int) (v9 : List Nat) (v10 : Int) (F : Fr) (hm : F.ids.length = 0) (h0 : St F [] F.H0) (hA : DVs.Ok F [] [.agg [.int .i64 v6, .bslc (BR.root 0) (.i64 v7), .bslc (BR.root 1) (.i64 v8), .bslc (BR.root 2) (.f32 v9)], .int .i64 v10]) {y : Int} (hy : laws_szSparse_g v7 v8 v9 v10 = some y) : ∃ H', FnOk Try.prog 15 (DVs.av F [.agg [.int .i64 v6, .bslc (BR.root 0) (.i64 v7), .bslc (BR.root 1) (.i64 v8), .bslc (BR.root 2) (.f32 v9)], .int .i64 v10]) F.H0 ((laws_szSparse_enc v6 v7 v8 v9 v10 y).1.av F) H' ∧ St F (laws_szSparse_enc v6 v7 v8 v9 v10 y).2 H' ∧ (laws_szSparse_enc v6 v7 v8 v9 v10 y).1.Ok F (laws_szSparse_enc v6 v7 v8 v9 v10 y).2 :=
  fn_fin tok laws_szSparse_hO mixed Try.func15 Try.call15 (by kernel_rfl) (LoopsOk_eq (l := []) (by kernel_rfl) trivial) (laws_szSparse_den v6 v7 v8 v9 v10) hy hm h0 hA
def laws_szSparse_v (v7 : List Int) (v8 : List Int) (v9 : List Nat) (v10 : Int) : Int :=
  if (decide ((laws_szInt64S_v v7 v10) < (0 : Int))) = true then (
   (-1 : Int)
  ) else (
   if (decide ((laws_szInt64S_v v8 (laws_szInt64S_v v7 v10)) < (0 : Int))) = true then (
    (-1 : Int)
   ) else (
    if (decide ((laws_szFloat32S_v v9 (laws_szInt64S_v v8 (laws_szInt64S_v v7 v10))) < (0 : Int))) = true then (
     (-1 : Int)
    ) else (
     (laws_szFloat32S_v v9 (laws_szInt64S_v v8 (laws_szInt64S_v v7 v10)))
    )
   )
  )
theorem laws_szSparse_tot (v7 : List Int) (v8 : List Int) (v9 : List Nat) (v10 : Int) : laws_szSparse_g v7 v8 v9 v10 = some (laws_szSparse_v v7 v8 v9 v10) := by
  unfold laws_szSparse_g laws_szSparse_T laws_szSparse_v
  simp only [Tree.run]
  repeat' (first | rfl | split)
noncomputable def laws_szSparse_F : DFn := fun args L =>
  match args with
  | [.agg [.int .i64 v6, a1, a2, a3], .int .i64 v10] =>
    optT (rowI64 L a1) fun v7 =>
    optT (rowI64 L a2) fun v8 =>
    optT (rowF32 L a3) fun v9 =>
    .leaf (.int .i64 (laws_szSparse_v v7 v8 v9 v10), L)
  | _ => .fail
theorem laws_szSparse_Fok : COk Try.prog 15 laws_szSparse_F true := by
  intro F L H args r L' hs ha hr
  unfold laws_szSparse_F at hr
  split at hr
  · rename_i v6 a1 a2 a3 v10
    obtain ⟨v7, hv7, hr⟩ := optT_run hr
    obtain ⟨v8, hv8, hr⟩ := optT_run hr
    obtain ⟨v9, hv9, hr⟩ := optT_run hr
    have hy := laws_szSparse_tot v7 v8 v9 v10
    generalize laws_szSparse_v v7 v8 v9 v10 = y at hy hr
    simp only [Tree.run, Option.some.injEq, Prod.mk.injEq] at hr
    obtain ⟨rfl, rfl⟩ := hr
    exact call_ok0 hs (fun k => (([a1.av F, a2.av F, a3.av F] : List AV)[k]?).getD .top) [.agg [.int .i64 v6, a1, a2, a3], .int .i64 v10] [.agg [.int .i64 v6, .bslc (BR.root 0) (.i64 v7), .bslc (BR.root 1) (.i64 v8), .bslc (BR.root 2) (.f32 v9)], .int .i64 v10] (fun F' h0 hi hρ => ⟨by simp [DVs.av, DV.av, BR.av, hρ], laws_szSparse_fn v6 v7 v8 v9 v10 F' (by rw [hi]; rfl) (st_nil hi) ⟨⟨trivial, bslc_ok hi (by rw [h0, hρ]; exact rowI64_ok hs (DVs.okAt (DVs.okAt ha 0 rfl) 1 rfl) hv7), bslc_ok hi (by rw [h0, hρ]; exact rowI64_ok hs (DVs.okAt (DVs.okAt ha 0 rfl) 2 rfl) hv8), bslc_ok hi (by rw [h0, hρ]; exact rowF32_ok hs (DVs.okAt (DVs.okAt ha 0 rfl) 3 rfl) hv9), trivial⟩, trivial, trivial⟩ hy⟩) rfl
  · cases hr
/-! laws.toInt64S -/
noncomputable def laws_toInt64S_l0_T (v19 : List Int) (s : Int × (List Int)) : Tree ((Int × (List Int)) ⊕ ((List Int))) :=
  (.br (decide (s.1 < ((v19.length : Nat) : Int))) (
   (.grd (inb s.1 v19.length) <|
   (.grd (inb s.1 ((s.2).length)) <|
   .leaf (.inl (IntKind.i64.wrap (s.1 + (1 : Int)), List.set s.2 (Int.toNat s.1) (nth v19 (Int.toNat s.1))))))
  ) (
   .leaf (.inr s.2)
  ))

noncomputable def laws_toInt64S_l0_g (v19 : List Int) (s0 : Int × (List Int)) : Option ((List Int)) := whileM (fun s => (laws_toInt64S_l0_T v19 s).run) s0
def laws_toInt64S_l0_E (v19 : List Int) (s : Int × (List Int)) : Sd := ([.bslc (BR.root 0) (.i64 v19), .top, .top, .own 0 0 ((s.2).length), .int .i64 s.1, .top, .top, .top, .top, .top, .top, .top, .top, .top, .top, .top, .top, .top, .top, .top, .top, .top], [.row (.i64 s.2) 0])
def laws_toInt64S_l0_X (v19 : List Int) (x : (List Int)) : Out := (.normal, [.top, .top, .top, .own 0 0 ((x).length), .top, .top, .top, .top, .top, .top, .top, .top, .top, .top, .top, .top, .top, .top, .top, .top, .top, .top], [.row (.i64 x) 0])
def laws_toInt64S_l0_kill : List Nat := [0, 1, 1, 0, 0, 1, 1, 1, 1, 1, 1, 1, 1, 1, 1, 1, 1, 1, 1, 1, 1, 1]
def laws_toInt64S_l0_nx : Exit → List Nat
  | .exit 0 => [1, 1, 1, 0, 1, 1, 1, 1, 1, 1, 1, 1, 1, 1, 1, 1, 1, 1, 1, 1, 1, 1]
  | .ret => [1, 1, 0, 1, 1, 1, 1, 1, 1, 1, 1, 1, 1, 1, 1, 1, 1, 1, 1, 1, 1, 1]
  | _ => []
noncomputable def laws_toInt64S_LO (v19 : List Int) : LOr := fun id e L =>
  match id with
  | 0 => .need (normA 0 laws_toInt64S_l0_kill e L = some (laws_toInt64S_l0_E v19 ((gI (vAt e 4)), (gRI L (vAt e 3))))) (.call (laws_toInt64S_l0_g v19 ((gI (vAt e 4)), (gRI L (vAt e 3)))) fun x => .leaf (laws_toInt64S_l0_X v19 x))
  | _ => .fail
noncomputable def laws_toInt64S_tab : List (FuncId × DFn × Bool) := []
theorem laws_toInt64S_hO : OrcOk Try.prog (tabD laws_toInt64S_tab) (tabM laws_toInt64S_tab) := tabD_nil _
theorem laws_toInt64S_l0_be (v19 : List Int) (s : Int × (List Int)) : bodyT TT (tabD laws_toInt64S_tab) (tabM laws_toInt64S_tab) (laws_toInt64S_LO v19) 0 laws_toInt64S_l0_kill laws_toInt64S_l0_nx (bodyOf Try.f42 0) 0 (laws_toInt64S_l0_E v19 s) = (laws_toInt64S_l0_T v19 s).bind fun y => .leaf (outS (laws_toInt64S_l0_E v19) (laws_toInt64S_l0_X v19) y) := by kernel_rfl
theorem laws_toInt64S_l0_ok (v19 : List Int) : LSound Try.prog 0 (laws_toInt64S_LO v19) 0 (bodyOf Try.f42 0) := by
  intro e L out h
  exact lo_ok (E := laws_toInt64S_l0_E v19) (gT := laws_toInt64S_l0_T v19) (X := laws_toInt64S_l0_X v19) (s0 := ((gI (vAt e 4)), (gRI L (vAt e 3)))) tok laws_toInt64S_hO mixed (LoopsOk_eq (l := []) (by kernel_rfl) trivial) (laws_toInt64S_l0_be v19) rfl (by intro x; rfl) h
noncomputable def laws_toInt64S_T (v19 : List Int) : Tree ((List Int)) :=
  (.need (((v19.length : Nat) : Int) = ((v19.length : Nat) : Int)) <|
  (.grd (inb ((v19.length : Nat) : Int) (maxN + 1)) <|
  (.need (some (laws_toInt64S_l0_E v19 ((0 : Int), List.replicate (Int.toNat ((v19.length : Nat) : Int)) (0 : Int))) = some (laws_toInt64S_l0_E v19 ((0 : Int), List.replicate (Int.toNat ((v19.length : Nat) : Int)) (0 : Int)))) <|
  (.call (laws_toInt64S_l0_g v19 ((0 : Int), List.replicate (Int.toNat ((v19.length : Nat) : Int)) (0 : Int))) fun v25 =>
  .leaf v25))))

noncomputable def laws_toInt64S_g (v19 : List Int) : Option ((List Int)) := (laws_toInt64S_T v19).run
def laws_toInt64S_enc (v19 : List Int) (y : (List Int)) : Rs := (.own 0 0 ((y).length), [.row (.i64 y) 0])
theorem laws_toInt64S_den (v19 : List Int) : (den TT (tabD laws_toInt64S_tab) (tabM laws_toInt64S_tab) (laws_toInt64S_LO v19) (codeOf Try.f42) ([.bslc (BR.root 0) (.i64 v19)] ++ List.replicate (Try.f42.ntmps - ([.bslc (BR.root 0) (.i64 v19)] : List DV).length) .undef) []).bind (retD TT Try.f42.results.toList 0) = (laws_toInt64S_T v19).bind fun y => .leaf (laws_toInt64S_enc v19 y) := by kernel_rfl
theorem laws_toInt64S_fn (v19 : List Int) (F : Fr) (hm : F.ids.length = 0) (h0 : St F [] F.H0) (hA : DVs.Ok F [] [.bslc (BR.root 0) (.i64 v19)]) {y : (List Int)} (hy : laws_toInt64S_g v19 = some y) : ∃ H', FnOk Try.prog 42 (DVs.av F [.bslc (BR.root 0) (.i64 v19)]) F.H0 ((laws_toInt64S_enc v19 y).1.av F) H' ∧ St F (laws_toInt64S_enc v19 y).2 H' ∧ (laws_toInt64S_enc v19 y).1.Ok F (laws_toInt64S_enc v19 y).2 :=
  fn_fin tok laws_toInt64S_hO mixed Try.func42 Try.call42 (by kernel_rfl) (LoopsOk_eq (l := [(0, bodyOf Try.f42 0)]) (by kernel_rfl) ⟨laws_toInt64S_l0_ok v19, trivial⟩) (laws_toInt64S_den v19) hy hm h0 hA
noncomputable def laws_toInt64S_F : DFn := fun args L =>
  match args with
  | [a1] =>
    optT (rowI64 L a1) fun v19 =>
    .call (laws_toInt64S_g v19) fun y => .leaf (.own (L.length + 0) 0 ((y).length), L ++ [.row (.i64 y) 0])
  | _ => .fail
theorem laws_toInt64S_Fok : COk Try.prog 42 laws_toInt64S_F true := by
  intro F L H args r L' hs ha hr
  unfold laws_toInt64S_F at hr
  split at hr
  · rename_i a1
    obtain ⟨v19, hv19, hr⟩ := optT_run hr
    simp only [Tree.run] at hr
    obtain ⟨y, hy, hr⟩ := Option.bind_eq_some_iff.1 hr
    simp only [Tree.run, Option.some.injEq, Prod.mk.injEq] at hr
    obtain ⟨rfl, rfl⟩ := hr
    exact call_ok1 hs (fun k => (([a1.av F] : List AV)[k]?).getD .top) [a1] [.bslc (BR.root 0) (.i64 v19)] (fun F' h0 hi hρ => ⟨by simp [DVs.av, DV.av, BR.av, hρ], laws_toInt64S_fn v19 F' (by rw [hi]; rfl) (st_nil hi) ⟨bslc_ok hi (by rw [h0, hρ]; exact rowI64_ok hs (DVs.okAt ha 0 rfl) hv19), trivial⟩ hy⟩) rfl rfl
  · cases hr
/-! laws.toFloat32S -/
noncomputable def laws_toFloat32S_l0_T (v28 : List Nat) (s : Int × (List Nat)) : Tree ((Int × (List Nat)) ⊕ ((List Nat))) :=
  (.br (decide (s.1 < ((v28.length : Nat) : Int))) (
   (.grd (inb s.1 v28.length) <|
   (.grd (inb s.1 ((s.2).length)) <|
   .leaf (.inl (IntKind.i64.wrap (s.1 + (1 : Int)), List.set s.2 (Int.toNat s.1) (nth v28 (Int.toNat s.1))))))
  ) (
   .leaf (.inr s.2)
  ))

noncomputable def laws_toFloat32S_l0_g (v28 : List Nat) (s0 : Int × (List Nat)) : Option ((List Nat)) := whileM (fun s => (laws_toFloat32S_l0_T v28 s).run) s0
def laws_toFloat32S_l0_E (v28 : List Nat) (s : Int × (List Nat)) : Sd := ([.bslc (BR.root 0) (.f32 v28), .top, .top, .own 0 0 ((s.2).length), .int .i64 s.1, .top, .top, .top, .top, .top, .top, .top, .top, .top, .top, .top, .top, .top, .top, .top, .top, .top], [.row (.f32 s.2) 0])
def laws_toFloat32S_l0_X (v28 : List Nat) (x : (List Nat)) : Out := (.normal, [.top, .top, .top, .own 0 0 ((x).length), .top, .top, .top, .top, .top, .top, .top, .top, .top, .top, .top, .top, .top, .top, .top, .top, .top, .top], [.row (.f32 x) 0])
def laws_toFloat32S_l0_kill : List Nat := [0, 1, 1, 0, 0, 1, 1, 1, 1, 1, 1, 1, 1, 1, 1, 1, 1, 1, 1, 1, 1, 1]
def laws_toFloat32S_l0_nx : Exit → List Nat
  | .exit 0 => [1, 1, 1, 0, 1, 1, 1, 1, 1, 1, 1, 1, 1, 1, 1, 1, 1, 1, 1, 1, 1, 1]
  | .ret => [1, 1, 0, 1, 1, 1, 1, 1, 1, 1, 1, 1, 1, 1, 1, 1, 1, 1, 1, 1, 1, 1]
  | _ => []
noncomputable def laws_toFloat32S_LO (v28 : List Nat) : LOr := fun id e L =>
  match id with
  | 0 => .need (normA 0 laws_toFloat32S_l0_kill e L = some (laws_toFloat32S_l0_E v28 ((gI (vAt e 4)), (gRF L (vAt e 3))))) (.call (laws_toFloat32S_l0_g v28 ((gI (vAt e 4)), (gRF L (vAt e 3)))) fun x => .leaf (laws_toFloat32S_l0_X v28 x))
  | _ => .fail
noncomputable def laws_toFloat32S_tab : List (FuncId × DFn × Bool) := []
theorem laws_toFloat32S_hO : OrcOk Try.prog (tabD laws_toFloat32S_tab) (tabM laws_toFloat32S_tab) := tabD_nil _
theorem laws_toFloat32S_l0_be (v28 : List Nat) (s : Int × (List Nat)) : bodyT TT (tabD laws_toFloat32S_tab) (tabM laws_toFloat32S_tab) (laws_toFloat32S_LO v28) 0 laws_toFloat32S_l0_kill laws_toFloat32S_l0_nx (bodyOf Try.f18 0) 0 (laws_toFloat32S_l0_E v28 s) = (laws_toFloat32S_l0_T v28 s).bind fun y => .leaf (outS (laws_toFloat32S_l0_E v28) (laws_toFloat32S_l0_X v28) y) := by kernel_rfl
theorem laws_toFloat32S_l0_ok (v28 : List Nat) : LSound Try.prog 0 (laws_toFloat32S_LO v28) 0 (bodyOf Try.f18 0) := by
  intro e L out h
  exact lo_ok (E := laws_toFloat32S_l0_E v28) (gT := laws_toFloat32S_l0_T v28) (X := laws_toFloat32S_l0_X v28) (s0 := ((gI (vAt e 4)), (gRF L (vAt e 3)))) tok laws_toFloat32S_hO mixed (LoopsOk_eq (l := []) (by kernel_rfl) trivial) (laws_toFloat32S_l0_be v28) rfl (by intro x; rfl) h
noncomputable def laws_toFloat32S_T (v28 : List Nat) : Tree ((List Nat)) :=
  (.need (((v28.length : Nat) : Int) = ((v28.length : Nat) : Int)) <|
  (.grd (inb ((v28.length : Nat) : Int) (maxN + 1)) <|
  (.need (some (laws_toFloat32S_l0_E v28 ((0 : Int), List.replicate (Int.toNat ((v28.length : Nat) : Int)) (0 : Nat))) = some (laws_toFloat32S_l0_E v28 ((0 : Int), List.replicate (Int.toNat ((v28.length : Nat) : Int)) (0 : Nat)))) <|
  (.call (laws_toFloat32S_l0_g v28 ((0 : Int), List.replicate (Int.toNat ((v28.length : Nat) : Int)) (0 : Nat))) fun v34 =>
  .leaf v34))))

noncomputable def laws_toFloat32S_g (v28 : List Nat) : Option ((List Nat)) := (laws_toFloat32S_T v28).run
def laws_toFloat32S_enc (v28 : List Nat) (y : (List Nat)) : Rs := (.own 0 0 ((y).length), [.row (.f32 y) 0])
theorem laws_toFloat32S_den (v28 : List Nat) : (den TT (tabD laws_toFloat32S_tab) (tabM laws_toFloat32S_tab) (laws_toFloat32S_LO v28) (codeOf Try.f18) ([.bslc (BR.root 0) (.f32 v28)] ++ List.replicate (Try.f18.ntmps - ([.bslc (BR.root 0) (.f32 v28)] : List DV).length) .undef) []).bind (retD TT Try.f18.results.toList 0) = (laws_toFloat32S_T v28).bind fun y => .leaf (laws_toFloat32S_enc v28 y) := by kernel_rfl
theorem laws_toFloat32S_fn (v28 : List Nat) (F : Fr) (hm : F.ids.length = 0) (h0 : St F [] F.H0) (hA : DVs.Ok F [] [.bslc (BR.root 0) (.f32 v28)]) {y : (List Nat)} (hy : laws_toFloat32S_g v28 = some y) : ∃ H', FnOk Try.prog 18 (DVs.av F [.bslc (BR.root 0) (.f32 v28)]) F.H0 ((laws_toFloat32S_enc v28 y).1.av F) H' ∧ St F (laws_toFloat32S_enc v28 y).2 H' ∧ (laws_toFloat32S_enc v28 y).1.Ok F (laws_toFloat32S_enc v28 y).2 :=
  fn_fin tok laws_toFloat32S_hO mixed Try.func18 Try.call18 (by kernel_rfl) (LoopsOk_eq (l := [(0, bodyOf Try.f18 0)]) (by kernel_rfl) ⟨laws_toFloat32S_l0_ok v28, trivial⟩) (laws_toFloat32S_den v28) hy hm h0 hA
noncomputable def laws_toFloat32S_F : DFn := fun args L =>
  match args with
  | [a1] =>
    optT (rowF32 L a1) fun v28 =>
    .call (laws_toFloat32S_g v28) fun y => .leaf (.own (L.length + 0) 0 ((y).length), L ++ [.row (.f32 y) 0])
  | _ => .fail
theorem laws_toFloat32S_Fok : COk Try.prog 18 laws_toFloat32S_F true := by
  intro F L H args r L' hs ha hr
  unfold laws_toFloat32S_F at hr
  split at hr
  · rename_i a1
    obtain ⟨v28, hv28, hr⟩ := optT_run hr
    simp only [Tree.run] at hr
    obtain ⟨y, hy, hr⟩ := Option.bind_eq_some_iff.1 hr
    simp only [Tree.run, Option.some.injEq, Prod.mk.injEq] at hr
    obtain ⟨rfl, rfl⟩ := hr
    exact call_ok1 hs (fun k => (([a1.av F] : List AV)[k]?).getD .top) [a1] [.bslc (BR.root 0) (.f32 v28)] (fun F' h0 hi hρ => ⟨by simp [DVs.av, DV.av, BR.av, hρ], laws_toFloat32S_fn v28 F' (by rw [hi]; rfl) (st_nil hi) ⟨bslc_ok hi (by rw [h0, hρ]; exact rowF32_ok hs (DVs.okAt ha 0 rfl) hv28), trivial⟩ hy⟩) rfl rfl
  · cases hr
/-! laws.toSparse -/
noncomputable def laws_toSparse_LO (v15 : Int) (v16 : List Int) (v17 : List Int) (v18 : List Nat) : LOr := fun id e L =>
  match id with
  | _ => .fail
noncomputable def laws_toSparse_tab : List (FuncId × DFn × Bool) := [(42, laws_toInt64S_F, true), (18, laws_toFloat32S_F, true)]
theorem laws_toSparse_hO : OrcOk Try.prog (tabD laws_toSparse_tab) (tabM laws_toSparse_tab) := tabD_cons laws_toInt64S_Fok (tabD_cons laws_toFloat32S_Fok (tabD_nil _))
noncomputable def laws_toSparse_T (v15 : Int) (v16 : List Int) (v17 : List Int) (v18 : List Nat) : Tree (Int × (List Int) × (List Int) × (List Nat)) :=
  (.call (laws_toInt64S_g v16) fun v26 =>
  (.call (laws_toInt64S_g v17) fun v27 =>
  (.call (laws_toFloat32S_g v18) fun v35 =>
  .leaf (v15, v26, v27, v35))))

noncomputable def laws_toSparse_g (v15 : Int) (v16 : List Int) (v17 : List Int) (v18 : List Nat) : Option (Int × (List Int) × (List Int) × (List Nat)) := (laws_toSparse_T v15 v16 v17 v18).run
def laws_toSparse_enc (v15 : Int) (v16 : List Int) (v17 : List Int) (v18 : List Nat) (y : Int × (List Int) × (List Int) × (List Nat)) : Rs := (.agg [.int .i64 y.1, .own 0 0 ((y.2.1).length), .own 1 0 ((y.2.2.1).length), .own 2 0 ((y.2.2.2).length)], [.row (.i64 y.2.1) 0, .row (.i64 y.2.2.1) 0, .row (.f32 y.2.2.2) 0])
theorem laws_toSparse_den (v15 : Int) (v16 : List Int) (v17 : List Int) (v18 : List Nat) : (den TT (tabD laws_toSparse_tab) (tabM laws_toSparse_tab) (laws_toSparse_LO v15 v16 v17 v18) (codeOf Try.f17) ([.agg [.int .i64 v15, .bslc (BR.root 0) (.i64 v16), .bslc (BR.root 1) (.i64 v17), .bslc (BR.root 2) (.f32 v18)]] ++ List.replicate (Try.f17.ntmps - ([.agg [.int .i64 v15, .bslc (BR.root 0) (.i64 v16), .bslc (BR.root 1) (.i64 v17), .bslc (BR.root 2) (.f32 v18)]] : List DV).length) .undef) []).bind (retD TT Try.f17.results.toList 0) = (laws_toSparse_T v15 v16 v17 v18).bind fun y => .leaf (laws_toSparse_enc v15 v16 v17 v18 y) := by kernel_rfl
theorem laws_toSparse_fn (v15 : Int) (v16 : List Int) (v17 : List Int) (v18 : List Nat) (F : Fr) (hm : F.ids.length = 0) (h0 : St F [] F.H0) (hA : DVs.Ok F [] [.agg [.int .i64 v15, .bslc (BR.root 0) (.i64 v16), .bslc (BR.root 1) (.i64 v17), .bslc (BR.root 2) (.f32 v18)]]) {y : Int × (List Int) × (List Int) × (List Nat)} (hy : laws_toSparse_g v15 v16 v17 v18 = some y) : ∃ H', FnOk Try.prog 17 (DVs.av F [.agg [.int .i64 v15, .bslc (BR.root 0) (.i64 v16), .bslc (BR.root 1) (.i64 v17), .bslc (BR.root 2) (.f32 v18)]]) F.H0 ((laws_toSparse_enc v15 v16 v17 v18 y).1.av F) H' ∧ St F (laws_toSparse_enc v15 v16 v17 v18 y).2 H' ∧ (laws_toSparse_enc v15 v16 v17 v18 y).1.Ok F (laws_toSparse_enc v15 v16 v17 v18 y).2 :=
  fn_fin tok laws_toSparse_hO mixed Try.func17 Try.call17 (by kernel_rfl) (LoopsOk_eq (l := []) (by kernel_rfl) trivial) (laws_toSparse_den v15 v16 v17 v18) hy hm h0 hA
noncomputable def laws_toSparse_F : DFn := fun args L =>
  match args with
  | [.agg [.int .i64 v15, a1, a2, a3]] =>
    optT (rowI64 L a1) fun v16 =>
    optT (rowI64 L a2) fun v17 =>
    optT (rowF32 L a3) fun v18 =>
    .call (laws_toSparse_g v15 v16 v17 v18) fun y => .leaf (.agg [.int .i64 y.1, .own (L.length + 0) 0 ((y.2.1).length), .own (L.length + 1) 0 ((y.2.2.1).length), .own (L.length + 2) 0 ((y.2.2.2).length)], L ++ [.row (.i64 y.2.1) 0, .row (.i64 y.2.2.1) 0, .row (.f32 y.2.2.2) 0])
  | _ => .fail
theorem laws_toSparse_Fok : COk Try.prog 17 laws_toSparse_F true := by
  intro F L H args r L' hs ha hr
  unfold laws_toSparse_F at hr
  split at hr
  · rename_i v15 a1 a2 a3
    obtain ⟨v16, hv16, hr⟩ := optT_run hr
    obtain ⟨v17, hv17, hr⟩ := optT_run hr
    obtain ⟨v18, hv18, hr⟩ := optT_run hr
    simp only [Tree.run] at hr
    obtain ⟨y, hy, hr⟩ := Option.bind_eq_some_iff.1 hr
    simp only [Tree.run, Option.some.injEq, Prod.mk.injEq] at hr
    obtain ⟨rfl, rfl⟩ := hr
    exact call_ok1 hs (fun k => (([a1.av F, a2.av F, a3.av F] : List AV)[k]?).getD .top) [.agg [.int .i64 v15, a1, a2, a3]] [.agg [.int .i64 v15, .bslc (BR.root 0) (.i64 v16), .bslc (BR.root 1) (.i64 v17), .bslc (BR.root 2) (.f32 v18)]] (fun F' h0 hi hρ => ⟨by simp [DVs.av, DV.av, BR.av, hρ], laws_toSparse_fn v15 v16 v17 v18 F' (by rw [hi]; rfl) (st_nil hi) ⟨⟨trivial, bslc_ok hi (by rw [h0, hρ]; exact rowI64_ok hs (DVs.okAt (DVs.okAt ha 0 rfl) 1 rfl) hv16), bslc_ok hi (by rw [h0, hρ]; exact rowI64_ok hs (DVs.okAt (DVs.okAt ha 0 rfl) 2 rfl) hv17), bslc_ok hi (by rw [h0, hρ]; exact rowF32_ok hs (DVs.okAt (DVs.okAt ha 0 rfl) 3 rfl) hv18), trivial⟩, trivial⟩ hy⟩) rfl rfl
  · cases hr
/-! spec.l00In -/
noncomputable def spec_l00In_LO (v52 : Int) (v53 : Int) (v54 : Int) : LOr := fun id e L =>
  match id with
  | _ => .fail
noncomputable def spec_l00In_tab : List (FuncId × DFn × Bool) := []
theorem spec_l00In_hO : OrcOk Try.prog (tabD spec_l00In_tab) (tabM spec_l00In_tab) := tabD_nil _
noncomputable def spec_l00In_T (v52 : Int) (v53 : Int) (v54 : Int) : Tree (Bool) :=
  (.br (decide (v53 ≤ v52)) (
   .leaf (decide (v52 ≤ v54))
  ) (
   .leaf false
  ))

noncomputable def spec_l00In_g (v52 : Int) (v53 : Int) (v54 : Int) : Option (Bool) := (spec_l00In_T v52 v53 v54).run
def spec_l00In_enc (v52 : Int) (v53 : Int) (v54 : Int) (y : Bool) : Rs := (.bool y, [])
theorem spec_l00In_den (v52 : Int) (v53 : Int) (v54 : Int) : (den TT (tabD spec_l00In_tab) (tabM spec_l00In_tab) (spec_l00In_LO v52 v53 v54) (codeOf Try.f71) ([.int .i64 v52, .int .i64 v53, .int .i64 v54] ++ List.replicate (Try.f71.ntmps - ([.int .i64 v52, .int .i64 v53, .int .i64 v54] : List DV).length) .undef) []).bind (retD TT Try.f71.results.toList 0) = (spec_l00In_T v52 v53 v54).bind fun y => .leaf (spec_l00In_enc v52 v53 v54 y) := by kernel_rfl
theorem spec_l00In_fn (v52 : Int) (v53 : Int) (v54 : Int) (F : Fr) (hm : F.ids.length = 0) (h0 : St F [] F.H0) (hA : DVs.Ok F [] [.int .i64 v52, .int .i64 v53, .int .i64 v54]) {y : Bool} (hy : spec_l00In_g v52 v53 v54 = some y) : ∃ H', FnOk Try.prog 71 (DVs.av F [.int .i64 v52, .int .i64 v53, .int .i64 v54]) F.H0 ((spec_l00In_enc v52 v53 v54 y).1.av F) H' ∧ St F (spec_l00In_enc v52 v53 v54 y).2 H' ∧ (spec_l00In_enc v52 v53 v54 y).1.Ok F (spec_l00In_enc v52 v53 v54 y).2 :=
  fn_fin tok spec_l00In_hO mixed Try.func71 Try.call71 (by kernel_rfl) (LoopsOk_eq (l := []) (by kernel_rfl) trivial) (spec_l00In_den v52 v53 v54) hy hm h0 hA
def spec_l00In_v (v52 : Int) (v53 : Int) (v54 : Int) : Bool :=
  if (decide (v53 ≤ v52)) = true then (
   decide (v52 ≤ v54)
  ) else (
   false
  )
theorem spec_l00In_tot (v52 : Int) (v53 : Int) (v54 : Int) : spec_l00In_g v52 v53 v54 = some (spec_l00In_v v52 v53 v54) := by
  unfold spec_l00In_g spec_l00In_T spec_l00In_v
  simp only [Tree.run]
  repeat' (first | rfl | split)
noncomputable def spec_l00In_F : DFn := fun args L =>
  match args with
  | [.int .i64 v52, .int .i64 v53, .int .i64 v54] =>
    .leaf (.bool (spec_l00In_v v52 v53 v54), L)
  | _ => .fail
theorem spec_l00In_Fok : COk Try.prog 71 spec_l00In_F true := by
  intro F L H args r L' hs ha hr
  unfold spec_l00In_F at hr
  split at hr
  · rename_i v52 v53 v54
    have hy := spec_l00In_tot v52 v53 v54
    generalize spec_l00In_v v52 v53 v54 = y at hy hr
    simp only [Tree.run, Option.some.injEq, Prod.mk.injEq] at hr
    obtain ⟨rfl, rfl⟩ := hr
    exact call_ok0 hs (fun k => (([] : List AV)[k]?).getD .top) [.int .i64 v52, .int .i64 v53, .int .i64 v54] [.int .i64 v52, .int .i64 v53, .int .i64 v54] (fun F' h0 hi hρ => ⟨by simp [DVs.av, DV.av, BR.av, hρ], spec_l00In_fn v52 v53 v54 F' (by rw [hi]; rfl) (st_nil hi) ⟨trivial, trivial, trivial, trivial⟩ hy⟩) rfl
  · cases hr
/-! spec.l01Finite -/
noncomputable def spec_l01Finite_LO (v57 : Nat) : LOr := fun id e L =>
  match id with
  | _ => .fail
noncomputable def spec_l01Finite_tab : List (FuncId × DFn × Bool) := []
theorem spec_l01Finite_hO : OrcOk Try.prog (tabD spec_l01Finite_tab) (tabM spec_l01Finite_tab) := tabD_nil _
noncomputable def spec_l01Finite_T (v57 : Nat) : Tree (Bool) :=
  .leaf (feq .f32 (fsub .f32 v57 v57) (0 : Nat))

noncomputable def spec_l01Finite_g (v57 : Nat) : Option (Bool) := (spec_l01Finite_T v57).run
def spec_l01Finite_enc (v57 : Nat) (y : Bool) : Rs := (.bool y, [])
theorem spec_l01Finite_den (v57 : Nat) : (den TT (tabD spec_l01Finite_tab) (tabM spec_l01Finite_tab) (spec_l01Finite_LO v57) (codeOf Try.f100) ([.flt .f32 v57] ++ List.replicate (Try.f100.ntmps - ([.flt .f32 v57] : List DV).length) .undef) []).bind (retD TT Try.f100.results.toList 0) = (spec_l01Finite_T v57).bind fun y => .leaf (spec_l01Finite_enc v57 y) := by kernel_rfl
theorem spec_l01Finite_fn (v57 : Nat) (F : Fr) (hm : F.ids.length = 0) (h0 : St F [] F.H0) (hA : DVs.Ok F [] [.flt .f32 v57]) {y : Bool} (hy : spec_l01Finite_g v57 = some y) : ∃ H', FnOk Try.prog 100 (DVs.av F [.flt .f32 v57]) F.H0 ((spec_l01Finite_enc v57 y).1.av F) H' ∧ St F (spec_l01Finite_enc v57 y).2 H' ∧ (spec_l01Finite_enc v57 y).1.Ok F (spec_l01Finite_enc v57 y).2 :=
  fn_fin tok spec_l01Finite_hO mixed Try.func100 Try.call100 (by kernel_rfl) (LoopsOk_eq (l := []) (by kernel_rfl) trivial) (spec_l01Finite_den v57) hy hm h0 hA
def spec_l01Finite_v (v57 : Nat) : Bool :=
  feq .f32 (fsub .f32 v57 v57) (0 : Nat)
theorem spec_l01Finite_tot (v57 : Nat) : spec_l01Finite_g v57 = some (spec_l01Finite_v v57) := by
  unfold spec_l01Finite_g spec_l01Finite_T spec_l01Finite_v
  simp only [Tree.run]
  repeat' (first | rfl | split)
noncomputable def spec_l01Finite_F : DFn := fun args L =>
  match args with
  | [.flt .f32 v57] =>
    .leaf (.bool (spec_l01Finite_v v57), L)
  | _ => .fail
theorem spec_l01Finite_Fok : COk Try.prog 100 spec_l01Finite_F true := by
  intro F L H args r L' hs ha hr
  unfold spec_l01Finite_F at hr
  split at hr
  · rename_i v57
    have hy := spec_l01Finite_tot v57
    generalize spec_l01Finite_v v57 = y at hy hr
    simp only [Tree.run, Option.some.injEq, Prod.mk.injEq] at hr
    obtain ⟨rfl, rfl⟩ := hr
    exact call_ok0 hs (fun k => (([] : List AV)[k]?).getD .top) [.flt .f32 v57] [.flt .f32 v57] (fun F' h0 hi hρ => ⟨by simp [DVs.av, DV.av, BR.av, hρ], spec_l01Finite_fn v57 F' (by rw [hi]; rfl) (st_nil hi) ⟨trivial, trivial⟩ hy⟩) rfl
  · cases hr
/-! spec.l02Finite -/
noncomputable def spec_l02Finite_l0_T (v55 : List Nat) (s : Int) : Tree ((Int) ⊕ ((Unit) ⊕ (Unit))) :=
  (.br (decide (s < ((v55.length : Nat) : Int))) (
   (.grd (inb s v55.length) <|
   (.br (!(spec_l01Finite_v (nth v55 (Int.toNat s)))) (
    .leaf (.inr (.inl ()))
   ) (
    .leaf (.inl (IntKind.i64.wrap (s + (1 : Int))))
   )))
  ) (
   .leaf (.inr (.inr ()))
  ))

noncomputable def spec_l02Finite_l0_g (v55 : List Nat) (s0 : Int) : Option ((Unit) ⊕ (Unit)) := whileM (fun s => (spec_l02Finite_l0_T v55 s).run) s0
def spec_l02Finite_l0_E (v55 : List Nat) (s : Int) : Sd := ([.bslc (BR.root 0) (.f32 v55), .top, .top, .int .i64 s, .top, .top, .top, .top, .top, .top, .top, .top, .top, .top, .top, .top], [])
def spec_l02Finite_l0_X (v55 : List Nat) (x : (Unit) ⊕ (Unit)) : Out := (match x with | .inl x => (.ret, [.top, .top, .lit false, .top, .top, .top, .top, .top, .top, .top, .top, .top, .top, .top, .top, .top], []) | .inr x => (.normal, [.top, .top, .top, .top, .top, .top, .top, .top, .top, .top, .top, .top, .top, .top, .top, .top], []))
def spec_l02Finite_l0_kill : List Nat := [0, 1, 1, 0, 1, 1, 1, 1, 1, 1, 1, 1, 1, 1, 1, 1]
def spec_l02Finite_l0_nx : Exit → List Nat
  | .exit 0 => [1, 1, 1, 1, 1, 1, 1, 1, 1, 1, 1, 1, 1, 1, 1, 1]
  | .ret => [1, 1, 0, 1, 1, 1, 1, 1, 1, 1, 1, 1, 1, 1, 1, 1]
  | _ => []
noncomputable def spec_l02Finite_LO (v55 : List Nat) : LOr := fun id e L =>
  match id with
  | 0 => .need (normA 0 spec_l02Finite_l0_kill e L = some (spec_l02Finite_l0_E v55 (gI (vAt e 3)))) (.call (spec_l02Finite_l0_g v55 (gI (vAt e 3))) fun x => .sum x (fun b0 => .leaf (spec_l02Finite_l0_X v55 (.inl b0))) (fun c0 => .leaf (spec_l02Finite_l0_X v55 (.inr c0))))
  | _ => .fail
noncomputable def spec_l02Finite_tab : List (FuncId × DFn × Bool) := [(100, spec_l01Finite_F, true)]
theorem spec_l02Finite_hO : OrcOk Try.prog (tabD spec_l02Finite_tab) (tabM spec_l02Finite_tab) := tabD_cons spec_l01Finite_Fok (tabD_nil _)
theorem spec_l02Finite_l0_be (v55 : List Nat) (s : Int) : bodyT TT (tabD spec_l02Finite_tab) (tabM spec_l02Finite_tab) (spec_l02Finite_LO v55) 0 spec_l02Finite_l0_kill spec_l02Finite_l0_nx (bodyOf Try.f131 0) 0 (spec_l02Finite_l0_E v55 s) = (spec_l02Finite_l0_T v55 s).bind fun y => .leaf (outS (spec_l02Finite_l0_E v55) (spec_l02Finite_l0_X v55) y) := by kernel_rfl
theorem spec_l02Finite_l0_ok (v55 : List Nat) : LSound Try.prog 0 (spec_l02Finite_LO v55) 0 (bodyOf Try.f131 0) := by
  intro e L out h
  exact lo_ok (E := spec_l02Finite_l0_E v55) (gT := spec_l02Finite_l0_T v55) (X := spec_l02Finite_l0_X v55) (s0 := (gI (vAt e 3))) tok spec_l02Finite_hO mixed (LoopsOk_eq (l := []) (by kernel_rfl) trivial) (spec_l02Finite_l0_be v55) rfl (by intro x; (cases x with | inl b => rfl | inr x => exact rfl)) h
noncomputable def spec_l02Finite_T (v55 : List Nat) : Tree (Bool) :=
  (.need (some (spec_l02Finite_l0_E v55 (0 : Int)) = some (spec_l02Finite_l0_E v55 (0 : Int))) <|
  (.call (spec_l02Finite_l0_g v55 (0 : Int)) fun v60 =>
  (.sum v60 (fun v61 =>
   .leaf false
  ) (fun v62 =>
   .leaf true
  ))))

noncomputable def spec_l02Finite_g (v55 : List Nat) : Option (Bool) := (spec_l02Finite_T v55).run
def spec_l02Finite_enc (v55 : List Nat) (y : Bool) : Rs := (.bool y, [])
theorem spec_l02Finite_den (v55 : List Nat) : (den TT (tabD spec_l02Finite_tab) (tabM spec_l02Finite_tab) (spec_l02Finite_LO v55) (codeOf Try.f131) ([.bslc (BR.root 0) (.f32 v55)] ++ List.replicate (Try.f131.ntmps - ([.bslc (BR.root 0) (.f32 v55)] : List DV).length) .undef) []).bind (retD TT Try.f131.results.toList 0) = (spec_l02Finite_T v55).bind fun y => .leaf (spec_l02Finite_enc v55 y) := by kernel_rfl
theorem spec_l02Finite_fn (v55 : List Nat) (F : Fr) (hm : F.ids.length = 0) (h0 : St F [] F.H0) (hA : DVs.Ok F [] [.bslc (BR.root 0) (.f32 v55)]) {y : Bool} (hy : spec_l02Finite_g v55 = some y) : ∃ H', FnOk Try.prog 131 (DVs.av F [.bslc (BR.root 0) (.f32 v55)]) F.H0 ((spec_l02Finite_enc v55 y).1.av F) H' ∧ St F (spec_l02Finite_enc v55 y).2 H' ∧ (spec_l02Finite_enc v55 y).1.Ok F (spec_l02Finite_enc v55 y).2 :=
  fn_fin tok spec_l02Finite_hO mixed Try.func131 Try.call131 (by kernel_rfl) (LoopsOk_eq (l := [(0, bodyOf Try.f131 0)]) (by kernel_rfl) ⟨spec_l02Finite_l0_ok v55, trivial⟩) (spec_l02Finite_den v55) hy hm h0 hA
noncomputable def spec_l02Finite_F : DFn := fun args L =>
  match args with
  | [a1] =>
    optT (rowF32 L a1) fun v55 =>
    .call (spec_l02Finite_g v55) fun y => .leaf (.bool y, L)
  | _ => .fail
theorem spec_l02Finite_Fok : COk Try.prog 131 spec_l02Finite_F true := by
  intro F L H args r L' hs ha hr
  unfold spec_l02Finite_F at hr
  split at hr
  · rename_i a1
    obtain ⟨v55, hv55, hr⟩ := optT_run hr
    simp only [Tree.run] at hr
    obtain ⟨y, hy, hr⟩ := Option.bind_eq_some_iff.1 hr
    simp only [Tree.run, Option.some.injEq, Prod.mk.injEq] at hr
    obtain ⟨rfl, rfl⟩ := hr
    exact call_ok0 hs (fun k => (([a1.av F] : List AV)[k]?).getD .top) [a1] [.bslc (BR.root 0) (.f32 v55)] (fun F' h0 hi hρ => ⟨by simp [DVs.av, DV.av, BR.av, hρ], spec_l02Finite_fn v55 F' (by rw [hi]; rfl) (st_nil hi) ⟨bslc_ok hi (by rw [h0, hρ]; exact rowF32_ok hs (DVs.okAt ha 0 rfl) hv55), trivial⟩ hy⟩) rfl
  · cases hr
/-! spec.l05Is -/
noncomputable def spec_l05Is_l2_T (v48 : Int) (v49 : List Int) (v50 : List Int) (v89 : Int) (s : Int) : Tree ((Int) ⊕ ((Unit) ⊕ (Unit))) :=
  (.grd (inb (IntKind.i64.wrap (v89 + (1 : Int))) v49.length) <|
  (.br (decide (s < nth v49 (Int.toNat (IntKind.i64.wrap (v89 + (1 : Int)))))) (
   (.grd (inb s v50.length) <|
   (.br (!(spec_l00In_v (nth v50 (Int.toNat s)) (0 : Int) (IntKind.i64.wrap (v48 - (1 : Int))))) (
    .leaf (.inr (.inl ()))
   ) (
    (.grd (inb v89 v49.length) <|
    (.br (decide (nth v49 (Int.toNat v89) < s)) (
     (.grd (inb s v50.length) <|
     (.grd (inb (IntKind.i64.wrap (s - (1 : Int))) v50.length) <|
     (.br (decide (nth v50 (Int.toNat s) ≤ nth v50 (Int.toNat (IntKind.i64.wrap (s - (1 : Int)))))) (
      .leaf (.inr (.inl ()))
     ) (
      .leaf (.inl (IntKind.i64.wrap (s + (1 : Int))))
     ))))
    ) (
     .leaf (.inl (IntKind.i64.wrap (s + (1 : Int))))
    )))
   )))
  ) (
   .leaf (.inr (.inr ()))
  )))

noncomputable def spec_l05Is_l2_g (v48 : Int) (v49 : List Int) (v50 : List Int) (v89 : Int) (s0 : Int) : Option ((Unit) ⊕ (Unit)) := whileM (fun s => (spec_l05Is_l2_T v48 v49 v50 v89 s).run) s0
def spec_l05Is_l2_E (v48 : Int) (v49 : List Int) (v50 : List Int) (v51 : List Nat) (v89 : Int) (s : Int) : Sd := ([.bptr (BR.root 0) [.int .i64 v48, .bslc (BR.root 1) (.i64 v49), .bslc (BR.root 2) (.i64 v50), .bslc (BR.root 3) (.f32 v51)], .top, .top, .int .i64 ((v50.length : Nat) : Int), .int .i64 v89, .int .i64 s, .top, .top, .top, .top, .top, .top, .top, .top, .top, .top, .top, .top, .top, .top, .top, .top, .top, .top, .top, .top, .top, .top, .top, .top, .top, .top, .top, .top, .top, .top, .top, .top, .top, .top, .top, .top, .top, .top, .top, .top, .top, .top, .top, .top, .top, .top, .top, .top, .top, .top, .top, .top, .top, .top, .top, .top, .top, .top, .top, .top, .top, .top, .top, .top, .top, .top, .top, .top, .top, .top, .top, .top, .top, .top, .top, .top, .top, .top, .top, .top, .top, .top, .top, .top, .top, .top, .top, .top, .top, .top, .top, .top, .top, .top, .top, .top, .top, .top, .top, .top, .top, .top, .top, .top, .top, .top, .top, .top, .top, .top, .top, .top, .top, .top, .top, .top, .top, .top, .top, .top, .top, .top, .top, .top, .top, .top, .top, .top, .top, .top, .top, .top, .top, .top, .top, .top, .top, .top, .top, .top, .top, .top, .top, .top, .top, .top, .top, .top, .top, .top, .top, .top, .top, .top, .top, .top, .top, .top, .top, .top, .top, .top, .top, .top], [])
def spec_l05Is_l2_X (v48 : Int) (v49 : List Int) (v50 : List Int) (v51 : List Nat) (v89 : Int) (x : (Unit) ⊕ (Unit)) : Out := (match x with | .inl x => (.ret, [.top, .top, .lit false, .top, .top, .top, .top, .top, .top, .top, .top, .top, .top, .top, .top, .top, .top, .top, .top, .top, .top, .top, .top, .top, .top, .top, .top, .top, .top, .top, .top, .top, .top, .top, .top, .top, .top, .top, .top, .top, .top, .top, .top, .top, .top, .top, .top, .top, .top, .top, .top, .top, .top, .top, .top, .top, .top, .top, .top, .top, .top, .top, .top, .top, .top, .top, .top, .top, .top, .top, .top, .top, .top, .top, .top, .top, .top, .top, .top, .top, .top, .top, .top, .top, .top, .top, .top, .top, .top, .top, .top, .top, .top, .top, .top, .top, .top, .top, .top, .top, .top, .top, .top, .top, .top, .top, .top, .top, .top, .top, .top, .top, .top, .top, .top, .top, .top, .top, .top, .top, .top, .top, .top, .top, .top, .top, .top, .top, .top, .top, .top, .top, .top, .top, .top, .top, .top, .top, .top, .top, .top, .top, .top, .top, .top, .top, .top, .top, .top, .top, .top, .top, .top, .top, .top, .top, .top, .top, .top, .top, .top, .top, .top, .top, .top, .top, .top, .top, .top, .top], []) | .inr x => (.normal, [.bptr (BR.root 0) [.int .i64 v48, .bslc (BR.root 1) (.i64 v49), .bslc (BR.root 2) (.i64 v50), .bslc (BR.root 3) (.f32 v51)], .top, .top, .int .i64 ((v50.length : Nat) : Int), .int .i64 v89, .top, .top, .top, .top, .top, .top, .top, .top, .top, .top, .top, .top, .top, .top, .top, .top, .top, .top, .top, .top, .top, .top, .top, .top, .top, .top, .top, .top, .top, .top, .top, .top, .top, .top, .top, .top, .top, .top, .top, .top, .top, .top, .top, .top, .top, .top, .top, .top, .top, .top, .top, .top, .top, .top, .top, .top, .top, .top, .top, .top, .top, .top, .top, .top, .top, .top, .top, .top, .top, .top, .top, .top, .top, .top, .top, .top, .top, .top, .top, .top, .top, .top, .top, .top, .top, .top, .top, .top, .top, .top, .top, .top, .top, .top, .top, .top, .top, .top, .top, .top, .top, .top, .top, .top, .top, .top, .top, .top, .top, .top, .top, .top, .top, .top, .top, .top, .top, .top, .top, .top, .top, .top, .top, .top, .top, .top, .top, .top, .top, .top, .top, .top, .top, .top, .top, .top, .top, .top, .top, .top, .top, .top, .top, .top, .top, .top, .top, .top, .top, .top, .top, .top, .top, .top, .top, .top, .top, .top, .top, .top, .top, .top, .top, .top, .top], []))
def spec_l05Is_l2_kill : List Nat := [0, 1, 1, 0, 0, 0, 1, 1, 1, 1, 1, 1, 1, 1, 1, 1, 1, 1, 1, 1, 1, 1, 1, 1, 1, 1, 1, 1, 1, 1, 1, 1, 1, 1, 1, 1, 1, 1, 1, 1, 1, 1, 1, 1, 1, 1, 1, 1, 1, 1, 1, 1, 1, 1, 1, 1, 1, 1, 1, 1, 1, 1, 1, 1, 1, 1, 1, 1, 1, 1, 1, 1, 1, 1, 1, 1, 1, 1, 1, 1, 1, 1, 1, 1, 1, 1, 1, 1, 1, 1, 1, 1, 1, 1, 1, 1, 1, 1, 1, 1, 1, 1, 1, 1, 1, 1, 1, 1, 1, 1, 1, 1, 1, 1, 1, 1, 1, 1, 1, 1, 1, 1, 1, 1, 1, 1, 1, 1, 1, 1, 1, 1, 1, 1, 1, 1, 1, 1, 1, 1, 1, 1, 1, 1, 1, 1, 1, 1, 1, 1, 1, 1, 1, 1, 1, 1, 1, 1, 1, 1, 1, 1, 1, 1, 1, 1, 1, 1, 1, 1]
def spec_l05Is_l2_nx : Exit → List Nat
  | .exit 0 => [1, 1, 1, 1, 1, 1, 1, 1, 1, 1, 1, 1, 1, 1, 1, 1, 1, 1, 1, 1, 1, 1, 1, 1, 1, 1, 1, 1, 1, 1, 1, 1, 1, 1, 1, 1, 1, 1, 1, 1, 1, 1, 1, 1, 1, 1, 1, 1, 1, 1, 1, 1, 1, 1, 1, 1, 1, 1, 1, 1, 1, 1, 1, 1, 1, 1, 1, 1, 1, 1, 1, 1, 1, 1, 1, 1, 1, 1, 1, 1, 1, 1, 1, 1, 1, 1, 1, 1, 1, 1, 1, 1, 1, 1, 1, 1, 1, 1, 1, 1, 1, 1, 1, 1, 1, 1, 1, 1, 1, 1, 1, 1, 1, 1, 1, 1, 1, 1, 1, 1, 1, 1, 1, 1, 1, 1, 1, 1, 1, 1, 1, 1, 1, 1, 1, 1, 1, 1, 1, 1, 1, 1, 1, 1, 1, 1, 1, 1, 1, 1, 1, 1, 1, 1, 1, 1, 1, 1, 1, 1, 1, 1, 1, 1, 1, 1, 1, 1, 1, 1]
  | .exit 1 => [0, 1, 1, 0, 0, 1, 1, 1, 1, 1, 1, 1, 1, 1, 1, 1, 1, 1, 1, 1, 1, 1, 1, 1, 1, 1, 1, 1, 1, 1, 1, 1, 1, 1, 1, 1, 1, 1, 1, 1, 1, 1, 1, 1, 1, 1, 1, 1, 1, 1, 1, 1, 1, 1, 1, 1, 1, 1, 1, 1, 1, 1, 1, 1, 1, 1, 1, 1, 1, 1, 1, 1, 1, 1, 1, 1, 1, 1, 1, 1, 1, 1, 1, 1, 1, 1, 1, 1, 1, 1, 1, 1, 1, 1, 1, 1, 1, 1, 1, 1, 1, 1, 1, 1, 1, 1, 1, 1, 1, 1, 1, 1, 1, 1, 1, 1, 1, 1, 1, 1, 1, 1, 1, 1, 1, 1, 1, 1, 1, 1, 1, 1, 1, 1, 1, 1, 1, 1, 1, 1, 1, 1, 1, 1, 1, 1, 1, 1, 1, 1, 1, 1, 1, 1, 1, 1, 1, 1, 1, 1, 1, 1, 1, 1, 1, 1, 1, 1, 1, 1]
  | .exit 2 => [0, 1, 1, 0, 0, 1, 1, 1, 1, 1, 1, 1, 1, 1, 1, 1, 1, 1, 1, 1, 1, 1, 1, 1, 1, 1, 1, 1, 1, 1, 1, 1, 1, 1, 1, 1, 1, 1, 1, 1, 1, 1, 1, 1, 1, 1, 1, 1, 1, 1, 1, 1, 1, 1, 1, 1, 1, 1, 1, 1, 1, 1, 1, 1, 1, 1, 1, 1, 1, 1, 1, 1, 1, 1, 1, 1, 1, 1, 1, 1, 1, 1, 1, 1, 1, 1, 1, 1, 1, 1, 1, 1, 1, 1, 1, 1, 1, 1, 1, 1, 1, 1, 1, 1, 1, 1, 1, 1, 1, 1, 1, 1, 1, 1, 1, 1, 1, 1, 1, 1, 1, 1, 1, 1, 1, 1, 1, 1, 1, 1, 1, 1, 1, 1, 1, 1, 1, 1, 1, 1, 1, 1, 1, 1, 1, 1, 1, 1, 1, 1, 1, 1, 1, 1, 1, 1, 1, 1, 1, 1, 1, 1, 1, 1, 1, 1, 1, 1, 1, 1]
  | .ret => [1, 1, 0, 1, 1, 1, 1, 1, 1, 1, 1, 1, 1, 1, 1, 1, 1, 1, 1, 1, 1, 1, 1, 1, 1, 1, 1, 1, 1, 1, 1, 1, 1, 1, 1, 1, 1, 1, 1, 1, 1, 1, 1, 1, 1, 1, 1, 1, 1, 1, 1, 1, 1, 1, 1, 1, 1, 1, 1, 1, 1, 1, 1, 1, 1, 1, 1, 1, 1, 1, 1, 1, 1, 1, 1, 1, 1, 1, 1, 1, 1, 1, 1, 1, 1, 1, 1, 1, 1, 1, 1, 1, 1, 1, 1, 1, 1, 1, 1, 1, 1, 1, 1, 1, 1, 1, 1, 1, 1, 1, 1, 1, 1, 1, 1, 1, 1, 1, 1, 1, 1, 1, 1, 1, 1, 1, 1, 1, 1, 1, 1, 1, 1, 1, 1, 1, 1, 1, 1, 1, 1, 1, 1, 1, 1, 1, 1, 1, 1, 1, 1, 1, 1, 1, 1, 1, 1, 1, 1, 1, 1, 1, 1, 1, 1, 1, 1, 1, 1, 1]
  | _ => []
noncomputable def spec_l05Is_l0_T (v48 : Int) (v49 : List Int) (v50 : List Int) (v51 : List Nat) (s : Int) : Tree ((Int) ⊕ ((Unit) ⊕ (Unit))) :=
  (.br (decide (s < v48)) (
   (.grd (inb (IntKind.i64.wrap (s + (1 : Int))) v49.length) <|
   (.grd (inb s v49.length) <|
   (.br (decide (nth v49 (Int.toNat (IntKind.i64.wrap (s + (1 : Int)))) < nth v49 (Int.toNat s))) (
    .leaf (.inr (.inl ()))
   ) (
    (.grd (inb (IntKind.i64.wrap (s + (1 : Int))) v49.length) <|
    (.br (decide (((v50.length : Nat) : Int) < nth v49 (Int.toNat (IntKind.i64.wrap (s + (1 : Int)))))) (
     .leaf (.inr (.inl ()))
    ) (
     (.grd (inb s v49.length) <|
     (.need (some (spec_l05Is_l2_E v48 v49 v50 v51 s (nth v49 (Int.toNat s))) = some (spec_l05Is_l2_E v48 v49 v50 v51 s (nth v49 (Int.toNat s)))) <|
     (.call (spec_l05Is_l2_g v48 v49 v50 s (nth v49 (Int.toNat s))) fun v91 =>
     (.sum v91 (fun v92 =>
      .leaf (.inr (.inl ()))
     ) (fun v93 =>
      .leaf (.inl (IntKind.i64.wrap (s + (1 : Int))))
     )))))
    )))
   ))))
  ) (
   .leaf (.inr (.inr ()))
  ))

noncomputable def spec_l05Is_l0_g (v48 : Int) (v49 : List Int) (v50 : List Int) (v51 : List Nat) (s0 : Int) : Option ((Unit) ⊕ (Unit)) := whileM (fun s => (spec_l05Is_l0_T v48 v49 v50 v51 s).run) s0
def spec_l05Is_l0_E (v48 : Int) (v49 : List Int) (v50 : List Int) (v51 : List Nat) (s : Int) : Sd := ([.bptr (BR.root 0) [.int .i64 v48, .bslc (BR.root 1) (.i64 v49), .bslc (BR.root 2) (.i64 v50), .bslc (BR.root 3) (.f32 v51)], .top, .top, .int .i64 ((v50.length : Nat) : Int), .int .i64 s, .top, .top, .top, .top, .top, .top, .top, .top, .top, .top, .top, .top, .top, .top, .top, .top, .top, .top, .top, .top, .top, .top, .top, .top, .top, .top, .top, .top, .top, .top, .top, .top, .top, .top, .top, .top, .top, .top, .top, .top, .top, .top, .top, .top, .top, .top, .top, .top, .top, .top, .top, .top, .top, .top, .top, .top, .top, .top, .top, .top, .top, .top, .top, .top, .top, .top, .top, .top, .top, .top, .top, .top, .top, .top, .top, .top, .top, .top, .top, .top, .top, .top, .top, .top, .top, .top, .top, .top, .top, .top, .top, .top, .top, .top, .top, .top, .top, .top, .top, .top, .top, .top, .top, .top, .top, .top, .top, .top, .top, .top, .top, .top, .top, .top, .top, .top, .top, .top, .top, .top, .top, .top, .top, .top, .top, .top, .top, .top, .top, .top, .top, .top, .top, .top, .top, .top, .top, .top, .top, .top, .top, .top, .top, .top, .top, .top, .top, .top, .top, .top, .top, .top, .top, .top, .top, .top, .top, .top, .top, .top, .top, .top, .top, .top, .top], [])
def spec_l05Is_l0_X (v48 : Int) (v49 : List Int) (v50 : List Int) (v51 : List Nat) (x : (Unit) ⊕ (Unit)) : Out := (match x with | .inl x => (.ret, [.top, .top, .lit false, .top, .top, .top, .top, .top, .top, .top, .top, .top, .top, .top, .top, .top, .top, .top, .top, .top, .top, .top, .top, .top, .top, .top, .top, .top, .top, .top, .top, .top, .top, .top, .top, .top, .top, .top, .top, .top, .top, .top, .top, .top, .top, .top, .top, .top, .top, .top, .top, .top, .top, .top, .top, .top, .top, .top, .top, .top, .top, .top, .top, .top, .top, .top, .top, .top, .top, .top, .top, .top, .top, .top, .top, .top, .top, .top, .top, .top, .top, .top, .top, .top, .top, .top, .top, .top, .top, .top, .top, .top, .top, .top, .top, .top, .top, .top, .top, .top, .top, .top, .top, .top, .top, .top, .top, .top, .top, .top, .top, .top, .top, .top, .top, .top, .top, .top, .top, .top, .top, .top, .top, .top, .top, .top, .top, .top, .top, .top, .top, .top, .top, .top, .top, .top, .top, .top, .top, .top, .top, .top, .top, .top, .top, .top, .top, .top, .top, .top, .top, .top, .top, .top, .top, .top, .top, .top, .top, .top, .top, .top, .top, .top, .top, .top, .top, .top, .top, .top], []) | .inr x => (.normal, [.top, .top, .top, .top, .top, .top, .top, .top, .top, .top, .top, .top, .top, .top, .top, .top, .top, .top, .top, .top, .top, .top, .top, .top, .top, .top, .top, .top, .top, .top, .top, .top, .top, .top, .top, .top, .top, .top, .top, .top, .top, .top, .top, .top, .top, .top, .top, .top, .top, .top, .top, .top, .top, .top, .top, .top, .top, .top, .top, .top, .top, .top, .top, .top, .top, .top, .top, .top, .top, .top, .top, .top, .top, .top, .top, .top, .top, .top, .top, .top, .top, .top, .top, .top, .top, .top, .top, .top, .top, .top, .top, .top, .top, .top, .top, .top, .top, .top, .top, .top, .top, .top, .top, .top, .top, .top, .top, .top, .top, .top, .top, .top, .top, .top, .top, .top, .top, .top, .top, .top, .top, .top, .top, .top, .top, .top, .top, .top, .top, .top, .top, .top, .top, .top, .top, .top, .top, .top, .top, .top, .top, .top, .top, .top, .top, .top, .top, .top, .top, .top, .top, .top, .top, .top, .top, .top, .top, .top, .top, .top, .top, .top, .top, .top, .top, .top, .top, .top, .top, .top], []))
def spec_l05Is_l0_kill : List Nat := [0, 1, 1, 0, 0, 1, 1, 1, 1, 1, 1, 1, 1, 1, 1, 1, 1, 1, 1, 1, 1, 1, 1, 1, 1, 1, 1, 1, 1, 1, 1, 1, 1, 1, 1, 1, 1, 1, 1, 1, 1, 1, 1, 1, 1, 1, 1, 1, 1, 1, 1, 1, 1, 1, 1, 1, 1, 1, 1, 1, 1, 1, 1, 1, 1, 1, 1, 1, 1, 1, 1, 1, 1, 1, 1, 1, 1, 1, 1, 1, 1, 1, 1, 1, 1, 1, 1, 1, 1, 1, 1, 1, 1, 1, 1, 1, 1, 1, 1, 1, 1, 1, 1, 1, 1, 1, 1, 1, 1, 1, 1, 1, 1, 1, 1, 1, 1, 1, 1, 1, 1, 1, 1, 1, 1, 1, 1, 1, 1, 1, 1, 1, 1, 1, 1, 1, 1, 1, 1, 1, 1, 1, 1, 1, 1, 1, 1, 1, 1, 1, 1, 1, 1, 1, 1, 1, 1, 1, 1, 1, 1, 1, 1, 1, 1, 1, 1, 1, 1, 1]
def spec_l05Is_l0_nx : Exit → List Nat
  | .exit 0 => [1, 1, 1, 1, 1, 1, 1, 1, 1, 1, 1, 1, 1, 1, 1, 1, 1, 1, 1, 1, 1, 1, 1, 1, 1, 1, 1, 1, 1, 1, 1, 1, 1, 1, 1, 1, 1, 1, 1, 1, 1, 1, 1, 1, 1, 1, 1, 1, 1, 1, 1, 1, 1, 1, 1, 1, 1, 1, 1, 1, 1, 1, 1, 1, 1, 1, 1, 1, 1, 1, 1, 1, 1, 1, 1, 1, 1, 1, 1, 1, 1, 1, 1, 1, 1, 1, 1, 1, 1, 1, 1, 1, 1, 1, 1, 1, 1, 1, 1, 1, 1, 1, 1, 1, 1, 1, 1, 1, 1, 1, 1, 1, 1, 1, 1, 1, 1, 1, 1, 1, 1, 1, 1, 1, 1, 1, 1, 1, 1, 1, 1, 1, 1, 1, 1, 1, 1, 1, 1, 1, 1, 1, 1, 1, 1, 1, 1, 1, 1, 1, 1, 1, 1, 1, 1, 1, 1, 1, 1, 1, 1, 1, 1, 1, 1, 1, 1, 1, 1, 1]
  | .ret => [1, 1, 0, 1, 1, 1, 1, 1, 1, 1, 1, 1, 1, 1, 1, 1, 1, 1, 1, 1, 1, 1, 1, 1, 1, 1, 1, 1, 1, 1, 1, 1, 1, 1, 1, 1, 1, 1, 1, 1, 1, 1, 1, 1, 1, 1, 1, 1, 1, 1, 1, 1, 1, 1, 1, 1, 1, 1, 1, 1, 1, 1, 1, 1, 1, 1, 1, 1, 1, 1, 1, 1, 1, 1, 1, 1, 1, 1, 1, 1, 1, 1, 1, 1, 1, 1, 1, 1, 1, 1, 1, 1, 1, 1, 1, 1, 1, 1, 1, 1, 1, 1, 1, 1, 1, 1, 1, 1, 1, 1, 1, 1, 1, 1, 1, 1, 1, 1, 1, 1, 1, 1, 1, 1, 1, 1, 1, 1, 1, 1, 1, 1, 1, 1, 1, 1, 1, 1, 1, 1, 1, 1, 1, 1, 1, 1, 1, 1, 1, 1, 1, 1, 1, 1, 1, 1, 1, 1, 1, 1, 1, 1, 1, 1, 1, 1, 1, 1, 1, 1]
  | _ => []
noncomputable def spec_l05Is_LO (v48 : Int) (v49 : List Int) (v50 : List Int) (v51 : List Nat) : LOr := fun id e L =>
  match id with
  | 2 => .need (normA 0 spec_l05Is_l2_kill e L = some (spec_l05Is_l2_E v48 v49 v50 v51 (gI (vAt e 4)) (gI (vAt e 5)))) (.call (spec_l05Is_l2_g v48 v49 v50 (gI (vAt e 4)) (gI (vAt e 5))) fun x => .sum x (fun b0 => .leaf (spec_l05Is_l2_X v48 v49 v50 v51 (gI (vAt e 4)) (.inl b0))) (fun c0 => .leaf (spec_l05Is_l2_X v48 v49 v50 v51 (gI (vAt e 4)) (.inr c0))))
  | 0 => .need (normA 0 spec_l05Is_l0_kill e L = some (spec_l05Is_l0_E v48 v49 v50 v51 (gI (vAt e 4)))) (.call (spec_l05Is_l0_g v48 v49 v50 v51 (gI (vAt e 4))) fun x => .sum x (fun b0 => .leaf (spec_l05Is_l0_X v48 v49 v50 v51 (.inl b0))) (fun c0 => .leaf (spec_l05Is_l0_X v48 v49 v50 v51 (.inr c0))))
  | _ => .fail
noncomputable def spec_l05Is_tab : List (FuncId × DFn × Bool) := [(71, spec_l00In_F, true), (131, spec_l02Finite_F, true)]
theorem spec_l05Is_hO : OrcOk Try.prog (tabD spec_l05Is_tab) (tabM spec_l05Is_tab) := tabD_cons spec_l00In_Fok (tabD_cons spec_l02Finite_Fok (tabD_nil _))
theorem spec_l05Is_l2_be (v48 : Int) (v49 : List Int) (v50 : List Int) (v51 : List Nat) (v89 : Int) (s : Int) : bodyT TT (tabD spec_l05Is_tab) (tabM spec_l05Is_tab) (spec_l05Is_LO v48 v49 v50 v51) 0 spec_l05Is_l2_kill spec_l05Is_l2_nx (bodyOf Try.f130 2) 2 (spec_l05Is_l2_E v48 v49 v50 v51 v89 s) = (spec_l05Is_l2_T v48 v49 v50 v89 s).bind fun y => .leaf (outS (spec_l05Is_l2_E v48 v49 v50 v51 v89) (spec_l05Is_l2_X v48 v49 v50 v51 v89) y) := by kernel_rfl
theorem spec_l05Is_l2_ok (v48 : Int) (v49 : List Int) (v50 : List Int) (v51 : List Nat) : LSound Try.prog 0 (spec_l05Is_LO v48 v49 v50 v51) 2 (bodyOf Try.f130 2) := by
  intro e L out h
  exact lo_ok (E := spec_l05Is_l2_E v48 v49 v50 v51 (gI (vAt e 4))) (gT := spec_l05Is_l2_T v48 v49 v50 (gI (vAt e 4))) (X := spec_l05Is_l2_X v48 v49 v50 v51 (gI (vAt e 4))) (s0 := (gI (vAt e 5))) tok spec_l05Is_hO mixed (LoopsOk_eq (l := []) (by kernel_rfl) trivial) (spec_l05Is_l2_be v48 v49 v50 v51 (gI (vAt e 4))) rfl (by intro x; (cases x with | inl b => rfl | inr x => exact rfl)) h
theorem spec_l05Is_l0_be (v48 : Int) (v49 : List Int) (v50 : List Int) (v51 : List Nat) (s : Int) : bodyT TT (tabD spec_l05Is_tab) (tabM spec_l05Is_tab) (spec_l05Is_LO v48 v49 v50 v51) 0 spec_l05Is_l0_kill spec_l05Is_l0_nx (bodyOf Try.f130 0) 0 (spec_l05Is_l0_E v48 v49 v50 v51 s) = (spec_l05Is_l0_T v48 v49 v50 v51 s).bind fun y => .leaf (outS (spec_l05Is_l0_E v48 v49 v50 v51) (spec_l05Is_l0_X v48 v49 v50 v51) y) := by kernel_rfl
theorem spec_l05Is_l0_ok (v48 : Int) (v49 : List Int) (v50 : List Int) (v51 : List Nat) : LSound Try.prog 0 (spec_l05Is_LO v48 v49 v50 v51) 0 (bodyOf Try.f130 0) := by
  intro e L out h
  exact lo_ok (E := spec_l05Is_l0_E v48 v49 v50 v51) (gT := spec_l05Is_l0_T v48 v49 v50 v51) (X := spec_l05Is_l0_X v48 v49 v50 v51) (s0 := (gI (vAt e 4))) tok spec_l05Is_hO mixed (LoopsOk_eq (l := [(2, bodyOf Try.f130 2)]) (by kernel_rfl) ⟨spec_l05Is_l2_ok v48 v49 v50 v51, trivial⟩) (spec_l05Is_l0_be v48 v49 v50 v51) rfl (by intro x; (cases x with | inl b => rfl | inr x => exact rfl)) h
noncomputable def spec_l05Is_T (v48 : Int) (v49 : List Int) (v50 : List Int) (v51 : List Nat) : Tree (Bool) :=
  (.br (!(spec_l00In_v v48 (1 : Int) (32 : Int))) (
   .leaf false
  ) (
   (.br (!decide (((v49.length : Nat) : Int) = IntKind.i64.wrap (v48 + (1 : Int)))) (
    .leaf false
   ) (
    (.br (decide ((512 : Int) < ((v50.length : Nat) : Int))) (
     .leaf false
    ) (
     (.br (!decide (((v51.length : Nat) : Int) = ((v50.length : Nat) : Int))) (
      .leaf false
     ) (
      (.call (spec_l02Finite_g v51) fun v63 =>
      (.br (!v63) (
       .leaf false
      ) (
       (.grd (inb (0 : Int) v49.length) <|
       (.br (!decide (nth v49 (Int.toNat (0 : Int)) = (0 : Int))) (
        .leaf false
       ) (
        (.grd (inb v48 v49.length) <|
        (.br (!decide (nth v49 (Int.toNat v48) = ((v50.length : Nat) : Int))) (
         .leaf false
        ) (
         (.need (some (spec_l05Is_l0_E v48 v49 v50 v51 (0 : Int)) = some (spec_l05Is_l0_E v48 v49 v50 v51 (0 : Int))) <|
         (.call (spec_l05Is_l0_g v48 v49 v50 v51 (0 : Int)) fun v94 =>
         (.sum v94 (fun v95 =>
          .leaf false
         ) (fun v96 =>
          .leaf true
         ))))
        )))
       )))
      )))
     ))
    ))
   ))
  ))

noncomputable def spec_l05Is_g (v48 : Int) (v49 : List Int) (v50 : List Int) (v51 : List Nat) : Option (Bool) := (spec_l05Is_T v48 v49 v50 v51).run
def spec_l05Is_enc (v48 : Int) (v49 : List Int) (v50 : List Int) (v51 : List Nat) (y : Bool) : Rs := (.bool y, [])
theorem spec_l05Is_den (v48 : Int) (v49 : List Int) (v50 : List Int) (v51 : List Nat) : (den TT (tabD spec_l05Is_tab) (tabM spec_l05Is_tab) (spec_l05Is_LO v48 v49 v50 v51) (codeOf Try.f130) ([.bptr (BR.root 0) [.int .i64 v48, .bslc (BR.root 1) (.i64 v49), .bslc (BR.root 2) (.i64 v50), .bslc (BR.root 3) (.f32 v51)]] ++ List.replicate (Try.f130.ntmps - ([.bptr (BR.root 0) [.int .i64 v48, .bslc (BR.root 1) (.i64 v49), .bslc (BR.root 2) (.i64 v50), .bslc (BR.root 3) (.f32 v51)]] : List DV).length) .undef) []).bind (retD TT Try.f130.results.toList 0) = (spec_l05Is_T v48 v49 v50 v51).bind fun y => .leaf (spec_l05Is_enc v48 v49 v50 v51 y) := by kernel_rfl
theorem spec_l05Is_fn (v48 : Int) (v49 : List Int) (v50 : List Int) (v51 : List Nat) (F : Fr) (hm : F.ids.length = 0) (h0 : St F [] F.H0) (hA : DVs.Ok F [] [.bptr (BR.root 0) [.int .i64 v48, .bslc (BR.root 1) (.i64 v49), .bslc (BR.root 2) (.i64 v50), .bslc (BR.root 3) (.f32 v51)]]) {y : Bool} (hy : spec_l05Is_g v48 v49 v50 v51 = some y) : ∃ H', FnOk Try.prog 130 (DVs.av F [.bptr (BR.root 0) [.int .i64 v48, .bslc (BR.root 1) (.i64 v49), .bslc (BR.root 2) (.i64 v50), .bslc (BR.root 3) (.f32 v51)]]) F.H0 ((spec_l05Is_enc v48 v49 v50 v51 y).1.av F) H' ∧ St F (spec_l05Is_enc v48 v49 v50 v51 y).2 H' ∧ (spec_l05Is_enc v48 v49 v50 v51 y).1.Ok F (spec_l05Is_enc v48 v49 v50 v51 y).2 :=
  fn_fin tok spec_l05Is_hO mixed Try.func130 Try.call130 (by kernel_rfl) (LoopsOk_eq (l := [(0, bodyOf Try.f130 0)]) (by kernel_rfl) ⟨spec_l05Is_l0_ok v48 v49 v50 v51, trivial⟩) (spec_l05Is_den v48 v49 v50 v51) hy hm h0 hA
noncomputable def spec_l05Is_F : DFn := fun args L =>
  match args with
  | [a1] =>
    optT (cellsOf L 4 a1) fun cs0 =>
    (match cs0 with
    | [.int .i64 v48, a2, a3, a4] =>
    optT (rowI64 L a2) fun v49 =>
    optT (rowI64 L a3) fun v50 =>
    optT (rowF32 L a4) fun v51 =>
    .call (spec_l05Is_g v48 v49 v50 v51) fun y => .leaf (.bool y, L)
    | _ => .fail)
  | _ => .fail
theorem spec_l05Is_Fok : COk Try.prog 130 spec_l05Is_F true := by
  intro F L H args r L' hs ha hr
  unfold spec_l05Is_F at hr
  split at hr
  · rename_i a1
    obtain ⟨cs0, hcp0, hr⟩ := optT_run hr
    split at hr
    · rename_i v48 a2 a3 a4
      obtain ⟨v49, hv49, hr⟩ := optT_run hr
      obtain ⟨v50, hv50, hr⟩ := optT_run hr
      obtain ⟨v51, hv51, hr⟩ := optT_run hr
      simp only [Tree.run] at hr
      obtain ⟨y, hy, hr⟩ := Option.bind_eq_some_iff.1 hr
      simp only [Tree.run, Option.some.injEq, Prod.mk.injEq] at hr
      obtain ⟨rfl, rfl⟩ := hr
      exact call_ok0 hs (fun k => (([a1.av F, a2.av F, a3.av F, a4.av F] : List AV)[k]?).getD .top) [a1] [.bptr (BR.root 0) [.int .i64 v48, .bslc (BR.root 1) (.i64 v49), .bslc (BR.root 2) (.i64 v50), .bslc (BR.root 3) (.f32 v51)]] (fun F' h0 hi hρ => ⟨by simp [DVs.av, DV.av, BR.av, hρ], spec_l05Is_fn v48 v49 v50 v51 F' (by rw [hi]; rfl) (st_nil hi) ⟨bptr_ok hi (by rw [h0]; simpa [DVs.av, DV.av, BR.av, hρ] using (cellsOf_ok hs (DVs.okAt ha 0 rfl) hcp0).1) ⟨trivial, bslc_ok hi (by rw [h0, hρ]; exact rowI64_ok hs (DVs.okAt (cellsOf_ok hs (DVs.okAt ha 0 rfl) hcp0).2 1 rfl) hv49), bslc_ok hi (by rw [h0, hρ]; exact rowI64_ok hs (DVs.okAt (cellsOf_ok hs (DVs.okAt ha 0 rfl) hcp0).2 2 rfl) hv50), bslc_ok hi (by rw [h0, hρ]; exact rowF32_ok hs (DVs.okAt (cellsOf_ok hs (DVs.okAt ha 0 rfl) hcp0).2 3 rfl) hv51), trivial⟩, trivial⟩ hy⟩) rfl
    · cases hr
  · cases hr
/-! spec.l05Fits -/
noncomputable def spec_l05Fits_LO (v43 : Int) (v44 : List Int) (v45 : List Int) (v46 : List Nat) (v47 : List Nat) : LOr := fun id e L =>
  match id with
  | _ => .fail
noncomputable def spec_l05Fits_tab : List (FuncId × DFn × Bool) := [(130, spec_l05Is_F, true), (131, spec_l02Finite_F, true)]
theorem spec_l05Fits_hO : OrcOk Try.prog (tabD spec_l05Fits_tab) (tabM spec_l05Fits_tab) := tabD_cons spec_l05Is_Fok (tabD_cons spec_l02Finite_Fok (tabD_nil _))
noncomputable def spec_l05Fits_T (v43 : Int) (v44 : List Int) (v45 : List Int) (v46 : List Nat) (v47 : List Nat) : Tree (Bool) :=
  (.call (spec_l05Is_g v43 v44 v45 v46) fun v97 =>
  (.br v97 (
   (.br (decide (((v47.length : Nat) : Int) = v43)) (
    (.call (spec_l02Finite_g v47) fun v98 =>
    .leaf v98)
   ) (
    .leaf false
   ))
  ) (
   .leaf false
  )))

noncomputable def spec_l05Fits_g (v43 : Int) (v44 : List Int) (v45 : List Int) (v46 : List Nat) (v47 : List Nat) : Option (Bool) := (spec_l05Fits_T v43 v44 v45 v46 v47).run
def spec_l05Fits_enc (v43 : Int) (v44 : List Int) (v45 : List Int) (v46 : List Nat) (v47 : List Nat) (y : Bool) : Rs := (.bool y, [])
theorem spec_l05Fits_den (v43 : Int) (v44 : List Int) (v45 : List Int) (v46 : List Nat) (v47 : List Nat) : (den TT (tabD spec_l05Fits_tab) (tabM spec_l05Fits_tab) (spec_l05Fits_LO v43 v44 v45 v46 v47) (codeOf Try.f65) ([.bptr (BR.root 0) [.int .i64 v43, .bslc (BR.root 1) (.i64 v44), .bslc (BR.root 2) (.i64 v45), .bslc (BR.root 3) (.f32 v46)], .bslc (BR.root 4) (.f32 v47)] ++ List.replicate (Try.f65.ntmps - ([.bptr (BR.root 0) [.int .i64 v43, .bslc (BR.root 1) (.i64 v44), .bslc (BR.root 2) (.i64 v45), .bslc (BR.root 3) (.f32 v46)], .bslc (BR.root 4) (.f32 v47)] : List DV).length) .undef) []).bind (retD TT Try.f65.results.toList 0) = (spec_l05Fits_T v43 v44 v45 v46 v47).bind fun y => .leaf (spec_l05Fits_enc v43 v44 v45 v46 v47 y) := by kernel_rfl
theorem spec_l05Fits_fn (v43 : Int) (v44 : List Int) (v45 : List Int) (v46 : List Nat) (v47 : List Nat) (F : Fr) (hm : F.ids.length = 0) (h0 : St F [] F.H0) (hA : DVs.Ok F [] [.bptr (BR.root 0) [.int .i64 v43, .bslc (BR.root 1) (.i64 v44), .bslc (BR.root 2) (.i64 v45), .bslc (BR.root 3) (.f32 v46)], .bslc (BR.root 4) (.f32 v47)]) {y : Bool} (hy : spec_l05Fits_g v43 v44 v45 v46 v47 = some y) : ∃ H', FnOk Try.prog 65 (DVs.av F [.bptr (BR.root 0) [.int .i64 v43, .bslc (BR.root 1) (.i64 v44), .bslc (BR.root 2) (.i64 v45), .bslc (BR.root 3) (.f32 v46)], .bslc (BR.root 4) (.f32 v47)]) F.H0 ((spec_l05Fits_enc v43 v44 v45 v46 v47 y).1.av F) H' ∧ St F (spec_l05Fits_enc v43 v44 v45 v46 v47 y).2 H' ∧ (spec_l05Fits_enc v43 v44 v45 v46 v47 y).1.Ok F (spec_l05Fits_enc v43 v44 v45 v46 v47 y).2 :=
  fn_fin tok spec_l05Fits_hO mixed Try.func65 Try.call65 (by kernel_rfl) (LoopsOk_eq (l := []) (by kernel_rfl) trivial) (spec_l05Fits_den v43 v44 v45 v46 v47) hy hm h0 hA
noncomputable def spec_l05Fits_F : DFn := fun args L =>
  match args with
  | [a1, a5] =>
    optT (cellsOf L 4 a1) fun cs0 =>
    (match cs0 with
    | [.int .i64 v43, a2, a3, a4] =>
    optT (rowI64 L a2) fun v44 =>
    optT (rowI64 L a3) fun v45 =>
    optT (rowF32 L a4) fun v46 =>
    optT (rowF32 L a5) fun v47 =>
    .call (spec_l05Fits_g v43 v44 v45 v46 v47) fun y => .leaf (.bool y, L)
    | _ => .fail)
  | _ => .fail
theorem spec_l05Fits_Fok : COk Try.prog 65 spec_l05Fits_F true := by
  intro F L H args r L' hs ha hr
  unfold spec_l05Fits_F at hr
  split at hr
  · rename_i a1 a5
    obtain ⟨cs0, hcp0, hr⟩ := optT_run hr
    split at hr
    · rename_i v43 a2 a3 a4
      obtain ⟨v44, hv44, hr⟩ := optT_run hr
      obtain ⟨v45, hv45, hr⟩ := optT_run hr
      obtain ⟨v46, hv46, hr⟩ := optT_run hr
      obtain ⟨v47, hv47, hr⟩ := optT_run hr
      simp only [Tree.run] at hr
      obtain ⟨y, hy, hr⟩ := Option.bind_eq_some_iff.1 hr
      simp only [Tree.run, Option.some.injEq, Prod.mk.injEq] at hr
      obtain ⟨rfl, rfl⟩ := hr
      exact call_ok0 hs (fun k => (([a1.av F, a2.av F, a3.av F, a4.av F, a5.av F] : List AV)[k]?).getD .top) [a1, a5] [.bptr (BR.root 0) [.int .i64 v43, .bslc (BR.root 1) (.i64 v44), .bslc (BR.root 2) (.i64 v45), .bslc (BR.root 3) (.f32 v46)], .bslc (BR.root 4) (.f32 v47)] (fun F' h0 hi hρ => ⟨by simp [DVs.av, DV.av, BR.av, hρ], spec_l05Fits_fn v43 v44 v45 v46 v47 F' (by rw [hi]; rfl) (st_nil hi) ⟨bptr_ok hi (by rw [h0]; simpa [DVs.av, DV.av, BR.av, hρ] using (cellsOf_ok hs (DVs.okAt ha 0 rfl) hcp0).1) ⟨trivial, bslc_ok hi (by rw [h0, hρ]; exact rowI64_ok hs (DVs.okAt (cellsOf_ok hs (DVs.okAt ha 0 rfl) hcp0).2 1 rfl) hv44), bslc_ok hi (by rw [h0, hρ]; exact rowI64_ok hs (DVs.okAt (cellsOf_ok hs (DVs.okAt ha 0 rfl) hcp0).2 2 rfl) hv45), bslc_ok hi (by rw [h0, hρ]; exact rowF32_ok hs (DVs.okAt (cellsOf_ok hs (DVs.okAt ha 0 rfl) hcp0).2 3 rfl) hv46), trivial⟩, bslc_ok hi (by rw [h0, hρ]; exact rowF32_ok hs (DVs.okAt ha 1 rfl) hv47), trivial⟩ hy⟩) rfl
    · cases hr
  · cases hr
/-! spec.l05Times -/
noncomputable def spec_l05Times_l2_T (v101 : List Int) (v102 : List Int) (v103 : List Nat) (v104 : List Nat) (v141 : Int) (v144 : List Nat) (s : Nat × Int) : Tree ((Nat × Int) ⊕ (Nat)) :=
  (.grd (inb (IntKind.i64.wrap (v141 + (1 : Int))) v101.length) <|
  (.br (decide (s.2 < nth v101 (Int.toNat (IntKind.i64.wrap (v141 + (1 : Int)))))) (
   (.grd (inb s.2 v103.length) <|
   (.grd (inb s.2 v102.length) <|
   (.grd (inb (nth v102 (Int.toNat s.2)) v104.length) <|
   .leaf (.inl (fadd .f32 s.1 (fmul .f32 (nth v103 (Int.toNat s.2)) (nth v104 (Int.toNat (nth v102 (Int.toNat s.2))))), IntKind.i64.wrap (s.2 + (1 : Int)))))))
  ) (
   .leaf (.inr s.1)
  )))

noncomputable def spec_l05Times_l2_g (v101 : List Int) (v102 : List Int) (v103 : List Nat) (v104 : List Nat) (v141 : Int) (v144 : List Nat) (s0 : Nat × Int) : Option (Nat) := whileM (fun s => (spec_l05Times_l2_T v101 v102 v103 v104 v141 v144 s).run) s0
def spec_l05Times_l2_E (v100 : Int) (v101 : List Int) (v102 : List Int) (v103 : List Nat) (v104 : List Nat) (v141 : Int) (v144 : List Nat) (s : Nat × Int) : Sd := ([.bptr (BR.root 0) [.int .i64 v100, .bslc (BR.root 1) (.i64 v101), .bslc (BR.root 2) (.i64 v102), .bslc (BR.root 3) (.f32 v103)], .bslc (BR.root 4) (.f32 v104), .top, .top, .top, .own 0 0 ((v144).length), .int .i64 v141, .flt .f32 s.1, .int .i64 s.2, .top, .top, .top, .top, .top, .top, .top, .top, .top, .top, .top, .top, .top, .top, .top, .top, .top, .top, .top, .top, .top, .top, .top, .top, .top, .top, .top, .top, .top, .top, .top, .top, .top, .top, .top, .top, .top, .top, .top, .top, .top, .top, .top, .top, .top, .top, .top, .top, .top, .top, .top, .top, .top], [.row (.f32 v144) 0])
def spec_l05Times_l2_X (v100 : Int) (v101 : List Int) (v102 : List Int) (v103 : List Nat) (v104 : List Nat) (v141 : Int) (v144 : List Nat) (x : Nat) : Out := (.normal, [.bptr (BR.root 0) [.int .i64 v100, .bslc (BR.root 1) (.i64 v101), .bslc (BR.root 2) (.i64 v102), .bslc (BR.root 3) (.f32 v103)], .bslc (BR.root 4) (.f32 v104), .top, .top, .top, .own 0 0 ((v144).length), .int .i64 v141, .flt .f32 x, .top, .top, .top, .top, .top, .top, .top, .top, .top, .top, .top, .top, .top, .top, .top, .top, .top, .top, .top, .top, .top, .top, .top, .top, .top, .top, .top, .top, .top, .top, .top, .top, .top, .top, .top, .top, .top, .top, .top, .top, .top, .top, .top, .top, .top, .top, .top, .top, .top, .top, .top, .top, .top, .top], [.row (.f32 v144) 0])
def spec_l05Times_l2_kill : List Nat := [0, 0, 1, 1, 1, 0, 0, 0, 0, 1, 1, 1, 1, 1, 1, 1, 1, 1, 1, 1, 1, 1, 1, 1, 1, 1, 1, 1, 1, 1, 1, 1, 1, 1, 1, 1, 1, 1, 1, 1, 1, 1, 1, 1, 1, 1, 1, 1, 1, 1, 1, 1, 1, 1, 1, 1, 1, 1, 1, 1, 1, 1]
def spec_l05Times_l2_nx : Exit → List Nat
  | .exit 0 => [1, 1, 1, 1, 1, 0, 1, 1, 1, 1, 1, 1, 1, 1, 1, 1, 1, 1, 1, 1, 1, 1, 1, 1, 1, 1, 1, 1, 1, 1, 1, 1, 1, 1, 1, 1, 1, 1, 1, 1, 1, 1, 1, 1, 1, 1, 1, 1, 1, 1, 1, 1, 1, 1, 1, 1, 1, 1, 1, 1, 1, 1]
  | .exit 1 => [0, 0, 1, 1, 1, 0, 0, 1, 1, 1, 1, 1, 1, 1, 1, 1, 1, 1, 1, 1, 1, 1, 1, 1, 1, 1, 1, 1, 1, 1, 1, 1, 1, 1, 1, 1, 1, 1, 1, 1, 1, 1, 1, 1, 1, 1, 1, 1, 1, 1, 1, 1, 1, 1, 1, 1, 1, 1, 1, 1, 1, 1]
  | .exit 2 => [0, 0, 1, 1, 1, 0, 0, 0, 1, 1, 1, 1, 1, 1, 1, 1, 1, 1, 1, 1, 1, 1, 1, 1, 1, 1, 1, 1, 1, 1, 1, 1, 1, 1, 1, 1, 1, 1, 1, 1, 1, 1, 1, 1, 1, 1, 1, 1, 1, 1, 1, 1, 1, 1, 1, 1, 1, 1, 1, 1, 1, 1]
  | .ret => [1, 1, 1, 1, 0, 1, 1, 1, 1, 1, 1, 1, 1, 1, 1, 1, 1, 1, 1, 1, 1, 1, 1, 1, 1, 1, 1, 1, 1, 1, 1, 1, 1, 1, 1, 1, 1, 1, 1, 1, 1, 1, 1, 1, 1, 1, 1, 1, 1, 1, 1, 1, 1, 1, 1, 1, 1, 1, 1, 1, 1, 1]
  | _ => []
noncomputable def spec_l05Times_l0_T (v100 : Int) (v101 : List Int) (v102 : List Int) (v103 : List Nat) (v104 : List Nat) (s : Int × (List Nat)) : Tree ((Int × (List Nat)) ⊕ ((List Nat))) :=
  (.br (decide (s.1 < v100)) (
   (.grd (inb s.1 v101.length) <|
   (.need (some (spec_l05Times_l2_E v100 v101 v102 v103 v104 s.1 s.2 ((0 : Nat), nth v101 (Int.toNat s.1))) = some (spec_l05Times_l2_E v100 v101 v102 v103 v104 s.1 s.2 ((0 : Nat), nth v101 (Int.toNat s.1)))) <|
   (.call (spec_l05Times_l2_g v101 v102 v103 v104 s.1 s.2 ((0 : Nat), nth v101 (Int.toNat s.1))) fun v145 =>
   (.grd (fits (s.2 ++ ([v145] : List Nat)).length) <|
   .leaf (.inl (IntKind.i64.wrap (s.1 + (1 : Int)), s.2 ++ ([v145] : List Nat)))))))
  ) (
   .leaf (.inr s.2)
  ))

noncomputable def spec_l05Times_l0_g (v100 : Int) (v101 : List Int) (v102 : List Int) (v103 : List Nat) (v104 : List Nat) (s0 : Int × (List Nat)) : Option ((List Nat)) := whileM (fun s => (spec_l05Times_l0_T v100 v101 v102 v103 v104 s).run) s0
def spec_l05Times_l0_E (v100 : Int) (v101 : List Int) (v102 : List Int) (v103 : List Nat) (v104 : List Nat) (s : Int × (List Nat)) : Sd := ([.bptr (BR.root 0) [.int .i64 v100, .bslc (BR.root 1) (.i64 v101), .bslc (BR.root 2) (.i64 v102), .bslc (BR.root 3) (.f32 v103)], .bslc (BR.root 4) (.f32 v104), .top, .top, .top, .own 0 0 ((s.2).length), .int .i64 s.1, .top, .top, .top, .top, .top, .top, .top, .top, .top, .top, .top, .top, .top, .top, .top, .top, .top, .top, .top, .top, .top, .top, .top, .top, .top, .top, .top, .top, .top, .top, .top, .top, .top, .top, .top, .top, .top, .top, .top, .top, .top, .top, .top, .top, .top, .top, .top, .top, .top, .top, .top, .top, .top, .top, .top], [.row (.f32 s.2) 0])
def spec_l05Times_l0_X (v100 : Int) (v101 : List Int) (v102 : List Int) (v103 : List Nat) (v104 : List Nat) (x : (List Nat)) : Out := (.normal, [.top, .top, .top, .top, .top, .own 0 0 ((x).length), .top, .top, .top, .top, .top, .top, .top, .top, .top, .top, .top, .top, .top, .top, .top, .top, .top, .top, .top, .top, .top, .top, .top, .top, .top, .top, .top, .top, .top, .top, .top, .top, .top, .top, .top, .top, .top, .top, .top, .top, .top, .top, .top, .top, .top, .top, .top, .top, .top, .top, .top, .top, .top, .top, .top, .top], [.row (.f32 x) 0])
def spec_l05Times_l0_kill : List Nat := [0, 0, 1, 1, 1, 0, 0, 1, 1, 1, 1, 1, 1, 1, 1, 1, 1, 1, 1, 1, 1, 1, 1, 1, 1, 1, 1, 1, 1, 1, 1, 1, 1, 1, 1, 1, 1, 1, 1, 1, 1, 1, 1, 1, 1, 1, 1, 1, 1, 1, 1, 1, 1, 1, 1, 1, 1, 1, 1, 1, 1, 1]
def spec_l05Times_l0_nx : Exit → List Nat
  | .exit 0 => [1, 1, 1, 1, 1, 0, 1, 1, 1, 1, 1, 1, 1, 1, 1, 1, 1, 1, 1, 1, 1, 1, 1, 1, 1, 1, 1, 1, 1, 1, 1, 1, 1, 1, 1, 1, 1, 1, 1, 1, 1, 1, 1, 1, 1, 1, 1, 1, 1, 1, 1, 1, 1, 1, 1, 1, 1, 1, 1, 1, 1, 1]
  | .ret => [1, 1, 1, 1, 0, 1, 1, 1, 1, 1, 1, 1, 1, 1, 1, 1, 1, 1, 1, 1, 1, 1, 1, 1, 1, 1, 1, 1, 1, 1, 1, 1, 1, 1, 1, 1, 1, 1, 1, 1, 1, 1, 1, 1, 1, 1, 1, 1, 1, 1, 1, 1, 1, 1, 1, 1, 1, 1, 1, 1, 1, 1]
  | _ => []
noncomputable def spec_l05Times_LO (v100 : Int) (v101 : List Int) (v102 : List Int) (v103 : List Nat) (v104 : List Nat) : LOr := fun id e L =>
  match id with
  | 2 => .need (normA 0 spec_l05Times_l2_kill e L = some (spec_l05Times_l2_E v100 v101 v102 v103 v104 (gI (vAt e 6)) (gRF L (vAt e 5)) ((gF (vAt e 7)), (gI (vAt e 8))))) (.call (spec_l05Times_l2_g v101 v102 v103 v104 (gI (vAt e 6)) (gRF L (vAt e 5)) ((gF (vAt e 7)), (gI (vAt e 8)))) fun x => .leaf (spec_l05Times_l2_X v100 v101 v102 v103 v104 (gI (vAt e 6)) (gRF L (vAt e 5)) x))
  | 0 => .need (normA 0 spec_l05Times_l0_kill e L = some (spec_l05Times_l0_E v100 v101 v102 v103 v104 ((gI (vAt e 6)), (gRF L (vAt e 5))))) (.call (spec_l05Times_l0_g v100 v101 v102 v103 v104 ((gI (vAt e 6)), (gRF L (vAt e 5)))) fun x => .leaf (spec_l05Times_l0_X v100 v101 v102 v103 v104 x))
  | _ => .fail
noncomputable def spec_l05Times_tab : List (FuncId × DFn × Bool) := []
theorem spec_l05Times_hO : OrcOk Try.prog (tabD spec_l05Times_tab) (tabM spec_l05Times_tab) := tabD_nil _
theorem spec_l05Times_l2_be (v100 : Int) (v101 : List Int) (v102 : List Int) (v103 : List Nat) (v104 : List Nat) (v141 : Int) (v144 : List Nat) (s : Nat × Int) : bodyT TT (tabD spec_l05Times_tab) (tabM spec_l05Times_tab) (spec_l05Times_LO v100 v101 v102 v103 v104) 0 spec_l05Times_l2_kill spec_l05Times_l2_nx (bodyOf Try.f67 2) 2 (spec_l05Times_l2_E v100 v101 v102 v103 v104 v141 v144 s) = (spec_l05Times_l2_T v101 v102 v103 v104 v141 v144 s).bind fun y => .leaf (outS (spec_l05Times_l2_E v100 v101 v102 v103 v104 v141 v144) (spec_l05Times_l2_X v100 v101 v102 v103 v104 v141 v144) y) := by kernel_rfl
theorem spec_l05Times_l2_ok (v100 : Int) (v101 : List Int) (v102 : List Int) (v103 : List Nat) (v104 : List Nat) : LSound Try.prog 0 (spec_l05Times_LO v100 v101 v102 v103 v104) 2 (bodyOf Try.f67 2) := by
  intro e L out h
  exact lo_ok (E := spec_l05Times_l2_E v100 v101 v102 v103 v104 (gI (vAt e 6)) (gRF L (vAt e 5))) (gT := spec_l05Times_l2_T v101 v102 v103 v104 (gI (vAt e 6)) (gRF L (vAt e 5))) (X := spec_l05Times_l2_X v100 v101 v102 v103 v104 (gI (vAt e 6)) (gRF L (vAt e 5))) (s0 := ((gF (vAt e 7)), (gI (vAt e 8)))) tok spec_l05Times_hO mixed (LoopsOk_eq (l := []) (by kernel_rfl) trivial) (spec_l05Times_l2_be v100 v101 v102 v103 v104 (gI (vAt e 6)) (gRF L (vAt e 5))) rfl (by intro x; rfl) h
theorem spec_l05Times_l0_be (v100 : Int) (v101 : List Int) (v102 : List Int) (v103 : List Nat) (v104 : List Nat) (s : Int × (List Nat)) : bodyT TT (tabD spec_l05Times_tab) (tabM spec_l05Times_tab) (spec_l05Times_LO v100 v101 v102 v103 v104) 0 spec_l05Times_l0_kill spec_l05Times_l0_nx (bodyOf Try.f67 0) 0 (spec_l05Times_l0_E v100 v101 v102 v103 v104 s) = (spec_l05Times_l0_T v100 v101 v102 v103 v104 s).bind fun y => .leaf (outS (spec_l05Times_l0_E v100 v101 v102 v103 v104) (spec_l05Times_l0_X v100 v101 v102 v103 v104) y) := by kernel_rfl
theorem spec_l05Times_l0_ok (v100 : Int) (v101 : List Int) (v102 : List Int) (v103 : List Nat) (v104 : List Nat) : LSound Try.prog 0 (spec_l05Times_LO v100 v101 v102 v103 v104) 0 (bodyOf Try.f67 0) := by
  intro e L out h
  exact lo_ok (E := spec_l05Times_l0_E v100 v101 v102 v103 v104) (gT := spec_l05Times_l0_T v100 v101 v102 v103 v104) (X := spec_l05Times_l0_X v100 v101 v102 v103 v104) (s0 := ((gI (vAt e 6)), (gRF L (vAt e 5)))) tok spec_l05Times_hO mixed (LoopsOk_eq (l := [(2, bodyOf Try.f67 2)]) (by kernel_rfl) ⟨spec_l05Times_l2_ok v100 v101 v102 v103 v104, trivial⟩) (spec_l05Times_l0_be v100 v101 v102 v103 v104) rfl (by intro x; rfl) h
noncomputable def spec_l05Times_T (v100 : Int) (v101 : List Int) (v102 : List Int) (v103 : List Nat) (v104 : List Nat) : Tree ((List Nat)) :=
  (.need (some (spec_l05Times_l0_E v100 v101 v102 v103 v104 ((0 : Int), ([] : List Nat))) = some (spec_l05Times_l0_E v100 v101 v102 v103 v104 ((0 : Int), ([] : List Nat)))) <|
  (.call (spec_l05Times_l0_g v100 v101 v102 v103 v104 ((0 : Int), ([] : List Nat))) fun v146 =>
  .leaf v146))

noncomputable def spec_l05Times_g (v100 : Int) (v101 : List Int) (v102 : List Int) (v103 : List Nat) (v104 : List Nat) : Option ((List Nat)) := (spec_l05Times_T v100 v101 v102 v103 v104).run
def spec_l05Times_enc (v100 : Int) (v101 : List Int) (v102 : List Int) (v103 : List Nat) (v104 : List Nat) (y : (List Nat)) : Rs := (.own 0 0 ((y).length), [.row (.f32 y) 0])
theorem spec_l05Times_den (v100 : Int) (v101 : List Int) (v102 : List Int) (v103 : List Nat) (v104 : List Nat) : (den TT (tabD spec_l05Times_tab) (tabM spec_l05Times_tab) (spec_l05Times_LO v100 v101 v102 v103 v104) (codeOf Try.f67) ([.bptr (BR.root 0) [.int .i64 v100, .bslc (BR.root 1) (.i64 v101), .bslc (BR.root 2) (.i64 v102), .bslc (BR.root 3) (.f32 v103)], .bslc (BR.root 4) (.f32 v104)] ++ List.replicate (Try.f67.ntmps - ([.bptr (BR.root 0) [.int .i64 v100, .bslc (BR.root 1) (.i64 v101), .bslc (BR.root 2) (.i64 v102), .bslc (BR.root 3) (.f32 v103)], .bslc (BR.root 4) (.f32 v104)] : List DV).length) .undef) []).bind (retD TT Try.f67.results.toList 0) = (spec_l05Times_T v100 v101 v102 v103 v104).bind fun y => .leaf (spec_l05Times_enc v100 v101 v102 v103 v104 y) := by kernel_rfl
theorem spec_l05Times_fn (v100 : Int) (v101 : List Int) (v102 : List Int) (v103 : List Nat) (v104 : List Nat) (F : Fr) (hm : F.ids.length = 0) (h0 : St F [] F.H0) (hA : DVs.Ok F [] [.bptr (BR.root 0) [.int .i64 v100, .bslc (BR.root 1) (.i64 v101), .bslc (BR.root 2) (.i64 v102), .bslc (BR.root 3) (.f32 v103)], .bslc (BR.root 4) (.f32 v104)]) {y : (List Nat)} (hy : spec_l05Times_g v100 v101 v102 v103 v104 = some y) : ∃ H', FnOk Try.prog 67 (DVs.av F [.bptr (BR.root 0) [.int .i64 v100, .bslc (BR.root 1) (.i64 v101), .bslc (BR.root 2) (.i64 v102), .bslc (BR.root 3) (.f32 v103)], .bslc (BR.root 4) (.f32 v104)]) F.H0 ((spec_l05Times_enc v100 v101 v102 v103 v104 y).1.av F) H' ∧ St F (spec_l05Times_enc v100 v101 v102 v103 v104 y).2 H' ∧ (spec_l05Times_enc v100 v101 v102 v103 v104 y).1.Ok F (spec_l05Times_enc v100 v101 v102 v103 v104 y).2 :=
  fn_fin tok spec_l05Times_hO mixed Try.func67 Try.call67 (by kernel_rfl) (LoopsOk_eq (l := [(0, bodyOf Try.f67 0)]) (by kernel_rfl) ⟨spec_l05Times_l0_ok v100 v101 v102 v103 v104, trivial⟩) (spec_l05Times_den v100 v101 v102 v103 v104) hy hm h0 hA
noncomputable def spec_l05Times_F : DFn := fun args L =>
  match args with
  | [a1, a5] =>
    optT (cellsOf L 4 a1) fun cs0 =>
    (match cs0 with
    | [.int .i64 v100, a2, a3, a4] =>
    optT (rowI64 L a2) fun v101 =>
    optT (rowI64 L a3) fun v102 =>
    optT (rowF32 L a4) fun v103 =>
    optT (rowF32 L a5) fun v104 =>
    .call (spec_l05Times_g v100 v101 v102 v103 v104) fun y => .leaf (.own (L.length + 0) 0 ((y).length), L ++ [.row (.f32 y) 0])
    | _ => .fail)
  | _ => .fail
theorem spec_l05Times_Fok : COk Try.prog 67 spec_l05Times_F true := by
  intro F L H args r L' hs ha hr
  unfold spec_l05Times_F at hr
  split at hr
  · rename_i a1 a5
    obtain ⟨cs0, hcp0, hr⟩ := optT_run hr
    split at hr
    · rename_i v100 a2 a3 a4
      obtain ⟨v101, hv101, hr⟩ := optT_run hr
      obtain ⟨v102, hv102, hr⟩ := optT_run hr
      obtain ⟨v103, hv103, hr⟩ := optT_run hr
      obtain ⟨v104, hv104, hr⟩ := optT_run hr
      simp only [Tree.run] at hr
      obtain ⟨y, hy, hr⟩ := Option.bind_eq_some_iff.1 hr
      simp only [Tree.run, Option.some.injEq, Prod.mk.injEq] at hr
      obtain ⟨rfl, rfl⟩ := hr
      exact call_ok1 hs (fun k => (([a1.av F, a2.av F, a3.av F, a4.av F, a5.av F] : List AV)[k]?).getD .top) [a1, a5] [.bptr (BR.root 0) [.int .i64 v100, .bslc (BR.root 1) (.i64 v101), .bslc (BR.root 2) (.i64 v102), .bslc (BR.root 3) (.f32 v103)], .bslc (BR.root 4) (.f32 v104)] (fun F' h0 hi hρ => ⟨by simp [DVs.av, DV.av, BR.av, hρ], spec_l05Times_fn v100 v101 v102 v103 v104 F' (by rw [hi]; rfl) (st_nil hi) ⟨bptr_ok hi (by rw [h0]; simpa [DVs.av, DV.av, BR.av, hρ] using (cellsOf_ok hs (DVs.okAt ha 0 rfl) hcp0).1) ⟨trivial, bslc_ok hi (by rw [h0, hρ]; exact rowI64_ok hs (DVs.okAt (cellsOf_ok hs (DVs.okAt ha 0 rfl) hcp0).2 1 rfl) hv101), bslc_ok hi (by rw [h0, hρ]; exact rowI64_ok hs (DVs.okAt (cellsOf_ok hs (DVs.okAt ha 0 rfl) hcp0).2 2 rfl) hv102), bslc_ok hi (by rw [h0, hρ]; exact rowF32_ok hs (DVs.okAt (cellsOf_ok hs (DVs.okAt ha 0 rfl) hcp0).2 3 rfl) hv103), trivial⟩, bslc_ok hi (by rw [h0, hρ]; exact rowF32_ok hs (DVs.okAt ha 1 rfl) hv104), trivial⟩ hy⟩) rfl rfl
    · cases hr
  · cases hr
/-! spec.l02List -/
noncomputable def spec_l02List_LO (v148 : List Nat) : LOr := fun id e L =>
  match id with
  | _ => .fail
noncomputable def spec_l02List_tab : List (FuncId × DFn × Bool) := [(131, spec_l02Finite_F, true)]
theorem spec_l02List_hO : OrcOk Try.prog (tabD spec_l02List_tab) (tabM spec_l02List_tab) := tabD_cons spec_l02Finite_Fok (tabD_nil _)
noncomputable def spec_l02List_T (v148 : List Nat) : Tree ((Unit) ⊕ (Unit)) :=
  (.call (spec_l02Finite_g v148) fun v149 =>
  (.br (!v149) (
   .leaf (.inl ())
  ) (
   .leaf (.inr ())
  )))

noncomputable def spec_l02List_g (v148 : List Nat) : Option ((Unit) ⊕ (Unit)) := (spec_l02List_T v148).run
def spec_l02List_enc (v148 : List Nat) (y : (Unit) ⊕ (Unit)) : Rs := (match y with | .inl y => (.tup [.nilslc, .lit false], []) | .inr y => (.tup [.bslc (BR.root 0) (.f32 v148), .lit true], []))
theorem spec_l02List_den (v148 : List Nat) : (den TT (tabD spec_l02List_tab) (tabM spec_l02List_tab) (spec_l02List_LO v148) (codeOf Try.f66) ([.bslc (BR.root 0) (.f32 v148)] ++ List.replicate (Try.f66.ntmps - ([.bslc (BR.root 0) (.f32 v148)] : List DV).length) .undef) []).bind (retD TT Try.f66.results.toList 0) = (spec_l02List_T v148).bind fun y => .leaf (spec_l02List_enc v148 y) := by kernel_rfl
theorem spec_l02List_fn (v148 : List Nat) (F : Fr) (hm : F.ids.length = 0) (h0 : St F [] F.H0) (hA : DVs.Ok F [] [.bslc (BR.root 0) (.f32 v148)]) {y : (Unit) ⊕ (Unit)} (hy : spec_l02List_g v148 = some y) : ∃ H', FnOk Try.prog 66 (DVs.av F [.bslc (BR.root 0) (.f32 v148)]) F.H0 ((spec_l02List_enc v148 y).1.av F) H' ∧ St F (spec_l02List_enc v148 y).2 H' ∧ (spec_l02List_enc v148 y).1.Ok F (spec_l02List_enc v148 y).2 :=
  fn_fin tok spec_l02List_hO mixed Try.func66 Try.call66 (by kernel_rfl) (LoopsOk_eq (l := []) (by kernel_rfl) trivial) (spec_l02List_den v148) hy hm h0 hA
noncomputable def spec_l02List_F : DFn := fun args L =>
  match args with
  | [a1] =>
    optT (rowF32 L a1) fun v148 =>
    .call (spec_l02List_g v148) fun y => .sum y (fun y0 => .leaf (.tup [.nilslc, .lit false], L)) (fun z0 => .leaf (.tup [a1, .lit true], L))
  | _ => .fail
theorem spec_l02List_Fok : COk Try.prog 66 spec_l02List_F true := by
  intro F L H args r L' hs ha hr
  unfold spec_l02List_F at hr
  split at hr
  · rename_i a1
    obtain ⟨v148, hv148, hr⟩ := optT_run hr
    simp only [Tree.run] at hr
    obtain ⟨y, hy, hr⟩ := Option.bind_eq_some_iff.1 hr
    cases y with
    | inl y =>
      simp only [Tree.run, Option.some.injEq, Prod.mk.injEq] at hr
      obtain ⟨rfl, rfl⟩ := hr
      exact call_ok0 hs (fun k => (([a1.av F] : List AV)[k]?).getD .top) [a1] [.bslc (BR.root 0) (.f32 v148)] (fun F' h0 hi hρ => ⟨by simp [DVs.av, DV.av, BR.av, hρ], spec_l02List_fn v148 F' (by rw [hi]; rfl) (st_nil hi) ⟨bslc_ok hi (by rw [h0, hρ]; exact rowF32_ok hs (DVs.okAt ha 0 rfl) hv148), trivial⟩ hy⟩) rfl
    | inr y =>
      simp only [Tree.run, Option.some.injEq, Prod.mk.injEq] at hr
      obtain ⟨rfl, rfl⟩ := hr
      exact call_al0 hs (fun k => (([a1.av F] : List AV)[k]?).getD .top) [a1] [.bslc (BR.root 0) (.f32 v148)] (fun F' h0 hi hρ => ⟨by simp [DVs.av, DV.av, BR.av, hρ], spec_l02List_fn v148 F' (by rw [hi]; rfl) (st_nil hi) ⟨bslc_ok hi (by rw [h0, hρ]; exact rowF32_ok hs (DVs.okAt ha 0 rfl) hv148), trivial⟩ hy⟩) (fun F' h0 hi hρ => by simp [spec_l02List_enc, DVs.av, DV.av, BR.av, hρ]) ⟨(DVs.okAt ha 0 rfl), trivial, trivial⟩
  · cases hr
/-! spec.SparseTimes -/
noncomputable def spec_SparseTimes_LO (v38 : Int) (v39 : List Int) (v40 : List Int) (v41 : List Nat) (v42 : List Nat) : LOr := fun id e L =>
  match id with
  | _ => .fail
noncomputable def spec_SparseTimes_tab : List (FuncId × DFn × Bool) := [(65, spec_l05Fits_F, true), (67, spec_l05Times_F, true), (66, spec_l02List_F, true)]
theorem spec_SparseTimes_hO : OrcOk Try.prog (tabD spec_SparseTimes_tab) (tabM spec_SparseTimes_tab) := tabD_cons spec_l05Fits_Fok (tabD_cons spec_l05Times_Fok (tabD_cons spec_l02List_Fok (tabD_nil _)))
noncomputable def spec_SparseTimes_T (v38 : Int) (v39 : List Int) (v40 : List Int) (v41 : List Nat) (v42 : List Nat) : Tree ((Unit) ⊕ ((List Nat))) :=
  (.call (spec_l05Fits_g v38 v39 v40 v41 v42) fun v99 =>
  (.br (!v99) (
   .leaf (.inl ())
  ) (
   (.call (spec_l05Times_g v38 v39 v40 v41 v42) fun v147 =>
   (.call (spec_l02List_g v147) fun v150 =>
   (.sum v150 (fun v151 =>
    .leaf (.inl ())
   ) (fun v152 =>
    .leaf (.inr v147)
   ))))
  )))

noncomputable def spec_SparseTimes_g (v38 : Int) (v39 : List Int) (v40 : List Int) (v41 : List Nat) (v42 : List Nat) : Option ((Unit) ⊕ ((List Nat))) := (spec_SparseTimes_T v38 v39 v40 v41 v42).run
def spec_SparseTimes_enc (v38 : Int) (v39 : List Int) (v40 : List Int) (v41 : List Nat) (v42 : List Nat) (y : (Unit) ⊕ ((List Nat))) : Rs := (match y with | .inl y => (.tup [.nilslc, .lit false], []) | .inr y => (.tup [.own 0 0 ((y).length), .lit true], [.row (.f32 y) 0]))
theorem spec_SparseTimes_den (v38 : Int) (v39 : List Int) (v40 : List Int) (v41 : List Nat) (v42 : List Nat) : (den TT (tabD spec_SparseTimes_tab) (tabM spec_SparseTimes_tab) (spec_SparseTimes_LO v38 v39 v40 v41 v42) (codeOf Try.f16) ([.agg [.int .i64 v38, .bslc (BR.root 0) (.i64 v39), .bslc (BR.root 1) (.i64 v40), .bslc (BR.root 2) (.f32 v41)], .bslc (BR.root 3) (.f32 v42)] ++ List.replicate (Try.f16.ntmps - ([.agg [.int .i64 v38, .bslc (BR.root 0) (.i64 v39), .bslc (BR.root 1) (.i64 v40), .bslc (BR.root 2) (.f32 v41)], .bslc (BR.root 3) (.f32 v42)] : List DV).length) .undef) []).bind (retD TT Try.f16.results.toList 0) = (spec_SparseTimes_T v38 v39 v40 v41 v42).bind fun y => .leaf (spec_SparseTimes_enc v38 v39 v40 v41 v42 y) := by kernel_rfl
theorem spec_SparseTimes_fn (v38 : Int) (v39 : List Int) (v40 : List Int) (v41 : List Nat) (v42 : List Nat) (F : Fr) (hm : F.ids.length = 0) (h0 : St F [] F.H0) (hA : DVs.Ok F [] [.agg [.int .i64 v38, .bslc (BR.root 0) (.i64 v39), .bslc (BR.root 1) (.i64 v40), .bslc (BR.root 2) (.f32 v41)], .bslc (BR.root 3) (.f32 v42)]) {y : (Unit) ⊕ ((List Nat))} (hy : spec_SparseTimes_g v38 v39 v40 v41 v42 = some y) : ∃ H', FnOk Try.prog 16 (DVs.av F [.agg [.int .i64 v38, .bslc (BR.root 0) (.i64 v39), .bslc (BR.root 1) (.i64 v40), .bslc (BR.root 2) (.f32 v41)], .bslc (BR.root 3) (.f32 v42)]) F.H0 ((spec_SparseTimes_enc v38 v39 v40 v41 v42 y).1.av F) H' ∧ St F (spec_SparseTimes_enc v38 v39 v40 v41 v42 y).2 H' ∧ (spec_SparseTimes_enc v38 v39 v40 v41 v42 y).1.Ok F (spec_SparseTimes_enc v38 v39 v40 v41 v42 y).2 :=
  fn_fin tok spec_SparseTimes_hO mixed Try.func16 Try.call16 (by kernel_rfl) (LoopsOk_eq (l := []) (by kernel_rfl) trivial) (spec_SparseTimes_den v38 v39 v40 v41 v42) hy hm h0 hA
noncomputable def spec_SparseTimes_F : DFn := fun args L =>
  match args with
  | [.agg [.int .i64 v38, a1, a2, a3], a4] =>
    optT (rowI64 L a1) fun v39 =>
    optT (rowI64 L a2) fun v40 =>
    optT (rowF32 L a3) fun v41 =>
    optT (rowF32 L a4) fun v42 =>
    .call (spec_SparseTimes_g v38 v39 v40 v41 v42) fun y => .sum y (fun y0 => .leaf (.tup [.nilslc, .lit false], L)) (fun z0 => .leaf (.tup [.own (L.length + 0) 0 ((z0).length), .lit true], L ++ [.row (.f32 z0) 0]))
  | _ => .fail
theorem spec_SparseTimes_Fok : COk Try.prog 16 spec_SparseTimes_F true := by
  intro F L H args r L' hs ha hr
  unfold spec_SparseTimes_F at hr
  split at hr
  · rename_i v38 a1 a2 a3 a4
    obtain ⟨v39, hv39, hr⟩ := optT_run hr
    obtain ⟨v40, hv40, hr⟩ := optT_run hr
    obtain ⟨v41, hv41, hr⟩ := optT_run hr
    obtain ⟨v42, hv42, hr⟩ := optT_run hr
    simp only [Tree.run] at hr
    obtain ⟨y, hy, hr⟩ := Option.bind_eq_some_iff.1 hr
    cases y with
    | inl y =>
      simp only [Tree.run, Option.some.injEq, Prod.mk.injEq] at hr
      obtain ⟨rfl, rfl⟩ := hr
      exact call_ok0 hs (fun k => (([a1.av F, a2.av F, a3.av F, a4.av F] : List AV)[k]?).getD .top) [.agg [.int .i64 v38, a1, a2, a3], a4] [.agg [.int .i64 v38, .bslc (BR.root 0) (.i64 v39), .bslc (BR.root 1) (.i64 v40), .bslc (BR.root 2) (.f32 v41)], .bslc (BR.root 3) (.f32 v42)] (fun F' h0 hi hρ => ⟨by simp [DVs.av, DV.av, BR.av, hρ], spec_SparseTimes_fn v38 v39 v40 v41 v42 F' (by rw [hi]; rfl) (st_nil hi) ⟨⟨trivial, bslc_ok hi (by rw [h0, hρ]; exact rowI64_ok hs (DVs.okAt (DVs.okAt ha 0 rfl) 1 rfl) hv39), bslc_ok hi (by rw [h0, hρ]; exact rowI64_ok hs (DVs.okAt (DVs.okAt ha 0 rfl) 2 rfl) hv40), bslc_ok hi (by rw [h0, hρ]; exact rowF32_ok hs (DVs.okAt (DVs.okAt ha 0 rfl) 3 rfl) hv41), trivial⟩, bslc_ok hi (by rw [h0, hρ]; exact rowF32_ok hs (DVs.okAt ha 1 rfl) hv42), trivial⟩ hy⟩) rfl
    | inr y =>
      simp only [Tree.run, Option.some.injEq, Prod.mk.injEq] at hr
      obtain ⟨rfl, rfl⟩ := hr
      exact call_ok1 hs (fun k => (([a1.av F, a2.av F, a3.av F, a4.av F] : List AV)[k]?).getD .top) [.agg [.int .i64 v38, a1, a2, a3], a4] [.agg [.int .i64 v38, .bslc (BR.root 0) (.i64 v39), .bslc (BR.root 1) (.i64 v40), .bslc (BR.root 2) (.f32 v41)], .bslc (BR.root 3) (.f32 v42)] (fun F' h0 hi hρ => ⟨by simp [DVs.av, DV.av, BR.av, hρ], spec_SparseTimes_fn v38 v39 v40 v41 v42 F' (by rw [hi]; rfl) (st_nil hi) ⟨⟨trivial, bslc_ok hi (by rw [h0, hρ]; exact rowI64_ok hs (DVs.okAt (DVs.okAt ha 0 rfl) 1 rfl) hv39), bslc_ok hi (by rw [h0, hρ]; exact rowI64_ok hs (DVs.okAt (DVs.okAt ha 0 rfl) 2 rfl) hv40), bslc_ok hi (by rw [h0, hρ]; exact rowF32_ok hs (DVs.okAt (DVs.okAt ha 0 rfl) 3 rfl) hv41), trivial⟩, bslc_ok hi (by rw [h0, hρ]; exact rowF32_ok hs (DVs.okAt ha 1 rfl) hv42), trivial⟩ hy⟩) rfl rfl
  · cases hr
/-! impl.length[int64] -/
noncomputable def impl_lengthI_LO (v172 : List Int) : LOr := fun id e L =>
  match id with
  | _ => .fail
noncomputable def impl_lengthI_tab : List (FuncId × DFn × Bool) := []
theorem impl_lengthI_hO : OrcOk Try.prog (tabD impl_lengthI_tab) (tabM impl_lengthI_tab) := tabD_nil _
noncomputable def impl_lengthI_T (v172 : List Int) : Tree (Int) :=
  .leaf ((v172.length : Nat) : Int)

noncomputable def impl_lengthI_g (v172 : List Int) : Option (Int) := (impl_lengthI_T v172).run
def impl_lengthI_enc (v172 : List Int) (y : Int) : Rs := (.int .i64 y, [])
theorem impl_lengthI_den (v172 : List Int) : (den TT (tabD impl_lengthI_tab) (tabM impl_lengthI_tab) (impl_lengthI_LO v172) (codeOf Try.f109) ([.bslc (BR.root 0) (.i64 v172)] ++ List.replicate (Try.f109.ntmps - ([.bslc (BR.root 0) (.i64 v172)] : List DV).length) .undef) []).bind (retD TT Try.f109.results.toList 0) = (impl_lengthI_T v172).bind fun y => .leaf (impl_lengthI_enc v172 y) := by kernel_rfl
theorem impl_lengthI_fn (v172 : List Int) (F : Fr) (hm : F.ids.length = 0) (h0 : St F [] F.H0) (hA : DVs.Ok F [] [.bslc (BR.root 0) (.i64 v172)]) {y : Int} (hy : impl_lengthI_g v172 = some y) : ∃ H', FnOk Try.prog 109 (DVs.av F [.bslc (BR.root 0) (.i64 v172)]) F.H0 ((impl_lengthI_enc v172 y).1.av F) H' ∧ St F (impl_lengthI_enc v172 y).2 H' ∧ (impl_lengthI_enc v172 y).1.Ok F (impl_lengthI_enc v172 y).2 :=
  fn_fin tok impl_lengthI_hO mixed Try.func109 Try.call109 (by kernel_rfl) (LoopsOk_eq (l := []) (by kernel_rfl) trivial) (impl_lengthI_den v172) hy hm h0 hA
def impl_lengthI_v (v172 : List Int) : Int :=
  ((v172.length : Nat) : Int)
theorem impl_lengthI_tot (v172 : List Int) : impl_lengthI_g v172 = some (impl_lengthI_v v172) := by
  unfold impl_lengthI_g impl_lengthI_T impl_lengthI_v
  simp only [Tree.run]
  repeat' (first | rfl | split)
noncomputable def impl_lengthI_F : DFn := fun args L =>
  match args with
  | [a1] =>
    optT (rowI64 L a1) fun v172 =>
    .leaf (.int .i64 (impl_lengthI_v v172), L)
  | _ => .fail
theorem impl_lengthI_Fok : COk Try.prog 109 impl_lengthI_F true := by
  intro F L H args r L' hs ha hr
  unfold impl_lengthI_F at hr
  split at hr
  · rename_i a1
    obtain ⟨v172, hv172, hr⟩ := optT_run hr
    have hy := impl_lengthI_tot v172
    generalize impl_lengthI_v v172 = y at hy hr
    simp only [Tree.run, Option.some.injEq, Prod.mk.injEq] at hr
    obtain ⟨rfl, rfl⟩ := hr
    exact call_ok0 hs (fun k => (([a1.av F] : List AV)[k]?).getD .top) [a1] [.bslc (BR.root 0) (.i64 v172)] (fun F' h0 hi hρ => ⟨by simp [DVs.av, DV.av, BR.av, hρ], impl_lengthI_fn v172 F' (by rw [hi]; rfl) (st_nil hi) ⟨bslc_ok hi (by rw [h0, hρ]; exact rowI64_ok hs (DVs.okAt ha 0 rfl) hv172), trivial⟩ hy⟩) rfl
  · cases hr
/-! impl.inRange -/
noncomputable def impl_inRange_LO (v173 : Int) (v174 : Int) (v175 : Int) : LOr := fun id e L =>
  match id with
  | _ => .fail
noncomputable def impl_inRange_tab : List (FuncId × DFn × Bool) := []
theorem impl_inRange_hO : OrcOk Try.prog (tabD impl_inRange_tab) (tabM impl_inRange_tab) := tabD_nil _
noncomputable def impl_inRange_T (v173 : Int) (v174 : Int) (v175 : Int) : Tree (Bool) :=
  (.br (decide (v174 ≤ v173)) (
   .leaf (decide (v173 ≤ v175))
  ) (
   .leaf false
  ))

noncomputable def impl_inRange_g (v173 : Int) (v174 : Int) (v175 : Int) : Option (Bool) := (impl_inRange_T v173 v174 v175).run
def impl_inRange_enc (v173 : Int) (v174 : Int) (v175 : Int) (y : Bool) : Rs := (.bool y, [])
theorem impl_inRange_den (v173 : Int) (v174 : Int) (v175 : Int) : (den TT (tabD impl_inRange_tab) (tabM impl_inRange_tab) (impl_inRange_LO v173 v174 v175) (codeOf Try.f72) ([.int .i64 v173, .int .i64 v174, .int .i64 v175] ++ List.replicate (Try.f72.ntmps - ([.int .i64 v173, .int .i64 v174, .int .i64 v175] : List DV).length) .undef) []).bind (retD TT Try.f72.results.toList 0) = (impl_inRange_T v173 v174 v175).bind fun y => .leaf (impl_inRange_enc v173 v174 v175 y) := by kernel_rfl
theorem impl_inRange_fn (v173 : Int) (v174 : Int) (v175 : Int) (F : Fr) (hm : F.ids.length = 0) (h0 : St F [] F.H0) (hA : DVs.Ok F [] [.int .i64 v173, .int .i64 v174, .int .i64 v175]) {y : Bool} (hy : impl_inRange_g v173 v174 v175 = some y) : ∃ H', FnOk Try.prog 72 (DVs.av F [.int .i64 v173, .int .i64 v174, .int .i64 v175]) F.H0 ((impl_inRange_enc v173 v174 v175 y).1.av F) H' ∧ St F (impl_inRange_enc v173 v174 v175 y).2 H' ∧ (impl_inRange_enc v173 v174 v175 y).1.Ok F (impl_inRange_enc v173 v174 v175 y).2 :=
  fn_fin tok impl_inRange_hO mixed Try.func72 Try.call72 (by kernel_rfl) (LoopsOk_eq (l := []) (by kernel_rfl) trivial) (impl_inRange_den v173 v174 v175) hy hm h0 hA
def impl_inRange_v (v173 : Int) (v174 : Int) (v175 : Int) : Bool :=
  if (decide (v174 ≤ v173)) = true then (
   decide (v173 ≤ v175)
  ) else (
   false
  )
theorem impl_inRange_tot (v173 : Int) (v174 : Int) (v175 : Int) : impl_inRange_g v173 v174 v175 = some (impl_inRange_v v173 v174 v175) := by
  unfold impl_inRange_g impl_inRange_T impl_inRange_v
  simp only [Tree.run]
  repeat' (first | rfl | split)
noncomputable def impl_inRange_F : DFn := fun args L =>
  match args with
  | [.int .i64 v173, .int .i64 v174, .int .i64 v175] =>
    .leaf (.bool (impl_inRange_v v173 v174 v175), L)
  | _ => .fail
theorem impl_inRange_Fok : COk Try.prog 72 impl_inRange_F true := by
  intro F L H args r L' hs ha hr
  unfold impl_inRange_F at hr
  split at hr
  · rename_i v173 v174 v175
    have hy := impl_inRange_tot v173 v174 v175
    generalize impl_inRange_v v173 v174 v175 = y at hy hr
    simp only [Tree.run, Option.some.injEq, Prod.mk.injEq] at hr
    obtain ⟨rfl, rfl⟩ := hr
    exact call_ok0 hs (fun k => (([] : List AV)[k]?).getD .top) [.int .i64 v173, .int .i64 v174, .int .i64 v175] [.int .i64 v173, .int .i64 v174, .int .i64 v175] (fun F' h0 hi hρ => ⟨by simp [DVs.av, DV.av, BR.av, hρ], impl_inRange_fn v173 v174 v175 F' (by rw [hi]; rfl) (st_nil hi) ⟨trivial, trivial, trivial, trivial⟩ hy⟩) rfl
  · cases hr
/-! cmp.isNaN[int64] -/
noncomputable def cmp_isNaNI_LO (v180 : Int) : LOr := fun id e L =>
  match id with
  | _ => .fail
noncomputable def cmp_isNaNI_tab : List (FuncId × DFn × Bool) := []
theorem cmp_isNaNI_hO : OrcOk Try.prog (tabD cmp_isNaNI_tab) (tabM cmp_isNaNI_tab) := tabD_nil _
noncomputable def cmp_isNaNI_T (v180 : Int) : Tree (Bool) :=
  .leaf (!decide (v180 = v180))

noncomputable def cmp_isNaNI_g (v180 : Int) : Option (Bool) := (cmp_isNaNI_T v180).run
def cmp_isNaNI_enc (v180 : Int) (y : Bool) : Rs := (.bool y, [])
theorem cmp_isNaNI_den (v180 : Int) : (den TT (tabD cmp_isNaNI_tab) (tabM cmp_isNaNI_tab) (cmp_isNaNI_LO v180) (codeOf Try.f184) ([.int .i64 v180] ++ List.replicate (Try.f184.ntmps - ([.int .i64 v180] : List DV).length) .undef) []).bind (retD TT Try.f184.results.toList 0) = (cmp_isNaNI_T v180).bind fun y => .leaf (cmp_isNaNI_enc v180 y) := by kernel_rfl
theorem cmp_isNaNI_fn (v180 : Int) (F : Fr) (hm : F.ids.length = 0) (h0 : St F [] F.H0) (hA : DVs.Ok F [] [.int .i64 v180]) {y : Bool} (hy : cmp_isNaNI_g v180 = some y) : ∃ H', FnOk Try.prog 184 (DVs.av F [.int .i64 v180]) F.H0 ((cmp_isNaNI_enc v180 y).1.av F) H' ∧ St F (cmp_isNaNI_enc v180 y).2 H' ∧ (cmp_isNaNI_enc v180 y).1.Ok F (cmp_isNaNI_enc v180 y).2 :=
  fn_fin tok cmp_isNaNI_hO mixed Try.func184 Try.call184 (by kernel_rfl) (LoopsOk_eq (l := []) (by kernel_rfl) trivial) (cmp_isNaNI_den v180) hy hm h0 hA
def cmp_isNaNI_v (v180 : Int) : Bool :=
  !decide (v180 = v180)
theorem cmp_isNaNI_tot (v180 : Int) : cmp_isNaNI_g v180 = some (cmp_isNaNI_v v180) := by
  unfold cmp_isNaNI_g cmp_isNaNI_T cmp_isNaNI_v
  simp only [Tree.run]
  repeat' (first | rfl | split)
noncomputable def cmp_isNaNI_F : DFn := fun args L =>
  match args with
  | [.int .i64 v180] =>
    .leaf (.bool (cmp_isNaNI_v v180), L)
  | _ => .fail
theorem cmp_isNaNI_Fok : COk Try.prog 184 cmp_isNaNI_F true := by
  intro F L H args r L' hs ha hr
  unfold cmp_isNaNI_F at hr
  split at hr
  · rename_i v180
    have hy := cmp_isNaNI_tot v180
    generalize cmp_isNaNI_v v180 = y at hy hr
    simp only [Tree.run, Option.some.injEq, Prod.mk.injEq] at hr
    obtain ⟨rfl, rfl⟩ := hr
    exact call_ok0 hs (fun k => (([] : List AV)[k]?).getD .top) [.int .i64 v180] [.int .i64 v180] (fun F' h0 hi hρ => ⟨by simp [DVs.av, DV.av, BR.av, hρ], cmp_isNaNI_fn v180 F' (by rw [hi]; rfl) (st_nil hi) ⟨trivial, trivial⟩ hy⟩) rfl
  · cases hr
/-! cmp.Less[int64] -/
noncomputable def cmp_LessI_LO (v178 : Int) (v179 : Int) : LOr := fun id e L =>
  match id with
  | _ => .fail
noncomputable def cmp_LessI_tab : List (FuncId × DFn × Bool) := [(184, cmp_isNaNI_F, true)]
theorem cmp_LessI_hO : OrcOk Try.prog (tabD cmp_LessI_tab) (tabM cmp_LessI_tab) := tabD_cons cmp_isNaNI_Fok (tabD_nil _)
noncomputable def cmp_LessI_T (v178 : Int) (v179 : Int) : Tree (Bool) :=
  (.br (cmp_isNaNI_v v178) (
   (.br (!(cmp_isNaNI_v v179)) (
    .leaf true
   ) (
    .leaf (decide (v178 < v179))
   ))
  ) (
   .leaf (decide (v178 < v179))
  ))

noncomputable def cmp_LessI_g (v178 : Int) (v179 : Int) : Option (Bool) := (cmp_LessI_T v178 v179).run
def cmp_LessI_enc (v178 : Int) (v179 : Int) (y : Bool) : Rs := (.bool y, [])
theorem cmp_LessI_den (v178 : Int) (v179 : Int) : (den TT (tabD cmp_LessI_tab) (tabM cmp_LessI_tab) (cmp_LessI_LO v178 v179) (codeOf Try.f175) ([.int .i64 v178, .int .i64 v179] ++ List.replicate (Try.f175.ntmps - ([.int .i64 v178, .int .i64 v179] : List DV).length) .undef) []).bind (retD TT Try.f175.results.toList 0) = (cmp_LessI_T v178 v179).bind fun y => .leaf (cmp_LessI_enc v178 v179 y) := by kernel_rfl
theorem cmp_LessI_fn (v178 : Int) (v179 : Int) (F : Fr) (hm : F.ids.length = 0) (h0 : St F [] F.H0) (hA : DVs.Ok F [] [.int .i64 v178, .int .i64 v179]) {y : Bool} (hy : cmp_LessI_g v178 v179 = some y) : ∃ H', FnOk Try.prog 175 (DVs.av F [.int .i64 v178, .int .i64 v179]) F.H0 ((cmp_LessI_enc v178 v179 y).1.av F) H' ∧ St F (cmp_LessI_enc v178 v179 y).2 H' ∧ (cmp_LessI_enc v178 v179 y).1.Ok F (cmp_LessI_enc v178 v179 y).2 :=
  fn_fin tok cmp_LessI_hO mixed Try.func175 Try.call175 (by kernel_rfl) (LoopsOk_eq (l := []) (by kernel_rfl) trivial) (cmp_LessI_den v178 v179) hy hm h0 hA
def cmp_LessI_v (v178 : Int) (v179 : Int) : Bool :=
  if (cmp_isNaNI_v v178) = true then (
   if (!(cmp_isNaNI_v v179)) = true then (
    true
   ) else (
    decide (v178 < v179)
   )
  ) else (
   decide (v178 < v179)
  )
theorem cmp_LessI_tot (v178 : Int) (v179 : Int) : cmp_LessI_g v178 v179 = some (cmp_LessI_v v178 v179) := by
  unfold cmp_LessI_g cmp_LessI_T cmp_LessI_v
  simp only [Tree.run]
  repeat' (first | rfl | split)
noncomputable def cmp_LessI_F : DFn := fun args L =>
  match args with
  | [.int .i64 v178, .int .i64 v179] =>
    .leaf (.bool (cmp_LessI_v v178 v179), L)
  | _ => .fail
theorem cmp_LessI_Fok : COk Try.prog 175 cmp_LessI_F true := by
  intro F L H args r L' hs ha hr
  unfold cmp_LessI_F at hr
  split at hr
  · rename_i v178 v179
    have hy := cmp_LessI_tot v178 v179
    generalize cmp_LessI_v v178 v179 = y at hy hr
    simp only [Tree.run, Option.some.injEq, Prod.mk.injEq] at hr
    obtain ⟨rfl, rfl⟩ := hr
    exact call_ok0 hs (fun k => (([] : List AV)[k]?).getD .top) [.int .i64 v178, .int .i64 v179] [.int .i64 v178, .int .i64 v179] (fun F' h0 hi hρ => ⟨by simp [DVs.av, DV.av, BR.av, hρ], cmp_LessI_fn v178 v179 F' (by rw [hi]; rfl) (st_nil hi) ⟨trivial, trivial, trivial⟩ hy⟩) rfl
  · cases hr
/-! slices.IsSorted[list of int64,int64] -/
noncomputable def slices_IsSortedI_l0_T (v176 : List Int) (s : Int) : Tree ((Int) ⊕ ((Unit) ⊕ (Unit))) :=
  (.br (decide ((0 : Int) < s)) (
   (.grd (inb s v176.length) <|
   (.grd (inb (IntKind.i64.wrap (s - (1 : Int))) v176.length) <|
   (.br (cmp_LessI_v (nth v176 (Int.toNat s)) (nth v176 (Int.toNat (IntKind.i64.wrap (s - (1 : Int)))))) (
    .leaf (.inr (.inl ()))
   ) (
    .leaf (.inl (IntKind.i64.wrap (s - (1 : Int))))
   ))))
  ) (
   .leaf (.inr (.inr ()))
  ))

noncomputable def slices_IsSortedI_l0_g (v176 : List Int) (s0 : Int) : Option ((Unit) ⊕ (Unit)) := whileM (fun s => (slices_IsSortedI_l0_T v176 s).run) s0
def slices_IsSortedI_l0_E (v176 : List Int) (s : Int) : Sd := ([.bslc (BR.root 0) (.i64 v176), .top, .top, .int .i64 s, .top, .top, .top, .top, .top, .top, .top, .top, .top, .top, .top, .top, .top, .top, .top, .top, .top], [])
def slices_IsSortedI_l0_X (v176 : List Int) (x : (Unit) ⊕ (Unit)) : Out := (match x with | .inl x => (.ret, [.top, .top, .lit false, .top, .top, .top, .top, .top, .top, .top, .top, .top, .top, .top, .top, .top, .top, .top, .top, .top, .top], []) | .inr x => (.normal, [.top, .top, .top, .top, .top, .top, .top, .top, .top, .top, .top, .top, .top, .top, .top, .top, .top, .top, .top, .top, .top], []))
def slices_IsSortedI_l0_kill : List Nat := [0, 1, 1, 0, 1, 1, 1, 1, 1, 1, 1, 1, 1, 1, 1, 1, 1, 1, 1, 1, 1]
def slices_IsSortedI_l0_nx : Exit → List Nat
  | .exit 0 => [1, 1, 1, 1, 1, 1, 1, 1, 1, 1, 1, 1, 1, 1, 1, 1, 1, 1, 1, 1, 1]
  | .ret => [1, 1, 0, 1, 1, 1, 1, 1, 1, 1, 1, 1, 1, 1, 1, 1, 1, 1, 1, 1, 1]
  | _ => []
noncomputable def slices_IsSortedI_LO (v176 : List Int) : LOr := fun id e L =>
  match id with
  | 0 => .need (normA 0 slices_IsSortedI_l0_kill e L = some (slices_IsSortedI_l0_E v176 (gI (vAt e 3)))) (.call (slices_IsSortedI_l0_g v176 (gI (vAt e 3))) fun x => .sum x (fun b0 => .leaf (slices_IsSortedI_l0_X v176 (.inl b0))) (fun c0 => .leaf (slices_IsSortedI_l0_X v176 (.inr c0))))
  | _ => .fail
noncomputable def slices_IsSortedI_tab : List (FuncId × DFn × Bool) := [(175, cmp_LessI_F, true)]
theorem slices_IsSortedI_hO : OrcOk Try.prog (tabD slices_IsSortedI_tab) (tabM slices_IsSortedI_tab) := tabD_cons cmp_LessI_Fok (tabD_nil _)
theorem slices_IsSortedI_l0_be (v176 : List Int) (s : Int) : bodyT TT (tabD slices_IsSortedI_tab) (tabM slices_IsSortedI_tab) (slices_IsSortedI_LO v176) 0 slices_IsSortedI_l0_kill slices_IsSortedI_l0_nx (bodyOf Try.f162 0) 0 (slices_IsSortedI_l0_E v176 s) = (slices_IsSortedI_l0_T v176 s).bind fun y => .leaf (outS (slices_IsSortedI_l0_E v176) (slices_IsSortedI_l0_X v176) y) := by kernel_rfl
theorem slices_IsSortedI_l0_ok (v176 : List Int) : LSound Try.prog 0 (slices_IsSortedI_LO v176) 0 (bodyOf Try.f162 0) := by
  intro e L out h
  exact lo_ok (E := slices_IsSortedI_l0_E v176) (gT := slices_IsSortedI_l0_T v176) (X := slices_IsSortedI_l0_X v176) (s0 := (gI (vAt e 3))) tok slices_IsSortedI_hO mixed (LoopsOk_eq (l := []) (by kernel_rfl) trivial) (slices_IsSortedI_l0_be v176) rfl (by intro x; (cases x with | inl b => rfl | inr x => exact rfl)) h
noncomputable def slices_IsSortedI_T (v176 : List Int) : Tree (Bool) :=
  (.need (some (slices_IsSortedI_l0_E v176 (IntKind.i64.wrap (((v176.length : Nat) : Int) - (1 : Int)))) = some (slices_IsSortedI_l0_E v176 (IntKind.i64.wrap (((v176.length : Nat) : Int) - (1 : Int))))) <|
  (.call (slices_IsSortedI_l0_g v176 (IntKind.i64.wrap (((v176.length : Nat) : Int) - (1 : Int)))) fun v183 =>
  (.sum v183 (fun v184 =>
   .leaf false
  ) (fun v185 =>
   .leaf true
  ))))

noncomputable def slices_IsSortedI_g (v176 : List Int) : Option (Bool) := (slices_IsSortedI_T v176).run
def slices_IsSortedI_enc (v176 : List Int) (y : Bool) : Rs := (.bool y, [])
theorem slices_IsSortedI_den (v176 : List Int) : (den TT (tabD slices_IsSortedI_tab) (tabM slices_IsSortedI_tab) (slices_IsSortedI_LO v176) (codeOf Try.f162) ([.bslc (BR.root 0) (.i64 v176)] ++ List.replicate (Try.f162.ntmps - ([.bslc (BR.root 0) (.i64 v176)] : List DV).length) .undef) []).bind (retD TT Try.f162.results.toList 0) = (slices_IsSortedI_T v176).bind fun y => .leaf (slices_IsSortedI_enc v176 y) := by kernel_rfl
theorem slices_IsSortedI_fn (v176 : List Int) (F : Fr) (hm : F.ids.length = 0) (h0 : St F [] F.H0) (hA : DVs.Ok F [] [.bslc (BR.root 0) (.i64 v176)]) {y : Bool} (hy : slices_IsSortedI_g v176 = some y) : ∃ H', FnOk Try.prog 162 (DVs.av F [.bslc (BR.root 0) (.i64 v176)]) F.H0 ((slices_IsSortedI_enc v176 y).1.av F) H' ∧ St F (slices_IsSortedI_enc v176 y).2 H' ∧ (slices_IsSortedI_enc v176 y).1.Ok F (slices_IsSortedI_enc v176 y).2 :=
  fn_fin tok slices_IsSortedI_hO mixed Try.func162 Try.call162 (by kernel_rfl) (LoopsOk_eq (l := [(0, bodyOf Try.f162 0)]) (by kernel_rfl) ⟨slices_IsSortedI_l0_ok v176, trivial⟩) (slices_IsSortedI_den v176) hy hm h0 hA
noncomputable def slices_IsSortedI_F : DFn := fun args L =>
  match args with
  | [a1] =>
    optT (rowI64 L a1) fun v176 =>
    .call (slices_IsSortedI_g v176) fun y => .leaf (.bool y, L)
  | _ => .fail
theorem slices_IsSortedI_Fok : COk Try.prog 162 slices_IsSortedI_F true := by
  intro F L H args r L' hs ha hr
  unfold slices_IsSortedI_F at hr
  split at hr
  · rename_i a1
    obtain ⟨v176, hv176, hr⟩ := optT_run hr
    simp only [Tree.run] at hr
    obtain ⟨y, hy, hr⟩ := Option.bind_eq_some_iff.1 hr
    simp only [Tree.run, Option.some.injEq, Prod.mk.injEq] at hr
    obtain ⟨rfl, rfl⟩ := hr
    exact call_ok0 hs (fun k => (([a1.av F] : List AV)[k]?).getD .top) [a1] [.bslc (BR.root 0) (.i64 v176)] (fun F' h0 hi hρ => ⟨by simp [DVs.av, DV.av, BR.av, hρ], slices_IsSortedI_fn v176 F' (by rw [hi]; rfl) (st_nil hi) ⟨bslc_ok hi (by rw [h0, hρ]; exact rowI64_ok hs (DVs.okAt ha 0 rfl) hv176), trivial⟩ hy⟩) rfl
  · cases hr
/-! impl.allIn$1 -/
noncomputable def impl_allIn_1_LO (v197 : Int) (v198 : Int) (v199 : Int) : LOr := fun id e L =>
  match id with
  | _ => .fail
noncomputable def impl_allIn_1_tab : List (FuncId × DFn × Bool) := [(72, impl_inRange_F, true)]
theorem impl_allIn_1_hO : OrcOk Try.prog (tabD impl_allIn_1_tab) (tabM impl_allIn_1_tab) := tabD_cons impl_inRange_Fok (tabD_nil _)
noncomputable def impl_allIn_1_T (v197 : Int) (v198 : Int) (v199 : Int) : Tree (Bool) :=
  .leaf (!(impl_inRange_v v197 v198 v199))

noncomputable def impl_allIn_1_g (v197 : Int) (v198 : Int) (v199 : Int) : Option (Bool) := (impl_allIn_1_T v197 v198 v199).run
def impl_allIn_1_enc (v197 : Int) (v198 : Int) (v199 : Int) (y : Bool) : Rs := (.bool y, [])
theorem impl_allIn_1_den (v197 : Int) (v198 : Int) (v199 : Int) : (den TT (tabD impl_allIn_1_tab) (tabM impl_allIn_1_tab) (impl_allIn_1_LO v197 v198 v199) (codeOf Try.f177) ([.int .i64 v197, .bptr (BR.root 0) [.int .i64 v198], .bptr (BR.root 1) [.int .i64 v199]] ++ List.replicate (Try.f177.ntmps - ([.int .i64 v197, .bptr (BR.root 0) [.int .i64 v198], .bptr (BR.root 1) [.int .i64 v199]] : List DV).length) .undef) []).bind (retD TT Try.f177.results.toList 0) = (impl_allIn_1_T v197 v198 v199).bind fun y => .leaf (impl_allIn_1_enc v197 v198 v199 y) := by kernel_rfl
theorem impl_allIn_1_fn (v197 : Int) (v198 : Int) (v199 : Int) (F : Fr) (hm : F.ids.length = 0) (h0 : St F [] F.H0) (hA : DVs.Ok F [] [.int .i64 v197, .bptr (BR.root 0) [.int .i64 v198], .bptr (BR.root 1) [.int .i64 v199]]) {y : Bool} (hy : impl_allIn_1_g v197 v198 v199 = some y) : ∃ H', FnOk Try.prog 177 (DVs.av F [.int .i64 v197, .bptr (BR.root 0) [.int .i64 v198], .bptr (BR.root 1) [.int .i64 v199]]) F.H0 ((impl_allIn_1_enc v197 v198 v199 y).1.av F) H' ∧ St F (impl_allIn_1_enc v197 v198 v199 y).2 H' ∧ (impl_allIn_1_enc v197 v198 v199 y).1.Ok F (impl_allIn_1_enc v197 v198 v199 y).2 :=
  fn_fin tok impl_allIn_1_hO mixed Try.func177 Try.call177 (by kernel_rfl) (LoopsOk_eq (l := []) (by kernel_rfl) trivial) (impl_allIn_1_den v197 v198 v199) hy hm h0 hA
def impl_allIn_1_v (v197 : Int) (v198 : Int) (v199 : Int) : Bool :=
  !(impl_inRange_v v197 v198 v199)
theorem impl_allIn_1_tot (v197 : Int) (v198 : Int) (v199 : Int) : impl_allIn_1_g v197 v198 v199 = some (impl_allIn_1_v v197 v198 v199) := by
  unfold impl_allIn_1_g impl_allIn_1_T impl_allIn_1_v
  simp only [Tree.run]
  repeat' (first | rfl | split)
noncomputable def impl_allIn_1_F : DFn := fun args L =>
  match args with
  | [.int .i64 v197, a1, a2] =>
    optT (cellsOf L 1 a1) fun cs0 =>
    (match cs0 with
    | [.int .i64 v198] =>
    optT (cellsOf L 1 a2) fun cs1 =>
    (match cs1 with
    | [.int .i64 v199] =>
    .leaf (.bool (impl_allIn_1_v v197 v198 v199), L)
    | _ => .fail)
    | _ => .fail)
  | _ => .fail
theorem impl_allIn_1_Fok : COk Try.prog 177 impl_allIn_1_F true := by
  intro F L H args r L' hs ha hr
  unfold impl_allIn_1_F at hr
  split at hr
  · rename_i v197 a1 a2
    obtain ⟨cs0, hcp0, hr⟩ := optT_run hr
    split at hr
    · rename_i v198
      obtain ⟨cs1, hcp1, hr⟩ := optT_run hr
      split at hr
      · rename_i v199
        have hy := impl_allIn_1_tot v197 v198 v199
        generalize impl_allIn_1_v v197 v198 v199 = y at hy hr
        simp only [Tree.run, Option.some.injEq, Prod.mk.injEq] at hr
        obtain ⟨rfl, rfl⟩ := hr
        exact call_ok0 hs (fun k => (([a1.av F, a2.av F] : List AV)[k]?).getD .top) [.int .i64 v197, a1, a2] [.int .i64 v197, .bptr (BR.root 0) [.int .i64 v198], .bptr (BR.root 1) [.int .i64 v199]] (fun F' h0 hi hρ => ⟨by simp [DVs.av, DV.av, BR.av, hρ], impl_allIn_1_fn v197 v198 v199 F' (by rw [hi]; rfl) (st_nil hi) ⟨trivial, bptr_ok hi (by rw [h0]; simpa [DVs.av, DV.av, BR.av, hρ] using (cellsOf_ok hs (DVs.okAt ha 1 rfl) hcp0).1) ⟨trivial, trivial⟩, bptr_ok hi (by rw [h0]; simpa [DVs.av, DV.av, BR.av, hρ] using (cellsOf_ok hs (DVs.okAt ha 2 rfl) hcp1).1) ⟨trivial, trivial⟩, trivial⟩ hy⟩) rfl
      · cases hr
    · cases hr
  · cases hr
/-! slices.IndexFunc[list of int64,int64] -/
noncomputable def slices_IndexFuncI_l0_T (v193 : List Int) (v194 : Int) (v195 : Int) (s : Int) : Tree ((Int) ⊕ ((Int) ⊕ (Unit))) :=
  (.br (decide (s < ((v193.length : Nat) : Int))) (
   (.grd (inb s v193.length) <|
   (.br (impl_allIn_1_v (nth v193 (Int.toNat s)) v194 v195) (
    .leaf (.inr (.inl s))
   ) (
    .leaf (.inl (IntKind.i64.wrap (s + (1 : Int))))
   )))
  ) (
   .leaf (.inr (.inr ()))
  ))

noncomputable def slices_IndexFuncI_l0_g (v193 : List Int) (v194 : Int) (v195 : Int) (s0 : Int) : Option ((Int) ⊕ (Unit)) := whileM (fun s => (slices_IndexFuncI_l0_T v193 v194 v195 s).run) s0
def slices_IndexFuncI_l0_E (v193 : List Int) (v194 : Int) (v195 : Int) (s : Int) : Sd := ([.bslc (BR.root 0) (.i64 v193), .fn 177 [.bptr (BR.root 1) [.int .i64 v194], .bptr (BR.root 2) [.int .i64 v195]], .top, .top, .top, .top, .top, .int .i64 ((v193.length : Nat) : Int), .int .i64 s, .top, .top, .top, .top, .top, .top, .top, .top, .top, .top], [])
def slices_IndexFuncI_l0_X (v193 : List Int) (v194 : Int) (v195 : Int) (x : (Int) ⊕ (Unit)) : Out := (match x with | .inl x => (.ret, [.top, .top, .top, .top, .int .i64 x, .top, .top, .top, .top, .top, .top, .top, .top, .top, .top, .top, .top, .top, .top], []) | .inr x => (.normal, [.top, .top, .top, .top, .top, .top, .top, .top, .top, .top, .top, .top, .top, .top, .top, .top, .top, .top, .top], []))
def slices_IndexFuncI_l0_kill : List Nat := [0, 0, 1, 1, 1, 1, 1, 0, 0, 1, 1, 1, 1, 1, 1, 1, 1, 1, 1]
def slices_IndexFuncI_l0_nx : Exit → List Nat
  | .exit 0 => [1, 1, 1, 1, 1, 1, 1, 1, 1, 1, 1, 1, 1, 1, 1, 1, 1, 1, 1]
  | .ret => [1, 1, 1, 1, 0, 1, 1, 1, 1, 1, 1, 1, 1, 1, 1, 1, 1, 1, 1]
  | _ => []
noncomputable def slices_IndexFuncI_LO (v193 : List Int) (v194 : Int) (v195 : Int) : LOr := fun id e L =>
  match id with
  | 0 => .need (normA 0 slices_IndexFuncI_l0_kill e L = some (slices_IndexFuncI_l0_E v193 v194 v195 (gI (vAt e 8)))) (.call (slices_IndexFuncI_l0_g v193 v194 v195 (gI (vAt e 8))) fun x => .sum x (fun b0 => .leaf (slices_IndexFuncI_l0_X v193 v194 v195 (.inl b0))) (fun c0 => .leaf (slices_IndexFuncI_l0_X v193 v194 v195 (.inr c0))))
  | _ => .fail
noncomputable def slices_IndexFuncI_tab : List (FuncId × DFn × Bool) := [(177, impl_allIn_1_F, true)]
theorem slices_IndexFuncI_hO : OrcOk Try.prog (tabD slices_IndexFuncI_tab) (tabM slices_IndexFuncI_tab) := tabD_cons impl_allIn_1_Fok (tabD_nil _)
theorem slices_IndexFuncI_l0_be (v193 : List Int) (v194 : Int) (v195 : Int) (s : Int) : bodyT TT (tabD slices_IndexFuncI_tab) (tabM slices_IndexFuncI_tab) (slices_IndexFuncI_LO v193 v194 v195) 0 slices_IndexFuncI_l0_kill slices_IndexFuncI_l0_nx (bodyOf Try.f185 0) 0 (slices_IndexFuncI_l0_E v193 v194 v195 s) = (slices_IndexFuncI_l0_T v193 v194 v195 s).bind fun y => .leaf (outS (slices_IndexFuncI_l0_E v193 v194 v195) (slices_IndexFuncI_l0_X v193 v194 v195) y) := by kernel_rfl
theorem slices_IndexFuncI_l0_ok (v193 : List Int) (v194 : Int) (v195 : Int) : LSound Try.prog 0 (slices_IndexFuncI_LO v193 v194 v195) 0 (bodyOf Try.f185 0) := by
  intro e L out h
  exact lo_ok (E := slices_IndexFuncI_l0_E v193 v194 v195) (gT := slices_IndexFuncI_l0_T v193 v194 v195) (X := slices_IndexFuncI_l0_X v193 v194 v195) (s0 := (gI (vAt e 8))) tok slices_IndexFuncI_hO mixed (LoopsOk_eq (l := []) (by kernel_rfl) trivial) (slices_IndexFuncI_l0_be v193 v194 v195) rfl (by intro x; (cases x with | inl b => rfl | inr x => exact rfl)) h
noncomputable def slices_IndexFuncI_T (v193 : List Int) (v194 : Int) (v195 : Int) : Tree (Int) :=
  (.need (some (slices_IndexFuncI_l0_E v193 v194 v195 (0 : Int)) = some (slices_IndexFuncI_l0_E v193 v194 v195 (0 : Int))) <|
  (.call (slices_IndexFuncI_l0_g v193 v194 v195 (0 : Int)) fun v202 =>
  (.sum v202 (fun v203 =>
   .leaf v203
  ) (fun v204 =>
   .leaf (-1 : Int)
  ))))

noncomputable def slices_IndexFuncI_g (v193 : List Int) (v194 : Int) (v195 : Int) : Option (Int) := (slices_IndexFuncI_T v193 v194 v195).run
def slices_IndexFuncI_enc (v193 : List Int) (v194 : Int) (v195 : Int) (y : Int) : Rs := (.int .i64 y, [])
theorem slices_IndexFuncI_den (v193 : List Int) (v194 : Int) (v195 : Int) : (den TT (tabD slices_IndexFuncI_tab) (tabM slices_IndexFuncI_tab) (slices_IndexFuncI_LO v193 v194 v195) (codeOf Try.f185) ([.bslc (BR.root 0) (.i64 v193), .fn 177 [.bptr (BR.root 1) [.int .i64 v194], .bptr (BR.root 2) [.int .i64 v195]]] ++ List.replicate (Try.f185.ntmps - ([.bslc (BR.root 0) (.i64 v193), .fn 177 [.bptr (BR.root 1) [.int .i64 v194], .bptr (BR.root 2) [.int .i64 v195]]] : List DV).length) .undef) []).bind (retD TT Try.f185.results.toList 0) = (slices_IndexFuncI_T v193 v194 v195).bind fun y => .leaf (slices_IndexFuncI_enc v193 v194 v195 y) := by kernel_rfl
theorem slices_IndexFuncI_fn (v193 : List Int) (v194 : Int) (v195 : Int) (F : Fr) (hm : F.ids.length = 0) (h0 : St F [] F.H0) (hA : DVs.Ok F [] [.bslc (BR.root 0) (.i64 v193), .fn 177 [.bptr (BR.root 1) [.int .i64 v194], .bptr (BR.root 2) [.int .i64 v195]]]) {y : Int} (hy : slices_IndexFuncI_g v193 v194 v195 = some y) : ∃ H', FnOk Try.prog 185 (DVs.av F [.bslc (BR.root 0) (.i64 v193), .fn 177 [.bptr (BR.root 1) [.int .i64 v194], .bptr (BR.root 2) [.int .i64 v195]]]) F.H0 ((slices_IndexFuncI_enc v193 v194 v195 y).1.av F) H' ∧ St F (slices_IndexFuncI_enc v193 v194 v195 y).2 H' ∧ (slices_IndexFuncI_enc v193 v194 v195 y).1.Ok F (slices_IndexFuncI_enc v193 v194 v195 y).2 :=
  fn_fin tok slices_IndexFuncI_hO mixed Try.func185 Try.call185 (by kernel_rfl) (LoopsOk_eq (l := [(0, bodyOf Try.f185 0)]) (by kernel_rfl) ⟨slices_IndexFuncI_l0_ok v193 v194 v195, trivial⟩) (slices_IndexFuncI_den v193 v194 v195) hy hm h0 hA
noncomputable def slices_IndexFuncI_F : DFn := fun args L =>
  match args with
  | [a1, .fn 177 [a2, a3]] =>
    optT (rowI64 L a1) fun v193 =>
    optT (cellsOf L 1 a2) fun cs1 =>
    (match cs1 with
    | [.int .i64 v194] =>
    optT (cellsOf L 1 a3) fun cs2 =>
    (match cs2 with
    | [.int .i64 v195] =>
    .call (slices_IndexFuncI_g v193 v194 v195) fun y => .leaf (.int .i64 y, L)
    | _ => .fail)
    | _ => .fail)
  | _ => .fail
theorem slices_IndexFuncI_Fok : COk Try.prog 185 slices_IndexFuncI_F true := by
  intro F L H args r L' hs ha hr
  unfold slices_IndexFuncI_F at hr
  split at hr
  · rename_i a1 a2 a3
    obtain ⟨v193, hv193, hr⟩ := optT_run hr
    obtain ⟨cs1, hcp1, hr⟩ := optT_run hr
    split at hr
    · rename_i v194
      obtain ⟨cs2, hcp2, hr⟩ := optT_run hr
      split at hr
      · rename_i v195
        simp only [Tree.run] at hr
        obtain ⟨y, hy, hr⟩ := Option.bind_eq_some_iff.1 hr
        simp only [Tree.run, Option.some.injEq, Prod.mk.injEq] at hr
        obtain ⟨rfl, rfl⟩ := hr
        exact call_ok0 hs (fun k => (([a1.av F, a2.av F, a3.av F] : List AV)[k]?).getD .top) [a1, .fn 177 [a2, a3]] [.bslc (BR.root 0) (.i64 v193), .fn 177 [.bptr (BR.root 1) [.int .i64 v194], .bptr (BR.root 2) [.int .i64 v195]]] (fun F' h0 hi hρ => ⟨by simp [DVs.av, DV.av, BR.av, hρ], slices_IndexFuncI_fn v193 v194 v195 F' (by rw [hi]; rfl) (st_nil hi) ⟨bslc_ok hi (by rw [h0, hρ]; exact rowI64_ok hs (DVs.okAt ha 0 rfl) hv193), ⟨bptr_ok hi (by rw [h0]; simpa [DVs.av, DV.av, BR.av, hρ] using (cellsOf_ok hs (DVs.okAt (DVs.okAt ha 1 rfl) 0 rfl) hcp1).1) ⟨trivial, trivial⟩, bptr_ok hi (by rw [h0]; simpa [DVs.av, DV.av, BR.av, hρ] using (cellsOf_ok hs (DVs.okAt (DVs.okAt ha 1 rfl) 1 rfl) hcp2).1) ⟨trivial, trivial⟩, trivial⟩, trivial⟩ hy⟩) rfl
      · cases hr
    · cases hr
  · cases hr
/-! slices.ContainsFunc[list of int64,int64] -/
noncomputable def slices_ContainsFuncI_LO (v190 : List Int) (v191 : Int) (v192 : Int) : LOr := fun id e L =>
  match id with
  | _ => .fail
noncomputable def slices_ContainsFuncI_tab : List (FuncId × DFn × Bool) := [(185, slices_IndexFuncI_F, true)]
theorem slices_ContainsFuncI_hO : OrcOk Try.prog (tabD slices_ContainsFuncI_tab) (tabM slices_ContainsFuncI_tab) := tabD_cons slices_IndexFuncI_Fok (tabD_nil _)
noncomputable def slices_ContainsFuncI_T (v190 : List Int) (v191 : Int) (v192 : Int) : Tree (Bool) :=
  (.call (slices_IndexFuncI_g v190 v191 v192) fun v205 =>
  .leaf (decide ((0 : Int) ≤ v205)))

noncomputable def slices_ContainsFuncI_g (v190 : List Int) (v191 : Int) (v192 : Int) : Option (Bool) := (slices_ContainsFuncI_T v190 v191 v192).run
def slices_ContainsFuncI_enc (v190 : List Int) (v191 : Int) (v192 : Int) (y : Bool) : Rs := (.bool y, [])
theorem slices_ContainsFuncI_den (v190 : List Int) (v191 : Int) (v192 : Int) : (den TT (tabD slices_ContainsFuncI_tab) (tabM slices_ContainsFuncI_tab) (slices_ContainsFuncI_LO v190 v191 v192) (codeOf Try.f176) ([.bslc (BR.root 0) (.i64 v190), .fn 177 [.bptr (BR.root 1) [.int .i64 v191], .bptr (BR.root 2) [.int .i64 v192]]] ++ List.replicate (Try.f176.ntmps - ([.bslc (BR.root 0) (.i64 v190), .fn 177 [.bptr (BR.root 1) [.int .i64 v191], .bptr (BR.root 2) [.int .i64 v192]]] : List DV).length) .undef) []).bind (retD TT Try.f176.results.toList 0) = (slices_ContainsFuncI_T v190 v191 v192).bind fun y => .leaf (slices_ContainsFuncI_enc v190 v191 v192 y) := by kernel_rfl
theorem slices_ContainsFuncI_fn (v190 : List Int) (v191 : Int) (v192 : Int) (F : Fr) (hm : F.ids.length = 0) (h0 : St F [] F.H0) (hA : DVs.Ok F [] [.bslc (BR.root 0) (.i64 v190), .fn 177 [.bptr (BR.root 1) [.int .i64 v191], .bptr (BR.root 2) [.int .i64 v192]]]) {y : Bool} (hy : slices_ContainsFuncI_g v190 v191 v192 = some y) : ∃ H', FnOk Try.prog 176 (DVs.av F [.bslc (BR.root 0) (.i64 v190), .fn 177 [.bptr (BR.root 1) [.int .i64 v191], .bptr (BR.root 2) [.int .i64 v192]]]) F.H0 ((slices_ContainsFuncI_enc v190 v191 v192 y).1.av F) H' ∧ St F (slices_ContainsFuncI_enc v190 v191 v192 y).2 H' ∧ (slices_ContainsFuncI_enc v190 v191 v192 y).1.Ok F (slices_ContainsFuncI_enc v190 v191 v192 y).2 :=
  fn_fin tok slices_ContainsFuncI_hO mixed Try.func176 Try.call176 (by kernel_rfl) (LoopsOk_eq (l := []) (by kernel_rfl) trivial) (slices_ContainsFuncI_den v190 v191 v192) hy hm h0 hA
noncomputable def slices_ContainsFuncI_F : DFn := fun args L =>
  match args with
  | [a1, .fn 177 [a2, a3]] =>
    optT (rowI64 L a1) fun v190 =>
    optT (cellsOf L 1 a2) fun cs1 =>
    (match cs1 with
    | [.int .i64 v191] =>
    optT (cellsOf L 1 a3) fun cs2 =>
    (match cs2 with
    | [.int .i64 v192] =>
    .call (slices_ContainsFuncI_g v190 v191 v192) fun y => .leaf (.bool y, L)
    | _ => .fail)
    | _ => .fail)
  | _ => .fail
theorem slices_ContainsFuncI_Fok : COk Try.prog 176 slices_ContainsFuncI_F true := by
  intro F L H args r L' hs ha hr
  unfold slices_ContainsFuncI_F at hr
  split at hr
  · rename_i a1 a2 a3
    obtain ⟨v190, hv190, hr⟩ := optT_run hr
    obtain ⟨cs1, hcp1, hr⟩ := optT_run hr
    split at hr
    · rename_i v191
      obtain ⟨cs2, hcp2, hr⟩ := optT_run hr
      split at hr
      · rename_i v192
        simp only [Tree.run] at hr
        obtain ⟨y, hy, hr⟩ := Option.bind_eq_some_iff.1 hr
        simp only [Tree.run, Option.some.injEq, Prod.mk.injEq] at hr
        obtain ⟨rfl, rfl⟩ := hr
        exact call_ok0 hs (fun k => (([a1.av F, a2.av F, a3.av F] : List AV)[k]?).getD .top) [a1, .fn 177 [a2, a3]] [.bslc (BR.root 0) (.i64 v190), .fn 177 [.bptr (BR.root 1) [.int .i64 v191], .bptr (BR.root 2) [.int .i64 v192]]] (fun F' h0 hi hρ => ⟨by simp [DVs.av, DV.av, BR.av, hρ], slices_ContainsFuncI_fn v190 v191 v192 F' (by rw [hi]; rfl) (st_nil hi) ⟨bslc_ok hi (by rw [h0, hρ]; exact rowI64_ok hs (DVs.okAt ha 0 rfl) hv190), ⟨bptr_ok hi (by rw [h0]; simpa [DVs.av, DV.av, BR.av, hρ] using (cellsOf_ok hs (DVs.okAt (DVs.okAt ha 1 rfl) 0 rfl) hcp1).1) ⟨trivial, trivial⟩, bptr_ok hi (by rw [h0]; simpa [DVs.av, DV.av, BR.av, hρ] using (cellsOf_ok hs (DVs.okAt (DVs.okAt ha 1 rfl) 1 rfl) hcp2).1) ⟨trivial, trivial⟩, trivial⟩, trivial⟩ hy⟩) rfl
      · cases hr
    · cases hr
  · cases hr
/-! impl.allIn -/
noncomputable def impl_allIn_LO (v187 : List Int) (v188 : Int) (v189 : Int) : LOr := fun id e L =>
  match id with
  | _ => .fail
noncomputable def impl_allIn_tab : List (FuncId × DFn × Bool) := [(176, slices_ContainsFuncI_F, true)]
theorem impl_allIn_hO : OrcOk Try.prog (tabD impl_allIn_tab) (tabM impl_allIn_tab) := tabD_cons slices_ContainsFuncI_Fok (tabD_nil _)
noncomputable def impl_allIn_T (v187 : List Int) (v188 : Int) (v189 : Int) : Tree (Bool) :=
  (.call (slices_ContainsFuncI_g v187 v188 v189) fun v206 =>
  .leaf (!v206))

noncomputable def impl_allIn_g (v187 : List Int) (v188 : Int) (v189 : Int) : Option (Bool) := (impl_allIn_T v187 v188 v189).run
def impl_allIn_enc (v187 : List Int) (v188 : Int) (v189 : Int) (y : Bool) : Rs := (.bool y, [])
theorem impl_allIn_den (v187 : List Int) (v188 : Int) (v189 : Int) : (den TT (tabD impl_allIn_tab) (tabM impl_allIn_tab) (impl_allIn_LO v187 v188 v189) (codeOf Try.f163) ([.bslc (BR.root 0) (.i64 v187), .int .i64 v188, .int .i64 v189] ++ List.replicate (Try.f163.ntmps - ([.bslc (BR.root 0) (.i64 v187), .int .i64 v188, .int .i64 v189] : List DV).length) .undef) []).bind (retD TT Try.f163.results.toList 0) = (impl_allIn_T v187 v188 v189).bind fun y => .leaf (impl_allIn_enc v187 v188 v189 y) := by kernel_rfl
theorem impl_allIn_fn (v187 : List Int) (v188 : Int) (v189 : Int) (F : Fr) (hm : F.ids.length = 0) (h0 : St F [] F.H0) (hA : DVs.Ok F [] [.bslc (BR.root 0) (.i64 v187), .int .i64 v188, .int .i64 v189]) {y : Bool} (hy : impl_allIn_g v187 v188 v189 = some y) : ∃ H', FnOk Try.prog 163 (DVs.av F [.bslc (BR.root 0) (.i64 v187), .int .i64 v188, .int .i64 v189]) F.H0 ((impl_allIn_enc v187 v188 v189 y).1.av F) H' ∧ St F (impl_allIn_enc v187 v188 v189 y).2 H' ∧ (impl_allIn_enc v187 v188 v189 y).1.Ok F (impl_allIn_enc v187 v188 v189 y).2 :=
  fn_fin tok impl_allIn_hO mixed Try.func163 Try.call163 (by kernel_rfl) (LoopsOk_eq (l := []) (by kernel_rfl) trivial) (impl_allIn_den v187 v188 v189) hy hm h0 hA
noncomputable def impl_allIn_F : DFn := fun args L =>
  match args with
  | [a1, .int .i64 v188, .int .i64 v189] =>
    optT (rowI64 L a1) fun v187 =>
    .call (impl_allIn_g v187 v188 v189) fun y => .leaf (.bool y, L)
  | _ => .fail
theorem impl_allIn_Fok : COk Try.prog 163 impl_allIn_F true := by
  intro F L H args r L' hs ha hr
  unfold impl_allIn_F at hr
  split at hr
  · rename_i a1 v188 v189
    obtain ⟨v187, hv187, hr⟩ := optT_run hr
    simp only [Tree.run] at hr
    obtain ⟨y, hy, hr⟩ := Option.bind_eq_some_iff.1 hr
    simp only [Tree.run, Option.some.injEq, Prod.mk.injEq] at hr
    obtain ⟨rfl, rfl⟩ := hr
    exact call_ok0 hs (fun k => (([a1.av F] : List AV)[k]?).getD .top) [a1, .int .i64 v188, .int .i64 v189] [.bslc (BR.root 0) (.i64 v187), .int .i64 v188, .int .i64 v189] (fun F' h0 hi hρ => ⟨by simp [DVs.av, DV.av, BR.av, hρ], impl_allIn_fn v187 v188 v189 F' (by rw [hi]; rfl) (st_nil hi) ⟨bslc_ok hi (by rw [h0, hρ]; exact rowI64_ok hs (DVs.okAt ha 0 rfl) hv187), trivial, trivial, trivial⟩ hy⟩) rfl
  · cases hr
/-! math.IsNaN -/
noncomputable def math_IsNaN_LO (v215 : Nat) : LOr := fun id e L =>
  match id with
  | _ => .fail
noncomputable def math_IsNaN_tab : List (FuncId × DFn × Bool) := []
theorem math_IsNaN_hO : OrcOk Try.prog (tabD math_IsNaN_tab) (tabM math_IsNaN_tab) := tabD_nil _
noncomputable def math_IsNaN_T (v215 : Nat) : Tree (Bool) :=
  .leaf (!feq .f64 v215 v215)

noncomputable def math_IsNaN_g (v215 : Nat) : Option (Bool) := (math_IsNaN_T v215).run
def math_IsNaN_enc (v215 : Nat) (y : Bool) : Rs := (.bool y, [])
theorem math_IsNaN_den (v215 : Nat) : (den TT (tabD math_IsNaN_tab) (tabM math_IsNaN_tab) (math_IsNaN_LO v215) (codeOf Try.f169) ([.flt .f64 v215] ++ List.replicate (Try.f169.ntmps - ([.flt .f64 v215] : List DV).length) .undef) []).bind (retD TT Try.f169.results.toList 0) = (math_IsNaN_T v215).bind fun y => .leaf (math_IsNaN_enc v215 y) := by kernel_rfl
theorem math_IsNaN_fn (v215 : Nat) (F : Fr) (hm : F.ids.length = 0) (h0 : St F [] F.H0) (hA : DVs.Ok F [] [.flt .f64 v215]) {y : Bool} (hy : math_IsNaN_g v215 = some y) : ∃ H', FnOk Try.prog 169 (DVs.av F [.flt .f64 v215]) F.H0 ((math_IsNaN_enc v215 y).1.av F) H' ∧ St F (math_IsNaN_enc v215 y).2 H' ∧ (math_IsNaN_enc v215 y).1.Ok F (math_IsNaN_enc v215 y).2 :=
  fn_fin tok math_IsNaN_hO mixed Try.func169 Try.call169 (by kernel_rfl) (LoopsOk_eq (l := []) (by kernel_rfl) trivial) (math_IsNaN_den v215) hy hm h0 hA
def math_IsNaN_v (v215 : Nat) : Bool :=
  !feq .f64 v215 v215
theorem math_IsNaN_tot (v215 : Nat) : math_IsNaN_g v215 = some (math_IsNaN_v v215) := by
  unfold math_IsNaN_g math_IsNaN_T math_IsNaN_v
  simp only [Tree.run]
  repeat' (first | rfl | split)
noncomputable def math_IsNaN_F : DFn := fun args L =>
  match args with
  | [.flt .f64 v215] =>
    .leaf (.bool (math_IsNaN_v v215), L)
  | _ => .fail
theorem math_IsNaN_Fok : COk Try.prog 169 math_IsNaN_F true := by
  intro F L H args r L' hs ha hr
  unfold math_IsNaN_F at hr
  split at hr
  · rename_i v215
    have hy := math_IsNaN_tot v215
    generalize math_IsNaN_v v215 = y at hy hr
    simp only [Tree.run, Option.some.injEq, Prod.mk.injEq] at hr
    obtain ⟨rfl, rfl⟩ := hr
    exact call_ok0 hs (fun k => (([] : List AV)[k]?).getD .top) [.flt .f64 v215] [.flt .f64 v215] (fun F' h0 hi hρ => ⟨by simp [DVs.av, DV.av, BR.av, hρ], math_IsNaN_fn v215 F' (by rw [hi]; rfl) (st_nil hi) ⟨trivial, trivial⟩ hy⟩) rfl
  · cases hr
/-! math.IsInf -/
noncomputable def math_IsInf_LO (v216 : Nat) (v217 : Int) : LOr := fun id e L =>
  match id with
  | _ => .fail
noncomputable def math_IsInf_tab : List (FuncId × DFn × Bool) := [(104, Abs_F, true)]
theorem math_IsInf_hO : OrcOk Try.prog (tabD math_IsInf_tab) (tabM math_IsInf_tab) := tabD_cons Abs_Fok (tabD_nil _)
noncomputable def math_IsInf_T (v216 : Nat) (v217 : Int) : Tree (Bool) :=
  (.br (decide (v217 = (0 : Int))) (
   .leaf (fgrt .f64 (fabs v216) (9218868437227405311 : Nat))
  ) (
   (.br (decide (v217 < (0 : Int))) (
    .leaf (fgrt .f64 (fneg .f64 v216) (9218868437227405311 : Nat))
   ) (
    .leaf (fgrt .f64 v216 (9218868437227405311 : Nat))
   ))
  ))

noncomputable def math_IsInf_g (v216 : Nat) (v217 : Int) : Option (Bool) := (math_IsInf_T v216 v217).run
def math_IsInf_enc (v216 : Nat) (v217 : Int) (y : Bool) : Rs := (.bool y, [])
theorem math_IsInf_den (v216 : Nat) (v217 : Int) : (den TT (tabD math_IsInf_tab) (tabM math_IsInf_tab) (math_IsInf_LO v216 v217) (codeOf Try.f170) ([.flt .f64 v216, .int .i64 v217] ++ List.replicate (Try.f170.ntmps - ([.flt .f64 v216, .int .i64 v217] : List DV).length) .undef) []).bind (retD TT Try.f170.results.toList 0) = (math_IsInf_T v216 v217).bind fun y => .leaf (math_IsInf_enc v216 v217 y) := by kernel_rfl
theorem math_IsInf_fn (v216 : Nat) (v217 : Int) (F : Fr) (hm : F.ids.length = 0) (h0 : St F [] F.H0) (hA : DVs.Ok F [] [.flt .f64 v216, .int .i64 v217]) {y : Bool} (hy : math_IsInf_g v216 v217 = some y) : ∃ H', FnOk Try.prog 170 (DVs.av F [.flt .f64 v216, .int .i64 v217]) F.H0 ((math_IsInf_enc v216 v217 y).1.av F) H' ∧ St F (math_IsInf_enc v216 v217 y).2 H' ∧ (math_IsInf_enc v216 v217 y).1.Ok F (math_IsInf_enc v216 v217 y).2 :=
  fn_fin tok math_IsInf_hO mixed Try.func170 Try.call170 (by kernel_rfl) (LoopsOk_eq (l := []) (by kernel_rfl) trivial) (math_IsInf_den v216 v217) hy hm h0 hA
def math_IsInf_v (v216 : Nat) (v217 : Int) : Bool :=
  if (decide (v217 = (0 : Int))) = true then (
   fgrt .f64 (fabs v216) (9218868437227405311 : Nat)
  ) else (
   if (decide (v217 < (0 : Int))) = true then (
    fgrt .f64 (fneg .f64 v216) (9218868437227405311 : Nat)
   ) else (
    fgrt .f64 v216 (9218868437227405311 : Nat)
   )
  )
theorem math_IsInf_tot (v216 : Nat) (v217 : Int) : math_IsInf_g v216 v217 = some (math_IsInf_v v216 v217) := by
  unfold math_IsInf_g math_IsInf_T math_IsInf_v
  simp only [Tree.run]
  repeat' (first | rfl | split)
noncomputable def math_IsInf_F : DFn := fun args L =>
  match args with
  | [.flt .f64 v216, .int .i64 v217] =>
    .leaf (.bool (math_IsInf_v v216 v217), L)
  | _ => .fail
theorem math_IsInf_Fok : COk Try.prog 170 math_IsInf_F true := by
  intro F L H args r L' hs ha hr
  unfold math_IsInf_F at hr
  split at hr
  · rename_i v216 v217
    have hy := math_IsInf_tot v216 v217
    generalize math_IsInf_v v216 v217 = y at hy hr
    simp only [Tree.run, Option.some.injEq, Prod.mk.injEq] at hr
    obtain ⟨rfl, rfl⟩ := hr
    exact call_ok0 hs (fun k => (([] : List AV)[k]?).getD .top) [.flt .f64 v216, .int .i64 v217] [.flt .f64 v216, .int .i64 v217] (fun F' h0 hi hρ => ⟨by simp [DVs.av, DV.av, BR.av, hρ], math_IsInf_fn v216 v217 F' (by rw [hi]; rfl) (st_nil hi) ⟨trivial, trivial, trivial⟩ hy⟩) rfl
  · cases hr
/-! impl.isFinite64 -/
noncomputable def impl_isFinite64_LO (v214 : Nat) : LOr := fun id e L =>
  match id with
  | _ => .fail
noncomputable def impl_isFinite64_tab : List (FuncId × DFn × Bool) := [(169, math_IsNaN_F, true), (170, math_IsInf_F, true)]
theorem impl_isFinite64_hO : OrcOk Try.prog (tabD impl_isFinite64_tab) (tabM impl_isFinite64_tab) := tabD_cons math_IsNaN_Fok (tabD_cons math_IsInf_Fok (tabD_nil _))
noncomputable def impl_isFinite64_T (v214 : Nat) : Tree (Bool) :=
  (.br (!(math_IsNaN_v v214)) (
   .leaf (!(math_IsInf_v v214 (0 : Int)))
  ) (
   .leaf false
  ))

noncomputable def impl_isFinite64_g (v214 : Nat) : Option (Bool) := (impl_isFinite64_T v214).run
def impl_isFinite64_enc (v214 : Nat) (y : Bool) : Rs := (.bool y, [])
theorem impl_isFinite64_den (v214 : Nat) : (den TT (tabD impl_isFinite64_tab) (tabM impl_isFinite64_tab) (impl_isFinite64_LO v214) (codeOf Try.f151) ([.flt .f64 v214] ++ List.replicate (Try.f151.ntmps - ([.flt .f64 v214] : List DV).length) .undef) []).bind (retD TT Try.f151.results.toList 0) = (impl_isFinite64_T v214).bind fun y => .leaf (impl_isFinite64_enc v214 y) := by kernel_rfl
theorem impl_isFinite64_fn (v214 : Nat) (F : Fr) (hm : F.ids.length = 0) (h0 : St F [] F.H0) (hA : DVs.Ok F [] [.flt .f64 v214]) {y : Bool} (hy : impl_isFinite64_g v214 = some y) : ∃ H', FnOk Try.prog 151 (DVs.av F [.flt .f64 v214]) F.H0 ((impl_isFinite64_enc v214 y).1.av F) H' ∧ St F (impl_isFinite64_enc v214 y).2 H' ∧ (impl_isFinite64_enc v214 y).1.Ok F (impl_isFinite64_enc v214 y).2 :=
  fn_fin tok impl_isFinite64_hO mixed Try.func151 Try.call151 (by kernel_rfl) (LoopsOk_eq (l := []) (by kernel_rfl) trivial) (impl_isFinite64_den v214) hy hm h0 hA
def impl_isFinite64_v (v214 : Nat) : Bool :=
  if (!(math_IsNaN_v v214)) = true then (
   !(math_IsInf_v v214 (0 : Int))
  ) else (
   false
  )
theorem impl_isFinite64_tot (v214 : Nat) : impl_isFinite64_g v214 = some (impl_isFinite64_v v214) := by
  unfold impl_isFinite64_g impl_isFinite64_T impl_isFinite64_v
  simp only [Tree.run]
  repeat' (first | rfl | split)
noncomputable def impl_isFinite64_F : DFn := fun args L =>
  match args with
  | [.flt .f64 v214] =>
    .leaf (.bool (impl_isFinite64_v v214), L)
  | _ => .fail
theorem impl_isFinite64_Fok : COk Try.prog 151 impl_isFinite64_F true := by
  intro F L H args r L' hs ha hr
  unfold impl_isFinite64_F at hr
  split at hr
  · rename_i v214
    have hy := impl_isFinite64_tot v214
    generalize impl_isFinite64_v v214 = y at hy hr
    simp only [Tree.run, Option.some.injEq, Prod.mk.injEq] at hr
    obtain ⟨rfl, rfl⟩ := hr
    exact call_ok0 hs (fun k => (([] : List AV)[k]?).getD .top) [.flt .f64 v214] [.flt .f64 v214] (fun F' h0 hi hρ => ⟨by simp [DVs.av, DV.av, BR.av, hρ], impl_isFinite64_fn v214 F' (by rw [hi]; rfl) (st_nil hi) ⟨trivial, trivial⟩ hy⟩) rfl
  · cases hr
/-! impl.IsFinite -/
noncomputable def impl_IsFinite_LO (v213 : Nat) : LOr := fun id e L =>
  match id with
  | _ => .fail
noncomputable def impl_IsFinite_tab : List (FuncId × DFn × Bool) := [(151, impl_isFinite64_F, true)]
theorem impl_IsFinite_hO : OrcOk Try.prog (tabD impl_IsFinite_tab) (tabM impl_IsFinite_tab) := tabD_cons impl_isFinite64_Fok (tabD_nil _)
noncomputable def impl_IsFinite_T (v213 : Nat) : Tree (Bool) :=
  .leaf (impl_isFinite64_v (wid v213))

noncomputable def impl_IsFinite_g (v213 : Nat) : Option (Bool) := (impl_IsFinite_T v213).run
def impl_IsFinite_enc (v213 : Nat) (y : Bool) : Rs := (.bool y, [])
theorem impl_IsFinite_den (v213 : Nat) : (den TT (tabD impl_IsFinite_tab) (tabM impl_IsFinite_tab) (impl_IsFinite_LO v213) (codeOf Try.f103) ([.flt .f32 v213] ++ List.replicate (Try.f103.ntmps - ([.flt .f32 v213] : List DV).length) .undef) []).bind (retD TT Try.f103.results.toList 0) = (impl_IsFinite_T v213).bind fun y => .leaf (impl_IsFinite_enc v213 y) := by kernel_rfl
theorem impl_IsFinite_fn (v213 : Nat) (F : Fr) (hm : F.ids.length = 0) (h0 : St F [] F.H0) (hA : DVs.Ok F [] [.flt .f32 v213]) {y : Bool} (hy : impl_IsFinite_g v213 = some y) : ∃ H', FnOk Try.prog 103 (DVs.av F [.flt .f32 v213]) F.H0 ((impl_IsFinite_enc v213 y).1.av F) H' ∧ St F (impl_IsFinite_enc v213 y).2 H' ∧ (impl_IsFinite_enc v213 y).1.Ok F (impl_IsFinite_enc v213 y).2 :=
  fn_fin tok impl_IsFinite_hO mixed Try.func103 Try.call103 (by kernel_rfl) (LoopsOk_eq (l := []) (by kernel_rfl) trivial) (impl_IsFinite_den v213) hy hm h0 hA
def impl_IsFinite_v (v213 : Nat) : Bool :=
  (impl_isFinite64_v (wid v213))
theorem impl_IsFinite_tot (v213 : Nat) : impl_IsFinite_g v213 = some (impl_IsFinite_v v213) := by
  unfold impl_IsFinite_g impl_IsFinite_T impl_IsFinite_v
  simp only [Tree.run]
  repeat' (first | rfl | split)
noncomputable def impl_IsFinite_F : DFn := fun args L =>
  match args with
  | [.flt .f32 v213] =>
    .leaf (.bool (impl_IsFinite_v v213), L)
  | _ => .fail
theorem impl_IsFinite_Fok : COk Try.prog 103 impl_IsFinite_F true := by
  intro F L H args r L' hs ha hr
  unfold impl_IsFinite_F at hr
  split at hr
  · rename_i v213
    have hy := impl_IsFinite_tot v213
    generalize impl_IsFinite_v v213 = y at hy hr
    simp only [Tree.run, Option.some.injEq, Prod.mk.injEq] at hr
    obtain ⟨rfl, rfl⟩ := hr
    exact call_ok0 hs (fun k => (([] : List AV)[k]?).getD .top) [.flt .f32 v213] [.flt .f32 v213] (fun F' h0 hi hρ => ⟨by simp [DVs.av, DV.av, BR.av, hρ], impl_IsFinite_fn v213 F' (by rw [hi]; rfl) (st_nil hi) ⟨trivial, trivial⟩ hy⟩) rfl
  · cases hr
/-! impl.areFinite$1 -/
noncomputable def impl_areFinite_1_LO (v212 : Nat) : LOr := fun id e L =>
  match id with
  | _ => .fail
noncomputable def impl_areFinite_1_tab : List (FuncId × DFn × Bool) := [(103, impl_IsFinite_F, true)]
theorem impl_areFinite_1_hO : OrcOk Try.prog (tabD impl_areFinite_1_tab) (tabM impl_areFinite_1_tab) := tabD_cons impl_IsFinite_Fok (tabD_nil _)
noncomputable def impl_areFinite_1_T (v212 : Nat) : Tree (Bool) :=
  .leaf (!(impl_IsFinite_v v212))

noncomputable def impl_areFinite_1_g (v212 : Nat) : Option (Bool) := (impl_areFinite_1_T v212).run
def impl_areFinite_1_enc (v212 : Nat) (y : Bool) : Rs := (.bool y, [])
theorem impl_areFinite_1_den (v212 : Nat) : (den TT (tabD impl_areFinite_1_tab) (tabM impl_areFinite_1_tab) (impl_areFinite_1_LO v212) (codeOf Try.f165) ([.flt .f32 v212] ++ List.replicate (Try.f165.ntmps - ([.flt .f32 v212] : List DV).length) .undef) []).bind (retD TT Try.f165.results.toList 0) = (impl_areFinite_1_T v212).bind fun y => .leaf (impl_areFinite_1_enc v212 y) := by kernel_rfl
theorem impl_areFinite_1_fn (v212 : Nat) (F : Fr) (hm : F.ids.length = 0) (h0 : St F [] F.H0) (hA : DVs.Ok F [] [.flt .f32 v212]) {y : Bool} (hy : impl_areFinite_1_g v212 = some y) : ∃ H', FnOk Try.prog 165 (DVs.av F [.flt .f32 v212]) F.H0 ((impl_areFinite_1_enc v212 y).1.av F) H' ∧ St F (impl_areFinite_1_enc v212 y).2 H' ∧ (impl_areFinite_1_enc v212 y).1.Ok F (impl_areFinite_1_enc v212 y).2 :=
  fn_fin tok impl_areFinite_1_hO mixed Try.func165 Try.call165 (by kernel_rfl) (LoopsOk_eq (l := []) (by kernel_rfl) trivial) (impl_areFinite_1_den v212) hy hm h0 hA
def impl_areFinite_1_v (v212 : Nat) : Bool :=
  !(impl_IsFinite_v v212)
theorem impl_areFinite_1_tot (v212 : Nat) : impl_areFinite_1_g v212 = some (impl_areFinite_1_v v212) := by
  unfold impl_areFinite_1_g impl_areFinite_1_T impl_areFinite_1_v
  simp only [Tree.run]
  repeat' (first | rfl | split)
noncomputable def impl_areFinite_1_F : DFn := fun args L =>
  match args with
  | [.flt .f32 v212] =>
    .leaf (.bool (impl_areFinite_1_v v212), L)
  | _ => .fail
theorem impl_areFinite_1_Fok : COk Try.prog 165 impl_areFinite_1_F true := by
  intro F L H args r L' hs ha hr
  unfold impl_areFinite_1_F at hr
  split at hr
  · rename_i v212
    have hy := impl_areFinite_1_tot v212
    generalize impl_areFinite_1_v v212 = y at hy hr
    simp only [Tree.run, Option.some.injEq, Prod.mk.injEq] at hr
    obtain ⟨rfl, rfl⟩ := hr
    exact call_ok0 hs (fun k => (([] : List AV)[k]?).getD .top) [.flt .f32 v212] [.flt .f32 v212] (fun F' h0 hi hρ => ⟨by simp [DVs.av, DV.av, BR.av, hρ], impl_areFinite_1_fn v212 F' (by rw [hi]; rfl) (st_nil hi) ⟨trivial, trivial⟩ hy⟩) rfl
  · cases hr
/-! slices.IndexFunc[list of float32,float32] -/
noncomputable def slices_IndexFuncF_l0_T (v210 : List Nat) (s : Int) : Tree ((Int) ⊕ ((Int) ⊕ (Unit))) :=
  (.br (decide (s < ((v210.length : Nat) : Int))) (
   (.grd (inb s v210.length) <|
   (.br (impl_areFinite_1_v (nth v210 (Int.toNat s))) (
    .leaf (.inr (.inl s))
   ) (
    .leaf (.inl (IntKind.i64.wrap (s + (1 : Int))))
   )))
  ) (
   .leaf (.inr (.inr ()))
  ))

noncomputable def slices_IndexFuncF_l0_g (v210 : List Nat) (s0 : Int) : Option ((Int) ⊕ (Unit)) := whileM (fun s => (slices_IndexFuncF_l0_T v210 s).run) s0
def slices_IndexFuncF_l0_E (v210 : List Nat) (s : Int) : Sd := ([.bslc (BR.root 0) (.f32 v210), .fn 165 [], .top, .top, .top, .top, .top, .int .i64 ((v210.length : Nat) : Int), .int .i64 s, .top, .top, .top, .top, .top, .top, .top, .top, .top, .top], [])
def slices_IndexFuncF_l0_X (v210 : List Nat) (x : (Int) ⊕ (Unit)) : Out := (match x with | .inl x => (.ret, [.top, .top, .top, .top, .int .i64 x, .top, .top, .top, .top, .top, .top, .top, .top, .top, .top, .top, .top, .top, .top], []) | .inr x => (.normal, [.top, .top, .top, .top, .top, .top, .top, .top, .top, .top, .top, .top, .top, .top, .top, .top, .top, .top, .top], []))
def slices_IndexFuncF_l0_kill : List Nat := [0, 0, 1, 1, 1, 1, 1, 0, 0, 1, 1, 1, 1, 1, 1, 1, 1, 1, 1]
def slices_IndexFuncF_l0_nx : Exit → List Nat
  | .exit 0 => [1, 1, 1, 1, 1, 1, 1, 1, 1, 1, 1, 1, 1, 1, 1, 1, 1, 1, 1]
  | .ret => [1, 1, 1, 1, 0, 1, 1, 1, 1, 1, 1, 1, 1, 1, 1, 1, 1, 1, 1]
  | _ => []
noncomputable def slices_IndexFuncF_LO (v210 : List Nat) : LOr := fun id e L =>
  match id with
  | 0 => .need (normA 0 slices_IndexFuncF_l0_kill e L = some (slices_IndexFuncF_l0_E v210 (gI (vAt e 8)))) (.call (slices_IndexFuncF_l0_g v210 (gI (vAt e 8))) fun x => .sum x (fun b0 => .leaf (slices_IndexFuncF_l0_X v210 (.inl b0))) (fun c0 => .leaf (slices_IndexFuncF_l0_X v210 (.inr c0))))
  | _ => .fail
noncomputable def slices_IndexFuncF_tab : List (FuncId × DFn × Bool) := [(165, impl_areFinite_1_F, true)]
theorem slices_IndexFuncF_hO : OrcOk Try.prog (tabD slices_IndexFuncF_tab) (tabM slices_IndexFuncF_tab) := tabD_cons impl_areFinite_1_Fok (tabD_nil _)
theorem slices_IndexFuncF_l0_be (v210 : List Nat) (s : Int) : bodyT TT (tabD slices_IndexFuncF_tab) (tabM slices_IndexFuncF_tab) (slices_IndexFuncF_LO v210) 0 slices_IndexFuncF_l0_kill slices_IndexFuncF_l0_nx (bodyOf Try.f178 0) 0 (slices_IndexFuncF_l0_E v210 s) = (slices_IndexFuncF_l0_T v210 s).bind fun y => .leaf (outS (slices_IndexFuncF_l0_E v210) (slices_IndexFuncF_l0_X v210) y) := by kernel_rfl
theorem slices_IndexFuncF_l0_ok (v210 : List Nat) : LSound Try.prog 0 (slices_IndexFuncF_LO v210) 0 (bodyOf Try.f178 0) := by
  intro e L out h
  exact lo_ok (E := slices_IndexFuncF_l0_E v210) (gT := slices_IndexFuncF_l0_T v210) (X := slices_IndexFuncF_l0_X v210) (s0 := (gI (vAt e 8))) tok slices_IndexFuncF_hO mixed (LoopsOk_eq (l := []) (by kernel_rfl) trivial) (slices_IndexFuncF_l0_be v210) rfl (by intro x; (cases x with | inl b => rfl | inr x => exact rfl)) h
noncomputable def slices_IndexFuncF_T (v210 : List Nat) : Tree (Int) :=
  (.need (some (slices_IndexFuncF_l0_E v210 (0 : Int)) = some (slices_IndexFuncF_l0_E v210 (0 : Int))) <|
  (.call (slices_IndexFuncF_l0_g v210 (0 : Int)) fun v220 =>
  (.sum v220 (fun v221 =>
   .leaf v221
  ) (fun v222 =>
   .leaf (-1 : Int)
  ))))

noncomputable def slices_IndexFuncF_g (v210 : List Nat) : Option (Int) := (slices_IndexFuncF_T v210).run
def slices_IndexFuncF_enc (v210 : List Nat) (y : Int) : Rs := (.int .i64 y, [])
theorem slices_IndexFuncF_den (v210 : List Nat) : (den TT (tabD slices_IndexFuncF_tab) (tabM slices_IndexFuncF_tab) (slices_IndexFuncF_LO v210) (codeOf Try.f178) ([.bslc (BR.root 0) (.f32 v210), .fn 165 []] ++ List.replicate (Try.f178.ntmps - ([.bslc (BR.root 0) (.f32 v210), .fn 165 []] : List DV).length) .undef) []).bind (retD TT Try.f178.results.toList 0) = (slices_IndexFuncF_T v210).bind fun y => .leaf (slices_IndexFuncF_enc v210 y) := by kernel_rfl
theorem slices_IndexFuncF_fn (v210 : List Nat) (F : Fr) (hm : F.ids.length = 0) (h0 : St F [] F.H0) (hA : DVs.Ok F [] [.bslc (BR.root 0) (.f32 v210), .fn 165 []]) {y : Int} (hy : slices_IndexFuncF_g v210 = some y) : ∃ H', FnOk Try.prog 178 (DVs.av F [.bslc (BR.root 0) (.f32 v210), .fn 165 []]) F.H0 ((slices_IndexFuncF_enc v210 y).1.av F) H' ∧ St F (slices_IndexFuncF_enc v210 y).2 H' ∧ (slices_IndexFuncF_enc v210 y).1.Ok F (slices_IndexFuncF_enc v210 y).2 :=
  fn_fin tok slices_IndexFuncF_hO mixed Try.func178 Try.call178 (by kernel_rfl) (LoopsOk_eq (l := [(0, bodyOf Try.f178 0)]) (by kernel_rfl) ⟨slices_IndexFuncF_l0_ok v210, trivial⟩) (slices_IndexFuncF_den v210) hy hm h0 hA
noncomputable def slices_IndexFuncF_F : DFn := fun args L =>
  match args with
  | [a1, .fn 165 []] =>
    optT (rowF32 L a1) fun v210 =>
    .call (slices_IndexFuncF_g v210) fun y => .leaf (.int .i64 y, L)
  | _ => .fail
theorem slices_IndexFuncF_Fok : COk Try.prog 178 slices_IndexFuncF_F true := by
  intro F L H args r L' hs ha hr
  unfold slices_IndexFuncF_F at hr
  split at hr
  · rename_i a1
    obtain ⟨v210, hv210, hr⟩ := optT_run hr
    simp only [Tree.run] at hr
    obtain ⟨y, hy, hr⟩ := Option.bind_eq_some_iff.1 hr
    simp only [Tree.run, Option.some.injEq, Prod.mk.injEq] at hr
    obtain ⟨rfl, rfl⟩ := hr
    exact call_ok0 hs (fun k => (([a1.av F] : List AV)[k]?).getD .top) [a1, .fn 165 []] [.bslc (BR.root 0) (.f32 v210), .fn 165 []] (fun F' h0 hi hρ => ⟨by simp [DVs.av, DV.av, BR.av, hρ], slices_IndexFuncF_fn v210 F' (by rw [hi]; rfl) (st_nil hi) ⟨bslc_ok hi (by rw [h0, hρ]; exact rowF32_ok hs (DVs.okAt ha 0 rfl) hv210), trivial, trivial⟩ hy⟩) rfl
  · cases hr
/-! slices.ContainsFunc[list of float32,float32] -/
noncomputable def slices_ContainsFuncF_LO (v209 : List Nat) : LOr := fun id e L =>
  match id with
  | _ => .fail
noncomputable def slices_ContainsFuncF_tab : List (FuncId × DFn × Bool) := [(178, slices_IndexFuncF_F, true)]
theorem slices_ContainsFuncF_hO : OrcOk Try.prog (tabD slices_ContainsFuncF_tab) (tabM slices_ContainsFuncF_tab) := tabD_cons slices_IndexFuncF_Fok (tabD_nil _)
noncomputable def slices_ContainsFuncF_T (v209 : List Nat) : Tree (Bool) :=
  (.call (slices_IndexFuncF_g v209) fun v223 =>
  .leaf (decide ((0 : Int) ≤ v223)))

noncomputable def slices_ContainsFuncF_g (v209 : List Nat) : Option (Bool) := (slices_ContainsFuncF_T v209).run
def slices_ContainsFuncF_enc (v209 : List Nat) (y : Bool) : Rs := (.bool y, [])
theorem slices_ContainsFuncF_den (v209 : List Nat) : (den TT (tabD slices_ContainsFuncF_tab) (tabM slices_ContainsFuncF_tab) (slices_ContainsFuncF_LO v209) (codeOf Try.f164) ([.bslc (BR.root 0) (.f32 v209), .fn 165 []] ++ List.replicate (Try.f164.ntmps - ([.bslc (BR.root 0) (.f32 v209), .fn 165 []] : List DV).length) .undef) []).bind (retD TT Try.f164.results.toList 0) = (slices_ContainsFuncF_T v209).bind fun y => .leaf (slices_ContainsFuncF_enc v209 y) := by kernel_rfl
theorem slices_ContainsFuncF_fn (v209 : List Nat) (F : Fr) (hm : F.ids.length = 0) (h0 : St F [] F.H0) (hA : DVs.Ok F [] [.bslc (BR.root 0) (.f32 v209), .fn 165 []]) {y : Bool} (hy : slices_ContainsFuncF_g v209 = some y) : ∃ H', FnOk Try.prog 164 (DVs.av F [.bslc (BR.root 0) (.f32 v209), .fn 165 []]) F.H0 ((slices_ContainsFuncF_enc v209 y).1.av F) H' ∧ St F (slices_ContainsFuncF_enc v209 y).2 H' ∧ (slices_ContainsFuncF_enc v209 y).1.Ok F (slices_ContainsFuncF_enc v209 y).2 :=
  fn_fin tok slices_ContainsFuncF_hO mixed Try.func164 Try.call164 (by kernel_rfl) (LoopsOk_eq (l := []) (by kernel_rfl) trivial) (slices_ContainsFuncF_den v209) hy hm h0 hA
noncomputable def slices_ContainsFuncF_F : DFn := fun args L =>
  match args with
  | [a1, .fn 165 []] =>
    optT (rowF32 L a1) fun v209 =>
    .call (slices_ContainsFuncF_g v209) fun y => .leaf (.bool y, L)
  | _ => .fail
theorem slices_ContainsFuncF_Fok : COk Try.prog 164 slices_ContainsFuncF_F true := by
  intro F L H args r L' hs ha hr
  unfold slices_ContainsFuncF_F at hr
  split at hr
  · rename_i a1
    obtain ⟨v209, hv209, hr⟩ := optT_run hr
    simp only [Tree.run] at hr
    obtain ⟨y, hy, hr⟩ := Option.bind_eq_some_iff.1 hr
    simp only [Tree.run, Option.some.injEq, Prod.mk.injEq] at hr
    obtain ⟨rfl, rfl⟩ := hr
    exact call_ok0 hs (fun k => (([a1.av F] : List AV)[k]?).getD .top) [a1, .fn 165 []] [.bslc (BR.root 0) (.f32 v209), .fn 165 []] (fun F' h0 hi hρ => ⟨by simp [DVs.av, DV.av, BR.av, hρ], slices_ContainsFuncF_fn v209 F' (by rw [hi]; rfl) (st_nil hi) ⟨bslc_ok hi (by rw [h0, hρ]; exact rowF32_ok hs (DVs.okAt ha 0 rfl) hv209), trivial, trivial⟩ hy⟩) rfl
  · cases hr
/-! impl.areFinite -/
noncomputable def impl_areFinite_LO (v208 : List Nat) : LOr := fun id e L =>
  match id with
  | _ => .fail
noncomputable def impl_areFinite_tab : List (FuncId × DFn × Bool) := [(164, slices_ContainsFuncF_F, true)]
theorem impl_areFinite_hO : OrcOk Try.prog (tabD impl_areFinite_tab) (tabM impl_areFinite_tab) := tabD_cons slices_ContainsFuncF_Fok (tabD_nil _)
noncomputable def impl_areFinite_T (v208 : List Nat) : Tree (Bool) :=
  (.call (slices_ContainsFuncF_g v208) fun v224 =>
  .leaf (!v224))

noncomputable def impl_areFinite_g (v208 : List Nat) : Option (Bool) := (impl_areFinite_T v208).run
def impl_areFinite_enc (v208 : List Nat) (y : Bool) : Rs := (.bool y, [])
theorem impl_areFinite_den (v208 : List Nat) : (den TT (tabD impl_areFinite_tab) (tabM impl_areFinite_tab) (impl_areFinite_LO v208) (codeOf Try.f135) ([.bslc (BR.root 0) (.f32 v208)] ++ List.replicate (Try.f135.ntmps - ([.bslc (BR.root 0) (.f32 v208)] : List DV).length) .undef) []).bind (retD TT Try.f135.results.toList 0) = (impl_areFinite_T v208).bind fun y => .leaf (impl_areFinite_enc v208 y) := by kernel_rfl
theorem impl_areFinite_fn (v208 : List Nat) (F : Fr) (hm : F.ids.length = 0) (h0 : St F [] F.H0) (hA : DVs.Ok F [] [.bslc (BR.root 0) (.f32 v208)]) {y : Bool} (hy : impl_areFinite_g v208 = some y) : ∃ H', FnOk Try.prog 135 (DVs.av F [.bslc (BR.root 0) (.f32 v208)]) F.H0 ((impl_areFinite_enc v208 y).1.av F) H' ∧ St F (impl_areFinite_enc v208 y).2 H' ∧ (impl_areFinite_enc v208 y).1.Ok F (impl_areFinite_enc v208 y).2 :=
  fn_fin tok impl_areFinite_hO mixed Try.func135 Try.call135 (by kernel_rfl) (LoopsOk_eq (l := []) (by kernel_rfl) trivial) (impl_areFinite_den v208) hy hm h0 hA
noncomputable def impl_areFinite_F : DFn := fun args L =>
  match args with
  | [a1] =>
    optT (rowF32 L a1) fun v208 =>
    .call (impl_areFinite_g v208) fun y => .leaf (.bool y, L)
  | _ => .fail
theorem impl_areFinite_Fok : COk Try.prog 135 impl_areFinite_F true := by
  intro F L H args r L' hs ha hr
  unfold impl_areFinite_F at hr
  split at hr
  · rename_i a1
    obtain ⟨v208, hv208, hr⟩ := optT_run hr
    simp only [Tree.run] at hr
    obtain ⟨y, hy, hr⟩ := Option.bind_eq_some_iff.1 hr
    simp only [Tree.run, Option.some.injEq, Prod.mk.injEq] at hr
    obtain ⟨rfl, rfl⟩ := hr
    exact call_ok0 hs (fun k => (([a1.av F] : List AV)[k]?).getD .top) [a1] [.bslc (BR.root 0) (.f32 v208)] (fun F' h0 hi hρ => ⟨by simp [DVs.av, DV.av, BR.av, hρ], impl_areFinite_fn v208 F' (by rw [hi]; rfl) (st_nil hi) ⟨bslc_ok hi (by rw [h0, hρ]; exact rowF32_ok hs (DVs.okAt ha 0 rfl) hv208), trivial⟩ hy⟩) rfl
  · cases hr
/-! impl.ValidSparse -/
noncomputable def impl_ValidSparse_l2_T (v169 : List Int) (v170 : List Int) (v251 : Int) (s : Int) : Tree ((Int) ⊕ ((Unit) ⊕ (Unit))) :=
  (.grd (inb (IntKind.i64.wrap (v251 + (1 : Int))) v169.length) <|
  (.br (decide (s < nth v169 (Int.toNat (IntKind.i64.wrap (v251 + (1 : Int)))))) (
   (.grd (inb (IntKind.i64.wrap (s - (1 : Int))) v170.length) <|
   (.grd (inb s v170.length) <|
   (.br (decide (nth v170 (Int.toNat s) ≤ nth v170 (Int.toNat (IntKind.i64.wrap (s - (1 : Int)))))) (
    .leaf (.inr (.inl ()))
   ) (
    .leaf (.inl (IntKind.i64.wrap (s + (1 : Int))))
   ))))
  ) (
   .leaf (.inr (.inr ()))
  )))

noncomputable def impl_ValidSparse_l2_g (v169 : List Int) (v170 : List Int) (v251 : Int) (s0 : Int) : Option ((Unit) ⊕ (Unit)) := whileM (fun s => (impl_ValidSparse_l2_T v169 v170 v251 s).run) s0
def impl_ValidSparse_l2_E (v168 : Int) (v169 : List Int) (v170 : List Int) (v171 : List Nat) (v251 : Int) (s : Int) : Sd := ([.top, .ptr 0 (0 : Nat) 0 (4 : Nat), .top, .top, .int .i64 v251, .int .i64 s, .top, .top, .top, .top, .top, .top, .top, .top, .top, .top, .top, .top, .top, .top, .top, .top, .top, .top, .top, .top, .top, .top, .top, .top, .top, .top, .top, .top, .top, .top, .top, .top, .top, .top, .top, .top, .top, .top, .top, .top, .top, .top, .top, .top, .top, .top, .top, .top, .top, .top, .top, .top, .top, .top, .top, .top, .top, .top, .top, .top, .top, .top, .top, .top, .top, .top, .int .i64 v168, .int .i64 v251, .top, .top, .top, .top, .top, .top, .top, .top, .top, .top, .top, .top, .top, .top, .top, .top, .top, .top, .top, .top, .top, .top, .top, .top, .top, .top, .top, .top, .top, .top, .top], [.gen [.int .i64 v168, .bslc (BR.root 0) (.i64 v169), .bslc (BR.root 1) (.i64 v170), .bslc (BR.root 2) (.f32 v171)] false 0])
def impl_ValidSparse_l2_X (v168 : Int) (v169 : List Int) (v170 : List Int) (v171 : List Nat) (v251 : Int) (x : (Unit) ⊕ (Unit)) : Out := (match x with | .inl x => (.ret, [.top, .top, .lit false, .top, .top, .top, .top, .top, .top, .top, .top, .top, .top, .top, .top, .top, .top, .top, .top, .top, .top, .top, .top, .top, .top, .top, .top, .top, .top, .top, .top, .top, .top, .top, .top, .top, .top, .top, .top, .top, .top, .top, .top, .top, .top, .top, .top, .top, .top, .top, .top, .top, .top, .top, .top, .top, .top, .top, .top, .top, .top, .top, .top, .top, .top, .top, .top, .top, .top, .top, .top, .top, .top, .top, .top, .top, .top, .top, .top, .top, .top, .top, .top, .top, .top, .top, .top, .top, .top, .top, .top, .top, .top, .top, .top, .top, .top, .top, .top, .top, .top, .top, .top, .top, .top], []) | .inr x => (.normal, [.top, .ptr 0 (0 : Nat) 0 (4 : Nat), .top, .top, .top, .top, .top, .top, .top, .top, .top, .top, .top, .top, .top, .top, .top, .top, .top, .top, .top, .top, .top, .top, .top, .top, .top, .top, .top, .top, .top, .top, .top, .top, .top, .top, .top, .top, .top, .top, .top, .top, .top, .top, .top, .top, .top, .top, .top, .top, .top, .top, .top, .top, .top, .top, .top, .top, .top, .top, .top, .top, .top, .top, .top, .top, .top, .top, .top, .top, .top, .top, .int .i64 v168, .int .i64 v251, .top, .top, .top, .top, .top, .top, .top, .top, .top, .top, .top, .top, .top, .top, .top, .top, .top, .top, .top, .top, .top, .top, .top, .top, .top, .top, .top, .top, .top, .top, .top], [.gen [.int .i64 v168, .bslc (BR.root 0) (.i64 v169), .bslc (BR.root 1) (.i64 v170), .bslc (BR.root 2) (.f32 v171)] false 0]))
def impl_ValidSparse_l2_kill : List Nat := [1, 0, 1, 1, 0, 0, 1, 1, 1, 1, 1, 1, 1, 1, 1, 1, 1, 1, 1, 1, 1, 1, 1, 1, 1, 1, 1, 1, 1, 1, 1, 1, 1, 1, 1, 1, 1, 1, 1, 1, 1, 1, 1, 1, 1, 1, 1, 1, 1, 1, 1, 1, 1, 1, 1, 1, 1, 1, 1, 1, 1, 1, 1, 1, 1, 1, 1, 1, 1, 1, 1, 1, 0, 0, 1, 1, 1, 1, 1, 1, 1, 1, 1, 1, 1, 1, 1, 1, 1, 1, 1, 1, 1, 1, 1, 1, 1, 1, 1, 1, 1, 1, 1, 1, 1]
def impl_ValidSparse_l2_nx : Exit → List Nat
  | .exit 0 => [1, 1, 1, 1, 1, 1, 1, 1, 1, 1, 1, 1, 1, 1, 1, 1, 1, 1, 1, 1, 1, 1, 1, 1, 1, 1, 1, 1, 1, 1, 1, 1, 1, 1, 1, 1, 1, 1, 1, 1, 1, 1, 1, 1, 1, 1, 1, 1, 1, 1, 1, 1, 1, 1, 1, 1, 1, 1, 1, 1, 1, 1, 1, 1, 1, 1, 1, 1, 1, 1, 1, 1, 1, 1, 1, 1, 1, 1, 1, 1, 1, 1, 1, 1, 1, 1, 1, 1, 1, 1, 1, 1, 1, 1, 1, 1, 1, 1, 1, 1, 1, 1, 1, 1, 1]
  | .exit 1 => [1, 0, 1, 1, 1, 1, 1, 1, 1, 1, 1, 1, 1, 1, 1, 1, 1, 1, 1, 1, 1, 1, 1, 1, 1, 1, 1, 1, 1, 1, 1, 1, 1, 1, 1, 1, 1, 1, 1, 1, 1, 1, 1, 1, 1, 1, 1, 1, 1, 1, 1, 1, 1, 1, 1, 1, 1, 1, 1, 1, 1, 1, 1, 1, 1, 1, 1, 1, 1, 1, 1, 1, 0, 0, 1, 1, 1, 1, 1, 1, 1, 1, 1, 1, 1, 1, 1, 1, 1, 1, 1, 1, 1, 1, 1, 1, 1, 1, 1, 1, 1, 1, 1, 1, 1]
  | .exit 2 => [1, 0, 1, 1, 1, 1, 1, 1, 1, 1, 1, 1, 1, 1, 1, 1, 1, 1, 1, 1, 1, 1, 1, 1, 1, 1, 1, 1, 1, 1, 1, 1, 1, 1, 1, 1, 1, 1, 1, 1, 1, 1, 1, 1, 1, 1, 1, 1, 1, 1, 1, 1, 1, 1, 1, 1, 1, 1, 1, 1, 1, 1, 1, 1, 1, 1, 1, 1, 1, 1, 1, 1, 0, 0, 1, 1, 1, 1, 1, 1, 1, 1, 1, 1, 1, 1, 1, 1, 1, 1, 1, 1, 1, 1, 1, 1, 1, 1, 1, 1, 1, 1, 1, 1, 1]
  | .ret => [1, 1, 0, 1, 1, 1, 1, 1, 1, 1, 1, 1, 1, 1, 1, 1, 1, 1, 1, 1, 1, 1, 1, 1, 1, 1, 1, 1, 1, 1, 1, 1, 1, 1, 1, 1, 1, 1, 1, 1, 1, 1, 1, 1, 1, 1, 1, 1, 1, 1, 1, 1, 1, 1, 1, 1, 1, 1, 1, 1, 1, 1, 1, 1, 1, 1, 1, 1, 1, 1, 1, 1, 1, 1, 1, 1, 1, 1, 1, 1, 1, 1, 1, 1, 1, 1, 1, 1, 1, 1, 1, 1, 1, 1, 1, 1, 1, 1, 1, 1, 1, 1, 1, 1, 1]
  | _ => []
noncomputable def impl_ValidSparse_l0_T (v168 : Int) (v169 : List Int) (v170 : List Int) (v171 : List Nat) (s : Int) : Tree ((Int) ⊕ ((Unit) ⊕ (Unit))) :=
  (.br (decide (s < v168)) (
   (.grd (inb s v169.length) <|
   (.need (some (impl_ValidSparse_l2_E v168 v169 v170 v171 s (IntKind.i64.wrap ((nth v169 (Int.toNat s)) + (1 : Int)))) = some (impl_ValidSparse_l2_E v168 v169 v170 v171 s (IntKind.i64.wrap ((nth v169 (Int.toNat s)) + (1 : Int))))) <|
   (.call (impl_ValidSparse_l2_g v169 v170 s (IntKind.i64.wrap ((nth v169 (Int.toNat s)) + (1 : Int)))) fun v253 =>
   (.sum v253 (fun v254 =>
    .leaf (.inr (.inl ()))
   ) (fun v255 =>
    .leaf (.inl (IntKind.i64.wrap (s + (1 : Int))))
   )))))
  ) (
   .leaf (.inr (.inr ()))
  ))

noncomputable def impl_ValidSparse_l0_g (v168 : Int) (v169 : List Int) (v170 : List Int) (v171 : List Nat) (s0 : Int) : Option ((Unit) ⊕ (Unit)) := whileM (fun s => (impl_ValidSparse_l0_T v168 v169 v170 v171 s).run) s0
def impl_ValidSparse_l0_E (v168 : Int) (v169 : List Int) (v170 : List Int) (v171 : List Nat) (s : Int) : Sd := ([.top, .ptr 0 (0 : Nat) 0 (4 : Nat), .top, .top, .top, .top, .top, .top, .top, .top, .top, .top, .top, .top, .top, .top, .top, .top, .top, .top, .top, .top, .top, .top, .top, .top, .top, .top, .top, .top, .top, .top, .top, .top, .top, .top, .top, .top, .top, .top, .top, .top, .top, .top, .top, .top, .top, .top, .top, .top, .top, .top, .top, .top, .top, .top, .top, .top, .top, .top, .top, .top, .top, .top, .top, .top, .top, .top, .top, .top, .top, .top, .int .i64 v168, .int .i64 s, .top, .top, .top, .top, .top, .top, .top, .top, .top, .top, .top, .top, .top, .top, .top, .top, .top, .top, .top, .top, .top, .top, .top, .top, .top, .top, .top, .top, .top, .top, .top], [.gen [.int .i64 v168, .bslc (BR.root 0) (.i64 v169), .bslc (BR.root 1) (.i64 v170), .bslc (BR.root 2) (.f32 v171)] false 0])
def impl_ValidSparse_l0_X (v168 : Int) (v169 : List Int) (v170 : List Int) (v171 : List Nat) (x : (Unit) ⊕ (Unit)) : Out := (match x with | .inl x => (.ret, [.top, .top, .lit false, .top, .top, .top, .top, .top, .top, .top, .top, .top, .top, .top, .top, .top, .top, .top, .top, .top, .top, .top, .top, .top, .top, .top, .top, .top, .top, .top, .top, .top, .top, .top, .top, .top, .top, .top, .top, .top, .top, .top, .top, .top, .top, .top, .top, .top, .top, .top, .top, .top, .top, .top, .top, .top, .top, .top, .top, .top, .top, .top, .top, .top, .top, .top, .top, .top, .top, .top, .top, .top, .top, .top, .top, .top, .top, .top, .top, .top, .top, .top, .top, .top, .top, .top, .top, .top, .top, .top, .top, .top, .top, .top, .top, .top, .top, .top, .top, .top, .top, .top, .top, .top, .top], []) | .inr x => (.normal, [.top, .top, .top, .top, .top, .top, .top, .top, .top, .top, .top, .top, .top, .top, .top, .top, .top, .top, .top, .top, .top, .top, .top, .top, .top, .top, .top, .top, .top, .top, .top, .top, .top, .top, .top, .top, .top, .top, .top, .top, .top, .top, .top, .top, .top, .top, .top, .top, .top, .top, .top, .top, .top, .top, .top, .top, .top, .top, .top, .top, .top, .top, .top, .top, .top, .top, .top, .top, .top, .top, .top, .top, .top, .top, .top, .top, .top, .top, .top, .top, .top, .top, .top, .top, .top, .top, .top, .top, .top, .top, .top, .top, .top, .top, .top, .top, .top, .top, .top, .top, .top, .top, .top, .top, .top], []))
def impl_ValidSparse_l0_kill : List Nat := [1, 0, 1, 1, 1, 1, 1, 1, 1, 1, 1, 1, 1, 1, 1, 1, 1, 1, 1, 1, 1, 1, 1, 1, 1, 1, 1, 1, 1, 1, 1, 1, 1, 1, 1, 1, 1, 1, 1, 1, 1, 1, 1, 1, 1, 1, 1, 1, 1, 1, 1, 1, 1, 1, 1, 1, 1, 1, 1, 1, 1, 1, 1, 1, 1, 1, 1, 1, 1, 1, 1, 1, 0, 0, 1, 1, 1, 1, 1, 1, 1, 1, 1, 1, 1, 1, 1, 1, 1, 1, 1, 1, 1, 1, 1, 1, 1, 1, 1, 1, 1, 1, 1, 1, 1]
def impl_ValidSparse_l0_nx : Exit → List Nat
  | .exit 0 => [1, 1, 1, 1, 1, 1, 1, 1, 1, 1, 1, 1, 1, 1, 1, 1, 1, 1, 1, 1, 1, 1, 1, 1, 1, 1, 1, 1, 1, 1, 1, 1, 1, 1, 1, 1, 1, 1, 1, 1, 1, 1, 1, 1, 1, 1, 1, 1, 1, 1, 1, 1, 1, 1, 1, 1, 1, 1, 1, 1, 1, 1, 1, 1, 1, 1, 1, 1, 1, 1, 1, 1, 1, 1, 1, 1, 1, 1, 1, 1, 1, 1, 1, 1, 1, 1, 1, 1, 1, 1, 1, 1, 1, 1, 1, 1, 1, 1, 1, 1, 1, 1, 1, 1, 1]
  | .ret => [1, 1, 0, 1, 1, 1, 1, 1, 1, 1, 1, 1, 1, 1, 1, 1, 1, 1, 1, 1, 1, 1, 1, 1, 1, 1, 1, 1, 1, 1, 1, 1, 1, 1, 1, 1, 1, 1, 1, 1, 1, 1, 1, 1, 1, 1, 1, 1, 1, 1, 1, 1, 1, 1, 1, 1, 1, 1, 1, 1, 1, 1, 1, 1, 1, 1, 1, 1, 1, 1, 1, 1, 1, 1, 1, 1, 1, 1, 1, 1, 1, 1, 1, 1, 1, 1, 1, 1, 1, 1, 1, 1, 1, 1, 1, 1, 1, 1, 1, 1, 1, 1, 1, 1, 1]
  | _ => []
noncomputable def impl_ValidSparse_LO (v168 : Int) (v169 : List Int) (v170 : List Int) (v171 : List Nat) : LOr := fun id e L =>
  match id with
  | 2 => .need (normA 0 impl_ValidSparse_l2_kill e L = some (impl_ValidSparse_l2_E v168 v169 v170 v171 (gI (vAt e 4)) (gI (vAt e 5)))) (.call (impl_ValidSparse_l2_g v169 v170 (gI (vAt e 4)) (gI (vAt e 5))) fun x => .sum x (fun b0 => .leaf (impl_ValidSparse_l2_X v168 v169 v170 v171 (gI (vAt e 4)) (.inl b0))) (fun c0 => .leaf (impl_ValidSparse_l2_X v168 v169 v170 v171 (gI (vAt e 4)) (.inr c0))))
  | 0 => .need (normA 0 impl_ValidSparse_l0_kill e L = some (impl_ValidSparse_l0_E v168 v169 v170 v171 (gI (vAt e 73)))) (.call (impl_ValidSparse_l0_g v168 v169 v170 v171 (gI (vAt e 73))) fun x => .sum x (fun b0 => .leaf (impl_ValidSparse_l0_X v168 v169 v170 v171 (.inl b0))) (fun c0 => .leaf (impl_ValidSparse_l0_X v168 v169 v170 v171 (.inr c0))))
  | _ => .fail
noncomputable def impl_ValidSparse_tab : List (FuncId × DFn × Bool) := [(109, impl_lengthI_F, true), (72, impl_inRange_F, true), (162, slices_IsSortedI_F, true), (163, impl_allIn_F, true), (135, impl_areFinite_F, true)]
theorem impl_ValidSparse_hO : OrcOk Try.prog (tabD impl_ValidSparse_tab) (tabM impl_ValidSparse_tab) := tabD_cons impl_lengthI_Fok (tabD_cons impl_inRange_Fok (tabD_cons slices_IsSortedI_Fok (tabD_cons impl_allIn_Fok (tabD_cons impl_areFinite_Fok (tabD_nil _)))))
theorem impl_ValidSparse_l2_be (v168 : Int) (v169 : List Int) (v170 : List Int) (v171 : List Nat) (v251 : Int) (s : Int) : bodyT TT (tabD impl_ValidSparse_tab) (tabM impl_ValidSparse_tab) (impl_ValidSparse_LO v168 v169 v170 v171) 0 impl_ValidSparse_l2_kill impl_ValidSparse_l2_nx (bodyOf Try.f132 2) 2 (impl_ValidSparse_l2_E v168 v169 v170 v171 v251 s) = (impl_ValidSparse_l2_T v169 v170 v251 s).bind fun y => .leaf (outS (impl_ValidSparse_l2_E v168 v169 v170 v171 v251) (impl_ValidSparse_l2_X v168 v169 v170 v171 v251) y) := by kernel_rfl
theorem impl_ValidSparse_l2_ok (v168 : Int) (v169 : List Int) (v170 : List Int) (v171 : List Nat) : LSound Try.prog 0 (impl_ValidSparse_LO v168 v169 v170 v171) 2 (bodyOf Try.f132 2) := by
  intro e L out h
  exact lo_ok (E := impl_ValidSparse_l2_E v168 v169 v170 v171 (gI (vAt e 4))) (gT := impl_ValidSparse_l2_T v169 v170 (gI (vAt e 4))) (X := impl_ValidSparse_l2_X v168 v169 v170 v171 (gI (vAt e 4))) (s0 := (gI (vAt e 5))) tok impl_ValidSparse_hO mixed (LoopsOk_eq (l := []) (by kernel_rfl) trivial) (impl_ValidSparse_l2_be v168 v169 v170 v171 (gI (vAt e 4))) rfl (by intro x; (cases x with | inl b => rfl | inr x => exact rfl)) h
theorem impl_ValidSparse_l0_be (v168 : Int) (v169 : List Int) (v170 : List Int) (v171 : List Nat) (s : Int) : bodyT TT (tabD impl_ValidSparse_tab) (tabM impl_ValidSparse_tab) (impl_ValidSparse_LO v168 v169 v170 v171) 0 impl_ValidSparse_l0_kill impl_ValidSparse_l0_nx (bodyOf Try.f132 0) 0 (impl_ValidSparse_l0_E v168 v169 v170 v171 s) = (impl_ValidSparse_l0_T v168 v169 v170 v171 s).bind fun y => .leaf (outS (impl_ValidSparse_l0_E v168 v169 v170 v171) (impl_ValidSparse_l0_X v168 v169 v170 v171) y) := by kernel_rfl
theorem impl_ValidSparse_l0_ok (v168 : Int) (v169 : List Int) (v170 : List Int) (v171 : List Nat) : LSound Try.prog 0 (impl_ValidSparse_LO v168 v169 v170 v171) 0 (bodyOf Try.f132 0) := by
  intro e L out h
  exact lo_ok (E := impl_ValidSparse_l0_E v168 v169 v170 v171) (gT := impl_ValidSparse_l0_T v168 v169 v170 v171) (X := impl_ValidSparse_l0_X v168 v169 v170 v171) (s0 := (gI (vAt e 73))) tok impl_ValidSparse_hO mixed (LoopsOk_eq (l := [(2, bodyOf Try.f132 2)]) (by kernel_rfl) ⟨impl_ValidSparse_l2_ok v168 v169 v170 v171, trivial⟩) (impl_ValidSparse_l0_be v168 v169 v170 v171) rfl (by intro x; (cases x with | inl b => rfl | inr x => exact rfl)) h
noncomputable def impl_ValidSparse_T (v168 : Int) (v169 : List Int) (v170 : List Int) (v171 : List Nat) : Tree (Bool) :=
  (.br (!(impl_inRange_v v168 (1 : Int) (32 : Int))) (
   .leaf false
  ) (
   (.br (!decide ((impl_lengthI_v v169) = IntKind.i64.wrap (v168 + (1 : Int)))) (
    .leaf false
   ) (
    (.br (decide ((512 : Int) < (impl_lengthI_v v170))) (
     .leaf false
    ) (
     (.br (!decide (((v171.length : Nat) : Int) = ((v170.length : Nat) : Int))) (
      .leaf false
     ) (
      (.grd (inb (0 : Int) v169.length) <|
      (.br (!decide (nth v169 (Int.toNat (0 : Int)) = (0 : Int))) (
       .leaf false
      ) (
       (.grd (inb v168 v169.length) <|
       (.br (!decide (nth v169 (Int.toNat v168) = (impl_lengthI_v v170))) (
        .leaf false
       ) (
        (.call (slices_IsSortedI_g v169) fun v186 =>
        (.br (!v186) (
         .leaf false
        ) (
         (.call (impl_allIn_g v170 (0 : Int) (IntKind.i64.wrap (v168 - (1 : Int)))) fun v207 =>
         (.br (!v207) (
          .leaf false
         ) (
          (.call (impl_areFinite_g v171) fun v225 =>
          (.br (!v225) (
           .leaf false
          ) (
           (.need (some (impl_ValidSparse_l0_E v168 v169 v170 v171 (0 : Int)) = some (impl_ValidSparse_l0_E v168 v169 v170 v171 (0 : Int))) <|
           (.call (impl_ValidSparse_l0_g v168 v169 v170 v171 (0 : Int)) fun v256 =>
           (.sum v256 (fun v257 =>
            .leaf false
           ) (fun v258 =>
            .leaf true
           ))))
          )))
         )))
        )))
       )))
      )))
     ))
    ))
   ))
  ))

noncomputable def impl_ValidSparse_g (v168 : Int) (v169 : List Int) (v170 : List Int) (v171 : List Nat) : Option (Bool) := (impl_ValidSparse_T v168 v169 v170 v171).run
def impl_ValidSparse_enc (v168 : Int) (v169 : List Int) (v170 : List Int) (v171 : List Nat) (y : Bool) : Rs := (.bool y, [])
theorem impl_ValidSparse_den (v168 : Int) (v169 : List Int) (v170 : List Int) (v171 : List Nat) : (den TT (tabD impl_ValidSparse_tab) (tabM impl_ValidSparse_tab) (impl_ValidSparse_LO v168 v169 v170 v171) (codeOf Try.f132) ([.agg [.int .i64 v168, .bslc (BR.root 0) (.i64 v169), .bslc (BR.root 1) (.i64 v170), .bslc (BR.root 2) (.f32 v171)]] ++ List.replicate (Try.f132.ntmps - ([.agg [.int .i64 v168, .bslc (BR.root 0) (.i64 v169), .bslc (BR.root 1) (.i64 v170), .bslc (BR.root 2) (.f32 v171)]] : List DV).length) .undef) []).bind (retD TT Try.f132.results.toList 0) = (impl_ValidSparse_T v168 v169 v170 v171).bind fun y => .leaf (impl_ValidSparse_enc v168 v169 v170 v171 y) := by kernel_rfl
theorem impl_ValidSparse_fn (v168 : Int) (v169 : List Int) (v170 : List Int) (v171 : List Nat) (F : Fr) (hm : F.ids.length = 0) (h0 : St F [] F.H0) (hA : DVs.Ok F [] [.agg [.int .i64 v168, .bslc (BR.root 0) (.i64 v169), .bslc (BR.root 1) (.i64 v170), .bslc (BR.root 2) (.f32 v171)]]) {y : Bool} (hy : impl_ValidSparse_g v168 v169 v170 v171 = some y) : ∃ H', FnOk Try.prog 132 (DVs.av F [.agg [.int .i64 v168, .bslc (BR.root 0) (.i64 v169), .bslc (BR.root 1) (.i64 v170), .bslc (BR.root 2) (.f32 v171)]]) F.H0 ((impl_ValidSparse_enc v168 v169 v170 v171 y).1.av F) H' ∧ St F (impl_ValidSparse_enc v168 v169 v170 v171 y).2 H' ∧ (impl_ValidSparse_enc v168 v169 v170 v171 y).1.Ok F (impl_ValidSparse_enc v168 v169 v170 v171 y).2 :=
  fn_fin tok impl_ValidSparse_hO mixed Try.func132 Try.call132 (by kernel_rfl) (LoopsOk_eq (l := [(0, bodyOf Try.f132 0)]) (by kernel_rfl) ⟨impl_ValidSparse_l0_ok v168 v169 v170 v171, trivial⟩) (impl_ValidSparse_den v168 v169 v170 v171) hy hm h0 hA
noncomputable def impl_ValidSparse_F : DFn := fun args L =>
  match args with
  | [.agg [.int .i64 v168, a1, a2, a3]] =>
    optT (rowI64 L a1) fun v169 =>
    optT (rowI64 L a2) fun v170 =>
    optT (rowF32 L a3) fun v171 =>
    .call (impl_ValidSparse_g v168 v169 v170 v171) fun y => .leaf (.bool y, L)
  | _ => .fail
theorem impl_ValidSparse_Fok : COk Try.prog 132 impl_ValidSparse_F true := by
  intro F L H args r L' hs ha hr
  unfold impl_ValidSparse_F at hr
  split at hr
  · rename_i v168 a1 a2 a3
    obtain ⟨v169, hv169, hr⟩ := optT_run hr
    obtain ⟨v170, hv170, hr⟩ := optT_run hr
    obtain ⟨v171, hv171, hr⟩ := optT_run hr
    simp only [Tree.run] at hr
    obtain ⟨y, hy, hr⟩ := Option.bind_eq_some_iff.1 hr
    simp only [Tree.run, Option.some.injEq, Prod.mk.injEq] at hr
    obtain ⟨rfl, rfl⟩ := hr
    exact call_ok0 hs (fun k => (([a1.av F, a2.av F, a3.av F] : List AV)[k]?).getD .top) [.agg [.int .i64 v168, a1, a2, a3]] [.agg [.int .i64 v168, .bslc (BR.root 0) (.i64 v169), .bslc (BR.root 1) (.i64 v170), .bslc (BR.root 2) (.f32 v171)]] (fun F' h0 hi hρ => ⟨by simp [DVs.av, DV.av, BR.av, hρ], impl_ValidSparse_fn v168 v169 v170 v171 F' (by rw [hi]; rfl) (st_nil hi) ⟨⟨trivial, bslc_ok hi (by rw [h0, hρ]; exact rowI64_ok hs (DVs.okAt (DVs.okAt ha 0 rfl) 1 rfl) hv169), bslc_ok hi (by rw [h0, hρ]; exact rowI64_ok hs (DVs.okAt (DVs.okAt ha 0 rfl) 2 rfl) hv170), bslc_ok hi (by rw [h0, hρ]; exact rowF32_ok hs (DVs.okAt (DVs.okAt ha 0 rfl) 3 rfl) hv171), trivial⟩, trivial⟩ hy⟩) rfl
  · cases hr
/-! impl.length[float32] -/
noncomputable def impl_lengthF_LO (v261 : List Nat) : LOr := fun id e L =>
  match id with
  | _ => .fail
noncomputable def impl_lengthF_tab : List (FuncId × DFn × Bool) := []
theorem impl_lengthF_hO : OrcOk Try.prog (tabD impl_lengthF_tab) (tabM impl_lengthF_tab) := tabD_nil _
noncomputable def impl_lengthF_T (v261 : List Nat) : Tree (Int) :=
  .leaf ((v261.length : Nat) : Int)

noncomputable def impl_lengthF_g (v261 : List Nat) : Option (Int) := (impl_lengthF_T v261).run
def impl_lengthF_enc (v261 : List Nat) (y : Int) : Rs := (.int .i64 y, [])
theorem impl_lengthF_den (v261 : List Nat) : (den TT (tabD impl_lengthF_tab) (tabM impl_lengthF_tab) (impl_lengthF_LO v261) (codeOf Try.f134) ([.bslc (BR.root 0) (.f32 v261)] ++ List.replicate (Try.f134.ntmps - ([.bslc (BR.root 0) (.f32 v261)] : List DV).length) .undef) []).bind (retD TT Try.f134.results.toList 0) = (impl_lengthF_T v261).bind fun y => .leaf (impl_lengthF_enc v261 y) := by kernel_rfl
theorem impl_lengthF_fn (v261 : List Nat) (F : Fr) (hm : F.ids.length = 0) (h0 : St F [] F.H0) (hA : DVs.Ok F [] [.bslc (BR.root 0) (.f32 v261)]) {y : Int} (hy : impl_lengthF_g v261 = some y) : ∃ H', FnOk Try.prog 134 (DVs.av F [.bslc (BR.root 0) (.f32 v261)]) F.H0 ((impl_lengthF_enc v261 y).1.av F) H' ∧ St F (impl_lengthF_enc v261 y).2 H' ∧ (impl_lengthF_enc v261 y).1.Ok F (impl_lengthF_enc v261 y).2 :=
  fn_fin tok impl_lengthF_hO mixed Try.func134 Try.call134 (by kernel_rfl) (LoopsOk_eq (l := []) (by kernel_rfl) trivial) (impl_lengthF_den v261) hy hm h0 hA
def impl_lengthF_v (v261 : List Nat) : Int :=
  ((v261.length : Nat) : Int)
theorem impl_lengthF_tot (v261 : List Nat) : impl_lengthF_g v261 = some (impl_lengthF_v v261) := by
  unfold impl_lengthF_g impl_lengthF_T impl_lengthF_v
  simp only [Tree.run]
  repeat' (first | rfl | split)
noncomputable def impl_lengthF_F : DFn := fun args L =>
  match args with
  | [a1] =>
    optT (rowF32 L a1) fun v261 =>
    .leaf (.int .i64 (impl_lengthF_v v261), L)
  | _ => .fail
theorem impl_lengthF_Fok : COk Try.prog 134 impl_lengthF_F true := by
  intro F L H args r L' hs ha hr
  unfold impl_lengthF_F at hr
  split at hr
  · rename_i a1
    obtain ⟨v261, hv261, hr⟩ := optT_run hr
    have hy := impl_lengthF_tot v261
    generalize impl_lengthF_v v261 = y at hy hr
    simp only [Tree.run, Option.some.injEq, Prod.mk.injEq] at hr
    obtain ⟨rfl, rfl⟩ := hr
    exact call_ok0 hs (fun k => (([a1.av F] : List AV)[k]?).getD .top) [a1] [.bslc (BR.root 0) (.f32 v261)] (fun F' h0 hi hρ => ⟨by simp [DVs.av, DV.av, BR.av, hρ], impl_lengthF_fn v261 F' (by rw [hi]; rfl) (st_nil hi) ⟨bslc_ok hi (by rw [h0, hρ]; exact rowF32_ok hs (DVs.okAt ha 0 rfl) hv261), trivial⟩ hy⟩) rfl
  · cases hr
/-! impl.IsVector -/
noncomputable def impl_IsVector_LO (v260 : List Nat) : LOr := fun id e L =>
  match id with
  | _ => .fail
noncomputable def impl_IsVector_tab : List (FuncId × DFn × Bool) := [(134, impl_lengthF_F, true), (72, impl_inRange_F, true), (135, impl_areFinite_F, true)]
theorem impl_IsVector_hO : OrcOk Try.prog (tabD impl_IsVector_tab) (tabM impl_IsVector_tab) := tabD_cons impl_lengthF_Fok (tabD_cons impl_inRange_Fok (tabD_cons impl_areFinite_Fok (tabD_nil _)))
noncomputable def impl_IsVector_T (v260 : List Nat) : Tree (Bool) :=
  (.br (impl_inRange_v (impl_lengthF_v v260) (1 : Int) (256 : Int)) (
   (.call (impl_areFinite_g v260) fun v262 =>
   .leaf v262)
  ) (
   .leaf false
  ))

noncomputable def impl_IsVector_g (v260 : List Nat) : Option (Bool) := (impl_IsVector_T v260).run
def impl_IsVector_enc (v260 : List Nat) (y : Bool) : Rs := (.bool y, [])
theorem impl_IsVector_den (v260 : List Nat) : (den TT (tabD impl_IsVector_tab) (tabM impl_IsVector_tab) (impl_IsVector_LO v260) (codeOf Try.f133) ([.bslc (BR.root 0) (.f32 v260)] ++ List.replicate (Try.f133.ntmps - ([.bslc (BR.root 0) (.f32 v260)] : List DV).length) .undef) []).bind (retD TT Try.f133.results.toList 0) = (impl_IsVector_T v260).bind fun y => .leaf (impl_IsVector_enc v260 y) := by kernel_rfl
theorem impl_IsVector_fn (v260 : List Nat) (F : Fr) (hm : F.ids.length = 0) (h0 : St F [] F.H0) (hA : DVs.Ok F [] [.bslc (BR.root 0) (.f32 v260)]) {y : Bool} (hy : impl_IsVector_g v260 = some y) : ∃ H', FnOk Try.prog 133 (DVs.av F [.bslc (BR.root 0) (.f32 v260)]) F.H0 ((impl_IsVector_enc v260 y).1.av F) H' ∧ St F (impl_IsVector_enc v260 y).2 H' ∧ (impl_IsVector_enc v260 y).1.Ok F (impl_IsVector_enc v260 y).2 :=
  fn_fin tok impl_IsVector_hO mixed Try.func133 Try.call133 (by kernel_rfl) (LoopsOk_eq (l := []) (by kernel_rfl) trivial) (impl_IsVector_den v260) hy hm h0 hA
noncomputable def impl_IsVector_F : DFn := fun args L =>
  match args with
  | [a1] =>
    optT (rowF32 L a1) fun v260 =>
    .call (impl_IsVector_g v260) fun y => .leaf (.bool y, L)
  | _ => .fail
theorem impl_IsVector_Fok : COk Try.prog 133 impl_IsVector_F true := by
  intro F L H args r L' hs ha hr
  unfold impl_IsVector_F at hr
  split at hr
  · rename_i a1
    obtain ⟨v260, hv260, hr⟩ := optT_run hr
    simp only [Tree.run] at hr
    obtain ⟨y, hy, hr⟩ := Option.bind_eq_some_iff.1 hr
    simp only [Tree.run, Option.some.injEq, Prod.mk.injEq] at hr
    obtain ⟨rfl, rfl⟩ := hr
    exact call_ok0 hs (fun k => (([a1.av F] : List AV)[k]?).getD .top) [a1] [.bslc (BR.root 0) (.f32 v260)] (fun F' h0 hi hρ => ⟨by simp [DVs.av, DV.av, BR.av, hρ], impl_IsVector_fn v260 F' (by rw [hi]; rfl) (st_nil hi) ⟨bslc_ok hi (by rw [h0, hρ]; exact rowF32_ok hs (DVs.okAt ha 0 rfl) hv260), trivial⟩ hy⟩) rfl
  · cases hr
/-! (impl.Sparse).takes -/
noncomputable def impl_Sparse_takes_LO (v163 : Int) (v164 : List Int) (v165 : List Int) (v166 : List Nat) (v167 : List Nat) : LOr := fun id e L =>
  match id with
  | _ => .fail
noncomputable def impl_Sparse_takes_tab : List (FuncId × DFn × Bool) := [(132, impl_ValidSparse_F, true), (133, impl_IsVector_F, true), (134, impl_lengthF_F, true)]
theorem impl_Sparse_takes_hO : OrcOk Try.prog (tabD impl_Sparse_takes_tab) (tabM impl_Sparse_takes_tab) := tabD_cons impl_ValidSparse_Fok (tabD_cons impl_IsVector_Fok (tabD_cons impl_lengthF_Fok (tabD_nil _)))
noncomputable def impl_Sparse_takes_T (v163 : Int) (v164 : List Int) (v165 : List Int) (v166 : List Nat) (v167 : List Nat) : Tree (Bool) :=
  (.call (impl_ValidSparse_g v163 v164 v165 v166) fun v259 =>
  (.br v259 (
   (.call (impl_IsVector_g v167) fun v263 =>
   (.br v263 (
    .leaf (decide ((impl_lengthF_v v167) = v163))
   ) (
    .leaf false
   )))
  ) (
   .leaf false
  )))

noncomputable def impl_Sparse_takes_g (v163 : Int) (v164 : List Int) (v165 : List Int) (v166 : List Nat) (v167 : List Nat) : Option (Bool) := (impl_Sparse_takes_T v163 v164 v165 v166 v167).run
def impl_Sparse_takes_enc (v163 : Int) (v164 : List Int) (v165 : List Int) (v166 : List Nat) (v167 : List Nat) (y : Bool) : Rs := (.bool y, [])
theorem impl_Sparse_takes_den (v163 : Int) (v164 : List Int) (v165 : List Int) (v166 : List Nat) (v167 : List Nat) : (den TT (tabD impl_Sparse_takes_tab) (tabM impl_Sparse_takes_tab) (impl_Sparse_takes_LO v163 v164 v165 v166 v167) (codeOf Try.f68) ([.agg [.int .i64 v163, .bslc (BR.root 0) (.i64 v164), .bslc (BR.root 1) (.i64 v165), .bslc (BR.root 2) (.f32 v166)], .bslc (BR.root 3) (.f32 v167)] ++ List.replicate (Try.f68.ntmps - ([.agg [.int .i64 v163, .bslc (BR.root 0) (.i64 v164), .bslc (BR.root 1) (.i64 v165), .bslc (BR.root 2) (.f32 v166)], .bslc (BR.root 3) (.f32 v167)] : List DV).length) .undef) []).bind (retD TT Try.f68.results.toList 0) = (impl_Sparse_takes_T v163 v164 v165 v166 v167).bind fun y => .leaf (impl_Sparse_takes_enc v163 v164 v165 v166 v167 y) := by kernel_rfl
theorem impl_Sparse_takes_fn (v163 : Int) (v164 : List Int) (v165 : List Int) (v166 : List Nat) (v167 : List Nat) (F : Fr) (hm : F.ids.length = 0) (h0 : St F [] F.H0) (hA : DVs.Ok F [] [.agg [.int .i64 v163, .bslc (BR.root 0) (.i64 v164), .bslc (BR.root 1) (.i64 v165), .bslc (BR.root 2) (.f32 v166)], .bslc (BR.root 3) (.f32 v167)]) {y : Bool} (hy : impl_Sparse_takes_g v163 v164 v165 v166 v167 = some y) : ∃ H', FnOk Try.prog 68 (DVs.av F [.agg [.int .i64 v163, .bslc (BR.root 0) (.i64 v164), .bslc (BR.root 1) (.i64 v165), .bslc (BR.root 2) (.f32 v166)], .bslc (BR.root 3) (.f32 v167)]) F.H0 ((impl_Sparse_takes_enc v163 v164 v165 v166 v167 y).1.av F) H' ∧ St F (impl_Sparse_takes_enc v163 v164 v165 v166 v167 y).2 H' ∧ (impl_Sparse_takes_enc v163 v164 v165 v166 v167 y).1.Ok F (impl_Sparse_takes_enc v163 v164 v165 v166 v167 y).2 :=
  fn_fin tok impl_Sparse_takes_hO mixed Try.func68 Try.call68 (by kernel_rfl) (LoopsOk_eq (l := []) (by kernel_rfl) trivial) (impl_Sparse_takes_den v163 v164 v165 v166 v167) hy hm h0 hA
noncomputable def impl_Sparse_takes_F : DFn := fun args L =>
  match args with
  | [.agg [.int .i64 v163, a1, a2, a3], a4] =>
    optT (rowI64 L a1) fun v164 =>
    optT (rowI64 L a2) fun v165 =>
    optT (rowF32 L a3) fun v166 =>
    optT (rowF32 L a4) fun v167 =>
    .call (impl_Sparse_takes_g v163 v164 v165 v166 v167) fun y => .leaf (.bool y, L)
  | _ => .fail
theorem impl_Sparse_takes_Fok : COk Try.prog 68 impl_Sparse_takes_F true := by
  intro F L H args r L' hs ha hr
  unfold impl_Sparse_takes_F at hr
  split at hr
  · rename_i v163 a1 a2 a3 a4
    obtain ⟨v164, hv164, hr⟩ := optT_run hr
    obtain ⟨v165, hv165, hr⟩ := optT_run hr
    obtain ⟨v166, hv166, hr⟩ := optT_run hr
    obtain ⟨v167, hv167, hr⟩ := optT_run hr
    simp only [Tree.run] at hr
    obtain ⟨y, hy, hr⟩ := Option.bind_eq_some_iff.1 hr
    simp only [Tree.run, Option.some.injEq, Prod.mk.injEq] at hr
    obtain ⟨rfl, rfl⟩ := hr
    exact call_ok0 hs (fun k => (([a1.av F, a2.av F, a3.av F, a4.av F] : List AV)[k]?).getD .top) [.agg [.int .i64 v163, a1, a2, a3], a4] [.agg [.int .i64 v163, .bslc (BR.root 0) (.i64 v164), .bslc (BR.root 1) (.i64 v165), .bslc (BR.root 2) (.f32 v166)], .bslc (BR.root 3) (.f32 v167)] (fun F' h0 hi hρ => ⟨by simp [DVs.av, DV.av, BR.av, hρ], impl_Sparse_takes_fn v163 v164 v165 v166 v167 F' (by rw [hi]; rfl) (st_nil hi) ⟨⟨trivial, bslc_ok hi (by rw [h0, hρ]; exact rowI64_ok hs (DVs.okAt (DVs.okAt ha 0 rfl) 1 rfl) hv164), bslc_ok hi (by rw [h0, hρ]; exact rowI64_ok hs (DVs.okAt (DVs.okAt ha 0 rfl) 2 rfl) hv165), bslc_ok hi (by rw [h0, hρ]; exact rowF32_ok hs (DVs.okAt (DVs.okAt ha 0 rfl) 3 rfl) hv166), trivial⟩, bslc_ok hi (by rw [h0, hρ]; exact rowF32_ok hs (DVs.okAt ha 1 rfl) hv167), trivial⟩ hy⟩) rfl
  · cases hr
/-! impl.mul -/
noncomputable def impl_mul_LO (v283 : Nat) (v284 : Nat) : LOr := fun id e L =>
  match id with
  | _ => .fail
noncomputable def impl_mul_tab : List (FuncId × DFn × Bool) := []
theorem impl_mul_hO : OrcOk Try.prog (tabD impl_mul_tab) (tabM impl_mul_tab) := tabD_nil _
noncomputable def impl_mul_T (v283 : Nat) (v284 : Nat) : Tree (Nat) :=
  .leaf (fmul .f32 v283 v284)

noncomputable def impl_mul_g (v283 : Nat) (v284 : Nat) : Option (Nat) := (impl_mul_T v283 v284).run
def impl_mul_enc (v283 : Nat) (v284 : Nat) (y : Nat) : Rs := (.flt .f32 y, [])
theorem impl_mul_den (v283 : Nat) (v284 : Nat) : (den TT (tabD impl_mul_tab) (tabM impl_mul_tab) (impl_mul_LO v283 v284) (codeOf Try.f80) ([.flt .f32 v283, .flt .f32 v284] ++ List.replicate (Try.f80.ntmps - ([.flt .f32 v283, .flt .f32 v284] : List DV).length) .undef) []).bind (retD TT Try.f80.results.toList 0) = (impl_mul_T v283 v284).bind fun y => .leaf (impl_mul_enc v283 v284 y) := by kernel_rfl
theorem impl_mul_fn (v283 : Nat) (v284 : Nat) (F : Fr) (hm : F.ids.length = 0) (h0 : St F [] F.H0) (hA : DVs.Ok F [] [.flt .f32 v283, .flt .f32 v284]) {y : Nat} (hy : impl_mul_g v283 v284 = some y) : ∃ H', FnOk Try.prog 80 (DVs.av F [.flt .f32 v283, .flt .f32 v284]) F.H0 ((impl_mul_enc v283 v284 y).1.av F) H' ∧ St F (impl_mul_enc v283 v284 y).2 H' ∧ (impl_mul_enc v283 v284 y).1.Ok F (impl_mul_enc v283 v284 y).2 :=
  fn_fin tok impl_mul_hO mixed Try.func80 Try.call80 (by kernel_rfl) (LoopsOk_eq (l := []) (by kernel_rfl) trivial) (impl_mul_den v283 v284) hy hm h0 hA
def impl_mul_v (v283 : Nat) (v284 : Nat) : Nat :=
  fmul .f32 v283 v284
theorem impl_mul_tot (v283 : Nat) (v284 : Nat) : impl_mul_g v283 v284 = some (impl_mul_v v283 v284) := by
  unfold impl_mul_g impl_mul_T impl_mul_v
  simp only [Tree.run]
  repeat' (first | rfl | split)
noncomputable def impl_mul_F : DFn := fun args L =>
  match args with
  | [.flt .f32 v283, .flt .f32 v284] =>
    .leaf (.flt .f32 (impl_mul_v v283 v284), L)
  | _ => .fail
theorem impl_mul_Fok : COk Try.prog 80 impl_mul_F true := by
  intro F L H args r L' hs ha hr
  unfold impl_mul_F at hr
  split at hr
  · rename_i v283 v284
    have hy := impl_mul_tot v283 v284
    generalize impl_mul_v v283 v284 = y at hy hr
    simp only [Tree.run, Option.some.injEq, Prod.mk.injEq] at hr
    obtain ⟨rfl, rfl⟩ := hr
    exact call_ok0 hs (fun k => (([] : List AV)[k]?).getD .top) [.flt .f32 v283, .flt .f32 v284] [.flt .f32 v283, .flt .f32 v284] (fun F' h0 hi hρ => ⟨by simp [DVs.av, DV.av, BR.av, hρ], impl_mul_fn v283 v284 F' (by rw [hi]; rfl) (st_nil hi) ⟨trivial, trivial, trivial⟩ hy⟩) rfl
  · cases hr
/-! (impl.Sparse).times$1 -/
noncomputable def impl_Sparse_times_1_LO (v285 : Int) (v286 : Nat) (v287 : Nat) (v288 : List Nat) : LOr := fun id e L =>
  match id with
  | _ => .fail
noncomputable def impl_Sparse_times_1_tab : List (FuncId × DFn × Bool) := [(80, impl_mul_F, true)]
theorem impl_Sparse_times_1_hO : OrcOk Try.prog (tabD impl_Sparse_times_1_tab) (tabM impl_Sparse_times_1_tab) := tabD_cons impl_mul_Fok (tabD_nil _)
noncomputable def impl_Sparse_times_1_T (v285 : Int) (v286 : Nat) (v287 : Nat) (v288 : List Nat) : Tree (Nat) :=
  (.grd (inb v285 v288.length) <|
  .leaf (fadd .f32 v287 (impl_mul_v v286 (nth v288 (Int.toNat v285)))))

noncomputable def impl_Sparse_times_1_g (v285 : Int) (v286 : Nat) (v287 : Nat) (v288 : List Nat) : Option (Nat) := (impl_Sparse_times_1_T v285 v286 v287 v288).run
def impl_Sparse_times_1_enc (v285 : Int) (v286 : Nat) (v287 : Nat) (v288 : List Nat) (y : Nat) : Rs := (.tup [], [.gen [.flt .f32 y] false 0])
theorem impl_Sparse_times_1_den (v285 : Int) (v286 : Nat) (v287 : Nat) (v288 : List Nat) : (den TT (tabD impl_Sparse_times_1_tab) (tabM impl_Sparse_times_1_tab) (impl_Sparse_times_1_LO v285 v286 v287 v288) (codeOf Try.f136) ([.int .i64 v285, .flt .f32 v286, .ptr 0 (0 : Nat) 0 (1 : Nat), .bptr (BR.root 1) [.bslc (BR.root 2) (.f32 v288)]] ++ List.replicate (Try.f136.ntmps - ([.int .i64 v285, .flt .f32 v286, .ptr 0 (0 : Nat) 0 (1 : Nat), .bptr (BR.root 1) [.bslc (BR.root 2) (.f32 v288)]] : List DV).length) .undef) [.gen [.flt .f32 v287] false 0]).bind (retD TT Try.f136.results.toList 1) = (impl_Sparse_times_1_T v285 v286 v287 v288).bind fun y => .leaf (impl_Sparse_times_1_enc v285 v286 v287 v288 y) := by kernel_rfl
theorem impl_Sparse_times_1_fn (v285 : Int) (v286 : Nat) (v287 : Nat) (v288 : List Nat) (F : Fr) (hm : F.ids.length = 1) (h0 : St F [.gen [.flt .f32 v287] false 0] F.H0) (hA : DVs.Ok F [.gen [.flt .f32 v287] false 0] [.int .i64 v285, .flt .f32 v286, .ptr 0 (0 : Nat) 0 (1 : Nat), .bptr (BR.root 1) [.bslc (BR.root 2) (.f32 v288)]]) {y : Nat} (hy : impl_Sparse_times_1_g v285 v286 v287 v288 = some y) : ∃ H', FnOk Try.prog 136 (DVs.av F [.int .i64 v285, .flt .f32 v286, .ptr 0 (0 : Nat) 0 (1 : Nat), .bptr (BR.root 1) [.bslc (BR.root 2) (.f32 v288)]]) F.H0 ((impl_Sparse_times_1_enc v285 v286 v287 v288 y).1.av F) H' ∧ St F (impl_Sparse_times_1_enc v285 v286 v287 v288 y).2 H' ∧ (impl_Sparse_times_1_enc v285 v286 v287 v288 y).1.Ok F (impl_Sparse_times_1_enc v285 v286 v287 v288 y).2 :=
  fn_fin tok impl_Sparse_times_1_hO mixed Try.func136 Try.call136 (by kernel_rfl) (LoopsOk_eq (l := []) (by kernel_rfl) trivial) (impl_Sparse_times_1_den v285 v286 v287 v288) hy hm h0 hA
noncomputable def impl_Sparse_times_1_F : DFn := fun args L =>
  match args with
  | [.int .i64 v285, .flt .f32 v286, a1, a2] =>
    optT (genOf L 1 false a1) fun qg0 =>
    (match qg0.2 with
    | [.flt .f32 v287] =>
    optT (cellsOf L 1 a2) fun cs1 =>
    (match cs1 with
    | [a3] =>
    optT (rowF32 L a3) fun v288 =>
    (match sepB [qg0.1] [DV.tip a2, a3] with
    | true =>
    .call (impl_Sparse_times_1_g v285 v286 v287 v288) fun y => .leaf (.tup [], setB L [(qg0.1, .gen [.flt .f32 y] false (verAt L qg0.1))] ++ [])
    | false => .fail)
    | _ => .fail)
    | _ => .fail)
  | _ => .fail
theorem impl_Sparse_times_1_Fok : COk Try.prog 136 impl_Sparse_times_1_F false := by
  intro F L H args r L' hs ha hr
  unfold impl_Sparse_times_1_F at hr
  split at hr
  · rename_i v285 v286 a1 a2
    obtain ⟨⟨jg0, cg0⟩, hg0, hr⟩ := optT_run hr
    simp only at hr
    split at hr
    · rename_i v287
      obtain ⟨hge0, hgu0, hga0, hgn0, hgc0, hgf0⟩ := genOf_spec hs (DVs.okAt ha 2 rfl) hg0
      obtain ⟨cs1, hcp1, hr⟩ := optT_run hr
      split at hr
      · rename_i a3
        obtain ⟨v288, hv288, hr⟩ := optT_run hr
        split at hr
        · rename_i hsep
          obtain ⟨hnd, hsepv⟩ := sepB_spec hsep
          simp only [Tree.run] at hr
          obtain ⟨y, hy, hr⟩ := Option.bind_eq_some_iff.1 hr
          try simp only [Tree.run] at hr
          simp only [Option.some.injEq, Prod.mk.injEq] at hr
          obtain ⟨rfl, rfl⟩ := hr
          exact mutG_ok hs [a1, a2, a3] ⟨(DVs.okAt ha 2 rfl), (DVs.okAt ha 3 rfl), (DVs.okAt (cellsOf_ok hs (DVs.okAt ha 3 rfl) hcp1).2 0 rfl), trivial⟩ [.int .i64 v285, .flt .f32 v286, a1, a2] [.int .i64 v285, .flt .f32 v286, .ptr 0 (0 : Nat) 0 (1 : Nat), .bptr (BR.root 1) [.bslc (BR.root 2) (.f32 v288)]] [jg0] [verAt L jg0] [.gen [.flt .f32 v287] false 0] [.gen [.flt .f32 y] false 0] [.gen [.flt .f32 y] false (verAt L jg0)] [] hnd rfl rfl (fun j hj => by
              simp at hj
              subst hj; exact ex_lt hge0) (fun j hj => by
              simp at hj
              subst hj; exact reach_refs (by simp [DVs.refs, DV.refs, hgu0])) (fun F' h0 hi hρ ab hS => by
              have ab0 := ab 0 _ rfl;
              refine ⟨fun i j b' h1 h2 => ?_, by simp [DBlk.blk, DVs.av, DV.av, BR.av, hρ, Row.len, hga0, ab0], fun hst => impl_Sparse_times_1_fn v285 v286 v287 v288 F' (by rw [hi]; rfl) hst ⟨trivial, trivial, ⟨_, rfl, Nat.le_refl _, by decide, Nat.le_refl _, fun _ => rfl⟩, (bptrM hS (by rw [hρ]; rfl) (hsepv (DV.tip a2) (by simp)) (DVs.okAt ha 3 rfl) hcp1 (by simp [DBlk.blk, DVs.av, DV.av, BR.av, hρ, Row.len, hga0, ab0]) ⟨bslcM hS (by rw [hρ]; rfl) (hsepv a3 (by simp)) (DVs.okAt (cellsOf_ok hs (DVs.okAt ha 3 rfl) hcp1).2 0 rfl) (rowF32_or hv288), trivial⟩), trivial⟩ hy⟩
              rcases i with _ | i
              · simp at h1 h2; subst h1; subst h2; obtain ⟨ver_, hv_⟩ := hge0; exact ⟨_, hv_, by simp [DBlk.blk, DVs.av, DV.av, BR.av, hρ, Row.len, hga0, ab0], ⟨⟨trivial, trivial⟩, fun hf => by cases hf⟩⟩
              · simp at h1) rfl rfl (fun i j b b' h1 h2 h3 => by
              rcases i with _ | i
              · simp at h1; subst h1; cases h3; exact growG hge0 rfl h2
              · simp at h1)
        · cases hr
      · cases hr
    · cases hr
  · cases hr
/-! (impl.Sparse).times$1 -/
noncomputable def impl_Sparse_times_1_i1_LO (v301 : Int) (v302 : Nat) (v303 : Nat) (v304 : List Nat) : LOr := fun id e L =>
  match id with
  | _ => .fail
noncomputable def impl_Sparse_times_1_i1_tab : List (FuncId × DFn × Bool) := [(80, impl_mul_F, true)]
theorem impl_Sparse_times_1_i1_hO : OrcOk Try.prog (tabD impl_Sparse_times_1_i1_tab) (tabM impl_Sparse_times_1_i1_tab) := tabD_cons impl_mul_Fok (tabD_nil _)
noncomputable def impl_Sparse_times_1_i1_T (v301 : Int) (v302 : Nat) (v303 : Nat) (v304 : List Nat) : Tree (Nat) :=
  (.grd (inb v301 v304.length) <|
  .leaf (fadd .f32 v303 (impl_mul_v v302 (nth v304 (Int.toNat v301)))))

noncomputable def impl_Sparse_times_1_i1_g (v301 : Int) (v302 : Nat) (v303 : Nat) (v304 : List Nat) : Option (Nat) := (impl_Sparse_times_1_i1_T v301 v302 v303 v304).run
def impl_Sparse_times_1_i1_enc (v301 : Int) (v302 : Nat) (v303 : Nat) (v304 : List Nat) (y : Nat) : Rs := (.tup [], [.gen [.flt .f32 y] true 0])
theorem impl_Sparse_times_1_i1_den (v301 : Int) (v302 : Nat) (v303 : Nat) (v304 : List Nat) : (den TT (tabD impl_Sparse_times_1_i1_tab) (tabM impl_Sparse_times_1_i1_tab) (impl_Sparse_times_1_i1_LO v301 v302 v303 v304) (codeOf Try.f136) ([.int .i64 v301, .flt .f32 v302, .ptr 0 (0 : Nat) 0 (1 : Nat), .bptr (BR.root 1) [.bslc (BR.root 2) (.f32 v304)]] ++ List.replicate (Try.f136.ntmps - ([.int .i64 v301, .flt .f32 v302, .ptr 0 (0 : Nat) 0 (1 : Nat), .bptr (BR.root 1) [.bslc (BR.root 2) (.f32 v304)]] : List DV).length) .undef) [.gen [.flt .f32 v303] true 0]).bind (retD TT Try.f136.results.toList 1) = (impl_Sparse_times_1_i1_T v301 v302 v303 v304).bind fun y => .leaf (impl_Sparse_times_1_i1_enc v301 v302 v303 v304 y) := by kernel_rfl
theorem impl_Sparse_times_1_i1_fn (v301 : Int) (v302 : Nat) (v303 : Nat) (v304 : List Nat) (F : Fr) (hm : F.ids.length = 1) (h0 : St F [.gen [.flt .f32 v303] true 0] F.H0) (hA : DVs.Ok F [.gen [.flt .f32 v303] true 0] [.int .i64 v301, .flt .f32 v302, .ptr 0 (0 : Nat) 0 (1 : Nat), .bptr (BR.root 1) [.bslc (BR.root 2) (.f32 v304)]]) {y : Nat} (hy : impl_Sparse_times_1_i1_g v301 v302 v303 v304 = some y) : ∃ H', FnOk Try.prog 136 (DVs.av F [.int .i64 v301, .flt .f32 v302, .ptr 0 (0 : Nat) 0 (1 : Nat), .bptr (BR.root 1) [.bslc (BR.root 2) (.f32 v304)]]) F.H0 ((impl_Sparse_times_1_i1_enc v301 v302 v303 v304 y).1.av F) H' ∧ St F (impl_Sparse_times_1_i1_enc v301 v302 v303 v304 y).2 H' ∧ (impl_Sparse_times_1_i1_enc v301 v302 v303 v304 y).1.Ok F (impl_Sparse_times_1_i1_enc v301 v302 v303 v304 y).2 :=
  fn_fin tok impl_Sparse_times_1_i1_hO mixed Try.func136 Try.call136 (by kernel_rfl) (LoopsOk_eq (l := []) (by kernel_rfl) trivial) (impl_Sparse_times_1_i1_den v301 v302 v303 v304) hy hm h0 hA
noncomputable def impl_Sparse_times_1_i1_F : DFn := fun args L =>
  match args with
  | [.int .i64 v301, .flt .f32 v302, a1, a2] =>
    optT (genOf L 1 true a1) fun qg0 =>
    (match qg0.2 with
    | [.flt .f32 v303] =>
    optT (cellsOf L 1 a2) fun cs1 =>
    (match cs1 with
    | [a3] =>
    optT (rowF32 L a3) fun v304 =>
    (match sepB [qg0.1] [DV.tip a2, a3] with
    | true =>
    .call (impl_Sparse_times_1_i1_g v301 v302 v303 v304) fun y => .leaf (.tup [], setB L [(qg0.1, .gen [.flt .f32 y] true (verAt L qg0.1))] ++ [])
    | false => .fail)
    | _ => .fail)
    | _ => .fail)
  | _ => .fail
theorem impl_Sparse_times_1_i1_Fok : COk Try.prog 136 impl_Sparse_times_1_i1_F false := by
  intro F L H args r L' hs ha hr
  unfold impl_Sparse_times_1_i1_F at hr
  split at hr
  · rename_i v301 v302 a1 a2
    obtain ⟨⟨jg0, cg0⟩, hg0, hr⟩ := optT_run hr
    simp only at hr
    split at hr
    · rename_i v303
      obtain ⟨hge0, hgu0, hga0, hgn0, hgc0, hgf0⟩ := genOf_spec hs (DVs.okAt ha 2 rfl) hg0
      obtain ⟨cs1, hcp1, hr⟩ := optT_run hr
      split at hr
      · rename_i a3
        obtain ⟨v304, hv304, hr⟩ := optT_run hr
        split at hr
        · rename_i hsep
          obtain ⟨hnd, hsepv⟩ := sepB_spec hsep
          simp only [Tree.run] at hr
          obtain ⟨y, hy, hr⟩ := Option.bind_eq_some_iff.1 hr
          try simp only [Tree.run] at hr
          simp only [Option.some.injEq, Prod.mk.injEq] at hr
          obtain ⟨rfl, rfl⟩ := hr
          exact mutG_ok hs [a1, a2, a3] ⟨(DVs.okAt ha 2 rfl), (DVs.okAt ha 3 rfl), (DVs.okAt (cellsOf_ok hs (DVs.okAt ha 3 rfl) hcp1).2 0 rfl), trivial⟩ [.int .i64 v301, .flt .f32 v302, a1, a2] [.int .i64 v301, .flt .f32 v302, .ptr 0 (0 : Nat) 0 (1 : Nat), .bptr (BR.root 1) [.bslc (BR.root 2) (.f32 v304)]] [jg0] [verAt L jg0] [.gen [.flt .f32 v303] true 0] [.gen [.flt .f32 y] true 0] [.gen [.flt .f32 y] true (verAt L jg0)] [] hnd rfl rfl (fun j hj => by
              simp at hj
              subst hj; exact ex_lt hge0) (fun j hj => by
              simp at hj
              subst hj; exact reach_refs (by simp [DVs.refs, DV.refs, hgu0])) (fun F' h0 hi hρ ab hS => by
              have ab0 := ab 0 _ rfl;
              refine ⟨fun i j b' h1 h2 => ?_, by simp [DBlk.blk, DVs.av, DV.av, BR.av, hρ, Row.len, hga0, ab0], fun hst => impl_Sparse_times_1_i1_fn v301 v302 v303 v304 F' (by rw [hi]; rfl) hst ⟨trivial, trivial, ⟨_, rfl, Nat.le_refl _, by decide, Nat.le_refl _, fun _ => rfl⟩, (bptrM hS (by rw [hρ]; rfl) (hsepv (DV.tip a2) (by simp)) (DVs.okAt ha 3 rfl) hcp1 (by simp [DBlk.blk, DVs.av, DV.av, BR.av, hρ, Row.len, hga0, ab0]) ⟨bslcM hS (by rw [hρ]; rfl) (hsepv a3 (by simp)) (DVs.okAt (cellsOf_ok hs (DVs.okAt ha 3 rfl) hcp1).2 0 rfl) (rowF32_or hv304), trivial⟩), trivial⟩ hy⟩
              rcases i with _ | i
              · simp at h1 h2; subst h1; subst h2; obtain ⟨ver_, hv_⟩ := hge0; exact ⟨_, hv_, by simp [DBlk.blk, DVs.av, DV.av, BR.av, hρ, Row.len, hga0, ab0], ⟨⟨trivial, trivial⟩, fun _ c hc => by simp at hc; subst hc; rfl⟩⟩
              · simp at h1) rfl rfl (fun i j b b' h1 h2 h3 => by
              rcases i with _ | i
              · simp at h1; subst h1; cases h3; exact growG hge0 rfl h2
              · simp at h1)
        · cases hr
      · cases hr
    · cases hr
  · cases hr
end Go.Proofs.Ytjadfgeemfdbmaa.AM
