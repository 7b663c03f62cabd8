/- Functions: what they come to. -/
import Derived.Test.YtooakheodgndaaaBase
set_option maxRecDepth 100000
set_option maxHeartbeats 4000000
set_option linter.unusedSimpArgs false
set_option linter.unusedVariables false
namespace Go.Proofs.Ytooakheodgndaaa.AM
open Go.Proofs
/-! laws.szFloat32S -/
noncomputable def laws_szFloat32S_LO (v8 : List Nat) (v9 : Int) : LOr := fun id e L =>
  match id with
  | _ => .fail
noncomputable def laws_szFloat32S_tab : List (FuncId × DFn × Bool) := []
theorem laws_szFloat32S_hO : OrcOk Try.prog (tabD laws_szFloat32S_tab) (tabM laws_szFloat32S_tab) := tabD_nil _
noncomputable def laws_szFloat32S_T (v8 : List Nat) (v9 : Int) : Tree (Int) :=
  (.br (decide (IntKind.i64.wrap (v9 - ((v8.length : Nat) : Int)) < (0 : Int))) (
   .leaf (-1 : Int)
  ) (
   .leaf (IntKind.i64.wrap (v9 - ((v8.length : Nat) : Int)))
  ))

noncomputable def laws_szFloat32S_g (v8 : List Nat) (v9 : Int) : Option (Int) := (laws_szFloat32S_T v8 v9).run
def laws_szFloat32S_enc (v8 : List Nat) (v9 : Int) (y : Int) : Rs := (.int .i64 y, [])
theorem laws_szFloat32S_den (v8 : List Nat) (v9 : Int) : (den TT (tabD laws_szFloat32S_tab) (tabM laws_szFloat32S_tab) (laws_szFloat32S_LO v8 v9) (codeOf Try.f56) ([.bslc (BR.root 0) (.f32 v8), .int .i64 v9] ++ List.replicate (Try.f56.ntmps - ([.bslc (BR.root 0) (.f32 v8), .int .i64 v9] : List DV).length) .undef) []).bind (retD TT Try.f56.results.toList 0) = (laws_szFloat32S_T v8 v9).bind fun y => .leaf (laws_szFloat32S_enc v8 v9 y) := by kernel_rfl
theorem laws_szFloat32S_fn (v8 : List Nat) (v9 : Int) (F : Fr) (hm : F.ids.length = 0) (h0 : St F [] F.H0) (hA : DVs.Ok F [] [.bslc (BR.root 0) (.f32 v8), .int .i64 v9]) {y : Int} (hy : laws_szFloat32S_g v8 v9 = some y) : ∃ H', FnOk Try.prog 56 (DVs.av F [.bslc (BR.root 0) (.f32 v8), .int .i64 v9]) F.H0 ((laws_szFloat32S_enc v8 v9 y).1.av F) H' ∧ St F (laws_szFloat32S_enc v8 v9 y).2 H' ∧ (laws_szFloat32S_enc v8 v9 y).1.Ok F (laws_szFloat32S_enc v8 v9 y).2 :=
  fn_fin tok laws_szFloat32S_hO mixed Try.func56 Try.call56 (by kernel_rfl) (LoopsOk_eq (l := []) (by kernel_rfl) trivial) (laws_szFloat32S_den v8 v9) hy hm h0 hA
def laws_szFloat32S_v (v8 : List Nat) (v9 : Int) : Int :=
  if (decide (IntKind.i64.wrap (v9 - ((v8.length : Nat) : Int)) < (0 : Int))) = true then (
   (-1 : Int)
  ) else (
   IntKind.i64.wrap (v9 - ((v8.length : Nat) : Int))
  )
theorem laws_szFloat32S_tot (v8 : List Nat) (v9 : Int) : laws_szFloat32S_g v8 v9 = some (laws_szFloat32S_v v8 v9) := by
  unfold laws_szFloat32S_g laws_szFloat32S_T laws_szFloat32S_v
  simp only [Tree.run]
  repeat' (first | rfl | split)
noncomputable def laws_szFloat32S_F : DFn := fun args L =>
  match args with
  | [a1, .int .i64 v9] =>
    optT (rowF32 L a1) fun v8 =>
    .leaf (.int .i64 (laws_szFloat32S_v v8 v9), L)
  | _ => .fail
theorem laws_szFloat32S_Fok : COk Try.prog 56 laws_szFloat32S_F true := by
  intro F L H args r L' hs ha hr
  unfold laws_szFloat32S_F at hr
  split at hr
  · rename_i a1 v9
    obtain ⟨v8, hv8, hr⟩ := optT_run hr
    have hy := laws_szFloat32S_tot v8 v9
    generalize laws_szFloat32S_v v8 v9 = y at hy hr
    simp only [Tree.run, Option.some.injEq, Prod.mk.injEq] at hr
    obtain ⟨rfl, rfl⟩ := hr
    exact call_ok0 hs (fun k => (([a1.av F] : List AV)[k]?).getD .top) [a1, .int .i64 v9] [.bslc (BR.root 0) (.f32 v8), .int .i64 v9] (fun F' h0 hi hρ => ⟨by simp [DVs.av, DV.av, BR.av, hρ], laws_szFloat32S_fn v8 v9 F' (by rw [hi]; rfl) (st_nil hi) ⟨bslc_ok hi (by rw [h0, hρ]; exact rowF32_ok hs (DVs.okAt ha 0 rfl) hv8), trivial, trivial⟩ hy⟩) rfl
  · cases hr
/-! laws.szMatrix -/
noncomputable def laws_szMatrix_LO (v4 : Int) (v5 : Int) (v6 : List Nat) (v7 : Int) : LOr := fun id e L =>
  match id with
  | _ => .fail
noncomputable def laws_szMatrix_tab : List (FuncId × DFn × Bool) := [(56, laws_szFloat32S_F, true)]
theorem laws_szMatrix_hO : OrcOk Try.prog (tabD laws_szMatrix_tab) (tabM laws_szMatrix_tab) := tabD_cons laws_szFloat32S_Fok (tabD_nil _)
noncomputable def laws_szMatrix_T (v6 : List Nat) (v7 : Int) : Tree (Int) :=
  (.br (decide ((laws_szFloat32S_v v6 v7) < (0 : Int))) (
   .leaf (-1 : Int)
  ) (
   .leaf (laws_szFloat32S_v v6 v7)
  ))

noncomputable def laws_szMatrix_g (v6 : List Nat) (v7 : Int) : Option (Int) := (laws_szMatrix_T v6 v7).run
def laws_szMatrix_enc (v4 : Int) (v5 : Int) (v6 : List Nat) (v7 : Int) (y : Int) : Rs := (.int .i64 y, [])
theorem laws_szMatrix_den (v4 : Int) (v5 : Int) (v6 : List Nat) (v7 : Int) : (den TT (tabD laws_szMatrix_tab) (tabM laws_szMatrix_tab) (laws_szMatrix_LO v4 v5 v6 v7) (codeOf Try.f15) ([.agg [.int .i64 v4, .int .i64 v5, .bslc (BR.root 0) (.f32 v6)], .int .i64 v7] ++ List.replicate (Try.f15.ntmps - ([.agg [.int .i64 v4, .int .i64 v5, .bslc (BR.root 0) (.f32 v6)], .int .i64 v7] : List DV).length) .undef) []).bind (retD TT Try.f15.results.toList 0) = (laws_szMatrix_T v6 v7).bind fun y => .leaf (laws_szMatrix_enc v4 v5 v6 v7 y) := by kernel_rfl
theorem laws_szMatrix_fn (v4 : Int) (v5 : Int) (v6 : List Nat) (v7 : Int) (F : Fr) (hm : F.ids.length = 0) (h0 : St F [] F.H0) (hA : DVs.Ok F [] [.agg [.int .i64 v4, .int .i64 v5, .bslc (BR.root 0) (.f32 v6)], .int .i64 v7]) {y : Int} (hy : laws_szMatrix_g v6 v7 = some y) : ∃ H', FnOk Try.prog 15 (DVs.av F [.agg [.int .i64 v4, .int .i64 v5, .bslc (BR.root 0) (.f32 v6)], .int .i64 v7]) F.H0 ((laws_szMatrix_enc v4 v5 v6 v7 y).1.av F) H' ∧ St F (laws_szMatrix_enc v4 v5 v6 v7 y).2 H' ∧ (laws_szMatrix_enc v4 v5 v6 v7 y).1.Ok F (laws_szMatrix_enc v4 v5 v6 v7 y).2 :=
  fn_fin tok laws_szMatrix_hO mixed Try.func15 Try.call15 (by kernel_rfl) (LoopsOk_eq (l := []) (by kernel_rfl) trivial) (laws_szMatrix_den v4 v5 v6 v7) hy hm h0 hA
def laws_szMatrix_v (v6 : List Nat) (v7 : Int) : Int :=
  if (decide ((laws_szFloat32S_v v6 v7) < (0 : Int))) = true then (
   (-1 : Int)
  ) else (
   (laws_szFloat32S_v v6 v7)
  )
theorem laws_szMatrix_tot (v6 : List Nat) (v7 : Int) : laws_szMatrix_g v6 v7 = some (laws_szMatrix_v v6 v7) := by
  unfold laws_szMatrix_g laws_szMatrix_T laws_szMatrix_v
  simp only [Tree.run]
  repeat' (first | rfl | split)
noncomputable def laws_szMatrix_F : DFn := fun args L =>
  match args with
  | [.agg [.int .i64 v4, .int .i64 v5, a1], .int .i64 v7] =>
    optT (rowF32 L a1) fun v6 =>
    .leaf (.int .i64 (laws_szMatrix_v v6 v7), L)
  | _ => .fail
theorem laws_szMatrix_Fok : COk Try.prog 15 laws_szMatrix_F true := by
  intro F L H args r L' hs ha hr
  unfold laws_szMatrix_F at hr
  split at hr
  · rename_i v4 v5 a1 v7
    obtain ⟨v6, hv6, hr⟩ := optT_run hr
    have hy := laws_szMatrix_tot v6 v7
    generalize laws_szMatrix_v v6 v7 = y at hy hr
    simp only [Tree.run, Option.some.injEq, Prod.mk.injEq] at hr
    obtain ⟨rfl, rfl⟩ := hr
    exact call_ok0 hs (fun k => (([a1.av F] : List AV)[k]?).getD .top) [.agg [.int .i64 v4, .int .i64 v5, a1], .int .i64 v7] [.agg [.int .i64 v4, .int .i64 v5, .bslc (BR.root 0) (.f32 v6)], .int .i64 v7] (fun F' h0 hi hρ => ⟨by simp [DVs.av, DV.av, BR.av, hρ], laws_szMatrix_fn v4 v5 v6 v7 F' (by rw [hi]; rfl) (st_nil hi) ⟨⟨trivial, trivial, bslc_ok hi (by rw [h0, hρ]; exact rowF32_ok hs (DVs.okAt (DVs.okAt ha 0 rfl) 2 rfl) hv6), trivial⟩, trivial, trivial⟩ hy⟩) rfl
  · cases hr
/-! laws.toFloat32S -/
noncomputable def laws_toFloat32S_l0_T (v13 : List Nat) (s : Int × (List Nat)) : Tree ((Int × (List Nat)) ⊕ ((List Nat))) :=
  (.br (decide (s.1 < ((v13.length : Nat) : Int))) (
   (.grd (inb s.1 v13.length) <|
   (.grd (inb s.1 ((s.2).length)) <|
   .leaf (.inl (IntKind.i64.wrap (s.1 + (1 : Int)), List.set s.2 (Int.toNat s.1) (nth v13 (Int.toNat s.1))))))
  ) (
   .leaf (.inr s.2)
  ))

noncomputable def laws_toFloat32S_l0_g (v13 : List Nat) (s0 : Int × (List Nat)) : Option ((List Nat)) := whileM (fun s => (laws_toFloat32S_l0_T v13 s).run) s0
def laws_toFloat32S_l0_E (v13 : List Nat) (s : Int × (List Nat)) : Sd := ([.bslc (BR.root 0) (.f32 v13), .top, .top, .own 0 0 ((s.2).length), .int .i64 s.1, .top, .top, .top, .top, .top, .top, .top, .top, .top, .top, .top, .top, .top, .top, .top, .top, .top], [.row (.f32 s.2) 0])
def laws_toFloat32S_l0_X (v13 : List Nat) (x : (List Nat)) : Out := (.normal, [.top, .top, .top, .own 0 0 ((x).length), .top, .top, .top, .top, .top, .top, .top, .top, .top, .top, .top, .top, .top, .top, .top, .top, .top, .top], [.row (.f32 x) 0])
def laws_toFloat32S_l0_kill : List Nat := [0, 1, 1, 0, 0, 1, 1, 1, 1, 1, 1, 1, 1, 1, 1, 1, 1, 1, 1, 1, 1, 1]
def laws_toFloat32S_l0_nx : Exit → List Nat
  | .exit 0 => [1, 1, 1, 0, 1, 1, 1, 1, 1, 1, 1, 1, 1, 1, 1, 1, 1, 1, 1, 1, 1, 1]
  | .ret => [1, 1, 0, 1, 1, 1, 1, 1, 1, 1, 1, 1, 1, 1, 1, 1, 1, 1, 1, 1, 1, 1]
  | _ => []
noncomputable def laws_toFloat32S_LO (v13 : List Nat) : LOr := fun id e L =>
  match id with
  | 0 => .need (normA 0 laws_toFloat32S_l0_kill e L = some (laws_toFloat32S_l0_E v13 ((gI (vAt e 4)), (gRF L (vAt e 3))))) (.call (laws_toFloat32S_l0_g v13 ((gI (vAt e 4)), (gRF L (vAt e 3)))) fun x => .leaf (laws_toFloat32S_l0_X v13 x))
  | _ => .fail
noncomputable def laws_toFloat32S_tab : List (FuncId × DFn × Bool) := []
theorem laws_toFloat32S_hO : OrcOk Try.prog (tabD laws_toFloat32S_tab) (tabM laws_toFloat32S_tab) := tabD_nil _
theorem laws_toFloat32S_l0_be (v13 : List Nat) (s : Int × (List Nat)) : bodyT TT (tabD laws_toFloat32S_tab) (tabM laws_toFloat32S_tab) (laws_toFloat32S_LO v13) 0 laws_toFloat32S_l0_kill laws_toFloat32S_l0_nx (bodyOf Try.f33 0) 0 (laws_toFloat32S_l0_E v13 s) = (laws_toFloat32S_l0_T v13 s).bind fun y => .leaf (outS (laws_toFloat32S_l0_E v13) (laws_toFloat32S_l0_X v13) y) := by kernel_rfl
theorem laws_toFloat32S_l0_ok (v13 : List Nat) : LSound Try.prog 0 (laws_toFloat32S_LO v13) 0 (bodyOf Try.f33 0) := by
  intro e L out h
  exact lo_ok (E := laws_toFloat32S_l0_E v13) (gT := laws_toFloat32S_l0_T v13) (X := laws_toFloat32S_l0_X v13) (s0 := ((gI (vAt e 4)), (gRF L (vAt e 3)))) tok laws_toFloat32S_hO mixed (LoopsOk_eq (l := []) (by kernel_rfl) trivial) (laws_toFloat32S_l0_be v13) rfl (by intro x; rfl) h
noncomputable def laws_toFloat32S_T (v13 : List Nat) : Tree ((List Nat)) :=
  (.need (((v13.length : Nat) : Int) = ((v13.length : Nat) : Int)) <|
  (.grd (inb ((v13.length : Nat) : Int) (maxN + 1)) <|
  (.need (some (laws_toFloat32S_l0_E v13 ((0 : Int), List.replicate (Int.toNat ((v13.length : Nat) : Int)) (0 : Nat))) = some (laws_toFloat32S_l0_E v13 ((0 : Int), List.replicate (Int.toNat ((v13.length : Nat) : Int)) (0 : Nat)))) <|
  (.call (laws_toFloat32S_l0_g v13 ((0 : Int), List.replicate (Int.toNat ((v13.length : Nat) : Int)) (0 : Nat))) fun v19 =>
  .leaf v19))))

noncomputable def laws_toFloat32S_g (v13 : List Nat) : Option ((List Nat)) := (laws_toFloat32S_T v13).run
def laws_toFloat32S_enc (v13 : List Nat) (y : (List Nat)) : Rs := (.own 0 0 ((y).length), [.row (.f32 y) 0])
theorem laws_toFloat32S_den (v13 : List Nat) : (den TT (tabD laws_toFloat32S_tab) (tabM laws_toFloat32S_tab) (laws_toFloat32S_LO v13) (codeOf Try.f33) ([.bslc (BR.root 0) (.f32 v13)] ++ List.replicate (Try.f33.ntmps - ([.bslc (BR.root 0) (.f32 v13)] : List DV).length) .undef) []).bind (retD TT Try.f33.results.toList 0) = (laws_toFloat32S_T v13).bind fun y => .leaf (laws_toFloat32S_enc v13 y) := by kernel_rfl
theorem laws_toFloat32S_fn (v13 : List Nat) (F : Fr) (hm : F.ids.length = 0) (h0 : St F [] F.H0) (hA : DVs.Ok F [] [.bslc (BR.root 0) (.f32 v13)]) {y : (List Nat)} (hy : laws_toFloat32S_g v13 = some y) : ∃ H', FnOk Try.prog 33 (DVs.av F [.bslc (BR.root 0) (.f32 v13)]) F.H0 ((laws_toFloat32S_enc v13 y).1.av F) H' ∧ St F (laws_toFloat32S_enc v13 y).2 H' ∧ (laws_toFloat32S_enc v13 y).1.Ok F (laws_toFloat32S_enc v13 y).2 :=
  fn_fin tok laws_toFloat32S_hO mixed Try.func33 Try.call33 (by kernel_rfl) (LoopsOk_eq (l := [(0, bodyOf Try.f33 0)]) (by kernel_rfl) ⟨laws_toFloat32S_l0_ok v13, trivial⟩) (laws_toFloat32S_den v13) hy hm h0 hA
noncomputable def laws_toFloat32S_F : DFn := fun args L =>
  match args with
  | [a1] =>
    optT (rowF32 L a1) fun v13 =>
    .call (laws_toFloat32S_g v13) fun y => .leaf (.own (L.length + 0) 0 ((y).length), L ++ [.row (.f32 y) 0])
  | _ => .fail
theorem laws_toFloat32S_Fok : COk Try.prog 33 laws_toFloat32S_F true := by
  intro F L H args r L' hs ha hr
  unfold laws_toFloat32S_F at hr
  split at hr
  · rename_i a1
    obtain ⟨v13, hv13, hr⟩ := optT_run hr
    simp only [Tree.run] at hr
    obtain ⟨y, hy, hr⟩ := Option.bind_eq_some_iff.1 hr
    simp only [Tree.run, Option.some.injEq, Prod.mk.injEq] at hr
    obtain ⟨rfl, rfl⟩ := hr
    exact call_ok1 hs (fun k => (([a1.av F] : List AV)[k]?).getD .top) [a1] [.bslc (BR.root 0) (.f32 v13)] (fun F' h0 hi hρ => ⟨by simp [DVs.av, DV.av, BR.av, hρ], laws_toFloat32S_fn v13 F' (by rw [hi]; rfl) (st_nil hi) ⟨bslc_ok hi (by rw [h0, hρ]; exact rowF32_ok hs (DVs.okAt ha 0 rfl) hv13), trivial⟩ hy⟩) rfl rfl
  · cases hr
/-! laws.toMatrix -/
noncomputable def laws_toMatrix_LO (v10 : Int) (v11 : Int) (v12 : List Nat) : LOr := fun id e L =>
  match id with
  | _ => .fail
noncomputable def laws_toMatrix_tab : List (FuncId × DFn × Bool) := [(33, laws_toFloat32S_F, true)]
theorem laws_toMatrix_hO : OrcOk Try.prog (tabD laws_toMatrix_tab) (tabM laws_toMatrix_tab) := tabD_cons laws_toFloat32S_Fok (tabD_nil _)
noncomputable def laws_toMatrix_T (v10 : Int) (v11 : Int) (v12 : List Nat) : Tree (Int × Int × (List Nat)) :=
  (.call (laws_toFloat32S_g v12) fun v20 =>
  .leaf (v10, v11, v20))

noncomputable def laws_toMatrix_g (v10 : Int) (v11 : Int) (v12 : List Nat) : Option (Int × Int × (List Nat)) := (laws_toMatrix_T v10 v11 v12).run
def laws_toMatrix_enc (v10 : Int) (v11 : Int) (v12 : List Nat) (y : Int × Int × (List Nat)) : Rs := (.agg [.int .i64 y.1, .int .i64 y.2.1, .own 0 0 ((y.2.2).length)], [.row (.f32 y.2.2) 0])
theorem laws_toMatrix_den (v10 : Int) (v11 : Int) (v12 : List Nat) : (den TT (tabD laws_toMatrix_tab) (tabM laws_toMatrix_tab) (laws_toMatrix_LO v10 v11 v12) (codeOf Try.f17) ([.agg [.int .i64 v10, .int .i64 v11, .bslc (BR.root 0) (.f32 v12)]] ++ List.replicate (Try.f17.ntmps - ([.agg [.int .i64 v10, .int .i64 v11, .bslc (BR.root 0) (.f32 v12)]] : List DV).length) .undef) []).bind (retD TT Try.f17.results.toList 0) = (laws_toMatrix_T v10 v11 v12).bind fun y => .leaf (laws_toMatrix_enc v10 v11 v12 y) := by kernel_rfl
theorem laws_toMatrix_fn (v10 : Int) (v11 : Int) (v12 : List Nat) (F : Fr) (hm : F.ids.length = 0) (h0 : St F [] F.H0) (hA : DVs.Ok F [] [.agg [.int .i64 v10, .int .i64 v11, .bslc (BR.root 0) (.f32 v12)]]) {y : Int × Int × (List Nat)} (hy : laws_toMatrix_g v10 v11 v12 = some y) : ∃ H', FnOk Try.prog 17 (DVs.av F [.agg [.int .i64 v10, .int .i64 v11, .bslc (BR.root 0) (.f32 v12)]]) F.H0 ((laws_toMatrix_enc v10 v11 v12 y).1.av F) H' ∧ St F (laws_toMatrix_enc v10 v11 v12 y).2 H' ∧ (laws_toMatrix_enc v10 v11 v12 y).1.Ok F (laws_toMatrix_enc v10 v11 v12 y).2 :=
  fn_fin tok laws_toMatrix_hO mixed Try.func17 Try.call17 (by kernel_rfl) (LoopsOk_eq (l := []) (by kernel_rfl) trivial) (laws_toMatrix_den v10 v11 v12) hy hm h0 hA
noncomputable def laws_toMatrix_F : DFn := fun args L =>
  match args with
  | [.agg [.int .i64 v10, .int .i64 v11, a1]] =>
    optT (rowF32 L a1) fun v12 =>
    .call (laws_toMatrix_g v10 v11 v12) fun y => .leaf (.agg [.int .i64 y.1, .int .i64 y.2.1, .own (L.length + 0) 0 ((y.2.2).length)], L ++ [.row (.f32 y.2.2) 0])
  | _ => .fail
theorem laws_toMatrix_Fok : COk Try.prog 17 laws_toMatrix_F true := by
  intro F L H args r L' hs ha hr
  unfold laws_toMatrix_F at hr
  split at hr
  · rename_i v10 v11 a1
    obtain ⟨v12, hv12, hr⟩ := optT_run hr
    simp only [Tree.run] at hr
    obtain ⟨y, hy, hr⟩ := Option.bind_eq_some_iff.1 hr
    simp only [Tree.run, Option.some.injEq, Prod.mk.injEq] at hr
    obtain ⟨rfl, rfl⟩ := hr
    exact call_ok1 hs (fun k => (([a1.av F] : List AV)[k]?).getD .top) [.agg [.int .i64 v10, .int .i64 v11, a1]] [.agg [.int .i64 v10, .int .i64 v11, .bslc (BR.root 0) (.f32 v12)]] (fun F' h0 hi hρ => ⟨by simp [DVs.av, DV.av, BR.av, hρ], laws_toMatrix_fn v10 v11 v12 F' (by rw [hi]; rfl) (st_nil hi) ⟨⟨trivial, trivial, bslc_ok hi (by rw [h0, hρ]; exact rowF32_ok hs (DVs.okAt (DVs.okAt ha 0 rfl) 2 rfl) hv12), trivial⟩, trivial⟩ hy⟩) rfl rfl
  · cases hr
/-! spec.l00In -/
noncomputable def spec_l00In_LO (v33 : Int) (v34 : Int) (v35 : Int) : LOr := fun id e L =>
  match id with
  | _ => .fail
noncomputable def spec_l00In_tab : List (FuncId × DFn × Bool) := []
theorem spec_l00In_hO : OrcOk Try.prog (tabD spec_l00In_tab) (tabM spec_l00In_tab) := tabD_nil _
noncomputable def spec_l00In_T (v33 : Int) (v34 : Int) (v35 : Int) : Tree (Bool) :=
  (.br (decide (v34 ≤ v33)) (
   .leaf (decide (v33 ≤ v35))
  ) (
   .leaf false
  ))

noncomputable def spec_l00In_g (v33 : Int) (v34 : Int) (v35 : Int) : Option (Bool) := (spec_l00In_T v33 v34 v35).run
def spec_l00In_enc (v33 : Int) (v34 : Int) (v35 : Int) (y : Bool) : Rs := (.bool y, [])
theorem spec_l00In_den (v33 : Int) (v34 : Int) (v35 : Int) : (den TT (tabD spec_l00In_tab) (tabM spec_l00In_tab) (spec_l00In_LO v33 v34 v35) (codeOf Try.f70) ([.int .i64 v33, .int .i64 v34, .int .i64 v35] ++ List.replicate (Try.f70.ntmps - ([.int .i64 v33, .int .i64 v34, .int .i64 v35] : List DV).length) .undef) []).bind (retD TT Try.f70.results.toList 0) = (spec_l00In_T v33 v34 v35).bind fun y => .leaf (spec_l00In_enc v33 v34 v35 y) := by kernel_rfl
theorem spec_l00In_fn (v33 : Int) (v34 : Int) (v35 : Int) (F : Fr) (hm : F.ids.length = 0) (h0 : St F [] F.H0) (hA : DVs.Ok F [] [.int .i64 v33, .int .i64 v34, .int .i64 v35]) {y : Bool} (hy : spec_l00In_g v33 v34 v35 = some y) : ∃ H', FnOk Try.prog 70 (DVs.av F [.int .i64 v33, .int .i64 v34, .int .i64 v35]) F.H0 ((spec_l00In_enc v33 v34 v35 y).1.av F) H' ∧ St F (spec_l00In_enc v33 v34 v35 y).2 H' ∧ (spec_l00In_enc v33 v34 v35 y).1.Ok F (spec_l00In_enc v33 v34 v35 y).2 :=
  fn_fin tok spec_l00In_hO mixed Try.func70 Try.call70 (by kernel_rfl) (LoopsOk_eq (l := []) (by kernel_rfl) trivial) (spec_l00In_den v33 v34 v35) hy hm h0 hA
def spec_l00In_v (v33 : Int) (v34 : Int) (v35 : Int) : Bool :=
  if (decide (v34 ≤ v33)) = true then (
   decide (v33 ≤ v35)
  ) else (
   false
  )
theorem spec_l00In_tot (v33 : Int) (v34 : Int) (v35 : Int) : spec_l00In_g v33 v34 v35 = some (spec_l00In_v v33 v34 v35) := by
  unfold spec_l00In_g spec_l00In_T spec_l00In_v
  simp only [Tree.run]
  repeat' (first | rfl | split)
noncomputable def spec_l00In_F : DFn := fun args L =>
  match args with
  | [.int .i64 v33, .int .i64 v34, .int .i64 v35] =>
    .leaf (.bool (spec_l00In_v v33 v34 v35), L)
  | _ => .fail
theorem spec_l00In_Fok : COk Try.prog 70 spec_l00In_F true := by
  intro F L H args r L' hs ha hr
  unfold spec_l00In_F at hr
  split at hr
  · rename_i v33 v34 v35
    have hy := spec_l00In_tot v33 v34 v35
    generalize spec_l00In_v v33 v34 v35 = y at hy hr
    simp only [Tree.run, Option.some.injEq, Prod.mk.injEq] at hr
    obtain ⟨rfl, rfl⟩ := hr
    exact call_ok0 hs (fun k => (([] : List AV)[k]?).getD .top) [.int .i64 v33, .int .i64 v34, .int .i64 v35] [.int .i64 v33, .int .i64 v34, .int .i64 v35] (fun F' h0 hi hρ => ⟨by simp [DVs.av, DV.av, BR.av, hρ], spec_l00In_fn v33 v34 v35 F' (by rw [hi]; rfl) (st_nil hi) ⟨trivial, trivial, trivial, trivial⟩ hy⟩) rfl
  · cases hr
/-! spec.l02Sides -/
noncomputable def spec_l02Sides_LO (v31 : Int) (v32 : Int) : LOr := fun id e L =>
  match id with
  | _ => .fail
noncomputable def spec_l02Sides_tab : List (FuncId × DFn × Bool) := [(70, spec_l00In_F, true)]
theorem spec_l02Sides_hO : OrcOk Try.prog (tabD spec_l02Sides_tab) (tabM spec_l02Sides_tab) := tabD_cons spec_l00In_Fok (tabD_nil _)
noncomputable def spec_l02Sides_T (v31 : Int) (v32 : Int) : Tree (Bool) :=
  (.br (spec_l00In_v v31 (1 : Int) (12 : Int)) (
   .leaf (spec_l00In_v v32 (1 : Int) (12 : Int))
  ) (
   .leaf false
  ))

noncomputable def spec_l02Sides_g (v31 : Int) (v32 : Int) : Option (Bool) := (spec_l02Sides_T v31 v32).run
def spec_l02Sides_enc (v31 : Int) (v32 : Int) (y : Bool) : Rs := (.bool y, [])
theorem spec_l02Sides_den (v31 : Int) (v32 : Int) : (den TT (tabD spec_l02Sides_tab) (tabM spec_l02Sides_tab) (spec_l02Sides_LO v31 v32) (codeOf Try.f134) ([.int .i64 v31, .int .i64 v32] ++ List.replicate (Try.f134.ntmps - ([.int .i64 v31, .int .i64 v32] : List DV).length) .undef) []).bind (retD TT Try.f134.results.toList 0) = (spec_l02Sides_T v31 v32).bind fun y => .leaf (spec_l02Sides_enc v31 v32 y) := by kernel_rfl
theorem spec_l02Sides_fn (v31 : Int) (v32 : Int) (F : Fr) (hm : F.ids.length = 0) (h0 : St F [] F.H0) (hA : DVs.Ok F [] [.int .i64 v31, .int .i64 v32]) {y : Bool} (hy : spec_l02Sides_g v31 v32 = some y) : ∃ H', FnOk Try.prog 134 (DVs.av F [.int .i64 v31, .int .i64 v32]) F.H0 ((spec_l02Sides_enc v31 v32 y).1.av F) H' ∧ St F (spec_l02Sides_enc v31 v32 y).2 H' ∧ (spec_l02Sides_enc v31 v32 y).1.Ok F (spec_l02Sides_enc v31 v32 y).2 :=
  fn_fin tok spec_l02Sides_hO mixed Try.func134 Try.call134 (by kernel_rfl) (LoopsOk_eq (l := []) (by kernel_rfl) trivial) (spec_l02Sides_den v31 v32) hy hm h0 hA
def spec_l02Sides_v (v31 : Int) (v32 : Int) : Bool :=
  if (spec_l00In_v v31 (1 : Int) (12 : Int)) = true then (
   (spec_l00In_v v32 (1 : Int) (12 : Int))
  ) else (
   false
  )
theorem spec_l02Sides_tot (v31 : Int) (v32 : Int) : spec_l02Sides_g v31 v32 = some (spec_l02Sides_v v31 v32) := by
  unfold spec_l02Sides_g spec_l02Sides_T spec_l02Sides_v
  simp only [Tree.run]
  repeat' (first | rfl | split)
noncomputable def spec_l02Sides_F : DFn := fun args L =>
  match args with
  | [.int .i64 v31, .int .i64 v32] =>
    .leaf (.bool (spec_l02Sides_v v31 v32), L)
  | _ => .fail
theorem spec_l02Sides_Fok : COk Try.prog 134 spec_l02Sides_F true := by
  intro F L H args r L' hs ha hr
  unfold spec_l02Sides_F at hr
  split at hr
  · rename_i v31 v32
    have hy := spec_l02Sides_tot v31 v32
    generalize spec_l02Sides_v v31 v32 = y at hy hr
    simp only [Tree.run, Option.some.injEq, Prod.mk.injEq] at hr
    obtain ⟨rfl, rfl⟩ := hr
    exact call_ok0 hs (fun k => (([] : List AV)[k]?).getD .top) [.int .i64 v31, .int .i64 v32] [.int .i64 v31, .int .i64 v32] (fun F' h0 hi hρ => ⟨by simp [DVs.av, DV.av, BR.av, hρ], spec_l02Sides_fn v31 v32 F' (by rw [hi]; rfl) (st_nil hi) ⟨trivial, trivial, trivial⟩ hy⟩) rfl
  · cases hr
/-! spec.l01Finite -/
noncomputable def spec_l01Finite_LO (v38 : Nat) : LOr := fun id e L =>
  match id with
  | _ => .fail
noncomputable def spec_l01Finite_tab : List (FuncId × DFn × Bool) := []
theorem spec_l01Finite_hO : OrcOk Try.prog (tabD spec_l01Finite_tab) (tabM spec_l01Finite_tab) := tabD_nil _
noncomputable def spec_l01Finite_T (v38 : Nat) : Tree (Bool) :=
  .leaf (feq .f32 (fsub .f32 v38 v38) (0 : Nat))

noncomputable def spec_l01Finite_g (v38 : Nat) : Option (Bool) := (spec_l01Finite_T v38).run
def spec_l01Finite_enc (v38 : Nat) (y : Bool) : Rs := (.bool y, [])
theorem spec_l01Finite_den (v38 : Nat) : (den TT (tabD spec_l01Finite_tab) (tabM spec_l01Finite_tab) (spec_l01Finite_LO v38) (codeOf Try.f60) ([.flt .f32 v38] ++ List.replicate (Try.f60.ntmps - ([.flt .f32 v38] : List DV).length) .undef) []).bind (retD TT Try.f60.results.toList 0) = (spec_l01Finite_T v38).bind fun y => .leaf (spec_l01Finite_enc v38 y) := by kernel_rfl
theorem spec_l01Finite_fn (v38 : Nat) (F : Fr) (hm : F.ids.length = 0) (h0 : St F [] F.H0) (hA : DVs.Ok F [] [.flt .f32 v38]) {y : Bool} (hy : spec_l01Finite_g v38 = some y) : ∃ H', FnOk Try.prog 60 (DVs.av F [.flt .f32 v38]) F.H0 ((spec_l01Finite_enc v38 y).1.av F) H' ∧ St F (spec_l01Finite_enc v38 y).2 H' ∧ (spec_l01Finite_enc v38 y).1.Ok F (spec_l01Finite_enc v38 y).2 :=
  fn_fin tok spec_l01Finite_hO mixed Try.func60 Try.call60 (by kernel_rfl) (LoopsOk_eq (l := []) (by kernel_rfl) trivial) (spec_l01Finite_den v38) hy hm h0 hA
def spec_l01Finite_v (v38 : Nat) : Bool :=
  feq .f32 (fsub .f32 v38 v38) (0 : Nat)
theorem spec_l01Finite_tot (v38 : Nat) : spec_l01Finite_g v38 = some (spec_l01Finite_v v38) := by
  unfold spec_l01Finite_g spec_l01Finite_T spec_l01Finite_v
  simp only [Tree.run]
  repeat' (first | rfl | split)
noncomputable def spec_l01Finite_F : DFn := fun args L =>
  match args with
  | [.flt .f32 v38] =>
    .leaf (.bool (spec_l01Finite_v v38), L)
  | _ => .fail
theorem spec_l01Finite_Fok : COk Try.prog 60 spec_l01Finite_F true := by
  intro F L H args r L' hs ha hr
  unfold spec_l01Finite_F at hr
  split at hr
  · rename_i v38
    have hy := spec_l01Finite_tot v38
    generalize spec_l01Finite_v v38 = y at hy hr
    simp only [Tree.run, Option.some.injEq, Prod.mk.injEq] at hr
    obtain ⟨rfl, rfl⟩ := hr
    exact call_ok0 hs (fun k => (([] : List AV)[k]?).getD .top) [.flt .f32 v38] [.flt .f32 v38] (fun F' h0 hi hρ => ⟨by simp [DVs.av, DV.av, BR.av, hρ], spec_l01Finite_fn v38 F' (by rw [hi]; rfl) (st_nil hi) ⟨trivial, trivial⟩ hy⟩) rfl
  · cases hr
/-! spec.l02Finite -/
noncomputable def spec_l02Finite_l0_T (v36 : List Nat) (s : Int) : Tree ((Int) ⊕ ((Unit) ⊕ (Unit))) :=
  (.br (decide (s < ((v36.length : Nat) : Int))) (
   (.grd (inb s v36.length) <|
   (.br (!(spec_l01Finite_v (nth v36 (Int.toNat s)))) (
    .leaf (.inr (.inl ()))
   ) (
    .leaf (.inl (IntKind.i64.wrap (s + (1 : Int))))
   )))
  ) (
   .leaf (.inr (.inr ()))
  ))

noncomputable def spec_l02Finite_l0_g (v36 : List Nat) (s0 : Int) : Option ((Unit) ⊕ (Unit)) := whileM (fun s => (spec_l02Finite_l0_T v36 s).run) s0
def spec_l02Finite_l0_E (v36 : List Nat) (s : Int) : Sd := ([.bslc (BR.root 0) (.f32 v36), .top, .top, .int .i64 s, .top, .top, .top, .top, .top, .top, .top, .top, .top, .top, .top, .top], [])
def spec_l02Finite_l0_X (v36 : List Nat) (x : (Unit) ⊕ (Unit)) : Out := (match x with | .inl x => (.ret, [.top, .top, .lit false, .top, .top, .top, .top, .top, .top, .top, .top, .top, .top, .top, .top, .top], []) | .inr x => (.normal, [.top, .top, .top, .top, .top, .top, .top, .top, .top, .top, .top, .top, .top, .top, .top, .top], []))
def spec_l02Finite_l0_kill : List Nat := [0, 1, 1, 0, 1, 1, 1, 1, 1, 1, 1, 1, 1, 1, 1, 1]
def spec_l02Finite_l0_nx : Exit → List Nat
  | .exit 0 => [1, 1, 1, 1, 1, 1, 1, 1, 1, 1, 1, 1, 1, 1, 1, 1]
  | .ret => [1, 1, 0, 1, 1, 1, 1, 1, 1, 1, 1, 1, 1, 1, 1, 1]
  | _ => []
noncomputable def spec_l02Finite_LO (v36 : List Nat) : LOr := fun id e L =>
  match id with
  | 0 => .need (normA 0 spec_l02Finite_l0_kill e L = some (spec_l02Finite_l0_E v36 (gI (vAt e 3)))) (.call (spec_l02Finite_l0_g v36 (gI (vAt e 3))) fun x => .sum x (fun b0 => .leaf (spec_l02Finite_l0_X v36 (.inl b0))) (fun c0 => .leaf (spec_l02Finite_l0_X v36 (.inr c0))))
  | _ => .fail
noncomputable def spec_l02Finite_tab : List (FuncId × DFn × Bool) := [(60, spec_l01Finite_F, true)]
theorem spec_l02Finite_hO : OrcOk Try.prog (tabD spec_l02Finite_tab) (tabM spec_l02Finite_tab) := tabD_cons spec_l01Finite_Fok (tabD_nil _)
theorem spec_l02Finite_l0_be (v36 : List Nat) (s : Int) : bodyT TT (tabD spec_l02Finite_tab) (tabM spec_l02Finite_tab) (spec_l02Finite_LO v36) 0 spec_l02Finite_l0_kill spec_l02Finite_l0_nx (bodyOf Try.f135 0) 0 (spec_l02Finite_l0_E v36 s) = (spec_l02Finite_l0_T v36 s).bind fun y => .leaf (outS (spec_l02Finite_l0_E v36) (spec_l02Finite_l0_X v36) y) := by kernel_rfl
theorem spec_l02Finite_l0_ok (v36 : List Nat) : LSound Try.prog 0 (spec_l02Finite_LO v36) 0 (bodyOf Try.f135 0) := by
  intro e L out h
  exact lo_ok (E := spec_l02Finite_l0_E v36) (gT := spec_l02Finite_l0_T v36) (X := spec_l02Finite_l0_X v36) (s0 := (gI (vAt e 3))) tok spec_l02Finite_hO mixed (LoopsOk_eq (l := []) (by kernel_rfl) trivial) (spec_l02Finite_l0_be v36) rfl (by intro x; (cases x with | inl b => rfl | inr x => exact rfl)) h
noncomputable def spec_l02Finite_T (v36 : List Nat) : Tree (Bool) :=
  (.need (some (spec_l02Finite_l0_E v36 (0 : Int)) = some (spec_l02Finite_l0_E v36 (0 : Int))) <|
  (.call (spec_l02Finite_l0_g v36 (0 : Int)) fun v41 =>
  (.sum v41 (fun v42 =>
   .leaf false
  ) (fun v43 =>
   .leaf true
  ))))

noncomputable def spec_l02Finite_g (v36 : List Nat) : Option (Bool) := (spec_l02Finite_T v36).run
def spec_l02Finite_enc (v36 : List Nat) (y : Bool) : Rs := (.bool y, [])
theorem spec_l02Finite_den (v36 : List Nat) : (den TT (tabD spec_l02Finite_tab) (tabM spec_l02Finite_tab) (spec_l02Finite_LO v36) (codeOf Try.f135) ([.bslc (BR.root 0) (.f32 v36)] ++ List.replicate (Try.f135.ntmps - ([.bslc (BR.root 0) (.f32 v36)] : List DV).length) .undef) []).bind (retD TT Try.f135.results.toList 0) = (spec_l02Finite_T v36).bind fun y => .leaf (spec_l02Finite_enc v36 y) := by kernel_rfl
theorem spec_l02Finite_fn (v36 : List Nat) (F : Fr) (hm : F.ids.length = 0) (h0 : St F [] F.H0) (hA : DVs.Ok F [] [.bslc (BR.root 0) (.f32 v36)]) {y : Bool} (hy : spec_l02Finite_g v36 = some y) : ∃ H', FnOk Try.prog 135 (DVs.av F [.bslc (BR.root 0) (.f32 v36)]) F.H0 ((spec_l02Finite_enc v36 y).1.av F) H' ∧ St F (spec_l02Finite_enc v36 y).2 H' ∧ (spec_l02Finite_enc v36 y).1.Ok F (spec_l02Finite_enc v36 y).2 :=
  fn_fin tok spec_l02Finite_hO mixed Try.func135 Try.call135 (by kernel_rfl) (LoopsOk_eq (l := [(0, bodyOf Try.f135 0)]) (by kernel_rfl) ⟨spec_l02Finite_l0_ok v36, trivial⟩) (spec_l02Finite_den v36) hy hm h0 hA
noncomputable def spec_l02Finite_F : DFn := fun args L =>
  match args with
  | [a1] =>
    optT (rowF32 L a1) fun v36 =>
    .call (spec_l02Finite_g v36) fun y => .leaf (.bool y, L)
  | _ => .fail
theorem spec_l02Finite_Fok : COk Try.prog 135 spec_l02Finite_F true := by
  intro F L H args r L' hs ha hr
  unfold spec_l02Finite_F at hr
  split at hr
  · rename_i a1
    obtain ⟨v36, hv36, hr⟩ := optT_run hr
    simp only [Tree.run] at hr
    obtain ⟨y, hy, hr⟩ := Option.bind_eq_some_iff.1 hr
    simp only [Tree.run, Option.some.injEq, Prod.mk.injEq] at hr
    obtain ⟨rfl, rfl⟩ := hr
    exact call_ok0 hs (fun k => (([a1.av F] : List AV)[k]?).getD .top) [a1] [.bslc (BR.root 0) (.f32 v36)] (fun F' h0 hi hρ => ⟨by simp [DVs.av, DV.av, BR.av, hρ], spec_l02Finite_fn v36 F' (by rw [hi]; rfl) (st_nil hi) ⟨bslc_ok hi (by rw [h0, hρ]; exact rowF32_ok hs (DVs.okAt ha 0 rfl) hv36), trivial⟩ hy⟩) rfl
  · cases hr
/-! spec.l02Is -/
noncomputable def spec_l02Is_LO (v28 : Int) (v29 : Int) (v30 : List Nat) : LOr := fun id e L =>
  match id with
  | _ => .fail
noncomputable def spec_l02Is_tab : List (FuncId × DFn × Bool) := [(134, spec_l02Sides_F, true), (135, spec_l02Finite_F, true)]
theorem spec_l02Is_hO : OrcOk Try.prog (tabD spec_l02Is_tab) (tabM spec_l02Is_tab) := tabD_cons spec_l02Sides_Fok (tabD_cons spec_l02Finite_Fok (tabD_nil _))
noncomputable def spec_l02Is_T (v28 : Int) (v29 : Int) (v30 : List Nat) : Tree (Bool) :=
  (.br (spec_l02Sides_v v28 v29) (
   (.br (decide (((v30.length : Nat) : Int) = IntKind.i64.wrap (v28 * v29))) (
    (.call (spec_l02Finite_g v30) fun v44 =>
    .leaf v44)
   ) (
    .leaf false
   ))
  ) (
   .leaf false
  ))

noncomputable def spec_l02Is_g (v28 : Int) (v29 : Int) (v30 : List Nat) : Option (Bool) := (spec_l02Is_T v28 v29 v30).run
def spec_l02Is_enc (v28 : Int) (v29 : Int) (v30 : List Nat) (y : Bool) : Rs := (.bool y, [])
theorem spec_l02Is_den (v28 : Int) (v29 : Int) (v30 : List Nat) : (den TT (tabD spec_l02Is_tab) (tabM spec_l02Is_tab) (spec_l02Is_LO v28 v29 v30) (codeOf Try.f61) ([.bptr (BR.root 0) [.int .i64 v28, .int .i64 v29, .bslc (BR.root 1) (.f32 v30)]] ++ List.replicate (Try.f61.ntmps - ([.bptr (BR.root 0) [.int .i64 v28, .int .i64 v29, .bslc (BR.root 1) (.f32 v30)]] : List DV).length) .undef) []).bind (retD TT Try.f61.results.toList 0) = (spec_l02Is_T v28 v29 v30).bind fun y => .leaf (spec_l02Is_enc v28 v29 v30 y) := by kernel_rfl
theorem spec_l02Is_fn (v28 : Int) (v29 : Int) (v30 : List Nat) (F : Fr) (hm : F.ids.length = 0) (h0 : St F [] F.H0) (hA : DVs.Ok F [] [.bptr (BR.root 0) [.int .i64 v28, .int .i64 v29, .bslc (BR.root 1) (.f32 v30)]]) {y : Bool} (hy : spec_l02Is_g v28 v29 v30 = some y) : ∃ H', FnOk Try.prog 61 (DVs.av F [.bptr (BR.root 0) [.int .i64 v28, .int .i64 v29, .bslc (BR.root 1) (.f32 v30)]]) F.H0 ((spec_l02Is_enc v28 v29 v30 y).1.av F) H' ∧ St F (spec_l02Is_enc v28 v29 v30 y).2 H' ∧ (spec_l02Is_enc v28 v29 v30 y).1.Ok F (spec_l02Is_enc v28 v29 v30 y).2 :=
  fn_fin tok spec_l02Is_hO mixed Try.func61 Try.call61 (by kernel_rfl) (LoopsOk_eq (l := []) (by kernel_rfl) trivial) (spec_l02Is_den v28 v29 v30) hy hm h0 hA
noncomputable def spec_l02Is_F : DFn := fun args L =>
  match args with
  | [a1] =>
    optT (cellsOf L 3 a1) fun cs0 =>
    (match cs0 with
    | [.int .i64 v28, .int .i64 v29, a2] =>
    optT (rowF32 L a2) fun v30 =>
    .call (spec_l02Is_g v28 v29 v30) fun y => .leaf (.bool y, L)
    | _ => .fail)
  | _ => .fail
theorem spec_l02Is_Fok : COk Try.prog 61 spec_l02Is_F true := by
  intro F L H args r L' hs ha hr
  unfold spec_l02Is_F at hr
  split at hr
  · rename_i a1
    obtain ⟨cs0, hcp0, hr⟩ := optT_run hr
    split at hr
    · rename_i v28 v29 a2
      obtain ⟨v30, hv30, hr⟩ := optT_run hr
      simp only [Tree.run] at hr
      obtain ⟨y, hy, hr⟩ := Option.bind_eq_some_iff.1 hr
      simp only [Tree.run, Option.some.injEq, Prod.mk.injEq] at hr
      obtain ⟨rfl, rfl⟩ := hr
      exact call_ok0 hs (fun k => (([a1.av F, a2.av F] : List AV)[k]?).getD .top) [a1] [.bptr (BR.root 0) [.int .i64 v28, .int .i64 v29, .bslc (BR.root 1) (.f32 v30)]] (fun F' h0 hi hρ => ⟨by simp [DVs.av, DV.av, BR.av, hρ], spec_l02Is_fn v28 v29 v30 F' (by rw [hi]; rfl) (st_nil hi) ⟨bptr_ok hi (by rw [h0]; simpa [DVs.av, DV.av, BR.av, hρ] using (cellsOf_ok hs (DVs.okAt ha 0 rfl) hcp0).1) ⟨trivial, trivial, bslc_ok hi (by rw [h0, hρ]; exact rowF32_ok hs (DVs.okAt (cellsOf_ok hs (DVs.okAt ha 0 rfl) hcp0).2 2 rfl) hv30), trivial⟩, trivial⟩ hy⟩) rfl
    · cases hr
  · cases hr
/-! spec.l02Square -/
noncomputable def spec_l02Square_LO (v25 : Int) (v26 : Int) (v27 : List Nat) : LOr := fun id e L =>
  match id with
  | _ => .fail
noncomputable def spec_l02Square_tab : List (FuncId × DFn × Bool) := [(61, spec_l02Is_F, true)]
theorem spec_l02Square_hO : OrcOk Try.prog (tabD spec_l02Square_tab) (tabM spec_l02Square_tab) := tabD_cons spec_l02Is_Fok (tabD_nil _)
noncomputable def spec_l02Square_T (v25 : Int) (v26 : Int) (v27 : List Nat) : Tree (Bool) :=
  (.call (spec_l02Is_g v25 v26 v27) fun v45 =>
  (.br v45 (
   .leaf (decide (v25 = v26))
  ) (
   .leaf false
  )))

noncomputable def spec_l02Square_g (v25 : Int) (v26 : Int) (v27 : List Nat) : Option (Bool) := (spec_l02Square_T v25 v26 v27).run
def spec_l02Square_enc (v25 : Int) (v26 : Int) (v27 : List Nat) (y : Bool) : Rs := (.bool y, [])
theorem spec_l02Square_den (v25 : Int) (v26 : Int) (v27 : List Nat) : (den TT (tabD spec_l02Square_tab) (tabM spec_l02Square_tab) (spec_l02Square_LO v25 v26 v27) (codeOf Try.f57) ([.bptr (BR.root 0) [.int .i64 v25, .int .i64 v26, .bslc (BR.root 1) (.f32 v27)]] ++ List.replicate (Try.f57.ntmps - ([.bptr (BR.root 0) [.int .i64 v25, .int .i64 v26, .bslc (BR.root 1) (.f32 v27)]] : List DV).length) .undef) []).bind (retD TT Try.f57.results.toList 0) = (spec_l02Square_T v25 v26 v27).bind fun y => .leaf (spec_l02Square_enc v25 v26 v27 y) := by kernel_rfl
theorem spec_l02Square_fn (v25 : Int) (v26 : Int) (v27 : List Nat) (F : Fr) (hm : F.ids.length = 0) (h0 : St F [] F.H0) (hA : DVs.Ok F [] [.bptr (BR.root 0) [.int .i64 v25, .int .i64 v26, .bslc (BR.root 1) (.f32 v27)]]) {y : Bool} (hy : spec_l02Square_g v25 v26 v27 = some y) : ∃ H', FnOk Try.prog 57 (DVs.av F [.bptr (BR.root 0) [.int .i64 v25, .int .i64 v26, .bslc (BR.root 1) (.f32 v27)]]) F.H0 ((spec_l02Square_enc v25 v26 v27 y).1.av F) H' ∧ St F (spec_l02Square_enc v25 v26 v27 y).2 H' ∧ (spec_l02Square_enc v25 v26 v27 y).1.Ok F (spec_l02Square_enc v25 v26 v27 y).2 :=
  fn_fin tok spec_l02Square_hO mixed Try.func57 Try.call57 (by kernel_rfl) (LoopsOk_eq (l := []) (by kernel_rfl) trivial) (spec_l02Square_den v25 v26 v27) hy hm h0 hA
noncomputable def spec_l02Square_F : DFn := fun args L =>
  match args with
  | [a1] =>
    optT (cellsOf L 3 a1) fun cs0 =>
    (match cs0 with
    | [.int .i64 v25, .int .i64 v26, a2] =>
    optT (rowF32 L a2) fun v27 =>
    .call (spec_l02Square_g v25 v26 v27) fun y => .leaf (.bool y, L)
    | _ => .fail)
  | _ => .fail
theorem spec_l02Square_Fok : COk Try.prog 57 spec_l02Square_F true := by
  intro F L H args r L' hs ha hr
  unfold spec_l02Square_F at hr
  split at hr
  · rename_i a1
    obtain ⟨cs0, hcp0, hr⟩ := optT_run hr
    split at hr
    · rename_i v25 v26 a2
      obtain ⟨v27, hv27, hr⟩ := optT_run hr
      simp only [Tree.run] at hr
      obtain ⟨y, hy, hr⟩ := Option.bind_eq_some_iff.1 hr
      simp only [Tree.run, Option.some.injEq, Prod.mk.injEq] at hr
      obtain ⟨rfl, rfl⟩ := hr
      exact call_ok0 hs (fun k => (([a1.av F, a2.av F] : List AV)[k]?).getD .top) [a1] [.bptr (BR.root 0) [.int .i64 v25, .int .i64 v26, .bslc (BR.root 1) (.f32 v27)]] (fun F' h0 hi hρ => ⟨by simp [DVs.av, DV.av, BR.av, hρ], spec_l02Square_fn v25 v26 v27 F' (by rw [hi]; rfl) (st_nil hi) ⟨bptr_ok hi (by rw [h0]; simpa [DVs.av, DV.av, BR.av, hρ] using (cellsOf_ok hs (DVs.okAt ha 0 rfl) hcp0).1) ⟨trivial, trivial, bslc_ok hi (by rw [h0, hρ]; exact rowF32_ok hs (DVs.okAt (cellsOf_ok hs (DVs.okAt ha 0 rfl) hcp0).2 2 rfl) hv27), trivial⟩, trivial⟩ hy⟩) rfl
    · cases hr
  · cases hr
/-! spec.l02Zero -/
noncomputable def spec_l02Zero_LO (v48 : Int) (v49 : Int) : LOr := fun id e L =>
  match id with
  | _ => .fail
noncomputable def spec_l02Zero_tab : List (FuncId × DFn × Bool) := []
theorem spec_l02Zero_hO : OrcOk Try.prog (tabD spec_l02Zero_tab) (tabM spec_l02Zero_tab) := tabD_nil _
noncomputable def spec_l02Zero_T (v48 : Int) (v49 : Int) : Tree (Int × Int) :=
  (.need (IntKind.i64.wrap (v48 * v49) = IntKind.i64.wrap (v48 * v49)) <|
  (.grd (inb (IntKind.i64.wrap (v48 * v49)) (maxN + 1)) <|
  .leaf (v48, v49)))

noncomputable def spec_l02Zero_g (v48 : Int) (v49 : Int) : Option (Int × Int) := (spec_l02Zero_T v48 v49).run
def spec_l02Zero_enc (v48 : Int) (v49 : Int) (y : Int × Int) : Rs := (.agg [.int .i64 y.1, .int .i64 y.2, .own 0 0 ((List.replicate (Int.toNat (IntKind.i64.wrap (v48 * v49))) (0 : Nat)).length)], [.row (.f32 (List.replicate (Int.toNat (IntKind.i64.wrap (v48 * v49))) (0 : Nat))) 0])
theorem spec_l02Zero_den (v48 : Int) (v49 : Int) : (den TT (tabD spec_l02Zero_tab) (tabM spec_l02Zero_tab) (spec_l02Zero_LO v48 v49) (codeOf Try.f133) ([.int .i64 v48, .int .i64 v49] ++ List.replicate (Try.f133.ntmps - ([.int .i64 v48, .int .i64 v49] : List DV).length) .undef) []).bind (retD TT Try.f133.results.toList 0) = (spec_l02Zero_T v48 v49).bind fun y => .leaf (spec_l02Zero_enc v48 v49 y) := by kernel_rfl
theorem spec_l02Zero_fn (v48 : Int) (v49 : Int) (F : Fr) (hm : F.ids.length = 0) (h0 : St F [] F.H0) (hA : DVs.Ok F [] [.int .i64 v48, .int .i64 v49]) {y : Int × Int} (hy : spec_l02Zero_g v48 v49 = some y) : ∃ H', FnOk Try.prog 133 (DVs.av F [.int .i64 v48, .int .i64 v49]) F.H0 ((spec_l02Zero_enc v48 v49 y).1.av F) H' ∧ St F (spec_l02Zero_enc v48 v49 y).2 H' ∧ (spec_l02Zero_enc v48 v49 y).1.Ok F (spec_l02Zero_enc v48 v49 y).2 :=
  fn_fin tok spec_l02Zero_hO mixed Try.func133 Try.call133 (by kernel_rfl) (LoopsOk_eq (l := []) (by kernel_rfl) trivial) (spec_l02Zero_den v48 v49) hy hm h0 hA
noncomputable def spec_l02Zero_F : DFn := fun args L =>
  match args with
  | [.int .i64 v48, .int .i64 v49] =>
    .call (spec_l02Zero_g v48 v49) fun y => .leaf (.agg [.int .i64 y.1, .int .i64 y.2, .own (L.length + 0) 0 ((List.replicate (Int.toNat (IntKind.i64.wrap (v48 * v49))) (0 : Nat)).length)], L ++ [.row (.f32 (List.replicate (Int.toNat (IntKind.i64.wrap (v48 * v49))) (0 : Nat))) 0])
  | _ => .fail
theorem spec_l02Zero_Fok : COk Try.prog 133 spec_l02Zero_F true := by
  intro F L H args r L' hs ha hr
  unfold spec_l02Zero_F at hr
  split at hr
  · rename_i v48 v49
    simp only [Tree.run] at hr
    obtain ⟨y, hy, hr⟩ := Option.bind_eq_some_iff.1 hr
    simp only [Tree.run, Option.some.injEq, Prod.mk.injEq] at hr
    obtain ⟨rfl, rfl⟩ := hr
    exact call_ok1 hs (fun k => (([] : List AV)[k]?).getD .top) [.int .i64 v48, .int .i64 v49] [.int .i64 v48, .int .i64 v49] (fun F' h0 hi hρ => ⟨by simp [DVs.av, DV.av, BR.av, hρ], spec_l02Zero_fn v48 v49 F' (by rw [hi]; rfl) (st_nil hi) ⟨trivial, trivial, trivial⟩ hy⟩) rfl rfl
  · cases hr
/-! spec.l02Unit -/
noncomputable def spec_l02Unit_l0_T (v47 : Int) (v59 : Int) (v60 : Int) (s : Int × (List Nat)) : Tree ((Int × (List Nat)) ⊕ ((List Nat))) :=
  (.br (decide (s.1 < v47)) (
   (.grd (inb (IntKind.i64.wrap ((IntKind.i64.wrap (s.1 * v47)) + s.1)) ((s.2).length)) <|
   .leaf (.inl (IntKind.i64.wrap (s.1 + (1 : Int)), List.set s.2 (Int.toNat (IntKind.i64.wrap ((IntKind.i64.wrap (s.1 * v47)) + s.1))) (1065353216 : Nat))))
  ) (
   .leaf (.inr s.2)
  ))

noncomputable def spec_l02Unit_l0_g (v47 : Int) (v59 : Int) (v60 : Int) (s0 : Int × (List Nat)) : Option ((List Nat)) := whileM (fun s => (spec_l02Unit_l0_T v47 v59 v60 s).run) s0
def spec_l02Unit_l0_E (v47 : Int) (v59 : Int) (v60 : Int) (s : Int × (List Nat)) : Sd := ([.int .i64 v47, .top, .ptr 0 (0 : Nat) 0 (3 : Nat), .ptr 1 (0 : Nat) 0 (3 : Nat), .int .i64 s.1, .top, .top, .top, .top, .top, .top, .top, .top, .top, .top, .top, .top, .top, .top, .top, .top, .top], [.gen [.int .i64 (0 : Int), .int .i64 (0 : Int), .nilslc] false 0, .gen [.int .i64 v59, .int .i64 v60, .own 2 0 ((s.2).length)] false 0, .row (.f32 s.2) 0])
def spec_l02Unit_l0_X (v47 : Int) (v59 : Int) (v60 : Int) (x : (List Nat)) : Out := (.normal, [.top, .top, .ptr 0 (0 : Nat) 0 (3 : Nat), .ptr 1 (0 : Nat) 0 (3 : Nat), .top, .top, .top, .top, .top, .top, .top, .top, .top, .top, .top, .top, .top, .top, .top, .top, .top, .top], [.gen [.int .i64 (0 : Int), .int .i64 (0 : Int), .nilslc] false 0, .gen [.int .i64 v59, .int .i64 v60, .own 2 0 ((x).length)] false 0, .row (.f32 x) 0])
def spec_l02Unit_l0_kill : List Nat := [0, 1, 0, 0, 0, 1, 1, 1, 1, 1, 1, 1, 1, 1, 1, 1, 1, 1, 1, 1, 1, 1]
def spec_l02Unit_l0_nx : Exit → List Nat
  | .exit 0 => [1, 1, 0, 0, 1, 1, 1, 1, 1, 1, 1, 1, 1, 1, 1, 1, 1, 1, 1, 1, 1, 1]
  | .ret => [1, 1, 0, 1, 1, 1, 1, 1, 1, 1, 1, 1, 1, 1, 1, 1, 1, 1, 1, 1, 1, 1]
  | _ => []
noncomputable def spec_l02Unit_LO (v47 : Int) : LOr := fun id e L =>
  match id with
  | 0 => .need (normA 0 spec_l02Unit_l0_kill e L = some (spec_l02Unit_l0_E v47 (gI (cAt L (vAt e 3) 0)) (gI (cAt L (vAt e 3) 1)) ((gI (vAt e 4)), (gRF L (cAt L (vAt e 3) 2))))) (.call (spec_l02Unit_l0_g v47 (gI (cAt L (vAt e 3) 0)) (gI (cAt L (vAt e 3) 1)) ((gI (vAt e 4)), (gRF L (cAt L (vAt e 3) 2)))) fun x => .leaf (spec_l02Unit_l0_X v47 (gI (cAt L (vAt e 3) 0)) (gI (cAt L (vAt e 3) 1)) x))
  | _ => .fail
noncomputable def spec_l02Unit_tab : List (FuncId × DFn × Bool) := [(133, spec_l02Zero_F, true)]
theorem spec_l02Unit_hO : OrcOk Try.prog (tabD spec_l02Unit_tab) (tabM spec_l02Unit_tab) := tabD_cons spec_l02Zero_Fok (tabD_nil _)
theorem spec_l02Unit_l0_be (v47 : Int) (v59 : Int) (v60 : Int) (s : Int × (List Nat)) : bodyT TT (tabD spec_l02Unit_tab) (tabM spec_l02Unit_tab) (spec_l02Unit_LO v47) 0 spec_l02Unit_l0_kill spec_l02Unit_l0_nx (bodyOf Try.f58 0) 0 (spec_l02Unit_l0_E v47 v59 v60 s) = (spec_l02Unit_l0_T v47 v59 v60 s).bind fun y => .leaf (outS (spec_l02Unit_l0_E v47 v59 v60) (spec_l02Unit_l0_X v47 v59 v60) y) := by kernel_rfl
theorem spec_l02Unit_l0_ok (v47 : Int) : LSound Try.prog 0 (spec_l02Unit_LO v47) 0 (bodyOf Try.f58 0) := by
  intro e L out h
  exact lo_ok (E := spec_l02Unit_l0_E v47 (gI (cAt L (vAt e 3) 0)) (gI (cAt L (vAt e 3) 1))) (gT := spec_l02Unit_l0_T v47 (gI (cAt L (vAt e 3) 0)) (gI (cAt L (vAt e 3) 1))) (X := spec_l02Unit_l0_X v47 (gI (cAt L (vAt e 3) 0)) (gI (cAt L (vAt e 3) 1))) (s0 := ((gI (vAt e 4)), (gRF L (cAt L (vAt e 3) 2)))) tok spec_l02Unit_hO mixed (LoopsOk_eq (l := []) (by kernel_rfl) trivial) (spec_l02Unit_l0_be v47 (gI (cAt L (vAt e 3) 0)) (gI (cAt L (vAt e 3) 1))) rfl (by intro x; rfl) h
noncomputable def spec_l02Unit_T (v47 : Int) : Tree (Int × Int × (List Nat)) :=
  (.call (spec_l02Zero_g v47 v47) fun v50 =>
  (.need (some (spec_l02Unit_l0_E v47 v50.1 v50.2 ((0 : Int), List.replicate (Int.toNat (IntKind.i64.wrap (v47 * v47))) (0 : Nat))) = some (spec_l02Unit_l0_E v47 v50.1 v50.2 ((0 : Int), List.replicate (Int.toNat (IntKind.i64.wrap (v47 * v47))) (0 : Nat)))) <|
  (.call (spec_l02Unit_l0_g v47 v50.1 v50.2 ((0 : Int), List.replicate (Int.toNat (IntKind.i64.wrap (v47 * v47))) (0 : Nat))) fun v62 =>
  .leaf (v50.1, v50.2, v62))))

noncomputable def spec_l02Unit_g (v47 : Int) : Option (Int × Int × (List Nat)) := (spec_l02Unit_T v47).run
def spec_l02Unit_enc (v47 : Int) (y : Int × Int × (List Nat)) : Rs := (.agg [.int .i64 y.1, .int .i64 y.2.1, .own 0 0 ((y.2.2).length)], [.row (.f32 y.2.2) 0])
theorem spec_l02Unit_den (v47 : Int) : (den TT (tabD spec_l02Unit_tab) (tabM spec_l02Unit_tab) (spec_l02Unit_LO v47) (codeOf Try.f58) ([.int .i64 v47] ++ List.replicate (Try.f58.ntmps - ([.int .i64 v47] : List DV).length) .undef) []).bind (retD TT Try.f58.results.toList 0) = (spec_l02Unit_T v47).bind fun y => .leaf (spec_l02Unit_enc v47 y) := by kernel_rfl
theorem spec_l02Unit_fn (v47 : Int) (F : Fr) (hm : F.ids.length = 0) (h0 : St F [] F.H0) (hA : DVs.Ok F [] [.int .i64 v47]) {y : Int × Int × (List Nat)} (hy : spec_l02Unit_g v47 = some y) : ∃ H', FnOk Try.prog 58 (DVs.av F [.int .i64 v47]) F.H0 ((spec_l02Unit_enc v47 y).1.av F) H' ∧ St F (spec_l02Unit_enc v47 y).2 H' ∧ (spec_l02Unit_enc v47 y).1.Ok F (spec_l02Unit_enc v47 y).2 :=
  fn_fin tok spec_l02Unit_hO mixed Try.func58 Try.call58 (by kernel_rfl) (LoopsOk_eq (l := [(0, bodyOf Try.f58 0)]) (by kernel_rfl) ⟨spec_l02Unit_l0_ok v47, trivial⟩) (spec_l02Unit_den v47) hy hm h0 hA
noncomputable def spec_l02Unit_F : DFn := fun args L =>
  match args with
  | [.int .i64 v47] =>
    .call (spec_l02Unit_g v47) fun y => .leaf (.agg [.int .i64 y.1, .int .i64 y.2.1, .own (L.length + 0) 0 ((y.2.2).length)], L ++ [.row (.f32 y.2.2) 0])
  | _ => .fail
theorem spec_l02Unit_Fok : COk Try.prog 58 spec_l02Unit_F true := by
  intro F L H args r L' hs ha hr
  unfold spec_l02Unit_F at hr
  split at hr
  · rename_i v47
    simp only [Tree.run] at hr
    obtain ⟨y, hy, hr⟩ := Option.bind_eq_some_iff.1 hr
    simp only [Tree.run, Option.some.injEq, Prod.mk.injEq] at hr
    obtain ⟨rfl, rfl⟩ := hr
    exact call_ok1 hs (fun k => (([] : List AV)[k]?).getD .top) [.int .i64 v47] [.int .i64 v47] (fun F' h0 hi hρ => ⟨by simp [DVs.av, DV.av, BR.av, hρ], spec_l02Unit_fn v47 F' (by rw [hi]; rfl) (st_nil hi) ⟨trivial, trivial⟩ hy⟩) rfl rfl
  · cases hr
/-! spec.l02At -/
noncomputable def spec_l02At_LO (v68 : Int) (v69 : Int) (v70 : List Nat) (v71 : Int) (v72 : Int) : LOr := fun id e L =>
  match id with
  | _ => .fail
noncomputable def spec_l02At_tab : List (FuncId × DFn × Bool) := []
theorem spec_l02At_hO : OrcOk Try.prog (tabD spec_l02At_tab) (tabM spec_l02At_tab) := tabD_nil _
noncomputable def spec_l02At_T (v69 : Int) (v70 : List Nat) (v71 : Int) (v72 : Int) : Tree (Nat) :=
  (.grd (inb (IntKind.i64.wrap ((IntKind.i64.wrap (v71 * v69)) + v72)) v70.length) <|
  .leaf (nth v70 (Int.toNat (IntKind.i64.wrap ((IntKind.i64.wrap (v71 * v69)) + v72)))))

noncomputable def spec_l02At_g (v69 : Int) (v70 : List Nat) (v71 : Int) (v72 : Int) : Option (Nat) := (spec_l02At_T v69 v70 v71 v72).run
def spec_l02At_enc (v68 : Int) (v69 : Int) (v70 : List Nat) (v71 : Int) (v72 : Int) (y : Nat) : Rs := (.flt .f32 y, [])
theorem spec_l02At_den (v68 : Int) (v69 : Int) (v70 : List Nat) (v71 : Int) (v72 : Int) : (den TT (tabD spec_l02At_tab) (tabM spec_l02At_tab) (spec_l02At_LO v68 v69 v70 v71 v72) (codeOf Try.f59) ([.bptr (BR.root 0) [.int .i64 v68, .int .i64 v69, .bslc (BR.root 1) (.f32 v70)], .int .i64 v71, .int .i64 v72] ++ List.replicate (Try.f59.ntmps - ([.bptr (BR.root 0) [.int .i64 v68, .int .i64 v69, .bslc (BR.root 1) (.f32 v70)], .int .i64 v71, .int .i64 v72] : List DV).length) .undef) []).bind (retD TT Try.f59.results.toList 0) = (spec_l02At_T v69 v70 v71 v72).bind fun y => .leaf (spec_l02At_enc v68 v69 v70 v71 v72 y) := by kernel_rfl
theorem spec_l02At_fn (v68 : Int) (v69 : Int) (v70 : List Nat) (v71 : Int) (v72 : Int) (F : Fr) (hm : F.ids.length = 0) (h0 : St F [] F.H0) (hA : DVs.Ok F [] [.bptr (BR.root 0) [.int .i64 v68, .int .i64 v69, .bslc (BR.root 1) (.f32 v70)], .int .i64 v71, .int .i64 v72]) {y : Nat} (hy : spec_l02At_g v69 v70 v71 v72 = some y) : ∃ H', FnOk Try.prog 59 (DVs.av F [.bptr (BR.root 0) [.int .i64 v68, .int .i64 v69, .bslc (BR.root 1) (.f32 v70)], .int .i64 v71, .int .i64 v72]) F.H0 ((spec_l02At_enc v68 v69 v70 v71 v72 y).1.av F) H' ∧ St F (spec_l02At_enc v68 v69 v70 v71 v72 y).2 H' ∧ (spec_l02At_enc v68 v69 v70 v71 v72 y).1.Ok F (spec_l02At_enc v68 v69 v70 v71 v72 y).2 :=
  fn_fin tok spec_l02At_hO mixed Try.func59 Try.call59 (by kernel_rfl) (LoopsOk_eq (l := []) (by kernel_rfl) trivial) (spec_l02At_den v68 v69 v70 v71 v72) hy hm h0 hA
noncomputable def spec_l02At_F : DFn := fun args L =>
  match args with
  | [a1, .int .i64 v71, .int .i64 v72] =>
    optT (cellsOf L 3 a1) fun cs0 =>
    (match cs0 with
    | [.int .i64 v68, .int .i64 v69, a2] =>
    optT (rowF32 L a2) fun v70 =>
    .call (spec_l02At_g v69 v70 v71 v72) fun y => .leaf (.flt .f32 y, L)
    | _ => .fail)
  | _ => .fail
theorem spec_l02At_Fok : COk Try.prog 59 spec_l02At_F true := by
  intro F L H args r L' hs ha hr
  unfold spec_l02At_F at hr
  split at hr
  · rename_i a1 v71 v72
    obtain ⟨cs0, hcp0, hr⟩ := optT_run hr
    split at hr
    · rename_i v68 v69 a2
      obtain ⟨v70, hv70, hr⟩ := optT_run hr
      simp only [Tree.run] at hr
      obtain ⟨y, hy, hr⟩ := Option.bind_eq_some_iff.1 hr
      simp only [Tree.run, Option.some.injEq, Prod.mk.injEq] at hr
      obtain ⟨rfl, rfl⟩ := hr
      exact call_ok0 hs (fun k => (([a1.av F, a2.av F] : List AV)[k]?).getD .top) [a1, .int .i64 v71, .int .i64 v72] [.bptr (BR.root 0) [.int .i64 v68, .int .i64 v69, .bslc (BR.root 1) (.f32 v70)], .int .i64 v71, .int .i64 v72] (fun F' h0 hi hρ => ⟨by simp [DVs.av, DV.av, BR.av, hρ], spec_l02At_fn v68 v69 v70 v71 v72 F' (by rw [hi]; rfl) (st_nil hi) ⟨bptr_ok hi (by rw [h0]; simpa [DVs.av, DV.av, BR.av, hρ] using (cellsOf_ok hs (DVs.okAt ha 0 rfl) hcp0).1) ⟨trivial, trivial, bslc_ok hi (by rw [h0, hρ]; exact rowF32_ok hs (DVs.okAt (cellsOf_ok hs (DVs.okAt ha 0 rfl) hcp0).2 2 rfl) hv70), trivial⟩, trivial, trivial, trivial⟩ hy⟩) rfl
    · cases hr
  · cases hr
/-! spec.MiddleFactor -/
noncomputable def spec_MiddleFactor_l2_T (v411 : Int) (v414 : Int) (v415 : Int) (v416 : List Nat) (v417 : List Nat) (s : Nat × Int) : Tree ((Nat × Int) ⊕ (Nat)) :=
  (.br (decide (s.2 < v411)) (
   (.grd (inb s.2 ((v416).length)) <|
   (.call (spec_l02At_g v415 v417 v411 s.2) fun v418 =>
   (.call (spec_l02At_g v415 v417 v411 s.2) fun v419 =>
   .leaf (.inl (fsub .f32 s.1 (fmul .f32 (fmul .f32 (nth v416 (Int.toNat s.2)) v418) v419), IntKind.i64.wrap (s.2 + (1 : Int)))))))
  ) (
   .leaf (.inr s.1)
  ))

noncomputable def spec_MiddleFactor_l2_g (v411 : Int) (v414 : Int) (v415 : Int) (v416 : List Nat) (v417 : List Nat) (s0 : Nat × Int) : Option (Nat) := whileM (fun s => (spec_MiddleFactor_l2_T v411 v414 v415 v416 v417 s).run) s0
def spec_MiddleFactor_l2_E (v22 : Int) (v23 : Int) (v24 : List Nat) (v411 : Int) (v414 : Int) (v415 : Int) (v416 : List Nat) (v417 : List Nat) (s : Nat × Int) : Sd := ([.top, .ptr 0 (0 : Nat) 0 (3 : Nat), .ptr 1 (0 : Nat) 0 (3 : Nat), .top, .top, .int .i64 v22, .ptr 2 (0 : Nat) 0 (3 : Nat), .own 3 0 ((v416).length), .int .i64 v411, .flt .f32 s.1, .int .i64 s.2, .top, .top, .top, .top, .top, .top, .top, .top, .top, .top, .top, .top, .top, .top, .top, .top, .top, .top, .top, .top, .top, .top, .top, .top, .top, .top, .top, .top, .top, .top, .top, .top, .top, .top, .top, .top, .top, .top, .top, .top, .top, .top, .top, .top, .top, .top, .top, .top, .top, .top, .top, .top, .top, .top, .top, .top, .top, .top, .top, .top, .top, .top, .top, .top, .top, .top, .top, .top, .top, .top, .top, .top, .top, .top, .top, .top, .top, .top, .top, .top, .top, .top, .top, .top, .top, .top, .top, .top, .top, .top, .top, .top, .top, .top, .top], [.gen [.int .i64 v22, .int .i64 v23, .bslc (BR.root 0) (.f32 v24)] false 0, .gen [.int .i64 (0 : Int), .int .i64 (0 : Int), .nilslc] false 0, .gen [.int .i64 v414, .int .i64 v415, .own 4 0 ((v417).length)] false 0, .row (.f32 v416) 0, .row (.f32 v417) 0])
def spec_MiddleFactor_l2_X (v22 : Int) (v23 : Int) (v24 : List Nat) (v411 : Int) (v414 : Int) (v415 : Int) (v416 : List Nat) (v417 : List Nat) (x : Nat) : Out := (.normal, [.top, .ptr 0 (0 : Nat) 0 (3 : Nat), .ptr 1 (0 : Nat) 0 (3 : Nat), .top, .top, .int .i64 v22, .ptr 2 (0 : Nat) 0 (3 : Nat), .own 3 0 ((v416).length), .int .i64 v411, .flt .f32 x, .top, .top, .top, .top, .top, .top, .top, .top, .top, .top, .top, .top, .top, .top, .top, .top, .top, .top, .top, .top, .top, .top, .top, .top, .top, .top, .top, .top, .top, .top, .top, .top, .top, .top, .top, .top, .top, .top, .top, .top, .top, .top, .top, .top, .top, .top, .top, .top, .top, .top, .top, .top, .top, .top, .top, .top, .top, .top, .top, .top, .top, .top, .top, .top, .top, .top, .top, .top, .top, .top, .top, .top, .top, .top, .top, .top, .top, .top, .top, .top, .top, .top, .top, .top, .top, .top, .top, .top, .top, .top, .top, .top, .top, .top, .top, .top], [.gen [.int .i64 v22, .int .i64 v23, .bslc (BR.root 0) (.f32 v24)] false 0, .gen [.int .i64 (0 : Int), .int .i64 (0 : Int), .nilslc] false 0, .gen [.int .i64 v414, .int .i64 v415, .own 4 0 ((v417).length)] false 0, .row (.f32 v416) 0, .row (.f32 v417) 0])
def spec_MiddleFactor_l2_kill : List Nat := [1, 0, 0, 1, 1, 0, 0, 0, 0, 0, 0, 1, 1, 1, 1, 1, 1, 1, 1, 1, 1, 1, 1, 1, 1, 1, 1, 1, 1, 1, 1, 1, 1, 1, 1, 1, 1, 1, 1, 1, 1, 1, 1, 1, 1, 1, 1, 1, 1, 1, 1, 1, 1, 1, 1, 1, 1, 1, 1, 1, 1, 1, 1, 1, 1, 1, 1, 1, 1, 1, 1, 1, 1, 1, 1, 1, 1, 1, 1, 1, 1, 1, 1, 1, 1, 1, 1, 1, 1, 1, 1, 1, 1, 1, 1, 1, 1, 1, 1, 1, 1, 1, 1, 1, 1, 1]
def spec_MiddleFactor_l2_nx : Exit → List Nat
  | .exit 0 => [1, 1, 0, 1, 1, 1, 0, 0, 1, 1, 1, 1, 1, 1, 1, 1, 1, 1, 1, 1, 1, 1, 1, 1, 1, 1, 1, 1, 1, 1, 1, 1, 1, 1, 1, 1, 1, 1, 1, 1, 1, 1, 1, 1, 1, 1, 1, 1, 1, 1, 1, 1, 1, 1, 1, 1, 1, 1, 1, 1, 1, 1, 1, 1, 1, 1, 1, 1, 1, 1, 1, 1, 1, 1, 1, 1, 1, 1, 1, 1, 1, 1, 1, 1, 1, 1, 1, 1, 1, 1, 1, 1, 1, 1, 1, 1, 1, 1, 1, 1, 1, 1, 1, 1, 1, 1]
  | .exit 1 => [1, 0, 0, 1, 1, 0, 0, 0, 0, 1, 1, 1, 1, 1, 1, 1, 1, 1, 1, 1, 1, 1, 1, 1, 1, 1, 1, 1, 1, 1, 1, 1, 1, 1, 1, 1, 1, 1, 1, 1, 1, 1, 1, 1, 1, 1, 1, 1, 1, 1, 1, 1, 1, 1, 1, 1, 1, 1, 1, 1, 1, 1, 1, 1, 1, 1, 1, 1, 1, 1, 1, 1, 1, 1, 1, 1, 1, 1, 1, 1, 1, 1, 1, 1, 1, 1, 1, 1, 1, 1, 1, 1, 1, 1, 1, 1, 1, 1, 1, 1, 1, 1, 1, 1, 1, 1]
  | .exit 2 => [1, 0, 0, 1, 1, 0, 0, 0, 0, 0, 1, 1, 1, 1, 1, 1, 1, 1, 1, 1, 1, 1, 1, 1, 1, 1, 1, 1, 1, 1, 1, 1, 1, 1, 1, 1, 1, 1, 1, 1, 1, 1, 1, 1, 1, 1, 1, 1, 1, 1, 1, 1, 1, 1, 1, 1, 1, 1, 1, 1, 1, 1, 1, 1, 1, 1, 1, 1, 1, 1, 1, 1, 1, 1, 1, 1, 1, 1, 1, 1, 1, 1, 1, 1, 1, 1, 1, 1, 1, 1, 1, 1, 1, 1, 1, 1, 1, 1, 1, 1, 1, 1, 1, 1, 1, 1]
  | .ret => [1, 1, 0, 0, 0, 1, 1, 1, 1, 1, 1, 1, 1, 1, 1, 1, 1, 1, 1, 1, 1, 1, 1, 1, 1, 1, 1, 1, 1, 1, 1, 1, 1, 1, 1, 1, 1, 1, 1, 1, 1, 1, 1, 1, 1, 1, 1, 1, 1, 1, 1, 1, 1, 1, 1, 1, 1, 1, 1, 1, 1, 1, 1, 1, 1, 1, 1, 1, 1, 1, 1, 1, 1, 1, 1, 1, 1, 1, 1, 1, 1, 1, 1, 1, 1, 1, 1, 1, 1, 1, 1, 1, 1, 1, 1, 1, 1, 1, 1, 1, 1, 1, 1, 1, 1, 1]
  | _ => []
noncomputable def spec_MiddleFactor_l6_T (v535 : Int) (v536 : Nat) (v537 : Int) (v540 : Int) (v541 : Int) (v542 : List Nat) (v543 : List Nat) (s : Nat × Int) : Tree ((Nat × Int) ⊕ (Nat)) :=
  (.br (decide (s.2 < v535)) (
   (.grd (inb s.2 ((v542).length)) <|
   (.call (spec_l02At_g v541 v543 v537 s.2) fun v544 =>
   (.call (spec_l02At_g v541 v543 v535 s.2) fun v545 =>
   .leaf (.inl (fsub .f32 s.1 (fmul .f32 (fmul .f32 (nth v542 (Int.toNat s.2)) v544) v545), IntKind.i64.wrap (s.2 + (1 : Int)))))))
  ) (
   .leaf (.inr s.1)
  ))

noncomputable def spec_MiddleFactor_l6_g (v535 : Int) (v536 : Nat) (v537 : Int) (v540 : Int) (v541 : Int) (v542 : List Nat) (v543 : List Nat) (s0 : Nat × Int) : Option (Nat) := whileM (fun s => (spec_MiddleFactor_l6_T v535 v536 v537 v540 v541 v542 v543 s).run) s0
def spec_MiddleFactor_l6_E (v22 : Int) (v23 : Int) (v24 : List Nat) (v535 : Int) (v536 : Nat) (v537 : Int) (v540 : Int) (v541 : Int) (v542 : List Nat) (v543 : List Nat) (s : Nat × Int) : Sd := ([.top, .ptr 0 (0 : Nat) 0 (3 : Nat), .ptr 1 (0 : Nat) 0 (3 : Nat), .top, .top, .int .i64 v22, .ptr 2 (0 : Nat) 0 (3 : Nat), .own 3 0 ((v542).length), .int .i64 v535, .flt .f32 v536, .top, .int .i64 v537, .flt .f32 s.1, .int .i64 s.2, .top, .top, .top, .top, .top, .top, .top, .top, .top, .top, .top, .top, .top, .top, .top, .top, .top, .top, .top, .top, .top, .top, .top, .top, .top, .top, .top, .top, .top, .top, .top, .top, .top, .top, .top, .top, .top, .top, .top, .top, .top, .top, .top, .top, .top, .top, .top, .top, .top, .top, .top, .top, .top, .top, .top, .top, .top, .top, .top, .top, .top, .top, .top, .top, .top, .top, .top, .top, .top, .top, .top, .top, .top, .top, .top, .top, .top, .top, .top, .top, .top, .top, .top, .top, .top, .top, .top, .top, .top, .top, .top, .top], [.gen [.int .i64 v22, .int .i64 v23, .bslc (BR.root 0) (.f32 v24)] false 0, .gen [.int .i64 (0 : Int), .int .i64 (0 : Int), .nilslc] false 0, .gen [.int .i64 v540, .int .i64 v541, .own 4 0 ((v543).length)] false 0, .row (.f32 v542) 0, .row (.f32 v543) 0])
def spec_MiddleFactor_l6_X (v22 : Int) (v23 : Int) (v24 : List Nat) (v535 : Int) (v536 : Nat) (v537 : Int) (v540 : Int) (v541 : Int) (v542 : List Nat) (v543 : List Nat) (x : Nat) : Out := (.normal, [.top, .ptr 0 (0 : Nat) 0 (3 : Nat), .ptr 1 (0 : Nat) 0 (3 : Nat), .top, .top, .int .i64 v22, .ptr 2 (0 : Nat) 0 (3 : Nat), .own 3 0 ((v542).length), .int .i64 v535, .flt .f32 v536, .top, .int .i64 v537, .flt .f32 x, .top, .top, .top, .top, .top, .top, .top, .top, .top, .top, .top, .top, .top, .top, .top, .top, .top, .top, .top, .top, .top, .top, .top, .top, .top, .top, .top, .top, .top, .top, .top, .top, .top, .top, .top, .top, .top, .top, .top, .top, .top, .top, .top, .top, .top, .top, .top, .top, .top, .top, .top, .top, .top, .top, .top, .top, .top, .top, .top, .top, .top, .top, .top, .top, .top, .top, .top, .top, .top, .top, .top, .top, .top, .top, .top, .top, .top, .top, .top, .top, .top, .top, .top, .top, .top, .top, .top, .top, .top, .top, .top, .top, .top], [.gen [.int .i64 v22, .int .i64 v23, .bslc (BR.root 0) (.f32 v24)] false 0, .gen [.int .i64 (0 : Int), .int .i64 (0 : Int), .nilslc] false 0, .gen [.int .i64 v540, .int .i64 v541, .own 4 0 ((v543).length)] false 0, .row (.f32 v542) 0, .row (.f32 v543) 0])
def spec_MiddleFactor_l6_kill : List Nat := [1, 0, 0, 1, 1, 0, 0, 0, 0, 0, 1, 0, 0, 0, 1, 1, 1, 1, 1, 1, 1, 1, 1, 1, 1, 1, 1, 1, 1, 1, 1, 1, 1, 1, 1, 1, 1, 1, 1, 1, 1, 1, 1, 1, 1, 1, 1, 1, 1, 1, 1, 1, 1, 1, 1, 1, 1, 1, 1, 1, 1, 1, 1, 1, 1, 1, 1, 1, 1, 1, 1, 1, 1, 1, 1, 1, 1, 1, 1, 1, 1, 1, 1, 1, 1, 1, 1, 1, 1, 1, 1, 1, 1, 1, 1, 1, 1, 1, 1, 1, 1, 1, 1, 1, 1, 1]
def spec_MiddleFactor_l6_nx : Exit → List Nat
  | .exit 0 => [1, 1, 0, 1, 1, 1, 0, 0, 1, 1, 1, 1, 1, 1, 1, 1, 1, 1, 1, 1, 1, 1, 1, 1, 1, 1, 1, 1, 1, 1, 1, 1, 1, 1, 1, 1, 1, 1, 1, 1, 1, 1, 1, 1, 1, 1, 1, 1, 1, 1, 1, 1, 1, 1, 1, 1, 1, 1, 1, 1, 1, 1, 1, 1, 1, 1, 1, 1, 1, 1, 1, 1, 1, 1, 1, 1, 1, 1, 1, 1, 1, 1, 1, 1, 1, 1, 1, 1, 1, 1, 1, 1, 1, 1, 1, 1, 1, 1, 1, 1, 1, 1, 1, 1, 1, 1]
  | .exit 1 => [1, 0, 0, 1, 1, 0, 0, 0, 0, 1, 1, 1, 1, 1, 1, 1, 1, 1, 1, 1, 1, 1, 1, 1, 1, 1, 1, 1, 1, 1, 1, 1, 1, 1, 1, 1, 1, 1, 1, 1, 1, 1, 1, 1, 1, 1, 1, 1, 1, 1, 1, 1, 1, 1, 1, 1, 1, 1, 1, 1, 1, 1, 1, 1, 1, 1, 1, 1, 1, 1, 1, 1, 1, 1, 1, 1, 1, 1, 1, 1, 1, 1, 1, 1, 1, 1, 1, 1, 1, 1, 1, 1, 1, 1, 1, 1, 1, 1, 1, 1, 1, 1, 1, 1, 1, 1]
  | .exit 4 => [1, 0, 0, 1, 1, 0, 0, 0, 0, 1, 1, 1, 1, 1, 1, 1, 1, 1, 1, 1, 1, 1, 1, 1, 1, 1, 1, 1, 1, 1, 1, 1, 1, 1, 1, 1, 1, 1, 1, 1, 1, 1, 1, 1, 1, 1, 1, 1, 1, 1, 1, 1, 1, 1, 1, 1, 1, 1, 1, 1, 1, 1, 1, 1, 1, 1, 1, 1, 1, 1, 1, 1, 1, 1, 1, 1, 1, 1, 1, 1, 1, 1, 1, 1, 1, 1, 1, 1, 1, 1, 1, 1, 1, 1, 1, 1, 1, 1, 1, 1, 1, 1, 1, 1, 1, 1]
  | .exit 5 => [1, 0, 0, 1, 1, 0, 0, 0, 0, 0, 1, 0, 1, 1, 1, 1, 1, 1, 1, 1, 1, 1, 1, 1, 1, 1, 1, 1, 1, 1, 1, 1, 1, 1, 1, 1, 1, 1, 1, 1, 1, 1, 1, 1, 1, 1, 1, 1, 1, 1, 1, 1, 1, 1, 1, 1, 1, 1, 1, 1, 1, 1, 1, 1, 1, 1, 1, 1, 1, 1, 1, 1, 1, 1, 1, 1, 1, 1, 1, 1, 1, 1, 1, 1, 1, 1, 1, 1, 1, 1, 1, 1, 1, 1, 1, 1, 1, 1, 1, 1, 1, 1, 1, 1, 1, 1]
  | .exit 6 => [1, 0, 0, 1, 1, 0, 0, 0, 0, 0, 1, 0, 0, 1, 1, 1, 1, 1, 1, 1, 1, 1, 1, 1, 1, 1, 1, 1, 1, 1, 1, 1, 1, 1, 1, 1, 1, 1, 1, 1, 1, 1, 1, 1, 1, 1, 1, 1, 1, 1, 1, 1, 1, 1, 1, 1, 1, 1, 1, 1, 1, 1, 1, 1, 1, 1, 1, 1, 1, 1, 1, 1, 1, 1, 1, 1, 1, 1, 1, 1, 1, 1, 1, 1, 1, 1, 1, 1, 1, 1, 1, 1, 1, 1, 1, 1, 1, 1, 1, 1, 1, 1, 1, 1, 1, 1]
  | .ret => [1, 1, 0, 0, 0, 1, 1, 1, 1, 1, 1, 1, 1, 1, 1, 1, 1, 1, 1, 1, 1, 1, 1, 1, 1, 1, 1, 1, 1, 1, 1, 1, 1, 1, 1, 1, 1, 1, 1, 1, 1, 1, 1, 1, 1, 1, 1, 1, 1, 1, 1, 1, 1, 1, 1, 1, 1, 1, 1, 1, 1, 1, 1, 1, 1, 1, 1, 1, 1, 1, 1, 1, 1, 1, 1, 1, 1, 1, 1, 1, 1, 1, 1, 1, 1, 1, 1, 1, 1, 1, 1, 1, 1, 1, 1, 1, 1, 1, 1, 1, 1, 1, 1, 1, 1, 1]
  | _ => []
noncomputable def spec_MiddleFactor_l4_T (v22 : Int) (v23 : Int) (v24 : List Nat) (v505 : Int) (v506 : Nat) (v508 : Int) (v509 : Int) (v510 : List Nat) (s : Int × (List Nat)) : Tree ((Int × (List Nat)) ⊕ ((List Nat))) :=
  (.br (decide (s.1 < v22)) (
   (.call (spec_l02At_g v23 v24 s.1 v505) fun v512 =>
   (.need (some (spec_MiddleFactor_l6_E v22 v23 v24 v505 v506 s.1 v508 v509 v510 s.2 (v512, (0 : Int))) = some (spec_MiddleFactor_l6_E v22 v23 v24 v505 v506 s.1 v508 v509 v510 s.2 (v512, (0 : Int)))) <|
   (.call (spec_MiddleFactor_l6_g v505 v506 s.1 v508 v509 v510 s.2 (v512, (0 : Int))) fun v546 =>
   (.grd (inb (IntKind.i64.wrap ((IntKind.i64.wrap (s.1 * v22)) + v505)) ((s.2).length)) <|
   .leaf (.inl (IntKind.i64.wrap (s.1 + (1 : Int)), List.set s.2 (Int.toNat (IntKind.i64.wrap ((IntKind.i64.wrap (s.1 * v22)) + v505))) (fdiv .f32 v546 v506)))))))
  ) (
   .leaf (.inr s.2)
  ))

noncomputable def spec_MiddleFactor_l4_g (v22 : Int) (v23 : Int) (v24 : List Nat) (v505 : Int) (v506 : Nat) (v508 : Int) (v509 : Int) (v510 : List Nat) (s0 : Int × (List Nat)) : Option ((List Nat)) := whileM (fun s => (spec_MiddleFactor_l4_T v22 v23 v24 v505 v506 v508 v509 v510 s).run) s0
def spec_MiddleFactor_l4_E (v22 : Int) (v23 : Int) (v24 : List Nat) (v505 : Int) (v506 : Nat) (v508 : Int) (v509 : Int) (v510 : List Nat) (s : Int × (List Nat)) : Sd := ([.top, .ptr 0 (0 : Nat) 0 (3 : Nat), .ptr 1 (0 : Nat) 0 (3 : Nat), .top, .top, .int .i64 v22, .ptr 2 (0 : Nat) 0 (3 : Nat), .own 3 0 ((v510).length), .int .i64 v505, .flt .f32 v506, .top, .int .i64 s.1, .top, .top, .top, .top, .top, .top, .top, .top, .top, .top, .top, .top, .top, .top, .top, .top, .top, .top, .top, .top, .top, .top, .top, .top, .top, .top, .top, .top, .top, .top, .top, .top, .top, .top, .top, .top, .top, .top, .top, .top, .top, .top, .top, .top, .top, .top, .top, .top, .top, .top, .top, .top, .top, .top, .top, .top, .top, .top, .top, .top, .top, .top, .top, .top, .top, .top, .top, .top, .top, .top, .top, .top, .top, .top, .top, .top, .top, .top, .top, .top, .top, .top, .top, .top, .top, .top, .top, .top, .top, .top, .top, .top, .top, .top], [.gen [.int .i64 v22, .int .i64 v23, .bslc (BR.root 0) (.f32 v24)] false 0, .gen [.int .i64 (0 : Int), .int .i64 (0 : Int), .nilslc] false 0, .gen [.int .i64 v508, .int .i64 v509, .own 4 0 ((s.2).length)] false 0, .row (.f32 v510) 0, .row (.f32 s.2) 0])
def spec_MiddleFactor_l4_X (v22 : Int) (v23 : Int) (v24 : List Nat) (v505 : Int) (v506 : Nat) (v508 : Int) (v509 : Int) (v510 : List Nat) (x : (List Nat)) : Out := (.normal, [.top, .ptr 0 (0 : Nat) 0 (3 : Nat), .ptr 1 (0 : Nat) 0 (3 : Nat), .top, .top, .int .i64 v22, .ptr 2 (0 : Nat) 0 (3 : Nat), .own 3 0 ((v510).length), .int .i64 v505, .top, .top, .top, .top, .top, .top, .top, .top, .top, .top, .top, .top, .top, .top, .top, .top, .top, .top, .top, .top, .top, .top, .top, .top, .top, .top, .top, .top, .top, .top, .top, .top, .top, .top, .top, .top, .top, .top, .top, .top, .top, .top, .top, .top, .top, .top, .top, .top, .top, .top, .top, .top, .top, .top, .top, .top, .top, .top, .top, .top, .top, .top, .top, .top, .top, .top, .top, .top, .top, .top, .top, .top, .top, .top, .top, .top, .top, .top, .top, .top, .top, .top, .top, .top, .top, .top, .top, .top, .top, .top, .top, .top, .top, .top, .top, .top, .top], [.gen [.int .i64 v22, .int .i64 v23, .bslc (BR.root 0) (.f32 v24)] false 0, .gen [.int .i64 (0 : Int), .int .i64 (0 : Int), .nilslc] false 0, .gen [.int .i64 v508, .int .i64 v509, .own 4 0 ((x).length)] false 0, .row (.f32 v510) 0, .row (.f32 x) 0])
def spec_MiddleFactor_l4_kill : List Nat := [1, 0, 0, 1, 1, 0, 0, 0, 0, 0, 1, 0, 1, 1, 1, 1, 1, 1, 1, 1, 1, 1, 1, 1, 1, 1, 1, 1, 1, 1, 1, 1, 1, 1, 1, 1, 1, 1, 1, 1, 1, 1, 1, 1, 1, 1, 1, 1, 1, 1, 1, 1, 1, 1, 1, 1, 1, 1, 1, 1, 1, 1, 1, 1, 1, 1, 1, 1, 1, 1, 1, 1, 1, 1, 1, 1, 1, 1, 1, 1, 1, 1, 1, 1, 1, 1, 1, 1, 1, 1, 1, 1, 1, 1, 1, 1, 1, 1, 1, 1, 1, 1, 1, 1, 1, 1]
def spec_MiddleFactor_l4_nx : Exit → List Nat
  | .exit 0 => [1, 1, 0, 1, 1, 1, 0, 0, 1, 1, 1, 1, 1, 1, 1, 1, 1, 1, 1, 1, 1, 1, 1, 1, 1, 1, 1, 1, 1, 1, 1, 1, 1, 1, 1, 1, 1, 1, 1, 1, 1, 1, 1, 1, 1, 1, 1, 1, 1, 1, 1, 1, 1, 1, 1, 1, 1, 1, 1, 1, 1, 1, 1, 1, 1, 1, 1, 1, 1, 1, 1, 1, 1, 1, 1, 1, 1, 1, 1, 1, 1, 1, 1, 1, 1, 1, 1, 1, 1, 1, 1, 1, 1, 1, 1, 1, 1, 1, 1, 1, 1, 1, 1, 1, 1, 1]
  | .exit 1 => [1, 0, 0, 1, 1, 0, 0, 0, 0, 1, 1, 1, 1, 1, 1, 1, 1, 1, 1, 1, 1, 1, 1, 1, 1, 1, 1, 1, 1, 1, 1, 1, 1, 1, 1, 1, 1, 1, 1, 1, 1, 1, 1, 1, 1, 1, 1, 1, 1, 1, 1, 1, 1, 1, 1, 1, 1, 1, 1, 1, 1, 1, 1, 1, 1, 1, 1, 1, 1, 1, 1, 1, 1, 1, 1, 1, 1, 1, 1, 1, 1, 1, 1, 1, 1, 1, 1, 1, 1, 1, 1, 1, 1, 1, 1, 1, 1, 1, 1, 1, 1, 1, 1, 1, 1, 1]
  | .exit 4 => [1, 0, 0, 1, 1, 0, 0, 0, 0, 1, 1, 1, 1, 1, 1, 1, 1, 1, 1, 1, 1, 1, 1, 1, 1, 1, 1, 1, 1, 1, 1, 1, 1, 1, 1, 1, 1, 1, 1, 1, 1, 1, 1, 1, 1, 1, 1, 1, 1, 1, 1, 1, 1, 1, 1, 1, 1, 1, 1, 1, 1, 1, 1, 1, 1, 1, 1, 1, 1, 1, 1, 1, 1, 1, 1, 1, 1, 1, 1, 1, 1, 1, 1, 1, 1, 1, 1, 1, 1, 1, 1, 1, 1, 1, 1, 1, 1, 1, 1, 1, 1, 1, 1, 1, 1, 1]
  | .ret => [1, 1, 0, 0, 0, 1, 1, 1, 1, 1, 1, 1, 1, 1, 1, 1, 1, 1, 1, 1, 1, 1, 1, 1, 1, 1, 1, 1, 1, 1, 1, 1, 1, 1, 1, 1, 1, 1, 1, 1, 1, 1, 1, 1, 1, 1, 1, 1, 1, 1, 1, 1, 1, 1, 1, 1, 1, 1, 1, 1, 1, 1, 1, 1, 1, 1, 1, 1, 1, 1, 1, 1, 1, 1, 1, 1, 1, 1, 1, 1, 1, 1, 1, 1, 1, 1, 1, 1, 1, 1, 1, 1, 1, 1, 1, 1, 1, 1, 1, 1, 1, 1, 1, 1, 1, 1]
  | _ => []
noncomputable def spec_MiddleFactor_l0_T (v22 : Int) (v23 : Int) (v24 : List Nat) (v388 : Int) (v389 : Int) (s : Int × (List Nat) × (List Nat)) : Tree ((Int × (List Nat) × (List Nat)) ⊕ ((Unit) ⊕ ((List Nat) × (List Nat)))) :=
  (.br (decide (s.1 < v22)) (
   (.call (spec_l02At_g v23 v24 s.1 s.1) fun v392 =>
   (.need (some (spec_MiddleFactor_l2_E v22 v23 v24 s.1 v388 v389 s.2.1 s.2.2 (v392, (0 : Int))) = some (spec_MiddleFactor_l2_E v22 v23 v24 s.1 v388 v389 s.2.1 s.2.2 (v392, (0 : Int)))) <|
   (.call (spec_MiddleFactor_l2_g s.1 v388 v389 s.2.1 s.2.2 (v392, (0 : Int))) fun v420 =>
   (.br (feq .f32 v420 (0 : Nat)) (
    .leaf (.inr (.inl ()))
   ) (
    (.br (!(spec_l01Finite_v v420)) (
     .leaf (.inr (.inl ()))
    ) (
     (.grd (fits (s.2.1 ++ ([v420] : List Nat)).length) <|
     (.need (some (spec_MiddleFactor_l4_E v22 v23 v24 s.1 v420 v388 v389 (s.2.1 ++ ([v420] : List Nat)) (IntKind.i64.wrap (s.1 + (1 : Int)), s.2.2)) = some (spec_MiddleFactor_l4_E v22 v23 v24 s.1 v420 v388 v389 (s.2.1 ++ ([v420] : List Nat)) (IntKind.i64.wrap (s.1 + (1 : Int)), s.2.2))) <|
     (.call (spec_MiddleFactor_l4_g v22 v23 v24 s.1 v420 v388 v389 (s.2.1 ++ ([v420] : List Nat)) (IntKind.i64.wrap (s.1 + (1 : Int)), s.2.2)) fun v547 =>
     .leaf (.inl (IntKind.i64.wrap (s.1 + (1 : Int)), (s.2.1 ++ ([v420] : List Nat)), v547)))))
    ))
   )))))
  ) (
   .leaf (.inr (.inr (s.2.1, s.2.2)))
  ))

noncomputable def spec_MiddleFactor_l0_g (v22 : Int) (v23 : Int) (v24 : List Nat) (v388 : Int) (v389 : Int) (s0 : Int × (List Nat) × (List Nat)) : Option ((Unit) ⊕ ((List Nat) × (List Nat))) := whileM (fun s => (spec_MiddleFactor_l0_T v22 v23 v24 v388 v389 s).run) s0
def spec_MiddleFactor_l0_E (v22 : Int) (v23 : Int) (v24 : List Nat) (v388 : Int) (v389 : Int) (s : Int × (List Nat) × (List Nat)) : Sd := ([.top, .ptr 0 (0 : Nat) 0 (3 : Nat), .ptr 1 (0 : Nat) 0 (3 : Nat), .top, .top, .int .i64 v22, .ptr 2 (0 : Nat) 0 (3 : Nat), .own 3 0 ((s.2.1).length), .int .i64 s.1, .top, .top, .top, .top, .top, .top, .top, .top, .top, .top, .top, .top, .top, .top, .top, .top, .top, .top, .top, .top, .top, .top, .top, .top, .top, .top, .top, .top, .top, .top, .top, .top, .top, .top, .top, .top, .top, .top, .top, .top, .top, .top, .top, .top, .top, .top, .top, .top, .top, .top, .top, .top, .top, .top, .top, .top, .top, .top, .top, .top, .top, .top, .top, .top, .top, .top, .top, .top, .top, .top, .top, .top, .top, .top, .top, .top, .top, .top, .top, .top, .top, .top, .top, .top, .top, .top, .top, .top, .top, .top, .top, .top, .top, .top, .top, .top, .top], [.gen [.int .i64 v22, .int .i64 v23, .bslc (BR.root 0) (.f32 v24)] false 0, .gen [.int .i64 (0 : Int), .int .i64 (0 : Int), .nilslc] false 0, .gen [.int .i64 v388, .int .i64 v389, .own 4 0 ((s.2.2).length)] false 0, .row (.f32 s.2.1) 0, .row (.f32 s.2.2) 0])
def spec_MiddleFactor_l0_X (v22 : Int) (v23 : Int) (v24 : List Nat) (v388 : Int) (v389 : Int) (x : (Unit) ⊕ ((List Nat) × (List Nat))) : Out := (match x with | .inl x => (.ret, [.top, .top, .ptr 0 (0 : Nat) 0 (3 : Nat), .nilslc, .lit false, .top, .top, .top, .top, .top, .top, .top, .top, .top, .top, .top, .top, .top, .top, .top, .top, .top, .top, .top, .top, .top, .top, .top, .top, .top, .top, .top, .top, .top, .top, .top, .top, .top, .top, .top, .top, .top, .top, .top, .top, .top, .top, .top, .top, .top, .top, .top, .top, .top, .top, .top, .top, .top, .top, .top, .top, .top, .top, .top, .top, .top, .top, .top, .top, .top, .top, .top, .top, .top, .top, .top, .top, .top, .top, .top, .top, .top, .top, .top, .top, .top, .top, .top, .top, .top, .top, .top, .top, .top, .top, .top, .top, .top, .top, .top, .top, .top, .top, .top, .top, .top], [.gen [.int .i64 (0 : Int), .int .i64 (0 : Int), .nilslc] false 0]) | .inr x => (.normal, [.top, .top, .ptr 0 (0 : Nat) 0 (3 : Nat), .top, .top, .top, .ptr 1 (0 : Nat) 0 (3 : Nat), .own 2 0 ((x.1).length), .top, .top, .top, .top, .top, .top, .top, .top, .top, .top, .top, .top, .top, .top, .top, .top, .top, .top, .top, .top, .top, .top, .top, .top, .top, .top, .top, .top, .top, .top, .top, .top, .top, .top, .top, .top, .top, .top, .top, .top, .top, .top, .top, .top, .top, .top, .top, .top, .top, .top, .top, .top, .top, .top, .top, .top, .top, .top, .top, .top, .top, .top, .top, .top, .top, .top, .top, .top, .top, .top, .top, .top, .top, .top, .top, .top, .top, .top, .top, .top, .top, .top, .top, .top, .top, .top, .top, .top, .top, .top, .top, .top, .top, .top, .top, .top, .top, .top], [.gen [.int .i64 (0 : Int), .int .i64 (0 : Int), .nilslc] false 0, .gen [.int .i64 v388, .int .i64 v389, .own 3 0 ((x.2).length)] false 0, .row (.f32 x.1) 0, .row (.f32 x.2) 0]))
def spec_MiddleFactor_l0_kill : List Nat := [1, 0, 0, 1, 1, 0, 0, 0, 0, 1, 1, 1, 1, 1, 1, 1, 1, 1, 1, 1, 1, 1, 1, 1, 1, 1, 1, 1, 1, 1, 1, 1, 1, 1, 1, 1, 1, 1, 1, 1, 1, 1, 1, 1, 1, 1, 1, 1, 1, 1, 1, 1, 1, 1, 1, 1, 1, 1, 1, 1, 1, 1, 1, 1, 1, 1, 1, 1, 1, 1, 1, 1, 1, 1, 1, 1, 1, 1, 1, 1, 1, 1, 1, 1, 1, 1, 1, 1, 1, 1, 1, 1, 1, 1, 1, 1, 1, 1, 1, 1, 1, 1, 1, 1, 1, 1]
def spec_MiddleFactor_l0_nx : Exit → List Nat
  | .exit 0 => [1, 1, 0, 1, 1, 1, 0, 0, 1, 1, 1, 1, 1, 1, 1, 1, 1, 1, 1, 1, 1, 1, 1, 1, 1, 1, 1, 1, 1, 1, 1, 1, 1, 1, 1, 1, 1, 1, 1, 1, 1, 1, 1, 1, 1, 1, 1, 1, 1, 1, 1, 1, 1, 1, 1, 1, 1, 1, 1, 1, 1, 1, 1, 1, 1, 1, 1, 1, 1, 1, 1, 1, 1, 1, 1, 1, 1, 1, 1, 1, 1, 1, 1, 1, 1, 1, 1, 1, 1, 1, 1, 1, 1, 1, 1, 1, 1, 1, 1, 1, 1, 1, 1, 1, 1, 1]
  | .ret => [1, 1, 0, 0, 0, 1, 1, 1, 1, 1, 1, 1, 1, 1, 1, 1, 1, 1, 1, 1, 1, 1, 1, 1, 1, 1, 1, 1, 1, 1, 1, 1, 1, 1, 1, 1, 1, 1, 1, 1, 1, 1, 1, 1, 1, 1, 1, 1, 1, 1, 1, 1, 1, 1, 1, 1, 1, 1, 1, 1, 1, 1, 1, 1, 1, 1, 1, 1, 1, 1, 1, 1, 1, 1, 1, 1, 1, 1, 1, 1, 1, 1, 1, 1, 1, 1, 1, 1, 1, 1, 1, 1, 1, 1, 1, 1, 1, 1, 1, 1, 1, 1, 1, 1, 1, 1]
  | _ => []
noncomputable def spec_MiddleFactor_LO (v22 : Int) (v23 : Int) (v24 : List Nat) : LOr := fun id e L =>
  match id with
  | 2 => .need (normA 0 spec_MiddleFactor_l2_kill e L = some (spec_MiddleFactor_l2_E v22 v23 v24 (gI (vAt e 8)) (gI (cAt L (vAt e 6) 0)) (gI (cAt L (vAt e 6) 1)) (gRF L (vAt e 7)) (gRF L (cAt L (vAt e 6) 2)) ((gF (vAt e 9)), (gI (vAt e 10))))) (.call (spec_MiddleFactor_l2_g (gI (vAt e 8)) (gI (cAt L (vAt e 6) 0)) (gI (cAt L (vAt e 6) 1)) (gRF L (vAt e 7)) (gRF L (cAt L (vAt e 6) 2)) ((gF (vAt e 9)), (gI (vAt e 10)))) fun x => .leaf (spec_MiddleFactor_l2_X v22 v23 v24 (gI (vAt e 8)) (gI (cAt L (vAt e 6) 0)) (gI (cAt L (vAt e 6) 1)) (gRF L (vAt e 7)) (gRF L (cAt L (vAt e 6) 2)) x))
  | 6 => .need (normA 0 spec_MiddleFactor_l6_kill e L = some (spec_MiddleFactor_l6_E v22 v23 v24 (gI (vAt e 8)) (gF (vAt e 9)) (gI (vAt e 11)) (gI (cAt L (vAt e 6) 0)) (gI (cAt L (vAt e 6) 1)) (gRF L (vAt e 7)) (gRF L (cAt L (vAt e 6) 2)) ((gF (vAt e 12)), (gI (vAt e 13))))) (.call (spec_MiddleFactor_l6_g (gI (vAt e 8)) (gF (vAt e 9)) (gI (vAt e 11)) (gI (cAt L (vAt e 6) 0)) (gI (cAt L (vAt e 6) 1)) (gRF L (vAt e 7)) (gRF L (cAt L (vAt e 6) 2)) ((gF (vAt e 12)), (gI (vAt e 13)))) fun x => .leaf (spec_MiddleFactor_l6_X v22 v23 v24 (gI (vAt e 8)) (gF (vAt e 9)) (gI (vAt e 11)) (gI (cAt L (vAt e 6) 0)) (gI (cAt L (vAt e 6) 1)) (gRF L (vAt e 7)) (gRF L (cAt L (vAt e 6) 2)) x))
  | 4 => .need (normA 0 spec_MiddleFactor_l4_kill e L = some (spec_MiddleFactor_l4_E v22 v23 v24 (gI (vAt e 8)) (gF (vAt e 9)) (gI (cAt L (vAt e 6) 0)) (gI (cAt L (vAt e 6) 1)) (gRF L (vAt e 7)) ((gI (vAt e 11)), (gRF L (cAt L (vAt e 6) 2))))) (.call (spec_MiddleFactor_l4_g v22 v23 v24 (gI (vAt e 8)) (gF (vAt e 9)) (gI (cAt L (vAt e 6) 0)) (gI (cAt L (vAt e 6) 1)) (gRF L (vAt e 7)) ((gI (vAt e 11)), (gRF L (cAt L (vAt e 6) 2)))) fun x => .leaf (spec_MiddleFactor_l4_X v22 v23 v24 (gI (vAt e 8)) (gF (vAt e 9)) (gI (cAt L (vAt e 6) 0)) (gI (cAt L (vAt e 6) 1)) (gRF L (vAt e 7)) x))
  | 0 => .need (normA 0 spec_MiddleFactor_l0_kill e L = some (spec_MiddleFactor_l0_E v22 v23 v24 (gI (cAt L (vAt e 6) 0)) (gI (cAt L (vAt e 6) 1)) ((gI (vAt e 8)), (gRF L (vAt e 7)), (gRF L (cAt L (vAt e 6) 2))))) (.call (spec_MiddleFactor_l0_g v22 v23 v24 (gI (cAt L (vAt e 6) 0)) (gI (cAt L (vAt e 6) 1)) ((gI (vAt e 8)), (gRF L (vAt e 7)), (gRF L (cAt L (vAt e 6) 2)))) fun x => .sum x (fun b0 => .leaf (spec_MiddleFactor_l0_X v22 v23 v24 (gI (cAt L (vAt e 6) 0)) (gI (cAt L (vAt e 6) 1)) (.inl b0))) (fun c0 => .leaf (spec_MiddleFactor_l0_X v22 v23 v24 (gI (cAt L (vAt e 6) 0)) (gI (cAt L (vAt e 6) 1)) (.inr c0))))
  | _ => .fail
noncomputable def spec_MiddleFactor_tab : List (FuncId × DFn × Bool) := [(57, spec_l02Square_F, true), (58, spec_l02Unit_F, true), (59, spec_l02At_F, true), (60, spec_l01Finite_F, true), (61, spec_l02Is_F, true)]
theorem spec_MiddleFactor_hO : OrcOk Try.prog (tabD spec_MiddleFactor_tab) (tabM spec_MiddleFactor_tab) := tabD_cons spec_l02Square_Fok (tabD_cons spec_l02Unit_Fok (tabD_cons spec_l02At_Fok (tabD_cons spec_l01Finite_Fok (tabD_cons spec_l02Is_Fok (tabD_nil _)))))
theorem spec_MiddleFactor_l2_be (v22 : Int) (v23 : Int) (v24 : List Nat) (v411 : Int) (v414 : Int) (v415 : Int) (v416 : List Nat) (v417 : List Nat) (s : Nat × Int) : bodyT TT (tabD spec_MiddleFactor_tab) (tabM spec_MiddleFactor_tab) (spec_MiddleFactor_LO v22 v23 v24) 0 spec_MiddleFactor_l2_kill spec_MiddleFactor_l2_nx (bodyOf Try.f16 2) 2 (spec_MiddleFactor_l2_E v22 v23 v24 v411 v414 v415 v416 v417 s) = (spec_MiddleFactor_l2_T v411 v414 v415 v416 v417 s).bind fun y => .leaf (outS (spec_MiddleFactor_l2_E v22 v23 v24 v411 v414 v415 v416 v417) (spec_MiddleFactor_l2_X v22 v23 v24 v411 v414 v415 v416 v417) y) := by kernel_rfl
theorem spec_MiddleFactor_l2_ok (v22 : Int) (v23 : Int) (v24 : List Nat) : LSound Try.prog 0 (spec_MiddleFactor_LO v22 v23 v24) 2 (bodyOf Try.f16 2) := by
  intro e L out h
  exact lo_ok (E := spec_MiddleFactor_l2_E v22 v23 v24 (gI (vAt e 8)) (gI (cAt L (vAt e 6) 0)) (gI (cAt L (vAt e 6) 1)) (gRF L (vAt e 7)) (gRF L (cAt L (vAt e 6) 2))) (gT := spec_MiddleFactor_l2_T (gI (vAt e 8)) (gI (cAt L (vAt e 6) 0)) (gI (cAt L (vAt e 6) 1)) (gRF L (vAt e 7)) (gRF L (cAt L (vAt e 6) 2))) (X := spec_MiddleFactor_l2_X v22 v23 v24 (gI (vAt e 8)) (gI (cAt L (vAt e 6) 0)) (gI (cAt L (vAt e 6) 1)) (gRF L (vAt e 7)) (gRF L (cAt L (vAt e 6) 2))) (s0 := ((gF (vAt e 9)), (gI (vAt e 10)))) tok spec_MiddleFactor_hO mixed (LoopsOk_eq (l := []) (by kernel_rfl) trivial) (spec_MiddleFactor_l2_be v22 v23 v24 (gI (vAt e 8)) (gI (cAt L (vAt e 6) 0)) (gI (cAt L (vAt e 6) 1)) (gRF L (vAt e 7)) (gRF L (cAt L (vAt e 6) 2))) rfl (by intro x; rfl) h
theorem spec_MiddleFactor_l6_be (v22 : Int) (v23 : Int) (v24 : List Nat) (v535 : Int) (v536 : Nat) (v537 : Int) (v540 : Int) (v541 : Int) (v542 : List Nat) (v543 : List Nat) (s : Nat × Int) : bodyT TT (tabD spec_MiddleFactor_tab) (tabM spec_MiddleFactor_tab) (spec_MiddleFactor_LO v22 v23 v24) 0 spec_MiddleFactor_l6_kill spec_MiddleFactor_l6_nx (bodyOf Try.f16 6) 6 (spec_MiddleFactor_l6_E v22 v23 v24 v535 v536 v537 v540 v541 v542 v543 s) = (spec_MiddleFactor_l6_T v535 v536 v537 v540 v541 v542 v543 s).bind fun y => .leaf (outS (spec_MiddleFactor_l6_E v22 v23 v24 v535 v536 v537 v540 v541 v542 v543) (spec_MiddleFactor_l6_X v22 v23 v24 v535 v536 v537 v540 v541 v542 v543) y) := by kernel_rfl
theorem spec_MiddleFactor_l6_ok (v22 : Int) (v23 : Int) (v24 : List Nat) : LSound Try.prog 0 (spec_MiddleFactor_LO v22 v23 v24) 6 (bodyOf Try.f16 6) := by
  intro e L out h
  exact lo_ok (E := spec_MiddleFactor_l6_E v22 v23 v24 (gI (vAt e 8)) (gF (vAt e 9)) (gI (vAt e 11)) (gI (cAt L (vAt e 6) 0)) (gI (cAt L (vAt e 6) 1)) (gRF L (vAt e 7)) (gRF L (cAt L (vAt e 6) 2))) (gT := spec_MiddleFactor_l6_T (gI (vAt e 8)) (gF (vAt e 9)) (gI (vAt e 11)) (gI (cAt L (vAt e 6) 0)) (gI (cAt L (vAt e 6) 1)) (gRF L (vAt e 7)) (gRF L (cAt L (vAt e 6) 2))) (X := spec_MiddleFactor_l6_X v22 v23 v24 (gI (vAt e 8)) (gF (vAt e 9)) (gI (vAt e 11)) (gI (cAt L (vAt e 6) 0)) (gI (cAt L (vAt e 6) 1)) (gRF L (vAt e 7)) (gRF L (cAt L (vAt e 6) 2))) (s0 := ((gF (vAt e 12)), (gI (vAt e 13)))) tok spec_MiddleFactor_hO mixed (LoopsOk_eq (l := []) (by kernel_rfl) trivial) (spec_MiddleFactor_l6_be v22 v23 v24 (gI (vAt e 8)) (gF (vAt e 9)) (gI (vAt e 11)) (gI (cAt L (vAt e 6) 0)) (gI (cAt L (vAt e 6) 1)) (gRF L (vAt e 7)) (gRF L (cAt L (vAt e 6) 2))) rfl (by intro x; rfl) h
theorem spec_MiddleFactor_l4_be (v22 : Int) (v23 : Int) (v24 : List Nat) (v505 : Int) (v506 : Nat) (v508 : Int) (v509 : Int) (v510 : List Nat) (s : Int × (List Nat)) : bodyT TT (tabD spec_MiddleFactor_tab) (tabM spec_MiddleFactor_tab) (spec_MiddleFactor_LO v22 v23 v24) 0 spec_MiddleFactor_l4_kill spec_MiddleFactor_l4_nx (bodyOf Try.f16 4) 4 (spec_MiddleFactor_l4_E v22 v23 v24 v505 v506 v508 v509 v510 s) = (spec_MiddleFactor_l4_T v22 v23 v24 v505 v506 v508 v509 v510 s).bind fun y => .leaf (outS (spec_MiddleFactor_l4_E v22 v23 v24 v505 v506 v508 v509 v510) (spec_MiddleFactor_l4_X v22 v23 v24 v505 v506 v508 v509 v510) y) := by kernel_rfl
theorem spec_MiddleFactor_l4_ok (v22 : Int) (v23 : Int) (v24 : List Nat) : LSound Try.prog 0 (spec_MiddleFactor_LO v22 v23 v24) 4 (bodyOf Try.f16 4) := by
  intro e L out h
  exact lo_ok (E := spec_MiddleFactor_l4_E v22 v23 v24 (gI (vAt e 8)) (gF (vAt e 9)) (gI (cAt L (vAt e 6) 0)) (gI (cAt L (vAt e 6) 1)) (gRF L (vAt e 7))) (gT := spec_MiddleFactor_l4_T v22 v23 v24 (gI (vAt e 8)) (gF (vAt e 9)) (gI (cAt L (vAt e 6) 0)) (gI (cAt L (vAt e 6) 1)) (gRF L (vAt e 7))) (X := spec_MiddleFactor_l4_X v22 v23 v24 (gI (vAt e 8)) (gF (vAt e 9)) (gI (cAt L (vAt e 6) 0)) (gI (cAt L (vAt e 6) 1)) (gRF L (vAt e 7))) (s0 := ((gI (vAt e 11)), (gRF L (cAt L (vAt e 6) 2)))) tok spec_MiddleFactor_hO mixed (LoopsOk_eq (l := [(6, bodyOf Try.f16 6)]) (by kernel_rfl) ⟨spec_MiddleFactor_l6_ok v22 v23 v24, trivial⟩) (spec_MiddleFactor_l4_be v22 v23 v24 (gI (vAt e 8)) (gF (vAt e 9)) (gI (cAt L (vAt e 6) 0)) (gI (cAt L (vAt e 6) 1)) (gRF L (vAt e 7))) rfl (by intro x; rfl) h
theorem spec_MiddleFactor_l0_be (v22 : Int) (v23 : Int) (v24 : List Nat) (v388 : Int) (v389 : Int) (s : Int × (List Nat) × (List Nat)) : bodyT TT (tabD spec_MiddleFactor_tab) (tabM spec_MiddleFactor_tab) (spec_MiddleFactor_LO v22 v23 v24) 0 spec_MiddleFactor_l0_kill spec_MiddleFactor_l0_nx (bodyOf Try.f16 0) 0 (spec_MiddleFactor_l0_E v22 v23 v24 v388 v389 s) = (spec_MiddleFactor_l0_T v22 v23 v24 v388 v389 s).bind fun y => .leaf (outS (spec_MiddleFactor_l0_E v22 v23 v24 v388 v389) (spec_MiddleFactor_l0_X v22 v23 v24 v388 v389) y) := by kernel_rfl
theorem spec_MiddleFactor_l0_ok (v22 : Int) (v23 : Int) (v24 : List Nat) : LSound Try.prog 0 (spec_MiddleFactor_LO v22 v23 v24) 0 (bodyOf Try.f16 0) := by
  intro e L out h
  exact lo_ok (E := spec_MiddleFactor_l0_E v22 v23 v24 (gI (cAt L (vAt e 6) 0)) (gI (cAt L (vAt e 6) 1))) (gT := spec_MiddleFactor_l0_T v22 v23 v24 (gI (cAt L (vAt e 6) 0)) (gI (cAt L (vAt e 6) 1))) (X := spec_MiddleFactor_l0_X v22 v23 v24 (gI (cAt L (vAt e 6) 0)) (gI (cAt L (vAt e 6) 1))) (s0 := ((gI (vAt e 8)), (gRF L (vAt e 7)), (gRF L (cAt L (vAt e 6) 2)))) tok spec_MiddleFactor_hO mixed (LoopsOk_eq (l := [(2, bodyOf Try.f16 2), (4, bodyOf Try.f16 4)]) (by kernel_rfl) ⟨spec_MiddleFactor_l2_ok v22 v23 v24, spec_MiddleFactor_l4_ok v22 v23 v24, trivial⟩) (spec_MiddleFactor_l0_be v22 v23 v24 (gI (cAt L (vAt e 6) 0)) (gI (cAt L (vAt e 6) 1))) rfl (by intro x; (cases x with | inl b => rfl | inr x => exact rfl)) h
noncomputable def spec_MiddleFactor_T (v22 : Int) (v23 : Int) (v24 : List Nat) : Tree ((Unit) ⊕ (Int × Int × (List Nat) × (List Nat))) :=
  (.call (spec_l02Square_g v22 v23 v24) fun v46 =>
  (.br (!v46) (
   .leaf (.inl ())
  ) (
   (.call (spec_l02Unit_g v22) fun v63 =>
   (.need (some (spec_MiddleFactor_l0_E v22 v23 v24 v63.1 v63.2.1 ((0 : Int), ([] : List Nat), v63.2.2)) = some (spec_MiddleFactor_l0_E v22 v23 v24 v63.1 v63.2.1 ((0 : Int), ([] : List Nat), v63.2.2))) <|
   (.call (spec_MiddleFactor_l0_g v22 v23 v24 v63.1 v63.2.1 ((0 : Int), ([] : List Nat), v63.2.2)) fun v548 =>
   (.sum v548 (fun v549 =>
    .leaf (.inl ())
   ) (fun v550 =>
    (.call (spec_l02Is_g v63.1 v63.2.1 v550.2) fun v551 =>
    (.br (!v551) (
     .leaf (.inl ())
    ) (
     .leaf (.inr (v63.1, v63.2.1, v550.2, v550.1))
    )))
   )))))
  )))

noncomputable def spec_MiddleFactor_g (v22 : Int) (v23 : Int) (v24 : List Nat) : Option ((Unit) ⊕ (Int × Int × (List Nat) × (List Nat))) := (spec_MiddleFactor_T v22 v23 v24).run
def spec_MiddleFactor_enc (v22 : Int) (v23 : Int) (v24 : List Nat) (y : (Unit) ⊕ (Int × Int × (List Nat) × (List Nat))) : Rs := (match y with | .inl y => (.tup [.agg [.int .i64 (0 : Int), .int .i64 (0 : Int), .nilslc], .nilslc, .lit false], []) | .inr y => (.tup [.agg [.int .i64 y.1, .int .i64 y.2.1, .own 0 0 ((y.2.2.1).length)], .own 1 0 ((y.2.2.2).length), .lit true], [.row (.f32 y.2.2.1) 0, .row (.f32 y.2.2.2) 0]))
theorem spec_MiddleFactor_den (v22 : Int) (v23 : Int) (v24 : List Nat) : (den TT (tabD spec_MiddleFactor_tab) (tabM spec_MiddleFactor_tab) (spec_MiddleFactor_LO v22 v23 v24) (codeOf Try.f16) ([.agg [.int .i64 v22, .int .i64 v23, .bslc (BR.root 0) (.f32 v24)]] ++ List.replicate (Try.f16.ntmps - ([.agg [.int .i64 v22, .int .i64 v23, .bslc (BR.root 0) (.f32 v24)]] : List DV).length) .undef) []).bind (retD TT Try.f16.results.toList 0) = (spec_MiddleFactor_T v22 v23 v24).bind fun y => .leaf (spec_MiddleFactor_enc v22 v23 v24 y) := by kernel_rfl
theorem spec_MiddleFactor_fn (v22 : Int) (v23 : Int) (v24 : List Nat) (F : Fr) (hm : F.ids.length = 0) (h0 : St F [] F.H0) (hA : DVs.Ok F [] [.agg [.int .i64 v22, .int .i64 v23, .bslc (BR.root 0) (.f32 v24)]]) {y : (Unit) ⊕ (Int × Int × (List Nat) × (List Nat))} (hy : spec_MiddleFactor_g v22 v23 v24 = some y) : ∃ H', FnOk Try.prog 16 (DVs.av F [.agg [.int .i64 v22, .int .i64 v23, .bslc (BR.root 0) (.f32 v24)]]) F.H0 ((spec_MiddleFactor_enc v22 v23 v24 y).1.av F) H' ∧ St F (spec_MiddleFactor_enc v22 v23 v24 y).2 H' ∧ (spec_MiddleFactor_enc v22 v23 v24 y).1.Ok F (spec_MiddleFactor_enc v22 v23 v24 y).2 :=
  fn_fin tok spec_MiddleFactor_hO mixed Try.func16 Try.call16 (by kernel_rfl) (LoopsOk_eq (l := [(0, bodyOf Try.f16 0)]) (by kernel_rfl) ⟨spec_MiddleFactor_l0_ok v22 v23 v24, trivial⟩) (spec_MiddleFactor_den v22 v23 v24) hy hm h0 hA
noncomputable def spec_MiddleFactor_F : DFn := fun args L =>
  match args with
  | [.agg [.int .i64 v22, .int .i64 v23, a1]] =>
    optT (rowF32 L a1) fun v24 =>
    .call (spec_MiddleFactor_g v22 v23 v24) fun y => .sum y (fun y0 => .leaf (.tup [.agg [.int .i64 (0 : Int), .int .i64 (0 : Int), .nilslc], .nilslc, .lit false], L)) (fun z0 => .leaf (.tup [.agg [.int .i64 z0.1, .int .i64 z0.2.1, .own (L.length + 0) 0 ((z0.2.2.1).length)], .own (L.length + 1) 0 ((z0.2.2.2).length), .lit true], L ++ [.row (.f32 z0.2.2.1) 0, .row (.f32 z0.2.2.2) 0]))
  | _ => .fail
theorem spec_MiddleFactor_Fok : COk Try.prog 16 spec_MiddleFactor_F true := by
  intro F L H args r L' hs ha hr
  unfold spec_MiddleFactor_F at hr
  split at hr
  · rename_i v22 v23 a1
    obtain ⟨v24, hv24, hr⟩ := optT_run hr
    simp only [Tree.run] at hr
    obtain ⟨y, hy, hr⟩ := Option.bind_eq_some_iff.1 hr
    cases y with
    | inl y =>
      simp only [Tree.run, Option.some.injEq, Prod.mk.injEq] at hr
      obtain ⟨rfl, rfl⟩ := hr
      exact call_ok0 hs (fun k => (([a1.av F] : List AV)[k]?).getD .top) [.agg [.int .i64 v22, .int .i64 v23, a1]] [.agg [.int .i64 v22, .int .i64 v23, .bslc (BR.root 0) (.f32 v24)]] (fun F' h0 hi hρ => ⟨by simp [DVs.av, DV.av, BR.av, hρ], spec_MiddleFactor_fn v22 v23 v24 F' (by rw [hi]; rfl) (st_nil hi) ⟨⟨trivial, trivial, bslc_ok hi (by rw [h0, hρ]; exact rowF32_ok hs (DVs.okAt (DVs.okAt ha 0 rfl) 2 rfl) hv24), trivial⟩, trivial⟩ hy⟩) rfl
    | inr y =>
      simp only [Tree.run, Option.some.injEq, Prod.mk.injEq] at hr
      obtain ⟨rfl, rfl⟩ := hr
      exact call_ok1 hs (fun k => (([a1.av F] : List AV)[k]?).getD .top) [.agg [.int .i64 v22, .int .i64 v23, a1]] [.agg [.int .i64 v22, .int .i64 v23, .bslc (BR.root 0) (.f32 v24)]] (fun F' h0 hi hρ => ⟨by simp [DVs.av, DV.av, BR.av, hρ], spec_MiddleFactor_fn v22 v23 v24 F' (by rw [hi]; rfl) (st_nil hi) ⟨⟨trivial, trivial, bslc_ok hi (by rw [h0, hρ]; exact rowF32_ok hs (DVs.okAt (DVs.okAt ha 0 rfl) 2 rfl) hv24), trivial⟩, trivial⟩ hy⟩) rfl rfl
  · cases hr
/-! impl.inRange -/
noncomputable def impl_inRange_LO (v566 : Int) (v567 : Int) (v568 : Int) : LOr := fun id e L =>
  match id with
  | _ => .fail
noncomputable def impl_inRange_tab : List (FuncId × DFn × Bool) := []
theorem impl_inRange_hO : OrcOk Try.prog (tabD impl_inRange_tab) (tabM impl_inRange_tab) := tabD_nil _
noncomputable def impl_inRange_T (v566 : Int) (v567 : Int) (v568 : Int) : Tree (Bool) :=
  (.br (decide (v567 ≤ v566)) (
   .leaf (decide (v566 ≤ v568))
  ) (
   .leaf false
  ))

noncomputable def impl_inRange_g (v566 : Int) (v567 : Int) (v568 : Int) : Option (Bool) := (impl_inRange_T v566 v567 v568).run
def impl_inRange_enc (v566 : Int) (v567 : Int) (v568 : Int) (y : Bool) : Rs := (.bool y, [])
theorem impl_inRange_den (v566 : Int) (v567 : Int) (v568 : Int) : (den TT (tabD impl_inRange_tab) (tabM impl_inRange_tab) (impl_inRange_LO v566 v567 v568) (codeOf Try.f73) ([.int .i64 v566, .int .i64 v567, .int .i64 v568] ++ List.replicate (Try.f73.ntmps - ([.int .i64 v566, .int .i64 v567, .int .i64 v568] : List DV).length) .undef) []).bind (retD TT Try.f73.results.toList 0) = (impl_inRange_T v566 v567 v568).bind fun y => .leaf (impl_inRange_enc v566 v567 v568 y) := by kernel_rfl
theorem impl_inRange_fn (v566 : Int) (v567 : Int) (v568 : Int) (F : Fr) (hm : F.ids.length = 0) (h0 : St F [] F.H0) (hA : DVs.Ok F [] [.int .i64 v566, .int .i64 v567, .int .i64 v568]) {y : Bool} (hy : impl_inRange_g v566 v567 v568 = some y) : ∃ H', FnOk Try.prog 73 (DVs.av F [.int .i64 v566, .int .i64 v567, .int .i64 v568]) F.H0 ((impl_inRange_enc v566 v567 v568 y).1.av F) H' ∧ St F (impl_inRange_enc v566 v567 v568 y).2 H' ∧ (impl_inRange_enc v566 v567 v568 y).1.Ok F (impl_inRange_enc v566 v567 v568 y).2 :=
  fn_fin tok impl_inRange_hO mixed Try.func73 Try.call73 (by kernel_rfl) (LoopsOk_eq (l := []) (by kernel_rfl) trivial) (impl_inRange_den v566 v567 v568) hy hm h0 hA
def impl_inRange_v (v566 : Int) (v567 : Int) (v568 : Int) : Bool :=
  if (decide (v567 ≤ v566)) = true then (
   decide (v566 ≤ v568)
  ) else (
   false
  )
theorem impl_inRange_tot (v566 : Int) (v567 : Int) (v568 : Int) : impl_inRange_g v566 v567 v568 = some (impl_inRange_v v566 v567 v568) := by
  unfold impl_inRange_g impl_inRange_T impl_inRange_v
  simp only [Tree.run]
  repeat' (first | rfl | split)
noncomputable def impl_inRange_F : DFn := fun args L =>
  match args with
  | [.int .i64 v566, .int .i64 v567, .int .i64 v568] =>
    .leaf (.bool (impl_inRange_v v566 v567 v568), L)
  | _ => .fail
theorem impl_inRange_Fok : COk Try.prog 73 impl_inRange_F true := by
  intro F L H args r L' hs ha hr
  unfold impl_inRange_F at hr
  split at hr
  · rename_i v566 v567 v568
    have hy := impl_inRange_tot v566 v567 v568
    generalize impl_inRange_v v566 v567 v568 = y at hy hr
    simp only [Tree.run, Option.some.injEq, Prod.mk.injEq] at hr
    obtain ⟨rfl, rfl⟩ := hr
    exact call_ok0 hs (fun k => (([] : List AV)[k]?).getD .top) [.int .i64 v566, .int .i64 v567, .int .i64 v568] [.int .i64 v566, .int .i64 v567, .int .i64 v568] (fun F' h0 hi hρ => ⟨by simp [DVs.av, DV.av, BR.av, hρ], impl_inRange_fn v566 v567 v568 F' (by rw [hi]; rfl) (st_nil hi) ⟨trivial, trivial, trivial, trivial⟩ hy⟩) rfl
  · cases hr
/-! impl.isSide -/
noncomputable def impl_isSide_LO (v565 : Int) : LOr := fun id e L =>
  match id with
  | _ => .fail
noncomputable def impl_isSide_tab : List (FuncId × DFn × Bool) := [(73, impl_inRange_F, true)]
theorem impl_isSide_hO : OrcOk Try.prog (tabD impl_isSide_tab) (tabM impl_isSide_tab) := tabD_cons impl_inRange_Fok (tabD_nil _)
noncomputable def impl_isSide_T (v565 : Int) : Tree (Bool) :=
  .leaf (impl_inRange_v v565 (1 : Int) (12 : Int))

noncomputable def impl_isSide_g (v565 : Int) : Option (Bool) := (impl_isSide_T v565).run
def impl_isSide_enc (v565 : Int) (y : Bool) : Rs := (.bool y, [])
theorem impl_isSide_den (v565 : Int) : (den TT (tabD impl_isSide_tab) (tabM impl_isSide_tab) (impl_isSide_LO v565) (codeOf Try.f77) ([.int .i64 v565] ++ List.replicate (Try.f77.ntmps - ([.int .i64 v565] : List DV).length) .undef) []).bind (retD TT Try.f77.results.toList 0) = (impl_isSide_T v565).bind fun y => .leaf (impl_isSide_enc v565 y) := by kernel_rfl
theorem impl_isSide_fn (v565 : Int) (F : Fr) (hm : F.ids.length = 0) (h0 : St F [] F.H0) (hA : DVs.Ok F [] [.int .i64 v565]) {y : Bool} (hy : impl_isSide_g v565 = some y) : ∃ H', FnOk Try.prog 77 (DVs.av F [.int .i64 v565]) F.H0 ((impl_isSide_enc v565 y).1.av F) H' ∧ St F (impl_isSide_enc v565 y).2 H' ∧ (impl_isSide_enc v565 y).1.Ok F (impl_isSide_enc v565 y).2 :=
  fn_fin tok impl_isSide_hO mixed Try.func77 Try.call77 (by kernel_rfl) (LoopsOk_eq (l := []) (by kernel_rfl) trivial) (impl_isSide_den v565) hy hm h0 hA
def impl_isSide_v (v565 : Int) : Bool :=
  (impl_inRange_v v565 (1 : Int) (12 : Int))
theorem impl_isSide_tot (v565 : Int) : impl_isSide_g v565 = some (impl_isSide_v v565) := by
  unfold impl_isSide_g impl_isSide_T impl_isSide_v
  simp only [Tree.run]
  repeat' (first | rfl | split)
noncomputable def impl_isSide_F : DFn := fun args L =>
  match args with
  | [.int .i64 v565] =>
    .leaf (.bool (impl_isSide_v v565), L)
  | _ => .fail
theorem impl_isSide_Fok : COk Try.prog 77 impl_isSide_F true := by
  intro F L H args r L' hs ha hr
  unfold impl_isSide_F at hr
  split at hr
  · rename_i v565
    have hy := impl_isSide_tot v565
    generalize impl_isSide_v v565 = y at hy hr
    simp only [Tree.run, Option.some.injEq, Prod.mk.injEq] at hr
    obtain ⟨rfl, rfl⟩ := hr
    exact call_ok0 hs (fun k => (([] : List AV)[k]?).getD .top) [.int .i64 v565] [.int .i64 v565] (fun F' h0 hi hρ => ⟨by simp [DVs.av, DV.av, BR.av, hρ], impl_isSide_fn v565 F' (by rw [hi]; rfl) (st_nil hi) ⟨trivial, trivial⟩ hy⟩) rfl
  · cases hr
/-! impl.length[float32] -/
noncomputable def impl_lengthF_LO (v569 : List Nat) : LOr := fun id e L =>
  match id with
  | _ => .fail
noncomputable def impl_lengthF_tab : List (FuncId × DFn × Bool) := []
theorem impl_lengthF_hO : OrcOk Try.prog (tabD impl_lengthF_tab) (tabM impl_lengthF_tab) := tabD_nil _
noncomputable def impl_lengthF_T (v569 : List Nat) : Tree (Int) :=
  .leaf ((v569.length : Nat) : Int)

noncomputable def impl_lengthF_g (v569 : List Nat) : Option (Int) := (impl_lengthF_T v569).run
def impl_lengthF_enc (v569 : List Nat) (y : Int) : Rs := (.int .i64 y, [])
theorem impl_lengthF_den (v569 : List Nat) : (den TT (tabD impl_lengthF_tab) (tabM impl_lengthF_tab) (impl_lengthF_LO v569) (codeOf Try.f112) ([.bslc (BR.root 0) (.f32 v569)] ++ List.replicate (Try.f112.ntmps - ([.bslc (BR.root 0) (.f32 v569)] : List DV).length) .undef) []).bind (retD TT Try.f112.results.toList 0) = (impl_lengthF_T v569).bind fun y => .leaf (impl_lengthF_enc v569 y) := by kernel_rfl
theorem impl_lengthF_fn (v569 : List Nat) (F : Fr) (hm : F.ids.length = 0) (h0 : St F [] F.H0) (hA : DVs.Ok F [] [.bslc (BR.root 0) (.f32 v569)]) {y : Int} (hy : impl_lengthF_g v569 = some y) : ∃ H', FnOk Try.prog 112 (DVs.av F [.bslc (BR.root 0) (.f32 v569)]) F.H0 ((impl_lengthF_enc v569 y).1.av F) H' ∧ St F (impl_lengthF_enc v569 y).2 H' ∧ (impl_lengthF_enc v569 y).1.Ok F (impl_lengthF_enc v569 y).2 :=
  fn_fin tok impl_lengthF_hO mixed Try.func112 Try.call112 (by kernel_rfl) (LoopsOk_eq (l := []) (by kernel_rfl) trivial) (impl_lengthF_den v569) hy hm h0 hA
def impl_lengthF_v (v569 : List Nat) : Int :=
  ((v569.length : Nat) : Int)
theorem impl_lengthF_tot (v569 : List Nat) : impl_lengthF_g v569 = some (impl_lengthF_v v569) := by
  unfold impl_lengthF_g impl_lengthF_T impl_lengthF_v
  simp only [Tree.run]
  repeat' (first | rfl | split)
noncomputable def impl_lengthF_F : DFn := fun args L =>
  match args with
  | [a1] =>
    optT (rowF32 L a1) fun v569 =>
    .leaf (.int .i64 (impl_lengthF_v v569), L)
  | _ => .fail
theorem impl_lengthF_Fok : COk Try.prog 112 impl_lengthF_F true := by
  intro F L H args r L' hs ha hr
  unfold impl_lengthF_F at hr
  split at hr
  · rename_i a1
    obtain ⟨v569, hv569, hr⟩ := optT_run hr
    have hy := impl_lengthF_tot v569
    generalize impl_lengthF_v v569 = y at hy hr
    simp only [Tree.run, Option.some.injEq, Prod.mk.injEq] at hr
    obtain ⟨rfl, rfl⟩ := hr
    exact call_ok0 hs (fun k => (([a1.av F] : List AV)[k]?).getD .top) [a1] [.bslc (BR.root 0) (.f32 v569)] (fun F' h0 hi hρ => ⟨by simp [DVs.av, DV.av, BR.av, hρ], impl_lengthF_fn v569 F' (by rw [hi]; rfl) (st_nil hi) ⟨bslc_ok hi (by rw [h0, hρ]; exact rowF32_ok hs (DVs.okAt ha 0 rfl) hv569), trivial⟩ hy⟩) rfl
  · cases hr
/-! math.IsNaN -/
noncomputable def math_IsNaN_LO (v577 : Nat) : LOr := fun id e L =>
  match id with
  | _ => .fail
noncomputable def math_IsNaN_tab : List (FuncId × DFn × Bool) := []
theorem math_IsNaN_hO : OrcOk Try.prog (tabD math_IsNaN_tab) (tabM math_IsNaN_tab) := tabD_nil _
noncomputable def math_IsNaN_T (v577 : Nat) : Tree (Bool) :=
  .leaf (!feq .f64 v577 v577)

noncomputable def math_IsNaN_g (v577 : Nat) : Option (Bool) := (math_IsNaN_T v577).run
def math_IsNaN_enc (v577 : Nat) (y : Bool) : Rs := (.bool y, [])
theorem math_IsNaN_den (v577 : Nat) : (den TT (tabD math_IsNaN_tab) (tabM math_IsNaN_tab) (math_IsNaN_LO v577) (codeOf Try.f172) ([.flt .f64 v577] ++ List.replicate (Try.f172.ntmps - ([.flt .f64 v577] : List DV).length) .undef) []).bind (retD TT Try.f172.results.toList 0) = (math_IsNaN_T v577).bind fun y => .leaf (math_IsNaN_enc v577 y) := by kernel_rfl
theorem math_IsNaN_fn (v577 : Nat) (F : Fr) (hm : F.ids.length = 0) (h0 : St F [] F.H0) (hA : DVs.Ok F [] [.flt .f64 v577]) {y : Bool} (hy : math_IsNaN_g v577 = some y) : ∃ H', FnOk Try.prog 172 (DVs.av F [.flt .f64 v577]) F.H0 ((math_IsNaN_enc v577 y).1.av F) H' ∧ St F (math_IsNaN_enc v577 y).2 H' ∧ (math_IsNaN_enc v577 y).1.Ok F (math_IsNaN_enc v577 y).2 :=
  fn_fin tok math_IsNaN_hO mixed Try.func172 Try.call172 (by kernel_rfl) (LoopsOk_eq (l := []) (by kernel_rfl) trivial) (math_IsNaN_den v577) hy hm h0 hA
def math_IsNaN_v (v577 : Nat) : Bool :=
  !feq .f64 v577 v577
theorem math_IsNaN_tot (v577 : Nat) : math_IsNaN_g v577 = some (math_IsNaN_v v577) := by
  unfold math_IsNaN_g math_IsNaN_T math_IsNaN_v
  simp only [Tree.run]
  repeat' (first | rfl | split)
noncomputable def math_IsNaN_F : DFn := fun args L =>
  match args with
  | [.flt .f64 v577] =>
    .leaf (.bool (math_IsNaN_v v577), L)
  | _ => .fail
theorem math_IsNaN_Fok : COk Try.prog 172 math_IsNaN_F true := by
  intro F L H args r L' hs ha hr
  unfold math_IsNaN_F at hr
  split at hr
  · rename_i v577
    have hy := math_IsNaN_tot v577
    generalize math_IsNaN_v v577 = y at hy hr
    simp only [Tree.run, Option.some.injEq, Prod.mk.injEq] at hr
    obtain ⟨rfl, rfl⟩ := hr
    exact call_ok0 hs (fun k => (([] : List AV)[k]?).getD .top) [.flt .f64 v577] [.flt .f64 v577] (fun F' h0 hi hρ => ⟨by simp [DVs.av, DV.av, BR.av, hρ], math_IsNaN_fn v577 F' (by rw [hi]; rfl) (st_nil hi) ⟨trivial, trivial⟩ hy⟩) rfl
  · cases hr
/-! math.IsInf -/
noncomputable def math_IsInf_LO (v578 : Nat) (v579 : Int) : LOr := fun id e L =>
  match id with
  | _ => .fail
noncomputable def math_IsInf_tab : List (FuncId × DFn × Bool) := [(97, Abs_F, true)]
theorem math_IsInf_hO : OrcOk Try.prog (tabD math_IsInf_tab) (tabM math_IsInf_tab) := tabD_cons Abs_Fok (tabD_nil _)
noncomputable def math_IsInf_T (v578 : Nat) (v579 : Int) : Tree (Bool) :=
  (.br (decide (v579 = (0 : Int))) (
   .leaf (fgrt .f64 (fabs v578) (9218868437227405311 : Nat))
  ) (
   (.br (decide (v579 < (0 : Int))) (
    .leaf (fgrt .f64 (fneg .f64 v578) (9218868437227405311 : Nat))
   ) (
    .leaf (fgrt .f64 v578 (9218868437227405311 : Nat))
   ))
  ))

noncomputable def math_IsInf_g (v578 : Nat) (v579 : Int) : Option (Bool) := (math_IsInf_T v578 v579).run
def math_IsInf_enc (v578 : Nat) (v579 : Int) (y : Bool) : Rs := (.bool y, [])
theorem math_IsInf_den (v578 : Nat) (v579 : Int) : (den TT (tabD math_IsInf_tab) (tabM math_IsInf_tab) (math_IsInf_LO v578 v579) (codeOf Try.f173) ([.flt .f64 v578, .int .i64 v579] ++ List.replicate (Try.f173.ntmps - ([.flt .f64 v578, .int .i64 v579] : List DV).length) .undef) []).bind (retD TT Try.f173.results.toList 0) = (math_IsInf_T v578 v579).bind fun y => .leaf (math_IsInf_enc v578 v579 y) := by kernel_rfl
theorem math_IsInf_fn (v578 : Nat) (v579 : Int) (F : Fr) (hm : F.ids.length = 0) (h0 : St F [] F.H0) (hA : DVs.Ok F [] [.flt .f64 v578, .int .i64 v579]) {y : Bool} (hy : math_IsInf_g v578 v579 = some y) : ∃ H', FnOk Try.prog 173 (DVs.av F [.flt .f64 v578, .int .i64 v579]) F.H0 ((math_IsInf_enc v578 v579 y).1.av F) H' ∧ St F (math_IsInf_enc v578 v579 y).2 H' ∧ (math_IsInf_enc v578 v579 y).1.Ok F (math_IsInf_enc v578 v579 y).2 :=
  fn_fin tok math_IsInf_hO mixed Try.func173 Try.call173 (by kernel_rfl) (LoopsOk_eq (l := []) (by kernel_rfl) trivial) (math_IsInf_den v578 v579) hy hm h0 hA
def math_IsInf_v (v578 : Nat) (v579 : Int) : Bool :=
  if (decide (v579 = (0 : Int))) = true then (
   fgrt .f64 (fabs v578) (9218868437227405311 : Nat)
  ) else (
   if (decide (v579 < (0 : Int))) = true then (
    fgrt .f64 (fneg .f64 v578) (9218868437227405311 : Nat)
   ) else (
    fgrt .f64 v578 (9218868437227405311 : Nat)
   )
  )
theorem math_IsInf_tot (v578 : Nat) (v579 : Int) : math_IsInf_g v578 v579 = some (math_IsInf_v v578 v579) := by
  unfold math_IsInf_g math_IsInf_T math_IsInf_v
  simp only [Tree.run]
  repeat' (first | rfl | split)
noncomputable def math_IsInf_F : DFn := fun args L =>
  match args with
  | [.flt .f64 v578, .int .i64 v579] =>
    .leaf (.bool (math_IsInf_v v578 v579), L)
  | _ => .fail
theorem math_IsInf_Fok : COk Try.prog 173 math_IsInf_F true := by
  intro F L H args r L' hs ha hr
  unfold math_IsInf_F at hr
  split at hr
  · rename_i v578 v579
    have hy := math_IsInf_tot v578 v579
    generalize math_IsInf_v v578 v579 = y at hy hr
    simp only [Tree.run, Option.some.injEq, Prod.mk.injEq] at hr
    obtain ⟨rfl, rfl⟩ := hr
    exact call_ok0 hs (fun k => (([] : List AV)[k]?).getD .top) [.flt .f64 v578, .int .i64 v579] [.flt .f64 v578, .int .i64 v579] (fun F' h0 hi hρ => ⟨by simp [DVs.av, DV.av, BR.av, hρ], math_IsInf_fn v578 v579 F' (by rw [hi]; rfl) (st_nil hi) ⟨trivial, trivial, trivial⟩ hy⟩) rfl
  · cases hr
/-! impl.isFinite64 -/
noncomputable def impl_isFinite64_LO (v576 : Nat) : LOr := fun id e L =>
  match id with
  | _ => .fail
noncomputable def impl_isFinite64_tab : List (FuncId × DFn × Bool) := [(172, math_IsNaN_F, true), (173, math_IsInf_F, true)]
theorem impl_isFinite64_hO : OrcOk Try.prog (tabD impl_isFinite64_tab) (tabM impl_isFinite64_tab) := tabD_cons math_IsNaN_Fok (tabD_cons math_IsInf_Fok (tabD_nil _))
noncomputable def impl_isFinite64_T (v576 : Nat) : Tree (Bool) :=
  (.br (!(math_IsNaN_v v576)) (
   .leaf (!(math_IsInf_v v576 (0 : Int)))
  ) (
   .leaf false
  ))

noncomputable def impl_isFinite64_g (v576 : Nat) : Option (Bool) := (impl_isFinite64_T v576).run
def impl_isFinite64_enc (v576 : Nat) (y : Bool) : Rs := (.bool y, [])
theorem impl_isFinite64_den (v576 : Nat) : (den TT (tabD impl_isFinite64_tab) (tabM impl_isFinite64_tab) (impl_isFinite64_LO v576) (codeOf Try.f149) ([.flt .f64 v576] ++ List.replicate (Try.f149.ntmps - ([.flt .f64 v576] : List DV).length) .undef) []).bind (retD TT Try.f149.results.toList 0) = (impl_isFinite64_T v576).bind fun y => .leaf (impl_isFinite64_enc v576 y) := by kernel_rfl
theorem impl_isFinite64_fn (v576 : Nat) (F : Fr) (hm : F.ids.length = 0) (h0 : St F [] F.H0) (hA : DVs.Ok F [] [.flt .f64 v576]) {y : Bool} (hy : impl_isFinite64_g v576 = some y) : ∃ H', FnOk Try.prog 149 (DVs.av F [.flt .f64 v576]) F.H0 ((impl_isFinite64_enc v576 y).1.av F) H' ∧ St F (impl_isFinite64_enc v576 y).2 H' ∧ (impl_isFinite64_enc v576 y).1.Ok F (impl_isFinite64_enc v576 y).2 :=
  fn_fin tok impl_isFinite64_hO mixed Try.func149 Try.call149 (by kernel_rfl) (LoopsOk_eq (l := []) (by kernel_rfl) trivial) (impl_isFinite64_den v576) hy hm h0 hA
def impl_isFinite64_v (v576 : Nat) : Bool :=
  if (!(math_IsNaN_v v576)) = true then (
   !(math_IsInf_v v576 (0 : Int))
  ) else (
   false
  )
theorem impl_isFinite64_tot (v576 : Nat) : impl_isFinite64_g v576 = some (impl_isFinite64_v v576) := by
  unfold impl_isFinite64_g impl_isFinite64_T impl_isFinite64_v
  simp only [Tree.run]
  repeat' (first | rfl | split)
noncomputable def impl_isFinite64_F : DFn := fun args L =>
  match args with
  | [.flt .f64 v576] =>
    .leaf (.bool (impl_isFinite64_v v576), L)
  | _ => .fail
theorem impl_isFinite64_Fok : COk Try.prog 149 impl_isFinite64_F true := by
  intro F L H args r L' hs ha hr
  unfold impl_isFinite64_F at hr
  split at hr
  · rename_i v576
    have hy := impl_isFinite64_tot v576
    generalize impl_isFinite64_v v576 = y at hy hr
    simp only [Tree.run, Option.some.injEq, Prod.mk.injEq] at hr
    obtain ⟨rfl, rfl⟩ := hr
    exact call_ok0 hs (fun k => (([] : List AV)[k]?).getD .top) [.flt .f64 v576] [.flt .f64 v576] (fun F' h0 hi hρ => ⟨by simp [DVs.av, DV.av, BR.av, hρ], impl_isFinite64_fn v576 F' (by rw [hi]; rfl) (st_nil hi) ⟨trivial, trivial⟩ hy⟩) rfl
  · cases hr
/-! impl.IsFinite -/
noncomputable def impl_IsFinite_LO (v575 : Nat) : LOr := fun id e L =>
  match id with
  | _ => .fail
noncomputable def impl_IsFinite_tab : List (FuncId × DFn × Bool) := [(149, impl_isFinite64_F, true)]
theorem impl_IsFinite_hO : OrcOk Try.prog (tabD impl_IsFinite_tab) (tabM impl_IsFinite_tab) := tabD_cons impl_isFinite64_Fok (tabD_nil _)
noncomputable def impl_IsFinite_T (v575 : Nat) : Tree (Bool) :=
  .leaf (impl_isFinite64_v (wid v575))

noncomputable def impl_IsFinite_g (v575 : Nat) : Option (Bool) := (impl_IsFinite_T v575).run
def impl_IsFinite_enc (v575 : Nat) (y : Bool) : Rs := (.bool y, [])
theorem impl_IsFinite_den (v575 : Nat) : (den TT (tabD impl_IsFinite_tab) (tabM impl_IsFinite_tab) (impl_IsFinite_LO v575) (codeOf Try.f96) ([.flt .f32 v575] ++ List.replicate (Try.f96.ntmps - ([.flt .f32 v575] : List DV).length) .undef) []).bind (retD TT Try.f96.results.toList 0) = (impl_IsFinite_T v575).bind fun y => .leaf (impl_IsFinite_enc v575 y) := by kernel_rfl
theorem impl_IsFinite_fn (v575 : Nat) (F : Fr) (hm : F.ids.length = 0) (h0 : St F [] F.H0) (hA : DVs.Ok F [] [.flt .f32 v575]) {y : Bool} (hy : impl_IsFinite_g v575 = some y) : ∃ H', FnOk Try.prog 96 (DVs.av F [.flt .f32 v575]) F.H0 ((impl_IsFinite_enc v575 y).1.av F) H' ∧ St F (impl_IsFinite_enc v575 y).2 H' ∧ (impl_IsFinite_enc v575 y).1.Ok F (impl_IsFinite_enc v575 y).2 :=
  fn_fin tok impl_IsFinite_hO mixed Try.func96 Try.call96 (by kernel_rfl) (LoopsOk_eq (l := []) (by kernel_rfl) trivial) (impl_IsFinite_den v575) hy hm h0 hA
def impl_IsFinite_v (v575 : Nat) : Bool :=
  (impl_isFinite64_v (wid v575))
theorem impl_IsFinite_tot (v575 : Nat) : impl_IsFinite_g v575 = some (impl_IsFinite_v v575) := by
  unfold impl_IsFinite_g impl_IsFinite_T impl_IsFinite_v
  simp only [Tree.run]
  repeat' (first | rfl | split)
noncomputable def impl_IsFinite_F : DFn := fun args L =>
  match args with
  | [.flt .f32 v575] =>
    .leaf (.bool (impl_IsFinite_v v575), L)
  | _ => .fail
theorem impl_IsFinite_Fok : COk Try.prog 96 impl_IsFinite_F true := by
  intro F L H args r L' hs ha hr
  unfold impl_IsFinite_F at hr
  split at hr
  · rename_i v575
    have hy := impl_IsFinite_tot v575
    generalize impl_IsFinite_v v575 = y at hy hr
    simp only [Tree.run, Option.some.injEq, Prod.mk.injEq] at hr
    obtain ⟨rfl, rfl⟩ := hr
    exact call_ok0 hs (fun k => (([] : List AV)[k]?).getD .top) [.flt .f32 v575] [.flt .f32 v575] (fun F' h0 hi hρ => ⟨by simp [DVs.av, DV.av, BR.av, hρ], impl_IsFinite_fn v575 F' (by rw [hi]; rfl) (st_nil hi) ⟨trivial, trivial⟩ hy⟩) rfl
  · cases hr
/-! impl.areFinite$1 -/
noncomputable def impl_areFinite_1_LO (v574 : Nat) : LOr := fun id e L =>
  match id with
  | _ => .fail
noncomputable def impl_areFinite_1_tab : List (FuncId × DFn × Bool) := [(96, impl_IsFinite_F, true)]
theorem impl_areFinite_1_hO : OrcOk Try.prog (tabD impl_areFinite_1_tab) (tabM impl_areFinite_1_tab) := tabD_cons impl_IsFinite_Fok (tabD_nil _)
noncomputable def impl_areFinite_1_T (v574 : Nat) : Tree (Bool) :=
  .leaf (!(impl_IsFinite_v v574))

noncomputable def impl_areFinite_1_g (v574 : Nat) : Option (Bool) := (impl_areFinite_1_T v574).run
def impl_areFinite_1_enc (v574 : Nat) (y : Bool) : Rs := (.bool y, [])
theorem impl_areFinite_1_den (v574 : Nat) : (den TT (tabD impl_areFinite_1_tab) (tabM impl_areFinite_1_tab) (impl_areFinite_1_LO v574) (codeOf Try.f138) ([.flt .f32 v574] ++ List.replicate (Try.f138.ntmps - ([.flt .f32 v574] : List DV).length) .undef) []).bind (retD TT Try.f138.results.toList 0) = (impl_areFinite_1_T v574).bind fun y => .leaf (impl_areFinite_1_enc v574 y) := by kernel_rfl
theorem impl_areFinite_1_fn (v574 : Nat) (F : Fr) (hm : F.ids.length = 0) (h0 : St F [] F.H0) (hA : DVs.Ok F [] [.flt .f32 v574]) {y : Bool} (hy : impl_areFinite_1_g v574 = some y) : ∃ H', FnOk Try.prog 138 (DVs.av F [.flt .f32 v574]) F.H0 ((impl_areFinite_1_enc v574 y).1.av F) H' ∧ St F (impl_areFinite_1_enc v574 y).2 H' ∧ (impl_areFinite_1_enc v574 y).1.Ok F (impl_areFinite_1_enc v574 y).2 :=
  fn_fin tok impl_areFinite_1_hO mixed Try.func138 Try.call138 (by kernel_rfl) (LoopsOk_eq (l := []) (by kernel_rfl) trivial) (impl_areFinite_1_den v574) hy hm h0 hA
def impl_areFinite_1_v (v574 : Nat) : Bool :=
  !(impl_IsFinite_v v574)
theorem impl_areFinite_1_tot (v574 : Nat) : impl_areFinite_1_g v574 = some (impl_areFinite_1_v v574) := by
  unfold impl_areFinite_1_g impl_areFinite_1_T impl_areFinite_1_v
  simp only [Tree.run]
  repeat' (first | rfl | split)
noncomputable def impl_areFinite_1_F : DFn := fun args L =>
  match args with
  | [.flt .f32 v574] =>
    .leaf (.bool (impl_areFinite_1_v v574), L)
  | _ => .fail
theorem impl_areFinite_1_Fok : COk Try.prog 138 impl_areFinite_1_F true := by
  intro F L H args r L' hs ha hr
  unfold impl_areFinite_1_F at hr
  split at hr
  · rename_i v574
    have hy := impl_areFinite_1_tot v574
    generalize impl_areFinite_1_v v574 = y at hy hr
    simp only [Tree.run, Option.some.injEq, Prod.mk.injEq] at hr
    obtain ⟨rfl, rfl⟩ := hr
    exact call_ok0 hs (fun k => (([] : List AV)[k]?).getD .top) [.flt .f32 v574] [.flt .f32 v574] (fun F' h0 hi hρ => ⟨by simp [DVs.av, DV.av, BR.av, hρ], impl_areFinite_1_fn v574 F' (by rw [hi]; rfl) (st_nil hi) ⟨trivial, trivial⟩ hy⟩) rfl
  · cases hr
/-! slices.IndexFunc[list of float32,float32] -/
noncomputable def slices_IndexFuncF_l0_T (v572 : List Nat) (s : Int) : Tree ((Int) ⊕ ((Int) ⊕ (Unit))) :=
  (.br (decide (s < ((v572.length : Nat) : Int))) (
   (.grd (inb s v572.length) <|
   (.br (impl_areFinite_1_v (nth v572 (Int.toNat s))) (
    .leaf (.inr (.inl s))
   ) (
    .leaf (.inl (IntKind.i64.wrap (s + (1 : Int))))
   )))
  ) (
   .leaf (.inr (.inr ()))
  ))

noncomputable def slices_IndexFuncF_l0_g (v572 : List Nat) (s0 : Int) : Option ((Int) ⊕ (Unit)) := whileM (fun s => (slices_IndexFuncF_l0_T v572 s).run) s0
def slices_IndexFuncF_l0_E (v572 : List Nat) (s : Int) : Sd := ([.bslc (BR.root 0) (.f32 v572), .fn 138 [], .top, .top, .top, .top, .top, .int .i64 ((v572.length : Nat) : Int), .int .i64 s, .top, .top, .top, .top, .top, .top, .top, .top, .top, .top], [])
def slices_IndexFuncF_l0_X (v572 : List Nat) (x : (Int) ⊕ (Unit)) : Out := (match x with | .inl x => (.ret, [.top, .top, .top, .top, .int .i64 x, .top, .top, .top, .top, .top, .top, .top, .top, .top, .top, .top, .top, .top, .top], []) | .inr x => (.normal, [.top, .top, .top, .top, .top, .top, .top, .top, .top, .top, .top, .top, .top, .top, .top, .top, .top, .top, .top], []))
def slices_IndexFuncF_l0_kill : List Nat := [0, 0, 1, 1, 1, 1, 1, 0, 0, 1, 1, 1, 1, 1, 1, 1, 1, 1, 1]
def slices_IndexFuncF_l0_nx : Exit → List Nat
  | .exit 0 => [1, 1, 1, 1, 1, 1, 1, 1, 1, 1, 1, 1, 1, 1, 1, 1, 1, 1, 1]
  | .ret => [1, 1, 1, 1, 0, 1, 1, 1, 1, 1, 1, 1, 1, 1, 1, 1, 1, 1, 1]
  | _ => []
noncomputable def slices_IndexFuncF_LO (v572 : List Nat) : LOr := fun id e L =>
  match id with
  | 0 => .need (normA 0 slices_IndexFuncF_l0_kill e L = some (slices_IndexFuncF_l0_E v572 (gI (vAt e 8)))) (.call (slices_IndexFuncF_l0_g v572 (gI (vAt e 8))) fun x => .sum x (fun b0 => .leaf (slices_IndexFuncF_l0_X v572 (.inl b0))) (fun c0 => .leaf (slices_IndexFuncF_l0_X v572 (.inr c0))))
  | _ => .fail
noncomputable def slices_IndexFuncF_tab : List (FuncId × DFn × Bool) := [(138, impl_areFinite_1_F, true)]
theorem slices_IndexFuncF_hO : OrcOk Try.prog (tabD slices_IndexFuncF_tab) (tabM slices_IndexFuncF_tab) := tabD_cons impl_areFinite_1_Fok (tabD_nil _)
theorem slices_IndexFuncF_l0_be (v572 : List Nat) (s : Int) : bodyT TT (tabD slices_IndexFuncF_tab) (tabM slices_IndexFuncF_tab) (slices_IndexFuncF_LO v572) 0 slices_IndexFuncF_l0_kill slices_IndexFuncF_l0_nx (bodyOf Try.f168 0) 0 (slices_IndexFuncF_l0_E v572 s) = (slices_IndexFuncF_l0_T v572 s).bind fun y => .leaf (outS (slices_IndexFuncF_l0_E v572) (slices_IndexFuncF_l0_X v572) y) := by kernel_rfl
theorem slices_IndexFuncF_l0_ok (v572 : List Nat) : LSound Try.prog 0 (slices_IndexFuncF_LO v572) 0 (bodyOf Try.f168 0) := by
  intro e L out h
  exact lo_ok (E := slices_IndexFuncF_l0_E v572) (gT := slices_IndexFuncF_l0_T v572) (X := slices_IndexFuncF_l0_X v572) (s0 := (gI (vAt e 8))) tok slices_IndexFuncF_hO mixed (LoopsOk_eq (l := []) (by kernel_rfl) trivial) (slices_IndexFuncF_l0_be v572) rfl (by intro x; (cases x with | inl b => rfl | inr x => exact rfl)) h
noncomputable def slices_IndexFuncF_T (v572 : List Nat) : Tree (Int) :=
  (.need (some (slices_IndexFuncF_l0_E v572 (0 : Int)) = some (slices_IndexFuncF_l0_E v572 (0 : Int))) <|
  (.call (slices_IndexFuncF_l0_g v572 (0 : Int)) fun v582 =>
  (.sum v582 (fun v583 =>
   .leaf v583
  ) (fun v584 =>
   .leaf (-1 : Int)
  ))))

noncomputable def slices_IndexFuncF_g (v572 : List Nat) : Option (Int) := (slices_IndexFuncF_T v572).run
def slices_IndexFuncF_enc (v572 : List Nat) (y : Int) : Rs := (.int .i64 y, [])
theorem slices_IndexFuncF_den (v572 : List Nat) : (den TT (tabD slices_IndexFuncF_tab) (tabM slices_IndexFuncF_tab) (slices_IndexFuncF_LO v572) (codeOf Try.f168) ([.bslc (BR.root 0) (.f32 v572), .fn 138 []] ++ List.replicate (Try.f168.ntmps - ([.bslc (BR.root 0) (.f32 v572), .fn 138 []] : List DV).length) .undef) []).bind (retD TT Try.f168.results.toList 0) = (slices_IndexFuncF_T v572).bind fun y => .leaf (slices_IndexFuncF_enc v572 y) := by kernel_rfl
theorem slices_IndexFuncF_fn (v572 : List Nat) (F : Fr) (hm : F.ids.length = 0) (h0 : St F [] F.H0) (hA : DVs.Ok F [] [.bslc (BR.root 0) (.f32 v572), .fn 138 []]) {y : Int} (hy : slices_IndexFuncF_g v572 = some y) : ∃ H', FnOk Try.prog 168 (DVs.av F [.bslc (BR.root 0) (.f32 v572), .fn 138 []]) F.H0 ((slices_IndexFuncF_enc v572 y).1.av F) H' ∧ St F (slices_IndexFuncF_enc v572 y).2 H' ∧ (slices_IndexFuncF_enc v572 y).1.Ok F (slices_IndexFuncF_enc v572 y).2 :=
  fn_fin tok slices_IndexFuncF_hO mixed Try.func168 Try.call168 (by kernel_rfl) (LoopsOk_eq (l := [(0, bodyOf Try.f168 0)]) (by kernel_rfl) ⟨slices_IndexFuncF_l0_ok v572, trivial⟩) (slices_IndexFuncF_den v572) hy hm h0 hA
noncomputable def slices_IndexFuncF_F : DFn := fun args L =>
  match args with
  | [a1, .fn 138 []] =>
    optT (rowF32 L a1) fun v572 =>
    .call (slices_IndexFuncF_g v572) fun y => .leaf (.int .i64 y, L)
  | _ => .fail
theorem slices_IndexFuncF_Fok : COk Try.prog 168 slices_IndexFuncF_F true := by
  intro F L H args r L' hs ha hr
  unfold slices_IndexFuncF_F at hr
  split at hr
  · rename_i a1
    obtain ⟨v572, hv572, hr⟩ := optT_run hr
    simp only [Tree.run] at hr
    obtain ⟨y, hy, hr⟩ := Option.bind_eq_some_iff.1 hr
    simp only [Tree.run, Option.some.injEq, Prod.mk.injEq] at hr
    obtain ⟨rfl, rfl⟩ := hr
    exact call_ok0 hs (fun k => (([a1.av F] : List AV)[k]?).getD .top) [a1, .fn 138 []] [.bslc (BR.root 0) (.f32 v572), .fn 138 []] (fun F' h0 hi hρ => ⟨by simp [DVs.av, DV.av, BR.av, hρ], slices_IndexFuncF_fn v572 F' (by rw [hi]; rfl) (st_nil hi) ⟨bslc_ok hi (by rw [h0, hρ]; exact rowF32_ok hs (DVs.okAt ha 0 rfl) hv572), trivial, trivial⟩ hy⟩) rfl
  · cases hr
/-! slices.ContainsFunc[list of float32,float32] -/
noncomputable def slices_ContainsFuncF_LO (v571 : List Nat) : LOr := fun id e L =>
  match id with
  | _ => .fail
noncomputable def slices_ContainsFuncF_tab : List (FuncId × DFn × Bool) := [(168, slices_IndexFuncF_F, true)]
theorem slices_ContainsFuncF_hO : OrcOk Try.prog (tabD slices_ContainsFuncF_tab) (tabM slices_ContainsFuncF_tab) := tabD_cons slices_IndexFuncF_Fok (tabD_nil _)
noncomputable def slices_ContainsFuncF_T (v571 : List Nat) : Tree (Bool) :=
  (.call (slices_IndexFuncF_g v571) fun v585 =>
  .leaf (decide ((0 : Int) ≤ v585)))

noncomputable def slices_ContainsFuncF_g (v571 : List Nat) : Option (Bool) := (slices_ContainsFuncF_T v571).run
def slices_ContainsFuncF_enc (v571 : List Nat) (y : Bool) : Rs := (.bool y, [])
theorem slices_ContainsFuncF_den (v571 : List Nat) : (den TT (tabD slices_ContainsFuncF_tab) (tabM slices_ContainsFuncF_tab) (slices_ContainsFuncF_LO v571) (codeOf Try.f137) ([.bslc (BR.root 0) (.f32 v571), .fn 138 []] ++ List.replicate (Try.f137.ntmps - ([.bslc (BR.root 0) (.f32 v571), .fn 138 []] : List DV).length) .undef) []).bind (retD TT Try.f137.results.toList 0) = (slices_ContainsFuncF_T v571).bind fun y => .leaf (slices_ContainsFuncF_enc v571 y) := by kernel_rfl
theorem slices_ContainsFuncF_fn (v571 : List Nat) (F : Fr) (hm : F.ids.length = 0) (h0 : St F [] F.H0) (hA : DVs.Ok F [] [.bslc (BR.root 0) (.f32 v571), .fn 138 []]) {y : Bool} (hy : slices_ContainsFuncF_g v571 = some y) : ∃ H', FnOk Try.prog 137 (DVs.av F [.bslc (BR.root 0) (.f32 v571), .fn 138 []]) F.H0 ((slices_ContainsFuncF_enc v571 y).1.av F) H' ∧ St F (slices_ContainsFuncF_enc v571 y).2 H' ∧ (slices_ContainsFuncF_enc v571 y).1.Ok F (slices_ContainsFuncF_enc v571 y).2 :=
  fn_fin tok slices_ContainsFuncF_hO mixed Try.func137 Try.call137 (by kernel_rfl) (LoopsOk_eq (l := []) (by kernel_rfl) trivial) (slices_ContainsFuncF_den v571) hy hm h0 hA
noncomputable def slices_ContainsFuncF_F : DFn := fun args L =>
  match args with
  | [a1, .fn 138 []] =>
    optT (rowF32 L a1) fun v571 =>
    .call (slices_ContainsFuncF_g v571) fun y => .leaf (.bool y, L)
  | _ => .fail
theorem slices_ContainsFuncF_Fok : COk Try.prog 137 slices_ContainsFuncF_F true := by
  intro F L H args r L' hs ha hr
  unfold slices_ContainsFuncF_F at hr
  split at hr
  · rename_i a1
    obtain ⟨v571, hv571, hr⟩ := optT_run hr
    simp only [Tree.run] at hr
    obtain ⟨y, hy, hr⟩ := Option.bind_eq_some_iff.1 hr
    simp only [Tree.run, Option.some.injEq, Prod.mk.injEq] at hr
    obtain ⟨rfl, rfl⟩ := hr
    exact call_ok0 hs (fun k => (([a1.av F] : List AV)[k]?).getD .top) [a1, .fn 138 []] [.bslc (BR.root 0) (.f32 v571), .fn 138 []] (fun F' h0 hi hρ => ⟨by simp [DVs.av, DV.av, BR.av, hρ], slices_ContainsFuncF_fn v571 F' (by rw [hi]; rfl) (st_nil hi) ⟨bslc_ok hi (by rw [h0, hρ]; exact rowF32_ok hs (DVs.okAt ha 0 rfl) hv571), trivial, trivial⟩ hy⟩) rfl
  · cases hr
/-! impl.areFinite -/
noncomputable def impl_areFinite_LO (v570 : List Nat) : LOr := fun id e L =>
  match id with
  | _ => .fail
noncomputable def impl_areFinite_tab : List (FuncId × DFn × Bool) := [(137, slices_ContainsFuncF_F, true)]
theorem impl_areFinite_hO : OrcOk Try.prog (tabD impl_areFinite_tab) (tabM impl_areFinite_tab) := tabD_cons slices_ContainsFuncF_Fok (tabD_nil _)
noncomputable def impl_areFinite_T (v570 : List Nat) : Tree (Bool) :=
  (.call (slices_ContainsFuncF_g v570) fun v586 =>
  .leaf (!v586))

noncomputable def impl_areFinite_g (v570 : List Nat) : Option (Bool) := (impl_areFinite_T v570).run
def impl_areFinite_enc (v570 : List Nat) (y : Bool) : Rs := (.bool y, [])
theorem impl_areFinite_den (v570 : List Nat) : (den TT (tabD impl_areFinite_tab) (tabM impl_areFinite_tab) (impl_areFinite_LO v570) (codeOf Try.f68) ([.bslc (BR.root 0) (.f32 v570)] ++ List.replicate (Try.f68.ntmps - ([.bslc (BR.root 0) (.f32 v570)] : List DV).length) .undef) []).bind (retD TT Try.f68.results.toList 0) = (impl_areFinite_T v570).bind fun y => .leaf (impl_areFinite_enc v570 y) := by kernel_rfl
theorem impl_areFinite_fn (v570 : List Nat) (F : Fr) (hm : F.ids.length = 0) (h0 : St F [] F.H0) (hA : DVs.Ok F [] [.bslc (BR.root 0) (.f32 v570)]) {y : Bool} (hy : impl_areFinite_g v570 = some y) : ∃ H', FnOk Try.prog 68 (DVs.av F [.bslc (BR.root 0) (.f32 v570)]) F.H0 ((impl_areFinite_enc v570 y).1.av F) H' ∧ St F (impl_areFinite_enc v570 y).2 H' ∧ (impl_areFinite_enc v570 y).1.Ok F (impl_areFinite_enc v570 y).2 :=
  fn_fin tok impl_areFinite_hO mixed Try.func68 Try.call68 (by kernel_rfl) (LoopsOk_eq (l := []) (by kernel_rfl) trivial) (impl_areFinite_den v570) hy hm h0 hA
noncomputable def impl_areFinite_F : DFn := fun args L =>
  match args with
  | [a1] =>
    optT (rowF32 L a1) fun v570 =>
    .call (impl_areFinite_g v570) fun y => .leaf (.bool y, L)
  | _ => .fail
theorem impl_areFinite_Fok : COk Try.prog 68 impl_areFinite_F true := by
  intro F L H args r L' hs ha hr
  unfold impl_areFinite_F at hr
  split at hr
  · rename_i a1
    obtain ⟨v570, hv570, hr⟩ := optT_run hr
    simp only [Tree.run] at hr
    obtain ⟨y, hy, hr⟩ := Option.bind_eq_some_iff.1 hr
    simp only [Tree.run, Option.some.injEq, Prod.mk.injEq] at hr
    obtain ⟨rfl, rfl⟩ := hr
    exact call_ok0 hs (fun k => (([a1.av F] : List AV)[k]?).getD .top) [a1] [.bslc (BR.root 0) (.f32 v570)] (fun F' h0 hi hρ => ⟨by simp [DVs.av, DV.av, BR.av, hρ], impl_areFinite_fn v570 F' (by rw [hi]; rfl) (st_nil hi) ⟨bslc_ok hi (by rw [h0, hρ]; exact rowF32_ok hs (DVs.okAt ha 0 rfl) hv570), trivial⟩ hy⟩) rfl
  · cases hr
/-! impl.ValidMatrix -/
noncomputable def impl_ValidMatrix_LO (v562 : Int) (v563 : Int) (v564 : List Nat) : LOr := fun id e L =>
  match id with
  | _ => .fail
noncomputable def impl_ValidMatrix_tab : List (FuncId × DFn × Bool) := [(77, impl_isSide_F, true), (112, impl_lengthF_F, true), (68, impl_areFinite_F, true)]
theorem impl_ValidMatrix_hO : OrcOk Try.prog (tabD impl_ValidMatrix_tab) (tabM impl_ValidMatrix_tab) := tabD_cons impl_isSide_Fok (tabD_cons impl_lengthF_Fok (tabD_cons impl_areFinite_Fok (tabD_nil _)))
noncomputable def impl_ValidMatrix_T (v562 : Int) (v563 : Int) (v564 : List Nat) : Tree (Bool) :=
  (.br (impl_isSide_v v562) (
   (.br (impl_isSide_v v563) (
    (.br (decide ((impl_lengthF_v v564) = IntKind.i64.wrap (v562 * v563))) (
     (.call (impl_areFinite_g v564) fun v587 =>
     .leaf v587)
    ) (
     .leaf false
    ))
   ) (
    .leaf false
   ))
  ) (
   .leaf false
  ))

noncomputable def impl_ValidMatrix_g (v562 : Int) (v563 : Int) (v564 : List Nat) : Option (Bool) := (impl_ValidMatrix_T v562 v563 v564).run
def impl_ValidMatrix_enc (v562 : Int) (v563 : Int) (v564 : List Nat) (y : Bool) : Rs := (.bool y, [])
theorem impl_ValidMatrix_den (v562 : Int) (v563 : Int) (v564 : List Nat) : (den TT (tabD impl_ValidMatrix_tab) (tabM impl_ValidMatrix_tab) (impl_ValidMatrix_LO v562 v563 v564) (codeOf Try.f67) ([.agg [.int .i64 v562, .int .i64 v563, .bslc (BR.root 0) (.f32 v564)]] ++ List.replicate (Try.f67.ntmps - ([.agg [.int .i64 v562, .int .i64 v563, .bslc (BR.root 0) (.f32 v564)]] : List DV).length) .undef) []).bind (retD TT Try.f67.results.toList 0) = (impl_ValidMatrix_T v562 v563 v564).bind fun y => .leaf (impl_ValidMatrix_enc v562 v563 v564 y) := by kernel_rfl
theorem impl_ValidMatrix_fn (v562 : Int) (v563 : Int) (v564 : List Nat) (F : Fr) (hm : F.ids.length = 0) (h0 : St F [] F.H0) (hA : DVs.Ok F [] [.agg [.int .i64 v562, .int .i64 v563, .bslc (BR.root 0) (.f32 v564)]]) {y : Bool} (hy : impl_ValidMatrix_g v562 v563 v564 = some y) : ∃ H', FnOk Try.prog 67 (DVs.av F [.agg [.int .i64 v562, .int .i64 v563, .bslc (BR.root 0) (.f32 v564)]]) F.H0 ((impl_ValidMatrix_enc v562 v563 v564 y).1.av F) H' ∧ St F (impl_ValidMatrix_enc v562 v563 v564 y).2 H' ∧ (impl_ValidMatrix_enc v562 v563 v564 y).1.Ok F (impl_ValidMatrix_enc v562 v563 v564 y).2 :=
  fn_fin tok impl_ValidMatrix_hO mixed Try.func67 Try.call67 (by kernel_rfl) (LoopsOk_eq (l := []) (by kernel_rfl) trivial) (impl_ValidMatrix_den v562 v563 v564) hy hm h0 hA
noncomputable def impl_ValidMatrix_F : DFn := fun args L =>
  match args with
  | [.agg [.int .i64 v562, .int .i64 v563, a1]] =>
    optT (rowF32 L a1) fun v564 =>
    .call (impl_ValidMatrix_g v562 v563 v564) fun y => .leaf (.bool y, L)
  | _ => .fail
theorem impl_ValidMatrix_Fok : COk Try.prog 67 impl_ValidMatrix_F true := by
  intro F L H args r L' hs ha hr
  unfold impl_ValidMatrix_F at hr
  split at hr
  · rename_i v562 v563 a1
    obtain ⟨v564, hv564, hr⟩ := optT_run hr
    simp only [Tree.run] at hr
    obtain ⟨y, hy, hr⟩ := Option.bind_eq_some_iff.1 hr
    simp only [Tree.run, Option.some.injEq, Prod.mk.injEq] at hr
    obtain ⟨rfl, rfl⟩ := hr
    exact call_ok0 hs (fun k => (([a1.av F] : List AV)[k]?).getD .top) [.agg [.int .i64 v562, .int .i64 v563, a1]] [.agg [.int .i64 v562, .int .i64 v563, .bslc (BR.root 0) (.f32 v564)]] (fun F' h0 hi hρ => ⟨by simp [DVs.av, DV.av, BR.av, hρ], impl_ValidMatrix_fn v562 v563 v564 F' (by rw [hi]; rfl) (st_nil hi) ⟨⟨trivial, trivial, bslc_ok hi (by rw [h0, hρ]; exact rowF32_ok hs (DVs.okAt (DVs.okAt ha 0 rfl) 2 rfl) hv564), trivial⟩, trivial⟩ hy⟩) rfl
  · cases hr
/-! impl.isSquare -/
noncomputable def impl_isSquare_LO (v559 : Int) (v560 : Int) (v561 : List Nat) : LOr := fun id e L =>
  match id with
  | _ => .fail
noncomputable def impl_isSquare_tab : List (FuncId × DFn × Bool) := [(67, impl_ValidMatrix_F, true)]
theorem impl_isSquare_hO : OrcOk Try.prog (tabD impl_isSquare_tab) (tabM impl_isSquare_tab) := tabD_cons impl_ValidMatrix_Fok (tabD_nil _)
noncomputable def impl_isSquare_T (v559 : Int) (v560 : Int) (v561 : List Nat) : Tree (Bool) :=
  (.call (impl_ValidMatrix_g v559 v560 v561) fun v588 =>
  (.br v588 (
   .leaf (decide (v559 = v560))
  ) (
   .leaf false
  )))

noncomputable def impl_isSquare_g (v559 : Int) (v560 : Int) (v561 : List Nat) : Option (Bool) := (impl_isSquare_T v559 v560 v561).run
def impl_isSquare_enc (v559 : Int) (v560 : Int) (v561 : List Nat) (y : Bool) : Rs := (.bool y, [])
theorem impl_isSquare_den (v559 : Int) (v560 : Int) (v561 : List Nat) : (den TT (tabD impl_isSquare_tab) (tabM impl_isSquare_tab) (impl_isSquare_LO v559 v560 v561) (codeOf Try.f62) ([.agg [.int .i64 v559, .int .i64 v560, .bslc (BR.root 0) (.f32 v561)]] ++ List.replicate (Try.f62.ntmps - ([.agg [.int .i64 v559, .int .i64 v560, .bslc (BR.root 0) (.f32 v561)]] : List DV).length) .undef) []).bind (retD TT Try.f62.results.toList 0) = (impl_isSquare_T v559 v560 v561).bind fun y => .leaf (impl_isSquare_enc v559 v560 v561 y) := by kernel_rfl
theorem impl_isSquare_fn (v559 : Int) (v560 : Int) (v561 : List Nat) (F : Fr) (hm : F.ids.length = 0) (h0 : St F [] F.H0) (hA : DVs.Ok F [] [.agg [.int .i64 v559, .int .i64 v560, .bslc (BR.root 0) (.f32 v561)]]) {y : Bool} (hy : impl_isSquare_g v559 v560 v561 = some y) : ∃ H', FnOk Try.prog 62 (DVs.av F [.agg [.int .i64 v559, .int .i64 v560, .bslc (BR.root 0) (.f32 v561)]]) F.H0 ((impl_isSquare_enc v559 v560 v561 y).1.av F) H' ∧ St F (impl_isSquare_enc v559 v560 v561 y).2 H' ∧ (impl_isSquare_enc v559 v560 v561 y).1.Ok F (impl_isSquare_enc v559 v560 v561 y).2 :=
  fn_fin tok impl_isSquare_hO mixed Try.func62 Try.call62 (by kernel_rfl) (LoopsOk_eq (l := []) (by kernel_rfl) trivial) (impl_isSquare_den v559 v560 v561) hy hm h0 hA
noncomputable def impl_isSquare_F : DFn := fun args L =>
  match args with
  | [.agg [.int .i64 v559, .int .i64 v560, a1]] =>
    optT (rowF32 L a1) fun v561 =>
    .call (impl_isSquare_g v559 v560 v561) fun y => .leaf (.bool y, L)
  | _ => .fail
theorem impl_isSquare_Fok : COk Try.prog 62 impl_isSquare_F true := by
  intro F L H args r L' hs ha hr
  unfold impl_isSquare_F at hr
  split at hr
  · rename_i v559 v560 a1
    obtain ⟨v561, hv561, hr⟩ := optT_run hr
    simp only [Tree.run] at hr
    obtain ⟨y, hy, hr⟩ := Option.bind_eq_some_iff.1 hr
    simp only [Tree.run, Option.some.injEq, Prod.mk.injEq] at hr
    obtain ⟨rfl, rfl⟩ := hr
    exact call_ok0 hs (fun k => (([a1.av F] : List AV)[k]?).getD .top) [.agg [.int .i64 v559, .int .i64 v560, a1]] [.agg [.int .i64 v559, .int .i64 v560, .bslc (BR.root 0) (.f32 v561)]] (fun F' h0 hi hρ => ⟨by simp [DVs.av, DV.av, BR.av, hρ], impl_isSquare_fn v559 v560 v561 F' (by rw [hi]; rfl) (st_nil hi) ⟨⟨trivial, trivial, bslc_ok hi (by rw [h0, hρ]; exact rowF32_ok hs (DVs.okAt (DVs.okAt ha 0 rfl) 2 rfl) hv561), trivial⟩, trivial⟩ hy⟩) rfl
  · cases hr
/-! impl.newMatrix -/
noncomputable def impl_newMatrix_LO (v593 : Int) (v594 : Int) : LOr := fun id e L =>
  match id with
  | _ => .fail
noncomputable def impl_newMatrix_tab : List (FuncId × DFn × Bool) := []
theorem impl_newMatrix_hO : OrcOk Try.prog (tabD impl_newMatrix_tab) (tabM impl_newMatrix_tab) := tabD_nil _
noncomputable def impl_newMatrix_T (v593 : Int) (v594 : Int) : Tree (Int × Int) :=
  (.need (IntKind.i64.wrap (v593 * v594) = IntKind.i64.wrap (v593 * v594)) <|
  (.grd (inb (IntKind.i64.wrap (v593 * v594)) (maxN + 1)) <|
  .leaf (v593, v594)))

noncomputable def impl_newMatrix_g (v593 : Int) (v594 : Int) : Option (Int × Int) := (impl_newMatrix_T v593 v594).run
def impl_newMatrix_enc (v593 : Int) (v594 : Int) (y : Int × Int) : Rs := (.agg [.int .i64 y.1, .int .i64 y.2, .own 0 0 ((List.replicate (Int.toNat (IntKind.i64.wrap (v593 * v594))) (0 : Nat)).length)], [.row (.f32 (List.replicate (Int.toNat (IntKind.i64.wrap (v593 * v594))) (0 : Nat))) 0])
theorem impl_newMatrix_den (v593 : Int) (v594 : Int) : (den TT (tabD impl_newMatrix_tab) (tabM impl_newMatrix_tab) (impl_newMatrix_LO v593 v594) (codeOf Try.f117) ([.int .i64 v593, .int .i64 v594] ++ List.replicate (Try.f117.ntmps - ([.int .i64 v593, .int .i64 v594] : List DV).length) .undef) []).bind (retD TT Try.f117.results.toList 0) = (impl_newMatrix_T v593 v594).bind fun y => .leaf (impl_newMatrix_enc v593 v594 y) := by kernel_rfl
theorem impl_newMatrix_fn (v593 : Int) (v594 : Int) (F : Fr) (hm : F.ids.length = 0) (h0 : St F [] F.H0) (hA : DVs.Ok F [] [.int .i64 v593, .int .i64 v594]) {y : Int × Int} (hy : impl_newMatrix_g v593 v594 = some y) : ∃ H', FnOk Try.prog 117 (DVs.av F [.int .i64 v593, .int .i64 v594]) F.H0 ((impl_newMatrix_enc v593 v594 y).1.av F) H' ∧ St F (impl_newMatrix_enc v593 v594 y).2 H' ∧ (impl_newMatrix_enc v593 v594 y).1.Ok F (impl_newMatrix_enc v593 v594 y).2 :=
  fn_fin tok impl_newMatrix_hO mixed Try.func117 Try.call117 (by kernel_rfl) (LoopsOk_eq (l := []) (by kernel_rfl) trivial) (impl_newMatrix_den v593 v594) hy hm h0 hA
noncomputable def impl_newMatrix_F : DFn := fun args L =>
  match args with
  | [.int .i64 v593, .int .i64 v594] =>
    .call (impl_newMatrix_g v593 v594) fun y => .leaf (.agg [.int .i64 y.1, .int .i64 y.2, .own (L.length + 0) 0 ((List.replicate (Int.toNat (IntKind.i64.wrap (v593 * v594))) (0 : Nat)).length)], L ++ [.row (.f32 (List.replicate (Int.toNat (IntKind.i64.wrap (v593 * v594))) (0 : Nat))) 0])
  | _ => .fail
theorem impl_newMatrix_Fok : COk Try.prog 117 impl_newMatrix_F true := by
  intro F L H args r L' hs ha hr
  unfold impl_newMatrix_F at hr
  split at hr
  · rename_i v593 v594
    simp only [Tree.run] at hr
    obtain ⟨y, hy, hr⟩ := Option.bind_eq_some_iff.1 hr
    simp only [Tree.run, Option.some.injEq, Prod.mk.injEq] at hr
    obtain ⟨rfl, rfl⟩ := hr
    exact call_ok1 hs (fun k => (([] : List AV)[k]?).getD .top) [.int .i64 v593, .int .i64 v594] [.int .i64 v593, .int .i64 v594] (fun F' h0 hi hρ => ⟨by simp [DVs.av, DV.av, BR.av, hρ], impl_newMatrix_fn v593 v594 F' (by rw [hi]; rfl) (st_nil hi) ⟨trivial, trivial, trivial⟩ hy⟩) rfl rfl
  · cases hr
/-! impl.unit$1 -/
noncomputable def impl_unit_1_LO (v603 : Int) (v604 : Int) : LOr := fun id e L =>
  match id with
  | _ => .fail
noncomputable def impl_unit_1_tab : List (FuncId × DFn × Bool) := []
theorem impl_unit_1_hO : OrcOk Try.prog (tabD impl_unit_1_tab) (tabM impl_unit_1_tab) := tabD_nil _
noncomputable def impl_unit_1_T (v603 : Int) (v604 : Int) : Tree (Nat) :=
  (.br (decide (v603 = v604)) (
   .leaf (1065353216 : Nat)
  ) (
   .leaf (0 : Nat)
  ))

noncomputable def impl_unit_1_g (v603 : Int) (v604 : Int) : Option (Nat) := (impl_unit_1_T v603 v604).run
def impl_unit_1_enc (v603 : Int) (v604 : Int) (y : Nat) : Rs := (.flt .f32 y, [])
theorem impl_unit_1_den (v603 : Int) (v604 : Int) : (den TT (tabD impl_unit_1_tab) (tabM impl_unit_1_tab) (impl_unit_1_LO v603 v604) (codeOf Try.f136) ([.int .i64 v603, .int .i64 v604] ++ List.replicate (Try.f136.ntmps - ([.int .i64 v603, .int .i64 v604] : List DV).length) .undef) []).bind (retD TT Try.f136.results.toList 0) = (impl_unit_1_T v603 v604).bind fun y => .leaf (impl_unit_1_enc v603 v604 y) := by kernel_rfl
theorem impl_unit_1_fn (v603 : Int) (v604 : Int) (F : Fr) (hm : F.ids.length = 0) (h0 : St F [] F.H0) (hA : DVs.Ok F [] [.int .i64 v603, .int .i64 v604]) {y : Nat} (hy : impl_unit_1_g v603 v604 = some y) : ∃ H', FnOk Try.prog 136 (DVs.av F [.int .i64 v603, .int .i64 v604]) F.H0 ((impl_unit_1_enc v603 v604 y).1.av F) H' ∧ St F (impl_unit_1_enc v603 v604 y).2 H' ∧ (impl_unit_1_enc v603 v604 y).1.Ok F (impl_unit_1_enc v603 v604 y).2 :=
  fn_fin tok impl_unit_1_hO mixed Try.func136 Try.call136 (by kernel_rfl) (LoopsOk_eq (l := []) (by kernel_rfl) trivial) (impl_unit_1_den v603 v604) hy hm h0 hA
def impl_unit_1_v (v603 : Int) (v604 : Int) : Nat :=
  if (decide (v603 = v604)) = true then (
   (1065353216 : Nat)
  ) else (
   (0 : Nat)
  )
theorem impl_unit_1_tot (v603 : Int) (v604 : Int) : impl_unit_1_g v603 v604 = some (impl_unit_1_v v603 v604) := by
  unfold impl_unit_1_g impl_unit_1_T impl_unit_1_v
  simp only [Tree.run]
  repeat' (first | rfl | split)
noncomputable def impl_unit_1_F : DFn := fun args L =>
  match args with
  | [.int .i64 v603, .int .i64 v604] =>
    .leaf (.flt .f32 (impl_unit_1_v v603 v604), L)
  | _ => .fail
theorem impl_unit_1_Fok : COk Try.prog 136 impl_unit_1_F true := by
  intro F L H args r L' hs ha hr
  unfold impl_unit_1_F at hr
  split at hr
  · rename_i v603 v604
    have hy := impl_unit_1_tot v603 v604
    generalize impl_unit_1_v v603 v604 = y at hy hr
    simp only [Tree.run, Option.some.injEq, Prod.mk.injEq] at hr
    obtain ⟨rfl, rfl⟩ := hr
    exact call_ok0 hs (fun k => (([] : List AV)[k]?).getD .top) [.int .i64 v603, .int .i64 v604] [.int .i64 v603, .int .i64 v604] (fun F' h0 hi hρ => ⟨by simp [DVs.av, DV.av, BR.av, hρ], impl_unit_1_fn v603 v604 F' (by rw [hi]; rfl) (st_nil hi) ⟨trivial, trivial, trivial⟩ hy⟩) rfl
  · cases hr
/-! (impl.Matrix).set -/
noncomputable def impl_Matrix_set_LO (v611 : Int) (v612 : Int) (v613 : List Nat) (v614 : Int) (v615 : Int) (v616 : Nat) : LOr := fun id e L =>
  match id with
  | _ => .fail
noncomputable def impl_Matrix_set_tab : List (FuncId × DFn × Bool) := []
theorem impl_Matrix_set_hO : OrcOk Try.prog (tabD impl_Matrix_set_tab) (tabM impl_Matrix_set_tab) := tabD_nil _
noncomputable def impl_Matrix_set_T (v612 : Int) (v613 : List Nat) (v614 : Int) (v615 : Int) : Tree (Unit) :=
  (.grd (inb (IntKind.i64.wrap ((IntKind.i64.wrap (v614 * v612)) + v615)) v613.length) <|
  .leaf ())

noncomputable def impl_Matrix_set_g (v612 : Int) (v613 : List Nat) (v614 : Int) (v615 : Int) : Option (Unit) := (impl_Matrix_set_T v612 v613 v614 v615).run
def impl_Matrix_set_enc (v611 : Int) (v612 : Int) (v613 : List Nat) (v614 : Int) (v615 : Int) (v616 : Nat) (y : Unit) : Rs := (.tup [], [.row (.f32 (List.set v613 (Int.toNat (IntKind.i64.wrap ((IntKind.i64.wrap (v614 * v612)) + v615))) v616)) 0])
theorem impl_Matrix_set_den (v611 : Int) (v612 : Int) (v613 : List Nat) (v614 : Int) (v615 : Int) (v616 : Nat) : (den TT (tabD impl_Matrix_set_tab) (tabM impl_Matrix_set_tab) (impl_Matrix_set_LO v611 v612 v613 v614 v615 v616) (codeOf Try.f66) ([.agg [.int .i64 v611, .int .i64 v612, .own 0 0 v613.length], .int .i64 v614, .int .i64 v615, .flt .f32 v616] ++ List.replicate (Try.f66.ntmps - ([.agg [.int .i64 v611, .int .i64 v612, .own 0 0 v613.length], .int .i64 v614, .int .i64 v615, .flt .f32 v616] : List DV).length) .undef) [.row (.f32 v613) 0]).bind (retD TT Try.f66.results.toList 1) = (impl_Matrix_set_T v612 v613 v614 v615).bind fun y => .leaf (impl_Matrix_set_enc v611 v612 v613 v614 v615 v616 y) := by kernel_rfl
theorem impl_Matrix_set_fn (v611 : Int) (v612 : Int) (v613 : List Nat) (v614 : Int) (v615 : Int) (v616 : Nat) (F : Fr) (hm : F.ids.length = 1) (h0 : St F [.row (.f32 v613) 0] F.H0) (hA : DVs.Ok F [.row (.f32 v613) 0] [.agg [.int .i64 v611, .int .i64 v612, .own 0 0 v613.length], .int .i64 v614, .int .i64 v615, .flt .f32 v616]) {y : Unit} (hy : impl_Matrix_set_g v612 v613 v614 v615 = some y) : ∃ H', FnOk Try.prog 66 (DVs.av F [.agg [.int .i64 v611, .int .i64 v612, .own 0 0 v613.length], .int .i64 v614, .int .i64 v615, .flt .f32 v616]) F.H0 ((impl_Matrix_set_enc v611 v612 v613 v614 v615 v616 y).1.av F) H' ∧ St F (impl_Matrix_set_enc v611 v612 v613 v614 v615 v616 y).2 H' ∧ (impl_Matrix_set_enc v611 v612 v613 v614 v615 v616 y).1.Ok F (impl_Matrix_set_enc v611 v612 v613 v614 v615 v616 y).2 :=
  fn_fin tok impl_Matrix_set_hO mixed Try.func66 Try.call66 (by kernel_rfl) (LoopsOk_eq (l := []) (by kernel_rfl) trivial) (impl_Matrix_set_den v611 v612 v613 v614 v615 v616) hy hm h0 hA
noncomputable def impl_Matrix_set_F : DFn := fun args L =>
  match args with
  | [.agg [.int .i64 v611, .int .i64 v612, a1], .int .i64 v614, .int .i64 v615, .flt .f32 v616] =>
    optT (ownF32 L a1) fun qv613 =>
    (match sepB [qv613.1] [] with
    | true =>
    .call (impl_Matrix_set_g v612 qv613.2 v614 v615) fun y => .grd (decide ((List.set qv613.2 (Int.toNat (IntKind.i64.wrap ((IntKind.i64.wrap (v614 * v612)) + v615))) v616).length = qv613.2.length)) (.leaf (.tup [], setRows L ([qv613.1].zip [.f32 (List.set qv613.2 (Int.toNat (IntKind.i64.wrap ((IntKind.i64.wrap (v614 * v612)) + v615))) v616)])))
    | false => .fail)
  | _ => .fail
theorem impl_Matrix_set_Fok : COk Try.prog 66 impl_Matrix_set_F false := by
  intro F L H args r L' hs ha hr
  unfold impl_Matrix_set_F at hr
  split at hr
  · rename_i v611 v612 a1 v614 v615 v616
    obtain ⟨⟨jv613, v613⟩, hqv613, hr⟩ := optT_run hr
    simp only at hr
    split at hr
    · rename_i hsep
      obtain ⟨hnd, hsepv⟩ := sepB_spec hsep
      simp only [Tree.run] at hr
      obtain ⟨y, hy, hr⟩ := Option.bind_eq_some_iff.1 hr
      try simp only [Tree.run] at hr
      obtain ⟨hl0, hr⟩ := ite_run hr
      simp only [Option.some.injEq, Prod.mk.injEq] at hr
      obtain ⟨rfl, rfl⟩ := hr
      obtain ⟨hr0, hu0, ha0, hb0⟩ := (ownR_spec (DVs.okAt (DVs.okAt ha 0 rfl) 2 rfl) (ownF32_or hqv613))
      exact mut_ok hs (fun k => (([a1.av F] : List AV)[k]?).getD .top) [.agg [.int .i64 v611, .int .i64 v612, a1], .int .i64 v614, .int .i64 v615, .flt .f32 v616] [.agg [.int .i64 v611, .int .i64 v612, .own 0 0 v613.length], .int .i64 v614, .int .i64 v615, .flt .f32 v616] [jv613] [.f32 v613] [.f32 (List.set v613 (Int.toNat (IntKind.i64.wrap ((IntKind.i64.wrap (v614 * v612)) + v615))) v616)] hnd rfl rfl (fun i j q h1 h2 => by
          rcases i with _ | i
          · simp at h1 h2; subst h1; subst h2; exact hr0
          · simp at h1) (fun i q q' h1 h2 => by
          rcases i with _ | i
          · simp at h1 h2; subst h1; subst h2; exact of_decide_eq_true hl0
          · simp at h1) (fun j hj => by simp at hj; subst hj; simp [DVs.refs, DV.refs, hu0]) (fun F' h0 hi hρ hst hS => ⟨by (have ab0 : F'.abs 0 = F.abs jv613 := (by simp [Fr.abs, hi]); simp [DVs.av, DV.av, BR.av, hρ, Row.len, ha0, ab0]), by
          obtain ⟨H1, k1, k2, _⟩ := impl_Matrix_set_fn v611 v612 v613 v614 v615 v616 F' (by rw [hi]; rfl) hst ⟨⟨trivial, trivial, ⟨_, rfl, Nat.le_refl _, Nat.le_refl _, fun _ => rfl, (ownR_spec (DVs.okAt (DVs.okAt ha 0 rfl) 2 rfl) (ownF32_or hqv613)).2.2.2⟩, trivial⟩, trivial, trivial, trivial, trivial⟩ hy
          exact ⟨H1, k1, k2⟩⟩) (fun F' => rfl) (fun L' => trivial)
    · cases hr
  · cases hr
/-! impl.made -/
noncomputable def impl_made_l2_T (v592 : Int) (v670 : Int) (v672 : Int) (v673 : Int) (s : Int × (List Nat)) : Tree ((Int × (List Nat)) ⊕ ((List Nat))) :=
  (.br (decide (s.1 < v592)) (
   (.call (impl_Matrix_set_g v673 s.2 v670 s.1) fun v675 =>
   (.grd (decide ((List.set s.2 (Int.toNat (IntKind.i64.wrap ((IntKind.i64.wrap (v670 * v673)) + s.1))) (impl_unit_1_v v670 s.1)).length = s.2.length)) <|
   .leaf (.inl (IntKind.i64.wrap (s.1 + (1 : Int)), List.set s.2 (Int.toNat (IntKind.i64.wrap ((IntKind.i64.wrap (v670 * v673)) + s.1))) (impl_unit_1_v v670 s.1)))))
  ) (
   .leaf (.inr s.2)
  ))

noncomputable def impl_made_l2_g (v592 : Int) (v670 : Int) (v672 : Int) (v673 : Int) (s0 : Int × (List Nat)) : Option ((List Nat)) := whileM (fun s => (impl_made_l2_T v592 v670 v672 v673 s).run) s0
def impl_made_l2_E (v591 : Int) (v592 : Int) (v670 : Int) (v672 : Int) (v673 : Int) (s : Int × (List Nat)) : Sd := ([.top, .int .i64 v592, .fn 136 [], .top, .top, .top, .ptr 0 (0 : Nat) 0 (3 : Nat), .ptr 1 (0 : Nat) 0 (3 : Nat), .int .i64 v670, .top, .top, .top, .top, .int .i64 v591, .int .i64 v670, .top, .top, .int .i64 v592, .int .i64 s.1, .top, .top, .top, .top, .top, .top, .top, .top, .top, .top, .top, .top, .top], [.gen [.int .i64 (0 : Int), .int .i64 (0 : Int), .nilslc] false 0, .gen [.int .i64 v672, .int .i64 v673, .own 2 0 ((s.2).length)] false 0, .row (.f32 s.2) 0])
def impl_made_l2_X (v591 : Int) (v592 : Int) (v670 : Int) (v672 : Int) (v673 : Int) (x : (List Nat)) : Out := (.normal, [.top, .int .i64 v592, .fn 136 [], .top, .top, .top, .ptr 0 (0 : Nat) 0 (3 : Nat), .ptr 1 (0 : Nat) 0 (3 : Nat), .top, .top, .top, .top, .top, .int .i64 v591, .int .i64 v670, .top, .top, .top, .top, .top, .top, .top, .top, .top, .top, .top, .top, .top, .top, .top, .top, .top], [.gen [.int .i64 (0 : Int), .int .i64 (0 : Int), .nilslc] false 0, .gen [.int .i64 v672, .int .i64 v673, .own 2 0 ((x).length)] false 0, .row (.f32 x) 0])
def impl_made_l2_kill : List Nat := [1, 0, 0, 1, 1, 1, 0, 0, 0, 1, 1, 1, 1, 0, 0, 1, 1, 0, 0, 1, 1, 1, 1, 1, 1, 1, 1, 1, 1, 1, 1, 1]
def impl_made_l2_nx : Exit → List Nat
  | .exit 0 => [1, 1, 1, 1, 1, 1, 0, 0, 1, 1, 1, 1, 1, 1, 1, 1, 1, 1, 1, 1, 1, 1, 1, 1, 1, 1, 1, 1, 1, 1, 1, 1]
  | .exit 1 => [1, 0, 0, 1, 1, 1, 0, 0, 1, 1, 1, 1, 1, 0, 0, 1, 1, 1, 1, 1, 1, 1, 1, 1, 1, 1, 1, 1, 1, 1, 1, 1]
  | .exit 2 => [1, 0, 0, 1, 1, 1, 0, 0, 1, 1, 1, 1, 1, 0, 0, 1, 1, 1, 1, 1, 1, 1, 1, 1, 1, 1, 1, 1, 1, 1, 1, 1]
  | .ret => [1, 1, 1, 1, 1, 1, 0, 1, 1, 1, 1, 1, 1, 1, 1, 1, 1, 1, 1, 1, 1, 1, 1, 1, 1, 1, 1, 1, 1, 1, 1, 1]
  | _ => []
noncomputable def impl_made_l0_T (v591 : Int) (v592 : Int) (v655 : Int) (v656 : Int) (s : Int × (List Nat)) : Tree ((Int × (List Nat)) ⊕ ((List Nat))) :=
  (.br (decide (s.1 < v591)) (
   (.need (some (impl_made_l2_E v591 v592 s.1 v655 v656 ((0 : Int), s.2)) = some (impl_made_l2_E v591 v592 s.1 v655 v656 ((0 : Int), s.2))) <|
   (.call (impl_made_l2_g v592 s.1 v655 v656 ((0 : Int), s.2)) fun v676 =>
   .leaf (.inl (IntKind.i64.wrap (s.1 + (1 : Int)), v676))))
  ) (
   .leaf (.inr s.2)
  ))

noncomputable def impl_made_l0_g (v591 : Int) (v592 : Int) (v655 : Int) (v656 : Int) (s0 : Int × (List Nat)) : Option ((List Nat)) := whileM (fun s => (impl_made_l0_T v591 v592 v655 v656 s).run) s0
def impl_made_l0_E (v591 : Int) (v592 : Int) (v655 : Int) (v656 : Int) (s : Int × (List Nat)) : Sd := ([.top, .int .i64 v592, .fn 136 [], .top, .top, .top, .ptr 0 (0 : Nat) 0 (3 : Nat), .ptr 1 (0 : Nat) 0 (3 : Nat), .top, .top, .top, .top, .top, .int .i64 v591, .int .i64 s.1, .top, .top, .top, .top, .top, .top, .top, .top, .top, .top, .top, .top, .top, .top, .top, .top, .top], [.gen [.int .i64 (0 : Int), .int .i64 (0 : Int), .nilslc] false 0, .gen [.int .i64 v655, .int .i64 v656, .own 2 0 ((s.2).length)] false 0, .row (.f32 s.2) 0])
def impl_made_l0_X (v591 : Int) (v592 : Int) (v655 : Int) (v656 : Int) (x : (List Nat)) : Out := (.normal, [.top, .top, .top, .top, .top, .top, .ptr 0 (0 : Nat) 0 (3 : Nat), .ptr 1 (0 : Nat) 0 (3 : Nat), .top, .top, .top, .top, .top, .top, .top, .top, .top, .top, .top, .top, .top, .top, .top, .top, .top, .top, .top, .top, .top, .top, .top, .top], [.gen [.int .i64 (0 : Int), .int .i64 (0 : Int), .nilslc] false 0, .gen [.int .i64 v655, .int .i64 v656, .own 2 0 ((x).length)] false 0, .row (.f32 x) 0])
def impl_made_l0_kill : List Nat := [1, 0, 0, 1, 1, 1, 0, 0, 1, 1, 1, 1, 1, 0, 0, 1, 1, 1, 1, 1, 1, 1, 1, 1, 1, 1, 1, 1, 1, 1, 1, 1]
def impl_made_l0_nx : Exit → List Nat
  | .exit 0 => [1, 1, 1, 1, 1, 1, 0, 0, 1, 1, 1, 1, 1, 1, 1, 1, 1, 1, 1, 1, 1, 1, 1, 1, 1, 1, 1, 1, 1, 1, 1, 1]
  | .ret => [1, 1, 1, 1, 1, 1, 0, 1, 1, 1, 1, 1, 1, 1, 1, 1, 1, 1, 1, 1, 1, 1, 1, 1, 1, 1, 1, 1, 1, 1, 1, 1]
  | _ => []
noncomputable def impl_made_LO (v591 : Int) (v592 : Int) : LOr := fun id e L =>
  match id with
  | 2 => .need (normA 0 impl_made_l2_kill e L = some (impl_made_l2_E v591 v592 (gI (vAt e 8)) (gI (cAt L (vAt e 7) 0)) (gI (cAt L (vAt e 7) 1)) ((gI (vAt e 18)), (gRF L (cAt L (vAt e 7) 2))))) (.call (impl_made_l2_g v592 (gI (vAt e 8)) (gI (cAt L (vAt e 7) 0)) (gI (cAt L (vAt e 7) 1)) ((gI (vAt e 18)), (gRF L (cAt L (vAt e 7) 2)))) fun x => .leaf (impl_made_l2_X v591 v592 (gI (vAt e 8)) (gI (cAt L (vAt e 7) 0)) (gI (cAt L (vAt e 7) 1)) x))
  | 0 => .need (normA 0 impl_made_l0_kill e L = some (impl_made_l0_E v591 v592 (gI (cAt L (vAt e 7) 0)) (gI (cAt L (vAt e 7) 1)) ((gI (vAt e 14)), (gRF L (cAt L (vAt e 7) 2))))) (.call (impl_made_l0_g v591 v592 (gI (cAt L (vAt e 7) 0)) (gI (cAt L (vAt e 7) 1)) ((gI (vAt e 14)), (gRF L (cAt L (vAt e 7) 2)))) fun x => .leaf (impl_made_l0_X v591 v592 (gI (cAt L (vAt e 7) 0)) (gI (cAt L (vAt e 7) 1)) x))
  | _ => .fail
noncomputable def impl_made_tab : List (FuncId × DFn × Bool) := [(117, impl_newMatrix_F, true), (136, impl_unit_1_F, true), (66, impl_Matrix_set_F, false)]
theorem impl_made_hO : OrcOk Try.prog (tabD impl_made_tab) (tabM impl_made_tab) := tabD_cons impl_newMatrix_Fok (tabD_cons impl_unit_1_Fok (tabD_cons impl_Matrix_set_Fok (tabD_nil _)))
theorem impl_made_l2_be (v591 : Int) (v592 : Int) (v670 : Int) (v672 : Int) (v673 : Int) (s : Int × (List Nat)) : bodyT TT (tabD impl_made_tab) (tabM impl_made_tab) (impl_made_LO v591 v592) 0 impl_made_l2_kill impl_made_l2_nx (bodyOf Try.f78 2) 2 (impl_made_l2_E v591 v592 v670 v672 v673 s) = (impl_made_l2_T v592 v670 v672 v673 s).bind fun y => .leaf (outS (impl_made_l2_E v591 v592 v670 v672 v673) (impl_made_l2_X v591 v592 v670 v672 v673) y) := by kernel_rfl
theorem impl_made_l2_ok (v591 : Int) (v592 : Int) : LSound Try.prog 0 (impl_made_LO v591 v592) 2 (bodyOf Try.f78 2) := by
  intro e L out h
  exact lo_ok (E := impl_made_l2_E v591 v592 (gI (vAt e 8)) (gI (cAt L (vAt e 7) 0)) (gI (cAt L (vAt e 7) 1))) (gT := impl_made_l2_T v592 (gI (vAt e 8)) (gI (cAt L (vAt e 7) 0)) (gI (cAt L (vAt e 7) 1))) (X := impl_made_l2_X v591 v592 (gI (vAt e 8)) (gI (cAt L (vAt e 7) 0)) (gI (cAt L (vAt e 7) 1))) (s0 := ((gI (vAt e 18)), (gRF L (cAt L (vAt e 7) 2)))) tok impl_made_hO mixed (LoopsOk_eq (l := []) (by kernel_rfl) trivial) (impl_made_l2_be v591 v592 (gI (vAt e 8)) (gI (cAt L (vAt e 7) 0)) (gI (cAt L (vAt e 7) 1))) rfl (by intro x; rfl) h
theorem impl_made_l0_be (v591 : Int) (v592 : Int) (v655 : Int) (v656 : Int) (s : Int × (List Nat)) : bodyT TT (tabD impl_made_tab) (tabM impl_made_tab) (impl_made_LO v591 v592) 0 impl_made_l0_kill impl_made_l0_nx (bodyOf Try.f78 0) 0 (impl_made_l0_E v591 v592 v655 v656 s) = (impl_made_l0_T v591 v592 v655 v656 s).bind fun y => .leaf (outS (impl_made_l0_E v591 v592 v655 v656) (impl_made_l0_X v591 v592 v655 v656) y) := by kernel_rfl
theorem impl_made_l0_ok (v591 : Int) (v592 : Int) : LSound Try.prog 0 (impl_made_LO v591 v592) 0 (bodyOf Try.f78 0) := by
  intro e L out h
  exact lo_ok (E := impl_made_l0_E v591 v592 (gI (cAt L (vAt e 7) 0)) (gI (cAt L (vAt e 7) 1))) (gT := impl_made_l0_T v591 v592 (gI (cAt L (vAt e 7) 0)) (gI (cAt L (vAt e 7) 1))) (X := impl_made_l0_X v591 v592 (gI (cAt L (vAt e 7) 0)) (gI (cAt L (vAt e 7) 1))) (s0 := ((gI (vAt e 14)), (gRF L (cAt L (vAt e 7) 2)))) tok impl_made_hO mixed (LoopsOk_eq (l := [(2, bodyOf Try.f78 2)]) (by kernel_rfl) ⟨impl_made_l2_ok v591 v592, trivial⟩) (impl_made_l0_be v591 v592 (gI (cAt L (vAt e 7) 0)) (gI (cAt L (vAt e 7) 1))) rfl (by intro x; rfl) h
noncomputable def impl_made_T (v591 : Int) (v592 : Int) : Tree (Int × Int × (List Nat)) :=
  (.call (impl_newMatrix_g v591 v592) fun v595 =>
  (.need (some (impl_made_l0_E v591 v592 v595.1 v595.2 ((0 : Int), List.replicate (Int.toNat (IntKind.i64.wrap (v591 * v592))) (0 : Nat))) = some (impl_made_l0_E v591 v592 v595.1 v595.2 ((0 : Int), List.replicate (Int.toNat (IntKind.i64.wrap (v591 * v592))) (0 : Nat)))) <|
  (.call (impl_made_l0_g v591 v592 v595.1 v595.2 ((0 : Int), List.replicate (Int.toNat (IntKind.i64.wrap (v591 * v592))) (0 : Nat))) fun v677 =>
  .leaf (v595.1, v595.2, v677))))

noncomputable def impl_made_g (v591 : Int) (v592 : Int) : Option (Int × Int × (List Nat)) := (impl_made_T v591 v592).run
def impl_made_enc (v591 : Int) (v592 : Int) (y : Int × Int × (List Nat)) : Rs := (.agg [.int .i64 y.1, .int .i64 y.2.1, .own 0 0 ((y.2.2).length)], [.row (.f32 y.2.2) 0])
theorem impl_made_den (v591 : Int) (v592 : Int) : (den TT (tabD impl_made_tab) (tabM impl_made_tab) (impl_made_LO v591 v592) (codeOf Try.f78) ([.int .i64 v591, .int .i64 v592, .fn 136 []] ++ List.replicate (Try.f78.ntmps - ([.int .i64 v591, .int .i64 v592, .fn 136 []] : List DV).length) .undef) []).bind (retD TT Try.f78.results.toList 0) = (impl_made_T v591 v592).bind fun y => .leaf (impl_made_enc v591 v592 y) := by kernel_rfl
theorem impl_made_fn (v591 : Int) (v592 : Int) (F : Fr) (hm : F.ids.length = 0) (h0 : St F [] F.H0) (hA : DVs.Ok F [] [.int .i64 v591, .int .i64 v592, .fn 136 []]) {y : Int × Int × (List Nat)} (hy : impl_made_g v591 v592 = some y) : ∃ H', FnOk Try.prog 78 (DVs.av F [.int .i64 v591, .int .i64 v592, .fn 136 []]) F.H0 ((impl_made_enc v591 v592 y).1.av F) H' ∧ St F (impl_made_enc v591 v592 y).2 H' ∧ (impl_made_enc v591 v592 y).1.Ok F (impl_made_enc v591 v592 y).2 :=
  fn_fin tok impl_made_hO mixed Try.func78 Try.call78 (by kernel_rfl) (LoopsOk_eq (l := [(0, bodyOf Try.f78 0)]) (by kernel_rfl) ⟨impl_made_l0_ok v591 v592, trivial⟩) (impl_made_den v591 v592) hy hm h0 hA
noncomputable def impl_made_F : DFn := fun args L =>
  match args with
  | [.int .i64 v591, .int .i64 v592, .fn 136 []] =>
    .call (impl_made_g v591 v592) fun y => .leaf (.agg [.int .i64 y.1, .int .i64 y.2.1, .own (L.length + 0) 0 ((y.2.2).length)], L ++ [.row (.f32 y.2.2) 0])
  | _ => .fail
theorem impl_made_Fok : COk Try.prog 78 impl_made_F true := by
  intro F L H args r L' hs ha hr
  unfold impl_made_F at hr
  split at hr
  · rename_i v591 v592
    simp only [Tree.run] at hr
    obtain ⟨y, hy, hr⟩ := Option.bind_eq_some_iff.1 hr
    simp only [Tree.run, Option.some.injEq, Prod.mk.injEq] at hr
    obtain ⟨rfl, rfl⟩ := hr
    exact call_ok1 hs (fun k => (([] : List AV)[k]?).getD .top) [.int .i64 v591, .int .i64 v592, .fn 136 []] [.int .i64 v591, .int .i64 v592, .fn 136 []] (fun F' h0 hi hρ => ⟨by simp [DVs.av, DV.av, BR.av, hρ], impl_made_fn v591 v592 F' (by rw [hi]; rfl) (st_nil hi) ⟨trivial, trivial, trivial, trivial⟩ hy⟩) rfl rfl
  · cases hr
/-! impl.unit -/
noncomputable def impl_unit_LO (v590 : Int) : LOr := fun id e L =>
  match id with
  | _ => .fail
noncomputable def impl_unit_tab : List (FuncId × DFn × Bool) := [(78, impl_made_F, true)]
theorem impl_unit_hO : OrcOk Try.prog (tabD impl_unit_tab) (tabM impl_unit_tab) := tabD_cons impl_made_Fok (tabD_nil _)
noncomputable def impl_unit_T (v590 : Int) : Tree (Int × Int × (List Nat)) :=
  (.call (impl_made_g v590 v590) fun v678 =>
  .leaf (v678.1, v678.2.1, v678.2.2))

noncomputable def impl_unit_g (v590 : Int) : Option (Int × Int × (List Nat)) := (impl_unit_T v590).run
def impl_unit_enc (v590 : Int) (y : Int × Int × (List Nat)) : Rs := (.agg [.int .i64 y.1, .int .i64 y.2.1, .own 0 0 ((y.2.2).length)], [.row (.f32 y.2.2) 0])
theorem impl_unit_den (v590 : Int) : (den TT (tabD impl_unit_tab) (tabM impl_unit_tab) (impl_unit_LO v590) (codeOf Try.f63) ([.int .i64 v590] ++ List.replicate (Try.f63.ntmps - ([.int .i64 v590] : List DV).length) .undef) []).bind (retD TT Try.f63.results.toList 0) = (impl_unit_T v590).bind fun y => .leaf (impl_unit_enc v590 y) := by kernel_rfl
theorem impl_unit_fn (v590 : Int) (F : Fr) (hm : F.ids.length = 0) (h0 : St F [] F.H0) (hA : DVs.Ok F [] [.int .i64 v590]) {y : Int × Int × (List Nat)} (hy : impl_unit_g v590 = some y) : ∃ H', FnOk Try.prog 63 (DVs.av F [.int .i64 v590]) F.H0 ((impl_unit_enc v590 y).1.av F) H' ∧ St F (impl_unit_enc v590 y).2 H' ∧ (impl_unit_enc v590 y).1.Ok F (impl_unit_enc v590 y).2 :=
  fn_fin tok impl_unit_hO mixed Try.func63 Try.call63 (by kernel_rfl) (LoopsOk_eq (l := []) (by kernel_rfl) trivial) (impl_unit_den v590) hy hm h0 hA
noncomputable def impl_unit_F : DFn := fun args L =>
  match args with
  | [.int .i64 v590] =>
    .call (impl_unit_g v590) fun y => .leaf (.agg [.int .i64 y.1, .int .i64 y.2.1, .own (L.length + 0) 0 ((y.2.2).length)], L ++ [.row (.f32 y.2.2) 0])
  | _ => .fail
theorem impl_unit_Fok : COk Try.prog 63 impl_unit_F true := by
  intro F L H args r L' hs ha hr
  unfold impl_unit_F at hr
  split at hr
  · rename_i v590
    simp only [Tree.run] at hr
    obtain ⟨y, hy, hr⟩ := Option.bind_eq_some_iff.1 hr
    simp only [Tree.run, Option.some.injEq, Prod.mk.injEq] at hr
    obtain ⟨rfl, rfl⟩ := hr
    exact call_ok1 hs (fun k => (([] : List AV)[k]?).getD .top) [.int .i64 v590] [.int .i64 v590] (fun F' h0 hi hρ => ⟨by simp [DVs.av, DV.av, BR.av, hρ], impl_unit_fn v590 F' (by rw [hi]; rfl) (st_nil hi) ⟨trivial, trivial⟩ hy⟩) rfl rfl
  · cases hr
/-! (impl.Matrix).at -/
noncomputable def impl_Matrix_at_LO (v689 : Int) (v690 : Int) (v691 : List Nat) (v692 : Int) (v693 : Int) : LOr := fun id e L =>
  match id with
  | _ => .fail
noncomputable def impl_Matrix_at_tab : List (FuncId × DFn × Bool) := []
theorem impl_Matrix_at_hO : OrcOk Try.prog (tabD impl_Matrix_at_tab) (tabM impl_Matrix_at_tab) := tabD_nil _
noncomputable def impl_Matrix_at_T (v690 : Int) (v691 : List Nat) (v692 : Int) (v693 : Int) : Tree (Nat) :=
  (.grd (inb (IntKind.i64.wrap ((IntKind.i64.wrap (v692 * v690)) + v693)) v691.length) <|
  .leaf (nth v691 (Int.toNat (IntKind.i64.wrap ((IntKind.i64.wrap (v692 * v690)) + v693)))))

noncomputable def impl_Matrix_at_g (v690 : Int) (v691 : List Nat) (v692 : Int) (v693 : Int) : Option (Nat) := (impl_Matrix_at_T v690 v691 v692 v693).run
def impl_Matrix_at_enc (v689 : Int) (v690 : Int) (v691 : List Nat) (v692 : Int) (v693 : Int) (y : Nat) : Rs := (.flt .f32 y, [])
theorem impl_Matrix_at_den (v689 : Int) (v690 : Int) (v691 : List Nat) (v692 : Int) (v693 : Int) : (den TT (tabD impl_Matrix_at_tab) (tabM impl_Matrix_at_tab) (impl_Matrix_at_LO v689 v690 v691 v692 v693) (codeOf Try.f64) ([.agg [.int .i64 v689, .int .i64 v690, .bslc (BR.root 0) (.f32 v691)], .int .i64 v692, .int .i64 v693] ++ List.replicate (Try.f64.ntmps - ([.agg [.int .i64 v689, .int .i64 v690, .bslc (BR.root 0) (.f32 v691)], .int .i64 v692, .int .i64 v693] : List DV).length) .undef) []).bind (retD TT Try.f64.results.toList 0) = (impl_Matrix_at_T v690 v691 v692 v693).bind fun y => .leaf (impl_Matrix_at_enc v689 v690 v691 v692 v693 y) := by kernel_rfl
theorem impl_Matrix_at_fn (v689 : Int) (v690 : Int) (v691 : List Nat) (v692 : Int) (v693 : Int) (F : Fr) (hm : F.ids.length = 0) (h0 : St F [] F.H0) (hA : DVs.Ok F [] [.agg [.int .i64 v689, .int .i64 v690, .bslc (BR.root 0) (.f32 v691)], .int .i64 v692, .int .i64 v693]) {y : Nat} (hy : impl_Matrix_at_g v690 v691 v692 v693 = some y) : ∃ H', FnOk Try.prog 64 (DVs.av F [.agg [.int .i64 v689, .int .i64 v690, .bslc (BR.root 0) (.f32 v691)], .int .i64 v692, .int .i64 v693]) F.H0 ((impl_Matrix_at_enc v689 v690 v691 v692 v693 y).1.av F) H' ∧ St F (impl_Matrix_at_enc v689 v690 v691 v692 v693 y).2 H' ∧ (impl_Matrix_at_enc v689 v690 v691 v692 v693 y).1.Ok F (impl_Matrix_at_enc v689 v690 v691 v692 v693 y).2 :=
  fn_fin tok impl_Matrix_at_hO mixed Try.func64 Try.call64 (by kernel_rfl) (LoopsOk_eq (l := []) (by kernel_rfl) trivial) (impl_Matrix_at_den v689 v690 v691 v692 v693) hy hm h0 hA
noncomputable def impl_Matrix_at_F : DFn := fun args L =>
  match args with
  | [.agg [.int .i64 v689, .int .i64 v690, a1], .int .i64 v692, .int .i64 v693] =>
    optT (rowF32 L a1) fun v691 =>
    .call (impl_Matrix_at_g v690 v691 v692 v693) fun y => .leaf (.flt .f32 y, L)
  | _ => .fail
theorem impl_Matrix_at_Fok : COk Try.prog 64 impl_Matrix_at_F true := by
  intro F L H args r L' hs ha hr
  unfold impl_Matrix_at_F at hr
  split at hr
  · rename_i v689 v690 a1 v692 v693
    obtain ⟨v691, hv691, hr⟩ := optT_run hr
    simp only [Tree.run] at hr
    obtain ⟨y, hy, hr⟩ := Option.bind_eq_some_iff.1 hr
    simp only [Tree.run, Option.some.injEq, Prod.mk.injEq] at hr
    obtain ⟨rfl, rfl⟩ := hr
    exact call_ok0 hs (fun k => (([a1.av F] : List AV)[k]?).getD .top) [.agg [.int .i64 v689, .int .i64 v690, a1], .int .i64 v692, .int .i64 v693] [.agg [.int .i64 v689, .int .i64 v690, .bslc (BR.root 0) (.f32 v691)], .int .i64 v692, .int .i64 v693] (fun F' h0 hi hρ => ⟨by simp [DVs.av, DV.av, BR.av, hρ], impl_Matrix_at_fn v689 v690 v691 v692 v693 F' (by rw [hi]; rfl) (st_nil hi) ⟨⟨trivial, trivial, bslc_ok hi (by rw [h0, hρ]; exact rowF32_ok hs (DVs.okAt (DVs.okAt ha 0 rfl) 2 rfl) hv691), trivial⟩, trivial, trivial, trivial⟩ hy⟩) rfl
  · cases hr
/-! impl.mul -/
noncomputable def impl_mul_LO (v703 : Nat) (v704 : Nat) : LOr := fun id e L =>
  match id with
  | _ => .fail
noncomputable def impl_mul_tab : List (FuncId × DFn × Bool) := []
theorem impl_mul_hO : OrcOk Try.prog (tabD impl_mul_tab) (tabM impl_mul_tab) := tabD_nil _
noncomputable def impl_mul_T (v703 : Nat) (v704 : Nat) : Tree (Nat) :=
  .leaf (fmul .f32 v703 v704)

noncomputable def impl_mul_g (v703 : Nat) (v704 : Nat) : Option (Nat) := (impl_mul_T v703 v704).run
def impl_mul_enc (v703 : Nat) (v704 : Nat) (y : Nat) : Rs := (.flt .f32 y, [])
theorem impl_mul_den (v703 : Nat) (v704 : Nat) : (den TT (tabD impl_mul_tab) (tabM impl_mul_tab) (impl_mul_LO v703 v704) (codeOf Try.f65) ([.flt .f32 v703, .flt .f32 v704] ++ List.replicate (Try.f65.ntmps - ([.flt .f32 v703, .flt .f32 v704] : List DV).length) .undef) []).bind (retD TT Try.f65.results.toList 0) = (impl_mul_T v703 v704).bind fun y => .leaf (impl_mul_enc v703 v704 y) := by kernel_rfl
theorem impl_mul_fn (v703 : Nat) (v704 : Nat) (F : Fr) (hm : F.ids.length = 0) (h0 : St F [] F.H0) (hA : DVs.Ok F [] [.flt .f32 v703, .flt .f32 v704]) {y : Nat} (hy : impl_mul_g v703 v704 = some y) : ∃ H', FnOk Try.prog 65 (DVs.av F [.flt .f32 v703, .flt .f32 v704]) F.H0 ((impl_mul_enc v703 v704 y).1.av F) H' ∧ St F (impl_mul_enc v703 v704 y).2 H' ∧ (impl_mul_enc v703 v704 y).1.Ok F (impl_mul_enc v703 v704 y).2 :=
  fn_fin tok impl_mul_hO mixed Try.func65 Try.call65 (by kernel_rfl) (LoopsOk_eq (l := []) (by kernel_rfl) trivial) (impl_mul_den v703 v704) hy hm h0 hA
def impl_mul_v (v703 : Nat) (v704 : Nat) : Nat :=
  fmul .f32 v703 v704
theorem impl_mul_tot (v703 : Nat) (v704 : Nat) : impl_mul_g v703 v704 = some (impl_mul_v v703 v704) := by
  unfold impl_mul_g impl_mul_T impl_mul_v
  simp only [Tree.run]
  repeat' (first | rfl | split)
noncomputable def impl_mul_F : DFn := fun args L =>
  match args with
  | [.flt .f32 v703, .flt .f32 v704] =>
    .leaf (.flt .f32 (impl_mul_v v703 v704), L)
  | _ => .fail
theorem impl_mul_Fok : COk Try.prog 65 impl_mul_F true := by
  intro F L H args r L' hs ha hr
  unfold impl_mul_F at hr
  split at hr
  · rename_i v703 v704
    have hy := impl_mul_tot v703 v704
    generalize impl_mul_v v703 v704 = y at hy hr
    simp only [Tree.run, Option.some.injEq, Prod.mk.injEq] at hr
    obtain ⟨rfl, rfl⟩ := hr
    exact call_ok0 hs (fun k => (([] : List AV)[k]?).getD .top) [.flt .f32 v703, .flt .f32 v704] [.flt .f32 v703, .flt .f32 v704] (fun F' h0 hi hρ => ⟨by simp [DVs.av, DV.av, BR.av, hρ], impl_mul_fn v703 v704 F' (by rw [hi]; rfl) (st_nil hi) ⟨trivial, trivial, trivial⟩ hy⟩) rfl
  · cases hr
/-! impl.MiddleFactor -/
noncomputable def impl_MiddleFactor_l4_T (v1042 : Int) (v1043 : Int) (v1046 : Int) (v1047 : Int) (v1048 : List Nat) (v1049 : List Nat) (s : Nat × Int) : Tree ((Nat × Int) ⊕ (Nat)) :=
  (.br (decide (s.2 < v1042)) (
   (.grd (inb s.2 ((v1048).length)) <|
   (.call (impl_Matrix_at_g v1047 v1049 v1043 s.2) fun v1050 =>
   (.call (impl_Matrix_at_g v1047 v1049 v1042 s.2) fun v1051 =>
   .leaf (.inl (fsub .f32 s.1 (impl_mul_v (impl_mul_v (nth v1048 (Int.toNat s.2)) v1050) v1051), IntKind.i64.wrap (s.2 + (1 : Int)))))))
  ) (
   .leaf (.inr s.1)
  ))

noncomputable def impl_MiddleFactor_l4_g (v1042 : Int) (v1043 : Int) (v1046 : Int) (v1047 : Int) (v1048 : List Nat) (v1049 : List Nat) (s0 : Nat × Int) : Option (Nat) := whileM (fun s => (impl_MiddleFactor_l4_T v1042 v1043 v1046 v1047 v1048 v1049 s).run) s0
def impl_MiddleFactor_l4_E (v556 : Int) (v557 : Int) (v558 : List Nat) (v1042 : Int) (v1043 : Int) (v1046 : Int) (v1047 : Int) (v1048 : List Nat) (v1049 : List Nat) (s : Nat × Int) : Sd := ([.top, .ptr 0 (0 : Nat) 0 (3 : Nat), .ptr 1 (0 : Nat) 0 (3 : Nat), .top, .top, .ptr 2 (0 : Nat) 0 (3 : Nat), .own 3 0 ((v1048).length), .int .i64 v1042, .int .i64 v1043, .flt .f32 s.1, .top, .top, .top, .top, .top, .top, .top, .top, .top, .top, .int .i64 v556, .int .i64 v1042, .top, .top, .top, .top, .top, .top, .top, .top, .top, .top, .top, .top, .top, .int .i64 v1042, .int .i64 s.2, .top, .top, .top, .top, .top, .top, .top, .top, .top, .top, .top, .top, .top, .top, .top, .top, .top, .top, .top, .top, .top, .top, .top, .top, .top, .top, .top, .top, .top, .top, .top, .top, .top, .top, .top, .top, .top, .top, .top, .top, .top, .top, .top, .top, .top, .top, .top, .top, .top, .top, .top], [.gen [.int .i64 v556, .int .i64 v557, .bslc (BR.root 0) (.f32 v558)] false 0, .gen [.int .i64 (0 : Int), .int .i64 (0 : Int), .nilslc] false 0, .gen [.int .i64 v1046, .int .i64 v1047, .own 4 0 ((v1049).length)] false 0, .row (.f32 v1048) 0, .row (.f32 v1049) 0])
def impl_MiddleFactor_l4_X (v556 : Int) (v557 : Int) (v558 : List Nat) (v1042 : Int) (v1043 : Int) (v1046 : Int) (v1047 : Int) (v1048 : List Nat) (v1049 : List Nat) (x : Nat) : Out := (.normal, [.top, .ptr 0 (0 : Nat) 0 (3 : Nat), .ptr 1 (0 : Nat) 0 (3 : Nat), .top, .top, .ptr 2 (0 : Nat) 0 (3 : Nat), .own 3 0 ((v1048).length), .int .i64 v1042, .int .i64 v1043, .flt .f32 x, .top, .top, .top, .top, .top, .top, .top, .top, .top, .top, .int .i64 v556, .int .i64 v1042, .top, .top, .top, .top, .top, .top, .top, .top, .top, .top, .top, .top, .top, .top, .top, .top, .top, .top, .top, .top, .top, .top, .top, .top, .top, .top, .top, .top, .top, .top, .top, .top, .top, .top, .top, .top, .top, .top, .top, .top, .top, .top, .top, .top, .top, .top, .top, .top, .top, .top, .top, .top, .top, .top, .top, .top, .top, .top, .top, .top, .top, .top, .top, .top, .top, .top], [.gen [.int .i64 v556, .int .i64 v557, .bslc (BR.root 0) (.f32 v558)] false 0, .gen [.int .i64 (0 : Int), .int .i64 (0 : Int), .nilslc] false 0, .gen [.int .i64 v1046, .int .i64 v1047, .own 4 0 ((v1049).length)] false 0, .row (.f32 v1048) 0, .row (.f32 v1049) 0])
def impl_MiddleFactor_l4_kill : List Nat := [1, 0, 0, 1, 1, 0, 0, 0, 0, 0, 1, 1, 1, 1, 1, 1, 1, 1, 1, 1, 0, 0, 1, 1, 1, 1, 1, 1, 1, 1, 1, 1, 1, 1, 1, 0, 0, 1, 1, 1, 1, 1, 1, 1, 1, 1, 1, 1, 1, 1, 1, 1, 1, 1, 1, 1, 1, 1, 1, 1, 1, 1, 1, 1, 1, 1, 1, 1, 1, 1, 1, 1, 1, 1, 1, 1, 1, 1, 1, 1, 1, 1, 1, 1, 1, 1, 1, 1]
def impl_MiddleFactor_l4_nx : Exit → List Nat
  | .exit 0 => [1, 1, 0, 1, 1, 0, 0, 1, 1, 1, 1, 1, 1, 1, 1, 1, 1, 1, 1, 1, 1, 1, 1, 1, 1, 1, 1, 1, 1, 1, 1, 1, 1, 1, 1, 1, 1, 1, 1, 1, 1, 1, 1, 1, 1, 1, 1, 1, 1, 1, 1, 1, 1, 1, 1, 1, 1, 1, 1, 1, 1, 1, 1, 1, 1, 1, 1, 1, 1, 1, 1, 1, 1, 1, 1, 1, 1, 1, 1, 1, 1, 1, 1, 1, 1, 1, 1, 1]
  | .exit 1 => [1, 0, 0, 1, 1, 0, 0, 1, 1, 1, 1, 1, 1, 1, 1, 1, 1, 1, 1, 1, 0, 0, 1, 1, 1, 1, 1, 1, 1, 1, 1, 1, 1, 1, 1, 1, 1, 1, 1, 1, 1, 1, 1, 1, 1, 1, 1, 1, 1, 1, 1, 1, 1, 1, 1, 1, 1, 1, 1, 1, 1, 1, 1, 1, 1, 1, 1, 1, 1, 1, 1, 1, 1, 1, 1, 1, 1, 1, 1, 1, 1, 1, 1, 1, 1, 1, 1, 1]
  | .exit 2 => [1, 0, 0, 1, 1, 0, 0, 1, 1, 1, 1, 1, 1, 1, 1, 1, 1, 1, 1, 1, 0, 0, 1, 1, 1, 1, 1, 1, 1, 1, 1, 1, 1, 1, 1, 1, 1, 1, 1, 1, 1, 1, 1, 1, 1, 1, 1, 1, 1, 1, 1, 1, 1, 1, 1, 1, 1, 1, 1, 1, 1, 1, 1, 1, 1, 1, 1, 1, 1, 1, 1, 1, 1, 1, 1, 1, 1, 1, 1, 1, 1, 1, 1, 1, 1, 1, 1, 1]
  | .exit 3 => [1, 0, 0, 1, 1, 0, 0, 0, 0, 1, 1, 1, 1, 1, 1, 1, 1, 1, 1, 1, 0, 0, 1, 1, 1, 1, 1, 1, 1, 1, 1, 1, 1, 1, 1, 1, 1, 1, 1, 1, 1, 1, 1, 1, 1, 1, 1, 1, 1, 1, 1, 1, 1, 1, 1, 1, 1, 1, 1, 1, 1, 1, 1, 1, 1, 1, 1, 1, 1, 1, 1, 1, 1, 1, 1, 1, 1, 1, 1, 1, 1, 1, 1, 1, 1, 1, 1, 1]
  | .exit 4 => [1, 0, 0, 1, 1, 0, 0, 0, 0, 0, 1, 1, 1, 1, 1, 1, 1, 1, 1, 1, 0, 0, 1, 1, 1, 1, 1, 1, 1, 1, 1, 1, 1, 1, 1, 1, 1, 1, 1, 1, 1, 1, 1, 1, 1, 1, 1, 1, 1, 1, 1, 1, 1, 1, 1, 1, 1, 1, 1, 1, 1, 1, 1, 1, 1, 1, 1, 1, 1, 1, 1, 1, 1, 1, 1, 1, 1, 1, 1, 1, 1, 1, 1, 1, 1, 1, 1, 1]
  | .ret => [1, 1, 0, 0, 0, 1, 1, 1, 1, 1, 1, 1, 1, 1, 1, 1, 1, 1, 1, 1, 1, 1, 1, 1, 1, 1, 1, 1, 1, 1, 1, 1, 1, 1, 1, 1, 1, 1, 1, 1, 1, 1, 1, 1, 1, 1, 1, 1, 1, 1, 1, 1, 1, 1, 1, 1, 1, 1, 1, 1, 1, 1, 1, 1, 1, 1, 1, 1, 1, 1, 1, 1, 1, 1, 1, 1, 1, 1, 1, 1, 1, 1, 1, 1, 1, 1, 1, 1]
  | _ => []
noncomputable def impl_MiddleFactor_l2_T (v556 : Int) (v557 : Int) (v558 : List Nat) (v1015 : Int) (v1017 : Int) (v1018 : Int) (s : Int × (List Nat) × (List Nat)) : Tree ((Int × (List Nat) × (List Nat)) ⊕ ((Unit) ⊕ ((List Nat) × (List Nat)))) :=
  (.br (decide (s.1 < v556)) (
   (.call (impl_Matrix_at_g v557 v558 s.1 v1015) fun v1021 =>
   (.need (some (impl_MiddleFactor_l4_E v556 v557 v558 v1015 s.1 v1017 v1018 s.2.1 s.2.2 (v1021, (0 : Int))) = some (impl_MiddleFactor_l4_E v556 v557 v558 v1015 s.1 v1017 v1018 s.2.1 s.2.2 (v1021, (0 : Int)))) <|
   (.call (impl_MiddleFactor_l4_g v1015 s.1 v1017 v1018 s.2.1 s.2.2 (v1021, (0 : Int))) fun v1052 =>
   (.br (decide (v1015 < s.1)) (
    (.grd (inb v1015 ((s.2.1).length)) <|
    (.call (impl_Matrix_set_g v1018 s.2.2 s.1 v1015) fun v1053 =>
    (.grd (decide ((List.set s.2.2 (Int.toNat (IntKind.i64.wrap ((IntKind.i64.wrap (s.1 * v1018)) + v1015))) (fdiv .f32 v1052 (nth s.2.1 (Int.toNat v1015)))).length = s.2.2.length)) <|
    .leaf (.inl (IntKind.i64.wrap (s.1 + (1 : Int)), s.2.1, List.set s.2.2 (Int.toNat (IntKind.i64.wrap ((IntKind.i64.wrap (s.1 * v1018)) + v1015))) (fdiv .f32 v1052 (nth s.2.1 (Int.toNat v1015))))))))
   ) (
    (.br (feq .f32 v1052 (0 : Nat)) (
     .leaf (.inr (.inl ()))
    ) (
     (.grd (fits (s.2.1 ++ ([v1052] : List Nat)).length) <|
     .leaf (.inl (IntKind.i64.wrap (s.1 + (1 : Int)), s.2.1 ++ ([v1052] : List Nat), s.2.2)))
    ))
   )))))
  ) (
   .leaf (.inr (.inr (s.2.1, s.2.2)))
  ))

noncomputable def impl_MiddleFactor_l2_g (v556 : Int) (v557 : Int) (v558 : List Nat) (v1015 : Int) (v1017 : Int) (v1018 : Int) (s0 : Int × (List Nat) × (List Nat)) : Option ((Unit) ⊕ ((List Nat) × (List Nat))) := whileM (fun s => (impl_MiddleFactor_l2_T v556 v557 v558 v1015 v1017 v1018 s).run) s0
def impl_MiddleFactor_l2_E (v556 : Int) (v557 : Int) (v558 : List Nat) (v1015 : Int) (v1017 : Int) (v1018 : Int) (s : Int × (List Nat) × (List Nat)) : Sd := ([.top, .ptr 0 (0 : Nat) 0 (3 : Nat), .ptr 1 (0 : Nat) 0 (3 : Nat), .top, .top, .ptr 2 (0 : Nat) 0 (3 : Nat), .own 3 0 ((s.2.1).length), .int .i64 v1015, .int .i64 s.1, .top, .top, .top, .top, .top, .top, .top, .top, .top, .top, .top, .int .i64 v556, .int .i64 v1015, .top, .top, .top, .top, .top, .top, .top, .top, .top, .top, .top, .top, .top, .top, .top, .top, .top, .top, .top, .top, .top, .top, .top, .top, .top, .top, .top, .top, .top, .top, .top, .top, .top, .top, .top, .top, .top, .top, .top, .top, .top, .top, .top, .top, .top, .top, .top, .top, .top, .top, .top, .top, .top, .top, .top, .top, .top, .top, .top, .top, .top, .top, .top, .top, .top, .top], [.gen [.int .i64 v556, .int .i64 v557, .bslc (BR.root 0) (.f32 v558)] false 0, .gen [.int .i64 (0 : Int), .int .i64 (0 : Int), .nilslc] false 0, .gen [.int .i64 v1017, .int .i64 v1018, .own 4 0 ((s.2.2).length)] false 0, .row (.f32 s.2.1) 0, .row (.f32 s.2.2) 0])
def impl_MiddleFactor_l2_X (v556 : Int) (v557 : Int) (v558 : List Nat) (v1015 : Int) (v1017 : Int) (v1018 : Int) (x : (Unit) ⊕ ((List Nat) × (List Nat))) : Out := (match x with | .inl x => (.ret, [.top, .top, .ptr 0 (0 : Nat) 0 (3 : Nat), .nilslc, .lit false, .top, .top, .top, .top, .top, .top, .top, .top, .top, .top, .top, .top, .top, .top, .top, .top, .top, .top, .top, .top, .top, .top, .top, .top, .top, .top, .top, .top, .top, .top, .top, .top, .top, .top, .top, .top, .top, .top, .top, .top, .top, .top, .top, .top, .top, .top, .top, .top, .top, .top, .top, .top, .top, .top, .top, .top, .top, .top, .top, .top, .top, .top, .top, .top, .top, .top, .top, .top, .top, .top, .top, .top, .top, .top, .top, .top, .top, .top, .top, .top, .top, .top, .top], [.gen [.int .i64 (0 : Int), .int .i64 (0 : Int), .nilslc] false 0]) | .inr x => (.normal, [.top, .ptr 0 (0 : Nat) 0 (3 : Nat), .ptr 1 (0 : Nat) 0 (3 : Nat), .top, .top, .ptr 2 (0 : Nat) 0 (3 : Nat), .own 3 0 ((x.1).length), .top, .top, .top, .top, .top, .top, .top, .top, .top, .top, .top, .top, .top, .int .i64 v556, .int .i64 v1015, .top, .top, .top, .top, .top, .top, .top, .top, .top, .top, .top, .top, .top, .top, .top, .top, .top, .top, .top, .top, .top, .top, .top, .top, .top, .top, .top, .top, .top, .top, .top, .top, .top, .top, .top, .top, .top, .top, .top, .top, .top, .top, .top, .top, .top, .top, .top, .top, .top, .top, .top, .top, .top, .top, .top, .top, .top, .top, .top, .top, .top, .top, .top, .top, .top, .top], [.gen [.int .i64 v556, .int .i64 v557, .bslc (BR.root 0) (.f32 v558)] false 0, .gen [.int .i64 (0 : Int), .int .i64 (0 : Int), .nilslc] false 0, .gen [.int .i64 v1017, .int .i64 v1018, .own 4 0 ((x.2).length)] false 0, .row (.f32 x.1) 0, .row (.f32 x.2) 0]))
def impl_MiddleFactor_l2_kill : List Nat := [1, 0, 0, 1, 1, 0, 0, 0, 0, 1, 1, 1, 1, 1, 1, 1, 1, 1, 1, 1, 0, 0, 1, 1, 1, 1, 1, 1, 1, 1, 1, 1, 1, 1, 1, 1, 1, 1, 1, 1, 1, 1, 1, 1, 1, 1, 1, 1, 1, 1, 1, 1, 1, 1, 1, 1, 1, 1, 1, 1, 1, 1, 1, 1, 1, 1, 1, 1, 1, 1, 1, 1, 1, 1, 1, 1, 1, 1, 1, 1, 1, 1, 1, 1, 1, 1, 1, 1]
def impl_MiddleFactor_l2_nx : Exit → List Nat
  | .exit 0 => [1, 1, 0, 1, 1, 0, 0, 1, 1, 1, 1, 1, 1, 1, 1, 1, 1, 1, 1, 1, 1, 1, 1, 1, 1, 1, 1, 1, 1, 1, 1, 1, 1, 1, 1, 1, 1, 1, 1, 1, 1, 1, 1, 1, 1, 1, 1, 1, 1, 1, 1, 1, 1, 1, 1, 1, 1, 1, 1, 1, 1, 1, 1, 1, 1, 1, 1, 1, 1, 1, 1, 1, 1, 1, 1, 1, 1, 1, 1, 1, 1, 1, 1, 1, 1, 1, 1, 1]
  | .exit 1 => [1, 0, 0, 1, 1, 0, 0, 1, 1, 1, 1, 1, 1, 1, 1, 1, 1, 1, 1, 1, 0, 0, 1, 1, 1, 1, 1, 1, 1, 1, 1, 1, 1, 1, 1, 1, 1, 1, 1, 1, 1, 1, 1, 1, 1, 1, 1, 1, 1, 1, 1, 1, 1, 1, 1, 1, 1, 1, 1, 1, 1, 1, 1, 1, 1, 1, 1, 1, 1, 1, 1, 1, 1, 1, 1, 1, 1, 1, 1, 1, 1, 1, 1, 1, 1, 1, 1, 1]
  | .exit 2 => [1, 0, 0, 1, 1, 0, 0, 1, 1, 1, 1, 1, 1, 1, 1, 1, 1, 1, 1, 1, 0, 0, 1, 1, 1, 1, 1, 1, 1, 1, 1, 1, 1, 1, 1, 1, 1, 1, 1, 1, 1, 1, 1, 1, 1, 1, 1, 1, 1, 1, 1, 1, 1, 1, 1, 1, 1, 1, 1, 1, 1, 1, 1, 1, 1, 1, 1, 1, 1, 1, 1, 1, 1, 1, 1, 1, 1, 1, 1, 1, 1, 1, 1, 1, 1, 1, 1, 1]
  | .ret => [1, 1, 0, 0, 0, 1, 1, 1, 1, 1, 1, 1, 1, 1, 1, 1, 1, 1, 1, 1, 1, 1, 1, 1, 1, 1, 1, 1, 1, 1, 1, 1, 1, 1, 1, 1, 1, 1, 1, 1, 1, 1, 1, 1, 1, 1, 1, 1, 1, 1, 1, 1, 1, 1, 1, 1, 1, 1, 1, 1, 1, 1, 1, 1, 1, 1, 1, 1, 1, 1, 1, 1, 1, 1, 1, 1, 1, 1, 1, 1, 1, 1, 1, 1, 1, 1, 1, 1]
  | _ => []
noncomputable def impl_MiddleFactor_l0_T (v556 : Int) (v557 : Int) (v558 : List Nat) (v933 : Int) (v934 : Int) (s : Int × (List Nat) × (List Nat)) : Tree ((Int × (List Nat) × (List Nat)) ⊕ ((Unit) ⊕ ((List Nat) × (List Nat)))) :=
  (.br (decide (s.1 < v556)) (
   (.need (some (impl_MiddleFactor_l2_E v556 v557 v558 s.1 v933 v934 (s.1, s.2.1, s.2.2)) = some (impl_MiddleFactor_l2_E v556 v557 v558 s.1 v933 v934 (s.1, s.2.1, s.2.2))) <|
   (.call (impl_MiddleFactor_l2_g v556 v557 v558 s.1 v933 v934 (s.1, s.2.1, s.2.2)) fun v1054 =>
   (.sum v1054 (fun v1055 =>
    .leaf (.inr (.inl ()))
   ) (fun v1056 =>
    .leaf (.inl (IntKind.i64.wrap (s.1 + (1 : Int)), v1056.1, v1056.2))
   ))))
  ) (
   .leaf (.inr (.inr (s.2.1, s.2.2)))
  ))

noncomputable def impl_MiddleFactor_l0_g (v556 : Int) (v557 : Int) (v558 : List Nat) (v933 : Int) (v934 : Int) (s0 : Int × (List Nat) × (List Nat)) : Option ((Unit) ⊕ ((List Nat) × (List Nat))) := whileM (fun s => (impl_MiddleFactor_l0_T v556 v557 v558 v933 v934 s).run) s0
def impl_MiddleFactor_l0_E (v556 : Int) (v557 : Int) (v558 : List Nat) (v933 : Int) (v934 : Int) (s : Int × (List Nat) × (List Nat)) : Sd := ([.top, .ptr 0 (0 : Nat) 0 (3 : Nat), .ptr 1 (0 : Nat) 0 (3 : Nat), .top, .top, .ptr 2 (0 : Nat) 0 (3 : Nat), .own 3 0 ((s.2.1).length), .top, .top, .top, .top, .top, .top, .top, .top, .top, .top, .top, .top, .top, .int .i64 v556, .int .i64 s.1, .top, .top, .top, .top, .top, .top, .top, .top, .top, .top, .top, .top, .top, .top, .top, .top, .top, .top, .top, .top, .top, .top, .top, .top, .top, .top, .top, .top, .top, .top, .top, .top, .top, .top, .top, .top, .top, .top, .top, .top, .top, .top, .top, .top, .top, .top, .top, .top, .top, .top, .top, .top, .top, .top, .top, .top, .top, .top, .top, .top, .top, .top, .top, .top, .top, .top], [.gen [.int .i64 v556, .int .i64 v557, .bslc (BR.root 0) (.f32 v558)] false 0, .gen [.int .i64 (0 : Int), .int .i64 (0 : Int), .nilslc] false 0, .gen [.int .i64 v933, .int .i64 v934, .own 4 0 ((s.2.2).length)] false 0, .row (.f32 s.2.1) 0, .row (.f32 s.2.2) 0])
def impl_MiddleFactor_l0_X (v556 : Int) (v557 : Int) (v558 : List Nat) (v933 : Int) (v934 : Int) (x : (Unit) ⊕ ((List Nat) × (List Nat))) : Out := (match x with | .inl x => (.ret, [.top, .top, .ptr 0 (0 : Nat) 0 (3 : Nat), .nilslc, .lit false, .top, .top, .top, .top, .top, .top, .top, .top, .top, .top, .top, .top, .top, .top, .top, .top, .top, .top, .top, .top, .top, .top, .top, .top, .top, .top, .top, .top, .top, .top, .top, .top, .top, .top, .top, .top, .top, .top, .top, .top, .top, .top, .top, .top, .top, .top, .top, .top, .top, .top, .top, .top, .top, .top, .top, .top, .top, .top, .top, .top, .top, .top, .top, .top, .top, .top, .top, .top, .top, .top, .top, .top, .top, .top, .top, .top, .top, .top, .top, .top, .top, .top, .top], [.gen [.int .i64 (0 : Int), .int .i64 (0 : Int), .nilslc] false 0]) | .inr x => (.normal, [.top, .top, .ptr 0 (0 : Nat) 0 (3 : Nat), .top, .top, .ptr 1 (0 : Nat) 0 (3 : Nat), .own 2 0 ((x.1).length), .top, .top, .top, .top, .top, .top, .top, .top, .top, .top, .top, .top, .top, .top, .top, .top, .top, .top, .top, .top, .top, .top, .top, .top, .top, .top, .top, .top, .top, .top, .top, .top, .top, .top, .top, .top, .top, .top, .top, .top, .top, .top, .top, .top, .top, .top, .top, .top, .top, .top, .top, .top, .top, .top, .top, .top, .top, .top, .top, .top, .top, .top, .top, .top, .top, .top, .top, .top, .top, .top, .top, .top, .top, .top, .top, .top, .top, .top, .top, .top, .top], [.gen [.int .i64 (0 : Int), .int .i64 (0 : Int), .nilslc] false 0, .gen [.int .i64 v933, .int .i64 v934, .own 3 0 ((x.2).length)] false 0, .row (.f32 x.1) 0, .row (.f32 x.2) 0]))
def impl_MiddleFactor_l0_kill : List Nat := [1, 0, 0, 1, 1, 0, 0, 1, 1, 1, 1, 1, 1, 1, 1, 1, 1, 1, 1, 1, 0, 0, 1, 1, 1, 1, 1, 1, 1, 1, 1, 1, 1, 1, 1, 1, 1, 1, 1, 1, 1, 1, 1, 1, 1, 1, 1, 1, 1, 1, 1, 1, 1, 1, 1, 1, 1, 1, 1, 1, 1, 1, 1, 1, 1, 1, 1, 1, 1, 1, 1, 1, 1, 1, 1, 1, 1, 1, 1, 1, 1, 1, 1, 1, 1, 1, 1, 1]
def impl_MiddleFactor_l0_nx : Exit → List Nat
  | .exit 0 => [1, 1, 0, 1, 1, 0, 0, 1, 1, 1, 1, 1, 1, 1, 1, 1, 1, 1, 1, 1, 1, 1, 1, 1, 1, 1, 1, 1, 1, 1, 1, 1, 1, 1, 1, 1, 1, 1, 1, 1, 1, 1, 1, 1, 1, 1, 1, 1, 1, 1, 1, 1, 1, 1, 1, 1, 1, 1, 1, 1, 1, 1, 1, 1, 1, 1, 1, 1, 1, 1, 1, 1, 1, 1, 1, 1, 1, 1, 1, 1, 1, 1, 1, 1, 1, 1, 1, 1]
  | .ret => [1, 1, 0, 0, 0, 1, 1, 1, 1, 1, 1, 1, 1, 1, 1, 1, 1, 1, 1, 1, 1, 1, 1, 1, 1, 1, 1, 1, 1, 1, 1, 1, 1, 1, 1, 1, 1, 1, 1, 1, 1, 1, 1, 1, 1, 1, 1, 1, 1, 1, 1, 1, 1, 1, 1, 1, 1, 1, 1, 1, 1, 1, 1, 1, 1, 1, 1, 1, 1, 1, 1, 1, 1, 1, 1, 1, 1, 1, 1, 1, 1, 1, 1, 1, 1, 1, 1, 1]
  | _ => []
noncomputable def impl_MiddleFactor_LO (v556 : Int) (v557 : Int) (v558 : List Nat) : LOr := fun id e L =>
  match id with
  | 4 => .need (normA 0 impl_MiddleFactor_l4_kill e L = some (impl_MiddleFactor_l4_E v556 v557 v558 (gI (vAt e 7)) (gI (vAt e 8)) (gI (cAt L (vAt e 5) 0)) (gI (cAt L (vAt e 5) 1)) (gRF L (vAt e 6)) (gRF L (cAt L (vAt e 5) 2)) ((gF (vAt e 9)), (gI (vAt e 36))))) (.call (impl_MiddleFactor_l4_g (gI (vAt e 7)) (gI (vAt e 8)) (gI (cAt L (vAt e 5) 0)) (gI (cAt L (vAt e 5) 1)) (gRF L (vAt e 6)) (gRF L (cAt L (vAt e 5) 2)) ((gF (vAt e 9)), (gI (vAt e 36)))) fun x => .leaf (impl_MiddleFactor_l4_X v556 v557 v558 (gI (vAt e 7)) (gI (vAt e 8)) (gI (cAt L (vAt e 5) 0)) (gI (cAt L (vAt e 5) 1)) (gRF L (vAt e 6)) (gRF L (cAt L (vAt e 5) 2)) x))
  | 2 => .need (normA 0 impl_MiddleFactor_l2_kill e L = some (impl_MiddleFactor_l2_E v556 v557 v558 (gI (vAt e 7)) (gI (cAt L (vAt e 5) 0)) (gI (cAt L (vAt e 5) 1)) ((gI (vAt e 8)), (gRF L (vAt e 6)), (gRF L (cAt L (vAt e 5) 2))))) (.call (impl_MiddleFactor_l2_g v556 v557 v558 (gI (vAt e 7)) (gI (cAt L (vAt e 5) 0)) (gI (cAt L (vAt e 5) 1)) ((gI (vAt e 8)), (gRF L (vAt e 6)), (gRF L (cAt L (vAt e 5) 2)))) fun x => .sum x (fun b0 => .leaf (impl_MiddleFactor_l2_X v556 v557 v558 (gI (vAt e 7)) (gI (cAt L (vAt e 5) 0)) (gI (cAt L (vAt e 5) 1)) (.inl b0))) (fun c0 => .leaf (impl_MiddleFactor_l2_X v556 v557 v558 (gI (vAt e 7)) (gI (cAt L (vAt e 5) 0)) (gI (cAt L (vAt e 5) 1)) (.inr c0))))
  | 0 => .need (normA 0 impl_MiddleFactor_l0_kill e L = some (impl_MiddleFactor_l0_E v556 v557 v558 (gI (cAt L (vAt e 5) 0)) (gI (cAt L (vAt e 5) 1)) ((gI (vAt e 21)), (gRF L (vAt e 6)), (gRF L (cAt L (vAt e 5) 2))))) (.call (impl_MiddleFactor_l0_g v556 v557 v558 (gI (cAt L (vAt e 5) 0)) (gI (cAt L (vAt e 5) 1)) ((gI (vAt e 21)), (gRF L (vAt e 6)), (gRF L (cAt L (vAt e 5) 2)))) fun x => .sum x (fun b0 => .leaf (impl_MiddleFactor_l0_X v556 v557 v558 (gI (cAt L (vAt e 5) 0)) (gI (cAt L (vAt e 5) 1)) (.inl b0))) (fun c0 => .leaf (impl_MiddleFactor_l0_X v556 v557 v558 (gI (cAt L (vAt e 5) 0)) (gI (cAt L (vAt e 5) 1)) (.inr c0))))
  | _ => .fail
noncomputable def impl_MiddleFactor_tab : List (FuncId × DFn × Bool) := [(62, impl_isSquare_F, true), (63, impl_unit_F, true), (64, impl_Matrix_at_F, true), (65, impl_mul_F, true), (66, impl_Matrix_set_F, false), (67, impl_ValidMatrix_F, true), (68, impl_areFinite_F, true)]
theorem impl_MiddleFactor_hO : OrcOk Try.prog (tabD impl_MiddleFactor_tab) (tabM impl_MiddleFactor_tab) := tabD_cons impl_isSquare_Fok (tabD_cons impl_unit_Fok (tabD_cons impl_Matrix_at_Fok (tabD_cons impl_mul_Fok (tabD_cons impl_Matrix_set_Fok (tabD_cons impl_ValidMatrix_Fok (tabD_cons impl_areFinite_Fok (tabD_nil _)))))))
theorem impl_MiddleFactor_l4_be (v556 : Int) (v557 : Int) (v558 : List Nat) (v1042 : Int) (v1043 : Int) (v1046 : Int) (v1047 : Int) (v1048 : List Nat) (v1049 : List Nat) (s : Nat × Int) : bodyT TT (tabD impl_MiddleFactor_tab) (tabM impl_MiddleFactor_tab) (impl_MiddleFactor_LO v556 v557 v558) 0 impl_MiddleFactor_l4_kill impl_MiddleFactor_l4_nx (bodyOf Try.f18 4) 4 (impl_MiddleFactor_l4_E v556 v557 v558 v1042 v1043 v1046 v1047 v1048 v1049 s) = (impl_MiddleFactor_l4_T v1042 v1043 v1046 v1047 v1048 v1049 s).bind fun y => .leaf (outS (impl_MiddleFactor_l4_E v556 v557 v558 v1042 v1043 v1046 v1047 v1048 v1049) (impl_MiddleFactor_l4_X v556 v557 v558 v1042 v1043 v1046 v1047 v1048 v1049) y) := by kernel_rfl
theorem impl_MiddleFactor_l4_ok (v556 : Int) (v557 : Int) (v558 : List Nat) : LSound Try.prog 0 (impl_MiddleFactor_LO v556 v557 v558) 4 (bodyOf Try.f18 4) := by
  intro e L out h
  exact lo_ok (E := impl_MiddleFactor_l4_E v556 v557 v558 (gI (vAt e 7)) (gI (vAt e 8)) (gI (cAt L (vAt e 5) 0)) (gI (cAt L (vAt e 5) 1)) (gRF L (vAt e 6)) (gRF L (cAt L (vAt e 5) 2))) (gT := impl_MiddleFactor_l4_T (gI (vAt e 7)) (gI (vAt e 8)) (gI (cAt L (vAt e 5) 0)) (gI (cAt L (vAt e 5) 1)) (gRF L (vAt e 6)) (gRF L (cAt L (vAt e 5) 2))) (X := impl_MiddleFactor_l4_X v556 v557 v558 (gI (vAt e 7)) (gI (vAt e 8)) (gI (cAt L (vAt e 5) 0)) (gI (cAt L (vAt e 5) 1)) (gRF L (vAt e 6)) (gRF L (cAt L (vAt e 5) 2))) (s0 := ((gF (vAt e 9)), (gI (vAt e 36)))) tok impl_MiddleFactor_hO mixed (LoopsOk_eq (l := []) (by kernel_rfl) trivial) (impl_MiddleFactor_l4_be v556 v557 v558 (gI (vAt e 7)) (gI (vAt e 8)) (gI (cAt L (vAt e 5) 0)) (gI (cAt L (vAt e 5) 1)) (gRF L (vAt e 6)) (gRF L (cAt L (vAt e 5) 2))) rfl (by intro x; rfl) h
theorem impl_MiddleFactor_l2_be (v556 : Int) (v557 : Int) (v558 : List Nat) (v1015 : Int) (v1017 : Int) (v1018 : Int) (s : Int × (List Nat) × (List Nat)) : bodyT TT (tabD impl_MiddleFactor_tab) (tabM impl_MiddleFactor_tab) (impl_MiddleFactor_LO v556 v557 v558) 0 impl_MiddleFactor_l2_kill impl_MiddleFactor_l2_nx (bodyOf Try.f18 2) 2 (impl_MiddleFactor_l2_E v556 v557 v558 v1015 v1017 v1018 s) = (impl_MiddleFactor_l2_T v556 v557 v558 v1015 v1017 v1018 s).bind fun y => .leaf (outS (impl_MiddleFactor_l2_E v556 v557 v558 v1015 v1017 v1018) (impl_MiddleFactor_l2_X v556 v557 v558 v1015 v1017 v1018) y) := by kernel_rfl
theorem impl_MiddleFactor_l2_ok (v556 : Int) (v557 : Int) (v558 : List Nat) : LSound Try.prog 0 (impl_MiddleFactor_LO v556 v557 v558) 2 (bodyOf Try.f18 2) := by
  intro e L out h
  exact lo_ok (E := impl_MiddleFactor_l2_E v556 v557 v558 (gI (vAt e 7)) (gI (cAt L (vAt e 5) 0)) (gI (cAt L (vAt e 5) 1))) (gT := impl_MiddleFactor_l2_T v556 v557 v558 (gI (vAt e 7)) (gI (cAt L (vAt e 5) 0)) (gI (cAt L (vAt e 5) 1))) (X := impl_MiddleFactor_l2_X v556 v557 v558 (gI (vAt e 7)) (gI (cAt L (vAt e 5) 0)) (gI (cAt L (vAt e 5) 1))) (s0 := ((gI (vAt e 8)), (gRF L (vAt e 6)), (gRF L (cAt L (vAt e 5) 2)))) tok impl_MiddleFactor_hO mixed (LoopsOk_eq (l := [(4, bodyOf Try.f18 4)]) (by kernel_rfl) ⟨impl_MiddleFactor_l4_ok v556 v557 v558, trivial⟩) (impl_MiddleFactor_l2_be v556 v557 v558 (gI (vAt e 7)) (gI (cAt L (vAt e 5) 0)) (gI (cAt L (vAt e 5) 1))) rfl (by intro x; (cases x with | inl b => rfl | inr x => exact rfl)) h
theorem impl_MiddleFactor_l0_be (v556 : Int) (v557 : Int) (v558 : List Nat) (v933 : Int) (v934 : Int) (s : Int × (List Nat) × (List Nat)) : bodyT TT (tabD impl_MiddleFactor_tab) (tabM impl_MiddleFactor_tab) (impl_MiddleFactor_LO v556 v557 v558) 0 impl_MiddleFactor_l0_kill impl_MiddleFactor_l0_nx (bodyOf Try.f18 0) 0 (impl_MiddleFactor_l0_E v556 v557 v558 v933 v934 s) = (impl_MiddleFactor_l0_T v556 v557 v558 v933 v934 s).bind fun y => .leaf (outS (impl_MiddleFactor_l0_E v556 v557 v558 v933 v934) (impl_MiddleFactor_l0_X v556 v557 v558 v933 v934) y) := by kernel_rfl
theorem impl_MiddleFactor_l0_ok (v556 : Int) (v557 : Int) (v558 : List Nat) : LSound Try.prog 0 (impl_MiddleFactor_LO v556 v557 v558) 0 (bodyOf Try.f18 0) := by
  intro e L out h
  exact lo_ok (E := impl_MiddleFactor_l0_E v556 v557 v558 (gI (cAt L (vAt e 5) 0)) (gI (cAt L (vAt e 5) 1))) (gT := impl_MiddleFactor_l0_T v556 v557 v558 (gI (cAt L (vAt e 5) 0)) (gI (cAt L (vAt e 5) 1))) (X := impl_MiddleFactor_l0_X v556 v557 v558 (gI (cAt L (vAt e 5) 0)) (gI (cAt L (vAt e 5) 1))) (s0 := ((gI (vAt e 21)), (gRF L (vAt e 6)), (gRF L (cAt L (vAt e 5) 2)))) tok impl_MiddleFactor_hO mixed (LoopsOk_eq (l := [(2, bodyOf Try.f18 2)]) (by kernel_rfl) ⟨impl_MiddleFactor_l2_ok v556 v557 v558, trivial⟩) (impl_MiddleFactor_l0_be v556 v557 v558 (gI (cAt L (vAt e 5) 0)) (gI (cAt L (vAt e 5) 1))) rfl (by intro x; (cases x with | inl b => rfl | inr x => exact rfl)) h
noncomputable def impl_MiddleFactor_T (v556 : Int) (v557 : Int) (v558 : List Nat) : Tree ((Unit) ⊕ (Int × Int × (List Nat) × (List Nat))) :=
  (.call (impl_isSquare_g v556 v557 v558) fun v589 =>
  (.br (!v589) (
   .leaf (.inl ())
  ) (
   (.call (impl_unit_g v556) fun v679 =>
   (.need (some (impl_MiddleFactor_l0_E v556 v557 v558 v679.1 v679.2.1 ((0 : Int), ([] : List Nat), v679.2.2)) = some (impl_MiddleFactor_l0_E v556 v557 v558 v679.1 v679.2.1 ((0 : Int), ([] : List Nat), v679.2.2))) <|
   (.call (impl_MiddleFactor_l0_g v556 v557 v558 v679.1 v679.2.1 ((0 : Int), ([] : List Nat), v679.2.2)) fun v1057 =>
   (.sum v1057 (fun v1058 =>
    .leaf (.inl ())
   ) (fun v1059 =>
    (.call (impl_ValidMatrix_g v679.1 v679.2.1 v1059.2) fun v1060 =>
    (.br (!v1060) (
     .leaf (.inl ())
    ) (
     (.call (impl_areFinite_g v1059.1) fun v1061 =>
     (.br (!v1061) (
      .leaf (.inl ())
     ) (
      .leaf (.inr (v679.1, v679.2.1, v1059.2, v1059.1))
     )))
    )))
   )))))
  )))

noncomputable def impl_MiddleFactor_g (v556 : Int) (v557 : Int) (v558 : List Nat) : Option ((Unit) ⊕ (Int × Int × (List Nat) × (List Nat))) := (impl_MiddleFactor_T v556 v557 v558).run
def impl_MiddleFactor_enc (v556 : Int) (v557 : Int) (v558 : List Nat) (y : (Unit) ⊕ (Int × Int × (List Nat) × (List Nat))) : Rs := (match y with | .inl y => (.tup [.agg [.int .i64 (0 : Int), .int .i64 (0 : Int), .nilslc], .nilslc, .lit false], []) | .inr y => (.tup [.agg [.int .i64 y.1, .int .i64 y.2.1, .own 0 0 ((y.2.2.1).length)], .own 1 0 ((y.2.2.2).length), .lit true], [.row (.f32 y.2.2.1) 0, .row (.f32 y.2.2.2) 0]))
theorem impl_MiddleFactor_den (v556 : Int) (v557 : Int) (v558 : List Nat) : (den TT (tabD impl_MiddleFactor_tab) (tabM impl_MiddleFactor_tab) (impl_MiddleFactor_LO v556 v557 v558) (codeOf Try.f18) ([.agg [.int .i64 v556, .int .i64 v557, .bslc (BR.root 0) (.f32 v558)]] ++ List.replicate (Try.f18.ntmps - ([.agg [.int .i64 v556, .int .i64 v557, .bslc (BR.root 0) (.f32 v558)]] : List DV).length) .undef) []).bind (retD TT Try.f18.results.toList 0) = (impl_MiddleFactor_T v556 v557 v558).bind fun y => .leaf (impl_MiddleFactor_enc v556 v557 v558 y) := by kernel_rfl
theorem impl_MiddleFactor_fn (v556 : Int) (v557 : Int) (v558 : List Nat) (F : Fr) (hm : F.ids.length = 0) (h0 : St F [] F.H0) (hA : DVs.Ok F [] [.agg [.int .i64 v556, .int .i64 v557, .bslc (BR.root 0) (.f32 v558)]]) {y : (Unit) ⊕ (Int × Int × (List Nat) × (List Nat))} (hy : impl_MiddleFactor_g v556 v557 v558 = some y) : ∃ H', FnOk Try.prog 18 (DVs.av F [.agg [.int .i64 v556, .int .i64 v557, .bslc (BR.root 0) (.f32 v558)]]) F.H0 ((impl_MiddleFactor_enc v556 v557 v558 y).1.av F) H' ∧ St F (impl_MiddleFactor_enc v556 v557 v558 y).2 H' ∧ (impl_MiddleFactor_enc v556 v557 v558 y).1.Ok F (impl_MiddleFactor_enc v556 v557 v558 y).2 :=
  fn_fin tok impl_MiddleFactor_hO mixed Try.func18 Try.call18 (by kernel_rfl) (LoopsOk_eq (l := [(0, bodyOf Try.f18 0)]) (by kernel_rfl) ⟨impl_MiddleFactor_l0_ok v556 v557 v558, trivial⟩) (impl_MiddleFactor_den v556 v557 v558) hy hm h0 hA
noncomputable def impl_MiddleFactor_F : DFn := fun args L =>
  match args with
  | [.agg [.int .i64 v556, .int .i64 v557, a1]] =>
    optT (rowF32 L a1) fun v558 =>
    .call (impl_MiddleFactor_g v556 v557 v558) fun y => .sum y (fun y0 => .leaf (.tup [.agg [.int .i64 (0 : Int), .int .i64 (0 : Int), .nilslc], .nilslc, .lit false], L)) (fun z0 => .leaf (.tup [.agg [.int .i64 z0.1, .int .i64 z0.2.1, .own (L.length + 0) 0 ((z0.2.2.1).length)], .own (L.length + 1) 0 ((z0.2.2.2).length), .lit true], L ++ [.row (.f32 z0.2.2.1) 0, .row (.f32 z0.2.2.2) 0]))
  | _ => .fail
theorem impl_MiddleFactor_Fok : COk Try.prog 18 impl_MiddleFactor_F true := by
  intro F L H args r L' hs ha hr
  unfold impl_MiddleFactor_F at hr
  split at hr
  · rename_i v556 v557 a1
    obtain ⟨v558, hv558, hr⟩ := optT_run hr
    simp only [Tree.run] at hr
    obtain ⟨y, hy, hr⟩ := Option.bind_eq_some_iff.1 hr
    cases y with
    | inl y =>
      simp only [Tree.run, Option.some.injEq, Prod.mk.injEq] at hr
      obtain ⟨rfl, rfl⟩ := hr
      exact call_ok0 hs (fun k => (([a1.av F] : List AV)[k]?).getD .top) [.agg [.int .i64 v556, .int .i64 v557, a1]] [.agg [.int .i64 v556, .int .i64 v557, .bslc (BR.root 0) (.f32 v558)]] (fun F' h0 hi hρ => ⟨by simp [DVs.av, DV.av, BR.av, hρ], impl_MiddleFactor_fn v556 v557 v558 F' (by rw [hi]; rfl) (st_nil hi) ⟨⟨trivial, trivial, bslc_ok hi (by rw [h0, hρ]; exact rowF32_ok hs (DVs.okAt (DVs.okAt ha 0 rfl) 2 rfl) hv558), trivial⟩, trivial⟩ hy⟩) rfl
    | inr y =>
      simp only [Tree.run, Option.some.injEq, Prod.mk.injEq] at hr
      obtain ⟨rfl, rfl⟩ := hr
      exact call_ok1 hs (fun k => (([a1.av F] : List AV)[k]?).getD .top) [.agg [.int .i64 v556, .int .i64 v557, a1]] [.agg [.int .i64 v556, .int .i64 v557, .bslc (BR.root 0) (.f32 v558)]] (fun F' h0 hi hρ => ⟨by simp [DVs.av, DV.av, BR.av, hρ], impl_MiddleFactor_fn v556 v557 v558 F' (by rw [hi]; rfl) (st_nil hi) ⟨⟨trivial, trivial, bslc_ok hi (by rw [h0, hρ]; exact rowF32_ok hs (DVs.okAt (DVs.okAt ha 0 rfl) 2 rfl) hv558), trivial⟩, trivial⟩ hy⟩) rfl rfl
  · cases hr
/-! laws.sameFloat -/
noncomputable def laws_sameFloat_LO (v1074 : Nat) (v1075 : Nat) : LOr := fun id e L =>
  match id with
  | _ => .fail
noncomputable def laws_sameFloat_tab : List (FuncId × DFn × Bool) := []
theorem laws_sameFloat_hO : OrcOk Try.prog (tabD laws_sameFloat_tab) (tabM laws_sameFloat_tab) := tabD_nil _
noncomputable def laws_sameFloat_T (v1074 : Nat) (v1075 : Nat) : Tree (Bool) :=
  (.br (!feq .f64 v1074 v1074) (
   (.br (!feq .f64 v1074 v1074) (
    .leaf (!feq .f64 v1075 v1075)
   ) (
    .leaf false
   ))
  ) (
   (.br (!feq .f64 v1075 v1075) (
    (.br (!feq .f64 v1074 v1074) (
     .leaf (!feq .f64 v1075 v1075)
    ) (
     .leaf false
    ))
   ) (
    (.br (feq .f64 v1074 (0 : Nat)) (
     (.br (feq .f64 v1075 (0 : Nat)) (
      .leaf ((fgrt .f64 (fdiv .f64 (4607182418800017408 : Nat) v1074) (0 : Nat)) == (fgrt .f64 (fdiv .f64 (4607182418800017408 : Nat) v1075) (0 : Nat)))
     ) (
      .leaf (feq .f64 v1074 v1075)
     ))
    ) (
     .leaf (feq .f64 v1074 v1075)
    ))
   ))
  ))

noncomputable def laws_sameFloat_g (v1074 : Nat) (v1075 : Nat) : Option (Bool) := (laws_sameFloat_T v1074 v1075).run
def laws_sameFloat_enc (v1074 : Nat) (v1075 : Nat) (y : Bool) : Rs := (.bool y, [])
theorem laws_sameFloat_den (v1074 : Nat) (v1075 : Nat) : (den TT (tabD laws_sameFloat_tab) (tabM laws_sameFloat_tab) (laws_sameFloat_LO v1074 v1075) (codeOf Try.f31) ([.flt .f64 v1074, .flt .f64 v1075] ++ List.replicate (Try.f31.ntmps - ([.flt .f64 v1074, .flt .f64 v1075] : List DV).length) .undef) []).bind (retD TT Try.f31.results.toList 0) = (laws_sameFloat_T v1074 v1075).bind fun y => .leaf (laws_sameFloat_enc v1074 v1075 y) := by kernel_rfl
theorem laws_sameFloat_fn (v1074 : Nat) (v1075 : Nat) (F : Fr) (hm : F.ids.length = 0) (h0 : St F [] F.H0) (hA : DVs.Ok F [] [.flt .f64 v1074, .flt .f64 v1075]) {y : Bool} (hy : laws_sameFloat_g v1074 v1075 = some y) : ∃ H', FnOk Try.prog 31 (DVs.av F [.flt .f64 v1074, .flt .f64 v1075]) F.H0 ((laws_sameFloat_enc v1074 v1075 y).1.av F) H' ∧ St F (laws_sameFloat_enc v1074 v1075 y).2 H' ∧ (laws_sameFloat_enc v1074 v1075 y).1.Ok F (laws_sameFloat_enc v1074 v1075 y).2 :=
  fn_fin tok laws_sameFloat_hO mixed Try.func31 Try.call31 (by kernel_rfl) (LoopsOk_eq (l := []) (by kernel_rfl) trivial) (laws_sameFloat_den v1074 v1075) hy hm h0 hA
def laws_sameFloat_v (v1074 : Nat) (v1075 : Nat) : Bool :=
  if (!feq .f64 v1074 v1074) = true then (
   if (!feq .f64 v1074 v1074) = true then (
    !feq .f64 v1075 v1075
   ) else (
    false
   )
  ) else (
   if (!feq .f64 v1075 v1075) = true then (
    if (!feq .f64 v1074 v1074) = true then (
     !feq .f64 v1075 v1075
    ) else (
     false
    )
   ) else (
    if (feq .f64 v1074 (0 : Nat)) = true then (
     if (feq .f64 v1075 (0 : Nat)) = true then (
      (fgrt .f64 (fdiv .f64 (4607182418800017408 : Nat) v1074) (0 : Nat)) == (fgrt .f64 (fdiv .f64 (4607182418800017408 : Nat) v1075) (0 : Nat))
     ) else (
      feq .f64 v1074 v1075
     )
    ) else (
     feq .f64 v1074 v1075
    )
   )
  )
theorem laws_sameFloat_tot (v1074 : Nat) (v1075 : Nat) : laws_sameFloat_g v1074 v1075 = some (laws_sameFloat_v v1074 v1075) := by
  unfold laws_sameFloat_g laws_sameFloat_T laws_sameFloat_v
  simp only [Tree.run]
  repeat' (first | rfl | split)
noncomputable def laws_sameFloat_F : DFn := fun args L =>
  match args with
  | [.flt .f64 v1074, .flt .f64 v1075] =>
    .leaf (.bool (laws_sameFloat_v v1074 v1075), L)
  | _ => .fail
theorem laws_sameFloat_Fok : COk Try.prog 31 laws_sameFloat_F true := by
  intro F L H args r L' hs ha hr
  unfold laws_sameFloat_F at hr
  split at hr
  · rename_i v1074 v1075
    have hy := laws_sameFloat_tot v1074 v1075
    generalize laws_sameFloat_v v1074 v1075 = y at hy hr
    simp only [Tree.run, Option.some.injEq, Prod.mk.injEq] at hr
    obtain ⟨rfl, rfl⟩ := hr
    exact call_ok0 hs (fun k => (([] : List AV)[k]?).getD .top) [.flt .f64 v1074, .flt .f64 v1075] [.flt .f64 v1074, .flt .f64 v1075] (fun F' h0 hi hρ => ⟨by simp [DVs.av, DV.av, BR.av, hρ], laws_sameFloat_fn v1074 v1075 F' (by rw [hi]; rfl) (st_nil hi) ⟨trivial, trivial, trivial⟩ hy⟩) rfl
  · cases hr
/-! laws.eqFloat32S -/
noncomputable def laws_eqFloat32S_l0_T (v1071 : List Nat) (v1072 : List Nat) (s : Int) : Tree ((Int) ⊕ ((Unit) ⊕ (Unit))) :=
  (.br (decide (s < ((v1071.length : Nat) : Int))) (
   (.grd (inb s v1071.length) <|
   (.grd (inb s v1072.length) <|
   (.br (!(laws_sameFloat_v (wid (nth v1071 (Int.toNat s))) (wid (nth v1072 (Int.toNat s))))) (
    .leaf (.inr (.inl ()))
   ) (
    .leaf (.inl (IntKind.i64.wrap (s + (1 : Int))))
   ))))
  ) (
   .leaf (.inr (.inr ()))
  ))

noncomputable def laws_eqFloat32S_l0_g (v1071 : List Nat) (v1072 : List Nat) (s0 : Int) : Option ((Unit) ⊕ (Unit)) := whileM (fun s => (laws_eqFloat32S_l0_T v1071 v1072 s).run) s0
def laws_eqFloat32S_l0_E (v1071 : List Nat) (v1072 : List Nat) (s : Int) : Sd := ([.bslc (BR.root 0) (.f32 v1071), .bslc (BR.root 1) (.f32 v1072), .top, .top, .top, .int .i64 s, .top, .top, .top, .top, .top, .top, .top, .top, .top, .top, .top, .top, .top, .top, .top, .top, .top, .top, .top, .top, .top, .top, .top], [])
def laws_eqFloat32S_l0_X (v1071 : List Nat) (v1072 : List Nat) (x : (Unit) ⊕ (Unit)) : Out := (match x with | .inl x => (.ret, [.top, .top, .top, .top, .lit false, .top, .top, .top, .top, .top, .top, .top, .top, .top, .top, .top, .top, .top, .top, .top, .top, .top, .top, .top, .top, .top, .top, .top, .top], []) | .inr x => (.normal, [.top, .top, .top, .top, .top, .top, .top, .top, .top, .top, .top, .top, .top, .top, .top, .top, .top, .top, .top, .top, .top, .top, .top, .top, .top, .top, .top, .top, .top], []))
def laws_eqFloat32S_l0_kill : List Nat := [0, 0, 1, 1, 1, 0, 1, 1, 1, 1, 1, 1, 1, 1, 1, 1, 1, 1, 1, 1, 1, 1, 1, 1, 1, 1, 1, 1, 1]
def laws_eqFloat32S_l0_nx : Exit → List Nat
  | .exit 0 => [1, 1, 1, 1, 1, 1, 1, 1, 1, 1, 1, 1, 1, 1, 1, 1, 1, 1, 1, 1, 1, 1, 1, 1, 1, 1, 1, 1, 1]
  | .ret => [1, 1, 1, 1, 0, 1, 1, 1, 1, 1, 1, 1, 1, 1, 1, 1, 1, 1, 1, 1, 1, 1, 1, 1, 1, 1, 1, 1, 1]
  | _ => []
noncomputable def laws_eqFloat32S_LO (v1071 : List Nat) (v1072 : List Nat) : LOr := fun id e L =>
  match id with
  | 0 => .need (normA 0 laws_eqFloat32S_l0_kill e L = some (laws_eqFloat32S_l0_E v1071 v1072 (gI (vAt e 5)))) (.call (laws_eqFloat32S_l0_g v1071 v1072 (gI (vAt e 5))) fun x => .sum x (fun b0 => .leaf (laws_eqFloat32S_l0_X v1071 v1072 (.inl b0))) (fun c0 => .leaf (laws_eqFloat32S_l0_X v1071 v1072 (.inr c0))))
  | _ => .fail
noncomputable def laws_eqFloat32S_tab : List (FuncId × DFn × Bool) := [(31, laws_sameFloat_F, true)]
theorem laws_eqFloat32S_hO : OrcOk Try.prog (tabD laws_eqFloat32S_tab) (tabM laws_eqFloat32S_tab) := tabD_cons laws_sameFloat_Fok (tabD_nil _)
theorem laws_eqFloat32S_l0_be (v1071 : List Nat) (v1072 : List Nat) (s : Int) : bodyT TT (tabD laws_eqFloat32S_tab) (tabM laws_eqFloat32S_tab) (laws_eqFloat32S_LO v1071 v1072) 0 laws_eqFloat32S_l0_kill laws_eqFloat32S_l0_nx (bodyOf Try.f20 0) 0 (laws_eqFloat32S_l0_E v1071 v1072 s) = (laws_eqFloat32S_l0_T v1071 v1072 s).bind fun y => .leaf (outS (laws_eqFloat32S_l0_E v1071 v1072) (laws_eqFloat32S_l0_X v1071 v1072) y) := by kernel_rfl
theorem laws_eqFloat32S_l0_ok (v1071 : List Nat) (v1072 : List Nat) : LSound Try.prog 0 (laws_eqFloat32S_LO v1071 v1072) 0 (bodyOf Try.f20 0) := by
  intro e L out h
  exact lo_ok (E := laws_eqFloat32S_l0_E v1071 v1072) (gT := laws_eqFloat32S_l0_T v1071 v1072) (X := laws_eqFloat32S_l0_X v1071 v1072) (s0 := (gI (vAt e 5))) tok laws_eqFloat32S_hO mixed (LoopsOk_eq (l := []) (by kernel_rfl) trivial) (laws_eqFloat32S_l0_be v1071 v1072) rfl (by intro x; (cases x with | inl b => rfl | inr x => exact rfl)) h
noncomputable def laws_eqFloat32S_T (v1071 : List Nat) (v1072 : List Nat) : Tree (Bool) :=
  (.br (!decide (((v1071.length : Nat) : Int) = ((v1072.length : Nat) : Int))) (
   .leaf false
  ) (
   (.need (some (laws_eqFloat32S_l0_E v1071 v1072 (0 : Int)) = some (laws_eqFloat32S_l0_E v1071 v1072 (0 : Int))) <|
   (.call (laws_eqFloat32S_l0_g v1071 v1072 (0 : Int)) fun v1078 =>
   (.sum v1078 (fun v1079 =>
    .leaf false
   ) (fun v1080 =>
    .leaf true
   ))))
  ))

noncomputable def laws_eqFloat32S_g (v1071 : List Nat) (v1072 : List Nat) : Option (Bool) := (laws_eqFloat32S_T v1071 v1072).run
def laws_eqFloat32S_enc (v1071 : List Nat) (v1072 : List Nat) (y : Bool) : Rs := (.bool y, [])
theorem laws_eqFloat32S_den (v1071 : List Nat) (v1072 : List Nat) : (den TT (tabD laws_eqFloat32S_tab) (tabM laws_eqFloat32S_tab) (laws_eqFloat32S_LO v1071 v1072) (codeOf Try.f20) ([.bslc (BR.root 0) (.f32 v1071), .bslc (BR.root 1) (.f32 v1072)] ++ List.replicate (Try.f20.ntmps - ([.bslc (BR.root 0) (.f32 v1071), .bslc (BR.root 1) (.f32 v1072)] : List DV).length) .undef) []).bind (retD TT Try.f20.results.toList 0) = (laws_eqFloat32S_T v1071 v1072).bind fun y => .leaf (laws_eqFloat32S_enc v1071 v1072 y) := by kernel_rfl
theorem laws_eqFloat32S_fn (v1071 : List Nat) (v1072 : List Nat) (F : Fr) (hm : F.ids.length = 0) (h0 : St F [] F.H0) (hA : DVs.Ok F [] [.bslc (BR.root 0) (.f32 v1071), .bslc (BR.root 1) (.f32 v1072)]) {y : Bool} (hy : laws_eqFloat32S_g v1071 v1072 = some y) : ∃ H', FnOk Try.prog 20 (DVs.av F [.bslc (BR.root 0) (.f32 v1071), .bslc (BR.root 1) (.f32 v1072)]) F.H0 ((laws_eqFloat32S_enc v1071 v1072 y).1.av F) H' ∧ St F (laws_eqFloat32S_enc v1071 v1072 y).2 H' ∧ (laws_eqFloat32S_enc v1071 v1072 y).1.Ok F (laws_eqFloat32S_enc v1071 v1072 y).2 :=
  fn_fin tok laws_eqFloat32S_hO mixed Try.func20 Try.call20 (by kernel_rfl) (LoopsOk_eq (l := [(0, bodyOf Try.f20 0)]) (by kernel_rfl) ⟨laws_eqFloat32S_l0_ok v1071 v1072, trivial⟩) (laws_eqFloat32S_den v1071 v1072) hy hm h0 hA
noncomputable def laws_eqFloat32S_F : DFn := fun args L =>
  match args with
  | [a1, a2] =>
    optT (rowF32 L a1) fun v1071 =>
    optT (rowF32 L a2) fun v1072 =>
    .call (laws_eqFloat32S_g v1071 v1072) fun y => .leaf (.bool y, L)
  | _ => .fail
theorem laws_eqFloat32S_Fok : COk Try.prog 20 laws_eqFloat32S_F true := by
  intro F L H args r L' hs ha hr
  unfold laws_eqFloat32S_F at hr
  split at hr
  · rename_i a1 a2
    obtain ⟨v1071, hv1071, hr⟩ := optT_run hr
    obtain ⟨v1072, hv1072, hr⟩ := optT_run hr
    simp only [Tree.run] at hr
    obtain ⟨y, hy, hr⟩ := Option.bind_eq_some_iff.1 hr
    simp only [Tree.run, Option.some.injEq, Prod.mk.injEq] at hr
    obtain ⟨rfl, rfl⟩ := hr
    exact call_ok0 hs (fun k => (([a1.av F, a2.av F] : List AV)[k]?).getD .top) [a1, a2] [.bslc (BR.root 0) (.f32 v1071), .bslc (BR.root 1) (.f32 v1072)] (fun F' h0 hi hρ => ⟨by simp [DVs.av, DV.av, BR.av, hρ], laws_eqFloat32S_fn v1071 v1072 F' (by rw [hi]; rfl) (st_nil hi) ⟨bslc_ok hi (by rw [h0, hρ]; exact rowF32_ok hs (DVs.okAt ha 0 rfl) hv1071), bslc_ok hi (by rw [h0, hρ]; exact rowF32_ok hs (DVs.okAt ha 1 rfl) hv1072), trivial⟩ hy⟩) rfl
  · cases hr
/-! laws.eqMatrix -/
noncomputable def laws_eqMatrix_LO (v1065 : Int) (v1066 : Int) (v1067 : List Nat) (v1068 : Int) (v1069 : Int) (v1070 : List Nat) : LOr := fun id e L =>
  match id with
  | _ => .fail
noncomputable def laws_eqMatrix_tab : List (FuncId × DFn × Bool) := [(20, laws_eqFloat32S_F, true)]
theorem laws_eqMatrix_hO : OrcOk Try.prog (tabD laws_eqMatrix_tab) (tabM laws_eqMatrix_tab) := tabD_cons laws_eqFloat32S_Fok (tabD_nil _)
noncomputable def laws_eqMatrix_T (v1065 : Int) (v1066 : Int) (v1067 : List Nat) (v1068 : Int) (v1069 : Int) (v1070 : List Nat) : Tree (Bool) :=
  (.br (!decide (v1065 = v1068)) (
   .leaf false
  ) (
   (.br (!decide (v1066 = v1069)) (
    .leaf false
   ) (
    (.call (laws_eqFloat32S_g v1067 v1070) fun v1081 =>
    (.br (!v1081) (
     .leaf false
    ) (
     .leaf true
    )))
   ))
  ))

noncomputable def laws_eqMatrix_g (v1065 : Int) (v1066 : Int) (v1067 : List Nat) (v1068 : Int) (v1069 : Int) (v1070 : List Nat) : Option (Bool) := (laws_eqMatrix_T v1065 v1066 v1067 v1068 v1069 v1070).run
def laws_eqMatrix_enc (v1065 : Int) (v1066 : Int) (v1067 : List Nat) (v1068 : Int) (v1069 : Int) (v1070 : List Nat) (y : Bool) : Rs := (.bool y, [])
theorem laws_eqMatrix_den (v1065 : Int) (v1066 : Int) (v1067 : List Nat) (v1068 : Int) (v1069 : Int) (v1070 : List Nat) : (den TT (tabD laws_eqMatrix_tab) (tabM laws_eqMatrix_tab) (laws_eqMatrix_LO v1065 v1066 v1067 v1068 v1069 v1070) (codeOf Try.f19) ([.agg [.int .i64 v1065, .int .i64 v1066, .bslc (BR.root 0) (.f32 v1067)], .agg [.int .i64 v1068, .int .i64 v1069, .bslc (BR.root 1) (.f32 v1070)]] ++ List.replicate (Try.f19.ntmps - ([.agg [.int .i64 v1065, .int .i64 v1066, .bslc (BR.root 0) (.f32 v1067)], .agg [.int .i64 v1068, .int .i64 v1069, .bslc (BR.root 1) (.f32 v1070)]] : List DV).length) .undef) []).bind (retD TT Try.f19.results.toList 0) = (laws_eqMatrix_T v1065 v1066 v1067 v1068 v1069 v1070).bind fun y => .leaf (laws_eqMatrix_enc v1065 v1066 v1067 v1068 v1069 v1070 y) := by kernel_rfl
theorem laws_eqMatrix_fn (v1065 : Int) (v1066 : Int) (v1067 : List Nat) (v1068 : Int) (v1069 : Int) (v1070 : List Nat) (F : Fr) (hm : F.ids.length = 0) (h0 : St F [] F.H0) (hA : DVs.Ok F [] [.agg [.int .i64 v1065, .int .i64 v1066, .bslc (BR.root 0) (.f32 v1067)], .agg [.int .i64 v1068, .int .i64 v1069, .bslc (BR.root 1) (.f32 v1070)]]) {y : Bool} (hy : laws_eqMatrix_g v1065 v1066 v1067 v1068 v1069 v1070 = some y) : ∃ H', FnOk Try.prog 19 (DVs.av F [.agg [.int .i64 v1065, .int .i64 v1066, .bslc (BR.root 0) (.f32 v1067)], .agg [.int .i64 v1068, .int .i64 v1069, .bslc (BR.root 1) (.f32 v1070)]]) F.H0 ((laws_eqMatrix_enc v1065 v1066 v1067 v1068 v1069 v1070 y).1.av F) H' ∧ St F (laws_eqMatrix_enc v1065 v1066 v1067 v1068 v1069 v1070 y).2 H' ∧ (laws_eqMatrix_enc v1065 v1066 v1067 v1068 v1069 v1070 y).1.Ok F (laws_eqMatrix_enc v1065 v1066 v1067 v1068 v1069 v1070 y).2 :=
  fn_fin tok laws_eqMatrix_hO mixed Try.func19 Try.call19 (by kernel_rfl) (LoopsOk_eq (l := []) (by kernel_rfl) trivial) (laws_eqMatrix_den v1065 v1066 v1067 v1068 v1069 v1070) hy hm h0 hA
noncomputable def laws_eqMatrix_F : DFn := fun args L =>
  match args with
  | [.agg [.int .i64 v1065, .int .i64 v1066, a1], .agg [.int .i64 v1068, .int .i64 v1069, a2]] =>
    optT (rowF32 L a1) fun v1067 =>
    optT (rowF32 L a2) fun v1070 =>
    .call (laws_eqMatrix_g v1065 v1066 v1067 v1068 v1069 v1070) fun y => .leaf (.bool y, L)
  | _ => .fail
theorem laws_eqMatrix_Fok : COk Try.prog 19 laws_eqMatrix_F true := by
  intro F L H args r L' hs ha hr
  unfold laws_eqMatrix_F at hr
  split at hr
  · rename_i v1065 v1066 a1 v1068 v1069 a2
    obtain ⟨v1067, hv1067, hr⟩ := optT_run hr
    obtain ⟨v1070, hv1070, hr⟩ := optT_run hr
    simp only [Tree.run] at hr
    obtain ⟨y, hy, hr⟩ := Option.bind_eq_some_iff.1 hr
    simp only [Tree.run, Option.some.injEq, Prod.mk.injEq] at hr
    obtain ⟨rfl, rfl⟩ := hr
    exact call_ok0 hs (fun k => (([a1.av F, a2.av F] : List AV)[k]?).getD .top) [.agg [.int .i64 v1065, .int .i64 v1066, a1], .agg [.int .i64 v1068, .int .i64 v1069, a2]] [.agg [.int .i64 v1065, .int .i64 v1066, .bslc (BR.root 0) (.f32 v1067)], .agg [.int .i64 v1068, .int .i64 v1069, .bslc (BR.root 1) (.f32 v1070)]] (fun F' h0 hi hρ => ⟨by simp [DVs.av, DV.av, BR.av, hρ], laws_eqMatrix_fn v1065 v1066 v1067 v1068 v1069 v1070 F' (by rw [hi]; rfl) (st_nil hi) ⟨⟨trivial, trivial, bslc_ok hi (by rw [h0, hρ]; exact rowF32_ok hs (DVs.okAt (DVs.okAt ha 0 rfl) 2 rfl) hv1067), trivial⟩, ⟨trivial, trivial, bslc_ok hi (by rw [h0, hρ]; exact rowF32_ok hs (DVs.okAt (DVs.okAt ha 1 rfl) 2 rfl) hv1070), trivial⟩, trivial⟩ hy⟩) rfl
  · cases hr
/-! laws.markFloat32S -/
noncomputable def laws_markFloat32S_l0_T (s : Int × Int × (List Nat)) : Tree ((Int × Int × (List Nat)) ⊕ (Int × (List Nat))) :=
  (.br (decide (s.2.1 < (((s.2.2).length : Nat) : Int))) (
   (.grd (inb s.2.1 ((s.2.2).length)) <|
   .leaf (.inl (IntKind.i64.wrap (s.1 + (1 : Int)), IntKind.i64.wrap (s.2.1 + (1 : Int)), List.set s.2.2 (Int.toNat s.2.1) (fofint .f32 s.1))))
  ) (
   .leaf (.inr (s.1, s.2.2))
  ))

noncomputable def laws_markFloat32S_l0_g (s0 : Int × Int × (List Nat)) : Option (Int × (List Nat)) := whileM (fun s => (laws_markFloat32S_l0_T s).run) s0
def laws_markFloat32S_l0_E (v1094 : List Nat) (v1095 : Int) (s : Int × Int × (List Nat)) : Sd := ([.own 0 0 ((s.2.2).length), .int .i64 s.1, .top, .top, .top, .int .i64 s.2.1, .top, .top, .top, .top, .top, .top, .top, .top, .top, .top, .top, .top, .top, .top], [.row (.f32 s.2.2) 0])
def laws_markFloat32S_l0_X (v1094 : List Nat) (v1095 : Int) (x : Int × (List Nat)) : Out := (.normal, [.top, .int .i64 x.1, .top, .top, .top, .top, .top, .top, .top, .top, .top, .top, .top, .top, .top, .top, .top, .top, .top, .top], [.row (.f32 x.2) 0])
def laws_markFloat32S_l0_kill : List Nat := [0, 0, 1, 1, 1, 0, 1, 1, 1, 1, 1, 1, 1, 1, 1, 1, 1, 1, 1, 1]
def laws_markFloat32S_l0_nx : Exit → List Nat
  | .exit 0 => [1, 0, 1, 1, 1, 1, 1, 1, 1, 1, 1, 1, 1, 1, 1, 1, 1, 1, 1, 1]
  | .ret => [1, 1, 1, 1, 0, 1, 1, 1, 1, 1, 1, 1, 1, 1, 1, 1, 1, 1, 1, 1]
  | _ => []
noncomputable def laws_markFloat32S_LO (v1094 : List Nat) (v1095 : Int) : LOr := fun id e L =>
  match id with
  | 0 => .need (normA 1 laws_markFloat32S_l0_kill e L = some (laws_markFloat32S_l0_E v1094 v1095 ((gI (vAt e 1)), (gI (vAt e 5)), (gRF L (vAt e 0))))) (.call (laws_markFloat32S_l0_g ((gI (vAt e 1)), (gI (vAt e 5)), (gRF L (vAt e 0)))) fun x => .leaf (laws_markFloat32S_l0_X v1094 v1095 x))
  | _ => .fail
noncomputable def laws_markFloat32S_tab : List (FuncId × DFn × Bool) := []
theorem laws_markFloat32S_hO : OrcOk Try.prog (tabD laws_markFloat32S_tab) (tabM laws_markFloat32S_tab) := tabD_nil _
theorem laws_markFloat32S_l0_be (v1094 : List Nat) (v1095 : Int) (s : Int × Int × (List Nat)) : bodyT TT (tabD laws_markFloat32S_tab) (tabM laws_markFloat32S_tab) (laws_markFloat32S_LO v1094 v1095) 1 laws_markFloat32S_l0_kill laws_markFloat32S_l0_nx (bodyOf Try.f22 0) 0 (laws_markFloat32S_l0_E v1094 v1095 s) = (laws_markFloat32S_l0_T s).bind fun y => .leaf (outS (laws_markFloat32S_l0_E v1094 v1095) (laws_markFloat32S_l0_X v1094 v1095) y) := by kernel_rfl
theorem laws_markFloat32S_l0_ok (v1094 : List Nat) (v1095 : Int) : LSound Try.prog 1 (laws_markFloat32S_LO v1094 v1095) 0 (bodyOf Try.f22 0) := by
  intro e L out h
  exact lo_ok (E := laws_markFloat32S_l0_E v1094 v1095) (gT := laws_markFloat32S_l0_T) (X := laws_markFloat32S_l0_X v1094 v1095) (s0 := ((gI (vAt e 1)), (gI (vAt e 5)), (gRF L (vAt e 0)))) tok laws_markFloat32S_hO mixed (LoopsOk_eq (l := []) (by kernel_rfl) trivial) (laws_markFloat32S_l0_be v1094 v1095) rfl (by intro x; rfl) h
noncomputable def laws_markFloat32S_T (v1094 : List Nat) (v1095 : Int) : Tree (Int × (List Nat)) :=
  (.need (some (laws_markFloat32S_l0_E v1094 v1095 (v1095, (0 : Int), v1094)) = some (laws_markFloat32S_l0_E v1094 v1095 (v1095, (0 : Int), v1094))) <|
  (.call (laws_markFloat32S_l0_g (v1095, (0 : Int), v1094)) fun v1104 =>
  .leaf (v1104.1, v1104.2)))

noncomputable def laws_markFloat32S_g (v1094 : List Nat) (v1095 : Int) : Option (Int × (List Nat)) := (laws_markFloat32S_T v1094 v1095).run
def laws_markFloat32S_enc (v1094 : List Nat) (v1095 : Int) (y : Int × (List Nat)) : Rs := (.int .i64 y.1, [.row (.f32 y.2) 0])
theorem laws_markFloat32S_den (v1094 : List Nat) (v1095 : Int) : (den TT (tabD laws_markFloat32S_tab) (tabM laws_markFloat32S_tab) (laws_markFloat32S_LO v1094 v1095) (codeOf Try.f22) ([.own 0 0 v1094.length, .int .i64 v1095] ++ List.replicate (Try.f22.ntmps - ([.own 0 0 v1094.length, .int .i64 v1095] : List DV).length) .undef) [.row (.f32 v1094) 0]).bind (retD TT Try.f22.results.toList 1) = (laws_markFloat32S_T v1094 v1095).bind fun y => .leaf (laws_markFloat32S_enc v1094 v1095 y) := by kernel_rfl
theorem laws_markFloat32S_fn (v1094 : List Nat) (v1095 : Int) (F : Fr) (hm : F.ids.length = 1) (h0 : St F [.row (.f32 v1094) 0] F.H0) (hA : DVs.Ok F [.row (.f32 v1094) 0] [.own 0 0 v1094.length, .int .i64 v1095]) {y : Int × (List Nat)} (hy : laws_markFloat32S_g v1094 v1095 = some y) : ∃ H', FnOk Try.prog 22 (DVs.av F [.own 0 0 v1094.length, .int .i64 v1095]) F.H0 ((laws_markFloat32S_enc v1094 v1095 y).1.av F) H' ∧ St F (laws_markFloat32S_enc v1094 v1095 y).2 H' ∧ (laws_markFloat32S_enc v1094 v1095 y).1.Ok F (laws_markFloat32S_enc v1094 v1095 y).2 :=
  fn_fin tok laws_markFloat32S_hO mixed Try.func22 Try.call22 (by kernel_rfl) (LoopsOk_eq (l := [(0, bodyOf Try.f22 0)]) (by kernel_rfl) ⟨laws_markFloat32S_l0_ok v1094 v1095, trivial⟩) (laws_markFloat32S_den v1094 v1095) hy hm h0 hA
noncomputable def laws_markFloat32S_F : DFn := fun args L =>
  match args with
  | [a1, .int .i64 v1095] =>
    optT (ownF32 L a1) fun qv1094 =>
    (match sepB [qv1094.1] [] with
    | true =>
    .call (laws_markFloat32S_g qv1094.2 v1095) fun y => .grd (decide (y.2.length = qv1094.2.length)) (.leaf (.int .i64 y.1, setRows L ([qv1094.1].zip [.f32 y.2])))
    | false => .fail)
  | _ => .fail
theorem laws_markFloat32S_Fok : COk Try.prog 22 laws_markFloat32S_F false := by
  intro F L H args r L' hs ha hr
  unfold laws_markFloat32S_F at hr
  split at hr
  · rename_i a1 v1095
    obtain ⟨⟨jv1094, v1094⟩, hqv1094, hr⟩ := optT_run hr
    simp only at hr
    split at hr
    · rename_i hsep
      obtain ⟨hnd, hsepv⟩ := sepB_spec hsep
      simp only [Tree.run] at hr
      obtain ⟨y, hy, hr⟩ := Option.bind_eq_some_iff.1 hr
      try simp only [Tree.run] at hr
      obtain ⟨hl0, hr⟩ := ite_run hr
      simp only [Option.some.injEq, Prod.mk.injEq] at hr
      obtain ⟨rfl, rfl⟩ := hr
      obtain ⟨hr0, hu0, ha0, hb0⟩ := (ownR_spec (DVs.okAt ha 0 rfl) (ownF32_or hqv1094))
      exact mut_ok hs (fun k => (([a1.av F] : List AV)[k]?).getD .top) [a1, .int .i64 v1095] [.own 0 0 v1094.length, .int .i64 v1095] [jv1094] [.f32 v1094] [.f32 y.2] hnd rfl rfl (fun i j q h1 h2 => by
          rcases i with _ | i
          · simp at h1 h2; subst h1; subst h2; exact hr0
          · simp at h1) (fun i q q' h1 h2 => by
          rcases i with _ | i
          · simp at h1 h2; subst h1; subst h2; exact of_decide_eq_true hl0
          · simp at h1) (fun j hj => by simp at hj; subst hj; simp [DVs.refs, DV.refs, hu0]) (fun F' h0 hi hρ hst hS => ⟨by (have ab0 : F'.abs 0 = F.abs jv1094 := (by simp [Fr.abs, hi]); simp [DVs.av, DV.av, BR.av, hρ, Row.len, ha0, ab0]), by
          obtain ⟨H1, k1, k2, _⟩ := laws_markFloat32S_fn v1094 v1095 F' (by rw [hi]; rfl) hst ⟨⟨_, rfl, Nat.le_refl _, Nat.le_refl _, fun _ => rfl, (ownR_spec (DVs.okAt ha 0 rfl) (ownF32_or hqv1094)).2.2.2⟩, trivial, trivial⟩ hy
          exact ⟨H1, k1, k2⟩⟩) (fun F' => rfl) (fun L' => trivial)
    · cases hr
  · cases hr
/-! laws.markMatrix -/
noncomputable def laws_markMatrix_LO (v1105 : Int) (v1106 : Int) (v1107 : List Nat) (v1108 : Int) : LOr := fun id e L =>
  match id with
  | _ => .fail
noncomputable def laws_markMatrix_tab : List (FuncId × DFn × Bool) := [(22, laws_markFloat32S_F, false)]
theorem laws_markMatrix_hO : OrcOk Try.prog (tabD laws_markMatrix_tab) (tabM laws_markMatrix_tab) := tabD_cons laws_markFloat32S_Fok (tabD_nil _)
noncomputable def laws_markMatrix_T (v1107 : List Nat) (v1108 : Int) : Tree (Int × (List Nat)) :=
  (.call (laws_markFloat32S_g v1107 v1108) fun v1109 =>
  (.grd (decide (v1109.2.length = v1107.length)) <|
  .leaf (v1109.1, v1109.2)))

noncomputable def laws_markMatrix_g (v1107 : List Nat) (v1108 : Int) : Option (Int × (List Nat)) := (laws_markMatrix_T v1107 v1108).run
def laws_markMatrix_enc (v1105 : Int) (v1106 : Int) (v1107 : List Nat) (v1108 : Int) (y : Int × (List Nat)) : Rs := (.int .i64 y.1, [.row (.f32 y.2) 0])
theorem laws_markMatrix_den (v1105 : Int) (v1106 : Int) (v1107 : List Nat) (v1108 : Int) : (den TT (tabD laws_markMatrix_tab) (tabM laws_markMatrix_tab) (laws_markMatrix_LO v1105 v1106 v1107 v1108) (codeOf Try.f21) ([.agg [.int .i64 v1105, .int .i64 v1106, .own 0 0 v1107.length], .int .i64 v1108] ++ List.replicate (Try.f21.ntmps - ([.agg [.int .i64 v1105, .int .i64 v1106, .own 0 0 v1107.length], .int .i64 v1108] : List DV).length) .undef) [.row (.f32 v1107) 0]).bind (retD TT Try.f21.results.toList 1) = (laws_markMatrix_T v1107 v1108).bind fun y => .leaf (laws_markMatrix_enc v1105 v1106 v1107 v1108 y) := by kernel_rfl
theorem laws_markMatrix_fn (v1105 : Int) (v1106 : Int) (v1107 : List Nat) (v1108 : Int) (F : Fr) (hm : F.ids.length = 1) (h0 : St F [.row (.f32 v1107) 0] F.H0) (hA : DVs.Ok F [.row (.f32 v1107) 0] [.agg [.int .i64 v1105, .int .i64 v1106, .own 0 0 v1107.length], .int .i64 v1108]) {y : Int × (List Nat)} (hy : laws_markMatrix_g v1107 v1108 = some y) : ∃ H', FnOk Try.prog 21 (DVs.av F [.agg [.int .i64 v1105, .int .i64 v1106, .own 0 0 v1107.length], .int .i64 v1108]) F.H0 ((laws_markMatrix_enc v1105 v1106 v1107 v1108 y).1.av F) H' ∧ St F (laws_markMatrix_enc v1105 v1106 v1107 v1108 y).2 H' ∧ (laws_markMatrix_enc v1105 v1106 v1107 v1108 y).1.Ok F (laws_markMatrix_enc v1105 v1106 v1107 v1108 y).2 :=
  fn_fin tok laws_markMatrix_hO mixed Try.func21 Try.call21 (by kernel_rfl) (LoopsOk_eq (l := []) (by kernel_rfl) trivial) (laws_markMatrix_den v1105 v1106 v1107 v1108) hy hm h0 hA
noncomputable def laws_markMatrix_F : DFn := fun args L =>
  match args with
  | [.agg [.int .i64 v1105, .int .i64 v1106, a1], .int .i64 v1108] =>
    optT (ownF32 L a1) fun qv1107 =>
    (match sepB [qv1107.1] [] with
    | true =>
    .call (laws_markMatrix_g qv1107.2 v1108) fun y => .grd (decide (y.2.length = qv1107.2.length)) (.leaf (.int .i64 y.1, setRows L ([qv1107.1].zip [.f32 y.2])))
    | false => .fail)
  | _ => .fail
theorem laws_markMatrix_Fok : COk Try.prog 21 laws_markMatrix_F false := by
  intro F L H args r L' hs ha hr
  unfold laws_markMatrix_F at hr
  split at hr
  · rename_i v1105 v1106 a1 v1108
    obtain ⟨⟨jv1107, v1107⟩, hqv1107, hr⟩ := optT_run hr
    simp only at hr
    split at hr
    · rename_i hsep
      obtain ⟨hnd, hsepv⟩ := sepB_spec hsep
      simp only [Tree.run] at hr
      obtain ⟨y, hy, hr⟩ := Option.bind_eq_some_iff.1 hr
      try simp only [Tree.run] at hr
      obtain ⟨hl0, hr⟩ := ite_run hr
      simp only [Option.some.injEq, Prod.mk.injEq] at hr
      obtain ⟨rfl, rfl⟩ := hr
      obtain ⟨hr0, hu0, ha0, hb0⟩ := (ownR_spec (DVs.okAt (DVs.okAt ha 0 rfl) 2 rfl) (ownF32_or hqv1107))
      exact mut_ok hs (fun k => (([a1.av F] : List AV)[k]?).getD .top) [.agg [.int .i64 v1105, .int .i64 v1106, a1], .int .i64 v1108] [.agg [.int .i64 v1105, .int .i64 v1106, .own 0 0 v1107.length], .int .i64 v1108] [jv1107] [.f32 v1107] [.f32 y.2] hnd rfl rfl (fun i j q h1 h2 => by
          rcases i with _ | i
          · simp at h1 h2; subst h1; subst h2; exact hr0
          · simp at h1) (fun i q q' h1 h2 => by
          rcases i with _ | i
          · simp at h1 h2; subst h1; subst h2; exact of_decide_eq_true hl0
          · simp at h1) (fun j hj => by simp at hj; subst hj; simp [DVs.refs, DV.refs, hu0]) (fun F' h0 hi hρ hst hS => ⟨by (have ab0 : F'.abs 0 = F.abs jv1107 := (by simp [Fr.abs, hi]); simp [DVs.av, DV.av, BR.av, hρ, Row.len, ha0, ab0]), by
          obtain ⟨H1, k1, k2, _⟩ := laws_markMatrix_fn v1105 v1106 v1107 v1108 F' (by rw [hi]; rfl) hst ⟨⟨trivial, trivial, ⟨_, rfl, Nat.le_refl _, Nat.le_refl _, fun _ => rfl, (ownR_spec (DVs.okAt (DVs.okAt ha 0 rfl) 2 rfl) (ownF32_or hqv1107)).2.2.2⟩, trivial⟩, trivial, trivial⟩ hy
          exact ⟨H1, k1, k2⟩⟩) (fun F' => rfl) (fun L' => trivial)
    · cases hr
  · cases hr
/-! laws.markFloat32S -/
noncomputable def laws_markFloat32S_i1_l0_T (s : Unit) : Tree ((Unit) ⊕ (Unit)) :=
  (.br (decide ((0 : Int) < (0 : Int))) (
   .fail
  ) (
   .leaf (.inr ())
  ))

noncomputable def laws_markFloat32S_i1_l0_g (s0 : Unit) : Option (Unit) := whileM (fun s => (laws_markFloat32S_i1_l0_T s).run) s0
def laws_markFloat32S_i1_l0_E (v1116 : Int) (s : Unit) : Sd := ([.nilslc, .int .i64 v1116, .top, .top, .top, .int .i64 (0 : Int), .top, .top, .top, .top, .top, .top, .top, .top, .top, .top, .top, .top, .top, .top], [])
def laws_markFloat32S_i1_l0_X (v1116 : Int) (x : Unit) : Out := (.normal, [.top, .int .i64 v1116, .top, .top, .top, .top, .top, .top, .top, .top, .top, .top, .top, .top, .top, .top, .top, .top, .top, .top], [])
def laws_markFloat32S_i1_l0_kill : List Nat := [0, 0, 1, 1, 1, 0, 1, 1, 1, 1, 1, 1, 1, 1, 1, 1, 1, 1, 1, 1]
def laws_markFloat32S_i1_l0_nx : Exit → List Nat
  | .exit 0 => [1, 0, 1, 1, 1, 1, 1, 1, 1, 1, 1, 1, 1, 1, 1, 1, 1, 1, 1, 1]
  | .ret => [1, 1, 1, 1, 0, 1, 1, 1, 1, 1, 1, 1, 1, 1, 1, 1, 1, 1, 1, 1]
  | _ => []
noncomputable def laws_markFloat32S_i1_LO (v1116 : Int) : LOr := fun id e L =>
  match id with
  | 0 => .need (normA 0 laws_markFloat32S_i1_l0_kill e L = some (laws_markFloat32S_i1_l0_E v1116 ())) (.call (laws_markFloat32S_i1_l0_g ()) fun x => .leaf (laws_markFloat32S_i1_l0_X v1116 x))
  | _ => .fail
noncomputable def laws_markFloat32S_i1_tab : List (FuncId × DFn × Bool) := []
theorem laws_markFloat32S_i1_hO : OrcOk Try.prog (tabD laws_markFloat32S_i1_tab) (tabM laws_markFloat32S_i1_tab) := tabD_nil _
theorem laws_markFloat32S_i1_l0_be (v1116 : Int) (s : Unit) : bodyT TT (tabD laws_markFloat32S_i1_tab) (tabM laws_markFloat32S_i1_tab) (laws_markFloat32S_i1_LO v1116) 0 laws_markFloat32S_i1_l0_kill laws_markFloat32S_i1_l0_nx (bodyOf Try.f22 0) 0 (laws_markFloat32S_i1_l0_E v1116 s) = (laws_markFloat32S_i1_l0_T s).bind fun y => .leaf (outS (laws_markFloat32S_i1_l0_E v1116) (laws_markFloat32S_i1_l0_X v1116) y) := by kernel_rfl
theorem laws_markFloat32S_i1_l0_ok (v1116 : Int) : LSound Try.prog 0 (laws_markFloat32S_i1_LO v1116) 0 (bodyOf Try.f22 0) := by
  intro e L out h
  exact lo_ok (E := laws_markFloat32S_i1_l0_E v1116) (gT := laws_markFloat32S_i1_l0_T) (X := laws_markFloat32S_i1_l0_X v1116) (s0 := ()) tok laws_markFloat32S_i1_hO mixed (LoopsOk_eq (l := []) (by kernel_rfl) trivial) (laws_markFloat32S_i1_l0_be v1116) rfl (by intro x; rfl) h
noncomputable def laws_markFloat32S_i1_T (v1116 : Int) : Tree (Int) :=
  (.need (some (laws_markFloat32S_i1_l0_E v1116 ()) = some (laws_markFloat32S_i1_l0_E v1116 ())) <|
  (.call (laws_markFloat32S_i1_l0_g ()) fun v1119 =>
  .leaf v1116))

noncomputable def laws_markFloat32S_i1_g (v1116 : Int) : Option (Int) := (laws_markFloat32S_i1_T v1116).run
def laws_markFloat32S_i1_enc (v1116 : Int) (y : Int) : Rs := (.int .i64 y, [])
theorem laws_markFloat32S_i1_den (v1116 : Int) : (den TT (tabD laws_markFloat32S_i1_tab) (tabM laws_markFloat32S_i1_tab) (laws_markFloat32S_i1_LO v1116) (codeOf Try.f22) ([.nilslc, .int .i64 v1116] ++ List.replicate (Try.f22.ntmps - ([.nilslc, .int .i64 v1116] : List DV).length) .undef) []).bind (retD TT Try.f22.results.toList 0) = (laws_markFloat32S_i1_T v1116).bind fun y => .leaf (laws_markFloat32S_i1_enc v1116 y) := by kernel_rfl
theorem laws_markFloat32S_i1_fn (v1116 : Int) (F : Fr) (hm : F.ids.length = 0) (h0 : St F [] F.H0) (hA : DVs.Ok F [] [.nilslc, .int .i64 v1116]) {y : Int} (hy : laws_markFloat32S_i1_g v1116 = some y) : ∃ H', FnOk Try.prog 22 (DVs.av F [.nilslc, .int .i64 v1116]) F.H0 ((laws_markFloat32S_i1_enc v1116 y).1.av F) H' ∧ St F (laws_markFloat32S_i1_enc v1116 y).2 H' ∧ (laws_markFloat32S_i1_enc v1116 y).1.Ok F (laws_markFloat32S_i1_enc v1116 y).2 :=
  fn_fin tok laws_markFloat32S_i1_hO mixed Try.func22 Try.call22 (by kernel_rfl) (LoopsOk_eq (l := [(0, bodyOf Try.f22 0)]) (by kernel_rfl) ⟨laws_markFloat32S_i1_l0_ok v1116, trivial⟩) (laws_markFloat32S_i1_den v1116) hy hm h0 hA
noncomputable def laws_markFloat32S_i1_F : DFn := fun args L =>
  match args with
  | [.nilslc, .int .i64 v1116] =>
    .call (laws_markFloat32S_i1_g v1116) fun y => .leaf (.int .i64 y, L)
  | _ => .fail
theorem laws_markFloat32S_i1_Fok : COk Try.prog 22 laws_markFloat32S_i1_F true := by
  intro F L H args r L' hs ha hr
  unfold laws_markFloat32S_i1_F at hr
  split at hr
  · rename_i v1116
    simp only [Tree.run] at hr
    obtain ⟨y, hy, hr⟩ := Option.bind_eq_some_iff.1 hr
    simp only [Tree.run, Option.some.injEq, Prod.mk.injEq] at hr
    obtain ⟨rfl, rfl⟩ := hr
    exact call_ok0 hs (fun k => (([] : List AV)[k]?).getD .top) [.nilslc, .int .i64 v1116] [.nilslc, .int .i64 v1116] (fun F' h0 hi hρ => ⟨by simp [DVs.av, DV.av, BR.av, hρ], laws_markFloat32S_i1_fn v1116 F' (by rw [hi]; rfl) (st_nil hi) ⟨trivial, trivial, trivial⟩ hy⟩) rfl
  · cases hr
/-! laws.markMatrix -/
noncomputable def laws_markMatrix_i1_LO (v1113 : Int) (v1114 : Int) (v1115 : Int) : LOr := fun id e L =>
  match id with
  | _ => .fail
noncomputable def laws_markMatrix_i1_tab : List (FuncId × DFn × Bool) := [(22, laws_markFloat32S_i1_F, true)]
theorem laws_markMatrix_i1_hO : OrcOk Try.prog (tabD laws_markMatrix_i1_tab) (tabM laws_markMatrix_i1_tab) := tabD_cons laws_markFloat32S_i1_Fok (tabD_nil _)
noncomputable def laws_markMatrix_i1_T (v1115 : Int) : Tree (Int) :=
  (.call (laws_markFloat32S_i1_g v1115) fun v1120 =>
  .leaf v1120)

noncomputable def laws_markMatrix_i1_g (v1115 : Int) : Option (Int) := (laws_markMatrix_i1_T v1115).run
def laws_markMatrix_i1_enc (v1113 : Int) (v1114 : Int) (v1115 : Int) (y : Int) : Rs := (.int .i64 y, [])
theorem laws_markMatrix_i1_den (v1113 : Int) (v1114 : Int) (v1115 : Int) : (den TT (tabD laws_markMatrix_i1_tab) (tabM laws_markMatrix_i1_tab) (laws_markMatrix_i1_LO v1113 v1114 v1115) (codeOf Try.f21) ([.agg [.int .i64 v1113, .int .i64 v1114, .nilslc], .int .i64 v1115] ++ List.replicate (Try.f21.ntmps - ([.agg [.int .i64 v1113, .int .i64 v1114, .nilslc], .int .i64 v1115] : List DV).length) .undef) []).bind (retD TT Try.f21.results.toList 0) = (laws_markMatrix_i1_T v1115).bind fun y => .leaf (laws_markMatrix_i1_enc v1113 v1114 v1115 y) := by kernel_rfl
theorem laws_markMatrix_i1_fn (v1113 : Int) (v1114 : Int) (v1115 : Int) (F : Fr) (hm : F.ids.length = 0) (h0 : St F [] F.H0) (hA : DVs.Ok F [] [.agg [.int .i64 v1113, .int .i64 v1114, .nilslc], .int .i64 v1115]) {y : Int} (hy : laws_markMatrix_i1_g v1115 = some y) : ∃ H', FnOk Try.prog 21 (DVs.av F [.agg [.int .i64 v1113, .int .i64 v1114, .nilslc], .int .i64 v1115]) F.H0 ((laws_markMatrix_i1_enc v1113 v1114 v1115 y).1.av F) H' ∧ St F (laws_markMatrix_i1_enc v1113 v1114 v1115 y).2 H' ∧ (laws_markMatrix_i1_enc v1113 v1114 v1115 y).1.Ok F (laws_markMatrix_i1_enc v1113 v1114 v1115 y).2 :=
  fn_fin tok laws_markMatrix_i1_hO mixed Try.func21 Try.call21 (by kernel_rfl) (LoopsOk_eq (l := []) (by kernel_rfl) trivial) (laws_markMatrix_i1_den v1113 v1114 v1115) hy hm h0 hA
noncomputable def laws_markMatrix_i1_F : DFn := fun args L =>
  match args with
  | [.agg [.int .i64 v1113, .int .i64 v1114, .nilslc], .int .i64 v1115] =>
    .call (laws_markMatrix_i1_g v1115) fun y => .leaf (.int .i64 y, L)
  | _ => .fail
theorem laws_markMatrix_i1_Fok : COk Try.prog 21 laws_markMatrix_i1_F true := by
  intro F L H args r L' hs ha hr
  unfold laws_markMatrix_i1_F at hr
  split at hr
  · rename_i v1113 v1114 v1115
    simp only [Tree.run] at hr
    obtain ⟨y, hy, hr⟩ := Option.bind_eq_some_iff.1 hr
    simp only [Tree.run, Option.some.injEq, Prod.mk.injEq] at hr
    obtain ⟨rfl, rfl⟩ := hr
    exact call_ok0 hs (fun k => (([] : List AV)[k]?).getD .top) [.agg [.int .i64 v1113, .int .i64 v1114, .nilslc], .int .i64 v1115] [.agg [.int .i64 v1113, .int .i64 v1114, .nilslc], .int .i64 v1115] (fun F' h0 hi hρ => ⟨by simp [DVs.av, DV.av, BR.av, hρ], laws_markMatrix_i1_fn v1113 v1114 v1115 F' (by rw [hi]; rfl) (st_nil hi) ⟨⟨trivial, trivial, trivial, trivial⟩, trivial, trivial⟩ hy⟩) rfl
  · cases hr
/-! laws.heldFloat32S -/
noncomputable def laws_heldFloat32S_l0_T (v1127 : List Nat) (s : Int × Int) : Tree ((Int × Int) ⊕ ((Unit) ⊕ (Int))) :=
  (.br (decide (s.2 < ((v1127.length : Nat) : Int))) (
   (.grd (inb s.2 v1127.length) <|
   (.br (!feq .f32 (nth v1127 (Int.toNat s.2)) (fofint .f32 s.1)) (
    .leaf (.inr (.inl ()))
   ) (
    .leaf (.inl (IntKind.i64.wrap (s.1 + (1 : Int)), IntKind.i64.wrap (s.2 + (1 : Int))))
   )))
  ) (
   .leaf (.inr (.inr s.1))
  ))

noncomputable def laws_heldFloat32S_l0_g (v1127 : List Nat) (s0 : Int × Int) : Option ((Unit) ⊕ (Int)) := whileM (fun s => (laws_heldFloat32S_l0_T v1127 s).run) s0
def laws_heldFloat32S_l0_E (v1127 : List Nat) (v1128 : Int) (s : Int × Int) : Sd := ([.bslc (BR.root 0) (.f32 v1127), .int .i64 s.1, .top, .top, .top, .int .i64 s.2, .top, .top, .top, .top, .top, .top, .top, .top, .top, .top, .top, .top, .top, .top, .top, .top], [])
def laws_heldFloat32S_l0_X (v1127 : List Nat) (v1128 : Int) (x : (Unit) ⊕ (Int)) : Out := (match x with | .inl x => (.ret, [.top, .top, .top, .top, .int .i64 (-1 : Int), .top, .top, .top, .top, .top, .top, .top, .top, .top, .top, .top, .top, .top, .top, .top, .top, .top], []) | .inr x => (.normal, [.top, .int .i64 x, .top, .top, .top, .top, .top, .top, .top, .top, .top, .top, .top, .top, .top, .top, .top, .top, .top, .top, .top, .top], []))
def laws_heldFloat32S_l0_kill : List Nat := [0, 0, 1, 1, 1, 0, 1, 1, 1, 1, 1, 1, 1, 1, 1, 1, 1, 1, 1, 1, 1, 1]
def laws_heldFloat32S_l0_nx : Exit → List Nat
  | .exit 0 => [1, 0, 1, 1, 1, 1, 1, 1, 1, 1, 1, 1, 1, 1, 1, 1, 1, 1, 1, 1, 1, 1]
  | .ret => [1, 1, 1, 1, 0, 1, 1, 1, 1, 1, 1, 1, 1, 1, 1, 1, 1, 1, 1, 1, 1, 1]
  | _ => []
noncomputable def laws_heldFloat32S_LO (v1127 : List Nat) (v1128 : Int) : LOr := fun id e L =>
  match id with
  | 0 => .need (normA 0 laws_heldFloat32S_l0_kill e L = some (laws_heldFloat32S_l0_E v1127 v1128 ((gI (vAt e 1)), (gI (vAt e 5))))) (.call (laws_heldFloat32S_l0_g v1127 ((gI (vAt e 1)), (gI (vAt e 5)))) fun x => .sum x (fun b0 => .leaf (laws_heldFloat32S_l0_X v1127 v1128 (.inl b0))) (fun c0 => .leaf (laws_heldFloat32S_l0_X v1127 v1128 (.inr c0))))
  | _ => .fail
noncomputable def laws_heldFloat32S_tab : List (FuncId × DFn × Bool) := []
theorem laws_heldFloat32S_hO : OrcOk Try.prog (tabD laws_heldFloat32S_tab) (tabM laws_heldFloat32S_tab) := tabD_nil _
theorem laws_heldFloat32S_l0_be (v1127 : List Nat) (v1128 : Int) (s : Int × Int) : bodyT TT (tabD laws_heldFloat32S_tab) (tabM laws_heldFloat32S_tab) (laws_heldFloat32S_LO v1127 v1128) 0 laws_heldFloat32S_l0_kill laws_heldFloat32S_l0_nx (bodyOf Try.f24 0) 0 (laws_heldFloat32S_l0_E v1127 v1128 s) = (laws_heldFloat32S_l0_T v1127 s).bind fun y => .leaf (outS (laws_heldFloat32S_l0_E v1127 v1128) (laws_heldFloat32S_l0_X v1127 v1128) y) := by kernel_rfl
theorem laws_heldFloat32S_l0_ok (v1127 : List Nat) (v1128 : Int) : LSound Try.prog 0 (laws_heldFloat32S_LO v1127 v1128) 0 (bodyOf Try.f24 0) := by
  intro e L out h
  exact lo_ok (E := laws_heldFloat32S_l0_E v1127 v1128) (gT := laws_heldFloat32S_l0_T v1127) (X := laws_heldFloat32S_l0_X v1127 v1128) (s0 := ((gI (vAt e 1)), (gI (vAt e 5)))) tok laws_heldFloat32S_hO mixed (LoopsOk_eq (l := []) (by kernel_rfl) trivial) (laws_heldFloat32S_l0_be v1127 v1128) rfl (by intro x; (cases x with | inl b => rfl | inr x => exact rfl)) h
noncomputable def laws_heldFloat32S_T (v1127 : List Nat) (v1128 : Int) : Tree (Int) :=
  (.need (some (laws_heldFloat32S_l0_E v1127 v1128 (v1128, (0 : Int))) = some (laws_heldFloat32S_l0_E v1127 v1128 (v1128, (0 : Int)))) <|
  (.call (laws_heldFloat32S_l0_g v1127 (v1128, (0 : Int))) fun v1135 =>
  (.sum v1135 (fun v1136 =>
   .leaf (-1 : Int)
  ) (fun v1137 =>
   .leaf v1137
  ))))

noncomputable def laws_heldFloat32S_g (v1127 : List Nat) (v1128 : Int) : Option (Int) := (laws_heldFloat32S_T v1127 v1128).run
def laws_heldFloat32S_enc (v1127 : List Nat) (v1128 : Int) (y : Int) : Rs := (.int .i64 y, [])
theorem laws_heldFloat32S_den (v1127 : List Nat) (v1128 : Int) : (den TT (tabD laws_heldFloat32S_tab) (tabM laws_heldFloat32S_tab) (laws_heldFloat32S_LO v1127 v1128) (codeOf Try.f24) ([.bslc (BR.root 0) (.f32 v1127), .int .i64 v1128] ++ List.replicate (Try.f24.ntmps - ([.bslc (BR.root 0) (.f32 v1127), .int .i64 v1128] : List DV).length) .undef) []).bind (retD TT Try.f24.results.toList 0) = (laws_heldFloat32S_T v1127 v1128).bind fun y => .leaf (laws_heldFloat32S_enc v1127 v1128 y) := by kernel_rfl
theorem laws_heldFloat32S_fn (v1127 : List Nat) (v1128 : Int) (F : Fr) (hm : F.ids.length = 0) (h0 : St F [] F.H0) (hA : DVs.Ok F [] [.bslc (BR.root 0) (.f32 v1127), .int .i64 v1128]) {y : Int} (hy : laws_heldFloat32S_g v1127 v1128 = some y) : ∃ H', FnOk Try.prog 24 (DVs.av F [.bslc (BR.root 0) (.f32 v1127), .int .i64 v1128]) F.H0 ((laws_heldFloat32S_enc v1127 v1128 y).1.av F) H' ∧ St F (laws_heldFloat32S_enc v1127 v1128 y).2 H' ∧ (laws_heldFloat32S_enc v1127 v1128 y).1.Ok F (laws_heldFloat32S_enc v1127 v1128 y).2 :=
  fn_fin tok laws_heldFloat32S_hO mixed Try.func24 Try.call24 (by kernel_rfl) (LoopsOk_eq (l := [(0, bodyOf Try.f24 0)]) (by kernel_rfl) ⟨laws_heldFloat32S_l0_ok v1127 v1128, trivial⟩) (laws_heldFloat32S_den v1127 v1128) hy hm h0 hA
noncomputable def laws_heldFloat32S_F : DFn := fun args L =>
  match args with
  | [a1, .int .i64 v1128] =>
    optT (rowF32 L a1) fun v1127 =>
    .call (laws_heldFloat32S_g v1127 v1128) fun y => .leaf (.int .i64 y, L)
  | _ => .fail
theorem laws_heldFloat32S_Fok : COk Try.prog 24 laws_heldFloat32S_F true := by
  intro F L H args r L' hs ha hr
  unfold laws_heldFloat32S_F at hr
  split at hr
  · rename_i a1 v1128
    obtain ⟨v1127, hv1127, hr⟩ := optT_run hr
    simp only [Tree.run] at hr
    obtain ⟨y, hy, hr⟩ := Option.bind_eq_some_iff.1 hr
    simp only [Tree.run, Option.some.injEq, Prod.mk.injEq] at hr
    obtain ⟨rfl, rfl⟩ := hr
    exact call_ok0 hs (fun k => (([a1.av F] : List AV)[k]?).getD .top) [a1, .int .i64 v1128] [.bslc (BR.root 0) (.f32 v1127), .int .i64 v1128] (fun F' h0 hi hρ => ⟨by simp [DVs.av, DV.av, BR.av, hρ], laws_heldFloat32S_fn v1127 v1128 F' (by rw [hi]; rfl) (st_nil hi) ⟨bslc_ok hi (by rw [h0, hρ]; exact rowF32_ok hs (DVs.okAt ha 0 rfl) hv1127), trivial, trivial⟩ hy⟩) rfl
  · cases hr
/-! laws.heldMatrix -/
noncomputable def laws_heldMatrix_LO (v1123 : Int) (v1124 : Int) (v1125 : List Nat) (v1126 : Int) : LOr := fun id e L =>
  match id with
  | _ => .fail
noncomputable def laws_heldMatrix_tab : List (FuncId × DFn × Bool) := [(24, laws_heldFloat32S_F, true)]
theorem laws_heldMatrix_hO : OrcOk Try.prog (tabD laws_heldMatrix_tab) (tabM laws_heldMatrix_tab) := tabD_cons laws_heldFloat32S_Fok (tabD_nil _)
noncomputable def laws_heldMatrix_T (v1125 : List Nat) (v1126 : Int) : Tree (Int) :=
  (.call (laws_heldFloat32S_g v1125 v1126) fun v1138 =>
  (.br (decide (v1138 < (0 : Int))) (
   .leaf (-1 : Int)
  ) (
   .leaf v1138
  )))

noncomputable def laws_heldMatrix_g (v1125 : List Nat) (v1126 : Int) : Option (Int) := (laws_heldMatrix_T v1125 v1126).run
def laws_heldMatrix_enc (v1123 : Int) (v1124 : Int) (v1125 : List Nat) (v1126 : Int) (y : Int) : Rs := (.int .i64 y, [])
theorem laws_heldMatrix_den (v1123 : Int) (v1124 : Int) (v1125 : List Nat) (v1126 : Int) : (den TT (tabD laws_heldMatrix_tab) (tabM laws_heldMatrix_tab) (laws_heldMatrix_LO v1123 v1124 v1125 v1126) (codeOf Try.f23) ([.agg [.int .i64 v1123, .int .i64 v1124, .bslc (BR.root 0) (.f32 v1125)], .int .i64 v1126] ++ List.replicate (Try.f23.ntmps - ([.agg [.int .i64 v1123, .int .i64 v1124, .bslc (BR.root 0) (.f32 v1125)], .int .i64 v1126] : List DV).length) .undef) []).bind (retD TT Try.f23.results.toList 0) = (laws_heldMatrix_T v1125 v1126).bind fun y => .leaf (laws_heldMatrix_enc v1123 v1124 v1125 v1126 y) := by kernel_rfl
theorem laws_heldMatrix_fn (v1123 : Int) (v1124 : Int) (v1125 : List Nat) (v1126 : Int) (F : Fr) (hm : F.ids.length = 0) (h0 : St F [] F.H0) (hA : DVs.Ok F [] [.agg [.int .i64 v1123, .int .i64 v1124, .bslc (BR.root 0) (.f32 v1125)], .int .i64 v1126]) {y : Int} (hy : laws_heldMatrix_g v1125 v1126 = some y) : ∃ H', FnOk Try.prog 23 (DVs.av F [.agg [.int .i64 v1123, .int .i64 v1124, .bslc (BR.root 0) (.f32 v1125)], .int .i64 v1126]) F.H0 ((laws_heldMatrix_enc v1123 v1124 v1125 v1126 y).1.av F) H' ∧ St F (laws_heldMatrix_enc v1123 v1124 v1125 v1126 y).2 H' ∧ (laws_heldMatrix_enc v1123 v1124 v1125 v1126 y).1.Ok F (laws_heldMatrix_enc v1123 v1124 v1125 v1126 y).2 :=
  fn_fin tok laws_heldMatrix_hO mixed Try.func23 Try.call23 (by kernel_rfl) (LoopsOk_eq (l := []) (by kernel_rfl) trivial) (laws_heldMatrix_den v1123 v1124 v1125 v1126) hy hm h0 hA
noncomputable def laws_heldMatrix_F : DFn := fun args L =>
  match args with
  | [.agg [.int .i64 v1123, .int .i64 v1124, a1], .int .i64 v1126] =>
    optT (rowF32 L a1) fun v1125 =>
    .call (laws_heldMatrix_g v1125 v1126) fun y => .leaf (.int .i64 y, L)
  | _ => .fail
theorem laws_heldMatrix_Fok : COk Try.prog 23 laws_heldMatrix_F true := by
  intro F L H args r L' hs ha hr
  unfold laws_heldMatrix_F at hr
  split at hr
  · rename_i v1123 v1124 a1 v1126
    obtain ⟨v1125, hv1125, hr⟩ := optT_run hr
    simp only [Tree.run] at hr
    obtain ⟨y, hy, hr⟩ := Option.bind_eq_some_iff.1 hr
    simp only [Tree.run, Option.some.injEq, Prod.mk.injEq] at hr
    obtain ⟨rfl, rfl⟩ := hr
    exact call_ok0 hs (fun k => (([a1.av F] : List AV)[k]?).getD .top) [.agg [.int .i64 v1123, .int .i64 v1124, a1], .int .i64 v1126] [.agg [.int .i64 v1123, .int .i64 v1124, .bslc (BR.root 0) (.f32 v1125)], .int .i64 v1126] (fun F' h0 hi hρ => ⟨by simp [DVs.av, DV.av, BR.av, hρ], laws_heldMatrix_fn v1123 v1124 v1125 v1126 F' (by rw [hi]; rfl) (st_nil hi) ⟨⟨trivial, trivial, bslc_ok hi (by rw [h0, hρ]; exact rowF32_ok hs (DVs.okAt (DVs.okAt ha 0 rfl) 2 rfl) hv1125), trivial⟩, trivial, trivial⟩ hy⟩) rfl
  · cases hr
/-! laws.FnExactMiddleFactor -/
noncomputable def laws_FnExactMiddleFactor_LO (v1 : Int) (v2 : Int) (v3 : List Nat) : LOr := fun id e L =>
  match id with
  | _ => .fail
noncomputable def laws_FnExactMiddleFactor_tab : List (FuncId × DFn × Bool) := [(15, laws_szMatrix_F, true), (17, laws_toMatrix_F, true), (16, spec_MiddleFactor_F, true), (18, impl_MiddleFactor_F, true), (19, laws_eqMatrix_F, true), (20, laws_eqFloat32S_F, true), (21, (orD (fun args => match args with | [.agg [_, _, .nilslc], _] => true | _ => false) laws_markMatrix_i1_F laws_markMatrix_F), false), (22, (orD (fun args => match args with | [.nilslc, _] => true | _ => false) laws_markFloat32S_i1_F laws_markFloat32S_F), false), (23, laws_heldMatrix_F, true), (24, laws_heldFloat32S_F, true)]
theorem laws_FnExactMiddleFactor_hO : OrcOk Try.prog (tabD laws_FnExactMiddleFactor_tab) (tabM laws_FnExactMiddleFactor_tab) := tabD_cons laws_szMatrix_Fok (tabD_cons laws_toMatrix_Fok (tabD_cons spec_MiddleFactor_Fok (tabD_cons impl_MiddleFactor_Fok (tabD_cons laws_eqMatrix_Fok (tabD_cons laws_eqFloat32S_Fok (tabD_cons (orD_ok (COk.weak laws_markMatrix_i1_Fok) laws_markMatrix_Fok) (tabD_cons (orD_ok (COk.weak laws_markFloat32S_i1_Fok) laws_markFloat32S_Fok) (tabD_cons laws_heldMatrix_Fok (tabD_cons laws_heldFloat32S_Fok (tabD_nil _))))))))))
noncomputable def laws_FnExactMiddleFactor_T (v1 : Int) (v2 : Int) (v3 : List Nat) : Tree (Bool) :=
  (.br (decide ((laws_szMatrix_v v3 (1048576 : Int)) < (0 : Int))) (
   .leaf true
  ) (
   (.call (laws_toMatrix_g v1 v2 v3) fun v21 =>
   (.call (spec_MiddleFactor_g v21.1 v21.2.1 v21.2.2) fun v552 =>
   (.sum v552 (fun v553 =>
    (.call (laws_toMatrix_g v1 v2 v3) fun v555 =>
    (.call (impl_MiddleFactor_g v555.1 v555.2.1 v555.2.2) fun v1062 =>
    (.sum v1062 (fun v1063 =>
     (.call (laws_eqMatrix_g (0 : Int) (0 : Int) ([] : List Nat) (0 : Int) (0 : Int) ([] : List Nat)) fun v1082 =>
     (.br (!v1082) (
      .leaf false
     ) (
      (.call (laws_eqFloat32S_g ([] : List Nat) ([] : List Nat)) fun v1083 =>
      (.br (!v1083) (
       .leaf false
      ) (
       (.br (!(false == false)) (
        .leaf false
       ) (
        (.call (laws_toMatrix_g v1 v2 v3) fun v1084 =>
        (.call (laws_eqMatrix_g v555.1 v555.2.1 v555.2.2 v1084.1 v1084.2.1 v1084.2.2) fun v1085 =>
        (.br (!v1085) (
         .leaf false
        ) (
         (.call (laws_markMatrix_g v555.2.2 (1 : Int)) fun v1110 =>
         (.grd (decide (v1110.2.length = v555.2.2.length)) <|
         (.br (decide (v1110.1 < (0 : Int))) (
          .leaf false
         ) (
          (.call (laws_eqMatrix_g (0 : Int) (0 : Int) ([] : List Nat) (0 : Int) (0 : Int) ([] : List Nat)) fun v1111 =>
          (.br (!v1111) (
           .leaf false
          ) (
           (.call (laws_eqFloat32S_g ([] : List Nat) ([] : List Nat)) fun v1112 =>
           (.br (!v1112) (
            .leaf false
           ) (
            (.br (!(false == false)) (
             .leaf false
            ) (
             (.call (laws_markMatrix_i1_g (1 : Int)) fun v1121 =>
             (.call (laws_markFloat32S_i1_g v1121) fun v1122 =>
             (.call (laws_heldMatrix_g ([] : List Nat) (1 : Int)) fun v1139 =>
             (.br (decide (v1139 < (0 : Int))) (
              .leaf false
             ) (
              (.call (laws_heldFloat32S_g ([] : List Nat) v1139) fun v1140 =>
              (.br (decide (v1140 < (0 : Int))) (
               .leaf false
              ) (
               (.br (!decide (v1140 = v1122)) (
                .leaf false
               ) (
                (.call (laws_toMatrix_g v1 v2 v3) fun v1141 =>
                (.call (impl_MiddleFactor_g v1141.1 v1141.2.1 v1141.2.2) fun v1142 =>
                (.sum v1142 (fun v1143 =>
                 (.call (laws_eqMatrix_g (0 : Int) (0 : Int) ([] : List Nat) (0 : Int) (0 : Int) ([] : List Nat)) fun v1145 =>
                 (.br (!v1145) (
                  .leaf false
                 ) (
                  (.call (laws_eqFloat32S_g ([] : List Nat) ([] : List Nat)) fun v1146 =>
                  (.br (!v1146) (
                   .leaf false
                  ) (
                   (.br (!(false == false)) (
                    .leaf false
                   ) (
                    (.call (laws_heldMatrix_g ([] : List Nat) (1 : Int)) fun v1147 =>
                    (.br (decide (v1147 < (0 : Int))) (
                     .leaf false
                    ) (
                     (.call (laws_heldFloat32S_g ([] : List Nat) v1147) fun v1148 =>
                     (.br (decide (v1148 < (0 : Int))) (
                      .leaf false
                     ) (
                      (.br (!decide (v1148 = v1122)) (
                       .leaf false
                      ) (
                       .leaf true
                      ))
                     )))
                    )))
                   ))
                  )))
                 )))
                ) (fun v1144 =>
                 (.call (laws_eqMatrix_g v1144.1 v1144.2.1 v1144.2.2.1 (0 : Int) (0 : Int) ([] : List Nat)) fun v1149 =>
                 (.br (!v1149) (
                  .leaf false
                 ) (
                  (.call (laws_eqFloat32S_g v1144.2.2.2 ([] : List Nat)) fun v1150 =>
                  (.br (!v1150) (
                   .leaf false
                  ) (
                   (.br (!(true == false)) (
                    .leaf false
                   ) (
                    (.call (laws_heldMatrix_g ([] : List Nat) (1 : Int)) fun v1151 =>
                    (.br (decide (v1151 < (0 : Int))) (
                     .leaf false
                    ) (
                     (.call (laws_heldFloat32S_g ([] : List Nat) v1151) fun v1152 =>
                     (.br (decide (v1152 < (0 : Int))) (
                      .leaf false
                     ) (
                      (.br (!decide (v1152 = v1122)) (
                       .leaf false
                      ) (
                       .leaf true
                      ))
                     )))
                    )))
                   ))
                  )))
                 )))
                ))))
               ))
              )))
             )))))
            ))
           )))
          )))
         ))))
        ))))
       ))
      )))
     )))
    ) (fun v1064 =>
     (.call (laws_eqMatrix_g v1064.1 v1064.2.1 v1064.2.2.1 (0 : Int) (0 : Int) ([] : List Nat)) fun v1153 =>
     (.br (!v1153) (
      .leaf false
     ) (
      (.call (laws_eqFloat32S_g v1064.2.2.2 ([] : List Nat)) fun v1154 =>
      (.br (!v1154) (
       .leaf false
      ) (
       (.br (!(true == false)) (
        .leaf false
       ) (
        (.call (laws_toMatrix_g v1 v2 v3) fun v1155 =>
        (.call (laws_eqMatrix_g v555.1 v555.2.1 v555.2.2 v1155.1 v1155.2.1 v1155.2.2) fun v1156 =>
        (.br (!v1156) (
         .leaf false
        ) (
         (.call (laws_markMatrix_g v555.2.2 (1 : Int)) fun v1157 =>
         (.grd (decide (v1157.2.length = v555.2.2.length)) <|
         (.br (decide (v1157.1 < (0 : Int))) (
          .leaf false
         ) (
          (.call (laws_eqMatrix_g v1064.1 v1064.2.1 v1064.2.2.1 (0 : Int) (0 : Int) ([] : List Nat)) fun v1158 =>
          (.br (!v1158) (
           .leaf false
          ) (
           (.call (laws_eqFloat32S_g v1064.2.2.2 ([] : List Nat)) fun v1159 =>
           (.br (!v1159) (
            .leaf false
           ) (
            (.br (!(true == false)) (
             .leaf false
            ) (
             (.call (laws_markMatrix_g v1064.2.2.1 (1 : Int)) fun v1160 =>
             (.grd (decide (v1160.2.length = v1064.2.2.1.length)) <|
             (.call (laws_markFloat32S_g v1064.2.2.2 v1160.1) fun v1161 =>
             (.grd (decide (v1161.2.length = v1064.2.2.2.length)) <|
             (.call (laws_heldMatrix_g v1160.2 (1 : Int)) fun v1162 =>
             (.br (decide (v1162 < (0 : Int))) (
              .leaf false
             ) (
              (.call (laws_heldFloat32S_g v1161.2 v1162) fun v1163 =>
              (.br (decide (v1163 < (0 : Int))) (
               .leaf false
              ) (
               (.br (!decide (v1163 = v1161.1)) (
                .leaf false
               ) (
                (.call (laws_toMatrix_g v1 v2 v3) fun v1164 =>
                (.call (impl_MiddleFactor_g v1164.1 v1164.2.1 v1164.2.2) fun v1165 =>
                (.sum v1165 (fun v1166 =>
                 (.call (laws_eqMatrix_g (0 : Int) (0 : Int) ([] : List Nat) (0 : Int) (0 : Int) ([] : List Nat)) fun v1168 =>
                 (.br (!v1168) (
                  .leaf false
                 ) (
                  (.call (laws_eqFloat32S_g ([] : List Nat) ([] : List Nat)) fun v1169 =>
                  (.br (!v1169) (
                   .leaf false
                  ) (
                   (.br (!(false == false)) (
                    .leaf false
                   ) (
                    (.call (laws_heldMatrix_g v1160.2 (1 : Int)) fun v1170 =>
                    (.br (decide (v1170 < (0 : Int))) (
                     .leaf false
                    ) (
                     (.call (laws_heldFloat32S_g v1161.2 v1170) fun v1171 =>
                     (.br (decide (v1171 < (0 : Int))) (
                      .leaf false
                     ) (
                      (.br (!decide (v1171 = v1161.1)) (
                       .leaf false
                      ) (
                       .leaf true
                      ))
                     )))
                    )))
                   ))
                  )))
                 )))
                ) (fun v1167 =>
                 (.call (laws_eqMatrix_g v1167.1 v1167.2.1 v1167.2.2.1 (0 : Int) (0 : Int) ([] : List Nat)) fun v1172 =>
                 (.br (!v1172) (
                  .leaf false
                 ) (
                  (.call (laws_eqFloat32S_g v1167.2.2.2 ([] : List Nat)) fun v1173 =>
                  (.br (!v1173) (
                   .leaf false
                  ) (
                   (.br (!(true == false)) (
                    .leaf false
                   ) (
                    (.call (laws_heldMatrix_g v1160.2 (1 : Int)) fun v1174 =>
                    (.br (decide (v1174 < (0 : Int))) (
                     .leaf false
                    ) (
                     (.call (laws_heldFloat32S_g v1161.2 v1174) fun v1175 =>
                     (.br (decide (v1175 < (0 : Int))) (
                      .leaf false
                     ) (
                      (.br (!decide (v1175 = v1161.1)) (
                       .leaf false
                      ) (
                       .leaf true
                      ))
                     )))
                    )))
                   ))
                  )))
                 )))
                ))))
               ))
              )))
             )))))))
            ))
           )))
          )))
         ))))
        ))))
       ))
      )))
     )))
    ))))
   ) (fun v554 =>
    (.call (laws_toMatrix_g v1 v2 v3) fun v1176 =>
    (.call (impl_MiddleFactor_g v1176.1 v1176.2.1 v1176.2.2) fun v1177 =>
    (.sum v1177 (fun v1178 =>
     (.call (laws_eqMatrix_g (0 : Int) (0 : Int) ([] : List Nat) v554.1 v554.2.1 v554.2.2.1) fun v1180 =>
     (.br (!v1180) (
      .leaf false
     ) (
      (.call (laws_eqFloat32S_g ([] : List Nat) v554.2.2.2) fun v1181 =>
      (.br (!v1181) (
       .leaf false
      ) (
       (.br (!(false == true)) (
        .leaf false
       ) (
        (.call (laws_toMatrix_g v1 v2 v3) fun v1182 =>
        (.call (laws_eqMatrix_g v1176.1 v1176.2.1 v1176.2.2 v1182.1 v1182.2.1 v1182.2.2) fun v1183 =>
        (.br (!v1183) (
         .leaf false
        ) (
         (.call (laws_markMatrix_g v1176.2.2 (1 : Int)) fun v1184 =>
         (.grd (decide (v1184.2.length = v1176.2.2.length)) <|
         (.br (decide (v1184.1 < (0 : Int))) (
          .leaf false
         ) (
          (.call (laws_eqMatrix_g (0 : Int) (0 : Int) ([] : List Nat) v554.1 v554.2.1 v554.2.2.1) fun v1185 =>
          (.br (!v1185) (
           .leaf false
          ) (
           (.call (laws_eqFloat32S_g ([] : List Nat) v554.2.2.2) fun v1186 =>
           (.br (!v1186) (
            .leaf false
           ) (
            (.br (!(false == true)) (
             .leaf false
            ) (
             (.call (laws_markMatrix_i1_g (1 : Int)) fun v1187 =>
             (.call (laws_markFloat32S_i1_g v1187) fun v1188 =>
             (.call (laws_heldMatrix_g ([] : List Nat) (1 : Int)) fun v1189 =>
             (.br (decide (v1189 < (0 : Int))) (
              .leaf false
             ) (
              (.call (laws_heldFloat32S_g ([] : List Nat) v1189) fun v1190 =>
              (.br (decide (v1190 < (0 : Int))) (
               .leaf false
              ) (
               (.br (!decide (v1190 = v1188)) (
                .leaf false
               ) (
                (.call (laws_toMatrix_g v1 v2 v3) fun v1191 =>
                (.call (impl_MiddleFactor_g v1191.1 v1191.2.1 v1191.2.2) fun v1192 =>
                (.sum v1192 (fun v1193 =>
                 (.call (laws_eqMatrix_g (0 : Int) (0 : Int) ([] : List Nat) v554.1 v554.2.1 v554.2.2.1) fun v1195 =>
                 (.br (!v1195) (
                  .leaf false
                 ) (
                  (.call (laws_eqFloat32S_g ([] : List Nat) v554.2.2.2) fun v1196 =>
                  (.br (!v1196) (
                   .leaf false
                  ) (
                   (.br (!(false == true)) (
                    .leaf false
                   ) (
                    (.call (laws_heldMatrix_g ([] : List Nat) (1 : Int)) fun v1197 =>
                    (.br (decide (v1197 < (0 : Int))) (
                     .leaf false
                    ) (
                     (.call (laws_heldFloat32S_g ([] : List Nat) v1197) fun v1198 =>
                     (.br (decide (v1198 < (0 : Int))) (
                      .leaf false
                     ) (
                      (.br (!decide (v1198 = v1188)) (
                       .leaf false
                      ) (
                       .leaf true
                      ))
                     )))
                    )))
                   ))
                  )))
                 )))
                ) (fun v1194 =>
                 (.call (laws_eqMatrix_g v1194.1 v1194.2.1 v1194.2.2.1 v554.1 v554.2.1 v554.2.2.1) fun v1199 =>
                 (.br (!v1199) (
                  .leaf false
                 ) (
                  (.call (laws_eqFloat32S_g v1194.2.2.2 v554.2.2.2) fun v1200 =>
                  (.br (!v1200) (
                   .leaf false
                  ) (
                   (.br (!(true == true)) (
                    .leaf false
                   ) (
                    (.call (laws_heldMatrix_g ([] : List Nat) (1 : Int)) fun v1201 =>
                    (.br (decide (v1201 < (0 : Int))) (
                     .leaf false
                    ) (
                     (.call (laws_heldFloat32S_g ([] : List Nat) v1201) fun v1202 =>
                     (.br (decide (v1202 < (0 : Int))) (
                      .leaf false
                     ) (
                      (.br (!decide (v1202 = v1188)) (
                       .leaf false
                      ) (
                       .leaf true
                      ))
                     )))
                    )))
                   ))
                  )))
                 )))
                ))))
               ))
              )))
             )))))
            ))
           )))
          )))
         ))))
        ))))
       ))
      )))
     )))
    ) (fun v1179 =>
     (.call (laws_eqMatrix_g v1179.1 v1179.2.1 v1179.2.2.1 v554.1 v554.2.1 v554.2.2.1) fun v1203 =>
     (.br (!v1203) (
      .leaf false
     ) (
      (.call (laws_eqFloat32S_g v1179.2.2.2 v554.2.2.2) fun v1204 =>
      (.br (!v1204) (
       .leaf false
      ) (
       (.br (!(true == true)) (
        .leaf false
       ) (
        (.call (laws_toMatrix_g v1 v2 v3) fun v1205 =>
        (.call (laws_eqMatrix_g v1176.1 v1176.2.1 v1176.2.2 v1205.1 v1205.2.1 v1205.2.2) fun v1206 =>
        (.br (!v1206) (
         .leaf false
        ) (
         (.call (laws_markMatrix_g v1176.2.2 (1 : Int)) fun v1207 =>
         (.grd (decide (v1207.2.length = v1176.2.2.length)) <|
         (.br (decide (v1207.1 < (0 : Int))) (
          .leaf false
         ) (
          (.call (laws_eqMatrix_g v1179.1 v1179.2.1 v1179.2.2.1 v554.1 v554.2.1 v554.2.2.1) fun v1208 =>
          (.br (!v1208) (
           .leaf false
          ) (
           (.call (laws_eqFloat32S_g v1179.2.2.2 v554.2.2.2) fun v1209 =>
           (.br (!v1209) (
            .leaf false
           ) (
            (.br (!(true == true)) (
             .leaf false
            ) (
             (.call (laws_markMatrix_g v1179.2.2.1 (1 : Int)) fun v1210 =>
             (.grd (decide (v1210.2.length = v1179.2.2.1.length)) <|
             (.call (laws_markFloat32S_g v1179.2.2.2 v1210.1) fun v1211 =>
             (.grd (decide (v1211.2.length = v1179.2.2.2.length)) <|
             (.call (laws_heldMatrix_g v1210.2 (1 : Int)) fun v1212 =>
             (.br (decide (v1212 < (0 : Int))) (
              .leaf false
             ) (
              (.call (laws_heldFloat32S_g v1211.2 v1212) fun v1213 =>
              (.br (decide (v1213 < (0 : Int))) (
               .leaf false
              ) (
               (.br (!decide (v1213 = v1211.1)) (
                .leaf false
               ) (
                (.call (laws_toMatrix_g v1 v2 v3) fun v1214 =>
                (.call (impl_MiddleFactor_g v1214.1 v1214.2.1 v1214.2.2) fun v1215 =>
                (.sum v1215 (fun v1216 =>
                 (.call (laws_eqMatrix_g (0 : Int) (0 : Int) ([] : List Nat) v554.1 v554.2.1 v554.2.2.1) fun v1218 =>
                 (.br (!v1218) (
                  .leaf false
                 ) (
                  (.call (laws_eqFloat32S_g ([] : List Nat) v554.2.2.2) fun v1219 =>
                  (.br (!v1219) (
                   .leaf false
                  ) (
                   (.br (!(false == true)) (
                    .leaf false
                   ) (
                    (.call (laws_heldMatrix_g v1210.2 (1 : Int)) fun v1220 =>
                    (.br (decide (v1220 < (0 : Int))) (
                     .leaf false
                    ) (
                     (.call (laws_heldFloat32S_g v1211.2 v1220) fun v1221 =>
                     (.br (decide (v1221 < (0 : Int))) (
                      .leaf false
                     ) (
                      (.br (!decide (v1221 = v1211.1)) (
                       .leaf false
                      ) (
                       .leaf true
                      ))
                     )))
                    )))
                   ))
                  )))
                 )))
                ) (fun v1217 =>
                 (.call (laws_eqMatrix_g v1217.1 v1217.2.1 v1217.2.2.1 v554.1 v554.2.1 v554.2.2.1) fun v1222 =>
                 (.br (!v1222) (
                  .leaf false
                 ) (
                  (.call (laws_eqFloat32S_g v1217.2.2.2 v554.2.2.2) fun v1223 =>
                  (.br (!v1223) (
                   .leaf false
                  ) (
                   (.br (!(true == true)) (
                    .leaf false
                   ) (
                    (.call (laws_heldMatrix_g v1210.2 (1 : Int)) fun v1224 =>
                    (.br (decide (v1224 < (0 : Int))) (
                     .leaf false
                    ) (
                     (.call (laws_heldFloat32S_g v1211.2 v1224) fun v1225 =>
                     (.br (decide (v1225 < (0 : Int))) (
                      .leaf false
                     ) (
                      (.br (!decide (v1225 = v1211.1)) (
                       .leaf false
                      ) (
                       .leaf true
                      ))
                     )))
                    )))
                   ))
                  )))
                 )))
                ))))
               ))
              )))
             )))))))
            ))
           )))
          )))
         ))))
        ))))
       ))
      )))
     )))
    ))))
   ))))
  ))

noncomputable def laws_FnExactMiddleFactor_g (v1 : Int) (v2 : Int) (v3 : List Nat) : Option (Bool) := (laws_FnExactMiddleFactor_T v1 v2 v3).run
def laws_FnExactMiddleFactor_enc (v1 : Int) (v2 : Int) (v3 : List Nat) (y : Bool) : Rs := (.bool y, [])
theorem laws_FnExactMiddleFactor_den (v1 : Int) (v2 : Int) (v3 : List Nat) : (den TT (tabD laws_FnExactMiddleFactor_tab) (tabM laws_FnExactMiddleFactor_tab) (laws_FnExactMiddleFactor_LO v1 v2 v3) (codeOf Try.f3) ([.agg [.int .i64 v1, .int .i64 v2, .bslc (BR.root 0) (.f32 v3)]] ++ List.replicate (Try.f3.ntmps - ([.agg [.int .i64 v1, .int .i64 v2, .bslc (BR.root 0) (.f32 v3)]] : List DV).length) .undef) []).bind (retD TT Try.f3.results.toList 0) = (laws_FnExactMiddleFactor_T v1 v2 v3).bind fun y => .leaf (laws_FnExactMiddleFactor_enc v1 v2 v3 y) := by kernel_rfl
theorem laws_FnExactMiddleFactor_fn (v1 : Int) (v2 : Int) (v3 : List Nat) (F : Fr) (hm : F.ids.length = 0) (h0 : St F [] F.H0) (hA : DVs.Ok F [] [.agg [.int .i64 v1, .int .i64 v2, .bslc (BR.root 0) (.f32 v3)]]) {y : Bool} (hy : laws_FnExactMiddleFactor_g v1 v2 v3 = some y) : ∃ H', FnOk Try.prog 3 (DVs.av F [.agg [.int .i64 v1, .int .i64 v2, .bslc (BR.root 0) (.f32 v3)]]) F.H0 ((laws_FnExactMiddleFactor_enc v1 v2 v3 y).1.av F) H' ∧ St F (laws_FnExactMiddleFactor_enc v1 v2 v3 y).2 H' ∧ (laws_FnExactMiddleFactor_enc v1 v2 v3 y).1.Ok F (laws_FnExactMiddleFactor_enc v1 v2 v3 y).2 :=
  fn_fin tok laws_FnExactMiddleFactor_hO mixed Try.func3 Try.call3 (by kernel_rfl) (LoopsOk_eq (l := []) (by kernel_rfl) trivial) (laws_FnExactMiddleFactor_den v1 v2 v3) hy hm h0 hA
noncomputable def laws_FnExactMiddleFactor_F : DFn := fun args L =>
  match args with
  | [.agg [.int .i64 v1, .int .i64 v2, a1]] =>
    optT (rowF32 L a1) fun v3 =>
    .call (laws_FnExactMiddleFactor_g v1 v2 v3) fun y => .leaf (.bool y, L)
  | _ => .fail
theorem laws_FnExactMiddleFactor_Fok : COk Try.prog 3 laws_FnExactMiddleFactor_F true := by
  intro F L H args r L' hs ha hr
  unfold laws_FnExactMiddleFactor_F at hr
  split at hr
  · rename_i v1 v2 a1
    obtain ⟨v3, hv3, hr⟩ := optT_run hr
    simp only [Tree.run] at hr
    obtain ⟨y, hy, hr⟩ := Option.bind_eq_some_iff.1 hr
    simp only [Tree.run, Option.some.injEq, Prod.mk.injEq] at hr
    obtain ⟨rfl, rfl⟩ := hr
    exact call_ok0 hs (fun k => (([a1.av F] : List AV)[k]?).getD .top) [.agg [.int .i64 v1, .int .i64 v2, a1]] [.agg [.int .i64 v1, .int .i64 v2, .bslc (BR.root 0) (.f32 v3)]] (fun F' h0 hi hρ => ⟨by simp [DVs.av, DV.av, BR.av, hρ], laws_FnExactMiddleFactor_fn v1 v2 v3 F' (by rw [hi]; rfl) (st_nil hi) ⟨⟨trivial, trivial, bslc_ok hi (by rw [h0, hρ]; exact rowF32_ok hs (DVs.okAt (DVs.okAt ha 0 rfl) 2 rfl) hv3), trivial⟩, trivial⟩ hy⟩) rfl
  · cases hr
/-! laws.szFloat32S -/
noncomputable def laws_szFloat32S_len_LO (v1233 : Nat) (v1234 : Int) : LOr := fun id e L =>
  match id with
  | _ => .fail
noncomputable def laws_szFloat32S_len_tab : List (FuncId × DFn × Bool) := []
theorem laws_szFloat32S_len_hO : OrcOk Try.prog (tabD laws_szFloat32S_len_tab) (tabM laws_szFloat32S_len_tab) := tabD_nil _
noncomputable def laws_szFloat32S_len_T (v1233 : Nat) (v1234 : Int) : Tree (Int) :=
  (.br (decide (IntKind.i64.wrap (v1234 - ((v1233 : Nat) : Int)) < (0 : Int))) (
   .leaf (-1 : Int)
  ) (
   .leaf (IntKind.i64.wrap (v1234 - ((v1233 : Nat) : Int)))
  ))

noncomputable def laws_szFloat32S_len_g (v1233 : Nat) (v1234 : Int) : Option (Int) := (laws_szFloat32S_len_T v1233 v1234).run
def laws_szFloat32S_len_enc (v1233 : Nat) (v1234 : Int) (y : Int) : Rs := (.int .i64 y, [])
theorem laws_szFloat32S_len_den (v1233 : Nat) (v1234 : Int) : (den TT (tabD laws_szFloat32S_len_tab) (tabM laws_szFloat32S_len_tab) (laws_szFloat32S_len_LO v1233 v1234) (codeOf Try.f56) ([.hslc (BR.root 0) v1233, .int .i64 v1234] ++ List.replicate (Try.f56.ntmps - ([.hslc (BR.root 0) v1233, .int .i64 v1234] : List DV).length) .undef) []).bind (retD TT Try.f56.results.toList 0) = (laws_szFloat32S_len_T v1233 v1234).bind fun y => .leaf (laws_szFloat32S_len_enc v1233 v1234 y) := by kernel_rfl
theorem laws_szFloat32S_len_fn (v1233 : Nat) (v1234 : Int) (F : Fr) (hm : F.ids.length = 0) (h0 : St F [] F.H0) (hA : DVs.Ok F [] [.hslc (BR.root 0) v1233, .int .i64 v1234]) {y : Int} (hy : laws_szFloat32S_len_g v1233 v1234 = some y) : ∃ H', FnOk Try.prog 56 (DVs.av F [.hslc (BR.root 0) v1233, .int .i64 v1234]) F.H0 ((laws_szFloat32S_len_enc v1233 v1234 y).1.av F) H' ∧ St F (laws_szFloat32S_len_enc v1233 v1234 y).2 H' ∧ (laws_szFloat32S_len_enc v1233 v1234 y).1.Ok F (laws_szFloat32S_len_enc v1233 v1234 y).2 :=
  fn_fin tok laws_szFloat32S_len_hO mixed Try.func56 Try.call56 (by kernel_rfl) (LoopsOk_eq (l := []) (by kernel_rfl) trivial) (laws_szFloat32S_len_den v1233 v1234) hy hm h0 hA
def laws_szFloat32S_len_v (v1233 : Nat) (v1234 : Int) : Int :=
  if (decide (IntKind.i64.wrap (v1234 - ((v1233 : Nat) : Int)) < (0 : Int))) = true then (
   (-1 : Int)
  ) else (
   IntKind.i64.wrap (v1234 - ((v1233 : Nat) : Int))
  )
theorem laws_szFloat32S_len_tot (v1233 : Nat) (v1234 : Int) : laws_szFloat32S_len_g v1233 v1234 = some (laws_szFloat32S_len_v v1233 v1234) := by
  unfold laws_szFloat32S_len_g laws_szFloat32S_len_T laws_szFloat32S_len_v
  simp only [Tree.run]
  repeat' (first | rfl | split)
noncomputable def laws_szFloat32S_len_F : DFn := fun args L =>
  match args with
  | [a1, .int .i64 v1234] =>
    optT (lenV L a1) fun v1233 =>
    .leaf (.int .i64 (laws_szFloat32S_len_v v1233 v1234), L)
  | _ => .fail
theorem laws_szFloat32S_len_Fok : COk Try.prog 56 laws_szFloat32S_len_F true := by
  intro F L H args r L' hs ha hr
  unfold laws_szFloat32S_len_F at hr
  split at hr
  · rename_i a1 v1234
    obtain ⟨v1233, hv1233, hr⟩ := optT_run hr
    have hy := laws_szFloat32S_len_tot v1233 v1234
    generalize laws_szFloat32S_len_v v1233 v1234 = y at hy hr
    simp only [Tree.run, Option.some.injEq, Prod.mk.injEq] at hr
    obtain ⟨rfl, rfl⟩ := hr
    exact call_ok0 hs (fun k => (([a1.av F] : List AV)[k]?).getD .top) [a1, .int .i64 v1234] [.hslc (BR.root 0) v1233, .int .i64 v1234] (fun F' h0 hi hρ => ⟨by simp [DVs.av, DV.av, BR.av, hρ], laws_szFloat32S_len_fn v1233 v1234 F' (by rw [hi]; rfl) (st_nil hi) ⟨hslc_ok hi (by rw [h0, hρ]; exact lenV_ok hs (DVs.okAt ha 0 rfl) hv1233), trivial, trivial⟩ hy⟩) rfl
  · cases hr
/-! laws.szMatrix -/
noncomputable def laws_szMatrix_len_LO (v1229 : Int) (v1230 : Int) (v1231 : Nat) (v1232 : Int) : LOr := fun id e L =>
  match id with
  | _ => .fail
noncomputable def laws_szMatrix_len_tab : List (FuncId × DFn × Bool) := [(56, laws_szFloat32S_len_F, true)]
theorem laws_szMatrix_len_hO : OrcOk Try.prog (tabD laws_szMatrix_len_tab) (tabM laws_szMatrix_len_tab) := tabD_cons laws_szFloat32S_len_Fok (tabD_nil _)
noncomputable def laws_szMatrix_len_T (v1231 : Nat) (v1232 : Int) : Tree (Int) :=
  (.br (decide ((laws_szFloat32S_len_v v1231 v1232) < (0 : Int))) (
   .leaf (-1 : Int)
  ) (
   .leaf (laws_szFloat32S_len_v v1231 v1232)
  ))

noncomputable def laws_szMatrix_len_g (v1231 : Nat) (v1232 : Int) : Option (Int) := (laws_szMatrix_len_T v1231 v1232).run
def laws_szMatrix_len_enc (v1229 : Int) (v1230 : Int) (v1231 : Nat) (v1232 : Int) (y : Int) : Rs := (.int .i64 y, [])
theorem laws_szMatrix_len_den (v1229 : Int) (v1230 : Int) (v1231 : Nat) (v1232 : Int) : (den TT (tabD laws_szMatrix_len_tab) (tabM laws_szMatrix_len_tab) (laws_szMatrix_len_LO v1229 v1230 v1231 v1232) (codeOf Try.f15) ([.agg [.int .i64 v1229, .int .i64 v1230, .hslc (BR.root 0) v1231], .int .i64 v1232] ++ List.replicate (Try.f15.ntmps - ([.agg [.int .i64 v1229, .int .i64 v1230, .hslc (BR.root 0) v1231], .int .i64 v1232] : List DV).length) .undef) []).bind (retD TT Try.f15.results.toList 0) = (laws_szMatrix_len_T v1231 v1232).bind fun y => .leaf (laws_szMatrix_len_enc v1229 v1230 v1231 v1232 y) := by kernel_rfl
theorem laws_szMatrix_len_fn (v1229 : Int) (v1230 : Int) (v1231 : Nat) (v1232 : Int) (F : Fr) (hm : F.ids.length = 0) (h0 : St F [] F.H0) (hA : DVs.Ok F [] [.agg [.int .i64 v1229, .int .i64 v1230, .hslc (BR.root 0) v1231], .int .i64 v1232]) {y : Int} (hy : laws_szMatrix_len_g v1231 v1232 = some y) : ∃ H', FnOk Try.prog 15 (DVs.av F [.agg [.int .i64 v1229, .int .i64 v1230, .hslc (BR.root 0) v1231], .int .i64 v1232]) F.H0 ((laws_szMatrix_len_enc v1229 v1230 v1231 v1232 y).1.av F) H' ∧ St F (laws_szMatrix_len_enc v1229 v1230 v1231 v1232 y).2 H' ∧ (laws_szMatrix_len_enc v1229 v1230 v1231 v1232 y).1.Ok F (laws_szMatrix_len_enc v1229 v1230 v1231 v1232 y).2 :=
  fn_fin tok laws_szMatrix_len_hO mixed Try.func15 Try.call15 (by kernel_rfl) (LoopsOk_eq (l := []) (by kernel_rfl) trivial) (laws_szMatrix_len_den v1229 v1230 v1231 v1232) hy hm h0 hA
def laws_szMatrix_len_v (v1231 : Nat) (v1232 : Int) : Int :=
  if (decide ((laws_szFloat32S_len_v v1231 v1232) < (0 : Int))) = true then (
   (-1 : Int)
  ) else (
   (laws_szFloat32S_len_v v1231 v1232)
  )
theorem laws_szMatrix_len_tot (v1231 : Nat) (v1232 : Int) : laws_szMatrix_len_g v1231 v1232 = some (laws_szMatrix_len_v v1231 v1232) := by
  unfold laws_szMatrix_len_g laws_szMatrix_len_T laws_szMatrix_len_v
  simp only [Tree.run]
  repeat' (first | rfl | split)
noncomputable def laws_szMatrix_len_F : DFn := fun args L =>
  match args with
  | [.agg [.int .i64 v1229, .int .i64 v1230, a1], .int .i64 v1232] =>
    optT (lenV L a1) fun v1231 =>
    .leaf (.int .i64 (laws_szMatrix_len_v v1231 v1232), L)
  | _ => .fail
theorem laws_szMatrix_len_Fok : COk Try.prog 15 laws_szMatrix_len_F true := by
  intro F L H args r L' hs ha hr
  unfold laws_szMatrix_len_F at hr
  split at hr
  · rename_i v1229 v1230 a1 v1232
    obtain ⟨v1231, hv1231, hr⟩ := optT_run hr
    have hy := laws_szMatrix_len_tot v1231 v1232
    generalize laws_szMatrix_len_v v1231 v1232 = y at hy hr
    simp only [Tree.run, Option.some.injEq, Prod.mk.injEq] at hr
    obtain ⟨rfl, rfl⟩ := hr
    exact call_ok0 hs (fun k => (([a1.av F] : List AV)[k]?).getD .top) [.agg [.int .i64 v1229, .int .i64 v1230, a1], .int .i64 v1232] [.agg [.int .i64 v1229, .int .i64 v1230, .hslc (BR.root 0) v1231], .int .i64 v1232] (fun F' h0 hi hρ => ⟨by simp [DVs.av, DV.av, BR.av, hρ], laws_szMatrix_len_fn v1229 v1230 v1231 v1232 F' (by rw [hi]; rfl) (st_nil hi) ⟨⟨trivial, trivial, hslc_ok hi (by rw [h0, hρ]; exact lenV_ok hs (DVs.okAt (DVs.okAt ha 0 rfl) 2 rfl) hv1231), trivial⟩, trivial, trivial⟩ hy⟩) rfl
  · cases hr
/-! laws.FnExactMiddleFactor -/
noncomputable def laws_FnExactMiddleFactor_len_LO (v1226 : Int) (v1227 : Int) (v1228 : Nat) : LOr := fun id e L =>
  match id with
  | _ => .fail
noncomputable def laws_FnExactMiddleFactor_len_tab : List (FuncId × DFn × Bool) := [(15, laws_szMatrix_len_F, true)]
theorem laws_FnExactMiddleFactor_len_hO : OrcOk Try.prog (tabD laws_FnExactMiddleFactor_len_tab) (tabM laws_FnExactMiddleFactor_len_tab) := tabD_cons laws_szMatrix_len_Fok (tabD_nil _)
noncomputable def laws_FnExactMiddleFactor_len_T (v1228 : Nat) : Tree (Bool) :=
  (.br (decide ((laws_szMatrix_len_v v1228 (1048576 : Int)) < (0 : Int))) (
   .leaf true
  ) (
   .fail
  ))

noncomputable def laws_FnExactMiddleFactor_len_g (v1228 : Nat) : Option (Bool) := (laws_FnExactMiddleFactor_len_T v1228).run
def laws_FnExactMiddleFactor_len_enc (v1226 : Int) (v1227 : Int) (v1228 : Nat) (y : Bool) : Rs := (.bool y, [])
theorem laws_FnExactMiddleFactor_len_den (v1226 : Int) (v1227 : Int) (v1228 : Nat) : (den TT (tabD laws_FnExactMiddleFactor_len_tab) (tabM laws_FnExactMiddleFactor_len_tab) (laws_FnExactMiddleFactor_len_LO v1226 v1227 v1228) (codeOf Try.f3) ([.agg [.int .i64 v1226, .int .i64 v1227, .hslc (BR.root 0) v1228]] ++ List.replicate (Try.f3.ntmps - ([.agg [.int .i64 v1226, .int .i64 v1227, .hslc (BR.root 0) v1228]] : List DV).length) .undef) []).bind (retD TT Try.f3.results.toList 0) = (laws_FnExactMiddleFactor_len_T v1228).bind fun y => .leaf (laws_FnExactMiddleFactor_len_enc v1226 v1227 v1228 y) := by kernel_rfl
theorem laws_FnExactMiddleFactor_len_fn (v1226 : Int) (v1227 : Int) (v1228 : Nat) (F : Fr) (hm : F.ids.length = 0) (h0 : St F [] F.H0) (hA : DVs.Ok F [] [.agg [.int .i64 v1226, .int .i64 v1227, .hslc (BR.root 0) v1228]]) {y : Bool} (hy : laws_FnExactMiddleFactor_len_g v1228 = some y) : ∃ H', FnOk Try.prog 3 (DVs.av F [.agg [.int .i64 v1226, .int .i64 v1227, .hslc (BR.root 0) v1228]]) F.H0 ((laws_FnExactMiddleFactor_len_enc v1226 v1227 v1228 y).1.av F) H' ∧ St F (laws_FnExactMiddleFactor_len_enc v1226 v1227 v1228 y).2 H' ∧ (laws_FnExactMiddleFactor_len_enc v1226 v1227 v1228 y).1.Ok F (laws_FnExactMiddleFactor_len_enc v1226 v1227 v1228 y).2 :=
  fn_fin tok laws_FnExactMiddleFactor_len_hO mixed Try.func3 Try.call3 (by kernel_rfl) (LoopsOk_eq (l := []) (by kernel_rfl) trivial) (laws_FnExactMiddleFactor_len_den v1226 v1227 v1228) hy hm h0 hA
noncomputable def laws_FnExactMiddleFactor_len_F : DFn := fun args L =>
  match args with
  | [.agg [.int .i64 v1226, .int .i64 v1227, a1]] =>
    optT (lenV L a1) fun v1228 =>
    .call (laws_FnExactMiddleFactor_len_g v1228) fun y => .leaf (.bool y, L)
  | _ => .fail
theorem laws_FnExactMiddleFactor_len_Fok : COk Try.prog 3 laws_FnExactMiddleFactor_len_F true := by
  intro F L H args r L' hs ha hr
  unfold laws_FnExactMiddleFactor_len_F at hr
  split at hr
  · rename_i v1226 v1227 a1
    obtain ⟨v1228, hv1228, hr⟩ := optT_run hr
    simp only [Tree.run] at hr
    obtain ⟨y, hy, hr⟩ := Option.bind_eq_some_iff.1 hr
    simp only [Tree.run, Option.some.injEq, Prod.mk.injEq] at hr
    obtain ⟨rfl, rfl⟩ := hr
    exact call_ok0 hs (fun k => (([a1.av F] : List AV)[k]?).getD .top) [.agg [.int .i64 v1226, .int .i64 v1227, a1]] [.agg [.int .i64 v1226, .int .i64 v1227, .hslc (BR.root 0) v1228]] (fun F' h0 hi hρ => ⟨by simp [DVs.av, DV.av, BR.av, hρ], laws_FnExactMiddleFactor_len_fn v1226 v1227 v1228 F' (by rw [hi]; rfl) (st_nil hi) ⟨⟨trivial, trivial, hslc_ok hi (by rw [h0, hρ]; exact lenV_ok hs (DVs.okAt (DVs.okAt ha 0 rfl) 2 rfl) hv1228), trivial⟩, trivial⟩ hy⟩) rfl
  · cases hr
end Go.Proofs.Ytooakheodgndaaa.AM
