/- Functions: what they come to. -/
import Derived.Test.YtooakheodgndaaaBase
set_option maxRecDepth 100000
set_option maxHeartbeats 4000000
set_option linter.unusedSimpArgs false
set_option linter.unusedVariables false
namespace Go.Proofs.Ytooakheodgndaaa.AM
open Go.Proofs
/-! laws.szFloat32S -/
noncomputable def laws_szFloat32S_LO (v8 : List Nat) (v9 : Int) : LOr := fun id e L =>
  match id with
  | _ => .fail
noncomputable def laws_szFloat32S_tab : List (FuncId × DFn × Bool) := []
theorem laws_szFloat32S_hO : OrcOk Try.prog (tabD laws_szFloat32S_tab) (tabM laws_szFloat32S_tab) := tabD_nil _
noncomputable def laws_szFloat32S_T (v8 : List Nat) (v9 : Int) : Tree (Int) :=
  (.br (decide (IntKind.i64.wrap (v9 - ((v8.length : Nat) : Int)) < (0 : Int))) (
   .leaf (-1 : Int)
  ) (
   .leaf (IntKind.i64.wrap (v9 - ((v8.length : Nat) : Int)))
  ))

noncomputable def laws_szFloat32S_g (v8 : List Nat) (v9 : Int) : Option (Int) := (laws_szFloat32S_T v8 v9).run
def laws_szFloat32S_enc (v8 : List Nat) (v9 : Int) (y : Int) : Rs := (.int .i64 y, [])
theorem laws_szFloat32S_den (v8 : List Nat) (v9 : Int) : (den TT (tabD laws_szFloat32S_tab) (tabM laws_szFloat32S_tab) (laws_szFloat32S_LO v8 v9) (codeOf Try.f56) ([.bslc (BR.root 0) (.f32 v8), .int .i64 v9] ++ List.replicate (Try.f56.ntmps - ([.bslc (BR.root 0) (.f32 v8), .int .i64 v9] : List DV).length) .undef) []).bind (retD TT Try.f56.results.toList 0) = (laws_szFloat32S_T v8 v9).bind fun y => .leaf (laws_szFloat32S_enc v8 v9 y) := by kernel_rfl
theorem laws_szFloat32S_fn (v8 : List Nat) (v9 : Int) (F : Fr) (hm : F.ids.length = 0) (h0 : St F [] F.H0) (hA : DVs.Ok F [] [.bslc (BR.root 0) (.f32 v8), .int .i64 v9]) {y : Int} (hy : laws_szFloat32S_g v8 v9 = some y) : ∃ H', FnOk Try.prog 56 (DVs.av F [.bslc (BR.root 0) (.f32 v8), .int .i64 v9]) F.H0 ((laws_szFloat32S_enc v8 v9 y).1.av F) H' ∧ St F (laws_szFloat32S_enc v8 v9 y).2 H' ∧ (laws_szFloat32S_enc v8 v9 y).1.Ok F (laws_szFloat32S_enc v8 v9 y).2 :=
  fn_fin tok laws_szFloat32S_hO mixed Try.func56 Try.call56 (by kernel_rfl) (LoopsOk_eq (l := []) (by kernel_rfl) trivial) (laws_szFloat32S_den v8 v9) hy hm h0 hA
def laws_szFloat32S_v (v8 : List Nat) (v9 : Int) : Int :=
  if (decide (IntKind.i64.wrap (v9 - ((v8.length : Nat) : Int)) < (0 : Int))) = true then (
   (-1 : Int)
  ) else (
   IntKind.i64.wrap (v9 - ((v8.length : Nat) : Int))
  )
theorem laws_szFloat32S_tot (v8 : List Nat) (v9 : Int) : laws_szFloat32S_g v8 v9 = some (laws_szFloat32S_v v8 v9) := by
  unfold laws_szFloat32S_g laws_szFloat32S_T laws_szFloat32S_v
  simp only [Tree.run]
  repeat' (first | rfl | split)
noncomputable def laws_szFloat32S_F : DFn := fun args L =>
  match args with
  | [a1, .int .i64 v9] =>
    optT (rowF32 L a1) fun v8 =>
    .leaf (.int .i64 (laws_szFloat32S_v v8 v9), L)
  | _ => .fail
theorem laws_szFloat32S_Fok : COk Try.prog 56 laws_szFloat32S_F true := by
  intro F L H args r L' hs ha hr
  unfold laws_szFloat32S_F at hr
  split at hr
  · rename_i a1 v9
    obtain ⟨v8, hv8, hr⟩ := optT_run hr
    have hy := laws_szFloat32S_tot v8 v9
    generalize laws_szFloat32S_v v8 v9 = y at hy hr
    simp only [Tree.run, Option.some.injEq, Prod.mk.injEq] at hr
    obtain ⟨rfl, rfl⟩ := hr
    exact call_ok0 hs (fun k => (([a1.av F] : List AV)[k]?).getD .top) [a1, .int .i64 v9] [.bslc (BR.root 0) (.f32 v8), .int .i64 v9] (fun F' h0 hi hρ => ⟨by simp [DVs.av, DV.av, BR.av, hρ], laws_szFloat32S_fn v8 v9 F' (by rw [hi]; rfl) (st_nil hi) ⟨bslc_ok hi (by rw [h0, hρ]; exact rowF32_ok hs (DVs.okAt ha 0 rfl) hv8), trivial, trivial⟩ hy⟩) rfl
  · cases hr
/-! laws.szMatrix -/
noncomputable def laws_szMatrix_LO (v4 : Int) (v5 : Int) (v6 : List Nat) (v7 : Int) : LOr := fun id e L =>
  match id with
  | _ => .fail
noncomputable def laws_szMatrix_tab : List (FuncId × DFn × Bool) := [(56, laws_szFloat32S_F, true)]
theorem laws_szMatrix_hO : OrcOk Try.prog (tabD laws_szMatrix_tab) (tabM laws_szMatrix_tab) := tabD_cons laws_szFloat32S_Fok (tabD_nil _)
noncomputable def laws_szMatrix_T (v6 : List Nat) (v7 : Int) : Tree (Int) :=
  (.br (decide ((laws_szFloat32S_v v6 v7) < (0 : Int))) (
   .leaf (-1 : Int)
  ) (
   .leaf (laws_szFloat32S_v v6 v7)
  ))

noncomputable def laws_szMatrix_g (v6 : List Nat) (v7 : Int) : Option (Int) := (laws_szMatrix_T v6 v7).run
def laws_szMatrix_enc (v4 : Int) (v5 : Int) (v6 : List Nat) (v7 : Int) (y : Int) : Rs := (.int .i64 y, [])
theorem laws_szMatrix_den (v4 : Int) (v5 : Int) (v6 : List Nat) (v7 : Int) : (den TT (tabD laws_szMatrix_tab) (tabM laws_szMatrix_tab) (laws_szMatrix_LO v4 v5 v6 v7) (codeOf Try.f15) ([.agg [.int .i64 v4, .int .i64 v5, .bslc (BR.root 0) (.f32 v6)], .int .i64 v7] ++ List.replicate (Try.f15.ntmps - ([.agg [.int .i64 v4, .int .i64 v5, .bslc (BR.root 0) (.f32 v6)], .int .i64 v7] : List DV).length) .undef) []).bind (retD TT Try.f15.results.toList 0) = (laws_szMatrix_T v6 v7).bind fun y => .leaf (laws_szMatrix_enc v4 v5 v6 v7 y) := by kernel_rfl
theorem laws_szMatrix_fn (v4 : Int) (v5 : Int) (v6 : List Nat) (v7 : Int) (F : Fr) (hm : F.ids.length = 0) (h0 : St F [] F.H0) (hA : DVs.Ok F [] [.agg [.int .i64 v4, .int .i64 v5, .bslc (BR.root 0) (.f32 v6)], .int .i64 v7]) {y : Int} (hy : laws_szMatrix_g v6 v7 = some y) : ∃ H', FnOk Try.prog 15 (DVs.av F [.agg [.int .i64 v4, .int .i64 v5, .bslc (BR.root 0) (.f32 v6)], .int .i64 v7]) F.H0 ((laws_szMatrix_enc v4 v5 v6 v7 y).1.av F) H' ∧ St F (laws_szMatrix_enc v4 v5 v6 v7 y).2 H' ∧ (laws_szMatrix_enc v4 v5 v6 v7 y).1.Ok F (laws_szMatrix_enc v4 v5 v6 v7 y).2 :=
  fn_fin tok laws_szMatrix_hO mixed Try.func15 Try.call15 (by kernel_rfl) (LoopsOk_eq (l := []) (by kernel_rfl) trivial) (laws_szMatrix_den v4 v5 v6 v7) hy hm h0 hA
def laws_szMatrix_v (v6 : List Nat) (v7 : Int) : Int :=
  if (decide ((laws_szFloat32S_v v6 v7) < (0 : Int))) = true then (
   (-1 : Int)
  ) else (
   (laws_szFloat32S_v v6 v7)
  )
theorem laws_szMatrix_tot (v6 : List Nat) (v7 : Int) : laws_szMatrix_g v6 v7 = some (laws_szMatrix_v v6 v7) := by
  unfold laws_szMatrix_g laws_szMatrix_T laws_szMatrix_v
  simp only [Tree.run]
  repeat' (first | rfl | split)
noncomputable def laws_szMatrix_F : DFn := fun args L =>
  match args with
  | [.agg [.int .i64 v4, .int .i64 v5, a1], .int .i64 v7] =>
    optT (rowF32 L a1) fun v6 =>
    .leaf (.int .i64 (laws_szMatrix_v v6 v7), L)
  | _ => .fail
theorem laws_szMatrix_Fok : COk Try.prog 15 laws_szMatrix_F true := by
  intro F L H args r L' hs ha hr
  unfold laws_szMatrix_F at hr
  split at hr
  · rename_i v4 v5 a1 v7
    obtain ⟨v6, hv6, hr⟩ := optT_run hr
    have hy := laws_szMatrix_tot v6 v7
    generalize laws_szMatrix_v v6 v7 = y at hy hr
    simp only [Tree.run, Option.some.injEq, Prod.mk.injEq] at hr
    obtain ⟨rfl, rfl⟩ := hr
    exact call_ok0 hs (fun k => (([a1.av F] : List AV)[k]?).getD .top) [.agg [.int .i64 v4, .int .i64 v5, a1], .int .i64 v7] [.agg [.int .i64 v4, .int .i64 v5, .bslc (BR.root 0) (.f32 v6)], .int .i64 v7] (fun F' h0 hi hρ => ⟨by simp [DVs.av, DV.av, BR.av, hρ], laws_szMatrix_fn v4 v5 v6 v7 F' (by rw [hi]; rfl) (st_nil hi) ⟨⟨trivial, trivial, bslc_ok hi (by rw [h0, hρ]; exact rowF32_ok hs (DVs.okAt (DVs.okAt ha 0 rfl) 2 rfl) hv6), trivial⟩, trivial, trivial⟩ hy⟩) rfl
  · cases hr
/-! laws.toFloat32S -/
noncomputable def laws_toFloat32S_l0_T (v13 : List Nat) (s : Int × (List Nat)) : Tree ((Int × (List Nat)) ⊕ ((List Nat))) :=
  (.br (decide (s.1 < ((v13.length : Nat) : Int))) (
   (.grd (inb s.1 v13.length) <|
   (.grd (inb s.1 ((s.2).length)) <|
   .leaf (.inl (IntKind.i64.wrap (s.1 + (1 : Int)), List.set s.2 (Int.toNat s.1) (nth v13 (Int.toNat s.1))))))
  ) (
   .leaf (.inr s.2)
  ))

noncomputable def laws_toFloat32S_l0_g (v13 : List Nat) (s0 : Int × (List Nat)) : Option ((List Nat)) := whileM (fun s => (laws_toFloat32S_l0_T v13 s).run) s0
def laws_toFloat32S_l0_E (v13 : List Nat) (s : Int × (List Nat)) : Sd := ([.bslc (BR.root 0) (.f32 v13), .top, .top, .own 0 0 ((s.2).length), .int .i64 s.1, .top, .top, .top, .top, .top, .top, .top, .top, .top, .top, .top, .top, .top, .top, .top, .top, .top], [.row (.f32 s.2) 0])
def laws_toFloat32S_l0_X (v13 : List Nat) (x : (List Nat)) : Out := (.normal, [.top, .top, .top, .own 0 0 ((x).length), .top, .top, .top, .top, .top, .top, .top, .top, .top, .top, .top, .top, .top, .top, .top, .top, .top, .top], [.row (.f32 x) 0])
def laws_toFloat32S_l0_kill : List Nat := [0, 1, 1, 0, 0, 1, 1, 1, 1, 1, 1, 1, 1, 1, 1, 1, 1, 1, 1, 1, 1, 1]
def laws_toFloat32S_l0_nx : Exit → List Nat
  | .exit 0 => [1, 1, 1, 0, 1, 1, 1, 1, 1, 1, 1, 1, 1, 1, 1, 1, 1, 1, 1, 1, 1, 1]
  | .ret => [1, 1, 0, 1, 1, 1, 1, 1, 1, 1, 1, 1, 1, 1, 1, 1, 1, 1, 1, 1, 1, 1]
  | _ => []
noncomputable def laws_toFloat32S_LO (v13 : List Nat) : LOr := fun id e L =>
  match id with
  | 0 => .need (normA 0 laws_toFloat32S_l0_kill e L = some (laws_toFloat32S_l0_E v13 ((gI (vAt e 4)), (gRF L (vAt e 3))))) (.call (laws_toFloat32S_l0_g v13 ((gI (vAt e 4)), (gRF L (vAt e 3)))) fun x => .leaf (laws_toFloat32S_l0_X v13 x))
  | _ => .fail
noncomputable def laws_toFloat32S_tab : List (FuncId × DFn × Bool) := []
theorem laws_toFloat32S_hO : OrcOk Try.prog (tabD laws_toFloat32S_tab) (tabM laws_toFloat32S_tab) := tabD_nil _
theorem laws_toFloat32S_l0_be (v13 : List Nat) (s : Int × (List Nat)) : bodyT TT (tabD laws_toFloat32S_tab) (tabM laws_toFloat32S_tab) (laws_toFloat32S_LO v13) 0 laws_toFloat32S_l0_kill laws_toFloat32S_l0_nx (bodyOf Try.f33 0) 0 (laws_toFloat32S_l0_E v13 s) = (laws_toFloat32S_l0_T v13 s).bind fun y => .leaf (outS (laws_toFloat32S_l0_E v13) (laws_toFloat32S_l0_X v13) y) := by kernel_rfl
theorem laws_toFloat32S_l0_ok (v13 : List Nat) : LSound Try.prog 0 (laws_toFloat32S_LO v13) 0 (bodyOf Try.f33 0) := by
  intro e L out h
  exact lo_ok (E := laws_toFloat32S_l0_E v13) (gT := laws_toFloat32S_l0_T v13) (X := laws_toFloat32S_l0_X v13) (s0 := ((gI (vAt e 4)), (gRF L (vAt e 3)))) tok laws_toFloat32S_hO mixed (LoopsOk_eq (l := []) (by kernel_rfl) trivial) (laws_toFloat32S_l0_be v13) rfl (by intro x; rfl) h
noncomputable def laws_toFloat32S_T (v13 : List Nat) : Tree ((List Nat)) :=
  (.need (((v13.length : Nat) : Int) = ((v13.length : Nat) : Int)) <|
  (.grd (inb ((v13.length : Nat) : Int) (maxN + 1)) <|
  (.need (some (laws_toFloat32S_l0_E v13 ((0 : Int), List.replicate (Int.toNat ((v13.length : Nat) : Int)) (0 : Nat))) = some (laws_toFloat32S_l0_E v13 ((0 : Int), List.replicate (Int.toNat ((v13.length : Nat) : Int)) (0 : Nat)))) <|
  (.call (laws_toFloat32S_l0_g v13 ((0 : Int), List.replicate (Int.toNat ((v13.length : Nat) : Int)) (0 : Nat))) fun v19 =>
  .leaf v19))))

noncomputable def laws_toFloat32S_g (v13 : List Nat) : Option ((List Nat)) := (laws_toFloat32S_T v13).run
def laws_toFloat32S_enc (v13 : List Nat) (y : (List Nat)) : Rs := (.own 0 0 ((y).length), [.row (.f32 y) 0])
theorem laws_toFloat32S_den (v13 : List Nat) : (den TT (tabD laws_toFloat32S_tab) (tabM laws_toFloat32S_tab) (laws_toFloat32S_LO v13) (codeOf Try.f33) ([.bslc (BR.root 0) (.f32 v13)] ++ List.replicate (Try.f33.ntmps - ([.bslc (BR.root 0) (.f32 v13)] : List DV).length) .undef) []).bind (retD TT Try.f33.results.toList 0) = (laws_toFloat32S_T v13).bind fun y => .leaf (laws_toFloat32S_enc v13 y) := by kernel_rfl
theorem laws_toFloat32S_fn (v13 : List Nat) (F : Fr) (hm : F.ids.length = 0) (h0 : St F [] F.H0) (hA : DVs.Ok F [] [.bslc (BR.root 0) (.f32 v13)]) {y : (List Nat)} (hy : laws_toFloat32S_g v13 = some y) : ∃ H', FnOk Try.prog 33 (DVs.av F [.bslc (BR.root 0) (.f32 v13)]) F.H0 ((laws_toFloat32S_enc v13 y).1.av F) H' ∧ St F (laws_toFloat32S_enc v13 y).2 H' ∧ (laws_toFloat32S_enc v13 y).1.Ok F (laws_toFloat32S_enc v13 y).2 :=
  fn_fin tok laws_toFloat32S_hO mixed Try.func33 Try.call33 (by kernel_rfl) (LoopsOk_eq (l := [(0, bodyOf Try.f33 0)]) (by kernel_rfl) ⟨laws_toFloat32S_l0_ok v13, trivial⟩) (laws_toFloat32S_den v13) hy hm h0 hA
noncomputable def laws_toFloat32S_F : DFn := fun args L =>
  match args with
  | [a1] =>
    optT (rowF32 L a1) fun v13 =>
    .call (laws_toFloat32S_g v13) fun y => .leaf (.own (L.length + 0) 0 ((y).length), L ++ [.row (.f32 y) 0])
  | _ => .fail
theorem laws_toFloat32S_Fok : COk Try.prog 33 laws_toFloat32S_F true := by
  intro F L H args r L' hs ha hr
  unfold laws_toFloat32S_F at hr
  split at hr
  · rename_i a1
    obtain ⟨v13, hv13, hr⟩ := optT_run hr
    simp only [Tree.run] at hr
    obtain ⟨y, hy, hr⟩ := Option.bind_eq_some_iff.1 hr
    simp only [Tree.run, Option.some.injEq, Prod.mk.injEq] at hr
    obtain ⟨rfl, rfl⟩ := hr
    exact call_ok1 hs (fun k => (([a1.av F] : List AV)[k]?).getD .top) [a1] [.bslc (BR.root 0) (.f32 v13)] (fun F' h0 hi hρ => ⟨by simp [DVs.av, DV.av, BR.av, hρ], laws_toFloat32S_fn v13 F' (by rw [hi]; rfl) (st_nil hi) ⟨bslc_ok hi (by rw [h0, hρ]; exact rowF32_ok hs (DVs.okAt ha 0 rfl) hv13), trivial⟩ hy⟩) rfl rfl
  · cases hr
/-! laws.toMatrix -/
noncomputable def laws_toMatrix_LO (v10 : Int) (v11 : Int) (v12 : List Nat) : LOr := fun id e L =>
  match id with
  | _ => .fail
noncomputable def laws_toMatrix_tab : List (FuncId × DFn × Bool) := [(33, laws_toFloat32S_F, true)]
theorem laws_toMatrix_hO : OrcOk Try.prog (tabD laws_toMatrix_tab) (tabM laws_toMatrix_tab) := tabD_cons laws_toFloat32S_Fok (tabD_nil _)
noncomputable def laws_toMatrix_T (v10 : Int) (v11 : Int) (v12 : List Nat) : Tree (Int × Int × (List Nat)) :=
  (.call (laws_toFloat32S_g v12) fun v20 =>
  .leaf (v10, v11, v20))

noncomputable def laws_toMatrix_g (v10 : Int) (v11 : Int) (v12 : List Nat) : Option (Int × Int × (List Nat)) := (laws_toMatrix_T v10 v11 v12).run
def laws_toMatrix_enc (v10 : Int) (v11 : Int) (v12 : List Nat) (y : Int × Int × (List Nat)) : Rs := (.agg [.int .i64 y.1, .int .i64 y.2.1, .own 0 0 ((y.2.2).length)], [.row (.f32 y.2.2) 0])
theorem laws_toMatrix_den (v10 : Int) (v11 : Int) (v12 : List Nat) : (den TT (tabD laws_toMatrix_tab) (tabM laws_toMatrix_tab) (laws_toMatrix_LO v10 v11 v12) (codeOf Try.f17) ([.agg [.int .i64 v10, .int .i64 v11, .bslc (BR.root 0) (.f32 v12)]] ++ List.replicate (Try.f17.ntmps - ([.agg [.int .i64 v10, .int .i64 v11, .bslc (BR.root 0) (.f32 v12)]] : List DV).length) .undef) []).bind (retD TT Try.f17.results.toList 0) = (laws_toMatrix_T v10 v11 v12).bind fun y => .leaf (laws_toMatrix_enc v10 v11 v12 y) := by kernel_rfl
theorem laws_toMatrix_fn (v10 : Int) (v11 : Int) (v12 : List Nat) (F : Fr) (hm : F.ids.length = 0) (h0 : St F [] F.H0) (hA : DVs.Ok F [] [.agg [.int .i64 v10, .int .i64 v11, .bslc (BR.root 0) (.f32 v12)]]) {y : Int × Int × (List Nat)} (hy : laws_toMatrix_g v10 v11 v12 = some y) : ∃ H', FnOk Try.prog 17 (DVs.av F [.agg [.int .i64 v10, .int .i64 v11, .bslc (BR.root 0) (.f32 v12)]]) F.H0 ((laws_toMatrix_enc v10 v11 v12 y).1.av F) H' ∧ St F (laws_toMatrix_enc v10 v11 v12 y).2 H' ∧ (laws_toMatrix_enc v10 v11 v12 y).1.Ok F (laws_toMatrix_enc v10 v11 v12 y).2 :=
  fn_fin tok laws_toMatrix_hO mixed Try.func17 Try.call17 (by kernel_rfl) (LoopsOk_eq (l := []) (by kernel_rfl) trivial) (laws_toMatrix_den v10 v11 v12) hy hm h0 hA
noncomputable def laws_toMatrix_F : DFn := fun args L =>
  match args with
  | [.agg [.int .i64 v10, .int .i64 v11, a1]] =>
    optT (rowF32 L a1) fun v12 =>
    .call (laws_toMatrix_g v10 v11 v12) fun y => .leaf (.agg [.int .i64 y.1, .int .i64 y.2.1, .own (L.length + 0) 0 ((y.2.2).length)], L ++ [.row (.f32 y.2.2) 0])
  | _ => .fail
theorem laws_toMatrix_Fok : COk Try.prog 17 laws_toMatrix_F true := by
  intro F L H args r L' hs ha hr
  unfold laws_toMatrix_F at hr
  split at hr
  · rename_i v10 v11 a1
    obtain ⟨v12, hv12, hr⟩ := optT_run hr
    simp only [Tree.run] at hr
    obtain ⟨y, hy, hr⟩ := Option.bind_eq_some_iff.1 hr
    simp only [Tree.run, Option.some.injEq, Prod.mk.injEq] at hr
    obtain ⟨rfl, rfl⟩ := hr
    exact call_ok1 hs (fun k => (([a1.av F] : List AV)[k]?).getD .top) [.agg [.int .i64 v10, .int .i64 v11, a1]] [.agg [.int .i64 v10, .int .i64 v11, .bslc (BR.root 0) (.f32 v12)]] (fun F' h0 hi hρ => ⟨by simp [DVs.av, DV.av, BR.av, hρ], laws_toMatrix_fn v10 v11 v12 F' (by rw [hi]; rfl) (st_nil hi) ⟨⟨trivial, trivial, bslc_ok hi (by rw [h0, hρ]; exact rowF32_ok hs (DVs.okAt (DVs.okAt ha 0 rfl) 2 rfl) hv12), trivial⟩, trivial⟩ hy⟩) rfl rfl
  · cases hr
/-! spec.l00In -/
noncomputable def spec_l00In_LO (v30 : Int) (v31 : Int) (v32 : Int) : LOr := fun id e L =>
  match id with
  | _ => .fail
noncomputable def spec_l00In_tab : List (FuncId × DFn × Bool) := []
theorem spec_l00In_hO : OrcOk Try.prog (tabD spec_l00In_tab) (tabM spec_l00In_tab) := tabD_nil _
noncomputable def spec_l00In_T (v30 : Int) (v31 : Int) (v32 : Int) : Tree (Bool) :=
  (.br (decide (v31 ≤ v30)) (
   .leaf (decide (v30 ≤ v32))
  ) (
   .leaf false
  ))

noncomputable def spec_l00In_g (v30 : Int) (v31 : Int) (v32 : Int) : Option (Bool) := (spec_l00In_T v30 v31 v32).run
def spec_l00In_enc (v30 : Int) (v31 : Int) (v32 : Int) (y : Bool) : Rs := (.bool y, [])
theorem spec_l00In_den (v30 : Int) (v31 : Int) (v32 : Int) : (den TT (tabD spec_l00In_tab) (tabM spec_l00In_tab) (spec_l00In_LO v30 v31 v32) (codeOf Try.f70) ([.int .i64 v30, .int .i64 v31, .int .i64 v32] ++ List.replicate (Try.f70.ntmps - ([.int .i64 v30, .int .i64 v31, .int .i64 v32] : List DV).length) .undef) []).bind (retD TT Try.f70.results.toList 0) = (spec_l00In_T v30 v31 v32).bind fun y => .leaf (spec_l00In_enc v30 v31 v32 y) := by kernel_rfl
theorem spec_l00In_fn (v30 : Int) (v31 : Int) (v32 : Int) (F : Fr) (hm : F.ids.length = 0) (h0 : St F [] F.H0) (hA : DVs.Ok F [] [.int .i64 v30, .int .i64 v31, .int .i64 v32]) {y : Bool} (hy : spec_l00In_g v30 v31 v32 = some y) : ∃ H', FnOk Try.prog 70 (DVs.av F [.int .i64 v30, .int .i64 v31, .int .i64 v32]) F.H0 ((spec_l00In_enc v30 v31 v32 y).1.av F) H' ∧ St F (spec_l00In_enc v30 v31 v32 y).2 H' ∧ (spec_l00In_enc v30 v31 v32 y).1.Ok F (spec_l00In_enc v30 v31 v32 y).2 :=
  fn_fin tok spec_l00In_hO mixed Try.func70 Try.call70 (by kernel_rfl) (LoopsOk_eq (l := []) (by kernel_rfl) trivial) (spec_l00In_den v30 v31 v32) hy hm h0 hA
def spec_l00In_v (v30 : Int) (v31 : Int) (v32 : Int) : Bool :=
  if (decide (v31 ≤ v30)) = true then (
   decide (v30 ≤ v32)
  ) else (
   false
  )
theorem spec_l00In_tot (v30 : Int) (v31 : Int) (v32 : Int) : spec_l00In_g v30 v31 v32 = some (spec_l00In_v v30 v31 v32) := by
  unfold spec_l00In_g spec_l00In_T spec_l00In_v
  simp only [Tree.run]
  repeat' (first | rfl | split)
noncomputable def spec_l00In_F : DFn := fun args L =>
  match args with
  | [.int .i64 v30, .int .i64 v31, .int .i64 v32] =>
    .leaf (.bool (spec_l00In_v v30 v31 v32), L)
  | _ => .fail
theorem spec_l00In_Fok : COk Try.prog 70 spec_l00In_F true := by
  intro F L H args r L' hs ha hr
  unfold spec_l00In_F at hr
  split at hr
  · rename_i v30 v31 v32
    have hy := spec_l00In_tot v30 v31 v32
    generalize spec_l00In_v v30 v31 v32 = y at hy hr
    simp only [Tree.run, Option.some.injEq, Prod.mk.injEq] at hr
    obtain ⟨rfl, rfl⟩ := hr
    exact call_ok0 hs (fun k => (([] : List AV)[k]?).getD .top) [.int .i64 v30, .int .i64 v31, .int .i64 v32] [.int .i64 v30, .int .i64 v31, .int .i64 v32] (fun F' h0 hi hρ => ⟨by simp [DVs.av, DV.av, BR.av, hρ], spec_l00In_fn v30 v31 v32 F' (by rw [hi]; rfl) (st_nil hi) ⟨trivial, trivial, trivial, trivial⟩ hy⟩) rfl
  · cases hr
/-! spec.l02Sides -/
noncomputable def spec_l02Sides_LO (v28 : Int) (v29 : Int) : LOr := fun id e L =>
  match id with
  | _ => .fail
noncomputable def spec_l02Sides_tab : List (FuncId × DFn × Bool) := [(70, spec_l00In_F, true)]
theorem spec_l02Sides_hO : OrcOk Try.prog (tabD spec_l02Sides_tab) (tabM spec_l02Sides_tab) := tabD_cons spec_l00In_Fok (tabD_nil _)
noncomputable def spec_l02Sides_T (v28 : Int) (v29 : Int) : Tree (Bool) :=
  (.br (spec_l00In_v v28 (1 : Int) (12 : Int)) (
   .leaf (spec_l00In_v v29 (1 : Int) (12 : Int))
  ) (
   .leaf false
  ))

noncomputable def spec_l02Sides_g (v28 : Int) (v29 : Int) : Option (Bool) := (spec_l02Sides_T v28 v29).run
def spec_l02Sides_enc (v28 : Int) (v29 : Int) (y : Bool) : Rs := (.bool y, [])
theorem spec_l02Sides_den (v28 : Int) (v29 : Int) : (den TT (tabD spec_l02Sides_tab) (tabM spec_l02Sides_tab) (spec_l02Sides_LO v28 v29) (codeOf Try.f134) ([.int .i64 v28, .int .i64 v29] ++ List.replicate (Try.f134.ntmps - ([.int .i64 v28, .int .i64 v29] : List DV).length) .undef) []).bind (retD TT Try.f134.results.toList 0) = (spec_l02Sides_T v28 v29).bind fun y => .leaf (spec_l02Sides_enc v28 v29 y) := by kernel_rfl
theorem spec_l02Sides_fn (v28 : Int) (v29 : Int) (F : Fr) (hm : F.ids.length = 0) (h0 : St F [] F.H0) (hA : DVs.Ok F [] [.int .i64 v28, .int .i64 v29]) {y : Bool} (hy : spec_l02Sides_g v28 v29 = some y) : ∃ H', FnOk Try.prog 134 (DVs.av F [.int .i64 v28, .int .i64 v29]) F.H0 ((spec_l02Sides_enc v28 v29 y).1.av F) H' ∧ St F (spec_l02Sides_enc v28 v29 y).2 H' ∧ (spec_l02Sides_enc v28 v29 y).1.Ok F (spec_l02Sides_enc v28 v29 y).2 :=
  fn_fin tok spec_l02Sides_hO mixed Try.func134 Try.call134 (by kernel_rfl) (LoopsOk_eq (l := []) (by kernel_rfl) trivial) (spec_l02Sides_den v28 v29) hy hm h0 hA
def spec_l02Sides_v (v28 : Int) (v29 : Int) : Bool :=
  if (spec_l00In_v v28 (1 : Int) (12 : Int)) = true then (
   (spec_l00In_v v29 (1 : Int) (12 : Int))
  ) else (
   false
  )
theorem spec_l02Sides_tot (v28 : Int) (v29 : Int) : spec_l02Sides_g v28 v29 = some (spec_l02Sides_v v28 v29) := by
  unfold spec_l02Sides_g spec_l02Sides_T spec_l02Sides_v
  simp only [Tree.run]
  repeat' (first | rfl | split)
noncomputable def spec_l02Sides_F : DFn := fun args L =>
  match args with
  | [.int .i64 v28, .int .i64 v29] =>
    .leaf (.bool (spec_l02Sides_v v28 v29), L)
  | _ => .fail
theorem spec_l02Sides_Fok : COk Try.prog 134 spec_l02Sides_F true := by
  intro F L H args r L' hs ha hr
  unfold spec_l02Sides_F at hr
  split at hr
  · rename_i v28 v29
    have hy := spec_l02Sides_tot v28 v29
    generalize spec_l02Sides_v v28 v29 = y at hy hr
    simp only [Tree.run, Option.some.injEq, Prod.mk.injEq] at hr
    obtain ⟨rfl, rfl⟩ := hr
    exact call_ok0 hs (fun k => (([] : List AV)[k]?).getD .top) [.int .i64 v28, .int .i64 v29] [.int .i64 v28, .int .i64 v29] (fun F' h0 hi hρ => ⟨by simp [DVs.av, DV.av, BR.av, hρ], spec_l02Sides_fn v28 v29 F' (by rw [hi]; rfl) (st_nil hi) ⟨trivial, trivial, trivial⟩ hy⟩) rfl
  · cases hr
/-! spec.l01Finite -/
noncomputable def spec_l01Finite_LO (v35 : Nat) : LOr := fun id e L =>
  match id with
  | _ => .fail
noncomputable def spec_l01Finite_tab : List (FuncId × DFn × Bool) := []
theorem spec_l01Finite_hO : OrcOk Try.prog (tabD spec_l01Finite_tab) (tabM spec_l01Finite_tab) := tabD_nil _
noncomputable def spec_l01Finite_T (v35 : Nat) : Tree (Bool) :=
  .leaf (feq .f32 (fsub .f32 v35 v35) (0 : Nat))

noncomputable def spec_l01Finite_g (v35 : Nat) : Option (Bool) := (spec_l01Finite_T v35).run
def spec_l01Finite_enc (v35 : Nat) (y : Bool) : Rs := (.bool y, [])
theorem spec_l01Finite_den (v35 : Nat) : (den TT (tabD spec_l01Finite_tab) (tabM spec_l01Finite_tab) (spec_l01Finite_LO v35) (codeOf Try.f60) ([.flt .f32 v35] ++ List.replicate (Try.f60.ntmps - ([.flt .f32 v35] : List DV).length) .undef) []).bind (retD TT Try.f60.results.toList 0) = (spec_l01Finite_T v35).bind fun y => .leaf (spec_l01Finite_enc v35 y) := by kernel_rfl
theorem spec_l01Finite_fn (v35 : Nat) (F : Fr) (hm : F.ids.length = 0) (h0 : St F [] F.H0) (hA : DVs.Ok F [] [.flt .f32 v35]) {y : Bool} (hy : spec_l01Finite_g v35 = some y) : ∃ H', FnOk Try.prog 60 (DVs.av F [.flt .f32 v35]) F.H0 ((spec_l01Finite_enc v35 y).1.av F) H' ∧ St F (spec_l01Finite_enc v35 y).2 H' ∧ (spec_l01Finite_enc v35 y).1.Ok F (spec_l01Finite_enc v35 y).2 :=
  fn_fin tok spec_l01Finite_hO mixed Try.func60 Try.call60 (by kernel_rfl) (LoopsOk_eq (l := []) (by kernel_rfl) trivial) (spec_l01Finite_den v35) hy hm h0 hA
def spec_l01Finite_v (v35 : Nat) : Bool :=
  feq .f32 (fsub .f32 v35 v35) (0 : Nat)
theorem spec_l01Finite_tot (v35 : Nat) : spec_l01Finite_g v35 = some (spec_l01Finite_v v35) := by
  unfold spec_l01Finite_g spec_l01Finite_T spec_l01Finite_v
  simp only [Tree.run]
  repeat' (first | rfl | split)
noncomputable def spec_l01Finite_F : DFn := fun args L =>
  match args with
  | [.flt .f32 v35] =>
    .leaf (.bool (spec_l01Finite_v v35), L)
  | _ => .fail
theorem spec_l01Finite_Fok : COk Try.prog 60 spec_l01Finite_F true := by
  intro F L H args r L' hs ha hr
  unfold spec_l01Finite_F at hr
  split at hr
  · rename_i v35
    have hy := spec_l01Finite_tot v35
    generalize spec_l01Finite_v v35 = y at hy hr
    simp only [Tree.run, Option.some.injEq, Prod.mk.injEq] at hr
    obtain ⟨rfl, rfl⟩ := hr
    exact call_ok0 hs (fun k => (([] : List AV)[k]?).getD .top) [.flt .f32 v35] [.flt .f32 v35] (fun F' h0 hi hρ => ⟨by simp [DVs.av, DV.av, BR.av, hρ], spec_l01Finite_fn v35 F' (by rw [hi]; rfl) (st_nil hi) ⟨trivial, trivial⟩ hy⟩) rfl
  · cases hr
/-! spec.l02Finite -/
noncomputable def spec_l02Finite_l0_T (v33 : List Nat) (s : Int) : Tree ((Int) ⊕ ((Unit) ⊕ (Unit))) :=
  (.br (decide (s < ((v33.length : Nat) : Int))) (
   (.grd (inb s v33.length) <|
   (.br (!(spec_l01Finite_v (nth v33 (Int.toNat s)))) (
    .leaf (.inr (.inl ()))
   ) (
    .leaf (.inl (IntKind.i64.wrap (s + (1 : Int))))
   )))
  ) (
   .leaf (.inr (.inr ()))
  ))

noncomputable def spec_l02Finite_l0_g (v33 : List Nat) (s0 : Int) : Option ((Unit) ⊕ (Unit)) := whileM (fun s => (spec_l02Finite_l0_T v33 s).run) s0
def spec_l02Finite_l0_E (v33 : List Nat) (s : Int) : Sd := ([.bslc (BR.root 0) (.f32 v33), .top, .top, .int .i64 s, .top, .top, .top, .top, .top, .top, .top, .top, .top, .top, .top, .top], [])
def spec_l02Finite_l0_X (v33 : List Nat) (x : (Unit) ⊕ (Unit)) : Out := (match x with | .inl x => (.ret, [.top, .top, .lit false, .top, .top, .top, .top, .top, .top, .top, .top, .top, .top, .top, .top, .top], []) | .inr x => (.normal, [.top, .top, .top, .top, .top, .top, .top, .top, .top, .top, .top, .top, .top, .top, .top, .top], []))
def spec_l02Finite_l0_kill : List Nat := [0, 1, 1, 0, 1, 1, 1, 1, 1, 1, 1, 1, 1, 1, 1, 1]
def spec_l02Finite_l0_nx : Exit → List Nat
  | .exit 0 => [1, 1, 1, 1, 1, 1, 1, 1, 1, 1, 1, 1, 1, 1, 1, 1]
  | .ret => [1, 1, 0, 1, 1, 1, 1, 1, 1, 1, 1, 1, 1, 1, 1, 1]
  | _ => []
noncomputable def spec_l02Finite_LO (v33 : List Nat) : LOr := fun id e L =>
  match id with
  | 0 => .need (normA 0 spec_l02Finite_l0_kill e L = some (spec_l02Finite_l0_E v33 (gI (vAt e 3)))) (.call (spec_l02Finite_l0_g v33 (gI (vAt e 3))) fun x => .sum x (fun b0 => .leaf (spec_l02Finite_l0_X v33 (.inl b0))) (fun c0 => .leaf (spec_l02Finite_l0_X v33 (.inr c0))))
  | _ => .fail
noncomputable def spec_l02Finite_tab : List (FuncId × DFn × Bool) := [(60, spec_l01Finite_F, true)]
theorem spec_l02Finite_hO : OrcOk Try.prog (tabD spec_l02Finite_tab) (tabM spec_l02Finite_tab) := tabD_cons spec_l01Finite_Fok (tabD_nil _)
theorem spec_l02Finite_l0_be (v33 : List Nat) (s : Int) : bodyT TT (tabD spec_l02Finite_tab) (tabM spec_l02Finite_tab) (spec_l02Finite_LO v33) 0 spec_l02Finite_l0_kill spec_l02Finite_l0_nx (bodyOf Try.f135 0) 0 (spec_l02Finite_l0_E v33 s) = (spec_l02Finite_l0_T v33 s).bind fun y => .leaf (outS (spec_l02Finite_l0_E v33) (spec_l02Finite_l0_X v33) y) := by kernel_rfl
theorem spec_l02Finite_l0_ok (v33 : List Nat) : LSound Try.prog 0 (spec_l02Finite_LO v33) 0 (bodyOf Try.f135 0) := by
  intro e L out h
  exact lo_ok (E := spec_l02Finite_l0_E v33) (gT := spec_l02Finite_l0_T v33) (X := spec_l02Finite_l0_X v33) (s0 := (gI (vAt e 3))) tok spec_l02Finite_hO mixed (LoopsOk_eq (l := []) (by kernel_rfl) trivial) (spec_l02Finite_l0_be v33) rfl (by intro x; (cases x with | inl b => rfl | inr x => exact rfl)) h
noncomputable def spec_l02Finite_T (v33 : List Nat) : Tree (Bool) :=
  (.need (some (spec_l02Finite_l0_E v33 (0 : Int)) = some (spec_l02Finite_l0_E v33 (0 : Int))) <|
  (.call (spec_l02Finite_l0_g v33 (0 : Int)) fun v38 =>
  (.sum v38 (fun v39 =>
   .leaf false
  ) (fun v40 =>
   .leaf true
  ))))

noncomputable def spec_l02Finite_g (v33 : List Nat) : Option (Bool) := (spec_l02Finite_T v33).run
def spec_l02Finite_enc (v33 : List Nat) (y : Bool) : Rs := (.bool y, [])
theorem spec_l02Finite_den (v33 : List Nat) : (den TT (tabD spec_l02Finite_tab) (tabM spec_l02Finite_tab) (spec_l02Finite_LO v33) (codeOf Try.f135) ([.bslc (BR.root 0) (.f32 v33)] ++ List.replicate (Try.f135.ntmps - ([.bslc (BR.root 0) (.f32 v33)] : List DV).length) .undef) []).bind (retD TT Try.f135.results.toList 0) = (spec_l02Finite_T v33).bind fun y => .leaf (spec_l02Finite_enc v33 y) := by kernel_rfl
theorem spec_l02Finite_fn (v33 : List Nat) (F : Fr) (hm : F.ids.length = 0) (h0 : St F [] F.H0) (hA : DVs.Ok F [] [.bslc (BR.root 0) (.f32 v33)]) {y : Bool} (hy : spec_l02Finite_g v33 = some y) : ∃ H', FnOk Try.prog 135 (DVs.av F [.bslc (BR.root 0) (.f32 v33)]) F.H0 ((spec_l02Finite_enc v33 y).1.av F) H' ∧ St F (spec_l02Finite_enc v33 y).2 H' ∧ (spec_l02Finite_enc v33 y).1.Ok F (spec_l02Finite_enc v33 y).2 :=
  fn_fin tok spec_l02Finite_hO mixed Try.func135 Try.call135 (by kernel_rfl) (LoopsOk_eq (l := [(0, bodyOf Try.f135 0)]) (by kernel_rfl) ⟨spec_l02Finite_l0_ok v33, trivial⟩) (spec_l02Finite_den v33) hy hm h0 hA
noncomputable def spec_l02Finite_F : DFn := fun args L =>
  match args with
  | [a1] =>
    optT (rowF32 L a1) fun v33 =>
    .call (spec_l02Finite_g v33) fun y => .leaf (.bool y, L)
  | _ => .fail
theorem spec_l02Finite_Fok : COk Try.prog 135 spec_l02Finite_F true := by
  intro F L H args r L' hs ha hr
  unfold spec_l02Finite_F at hr
  split at hr
  · rename_i a1
    obtain ⟨v33, hv33, hr⟩ := optT_run hr
    simp only [Tree.run] at hr
    obtain ⟨y, hy, hr⟩ := Option.bind_eq_some_iff.1 hr
    simp only [Tree.run, Option.some.injEq, Prod.mk.injEq] at hr
    obtain ⟨rfl, rfl⟩ := hr
    exact call_ok0 hs (fun k => (([a1.av F] : List AV)[k]?).getD .top) [a1] [.bslc (BR.root 0) (.f32 v33)] (fun F' h0 hi hρ => ⟨by simp [DVs.av, DV.av, BR.av, hρ], spec_l02Finite_fn v33 F' (by rw [hi]; rfl) (st_nil hi) ⟨bslc_ok hi (by rw [h0, hρ]; exact rowF32_ok hs (DVs.okAt ha 0 rfl) hv33), trivial⟩ hy⟩) rfl
  · cases hr
/-! spec.l02Is -/
noncomputable def spec_l02Is_LO (v25 : Int) (v26 : Int) (v27 : List Nat) : LOr := fun id e L =>
  match id with
  | _ => .fail
noncomputable def spec_l02Is_tab : List (FuncId × DFn × Bool) := [(134, spec_l02Sides_F, true), (135, spec_l02Finite_F, true)]
theorem spec_l02Is_hO : OrcOk Try.prog (tabD spec_l02Is_tab) (tabM spec_l02Is_tab) := tabD_cons spec_l02Sides_Fok (tabD_cons spec_l02Finite_Fok (tabD_nil _))
noncomputable def spec_l02Is_T (v25 : Int) (v26 : Int) (v27 : List Nat) : Tree (Bool) :=
  (.br (spec_l02Sides_v v25 v26) (
   (.br (decide (((v27.length : Nat) : Int) = IntKind.i64.wrap (v25 * v26))) (
    (.call (spec_l02Finite_g v27) fun v41 =>
    .leaf v41)
   ) (
    .leaf false
   ))
  ) (
   .leaf false
  ))

noncomputable def spec_l02Is_g (v25 : Int) (v26 : Int) (v27 : List Nat) : Option (Bool) := (spec_l02Is_T v25 v26 v27).run
def spec_l02Is_enc (v25 : Int) (v26 : Int) (v27 : List Nat) (y : Bool) : Rs := (.bool y, [])
theorem spec_l02Is_den (v25 : Int) (v26 : Int) (v27 : List Nat) : (den TT (tabD spec_l02Is_tab) (tabM spec_l02Is_tab) (spec_l02Is_LO v25 v26 v27) (codeOf Try.f61) ([.bptr (BR.root 0) [.int .i64 v25, .int .i64 v26, .bslc (BR.root 1) (.f32 v27)]] ++ List.replicate (Try.f61.ntmps - ([.bptr (BR.root 0) [.int .i64 v25, .int .i64 v26, .bslc (BR.root 1) (.f32 v27)]] : List DV).length) .undef) []).bind (retD TT Try.f61.results.toList 0) = (spec_l02Is_T v25 v26 v27).bind fun y => .leaf (spec_l02Is_enc v25 v26 v27 y) := by kernel_rfl
theorem spec_l02Is_fn (v25 : Int) (v26 : Int) (v27 : List Nat) (F : Fr) (hm : F.ids.length = 0) (h0 : St F [] F.H0) (hA : DVs.Ok F [] [.bptr (BR.root 0) [.int .i64 v25, .int .i64 v26, .bslc (BR.root 1) (.f32 v27)]]) {y : Bool} (hy : spec_l02Is_g v25 v26 v27 = some y) : ∃ H', FnOk Try.prog 61 (DVs.av F [.bptr (BR.root 0) [.int .i64 v25, .int .i64 v26, .bslc (BR.root 1) (.f32 v27)]]) F.H0 ((spec_l02Is_enc v25 v26 v27 y).1.av F) H' ∧ St F (spec_l02Is_enc v25 v26 v27 y).2 H' ∧ (spec_l02Is_enc v25 v26 v27 y).1.Ok F (spec_l02Is_enc v25 v26 v27 y).2 :=
  fn_fin tok spec_l02Is_hO mixed Try.func61 Try.call61 (by kernel_rfl) (LoopsOk_eq (l := []) (by kernel_rfl) trivial) (spec_l02Is_den v25 v26 v27) hy hm h0 hA
noncomputable def spec_l02Is_F : DFn := fun args L =>
  match args with
  | [a1] =>
    optT (cellsOf L 3 a1) fun cs0 =>
    (match cs0 with
    | [.int .i64 v25, .int .i64 v26, a2] =>
    optT (rowF32 L a2) fun v27 =>
    .call (spec_l02Is_g v25 v26 v27) fun y => .leaf (.bool y, L)
    | _ => .fail)
  | _ => .fail
theorem spec_l02Is_Fok : COk Try.prog 61 spec_l02Is_F true := by
  intro F L H args r L' hs ha hr
  unfold spec_l02Is_F at hr
  split at hr
  · rename_i a1
    obtain ⟨cs0, hcp0, hr⟩ := optT_run hr
    split at hr
    · rename_i v25 v26 a2
      obtain ⟨v27, hv27, hr⟩ := optT_run hr
      simp only [Tree.run] at hr
      obtain ⟨y, hy, hr⟩ := Option.bind_eq_some_iff.1 hr
      simp only [Tree.run, Option.some.injEq, Prod.mk.injEq] at hr
      obtain ⟨rfl, rfl⟩ := hr
      exact call_ok0 hs (fun k => (([a1.av F, a2.av F] : List AV)[k]?).getD .top) [a1] [.bptr (BR.root 0) [.int .i64 v25, .int .i64 v26, .bslc (BR.root 1) (.f32 v27)]] (fun F' h0 hi hρ => ⟨by simp [DVs.av, DV.av, BR.av, hρ], spec_l02Is_fn v25 v26 v27 F' (by rw [hi]; rfl) (st_nil hi) ⟨bptr_ok hi (by rw [h0]; simpa [DVs.av, DV.av, BR.av, hρ] using (cellsOf_ok hs (DVs.okAt ha 0 rfl) hcp0).1) ⟨trivial, trivial, bslc_ok hi (by rw [h0, hρ]; exact rowF32_ok hs (DVs.okAt (cellsOf_ok hs (DVs.okAt ha 0 rfl) hcp0).2 2 rfl) hv27), trivial⟩, trivial⟩ hy⟩) rfl
    · cases hr
  · cases hr
/-! spec.l02Zero -/
noncomputable def spec_l02Zero_LO (v46 : Int) (v47 : Int) : LOr := fun id e L =>
  match id with
  | _ => .fail
noncomputable def spec_l02Zero_tab : List (FuncId × DFn × Bool) := []
theorem spec_l02Zero_hO : OrcOk Try.prog (tabD spec_l02Zero_tab) (tabM spec_l02Zero_tab) := tabD_nil _
noncomputable def spec_l02Zero_T (v46 : Int) (v47 : Int) : Tree (Int × Int) :=
  (.need (IntKind.i64.wrap (v46 * v47) = IntKind.i64.wrap (v46 * v47)) <|
  (.grd (inb (IntKind.i64.wrap (v46 * v47)) (maxN + 1)) <|
  .leaf (v46, v47)))

noncomputable def spec_l02Zero_g (v46 : Int) (v47 : Int) : Option (Int × Int) := (spec_l02Zero_T v46 v47).run
def spec_l02Zero_enc (v46 : Int) (v47 : Int) (y : Int × Int) : Rs := (.agg [.int .i64 y.1, .int .i64 y.2, .own 0 0 ((List.replicate (Int.toNat (IntKind.i64.wrap (v46 * v47))) (0 : Nat)).length)], [.row (.f32 (List.replicate (Int.toNat (IntKind.i64.wrap (v46 * v47))) (0 : Nat))) 0])
theorem spec_l02Zero_den (v46 : Int) (v47 : Int) : (den TT (tabD spec_l02Zero_tab) (tabM spec_l02Zero_tab) (spec_l02Zero_LO v46 v47) (codeOf Try.f133) ([.int .i64 v46, .int .i64 v47] ++ List.replicate (Try.f133.ntmps - ([.int .i64 v46, .int .i64 v47] : List DV).length) .undef) []).bind (retD TT Try.f133.results.toList 0) = (spec_l02Zero_T v46 v47).bind fun y => .leaf (spec_l02Zero_enc v46 v47 y) := by kernel_rfl
theorem spec_l02Zero_fn (v46 : Int) (v47 : Int) (F : Fr) (hm : F.ids.length = 0) (h0 : St F [] F.H0) (hA : DVs.Ok F [] [.int .i64 v46, .int .i64 v47]) {y : Int × Int} (hy : spec_l02Zero_g v46 v47 = some y) : ∃ H', FnOk Try.prog 133 (DVs.av F [.int .i64 v46, .int .i64 v47]) F.H0 ((spec_l02Zero_enc v46 v47 y).1.av F) H' ∧ St F (spec_l02Zero_enc v46 v47 y).2 H' ∧ (spec_l02Zero_enc v46 v47 y).1.Ok F (spec_l02Zero_enc v46 v47 y).2 :=
  fn_fin tok spec_l02Zero_hO mixed Try.func133 Try.call133 (by kernel_rfl) (LoopsOk_eq (l := []) (by kernel_rfl) trivial) (spec_l02Zero_den v46 v47) hy hm h0 hA
noncomputable def spec_l02Zero_F : DFn := fun args L =>
  match args with
  | [.int .i64 v46, .int .i64 v47] =>
    .call (spec_l02Zero_g v46 v47) fun y => .leaf (.agg [.int .i64 y.1, .int .i64 y.2, .own (L.length + 0) 0 ((List.replicate (Int.toNat (IntKind.i64.wrap (v46 * v47))) (0 : Nat)).length)], L ++ [.row (.f32 (List.replicate (Int.toNat (IntKind.i64.wrap (v46 * v47))) (0 : Nat))) 0])
  | _ => .fail
theorem spec_l02Zero_Fok : COk Try.prog 133 spec_l02Zero_F true := by
  intro F L H args r L' hs ha hr
  unfold spec_l02Zero_F at hr
  split at hr
  · rename_i v46 v47
    simp only [Tree.run] at hr
    obtain ⟨y, hy, hr⟩ := Option.bind_eq_some_iff.1 hr
    simp only [Tree.run, Option.some.injEq, Prod.mk.injEq] at hr
    obtain ⟨rfl, rfl⟩ := hr
    exact call_ok1 hs (fun k => (([] : List AV)[k]?).getD .top) [.int .i64 v46, .int .i64 v47] [.int .i64 v46, .int .i64 v47] (fun F' h0 hi hρ => ⟨by simp [DVs.av, DV.av, BR.av, hρ], spec_l02Zero_fn v46 v47 F' (by rw [hi]; rfl) (st_nil hi) ⟨trivial, trivial, trivial⟩ hy⟩) rfl rfl
  · cases hr
/-! spec.l02At -/
noncomputable def spec_l02At_LO (v60 : Int) (v61 : Int) (v62 : List Nat) (v63 : Int) (v64 : Int) : LOr := fun id e L =>
  match id with
  | _ => .fail
noncomputable def spec_l02At_tab : List (FuncId × DFn × Bool) := []
theorem spec_l02At_hO : OrcOk Try.prog (tabD spec_l02At_tab) (tabM spec_l02At_tab) := tabD_nil _
noncomputable def spec_l02At_T (v61 : Int) (v62 : List Nat) (v63 : Int) (v64 : Int) : Tree (Nat) :=
  (.grd (inb (IntKind.i64.wrap ((IntKind.i64.wrap (v63 * v61)) + v64)) v62.length) <|
  .leaf (nth v62 (Int.toNat (IntKind.i64.wrap ((IntKind.i64.wrap (v63 * v61)) + v64)))))

noncomputable def spec_l02At_g (v61 : Int) (v62 : List Nat) (v63 : Int) (v64 : Int) : Option (Nat) := (spec_l02At_T v61 v62 v63 v64).run
def spec_l02At_enc (v60 : Int) (v61 : Int) (v62 : List Nat) (v63 : Int) (v64 : Int) (y : Nat) : Rs := (.flt .f32 y, [])
theorem spec_l02At_den (v60 : Int) (v61 : Int) (v62 : List Nat) (v63 : Int) (v64 : Int) : (den TT (tabD spec_l02At_tab) (tabM spec_l02At_tab) (spec_l02At_LO v60 v61 v62 v63 v64) (codeOf Try.f59) ([.bptr (BR.root 0) [.int .i64 v60, .int .i64 v61, .bslc (BR.root 1) (.f32 v62)], .int .i64 v63, .int .i64 v64] ++ List.replicate (Try.f59.ntmps - ([.bptr (BR.root 0) [.int .i64 v60, .int .i64 v61, .bslc (BR.root 1) (.f32 v62)], .int .i64 v63, .int .i64 v64] : List DV).length) .undef) []).bind (retD TT Try.f59.results.toList 0) = (spec_l02At_T v61 v62 v63 v64).bind fun y => .leaf (spec_l02At_enc v60 v61 v62 v63 v64 y) := by kernel_rfl
theorem spec_l02At_fn (v60 : Int) (v61 : Int) (v62 : List Nat) (v63 : Int) (v64 : Int) (F : Fr) (hm : F.ids.length = 0) (h0 : St F [] F.H0) (hA : DVs.Ok F [] [.bptr (BR.root 0) [.int .i64 v60, .int .i64 v61, .bslc (BR.root 1) (.f32 v62)], .int .i64 v63, .int .i64 v64]) {y : Nat} (hy : spec_l02At_g v61 v62 v63 v64 = some y) : ∃ H', FnOk Try.prog 59 (DVs.av F [.bptr (BR.root 0) [.int .i64 v60, .int .i64 v61, .bslc (BR.root 1) (.f32 v62)], .int .i64 v63, .int .i64 v64]) F.H0 ((spec_l02At_enc v60 v61 v62 v63 v64 y).1.av F) H' ∧ St F (spec_l02At_enc v60 v61 v62 v63 v64 y).2 H' ∧ (spec_l02At_enc v60 v61 v62 v63 v64 y).1.Ok F (spec_l02At_enc v60 v61 v62 v63 v64 y).2 :=
  fn_fin tok spec_l02At_hO mixed Try.func59 Try.call59 (by kernel_rfl) (LoopsOk_eq (l := []) (by kernel_rfl) trivial) (spec_l02At_den v60 v61 v62 v63 v64) hy hm h0 hA
noncomputable def spec_l02At_F : DFn := fun args L =>
  match args with
  | [a1, .int .i64 v63, .int .i64 v64] =>
    optT (cellsOf L 3 a1) fun cs0 =>
    (match cs0 with
    | [.int .i64 v60, .int .i64 v61, a2] =>
    optT (rowF32 L a2) fun v62 =>
    .call (spec_l02At_g v61 v62 v63 v64) fun y => .leaf (.flt .f32 y, L)
    | _ => .fail)
  | _ => .fail
theorem spec_l02At_Fok : COk Try.prog 59 spec_l02At_F true := by
  intro F L H args r L' hs ha hr
  unfold spec_l02At_F at hr
  split at hr
  · rename_i a1 v63 v64
    obtain ⟨cs0, hcp0, hr⟩ := optT_run hr
    split at hr
    · rename_i v60 v61 a2
      obtain ⟨v62, hv62, hr⟩ := optT_run hr
      simp only [Tree.run] at hr
      obtain ⟨y, hy, hr⟩ := Option.bind_eq_some_iff.1 hr
      simp only [Tree.run, Option.some.injEq, Prod.mk.injEq] at hr
      obtain ⟨rfl, rfl⟩ := hr
      exact call_ok0 hs (fun k => (([a1.av F, a2.av F] : List AV)[k]?).getD .top) [a1, .int .i64 v63, .int .i64 v64] [.bptr (BR.root 0) [.int .i64 v60, .int .i64 v61, .bslc (BR.root 1) (.f32 v62)], .int .i64 v63, .int .i64 v64] (fun F' h0 hi hρ => ⟨by simp [DVs.av, DV.av, BR.av, hρ], spec_l02At_fn v60 v61 v62 v63 v64 F' (by rw [hi]; rfl) (st_nil hi) ⟨bptr_ok hi (by rw [h0]; simpa [DVs.av, DV.av, BR.av, hρ] using (cellsOf_ok hs (DVs.okAt ha 0 rfl) hcp0).1) ⟨trivial, trivial, bslc_ok hi (by rw [h0, hρ]; exact rowF32_ok hs (DVs.okAt (cellsOf_ok hs (DVs.okAt ha 0 rfl) hcp0).2 2 rfl) hv62), trivial⟩, trivial, trivial, trivial⟩ hy⟩) rfl
    · cases hr
  · cases hr
/-! spec.l03Column -/
noncomputable def spec_l03Column_l0_T (v55 : Int) (v56 : Int) (v57 : List Nat) (v58 : Int) (s : Int × (List Nat)) : Tree ((Int × (List Nat)) ⊕ ((List Nat))) :=
  (.br (decide (s.1 < v55)) (
   (.call (spec_l02At_g v56 v57 s.1 v58) fun v71 =>
   (.grd (fits (s.2 ++ ([v71] : List Nat)).length) <|
   .leaf (.inl (IntKind.i64.wrap (s.1 + (1 : Int)), s.2 ++ ([v71] : List Nat)))))
  ) (
   .leaf (.inr s.2)
  ))

noncomputable def spec_l03Column_l0_g (v55 : Int) (v56 : Int) (v57 : List Nat) (v58 : Int) (s0 : Int × (List Nat)) : Option ((List Nat)) := whileM (fun s => (spec_l03Column_l0_T v55 v56 v57 v58 s).run) s0
def spec_l03Column_l0_E (v55 : Int) (v56 : Int) (v57 : List Nat) (v58 : Int) (s : Int × (List Nat)) : Sd := ([.bptr (BR.root 0) [.int .i64 v55, .int .i64 v56, .bslc (BR.root 1) (.f32 v57)], .int .i64 v58, .top, .top, .top, .own 0 0 ((s.2).length), .int .i64 s.1, .top, .top, .top, .top, .top, .top, .top, .top, .top, .top, .top, .top, .top, .top, .top, .top, .top], [.row (.f32 s.2) 0])
def spec_l03Column_l0_X (v55 : Int) (v56 : Int) (v57 : List Nat) (v58 : Int) (x : (List Nat)) : Out := (.normal, [.top, .top, .top, .top, .top, .own 0 0 ((x).length), .top, .top, .top, .top, .top, .top, .top, .top, .top, .top, .top, .top, .top, .top, .top, .top, .top, .top], [.row (.f32 x) 0])
def spec_l03Column_l0_kill : List Nat := [0, 0, 1, 1, 1, 0, 0, 1, 1, 1, 1, 1, 1, 1, 1, 1, 1, 1, 1, 1, 1, 1, 1, 1]
def spec_l03Column_l0_nx : Exit → List Nat
  | .exit 0 => [1, 1, 1, 1, 1, 0, 1, 1, 1, 1, 1, 1, 1, 1, 1, 1, 1, 1, 1, 1, 1, 1, 1, 1]
  | .ret => [1, 1, 1, 1, 0, 1, 1, 1, 1, 1, 1, 1, 1, 1, 1, 1, 1, 1, 1, 1, 1, 1, 1, 1]
  | _ => []
noncomputable def spec_l03Column_LO (v55 : Int) (v56 : Int) (v57 : List Nat) (v58 : Int) : LOr := fun id e L =>
  match id with
  | 0 => .need (normA 0 spec_l03Column_l0_kill e L = some (spec_l03Column_l0_E v55 v56 v57 v58 ((gI (vAt e 6)), (gRF L (vAt e 5))))) (.call (spec_l03Column_l0_g v55 v56 v57 v58 ((gI (vAt e 6)), (gRF L (vAt e 5)))) fun x => .leaf (spec_l03Column_l0_X v55 v56 v57 v58 x))
  | _ => .fail
noncomputable def spec_l03Column_tab : List (FuncId × DFn × Bool) := [(59, spec_l02At_F, true)]
theorem spec_l03Column_hO : OrcOk Try.prog (tabD spec_l03Column_tab) (tabM spec_l03Column_tab) := tabD_cons spec_l02At_Fok (tabD_nil _)
theorem spec_l03Column_l0_be (v55 : Int) (v56 : Int) (v57 : List Nat) (v58 : Int) (s : Int × (List Nat)) : bodyT TT (tabD spec_l03Column_tab) (tabM spec_l03Column_tab) (spec_l03Column_LO v55 v56 v57 v58) 0 spec_l03Column_l0_kill spec_l03Column_l0_nx (bodyOf Try.f159 0) 0 (spec_l03Column_l0_E v55 v56 v57 v58 s) = (spec_l03Column_l0_T v55 v56 v57 v58 s).bind fun y => .leaf (outS (spec_l03Column_l0_E v55 v56 v57 v58) (spec_l03Column_l0_X v55 v56 v57 v58) y) := by kernel_rfl
theorem spec_l03Column_l0_ok (v55 : Int) (v56 : Int) (v57 : List Nat) (v58 : Int) : LSound Try.prog 0 (spec_l03Column_LO v55 v56 v57 v58) 0 (bodyOf Try.f159 0) := by
  intro e L out h
  exact lo_ok (E := spec_l03Column_l0_E v55 v56 v57 v58) (gT := spec_l03Column_l0_T v55 v56 v57 v58) (X := spec_l03Column_l0_X v55 v56 v57 v58) (s0 := ((gI (vAt e 6)), (gRF L (vAt e 5)))) tok spec_l03Column_hO mixed (LoopsOk_eq (l := []) (by kernel_rfl) trivial) (spec_l03Column_l0_be v55 v56 v57 v58) rfl (by intro x; rfl) h
noncomputable def spec_l03Column_T (v55 : Int) (v56 : Int) (v57 : List Nat) (v58 : Int) : Tree ((List Nat)) :=
  (.need (some (spec_l03Column_l0_E v55 v56 v57 v58 ((0 : Int), ([] : List Nat))) = some (spec_l03Column_l0_E v55 v56 v57 v58 ((0 : Int), ([] : List Nat)))) <|
  (.call (spec_l03Column_l0_g v55 v56 v57 v58 ((0 : Int), ([] : List Nat))) fun v72 =>
  .leaf v72))

noncomputable def spec_l03Column_g (v55 : Int) (v56 : Int) (v57 : List Nat) (v58 : Int) : Option ((List Nat)) := (spec_l03Column_T v55 v56 v57 v58).run
def spec_l03Column_enc (v55 : Int) (v56 : Int) (v57 : List Nat) (v58 : Int) (y : (List Nat)) : Rs := (.own 0 0 ((y).length), [.row (.f32 y) 0])
theorem spec_l03Column_den (v55 : Int) (v56 : Int) (v57 : List Nat) (v58 : Int) : (den TT (tabD spec_l03Column_tab) (tabM spec_l03Column_tab) (spec_l03Column_LO v55 v56 v57 v58) (codeOf Try.f159) ([.bptr (BR.root 0) [.int .i64 v55, .int .i64 v56, .bslc (BR.root 1) (.f32 v57)], .int .i64 v58] ++ List.replicate (Try.f159.ntmps - ([.bptr (BR.root 0) [.int .i64 v55, .int .i64 v56, .bslc (BR.root 1) (.f32 v57)], .int .i64 v58] : List DV).length) .undef) []).bind (retD TT Try.f159.results.toList 0) = (spec_l03Column_T v55 v56 v57 v58).bind fun y => .leaf (spec_l03Column_enc v55 v56 v57 v58 y) := by kernel_rfl
theorem spec_l03Column_fn (v55 : Int) (v56 : Int) (v57 : List Nat) (v58 : Int) (F : Fr) (hm : F.ids.length = 0) (h0 : St F [] F.H0) (hA : DVs.Ok F [] [.bptr (BR.root 0) [.int .i64 v55, .int .i64 v56, .bslc (BR.root 1) (.f32 v57)], .int .i64 v58]) {y : (List Nat)} (hy : spec_l03Column_g v55 v56 v57 v58 = some y) : ∃ H', FnOk Try.prog 159 (DVs.av F [.bptr (BR.root 0) [.int .i64 v55, .int .i64 v56, .bslc (BR.root 1) (.f32 v57)], .int .i64 v58]) F.H0 ((spec_l03Column_enc v55 v56 v57 v58 y).1.av F) H' ∧ St F (spec_l03Column_enc v55 v56 v57 v58 y).2 H' ∧ (spec_l03Column_enc v55 v56 v57 v58 y).1.Ok F (spec_l03Column_enc v55 v56 v57 v58 y).2 :=
  fn_fin tok spec_l03Column_hO mixed Try.func159 Try.call159 (by kernel_rfl) (LoopsOk_eq (l := [(0, bodyOf Try.f159 0)]) (by kernel_rfl) ⟨spec_l03Column_l0_ok v55 v56 v57 v58, trivial⟩) (spec_l03Column_den v55 v56 v57 v58) hy hm h0 hA
noncomputable def spec_l03Column_F : DFn := fun args L =>
  match args with
  | [a1, .int .i64 v58] =>
    optT (cellsOf L 3 a1) fun cs0 =>
    (match cs0 with
    | [.int .i64 v55, .int .i64 v56, a2] =>
    optT (rowF32 L a2) fun v57 =>
    .call (spec_l03Column_g v55 v56 v57 v58) fun y => .leaf (.own (L.length + 0) 0 ((y).length), L ++ [.row (.f32 y) 0])
    | _ => .fail)
  | _ => .fail
theorem spec_l03Column_Fok : COk Try.prog 159 spec_l03Column_F true := by
  intro F L H args r L' hs ha hr
  unfold spec_l03Column_F at hr
  split at hr
  · rename_i a1 v58
    obtain ⟨cs0, hcp0, hr⟩ := optT_run hr
    split at hr
    · rename_i v55 v56 a2
      obtain ⟨v57, hv57, hr⟩ := optT_run hr
      simp only [Tree.run] at hr
      obtain ⟨y, hy, hr⟩ := Option.bind_eq_some_iff.1 hr
      simp only [Tree.run, Option.some.injEq, Prod.mk.injEq] at hr
      obtain ⟨rfl, rfl⟩ := hr
      exact call_ok1 hs (fun k => (([a1.av F, a2.av F] : List AV)[k]?).getD .top) [a1, .int .i64 v58] [.bptr (BR.root 0) [.int .i64 v55, .int .i64 v56, .bslc (BR.root 1) (.f32 v57)], .int .i64 v58] (fun F' h0 hi hρ => ⟨by simp [DVs.av, DV.av, BR.av, hρ], spec_l03Column_fn v55 v56 v57 v58 F' (by rw [hi]; rfl) (st_nil hi) ⟨bptr_ok hi (by rw [h0]; simpa [DVs.av, DV.av, BR.av, hρ] using (cellsOf_ok hs (DVs.okAt ha 0 rfl) hcp0).1) ⟨trivial, trivial, bslc_ok hi (by rw [h0, hρ]; exact rowF32_ok hs (DVs.okAt (cellsOf_ok hs (DVs.okAt ha 0 rfl) hcp0).2 2 rfl) hv57), trivial⟩, trivial, trivial⟩ hy⟩) rfl rfl
    · cases hr
  · cases hr
/-! spec.l02Dot -/
noncomputable def spec_l02Dot_l0_T (v90 : List Nat) (v91 : List Nat) (s : Nat × Int) : Tree ((Nat × Int) ⊕ (Nat)) :=
  (.br (decide (s.2 < ((v90.length : Nat) : Int))) (
   (.grd (inb s.2 v90.length) <|
   (.grd (inb s.2 v91.length) <|
   .leaf (.inl (fadd .f32 s.1 (fmul .f32 (nth v90 (Int.toNat s.2)) (nth v91 (Int.toNat s.2))), IntKind.i64.wrap (s.2 + (1 : Int))))))
  ) (
   .leaf (.inr s.1)
  ))

noncomputable def spec_l02Dot_l0_g (v90 : List Nat) (v91 : List Nat) (s0 : Nat × Int) : Option (Nat) := whileM (fun s => (spec_l02Dot_l0_T v90 v91 s).run) s0
def spec_l02Dot_l0_E (v90 : List Nat) (v91 : List Nat) (s : Nat × Int) : Sd := ([.bslc (BR.root 0) (.f32 v90), .bslc (BR.root 1) (.f32 v91), .top, .top, .top, .flt .f32 s.1, .int .i64 s.2, .top, .top, .top, .top, .top, .top, .top, .top, .top, .top, .top, .top, .top, .top, .top, .top, .top, .top], [])
def spec_l02Dot_l0_X (v90 : List Nat) (v91 : List Nat) (x : Nat) : Out := (.normal, [.top, .top, .top, .top, .top, .flt .f32 x, .top, .top, .top, .top, .top, .top, .top, .top, .top, .top, .top, .top, .top, .top, .top, .top, .top, .top, .top], [])
def spec_l02Dot_l0_kill : List Nat := [0, 0, 1, 1, 1, 0, 0, 1, 1, 1, 1, 1, 1, 1, 1, 1, 1, 1, 1, 1, 1, 1, 1, 1, 1]
def spec_l02Dot_l0_nx : Exit → List Nat
  | .exit 0 => [1, 1, 1, 1, 1, 0, 1, 1, 1, 1, 1, 1, 1, 1, 1, 1, 1, 1, 1, 1, 1, 1, 1, 1, 1]
  | .ret => [1, 1, 1, 1, 0, 1, 1, 1, 1, 1, 1, 1, 1, 1, 1, 1, 1, 1, 1, 1, 1, 1, 1, 1, 1]
  | _ => []
noncomputable def spec_l02Dot_LO (v90 : List Nat) (v91 : List Nat) : LOr := fun id e L =>
  match id with
  | 0 => .need (normA 0 spec_l02Dot_l0_kill e L = some (spec_l02Dot_l0_E v90 v91 ((gF (vAt e 5)), (gI (vAt e 6))))) (.call (spec_l02Dot_l0_g v90 v91 ((gF (vAt e 5)), (gI (vAt e 6)))) fun x => .leaf (spec_l02Dot_l0_X v90 v91 x))
  | _ => .fail
noncomputable def spec_l02Dot_tab : List (FuncId × DFn × Bool) := []
theorem spec_l02Dot_hO : OrcOk Try.prog (tabD spec_l02Dot_tab) (tabM spec_l02Dot_tab) := tabD_nil _
theorem spec_l02Dot_l0_be (v90 : List Nat) (v91 : List Nat) (s : Nat × Int) : bodyT TT (tabD spec_l02Dot_tab) (tabM spec_l02Dot_tab) (spec_l02Dot_LO v90 v91) 0 spec_l02Dot_l0_kill spec_l02Dot_l0_nx (bodyOf Try.f160 0) 0 (spec_l02Dot_l0_E v90 v91 s) = (spec_l02Dot_l0_T v90 v91 s).bind fun y => .leaf (outS (spec_l02Dot_l0_E v90 v91) (spec_l02Dot_l0_X v90 v91) y) := by kernel_rfl
theorem spec_l02Dot_l0_ok (v90 : List Nat) (v91 : List Nat) : LSound Try.prog 0 (spec_l02Dot_LO v90 v91) 0 (bodyOf Try.f160 0) := by
  intro e L out h
  exact lo_ok (E := spec_l02Dot_l0_E v90 v91) (gT := spec_l02Dot_l0_T v90 v91) (X := spec_l02Dot_l0_X v90 v91) (s0 := ((gF (vAt e 5)), (gI (vAt e 6)))) tok spec_l02Dot_hO mixed (LoopsOk_eq (l := []) (by kernel_rfl) trivial) (spec_l02Dot_l0_be v90 v91) rfl (by intro x; rfl) h
noncomputable def spec_l02Dot_T (v90 : List Nat) (v91 : List Nat) : Tree (Nat) :=
  (.need (some (spec_l02Dot_l0_E v90 v91 ((0 : Nat), (0 : Int))) = some (spec_l02Dot_l0_E v90 v91 ((0 : Nat), (0 : Int)))) <|
  (.call (spec_l02Dot_l0_g v90 v91 ((0 : Nat), (0 : Int))) fun v98 =>
  .leaf v98))

noncomputable def spec_l02Dot_g (v90 : List Nat) (v91 : List Nat) : Option (Nat) := (spec_l02Dot_T v90 v91).run
def spec_l02Dot_enc (v90 : List Nat) (v91 : List Nat) (y : Nat) : Rs := (.flt .f32 y, [])
theorem spec_l02Dot_den (v90 : List Nat) (v91 : List Nat) : (den TT (tabD spec_l02Dot_tab) (tabM spec_l02Dot_tab) (spec_l02Dot_LO v90 v91) (codeOf Try.f160) ([.bslc (BR.root 0) (.f32 v90), .bslc (BR.root 1) (.f32 v91)] ++ List.replicate (Try.f160.ntmps - ([.bslc (BR.root 0) (.f32 v90), .bslc (BR.root 1) (.f32 v91)] : List DV).length) .undef) []).bind (retD TT Try.f160.results.toList 0) = (spec_l02Dot_T v90 v91).bind fun y => .leaf (spec_l02Dot_enc v90 v91 y) := by kernel_rfl
theorem spec_l02Dot_fn (v90 : List Nat) (v91 : List Nat) (F : Fr) (hm : F.ids.length = 0) (h0 : St F [] F.H0) (hA : DVs.Ok F [] [.bslc (BR.root 0) (.f32 v90), .bslc (BR.root 1) (.f32 v91)]) {y : Nat} (hy : spec_l02Dot_g v90 v91 = some y) : ∃ H', FnOk Try.prog 160 (DVs.av F [.bslc (BR.root 0) (.f32 v90), .bslc (BR.root 1) (.f32 v91)]) F.H0 ((spec_l02Dot_enc v90 v91 y).1.av F) H' ∧ St F (spec_l02Dot_enc v90 v91 y).2 H' ∧ (spec_l02Dot_enc v90 v91 y).1.Ok F (spec_l02Dot_enc v90 v91 y).2 :=
  fn_fin tok spec_l02Dot_hO mixed Try.func160 Try.call160 (by kernel_rfl) (LoopsOk_eq (l := [(0, bodyOf Try.f160 0)]) (by kernel_rfl) ⟨spec_l02Dot_l0_ok v90 v91, trivial⟩) (spec_l02Dot_den v90 v91) hy hm h0 hA
noncomputable def spec_l02Dot_F : DFn := fun args L =>
  match args with
  | [a1, a2] =>
    optT (rowF32 L a1) fun v90 =>
    optT (rowF32 L a2) fun v91 =>
    .call (spec_l02Dot_g v90 v91) fun y => .leaf (.flt .f32 y, L)
  | _ => .fail
theorem spec_l02Dot_Fok : COk Try.prog 160 spec_l02Dot_F true := by
  intro F L H args r L' hs ha hr
  unfold spec_l02Dot_F at hr
  split at hr
  · rename_i a1 a2
    obtain ⟨v90, hv90, hr⟩ := optT_run hr
    obtain ⟨v91, hv91, hr⟩ := optT_run hr
    simp only [Tree.run] at hr
    obtain ⟨y, hy, hr⟩ := Option.bind_eq_some_iff.1 hr
    simp only [Tree.run, Option.some.injEq, Prod.mk.injEq] at hr
    obtain ⟨rfl, rfl⟩ := hr
    exact call_ok0 hs (fun k => (([a1.av F, a2.av F] : List AV)[k]?).getD .top) [a1, a2] [.bslc (BR.root 0) (.f32 v90), .bslc (BR.root 1) (.f32 v91)] (fun F' h0 hi hρ => ⟨by simp [DVs.av, DV.av, BR.av, hρ], spec_l02Dot_fn v90 v91 F' (by rw [hi]; rfl) (st_nil hi) ⟨bslc_ok hi (by rw [h0, hρ]; exact rowF32_ok hs (DVs.okAt ha 0 rfl) hv90), bslc_ok hi (by rw [h0, hρ]; exact rowF32_ok hs (DVs.okAt ha 1 rfl) hv91), trivial⟩ hy⟩) rfl
  · cases hr
/-! math.Sqrt -/
noncomputable def math_Sqrt_LO (v579 : Nat) : LOr := fun id e L =>
  match id with
  | _ => .fail
noncomputable def math_Sqrt_tab : List (FuncId × DFn × Bool) := [(177, Sqrt_F, true)]
theorem math_Sqrt_hO : OrcOk Try.prog (tabD math_Sqrt_tab) (tabM math_Sqrt_tab) := tabD_cons Sqrt_Fok (tabD_nil _)
noncomputable def math_Sqrt_T (v579 : Nat) : Tree (Nat) :=
  .leaf (fsqrt v579)

noncomputable def math_Sqrt_g (v579 : Nat) : Option (Nat) := (math_Sqrt_T v579).run
def math_Sqrt_enc (v579 : Nat) (y : Nat) : Rs := (.flt .f64 y, [])
theorem math_Sqrt_den (v579 : Nat) : (den TT (tabD math_Sqrt_tab) (tabM math_Sqrt_tab) (math_Sqrt_LO v579) (codeOf Try.f157) ([.flt .f64 v579] ++ List.replicate (Try.f157.ntmps - ([.flt .f64 v579] : List DV).length) .undef) []).bind (retD TT Try.f157.results.toList 0) = (math_Sqrt_T v579).bind fun y => .leaf (math_Sqrt_enc v579 y) := by kernel_rfl
theorem math_Sqrt_fn (v579 : Nat) (F : Fr) (hm : F.ids.length = 0) (h0 : St F [] F.H0) (hA : DVs.Ok F [] [.flt .f64 v579]) {y : Nat} (hy : math_Sqrt_g v579 = some y) : ∃ H', FnOk Try.prog 157 (DVs.av F [.flt .f64 v579]) F.H0 ((math_Sqrt_enc v579 y).1.av F) H' ∧ St F (math_Sqrt_enc v579 y).2 H' ∧ (math_Sqrt_enc v579 y).1.Ok F (math_Sqrt_enc v579 y).2 :=
  fn_fin tok math_Sqrt_hO mixed Try.func157 Try.call157 (by kernel_rfl) (LoopsOk_eq (l := []) (by kernel_rfl) trivial) (math_Sqrt_den v579) hy hm h0 hA
def math_Sqrt_v (v579 : Nat) : Nat :=
  fsqrt v579
theorem math_Sqrt_tot (v579 : Nat) : math_Sqrt_g v579 = some (math_Sqrt_v v579) := by
  unfold math_Sqrt_g math_Sqrt_T math_Sqrt_v
  simp only [Tree.run]
  repeat' (first | rfl | split)
noncomputable def math_Sqrt_F : DFn := fun args L =>
  match args with
  | [.flt .f64 v579] =>
    .leaf (.flt .f64 (math_Sqrt_v v579), L)
  | _ => .fail
theorem math_Sqrt_Fok : COk Try.prog 157 math_Sqrt_F true := by
  intro F L H args r L' hs ha hr
  unfold math_Sqrt_F at hr
  split at hr
  · rename_i v579
    have hy := math_Sqrt_tot v579
    generalize math_Sqrt_v v579 = y at hy hr
    simp only [Tree.run, Option.some.injEq, Prod.mk.injEq] at hr
    obtain ⟨rfl, rfl⟩ := hr
    exact call_ok0 hs (fun k => (([] : List AV)[k]?).getD .top) [.flt .f64 v579] [.flt .f64 v579] (fun F' h0 hi hρ => ⟨by simp [DVs.av, DV.av, BR.av, hρ], math_Sqrt_fn v579 F' (by rw [hi]; rfl) (st_nil hi) ⟨trivial, trivial⟩ hy⟩) rfl
  · cases hr
/-! spec.l01Narrow -/
noncomputable def spec_l01Narrow_LO (v580 : Nat) : LOr := fun id e L =>
  match id with
  | _ => .fail
noncomputable def spec_l01Narrow_tab : List (FuncId × DFn × Bool) := []
theorem spec_l01Narrow_hO : OrcOk Try.prog (tabD spec_l01Narrow_tab) (tabM spec_l01Narrow_tab) := tabD_nil _
noncomputable def spec_l01Narrow_T (v580 : Nat) : Tree (Nat) :=
  (.call (fconv .f64 v580 .f32) fun v581 =>
  .leaf v581)

noncomputable def spec_l01Narrow_g (v580 : Nat) : Option (Nat) := (spec_l01Narrow_T v580).run
def spec_l01Narrow_enc (v580 : Nat) (y : Nat) : Rs := (.flt .f32 y, [])
theorem spec_l01Narrow_den (v580 : Nat) : (den TT (tabD spec_l01Narrow_tab) (tabM spec_l01Narrow_tab) (spec_l01Narrow_LO v580) (codeOf Try.f156) ([.flt .f64 v580] ++ List.replicate (Try.f156.ntmps - ([.flt .f64 v580] : List DV).length) .undef) []).bind (retD TT Try.f156.results.toList 0) = (spec_l01Narrow_T v580).bind fun y => .leaf (spec_l01Narrow_enc v580 y) := by kernel_rfl
theorem spec_l01Narrow_fn (v580 : Nat) (F : Fr) (hm : F.ids.length = 0) (h0 : St F [] F.H0) (hA : DVs.Ok F [] [.flt .f64 v580]) {y : Nat} (hy : spec_l01Narrow_g v580 = some y) : ∃ H', FnOk Try.prog 156 (DVs.av F [.flt .f64 v580]) F.H0 ((spec_l01Narrow_enc v580 y).1.av F) H' ∧ St F (spec_l01Narrow_enc v580 y).2 H' ∧ (spec_l01Narrow_enc v580 y).1.Ok F (spec_l01Narrow_enc v580 y).2 :=
  fn_fin tok spec_l01Narrow_hO mixed Try.func156 Try.call156 (by kernel_rfl) (LoopsOk_eq (l := []) (by kernel_rfl) trivial) (spec_l01Narrow_den v580) hy hm h0 hA
noncomputable def spec_l01Narrow_F : DFn := fun args L =>
  match args with
  | [.flt .f64 v580] =>
    .call (spec_l01Narrow_g v580) fun y => .leaf (.flt .f32 y, L)
  | _ => .fail
theorem spec_l01Narrow_Fok : COk Try.prog 156 spec_l01Narrow_F true := by
  intro F L H args r L' hs ha hr
  unfold spec_l01Narrow_F at hr
  split at hr
  · rename_i v580
    simp only [Tree.run] at hr
    obtain ⟨y, hy, hr⟩ := Option.bind_eq_some_iff.1 hr
    simp only [Tree.run, Option.some.injEq, Prod.mk.injEq] at hr
    obtain ⟨rfl, rfl⟩ := hr
    exact call_ok0 hs (fun k => (([] : List AV)[k]?).getD .top) [.flt .f64 v580] [.flt .f64 v580] (fun F' h0 hi hρ => ⟨by simp [DVs.av, DV.av, BR.av, hρ], spec_l01Narrow_fn v580 F' (by rw [hi]; rfl) (st_nil hi) ⟨trivial, trivial⟩ hy⟩) rfl
  · cases hr
/-! spec.l01Sqrt -/
noncomputable def spec_l01Sqrt_LO (v578 : Nat) : LOr := fun id e L =>
  match id with
  | _ => .fail
noncomputable def spec_l01Sqrt_tab : List (FuncId × DFn × Bool) := [(157, math_Sqrt_F, true), (156, spec_l01Narrow_F, true)]
theorem spec_l01Sqrt_hO : OrcOk Try.prog (tabD spec_l01Sqrt_tab) (tabM spec_l01Sqrt_tab) := tabD_cons math_Sqrt_Fok (tabD_cons spec_l01Narrow_Fok (tabD_nil _))
noncomputable def spec_l01Sqrt_T (v578 : Nat) : Tree (Nat) :=
  (.call (spec_l01Narrow_g (math_Sqrt_v (wid v578))) fun v582 =>
  .leaf v582)

noncomputable def spec_l01Sqrt_g (v578 : Nat) : Option (Nat) := (spec_l01Sqrt_T v578).run
def spec_l01Sqrt_enc (v578 : Nat) (y : Nat) : Rs := (.flt .f32 y, [])
theorem spec_l01Sqrt_den (v578 : Nat) : (den TT (tabD spec_l01Sqrt_tab) (tabM spec_l01Sqrt_tab) (spec_l01Sqrt_LO v578) (codeOf Try.f110) ([.flt .f32 v578] ++ List.replicate (Try.f110.ntmps - ([.flt .f32 v578] : List DV).length) .undef) []).bind (retD TT Try.f110.results.toList 0) = (spec_l01Sqrt_T v578).bind fun y => .leaf (spec_l01Sqrt_enc v578 y) := by kernel_rfl
theorem spec_l01Sqrt_fn (v578 : Nat) (F : Fr) (hm : F.ids.length = 0) (h0 : St F [] F.H0) (hA : DVs.Ok F [] [.flt .f32 v578]) {y : Nat} (hy : spec_l01Sqrt_g v578 = some y) : ∃ H', FnOk Try.prog 110 (DVs.av F [.flt .f32 v578]) F.H0 ((spec_l01Sqrt_enc v578 y).1.av F) H' ∧ St F (spec_l01Sqrt_enc v578 y).2 H' ∧ (spec_l01Sqrt_enc v578 y).1.Ok F (spec_l01Sqrt_enc v578 y).2 :=
  fn_fin tok spec_l01Sqrt_hO mixed Try.func110 Try.call110 (by kernel_rfl) (LoopsOk_eq (l := []) (by kernel_rfl) trivial) (spec_l01Sqrt_den v578) hy hm h0 hA
noncomputable def spec_l01Sqrt_F : DFn := fun args L =>
  match args with
  | [.flt .f32 v578] =>
    .call (spec_l01Sqrt_g v578) fun y => .leaf (.flt .f32 y, L)
  | _ => .fail
theorem spec_l01Sqrt_Fok : COk Try.prog 110 spec_l01Sqrt_F true := by
  intro F L H args r L' hs ha hr
  unfold spec_l01Sqrt_F at hr
  split at hr
  · rename_i v578
    simp only [Tree.run] at hr
    obtain ⟨y, hy, hr⟩ := Option.bind_eq_some_iff.1 hr
    simp only [Tree.run, Option.some.injEq, Prod.mk.injEq] at hr
    obtain ⟨rfl, rfl⟩ := hr
    exact call_ok0 hs (fun k => (([] : List AV)[k]?).getD .top) [.flt .f32 v578] [.flt .f32 v578] (fun F' h0 hi hρ => ⟨by simp [DVs.av, DV.av, BR.av, hρ], spec_l01Sqrt_fn v578 F' (by rw [hi]; rfl) (st_nil hi) ⟨trivial, trivial⟩ hy⟩) rfl
  · cases hr
/-! spec.l03Mirror -/
noncomputable def spec_l03Mirror_l6_T (v1722 : Int) (v1723 : Int) (v1724 : Int) (v1725 : Nat) (v1726 : Int) (v1728 : Int) (v1729 : Int) (v1730 : Int) (v1731 : Int) (v1733 : List Nat) (v1734 : List Nat) (v1735 : List Nat) (s : Int × (List Nat)) : Tree ((Int × (List Nat)) ⊕ ((List Nat))) :=
  (.br (decide (s.1 < v1726)) (
   (.grd (inb s.1 ((s.2).length)) <|
   (.grd (inb s.1 ((v1733).length)) <|
   (.grd (inb s.1 ((s.2).length)) <|
   .leaf (.inl (IntKind.i64.wrap (s.1 + (1 : Int)), List.set s.2 (Int.toNat s.1) (fsub .f32 (nth s.2 (Int.toNat s.1)) (fmul .f32 v1725 (nth v1733 (Int.toNat s.1)))))))))
  ) (
   .leaf (.inr s.2)
  ))

noncomputable def spec_l03Mirror_l6_g (v1722 : Int) (v1723 : Int) (v1724 : Int) (v1725 : Nat) (v1726 : Int) (v1728 : Int) (v1729 : Int) (v1730 : Int) (v1731 : Int) (v1733 : List Nat) (v1734 : List Nat) (v1735 : List Nat) (s0 : Int × (List Nat)) : Option ((List Nat)) := whileM (fun s => (spec_l03Mirror_l6_T v1722 v1723 v1724 v1725 v1726 v1728 v1729 v1730 v1731 v1733 v1734 v1735 s).run) s0
def spec_l03Mirror_l6_E (v43 : Int) (v44 : Int) (v45 : List Nat) (v1722 : Int) (v1723 : Int) (v1724 : Int) (v1725 : Nat) (v1726 : Int) (v1728 : Int) (v1729 : Int) (v1730 : Int) (v1731 : Int) (v1733 : List Nat) (v1734 : List Nat) (v1735 : List Nat) (s : Int × (List Nat)) : Sd := ([.bptr (BR.root 0) [.int .i64 v43, .int .i64 v44, .bslc (BR.root 1) (.f32 v45)], .top, .ptr 0 (0 : Nat) 0 (3 : Nat), .ptr 1 (0 : Nat) 0 (3 : Nat), .top, .ptr 2 (0 : Nat) 0 (3 : Nat), .ptr 3 (0 : Nat) 0 (3 : Nat), .int .i64 v1722, .own 4 0 ((s.2).length), .int .i64 v1723, .int .i64 v1724, .own 5 0 ((v1733).length), .flt .f32 v1725, .top, .top, .top, .top, .top, .top, .top, .top, .top, .top, .top, .top, .top, .top, .top, .top, .top, .top, .top, .top, .top, .top, .top, .top, .top, .top, .top, .top, .top, .top, .top, .top, .top, .top, .top, .top, .top, .top, .top, .top, .top, .top, .top, .top, .top, .top, .top, .top, .top, .top, .top, .top, .top, .top, .top, .top, .top, .top, .top, .top, .top, .int .i64 v1726, .int .i64 s.1, .top, .top, .top, .top, .top, .top, .top, .top, .top, .top, .top, .top, .top, .top, .top, .top, .top, .top, .top, .top, .top, .top, .top, .top, .top, .top, .top, .top, .top, .top, .top, .top, .top, .top, .top, .top, .top, .top, .top, .top, .top, .top, .top, .top, .top, .top, .top, .top, .top, .top, .top, .top, .top, .top, .top, .top, .top, .top, .top, .top, .top, .top, .top], [.gen [.int .i64 (0 : Int), .int .i64 (0 : Int), .nilslc] false 0, .gen [.int .i64 (0 : Int), .int .i64 (0 : Int), .nilslc] false 0, .gen [.int .i64 v1728, .int .i64 v1729, .own 6 0 ((v1734).length)] false 0, .gen [.int .i64 v1730, .int .i64 v1731, .own 7 0 ((v1735).length)] false 0, .row (.f32 s.2) 0, .row (.f32 v1733) 0, .row (.f32 v1734) 0, .row (.f32 v1735) 0])
def spec_l03Mirror_l6_X (v43 : Int) (v44 : Int) (v45 : List Nat) (v1722 : Int) (v1723 : Int) (v1724 : Int) (v1725 : Nat) (v1726 : Int) (v1728 : Int) (v1729 : Int) (v1730 : Int) (v1731 : Int) (v1733 : List Nat) (v1734 : List Nat) (v1735 : List Nat) (x : (List Nat)) : Out := (.normal, [.bptr (BR.root 0) [.int .i64 v43, .int .i64 v44, .bslc (BR.root 1) (.f32 v45)], .top, .ptr 0 (0 : Nat) 0 (3 : Nat), .ptr 1 (0 : Nat) 0 (3 : Nat), .top, .ptr 2 (0 : Nat) 0 (3 : Nat), .ptr 3 (0 : Nat) 0 (3 : Nat), .int .i64 v1722, .own 4 0 ((x).length), .int .i64 v1723, .int .i64 v1724, .top, .top, .top, .top, .top, .top, .top, .top, .top, .top, .top, .top, .top, .top, .top, .top, .top, .top, .top, .top, .top, .top, .top, .top, .top, .top, .top, .top, .top, .top, .top, .top, .top, .top, .top, .top, .top, .top, .top, .top, .top, .top, .top, .top, .top, .top, .top, .top, .top, .top, .top, .top, .top, .top, .top, .top, .top, .top, .top, .top, .top, .top, .top, .top, .top, .top, .top, .top, .top, .top, .top, .top, .top, .top, .top, .top, .top, .top, .top, .top, .top, .top, .top, .top, .top, .top, .top, .top, .top, .top, .top, .top, .top, .top, .top, .top, .top, .top, .top, .top, .top, .top, .top, .top, .top, .top, .top, .top, .top, .top, .top, .top, .top, .top, .top, .top, .top, .top, .top, .top, .top, .top, .top, .top, .top, .top, .top, .top], [.gen [.int .i64 (0 : Int), .int .i64 (0 : Int), .nilslc] false 0, .gen [.int .i64 (0 : Int), .int .i64 (0 : Int), .nilslc] false 0, .gen [.int .i64 v1728, .int .i64 v1729, .own 5 0 ((v1734).length)] false 0, .gen [.int .i64 v1730, .int .i64 v1731, .own 6 0 ((v1735).length)] false 0, .row (.f32 x) 0, .row (.f32 v1734) 0, .row (.f32 v1735) 0])
def spec_l03Mirror_l6_kill : List Nat := [0, 1, 0, 0, 1, 0, 0, 0, 0, 0, 0, 0, 0, 1, 1, 1, 1, 1, 1, 1, 1, 1, 1, 1, 1, 1, 1, 1, 1, 1, 1, 1, 1, 1, 1, 1, 1, 1, 1, 1, 1, 1, 1, 1, 1, 1, 1, 1, 1, 1, 1, 1, 1, 1, 1, 1, 1, 1, 1, 1, 1, 1, 1, 1, 1, 1, 1, 1, 1, 1, 1, 1, 1, 1, 0, 0, 1, 1, 1, 1, 1, 1, 1, 1, 1, 1, 1, 1, 1, 1, 1, 1, 1, 1, 1, 1, 1, 1, 1, 1, 1, 1, 1, 1, 1, 1, 1, 1, 1, 1, 1, 1, 1, 1, 1, 1, 1, 1, 1, 1, 1, 1, 1, 1, 1, 1, 1, 1, 1, 1, 1, 1, 1, 1, 1, 1, 1, 1, 1]
def spec_l03Mirror_l6_nx : Exit → List Nat
  | .exit 0 => [1, 1, 0, 0, 1, 0, 0, 1, 1, 1, 1, 1, 1, 1, 1, 1, 1, 1, 1, 1, 1, 1, 1, 1, 1, 1, 1, 1, 1, 1, 1, 1, 1, 1, 1, 1, 1, 1, 1, 1, 1, 1, 1, 1, 1, 1, 1, 1, 1, 1, 1, 1, 1, 1, 1, 1, 1, 1, 1, 1, 1, 1, 1, 1, 1, 1, 1, 1, 1, 1, 1, 1, 1, 1, 1, 1, 1, 1, 1, 1, 1, 1, 1, 1, 1, 1, 1, 1, 1, 1, 1, 1, 1, 1, 1, 1, 1, 1, 1, 1, 1, 1, 1, 1, 1, 1, 1, 1, 1, 1, 1, 1, 1, 1, 1, 1, 1, 1, 1, 1, 1, 1, 1, 1, 1, 1, 1, 1, 1, 1, 1, 1, 1, 1, 1, 1, 1, 1, 1]
  | .exit 1 => [0, 1, 0, 0, 1, 0, 0, 0, 1, 1, 1, 1, 1, 1, 1, 1, 1, 1, 1, 1, 1, 1, 1, 1, 1, 1, 1, 1, 1, 1, 1, 1, 1, 1, 1, 1, 1, 1, 1, 1, 1, 1, 1, 1, 1, 1, 1, 1, 1, 1, 1, 1, 1, 1, 1, 1, 1, 1, 1, 1, 1, 1, 1, 1, 1, 1, 1, 1, 1, 1, 1, 1, 1, 1, 1, 1, 1, 1, 1, 1, 1, 1, 1, 1, 1, 1, 1, 1, 1, 1, 1, 1, 1, 1, 1, 1, 1, 1, 1, 1, 1, 1, 1, 1, 1, 1, 1, 1, 1, 1, 1, 1, 1, 1, 1, 1, 1, 1, 1, 1, 1, 1, 1, 1, 1, 1, 1, 1, 1, 1, 1, 1, 1, 1, 1, 1, 1, 1, 1]
  | .exit 2 => [0, 1, 0, 0, 1, 0, 0, 0, 0, 1, 1, 1, 1, 1, 1, 1, 1, 1, 1, 1, 1, 1, 1, 1, 1, 1, 1, 1, 1, 1, 1, 1, 1, 1, 1, 1, 1, 1, 1, 1, 1, 1, 1, 1, 1, 1, 1, 1, 1, 1, 1, 1, 1, 1, 1, 1, 1, 1, 1, 1, 1, 1, 1, 1, 1, 1, 1, 1, 1, 1, 1, 1, 1, 1, 1, 1, 1, 1, 1, 1, 1, 1, 1, 1, 1, 1, 1, 1, 1, 1, 1, 1, 1, 1, 1, 1, 1, 1, 1, 1, 1, 1, 1, 1, 1, 1, 1, 1, 1, 1, 1, 1, 1, 1, 1, 1, 1, 1, 1, 1, 1, 1, 1, 1, 1, 1, 1, 1, 1, 1, 1, 1, 1, 1, 1, 1, 1, 1, 1]
  | .exit 3 => [0, 1, 0, 0, 1, 0, 0, 0, 0, 0, 1, 1, 1, 1, 1, 1, 1, 1, 1, 1, 1, 1, 1, 1, 1, 1, 1, 1, 1, 1, 1, 1, 1, 1, 1, 1, 1, 1, 1, 1, 1, 1, 1, 1, 1, 1, 1, 1, 1, 1, 1, 1, 1, 1, 1, 1, 1, 1, 1, 1, 1, 1, 1, 1, 1, 1, 1, 1, 1, 1, 1, 1, 1, 1, 1, 1, 1, 1, 1, 1, 1, 1, 1, 1, 1, 1, 1, 1, 1, 1, 1, 1, 1, 1, 1, 1, 1, 1, 1, 1, 1, 1, 1, 1, 1, 1, 1, 1, 1, 1, 1, 1, 1, 1, 1, 1, 1, 1, 1, 1, 1, 1, 1, 1, 1, 1, 1, 1, 1, 1, 1, 1, 1, 1, 1, 1, 1, 1, 1]
  | .exit 4 => [0, 1, 0, 0, 1, 0, 0, 0, 0, 0, 1, 1, 1, 1, 1, 1, 1, 1, 1, 1, 1, 1, 1, 1, 1, 1, 1, 1, 1, 1, 1, 1, 1, 1, 1, 1, 1, 1, 1, 1, 1, 1, 1, 1, 1, 1, 1, 1, 1, 1, 1, 1, 1, 1, 1, 1, 1, 1, 1, 1, 1, 1, 1, 1, 1, 1, 1, 1, 1, 1, 1, 1, 1, 1, 1, 1, 1, 1, 1, 1, 1, 1, 1, 1, 1, 1, 1, 1, 1, 1, 1, 1, 1, 1, 1, 1, 1, 1, 1, 1, 1, 1, 1, 1, 1, 1, 1, 1, 1, 1, 1, 1, 1, 1, 1, 1, 1, 1, 1, 1, 1, 1, 1, 1, 1, 1, 1, 1, 1, 1, 1, 1, 1, 1, 1, 1, 1, 1, 1]
  | .exit 5 => [0, 1, 0, 0, 1, 0, 0, 0, 0, 0, 0, 1, 1, 1, 1, 1, 1, 1, 1, 1, 1, 1, 1, 1, 1, 1, 1, 1, 1, 1, 1, 1, 1, 1, 1, 1, 1, 1, 1, 1, 1, 1, 1, 1, 1, 1, 1, 1, 1, 1, 1, 1, 1, 1, 1, 1, 1, 1, 1, 1, 1, 1, 1, 1, 1, 1, 1, 1, 1, 1, 1, 1, 1, 1, 1, 1, 1, 1, 1, 1, 1, 1, 1, 1, 1, 1, 1, 1, 1, 1, 1, 1, 1, 1, 1, 1, 1, 1, 1, 1, 1, 1, 1, 1, 1, 1, 1, 1, 1, 1, 1, 1, 1, 1, 1, 1, 1, 1, 1, 1, 1, 1, 1, 1, 1, 1, 1, 1, 1, 1, 1, 1, 1, 1, 1, 1, 1, 1, 1]
  | .exit 6 => [0, 1, 0, 0, 1, 0, 0, 0, 0, 0, 0, 1, 1, 1, 1, 1, 1, 1, 1, 1, 1, 1, 1, 1, 1, 1, 1, 1, 1, 1, 1, 1, 1, 1, 1, 1, 1, 1, 1, 1, 1, 1, 1, 1, 1, 1, 1, 1, 1, 1, 1, 1, 1, 1, 1, 1, 1, 1, 1, 1, 1, 1, 1, 1, 1, 1, 1, 1, 1, 1, 1, 1, 1, 1, 1, 1, 1, 1, 1, 1, 1, 1, 1, 1, 1, 1, 1, 1, 1, 1, 1, 1, 1, 1, 1, 1, 1, 1, 1, 1, 1, 1, 1, 1, 1, 1, 1, 1, 1, 1, 1, 1, 1, 1, 1, 1, 1, 1, 1, 1, 1, 1, 1, 1, 1, 1, 1, 1, 1, 1, 1, 1, 1, 1, 1, 1, 1, 1, 1]
  | .ret => [1, 1, 0, 0, 0, 1, 1, 1, 1, 1, 1, 1, 1, 1, 1, 1, 1, 1, 1, 1, 1, 1, 1, 1, 1, 1, 1, 1, 1, 1, 1, 1, 1, 1, 1, 1, 1, 1, 1, 1, 1, 1, 1, 1, 1, 1, 1, 1, 1, 1, 1, 1, 1, 1, 1, 1, 1, 1, 1, 1, 1, 1, 1, 1, 1, 1, 1, 1, 1, 1, 1, 1, 1, 1, 1, 1, 1, 1, 1, 1, 1, 1, 1, 1, 1, 1, 1, 1, 1, 1, 1, 1, 1, 1, 1, 1, 1, 1, 1, 1, 1, 1, 1, 1, 1, 1, 1, 1, 1, 1, 1, 1, 1, 1, 1, 1, 1, 1, 1, 1, 1, 1, 1, 1, 1, 1, 1, 1, 1, 1, 1, 1, 1, 1, 1, 1, 1, 1, 1]
  | _ => []
noncomputable def spec_l03Mirror_l4_T (v43 : Int) (v44 : Int) (v45 : List Nat) (v1681 : Int) (v1682 : Int) (v1684 : Int) (v1685 : Int) (v1686 : Int) (v1687 : Int) (v1689 : List Nat) (s : Int × (List Nat) × (List Nat)) : Tree ((Int × (List Nat) × (List Nat)) ⊕ ((List Nat) × (List Nat))) :=
  (.br (decide (s.1 < v1681)) (
   (.call (spec_l03Column_g v1684 v1685 v1689 s.1) fun v1691 =>
   (.call (spec_l02Dot_g v1691 s.2.1) fun v1692 =>
   (.call (spec_l02At_g v1687 s.2.2 s.1 v1681) fun v1693 =>
   (.grd (inb (IntKind.i64.wrap ((IntKind.i64.wrap (s.1 * v1687)) + v1681)) ((s.2.2).length)) <|
   (.need (some (spec_l03Mirror_l6_E v43 v44 v45 v1681 v1682 s.1 v1692 (((s.2.1).length : Nat) : Int) v1684 v1685 v1686 v1687 v1691 v1689 (List.set s.2.2 (Int.toNat (IntKind.i64.wrap ((IntKind.i64.wrap (s.1 * v1687)) + v1681))) (fadd .f32 v1693 v1692)) ((0 : Int), s.2.1)) = some (spec_l03Mirror_l6_E v43 v44 v45 v1681 v1682 s.1 v1692 (((s.2.1).length : Nat) : Int) v1684 v1685 v1686 v1687 v1691 v1689 (List.set s.2.2 (Int.toNat (IntKind.i64.wrap ((IntKind.i64.wrap (s.1 * v1687)) + v1681))) (fadd .f32 v1693 v1692)) ((0 : Int), s.2.1))) <|
   (.call (spec_l03Mirror_l6_g v1681 v1682 s.1 v1692 (((s.2.1).length : Nat) : Int) v1684 v1685 v1686 v1687 v1691 v1689 (List.set s.2.2 (Int.toNat (IntKind.i64.wrap ((IntKind.i64.wrap (s.1 * v1687)) + v1681))) (fadd .f32 v1693 v1692)) ((0 : Int), s.2.1)) fun v1736 =>
   .leaf (.inl (IntKind.i64.wrap (s.1 + (1 : Int)), v1736, (List.set s.2.2 (Int.toNat (IntKind.i64.wrap ((IntKind.i64.wrap (s.1 * v1687)) + v1681))) (fadd .f32 v1693 v1692))))))))))
  ) (
   .leaf (.inr (s.2.1, s.2.2))
  ))

noncomputable def spec_l03Mirror_l4_g (v43 : Int) (v44 : Int) (v45 : List Nat) (v1681 : Int) (v1682 : Int) (v1684 : Int) (v1685 : Int) (v1686 : Int) (v1687 : Int) (v1689 : List Nat) (s0 : Int × (List Nat) × (List Nat)) : Option ((List Nat) × (List Nat)) := whileM (fun s => (spec_l03Mirror_l4_T v43 v44 v45 v1681 v1682 v1684 v1685 v1686 v1687 v1689 s).run) s0
def spec_l03Mirror_l4_E (v43 : Int) (v44 : Int) (v45 : List Nat) (v1681 : Int) (v1682 : Int) (v1684 : Int) (v1685 : Int) (v1686 : Int) (v1687 : Int) (v1689 : List Nat) (s : Int × (List Nat) × (List Nat)) : Sd := ([.bptr (BR.root 0) [.int .i64 v43, .int .i64 v44, .bslc (BR.root 1) (.f32 v45)], .top, .ptr 0 (0 : Nat) 0 (3 : Nat), .ptr 1 (0 : Nat) 0 (3 : Nat), .top, .ptr 2 (0 : Nat) 0 (3 : Nat), .ptr 3 (0 : Nat) 0 (3 : Nat), .int .i64 v1681, .own 4 0 ((s.2.1).length), .int .i64 v1682, .int .i64 s.1, .top, .top, .top, .top, .top, .top, .top, .top, .top, .top, .top, .top, .top, .top, .top, .top, .top, .top, .top, .top, .top, .top, .top, .top, .top, .top, .top, .top, .top, .top, .top, .top, .top, .top, .top, .top, .top, .top, .top, .top, .top, .top, .top, .top, .top, .top, .top, .top, .top, .top, .top, .top, .top, .top, .top, .top, .top, .top, .top, .top, .top, .top, .top, .top, .top, .top, .top, .top, .top, .top, .top, .top, .top, .top, .top, .top, .top, .top, .top, .top, .top, .top, .top, .top, .top, .top, .top, .top, .top, .top, .top, .top, .top, .top, .top, .top, .top, .top, .top, .top, .top, .top, .top, .top, .top, .top, .top, .top, .top, .top, .top, .top, .top, .top, .top, .top, .top, .top, .top, .top, .top, .top, .top, .top, .top, .top, .top, .top], [.gen [.int .i64 (0 : Int), .int .i64 (0 : Int), .nilslc] false 0, .gen [.int .i64 (0 : Int), .int .i64 (0 : Int), .nilslc] false 0, .gen [.int .i64 v1684, .int .i64 v1685, .own 5 0 ((v1689).length)] false 0, .gen [.int .i64 v1686, .int .i64 v1687, .own 6 0 ((s.2.2).length)] false 0, .row (.f32 s.2.1) 0, .row (.f32 v1689) 0, .row (.f32 s.2.2) 0])
def spec_l03Mirror_l4_X (v43 : Int) (v44 : Int) (v45 : List Nat) (v1681 : Int) (v1682 : Int) (v1684 : Int) (v1685 : Int) (v1686 : Int) (v1687 : Int) (v1689 : List Nat) (x : (List Nat) × (List Nat)) : Out := (.normal, [.bptr (BR.root 0) [.int .i64 v43, .int .i64 v44, .bslc (BR.root 1) (.f32 v45)], .top, .ptr 0 (0 : Nat) 0 (3 : Nat), .ptr 1 (0 : Nat) 0 (3 : Nat), .top, .ptr 2 (0 : Nat) 0 (3 : Nat), .ptr 3 (0 : Nat) 0 (3 : Nat), .int .i64 v1681, .own 4 0 ((x.1).length), .int .i64 v1682, .top, .top, .top, .top, .top, .top, .top, .top, .top, .top, .top, .top, .top, .top, .top, .top, .top, .top, .top, .top, .top, .top, .top, .top, .top, .top, .top, .top, .top, .top, .top, .top, .top, .top, .top, .top, .top, .top, .top, .top, .top, .top, .top, .top, .top, .top, .top, .top, .top, .top, .top, .top, .top, .top, .top, .top, .top, .top, .top, .top, .top, .top, .top, .top, .top, .top, .top, .top, .top, .top, .top, .top, .top, .top, .top, .top, .top, .top, .top, .top, .top, .top, .top, .top, .top, .top, .top, .top, .top, .top, .top, .top, .top, .top, .top, .top, .top, .top, .top, .top, .top, .top, .top, .top, .top, .top, .top, .top, .top, .top, .top, .top, .top, .top, .top, .top, .top, .top, .top, .top, .top, .top, .top, .top, .top, .top, .top, .top, .top], [.gen [.int .i64 (0 : Int), .int .i64 (0 : Int), .nilslc] false 0, .gen [.int .i64 (0 : Int), .int .i64 (0 : Int), .nilslc] false 0, .gen [.int .i64 v1684, .int .i64 v1685, .own 5 0 ((v1689).length)] false 0, .gen [.int .i64 v1686, .int .i64 v1687, .own 6 0 ((x.2).length)] false 0, .row (.f32 x.1) 0, .row (.f32 v1689) 0, .row (.f32 x.2) 0])
def spec_l03Mirror_l4_kill : List Nat := [0, 1, 0, 0, 1, 0, 0, 0, 0, 0, 0, 1, 1, 1, 1, 1, 1, 1, 1, 1, 1, 1, 1, 1, 1, 1, 1, 1, 1, 1, 1, 1, 1, 1, 1, 1, 1, 1, 1, 1, 1, 1, 1, 1, 1, 1, 1, 1, 1, 1, 1, 1, 1, 1, 1, 1, 1, 1, 1, 1, 1, 1, 1, 1, 1, 1, 1, 1, 1, 1, 1, 1, 1, 1, 1, 1, 1, 1, 1, 1, 1, 1, 1, 1, 1, 1, 1, 1, 1, 1, 1, 1, 1, 1, 1, 1, 1, 1, 1, 1, 1, 1, 1, 1, 1, 1, 1, 1, 1, 1, 1, 1, 1, 1, 1, 1, 1, 1, 1, 1, 1, 1, 1, 1, 1, 1, 1, 1, 1, 1, 1, 1, 1, 1, 1, 1, 1, 1, 1]
def spec_l03Mirror_l4_nx : Exit → List Nat
  | .exit 0 => [1, 1, 0, 0, 1, 0, 0, 1, 1, 1, 1, 1, 1, 1, 1, 1, 1, 1, 1, 1, 1, 1, 1, 1, 1, 1, 1, 1, 1, 1, 1, 1, 1, 1, 1, 1, 1, 1, 1, 1, 1, 1, 1, 1, 1, 1, 1, 1, 1, 1, 1, 1, 1, 1, 1, 1, 1, 1, 1, 1, 1, 1, 1, 1, 1, 1, 1, 1, 1, 1, 1, 1, 1, 1, 1, 1, 1, 1, 1, 1, 1, 1, 1, 1, 1, 1, 1, 1, 1, 1, 1, 1, 1, 1, 1, 1, 1, 1, 1, 1, 1, 1, 1, 1, 1, 1, 1, 1, 1, 1, 1, 1, 1, 1, 1, 1, 1, 1, 1, 1, 1, 1, 1, 1, 1, 1, 1, 1, 1, 1, 1, 1, 1, 1, 1, 1, 1, 1, 1]
  | .exit 1 => [0, 1, 0, 0, 1, 0, 0, 0, 1, 1, 1, 1, 1, 1, 1, 1, 1, 1, 1, 1, 1, 1, 1, 1, 1, 1, 1, 1, 1, 1, 1, 1, 1, 1, 1, 1, 1, 1, 1, 1, 1, 1, 1, 1, 1, 1, 1, 1, 1, 1, 1, 1, 1, 1, 1, 1, 1, 1, 1, 1, 1, 1, 1, 1, 1, 1, 1, 1, 1, 1, 1, 1, 1, 1, 1, 1, 1, 1, 1, 1, 1, 1, 1, 1, 1, 1, 1, 1, 1, 1, 1, 1, 1, 1, 1, 1, 1, 1, 1, 1, 1, 1, 1, 1, 1, 1, 1, 1, 1, 1, 1, 1, 1, 1, 1, 1, 1, 1, 1, 1, 1, 1, 1, 1, 1, 1, 1, 1, 1, 1, 1, 1, 1, 1, 1, 1, 1, 1, 1]
  | .exit 2 => [0, 1, 0, 0, 1, 0, 0, 0, 0, 1, 1, 1, 1, 1, 1, 1, 1, 1, 1, 1, 1, 1, 1, 1, 1, 1, 1, 1, 1, 1, 1, 1, 1, 1, 1, 1, 1, 1, 1, 1, 1, 1, 1, 1, 1, 1, 1, 1, 1, 1, 1, 1, 1, 1, 1, 1, 1, 1, 1, 1, 1, 1, 1, 1, 1, 1, 1, 1, 1, 1, 1, 1, 1, 1, 1, 1, 1, 1, 1, 1, 1, 1, 1, 1, 1, 1, 1, 1, 1, 1, 1, 1, 1, 1, 1, 1, 1, 1, 1, 1, 1, 1, 1, 1, 1, 1, 1, 1, 1, 1, 1, 1, 1, 1, 1, 1, 1, 1, 1, 1, 1, 1, 1, 1, 1, 1, 1, 1, 1, 1, 1, 1, 1, 1, 1, 1, 1, 1, 1]
  | .exit 3 => [0, 1, 0, 0, 1, 0, 0, 0, 0, 0, 1, 1, 1, 1, 1, 1, 1, 1, 1, 1, 1, 1, 1, 1, 1, 1, 1, 1, 1, 1, 1, 1, 1, 1, 1, 1, 1, 1, 1, 1, 1, 1, 1, 1, 1, 1, 1, 1, 1, 1, 1, 1, 1, 1, 1, 1, 1, 1, 1, 1, 1, 1, 1, 1, 1, 1, 1, 1, 1, 1, 1, 1, 1, 1, 1, 1, 1, 1, 1, 1, 1, 1, 1, 1, 1, 1, 1, 1, 1, 1, 1, 1, 1, 1, 1, 1, 1, 1, 1, 1, 1, 1, 1, 1, 1, 1, 1, 1, 1, 1, 1, 1, 1, 1, 1, 1, 1, 1, 1, 1, 1, 1, 1, 1, 1, 1, 1, 1, 1, 1, 1, 1, 1, 1, 1, 1, 1, 1, 1]
  | .exit 4 => [0, 1, 0, 0, 1, 0, 0, 0, 0, 0, 1, 1, 1, 1, 1, 1, 1, 1, 1, 1, 1, 1, 1, 1, 1, 1, 1, 1, 1, 1, 1, 1, 1, 1, 1, 1, 1, 1, 1, 1, 1, 1, 1, 1, 1, 1, 1, 1, 1, 1, 1, 1, 1, 1, 1, 1, 1, 1, 1, 1, 1, 1, 1, 1, 1, 1, 1, 1, 1, 1, 1, 1, 1, 1, 1, 1, 1, 1, 1, 1, 1, 1, 1, 1, 1, 1, 1, 1, 1, 1, 1, 1, 1, 1, 1, 1, 1, 1, 1, 1, 1, 1, 1, 1, 1, 1, 1, 1, 1, 1, 1, 1, 1, 1, 1, 1, 1, 1, 1, 1, 1, 1, 1, 1, 1, 1, 1, 1, 1, 1, 1, 1, 1, 1, 1, 1, 1, 1, 1]
  | .ret => [1, 1, 0, 0, 0, 1, 1, 1, 1, 1, 1, 1, 1, 1, 1, 1, 1, 1, 1, 1, 1, 1, 1, 1, 1, 1, 1, 1, 1, 1, 1, 1, 1, 1, 1, 1, 1, 1, 1, 1, 1, 1, 1, 1, 1, 1, 1, 1, 1, 1, 1, 1, 1, 1, 1, 1, 1, 1, 1, 1, 1, 1, 1, 1, 1, 1, 1, 1, 1, 1, 1, 1, 1, 1, 1, 1, 1, 1, 1, 1, 1, 1, 1, 1, 1, 1, 1, 1, 1, 1, 1, 1, 1, 1, 1, 1, 1, 1, 1, 1, 1, 1, 1, 1, 1, 1, 1, 1, 1, 1, 1, 1, 1, 1, 1, 1, 1, 1, 1, 1, 1, 1, 1, 1, 1, 1, 1, 1, 1, 1, 1, 1, 1, 1, 1, 1, 1, 1, 1]
  | _ => []
noncomputable def spec_l03Mirror_l2_T (v43 : Int) (v44 : Int) (v45 : List Nat) (v1560 : Int) (v1562 : Int) (v1563 : Int) (v1564 : Int) (v1565 : Int) (v1567 : List Nat) (s : Int × (List Nat) × (List Nat)) : Tree ((Int × (List Nat) × (List Nat)) ⊕ ((List Nat) × (List Nat))) :=
  (.br (decide (s.1 < (2 : Int))) (
   (.need (some (spec_l03Mirror_l4_E v43 v44 v45 v1560 s.1 v1562 v1563 v1564 v1565 v1567 ((0 : Int), s.2.1, s.2.2)) = some (spec_l03Mirror_l4_E v43 v44 v45 v1560 s.1 v1562 v1563 v1564 v1565 v1567 ((0 : Int), s.2.1, s.2.2))) <|
   (.call (spec_l03Mirror_l4_g v43 v44 v45 v1560 s.1 v1562 v1563 v1564 v1565 v1567 ((0 : Int), s.2.1, s.2.2)) fun v1737 =>
   .leaf (.inl (IntKind.i64.wrap (s.1 + (1 : Int)), v1737.1, v1737.2))))
  ) (
   .leaf (.inr (s.2.1, s.2.2))
  ))

noncomputable def spec_l03Mirror_l2_g (v43 : Int) (v44 : Int) (v45 : List Nat) (v1560 : Int) (v1562 : Int) (v1563 : Int) (v1564 : Int) (v1565 : Int) (v1567 : List Nat) (s0 : Int × (List Nat) × (List Nat)) : Option ((List Nat) × (List Nat)) := whileM (fun s => (spec_l03Mirror_l2_T v43 v44 v45 v1560 v1562 v1563 v1564 v1565 v1567 s).run) s0
def spec_l03Mirror_l2_E (v43 : Int) (v44 : Int) (v45 : List Nat) (v1560 : Int) (v1562 : Int) (v1563 : Int) (v1564 : Int) (v1565 : Int) (v1567 : List Nat) (s : Int × (List Nat) × (List Nat)) : Sd := ([.bptr (BR.root 0) [.int .i64 v43, .int .i64 v44, .bslc (BR.root 1) (.f32 v45)], .top, .ptr 0 (0 : Nat) 0 (3 : Nat), .ptr 1 (0 : Nat) 0 (3 : Nat), .top, .ptr 2 (0 : Nat) 0 (3 : Nat), .ptr 3 (0 : Nat) 0 (3 : Nat), .int .i64 v1560, .own 4 0 ((s.2.1).length), .int .i64 s.1, .top, .top, .top, .top, .top, .top, .top, .top, .top, .top, .top, .top, .top, .top, .top, .top, .top, .top, .top, .top, .top, .top, .top, .top, .top, .top, .top, .top, .top, .top, .top, .top, .top, .top, .top, .top, .top, .top, .top, .top, .top, .top, .top, .top, .top, .top, .top, .top, .top, .top, .top, .top, .top, .top, .top, .top, .top, .top, .top, .top, .top, .top, .top, .top, .top, .top, .top, .top, .top, .top, .top, .top, .top, .top, .top, .top, .top, .top, .top, .top, .top, .top, .top, .top, .top, .top, .top, .top, .top, .top, .top, .top, .top, .top, .top, .top, .top, .top, .top, .top, .top, .top, .top, .top, .top, .top, .top, .top, .top, .top, .top, .top, .top, .top, .top, .top, .top, .top, .top, .top, .top, .top, .top, .top, .top, .top, .top, .top, .top], [.gen [.int .i64 (0 : Int), .int .i64 (0 : Int), .nilslc] false 0, .gen [.int .i64 (0 : Int), .int .i64 (0 : Int), .nilslc] false 0, .gen [.int .i64 v1562, .int .i64 v1563, .own 5 0 ((v1567).length)] false 0, .gen [.int .i64 v1564, .int .i64 v1565, .own 6 0 ((s.2.2).length)] false 0, .row (.f32 s.2.1) 0, .row (.f32 v1567) 0, .row (.f32 s.2.2) 0])
def spec_l03Mirror_l2_X (v43 : Int) (v44 : Int) (v45 : List Nat) (v1560 : Int) (v1562 : Int) (v1563 : Int) (v1564 : Int) (v1565 : Int) (v1567 : List Nat) (x : (List Nat) × (List Nat)) : Out := (.normal, [.bptr (BR.root 0) [.int .i64 v43, .int .i64 v44, .bslc (BR.root 1) (.f32 v45)], .top, .ptr 0 (0 : Nat) 0 (3 : Nat), .ptr 1 (0 : Nat) 0 (3 : Nat), .top, .ptr 2 (0 : Nat) 0 (3 : Nat), .ptr 3 (0 : Nat) 0 (3 : Nat), .int .i64 v1560, .own 4 0 ((x.1).length), .top, .top, .top, .top, .top, .top, .top, .top, .top, .top, .top, .top, .top, .top, .top, .top, .top, .top, .top, .top, .top, .top, .top, .top, .top, .top, .top, .top, .top, .top, .top, .top, .top, .top, .top, .top, .top, .top, .top, .top, .top, .top, .top, .top, .top, .top, .top, .top, .top, .top, .top, .top, .top, .top, .top, .top, .top, .top, .top, .top, .top, .top, .top, .top, .top, .top, .top, .top, .top, .top, .top, .top, .top, .top, .top, .top, .top, .top, .top, .top, .top, .top, .top, .top, .top, .top, .top, .top, .top, .top, .top, .top, .top, .top, .top, .top, .top, .top, .top, .top, .top, .top, .top, .top, .top, .top, .top, .top, .top, .top, .top, .top, .top, .top, .top, .top, .top, .top, .top, .top, .top, .top, .top, .top, .top, .top, .top, .top, .top, .top], [.gen [.int .i64 (0 : Int), .int .i64 (0 : Int), .nilslc] false 0, .gen [.int .i64 (0 : Int), .int .i64 (0 : Int), .nilslc] false 0, .gen [.int .i64 v1562, .int .i64 v1563, .own 5 0 ((v1567).length)] false 0, .gen [.int .i64 v1564, .int .i64 v1565, .own 6 0 ((x.2).length)] false 0, .row (.f32 x.1) 0, .row (.f32 v1567) 0, .row (.f32 x.2) 0])
def spec_l03Mirror_l2_kill : List Nat := [0, 1, 0, 0, 1, 0, 0, 0, 0, 0, 1, 1, 1, 1, 1, 1, 1, 1, 1, 1, 1, 1, 1, 1, 1, 1, 1, 1, 1, 1, 1, 1, 1, 1, 1, 1, 1, 1, 1, 1, 1, 1, 1, 1, 1, 1, 1, 1, 1, 1, 1, 1, 1, 1, 1, 1, 1, 1, 1, 1, 1, 1, 1, 1, 1, 1, 1, 1, 1, 1, 1, 1, 1, 1, 1, 1, 1, 1, 1, 1, 1, 1, 1, 1, 1, 1, 1, 1, 1, 1, 1, 1, 1, 1, 1, 1, 1, 1, 1, 1, 1, 1, 1, 1, 1, 1, 1, 1, 1, 1, 1, 1, 1, 1, 1, 1, 1, 1, 1, 1, 1, 1, 1, 1, 1, 1, 1, 1, 1, 1, 1, 1, 1, 1, 1, 1, 1, 1, 1]
def spec_l03Mirror_l2_nx : Exit → List Nat
  | .exit 0 => [1, 1, 0, 0, 1, 0, 0, 1, 1, 1, 1, 1, 1, 1, 1, 1, 1, 1, 1, 1, 1, 1, 1, 1, 1, 1, 1, 1, 1, 1, 1, 1, 1, 1, 1, 1, 1, 1, 1, 1, 1, 1, 1, 1, 1, 1, 1, 1, 1, 1, 1, 1, 1, 1, 1, 1, 1, 1, 1, 1, 1, 1, 1, 1, 1, 1, 1, 1, 1, 1, 1, 1, 1, 1, 1, 1, 1, 1, 1, 1, 1, 1, 1, 1, 1, 1, 1, 1, 1, 1, 1, 1, 1, 1, 1, 1, 1, 1, 1, 1, 1, 1, 1, 1, 1, 1, 1, 1, 1, 1, 1, 1, 1, 1, 1, 1, 1, 1, 1, 1, 1, 1, 1, 1, 1, 1, 1, 1, 1, 1, 1, 1, 1, 1, 1, 1, 1, 1, 1]
  | .exit 1 => [0, 1, 0, 0, 1, 0, 0, 0, 1, 1, 1, 1, 1, 1, 1, 1, 1, 1, 1, 1, 1, 1, 1, 1, 1, 1, 1, 1, 1, 1, 1, 1, 1, 1, 1, 1, 1, 1, 1, 1, 1, 1, 1, 1, 1, 1, 1, 1, 1, 1, 1, 1, 1, 1, 1, 1, 1, 1, 1, 1, 1, 1, 1, 1, 1, 1, 1, 1, 1, 1, 1, 1, 1, 1, 1, 1, 1, 1, 1, 1, 1, 1, 1, 1, 1, 1, 1, 1, 1, 1, 1, 1, 1, 1, 1, 1, 1, 1, 1, 1, 1, 1, 1, 1, 1, 1, 1, 1, 1, 1, 1, 1, 1, 1, 1, 1, 1, 1, 1, 1, 1, 1, 1, 1, 1, 1, 1, 1, 1, 1, 1, 1, 1, 1, 1, 1, 1, 1, 1]
  | .exit 2 => [0, 1, 0, 0, 1, 0, 0, 0, 0, 1, 1, 1, 1, 1, 1, 1, 1, 1, 1, 1, 1, 1, 1, 1, 1, 1, 1, 1, 1, 1, 1, 1, 1, 1, 1, 1, 1, 1, 1, 1, 1, 1, 1, 1, 1, 1, 1, 1, 1, 1, 1, 1, 1, 1, 1, 1, 1, 1, 1, 1, 1, 1, 1, 1, 1, 1, 1, 1, 1, 1, 1, 1, 1, 1, 1, 1, 1, 1, 1, 1, 1, 1, 1, 1, 1, 1, 1, 1, 1, 1, 1, 1, 1, 1, 1, 1, 1, 1, 1, 1, 1, 1, 1, 1, 1, 1, 1, 1, 1, 1, 1, 1, 1, 1, 1, 1, 1, 1, 1, 1, 1, 1, 1, 1, 1, 1, 1, 1, 1, 1, 1, 1, 1, 1, 1, 1, 1, 1, 1]
  | .ret => [1, 1, 0, 0, 0, 1, 1, 1, 1, 1, 1, 1, 1, 1, 1, 1, 1, 1, 1, 1, 1, 1, 1, 1, 1, 1, 1, 1, 1, 1, 1, 1, 1, 1, 1, 1, 1, 1, 1, 1, 1, 1, 1, 1, 1, 1, 1, 1, 1, 1, 1, 1, 1, 1, 1, 1, 1, 1, 1, 1, 1, 1, 1, 1, 1, 1, 1, 1, 1, 1, 1, 1, 1, 1, 1, 1, 1, 1, 1, 1, 1, 1, 1, 1, 1, 1, 1, 1, 1, 1, 1, 1, 1, 1, 1, 1, 1, 1, 1, 1, 1, 1, 1, 1, 1, 1, 1, 1, 1, 1, 1, 1, 1, 1, 1, 1, 1, 1, 1, 1, 1, 1, 1, 1, 1, 1, 1, 1, 1, 1, 1, 1, 1, 1, 1, 1, 1, 1, 1]
  | _ => []
noncomputable def spec_l03Mirror_l8_T (v1763 : Int) (v1764 : Nat) (v1765 : Int) (v1767 : Int) (v1768 : Int) (v1769 : Int) (v1770 : Int) (v1771 : List Nat) (v1773 : List Nat) (s : Int × (List Nat)) : Tree ((Int × (List Nat)) ⊕ ((List Nat))) :=
  (.br (decide (s.1 < v1765)) (
   (.grd (inb s.1 ((v1771).length)) <|
   (.grd (inb (IntKind.i64.wrap ((IntKind.i64.wrap (s.1 * v1768)) + v1763)) ((s.2).length)) <|
   .leaf (.inl (IntKind.i64.wrap (s.1 + (1 : Int)), List.set s.2 (Int.toNat (IntKind.i64.wrap ((IntKind.i64.wrap (s.1 * v1768)) + v1763))) (fdiv .f32 (nth v1771 (Int.toNat s.1)) v1764)))))
  ) (
   .leaf (.inr s.2)
  ))

noncomputable def spec_l03Mirror_l8_g (v1763 : Int) (v1764 : Nat) (v1765 : Int) (v1767 : Int) (v1768 : Int) (v1769 : Int) (v1770 : Int) (v1771 : List Nat) (v1773 : List Nat) (s0 : Int × (List Nat)) : Option ((List Nat)) := whileM (fun s => (spec_l03Mirror_l8_T v1763 v1764 v1765 v1767 v1768 v1769 v1770 v1771 v1773 s).run) s0
def spec_l03Mirror_l8_E (v43 : Int) (v44 : Int) (v45 : List Nat) (v1763 : Int) (v1764 : Nat) (v1765 : Int) (v1767 : Int) (v1768 : Int) (v1769 : Int) (v1770 : Int) (v1771 : List Nat) (v1773 : List Nat) (s : Int × (List Nat)) : Sd := ([.bptr (BR.root 0) [.int .i64 v43, .int .i64 v44, .bslc (BR.root 1) (.f32 v45)], .top, .ptr 0 (0 : Nat) 0 (3 : Nat), .ptr 1 (0 : Nat) 0 (3 : Nat), .top, .ptr 2 (0 : Nat) 0 (3 : Nat), .ptr 3 (0 : Nat) 0 (3 : Nat), .int .i64 v1763, .own 4 0 ((v1771).length), .top, .top, .top, .top, .top, .flt .f32 v1764, .top, .top, .top, .top, .top, .top, .top, .top, .top, .top, .top, .top, .top, .top, .top, .top, .top, .top, .top, .top, .top, .top, .top, .top, .top, .top, .top, .top, .top, .top, .top, .top, .top, .top, .top, .top, .top, .top, .top, .top, .top, .top, .top, .top, .top, .top, .top, .top, .top, .top, .top, .top, .top, .top, .top, .top, .top, .top, .top, .top, .top, .top, .top, .top, .top, .top, .top, .top, .top, .top, .top, .top, .top, .top, .top, .top, .top, .top, .top, .top, .top, .top, .top, .top, .top, .top, .top, .top, .top, .top, .top, .top, .top, .top, .top, .top, .top, .top, .int .i64 v1765, .int .i64 s.1, .top, .top, .top, .top, .top, .top, .top, .top, .top, .top, .top, .top, .top, .top, .top, .top, .top, .top, .top, .top, .top, .top, .top, .top], [.gen [.int .i64 (0 : Int), .int .i64 (0 : Int), .nilslc] false 0, .gen [.int .i64 (0 : Int), .int .i64 (0 : Int), .nilslc] false 0, .gen [.int .i64 v1767, .int .i64 v1768, .own 5 0 ((s.2).length)] false 0, .gen [.int .i64 v1769, .int .i64 v1770, .own 6 0 ((v1773).length)] false 0, .row (.f32 v1771) 0, .row (.f32 s.2) 0, .row (.f32 v1773) 0])
def spec_l03Mirror_l8_X (v43 : Int) (v44 : Int) (v45 : List Nat) (v1763 : Int) (v1764 : Nat) (v1765 : Int) (v1767 : Int) (v1768 : Int) (v1769 : Int) (v1770 : Int) (v1771 : List Nat) (v1773 : List Nat) (x : (List Nat)) : Out := (.normal, [.bptr (BR.root 0) [.int .i64 v43, .int .i64 v44, .bslc (BR.root 1) (.f32 v45)], .top, .ptr 0 (0 : Nat) 0 (3 : Nat), .ptr 1 (0 : Nat) 0 (3 : Nat), .top, .ptr 2 (0 : Nat) 0 (3 : Nat), .ptr 3 (0 : Nat) 0 (3 : Nat), .int .i64 v1763, .top, .top, .top, .top, .top, .top, .top, .top, .top, .top, .top, .top, .top, .top, .top, .top, .top, .top, .top, .top, .top, .top, .top, .top, .top, .top, .top, .top, .top, .top, .top, .top, .top, .top, .top, .top, .top, .top, .top, .top, .top, .top, .top, .top, .top, .top, .top, .top, .top, .top, .top, .top, .top, .top, .top, .top, .top, .top, .top, .top, .top, .top, .top, .top, .top, .top, .top, .top, .top, .top, .top, .top, .top, .top, .top, .top, .top, .top, .top, .top, .top, .top, .top, .top, .top, .top, .top, .top, .top, .top, .top, .top, .top, .top, .top, .top, .top, .top, .top, .top, .top, .top, .top, .top, .top, .top, .top, .top, .top, .top, .top, .top, .top, .top, .top, .top, .top, .top, .top, .top, .top, .top, .top, .top, .top, .top, .top, .top, .top, .top, .top], [.gen [.int .i64 (0 : Int), .int .i64 (0 : Int), .nilslc] false 0, .gen [.int .i64 (0 : Int), .int .i64 (0 : Int), .nilslc] false 0, .gen [.int .i64 v1767, .int .i64 v1768, .own 4 0 ((x).length)] false 0, .gen [.int .i64 v1769, .int .i64 v1770, .own 5 0 ((v1773).length)] false 0, .row (.f32 x) 0, .row (.f32 v1773) 0])
def spec_l03Mirror_l8_kill : List Nat := [0, 1, 0, 0, 1, 0, 0, 0, 0, 1, 1, 1, 1, 1, 0, 1, 1, 1, 1, 1, 1, 1, 1, 1, 1, 1, 1, 1, 1, 1, 1, 1, 1, 1, 1, 1, 1, 1, 1, 1, 1, 1, 1, 1, 1, 1, 1, 1, 1, 1, 1, 1, 1, 1, 1, 1, 1, 1, 1, 1, 1, 1, 1, 1, 1, 1, 1, 1, 1, 1, 1, 1, 1, 1, 1, 1, 1, 1, 1, 1, 1, 1, 1, 1, 1, 1, 1, 1, 1, 1, 1, 1, 1, 1, 1, 1, 1, 1, 1, 1, 1, 1, 1, 1, 1, 1, 1, 1, 1, 1, 1, 1, 1, 0, 0, 1, 1, 1, 1, 1, 1, 1, 1, 1, 1, 1, 1, 1, 1, 1, 1, 1, 1, 1, 1, 1, 1, 1, 1]
def spec_l03Mirror_l8_nx : Exit → List Nat
  | .exit 0 => [1, 1, 0, 0, 1, 0, 0, 1, 1, 1, 1, 1, 1, 1, 1, 1, 1, 1, 1, 1, 1, 1, 1, 1, 1, 1, 1, 1, 1, 1, 1, 1, 1, 1, 1, 1, 1, 1, 1, 1, 1, 1, 1, 1, 1, 1, 1, 1, 1, 1, 1, 1, 1, 1, 1, 1, 1, 1, 1, 1, 1, 1, 1, 1, 1, 1, 1, 1, 1, 1, 1, 1, 1, 1, 1, 1, 1, 1, 1, 1, 1, 1, 1, 1, 1, 1, 1, 1, 1, 1, 1, 1, 1, 1, 1, 1, 1, 1, 1, 1, 1, 1, 1, 1, 1, 1, 1, 1, 1, 1, 1, 1, 1, 1, 1, 1, 1, 1, 1, 1, 1, 1, 1, 1, 1, 1, 1, 1, 1, 1, 1, 1, 1, 1, 1, 1, 1, 1, 1]
  | .exit 1 => [0, 1, 0, 0, 1, 0, 0, 0, 1, 1, 1, 1, 1, 1, 1, 1, 1, 1, 1, 1, 1, 1, 1, 1, 1, 1, 1, 1, 1, 1, 1, 1, 1, 1, 1, 1, 1, 1, 1, 1, 1, 1, 1, 1, 1, 1, 1, 1, 1, 1, 1, 1, 1, 1, 1, 1, 1, 1, 1, 1, 1, 1, 1, 1, 1, 1, 1, 1, 1, 1, 1, 1, 1, 1, 1, 1, 1, 1, 1, 1, 1, 1, 1, 1, 1, 1, 1, 1, 1, 1, 1, 1, 1, 1, 1, 1, 1, 1, 1, 1, 1, 1, 1, 1, 1, 1, 1, 1, 1, 1, 1, 1, 1, 1, 1, 1, 1, 1, 1, 1, 1, 1, 1, 1, 1, 1, 1, 1, 1, 1, 1, 1, 1, 1, 1, 1, 1, 1, 1]
  | .exit 8 => [0, 1, 0, 0, 1, 0, 0, 0, 1, 1, 1, 1, 1, 1, 1, 1, 1, 1, 1, 1, 1, 1, 1, 1, 1, 1, 1, 1, 1, 1, 1, 1, 1, 1, 1, 1, 1, 1, 1, 1, 1, 1, 1, 1, 1, 1, 1, 1, 1, 1, 1, 1, 1, 1, 1, 1, 1, 1, 1, 1, 1, 1, 1, 1, 1, 1, 1, 1, 1, 1, 1, 1, 1, 1, 1, 1, 1, 1, 1, 1, 1, 1, 1, 1, 1, 1, 1, 1, 1, 1, 1, 1, 1, 1, 1, 1, 1, 1, 1, 1, 1, 1, 1, 1, 1, 1, 1, 1, 1, 1, 1, 1, 1, 1, 1, 1, 1, 1, 1, 1, 1, 1, 1, 1, 1, 1, 1, 1, 1, 1, 1, 1, 1, 1, 1, 1, 1, 1, 1]
  | .ret => [1, 1, 0, 0, 0, 1, 1, 1, 1, 1, 1, 1, 1, 1, 1, 1, 1, 1, 1, 1, 1, 1, 1, 1, 1, 1, 1, 1, 1, 1, 1, 1, 1, 1, 1, 1, 1, 1, 1, 1, 1, 1, 1, 1, 1, 1, 1, 1, 1, 1, 1, 1, 1, 1, 1, 1, 1, 1, 1, 1, 1, 1, 1, 1, 1, 1, 1, 1, 1, 1, 1, 1, 1, 1, 1, 1, 1, 1, 1, 1, 1, 1, 1, 1, 1, 1, 1, 1, 1, 1, 1, 1, 1, 1, 1, 1, 1, 1, 1, 1, 1, 1, 1, 1, 1, 1, 1, 1, 1, 1, 1, 1, 1, 1, 1, 1, 1, 1, 1, 1, 1, 1, 1, 1, 1, 1, 1, 1, 1, 1, 1, 1, 1, 1, 1, 1, 1, 1, 1]
  | _ => []
noncomputable def spec_l03Mirror_l0_T (v43 : Int) (v44 : Int) (v45 : List Nat) (v1197 : Int) (v1198 : Int) (v1199 : Int) (v1200 : Int) (s : Int × (List Nat) × (List Nat)) : Tree ((Int × (List Nat) × (List Nat)) ⊕ ((Unit) ⊕ ((List Nat) × (List Nat)))) :=
  (.br (decide (s.1 < v44)) (
   (.call (spec_l03Column_g v43 v44 v45 s.1) fun v1203 =>
   (.need (some (spec_l03Mirror_l2_E v43 v44 v45 s.1 v1197 v1198 v1199 v1200 s.2.1 ((0 : Int), v1203, s.2.2)) = some (spec_l03Mirror_l2_E v43 v44 v45 s.1 v1197 v1198 v1199 v1200 s.2.1 ((0 : Int), v1203, s.2.2))) <|
   (.call (spec_l03Mirror_l2_g v43 v44 v45 s.1 v1197 v1198 v1199 v1200 s.2.1 ((0 : Int), v1203, s.2.2)) fun v1738 =>
   (.call (spec_l02Dot_g v1738.1 v1738.1) fun v1739 =>
   (.call (spec_l01Sqrt_g v1739) fun v1740 =>
   (.br (!(fgrt .f32 v1740 (0 : Nat))) (
    .leaf (.inr (.inl ()))
   ) (
    (.grd (inb (IntKind.i64.wrap ((IntKind.i64.wrap (s.1 * v1200)) + s.1)) ((v1738.2).length)) <|
    (.need (some (spec_l03Mirror_l8_E v43 v44 v45 s.1 v1740 (((v1738.1).length : Nat) : Int) v1197 v1198 v1199 v1200 v1738.1 (List.set v1738.2 (Int.toNat (IntKind.i64.wrap ((IntKind.i64.wrap (s.1 * v1200)) + s.1))) v1740) ((0 : Int), s.2.1)) = some (spec_l03Mirror_l8_E v43 v44 v45 s.1 v1740 (((v1738.1).length : Nat) : Int) v1197 v1198 v1199 v1200 v1738.1 (List.set v1738.2 (Int.toNat (IntKind.i64.wrap ((IntKind.i64.wrap (s.1 * v1200)) + s.1))) v1740) ((0 : Int), s.2.1))) <|
    (.call (spec_l03Mirror_l8_g s.1 v1740 (((v1738.1).length : Nat) : Int) v1197 v1198 v1199 v1200 v1738.1 (List.set v1738.2 (Int.toNat (IntKind.i64.wrap ((IntKind.i64.wrap (s.1 * v1200)) + s.1))) v1740) ((0 : Int), s.2.1)) fun v1774 =>
    .leaf (.inl (IntKind.i64.wrap (s.1 + (1 : Int)), v1774, (List.set v1738.2 (Int.toNat (IntKind.i64.wrap ((IntKind.i64.wrap (s.1 * v1200)) + s.1))) v1740))))))
   )))))))
  ) (
   .leaf (.inr (.inr (s.2.1, s.2.2)))
  ))

noncomputable def spec_l03Mirror_l0_g (v43 : Int) (v44 : Int) (v45 : List Nat) (v1197 : Int) (v1198 : Int) (v1199 : Int) (v1200 : Int) (s0 : Int × (List Nat) × (List Nat)) : Option ((Unit) ⊕ ((List Nat) × (List Nat))) := whileM (fun s => (spec_l03Mirror_l0_T v43 v44 v45 v1197 v1198 v1199 v1200 s).run) s0
def spec_l03Mirror_l0_E (v43 : Int) (v44 : Int) (v45 : List Nat) (v1197 : Int) (v1198 : Int) (v1199 : Int) (v1200 : Int) (s : Int × (List Nat) × (List Nat)) : Sd := ([.bptr (BR.root 0) [.int .i64 v43, .int .i64 v44, .bslc (BR.root 1) (.f32 v45)], .top, .ptr 0 (0 : Nat) 0 (3 : Nat), .ptr 1 (0 : Nat) 0 (3 : Nat), .top, .ptr 2 (0 : Nat) 0 (3 : Nat), .ptr 3 (0 : Nat) 0 (3 : Nat), .int .i64 s.1, .top, .top, .top, .top, .top, .top, .top, .top, .top, .top, .top, .top, .top, .top, .top, .top, .top, .top, .top, .top, .top, .top, .top, .top, .top, .top, .top, .top, .top, .top, .top, .top, .top, .top, .top, .top, .top, .top, .top, .top, .top, .top, .top, .top, .top, .top, .top, .top, .top, .top, .top, .top, .top, .top, .top, .top, .top, .top, .top, .top, .top, .top, .top, .top, .top, .top, .top, .top, .top, .top, .top, .top, .top, .top, .top, .top, .top, .top, .top, .top, .top, .top, .top, .top, .top, .top, .top, .top, .top, .top, .top, .top, .top, .top, .top, .top, .top, .top, .top, .top, .top, .top, .top, .top, .top, .top, .top, .top, .top, .top, .top, .top, .top, .top, .top, .top, .top, .top, .top, .top, .top, .top, .top, .top, .top, .top, .top, .top, .top, .top, .top], [.gen [.int .i64 (0 : Int), .int .i64 (0 : Int), .nilslc] false 0, .gen [.int .i64 (0 : Int), .int .i64 (0 : Int), .nilslc] false 0, .gen [.int .i64 v1197, .int .i64 v1198, .own 4 0 ((s.2.1).length)] false 0, .gen [.int .i64 v1199, .int .i64 v1200, .own 5 0 ((s.2.2).length)] false 0, .row (.f32 s.2.1) 0, .row (.f32 s.2.2) 0])
def spec_l03Mirror_l0_X (v43 : Int) (v44 : Int) (v45 : List Nat) (v1197 : Int) (v1198 : Int) (v1199 : Int) (v1200 : Int) (x : (Unit) ⊕ ((List Nat) × (List Nat))) : Out := (match x with | .inl x => (.ret, [.top, .top, .ptr 0 (0 : Nat) 0 (3 : Nat), .ptr 1 (0 : Nat) 0 (3 : Nat), .lit false, .top, .top, .top, .top, .top, .top, .top, .top, .top, .top, .top, .top, .top, .top, .top, .top, .top, .top, .top, .top, .top, .top, .top, .top, .top, .top, .top, .top, .top, .top, .top, .top, .top, .top, .top, .top, .top, .top, .top, .top, .top, .top, .top, .top, .top, .top, .top, .top, .top, .top, .top, .top, .top, .top, .top, .top, .top, .top, .top, .top, .top, .top, .top, .top, .top, .top, .top, .top, .top, .top, .top, .top, .top, .top, .top, .top, .top, .top, .top, .top, .top, .top, .top, .top, .top, .top, .top, .top, .top, .top, .top, .top, .top, .top, .top, .top, .top, .top, .top, .top, .top, .top, .top, .top, .top, .top, .top, .top, .top, .top, .top, .top, .top, .top, .top, .top, .top, .top, .top, .top, .top, .top, .top, .top, .top, .top, .top, .top, .top, .top, .top, .top, .top, .top], [.gen [.int .i64 (0 : Int), .int .i64 (0 : Int), .nilslc] false 0, .gen [.int .i64 (0 : Int), .int .i64 (0 : Int), .nilslc] false 0]) | .inr x => (.normal, [.top, .top, .ptr 0 (0 : Nat) 0 (3 : Nat), .ptr 1 (0 : Nat) 0 (3 : Nat), .top, .ptr 2 (0 : Nat) 0 (3 : Nat), .ptr 3 (0 : Nat) 0 (3 : Nat), .top, .top, .top, .top, .top, .top, .top, .top, .top, .top, .top, .top, .top, .top, .top, .top, .top, .top, .top, .top, .top, .top, .top, .top, .top, .top, .top, .top, .top, .top, .top, .top, .top, .top, .top, .top, .top, .top, .top, .top, .top, .top, .top, .top, .top, .top, .top, .top, .top, .top, .top, .top, .top, .top, .top, .top, .top, .top, .top, .top, .top, .top, .top, .top, .top, .top, .top, .top, .top, .top, .top, .top, .top, .top, .top, .top, .top, .top, .top, .top, .top, .top, .top, .top, .top, .top, .top, .top, .top, .top, .top, .top, .top, .top, .top, .top, .top, .top, .top, .top, .top, .top, .top, .top, .top, .top, .top, .top, .top, .top, .top, .top, .top, .top, .top, .top, .top, .top, .top, .top, .top, .top, .top, .top, .top, .top, .top, .top, .top, .top, .top, .top], [.gen [.int .i64 (0 : Int), .int .i64 (0 : Int), .nilslc] false 0, .gen [.int .i64 (0 : Int), .int .i64 (0 : Int), .nilslc] false 0, .gen [.int .i64 v1197, .int .i64 v1198, .own 4 0 ((x.1).length)] false 0, .gen [.int .i64 v1199, .int .i64 v1200, .own 5 0 ((x.2).length)] false 0, .row (.f32 x.1) 0, .row (.f32 x.2) 0]))
def spec_l03Mirror_l0_kill : List Nat := [0, 1, 0, 0, 1, 0, 0, 0, 1, 1, 1, 1, 1, 1, 1, 1, 1, 1, 1, 1, 1, 1, 1, 1, 1, 1, 1, 1, 1, 1, 1, 1, 1, 1, 1, 1, 1, 1, 1, 1, 1, 1, 1, 1, 1, 1, 1, 1, 1, 1, 1, 1, 1, 1, 1, 1, 1, 1, 1, 1, 1, 1, 1, 1, 1, 1, 1, 1, 1, 1, 1, 1, 1, 1, 1, 1, 1, 1, 1, 1, 1, 1, 1, 1, 1, 1, 1, 1, 1, 1, 1, 1, 1, 1, 1, 1, 1, 1, 1, 1, 1, 1, 1, 1, 1, 1, 1, 1, 1, 1, 1, 1, 1, 1, 1, 1, 1, 1, 1, 1, 1, 1, 1, 1, 1, 1, 1, 1, 1, 1, 1, 1, 1, 1, 1, 1, 1, 1, 1]
def spec_l03Mirror_l0_nx : Exit → List Nat
  | .exit 0 => [1, 1, 0, 0, 1, 0, 0, 1, 1, 1, 1, 1, 1, 1, 1, 1, 1, 1, 1, 1, 1, 1, 1, 1, 1, 1, 1, 1, 1, 1, 1, 1, 1, 1, 1, 1, 1, 1, 1, 1, 1, 1, 1, 1, 1, 1, 1, 1, 1, 1, 1, 1, 1, 1, 1, 1, 1, 1, 1, 1, 1, 1, 1, 1, 1, 1, 1, 1, 1, 1, 1, 1, 1, 1, 1, 1, 1, 1, 1, 1, 1, 1, 1, 1, 1, 1, 1, 1, 1, 1, 1, 1, 1, 1, 1, 1, 1, 1, 1, 1, 1, 1, 1, 1, 1, 1, 1, 1, 1, 1, 1, 1, 1, 1, 1, 1, 1, 1, 1, 1, 1, 1, 1, 1, 1, 1, 1, 1, 1, 1, 1, 1, 1, 1, 1, 1, 1, 1, 1]
  | .ret => [1, 1, 0, 0, 0, 1, 1, 1, 1, 1, 1, 1, 1, 1, 1, 1, 1, 1, 1, 1, 1, 1, 1, 1, 1, 1, 1, 1, 1, 1, 1, 1, 1, 1, 1, 1, 1, 1, 1, 1, 1, 1, 1, 1, 1, 1, 1, 1, 1, 1, 1, 1, 1, 1, 1, 1, 1, 1, 1, 1, 1, 1, 1, 1, 1, 1, 1, 1, 1, 1, 1, 1, 1, 1, 1, 1, 1, 1, 1, 1, 1, 1, 1, 1, 1, 1, 1, 1, 1, 1, 1, 1, 1, 1, 1, 1, 1, 1, 1, 1, 1, 1, 1, 1, 1, 1, 1, 1, 1, 1, 1, 1, 1, 1, 1, 1, 1, 1, 1, 1, 1, 1, 1, 1, 1, 1, 1, 1, 1, 1, 1, 1, 1, 1, 1, 1, 1, 1, 1]
  | _ => []
noncomputable def spec_l03Mirror_LO (v43 : Int) (v44 : Int) (v45 : List Nat) : LOr := fun id e L =>
  match id with
  | 6 => .need (normA 0 spec_l03Mirror_l6_kill e L = some (spec_l03Mirror_l6_E v43 v44 v45 (gI (vAt e 7)) (gI (vAt e 9)) (gI (vAt e 10)) (gF (vAt e 12)) (gI (vAt e 74)) (gI (cAt L (vAt e 5) 0)) (gI (cAt L (vAt e 5) 1)) (gI (cAt L (vAt e 6) 0)) (gI (cAt L (vAt e 6) 1)) (gRF L (vAt e 11)) (gRF L (cAt L (vAt e 5) 2)) (gRF L (cAt L (vAt e 6) 2)) ((gI (vAt e 75)), (gRF L (vAt e 8))))) (.call (spec_l03Mirror_l6_g (gI (vAt e 7)) (gI (vAt e 9)) (gI (vAt e 10)) (gF (vAt e 12)) (gI (vAt e 74)) (gI (cAt L (vAt e 5) 0)) (gI (cAt L (vAt e 5) 1)) (gI (cAt L (vAt e 6) 0)) (gI (cAt L (vAt e 6) 1)) (gRF L (vAt e 11)) (gRF L (cAt L (vAt e 5) 2)) (gRF L (cAt L (vAt e 6) 2)) ((gI (vAt e 75)), (gRF L (vAt e 8)))) fun x => .leaf (spec_l03Mirror_l6_X v43 v44 v45 (gI (vAt e 7)) (gI (vAt e 9)) (gI (vAt e 10)) (gF (vAt e 12)) (gI (vAt e 74)) (gI (cAt L (vAt e 5) 0)) (gI (cAt L (vAt e 5) 1)) (gI (cAt L (vAt e 6) 0)) (gI (cAt L (vAt e 6) 1)) (gRF L (vAt e 11)) (gRF L (cAt L (vAt e 5) 2)) (gRF L (cAt L (vAt e 6) 2)) x))
  | 4 => .need (normA 0 spec_l03Mirror_l4_kill e L = some (spec_l03Mirror_l4_E v43 v44 v45 (gI (vAt e 7)) (gI (vAt e 9)) (gI (cAt L (vAt e 5) 0)) (gI (cAt L (vAt e 5) 1)) (gI (cAt L (vAt e 6) 0)) (gI (cAt L (vAt e 6) 1)) (gRF L (cAt L (vAt e 5) 2)) ((gI (vAt e 10)), (gRF L (vAt e 8)), (gRF L (cAt L (vAt e 6) 2))))) (.call (spec_l03Mirror_l4_g v43 v44 v45 (gI (vAt e 7)) (gI (vAt e 9)) (gI (cAt L (vAt e 5) 0)) (gI (cAt L (vAt e 5) 1)) (gI (cAt L (vAt e 6) 0)) (gI (cAt L (vAt e 6) 1)) (gRF L (cAt L (vAt e 5) 2)) ((gI (vAt e 10)), (gRF L (vAt e 8)), (gRF L (cAt L (vAt e 6) 2)))) fun x => .leaf (spec_l03Mirror_l4_X v43 v44 v45 (gI (vAt e 7)) (gI (vAt e 9)) (gI (cAt L (vAt e 5) 0)) (gI (cAt L (vAt e 5) 1)) (gI (cAt L (vAt e 6) 0)) (gI (cAt L (vAt e 6) 1)) (gRF L (cAt L (vAt e 5) 2)) x))
  | 2 => .need (normA 0 spec_l03Mirror_l2_kill e L = some (spec_l03Mirror_l2_E v43 v44 v45 (gI (vAt e 7)) (gI (cAt L (vAt e 5) 0)) (gI (cAt L (vAt e 5) 1)) (gI (cAt L (vAt e 6) 0)) (gI (cAt L (vAt e 6) 1)) (gRF L (cAt L (vAt e 5) 2)) ((gI (vAt e 9)), (gRF L (vAt e 8)), (gRF L (cAt L (vAt e 6) 2))))) (.call (spec_l03Mirror_l2_g v43 v44 v45 (gI (vAt e 7)) (gI (cAt L (vAt e 5) 0)) (gI (cAt L (vAt e 5) 1)) (gI (cAt L (vAt e 6) 0)) (gI (cAt L (vAt e 6) 1)) (gRF L (cAt L (vAt e 5) 2)) ((gI (vAt e 9)), (gRF L (vAt e 8)), (gRF L (cAt L (vAt e 6) 2)))) fun x => .leaf (spec_l03Mirror_l2_X v43 v44 v45 (gI (vAt e 7)) (gI (cAt L (vAt e 5) 0)) (gI (cAt L (vAt e 5) 1)) (gI (cAt L (vAt e 6) 0)) (gI (cAt L (vAt e 6) 1)) (gRF L (cAt L (vAt e 5) 2)) x))
  | 8 => .need (normA 0 spec_l03Mirror_l8_kill e L = some (spec_l03Mirror_l8_E v43 v44 v45 (gI (vAt e 7)) (gF (vAt e 14)) (gI (vAt e 113)) (gI (cAt L (vAt e 5) 0)) (gI (cAt L (vAt e 5) 1)) (gI (cAt L (vAt e 6) 0)) (gI (cAt L (vAt e 6) 1)) (gRF L (vAt e 8)) (gRF L (cAt L (vAt e 6) 2)) ((gI (vAt e 114)), (gRF L (cAt L (vAt e 5) 2))))) (.call (spec_l03Mirror_l8_g (gI (vAt e 7)) (gF (vAt e 14)) (gI (vAt e 113)) (gI (cAt L (vAt e 5) 0)) (gI (cAt L (vAt e 5) 1)) (gI (cAt L (vAt e 6) 0)) (gI (cAt L (vAt e 6) 1)) (gRF L (vAt e 8)) (gRF L (cAt L (vAt e 6) 2)) ((gI (vAt e 114)), (gRF L (cAt L (vAt e 5) 2)))) fun x => .leaf (spec_l03Mirror_l8_X v43 v44 v45 (gI (vAt e 7)) (gF (vAt e 14)) (gI (vAt e 113)) (gI (cAt L (vAt e 5) 0)) (gI (cAt L (vAt e 5) 1)) (gI (cAt L (vAt e 6) 0)) (gI (cAt L (vAt e 6) 1)) (gRF L (vAt e 8)) (gRF L (cAt L (vAt e 6) 2)) x))
  | 0 => .need (normA 0 spec_l03Mirror_l0_kill e L = some (spec_l03Mirror_l0_E v43 v44 v45 (gI (cAt L (vAt e 5) 0)) (gI (cAt L (vAt e 5) 1)) (gI (cAt L (vAt e 6) 0)) (gI (cAt L (vAt e 6) 1)) ((gI (vAt e 7)), (gRF L (cAt L (vAt e 5) 2)), (gRF L (cAt L (vAt e 6) 2))))) (.call (spec_l03Mirror_l0_g v43 v44 v45 (gI (cAt L (vAt e 5) 0)) (gI (cAt L (vAt e 5) 1)) (gI (cAt L (vAt e 6) 0)) (gI (cAt L (vAt e 6) 1)) ((gI (vAt e 7)), (gRF L (cAt L (vAt e 5) 2)), (gRF L (cAt L (vAt e 6) 2)))) fun x => .sum x (fun b0 => .leaf (spec_l03Mirror_l0_X v43 v44 v45 (gI (cAt L (vAt e 5) 0)) (gI (cAt L (vAt e 5) 1)) (gI (cAt L (vAt e 6) 0)) (gI (cAt L (vAt e 6) 1)) (.inl b0))) (fun c0 => .leaf (spec_l03Mirror_l0_X v43 v44 v45 (gI (cAt L (vAt e 5) 0)) (gI (cAt L (vAt e 5) 1)) (gI (cAt L (vAt e 6) 0)) (gI (cAt L (vAt e 6) 1)) (.inr c0))))
  | _ => .fail
noncomputable def spec_l03Mirror_tab : List (FuncId × DFn × Bool) := [(133, spec_l02Zero_F, true), (159, spec_l03Column_F, true), (160, spec_l02Dot_F, true), (59, spec_l02At_F, true), (110, spec_l01Sqrt_F, true), (61, spec_l02Is_F, true)]
theorem spec_l03Mirror_hO : OrcOk Try.prog (tabD spec_l03Mirror_tab) (tabM spec_l03Mirror_tab) := tabD_cons spec_l02Zero_Fok (tabD_cons spec_l03Column_Fok (tabD_cons spec_l02Dot_Fok (tabD_cons spec_l02At_Fok (tabD_cons spec_l01Sqrt_Fok (tabD_cons spec_l02Is_Fok (tabD_nil _))))))
theorem spec_l03Mirror_l6_be (v43 : Int) (v44 : Int) (v45 : List Nat) (v1722 : Int) (v1723 : Int) (v1724 : Int) (v1725 : Nat) (v1726 : Int) (v1728 : Int) (v1729 : Int) (v1730 : Int) (v1731 : Int) (v1733 : List Nat) (v1734 : List Nat) (v1735 : List Nat) (s : Int × (List Nat)) : bodyT TT (tabD spec_l03Mirror_tab) (tabM spec_l03Mirror_tab) (spec_l03Mirror_LO v43 v44 v45) 0 spec_l03Mirror_l6_kill spec_l03Mirror_l6_nx (bodyOf Try.f115 6) 6 (spec_l03Mirror_l6_E v43 v44 v45 v1722 v1723 v1724 v1725 v1726 v1728 v1729 v1730 v1731 v1733 v1734 v1735 s) = (spec_l03Mirror_l6_T v1722 v1723 v1724 v1725 v1726 v1728 v1729 v1730 v1731 v1733 v1734 v1735 s).bind fun y => .leaf (outS (spec_l03Mirror_l6_E v43 v44 v45 v1722 v1723 v1724 v1725 v1726 v1728 v1729 v1730 v1731 v1733 v1734 v1735) (spec_l03Mirror_l6_X v43 v44 v45 v1722 v1723 v1724 v1725 v1726 v1728 v1729 v1730 v1731 v1733 v1734 v1735) y) := by kernel_rfl
theorem spec_l03Mirror_l6_ok (v43 : Int) (v44 : Int) (v45 : List Nat) : LSound Try.prog 0 (spec_l03Mirror_LO v43 v44 v45) 6 (bodyOf Try.f115 6) := by
  intro e L out h
  exact lo_ok (E := spec_l03Mirror_l6_E v43 v44 v45 (gI (vAt e 7)) (gI (vAt e 9)) (gI (vAt e 10)) (gF (vAt e 12)) (gI (vAt e 74)) (gI (cAt L (vAt e 5) 0)) (gI (cAt L (vAt e 5) 1)) (gI (cAt L (vAt e 6) 0)) (gI (cAt L (vAt e 6) 1)) (gRF L (vAt e 11)) (gRF L (cAt L (vAt e 5) 2)) (gRF L (cAt L (vAt e 6) 2))) (gT := spec_l03Mirror_l6_T (gI (vAt e 7)) (gI (vAt e 9)) (gI (vAt e 10)) (gF (vAt e 12)) (gI (vAt e 74)) (gI (cAt L (vAt e 5) 0)) (gI (cAt L (vAt e 5) 1)) (gI (cAt L (vAt e 6) 0)) (gI (cAt L (vAt e 6) 1)) (gRF L (vAt e 11)) (gRF L (cAt L (vAt e 5) 2)) (gRF L (cAt L (vAt e 6) 2))) (X := spec_l03Mirror_l6_X v43 v44 v45 (gI (vAt e 7)) (gI (vAt e 9)) (gI (vAt e 10)) (gF (vAt e 12)) (gI (vAt e 74)) (gI (cAt L (vAt e 5) 0)) (gI (cAt L (vAt e 5) 1)) (gI (cAt L (vAt e 6) 0)) (gI (cAt L (vAt e 6) 1)) (gRF L (vAt e 11)) (gRF L (cAt L (vAt e 5) 2)) (gRF L (cAt L (vAt e 6) 2))) (s0 := ((gI (vAt e 75)), (gRF L (vAt e 8)))) tok spec_l03Mirror_hO mixed (LoopsOk_eq (l := []) (by kernel_rfl) trivial) (spec_l03Mirror_l6_be v43 v44 v45 (gI (vAt e 7)) (gI (vAt e 9)) (gI (vAt e 10)) (gF (vAt e 12)) (gI (vAt e 74)) (gI (cAt L (vAt e 5) 0)) (gI (cAt L (vAt e 5) 1)) (gI (cAt L (vAt e 6) 0)) (gI (cAt L (vAt e 6) 1)) (gRF L (vAt e 11)) (gRF L (cAt L (vAt e 5) 2)) (gRF L (cAt L (vAt e 6) 2))) rfl (by intro x; rfl) h
theorem spec_l03Mirror_l4_be (v43 : Int) (v44 : Int) (v45 : List Nat) (v1681 : Int) (v1682 : Int) (v1684 : Int) (v1685 : Int) (v1686 : Int) (v1687 : Int) (v1689 : List Nat) (s : Int × (List Nat) × (List Nat)) : bodyT TT (tabD spec_l03Mirror_tab) (tabM spec_l03Mirror_tab) (spec_l03Mirror_LO v43 v44 v45) 0 spec_l03Mirror_l4_kill spec_l03Mirror_l4_nx (bodyOf Try.f115 4) 4 (spec_l03Mirror_l4_E v43 v44 v45 v1681 v1682 v1684 v1685 v1686 v1687 v1689 s) = (spec_l03Mirror_l4_T v43 v44 v45 v1681 v1682 v1684 v1685 v1686 v1687 v1689 s).bind fun y => .leaf (outS (spec_l03Mirror_l4_E v43 v44 v45 v1681 v1682 v1684 v1685 v1686 v1687 v1689) (spec_l03Mirror_l4_X v43 v44 v45 v1681 v1682 v1684 v1685 v1686 v1687 v1689) y) := by kernel_rfl
theorem spec_l03Mirror_l4_ok (v43 : Int) (v44 : Int) (v45 : List Nat) : LSound Try.prog 0 (spec_l03Mirror_LO v43 v44 v45) 4 (bodyOf Try.f115 4) := by
  intro e L out h
  exact lo_ok (E := spec_l03Mirror_l4_E v43 v44 v45 (gI (vAt e 7)) (gI (vAt e 9)) (gI (cAt L (vAt e 5) 0)) (gI (cAt L (vAt e 5) 1)) (gI (cAt L (vAt e 6) 0)) (gI (cAt L (vAt e 6) 1)) (gRF L (cAt L (vAt e 5) 2))) (gT := spec_l03Mirror_l4_T v43 v44 v45 (gI (vAt e 7)) (gI (vAt e 9)) (gI (cAt L (vAt e 5) 0)) (gI (cAt L (vAt e 5) 1)) (gI (cAt L (vAt e 6) 0)) (gI (cAt L (vAt e 6) 1)) (gRF L (cAt L (vAt e 5) 2))) (X := spec_l03Mirror_l4_X v43 v44 v45 (gI (vAt e 7)) (gI (vAt e 9)) (gI (cAt L (vAt e 5) 0)) (gI (cAt L (vAt e 5) 1)) (gI (cAt L (vAt e 6) 0)) (gI (cAt L (vAt e 6) 1)) (gRF L (cAt L (vAt e 5) 2))) (s0 := ((gI (vAt e 10)), (gRF L (vAt e 8)), (gRF L (cAt L (vAt e 6) 2)))) tok spec_l03Mirror_hO mixed (LoopsOk_eq (l := [(6, bodyOf Try.f115 6)]) (by kernel_rfl) ⟨spec_l03Mirror_l6_ok v43 v44 v45, trivial⟩) (spec_l03Mirror_l4_be v43 v44 v45 (gI (vAt e 7)) (gI (vAt e 9)) (gI (cAt L (vAt e 5) 0)) (gI (cAt L (vAt e 5) 1)) (gI (cAt L (vAt e 6) 0)) (gI (cAt L (vAt e 6) 1)) (gRF L (cAt L (vAt e 5) 2))) rfl (by intro x; rfl) h
theorem spec_l03Mirror_l2_be (v43 : Int) (v44 : Int) (v45 : List Nat) (v1560 : Int) (v1562 : Int) (v1563 : Int) (v1564 : Int) (v1565 : Int) (v1567 : List Nat) (s : Int × (List Nat) × (List Nat)) : bodyT TT (tabD spec_l03Mirror_tab) (tabM spec_l03Mirror_tab) (spec_l03Mirror_LO v43 v44 v45) 0 spec_l03Mirror_l2_kill spec_l03Mirror_l2_nx (bodyOf Try.f115 2) 2 (spec_l03Mirror_l2_E v43 v44 v45 v1560 v1562 v1563 v1564 v1565 v1567 s) = (spec_l03Mirror_l2_T v43 v44 v45 v1560 v1562 v1563 v1564 v1565 v1567 s).bind fun y => .leaf (outS (spec_l03Mirror_l2_E v43 v44 v45 v1560 v1562 v1563 v1564 v1565 v1567) (spec_l03Mirror_l2_X v43 v44 v45 v1560 v1562 v1563 v1564 v1565 v1567) y) := by kernel_rfl
theorem spec_l03Mirror_l2_ok (v43 : Int) (v44 : Int) (v45 : List Nat) : LSound Try.prog 0 (spec_l03Mirror_LO v43 v44 v45) 2 (bodyOf Try.f115 2) := by
  intro e L out h
  exact lo_ok (E := spec_l03Mirror_l2_E v43 v44 v45 (gI (vAt e 7)) (gI (cAt L (vAt e 5) 0)) (gI (cAt L (vAt e 5) 1)) (gI (cAt L (vAt e 6) 0)) (gI (cAt L (vAt e 6) 1)) (gRF L (cAt L (vAt e 5) 2))) (gT := spec_l03Mirror_l2_T v43 v44 v45 (gI (vAt e 7)) (gI (cAt L (vAt e 5) 0)) (gI (cAt L (vAt e 5) 1)) (gI (cAt L (vAt e 6) 0)) (gI (cAt L (vAt e 6) 1)) (gRF L (cAt L (vAt e 5) 2))) (X := spec_l03Mirror_l2_X v43 v44 v45 (gI (vAt e 7)) (gI (cAt L (vAt e 5) 0)) (gI (cAt L (vAt e 5) 1)) (gI (cAt L (vAt e 6) 0)) (gI (cAt L (vAt e 6) 1)) (gRF L (cAt L (vAt e 5) 2))) (s0 := ((gI (vAt e 9)), (gRF L (vAt e 8)), (gRF L (cAt L (vAt e 6) 2)))) tok spec_l03Mirror_hO mixed (LoopsOk_eq (l := [(4, bodyOf Try.f115 4)]) (by kernel_rfl) ⟨spec_l03Mirror_l4_ok v43 v44 v45, trivial⟩) (spec_l03Mirror_l2_be v43 v44 v45 (gI (vAt e 7)) (gI (cAt L (vAt e 5) 0)) (gI (cAt L (vAt e 5) 1)) (gI (cAt L (vAt e 6) 0)) (gI (cAt L (vAt e 6) 1)) (gRF L (cAt L (vAt e 5) 2))) rfl (by intro x; rfl) h
theorem spec_l03Mirror_l8_be (v43 : Int) (v44 : Int) (v45 : List Nat) (v1763 : Int) (v1764 : Nat) (v1765 : Int) (v1767 : Int) (v1768 : Int) (v1769 : Int) (v1770 : Int) (v1771 : List Nat) (v1773 : List Nat) (s : Int × (List Nat)) : bodyT TT (tabD spec_l03Mirror_tab) (tabM spec_l03Mirror_tab) (spec_l03Mirror_LO v43 v44 v45) 0 spec_l03Mirror_l8_kill spec_l03Mirror_l8_nx (bodyOf Try.f115 8) 8 (spec_l03Mirror_l8_E v43 v44 v45 v1763 v1764 v1765 v1767 v1768 v1769 v1770 v1771 v1773 s) = (spec_l03Mirror_l8_T v1763 v1764 v1765 v1767 v1768 v1769 v1770 v1771 v1773 s).bind fun y => .leaf (outS (spec_l03Mirror_l8_E v43 v44 v45 v1763 v1764 v1765 v1767 v1768 v1769 v1770 v1771 v1773) (spec_l03Mirror_l8_X v43 v44 v45 v1763 v1764 v1765 v1767 v1768 v1769 v1770 v1771 v1773) y) := by kernel_rfl
theorem spec_l03Mirror_l8_ok (v43 : Int) (v44 : Int) (v45 : List Nat) : LSound Try.prog 0 (spec_l03Mirror_LO v43 v44 v45) 8 (bodyOf Try.f115 8) := by
  intro e L out h
  exact lo_ok (E := spec_l03Mirror_l8_E v43 v44 v45 (gI (vAt e 7)) (gF (vAt e 14)) (gI (vAt e 113)) (gI (cAt L (vAt e 5) 0)) (gI (cAt L (vAt e 5) 1)) (gI (cAt L (vAt e 6) 0)) (gI (cAt L (vAt e 6) 1)) (gRF L (vAt e 8)) (gRF L (cAt L (vAt e 6) 2))) (gT := spec_l03Mirror_l8_T (gI (vAt e 7)) (gF (vAt e 14)) (gI (vAt e 113)) (gI (cAt L (vAt e 5) 0)) (gI (cAt L (vAt e 5) 1)) (gI (cAt L (vAt e 6) 0)) (gI (cAt L (vAt e 6) 1)) (gRF L (vAt e 8)) (gRF L (cAt L (vAt e 6) 2))) (X := spec_l03Mirror_l8_X v43 v44 v45 (gI (vAt e 7)) (gF (vAt e 14)) (gI (vAt e 113)) (gI (cAt L (vAt e 5) 0)) (gI (cAt L (vAt e 5) 1)) (gI (cAt L (vAt e 6) 0)) (gI (cAt L (vAt e 6) 1)) (gRF L (vAt e 8)) (gRF L (cAt L (vAt e 6) 2))) (s0 := ((gI (vAt e 114)), (gRF L (cAt L (vAt e 5) 2)))) tok spec_l03Mirror_hO mixed (LoopsOk_eq (l := []) (by kernel_rfl) trivial) (spec_l03Mirror_l8_be v43 v44 v45 (gI (vAt e 7)) (gF (vAt e 14)) (gI (vAt e 113)) (gI (cAt L (vAt e 5) 0)) (gI (cAt L (vAt e 5) 1)) (gI (cAt L (vAt e 6) 0)) (gI (cAt L (vAt e 6) 1)) (gRF L (vAt e 8)) (gRF L (cAt L (vAt e 6) 2))) rfl (by intro x; rfl) h
theorem spec_l03Mirror_l0_be (v43 : Int) (v44 : Int) (v45 : List Nat) (v1197 : Int) (v1198 : Int) (v1199 : Int) (v1200 : Int) (s : Int × (List Nat) × (List Nat)) : bodyT TT (tabD spec_l03Mirror_tab) (tabM spec_l03Mirror_tab) (spec_l03Mirror_LO v43 v44 v45) 0 spec_l03Mirror_l0_kill spec_l03Mirror_l0_nx (bodyOf Try.f115 0) 0 (spec_l03Mirror_l0_E v43 v44 v45 v1197 v1198 v1199 v1200 s) = (spec_l03Mirror_l0_T v43 v44 v45 v1197 v1198 v1199 v1200 s).bind fun y => .leaf (outS (spec_l03Mirror_l0_E v43 v44 v45 v1197 v1198 v1199 v1200) (spec_l03Mirror_l0_X v43 v44 v45 v1197 v1198 v1199 v1200) y) := by kernel_rfl
theorem spec_l03Mirror_l0_ok (v43 : Int) (v44 : Int) (v45 : List Nat) : LSound Try.prog 0 (spec_l03Mirror_LO v43 v44 v45) 0 (bodyOf Try.f115 0) := by
  intro e L out h
  exact lo_ok (E := spec_l03Mirror_l0_E v43 v44 v45 (gI (cAt L (vAt e 5) 0)) (gI (cAt L (vAt e 5) 1)) (gI (cAt L (vAt e 6) 0)) (gI (cAt L (vAt e 6) 1))) (gT := spec_l03Mirror_l0_T v43 v44 v45 (gI (cAt L (vAt e 5) 0)) (gI (cAt L (vAt e 5) 1)) (gI (cAt L (vAt e 6) 0)) (gI (cAt L (vAt e 6) 1))) (X := spec_l03Mirror_l0_X v43 v44 v45 (gI (cAt L (vAt e 5) 0)) (gI (cAt L (vAt e 5) 1)) (gI (cAt L (vAt e 6) 0)) (gI (cAt L (vAt e 6) 1))) (s0 := ((gI (vAt e 7)), (gRF L (cAt L (vAt e 5) 2)), (gRF L (cAt L (vAt e 6) 2)))) tok spec_l03Mirror_hO mixed (LoopsOk_eq (l := [(2, bodyOf Try.f115 2), (8, bodyOf Try.f115 8)]) (by kernel_rfl) ⟨spec_l03Mirror_l2_ok v43 v44 v45, spec_l03Mirror_l8_ok v43 v44 v45, trivial⟩) (spec_l03Mirror_l0_be v43 v44 v45 (gI (cAt L (vAt e 5) 0)) (gI (cAt L (vAt e 5) 1)) (gI (cAt L (vAt e 6) 0)) (gI (cAt L (vAt e 6) 1))) rfl (by intro x; (cases x with | inl b => rfl | inr x => exact rfl)) h
noncomputable def spec_l03Mirror_T (v43 : Int) (v44 : Int) (v45 : List Nat) : Tree ((Unit) ⊕ ((Int × Int × Int × Int × Bool × (List Nat) × (List Nat)) ⊕ (Int × Int × Int × Int × (List Nat) × (List Nat)))) :=
  (.call (spec_l02Zero_g v43 v44) fun v48 =>
  (.call (spec_l02Zero_g v44 v44) fun v49 =>
  (.need (some (spec_l03Mirror_l0_E v43 v44 v45 v48.1 v48.2 v49.1 v49.2 ((0 : Int), List.replicate (Int.toNat (IntKind.i64.wrap (v43 * v44))) (0 : Nat), List.replicate (Int.toNat (IntKind.i64.wrap (v44 * v44))) (0 : Nat))) = some (spec_l03Mirror_l0_E v43 v44 v45 v48.1 v48.2 v49.1 v49.2 ((0 : Int), List.replicate (Int.toNat (IntKind.i64.wrap (v43 * v44))) (0 : Nat), List.replicate (Int.toNat (IntKind.i64.wrap (v44 * v44))) (0 : Nat)))) <|
  (.call (spec_l03Mirror_l0_g v43 v44 v45 v48.1 v48.2 v49.1 v49.2 ((0 : Int), List.replicate (Int.toNat (IntKind.i64.wrap (v43 * v44))) (0 : Nat), List.replicate (Int.toNat (IntKind.i64.wrap (v44 * v44))) (0 : Nat))) fun v1775 =>
  (.sum v1775 (fun v1776 =>
   .leaf (.inl ())
  ) (fun v1777 =>
   (.call (spec_l02Is_g v48.1 v48.2 v1777.1) fun v1778 =>
   (.br v1778 (
    (.call (spec_l02Is_g v49.1 v49.2 v1777.2) fun v1779 =>
    .leaf (.inr (.inl (v48.1, v48.2, v49.1, v49.2, v1779, v1777.1, v1777.2))))
   ) (
    .leaf (.inr (.inr (v48.1, v48.2, v49.1, v49.2, v1777.1, v1777.2)))
   )))
  ))))))

noncomputable def spec_l03Mirror_g (v43 : Int) (v44 : Int) (v45 : List Nat) : Option ((Unit) ⊕ ((Int × Int × Int × Int × Bool × (List Nat) × (List Nat)) ⊕ (Int × Int × Int × Int × (List Nat) × (List Nat)))) := (spec_l03Mirror_T v43 v44 v45).run
def spec_l03Mirror_enc (v43 : Int) (v44 : Int) (v45 : List Nat) (y : (Unit) ⊕ ((Int × Int × Int × Int × Bool × (List Nat) × (List Nat)) ⊕ (Int × Int × Int × Int × (List Nat) × (List Nat)))) : Rs := (match y with | .inl y => (.tup [.agg [.int .i64 (0 : Int), .int .i64 (0 : Int), .nilslc], .agg [.int .i64 (0 : Int), .int .i64 (0 : Int), .nilslc], .lit false], []) | .inr y => (match y with | .inl y => (.tup [.agg [.int .i64 y.1, .int .i64 y.2.1, .own 0 0 ((y.2.2.2.2.2.1).length)], .agg [.int .i64 y.2.2.1, .int .i64 y.2.2.2.1, .own 1 0 ((y.2.2.2.2.2.2).length)], .bool y.2.2.2.2.1], [.row (.f32 y.2.2.2.2.2.1) 0, .row (.f32 y.2.2.2.2.2.2) 0]) | .inr y => (.tup [.agg [.int .i64 y.1, .int .i64 y.2.1, .own 0 0 ((y.2.2.2.2.1).length)], .agg [.int .i64 y.2.2.1, .int .i64 y.2.2.2.1, .own 1 0 ((y.2.2.2.2.2).length)], .lit false], [.row (.f32 y.2.2.2.2.1) 0, .row (.f32 y.2.2.2.2.2) 0])))
theorem spec_l03Mirror_den (v43 : Int) (v44 : Int) (v45 : List Nat) : (den TT (tabD spec_l03Mirror_tab) (tabM spec_l03Mirror_tab) (spec_l03Mirror_LO v43 v44 v45) (codeOf Try.f115) ([.bptr (BR.root 0) [.int .i64 v43, .int .i64 v44, .bslc (BR.root 1) (.f32 v45)]] ++ List.replicate (Try.f115.ntmps - ([.bptr (BR.root 0) [.int .i64 v43, .int .i64 v44, .bslc (BR.root 1) (.f32 v45)]] : List DV).length) .undef) []).bind (retD TT Try.f115.results.toList 0) = (spec_l03Mirror_T v43 v44 v45).bind fun y => .leaf (spec_l03Mirror_enc v43 v44 v45 y) := by kernel_rfl
theorem spec_l03Mirror_fn (v43 : Int) (v44 : Int) (v45 : List Nat) (F : Fr) (hm : F.ids.length = 0) (h0 : St F [] F.H0) (hA : DVs.Ok F [] [.bptr (BR.root 0) [.int .i64 v43, .int .i64 v44, .bslc (BR.root 1) (.f32 v45)]]) {y : (Unit) ⊕ ((Int × Int × Int × Int × Bool × (List Nat) × (List Nat)) ⊕ (Int × Int × Int × Int × (List Nat) × (List Nat)))} (hy : spec_l03Mirror_g v43 v44 v45 = some y) : ∃ H', FnOk Try.prog 115 (DVs.av F [.bptr (BR.root 0) [.int .i64 v43, .int .i64 v44, .bslc (BR.root 1) (.f32 v45)]]) F.H0 ((spec_l03Mirror_enc v43 v44 v45 y).1.av F) H' ∧ St F (spec_l03Mirror_enc v43 v44 v45 y).2 H' ∧ (spec_l03Mirror_enc v43 v44 v45 y).1.Ok F (spec_l03Mirror_enc v43 v44 v45 y).2 :=
  fn_fin tok spec_l03Mirror_hO mixed Try.func115 Try.call115 (by kernel_rfl) (LoopsOk_eq (l := [(0, bodyOf Try.f115 0)]) (by kernel_rfl) ⟨spec_l03Mirror_l0_ok v43 v44 v45, trivial⟩) (spec_l03Mirror_den v43 v44 v45) hy hm h0 hA
noncomputable def spec_l03Mirror_F : DFn := fun args L =>
  match args with
  | [a1] =>
    optT (cellsOf L 3 a1) fun cs0 =>
    (match cs0 with
    | [.int .i64 v43, .int .i64 v44, a2] =>
    optT (rowF32 L a2) fun v45 =>
    .call (spec_l03Mirror_g v43 v44 v45) fun y => .sum y (fun y0 => .leaf (.tup [.agg [.int .i64 (0 : Int), .int .i64 (0 : Int), .nilslc], .agg [.int .i64 (0 : Int), .int .i64 (0 : Int), .nilslc], .lit false], L)) (fun z0 => .sum z0 (fun y1 => .leaf (.tup [.agg [.int .i64 y1.1, .int .i64 y1.2.1, .own (L.length + 0) 0 ((y1.2.2.2.2.2.1).length)], .agg [.int .i64 y1.2.2.1, .int .i64 y1.2.2.2.1, .own (L.length + 1) 0 ((y1.2.2.2.2.2.2).length)], .bool y1.2.2.2.2.1], L ++ [.row (.f32 y1.2.2.2.2.2.1) 0, .row (.f32 y1.2.2.2.2.2.2) 0])) (fun z1 => .leaf (.tup [.agg [.int .i64 z1.1, .int .i64 z1.2.1, .own (L.length + 0) 0 ((z1.2.2.2.2.1).length)], .agg [.int .i64 z1.2.2.1, .int .i64 z1.2.2.2.1, .own (L.length + 1) 0 ((z1.2.2.2.2.2).length)], .lit false], L ++ [.row (.f32 z1.2.2.2.2.1) 0, .row (.f32 z1.2.2.2.2.2) 0])))
    | _ => .fail)
  | _ => .fail
theorem spec_l03Mirror_Fok : COk Try.prog 115 spec_l03Mirror_F true := by
  intro F L H args r L' hs ha hr
  unfold spec_l03Mirror_F at hr
  split at hr
  · rename_i a1
    obtain ⟨cs0, hcp0, hr⟩ := optT_run hr
    split at hr
    · rename_i v43 v44 a2
      obtain ⟨v45, hv45, hr⟩ := optT_run hr
      simp only [Tree.run] at hr
      obtain ⟨y, hy, hr⟩ := Option.bind_eq_some_iff.1 hr
      cases y with
      | inl y =>
        simp only [Tree.run, Option.some.injEq, Prod.mk.injEq] at hr
        obtain ⟨rfl, rfl⟩ := hr
        exact call_ok0 hs (fun k => (([a1.av F, a2.av F] : List AV)[k]?).getD .top) [a1] [.bptr (BR.root 0) [.int .i64 v43, .int .i64 v44, .bslc (BR.root 1) (.f32 v45)]] (fun F' h0 hi hρ => ⟨by simp [DVs.av, DV.av, BR.av, hρ], spec_l03Mirror_fn v43 v44 v45 F' (by rw [hi]; rfl) (st_nil hi) ⟨bptr_ok hi (by rw [h0]; simpa [DVs.av, DV.av, BR.av, hρ] using (cellsOf_ok hs (DVs.okAt ha 0 rfl) hcp0).1) ⟨trivial, trivial, bslc_ok hi (by rw [h0, hρ]; exact rowF32_ok hs (DVs.okAt (cellsOf_ok hs (DVs.okAt ha 0 rfl) hcp0).2 2 rfl) hv45), trivial⟩, trivial⟩ hy⟩) rfl
      | inr y =>
        cases y with
        | inl y =>
          simp only [Tree.run, Option.some.injEq, Prod.mk.injEq] at hr
          obtain ⟨rfl, rfl⟩ := hr
          exact call_ok1 hs (fun k => (([a1.av F, a2.av F] : List AV)[k]?).getD .top) [a1] [.bptr (BR.root 0) [.int .i64 v43, .int .i64 v44, .bslc (BR.root 1) (.f32 v45)]] (fun F' h0 hi hρ => ⟨by simp [DVs.av, DV.av, BR.av, hρ], spec_l03Mirror_fn v43 v44 v45 F' (by rw [hi]; rfl) (st_nil hi) ⟨bptr_ok hi (by rw [h0]; simpa [DVs.av, DV.av, BR.av, hρ] using (cellsOf_ok hs (DVs.okAt ha 0 rfl) hcp0).1) ⟨trivial, trivial, bslc_ok hi (by rw [h0, hρ]; exact rowF32_ok hs (DVs.okAt (cellsOf_ok hs (DVs.okAt ha 0 rfl) hcp0).2 2 rfl) hv45), trivial⟩, trivial⟩ hy⟩) rfl rfl
        | inr y =>
          simp only [Tree.run, Option.some.injEq, Prod.mk.injEq] at hr
          obtain ⟨rfl, rfl⟩ := hr
          exact call_ok1 hs (fun k => (([a1.av F, a2.av F] : List AV)[k]?).getD .top) [a1] [.bptr (BR.root 0) [.int .i64 v43, .int .i64 v44, .bslc (BR.root 1) (.f32 v45)]] (fun F' h0 hi hρ => ⟨by simp [DVs.av, DV.av, BR.av, hρ], spec_l03Mirror_fn v43 v44 v45 F' (by rw [hi]; rfl) (st_nil hi) ⟨bptr_ok hi (by rw [h0]; simpa [DVs.av, DV.av, BR.av, hρ] using (cellsOf_ok hs (DVs.okAt ha 0 rfl) hcp0).1) ⟨trivial, trivial, bslc_ok hi (by rw [h0, hρ]; exact rowF32_ok hs (DVs.okAt (cellsOf_ok hs (DVs.okAt ha 0 rfl) hcp0).2 2 rfl) hv45), trivial⟩, trivial⟩ hy⟩) rfl rfl
    · cases hr
  · cases hr
/-! spec.MirrorFactor -/
noncomputable def spec_MirrorFactor_LO (v22 : Int) (v23 : Int) (v24 : List Nat) : LOr := fun id e L =>
  match id with
  | _ => .fail
noncomputable def spec_MirrorFactor_tab : List (FuncId × DFn × Bool) := [(61, spec_l02Is_F, true), (115, spec_l03Mirror_F, true)]
theorem spec_MirrorFactor_hO : OrcOk Try.prog (tabD spec_MirrorFactor_tab) (tabM spec_MirrorFactor_tab) := tabD_cons spec_l02Is_Fok (tabD_cons spec_l03Mirror_Fok (tabD_nil _))
noncomputable def spec_MirrorFactor_T (v22 : Int) (v23 : Int) (v24 : List Nat) : Tree ((Unit) ⊕ (Int × Int × Int × Int × (List Nat) × (List Nat))) :=
  (.call (spec_l02Is_g v22 v23 v24) fun v42 =>
  (.br (!v42) (
   .leaf (.inl ())
  ) (
   (.br (decide (v22 < v23)) (
    .leaf (.inl ())
   ) (
    (.call (spec_l03Mirror_g v22 v23 v24) fun v1780 =>
    (.sum v1780 (fun v1781 =>
     .leaf (.inl ())
    ) (fun v1782 =>
     (.sum v1782 (fun v1783 =>
      (.br (!v1783.2.2.2.2.1) (
       .leaf (.inl ())
      ) (
       .leaf (.inr (v1783.1, v1783.2.1, v1783.2.2.1, v1783.2.2.2.1, v1783.2.2.2.2.2.1, v1783.2.2.2.2.2.2))
      ))
     ) (fun v1784 =>
      .leaf (.inl ())
     ))
    )))
   ))
  )))

noncomputable def spec_MirrorFactor_g (v22 : Int) (v23 : Int) (v24 : List Nat) : Option ((Unit) ⊕ (Int × Int × Int × Int × (List Nat) × (List Nat))) := (spec_MirrorFactor_T v22 v23 v24).run
def spec_MirrorFactor_enc (v22 : Int) (v23 : Int) (v24 : List Nat) (y : (Unit) ⊕ (Int × Int × Int × Int × (List Nat) × (List Nat))) : Rs := (match y with | .inl y => (.tup [.agg [.int .i64 (0 : Int), .int .i64 (0 : Int), .nilslc], .agg [.int .i64 (0 : Int), .int .i64 (0 : Int), .nilslc], .lit false], []) | .inr y => (.tup [.agg [.int .i64 y.1, .int .i64 y.2.1, .own 0 0 ((y.2.2.2.2.1).length)], .agg [.int .i64 y.2.2.1, .int .i64 y.2.2.2.1, .own 1 0 ((y.2.2.2.2.2).length)], .lit true], [.row (.f32 y.2.2.2.2.1) 0, .row (.f32 y.2.2.2.2.2) 0]))
theorem spec_MirrorFactor_den (v22 : Int) (v23 : Int) (v24 : List Nat) : (den TT (tabD spec_MirrorFactor_tab) (tabM spec_MirrorFactor_tab) (spec_MirrorFactor_LO v22 v23 v24) (codeOf Try.f50) ([.agg [.int .i64 v22, .int .i64 v23, .bslc (BR.root 0) (.f32 v24)]] ++ List.replicate (Try.f50.ntmps - ([.agg [.int .i64 v22, .int .i64 v23, .bslc (BR.root 0) (.f32 v24)]] : List DV).length) .undef) []).bind (retD TT Try.f50.results.toList 0) = (spec_MirrorFactor_T v22 v23 v24).bind fun y => .leaf (spec_MirrorFactor_enc v22 v23 v24 y) := by kernel_rfl
theorem spec_MirrorFactor_fn (v22 : Int) (v23 : Int) (v24 : List Nat) (F : Fr) (hm : F.ids.length = 0) (h0 : St F [] F.H0) (hA : DVs.Ok F [] [.agg [.int .i64 v22, .int .i64 v23, .bslc (BR.root 0) (.f32 v24)]]) {y : (Unit) ⊕ (Int × Int × Int × Int × (List Nat) × (List Nat))} (hy : spec_MirrorFactor_g v22 v23 v24 = some y) : ∃ H', FnOk Try.prog 50 (DVs.av F [.agg [.int .i64 v22, .int .i64 v23, .bslc (BR.root 0) (.f32 v24)]]) F.H0 ((spec_MirrorFactor_enc v22 v23 v24 y).1.av F) H' ∧ St F (spec_MirrorFactor_enc v22 v23 v24 y).2 H' ∧ (spec_MirrorFactor_enc v22 v23 v24 y).1.Ok F (spec_MirrorFactor_enc v22 v23 v24 y).2 :=
  fn_fin tok spec_MirrorFactor_hO mixed Try.func50 Try.call50 (by kernel_rfl) (LoopsOk_eq (l := []) (by kernel_rfl) trivial) (spec_MirrorFactor_den v22 v23 v24) hy hm h0 hA
noncomputable def spec_MirrorFactor_F : DFn := fun args L =>
  match args with
  | [.agg [.int .i64 v22, .int .i64 v23, a1]] =>
    optT (rowF32 L a1) fun v24 =>
    .call (spec_MirrorFactor_g v22 v23 v24) fun y => .sum y (fun y0 => .leaf (.tup [.agg [.int .i64 (0 : Int), .int .i64 (0 : Int), .nilslc], .agg [.int .i64 (0 : Int), .int .i64 (0 : Int), .nilslc], .lit false], L)) (fun z0 => .leaf (.tup [.agg [.int .i64 z0.1, .int .i64 z0.2.1, .own (L.length + 0) 0 ((z0.2.2.2.2.1).length)], .agg [.int .i64 z0.2.2.1, .int .i64 z0.2.2.2.1, .own (L.length + 1) 0 ((z0.2.2.2.2.2).length)], .lit true], L ++ [.row (.f32 z0.2.2.2.2.1) 0, .row (.f32 z0.2.2.2.2.2) 0]))
  | _ => .fail
theorem spec_MirrorFactor_Fok : COk Try.prog 50 spec_MirrorFactor_F true := by
  intro F L H args r L' hs ha hr
  unfold spec_MirrorFactor_F at hr
  split at hr
  · rename_i v22 v23 a1
    obtain ⟨v24, hv24, hr⟩ := optT_run hr
    simp only [Tree.run] at hr
    obtain ⟨y, hy, hr⟩ := Option.bind_eq_some_iff.1 hr
    cases y with
    | inl y =>
      simp only [Tree.run, Option.some.injEq, Prod.mk.injEq] at hr
      obtain ⟨rfl, rfl⟩ := hr
      exact call_ok0 hs (fun k => (([a1.av F] : List AV)[k]?).getD .top) [.agg [.int .i64 v22, .int .i64 v23, a1]] [.agg [.int .i64 v22, .int .i64 v23, .bslc (BR.root 0) (.f32 v24)]] (fun F' h0 hi hρ => ⟨by simp [DVs.av, DV.av, BR.av, hρ], spec_MirrorFactor_fn v22 v23 v24 F' (by rw [hi]; rfl) (st_nil hi) ⟨⟨trivial, trivial, bslc_ok hi (by rw [h0, hρ]; exact rowF32_ok hs (DVs.okAt (DVs.okAt ha 0 rfl) 2 rfl) hv24), trivial⟩, trivial⟩ hy⟩) rfl
    | inr y =>
      simp only [Tree.run, Option.some.injEq, Prod.mk.injEq] at hr
      obtain ⟨rfl, rfl⟩ := hr
      exact call_ok1 hs (fun k => (([a1.av F] : List AV)[k]?).getD .top) [.agg [.int .i64 v22, .int .i64 v23, a1]] [.agg [.int .i64 v22, .int .i64 v23, .bslc (BR.root 0) (.f32 v24)]] (fun F' h0 hi hρ => ⟨by simp [DVs.av, DV.av, BR.av, hρ], spec_MirrorFactor_fn v22 v23 v24 F' (by rw [hi]; rfl) (st_nil hi) ⟨⟨trivial, trivial, bslc_ok hi (by rw [h0, hρ]; exact rowF32_ok hs (DVs.okAt (DVs.okAt ha 0 rfl) 2 rfl) hv24), trivial⟩, trivial⟩ hy⟩) rfl rfl
  · cases hr
/-! impl.inRange -/
noncomputable def impl_inRange_LO (v1799 : Int) (v1800 : Int) (v1801 : Int) : LOr := fun id e L =>
  match id with
  | _ => .fail
noncomputable def impl_inRange_tab : List (FuncId × DFn × Bool) := []
theorem impl_inRange_hO : OrcOk Try.prog (tabD impl_inRange_tab) (tabM impl_inRange_tab) := tabD_nil _
noncomputable def impl_inRange_T (v1799 : Int) (v1800 : Int) (v1801 : Int) : Tree (Bool) :=
  (.br (decide (v1800 ≤ v1799)) (
   .leaf (decide (v1799 ≤ v1801))
  ) (
   .leaf false
  ))

noncomputable def impl_inRange_g (v1799 : Int) (v1800 : Int) (v1801 : Int) : Option (Bool) := (impl_inRange_T v1799 v1800 v1801).run
def impl_inRange_enc (v1799 : Int) (v1800 : Int) (v1801 : Int) (y : Bool) : Rs := (.bool y, [])
theorem impl_inRange_den (v1799 : Int) (v1800 : Int) (v1801 : Int) : (den TT (tabD impl_inRange_tab) (tabM impl_inRange_tab) (impl_inRange_LO v1799 v1800 v1801) (codeOf Try.f73) ([.int .i64 v1799, .int .i64 v1800, .int .i64 v1801] ++ List.replicate (Try.f73.ntmps - ([.int .i64 v1799, .int .i64 v1800, .int .i64 v1801] : List DV).length) .undef) []).bind (retD TT Try.f73.results.toList 0) = (impl_inRange_T v1799 v1800 v1801).bind fun y => .leaf (impl_inRange_enc v1799 v1800 v1801 y) := by kernel_rfl
theorem impl_inRange_fn (v1799 : Int) (v1800 : Int) (v1801 : Int) (F : Fr) (hm : F.ids.length = 0) (h0 : St F [] F.H0) (hA : DVs.Ok F [] [.int .i64 v1799, .int .i64 v1800, .int .i64 v1801]) {y : Bool} (hy : impl_inRange_g v1799 v1800 v1801 = some y) : ∃ H', FnOk Try.prog 73 (DVs.av F [.int .i64 v1799, .int .i64 v1800, .int .i64 v1801]) F.H0 ((impl_inRange_enc v1799 v1800 v1801 y).1.av F) H' ∧ St F (impl_inRange_enc v1799 v1800 v1801 y).2 H' ∧ (impl_inRange_enc v1799 v1800 v1801 y).1.Ok F (impl_inRange_enc v1799 v1800 v1801 y).2 :=
  fn_fin tok impl_inRange_hO mixed Try.func73 Try.call73 (by kernel_rfl) (LoopsOk_eq (l := []) (by kernel_rfl) trivial) (impl_inRange_den v1799 v1800 v1801) hy hm h0 hA
def impl_inRange_v (v1799 : Int) (v1800 : Int) (v1801 : Int) : Bool :=
  if (decide (v1800 ≤ v1799)) = true then (
   decide (v1799 ≤ v1801)
  ) else (
   false
  )
theorem impl_inRange_tot (v1799 : Int) (v1800 : Int) (v1801 : Int) : impl_inRange_g v1799 v1800 v1801 = some (impl_inRange_v v1799 v1800 v1801) := by
  unfold impl_inRange_g impl_inRange_T impl_inRange_v
  simp only [Tree.run]
  repeat' (first | rfl | split)
noncomputable def impl_inRange_F : DFn := fun args L =>
  match args with
  | [.int .i64 v1799, .int .i64 v1800, .int .i64 v1801] =>
    .leaf (.bool (impl_inRange_v v1799 v1800 v1801), L)
  | _ => .fail
theorem impl_inRange_Fok : COk Try.prog 73 impl_inRange_F true := by
  intro F L H args r L' hs ha hr
  unfold impl_inRange_F at hr
  split at hr
  · rename_i v1799 v1800 v1801
    have hy := impl_inRange_tot v1799 v1800 v1801
    generalize impl_inRange_v v1799 v1800 v1801 = y at hy hr
    simp only [Tree.run, Option.some.injEq, Prod.mk.injEq] at hr
    obtain ⟨rfl, rfl⟩ := hr
    exact call_ok0 hs (fun k => (([] : List AV)[k]?).getD .top) [.int .i64 v1799, .int .i64 v1800, .int .i64 v1801] [.int .i64 v1799, .int .i64 v1800, .int .i64 v1801] (fun F' h0 hi hρ => ⟨by simp [DVs.av, DV.av, BR.av, hρ], impl_inRange_fn v1799 v1800 v1801 F' (by rw [hi]; rfl) (st_nil hi) ⟨trivial, trivial, trivial, trivial⟩ hy⟩) rfl
  · cases hr
/-! impl.isSide -/
noncomputable def impl_isSide_LO (v1798 : Int) : LOr := fun id e L =>
  match id with
  | _ => .fail
noncomputable def impl_isSide_tab : List (FuncId × DFn × Bool) := [(73, impl_inRange_F, true)]
theorem impl_isSide_hO : OrcOk Try.prog (tabD impl_isSide_tab) (tabM impl_isSide_tab) := tabD_cons impl_inRange_Fok (tabD_nil _)
noncomputable def impl_isSide_T (v1798 : Int) : Tree (Bool) :=
  .leaf (impl_inRange_v v1798 (1 : Int) (12 : Int))

noncomputable def impl_isSide_g (v1798 : Int) : Option (Bool) := (impl_isSide_T v1798).run
def impl_isSide_enc (v1798 : Int) (y : Bool) : Rs := (.bool y, [])
theorem impl_isSide_den (v1798 : Int) : (den TT (tabD impl_isSide_tab) (tabM impl_isSide_tab) (impl_isSide_LO v1798) (codeOf Try.f77) ([.int .i64 v1798] ++ List.replicate (Try.f77.ntmps - ([.int .i64 v1798] : List DV).length) .undef) []).bind (retD TT Try.f77.results.toList 0) = (impl_isSide_T v1798).bind fun y => .leaf (impl_isSide_enc v1798 y) := by kernel_rfl
theorem impl_isSide_fn (v1798 : Int) (F : Fr) (hm : F.ids.length = 0) (h0 : St F [] F.H0) (hA : DVs.Ok F [] [.int .i64 v1798]) {y : Bool} (hy : impl_isSide_g v1798 = some y) : ∃ H', FnOk Try.prog 77 (DVs.av F [.int .i64 v1798]) F.H0 ((impl_isSide_enc v1798 y).1.av F) H' ∧ St F (impl_isSide_enc v1798 y).2 H' ∧ (impl_isSide_enc v1798 y).1.Ok F (impl_isSide_enc v1798 y).2 :=
  fn_fin tok impl_isSide_hO mixed Try.func77 Try.call77 (by kernel_rfl) (LoopsOk_eq (l := []) (by kernel_rfl) trivial) (impl_isSide_den v1798) hy hm h0 hA
def impl_isSide_v (v1798 : Int) : Bool :=
  (impl_inRange_v v1798 (1 : Int) (12 : Int))
theorem impl_isSide_tot (v1798 : Int) : impl_isSide_g v1798 = some (impl_isSide_v v1798) := by
  unfold impl_isSide_g impl_isSide_T impl_isSide_v
  simp only [Tree.run]
  repeat' (first | rfl | split)
noncomputable def impl_isSide_F : DFn := fun args L =>
  match args with
  | [.int .i64 v1798] =>
    .leaf (.bool (impl_isSide_v v1798), L)
  | _ => .fail
theorem impl_isSide_Fok : COk Try.prog 77 impl_isSide_F true := by
  intro F L H args r L' hs ha hr
  unfold impl_isSide_F at hr
  split at hr
  · rename_i v1798
    have hy := impl_isSide_tot v1798
    generalize impl_isSide_v v1798 = y at hy hr
    simp only [Tree.run, Option.some.injEq, Prod.mk.injEq] at hr
    obtain ⟨rfl, rfl⟩ := hr
    exact call_ok0 hs (fun k => (([] : List AV)[k]?).getD .top) [.int .i64 v1798] [.int .i64 v1798] (fun F' h0 hi hρ => ⟨by simp [DVs.av, DV.av, BR.av, hρ], impl_isSide_fn v1798 F' (by rw [hi]; rfl) (st_nil hi) ⟨trivial, trivial⟩ hy⟩) rfl
  · cases hr
/-! impl.length[float32] -/
noncomputable def impl_lengthF_LO (v1802 : List Nat) : LOr := fun id e L =>
  match id with
  | _ => .fail
noncomputable def impl_lengthF_tab : List (FuncId × DFn × Bool) := []
theorem impl_lengthF_hO : OrcOk Try.prog (tabD impl_lengthF_tab) (tabM impl_lengthF_tab) := tabD_nil _
noncomputable def impl_lengthF_T (v1802 : List Nat) : Tree (Int) :=
  .leaf ((v1802.length : Nat) : Int)

noncomputable def impl_lengthF_g (v1802 : List Nat) : Option (Int) := (impl_lengthF_T v1802).run
def impl_lengthF_enc (v1802 : List Nat) (y : Int) : Rs := (.int .i64 y, [])
theorem impl_lengthF_den (v1802 : List Nat) : (den TT (tabD impl_lengthF_tab) (tabM impl_lengthF_tab) (impl_lengthF_LO v1802) (codeOf Try.f112) ([.bslc (BR.root 0) (.f32 v1802)] ++ List.replicate (Try.f112.ntmps - ([.bslc (BR.root 0) (.f32 v1802)] : List DV).length) .undef) []).bind (retD TT Try.f112.results.toList 0) = (impl_lengthF_T v1802).bind fun y => .leaf (impl_lengthF_enc v1802 y) := by kernel_rfl
theorem impl_lengthF_fn (v1802 : List Nat) (F : Fr) (hm : F.ids.length = 0) (h0 : St F [] F.H0) (hA : DVs.Ok F [] [.bslc (BR.root 0) (.f32 v1802)]) {y : Int} (hy : impl_lengthF_g v1802 = some y) : ∃ H', FnOk Try.prog 112 (DVs.av F [.bslc (BR.root 0) (.f32 v1802)]) F.H0 ((impl_lengthF_enc v1802 y).1.av F) H' ∧ St F (impl_lengthF_enc v1802 y).2 H' ∧ (impl_lengthF_enc v1802 y).1.Ok F (impl_lengthF_enc v1802 y).2 :=
  fn_fin tok impl_lengthF_hO mixed Try.func112 Try.call112 (by kernel_rfl) (LoopsOk_eq (l := []) (by kernel_rfl) trivial) (impl_lengthF_den v1802) hy hm h0 hA
def impl_lengthF_v (v1802 : List Nat) : Int :=
  ((v1802.length : Nat) : Int)
theorem impl_lengthF_tot (v1802 : List Nat) : impl_lengthF_g v1802 = some (impl_lengthF_v v1802) := by
  unfold impl_lengthF_g impl_lengthF_T impl_lengthF_v
  simp only [Tree.run]
  repeat' (first | rfl | split)
noncomputable def impl_lengthF_F : DFn := fun args L =>
  match args with
  | [a1] =>
    optT (rowF32 L a1) fun v1802 =>
    .leaf (.int .i64 (impl_lengthF_v v1802), L)
  | _ => .fail
theorem impl_lengthF_Fok : COk Try.prog 112 impl_lengthF_F true := by
  intro F L H args r L' hs ha hr
  unfold impl_lengthF_F at hr
  split at hr
  · rename_i a1
    obtain ⟨v1802, hv1802, hr⟩ := optT_run hr
    have hy := impl_lengthF_tot v1802
    generalize impl_lengthF_v v1802 = y at hy hr
    simp only [Tree.run, Option.some.injEq, Prod.mk.injEq] at hr
    obtain ⟨rfl, rfl⟩ := hr
    exact call_ok0 hs (fun k => (([a1.av F] : List AV)[k]?).getD .top) [a1] [.bslc (BR.root 0) (.f32 v1802)] (fun F' h0 hi hρ => ⟨by simp [DVs.av, DV.av, BR.av, hρ], impl_lengthF_fn v1802 F' (by rw [hi]; rfl) (st_nil hi) ⟨bslc_ok hi (by rw [h0, hρ]; exact rowF32_ok hs (DVs.okAt ha 0 rfl) hv1802), trivial⟩ hy⟩) rfl
  · cases hr
/-! math.IsNaN -/
noncomputable def math_IsNaN_LO (v1810 : Nat) : LOr := fun id e L =>
  match id with
  | _ => .fail
noncomputable def math_IsNaN_tab : List (FuncId × DFn × Bool) := []
theorem math_IsNaN_hO : OrcOk Try.prog (tabD math_IsNaN_tab) (tabM math_IsNaN_tab) := tabD_nil _
noncomputable def math_IsNaN_T (v1810 : Nat) : Tree (Bool) :=
  .leaf (!feq .f64 v1810 v1810)

noncomputable def math_IsNaN_g (v1810 : Nat) : Option (Bool) := (math_IsNaN_T v1810).run
def math_IsNaN_enc (v1810 : Nat) (y : Bool) : Rs := (.bool y, [])
theorem math_IsNaN_den (v1810 : Nat) : (den TT (tabD math_IsNaN_tab) (tabM math_IsNaN_tab) (math_IsNaN_LO v1810) (codeOf Try.f172) ([.flt .f64 v1810] ++ List.replicate (Try.f172.ntmps - ([.flt .f64 v1810] : List DV).length) .undef) []).bind (retD TT Try.f172.results.toList 0) = (math_IsNaN_T v1810).bind fun y => .leaf (math_IsNaN_enc v1810 y) := by kernel_rfl
theorem math_IsNaN_fn (v1810 : Nat) (F : Fr) (hm : F.ids.length = 0) (h0 : St F [] F.H0) (hA : DVs.Ok F [] [.flt .f64 v1810]) {y : Bool} (hy : math_IsNaN_g v1810 = some y) : ∃ H', FnOk Try.prog 172 (DVs.av F [.flt .f64 v1810]) F.H0 ((math_IsNaN_enc v1810 y).1.av F) H' ∧ St F (math_IsNaN_enc v1810 y).2 H' ∧ (math_IsNaN_enc v1810 y).1.Ok F (math_IsNaN_enc v1810 y).2 :=
  fn_fin tok math_IsNaN_hO mixed Try.func172 Try.call172 (by kernel_rfl) (LoopsOk_eq (l := []) (by kernel_rfl) trivial) (math_IsNaN_den v1810) hy hm h0 hA
def math_IsNaN_v (v1810 : Nat) : Bool :=
  !feq .f64 v1810 v1810
theorem math_IsNaN_tot (v1810 : Nat) : math_IsNaN_g v1810 = some (math_IsNaN_v v1810) := by
  unfold math_IsNaN_g math_IsNaN_T math_IsNaN_v
  simp only [Tree.run]
  repeat' (first | rfl | split)
noncomputable def math_IsNaN_F : DFn := fun args L =>
  match args with
  | [.flt .f64 v1810] =>
    .leaf (.bool (math_IsNaN_v v1810), L)
  | _ => .fail
theorem math_IsNaN_Fok : COk Try.prog 172 math_IsNaN_F true := by
  intro F L H args r L' hs ha hr
  unfold math_IsNaN_F at hr
  split at hr
  · rename_i v1810
    have hy := math_IsNaN_tot v1810
    generalize math_IsNaN_v v1810 = y at hy hr
    simp only [Tree.run, Option.some.injEq, Prod.mk.injEq] at hr
    obtain ⟨rfl, rfl⟩ := hr
    exact call_ok0 hs (fun k => (([] : List AV)[k]?).getD .top) [.flt .f64 v1810] [.flt .f64 v1810] (fun F' h0 hi hρ => ⟨by simp [DVs.av, DV.av, BR.av, hρ], math_IsNaN_fn v1810 F' (by rw [hi]; rfl) (st_nil hi) ⟨trivial, trivial⟩ hy⟩) rfl
  · cases hr
/-! math.IsInf -/
noncomputable def math_IsInf_LO (v1811 : Nat) (v1812 : Int) : LOr := fun id e L =>
  match id with
  | _ => .fail
noncomputable def math_IsInf_tab : List (FuncId × DFn × Bool) := [(97, Abs_F, true)]
theorem math_IsInf_hO : OrcOk Try.prog (tabD math_IsInf_tab) (tabM math_IsInf_tab) := tabD_cons Abs_Fok (tabD_nil _)
noncomputable def math_IsInf_T (v1811 : Nat) (v1812 : Int) : Tree (Bool) :=
  (.br (decide (v1812 = (0 : Int))) (
   .leaf (fgrt .f64 (fabs v1811) (9218868437227405311 : Nat))
  ) (
   (.br (decide (v1812 < (0 : Int))) (
    .leaf (fgrt .f64 (fneg .f64 v1811) (9218868437227405311 : Nat))
   ) (
    .leaf (fgrt .f64 v1811 (9218868437227405311 : Nat))
   ))
  ))

noncomputable def math_IsInf_g (v1811 : Nat) (v1812 : Int) : Option (Bool) := (math_IsInf_T v1811 v1812).run
def math_IsInf_enc (v1811 : Nat) (v1812 : Int) (y : Bool) : Rs := (.bool y, [])
theorem math_IsInf_den (v1811 : Nat) (v1812 : Int) : (den TT (tabD math_IsInf_tab) (tabM math_IsInf_tab) (math_IsInf_LO v1811 v1812) (codeOf Try.f173) ([.flt .f64 v1811, .int .i64 v1812] ++ List.replicate (Try.f173.ntmps - ([.flt .f64 v1811, .int .i64 v1812] : List DV).length) .undef) []).bind (retD TT Try.f173.results.toList 0) = (math_IsInf_T v1811 v1812).bind fun y => .leaf (math_IsInf_enc v1811 v1812 y) := by kernel_rfl
theorem math_IsInf_fn (v1811 : Nat) (v1812 : Int) (F : Fr) (hm : F.ids.length = 0) (h0 : St F [] F.H0) (hA : DVs.Ok F [] [.flt .f64 v1811, .int .i64 v1812]) {y : Bool} (hy : math_IsInf_g v1811 v1812 = some y) : ∃ H', FnOk Try.prog 173 (DVs.av F [.flt .f64 v1811, .int .i64 v1812]) F.H0 ((math_IsInf_enc v1811 v1812 y).1.av F) H' ∧ St F (math_IsInf_enc v1811 v1812 y).2 H' ∧ (math_IsInf_enc v1811 v1812 y).1.Ok F (math_IsInf_enc v1811 v1812 y).2 :=
  fn_fin tok math_IsInf_hO mixed Try.func173 Try.call173 (by kernel_rfl) (LoopsOk_eq (l := []) (by kernel_rfl) trivial) (math_IsInf_den v1811 v1812) hy hm h0 hA
def math_IsInf_v (v1811 : Nat) (v1812 : Int) : Bool :=
  if (decide (v1812 = (0 : Int))) = true then (
   fgrt .f64 (fabs v1811) (9218868437227405311 : Nat)
  ) else (
   if (decide (v1812 < (0 : Int))) = true then (
    fgrt .f64 (fneg .f64 v1811) (9218868437227405311 : Nat)
   ) else (
    fgrt .f64 v1811 (9218868437227405311 : Nat)
   )
  )
theorem math_IsInf_tot (v1811 : Nat) (v1812 : Int) : math_IsInf_g v1811 v1812 = some (math_IsInf_v v1811 v1812) := by
  unfold math_IsInf_g math_IsInf_T math_IsInf_v
  simp only [Tree.run]
  repeat' (first | rfl | split)
noncomputable def math_IsInf_F : DFn := fun args L =>
  match args with
  | [.flt .f64 v1811, .int .i64 v1812] =>
    .leaf (.bool (math_IsInf_v v1811 v1812), L)
  | _ => .fail
theorem math_IsInf_Fok : COk Try.prog 173 math_IsInf_F true := by
  intro F L H args r L' hs ha hr
  unfold math_IsInf_F at hr
  split at hr
  · rename_i v1811 v1812
    have hy := math_IsInf_tot v1811 v1812
    generalize math_IsInf_v v1811 v1812 = y at hy hr
    simp only [Tree.run, Option.some.injEq, Prod.mk.injEq] at hr
    obtain ⟨rfl, rfl⟩ := hr
    exact call_ok0 hs (fun k => (([] : List AV)[k]?).getD .top) [.flt .f64 v1811, .int .i64 v1812] [.flt .f64 v1811, .int .i64 v1812] (fun F' h0 hi hρ => ⟨by simp [DVs.av, DV.av, BR.av, hρ], math_IsInf_fn v1811 v1812 F' (by rw [hi]; rfl) (st_nil hi) ⟨trivial, trivial, trivial⟩ hy⟩) rfl
  · cases hr
/-! impl.isFinite64 -/
noncomputable def impl_isFinite64_LO (v1809 : Nat) : LOr := fun id e L =>
  match id with
  | _ => .fail
noncomputable def impl_isFinite64_tab : List (FuncId × DFn × Bool) := [(172, math_IsNaN_F, true), (173, math_IsInf_F, true)]
theorem impl_isFinite64_hO : OrcOk Try.prog (tabD impl_isFinite64_tab) (tabM impl_isFinite64_tab) := tabD_cons math_IsNaN_Fok (tabD_cons math_IsInf_Fok (tabD_nil _))
noncomputable def impl_isFinite64_T (v1809 : Nat) : Tree (Bool) :=
  (.br (!(math_IsNaN_v v1809)) (
   .leaf (!(math_IsInf_v v1809 (0 : Int)))
  ) (
   .leaf false
  ))

noncomputable def impl_isFinite64_g (v1809 : Nat) : Option (Bool) := (impl_isFinite64_T v1809).run
def impl_isFinite64_enc (v1809 : Nat) (y : Bool) : Rs := (.bool y, [])
theorem impl_isFinite64_den (v1809 : Nat) : (den TT (tabD impl_isFinite64_tab) (tabM impl_isFinite64_tab) (impl_isFinite64_LO v1809) (codeOf Try.f149) ([.flt .f64 v1809] ++ List.replicate (Try.f149.ntmps - ([.flt .f64 v1809] : List DV).length) .undef) []).bind (retD TT Try.f149.results.toList 0) = (impl_isFinite64_T v1809).bind fun y => .leaf (impl_isFinite64_enc v1809 y) := by kernel_rfl
theorem impl_isFinite64_fn (v1809 : Nat) (F : Fr) (hm : F.ids.length = 0) (h0 : St F [] F.H0) (hA : DVs.Ok F [] [.flt .f64 v1809]) {y : Bool} (hy : impl_isFinite64_g v1809 = some y) : ∃ H', FnOk Try.prog 149 (DVs.av F [.flt .f64 v1809]) F.H0 ((impl_isFinite64_enc v1809 y).1.av F) H' ∧ St F (impl_isFinite64_enc v1809 y).2 H' ∧ (impl_isFinite64_enc v1809 y).1.Ok F (impl_isFinite64_enc v1809 y).2 :=
  fn_fin tok impl_isFinite64_hO mixed Try.func149 Try.call149 (by kernel_rfl) (LoopsOk_eq (l := []) (by kernel_rfl) trivial) (impl_isFinite64_den v1809) hy hm h0 hA
def impl_isFinite64_v (v1809 : Nat) : Bool :=
  if (!(math_IsNaN_v v1809)) = true then (
   !(math_IsInf_v v1809 (0 : Int))
  ) else (
   false
  )
theorem impl_isFinite64_tot (v1809 : Nat) : impl_isFinite64_g v1809 = some (impl_isFinite64_v v1809) := by
  unfold impl_isFinite64_g impl_isFinite64_T impl_isFinite64_v
  simp only [Tree.run]
  repeat' (first | rfl | split)
noncomputable def impl_isFinite64_F : DFn := fun args L =>
  match args with
  | [.flt .f64 v1809] =>
    .leaf (.bool (impl_isFinite64_v v1809), L)
  | _ => .fail
theorem impl_isFinite64_Fok : COk Try.prog 149 impl_isFinite64_F true := by
  intro F L H args r L' hs ha hr
  unfold impl_isFinite64_F at hr
  split at hr
  · rename_i v1809
    have hy := impl_isFinite64_tot v1809
    generalize impl_isFinite64_v v1809 = y at hy hr
    simp only [Tree.run, Option.some.injEq, Prod.mk.injEq] at hr
    obtain ⟨rfl, rfl⟩ := hr
    exact call_ok0 hs (fun k => (([] : List AV)[k]?).getD .top) [.flt .f64 v1809] [.flt .f64 v1809] (fun F' h0 hi hρ => ⟨by simp [DVs.av, DV.av, BR.av, hρ], impl_isFinite64_fn v1809 F' (by rw [hi]; rfl) (st_nil hi) ⟨trivial, trivial⟩ hy⟩) rfl
  · cases hr
/-! impl.IsFinite -/
noncomputable def impl_IsFinite_LO (v1808 : Nat) : LOr := fun id e L =>
  match id with
  | _ => .fail
noncomputable def impl_IsFinite_tab : List (FuncId × DFn × Bool) := [(149, impl_isFinite64_F, true)]
theorem impl_IsFinite_hO : OrcOk Try.prog (tabD impl_IsFinite_tab) (tabM impl_IsFinite_tab) := tabD_cons impl_isFinite64_Fok (tabD_nil _)
noncomputable def impl_IsFinite_T (v1808 : Nat) : Tree (Bool) :=
  .leaf (impl_isFinite64_v (wid v1808))

noncomputable def impl_IsFinite_g (v1808 : Nat) : Option (Bool) := (impl_IsFinite_T v1808).run
def impl_IsFinite_enc (v1808 : Nat) (y : Bool) : Rs := (.bool y, [])
theorem impl_IsFinite_den (v1808 : Nat) : (den TT (tabD impl_IsFinite_tab) (tabM impl_IsFinite_tab) (impl_IsFinite_LO v1808) (codeOf Try.f96) ([.flt .f32 v1808] ++ List.replicate (Try.f96.ntmps - ([.flt .f32 v1808] : List DV).length) .undef) []).bind (retD TT Try.f96.results.toList 0) = (impl_IsFinite_T v1808).bind fun y => .leaf (impl_IsFinite_enc v1808 y) := by kernel_rfl
theorem impl_IsFinite_fn (v1808 : Nat) (F : Fr) (hm : F.ids.length = 0) (h0 : St F [] F.H0) (hA : DVs.Ok F [] [.flt .f32 v1808]) {y : Bool} (hy : impl_IsFinite_g v1808 = some y) : ∃ H', FnOk Try.prog 96 (DVs.av F [.flt .f32 v1808]) F.H0 ((impl_IsFinite_enc v1808 y).1.av F) H' ∧ St F (impl_IsFinite_enc v1808 y).2 H' ∧ (impl_IsFinite_enc v1808 y).1.Ok F (impl_IsFinite_enc v1808 y).2 :=
  fn_fin tok impl_IsFinite_hO mixed Try.func96 Try.call96 (by kernel_rfl) (LoopsOk_eq (l := []) (by kernel_rfl) trivial) (impl_IsFinite_den v1808) hy hm h0 hA
def impl_IsFinite_v (v1808 : Nat) : Bool :=
  (impl_isFinite64_v (wid v1808))
theorem impl_IsFinite_tot (v1808 : Nat) : impl_IsFinite_g v1808 = some (impl_IsFinite_v v1808) := by
  unfold impl_IsFinite_g impl_IsFinite_T impl_IsFinite_v
  simp only [Tree.run]
  repeat' (first | rfl | split)
noncomputable def impl_IsFinite_F : DFn := fun args L =>
  match args with
  | [.flt .f32 v1808] =>
    .leaf (.bool (impl_IsFinite_v v1808), L)
  | _ => .fail
theorem impl_IsFinite_Fok : COk Try.prog 96 impl_IsFinite_F true := by
  intro F L H args r L' hs ha hr
  unfold impl_IsFinite_F at hr
  split at hr
  · rename_i v1808
    have hy := impl_IsFinite_tot v1808
    generalize impl_IsFinite_v v1808 = y at hy hr
    simp only [Tree.run, Option.some.injEq, Prod.mk.injEq] at hr
    obtain ⟨rfl, rfl⟩ := hr
    exact call_ok0 hs (fun k => (([] : List AV)[k]?).getD .top) [.flt .f32 v1808] [.flt .f32 v1808] (fun F' h0 hi hρ => ⟨by simp [DVs.av, DV.av, BR.av, hρ], impl_IsFinite_fn v1808 F' (by rw [hi]; rfl) (st_nil hi) ⟨trivial, trivial⟩ hy⟩) rfl
  · cases hr
/-! impl.areFinite$1 -/
noncomputable def impl_areFinite_1_LO (v1807 : Nat) : LOr := fun id e L =>
  match id with
  | _ => .fail
noncomputable def impl_areFinite_1_tab : List (FuncId × DFn × Bool) := [(96, impl_IsFinite_F, true)]
theorem impl_areFinite_1_hO : OrcOk Try.prog (tabD impl_areFinite_1_tab) (tabM impl_areFinite_1_tab) := tabD_cons impl_IsFinite_Fok (tabD_nil _)
noncomputable def impl_areFinite_1_T (v1807 : Nat) : Tree (Bool) :=
  .leaf (!(impl_IsFinite_v v1807))

noncomputable def impl_areFinite_1_g (v1807 : Nat) : Option (Bool) := (impl_areFinite_1_T v1807).run
def impl_areFinite_1_enc (v1807 : Nat) (y : Bool) : Rs := (.bool y, [])
theorem impl_areFinite_1_den (v1807 : Nat) : (den TT (tabD impl_areFinite_1_tab) (tabM impl_areFinite_1_tab) (impl_areFinite_1_LO v1807) (codeOf Try.f138) ([.flt .f32 v1807] ++ List.replicate (Try.f138.ntmps - ([.flt .f32 v1807] : List DV).length) .undef) []).bind (retD TT Try.f138.results.toList 0) = (impl_areFinite_1_T v1807).bind fun y => .leaf (impl_areFinite_1_enc v1807 y) := by kernel_rfl
theorem impl_areFinite_1_fn (v1807 : Nat) (F : Fr) (hm : F.ids.length = 0) (h0 : St F [] F.H0) (hA : DVs.Ok F [] [.flt .f32 v1807]) {y : Bool} (hy : impl_areFinite_1_g v1807 = some y) : ∃ H', FnOk Try.prog 138 (DVs.av F [.flt .f32 v1807]) F.H0 ((impl_areFinite_1_enc v1807 y).1.av F) H' ∧ St F (impl_areFinite_1_enc v1807 y).2 H' ∧ (impl_areFinite_1_enc v1807 y).1.Ok F (impl_areFinite_1_enc v1807 y).2 :=
  fn_fin tok impl_areFinite_1_hO mixed Try.func138 Try.call138 (by kernel_rfl) (LoopsOk_eq (l := []) (by kernel_rfl) trivial) (impl_areFinite_1_den v1807) hy hm h0 hA
def impl_areFinite_1_v (v1807 : Nat) : Bool :=
  !(impl_IsFinite_v v1807)
theorem impl_areFinite_1_tot (v1807 : Nat) : impl_areFinite_1_g v1807 = some (impl_areFinite_1_v v1807) := by
  unfold impl_areFinite_1_g impl_areFinite_1_T impl_areFinite_1_v
  simp only [Tree.run]
  repeat' (first | rfl | split)
noncomputable def impl_areFinite_1_F : DFn := fun args L =>
  match args with
  | [.flt .f32 v1807] =>
    .leaf (.bool (impl_areFinite_1_v v1807), L)
  | _ => .fail
theorem impl_areFinite_1_Fok : COk Try.prog 138 impl_areFinite_1_F true := by
  intro F L H args r L' hs ha hr
  unfold impl_areFinite_1_F at hr
  split at hr
  · rename_i v1807
    have hy := impl_areFinite_1_tot v1807
    generalize impl_areFinite_1_v v1807 = y at hy hr
    simp only [Tree.run, Option.some.injEq, Prod.mk.injEq] at hr
    obtain ⟨rfl, rfl⟩ := hr
    exact call_ok0 hs (fun k => (([] : List AV)[k]?).getD .top) [.flt .f32 v1807] [.flt .f32 v1807] (fun F' h0 hi hρ => ⟨by simp [DVs.av, DV.av, BR.av, hρ], impl_areFinite_1_fn v1807 F' (by rw [hi]; rfl) (st_nil hi) ⟨trivial, trivial⟩ hy⟩) rfl
  · cases hr
/-! slices.IndexFunc[list of float32,float32] -/
noncomputable def slices_IndexFuncF_l0_T (v1805 : List Nat) (s : Int) : Tree ((Int) ⊕ ((Int) ⊕ (Unit))) :=
  (.br (decide (s < ((v1805.length : Nat) : Int))) (
   (.grd (inb s v1805.length) <|
   (.br (impl_areFinite_1_v (nth v1805 (Int.toNat s))) (
    .leaf (.inr (.inl s))
   ) (
    .leaf (.inl (IntKind.i64.wrap (s + (1 : Int))))
   )))
  ) (
   .leaf (.inr (.inr ()))
  ))

noncomputable def slices_IndexFuncF_l0_g (v1805 : List Nat) (s0 : Int) : Option ((Int) ⊕ (Unit)) := whileM (fun s => (slices_IndexFuncF_l0_T v1805 s).run) s0
def slices_IndexFuncF_l0_E (v1805 : List Nat) (s : Int) : Sd := ([.bslc (BR.root 0) (.f32 v1805), .fn 138 [], .top, .top, .top, .top, .top, .int .i64 ((v1805.length : Nat) : Int), .int .i64 s, .top, .top, .top, .top, .top, .top, .top, .top, .top, .top], [])
def slices_IndexFuncF_l0_X (v1805 : List Nat) (x : (Int) ⊕ (Unit)) : Out := (match x with | .inl x => (.ret, [.top, .top, .top, .top, .int .i64 x, .top, .top, .top, .top, .top, .top, .top, .top, .top, .top, .top, .top, .top, .top], []) | .inr x => (.normal, [.top, .top, .top, .top, .top, .top, .top, .top, .top, .top, .top, .top, .top, .top, .top, .top, .top, .top, .top], []))
def slices_IndexFuncF_l0_kill : List Nat := [0, 0, 1, 1, 1, 1, 1, 0, 0, 1, 1, 1, 1, 1, 1, 1, 1, 1, 1]
def slices_IndexFuncF_l0_nx : Exit → List Nat
  | .exit 0 => [1, 1, 1, 1, 1, 1, 1, 1, 1, 1, 1, 1, 1, 1, 1, 1, 1, 1, 1]
  | .ret => [1, 1, 1, 1, 0, 1, 1, 1, 1, 1, 1, 1, 1, 1, 1, 1, 1, 1, 1]
  | _ => []
noncomputable def slices_IndexFuncF_LO (v1805 : List Nat) : LOr := fun id e L =>
  match id with
  | 0 => .need (normA 0 slices_IndexFuncF_l0_kill e L = some (slices_IndexFuncF_l0_E v1805 (gI (vAt e 8)))) (.call (slices_IndexFuncF_l0_g v1805 (gI (vAt e 8))) fun x => .sum x (fun b0 => .leaf (slices_IndexFuncF_l0_X v1805 (.inl b0))) (fun c0 => .leaf (slices_IndexFuncF_l0_X v1805 (.inr c0))))
  | _ => .fail
noncomputable def slices_IndexFuncF_tab : List (FuncId × DFn × Bool) := [(138, impl_areFinite_1_F, true)]
theorem slices_IndexFuncF_hO : OrcOk Try.prog (tabD slices_IndexFuncF_tab) (tabM slices_IndexFuncF_tab) := tabD_cons impl_areFinite_1_Fok (tabD_nil _)
theorem slices_IndexFuncF_l0_be (v1805 : List Nat) (s : Int) : bodyT TT (tabD slices_IndexFuncF_tab) (tabM slices_IndexFuncF_tab) (slices_IndexFuncF_LO v1805) 0 slices_IndexFuncF_l0_kill slices_IndexFuncF_l0_nx (bodyOf Try.f168 0) 0 (slices_IndexFuncF_l0_E v1805 s) = (slices_IndexFuncF_l0_T v1805 s).bind fun y => .leaf (outS (slices_IndexFuncF_l0_E v1805) (slices_IndexFuncF_l0_X v1805) y) := by kernel_rfl
theorem slices_IndexFuncF_l0_ok (v1805 : List Nat) : LSound Try.prog 0 (slices_IndexFuncF_LO v1805) 0 (bodyOf Try.f168 0) := by
  intro e L out h
  exact lo_ok (E := slices_IndexFuncF_l0_E v1805) (gT := slices_IndexFuncF_l0_T v1805) (X := slices_IndexFuncF_l0_X v1805) (s0 := (gI (vAt e 8))) tok slices_IndexFuncF_hO mixed (LoopsOk_eq (l := []) (by kernel_rfl) trivial) (slices_IndexFuncF_l0_be v1805) rfl (by intro x; (cases x with | inl b => rfl | inr x => exact rfl)) h
noncomputable def slices_IndexFuncF_T (v1805 : List Nat) : Tree (Int) :=
  (.need (some (slices_IndexFuncF_l0_E v1805 (0 : Int)) = some (slices_IndexFuncF_l0_E v1805 (0 : Int))) <|
  (.call (slices_IndexFuncF_l0_g v1805 (0 : Int)) fun v1815 =>
  (.sum v1815 (fun v1816 =>
   .leaf v1816
  ) (fun v1817 =>
   .leaf (-1 : Int)
  ))))

noncomputable def slices_IndexFuncF_g (v1805 : List Nat) : Option (Int) := (slices_IndexFuncF_T v1805).run
def slices_IndexFuncF_enc (v1805 : List Nat) (y : Int) : Rs := (.int .i64 y, [])
theorem slices_IndexFuncF_den (v1805 : List Nat) : (den TT (tabD slices_IndexFuncF_tab) (tabM slices_IndexFuncF_tab) (slices_IndexFuncF_LO v1805) (codeOf Try.f168) ([.bslc (BR.root 0) (.f32 v1805), .fn 138 []] ++ List.replicate (Try.f168.ntmps - ([.bslc (BR.root 0) (.f32 v1805), .fn 138 []] : List DV).length) .undef) []).bind (retD TT Try.f168.results.toList 0) = (slices_IndexFuncF_T v1805).bind fun y => .leaf (slices_IndexFuncF_enc v1805 y) := by kernel_rfl
theorem slices_IndexFuncF_fn (v1805 : List Nat) (F : Fr) (hm : F.ids.length = 0) (h0 : St F [] F.H0) (hA : DVs.Ok F [] [.bslc (BR.root 0) (.f32 v1805), .fn 138 []]) {y : Int} (hy : slices_IndexFuncF_g v1805 = some y) : ∃ H', FnOk Try.prog 168 (DVs.av F [.bslc (BR.root 0) (.f32 v1805), .fn 138 []]) F.H0 ((slices_IndexFuncF_enc v1805 y).1.av F) H' ∧ St F (slices_IndexFuncF_enc v1805 y).2 H' ∧ (slices_IndexFuncF_enc v1805 y).1.Ok F (slices_IndexFuncF_enc v1805 y).2 :=
  fn_fin tok slices_IndexFuncF_hO mixed Try.func168 Try.call168 (by kernel_rfl) (LoopsOk_eq (l := [(0, bodyOf Try.f168 0)]) (by kernel_rfl) ⟨slices_IndexFuncF_l0_ok v1805, trivial⟩) (slices_IndexFuncF_den v1805) hy hm h0 hA
noncomputable def slices_IndexFuncF_F : DFn := fun args L =>
  match args with
  | [a1, .fn 138 []] =>
    optT (rowF32 L a1) fun v1805 =>
    .call (slices_IndexFuncF_g v1805) fun y => .leaf (.int .i64 y, L)
  | _ => .fail
theorem slices_IndexFuncF_Fok : COk Try.prog 168 slices_IndexFuncF_F true := by
  intro F L H args r L' hs ha hr
  unfold slices_IndexFuncF_F at hr
  split at hr
  · rename_i a1
    obtain ⟨v1805, hv1805, hr⟩ := optT_run hr
    simp only [Tree.run] at hr
    obtain ⟨y, hy, hr⟩ := Option.bind_eq_some_iff.1 hr
    simp only [Tree.run, Option.some.injEq, Prod.mk.injEq] at hr
    obtain ⟨rfl, rfl⟩ := hr
    exact call_ok0 hs (fun k => (([a1.av F] : List AV)[k]?).getD .top) [a1, .fn 138 []] [.bslc (BR.root 0) (.f32 v1805), .fn 138 []] (fun F' h0 hi hρ => ⟨by simp [DVs.av, DV.av, BR.av, hρ], slices_IndexFuncF_fn v1805 F' (by rw [hi]; rfl) (st_nil hi) ⟨bslc_ok hi (by rw [h0, hρ]; exact rowF32_ok hs (DVs.okAt ha 0 rfl) hv1805), trivial, trivial⟩ hy⟩) rfl
  · cases hr
/-! slices.ContainsFunc[list of float32,float32] -/
noncomputable def slices_ContainsFuncF_LO (v1804 : List Nat) : LOr := fun id e L =>
  match id with
  | _ => .fail
noncomputable def slices_ContainsFuncF_tab : List (FuncId × DFn × Bool) := [(168, slices_IndexFuncF_F, true)]
theorem slices_ContainsFuncF_hO : OrcOk Try.prog (tabD slices_ContainsFuncF_tab) (tabM slices_ContainsFuncF_tab) := tabD_cons slices_IndexFuncF_Fok (tabD_nil _)
noncomputable def slices_ContainsFuncF_T (v1804 : List Nat) : Tree (Bool) :=
  (.call (slices_IndexFuncF_g v1804) fun v1818 =>
  .leaf (decide ((0 : Int) ≤ v1818)))

noncomputable def slices_ContainsFuncF_g (v1804 : List Nat) : Option (Bool) := (slices_ContainsFuncF_T v1804).run
def slices_ContainsFuncF_enc (v1804 : List Nat) (y : Bool) : Rs := (.bool y, [])
theorem slices_ContainsFuncF_den (v1804 : List Nat) : (den TT (tabD slices_ContainsFuncF_tab) (tabM slices_ContainsFuncF_tab) (slices_ContainsFuncF_LO v1804) (codeOf Try.f137) ([.bslc (BR.root 0) (.f32 v1804), .fn 138 []] ++ List.replicate (Try.f137.ntmps - ([.bslc (BR.root 0) (.f32 v1804), .fn 138 []] : List DV).length) .undef) []).bind (retD TT Try.f137.results.toList 0) = (slices_ContainsFuncF_T v1804).bind fun y => .leaf (slices_ContainsFuncF_enc v1804 y) := by kernel_rfl
theorem slices_ContainsFuncF_fn (v1804 : List Nat) (F : Fr) (hm : F.ids.length = 0) (h0 : St F [] F.H0) (hA : DVs.Ok F [] [.bslc (BR.root 0) (.f32 v1804), .fn 138 []]) {y : Bool} (hy : slices_ContainsFuncF_g v1804 = some y) : ∃ H', FnOk Try.prog 137 (DVs.av F [.bslc (BR.root 0) (.f32 v1804), .fn 138 []]) F.H0 ((slices_ContainsFuncF_enc v1804 y).1.av F) H' ∧ St F (slices_ContainsFuncF_enc v1804 y).2 H' ∧ (slices_ContainsFuncF_enc v1804 y).1.Ok F (slices_ContainsFuncF_enc v1804 y).2 :=
  fn_fin tok slices_ContainsFuncF_hO mixed Try.func137 Try.call137 (by kernel_rfl) (LoopsOk_eq (l := []) (by kernel_rfl) trivial) (slices_ContainsFuncF_den v1804) hy hm h0 hA
noncomputable def slices_ContainsFuncF_F : DFn := fun args L =>
  match args with
  | [a1, .fn 138 []] =>
    optT (rowF32 L a1) fun v1804 =>
    .call (slices_ContainsFuncF_g v1804) fun y => .leaf (.bool y, L)
  | _ => .fail
theorem slices_ContainsFuncF_Fok : COk Try.prog 137 slices_ContainsFuncF_F true := by
  intro F L H args r L' hs ha hr
  unfold slices_ContainsFuncF_F at hr
  split at hr
  · rename_i a1
    obtain ⟨v1804, hv1804, hr⟩ := optT_run hr
    simp only [Tree.run] at hr
    obtain ⟨y, hy, hr⟩ := Option.bind_eq_some_iff.1 hr
    simp only [Tree.run, Option.some.injEq, Prod.mk.injEq] at hr
    obtain ⟨rfl, rfl⟩ := hr
    exact call_ok0 hs (fun k => (([a1.av F] : List AV)[k]?).getD .top) [a1, .fn 138 []] [.bslc (BR.root 0) (.f32 v1804), .fn 138 []] (fun F' h0 hi hρ => ⟨by simp [DVs.av, DV.av, BR.av, hρ], slices_ContainsFuncF_fn v1804 F' (by rw [hi]; rfl) (st_nil hi) ⟨bslc_ok hi (by rw [h0, hρ]; exact rowF32_ok hs (DVs.okAt ha 0 rfl) hv1804), trivial, trivial⟩ hy⟩) rfl
  · cases hr
/-! impl.areFinite -/
noncomputable def impl_areFinite_LO (v1803 : List Nat) : LOr := fun id e L =>
  match id with
  | _ => .fail
noncomputable def impl_areFinite_tab : List (FuncId × DFn × Bool) := [(137, slices_ContainsFuncF_F, true)]
theorem impl_areFinite_hO : OrcOk Try.prog (tabD impl_areFinite_tab) (tabM impl_areFinite_tab) := tabD_cons slices_ContainsFuncF_Fok (tabD_nil _)
noncomputable def impl_areFinite_T (v1803 : List Nat) : Tree (Bool) :=
  (.call (slices_ContainsFuncF_g v1803) fun v1819 =>
  .leaf (!v1819))

noncomputable def impl_areFinite_g (v1803 : List Nat) : Option (Bool) := (impl_areFinite_T v1803).run
def impl_areFinite_enc (v1803 : List Nat) (y : Bool) : Rs := (.bool y, [])
theorem impl_areFinite_den (v1803 : List Nat) : (den TT (tabD impl_areFinite_tab) (tabM impl_areFinite_tab) (impl_areFinite_LO v1803) (codeOf Try.f68) ([.bslc (BR.root 0) (.f32 v1803)] ++ List.replicate (Try.f68.ntmps - ([.bslc (BR.root 0) (.f32 v1803)] : List DV).length) .undef) []).bind (retD TT Try.f68.results.toList 0) = (impl_areFinite_T v1803).bind fun y => .leaf (impl_areFinite_enc v1803 y) := by kernel_rfl
theorem impl_areFinite_fn (v1803 : List Nat) (F : Fr) (hm : F.ids.length = 0) (h0 : St F [] F.H0) (hA : DVs.Ok F [] [.bslc (BR.root 0) (.f32 v1803)]) {y : Bool} (hy : impl_areFinite_g v1803 = some y) : ∃ H', FnOk Try.prog 68 (DVs.av F [.bslc (BR.root 0) (.f32 v1803)]) F.H0 ((impl_areFinite_enc v1803 y).1.av F) H' ∧ St F (impl_areFinite_enc v1803 y).2 H' ∧ (impl_areFinite_enc v1803 y).1.Ok F (impl_areFinite_enc v1803 y).2 :=
  fn_fin tok impl_areFinite_hO mixed Try.func68 Try.call68 (by kernel_rfl) (LoopsOk_eq (l := []) (by kernel_rfl) trivial) (impl_areFinite_den v1803) hy hm h0 hA
noncomputable def impl_areFinite_F : DFn := fun args L =>
  match args with
  | [a1] =>
    optT (rowF32 L a1) fun v1803 =>
    .call (impl_areFinite_g v1803) fun y => .leaf (.bool y, L)
  | _ => .fail
theorem impl_areFinite_Fok : COk Try.prog 68 impl_areFinite_F true := by
  intro F L H args r L' hs ha hr
  unfold impl_areFinite_F at hr
  split at hr
  · rename_i a1
    obtain ⟨v1803, hv1803, hr⟩ := optT_run hr
    simp only [Tree.run] at hr
    obtain ⟨y, hy, hr⟩ := Option.bind_eq_some_iff.1 hr
    simp only [Tree.run, Option.some.injEq, Prod.mk.injEq] at hr
    obtain ⟨rfl, rfl⟩ := hr
    exact call_ok0 hs (fun k => (([a1.av F] : List AV)[k]?).getD .top) [a1] [.bslc (BR.root 0) (.f32 v1803)] (fun F' h0 hi hρ => ⟨by simp [DVs.av, DV.av, BR.av, hρ], impl_areFinite_fn v1803 F' (by rw [hi]; rfl) (st_nil hi) ⟨bslc_ok hi (by rw [h0, hρ]; exact rowF32_ok hs (DVs.okAt ha 0 rfl) hv1803), trivial⟩ hy⟩) rfl
  · cases hr
/-! impl.ValidMatrix -/
noncomputable def impl_ValidMatrix_LO (v1795 : Int) (v1796 : Int) (v1797 : List Nat) : LOr := fun id e L =>
  match id with
  | _ => .fail
noncomputable def impl_ValidMatrix_tab : List (FuncId × DFn × Bool) := [(77, impl_isSide_F, true), (112, impl_lengthF_F, true), (68, impl_areFinite_F, true)]
theorem impl_ValidMatrix_hO : OrcOk Try.prog (tabD impl_ValidMatrix_tab) (tabM impl_ValidMatrix_tab) := tabD_cons impl_isSide_Fok (tabD_cons impl_lengthF_Fok (tabD_cons impl_areFinite_Fok (tabD_nil _)))
noncomputable def impl_ValidMatrix_T (v1795 : Int) (v1796 : Int) (v1797 : List Nat) : Tree (Bool) :=
  (.br (impl_isSide_v v1795) (
   (.br (impl_isSide_v v1796) (
    (.br (decide ((impl_lengthF_v v1797) = IntKind.i64.wrap (v1795 * v1796))) (
     (.call (impl_areFinite_g v1797) fun v1820 =>
     .leaf v1820)
    ) (
     .leaf false
    ))
   ) (
    .leaf false
   ))
  ) (
   .leaf false
  ))

noncomputable def impl_ValidMatrix_g (v1795 : Int) (v1796 : Int) (v1797 : List Nat) : Option (Bool) := (impl_ValidMatrix_T v1795 v1796 v1797).run
def impl_ValidMatrix_enc (v1795 : Int) (v1796 : Int) (v1797 : List Nat) (y : Bool) : Rs := (.bool y, [])
theorem impl_ValidMatrix_den (v1795 : Int) (v1796 : Int) (v1797 : List Nat) : (den TT (tabD impl_ValidMatrix_tab) (tabM impl_ValidMatrix_tab) (impl_ValidMatrix_LO v1795 v1796 v1797) (codeOf Try.f67) ([.agg [.int .i64 v1795, .int .i64 v1796, .bslc (BR.root 0) (.f32 v1797)]] ++ List.replicate (Try.f67.ntmps - ([.agg [.int .i64 v1795, .int .i64 v1796, .bslc (BR.root 0) (.f32 v1797)]] : List DV).length) .undef) []).bind (retD TT Try.f67.results.toList 0) = (impl_ValidMatrix_T v1795 v1796 v1797).bind fun y => .leaf (impl_ValidMatrix_enc v1795 v1796 v1797 y) := by kernel_rfl
theorem impl_ValidMatrix_fn (v1795 : Int) (v1796 : Int) (v1797 : List Nat) (F : Fr) (hm : F.ids.length = 0) (h0 : St F [] F.H0) (hA : DVs.Ok F [] [.agg [.int .i64 v1795, .int .i64 v1796, .bslc (BR.root 0) (.f32 v1797)]]) {y : Bool} (hy : impl_ValidMatrix_g v1795 v1796 v1797 = some y) : ∃ H', FnOk Try.prog 67 (DVs.av F [.agg [.int .i64 v1795, .int .i64 v1796, .bslc (BR.root 0) (.f32 v1797)]]) F.H0 ((impl_ValidMatrix_enc v1795 v1796 v1797 y).1.av F) H' ∧ St F (impl_ValidMatrix_enc v1795 v1796 v1797 y).2 H' ∧ (impl_ValidMatrix_enc v1795 v1796 v1797 y).1.Ok F (impl_ValidMatrix_enc v1795 v1796 v1797 y).2 :=
  fn_fin tok impl_ValidMatrix_hO mixed Try.func67 Try.call67 (by kernel_rfl) (LoopsOk_eq (l := []) (by kernel_rfl) trivial) (impl_ValidMatrix_den v1795 v1796 v1797) hy hm h0 hA
noncomputable def impl_ValidMatrix_F : DFn := fun args L =>
  match args with
  | [.agg [.int .i64 v1795, .int .i64 v1796, a1]] =>
    optT (rowF32 L a1) fun v1797 =>
    .call (impl_ValidMatrix_g v1795 v1796 v1797) fun y => .leaf (.bool y, L)
  | _ => .fail
theorem impl_ValidMatrix_Fok : COk Try.prog 67 impl_ValidMatrix_F true := by
  intro F L H args r L' hs ha hr
  unfold impl_ValidMatrix_F at hr
  split at hr
  · rename_i v1795 v1796 a1
    obtain ⟨v1797, hv1797, hr⟩ := optT_run hr
    simp only [Tree.run] at hr
    obtain ⟨y, hy, hr⟩ := Option.bind_eq_some_iff.1 hr
    simp only [Tree.run, Option.some.injEq, Prod.mk.injEq] at hr
    obtain ⟨rfl, rfl⟩ := hr
    exact call_ok0 hs (fun k => (([a1.av F] : List AV)[k]?).getD .top) [.agg [.int .i64 v1795, .int .i64 v1796, a1]] [.agg [.int .i64 v1795, .int .i64 v1796, .bslc (BR.root 0) (.f32 v1797)]] (fun F' h0 hi hρ => ⟨by simp [DVs.av, DV.av, BR.av, hρ], impl_ValidMatrix_fn v1795 v1796 v1797 F' (by rw [hi]; rfl) (st_nil hi) ⟨⟨trivial, trivial, bslc_ok hi (by rw [h0, hρ]; exact rowF32_ok hs (DVs.okAt (DVs.okAt ha 0 rfl) 2 rfl) hv1797), trivial⟩, trivial⟩ hy⟩) rfl
  · cases hr
/-! impl.isTall -/
noncomputable def impl_isTall_LO (v1792 : Int) (v1793 : Int) (v1794 : List Nat) : LOr := fun id e L =>
  match id with
  | _ => .fail
noncomputable def impl_isTall_tab : List (FuncId × DFn × Bool) := [(67, impl_ValidMatrix_F, true)]
theorem impl_isTall_hO : OrcOk Try.prog (tabD impl_isTall_tab) (tabM impl_isTall_tab) := tabD_cons impl_ValidMatrix_Fok (tabD_nil _)
noncomputable def impl_isTall_T (v1792 : Int) (v1793 : Int) (v1794 : List Nat) : Tree (Bool) :=
  (.call (impl_ValidMatrix_g v1792 v1793 v1794) fun v1821 =>
  (.br v1821 (
   .leaf (decide (v1793 ≤ v1792))
  ) (
   .leaf false
  )))

noncomputable def impl_isTall_g (v1792 : Int) (v1793 : Int) (v1794 : List Nat) : Option (Bool) := (impl_isTall_T v1792 v1793 v1794).run
def impl_isTall_enc (v1792 : Int) (v1793 : Int) (v1794 : List Nat) (y : Bool) : Rs := (.bool y, [])
theorem impl_isTall_den (v1792 : Int) (v1793 : Int) (v1794 : List Nat) : (den TT (tabD impl_isTall_tab) (tabM impl_isTall_tab) (impl_isTall_LO v1792 v1793 v1794) (codeOf Try.f116) ([.agg [.int .i64 v1792, .int .i64 v1793, .bslc (BR.root 0) (.f32 v1794)]] ++ List.replicate (Try.f116.ntmps - ([.agg [.int .i64 v1792, .int .i64 v1793, .bslc (BR.root 0) (.f32 v1794)]] : List DV).length) .undef) []).bind (retD TT Try.f116.results.toList 0) = (impl_isTall_T v1792 v1793 v1794).bind fun y => .leaf (impl_isTall_enc v1792 v1793 v1794 y) := by kernel_rfl
theorem impl_isTall_fn (v1792 : Int) (v1793 : Int) (v1794 : List Nat) (F : Fr) (hm : F.ids.length = 0) (h0 : St F [] F.H0) (hA : DVs.Ok F [] [.agg [.int .i64 v1792, .int .i64 v1793, .bslc (BR.root 0) (.f32 v1794)]]) {y : Bool} (hy : impl_isTall_g v1792 v1793 v1794 = some y) : ∃ H', FnOk Try.prog 116 (DVs.av F [.agg [.int .i64 v1792, .int .i64 v1793, .bslc (BR.root 0) (.f32 v1794)]]) F.H0 ((impl_isTall_enc v1792 v1793 v1794 y).1.av F) H' ∧ St F (impl_isTall_enc v1792 v1793 v1794 y).2 H' ∧ (impl_isTall_enc v1792 v1793 v1794 y).1.Ok F (impl_isTall_enc v1792 v1793 v1794 y).2 :=
  fn_fin tok impl_isTall_hO mixed Try.func116 Try.call116 (by kernel_rfl) (LoopsOk_eq (l := []) (by kernel_rfl) trivial) (impl_isTall_den v1792 v1793 v1794) hy hm h0 hA
noncomputable def impl_isTall_F : DFn := fun args L =>
  match args with
  | [.agg [.int .i64 v1792, .int .i64 v1793, a1]] =>
    optT (rowF32 L a1) fun v1794 =>
    .call (impl_isTall_g v1792 v1793 v1794) fun y => .leaf (.bool y, L)
  | _ => .fail
theorem impl_isTall_Fok : COk Try.prog 116 impl_isTall_F true := by
  intro F L H args r L' hs ha hr
  unfold impl_isTall_F at hr
  split at hr
  · rename_i v1792 v1793 a1
    obtain ⟨v1794, hv1794, hr⟩ := optT_run hr
    simp only [Tree.run] at hr
    obtain ⟨y, hy, hr⟩ := Option.bind_eq_some_iff.1 hr
    simp only [Tree.run, Option.some.injEq, Prod.mk.injEq] at hr
    obtain ⟨rfl, rfl⟩ := hr
    exact call_ok0 hs (fun k => (([a1.av F] : List AV)[k]?).getD .top) [.agg [.int .i64 v1792, .int .i64 v1793, a1]] [.agg [.int .i64 v1792, .int .i64 v1793, .bslc (BR.root 0) (.f32 v1794)]] (fun F' h0 hi hρ => ⟨by simp [DVs.av, DV.av, BR.av, hρ], impl_isTall_fn v1792 v1793 v1794 F' (by rw [hi]; rfl) (st_nil hi) ⟨⟨trivial, trivial, bslc_ok hi (by rw [h0, hρ]; exact rowF32_ok hs (DVs.okAt (DVs.okAt ha 0 rfl) 2 rfl) hv1794), trivial⟩, trivial⟩ hy⟩) rfl
  · cases hr
/-! impl.newMatrix -/
noncomputable def impl_newMatrix_LO (v1823 : Int) (v1824 : Int) : LOr := fun id e L =>
  match id with
  | _ => .fail
noncomputable def impl_newMatrix_tab : List (FuncId × DFn × Bool) := []
theorem impl_newMatrix_hO : OrcOk Try.prog (tabD impl_newMatrix_tab) (tabM impl_newMatrix_tab) := tabD_nil _
noncomputable def impl_newMatrix_T (v1823 : Int) (v1824 : Int) : Tree (Int × Int) :=
  (.need (IntKind.i64.wrap (v1823 * v1824) = IntKind.i64.wrap (v1823 * v1824)) <|
  (.grd (inb (IntKind.i64.wrap (v1823 * v1824)) (maxN + 1)) <|
  .leaf (v1823, v1824)))

noncomputable def impl_newMatrix_g (v1823 : Int) (v1824 : Int) : Option (Int × Int) := (impl_newMatrix_T v1823 v1824).run
def impl_newMatrix_enc (v1823 : Int) (v1824 : Int) (y : Int × Int) : Rs := (.agg [.int .i64 y.1, .int .i64 y.2, .own 0 0 ((List.replicate (Int.toNat (IntKind.i64.wrap (v1823 * v1824))) (0 : Nat)).length)], [.row (.f32 (List.replicate (Int.toNat (IntKind.i64.wrap (v1823 * v1824))) (0 : Nat))) 0])
theorem impl_newMatrix_den (v1823 : Int) (v1824 : Int) : (den TT (tabD impl_newMatrix_tab) (tabM impl_newMatrix_tab) (impl_newMatrix_LO v1823 v1824) (codeOf Try.f117) ([.int .i64 v1823, .int .i64 v1824] ++ List.replicate (Try.f117.ntmps - ([.int .i64 v1823, .int .i64 v1824] : List DV).length) .undef) []).bind (retD TT Try.f117.results.toList 0) = (impl_newMatrix_T v1823 v1824).bind fun y => .leaf (impl_newMatrix_enc v1823 v1824 y) := by kernel_rfl
theorem impl_newMatrix_fn (v1823 : Int) (v1824 : Int) (F : Fr) (hm : F.ids.length = 0) (h0 : St F [] F.H0) (hA : DVs.Ok F [] [.int .i64 v1823, .int .i64 v1824]) {y : Int × Int} (hy : impl_newMatrix_g v1823 v1824 = some y) : ∃ H', FnOk Try.prog 117 (DVs.av F [.int .i64 v1823, .int .i64 v1824]) F.H0 ((impl_newMatrix_enc v1823 v1824 y).1.av F) H' ∧ St F (impl_newMatrix_enc v1823 v1824 y).2 H' ∧ (impl_newMatrix_enc v1823 v1824 y).1.Ok F (impl_newMatrix_enc v1823 v1824 y).2 :=
  fn_fin tok impl_newMatrix_hO mixed Try.func117 Try.call117 (by kernel_rfl) (LoopsOk_eq (l := []) (by kernel_rfl) trivial) (impl_newMatrix_den v1823 v1824) hy hm h0 hA
noncomputable def impl_newMatrix_F : DFn := fun args L =>
  match args with
  | [.int .i64 v1823, .int .i64 v1824] =>
    .call (impl_newMatrix_g v1823 v1824) fun y => .leaf (.agg [.int .i64 y.1, .int .i64 y.2, .own (L.length + 0) 0 ((List.replicate (Int.toNat (IntKind.i64.wrap (v1823 * v1824))) (0 : Nat)).length)], L ++ [.row (.f32 (List.replicate (Int.toNat (IntKind.i64.wrap (v1823 * v1824))) (0 : Nat))) 0])
  | _ => .fail
theorem impl_newMatrix_Fok : COk Try.prog 117 impl_newMatrix_F true := by
  intro F L H args r L' hs ha hr
  unfold impl_newMatrix_F at hr
  split at hr
  · rename_i v1823 v1824
    simp only [Tree.run] at hr
    obtain ⟨y, hy, hr⟩ := Option.bind_eq_some_iff.1 hr
    simp only [Tree.run, Option.some.injEq, Prod.mk.injEq] at hr
    obtain ⟨rfl, rfl⟩ := hr
    exact call_ok1 hs (fun k => (([] : List AV)[k]?).getD .top) [.int .i64 v1823, .int .i64 v1824] [.int .i64 v1823, .int .i64 v1824] (fun F' h0 hi hρ => ⟨by simp [DVs.av, DV.av, BR.av, hρ], impl_newMatrix_fn v1823 v1824 F' (by rw [hi]; rfl) (st_nil hi) ⟨trivial, trivial, trivial⟩ hy⟩) rfl rfl
  · cases hr
/-! (impl.Matrix).at -/
noncomputable def impl_Matrix_at_LO (v1837 : Int) (v1838 : Int) (v1839 : List Nat) (v1840 : Int) (v1841 : Int) : LOr := fun id e L =>
  match id with
  | _ => .fail
noncomputable def impl_Matrix_at_tab : List (FuncId × DFn × Bool) := []
theorem impl_Matrix_at_hO : OrcOk Try.prog (tabD impl_Matrix_at_tab) (tabM impl_Matrix_at_tab) := tabD_nil _
noncomputable def impl_Matrix_at_T (v1838 : Int) (v1839 : List Nat) (v1840 : Int) (v1841 : Int) : Tree (Nat) :=
  (.grd (inb (IntKind.i64.wrap ((IntKind.i64.wrap (v1840 * v1838)) + v1841)) v1839.length) <|
  .leaf (nth v1839 (Int.toNat (IntKind.i64.wrap ((IntKind.i64.wrap (v1840 * v1838)) + v1841)))))

noncomputable def impl_Matrix_at_g (v1838 : Int) (v1839 : List Nat) (v1840 : Int) (v1841 : Int) : Option (Nat) := (impl_Matrix_at_T v1838 v1839 v1840 v1841).run
def impl_Matrix_at_enc (v1837 : Int) (v1838 : Int) (v1839 : List Nat) (v1840 : Int) (v1841 : Int) (y : Nat) : Rs := (.flt .f32 y, [])
theorem impl_Matrix_at_den (v1837 : Int) (v1838 : Int) (v1839 : List Nat) (v1840 : Int) (v1841 : Int) : (den TT (tabD impl_Matrix_at_tab) (tabM impl_Matrix_at_tab) (impl_Matrix_at_LO v1837 v1838 v1839 v1840 v1841) (codeOf Try.f64) ([.agg [.int .i64 v1837, .int .i64 v1838, .bslc (BR.root 0) (.f32 v1839)], .int .i64 v1840, .int .i64 v1841] ++ List.replicate (Try.f64.ntmps - ([.agg [.int .i64 v1837, .int .i64 v1838, .bslc (BR.root 0) (.f32 v1839)], .int .i64 v1840, .int .i64 v1841] : List DV).length) .undef) []).bind (retD TT Try.f64.results.toList 0) = (impl_Matrix_at_T v1838 v1839 v1840 v1841).bind fun y => .leaf (impl_Matrix_at_enc v1837 v1838 v1839 v1840 v1841 y) := by kernel_rfl
theorem impl_Matrix_at_fn (v1837 : Int) (v1838 : Int) (v1839 : List Nat) (v1840 : Int) (v1841 : Int) (F : Fr) (hm : F.ids.length = 0) (h0 : St F [] F.H0) (hA : DVs.Ok F [] [.agg [.int .i64 v1837, .int .i64 v1838, .bslc (BR.root 0) (.f32 v1839)], .int .i64 v1840, .int .i64 v1841]) {y : Nat} (hy : impl_Matrix_at_g v1838 v1839 v1840 v1841 = some y) : ∃ H', FnOk Try.prog 64 (DVs.av F [.agg [.int .i64 v1837, .int .i64 v1838, .bslc (BR.root 0) (.f32 v1839)], .int .i64 v1840, .int .i64 v1841]) F.H0 ((impl_Matrix_at_enc v1837 v1838 v1839 v1840 v1841 y).1.av F) H' ∧ St F (impl_Matrix_at_enc v1837 v1838 v1839 v1840 v1841 y).2 H' ∧ (impl_Matrix_at_enc v1837 v1838 v1839 v1840 v1841 y).1.Ok F (impl_Matrix_at_enc v1837 v1838 v1839 v1840 v1841 y).2 :=
  fn_fin tok impl_Matrix_at_hO mixed Try.func64 Try.call64 (by kernel_rfl) (LoopsOk_eq (l := []) (by kernel_rfl) trivial) (impl_Matrix_at_den v1837 v1838 v1839 v1840 v1841) hy hm h0 hA
noncomputable def impl_Matrix_at_F : DFn := fun args L =>
  match args with
  | [.agg [.int .i64 v1837, .int .i64 v1838, a1], .int .i64 v1840, .int .i64 v1841] =>
    optT (rowF32 L a1) fun v1839 =>
    .call (impl_Matrix_at_g v1838 v1839 v1840 v1841) fun y => .leaf (.flt .f32 y, L)
  | _ => .fail
theorem impl_Matrix_at_Fok : COk Try.prog 64 impl_Matrix_at_F true := by
  intro F L H args r L' hs ha hr
  unfold impl_Matrix_at_F at hr
  split at hr
  · rename_i v1837 v1838 a1 v1840 v1841
    obtain ⟨v1839, hv1839, hr⟩ := optT_run hr
    simp only [Tree.run] at hr
    obtain ⟨y, hy, hr⟩ := Option.bind_eq_some_iff.1 hr
    simp only [Tree.run, Option.some.injEq, Prod.mk.injEq] at hr
    obtain ⟨rfl, rfl⟩ := hr
    exact call_ok0 hs (fun k => (([a1.av F] : List AV)[k]?).getD .top) [.agg [.int .i64 v1837, .int .i64 v1838, a1], .int .i64 v1840, .int .i64 v1841] [.agg [.int .i64 v1837, .int .i64 v1838, .bslc (BR.root 0) (.f32 v1839)], .int .i64 v1840, .int .i64 v1841] (fun F' h0 hi hρ => ⟨by simp [DVs.av, DV.av, BR.av, hρ], impl_Matrix_at_fn v1837 v1838 v1839 v1840 v1841 F' (by rw [hi]; rfl) (st_nil hi) ⟨⟨trivial, trivial, bslc_ok hi (by rw [h0, hρ]; exact rowF32_ok hs (DVs.okAt (DVs.okAt ha 0 rfl) 2 rfl) hv1839), trivial⟩, trivial, trivial, trivial⟩ hy⟩) rfl
  · cases hr
/-! (impl.Matrix).column -/
noncomputable def impl_Matrix_column_l0_T (v1832 : Int) (v1833 : Int) (v1834 : List Nat) (v1835 : Int) (s : Int × (List Nat)) : Tree ((Int × (List Nat)) ⊕ ((List Nat))) :=
  (.br (decide (s.1 < v1832)) (
   (.call (impl_Matrix_at_g v1833 v1834 s.1 v1835) fun v1848 =>
   (.grd (fits (s.2 ++ ([v1848] : List Nat)).length) <|
   .leaf (.inl (IntKind.i64.wrap (s.1 + (1 : Int)), s.2 ++ ([v1848] : List Nat)))))
  ) (
   .leaf (.inr s.2)
  ))

noncomputable def impl_Matrix_column_l0_g (v1832 : Int) (v1833 : Int) (v1834 : List Nat) (v1835 : Int) (s0 : Int × (List Nat)) : Option ((List Nat)) := whileM (fun s => (impl_Matrix_column_l0_T v1832 v1833 v1834 v1835 s).run) s0
def impl_Matrix_column_l0_E (v1832 : Int) (v1833 : Int) (v1834 : List Nat) (v1835 : Int) (s : Int × (List Nat)) : Sd := ([.top, .int .i64 v1835, .ptr 0 (0 : Nat) 0 (3 : Nat), .top, .top, .own 1 0 ((s.2).length), .top, .top, .top, .int .i64 v1832, .int .i64 s.1, .top, .top, .top, .top, .top, .top, .top, .top, .top, .top, .top], [.gen [.int .i64 v1832, .int .i64 v1833, .bslc (BR.root 0) (.f32 v1834)] false 0, .row (.f32 s.2) 0])
def impl_Matrix_column_l0_X (v1832 : Int) (v1833 : Int) (v1834 : List Nat) (v1835 : Int) (x : (List Nat)) : Out := (.normal, [.top, .top, .top, .top, .top, .own 0 0 ((x).length), .top, .top, .top, .top, .top, .top, .top, .top, .top, .top, .top, .top, .top, .top, .top, .top], [.row (.f32 x) 0])
def impl_Matrix_column_l0_kill : List Nat := [1, 0, 0, 1, 1, 0, 1, 1, 1, 0, 0, 1, 1, 1, 1, 1, 1, 1, 1, 1, 1, 1]
def impl_Matrix_column_l0_nx : Exit → List Nat
  | .exit 0 => [1, 1, 1, 1, 1, 0, 1, 1, 1, 1, 1, 1, 1, 1, 1, 1, 1, 1, 1, 1, 1, 1]
  | .ret => [1, 1, 1, 1, 0, 1, 1, 1, 1, 1, 1, 1, 1, 1, 1, 1, 1, 1, 1, 1, 1, 1]
  | _ => []
noncomputable def impl_Matrix_column_LO (v1832 : Int) (v1833 : Int) (v1834 : List Nat) (v1835 : Int) : LOr := fun id e L =>
  match id with
  | 0 => .need (normA 0 impl_Matrix_column_l0_kill e L = some (impl_Matrix_column_l0_E v1832 v1833 v1834 v1835 ((gI (vAt e 10)), (gRF L (vAt e 5))))) (.call (impl_Matrix_column_l0_g v1832 v1833 v1834 v1835 ((gI (vAt e 10)), (gRF L (vAt e 5)))) fun x => .leaf (impl_Matrix_column_l0_X v1832 v1833 v1834 v1835 x))
  | _ => .fail
noncomputable def impl_Matrix_column_tab : List (FuncId × DFn × Bool) := [(64, impl_Matrix_at_F, true)]
theorem impl_Matrix_column_hO : OrcOk Try.prog (tabD impl_Matrix_column_tab) (tabM impl_Matrix_column_tab) := tabD_cons impl_Matrix_at_Fok (tabD_nil _)
theorem impl_Matrix_column_l0_be (v1832 : Int) (v1833 : Int) (v1834 : List Nat) (v1835 : Int) (s : Int × (List Nat)) : bodyT TT (tabD impl_Matrix_column_tab) (tabM impl_Matrix_column_tab) (impl_Matrix_column_LO v1832 v1833 v1834 v1835) 0 impl_Matrix_column_l0_kill impl_Matrix_column_l0_nx (bodyOf Try.f81 0) 0 (impl_Matrix_column_l0_E v1832 v1833 v1834 v1835 s) = (impl_Matrix_column_l0_T v1832 v1833 v1834 v1835 s).bind fun y => .leaf (outS (impl_Matrix_column_l0_E v1832 v1833 v1834 v1835) (impl_Matrix_column_l0_X v1832 v1833 v1834 v1835) y) := by kernel_rfl
theorem impl_Matrix_column_l0_ok (v1832 : Int) (v1833 : Int) (v1834 : List Nat) (v1835 : Int) : LSound Try.prog 0 (impl_Matrix_column_LO v1832 v1833 v1834 v1835) 0 (bodyOf Try.f81 0) := by
  intro e L out h
  exact lo_ok (E := impl_Matrix_column_l0_E v1832 v1833 v1834 v1835) (gT := impl_Matrix_column_l0_T v1832 v1833 v1834 v1835) (X := impl_Matrix_column_l0_X v1832 v1833 v1834 v1835) (s0 := ((gI (vAt e 10)), (gRF L (vAt e 5)))) tok impl_Matrix_column_hO mixed (LoopsOk_eq (l := []) (by kernel_rfl) trivial) (impl_Matrix_column_l0_be v1832 v1833 v1834 v1835) rfl (by intro x; rfl) h
noncomputable def impl_Matrix_column_T (v1832 : Int) (v1833 : Int) (v1834 : List Nat) (v1835 : Int) : Tree ((List Nat)) :=
  (.need (some (impl_Matrix_column_l0_E v1832 v1833 v1834 v1835 ((0 : Int), ([] : List Nat))) = some (impl_Matrix_column_l0_E v1832 v1833 v1834 v1835 ((0 : Int), ([] : List Nat)))) <|
  (.call (impl_Matrix_column_l0_g v1832 v1833 v1834 v1835 ((0 : Int), ([] : List Nat))) fun v1849 =>
  .leaf v1849))

noncomputable def impl_Matrix_column_g (v1832 : Int) (v1833 : Int) (v1834 : List Nat) (v1835 : Int) : Option ((List Nat)) := (impl_Matrix_column_T v1832 v1833 v1834 v1835).run
def impl_Matrix_column_enc (v1832 : Int) (v1833 : Int) (v1834 : List Nat) (v1835 : Int) (y : (List Nat)) : Rs := (.own 0 0 ((y).length), [.row (.f32 y) 0])
theorem impl_Matrix_column_den (v1832 : Int) (v1833 : Int) (v1834 : List Nat) (v1835 : Int) : (den TT (tabD impl_Matrix_column_tab) (tabM impl_Matrix_column_tab) (impl_Matrix_column_LO v1832 v1833 v1834 v1835) (codeOf Try.f81) ([.agg [.int .i64 v1832, .int .i64 v1833, .bslc (BR.root 0) (.f32 v1834)], .int .i64 v1835] ++ List.replicate (Try.f81.ntmps - ([.agg [.int .i64 v1832, .int .i64 v1833, .bslc (BR.root 0) (.f32 v1834)], .int .i64 v1835] : List DV).length) .undef) []).bind (retD TT Try.f81.results.toList 0) = (impl_Matrix_column_T v1832 v1833 v1834 v1835).bind fun y => .leaf (impl_Matrix_column_enc v1832 v1833 v1834 v1835 y) := by kernel_rfl
theorem impl_Matrix_column_fn (v1832 : Int) (v1833 : Int) (v1834 : List Nat) (v1835 : Int) (F : Fr) (hm : F.ids.length = 0) (h0 : St F [] F.H0) (hA : DVs.Ok F [] [.agg [.int .i64 v1832, .int .i64 v1833, .bslc (BR.root 0) (.f32 v1834)], .int .i64 v1835]) {y : (List Nat)} (hy : impl_Matrix_column_g v1832 v1833 v1834 v1835 = some y) : ∃ H', FnOk Try.prog 81 (DVs.av F [.agg [.int .i64 v1832, .int .i64 v1833, .bslc (BR.root 0) (.f32 v1834)], .int .i64 v1835]) F.H0 ((impl_Matrix_column_enc v1832 v1833 v1834 v1835 y).1.av F) H' ∧ St F (impl_Matrix_column_enc v1832 v1833 v1834 v1835 y).2 H' ∧ (impl_Matrix_column_enc v1832 v1833 v1834 v1835 y).1.Ok F (impl_Matrix_column_enc v1832 v1833 v1834 v1835 y).2 :=
  fn_fin tok impl_Matrix_column_hO mixed Try.func81 Try.call81 (by kernel_rfl) (LoopsOk_eq (l := [(0, bodyOf Try.f81 0)]) (by kernel_rfl) ⟨impl_Matrix_column_l0_ok v1832 v1833 v1834 v1835, trivial⟩) (impl_Matrix_column_den v1832 v1833 v1834 v1835) hy hm h0 hA
noncomputable def impl_Matrix_column_F : DFn := fun args L =>
  match args with
  | [.agg [.int .i64 v1832, .int .i64 v1833, a1], .int .i64 v1835] =>
    optT (rowF32 L a1) fun v1834 =>
    .call (impl_Matrix_column_g v1832 v1833 v1834 v1835) fun y => .leaf (.own (L.length + 0) 0 ((y).length), L ++ [.row (.f32 y) 0])
  | _ => .fail
theorem impl_Matrix_column_Fok : COk Try.prog 81 impl_Matrix_column_F true := by
  intro F L H args r L' hs ha hr
  unfold impl_Matrix_column_F at hr
  split at hr
  · rename_i v1832 v1833 a1 v1835
    obtain ⟨v1834, hv1834, hr⟩ := optT_run hr
    simp only [Tree.run] at hr
    obtain ⟨y, hy, hr⟩ := Option.bind_eq_some_iff.1 hr
    simp only [Tree.run, Option.some.injEq, Prod.mk.injEq] at hr
    obtain ⟨rfl, rfl⟩ := hr
    exact call_ok1 hs (fun k => (([a1.av F] : List AV)[k]?).getD .top) [.agg [.int .i64 v1832, .int .i64 v1833, a1], .int .i64 v1835] [.agg [.int .i64 v1832, .int .i64 v1833, .bslc (BR.root 0) (.f32 v1834)], .int .i64 v1835] (fun F' h0 hi hρ => ⟨by simp [DVs.av, DV.av, BR.av, hρ], impl_Matrix_column_fn v1832 v1833 v1834 v1835 F' (by rw [hi]; rfl) (st_nil hi) ⟨⟨trivial, trivial, bslc_ok hi (by rw [h0, hρ]; exact rowF32_ok hs (DVs.okAt (DVs.okAt ha 0 rfl) 2 rfl) hv1834), trivial⟩, trivial, trivial⟩ hy⟩) rfl rfl
  · cases hr
/-! impl.mul -/
noncomputable def impl_mul_LO (v1871 : Nat) (v1872 : Nat) : LOr := fun id e L =>
  match id with
  | _ => .fail
noncomputable def impl_mul_tab : List (FuncId × DFn × Bool) := []
theorem impl_mul_hO : OrcOk Try.prog (tabD impl_mul_tab) (tabM impl_mul_tab) := tabD_nil _
noncomputable def impl_mul_T (v1871 : Nat) (v1872 : Nat) : Tree (Nat) :=
  .leaf (fmul .f32 v1871 v1872)

noncomputable def impl_mul_g (v1871 : Nat) (v1872 : Nat) : Option (Nat) := (impl_mul_T v1871 v1872).run
def impl_mul_enc (v1871 : Nat) (v1872 : Nat) (y : Nat) : Rs := (.flt .f32 y, [])
theorem impl_mul_den (v1871 : Nat) (v1872 : Nat) : (den TT (tabD impl_mul_tab) (tabM impl_mul_tab) (impl_mul_LO v1871 v1872) (codeOf Try.f65) ([.flt .f32 v1871, .flt .f32 v1872] ++ List.replicate (Try.f65.ntmps - ([.flt .f32 v1871, .flt .f32 v1872] : List DV).length) .undef) []).bind (retD TT Try.f65.results.toList 0) = (impl_mul_T v1871 v1872).bind fun y => .leaf (impl_mul_enc v1871 v1872 y) := by kernel_rfl
theorem impl_mul_fn (v1871 : Nat) (v1872 : Nat) (F : Fr) (hm : F.ids.length = 0) (h0 : St F [] F.H0) (hA : DVs.Ok F [] [.flt .f32 v1871, .flt .f32 v1872]) {y : Nat} (hy : impl_mul_g v1871 v1872 = some y) : ∃ H', FnOk Try.prog 65 (DVs.av F [.flt .f32 v1871, .flt .f32 v1872]) F.H0 ((impl_mul_enc v1871 v1872 y).1.av F) H' ∧ St F (impl_mul_enc v1871 v1872 y).2 H' ∧ (impl_mul_enc v1871 v1872 y).1.Ok F (impl_mul_enc v1871 v1872 y).2 :=
  fn_fin tok impl_mul_hO mixed Try.func65 Try.call65 (by kernel_rfl) (LoopsOk_eq (l := []) (by kernel_rfl) trivial) (impl_mul_den v1871 v1872) hy hm h0 hA
def impl_mul_v (v1871 : Nat) (v1872 : Nat) : Nat :=
  fmul .f32 v1871 v1872
theorem impl_mul_tot (v1871 : Nat) (v1872 : Nat) : impl_mul_g v1871 v1872 = some (impl_mul_v v1871 v1872) := by
  unfold impl_mul_g impl_mul_T impl_mul_v
  simp only [Tree.run]
  repeat' (first | rfl | split)
noncomputable def impl_mul_F : DFn := fun args L =>
  match args with
  | [.flt .f32 v1871, .flt .f32 v1872] =>
    .leaf (.flt .f32 (impl_mul_v v1871 v1872), L)
  | _ => .fail
theorem impl_mul_Fok : COk Try.prog 65 impl_mul_F true := by
  intro F L H args r L' hs ha hr
  unfold impl_mul_F at hr
  split at hr
  · rename_i v1871 v1872
    have hy := impl_mul_tot v1871 v1872
    generalize impl_mul_v v1871 v1872 = y at hy hr
    simp only [Tree.run, Option.some.injEq, Prod.mk.injEq] at hr
    obtain ⟨rfl, rfl⟩ := hr
    exact call_ok0 hs (fun k => (([] : List AV)[k]?).getD .top) [.flt .f32 v1871, .flt .f32 v1872] [.flt .f32 v1871, .flt .f32 v1872] (fun F' h0 hi hρ => ⟨by simp [DVs.av, DV.av, BR.av, hρ], impl_mul_fn v1871 v1872 F' (by rw [hi]; rfl) (st_nil hi) ⟨trivial, trivial, trivial⟩ hy⟩) rfl
  · cases hr
/-! impl.dot -/
noncomputable def impl_dot_l0_T (v1867 : List Nat) (v1868 : List Nat) (s : Nat × Int) : Tree ((Nat × Int) ⊕ (Nat)) :=
  (.br (decide (s.2 < ((v1867.length : Nat) : Int))) (
   (.grd (inb s.2 v1867.length) <|
   (.grd (inb s.2 v1868.length) <|
   .leaf (.inl (fadd .f32 s.1 (impl_mul_v (nth v1867 (Int.toNat s.2)) (nth v1868 (Int.toNat s.2))), IntKind.i64.wrap (s.2 + (1 : Int))))))
  ) (
   .leaf (.inr s.1)
  ))

noncomputable def impl_dot_l0_g (v1867 : List Nat) (v1868 : List Nat) (s0 : Nat × Int) : Option (Nat) := whileM (fun s => (impl_dot_l0_T v1867 v1868 s).run) s0
def impl_dot_l0_E (v1867 : List Nat) (v1868 : List Nat) (s : Nat × Int) : Sd := ([.top, .bslc (BR.root 1) (.f32 v1868), .top, .top, .top, .flt .f32 s.1, .top, .top, .bslc (BR.root 0) (.f32 v1867), .int .i64 ((v1867.length : Nat) : Int), .int .i64 s.2, .top, .top, .top, .top, .top, .top, .top, .top, .top, .top, .top, .top, .top, .top], [])
def impl_dot_l0_X (v1867 : List Nat) (v1868 : List Nat) (x : Nat) : Out := (.normal, [.top, .top, .top, .top, .top, .flt .f32 x, .top, .top, .top, .top, .top, .top, .top, .top, .top, .top, .top, .top, .top, .top, .top, .top, .top, .top, .top], [])
def impl_dot_l0_kill : List Nat := [1, 0, 1, 1, 1, 0, 1, 1, 0, 0, 0, 1, 1, 1, 1, 1, 1, 1, 1, 1, 1, 1, 1, 1, 1]
def impl_dot_l0_nx : Exit → List Nat
  | .exit 0 => [1, 1, 1, 1, 1, 0, 1, 1, 1, 1, 1, 1, 1, 1, 1, 1, 1, 1, 1, 1, 1, 1, 1, 1, 1]
  | .ret => [1, 1, 1, 1, 0, 1, 1, 1, 1, 1, 1, 1, 1, 1, 1, 1, 1, 1, 1, 1, 1, 1, 1, 1, 1]
  | _ => []
noncomputable def impl_dot_LO (v1867 : List Nat) (v1868 : List Nat) : LOr := fun id e L =>
  match id with
  | 0 => .need (normA 0 impl_dot_l0_kill e L = some (impl_dot_l0_E v1867 v1868 ((gF (vAt e 5)), (gI (vAt e 10))))) (.call (impl_dot_l0_g v1867 v1868 ((gF (vAt e 5)), (gI (vAt e 10)))) fun x => .leaf (impl_dot_l0_X v1867 v1868 x))
  | _ => .fail
noncomputable def impl_dot_tab : List (FuncId × DFn × Bool) := [(65, impl_mul_F, true)]
theorem impl_dot_hO : OrcOk Try.prog (tabD impl_dot_tab) (tabM impl_dot_tab) := tabD_cons impl_mul_Fok (tabD_nil _)
theorem impl_dot_l0_be (v1867 : List Nat) (v1868 : List Nat) (s : Nat × Int) : bodyT TT (tabD impl_dot_tab) (tabM impl_dot_tab) (impl_dot_LO v1867 v1868) 0 impl_dot_l0_kill impl_dot_l0_nx (bodyOf Try.f82 0) 0 (impl_dot_l0_E v1867 v1868 s) = (impl_dot_l0_T v1867 v1868 s).bind fun y => .leaf (outS (impl_dot_l0_E v1867 v1868) (impl_dot_l0_X v1867 v1868) y) := by kernel_rfl
theorem impl_dot_l0_ok (v1867 : List Nat) (v1868 : List Nat) : LSound Try.prog 0 (impl_dot_LO v1867 v1868) 0 (bodyOf Try.f82 0) := by
  intro e L out h
  exact lo_ok (E := impl_dot_l0_E v1867 v1868) (gT := impl_dot_l0_T v1867 v1868) (X := impl_dot_l0_X v1867 v1868) (s0 := ((gF (vAt e 5)), (gI (vAt e 10)))) tok impl_dot_hO mixed (LoopsOk_eq (l := []) (by kernel_rfl) trivial) (impl_dot_l0_be v1867 v1868) rfl (by intro x; rfl) h
noncomputable def impl_dot_T (v1867 : List Nat) (v1868 : List Nat) : Tree (Nat) :=
  (.need (some (impl_dot_l0_E v1867 v1868 ((0 : Nat), (0 : Int))) = some (impl_dot_l0_E v1867 v1868 ((0 : Nat), (0 : Int)))) <|
  (.call (impl_dot_l0_g v1867 v1868 ((0 : Nat), (0 : Int))) fun v1877 =>
  .leaf v1877))

noncomputable def impl_dot_g (v1867 : List Nat) (v1868 : List Nat) : Option (Nat) := (impl_dot_T v1867 v1868).run
def impl_dot_enc (v1867 : List Nat) (v1868 : List Nat) (y : Nat) : Rs := (.flt .f32 y, [])
theorem impl_dot_den (v1867 : List Nat) (v1868 : List Nat) : (den TT (tabD impl_dot_tab) (tabM impl_dot_tab) (impl_dot_LO v1867 v1868) (codeOf Try.f82) ([.bslc (BR.root 0) (.f32 v1867), .bslc (BR.root 1) (.f32 v1868)] ++ List.replicate (Try.f82.ntmps - ([.bslc (BR.root 0) (.f32 v1867), .bslc (BR.root 1) (.f32 v1868)] : List DV).length) .undef) []).bind (retD TT Try.f82.results.toList 0) = (impl_dot_T v1867 v1868).bind fun y => .leaf (impl_dot_enc v1867 v1868 y) := by kernel_rfl
theorem impl_dot_fn (v1867 : List Nat) (v1868 : List Nat) (F : Fr) (hm : F.ids.length = 0) (h0 : St F [] F.H0) (hA : DVs.Ok F [] [.bslc (BR.root 0) (.f32 v1867), .bslc (BR.root 1) (.f32 v1868)]) {y : Nat} (hy : impl_dot_g v1867 v1868 = some y) : ∃ H', FnOk Try.prog 82 (DVs.av F [.bslc (BR.root 0) (.f32 v1867), .bslc (BR.root 1) (.f32 v1868)]) F.H0 ((impl_dot_enc v1867 v1868 y).1.av F) H' ∧ St F (impl_dot_enc v1867 v1868 y).2 H' ∧ (impl_dot_enc v1867 v1868 y).1.Ok F (impl_dot_enc v1867 v1868 y).2 :=
  fn_fin tok impl_dot_hO mixed Try.func82 Try.call82 (by kernel_rfl) (LoopsOk_eq (l := [(0, bodyOf Try.f82 0)]) (by kernel_rfl) ⟨impl_dot_l0_ok v1867 v1868, trivial⟩) (impl_dot_den v1867 v1868) hy hm h0 hA
noncomputable def impl_dot_F : DFn := fun args L =>
  match args with
  | [a1, a2] =>
    optT (rowF32 L a1) fun v1867 =>
    optT (rowF32 L a2) fun v1868 =>
    .call (impl_dot_g v1867 v1868) fun y => .leaf (.flt .f32 y, L)
  | _ => .fail
theorem impl_dot_Fok : COk Try.prog 82 impl_dot_F true := by
  intro F L H args r L' hs ha hr
  unfold impl_dot_F at hr
  split at hr
  · rename_i a1 a2
    obtain ⟨v1867, hv1867, hr⟩ := optT_run hr
    obtain ⟨v1868, hv1868, hr⟩ := optT_run hr
    simp only [Tree.run] at hr
    obtain ⟨y, hy, hr⟩ := Option.bind_eq_some_iff.1 hr
    simp only [Tree.run, Option.some.injEq, Prod.mk.injEq] at hr
    obtain ⟨rfl, rfl⟩ := hr
    exact call_ok0 hs (fun k => (([a1.av F, a2.av F] : List AV)[k]?).getD .top) [a1, a2] [.bslc (BR.root 0) (.f32 v1867), .bslc (BR.root 1) (.f32 v1868)] (fun F' h0 hi hρ => ⟨by simp [DVs.av, DV.av, BR.av, hρ], impl_dot_fn v1867 v1868 F' (by rw [hi]; rfl) (st_nil hi) ⟨bslc_ok hi (by rw [h0, hρ]; exact rowF32_ok hs (DVs.okAt ha 0 rfl) hv1867), bslc_ok hi (by rw [h0, hρ]; exact rowF32_ok hs (DVs.okAt ha 1 rfl) hv1868), trivial⟩ hy⟩) rfl
  · cases hr
/-! (impl.Matrix).set -/
noncomputable def impl_Matrix_set_LO (v1886 : Int) (v1887 : Int) (v1888 : List Nat) (v1889 : Int) (v1890 : Int) (v1891 : Nat) : LOr := fun id e L =>
  match id with
  | _ => .fail
noncomputable def impl_Matrix_set_tab : List (FuncId × DFn × Bool) := []
theorem impl_Matrix_set_hO : OrcOk Try.prog (tabD impl_Matrix_set_tab) (tabM impl_Matrix_set_tab) := tabD_nil _
noncomputable def impl_Matrix_set_T (v1887 : Int) (v1888 : List Nat) (v1889 : Int) (v1890 : Int) : Tree (Unit) :=
  (.grd (inb (IntKind.i64.wrap ((IntKind.i64.wrap (v1889 * v1887)) + v1890)) v1888.length) <|
  .leaf ())

noncomputable def impl_Matrix_set_g (v1887 : Int) (v1888 : List Nat) (v1889 : Int) (v1890 : Int) : Option (Unit) := (impl_Matrix_set_T v1887 v1888 v1889 v1890).run
def impl_Matrix_set_enc (v1886 : Int) (v1887 : Int) (v1888 : List Nat) (v1889 : Int) (v1890 : Int) (v1891 : Nat) (y : Unit) : Rs := (.tup [], [.row (.f32 (List.set v1888 (Int.toNat (IntKind.i64.wrap ((IntKind.i64.wrap (v1889 * v1887)) + v1890))) v1891)) 0])
theorem impl_Matrix_set_den (v1886 : Int) (v1887 : Int) (v1888 : List Nat) (v1889 : Int) (v1890 : Int) (v1891 : Nat) : (den TT (tabD impl_Matrix_set_tab) (tabM impl_Matrix_set_tab) (impl_Matrix_set_LO v1886 v1887 v1888 v1889 v1890 v1891) (codeOf Try.f66) ([.agg [.int .i64 v1886, .int .i64 v1887, .own 0 0 v1888.length], .int .i64 v1889, .int .i64 v1890, .flt .f32 v1891] ++ List.replicate (Try.f66.ntmps - ([.agg [.int .i64 v1886, .int .i64 v1887, .own 0 0 v1888.length], .int .i64 v1889, .int .i64 v1890, .flt .f32 v1891] : List DV).length) .undef) [.row (.f32 v1888) 0]).bind (retD TT Try.f66.results.toList 1) = (impl_Matrix_set_T v1887 v1888 v1889 v1890).bind fun y => .leaf (impl_Matrix_set_enc v1886 v1887 v1888 v1889 v1890 v1891 y) := by kernel_rfl
theorem impl_Matrix_set_fn (v1886 : Int) (v1887 : Int) (v1888 : List Nat) (v1889 : Int) (v1890 : Int) (v1891 : Nat) (F : Fr) (hm : F.ids.length = 1) (h0 : St F [.row (.f32 v1888) 0] F.H0) (hA : DVs.Ok F [.row (.f32 v1888) 0] [.agg [.int .i64 v1886, .int .i64 v1887, .own 0 0 v1888.length], .int .i64 v1889, .int .i64 v1890, .flt .f32 v1891]) {y : Unit} (hy : impl_Matrix_set_g v1887 v1888 v1889 v1890 = some y) : ∃ H', FnOk Try.prog 66 (DVs.av F [.agg [.int .i64 v1886, .int .i64 v1887, .own 0 0 v1888.length], .int .i64 v1889, .int .i64 v1890, .flt .f32 v1891]) F.H0 ((impl_Matrix_set_enc v1886 v1887 v1888 v1889 v1890 v1891 y).1.av F) H' ∧ St F (impl_Matrix_set_enc v1886 v1887 v1888 v1889 v1890 v1891 y).2 H' ∧ (impl_Matrix_set_enc v1886 v1887 v1888 v1889 v1890 v1891 y).1.Ok F (impl_Matrix_set_enc v1886 v1887 v1888 v1889 v1890 v1891 y).2 :=
  fn_fin tok impl_Matrix_set_hO mixed Try.func66 Try.call66 (by kernel_rfl) (LoopsOk_eq (l := []) (by kernel_rfl) trivial) (impl_Matrix_set_den v1886 v1887 v1888 v1889 v1890 v1891) hy hm h0 hA
noncomputable def impl_Matrix_set_F : DFn := fun args L =>
  match args with
  | [.agg [.int .i64 v1886, .int .i64 v1887, a1], .int .i64 v1889, .int .i64 v1890, .flt .f32 v1891] =>
    optT (ownF32 L a1) fun qv1888 =>
    (match sepB [qv1888.1] [] with
    | true =>
    .call (impl_Matrix_set_g v1887 qv1888.2 v1889 v1890) fun y => .grd (decide ((List.set qv1888.2 (Int.toNat (IntKind.i64.wrap ((IntKind.i64.wrap (v1889 * v1887)) + v1890))) v1891).length = qv1888.2.length)) (.leaf (.tup [], setRows L ([qv1888.1].zip [.f32 (List.set qv1888.2 (Int.toNat (IntKind.i64.wrap ((IntKind.i64.wrap (v1889 * v1887)) + v1890))) v1891)])))
    | false => .fail)
  | _ => .fail
theorem impl_Matrix_set_Fok : COk Try.prog 66 impl_Matrix_set_F false := by
  intro F L H args r L' hs ha hr
  unfold impl_Matrix_set_F at hr
  split at hr
  · rename_i v1886 v1887 a1 v1889 v1890 v1891
    obtain ⟨⟨jv1888, v1888⟩, hqv1888, hr⟩ := optT_run hr
    simp only at hr
    split at hr
    · rename_i hsep
      obtain ⟨hnd, hsepv⟩ := sepB_spec hsep
      simp only [Tree.run] at hr
      obtain ⟨y, hy, hr⟩ := Option.bind_eq_some_iff.1 hr
      try simp only [Tree.run] at hr
      obtain ⟨hl0, hr⟩ := ite_run hr
      simp only [Option.some.injEq, Prod.mk.injEq] at hr
      obtain ⟨rfl, rfl⟩ := hr
      obtain ⟨hr0, hu0, ha0, hb0⟩ := (ownR_spec (DVs.okAt (DVs.okAt ha 0 rfl) 2 rfl) (ownF32_or hqv1888))
      exact mut_ok hs (fun k => (([a1.av F] : List AV)[k]?).getD .top) [.agg [.int .i64 v1886, .int .i64 v1887, a1], .int .i64 v1889, .int .i64 v1890, .flt .f32 v1891] [.agg [.int .i64 v1886, .int .i64 v1887, .own 0 0 v1888.length], .int .i64 v1889, .int .i64 v1890, .flt .f32 v1891] [jv1888] [.f32 v1888] [.f32 (List.set v1888 (Int.toNat (IntKind.i64.wrap ((IntKind.i64.wrap (v1889 * v1887)) + v1890))) v1891)] hnd rfl rfl (fun i j q h1 h2 => by
          rcases i with _ | i
          · simp at h1 h2; subst h1; subst h2; exact hr0
          · simp at h1) (fun i q q' h1 h2 => by
          rcases i with _ | i
          · simp at h1 h2; subst h1; subst h2; exact of_decide_eq_true hl0
          · simp at h1) (fun j hj => by simp at hj; subst hj; simp [DVs.refs, DV.refs, hu0]) (fun F' h0 hi hρ hst hS => ⟨by (have ab0 : F'.abs 0 = F.abs jv1888 := (by simp [Fr.abs, hi]); simp [DVs.av, DV.av, BR.av, hρ, Row.len, ha0, ab0]), by
          obtain ⟨H1, k1, k2, _⟩ := impl_Matrix_set_fn v1886 v1887 v1888 v1889 v1890 v1891 F' (by rw [hi]; rfl) hst ⟨⟨trivial, trivial, ⟨_, rfl, Nat.le_refl _, Nat.le_refl _, fun _ => rfl, (ownR_spec (DVs.okAt (DVs.okAt ha 0 rfl) 2 rfl) (ownF32_or hqv1888)).2.2.2⟩, trivial⟩, trivial, trivial, trivial, trivial⟩ hy
          exact ⟨H1, k1, k2⟩⟩) (fun F' => rfl) (fun L' => trivial)
    · cases hr
  · cases hr
end Go.Proofs.Ytooakheodgndaaa.AM
