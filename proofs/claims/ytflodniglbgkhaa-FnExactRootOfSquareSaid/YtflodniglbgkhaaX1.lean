/- Functions: what they come to. -/
import Derived.Test.YtflodniglbgkhaaBase
set_option maxRecDepth 100000
set_option maxHeartbeats 4000000
set_option linter.unusedSimpArgs false
set_option linter.unusedVariables false
namespace Go.Proofs.Ytflodniglbgkhaa.AM
open Go.Proofs
/-! laws.szFloat32S -/
noncomputable def laws_szFloat32S_LO (v8 : List Nat) (v9 : Int) : LOr := fun id e L =>
  match id with
  | _ => .fail
noncomputable def laws_szFloat32S_tab : List (FuncId × DFn × Bool) := []
theorem laws_szFloat32S_hO : OrcOk Try.prog (tabD laws_szFloat32S_tab) (tabM laws_szFloat32S_tab) := tabD_nil _
noncomputable def laws_szFloat32S_T (v8 : List Nat) (v9 : Int) : Tree (Int) :=
  (.br (decide (IntKind.i64.wrap (v9 - ((v8.length : Nat) : Int)) < (0 : Int))) (
   .leaf (-1 : Int)
  ) (
   .leaf (IntKind.i64.wrap (v9 - ((v8.length : Nat) : Int)))
  ))

noncomputable def laws_szFloat32S_g (v8 : List Nat) (v9 : Int) : Option (Int) := (laws_szFloat32S_T v8 v9).run
def laws_szFloat32S_enc (v8 : List Nat) (v9 : Int) (y : Int) : Rs := (.int .i64 y, [])
theorem laws_szFloat32S_den (v8 : List Nat) (v9 : Int) : (den TT (tabD laws_szFloat32S_tab) (tabM laws_szFloat32S_tab) (laws_szFloat32S_LO v8 v9) (codeOf Try.f44) ([.bslc (BR.root 0) (.f32 v8), .int .i64 v9] ++ List.replicate (Try.f44.ntmps - ([.bslc (BR.root 0) (.f32 v8), .int .i64 v9] : List DV).length) .undef) []).bind (retD TT Try.f44.results.toList 0) = (laws_szFloat32S_T v8 v9).bind fun y => .leaf (laws_szFloat32S_enc v8 v9 y) := by kernel_rfl
theorem laws_szFloat32S_fn (v8 : List Nat) (v9 : Int) (F : Fr) (hm : F.ids.length = 0) (h0 : St F [] F.H0) (hA : DVs.Ok F [] [.bslc (BR.root 0) (.f32 v8), .int .i64 v9]) {y : Int} (hy : laws_szFloat32S_g v8 v9 = some y) : ∃ H', FnOk Try.prog 44 (DVs.av F [.bslc (BR.root 0) (.f32 v8), .int .i64 v9]) F.H0 ((laws_szFloat32S_enc v8 v9 y).1.av F) H' ∧ St F (laws_szFloat32S_enc v8 v9 y).2 H' ∧ (laws_szFloat32S_enc v8 v9 y).1.Ok F (laws_szFloat32S_enc v8 v9 y).2 :=
  fn_fin tok laws_szFloat32S_hO mixed Try.func44 Try.call44 (by kernel_rfl) (LoopsOk_eq (l := []) (by kernel_rfl) trivial) (laws_szFloat32S_den v8 v9) hy hm h0 hA
def laws_szFloat32S_v (v8 : List Nat) (v9 : Int) : Int :=
  if (decide (IntKind.i64.wrap (v9 - ((v8.length : Nat) : Int)) < (0 : Int))) = true then (
   (-1 : Int)
  ) else (
   IntKind.i64.wrap (v9 - ((v8.length : Nat) : Int))
  )
theorem laws_szFloat32S_tot (v8 : List Nat) (v9 : Int) : laws_szFloat32S_g v8 v9 = some (laws_szFloat32S_v v8 v9) := by
  unfold laws_szFloat32S_g laws_szFloat32S_T laws_szFloat32S_v
  simp only [Tree.run]
  repeat' (first | rfl | split)
noncomputable def laws_szFloat32S_F : DFn := fun args L =>
  match args with
  | [a1, .int .i64 v9] =>
    optT (rowF32 L a1) fun v8 =>
    .leaf (.int .i64 (laws_szFloat32S_v v8 v9), L)
  | _ => .fail
theorem laws_szFloat32S_Fok : COk Try.prog 44 laws_szFloat32S_F true := by
  intro F L H args r L' hs ha hr
  unfold laws_szFloat32S_F at hr
  split at hr
  · rename_i a1 v9
    obtain ⟨v8, hv8, hr⟩ := optT_run hr
    have hy := laws_szFloat32S_tot v8 v9
    generalize laws_szFloat32S_v v8 v9 = y at hy hr
    simp only [Tree.run, Option.some.injEq, Prod.mk.injEq] at hr
    obtain ⟨rfl, rfl⟩ := hr
    exact call_ok0 hs (fun k => (([a1.av F] : List AV)[k]?).getD .top) [a1, .int .i64 v9] [.bslc (BR.root 0) (.f32 v8), .int .i64 v9] (fun F' h0 hi hρ => ⟨by simp [DVs.av, DV.av, BR.av, hρ], laws_szFloat32S_fn v8 v9 F' (by rw [hi]; rfl) (st_nil hi) ⟨bslc_ok hi (by rw [h0, hρ]; exact rowF32_ok hs (DVs.okAt ha 0 rfl) hv8), trivial, trivial⟩ hy⟩) rfl
  · cases hr
/-! laws.szMatrix -/
noncomputable def laws_szMatrix_LO (v4 : Int) (v5 : Int) (v6 : List Nat) (v7 : Int) : LOr := fun id e L =>
  match id with
  | _ => .fail
noncomputable def laws_szMatrix_tab : List (FuncId × DFn × Bool) := [(44, laws_szFloat32S_F, true)]
theorem laws_szMatrix_hO : OrcOk Try.prog (tabD laws_szMatrix_tab) (tabM laws_szMatrix_tab) := tabD_cons laws_szFloat32S_Fok (tabD_nil _)
noncomputable def laws_szMatrix_T (v6 : List Nat) (v7 : Int) : Tree (Int) :=
  (.br (decide ((laws_szFloat32S_v v6 v7) < (0 : Int))) (
   .leaf (-1 : Int)
  ) (
   .leaf (laws_szFloat32S_v v6 v7)
  ))

noncomputable def laws_szMatrix_g (v6 : List Nat) (v7 : Int) : Option (Int) := (laws_szMatrix_T v6 v7).run
def laws_szMatrix_enc (v4 : Int) (v5 : Int) (v6 : List Nat) (v7 : Int) (y : Int) : Rs := (.int .i64 y, [])
theorem laws_szMatrix_den (v4 : Int) (v5 : Int) (v6 : List Nat) (v7 : Int) : (den TT (tabD laws_szMatrix_tab) (tabM laws_szMatrix_tab) (laws_szMatrix_LO v4 v5 v6 v7) (codeOf Try.f16) ([.agg [.int .i64 v4, .int .i64 v5, .bslc (BR.root 0) (.f32 v6)], .int .i64 v7] ++ List.replicate (Try.f16.ntmps - ([.agg [.int .i64 v4, .int .i64 v5, .bslc (BR.root 0) (.f32 v6)], .int .i64 v7] : List DV).length) .undef) []).bind (retD TT Try.f16.results.toList 0) = (laws_szMatrix_T v6 v7).bind fun y => .leaf (laws_szMatrix_enc v4 v5 v6 v7 y) := by kernel_rfl
theorem laws_szMatrix_fn (v4 : Int) (v5 : Int) (v6 : List Nat) (v7 : Int) (F : Fr) (hm : F.ids.length = 0) (h0 : St F [] F.H0) (hA : DVs.Ok F [] [.agg [.int .i64 v4, .int .i64 v5, .bslc (BR.root 0) (.f32 v6)], .int .i64 v7]) {y : Int} (hy : laws_szMatrix_g v6 v7 = some y) : ∃ H', FnOk Try.prog 16 (DVs.av F [.agg [.int .i64 v4, .int .i64 v5, .bslc (BR.root 0) (.f32 v6)], .int .i64 v7]) F.H0 ((laws_szMatrix_enc v4 v5 v6 v7 y).1.av F) H' ∧ St F (laws_szMatrix_enc v4 v5 v6 v7 y).2 H' ∧ (laws_szMatrix_enc v4 v5 v6 v7 y).1.Ok F (laws_szMatrix_enc v4 v5 v6 v7 y).2 :=
  fn_fin tok laws_szMatrix_hO mixed Try.func16 Try.call16 (by kernel_rfl) (LoopsOk_eq (l := []) (by kernel_rfl) trivial) (laws_szMatrix_den v4 v5 v6 v7) hy hm h0 hA
def laws_szMatrix_v (v6 : List Nat) (v7 : Int) : Int :=
  if (decide ((laws_szFloat32S_v v6 v7) < (0 : Int))) = true then (
   (-1 : Int)
  ) else (
   (laws_szFloat32S_v v6 v7)
  )
theorem laws_szMatrix_tot (v6 : List Nat) (v7 : Int) : laws_szMatrix_g v6 v7 = some (laws_szMatrix_v v6 v7) := by
  unfold laws_szMatrix_g laws_szMatrix_T laws_szMatrix_v
  simp only [Tree.run]
  repeat' (first | rfl | split)
noncomputable def laws_szMatrix_F : DFn := fun args L =>
  match args with
  | [.agg [.int .i64 v4, .int .i64 v5, a1], .int .i64 v7] =>
    optT (rowF32 L a1) fun v6 =>
    .leaf (.int .i64 (laws_szMatrix_v v6 v7), L)
  | _ => .fail
theorem laws_szMatrix_Fok : COk Try.prog 16 laws_szMatrix_F true := by
  intro F L H args r L' hs ha hr
  unfold laws_szMatrix_F at hr
  split at hr
  · rename_i v4 v5 a1 v7
    obtain ⟨v6, hv6, hr⟩ := optT_run hr
    have hy := laws_szMatrix_tot v6 v7
    generalize laws_szMatrix_v v6 v7 = y at hy hr
    simp only [Tree.run, Option.some.injEq, Prod.mk.injEq] at hr
    obtain ⟨rfl, rfl⟩ := hr
    exact call_ok0 hs (fun k => (([a1.av F] : List AV)[k]?).getD .top) [.agg [.int .i64 v4, .int .i64 v5, a1], .int .i64 v7] [.agg [.int .i64 v4, .int .i64 v5, .bslc (BR.root 0) (.f32 v6)], .int .i64 v7] (fun F' h0 hi hρ => ⟨by simp [DVs.av, DV.av, BR.av, hρ], laws_szMatrix_fn v4 v5 v6 v7 F' (by rw [hi]; rfl) (st_nil hi) ⟨⟨trivial, trivial, bslc_ok hi (by rw [h0, hρ]; exact rowF32_ok hs (DVs.okAt (DVs.okAt ha 0 rfl) 2 rfl) hv6), trivial⟩, trivial, trivial⟩ hy⟩) rfl
  · cases hr
/-! laws.toFloat32S -/
noncomputable def laws_toFloat32S_l0_T (v13 : List Nat) (s : Int × (List Nat)) : Tree ((Int × (List Nat)) ⊕ ((List Nat))) :=
  (.br (decide (s.1 < ((v13.length : Nat) : Int))) (
   (.grd (inb s.1 v13.length) <|
   (.grd (inb s.1 ((s.2).length)) <|
   .leaf (.inl (IntKind.i64.wrap (s.1 + (1 : Int)), List.set s.2 (Int.toNat s.1) (nth v13 (Int.toNat s.1))))))
  ) (
   .leaf (.inr s.2)
  ))

noncomputable def laws_toFloat32S_l0_g (v13 : List Nat) (s0 : Int × (List Nat)) : Option ((List Nat)) := whileM (fun s => (laws_toFloat32S_l0_T v13 s).run) s0
def laws_toFloat32S_l0_E (v13 : List Nat) (s : Int × (List Nat)) : Sd := ([.bslc (BR.root 0) (.f32 v13), .top, .top, .own 0 0 ((s.2).length), .int .i64 s.1, .top, .top, .top, .top, .top, .top, .top, .top, .top, .top, .top, .top, .top, .top, .top, .top, .top], [.row (.f32 s.2) 0])
def laws_toFloat32S_l0_X (v13 : List Nat) (x : (List Nat)) : Out := (.normal, [.top, .top, .top, .own 0 0 ((x).length), .top, .top, .top, .top, .top, .top, .top, .top, .top, .top, .top, .top, .top, .top, .top, .top, .top, .top], [.row (.f32 x) 0])
def laws_toFloat32S_l0_kill : List Nat := [0, 1, 1, 0, 0, 1, 1, 1, 1, 1, 1, 1, 1, 1, 1, 1, 1, 1, 1, 1, 1, 1]
def laws_toFloat32S_l0_nx : Exit → List Nat
  | .exit 0 => [1, 1, 1, 0, 1, 1, 1, 1, 1, 1, 1, 1, 1, 1, 1, 1, 1, 1, 1, 1, 1, 1]
  | .ret => [1, 1, 0, 1, 1, 1, 1, 1, 1, 1, 1, 1, 1, 1, 1, 1, 1, 1, 1, 1, 1, 1]
  | _ => []
noncomputable def laws_toFloat32S_LO (v13 : List Nat) : LOr := fun id e L =>
  match id with
  | 0 => .need (normA 0 laws_toFloat32S_l0_kill e L = some (laws_toFloat32S_l0_E v13 ((gI (vAt e 4)), (gRF L (vAt e 3))))) (.call (laws_toFloat32S_l0_g v13 ((gI (vAt e 4)), (gRF L (vAt e 3)))) fun x => .leaf (laws_toFloat32S_l0_X v13 x))
  | _ => .fail
noncomputable def laws_toFloat32S_tab : List (FuncId × DFn × Bool) := []
theorem laws_toFloat32S_hO : OrcOk Try.prog (tabD laws_toFloat32S_tab) (tabM laws_toFloat32S_tab) := tabD_nil _
theorem laws_toFloat32S_l0_be (v13 : List Nat) (s : Int × (List Nat)) : bodyT TT (tabD laws_toFloat32S_tab) (tabM laws_toFloat32S_tab) (laws_toFloat32S_LO v13) 0 laws_toFloat32S_l0_kill laws_toFloat32S_l0_nx (bodyOf Try.f10 0) 0 (laws_toFloat32S_l0_E v13 s) = (laws_toFloat32S_l0_T v13 s).bind fun y => .leaf (outS (laws_toFloat32S_l0_E v13) (laws_toFloat32S_l0_X v13) y) := by kernel_rfl
theorem laws_toFloat32S_l0_ok (v13 : List Nat) : LSound Try.prog 0 (laws_toFloat32S_LO v13) 0 (bodyOf Try.f10 0) := by
  intro e L out h
  exact lo_ok (E := laws_toFloat32S_l0_E v13) (gT := laws_toFloat32S_l0_T v13) (X := laws_toFloat32S_l0_X v13) (s0 := ((gI (vAt e 4)), (gRF L (vAt e 3)))) tok laws_toFloat32S_hO mixed (LoopsOk_eq (l := []) (by kernel_rfl) trivial) (laws_toFloat32S_l0_be v13) rfl (by intro x; rfl) h
noncomputable def laws_toFloat32S_T (v13 : List Nat) : Tree ((List Nat)) :=
  (.need (((v13.length : Nat) : Int) = ((v13.length : Nat) : Int)) <|
  (.grd (inb ((v13.length : Nat) : Int) (maxN + 1)) <|
  (.need (some (laws_toFloat32S_l0_E v13 ((0 : Int), List.replicate (Int.toNat ((v13.length : Nat) : Int)) (0 : Nat))) = some (laws_toFloat32S_l0_E v13 ((0 : Int), List.replicate (Int.toNat ((v13.length : Nat) : Int)) (0 : Nat)))) <|
  (.call (laws_toFloat32S_l0_g v13 ((0 : Int), List.replicate (Int.toNat ((v13.length : Nat) : Int)) (0 : Nat))) fun v19 =>
  .leaf v19))))

noncomputable def laws_toFloat32S_g (v13 : List Nat) : Option ((List Nat)) := (laws_toFloat32S_T v13).run
def laws_toFloat32S_enc (v13 : List Nat) (y : (List Nat)) : Rs := (.own 0 0 ((y).length), [.row (.f32 y) 0])
theorem laws_toFloat32S_den (v13 : List Nat) : (den TT (tabD laws_toFloat32S_tab) (tabM laws_toFloat32S_tab) (laws_toFloat32S_LO v13) (codeOf Try.f10) ([.bslc (BR.root 0) (.f32 v13)] ++ List.replicate (Try.f10.ntmps - ([.bslc (BR.root 0) (.f32 v13)] : List DV).length) .undef) []).bind (retD TT Try.f10.results.toList 0) = (laws_toFloat32S_T v13).bind fun y => .leaf (laws_toFloat32S_enc v13 y) := by kernel_rfl
theorem laws_toFloat32S_fn (v13 : List Nat) (F : Fr) (hm : F.ids.length = 0) (h0 : St F [] F.H0) (hA : DVs.Ok F [] [.bslc (BR.root 0) (.f32 v13)]) {y : (List Nat)} (hy : laws_toFloat32S_g v13 = some y) : ∃ H', FnOk Try.prog 10 (DVs.av F [.bslc (BR.root 0) (.f32 v13)]) F.H0 ((laws_toFloat32S_enc v13 y).1.av F) H' ∧ St F (laws_toFloat32S_enc v13 y).2 H' ∧ (laws_toFloat32S_enc v13 y).1.Ok F (laws_toFloat32S_enc v13 y).2 :=
  fn_fin tok laws_toFloat32S_hO mixed Try.func10 Try.call10 (by kernel_rfl) (LoopsOk_eq (l := [(0, bodyOf Try.f10 0)]) (by kernel_rfl) ⟨laws_toFloat32S_l0_ok v13, trivial⟩) (laws_toFloat32S_den v13) hy hm h0 hA
noncomputable def laws_toFloat32S_F : DFn := fun args L =>
  match args with
  | [a1] =>
    optT (rowF32 L a1) fun v13 =>
    .call (laws_toFloat32S_g v13) fun y => .leaf (.own (L.length + 0) 0 ((y).length), L ++ [.row (.f32 y) 0])
  | _ => .fail
theorem laws_toFloat32S_Fok : COk Try.prog 10 laws_toFloat32S_F true := by
  intro F L H args r L' hs ha hr
  unfold laws_toFloat32S_F at hr
  split at hr
  · rename_i a1
    obtain ⟨v13, hv13, hr⟩ := optT_run hr
    simp only [Tree.run] at hr
    obtain ⟨y, hy, hr⟩ := Option.bind_eq_some_iff.1 hr
    simp only [Tree.run, Option.some.injEq, Prod.mk.injEq] at hr
    obtain ⟨rfl, rfl⟩ := hr
    exact call_ok1 hs (fun k => (([a1.av F] : List AV)[k]?).getD .top) [a1] [.bslc (BR.root 0) (.f32 v13)] (fun F' h0 hi hρ => ⟨by simp [DVs.av, DV.av, BR.av, hρ], laws_toFloat32S_fn v13 F' (by rw [hi]; rfl) (st_nil hi) ⟨bslc_ok hi (by rw [h0, hρ]; exact rowF32_ok hs (DVs.okAt ha 0 rfl) hv13), trivial⟩ hy⟩) rfl rfl
  · cases hr
/-! laws.toMatrix -/
noncomputable def laws_toMatrix_LO (v10 : Int) (v11 : Int) (v12 : List Nat) : LOr := fun id e L =>
  match id with
  | _ => .fail
noncomputable def laws_toMatrix_tab : List (FuncId × DFn × Bool) := [(10, laws_toFloat32S_F, true)]
theorem laws_toMatrix_hO : OrcOk Try.prog (tabD laws_toMatrix_tab) (tabM laws_toMatrix_tab) := tabD_cons laws_toFloat32S_Fok (tabD_nil _)
noncomputable def laws_toMatrix_T (v10 : Int) (v11 : Int) (v12 : List Nat) : Tree (Int × Int × (List Nat)) :=
  (.call (laws_toFloat32S_g v12) fun v20 =>
  .leaf (v10, v11, v20))

noncomputable def laws_toMatrix_g (v10 : Int) (v11 : Int) (v12 : List Nat) : Option (Int × Int × (List Nat)) := (laws_toMatrix_T v10 v11 v12).run
def laws_toMatrix_enc (v10 : Int) (v11 : Int) (v12 : List Nat) (y : Int × Int × (List Nat)) : Rs := (.agg [.int .i64 y.1, .int .i64 y.2.1, .own 0 0 ((y.2.2).length)], [.row (.f32 y.2.2) 0])
theorem laws_toMatrix_den (v10 : Int) (v11 : Int) (v12 : List Nat) : (den TT (tabD laws_toMatrix_tab) (tabM laws_toMatrix_tab) (laws_toMatrix_LO v10 v11 v12) (codeOf Try.f18) ([.agg [.int .i64 v10, .int .i64 v11, .bslc (BR.root 0) (.f32 v12)]] ++ List.replicate (Try.f18.ntmps - ([.agg [.int .i64 v10, .int .i64 v11, .bslc (BR.root 0) (.f32 v12)]] : List DV).length) .undef) []).bind (retD TT Try.f18.results.toList 0) = (laws_toMatrix_T v10 v11 v12).bind fun y => .leaf (laws_toMatrix_enc v10 v11 v12 y) := by kernel_rfl
theorem laws_toMatrix_fn (v10 : Int) (v11 : Int) (v12 : List Nat) (F : Fr) (hm : F.ids.length = 0) (h0 : St F [] F.H0) (hA : DVs.Ok F [] [.agg [.int .i64 v10, .int .i64 v11, .bslc (BR.root 0) (.f32 v12)]]) {y : Int × Int × (List Nat)} (hy : laws_toMatrix_g v10 v11 v12 = some y) : ∃ H', FnOk Try.prog 18 (DVs.av F [.agg [.int .i64 v10, .int .i64 v11, .bslc (BR.root 0) (.f32 v12)]]) F.H0 ((laws_toMatrix_enc v10 v11 v12 y).1.av F) H' ∧ St F (laws_toMatrix_enc v10 v11 v12 y).2 H' ∧ (laws_toMatrix_enc v10 v11 v12 y).1.Ok F (laws_toMatrix_enc v10 v11 v12 y).2 :=
  fn_fin tok laws_toMatrix_hO mixed Try.func18 Try.call18 (by kernel_rfl) (LoopsOk_eq (l := []) (by kernel_rfl) trivial) (laws_toMatrix_den v10 v11 v12) hy hm h0 hA
noncomputable def laws_toMatrix_F : DFn := fun args L =>
  match args with
  | [.agg [.int .i64 v10, .int .i64 v11, a1]] =>
    optT (rowF32 L a1) fun v12 =>
    .call (laws_toMatrix_g v10 v11 v12) fun y => .leaf (.agg [.int .i64 y.1, .int .i64 y.2.1, .own (L.length + 0) 0 ((y.2.2).length)], L ++ [.row (.f32 y.2.2) 0])
  | _ => .fail
theorem laws_toMatrix_Fok : COk Try.prog 18 laws_toMatrix_F true := by
  intro F L H args r L' hs ha hr
  unfold laws_toMatrix_F at hr
  split at hr
  · rename_i v10 v11 a1
    obtain ⟨v12, hv12, hr⟩ := optT_run hr
    simp only [Tree.run] at hr
    obtain ⟨y, hy, hr⟩ := Option.bind_eq_some_iff.1 hr
    simp only [Tree.run, Option.some.injEq, Prod.mk.injEq] at hr
    obtain ⟨rfl, rfl⟩ := hr
    exact call_ok1 hs (fun k => (([a1.av F] : List AV)[k]?).getD .top) [.agg [.int .i64 v10, .int .i64 v11, a1]] [.agg [.int .i64 v10, .int .i64 v11, .bslc (BR.root 0) (.f32 v12)]] (fun F' h0 hi hρ => ⟨by simp [DVs.av, DV.av, BR.av, hρ], laws_toMatrix_fn v10 v11 v12 F' (by rw [hi]; rfl) (st_nil hi) ⟨⟨trivial, trivial, bslc_ok hi (by rw [h0, hρ]; exact rowF32_ok hs (DVs.okAt (DVs.okAt ha 0 rfl) 2 rfl) hv12), trivial⟩, trivial⟩ hy⟩) rfl rfl
  · cases hr
/-! spec.l00In -/
noncomputable def spec_l00In_LO (v33 : Int) (v34 : Int) (v35 : Int) : LOr := fun id e L =>
  match id with
  | _ => .fail
noncomputable def spec_l00In_tab : List (FuncId × DFn × Bool) := []
theorem spec_l00In_hO : OrcOk Try.prog (tabD spec_l00In_tab) (tabM spec_l00In_tab) := tabD_nil _
noncomputable def spec_l00In_T (v33 : Int) (v34 : Int) (v35 : Int) : Tree (Bool) :=
  (.br (decide (v34 ≤ v33)) (
   .leaf (decide (v33 ≤ v35))
  ) (
   .leaf false
  ))

noncomputable def spec_l00In_g (v33 : Int) (v34 : Int) (v35 : Int) : Option (Bool) := (spec_l00In_T v33 v34 v35).run
def spec_l00In_enc (v33 : Int) (v34 : Int) (v35 : Int) (y : Bool) : Rs := (.bool y, [])
theorem spec_l00In_den (v33 : Int) (v34 : Int) (v35 : Int) : (den TT (tabD spec_l00In_tab) (tabM spec_l00In_tab) (spec_l00In_LO v33 v34 v35) (codeOf Try.f87) ([.int .i64 v33, .int .i64 v34, .int .i64 v35] ++ List.replicate (Try.f87.ntmps - ([.int .i64 v33, .int .i64 v34, .int .i64 v35] : List DV).length) .undef) []).bind (retD TT Try.f87.results.toList 0) = (spec_l00In_T v33 v34 v35).bind fun y => .leaf (spec_l00In_enc v33 v34 v35 y) := by kernel_rfl
theorem spec_l00In_fn (v33 : Int) (v34 : Int) (v35 : Int) (F : Fr) (hm : F.ids.length = 0) (h0 : St F [] F.H0) (hA : DVs.Ok F [] [.int .i64 v33, .int .i64 v34, .int .i64 v35]) {y : Bool} (hy : spec_l00In_g v33 v34 v35 = some y) : ∃ H', FnOk Try.prog 87 (DVs.av F [.int .i64 v33, .int .i64 v34, .int .i64 v35]) F.H0 ((spec_l00In_enc v33 v34 v35 y).1.av F) H' ∧ St F (spec_l00In_enc v33 v34 v35 y).2 H' ∧ (spec_l00In_enc v33 v34 v35 y).1.Ok F (spec_l00In_enc v33 v34 v35 y).2 :=
  fn_fin tok spec_l00In_hO mixed Try.func87 Try.call87 (by kernel_rfl) (LoopsOk_eq (l := []) (by kernel_rfl) trivial) (spec_l00In_den v33 v34 v35) hy hm h0 hA
def spec_l00In_v (v33 : Int) (v34 : Int) (v35 : Int) : Bool :=
  if (decide (v34 ≤ v33)) = true then (
   decide (v33 ≤ v35)
  ) else (
   false
  )
theorem spec_l00In_tot (v33 : Int) (v34 : Int) (v35 : Int) : spec_l00In_g v33 v34 v35 = some (spec_l00In_v v33 v34 v35) := by
  unfold spec_l00In_g spec_l00In_T spec_l00In_v
  simp only [Tree.run]
  repeat' (first | rfl | split)
noncomputable def spec_l00In_F : DFn := fun args L =>
  match args with
  | [.int .i64 v33, .int .i64 v34, .int .i64 v35] =>
    .leaf (.bool (spec_l00In_v v33 v34 v35), L)
  | _ => .fail
theorem spec_l00In_Fok : COk Try.prog 87 spec_l00In_F true := by
  intro F L H args r L' hs ha hr
  unfold spec_l00In_F at hr
  split at hr
  · rename_i v33 v34 v35
    have hy := spec_l00In_tot v33 v34 v35
    generalize spec_l00In_v v33 v34 v35 = y at hy hr
    simp only [Tree.run, Option.some.injEq, Prod.mk.injEq] at hr
    obtain ⟨rfl, rfl⟩ := hr
    exact call_ok0 hs (fun k => (([] : List AV)[k]?).getD .top) [.int .i64 v33, .int .i64 v34, .int .i64 v35] [.int .i64 v33, .int .i64 v34, .int .i64 v35] (fun F' h0 hi hρ => ⟨by simp [DVs.av, DV.av, BR.av, hρ], spec_l00In_fn v33 v34 v35 F' (by rw [hi]; rfl) (st_nil hi) ⟨trivial, trivial, trivial, trivial⟩ hy⟩) rfl
  · cases hr
/-! spec.l02Sides -/
noncomputable def spec_l02Sides_LO (v31 : Int) (v32 : Int) : LOr := fun id e L =>
  match id with
  | _ => .fail
noncomputable def spec_l02Sides_tab : List (FuncId × DFn × Bool) := [(87, spec_l00In_F, true)]
theorem spec_l02Sides_hO : OrcOk Try.prog (tabD spec_l02Sides_tab) (tabM spec_l02Sides_tab) := tabD_cons spec_l00In_Fok (tabD_nil _)
noncomputable def spec_l02Sides_T (v31 : Int) (v32 : Int) : Tree (Bool) :=
  (.br (spec_l00In_v v31 (1 : Int) (12 : Int)) (
   .leaf (spec_l00In_v v32 (1 : Int) (12 : Int))
  ) (
   .leaf false
  ))

noncomputable def spec_l02Sides_g (v31 : Int) (v32 : Int) : Option (Bool) := (spec_l02Sides_T v31 v32).run
def spec_l02Sides_enc (v31 : Int) (v32 : Int) (y : Bool) : Rs := (.bool y, [])
theorem spec_l02Sides_den (v31 : Int) (v32 : Int) : (den TT (tabD spec_l02Sides_tab) (tabM spec_l02Sides_tab) (spec_l02Sides_LO v31 v32) (codeOf Try.f147) ([.int .i64 v31, .int .i64 v32] ++ List.replicate (Try.f147.ntmps - ([.int .i64 v31, .int .i64 v32] : List DV).length) .undef) []).bind (retD TT Try.f147.results.toList 0) = (spec_l02Sides_T v31 v32).bind fun y => .leaf (spec_l02Sides_enc v31 v32 y) := by kernel_rfl
theorem spec_l02Sides_fn (v31 : Int) (v32 : Int) (F : Fr) (hm : F.ids.length = 0) (h0 : St F [] F.H0) (hA : DVs.Ok F [] [.int .i64 v31, .int .i64 v32]) {y : Bool} (hy : spec_l02Sides_g v31 v32 = some y) : ∃ H', FnOk Try.prog 147 (DVs.av F [.int .i64 v31, .int .i64 v32]) F.H0 ((spec_l02Sides_enc v31 v32 y).1.av F) H' ∧ St F (spec_l02Sides_enc v31 v32 y).2 H' ∧ (spec_l02Sides_enc v31 v32 y).1.Ok F (spec_l02Sides_enc v31 v32 y).2 :=
  fn_fin tok spec_l02Sides_hO mixed Try.func147 Try.call147 (by kernel_rfl) (LoopsOk_eq (l := []) (by kernel_rfl) trivial) (spec_l02Sides_den v31 v32) hy hm h0 hA
def spec_l02Sides_v (v31 : Int) (v32 : Int) : Bool :=
  if (spec_l00In_v v31 (1 : Int) (12 : Int)) = true then (
   (spec_l00In_v v32 (1 : Int) (12 : Int))
  ) else (
   false
  )
theorem spec_l02Sides_tot (v31 : Int) (v32 : Int) : spec_l02Sides_g v31 v32 = some (spec_l02Sides_v v31 v32) := by
  unfold spec_l02Sides_g spec_l02Sides_T spec_l02Sides_v
  simp only [Tree.run]
  repeat' (first | rfl | split)
noncomputable def spec_l02Sides_F : DFn := fun args L =>
  match args with
  | [.int .i64 v31, .int .i64 v32] =>
    .leaf (.bool (spec_l02Sides_v v31 v32), L)
  | _ => .fail
theorem spec_l02Sides_Fok : COk Try.prog 147 spec_l02Sides_F true := by
  intro F L H args r L' hs ha hr
  unfold spec_l02Sides_F at hr
  split at hr
  · rename_i v31 v32
    have hy := spec_l02Sides_tot v31 v32
    generalize spec_l02Sides_v v31 v32 = y at hy hr
    simp only [Tree.run, Option.some.injEq, Prod.mk.injEq] at hr
    obtain ⟨rfl, rfl⟩ := hr
    exact call_ok0 hs (fun k => (([] : List AV)[k]?).getD .top) [.int .i64 v31, .int .i64 v32] [.int .i64 v31, .int .i64 v32] (fun F' h0 hi hρ => ⟨by simp [DVs.av, DV.av, BR.av, hρ], spec_l02Sides_fn v31 v32 F' (by rw [hi]; rfl) (st_nil hi) ⟨trivial, trivial, trivial⟩ hy⟩) rfl
  · cases hr
/-! spec.l01Finite -/
noncomputable def spec_l01Finite_LO (v38 : Nat) : LOr := fun id e L =>
  match id with
  | _ => .fail
noncomputable def spec_l01Finite_tab : List (FuncId × DFn × Bool) := []
theorem spec_l01Finite_hO : OrcOk Try.prog (tabD spec_l01Finite_tab) (tabM spec_l01Finite_tab) := tabD_nil _
noncomputable def spec_l01Finite_T (v38 : Nat) : Tree (Bool) :=
  .leaf (feq .f32 (fsub .f32 v38 v38) (0 : Nat))

noncomputable def spec_l01Finite_g (v38 : Nat) : Option (Bool) := (spec_l01Finite_T v38).run
def spec_l01Finite_enc (v38 : Nat) (y : Bool) : Rs := (.bool y, [])
theorem spec_l01Finite_den (v38 : Nat) : (den TT (tabD spec_l01Finite_tab) (tabM spec_l01Finite_tab) (spec_l01Finite_LO v38) (codeOf Try.f39) ([.flt .f32 v38] ++ List.replicate (Try.f39.ntmps - ([.flt .f32 v38] : List DV).length) .undef) []).bind (retD TT Try.f39.results.toList 0) = (spec_l01Finite_T v38).bind fun y => .leaf (spec_l01Finite_enc v38 y) := by kernel_rfl
theorem spec_l01Finite_fn (v38 : Nat) (F : Fr) (hm : F.ids.length = 0) (h0 : St F [] F.H0) (hA : DVs.Ok F [] [.flt .f32 v38]) {y : Bool} (hy : spec_l01Finite_g v38 = some y) : ∃ H', FnOk Try.prog 39 (DVs.av F [.flt .f32 v38]) F.H0 ((spec_l01Finite_enc v38 y).1.av F) H' ∧ St F (spec_l01Finite_enc v38 y).2 H' ∧ (spec_l01Finite_enc v38 y).1.Ok F (spec_l01Finite_enc v38 y).2 :=
  fn_fin tok spec_l01Finite_hO mixed Try.func39 Try.call39 (by kernel_rfl) (LoopsOk_eq (l := []) (by kernel_rfl) trivial) (spec_l01Finite_den v38) hy hm h0 hA
def spec_l01Finite_v (v38 : Nat) : Bool :=
  feq .f32 (fsub .f32 v38 v38) (0 : Nat)
theorem spec_l01Finite_tot (v38 : Nat) : spec_l01Finite_g v38 = some (spec_l01Finite_v v38) := by
  unfold spec_l01Finite_g spec_l01Finite_T spec_l01Finite_v
  simp only [Tree.run]
  repeat' (first | rfl | split)
noncomputable def spec_l01Finite_F : DFn := fun args L =>
  match args with
  | [.flt .f32 v38] =>
    .leaf (.bool (spec_l01Finite_v v38), L)
  | _ => .fail
theorem spec_l01Finite_Fok : COk Try.prog 39 spec_l01Finite_F true := by
  intro F L H args r L' hs ha hr
  unfold spec_l01Finite_F at hr
  split at hr
  · rename_i v38
    have hy := spec_l01Finite_tot v38
    generalize spec_l01Finite_v v38 = y at hy hr
    simp only [Tree.run, Option.some.injEq, Prod.mk.injEq] at hr
    obtain ⟨rfl, rfl⟩ := hr
    exact call_ok0 hs (fun k => (([] : List AV)[k]?).getD .top) [.flt .f32 v38] [.flt .f32 v38] (fun F' h0 hi hρ => ⟨by simp [DVs.av, DV.av, BR.av, hρ], spec_l01Finite_fn v38 F' (by rw [hi]; rfl) (st_nil hi) ⟨trivial, trivial⟩ hy⟩) rfl
  · cases hr
/-! spec.l02Finite -/
noncomputable def spec_l02Finite_l0_T (v36 : List Nat) (s : Int) : Tree ((Int) ⊕ ((Unit) ⊕ (Unit))) :=
  (.br (decide (s < ((v36.length : Nat) : Int))) (
   (.grd (inb s v36.length) <|
   (.br (!(spec_l01Finite_v (nth v36 (Int.toNat s)))) (
    .leaf (.inr (.inl ()))
   ) (
    .leaf (.inl (IntKind.i64.wrap (s + (1 : Int))))
   )))
  ) (
   .leaf (.inr (.inr ()))
  ))

noncomputable def spec_l02Finite_l0_g (v36 : List Nat) (s0 : Int) : Option ((Unit) ⊕ (Unit)) := whileM (fun s => (spec_l02Finite_l0_T v36 s).run) s0
def spec_l02Finite_l0_E (v36 : List Nat) (s : Int) : Sd := ([.bslc (BR.root 0) (.f32 v36), .top, .top, .int .i64 s, .top, .top, .top, .top, .top, .top, .top, .top, .top, .top, .top, .top], [])
def spec_l02Finite_l0_X (v36 : List Nat) (x : (Unit) ⊕ (Unit)) : Out := (match x with | .inl x => (.ret, [.top, .top, .lit false, .top, .top, .top, .top, .top, .top, .top, .top, .top, .top, .top, .top, .top], []) | .inr x => (.normal, [.top, .top, .top, .top, .top, .top, .top, .top, .top, .top, .top, .top, .top, .top, .top, .top], []))
def spec_l02Finite_l0_kill : List Nat := [0, 1, 1, 0, 1, 1, 1, 1, 1, 1, 1, 1, 1, 1, 1, 1]
def spec_l02Finite_l0_nx : Exit → List Nat
  | .exit 0 => [1, 1, 1, 1, 1, 1, 1, 1, 1, 1, 1, 1, 1, 1, 1, 1]
  | .ret => [1, 1, 0, 1, 1, 1, 1, 1, 1, 1, 1, 1, 1, 1, 1, 1]
  | _ => []
noncomputable def spec_l02Finite_LO (v36 : List Nat) : LOr := fun id e L =>
  match id with
  | 0 => .need (normA 0 spec_l02Finite_l0_kill e L = some (spec_l02Finite_l0_E v36 (gI (vAt e 3)))) (.call (spec_l02Finite_l0_g v36 (gI (vAt e 3))) fun x => .sum x (fun b0 => .leaf (spec_l02Finite_l0_X v36 (.inl b0))) (fun c0 => .leaf (spec_l02Finite_l0_X v36 (.inr c0))))
  | _ => .fail
noncomputable def spec_l02Finite_tab : List (FuncId × DFn × Bool) := [(39, spec_l01Finite_F, true)]
theorem spec_l02Finite_hO : OrcOk Try.prog (tabD spec_l02Finite_tab) (tabM spec_l02Finite_tab) := tabD_cons spec_l01Finite_Fok (tabD_nil _)
theorem spec_l02Finite_l0_be (v36 : List Nat) (s : Int) : bodyT TT (tabD spec_l02Finite_tab) (tabM spec_l02Finite_tab) (spec_l02Finite_LO v36) 0 spec_l02Finite_l0_kill spec_l02Finite_l0_nx (bodyOf Try.f38 0) 0 (spec_l02Finite_l0_E v36 s) = (spec_l02Finite_l0_T v36 s).bind fun y => .leaf (outS (spec_l02Finite_l0_E v36) (spec_l02Finite_l0_X v36) y) := by kernel_rfl
theorem spec_l02Finite_l0_ok (v36 : List Nat) : LSound Try.prog 0 (spec_l02Finite_LO v36) 0 (bodyOf Try.f38 0) := by
  intro e L out h
  exact lo_ok (E := spec_l02Finite_l0_E v36) (gT := spec_l02Finite_l0_T v36) (X := spec_l02Finite_l0_X v36) (s0 := (gI (vAt e 3))) tok spec_l02Finite_hO mixed (LoopsOk_eq (l := []) (by kernel_rfl) trivial) (spec_l02Finite_l0_be v36) rfl (by intro x; (cases x with | inl b => rfl | inr x => exact rfl)) h
noncomputable def spec_l02Finite_T (v36 : List Nat) : Tree (Bool) :=
  (.need (some (spec_l02Finite_l0_E v36 (0 : Int)) = some (spec_l02Finite_l0_E v36 (0 : Int))) <|
  (.call (spec_l02Finite_l0_g v36 (0 : Int)) fun v41 =>
  (.sum v41 (fun v42 =>
   .leaf false
  ) (fun v43 =>
   .leaf true
  ))))

noncomputable def spec_l02Finite_g (v36 : List Nat) : Option (Bool) := (spec_l02Finite_T v36).run
def spec_l02Finite_enc (v36 : List Nat) (y : Bool) : Rs := (.bool y, [])
theorem spec_l02Finite_den (v36 : List Nat) : (den TT (tabD spec_l02Finite_tab) (tabM spec_l02Finite_tab) (spec_l02Finite_LO v36) (codeOf Try.f38) ([.bslc (BR.root 0) (.f32 v36)] ++ List.replicate (Try.f38.ntmps - ([.bslc (BR.root 0) (.f32 v36)] : List DV).length) .undef) []).bind (retD TT Try.f38.results.toList 0) = (spec_l02Finite_T v36).bind fun y => .leaf (spec_l02Finite_enc v36 y) := by kernel_rfl
theorem spec_l02Finite_fn (v36 : List Nat) (F : Fr) (hm : F.ids.length = 0) (h0 : St F [] F.H0) (hA : DVs.Ok F [] [.bslc (BR.root 0) (.f32 v36)]) {y : Bool} (hy : spec_l02Finite_g v36 = some y) : ∃ H', FnOk Try.prog 38 (DVs.av F [.bslc (BR.root 0) (.f32 v36)]) F.H0 ((spec_l02Finite_enc v36 y).1.av F) H' ∧ St F (spec_l02Finite_enc v36 y).2 H' ∧ (spec_l02Finite_enc v36 y).1.Ok F (spec_l02Finite_enc v36 y).2 :=
  fn_fin tok spec_l02Finite_hO mixed Try.func38 Try.call38 (by kernel_rfl) (LoopsOk_eq (l := [(0, bodyOf Try.f38 0)]) (by kernel_rfl) ⟨spec_l02Finite_l0_ok v36, trivial⟩) (spec_l02Finite_den v36) hy hm h0 hA
noncomputable def spec_l02Finite_F : DFn := fun args L =>
  match args with
  | [a1] =>
    optT (rowF32 L a1) fun v36 =>
    .call (spec_l02Finite_g v36) fun y => .leaf (.bool y, L)
  | _ => .fail
theorem spec_l02Finite_Fok : COk Try.prog 38 spec_l02Finite_F true := by
  intro F L H args r L' hs ha hr
  unfold spec_l02Finite_F at hr
  split at hr
  · rename_i a1
    obtain ⟨v36, hv36, hr⟩ := optT_run hr
    simp only [Tree.run] at hr
    obtain ⟨y, hy, hr⟩ := Option.bind_eq_some_iff.1 hr
    simp only [Tree.run, Option.some.injEq, Prod.mk.injEq] at hr
    obtain ⟨rfl, rfl⟩ := hr
    exact call_ok0 hs (fun k => (([a1.av F] : List AV)[k]?).getD .top) [a1] [.bslc (BR.root 0) (.f32 v36)] (fun F' h0 hi hρ => ⟨by simp [DVs.av, DV.av, BR.av, hρ], spec_l02Finite_fn v36 F' (by rw [hi]; rfl) (st_nil hi) ⟨bslc_ok hi (by rw [h0, hρ]; exact rowF32_ok hs (DVs.okAt ha 0 rfl) hv36), trivial⟩ hy⟩) rfl
  · cases hr
/-! spec.l02Is -/
noncomputable def spec_l02Is_LO (v28 : Int) (v29 : Int) (v30 : List Nat) : LOr := fun id e L =>
  match id with
  | _ => .fail
noncomputable def spec_l02Is_tab : List (FuncId × DFn × Bool) := [(147, spec_l02Sides_F, true), (38, spec_l02Finite_F, true)]
theorem spec_l02Is_hO : OrcOk Try.prog (tabD spec_l02Is_tab) (tabM spec_l02Is_tab) := tabD_cons spec_l02Sides_Fok (tabD_cons spec_l02Finite_Fok (tabD_nil _))
noncomputable def spec_l02Is_T (v28 : Int) (v29 : Int) (v30 : List Nat) : Tree (Bool) :=
  (.br (spec_l02Sides_v v28 v29) (
   (.br (decide (((v30.length : Nat) : Int) = IntKind.i64.wrap (v28 * v29))) (
    (.call (spec_l02Finite_g v30) fun v44 =>
    .leaf v44)
   ) (
    .leaf false
   ))
  ) (
   .leaf false
  ))

noncomputable def spec_l02Is_g (v28 : Int) (v29 : Int) (v30 : List Nat) : Option (Bool) := (spec_l02Is_T v28 v29 v30).run
def spec_l02Is_enc (v28 : Int) (v29 : Int) (v30 : List Nat) (y : Bool) : Rs := (.bool y, [])
theorem spec_l02Is_den (v28 : Int) (v29 : Int) (v30 : List Nat) : (den TT (tabD spec_l02Is_tab) (tabM spec_l02Is_tab) (spec_l02Is_LO v28 v29 v30) (codeOf Try.f103) ([.bptr (BR.root 0) [.int .i64 v28, .int .i64 v29, .bslc (BR.root 1) (.f32 v30)]] ++ List.replicate (Try.f103.ntmps - ([.bptr (BR.root 0) [.int .i64 v28, .int .i64 v29, .bslc (BR.root 1) (.f32 v30)]] : List DV).length) .undef) []).bind (retD TT Try.f103.results.toList 0) = (spec_l02Is_T v28 v29 v30).bind fun y => .leaf (spec_l02Is_enc v28 v29 v30 y) := by kernel_rfl
theorem spec_l02Is_fn (v28 : Int) (v29 : Int) (v30 : List Nat) (F : Fr) (hm : F.ids.length = 0) (h0 : St F [] F.H0) (hA : DVs.Ok F [] [.bptr (BR.root 0) [.int .i64 v28, .int .i64 v29, .bslc (BR.root 1) (.f32 v30)]]) {y : Bool} (hy : spec_l02Is_g v28 v29 v30 = some y) : ∃ H', FnOk Try.prog 103 (DVs.av F [.bptr (BR.root 0) [.int .i64 v28, .int .i64 v29, .bslc (BR.root 1) (.f32 v30)]]) F.H0 ((spec_l02Is_enc v28 v29 v30 y).1.av F) H' ∧ St F (spec_l02Is_enc v28 v29 v30 y).2 H' ∧ (spec_l02Is_enc v28 v29 v30 y).1.Ok F (spec_l02Is_enc v28 v29 v30 y).2 :=
  fn_fin tok spec_l02Is_hO mixed Try.func103 Try.call103 (by kernel_rfl) (LoopsOk_eq (l := []) (by kernel_rfl) trivial) (spec_l02Is_den v28 v29 v30) hy hm h0 hA
noncomputable def spec_l02Is_F : DFn := fun args L =>
  match args with
  | [a1] =>
    optT (cellsOf L 3 a1) fun cs0 =>
    (match cs0 with
    | [.int .i64 v28, .int .i64 v29, a2] =>
    optT (rowF32 L a2) fun v30 =>
    .call (spec_l02Is_g v28 v29 v30) fun y => .leaf (.bool y, L)
    | _ => .fail)
  | _ => .fail
theorem spec_l02Is_Fok : COk Try.prog 103 spec_l02Is_F true := by
  intro F L H args r L' hs ha hr
  unfold spec_l02Is_F at hr
  split at hr
  · rename_i a1
    obtain ⟨cs0, hcp0, hr⟩ := optT_run hr
    split at hr
    · rename_i v28 v29 a2
      obtain ⟨v30, hv30, hr⟩ := optT_run hr
      simp only [Tree.run] at hr
      obtain ⟨y, hy, hr⟩ := Option.bind_eq_some_iff.1 hr
      simp only [Tree.run, Option.some.injEq, Prod.mk.injEq] at hr
      obtain ⟨rfl, rfl⟩ := hr
      exact call_ok0 hs (fun k => (([a1.av F, a2.av F] : List AV)[k]?).getD .top) [a1] [.bptr (BR.root 0) [.int .i64 v28, .int .i64 v29, .bslc (BR.root 1) (.f32 v30)]] (fun F' h0 hi hρ => ⟨by simp [DVs.av, DV.av, BR.av, hρ], spec_l02Is_fn v28 v29 v30 F' (by rw [hi]; rfl) (st_nil hi) ⟨bptr_ok hi (by rw [h0]; simpa [DVs.av, DV.av, BR.av, hρ] using (cellsOf_ok hs (DVs.okAt ha 0 rfl) hcp0).1) ⟨trivial, trivial, bslc_ok hi (by rw [h0, hρ]; exact rowF32_ok hs (DVs.okAt (cellsOf_ok hs (DVs.okAt ha 0 rfl) hcp0).2 2 rfl) hv30), trivial⟩, trivial⟩ hy⟩) rfl
    · cases hr
  · cases hr
/-! spec.l02Square -/
noncomputable def spec_l02Square_LO (v25 : Int) (v26 : Int) (v27 : List Nat) : LOr := fun id e L =>
  match id with
  | _ => .fail
noncomputable def spec_l02Square_tab : List (FuncId × DFn × Bool) := [(103, spec_l02Is_F, true)]
theorem spec_l02Square_hO : OrcOk Try.prog (tabD spec_l02Square_tab) (tabM spec_l02Square_tab) := tabD_cons spec_l02Is_Fok (tabD_nil _)
noncomputable def spec_l02Square_T (v25 : Int) (v26 : Int) (v27 : List Nat) : Tree (Bool) :=
  (.call (spec_l02Is_g v25 v26 v27) fun v45 =>
  (.br v45 (
   .leaf (decide (v25 = v26))
  ) (
   .leaf false
  )))

noncomputable def spec_l02Square_g (v25 : Int) (v26 : Int) (v27 : List Nat) : Option (Bool) := (spec_l02Square_T v25 v26 v27).run
def spec_l02Square_enc (v25 : Int) (v26 : Int) (v27 : List Nat) (y : Bool) : Rs := (.bool y, [])
theorem spec_l02Square_den (v25 : Int) (v26 : Int) (v27 : List Nat) : (den TT (tabD spec_l02Square_tab) (tabM spec_l02Square_tab) (spec_l02Square_LO v25 v26 v27) (codeOf Try.f45) ([.bptr (BR.root 0) [.int .i64 v25, .int .i64 v26, .bslc (BR.root 1) (.f32 v27)]] ++ List.replicate (Try.f45.ntmps - ([.bptr (BR.root 0) [.int .i64 v25, .int .i64 v26, .bslc (BR.root 1) (.f32 v27)]] : List DV).length) .undef) []).bind (retD TT Try.f45.results.toList 0) = (spec_l02Square_T v25 v26 v27).bind fun y => .leaf (spec_l02Square_enc v25 v26 v27 y) := by kernel_rfl
theorem spec_l02Square_fn (v25 : Int) (v26 : Int) (v27 : List Nat) (F : Fr) (hm : F.ids.length = 0) (h0 : St F [] F.H0) (hA : DVs.Ok F [] [.bptr (BR.root 0) [.int .i64 v25, .int .i64 v26, .bslc (BR.root 1) (.f32 v27)]]) {y : Bool} (hy : spec_l02Square_g v25 v26 v27 = some y) : ∃ H', FnOk Try.prog 45 (DVs.av F [.bptr (BR.root 0) [.int .i64 v25, .int .i64 v26, .bslc (BR.root 1) (.f32 v27)]]) F.H0 ((spec_l02Square_enc v25 v26 v27 y).1.av F) H' ∧ St F (spec_l02Square_enc v25 v26 v27 y).2 H' ∧ (spec_l02Square_enc v25 v26 v27 y).1.Ok F (spec_l02Square_enc v25 v26 v27 y).2 :=
  fn_fin tok spec_l02Square_hO mixed Try.func45 Try.call45 (by kernel_rfl) (LoopsOk_eq (l := []) (by kernel_rfl) trivial) (spec_l02Square_den v25 v26 v27) hy hm h0 hA
noncomputable def spec_l02Square_F : DFn := fun args L =>
  match args with
  | [a1] =>
    optT (cellsOf L 3 a1) fun cs0 =>
    (match cs0 with
    | [.int .i64 v25, .int .i64 v26, a2] =>
    optT (rowF32 L a2) fun v27 =>
    .call (spec_l02Square_g v25 v26 v27) fun y => .leaf (.bool y, L)
    | _ => .fail)
  | _ => .fail
theorem spec_l02Square_Fok : COk Try.prog 45 spec_l02Square_F true := by
  intro F L H args r L' hs ha hr
  unfold spec_l02Square_F at hr
  split at hr
  · rename_i a1
    obtain ⟨cs0, hcp0, hr⟩ := optT_run hr
    split at hr
    · rename_i v25 v26 a2
      obtain ⟨v27, hv27, hr⟩ := optT_run hr
      simp only [Tree.run] at hr
      obtain ⟨y, hy, hr⟩ := Option.bind_eq_some_iff.1 hr
      simp only [Tree.run, Option.some.injEq, Prod.mk.injEq] at hr
      obtain ⟨rfl, rfl⟩ := hr
      exact call_ok0 hs (fun k => (([a1.av F, a2.av F] : List AV)[k]?).getD .top) [a1] [.bptr (BR.root 0) [.int .i64 v25, .int .i64 v26, .bslc (BR.root 1) (.f32 v27)]] (fun F' h0 hi hρ => ⟨by simp [DVs.av, DV.av, BR.av, hρ], spec_l02Square_fn v25 v26 v27 F' (by rw [hi]; rfl) (st_nil hi) ⟨bptr_ok hi (by rw [h0]; simpa [DVs.av, DV.av, BR.av, hρ] using (cellsOf_ok hs (DVs.okAt ha 0 rfl) hcp0).1) ⟨trivial, trivial, bslc_ok hi (by rw [h0, hρ]; exact rowF32_ok hs (DVs.okAt (cellsOf_ok hs (DVs.okAt ha 0 rfl) hcp0).2 2 rfl) hv27), trivial⟩, trivial⟩ hy⟩) rfl
    · cases hr
  · cases hr
/-! spec.l02Zero -/
noncomputable def spec_l02Zero_LO (v51 : Int) (v52 : Int) : LOr := fun id e L =>
  match id with
  | _ => .fail
noncomputable def spec_l02Zero_tab : List (FuncId × DFn × Bool) := []
theorem spec_l02Zero_hO : OrcOk Try.prog (tabD spec_l02Zero_tab) (tabM spec_l02Zero_tab) := tabD_nil _
noncomputable def spec_l02Zero_T (v51 : Int) (v52 : Int) : Tree (Int × Int) :=
  (.need (IntKind.i64.wrap (v51 * v52) = IntKind.i64.wrap (v51 * v52)) <|
  (.grd (inb (IntKind.i64.wrap (v51 * v52)) (maxN + 1)) <|
  .leaf (v51, v52)))

noncomputable def spec_l02Zero_g (v51 : Int) (v52 : Int) : Option (Int × Int) := (spec_l02Zero_T v51 v52).run
def spec_l02Zero_enc (v51 : Int) (v52 : Int) (y : Int × Int) : Rs := (.agg [.int .i64 y.1, .int .i64 y.2, .own 0 0 ((List.replicate (Int.toNat (IntKind.i64.wrap (v51 * v52))) (0 : Nat)).length)], [.row (.f32 (List.replicate (Int.toNat (IntKind.i64.wrap (v51 * v52))) (0 : Nat))) 0])
theorem spec_l02Zero_den (v51 : Int) (v52 : Int) : (den TT (tabD spec_l02Zero_tab) (tabM spec_l02Zero_tab) (spec_l02Zero_LO v51 v52) (codeOf Try.f115) ([.int .i64 v51, .int .i64 v52] ++ List.replicate (Try.f115.ntmps - ([.int .i64 v51, .int .i64 v52] : List DV).length) .undef) []).bind (retD TT Try.f115.results.toList 0) = (spec_l02Zero_T v51 v52).bind fun y => .leaf (spec_l02Zero_enc v51 v52 y) := by kernel_rfl
theorem spec_l02Zero_fn (v51 : Int) (v52 : Int) (F : Fr) (hm : F.ids.length = 0) (h0 : St F [] F.H0) (hA : DVs.Ok F [] [.int .i64 v51, .int .i64 v52]) {y : Int × Int} (hy : spec_l02Zero_g v51 v52 = some y) : ∃ H', FnOk Try.prog 115 (DVs.av F [.int .i64 v51, .int .i64 v52]) F.H0 ((spec_l02Zero_enc v51 v52 y).1.av F) H' ∧ St F (spec_l02Zero_enc v51 v52 y).2 H' ∧ (spec_l02Zero_enc v51 v52 y).1.Ok F (spec_l02Zero_enc v51 v52 y).2 :=
  fn_fin tok spec_l02Zero_hO mixed Try.func115 Try.call115 (by kernel_rfl) (LoopsOk_eq (l := []) (by kernel_rfl) trivial) (spec_l02Zero_den v51 v52) hy hm h0 hA
noncomputable def spec_l02Zero_F : DFn := fun args L =>
  match args with
  | [.int .i64 v51, .int .i64 v52] =>
    .call (spec_l02Zero_g v51 v52) fun y => .leaf (.agg [.int .i64 y.1, .int .i64 y.2, .own (L.length + 0) 0 ((List.replicate (Int.toNat (IntKind.i64.wrap (v51 * v52))) (0 : Nat)).length)], L ++ [.row (.f32 (List.replicate (Int.toNat (IntKind.i64.wrap (v51 * v52))) (0 : Nat))) 0])
  | _ => .fail
theorem spec_l02Zero_Fok : COk Try.prog 115 spec_l02Zero_F true := by
  intro F L H args r L' hs ha hr
  unfold spec_l02Zero_F at hr
  split at hr
  · rename_i v51 v52
    simp only [Tree.run] at hr
    obtain ⟨y, hy, hr⟩ := Option.bind_eq_some_iff.1 hr
    simp only [Tree.run, Option.some.injEq, Prod.mk.injEq] at hr
    obtain ⟨rfl, rfl⟩ := hr
    exact call_ok1 hs (fun k => (([] : List AV)[k]?).getD .top) [.int .i64 v51, .int .i64 v52] [.int .i64 v51, .int .i64 v52] (fun F' h0 hi hρ => ⟨by simp [DVs.av, DV.av, BR.av, hρ], spec_l02Zero_fn v51 v52 F' (by rw [hi]; rfl) (st_nil hi) ⟨trivial, trivial, trivial⟩ hy⟩) rfl rfl
  · cases hr
/-! spec.l02At -/
noncomputable def spec_l02At_LO (v61 : Int) (v62 : Int) (v63 : List Nat) (v64 : Int) (v65 : Int) : LOr := fun id e L =>
  match id with
  | _ => .fail
noncomputable def spec_l02At_tab : List (FuncId × DFn × Bool) := []
theorem spec_l02At_hO : OrcOk Try.prog (tabD spec_l02At_tab) (tabM spec_l02At_tab) := tabD_nil _
noncomputable def spec_l02At_T (v62 : Int) (v63 : List Nat) (v64 : Int) (v65 : Int) : Tree (Nat) :=
  (.grd (inb (IntKind.i64.wrap ((IntKind.i64.wrap (v64 * v62)) + v65)) v63.length) <|
  .leaf (nth v63 (Int.toNat (IntKind.i64.wrap ((IntKind.i64.wrap (v64 * v62)) + v65)))))

noncomputable def spec_l02At_g (v62 : Int) (v63 : List Nat) (v64 : Int) (v65 : Int) : Option (Nat) := (spec_l02At_T v62 v63 v64 v65).run
def spec_l02At_enc (v61 : Int) (v62 : Int) (v63 : List Nat) (v64 : Int) (v65 : Int) (y : Nat) : Rs := (.flt .f32 y, [])
theorem spec_l02At_den (v61 : Int) (v62 : Int) (v63 : List Nat) (v64 : Int) (v65 : Int) : (den TT (tabD spec_l02At_tab) (tabM spec_l02At_tab) (spec_l02At_LO v61 v62 v63 v64 v65) (codeOf Try.f116) ([.bptr (BR.root 0) [.int .i64 v61, .int .i64 v62, .bslc (BR.root 1) (.f32 v63)], .int .i64 v64, .int .i64 v65] ++ List.replicate (Try.f116.ntmps - ([.bptr (BR.root 0) [.int .i64 v61, .int .i64 v62, .bslc (BR.root 1) (.f32 v63)], .int .i64 v64, .int .i64 v65] : List DV).length) .undef) []).bind (retD TT Try.f116.results.toList 0) = (spec_l02At_T v62 v63 v64 v65).bind fun y => .leaf (spec_l02At_enc v61 v62 v63 v64 v65 y) := by kernel_rfl
theorem spec_l02At_fn (v61 : Int) (v62 : Int) (v63 : List Nat) (v64 : Int) (v65 : Int) (F : Fr) (hm : F.ids.length = 0) (h0 : St F [] F.H0) (hA : DVs.Ok F [] [.bptr (BR.root 0) [.int .i64 v61, .int .i64 v62, .bslc (BR.root 1) (.f32 v63)], .int .i64 v64, .int .i64 v65]) {y : Nat} (hy : spec_l02At_g v62 v63 v64 v65 = some y) : ∃ H', FnOk Try.prog 116 (DVs.av F [.bptr (BR.root 0) [.int .i64 v61, .int .i64 v62, .bslc (BR.root 1) (.f32 v63)], .int .i64 v64, .int .i64 v65]) F.H0 ((spec_l02At_enc v61 v62 v63 v64 v65 y).1.av F) H' ∧ St F (spec_l02At_enc v61 v62 v63 v64 v65 y).2 H' ∧ (spec_l02At_enc v61 v62 v63 v64 v65 y).1.Ok F (spec_l02At_enc v61 v62 v63 v64 v65 y).2 :=
  fn_fin tok spec_l02At_hO mixed Try.func116 Try.call116 (by kernel_rfl) (LoopsOk_eq (l := []) (by kernel_rfl) trivial) (spec_l02At_den v61 v62 v63 v64 v65) hy hm h0 hA
noncomputable def spec_l02At_F : DFn := fun args L =>
  match args with
  | [a1, .int .i64 v64, .int .i64 v65] =>
    optT (cellsOf L 3 a1) fun cs0 =>
    (match cs0 with
    | [.int .i64 v61, .int .i64 v62, a2] =>
    optT (rowF32 L a2) fun v63 =>
    .call (spec_l02At_g v62 v63 v64 v65) fun y => .leaf (.flt .f32 y, L)
    | _ => .fail)
  | _ => .fail
theorem spec_l02At_Fok : COk Try.prog 116 spec_l02At_F true := by
  intro F L H args r L' hs ha hr
  unfold spec_l02At_F at hr
  split at hr
  · rename_i a1 v64 v65
    obtain ⟨cs0, hcp0, hr⟩ := optT_run hr
    split at hr
    · rename_i v61 v62 a2
      obtain ⟨v63, hv63, hr⟩ := optT_run hr
      simp only [Tree.run] at hr
      obtain ⟨y, hy, hr⟩ := Option.bind_eq_some_iff.1 hr
      simp only [Tree.run, Option.some.injEq, Prod.mk.injEq] at hr
      obtain ⟨rfl, rfl⟩ := hr
      exact call_ok0 hs (fun k => (([a1.av F, a2.av F] : List AV)[k]?).getD .top) [a1, .int .i64 v64, .int .i64 v65] [.bptr (BR.root 0) [.int .i64 v61, .int .i64 v62, .bslc (BR.root 1) (.f32 v63)], .int .i64 v64, .int .i64 v65] (fun F' h0 hi hρ => ⟨by simp [DVs.av, DV.av, BR.av, hρ], spec_l02At_fn v61 v62 v63 v64 v65 F' (by rw [hi]; rfl) (st_nil hi) ⟨bptr_ok hi (by rw [h0]; simpa [DVs.av, DV.av, BR.av, hρ] using (cellsOf_ok hs (DVs.okAt ha 0 rfl) hcp0).1) ⟨trivial, trivial, bslc_ok hi (by rw [h0, hρ]; exact rowF32_ok hs (DVs.okAt (cellsOf_ok hs (DVs.okAt ha 0 rfl) hcp0).2 2 rfl) hv63), trivial⟩, trivial, trivial, trivial⟩ hy⟩) rfl
    · cases hr
  · cases hr
/-! math.Sqrt -/
noncomputable def math_Sqrt_LO (v94 : Nat) : LOr := fun id e L =>
  match id with
  | _ => .fail
noncomputable def math_Sqrt_tab : List (FuncId × DFn × Bool) := [(158, Sqrt_F, true)]
theorem math_Sqrt_hO : OrcOk Try.prog (tabD math_Sqrt_tab) (tabM math_Sqrt_tab) := tabD_cons Sqrt_Fok (tabD_nil _)
noncomputable def math_Sqrt_T (v94 : Nat) : Tree (Nat) :=
  .leaf (fsqrt v94)

noncomputable def math_Sqrt_g (v94 : Nat) : Option (Nat) := (math_Sqrt_T v94).run
def math_Sqrt_enc (v94 : Nat) (y : Nat) : Rs := (.flt .f64 y, [])
theorem math_Sqrt_den (v94 : Nat) : (den TT (tabD math_Sqrt_tab) (tabM math_Sqrt_tab) (math_Sqrt_LO v94) (codeOf Try.f117) ([.flt .f64 v94] ++ List.replicate (Try.f117.ntmps - ([.flt .f64 v94] : List DV).length) .undef) []).bind (retD TT Try.f117.results.toList 0) = (math_Sqrt_T v94).bind fun y => .leaf (math_Sqrt_enc v94 y) := by kernel_rfl
theorem math_Sqrt_fn (v94 : Nat) (F : Fr) (hm : F.ids.length = 0) (h0 : St F [] F.H0) (hA : DVs.Ok F [] [.flt .f64 v94]) {y : Nat} (hy : math_Sqrt_g v94 = some y) : ∃ H', FnOk Try.prog 117 (DVs.av F [.flt .f64 v94]) F.H0 ((math_Sqrt_enc v94 y).1.av F) H' ∧ St F (math_Sqrt_enc v94 y).2 H' ∧ (math_Sqrt_enc v94 y).1.Ok F (math_Sqrt_enc v94 y).2 :=
  fn_fin tok math_Sqrt_hO mixed Try.func117 Try.call117 (by kernel_rfl) (LoopsOk_eq (l := []) (by kernel_rfl) trivial) (math_Sqrt_den v94) hy hm h0 hA
def math_Sqrt_v (v94 : Nat) : Nat :=
  fsqrt v94
theorem math_Sqrt_tot (v94 : Nat) : math_Sqrt_g v94 = some (math_Sqrt_v v94) := by
  unfold math_Sqrt_g math_Sqrt_T math_Sqrt_v
  simp only [Tree.run]
  repeat' (first | rfl | split)
noncomputable def math_Sqrt_F : DFn := fun args L =>
  match args with
  | [.flt .f64 v94] =>
    .leaf (.flt .f64 (math_Sqrt_v v94), L)
  | _ => .fail
theorem math_Sqrt_Fok : COk Try.prog 117 math_Sqrt_F true := by
  intro F L H args r L' hs ha hr
  unfold math_Sqrt_F at hr
  split at hr
  · rename_i v94
    have hy := math_Sqrt_tot v94
    generalize math_Sqrt_v v94 = y at hy hr
    simp only [Tree.run, Option.some.injEq, Prod.mk.injEq] at hr
    obtain ⟨rfl, rfl⟩ := hr
    exact call_ok0 hs (fun k => (([] : List AV)[k]?).getD .top) [.flt .f64 v94] [.flt .f64 v94] (fun F' h0 hi hρ => ⟨by simp [DVs.av, DV.av, BR.av, hρ], math_Sqrt_fn v94 F' (by rw [hi]; rfl) (st_nil hi) ⟨trivial, trivial⟩ hy⟩) rfl
  · cases hr
/-! spec.l01Narrow -/
noncomputable def spec_l01Narrow_LO (v95 : Nat) : LOr := fun id e L =>
  match id with
  | _ => .fail
noncomputable def spec_l01Narrow_tab : List (FuncId × DFn × Bool) := []
theorem spec_l01Narrow_hO : OrcOk Try.prog (tabD spec_l01Narrow_tab) (tabM spec_l01Narrow_tab) := tabD_nil _
noncomputable def spec_l01Narrow_T (v95 : Nat) : Tree (Nat) :=
  (.call (fconv .f64 v95 .f32) fun v96 =>
  .leaf v96)

noncomputable def spec_l01Narrow_g (v95 : Nat) : Option (Nat) := (spec_l01Narrow_T v95).run
def spec_l01Narrow_enc (v95 : Nat) (y : Nat) : Rs := (.flt .f32 y, [])
theorem spec_l01Narrow_den (v95 : Nat) : (den TT (tabD spec_l01Narrow_tab) (tabM spec_l01Narrow_tab) (spec_l01Narrow_LO v95) (codeOf Try.f148) ([.flt .f64 v95] ++ List.replicate (Try.f148.ntmps - ([.flt .f64 v95] : List DV).length) .undef) []).bind (retD TT Try.f148.results.toList 0) = (spec_l01Narrow_T v95).bind fun y => .leaf (spec_l01Narrow_enc v95 y) := by kernel_rfl
theorem spec_l01Narrow_fn (v95 : Nat) (F : Fr) (hm : F.ids.length = 0) (h0 : St F [] F.H0) (hA : DVs.Ok F [] [.flt .f64 v95]) {y : Nat} (hy : spec_l01Narrow_g v95 = some y) : ∃ H', FnOk Try.prog 148 (DVs.av F [.flt .f64 v95]) F.H0 ((spec_l01Narrow_enc v95 y).1.av F) H' ∧ St F (spec_l01Narrow_enc v95 y).2 H' ∧ (spec_l01Narrow_enc v95 y).1.Ok F (spec_l01Narrow_enc v95 y).2 :=
  fn_fin tok spec_l01Narrow_hO mixed Try.func148 Try.call148 (by kernel_rfl) (LoopsOk_eq (l := []) (by kernel_rfl) trivial) (spec_l01Narrow_den v95) hy hm h0 hA
noncomputable def spec_l01Narrow_F : DFn := fun args L =>
  match args with
  | [.flt .f64 v95] =>
    .call (spec_l01Narrow_g v95) fun y => .leaf (.flt .f32 y, L)
  | _ => .fail
theorem spec_l01Narrow_Fok : COk Try.prog 148 spec_l01Narrow_F true := by
  intro F L H args r L' hs ha hr
  unfold spec_l01Narrow_F at hr
  split at hr
  · rename_i v95
    simp only [Tree.run] at hr
    obtain ⟨y, hy, hr⟩ := Option.bind_eq_some_iff.1 hr
    simp only [Tree.run, Option.some.injEq, Prod.mk.injEq] at hr
    obtain ⟨rfl, rfl⟩ := hr
    exact call_ok0 hs (fun k => (([] : List AV)[k]?).getD .top) [.flt .f64 v95] [.flt .f64 v95] (fun F' h0 hi hρ => ⟨by simp [DVs.av, DV.av, BR.av, hρ], spec_l01Narrow_fn v95 F' (by rw [hi]; rfl) (st_nil hi) ⟨trivial, trivial⟩ hy⟩) rfl
  · cases hr
/-! spec.l01Sqrt -/
noncomputable def spec_l01Sqrt_LO (v93 : Nat) : LOr := fun id e L =>
  match id with
  | _ => .fail
noncomputable def spec_l01Sqrt_tab : List (FuncId × DFn × Bool) := [(117, math_Sqrt_F, true), (148, spec_l01Narrow_F, true)]
theorem spec_l01Sqrt_hO : OrcOk Try.prog (tabD spec_l01Sqrt_tab) (tabM spec_l01Sqrt_tab) := tabD_cons math_Sqrt_Fok (tabD_cons spec_l01Narrow_Fok (tabD_nil _))
noncomputable def spec_l01Sqrt_T (v93 : Nat) : Tree (Nat) :=
  (.call (spec_l01Narrow_g (math_Sqrt_v (wid v93))) fun v97 =>
  .leaf v97)

noncomputable def spec_l01Sqrt_g (v93 : Nat) : Option (Nat) := (spec_l01Sqrt_T v93).run
def spec_l01Sqrt_enc (v93 : Nat) (y : Nat) : Rs := (.flt .f32 y, [])
theorem spec_l01Sqrt_den (v93 : Nat) : (den TT (tabD spec_l01Sqrt_tab) (tabM spec_l01Sqrt_tab) (spec_l01Sqrt_LO v93) (codeOf Try.f104) ([.flt .f32 v93] ++ List.replicate (Try.f104.ntmps - ([.flt .f32 v93] : List DV).length) .undef) []).bind (retD TT Try.f104.results.toList 0) = (spec_l01Sqrt_T v93).bind fun y => .leaf (spec_l01Sqrt_enc v93 y) := by kernel_rfl
theorem spec_l01Sqrt_fn (v93 : Nat) (F : Fr) (hm : F.ids.length = 0) (h0 : St F [] F.H0) (hA : DVs.Ok F [] [.flt .f32 v93]) {y : Nat} (hy : spec_l01Sqrt_g v93 = some y) : ∃ H', FnOk Try.prog 104 (DVs.av F [.flt .f32 v93]) F.H0 ((spec_l01Sqrt_enc v93 y).1.av F) H' ∧ St F (spec_l01Sqrt_enc v93 y).2 H' ∧ (spec_l01Sqrt_enc v93 y).1.Ok F (spec_l01Sqrt_enc v93 y).2 :=
  fn_fin tok spec_l01Sqrt_hO mixed Try.func104 Try.call104 (by kernel_rfl) (LoopsOk_eq (l := []) (by kernel_rfl) trivial) (spec_l01Sqrt_den v93) hy hm h0 hA
noncomputable def spec_l01Sqrt_F : DFn := fun args L =>
  match args with
  | [.flt .f32 v93] =>
    .call (spec_l01Sqrt_g v93) fun y => .leaf (.flt .f32 y, L)
  | _ => .fail
theorem spec_l01Sqrt_Fok : COk Try.prog 104 spec_l01Sqrt_F true := by
  intro F L H args r L' hs ha hr
  unfold spec_l01Sqrt_F at hr
  split at hr
  · rename_i v93
    simp only [Tree.run] at hr
    obtain ⟨y, hy, hr⟩ := Option.bind_eq_some_iff.1 hr
    simp only [Tree.run, Option.some.injEq, Prod.mk.injEq] at hr
    obtain ⟨rfl, rfl⟩ := hr
    exact call_ok0 hs (fun k => (([] : List AV)[k]?).getD .top) [.flt .f32 v93] [.flt .f32 v93] (fun F' h0 hi hρ => ⟨by simp [DVs.av, DV.av, BR.av, hρ], spec_l01Sqrt_fn v93 F' (by rw [hi]; rfl) (st_nil hi) ⟨trivial, trivial⟩ hy⟩) rfl
  · cases hr
/-! spec.l02Give -/
noncomputable def spec_l02Give_LO (v674 : Int) (v675 : Int) (v676 : List Nat) : LOr := fun id e L =>
  match id with
  | _ => .fail
noncomputable def spec_l02Give_tab : List (FuncId × DFn × Bool) := [(103, spec_l02Is_F, true)]
theorem spec_l02Give_hO : OrcOk Try.prog (tabD spec_l02Give_tab) (tabM spec_l02Give_tab) := tabD_cons spec_l02Is_Fok (tabD_nil _)
noncomputable def spec_l02Give_T (v674 : Int) (v675 : Int) (v676 : List Nat) : Tree ((Unit) ⊕ (Int × Int)) :=
  (.call (spec_l02Is_g v674 v675 v676) fun v677 =>
  (.br (!v677) (
   .leaf (.inl ())
  ) (
   .leaf (.inr (v674, v675))
  )))

noncomputable def spec_l02Give_g (v674 : Int) (v675 : Int) (v676 : List Nat) : Option ((Unit) ⊕ (Int × Int)) := (spec_l02Give_T v674 v675 v676).run
def spec_l02Give_enc (v674 : Int) (v675 : Int) (v676 : List Nat) (y : (Unit) ⊕ (Int × Int)) : Rs := (match y with | .inl y => (.tup [.agg [.int .i64 (0 : Int), .int .i64 (0 : Int), .nilslc], .lit false], []) | .inr y => (.tup [.agg [.int .i64 y.1, .int .i64 y.2, .bslc (BR.root 0) (.f32 v676)], .lit true], []))
theorem spec_l02Give_den (v674 : Int) (v675 : Int) (v676 : List Nat) : (den TT (tabD spec_l02Give_tab) (tabM spec_l02Give_tab) (spec_l02Give_LO v674 v675 v676) (codeOf Try.f93) ([.agg [.int .i64 v674, .int .i64 v675, .bslc (BR.root 0) (.f32 v676)]] ++ List.replicate (Try.f93.ntmps - ([.agg [.int .i64 v674, .int .i64 v675, .bslc (BR.root 0) (.f32 v676)]] : List DV).length) .undef) []).bind (retD TT Try.f93.results.toList 0) = (spec_l02Give_T v674 v675 v676).bind fun y => .leaf (spec_l02Give_enc v674 v675 v676 y) := by kernel_rfl
theorem spec_l02Give_fn (v674 : Int) (v675 : Int) (v676 : List Nat) (F : Fr) (hm : F.ids.length = 0) (h0 : St F [] F.H0) (hA : DVs.Ok F [] [.agg [.int .i64 v674, .int .i64 v675, .bslc (BR.root 0) (.f32 v676)]]) {y : (Unit) ⊕ (Int × Int)} (hy : spec_l02Give_g v674 v675 v676 = some y) : ∃ H', FnOk Try.prog 93 (DVs.av F [.agg [.int .i64 v674, .int .i64 v675, .bslc (BR.root 0) (.f32 v676)]]) F.H0 ((spec_l02Give_enc v674 v675 v676 y).1.av F) H' ∧ St F (spec_l02Give_enc v674 v675 v676 y).2 H' ∧ (spec_l02Give_enc v674 v675 v676 y).1.Ok F (spec_l02Give_enc v674 v675 v676 y).2 :=
  fn_fin tok spec_l02Give_hO mixed Try.func93 Try.call93 (by kernel_rfl) (LoopsOk_eq (l := []) (by kernel_rfl) trivial) (spec_l02Give_den v674 v675 v676) hy hm h0 hA
noncomputable def spec_l02Give_F : DFn := fun args L =>
  match args with
  | [.agg [.int .i64 v674, .int .i64 v675, a1]] =>
    optT (rowF32 L a1) fun v676 =>
    .call (spec_l02Give_g v674 v675 v676) fun y => .sum y (fun y0 => .leaf (.tup [.agg [.int .i64 (0 : Int), .int .i64 (0 : Int), .nilslc], .lit false], L)) (fun z0 => .leaf (.tup [.agg [.int .i64 z0.1, .int .i64 z0.2, a1], .lit true], L))
  | _ => .fail
theorem spec_l02Give_Fok : COk Try.prog 93 spec_l02Give_F true := by
  intro F L H args r L' hs ha hr
  unfold spec_l02Give_F at hr
  split at hr
  · rename_i v674 v675 a1
    obtain ⟨v676, hv676, hr⟩ := optT_run hr
    simp only [Tree.run] at hr
    obtain ⟨y, hy, hr⟩ := Option.bind_eq_some_iff.1 hr
    cases y with
    | inl y =>
      simp only [Tree.run, Option.some.injEq, Prod.mk.injEq] at hr
      obtain ⟨rfl, rfl⟩ := hr
      exact call_ok0 hs (fun k => (([a1.av F] : List AV)[k]?).getD .top) [.agg [.int .i64 v674, .int .i64 v675, a1]] [.agg [.int .i64 v674, .int .i64 v675, .bslc (BR.root 0) (.f32 v676)]] (fun F' h0 hi hρ => ⟨by simp [DVs.av, DV.av, BR.av, hρ], spec_l02Give_fn v674 v675 v676 F' (by rw [hi]; rfl) (st_nil hi) ⟨⟨trivial, trivial, bslc_ok hi (by rw [h0, hρ]; exact rowF32_ok hs (DVs.okAt (DVs.okAt ha 0 rfl) 2 rfl) hv676), trivial⟩, trivial⟩ hy⟩) rfl
    | inr y =>
      simp only [Tree.run, Option.some.injEq, Prod.mk.injEq] at hr
      obtain ⟨rfl, rfl⟩ := hr
      exact call_al0 hs (fun k => (([a1.av F] : List AV)[k]?).getD .top) [.agg [.int .i64 v674, .int .i64 v675, a1]] [.agg [.int .i64 v674, .int .i64 v675, .bslc (BR.root 0) (.f32 v676)]] (fun F' h0 hi hρ => ⟨by simp [DVs.av, DV.av, BR.av, hρ], spec_l02Give_fn v674 v675 v676 F' (by rw [hi]; rfl) (st_nil hi) ⟨⟨trivial, trivial, bslc_ok hi (by rw [h0, hρ]; exact rowF32_ok hs (DVs.okAt (DVs.okAt ha 0 rfl) 2 rfl) hv676), trivial⟩, trivial⟩ hy⟩) (fun F' h0 hi hρ => by simp [spec_l02Give_enc, DVs.av, DV.av, BR.av, hρ]) ⟨⟨trivial, trivial, (DVs.okAt (DVs.okAt ha 0 rfl) 2 rfl), trivial⟩, trivial, trivial⟩
  · cases hr
/-! spec.l03Root -/
noncomputable def spec_l03Root_l4_T (v626 : Int) (v627 : Int) (v630 : Int) (v631 : Int) (v632 : List Nat) (s : Nat × Int) : Tree ((Nat × Int) ⊕ (Nat)) :=
  (.br (decide (s.2 < v627)) (
   (.call (spec_l02At_g v631 v632 v626 s.2) fun v633 =>
   (.call (spec_l02At_g v631 v632 v627 s.2) fun v634 =>
   .leaf (.inl (fsub .f32 s.1 (fmul .f32 v633 v634), IntKind.i64.wrap (s.2 + (1 : Int))))))
  ) (
   .leaf (.inr s.1)
  ))

noncomputable def spec_l03Root_l4_g (v626 : Int) (v627 : Int) (v630 : Int) (v631 : Int) (v632 : List Nat) (s0 : Nat × Int) : Option (Nat) := whileM (fun s => (spec_l03Root_l4_T v626 v627 v630 v631 v632 s).run) s0
def spec_l03Root_l4_E (v47 : Int) (v48 : Int) (v49 : List Nat) (v50 : Nat) (v626 : Int) (v627 : Int) (v630 : Int) (v631 : Int) (v632 : List Nat) (s : Nat × Int) : Sd := ([.bptr (BR.root 0) [.int .i64 v47, .int .i64 v48, .bslc (BR.root 1) (.f32 v49)], .flt .f32 v50, .top, .top, .ptr 0 (0 : Nat) 0 (3 : Nat), .top, .int .i64 v47, .ptr 1 (0 : Nat) 0 (3 : Nat), .int .i64 v626, .int .i64 v627, .flt .f32 s.1, .int .i64 s.2, .top, .top, .top, .top, .top, .top, .top, .top, .top, .top, .top, .top, .top, .top, .top, .top, .top, .top, .top, .top, .top, .top, .top, .top, .top, .top, .top, .top, .top, .top, .top, .top, .top, .top, .top, .top, .top, .top, .top, .top, .top, .top, .top, .top, .top, .top, .top, .top, .top, .top, .top, .top, .top, .top, .top, .top, .top, .top, .top, .top, .top, .top, .top, .top, .top, .top, .top], [.gen [.int .i64 (0 : Int), .int .i64 (0 : Int), .nilslc] false 0, .gen [.int .i64 v630, .int .i64 v631, .own 2 0 ((v632).length)] false 0, .row (.f32 v632) 0])
def spec_l03Root_l4_X (v47 : Int) (v48 : Int) (v49 : List Nat) (v50 : Nat) (v626 : Int) (v627 : Int) (v630 : Int) (v631 : Int) (v632 : List Nat) (x : Nat) : Out := (.normal, [.bptr (BR.root 0) [.int .i64 v47, .int .i64 v48, .bslc (BR.root 1) (.f32 v49)], .flt .f32 v50, .top, .top, .ptr 0 (0 : Nat) 0 (3 : Nat), .top, .int .i64 v47, .ptr 1 (0 : Nat) 0 (3 : Nat), .int .i64 v626, .int .i64 v627, .flt .f32 x, .top, .top, .top, .top, .top, .top, .top, .top, .top, .top, .top, .top, .top, .top, .top, .top, .top, .top, .top, .top, .top, .top, .top, .top, .top, .top, .top, .top, .top, .top, .top, .top, .top, .top, .top, .top, .top, .top, .top, .top, .top, .top, .top, .top, .top, .top, .top, .top, .top, .top, .top, .top, .top, .top, .top, .top, .top, .top, .top, .top, .top, .top, .top, .top, .top, .top, .top, .top], [.gen [.int .i64 (0 : Int), .int .i64 (0 : Int), .nilslc] false 0, .gen [.int .i64 v630, .int .i64 v631, .own 2 0 ((v632).length)] false 0, .row (.f32 v632) 0])
def spec_l03Root_l4_kill : List Nat := [0, 0, 1, 1, 0, 1, 0, 0, 0, 0, 0, 0, 1, 1, 1, 1, 1, 1, 1, 1, 1, 1, 1, 1, 1, 1, 1, 1, 1, 1, 1, 1, 1, 1, 1, 1, 1, 1, 1, 1, 1, 1, 1, 1, 1, 1, 1, 1, 1, 1, 1, 1, 1, 1, 1, 1, 1, 1, 1, 1, 1, 1, 1, 1, 1, 1, 1, 1, 1, 1, 1, 1, 1, 1, 1, 1, 1, 1, 1]
def spec_l03Root_l4_nx : Exit → List Nat
  | .exit 0 => [1, 1, 1, 1, 0, 1, 1, 0, 1, 1, 1, 1, 1, 1, 1, 1, 1, 1, 1, 1, 1, 1, 1, 1, 1, 1, 1, 1, 1, 1, 1, 1, 1, 1, 1, 1, 1, 1, 1, 1, 1, 1, 1, 1, 1, 1, 1, 1, 1, 1, 1, 1, 1, 1, 1, 1, 1, 1, 1, 1, 1, 1, 1, 1, 1, 1, 1, 1, 1, 1, 1, 1, 1, 1, 1, 1, 1, 1, 1]
  | .exit 1 => [0, 0, 1, 1, 0, 1, 0, 0, 0, 1, 1, 1, 1, 1, 1, 1, 1, 1, 1, 1, 1, 1, 1, 1, 1, 1, 1, 1, 1, 1, 1, 1, 1, 1, 1, 1, 1, 1, 1, 1, 1, 1, 1, 1, 1, 1, 1, 1, 1, 1, 1, 1, 1, 1, 1, 1, 1, 1, 1, 1, 1, 1, 1, 1, 1, 1, 1, 1, 1, 1, 1, 1, 1, 1, 1, 1, 1, 1, 1]
  | .exit 2 => [0, 0, 1, 1, 0, 1, 0, 0, 0, 1, 1, 1, 1, 1, 1, 1, 1, 1, 1, 1, 1, 1, 1, 1, 1, 1, 1, 1, 1, 1, 1, 1, 1, 1, 1, 1, 1, 1, 1, 1, 1, 1, 1, 1, 1, 1, 1, 1, 1, 1, 1, 1, 1, 1, 1, 1, 1, 1, 1, 1, 1, 1, 1, 1, 1, 1, 1, 1, 1, 1, 1, 1, 1, 1, 1, 1, 1, 1, 1]
  | .exit 3 => [0, 0, 1, 1, 0, 1, 0, 0, 0, 0, 1, 1, 1, 1, 1, 1, 1, 1, 1, 1, 1, 1, 1, 1, 1, 1, 1, 1, 1, 1, 1, 1, 1, 1, 1, 1, 1, 1, 1, 1, 1, 1, 1, 1, 1, 1, 1, 1, 1, 1, 1, 1, 1, 1, 1, 1, 1, 1, 1, 1, 1, 1, 1, 1, 1, 1, 1, 1, 1, 1, 1, 1, 1, 1, 1, 1, 1, 1, 1]
  | .exit 4 => [0, 0, 1, 1, 0, 1, 0, 0, 0, 0, 0, 1, 1, 1, 1, 1, 1, 1, 1, 1, 1, 1, 1, 1, 1, 1, 1, 1, 1, 1, 1, 1, 1, 1, 1, 1, 1, 1, 1, 1, 1, 1, 1, 1, 1, 1, 1, 1, 1, 1, 1, 1, 1, 1, 1, 1, 1, 1, 1, 1, 1, 1, 1, 1, 1, 1, 1, 1, 1, 1, 1, 1, 1, 1, 1, 1, 1, 1, 1]
  | .ret => [1, 1, 1, 1, 0, 0, 1, 1, 1, 1, 1, 1, 1, 1, 1, 1, 1, 1, 1, 1, 1, 1, 1, 1, 1, 1, 1, 1, 1, 1, 1, 1, 1, 1, 1, 1, 1, 1, 1, 1, 1, 1, 1, 1, 1, 1, 1, 1, 1, 1, 1, 1, 1, 1, 1, 1, 1, 1, 1, 1, 1, 1, 1, 1, 1, 1, 1, 1, 1, 1, 1, 1, 1, 1, 1, 1, 1, 1, 1]
  | _ => []
noncomputable def spec_l03Root_l2_T (v47 : Int) (v48 : Int) (v49 : List Nat) (v50 : Nat) (v602 : Int) (v604 : Int) (v605 : Int) (s : Int × (List Nat)) : Tree ((Int × (List Nat)) ⊕ ((Unit) ⊕ ((List Nat)))) :=
  (.br (decide (s.1 ≤ v602)) (
   (.call (spec_l02At_g v48 v49 v602 s.1) fun v607 =>
   (.br (decide (v602 = s.1)) (
    (.need (some (spec_l03Root_l4_E v47 v48 v49 v50 v602 s.1 v604 v605 s.2 (fadd .f32 v607 v50, (0 : Int))) = some (spec_l03Root_l4_E v47 v48 v49 v50 v602 s.1 v604 v605 s.2 (fadd .f32 v607 v50, (0 : Int)))) <|
    (.call (spec_l03Root_l4_g v602 s.1 v604 v605 s.2 (fadd .f32 v607 v50, (0 : Int))) fun v635 =>
    (.br (decide (s.1 < v602)) (
     (.call (spec_l02At_g v605 s.2 s.1 s.1) fun v636 =>
     (.grd (inb (IntKind.i64.wrap ((IntKind.i64.wrap (v602 * v47)) + s.1)) ((s.2).length)) <|
     .leaf (.inl (IntKind.i64.wrap (s.1 + (1 : Int)), List.set s.2 (Int.toNat (IntKind.i64.wrap ((IntKind.i64.wrap (v602 * v47)) + s.1))) (fdiv .f32 v635 v636)))))
    ) (
     (.br (fgrt .f32 v635 (0 : Nat)) (
      (.call (spec_l01Sqrt_g v635) fun v637 =>
      (.grd (inb (IntKind.i64.wrap ((IntKind.i64.wrap (v602 * v47)) + s.1)) ((s.2).length)) <|
      .leaf (.inl (IntKind.i64.wrap (s.1 + (1 : Int)), List.set s.2 (Int.toNat (IntKind.i64.wrap ((IntKind.i64.wrap (v602 * v47)) + s.1))) v637))))
     ) (
      .leaf (.inr (.inl ()))
     ))
    ))))
   ) (
    (.need (some (spec_l03Root_l4_E v47 v48 v49 v50 v602 s.1 v604 v605 s.2 (v607, (0 : Int))) = some (spec_l03Root_l4_E v47 v48 v49 v50 v602 s.1 v604 v605 s.2 (v607, (0 : Int)))) <|
    (.call (spec_l03Root_l4_g v602 s.1 v604 v605 s.2 (v607, (0 : Int))) fun v665 =>
    (.br (decide (s.1 < v602)) (
     (.call (spec_l02At_g v605 s.2 s.1 s.1) fun v666 =>
     (.grd (inb (IntKind.i64.wrap ((IntKind.i64.wrap (v602 * v47)) + s.1)) ((s.2).length)) <|
     .leaf (.inl (IntKind.i64.wrap (s.1 + (1 : Int)), List.set s.2 (Int.toNat (IntKind.i64.wrap ((IntKind.i64.wrap (v602 * v47)) + s.1))) (fdiv .f32 v665 v666)))))
    ) (
     (.br (fgrt .f32 v665 (0 : Nat)) (
      (.call (spec_l01Sqrt_g v665) fun v667 =>
      (.grd (inb (IntKind.i64.wrap ((IntKind.i64.wrap (v602 * v47)) + s.1)) ((s.2).length)) <|
      .leaf (.inl (IntKind.i64.wrap (s.1 + (1 : Int)), List.set s.2 (Int.toNat (IntKind.i64.wrap ((IntKind.i64.wrap (v602 * v47)) + s.1))) v667))))
     ) (
      .leaf (.inr (.inl ()))
     ))
    ))))
   )))
  ) (
   .leaf (.inr (.inr s.2))
  ))

noncomputable def spec_l03Root_l2_g (v47 : Int) (v48 : Int) (v49 : List Nat) (v50 : Nat) (v602 : Int) (v604 : Int) (v605 : Int) (s0 : Int × (List Nat)) : Option ((Unit) ⊕ ((List Nat))) := whileM (fun s => (spec_l03Root_l2_T v47 v48 v49 v50 v602 v604 v605 s).run) s0
def spec_l03Root_l2_E (v47 : Int) (v48 : Int) (v49 : List Nat) (v50 : Nat) (v602 : Int) (v604 : Int) (v605 : Int) (s : Int × (List Nat)) : Sd := ([.bptr (BR.root 0) [.int .i64 v47, .int .i64 v48, .bslc (BR.root 1) (.f32 v49)], .flt .f32 v50, .top, .top, .ptr 0 (0 : Nat) 0 (3 : Nat), .top, .int .i64 v47, .ptr 1 (0 : Nat) 0 (3 : Nat), .int .i64 v602, .int .i64 s.1, .top, .top, .top, .top, .top, .top, .top, .top, .top, .top, .top, .top, .top, .top, .top, .top, .top, .top, .top, .top, .top, .top, .top, .top, .top, .top, .top, .top, .top, .top, .top, .top, .top, .top, .top, .top, .top, .top, .top, .top, .top, .top, .top, .top, .top, .top, .top, .top, .top, .top, .top, .top, .top, .top, .top, .top, .top, .top, .top, .top, .top, .top, .top, .top, .top, .top, .top, .top, .top], [.gen [.int .i64 (0 : Int), .int .i64 (0 : Int), .nilslc] false 0, .gen [.int .i64 v604, .int .i64 v605, .own 2 0 ((s.2).length)] false 0, .row (.f32 s.2) 0])
def spec_l03Root_l2_X (v47 : Int) (v48 : Int) (v49 : List Nat) (v50 : Nat) (v602 : Int) (v604 : Int) (v605 : Int) (x : (Unit) ⊕ ((List Nat))) : Out := (match x with | .inl x => (.ret, [.top, .top, .top, .top, .ptr 0 (0 : Nat) 0 (3 : Nat), .lit false, .top, .top, .top, .top, .top, .top, .top, .top, .top, .top, .top, .top, .top, .top, .top, .top, .top, .top, .top, .top, .top, .top, .top, .top, .top, .top, .top, .top, .top, .top, .top, .top, .top, .top, .top, .top, .top, .top, .top, .top, .top, .top, .top, .top, .top, .top, .top, .top, .top, .top, .top, .top, .top, .top, .top, .top, .top, .top, .top, .top, .top, .top, .top, .top, .top, .top, .top, .top, .top, .top, .top, .top, .top], [.gen [.int .i64 (0 : Int), .int .i64 (0 : Int), .nilslc] false 0]) | .inr x => (.normal, [.bptr (BR.root 0) [.int .i64 v47, .int .i64 v48, .bslc (BR.root 1) (.f32 v49)], .flt .f32 v50, .top, .top, .ptr 0 (0 : Nat) 0 (3 : Nat), .top, .int .i64 v47, .ptr 1 (0 : Nat) 0 (3 : Nat), .int .i64 v602, .top, .top, .top, .top, .top, .top, .top, .top, .top, .top, .top, .top, .top, .top, .top, .top, .top, .top, .top, .top, .top, .top, .top, .top, .top, .top, .top, .top, .top, .top, .top, .top, .top, .top, .top, .top, .top, .top, .top, .top, .top, .top, .top, .top, .top, .top, .top, .top, .top, .top, .top, .top, .top, .top, .top, .top, .top, .top, .top, .top, .top, .top, .top, .top, .top, .top, .top, .top, .top, .top], [.gen [.int .i64 (0 : Int), .int .i64 (0 : Int), .nilslc] false 0, .gen [.int .i64 v604, .int .i64 v605, .own 2 0 ((x).length)] false 0, .row (.f32 x) 0]))
def spec_l03Root_l2_kill : List Nat := [0, 0, 1, 1, 0, 1, 0, 0, 0, 0, 1, 1, 1, 1, 1, 1, 1, 1, 1, 1, 1, 1, 1, 1, 1, 1, 1, 1, 1, 1, 1, 1, 1, 1, 1, 1, 1, 1, 1, 1, 1, 1, 1, 1, 1, 1, 1, 1, 1, 1, 1, 1, 1, 1, 1, 1, 1, 1, 1, 1, 1, 1, 1, 1, 1, 1, 1, 1, 1, 1, 1, 1, 1, 1, 1, 1, 1, 1, 1]
def spec_l03Root_l2_nx : Exit → List Nat
  | .exit 0 => [1, 1, 1, 1, 0, 1, 1, 0, 1, 1, 1, 1, 1, 1, 1, 1, 1, 1, 1, 1, 1, 1, 1, 1, 1, 1, 1, 1, 1, 1, 1, 1, 1, 1, 1, 1, 1, 1, 1, 1, 1, 1, 1, 1, 1, 1, 1, 1, 1, 1, 1, 1, 1, 1, 1, 1, 1, 1, 1, 1, 1, 1, 1, 1, 1, 1, 1, 1, 1, 1, 1, 1, 1, 1, 1, 1, 1, 1, 1]
  | .exit 1 => [0, 0, 1, 1, 0, 1, 0, 0, 0, 1, 1, 1, 1, 1, 1, 1, 1, 1, 1, 1, 1, 1, 1, 1, 1, 1, 1, 1, 1, 1, 1, 1, 1, 1, 1, 1, 1, 1, 1, 1, 1, 1, 1, 1, 1, 1, 1, 1, 1, 1, 1, 1, 1, 1, 1, 1, 1, 1, 1, 1, 1, 1, 1, 1, 1, 1, 1, 1, 1, 1, 1, 1, 1, 1, 1, 1, 1, 1, 1]
  | .exit 2 => [0, 0, 1, 1, 0, 1, 0, 0, 0, 1, 1, 1, 1, 1, 1, 1, 1, 1, 1, 1, 1, 1, 1, 1, 1, 1, 1, 1, 1, 1, 1, 1, 1, 1, 1, 1, 1, 1, 1, 1, 1, 1, 1, 1, 1, 1, 1, 1, 1, 1, 1, 1, 1, 1, 1, 1, 1, 1, 1, 1, 1, 1, 1, 1, 1, 1, 1, 1, 1, 1, 1, 1, 1, 1, 1, 1, 1, 1, 1]
  | .ret => [1, 1, 1, 1, 0, 0, 1, 1, 1, 1, 1, 1, 1, 1, 1, 1, 1, 1, 1, 1, 1, 1, 1, 1, 1, 1, 1, 1, 1, 1, 1, 1, 1, 1, 1, 1, 1, 1, 1, 1, 1, 1, 1, 1, 1, 1, 1, 1, 1, 1, 1, 1, 1, 1, 1, 1, 1, 1, 1, 1, 1, 1, 1, 1, 1, 1, 1, 1, 1, 1, 1, 1, 1, 1, 1, 1, 1, 1, 1]
  | _ => []
noncomputable def spec_l03Root_l0_T (v47 : Int) (v48 : Int) (v49 : List Nat) (v50 : Nat) (v467 : Int) (v468 : Int) (s : Int × (List Nat)) : Tree ((Int × (List Nat)) ⊕ ((Unit) ⊕ ((List Nat)))) :=
  (.br (decide (s.1 < v47)) (
   (.need (some (spec_l03Root_l2_E v47 v48 v49 v50 s.1 v467 v468 ((0 : Int), s.2)) = some (spec_l03Root_l2_E v47 v48 v49 v50 s.1 v467 v468 ((0 : Int), s.2))) <|
   (.call (spec_l03Root_l2_g v47 v48 v49 v50 s.1 v467 v468 ((0 : Int), s.2)) fun v668 =>
   (.sum v668 (fun v669 =>
    .leaf (.inr (.inl ()))
   ) (fun v670 =>
    .leaf (.inl (IntKind.i64.wrap (s.1 + (1 : Int)), v670))
   ))))
  ) (
   .leaf (.inr (.inr s.2))
  ))

noncomputable def spec_l03Root_l0_g (v47 : Int) (v48 : Int) (v49 : List Nat) (v50 : Nat) (v467 : Int) (v468 : Int) (s0 : Int × (List Nat)) : Option ((Unit) ⊕ ((List Nat))) := whileM (fun s => (spec_l03Root_l0_T v47 v48 v49 v50 v467 v468 s).run) s0
def spec_l03Root_l0_E (v47 : Int) (v48 : Int) (v49 : List Nat) (v50 : Nat) (v467 : Int) (v468 : Int) (s : Int × (List Nat)) : Sd := ([.bptr (BR.root 0) [.int .i64 v47, .int .i64 v48, .bslc (BR.root 1) (.f32 v49)], .flt .f32 v50, .top, .top, .ptr 0 (0 : Nat) 0 (3 : Nat), .top, .int .i64 v47, .ptr 1 (0 : Nat) 0 (3 : Nat), .int .i64 s.1, .top, .top, .top, .top, .top, .top, .top, .top, .top, .top, .top, .top, .top, .top, .top, .top, .top, .top, .top, .top, .top, .top, .top, .top, .top, .top, .top, .top, .top, .top, .top, .top, .top, .top, .top, .top, .top, .top, .top, .top, .top, .top, .top, .top, .top, .top, .top, .top, .top, .top, .top, .top, .top, .top, .top, .top, .top, .top, .top, .top, .top, .top, .top, .top, .top, .top, .top, .top, .top, .top], [.gen [.int .i64 (0 : Int), .int .i64 (0 : Int), .nilslc] false 0, .gen [.int .i64 v467, .int .i64 v468, .own 2 0 ((s.2).length)] false 0, .row (.f32 s.2) 0])
def spec_l03Root_l0_X (v47 : Int) (v48 : Int) (v49 : List Nat) (v50 : Nat) (v467 : Int) (v468 : Int) (x : (Unit) ⊕ ((List Nat))) : Out := (match x with | .inl x => (.ret, [.top, .top, .top, .top, .ptr 0 (0 : Nat) 0 (3 : Nat), .lit false, .top, .top, .top, .top, .top, .top, .top, .top, .top, .top, .top, .top, .top, .top, .top, .top, .top, .top, .top, .top, .top, .top, .top, .top, .top, .top, .top, .top, .top, .top, .top, .top, .top, .top, .top, .top, .top, .top, .top, .top, .top, .top, .top, .top, .top, .top, .top, .top, .top, .top, .top, .top, .top, .top, .top, .top, .top, .top, .top, .top, .top, .top, .top, .top, .top, .top, .top, .top, .top, .top, .top, .top, .top], [.gen [.int .i64 (0 : Int), .int .i64 (0 : Int), .nilslc] false 0]) | .inr x => (.normal, [.top, .top, .top, .top, .ptr 0 (0 : Nat) 0 (3 : Nat), .top, .top, .ptr 1 (0 : Nat) 0 (3 : Nat), .top, .top, .top, .top, .top, .top, .top, .top, .top, .top, .top, .top, .top, .top, .top, .top, .top, .top, .top, .top, .top, .top, .top, .top, .top, .top, .top, .top, .top, .top, .top, .top, .top, .top, .top, .top, .top, .top, .top, .top, .top, .top, .top, .top, .top, .top, .top, .top, .top, .top, .top, .top, .top, .top, .top, .top, .top, .top, .top, .top, .top, .top, .top, .top, .top, .top, .top, .top, .top, .top, .top], [.gen [.int .i64 (0 : Int), .int .i64 (0 : Int), .nilslc] false 0, .gen [.int .i64 v467, .int .i64 v468, .own 2 0 ((x).length)] false 0, .row (.f32 x) 0]))
def spec_l03Root_l0_kill : List Nat := [0, 0, 1, 1, 0, 1, 0, 0, 0, 1, 1, 1, 1, 1, 1, 1, 1, 1, 1, 1, 1, 1, 1, 1, 1, 1, 1, 1, 1, 1, 1, 1, 1, 1, 1, 1, 1, 1, 1, 1, 1, 1, 1, 1, 1, 1, 1, 1, 1, 1, 1, 1, 1, 1, 1, 1, 1, 1, 1, 1, 1, 1, 1, 1, 1, 1, 1, 1, 1, 1, 1, 1, 1, 1, 1, 1, 1, 1, 1]
def spec_l03Root_l0_nx : Exit → List Nat
  | .exit 0 => [1, 1, 1, 1, 0, 1, 1, 0, 1, 1, 1, 1, 1, 1, 1, 1, 1, 1, 1, 1, 1, 1, 1, 1, 1, 1, 1, 1, 1, 1, 1, 1, 1, 1, 1, 1, 1, 1, 1, 1, 1, 1, 1, 1, 1, 1, 1, 1, 1, 1, 1, 1, 1, 1, 1, 1, 1, 1, 1, 1, 1, 1, 1, 1, 1, 1, 1, 1, 1, 1, 1, 1, 1, 1, 1, 1, 1, 1, 1]
  | .ret => [1, 1, 1, 1, 0, 0, 1, 1, 1, 1, 1, 1, 1, 1, 1, 1, 1, 1, 1, 1, 1, 1, 1, 1, 1, 1, 1, 1, 1, 1, 1, 1, 1, 1, 1, 1, 1, 1, 1, 1, 1, 1, 1, 1, 1, 1, 1, 1, 1, 1, 1, 1, 1, 1, 1, 1, 1, 1, 1, 1, 1, 1, 1, 1, 1, 1, 1, 1, 1, 1, 1, 1, 1, 1, 1, 1, 1, 1, 1]
  | _ => []
noncomputable def spec_l03Root_LO (v47 : Int) (v48 : Int) (v49 : List Nat) (v50 : Nat) : LOr := fun id e L =>
  match id with
  | 4 => .need (normA 0 spec_l03Root_l4_kill e L = some (spec_l03Root_l4_E v47 v48 v49 v50 (gI (vAt e 8)) (gI (vAt e 9)) (gI (cAt L (vAt e 7) 0)) (gI (cAt L (vAt e 7) 1)) (gRF L (cAt L (vAt e 7) 2)) ((gF (vAt e 10)), (gI (vAt e 11))))) (.call (spec_l03Root_l4_g (gI (vAt e 8)) (gI (vAt e 9)) (gI (cAt L (vAt e 7) 0)) (gI (cAt L (vAt e 7) 1)) (gRF L (cAt L (vAt e 7) 2)) ((gF (vAt e 10)), (gI (vAt e 11)))) fun x => .leaf (spec_l03Root_l4_X v47 v48 v49 v50 (gI (vAt e 8)) (gI (vAt e 9)) (gI (cAt L (vAt e 7) 0)) (gI (cAt L (vAt e 7) 1)) (gRF L (cAt L (vAt e 7) 2)) x))
  | 2 => .need (normA 0 spec_l03Root_l2_kill e L = some (spec_l03Root_l2_E v47 v48 v49 v50 (gI (vAt e 8)) (gI (cAt L (vAt e 7) 0)) (gI (cAt L (vAt e 7) 1)) ((gI (vAt e 9)), (gRF L (cAt L (vAt e 7) 2))))) (.call (spec_l03Root_l2_g v47 v48 v49 v50 (gI (vAt e 8)) (gI (cAt L (vAt e 7) 0)) (gI (cAt L (vAt e 7) 1)) ((gI (vAt e 9)), (gRF L (cAt L (vAt e 7) 2)))) fun x => .sum x (fun b0 => .leaf (spec_l03Root_l2_X v47 v48 v49 v50 (gI (vAt e 8)) (gI (cAt L (vAt e 7) 0)) (gI (cAt L (vAt e 7) 1)) (.inl b0))) (fun c0 => .leaf (spec_l03Root_l2_X v47 v48 v49 v50 (gI (vAt e 8)) (gI (cAt L (vAt e 7) 0)) (gI (cAt L (vAt e 7) 1)) (.inr c0))))
  | 0 => .need (normA 0 spec_l03Root_l0_kill e L = some (spec_l03Root_l0_E v47 v48 v49 v50 (gI (cAt L (vAt e 7) 0)) (gI (cAt L (vAt e 7) 1)) ((gI (vAt e 8)), (gRF L (cAt L (vAt e 7) 2))))) (.call (spec_l03Root_l0_g v47 v48 v49 v50 (gI (cAt L (vAt e 7) 0)) (gI (cAt L (vAt e 7) 1)) ((gI (vAt e 8)), (gRF L (cAt L (vAt e 7) 2)))) fun x => .sum x (fun b0 => .leaf (spec_l03Root_l0_X v47 v48 v49 v50 (gI (cAt L (vAt e 7) 0)) (gI (cAt L (vAt e 7) 1)) (.inl b0))) (fun c0 => .leaf (spec_l03Root_l0_X v47 v48 v49 v50 (gI (cAt L (vAt e 7) 0)) (gI (cAt L (vAt e 7) 1)) (.inr c0))))
  | _ => .fail
noncomputable def spec_l03Root_tab : List (FuncId × DFn × Bool) := [(115, spec_l02Zero_F, true), (116, spec_l02At_F, true), (104, spec_l01Sqrt_F, true), (93, spec_l02Give_F, true)]
theorem spec_l03Root_hO : OrcOk Try.prog (tabD spec_l03Root_tab) (tabM spec_l03Root_tab) := tabD_cons spec_l02Zero_Fok (tabD_cons spec_l02At_Fok (tabD_cons spec_l01Sqrt_Fok (tabD_cons spec_l02Give_Fok (tabD_nil _))))
theorem spec_l03Root_l4_be (v47 : Int) (v48 : Int) (v49 : List Nat) (v50 : Nat) (v626 : Int) (v627 : Int) (v630 : Int) (v631 : Int) (v632 : List Nat) (s : Nat × Int) : bodyT TT (tabD spec_l03Root_tab) (tabM spec_l03Root_tab) (spec_l03Root_LO v47 v48 v49 v50) 0 spec_l03Root_l4_kill spec_l03Root_l4_nx (bodyOf Try.f46 4) 4 (spec_l03Root_l4_E v47 v48 v49 v50 v626 v627 v630 v631 v632 s) = (spec_l03Root_l4_T v626 v627 v630 v631 v632 s).bind fun y => .leaf (outS (spec_l03Root_l4_E v47 v48 v49 v50 v626 v627 v630 v631 v632) (spec_l03Root_l4_X v47 v48 v49 v50 v626 v627 v630 v631 v632) y) := by kernel_rfl
theorem spec_l03Root_l4_ok (v47 : Int) (v48 : Int) (v49 : List Nat) (v50 : Nat) : LSound Try.prog 0 (spec_l03Root_LO v47 v48 v49 v50) 4 (bodyOf Try.f46 4) := by
  intro e L out h
  exact lo_ok (E := spec_l03Root_l4_E v47 v48 v49 v50 (gI (vAt e 8)) (gI (vAt e 9)) (gI (cAt L (vAt e 7) 0)) (gI (cAt L (vAt e 7) 1)) (gRF L (cAt L (vAt e 7) 2))) (gT := spec_l03Root_l4_T (gI (vAt e 8)) (gI (vAt e 9)) (gI (cAt L (vAt e 7) 0)) (gI (cAt L (vAt e 7) 1)) (gRF L (cAt L (vAt e 7) 2))) (X := spec_l03Root_l4_X v47 v48 v49 v50 (gI (vAt e 8)) (gI (vAt e 9)) (gI (cAt L (vAt e 7) 0)) (gI (cAt L (vAt e 7) 1)) (gRF L (cAt L (vAt e 7) 2))) (s0 := ((gF (vAt e 10)), (gI (vAt e 11)))) tok spec_l03Root_hO mixed (LoopsOk_eq (l := []) (by kernel_rfl) trivial) (spec_l03Root_l4_be v47 v48 v49 v50 (gI (vAt e 8)) (gI (vAt e 9)) (gI (cAt L (vAt e 7) 0)) (gI (cAt L (vAt e 7) 1)) (gRF L (cAt L (vAt e 7) 2))) rfl (by intro x; rfl) h
theorem spec_l03Root_l2_be (v47 : Int) (v48 : Int) (v49 : List Nat) (v50 : Nat) (v602 : Int) (v604 : Int) (v605 : Int) (s : Int × (List Nat)) : bodyT TT (tabD spec_l03Root_tab) (tabM spec_l03Root_tab) (spec_l03Root_LO v47 v48 v49 v50) 0 spec_l03Root_l2_kill spec_l03Root_l2_nx (bodyOf Try.f46 2) 2 (spec_l03Root_l2_E v47 v48 v49 v50 v602 v604 v605 s) = (spec_l03Root_l2_T v47 v48 v49 v50 v602 v604 v605 s).bind fun y => .leaf (outS (spec_l03Root_l2_E v47 v48 v49 v50 v602 v604 v605) (spec_l03Root_l2_X v47 v48 v49 v50 v602 v604 v605) y) := by kernel_rfl
theorem spec_l03Root_l2_ok (v47 : Int) (v48 : Int) (v49 : List Nat) (v50 : Nat) : LSound Try.prog 0 (spec_l03Root_LO v47 v48 v49 v50) 2 (bodyOf Try.f46 2) := by
  intro e L out h
  exact lo_ok (E := spec_l03Root_l2_E v47 v48 v49 v50 (gI (vAt e 8)) (gI (cAt L (vAt e 7) 0)) (gI (cAt L (vAt e 7) 1))) (gT := spec_l03Root_l2_T v47 v48 v49 v50 (gI (vAt e 8)) (gI (cAt L (vAt e 7) 0)) (gI (cAt L (vAt e 7) 1))) (X := spec_l03Root_l2_X v47 v48 v49 v50 (gI (vAt e 8)) (gI (cAt L (vAt e 7) 0)) (gI (cAt L (vAt e 7) 1))) (s0 := ((gI (vAt e 9)), (gRF L (cAt L (vAt e 7) 2)))) tok spec_l03Root_hO mixed (LoopsOk_eq (l := [(4, bodyOf Try.f46 4)]) (by kernel_rfl) ⟨spec_l03Root_l4_ok v47 v48 v49 v50, trivial⟩) (spec_l03Root_l2_be v47 v48 v49 v50 (gI (vAt e 8)) (gI (cAt L (vAt e 7) 0)) (gI (cAt L (vAt e 7) 1))) rfl (by intro x; (cases x with | inl b => rfl | inr x => exact rfl)) h
theorem spec_l03Root_l0_be (v47 : Int) (v48 : Int) (v49 : List Nat) (v50 : Nat) (v467 : Int) (v468 : Int) (s : Int × (List Nat)) : bodyT TT (tabD spec_l03Root_tab) (tabM spec_l03Root_tab) (spec_l03Root_LO v47 v48 v49 v50) 0 spec_l03Root_l0_kill spec_l03Root_l0_nx (bodyOf Try.f46 0) 0 (spec_l03Root_l0_E v47 v48 v49 v50 v467 v468 s) = (spec_l03Root_l0_T v47 v48 v49 v50 v467 v468 s).bind fun y => .leaf (outS (spec_l03Root_l0_E v47 v48 v49 v50 v467 v468) (spec_l03Root_l0_X v47 v48 v49 v50 v467 v468) y) := by kernel_rfl
theorem spec_l03Root_l0_ok (v47 : Int) (v48 : Int) (v49 : List Nat) (v50 : Nat) : LSound Try.prog 0 (spec_l03Root_LO v47 v48 v49 v50) 0 (bodyOf Try.f46 0) := by
  intro e L out h
  exact lo_ok (E := spec_l03Root_l0_E v47 v48 v49 v50 (gI (cAt L (vAt e 7) 0)) (gI (cAt L (vAt e 7) 1))) (gT := spec_l03Root_l0_T v47 v48 v49 v50 (gI (cAt L (vAt e 7) 0)) (gI (cAt L (vAt e 7) 1))) (X := spec_l03Root_l0_X v47 v48 v49 v50 (gI (cAt L (vAt e 7) 0)) (gI (cAt L (vAt e 7) 1))) (s0 := ((gI (vAt e 8)), (gRF L (cAt L (vAt e 7) 2)))) tok spec_l03Root_hO mixed (LoopsOk_eq (l := [(2, bodyOf Try.f46 2)]) (by kernel_rfl) ⟨spec_l03Root_l2_ok v47 v48 v49 v50, trivial⟩) (spec_l03Root_l0_be v47 v48 v49 v50 (gI (cAt L (vAt e 7) 0)) (gI (cAt L (vAt e 7) 1))) rfl (by intro x; (cases x with | inl b => rfl | inr x => exact rfl)) h
noncomputable def spec_l03Root_T (v47 : Int) (v48 : Int) (v49 : List Nat) (v50 : Nat) : Tree ((Unit) ⊕ (Int × Int × (List Nat))) :=
  (.call (spec_l02Zero_g v47 v47) fun v53 =>
  (.need (some (spec_l03Root_l0_E v47 v48 v49 v50 v53.1 v53.2 ((0 : Int), List.replicate (Int.toNat (IntKind.i64.wrap (v47 * v47))) (0 : Nat))) = some (spec_l03Root_l0_E v47 v48 v49 v50 v53.1 v53.2 ((0 : Int), List.replicate (Int.toNat (IntKind.i64.wrap (v47 * v47))) (0 : Nat)))) <|
  (.call (spec_l03Root_l0_g v47 v48 v49 v50 v53.1 v53.2 ((0 : Int), List.replicate (Int.toNat (IntKind.i64.wrap (v47 * v47))) (0 : Nat))) fun v671 =>
  (.sum v671 (fun v672 =>
   .leaf (.inl ())
  ) (fun v673 =>
   (.call (spec_l02Give_g v53.1 v53.2 v673) fun v678 =>
   (.sum v678 (fun v679 =>
    .leaf (.inl ())
   ) (fun v680 =>
    .leaf (.inr (v680.1, v680.2, v673))
   )))
  )))))

noncomputable def spec_l03Root_g (v47 : Int) (v48 : Int) (v49 : List Nat) (v50 : Nat) : Option ((Unit) ⊕ (Int × Int × (List Nat))) := (spec_l03Root_T v47 v48 v49 v50).run
def spec_l03Root_enc (v47 : Int) (v48 : Int) (v49 : List Nat) (v50 : Nat) (y : (Unit) ⊕ (Int × Int × (List Nat))) : Rs := (match y with | .inl y => (.tup [.agg [.int .i64 (0 : Int), .int .i64 (0 : Int), .nilslc], .lit false], []) | .inr y => (.tup [.agg [.int .i64 y.1, .int .i64 y.2.1, .own 0 0 ((y.2.2).length)], .lit true], [.row (.f32 y.2.2) 0]))
theorem spec_l03Root_den (v47 : Int) (v48 : Int) (v49 : List Nat) (v50 : Nat) : (den TT (tabD spec_l03Root_tab) (tabM spec_l03Root_tab) (spec_l03Root_LO v47 v48 v49 v50) (codeOf Try.f46) ([.bptr (BR.root 0) [.int .i64 v47, .int .i64 v48, .bslc (BR.root 1) (.f32 v49)], .flt .f32 v50] ++ List.replicate (Try.f46.ntmps - ([.bptr (BR.root 0) [.int .i64 v47, .int .i64 v48, .bslc (BR.root 1) (.f32 v49)], .flt .f32 v50] : List DV).length) .undef) []).bind (retD TT Try.f46.results.toList 0) = (spec_l03Root_T v47 v48 v49 v50).bind fun y => .leaf (spec_l03Root_enc v47 v48 v49 v50 y) := by kernel_rfl
theorem spec_l03Root_fn (v47 : Int) (v48 : Int) (v49 : List Nat) (v50 : Nat) (F : Fr) (hm : F.ids.length = 0) (h0 : St F [] F.H0) (hA : DVs.Ok F [] [.bptr (BR.root 0) [.int .i64 v47, .int .i64 v48, .bslc (BR.root 1) (.f32 v49)], .flt .f32 v50]) {y : (Unit) ⊕ (Int × Int × (List Nat))} (hy : spec_l03Root_g v47 v48 v49 v50 = some y) : ∃ H', FnOk Try.prog 46 (DVs.av F [.bptr (BR.root 0) [.int .i64 v47, .int .i64 v48, .bslc (BR.root 1) (.f32 v49)], .flt .f32 v50]) F.H0 ((spec_l03Root_enc v47 v48 v49 v50 y).1.av F) H' ∧ St F (spec_l03Root_enc v47 v48 v49 v50 y).2 H' ∧ (spec_l03Root_enc v47 v48 v49 v50 y).1.Ok F (spec_l03Root_enc v47 v48 v49 v50 y).2 :=
  fn_fin tok spec_l03Root_hO mixed Try.func46 Try.call46 (by kernel_rfl) (LoopsOk_eq (l := [(0, bodyOf Try.f46 0)]) (by kernel_rfl) ⟨spec_l03Root_l0_ok v47 v48 v49 v50, trivial⟩) (spec_l03Root_den v47 v48 v49 v50) hy hm h0 hA
noncomputable def spec_l03Root_F : DFn := fun args L =>
  match args with
  | [a1, .flt .f32 v50] =>
    optT (cellsOf L 3 a1) fun cs0 =>
    (match cs0 with
    | [.int .i64 v47, .int .i64 v48, a2] =>
    optT (rowF32 L a2) fun v49 =>
    .call (spec_l03Root_g v47 v48 v49 v50) fun y => .sum y (fun y0 => .leaf (.tup [.agg [.int .i64 (0 : Int), .int .i64 (0 : Int), .nilslc], .lit false], L)) (fun z0 => .leaf (.tup [.agg [.int .i64 z0.1, .int .i64 z0.2.1, .own (L.length + 0) 0 ((z0.2.2).length)], .lit true], L ++ [.row (.f32 z0.2.2) 0]))
    | _ => .fail)
  | _ => .fail
theorem spec_l03Root_Fok : COk Try.prog 46 spec_l03Root_F true := by
  intro F L H args r L' hs ha hr
  unfold spec_l03Root_F at hr
  split at hr
  · rename_i a1 v50
    obtain ⟨cs0, hcp0, hr⟩ := optT_run hr
    split at hr
    · rename_i v47 v48 a2
      obtain ⟨v49, hv49, hr⟩ := optT_run hr
      simp only [Tree.run] at hr
      obtain ⟨y, hy, hr⟩ := Option.bind_eq_some_iff.1 hr
      cases y with
      | inl y =>
        simp only [Tree.run, Option.some.injEq, Prod.mk.injEq] at hr
        obtain ⟨rfl, rfl⟩ := hr
        exact call_ok0 hs (fun k => (([a1.av F, a2.av F] : List AV)[k]?).getD .top) [a1, .flt .f32 v50] [.bptr (BR.root 0) [.int .i64 v47, .int .i64 v48, .bslc (BR.root 1) (.f32 v49)], .flt .f32 v50] (fun F' h0 hi hρ => ⟨by simp [DVs.av, DV.av, BR.av, hρ], spec_l03Root_fn v47 v48 v49 v50 F' (by rw [hi]; rfl) (st_nil hi) ⟨bptr_ok hi (by rw [h0]; simpa [DVs.av, DV.av, BR.av, hρ] using (cellsOf_ok hs (DVs.okAt ha 0 rfl) hcp0).1) ⟨trivial, trivial, bslc_ok hi (by rw [h0, hρ]; exact rowF32_ok hs (DVs.okAt (cellsOf_ok hs (DVs.okAt ha 0 rfl) hcp0).2 2 rfl) hv49), trivial⟩, trivial, trivial⟩ hy⟩) rfl
      | inr y =>
        simp only [Tree.run, Option.some.injEq, Prod.mk.injEq] at hr
        obtain ⟨rfl, rfl⟩ := hr
        exact call_ok1 hs (fun k => (([a1.av F, a2.av F] : List AV)[k]?).getD .top) [a1, .flt .f32 v50] [.bptr (BR.root 0) [.int .i64 v47, .int .i64 v48, .bslc (BR.root 1) (.f32 v49)], .flt .f32 v50] (fun F' h0 hi hρ => ⟨by simp [DVs.av, DV.av, BR.av, hρ], spec_l03Root_fn v47 v48 v49 v50 F' (by rw [hi]; rfl) (st_nil hi) ⟨bptr_ok hi (by rw [h0]; simpa [DVs.av, DV.av, BR.av, hρ] using (cellsOf_ok hs (DVs.okAt ha 0 rfl) hcp0).1) ⟨trivial, trivial, bslc_ok hi (by rw [h0, hρ]; exact rowF32_ok hs (DVs.okAt (cellsOf_ok hs (DVs.okAt ha 0 rfl) hcp0).2 2 rfl) hv49), trivial⟩, trivial, trivial⟩ hy⟩) rfl rfl
    · cases hr
  · cases hr
/-! spec.RootOfSquare -/
noncomputable def spec_RootOfSquare_LO (v22 : Int) (v23 : Int) (v24 : List Nat) : LOr := fun id e L =>
  match id with
  | _ => .fail
noncomputable def spec_RootOfSquare_tab : List (FuncId × DFn × Bool) := [(45, spec_l02Square_F, true), (46, spec_l03Root_F, true)]
theorem spec_RootOfSquare_hO : OrcOk Try.prog (tabD spec_RootOfSquare_tab) (tabM spec_RootOfSquare_tab) := tabD_cons spec_l02Square_Fok (tabD_cons spec_l03Root_Fok (tabD_nil _))
noncomputable def spec_RootOfSquare_T (v22 : Int) (v23 : Int) (v24 : List Nat) : Tree ((Unit) ⊕ (Int × Int × (List Nat))) :=
  (.call (spec_l02Square_g v22 v23 v24) fun v46 =>
  (.br (!v46) (
   .leaf (.inl ())
  ) (
   (.call (spec_l03Root_g v22 v23 v24 (0 : Nat)) fun v681 =>
   (.sum v681 (fun v682 =>
    .leaf (.inl ())
   ) (fun v683 =>
    .leaf (.inr (v683.1, v683.2.1, v683.2.2))
   )))
  )))

noncomputable def spec_RootOfSquare_g (v22 : Int) (v23 : Int) (v24 : List Nat) : Option ((Unit) ⊕ (Int × Int × (List Nat))) := (spec_RootOfSquare_T v22 v23 v24).run
def spec_RootOfSquare_enc (v22 : Int) (v23 : Int) (v24 : List Nat) (y : (Unit) ⊕ (Int × Int × (List Nat))) : Rs := (match y with | .inl y => (.tup [.agg [.int .i64 (0 : Int), .int .i64 (0 : Int), .nilslc], .lit false], []) | .inr y => (.tup [.agg [.int .i64 y.1, .int .i64 y.2.1, .own 0 0 ((y.2.2).length)], .lit true], [.row (.f32 y.2.2) 0]))
theorem spec_RootOfSquare_den (v22 : Int) (v23 : Int) (v24 : List Nat) : (den TT (tabD spec_RootOfSquare_tab) (tabM spec_RootOfSquare_tab) (spec_RootOfSquare_LO v22 v23 v24) (codeOf Try.f17) ([.agg [.int .i64 v22, .int .i64 v23, .bslc (BR.root 0) (.f32 v24)]] ++ List.replicate (Try.f17.ntmps - ([.agg [.int .i64 v22, .int .i64 v23, .bslc (BR.root 0) (.f32 v24)]] : List DV).length) .undef) []).bind (retD TT Try.f17.results.toList 0) = (spec_RootOfSquare_T v22 v23 v24).bind fun y => .leaf (spec_RootOfSquare_enc v22 v23 v24 y) := by kernel_rfl
theorem spec_RootOfSquare_fn (v22 : Int) (v23 : Int) (v24 : List Nat) (F : Fr) (hm : F.ids.length = 0) (h0 : St F [] F.H0) (hA : DVs.Ok F [] [.agg [.int .i64 v22, .int .i64 v23, .bslc (BR.root 0) (.f32 v24)]]) {y : (Unit) ⊕ (Int × Int × (List Nat))} (hy : spec_RootOfSquare_g v22 v23 v24 = some y) : ∃ H', FnOk Try.prog 17 (DVs.av F [.agg [.int .i64 v22, .int .i64 v23, .bslc (BR.root 0) (.f32 v24)]]) F.H0 ((spec_RootOfSquare_enc v22 v23 v24 y).1.av F) H' ∧ St F (spec_RootOfSquare_enc v22 v23 v24 y).2 H' ∧ (spec_RootOfSquare_enc v22 v23 v24 y).1.Ok F (spec_RootOfSquare_enc v22 v23 v24 y).2 :=
  fn_fin tok spec_RootOfSquare_hO mixed Try.func17 Try.call17 (by kernel_rfl) (LoopsOk_eq (l := []) (by kernel_rfl) trivial) (spec_RootOfSquare_den v22 v23 v24) hy hm h0 hA
noncomputable def spec_RootOfSquare_F : DFn := fun args L =>
  match args with
  | [.agg [.int .i64 v22, .int .i64 v23, a1]] =>
    optT (rowF32 L a1) fun v24 =>
    .call (spec_RootOfSquare_g v22 v23 v24) fun y => .sum y (fun y0 => .leaf (.tup [.agg [.int .i64 (0 : Int), .int .i64 (0 : Int), .nilslc], .lit false], L)) (fun z0 => .leaf (.tup [.agg [.int .i64 z0.1, .int .i64 z0.2.1, .own (L.length + 0) 0 ((z0.2.2).length)], .lit true], L ++ [.row (.f32 z0.2.2) 0]))
  | _ => .fail
theorem spec_RootOfSquare_Fok : COk Try.prog 17 spec_RootOfSquare_F true := by
  intro F L H args r L' hs ha hr
  unfold spec_RootOfSquare_F at hr
  split at hr
  · rename_i v22 v23 a1
    obtain ⟨v24, hv24, hr⟩ := optT_run hr
    simp only [Tree.run] at hr
    obtain ⟨y, hy, hr⟩ := Option.bind_eq_some_iff.1 hr
    cases y with
    | inl y =>
      simp only [Tree.run, Option.some.injEq, Prod.mk.injEq] at hr
      obtain ⟨rfl, rfl⟩ := hr
      exact call_ok0 hs (fun k => (([a1.av F] : List AV)[k]?).getD .top) [.agg [.int .i64 v22, .int .i64 v23, a1]] [.agg [.int .i64 v22, .int .i64 v23, .bslc (BR.root 0) (.f32 v24)]] (fun F' h0 hi hρ => ⟨by simp [DVs.av, DV.av, BR.av, hρ], spec_RootOfSquare_fn v22 v23 v24 F' (by rw [hi]; rfl) (st_nil hi) ⟨⟨trivial, trivial, bslc_ok hi (by rw [h0, hρ]; exact rowF32_ok hs (DVs.okAt (DVs.okAt ha 0 rfl) 2 rfl) hv24), trivial⟩, trivial⟩ hy⟩) rfl
    | inr y =>
      simp only [Tree.run, Option.some.injEq, Prod.mk.injEq] at hr
      obtain ⟨rfl, rfl⟩ := hr
      exact call_ok1 hs (fun k => (([a1.av F] : List AV)[k]?).getD .top) [.agg [.int .i64 v22, .int .i64 v23, a1]] [.agg [.int .i64 v22, .int .i64 v23, .bslc (BR.root 0) (.f32 v24)]] (fun F' h0 hi hρ => ⟨by simp [DVs.av, DV.av, BR.av, hρ], spec_RootOfSquare_fn v22 v23 v24 F' (by rw [hi]; rfl) (st_nil hi) ⟨⟨trivial, trivial, bslc_ok hi (by rw [h0, hρ]; exact rowF32_ok hs (DVs.okAt (DVs.okAt ha 0 rfl) 2 rfl) hv24), trivial⟩, trivial⟩ hy⟩) rfl rfl
  · cases hr
/-! impl.inRange -/
noncomputable def impl_inRange_LO (v698 : Int) (v699 : Int) (v700 : Int) : LOr := fun id e L =>
  match id with
  | _ => .fail
noncomputable def impl_inRange_tab : List (FuncId × DFn × Bool) := []
theorem impl_inRange_hO : OrcOk Try.prog (tabD impl_inRange_tab) (tabM impl_inRange_tab) := tabD_nil _
noncomputable def impl_inRange_T (v698 : Int) (v699 : Int) (v700 : Int) : Tree (Bool) :=
  (.br (decide (v699 ≤ v698)) (
   .leaf (decide (v698 ≤ v700))
  ) (
   .leaf false
  ))

noncomputable def impl_inRange_g (v698 : Int) (v699 : Int) (v700 : Int) : Option (Bool) := (impl_inRange_T v698 v699 v700).run
def impl_inRange_enc (v698 : Int) (v699 : Int) (v700 : Int) (y : Bool) : Rs := (.bool y, [])
theorem impl_inRange_den (v698 : Int) (v699 : Int) (v700 : Int) : (den TT (tabD impl_inRange_tab) (tabM impl_inRange_tab) (impl_inRange_LO v698 v699 v700) (codeOf Try.f94) ([.int .i64 v698, .int .i64 v699, .int .i64 v700] ++ List.replicate (Try.f94.ntmps - ([.int .i64 v698, .int .i64 v699, .int .i64 v700] : List DV).length) .undef) []).bind (retD TT Try.f94.results.toList 0) = (impl_inRange_T v698 v699 v700).bind fun y => .leaf (impl_inRange_enc v698 v699 v700 y) := by kernel_rfl
theorem impl_inRange_fn (v698 : Int) (v699 : Int) (v700 : Int) (F : Fr) (hm : F.ids.length = 0) (h0 : St F [] F.H0) (hA : DVs.Ok F [] [.int .i64 v698, .int .i64 v699, .int .i64 v700]) {y : Bool} (hy : impl_inRange_g v698 v699 v700 = some y) : ∃ H', FnOk Try.prog 94 (DVs.av F [.int .i64 v698, .int .i64 v699, .int .i64 v700]) F.H0 ((impl_inRange_enc v698 v699 v700 y).1.av F) H' ∧ St F (impl_inRange_enc v698 v699 v700 y).2 H' ∧ (impl_inRange_enc v698 v699 v700 y).1.Ok F (impl_inRange_enc v698 v699 v700 y).2 :=
  fn_fin tok impl_inRange_hO mixed Try.func94 Try.call94 (by kernel_rfl) (LoopsOk_eq (l := []) (by kernel_rfl) trivial) (impl_inRange_den v698 v699 v700) hy hm h0 hA
def impl_inRange_v (v698 : Int) (v699 : Int) (v700 : Int) : Bool :=
  if (decide (v699 ≤ v698)) = true then (
   decide (v698 ≤ v700)
  ) else (
   false
  )
theorem impl_inRange_tot (v698 : Int) (v699 : Int) (v700 : Int) : impl_inRange_g v698 v699 v700 = some (impl_inRange_v v698 v699 v700) := by
  unfold impl_inRange_g impl_inRange_T impl_inRange_v
  simp only [Tree.run]
  repeat' (first | rfl | split)
noncomputable def impl_inRange_F : DFn := fun args L =>
  match args with
  | [.int .i64 v698, .int .i64 v699, .int .i64 v700] =>
    .leaf (.bool (impl_inRange_v v698 v699 v700), L)
  | _ => .fail
theorem impl_inRange_Fok : COk Try.prog 94 impl_inRange_F true := by
  intro F L H args r L' hs ha hr
  unfold impl_inRange_F at hr
  split at hr
  · rename_i v698 v699 v700
    have hy := impl_inRange_tot v698 v699 v700
    generalize impl_inRange_v v698 v699 v700 = y at hy hr
    simp only [Tree.run, Option.some.injEq, Prod.mk.injEq] at hr
    obtain ⟨rfl, rfl⟩ := hr
    exact call_ok0 hs (fun k => (([] : List AV)[k]?).getD .top) [.int .i64 v698, .int .i64 v699, .int .i64 v700] [.int .i64 v698, .int .i64 v699, .int .i64 v700] (fun F' h0 hi hρ => ⟨by simp [DVs.av, DV.av, BR.av, hρ], impl_inRange_fn v698 v699 v700 F' (by rw [hi]; rfl) (st_nil hi) ⟨trivial, trivial, trivial, trivial⟩ hy⟩) rfl
  · cases hr
/-! impl.isSide -/
noncomputable def impl_isSide_LO (v697 : Int) : LOr := fun id e L =>
  match id with
  | _ => .fail
noncomputable def impl_isSide_tab : List (FuncId × DFn × Bool) := [(94, impl_inRange_F, true)]
theorem impl_isSide_hO : OrcOk Try.prog (tabD impl_isSide_tab) (tabM impl_isSide_tab) := tabD_cons impl_inRange_Fok (tabD_nil _)
noncomputable def impl_isSide_T (v697 : Int) : Tree (Bool) :=
  .leaf (impl_inRange_v v697 (1 : Int) (12 : Int))

noncomputable def impl_isSide_g (v697 : Int) : Option (Bool) := (impl_isSide_T v697).run
def impl_isSide_enc (v697 : Int) (y : Bool) : Rs := (.bool y, [])
theorem impl_isSide_den (v697 : Int) : (den TT (tabD impl_isSide_tab) (tabM impl_isSide_tab) (impl_isSide_LO v697) (codeOf Try.f146) ([.int .i64 v697] ++ List.replicate (Try.f146.ntmps - ([.int .i64 v697] : List DV).length) .undef) []).bind (retD TT Try.f146.results.toList 0) = (impl_isSide_T v697).bind fun y => .leaf (impl_isSide_enc v697 y) := by kernel_rfl
theorem impl_isSide_fn (v697 : Int) (F : Fr) (hm : F.ids.length = 0) (h0 : St F [] F.H0) (hA : DVs.Ok F [] [.int .i64 v697]) {y : Bool} (hy : impl_isSide_g v697 = some y) : ∃ H', FnOk Try.prog 146 (DVs.av F [.int .i64 v697]) F.H0 ((impl_isSide_enc v697 y).1.av F) H' ∧ St F (impl_isSide_enc v697 y).2 H' ∧ (impl_isSide_enc v697 y).1.Ok F (impl_isSide_enc v697 y).2 :=
  fn_fin tok impl_isSide_hO mixed Try.func146 Try.call146 (by kernel_rfl) (LoopsOk_eq (l := []) (by kernel_rfl) trivial) (impl_isSide_den v697) hy hm h0 hA
def impl_isSide_v (v697 : Int) : Bool :=
  (impl_inRange_v v697 (1 : Int) (12 : Int))
theorem impl_isSide_tot (v697 : Int) : impl_isSide_g v697 = some (impl_isSide_v v697) := by
  unfold impl_isSide_g impl_isSide_T impl_isSide_v
  simp only [Tree.run]
  repeat' (first | rfl | split)
noncomputable def impl_isSide_F : DFn := fun args L =>
  match args with
  | [.int .i64 v697] =>
    .leaf (.bool (impl_isSide_v v697), L)
  | _ => .fail
theorem impl_isSide_Fok : COk Try.prog 146 impl_isSide_F true := by
  intro F L H args r L' hs ha hr
  unfold impl_isSide_F at hr
  split at hr
  · rename_i v697
    have hy := impl_isSide_tot v697
    generalize impl_isSide_v v697 = y at hy hr
    simp only [Tree.run, Option.some.injEq, Prod.mk.injEq] at hr
    obtain ⟨rfl, rfl⟩ := hr
    exact call_ok0 hs (fun k => (([] : List AV)[k]?).getD .top) [.int .i64 v697] [.int .i64 v697] (fun F' h0 hi hρ => ⟨by simp [DVs.av, DV.av, BR.av, hρ], impl_isSide_fn v697 F' (by rw [hi]; rfl) (st_nil hi) ⟨trivial, trivial⟩ hy⟩) rfl
  · cases hr
/-! impl.length[float32] -/
noncomputable def impl_lengthF_LO (v701 : List Nat) : LOr := fun id e L =>
  match id with
  | _ => .fail
noncomputable def impl_lengthF_tab : List (FuncId × DFn × Bool) := []
theorem impl_lengthF_hO : OrcOk Try.prog (tabD impl_lengthF_tab) (tabM impl_lengthF_tab) := tabD_nil _
noncomputable def impl_lengthF_T (v701 : List Nat) : Tree (Int) :=
  .leaf ((v701.length : Nat) : Int)

noncomputable def impl_lengthF_g (v701 : List Nat) : Option (Int) := (impl_lengthF_T v701).run
def impl_lengthF_enc (v701 : List Nat) (y : Int) : Rs := (.int .i64 y, [])
theorem impl_lengthF_den (v701 : List Nat) : (den TT (tabD impl_lengthF_tab) (tabM impl_lengthF_tab) (impl_lengthF_LO v701) (codeOf Try.f82) ([.bslc (BR.root 0) (.f32 v701)] ++ List.replicate (Try.f82.ntmps - ([.bslc (BR.root 0) (.f32 v701)] : List DV).length) .undef) []).bind (retD TT Try.f82.results.toList 0) = (impl_lengthF_T v701).bind fun y => .leaf (impl_lengthF_enc v701 y) := by kernel_rfl
theorem impl_lengthF_fn (v701 : List Nat) (F : Fr) (hm : F.ids.length = 0) (h0 : St F [] F.H0) (hA : DVs.Ok F [] [.bslc (BR.root 0) (.f32 v701)]) {y : Int} (hy : impl_lengthF_g v701 = some y) : ∃ H', FnOk Try.prog 82 (DVs.av F [.bslc (BR.root 0) (.f32 v701)]) F.H0 ((impl_lengthF_enc v701 y).1.av F) H' ∧ St F (impl_lengthF_enc v701 y).2 H' ∧ (impl_lengthF_enc v701 y).1.Ok F (impl_lengthF_enc v701 y).2 :=
  fn_fin tok impl_lengthF_hO mixed Try.func82 Try.call82 (by kernel_rfl) (LoopsOk_eq (l := []) (by kernel_rfl) trivial) (impl_lengthF_den v701) hy hm h0 hA
def impl_lengthF_v (v701 : List Nat) : Int :=
  ((v701.length : Nat) : Int)
theorem impl_lengthF_tot (v701 : List Nat) : impl_lengthF_g v701 = some (impl_lengthF_v v701) := by
  unfold impl_lengthF_g impl_lengthF_T impl_lengthF_v
  simp only [Tree.run]
  repeat' (first | rfl | split)
noncomputable def impl_lengthF_F : DFn := fun args L =>
  match args with
  | [a1] =>
    optT (rowF32 L a1) fun v701 =>
    .leaf (.int .i64 (impl_lengthF_v v701), L)
  | _ => .fail
theorem impl_lengthF_Fok : COk Try.prog 82 impl_lengthF_F true := by
  intro F L H args r L' hs ha hr
  unfold impl_lengthF_F at hr
  split at hr
  · rename_i a1
    obtain ⟨v701, hv701, hr⟩ := optT_run hr
    have hy := impl_lengthF_tot v701
    generalize impl_lengthF_v v701 = y at hy hr
    simp only [Tree.run, Option.some.injEq, Prod.mk.injEq] at hr
    obtain ⟨rfl, rfl⟩ := hr
    exact call_ok0 hs (fun k => (([a1.av F] : List AV)[k]?).getD .top) [a1] [.bslc (BR.root 0) (.f32 v701)] (fun F' h0 hi hρ => ⟨by simp [DVs.av, DV.av, BR.av, hρ], impl_lengthF_fn v701 F' (by rw [hi]; rfl) (st_nil hi) ⟨bslc_ok hi (by rw [h0, hρ]; exact rowF32_ok hs (DVs.okAt ha 0 rfl) hv701), trivial⟩ hy⟩) rfl
  · cases hr
/-! math.IsNaN -/
noncomputable def math_IsNaN_LO (v709 : Nat) : LOr := fun id e L =>
  match id with
  | _ => .fail
noncomputable def math_IsNaN_tab : List (FuncId × DFn × Bool) := []
theorem math_IsNaN_hO : OrcOk Try.prog (tabD math_IsNaN_tab) (tabM math_IsNaN_tab) := tabD_nil _
noncomputable def math_IsNaN_T (v709 : Nat) : Tree (Bool) :=
  .leaf (!feq .f64 v709 v709)

noncomputable def math_IsNaN_g (v709 : Nat) : Option (Bool) := (math_IsNaN_T v709).run
def math_IsNaN_enc (v709 : Nat) (y : Bool) : Rs := (.bool y, [])
theorem math_IsNaN_den (v709 : Nat) : (den TT (tabD math_IsNaN_tab) (tabM math_IsNaN_tab) (math_IsNaN_LO v709) (codeOf Try.f156) ([.flt .f64 v709] ++ List.replicate (Try.f156.ntmps - ([.flt .f64 v709] : List DV).length) .undef) []).bind (retD TT Try.f156.results.toList 0) = (math_IsNaN_T v709).bind fun y => .leaf (math_IsNaN_enc v709 y) := by kernel_rfl
theorem math_IsNaN_fn (v709 : Nat) (F : Fr) (hm : F.ids.length = 0) (h0 : St F [] F.H0) (hA : DVs.Ok F [] [.flt .f64 v709]) {y : Bool} (hy : math_IsNaN_g v709 = some y) : ∃ H', FnOk Try.prog 156 (DVs.av F [.flt .f64 v709]) F.H0 ((math_IsNaN_enc v709 y).1.av F) H' ∧ St F (math_IsNaN_enc v709 y).2 H' ∧ (math_IsNaN_enc v709 y).1.Ok F (math_IsNaN_enc v709 y).2 :=
  fn_fin tok math_IsNaN_hO mixed Try.func156 Try.call156 (by kernel_rfl) (LoopsOk_eq (l := []) (by kernel_rfl) trivial) (math_IsNaN_den v709) hy hm h0 hA
def math_IsNaN_v (v709 : Nat) : Bool :=
  !feq .f64 v709 v709
theorem math_IsNaN_tot (v709 : Nat) : math_IsNaN_g v709 = some (math_IsNaN_v v709) := by
  unfold math_IsNaN_g math_IsNaN_T math_IsNaN_v
  simp only [Tree.run]
  repeat' (first | rfl | split)
noncomputable def math_IsNaN_F : DFn := fun args L =>
  match args with
  | [.flt .f64 v709] =>
    .leaf (.bool (math_IsNaN_v v709), L)
  | _ => .fail
theorem math_IsNaN_Fok : COk Try.prog 156 math_IsNaN_F true := by
  intro F L H args r L' hs ha hr
  unfold math_IsNaN_F at hr
  split at hr
  · rename_i v709
    have hy := math_IsNaN_tot v709
    generalize math_IsNaN_v v709 = y at hy hr
    simp only [Tree.run, Option.some.injEq, Prod.mk.injEq] at hr
    obtain ⟨rfl, rfl⟩ := hr
    exact call_ok0 hs (fun k => (([] : List AV)[k]?).getD .top) [.flt .f64 v709] [.flt .f64 v709] (fun F' h0 hi hρ => ⟨by simp [DVs.av, DV.av, BR.av, hρ], math_IsNaN_fn v709 F' (by rw [hi]; rfl) (st_nil hi) ⟨trivial, trivial⟩ hy⟩) rfl
  · cases hr
/-! math.IsInf -/
noncomputable def math_IsInf_LO (v710 : Nat) (v711 : Int) : LOr := fun id e L =>
  match id with
  | _ => .fail
noncomputable def math_IsInf_tab : List (FuncId × DFn × Bool) := [(175, Abs_F, true)]
theorem math_IsInf_hO : OrcOk Try.prog (tabD math_IsInf_tab) (tabM math_IsInf_tab) := tabD_cons Abs_Fok (tabD_nil _)
noncomputable def math_IsInf_T (v710 : Nat) (v711 : Int) : Tree (Bool) :=
  (.br (decide (v711 = (0 : Int))) (
   .leaf (fgrt .f64 (fabs v710) (9218868437227405311 : Nat))
  ) (
   (.br (decide (v711 < (0 : Int))) (
    .leaf (fgrt .f64 (fneg .f64 v710) (9218868437227405311 : Nat))
   ) (
    .leaf (fgrt .f64 v710 (9218868437227405311 : Nat))
   ))
  ))

noncomputable def math_IsInf_g (v710 : Nat) (v711 : Int) : Option (Bool) := (math_IsInf_T v710 v711).run
def math_IsInf_enc (v710 : Nat) (v711 : Int) (y : Bool) : Rs := (.bool y, [])
theorem math_IsInf_den (v710 : Nat) (v711 : Int) : (den TT (tabD math_IsInf_tab) (tabM math_IsInf_tab) (math_IsInf_LO v710 v711) (codeOf Try.f157) ([.flt .f64 v710, .int .i64 v711] ++ List.replicate (Try.f157.ntmps - ([.flt .f64 v710, .int .i64 v711] : List DV).length) .undef) []).bind (retD TT Try.f157.results.toList 0) = (math_IsInf_T v710 v711).bind fun y => .leaf (math_IsInf_enc v710 v711 y) := by kernel_rfl
theorem math_IsInf_fn (v710 : Nat) (v711 : Int) (F : Fr) (hm : F.ids.length = 0) (h0 : St F [] F.H0) (hA : DVs.Ok F [] [.flt .f64 v710, .int .i64 v711]) {y : Bool} (hy : math_IsInf_g v710 v711 = some y) : ∃ H', FnOk Try.prog 157 (DVs.av F [.flt .f64 v710, .int .i64 v711]) F.H0 ((math_IsInf_enc v710 v711 y).1.av F) H' ∧ St F (math_IsInf_enc v710 v711 y).2 H' ∧ (math_IsInf_enc v710 v711 y).1.Ok F (math_IsInf_enc v710 v711 y).2 :=
  fn_fin tok math_IsInf_hO mixed Try.func157 Try.call157 (by kernel_rfl) (LoopsOk_eq (l := []) (by kernel_rfl) trivial) (math_IsInf_den v710 v711) hy hm h0 hA
def math_IsInf_v (v710 : Nat) (v711 : Int) : Bool :=
  if (decide (v711 = (0 : Int))) = true then (
   fgrt .f64 (fabs v710) (9218868437227405311 : Nat)
  ) else (
   if (decide (v711 < (0 : Int))) = true then (
    fgrt .f64 (fneg .f64 v710) (9218868437227405311 : Nat)
   ) else (
    fgrt .f64 v710 (9218868437227405311 : Nat)
   )
  )
theorem math_IsInf_tot (v710 : Nat) (v711 : Int) : math_IsInf_g v710 v711 = some (math_IsInf_v v710 v711) := by
  unfold math_IsInf_g math_IsInf_T math_IsInf_v
  simp only [Tree.run]
  repeat' (first | rfl | split)
noncomputable def math_IsInf_F : DFn := fun args L =>
  match args with
  | [.flt .f64 v710, .int .i64 v711] =>
    .leaf (.bool (math_IsInf_v v710 v711), L)
  | _ => .fail
theorem math_IsInf_Fok : COk Try.prog 157 math_IsInf_F true := by
  intro F L H args r L' hs ha hr
  unfold math_IsInf_F at hr
  split at hr
  · rename_i v710 v711
    have hy := math_IsInf_tot v710 v711
    generalize math_IsInf_v v710 v711 = y at hy hr
    simp only [Tree.run, Option.some.injEq, Prod.mk.injEq] at hr
    obtain ⟨rfl, rfl⟩ := hr
    exact call_ok0 hs (fun k => (([] : List AV)[k]?).getD .top) [.flt .f64 v710, .int .i64 v711] [.flt .f64 v710, .int .i64 v711] (fun F' h0 hi hρ => ⟨by simp [DVs.av, DV.av, BR.av, hρ], math_IsInf_fn v710 v711 F' (by rw [hi]; rfl) (st_nil hi) ⟨trivial, trivial, trivial⟩ hy⟩) rfl
  · cases hr
/-! impl.isFinite64 -/
noncomputable def impl_isFinite64_LO (v708 : Nat) : LOr := fun id e L =>
  match id with
  | _ => .fail
noncomputable def impl_isFinite64_tab : List (FuncId × DFn × Bool) := [(156, math_IsNaN_F, true), (157, math_IsInf_F, true)]
theorem impl_isFinite64_hO : OrcOk Try.prog (tabD impl_isFinite64_tab) (tabM impl_isFinite64_tab) := tabD_cons math_IsNaN_Fok (tabD_cons math_IsInf_Fok (tabD_nil _))
noncomputable def impl_isFinite64_T (v708 : Nat) : Tree (Bool) :=
  (.br (!(math_IsNaN_v v708)) (
   .leaf (!(math_IsInf_v v708 (0 : Int)))
  ) (
   .leaf false
  ))

noncomputable def impl_isFinite64_g (v708 : Nat) : Option (Bool) := (impl_isFinite64_T v708).run
def impl_isFinite64_enc (v708 : Nat) (y : Bool) : Rs := (.bool y, [])
theorem impl_isFinite64_den (v708 : Nat) : (den TT (tabD impl_isFinite64_tab) (tabM impl_isFinite64_tab) (impl_isFinite64_LO v708) (codeOf Try.f114) ([.flt .f64 v708] ++ List.replicate (Try.f114.ntmps - ([.flt .f64 v708] : List DV).length) .undef) []).bind (retD TT Try.f114.results.toList 0) = (impl_isFinite64_T v708).bind fun y => .leaf (impl_isFinite64_enc v708 y) := by kernel_rfl
theorem impl_isFinite64_fn (v708 : Nat) (F : Fr) (hm : F.ids.length = 0) (h0 : St F [] F.H0) (hA : DVs.Ok F [] [.flt .f64 v708]) {y : Bool} (hy : impl_isFinite64_g v708 = some y) : ∃ H', FnOk Try.prog 114 (DVs.av F [.flt .f64 v708]) F.H0 ((impl_isFinite64_enc v708 y).1.av F) H' ∧ St F (impl_isFinite64_enc v708 y).2 H' ∧ (impl_isFinite64_enc v708 y).1.Ok F (impl_isFinite64_enc v708 y).2 :=
  fn_fin tok impl_isFinite64_hO mixed Try.func114 Try.call114 (by kernel_rfl) (LoopsOk_eq (l := []) (by kernel_rfl) trivial) (impl_isFinite64_den v708) hy hm h0 hA
def impl_isFinite64_v (v708 : Nat) : Bool :=
  if (!(math_IsNaN_v v708)) = true then (
   !(math_IsInf_v v708 (0 : Int))
  ) else (
   false
  )
theorem impl_isFinite64_tot (v708 : Nat) : impl_isFinite64_g v708 = some (impl_isFinite64_v v708) := by
  unfold impl_isFinite64_g impl_isFinite64_T impl_isFinite64_v
  simp only [Tree.run]
  repeat' (first | rfl | split)
noncomputable def impl_isFinite64_F : DFn := fun args L =>
  match args with
  | [.flt .f64 v708] =>
    .leaf (.bool (impl_isFinite64_v v708), L)
  | _ => .fail
theorem impl_isFinite64_Fok : COk Try.prog 114 impl_isFinite64_F true := by
  intro F L H args r L' hs ha hr
  unfold impl_isFinite64_F at hr
  split at hr
  · rename_i v708
    have hy := impl_isFinite64_tot v708
    generalize impl_isFinite64_v v708 = y at hy hr
    simp only [Tree.run, Option.some.injEq, Prod.mk.injEq] at hr
    obtain ⟨rfl, rfl⟩ := hr
    exact call_ok0 hs (fun k => (([] : List AV)[k]?).getD .top) [.flt .f64 v708] [.flt .f64 v708] (fun F' h0 hi hρ => ⟨by simp [DVs.av, DV.av, BR.av, hρ], impl_isFinite64_fn v708 F' (by rw [hi]; rfl) (st_nil hi) ⟨trivial, trivial⟩ hy⟩) rfl
  · cases hr
/-! impl.IsFinite -/
noncomputable def impl_IsFinite_LO (v707 : Nat) : LOr := fun id e L =>
  match id with
  | _ => .fail
noncomputable def impl_IsFinite_tab : List (FuncId × DFn × Bool) := [(114, impl_isFinite64_F, true)]
theorem impl_IsFinite_hO : OrcOk Try.prog (tabD impl_IsFinite_tab) (tabM impl_IsFinite_tab) := tabD_cons impl_isFinite64_Fok (tabD_nil _)
noncomputable def impl_IsFinite_T (v707 : Nat) : Tree (Bool) :=
  .leaf (impl_isFinite64_v (wid v707))

noncomputable def impl_IsFinite_g (v707 : Nat) : Option (Bool) := (impl_IsFinite_T v707).run
def impl_IsFinite_enc (v707 : Nat) (y : Bool) : Rs := (.bool y, [])
theorem impl_IsFinite_den (v707 : Nat) : (den TT (tabD impl_IsFinite_tab) (tabM impl_IsFinite_tab) (impl_IsFinite_LO v707) (codeOf Try.f43) ([.flt .f32 v707] ++ List.replicate (Try.f43.ntmps - ([.flt .f32 v707] : List DV).length) .undef) []).bind (retD TT Try.f43.results.toList 0) = (impl_IsFinite_T v707).bind fun y => .leaf (impl_IsFinite_enc v707 y) := by kernel_rfl
theorem impl_IsFinite_fn (v707 : Nat) (F : Fr) (hm : F.ids.length = 0) (h0 : St F [] F.H0) (hA : DVs.Ok F [] [.flt .f32 v707]) {y : Bool} (hy : impl_IsFinite_g v707 = some y) : ∃ H', FnOk Try.prog 43 (DVs.av F [.flt .f32 v707]) F.H0 ((impl_IsFinite_enc v707 y).1.av F) H' ∧ St F (impl_IsFinite_enc v707 y).2 H' ∧ (impl_IsFinite_enc v707 y).1.Ok F (impl_IsFinite_enc v707 y).2 :=
  fn_fin tok impl_IsFinite_hO mixed Try.func43 Try.call43 (by kernel_rfl) (LoopsOk_eq (l := []) (by kernel_rfl) trivial) (impl_IsFinite_den v707) hy hm h0 hA
def impl_IsFinite_v (v707 : Nat) : Bool :=
  (impl_isFinite64_v (wid v707))
theorem impl_IsFinite_tot (v707 : Nat) : impl_IsFinite_g v707 = some (impl_IsFinite_v v707) := by
  unfold impl_IsFinite_g impl_IsFinite_T impl_IsFinite_v
  simp only [Tree.run]
  repeat' (first | rfl | split)
noncomputable def impl_IsFinite_F : DFn := fun args L =>
  match args with
  | [.flt .f32 v707] =>
    .leaf (.bool (impl_IsFinite_v v707), L)
  | _ => .fail
theorem impl_IsFinite_Fok : COk Try.prog 43 impl_IsFinite_F true := by
  intro F L H args r L' hs ha hr
  unfold impl_IsFinite_F at hr
  split at hr
  · rename_i v707
    have hy := impl_IsFinite_tot v707
    generalize impl_IsFinite_v v707 = y at hy hr
    simp only [Tree.run, Option.some.injEq, Prod.mk.injEq] at hr
    obtain ⟨rfl, rfl⟩ := hr
    exact call_ok0 hs (fun k => (([] : List AV)[k]?).getD .top) [.flt .f32 v707] [.flt .f32 v707] (fun F' h0 hi hρ => ⟨by simp [DVs.av, DV.av, BR.av, hρ], impl_IsFinite_fn v707 F' (by rw [hi]; rfl) (st_nil hi) ⟨trivial, trivial⟩ hy⟩) rfl
  · cases hr
/-! impl.areFinite$1 -/
noncomputable def impl_areFinite_1_LO (v706 : Nat) : LOr := fun id e L =>
  match id with
  | _ => .fail
noncomputable def impl_areFinite_1_tab : List (FuncId × DFn × Bool) := [(43, impl_IsFinite_F, true)]
theorem impl_areFinite_1_hO : OrcOk Try.prog (tabD impl_areFinite_1_tab) (tabM impl_areFinite_1_tab) := tabD_cons impl_IsFinite_Fok (tabD_nil _)
noncomputable def impl_areFinite_1_T (v706 : Nat) : Tree (Bool) :=
  .leaf (!(impl_IsFinite_v v706))

noncomputable def impl_areFinite_1_g (v706 : Nat) : Option (Bool) := (impl_areFinite_1_T v706).run
def impl_areFinite_1_enc (v706 : Nat) (y : Bool) : Rs := (.bool y, [])
theorem impl_areFinite_1_den (v706 : Nat) : (den TT (tabD impl_areFinite_1_tab) (tabM impl_areFinite_1_tab) (impl_areFinite_1_LO v706) (codeOf Try.f113) ([.flt .f32 v706] ++ List.replicate (Try.f113.ntmps - ([.flt .f32 v706] : List DV).length) .undef) []).bind (retD TT Try.f113.results.toList 0) = (impl_areFinite_1_T v706).bind fun y => .leaf (impl_areFinite_1_enc v706 y) := by kernel_rfl
theorem impl_areFinite_1_fn (v706 : Nat) (F : Fr) (hm : F.ids.length = 0) (h0 : St F [] F.H0) (hA : DVs.Ok F [] [.flt .f32 v706]) {y : Bool} (hy : impl_areFinite_1_g v706 = some y) : ∃ H', FnOk Try.prog 113 (DVs.av F [.flt .f32 v706]) F.H0 ((impl_areFinite_1_enc v706 y).1.av F) H' ∧ St F (impl_areFinite_1_enc v706 y).2 H' ∧ (impl_areFinite_1_enc v706 y).1.Ok F (impl_areFinite_1_enc v706 y).2 :=
  fn_fin tok impl_areFinite_1_hO mixed Try.func113 Try.call113 (by kernel_rfl) (LoopsOk_eq (l := []) (by kernel_rfl) trivial) (impl_areFinite_1_den v706) hy hm h0 hA
def impl_areFinite_1_v (v706 : Nat) : Bool :=
  !(impl_IsFinite_v v706)
theorem impl_areFinite_1_tot (v706 : Nat) : impl_areFinite_1_g v706 = some (impl_areFinite_1_v v706) := by
  unfold impl_areFinite_1_g impl_areFinite_1_T impl_areFinite_1_v
  simp only [Tree.run]
  repeat' (first | rfl | split)
noncomputable def impl_areFinite_1_F : DFn := fun args L =>
  match args with
  | [.flt .f32 v706] =>
    .leaf (.bool (impl_areFinite_1_v v706), L)
  | _ => .fail
theorem impl_areFinite_1_Fok : COk Try.prog 113 impl_areFinite_1_F true := by
  intro F L H args r L' hs ha hr
  unfold impl_areFinite_1_F at hr
  split at hr
  · rename_i v706
    have hy := impl_areFinite_1_tot v706
    generalize impl_areFinite_1_v v706 = y at hy hr
    simp only [Tree.run, Option.some.injEq, Prod.mk.injEq] at hr
    obtain ⟨rfl, rfl⟩ := hr
    exact call_ok0 hs (fun k => (([] : List AV)[k]?).getD .top) [.flt .f32 v706] [.flt .f32 v706] (fun F' h0 hi hρ => ⟨by simp [DVs.av, DV.av, BR.av, hρ], impl_areFinite_1_fn v706 F' (by rw [hi]; rfl) (st_nil hi) ⟨trivial, trivial⟩ hy⟩) rfl
  · cases hr
/-! slices.IndexFunc[list of float32,float32] -/
noncomputable def slices_IndexFuncF_l0_T (v704 : List Nat) (s : Int) : Tree ((Int) ⊕ ((Int) ⊕ (Unit))) :=
  (.br (decide (s < ((v704.length : Nat) : Int))) (
   (.grd (inb s v704.length) <|
   (.br (impl_areFinite_1_v (nth v704 (Int.toNat s))) (
    .leaf (.inr (.inl s))
   ) (
    .leaf (.inl (IntKind.i64.wrap (s + (1 : Int))))
   )))
  ) (
   .leaf (.inr (.inr ()))
  ))

noncomputable def slices_IndexFuncF_l0_g (v704 : List Nat) (s0 : Int) : Option ((Int) ⊕ (Unit)) := whileM (fun s => (slices_IndexFuncF_l0_T v704 s).run) s0
def slices_IndexFuncF_l0_E (v704 : List Nat) (s : Int) : Sd := ([.bslc (BR.root 0) (.f32 v704), .fn 113 [], .top, .top, .top, .top, .top, .int .i64 ((v704.length : Nat) : Int), .int .i64 s, .top, .top, .top, .top, .top, .top, .top, .top, .top, .top], [])
def slices_IndexFuncF_l0_X (v704 : List Nat) (x : (Int) ⊕ (Unit)) : Out := (match x with | .inl x => (.ret, [.top, .top, .top, .top, .int .i64 x, .top, .top, .top, .top, .top, .top, .top, .top, .top, .top, .top, .top, .top, .top], []) | .inr x => (.normal, [.top, .top, .top, .top, .top, .top, .top, .top, .top, .top, .top, .top, .top, .top, .top, .top, .top, .top, .top], []))
def slices_IndexFuncF_l0_kill : List Nat := [0, 0, 1, 1, 1, 1, 1, 0, 0, 1, 1, 1, 1, 1, 1, 1, 1, 1, 1]
def slices_IndexFuncF_l0_nx : Exit → List Nat
  | .exit 0 => [1, 1, 1, 1, 1, 1, 1, 1, 1, 1, 1, 1, 1, 1, 1, 1, 1, 1, 1]
  | .ret => [1, 1, 1, 1, 0, 1, 1, 1, 1, 1, 1, 1, 1, 1, 1, 1, 1, 1, 1]
  | _ => []
noncomputable def slices_IndexFuncF_LO (v704 : List Nat) : LOr := fun id e L =>
  match id with
  | 0 => .need (normA 0 slices_IndexFuncF_l0_kill e L = some (slices_IndexFuncF_l0_E v704 (gI (vAt e 8)))) (.call (slices_IndexFuncF_l0_g v704 (gI (vAt e 8))) fun x => .sum x (fun b0 => .leaf (slices_IndexFuncF_l0_X v704 (.inl b0))) (fun c0 => .leaf (slices_IndexFuncF_l0_X v704 (.inr c0))))
  | _ => .fail
noncomputable def slices_IndexFuncF_tab : List (FuncId × DFn × Bool) := [(113, impl_areFinite_1_F, true)]
theorem slices_IndexFuncF_hO : OrcOk Try.prog (tabD slices_IndexFuncF_tab) (tabM slices_IndexFuncF_tab) := tabD_cons impl_areFinite_1_Fok (tabD_nil _)
theorem slices_IndexFuncF_l0_be (v704 : List Nat) (s : Int) : bodyT TT (tabD slices_IndexFuncF_tab) (tabM slices_IndexFuncF_tab) (slices_IndexFuncF_LO v704) 0 slices_IndexFuncF_l0_kill slices_IndexFuncF_l0_nx (bodyOf Try.f152 0) 0 (slices_IndexFuncF_l0_E v704 s) = (slices_IndexFuncF_l0_T v704 s).bind fun y => .leaf (outS (slices_IndexFuncF_l0_E v704) (slices_IndexFuncF_l0_X v704) y) := by kernel_rfl
theorem slices_IndexFuncF_l0_ok (v704 : List Nat) : LSound Try.prog 0 (slices_IndexFuncF_LO v704) 0 (bodyOf Try.f152 0) := by
  intro e L out h
  exact lo_ok (E := slices_IndexFuncF_l0_E v704) (gT := slices_IndexFuncF_l0_T v704) (X := slices_IndexFuncF_l0_X v704) (s0 := (gI (vAt e 8))) tok slices_IndexFuncF_hO mixed (LoopsOk_eq (l := []) (by kernel_rfl) trivial) (slices_IndexFuncF_l0_be v704) rfl (by intro x; (cases x with | inl b => rfl | inr x => exact rfl)) h
noncomputable def slices_IndexFuncF_T (v704 : List Nat) : Tree (Int) :=
  (.need (some (slices_IndexFuncF_l0_E v704 (0 : Int)) = some (slices_IndexFuncF_l0_E v704 (0 : Int))) <|
  (.call (slices_IndexFuncF_l0_g v704 (0 : Int)) fun v714 =>
  (.sum v714 (fun v715 =>
   .leaf v715
  ) (fun v716 =>
   .leaf (-1 : Int)
  ))))

noncomputable def slices_IndexFuncF_g (v704 : List Nat) : Option (Int) := (slices_IndexFuncF_T v704).run
def slices_IndexFuncF_enc (v704 : List Nat) (y : Int) : Rs := (.int .i64 y, [])
theorem slices_IndexFuncF_den (v704 : List Nat) : (den TT (tabD slices_IndexFuncF_tab) (tabM slices_IndexFuncF_tab) (slices_IndexFuncF_LO v704) (codeOf Try.f152) ([.bslc (BR.root 0) (.f32 v704), .fn 113 []] ++ List.replicate (Try.f152.ntmps - ([.bslc (BR.root 0) (.f32 v704), .fn 113 []] : List DV).length) .undef) []).bind (retD TT Try.f152.results.toList 0) = (slices_IndexFuncF_T v704).bind fun y => .leaf (slices_IndexFuncF_enc v704 y) := by kernel_rfl
theorem slices_IndexFuncF_fn (v704 : List Nat) (F : Fr) (hm : F.ids.length = 0) (h0 : St F [] F.H0) (hA : DVs.Ok F [] [.bslc (BR.root 0) (.f32 v704), .fn 113 []]) {y : Int} (hy : slices_IndexFuncF_g v704 = some y) : ∃ H', FnOk Try.prog 152 (DVs.av F [.bslc (BR.root 0) (.f32 v704), .fn 113 []]) F.H0 ((slices_IndexFuncF_enc v704 y).1.av F) H' ∧ St F (slices_IndexFuncF_enc v704 y).2 H' ∧ (slices_IndexFuncF_enc v704 y).1.Ok F (slices_IndexFuncF_enc v704 y).2 :=
  fn_fin tok slices_IndexFuncF_hO mixed Try.func152 Try.call152 (by kernel_rfl) (LoopsOk_eq (l := [(0, bodyOf Try.f152 0)]) (by kernel_rfl) ⟨slices_IndexFuncF_l0_ok v704, trivial⟩) (slices_IndexFuncF_den v704) hy hm h0 hA
noncomputable def slices_IndexFuncF_F : DFn := fun args L =>
  match args with
  | [a1, .fn 113 []] =>
    optT (rowF32 L a1) fun v704 =>
    .call (slices_IndexFuncF_g v704) fun y => .leaf (.int .i64 y, L)
  | _ => .fail
theorem slices_IndexFuncF_Fok : COk Try.prog 152 slices_IndexFuncF_F true := by
  intro F L H args r L' hs ha hr
  unfold slices_IndexFuncF_F at hr
  split at hr
  · rename_i a1
    obtain ⟨v704, hv704, hr⟩ := optT_run hr
    simp only [Tree.run] at hr
    obtain ⟨y, hy, hr⟩ := Option.bind_eq_some_iff.1 hr
    simp only [Tree.run, Option.some.injEq, Prod.mk.injEq] at hr
    obtain ⟨rfl, rfl⟩ := hr
    exact call_ok0 hs (fun k => (([a1.av F] : List AV)[k]?).getD .top) [a1, .fn 113 []] [.bslc (BR.root 0) (.f32 v704), .fn 113 []] (fun F' h0 hi hρ => ⟨by simp [DVs.av, DV.av, BR.av, hρ], slices_IndexFuncF_fn v704 F' (by rw [hi]; rfl) (st_nil hi) ⟨bslc_ok hi (by rw [h0, hρ]; exact rowF32_ok hs (DVs.okAt ha 0 rfl) hv704), trivial, trivial⟩ hy⟩) rfl
  · cases hr
/-! slices.ContainsFunc[list of float32,float32] -/
noncomputable def slices_ContainsFuncF_LO (v703 : List Nat) : LOr := fun id e L =>
  match id with
  | _ => .fail
noncomputable def slices_ContainsFuncF_tab : List (FuncId × DFn × Bool) := [(152, slices_IndexFuncF_F, true)]
theorem slices_ContainsFuncF_hO : OrcOk Try.prog (tabD slices_ContainsFuncF_tab) (tabM slices_ContainsFuncF_tab) := tabD_cons slices_IndexFuncF_Fok (tabD_nil _)
noncomputable def slices_ContainsFuncF_T (v703 : List Nat) : Tree (Bool) :=
  (.call (slices_IndexFuncF_g v703) fun v717 =>
  .leaf (decide ((0 : Int) ≤ v717)))

noncomputable def slices_ContainsFuncF_g (v703 : List Nat) : Option (Bool) := (slices_ContainsFuncF_T v703).run
def slices_ContainsFuncF_enc (v703 : List Nat) (y : Bool) : Rs := (.bool y, [])
theorem slices_ContainsFuncF_den (v703 : List Nat) : (den TT (tabD slices_ContainsFuncF_tab) (tabM slices_ContainsFuncF_tab) (slices_ContainsFuncF_LO v703) (codeOf Try.f107) ([.bslc (BR.root 0) (.f32 v703), .fn 113 []] ++ List.replicate (Try.f107.ntmps - ([.bslc (BR.root 0) (.f32 v703), .fn 113 []] : List DV).length) .undef) []).bind (retD TT Try.f107.results.toList 0) = (slices_ContainsFuncF_T v703).bind fun y => .leaf (slices_ContainsFuncF_enc v703 y) := by kernel_rfl
theorem slices_ContainsFuncF_fn (v703 : List Nat) (F : Fr) (hm : F.ids.length = 0) (h0 : St F [] F.H0) (hA : DVs.Ok F [] [.bslc (BR.root 0) (.f32 v703), .fn 113 []]) {y : Bool} (hy : slices_ContainsFuncF_g v703 = some y) : ∃ H', FnOk Try.prog 107 (DVs.av F [.bslc (BR.root 0) (.f32 v703), .fn 113 []]) F.H0 ((slices_ContainsFuncF_enc v703 y).1.av F) H' ∧ St F (slices_ContainsFuncF_enc v703 y).2 H' ∧ (slices_ContainsFuncF_enc v703 y).1.Ok F (slices_ContainsFuncF_enc v703 y).2 :=
  fn_fin tok slices_ContainsFuncF_hO mixed Try.func107 Try.call107 (by kernel_rfl) (LoopsOk_eq (l := []) (by kernel_rfl) trivial) (slices_ContainsFuncF_den v703) hy hm h0 hA
noncomputable def slices_ContainsFuncF_F : DFn := fun args L =>
  match args with
  | [a1, .fn 113 []] =>
    optT (rowF32 L a1) fun v703 =>
    .call (slices_ContainsFuncF_g v703) fun y => .leaf (.bool y, L)
  | _ => .fail
theorem slices_ContainsFuncF_Fok : COk Try.prog 107 slices_ContainsFuncF_F true := by
  intro F L H args r L' hs ha hr
  unfold slices_ContainsFuncF_F at hr
  split at hr
  · rename_i a1
    obtain ⟨v703, hv703, hr⟩ := optT_run hr
    simp only [Tree.run] at hr
    obtain ⟨y, hy, hr⟩ := Option.bind_eq_some_iff.1 hr
    simp only [Tree.run, Option.some.injEq, Prod.mk.injEq] at hr
    obtain ⟨rfl, rfl⟩ := hr
    exact call_ok0 hs (fun k => (([a1.av F] : List AV)[k]?).getD .top) [a1, .fn 113 []] [.bslc (BR.root 0) (.f32 v703), .fn 113 []] (fun F' h0 hi hρ => ⟨by simp [DVs.av, DV.av, BR.av, hρ], slices_ContainsFuncF_fn v703 F' (by rw [hi]; rfl) (st_nil hi) ⟨bslc_ok hi (by rw [h0, hρ]; exact rowF32_ok hs (DVs.okAt ha 0 rfl) hv703), trivial, trivial⟩ hy⟩) rfl
  · cases hr
/-! impl.areFinite -/
noncomputable def impl_areFinite_LO (v702 : List Nat) : LOr := fun id e L =>
  match id with
  | _ => .fail
noncomputable def impl_areFinite_tab : List (FuncId × DFn × Bool) := [(107, slices_ContainsFuncF_F, true)]
theorem impl_areFinite_hO : OrcOk Try.prog (tabD impl_areFinite_tab) (tabM impl_areFinite_tab) := tabD_cons slices_ContainsFuncF_Fok (tabD_nil _)
noncomputable def impl_areFinite_T (v702 : List Nat) : Tree (Bool) :=
  (.call (slices_ContainsFuncF_g v702) fun v718 =>
  .leaf (!v718))

noncomputable def impl_areFinite_g (v702 : List Nat) : Option (Bool) := (impl_areFinite_T v702).run
def impl_areFinite_enc (v702 : List Nat) (y : Bool) : Rs := (.bool y, [])
theorem impl_areFinite_den (v702 : List Nat) : (den TT (tabD impl_areFinite_tab) (tabM impl_areFinite_tab) (impl_areFinite_LO v702) (codeOf Try.f42) ([.bslc (BR.root 0) (.f32 v702)] ++ List.replicate (Try.f42.ntmps - ([.bslc (BR.root 0) (.f32 v702)] : List DV).length) .undef) []).bind (retD TT Try.f42.results.toList 0) = (impl_areFinite_T v702).bind fun y => .leaf (impl_areFinite_enc v702 y) := by kernel_rfl
theorem impl_areFinite_fn (v702 : List Nat) (F : Fr) (hm : F.ids.length = 0) (h0 : St F [] F.H0) (hA : DVs.Ok F [] [.bslc (BR.root 0) (.f32 v702)]) {y : Bool} (hy : impl_areFinite_g v702 = some y) : ∃ H', FnOk Try.prog 42 (DVs.av F [.bslc (BR.root 0) (.f32 v702)]) F.H0 ((impl_areFinite_enc v702 y).1.av F) H' ∧ St F (impl_areFinite_enc v702 y).2 H' ∧ (impl_areFinite_enc v702 y).1.Ok F (impl_areFinite_enc v702 y).2 :=
  fn_fin tok impl_areFinite_hO mixed Try.func42 Try.call42 (by kernel_rfl) (LoopsOk_eq (l := []) (by kernel_rfl) trivial) (impl_areFinite_den v702) hy hm h0 hA
noncomputable def impl_areFinite_F : DFn := fun args L =>
  match args with
  | [a1] =>
    optT (rowF32 L a1) fun v702 =>
    .call (impl_areFinite_g v702) fun y => .leaf (.bool y, L)
  | _ => .fail
theorem impl_areFinite_Fok : COk Try.prog 42 impl_areFinite_F true := by
  intro F L H args r L' hs ha hr
  unfold impl_areFinite_F at hr
  split at hr
  · rename_i a1
    obtain ⟨v702, hv702, hr⟩ := optT_run hr
    simp only [Tree.run] at hr
    obtain ⟨y, hy, hr⟩ := Option.bind_eq_some_iff.1 hr
    simp only [Tree.run, Option.some.injEq, Prod.mk.injEq] at hr
    obtain ⟨rfl, rfl⟩ := hr
    exact call_ok0 hs (fun k => (([a1.av F] : List AV)[k]?).getD .top) [a1] [.bslc (BR.root 0) (.f32 v702)] (fun F' h0 hi hρ => ⟨by simp [DVs.av, DV.av, BR.av, hρ], impl_areFinite_fn v702 F' (by rw [hi]; rfl) (st_nil hi) ⟨bslc_ok hi (by rw [h0, hρ]; exact rowF32_ok hs (DVs.okAt ha 0 rfl) hv702), trivial⟩ hy⟩) rfl
  · cases hr
/-! impl.ValidMatrix -/
noncomputable def impl_ValidMatrix_LO (v694 : Int) (v695 : Int) (v696 : List Nat) : LOr := fun id e L =>
  match id with
  | _ => .fail
noncomputable def impl_ValidMatrix_tab : List (FuncId × DFn × Bool) := [(146, impl_isSide_F, true), (82, impl_lengthF_F, true), (42, impl_areFinite_F, true)]
theorem impl_ValidMatrix_hO : OrcOk Try.prog (tabD impl_ValidMatrix_tab) (tabM impl_ValidMatrix_tab) := tabD_cons impl_isSide_Fok (tabD_cons impl_lengthF_Fok (tabD_cons impl_areFinite_Fok (tabD_nil _)))
noncomputable def impl_ValidMatrix_T (v694 : Int) (v695 : Int) (v696 : List Nat) : Tree (Bool) :=
  (.br (impl_isSide_v v694) (
   (.br (impl_isSide_v v695) (
    (.br (decide ((impl_lengthF_v v696) = IntKind.i64.wrap (v694 * v695))) (
     (.call (impl_areFinite_g v696) fun v719 =>
     .leaf v719)
    ) (
     .leaf false
    ))
   ) (
    .leaf false
   ))
  ) (
   .leaf false
  ))

noncomputable def impl_ValidMatrix_g (v694 : Int) (v695 : Int) (v696 : List Nat) : Option (Bool) := (impl_ValidMatrix_T v694 v695 v696).run
def impl_ValidMatrix_enc (v694 : Int) (v695 : Int) (v696 : List Nat) (y : Bool) : Rs := (.bool y, [])
theorem impl_ValidMatrix_den (v694 : Int) (v695 : Int) (v696 : List Nat) : (den TT (tabD impl_ValidMatrix_tab) (tabM impl_ValidMatrix_tab) (impl_ValidMatrix_LO v694 v695 v696) (codeOf Try.f102) ([.agg [.int .i64 v694, .int .i64 v695, .bslc (BR.root 0) (.f32 v696)]] ++ List.replicate (Try.f102.ntmps - ([.agg [.int .i64 v694, .int .i64 v695, .bslc (BR.root 0) (.f32 v696)]] : List DV).length) .undef) []).bind (retD TT Try.f102.results.toList 0) = (impl_ValidMatrix_T v694 v695 v696).bind fun y => .leaf (impl_ValidMatrix_enc v694 v695 v696 y) := by kernel_rfl
theorem impl_ValidMatrix_fn (v694 : Int) (v695 : Int) (v696 : List Nat) (F : Fr) (hm : F.ids.length = 0) (h0 : St F [] F.H0) (hA : DVs.Ok F [] [.agg [.int .i64 v694, .int .i64 v695, .bslc (BR.root 0) (.f32 v696)]]) {y : Bool} (hy : impl_ValidMatrix_g v694 v695 v696 = some y) : ∃ H', FnOk Try.prog 102 (DVs.av F [.agg [.int .i64 v694, .int .i64 v695, .bslc (BR.root 0) (.f32 v696)]]) F.H0 ((impl_ValidMatrix_enc v694 v695 v696 y).1.av F) H' ∧ St F (impl_ValidMatrix_enc v694 v695 v696 y).2 H' ∧ (impl_ValidMatrix_enc v694 v695 v696 y).1.Ok F (impl_ValidMatrix_enc v694 v695 v696 y).2 :=
  fn_fin tok impl_ValidMatrix_hO mixed Try.func102 Try.call102 (by kernel_rfl) (LoopsOk_eq (l := []) (by kernel_rfl) trivial) (impl_ValidMatrix_den v694 v695 v696) hy hm h0 hA
noncomputable def impl_ValidMatrix_F : DFn := fun args L =>
  match args with
  | [.agg [.int .i64 v694, .int .i64 v695, a1]] =>
    optT (rowF32 L a1) fun v696 =>
    .call (impl_ValidMatrix_g v694 v695 v696) fun y => .leaf (.bool y, L)
  | _ => .fail
theorem impl_ValidMatrix_Fok : COk Try.prog 102 impl_ValidMatrix_F true := by
  intro F L H args r L' hs ha hr
  unfold impl_ValidMatrix_F at hr
  split at hr
  · rename_i v694 v695 a1
    obtain ⟨v696, hv696, hr⟩ := optT_run hr
    simp only [Tree.run] at hr
    obtain ⟨y, hy, hr⟩ := Option.bind_eq_some_iff.1 hr
    simp only [Tree.run, Option.some.injEq, Prod.mk.injEq] at hr
    obtain ⟨rfl, rfl⟩ := hr
    exact call_ok0 hs (fun k => (([a1.av F] : List AV)[k]?).getD .top) [.agg [.int .i64 v694, .int .i64 v695, a1]] [.agg [.int .i64 v694, .int .i64 v695, .bslc (BR.root 0) (.f32 v696)]] (fun F' h0 hi hρ => ⟨by simp [DVs.av, DV.av, BR.av, hρ], impl_ValidMatrix_fn v694 v695 v696 F' (by rw [hi]; rfl) (st_nil hi) ⟨⟨trivial, trivial, bslc_ok hi (by rw [h0, hρ]; exact rowF32_ok hs (DVs.okAt (DVs.okAt ha 0 rfl) 2 rfl) hv696), trivial⟩, trivial⟩ hy⟩) rfl
  · cases hr
/-! impl.isSquare -/
noncomputable def impl_isSquare_LO (v691 : Int) (v692 : Int) (v693 : List Nat) : LOr := fun id e L =>
  match id with
  | _ => .fail
noncomputable def impl_isSquare_tab : List (FuncId × DFn × Bool) := [(102, impl_ValidMatrix_F, true)]
theorem impl_isSquare_hO : OrcOk Try.prog (tabD impl_isSquare_tab) (tabM impl_isSquare_tab) := tabD_cons impl_ValidMatrix_Fok (tabD_nil _)
noncomputable def impl_isSquare_T (v691 : Int) (v692 : Int) (v693 : List Nat) : Tree (Bool) :=
  (.call (impl_ValidMatrix_g v691 v692 v693) fun v720 =>
  (.br v720 (
   .leaf (decide (v691 = v692))
  ) (
   .leaf false
  )))

noncomputable def impl_isSquare_g (v691 : Int) (v692 : Int) (v693 : List Nat) : Option (Bool) := (impl_isSquare_T v691 v692 v693).run
def impl_isSquare_enc (v691 : Int) (v692 : Int) (v693 : List Nat) (y : Bool) : Rs := (.bool y, [])
theorem impl_isSquare_den (v691 : Int) (v692 : Int) (v693 : List Nat) : (den TT (tabD impl_isSquare_tab) (tabM impl_isSquare_tab) (impl_isSquare_LO v691 v692 v693) (codeOf Try.f47) ([.agg [.int .i64 v691, .int .i64 v692, .bslc (BR.root 0) (.f32 v693)]] ++ List.replicate (Try.f47.ntmps - ([.agg [.int .i64 v691, .int .i64 v692, .bslc (BR.root 0) (.f32 v693)]] : List DV).length) .undef) []).bind (retD TT Try.f47.results.toList 0) = (impl_isSquare_T v691 v692 v693).bind fun y => .leaf (impl_isSquare_enc v691 v692 v693 y) := by kernel_rfl
theorem impl_isSquare_fn (v691 : Int) (v692 : Int) (v693 : List Nat) (F : Fr) (hm : F.ids.length = 0) (h0 : St F [] F.H0) (hA : DVs.Ok F [] [.agg [.int .i64 v691, .int .i64 v692, .bslc (BR.root 0) (.f32 v693)]]) {y : Bool} (hy : impl_isSquare_g v691 v692 v693 = some y) : ∃ H', FnOk Try.prog 47 (DVs.av F [.agg [.int .i64 v691, .int .i64 v692, .bslc (BR.root 0) (.f32 v693)]]) F.H0 ((impl_isSquare_enc v691 v692 v693 y).1.av F) H' ∧ St F (impl_isSquare_enc v691 v692 v693 y).2 H' ∧ (impl_isSquare_enc v691 v692 v693 y).1.Ok F (impl_isSquare_enc v691 v692 v693 y).2 :=
  fn_fin tok impl_isSquare_hO mixed Try.func47 Try.call47 (by kernel_rfl) (LoopsOk_eq (l := []) (by kernel_rfl) trivial) (impl_isSquare_den v691 v692 v693) hy hm h0 hA
noncomputable def impl_isSquare_F : DFn := fun args L =>
  match args with
  | [.agg [.int .i64 v691, .int .i64 v692, a1]] =>
    optT (rowF32 L a1) fun v693 =>
    .call (impl_isSquare_g v691 v692 v693) fun y => .leaf (.bool y, L)
  | _ => .fail
theorem impl_isSquare_Fok : COk Try.prog 47 impl_isSquare_F true := by
  intro F L H args r L' hs ha hr
  unfold impl_isSquare_F at hr
  split at hr
  · rename_i v691 v692 a1
    obtain ⟨v693, hv693, hr⟩ := optT_run hr
    simp only [Tree.run] at hr
    obtain ⟨y, hy, hr⟩ := Option.bind_eq_some_iff.1 hr
    simp only [Tree.run, Option.some.injEq, Prod.mk.injEq] at hr
    obtain ⟨rfl, rfl⟩ := hr
    exact call_ok0 hs (fun k => (([a1.av F] : List AV)[k]?).getD .top) [.agg [.int .i64 v691, .int .i64 v692, a1]] [.agg [.int .i64 v691, .int .i64 v692, .bslc (BR.root 0) (.f32 v693)]] (fun F' h0 hi hρ => ⟨by simp [DVs.av, DV.av, BR.av, hρ], impl_isSquare_fn v691 v692 v693 F' (by rw [hi]; rfl) (st_nil hi) ⟨⟨trivial, trivial, bslc_ok hi (by rw [h0, hρ]; exact rowF32_ok hs (DVs.okAt (DVs.okAt ha 0 rfl) 2 rfl) hv693), trivial⟩, trivial⟩ hy⟩) rfl
  · cases hr
/-! impl.newMatrix -/
noncomputable def impl_newMatrix_LO (v722 : Int) (v723 : Int) : LOr := fun id e L =>
  match id with
  | _ => .fail
noncomputable def impl_newMatrix_tab : List (FuncId × DFn × Bool) := []
theorem impl_newMatrix_hO : OrcOk Try.prog (tabD impl_newMatrix_tab) (tabM impl_newMatrix_tab) := tabD_nil _
noncomputable def impl_newMatrix_T (v722 : Int) (v723 : Int) : Tree (Int × Int) :=
  (.need (IntKind.i64.wrap (v722 * v723) = IntKind.i64.wrap (v722 * v723)) <|
  (.grd (inb (IntKind.i64.wrap (v722 * v723)) (maxN + 1)) <|
  .leaf (v722, v723)))

noncomputable def impl_newMatrix_g (v722 : Int) (v723 : Int) : Option (Int × Int) := (impl_newMatrix_T v722 v723).run
def impl_newMatrix_enc (v722 : Int) (v723 : Int) (y : Int × Int) : Rs := (.agg [.int .i64 y.1, .int .i64 y.2, .own 0 0 ((List.replicate (Int.toNat (IntKind.i64.wrap (v722 * v723))) (0 : Nat)).length)], [.row (.f32 (List.replicate (Int.toNat (IntKind.i64.wrap (v722 * v723))) (0 : Nat))) 0])
theorem impl_newMatrix_den (v722 : Int) (v723 : Int) : (den TT (tabD impl_newMatrix_tab) (tabM impl_newMatrix_tab) (impl_newMatrix_LO v722 v723) (codeOf Try.f48) ([.int .i64 v722, .int .i64 v723] ++ List.replicate (Try.f48.ntmps - ([.int .i64 v722, .int .i64 v723] : List DV).length) .undef) []).bind (retD TT Try.f48.results.toList 0) = (impl_newMatrix_T v722 v723).bind fun y => .leaf (impl_newMatrix_enc v722 v723 y) := by kernel_rfl
theorem impl_newMatrix_fn (v722 : Int) (v723 : Int) (F : Fr) (hm : F.ids.length = 0) (h0 : St F [] F.H0) (hA : DVs.Ok F [] [.int .i64 v722, .int .i64 v723]) {y : Int × Int} (hy : impl_newMatrix_g v722 v723 = some y) : ∃ H', FnOk Try.prog 48 (DVs.av F [.int .i64 v722, .int .i64 v723]) F.H0 ((impl_newMatrix_enc v722 v723 y).1.av F) H' ∧ St F (impl_newMatrix_enc v722 v723 y).2 H' ∧ (impl_newMatrix_enc v722 v723 y).1.Ok F (impl_newMatrix_enc v722 v723 y).2 :=
  fn_fin tok impl_newMatrix_hO mixed Try.func48 Try.call48 (by kernel_rfl) (LoopsOk_eq (l := []) (by kernel_rfl) trivial) (impl_newMatrix_den v722 v723) hy hm h0 hA
noncomputable def impl_newMatrix_F : DFn := fun args L =>
  match args with
  | [.int .i64 v722, .int .i64 v723] =>
    .call (impl_newMatrix_g v722 v723) fun y => .leaf (.agg [.int .i64 y.1, .int .i64 y.2, .own (L.length + 0) 0 ((List.replicate (Int.toNat (IntKind.i64.wrap (v722 * v723))) (0 : Nat)).length)], L ++ [.row (.f32 (List.replicate (Int.toNat (IntKind.i64.wrap (v722 * v723))) (0 : Nat))) 0])
  | _ => .fail
theorem impl_newMatrix_Fok : COk Try.prog 48 impl_newMatrix_F true := by
  intro F L H args r L' hs ha hr
  unfold impl_newMatrix_F at hr
  split at hr
  · rename_i v722 v723
    simp only [Tree.run] at hr
    obtain ⟨y, hy, hr⟩ := Option.bind_eq_some_iff.1 hr
    simp only [Tree.run, Option.some.injEq, Prod.mk.injEq] at hr
    obtain ⟨rfl, rfl⟩ := hr
    exact call_ok1 hs (fun k => (([] : List AV)[k]?).getD .top) [.int .i64 v722, .int .i64 v723] [.int .i64 v722, .int .i64 v723] (fun F' h0 hi hρ => ⟨by simp [DVs.av, DV.av, BR.av, hρ], impl_newMatrix_fn v722 v723 F' (by rw [hi]; rfl) (st_nil hi) ⟨trivial, trivial, trivial⟩ hy⟩) rfl rfl
  · cases hr
/-! (impl.Matrix).at -/
noncomputable def impl_Matrix_at_LO (v733 : Int) (v734 : Int) (v735 : List Nat) (v736 : Int) (v737 : Int) : LOr := fun id e L =>
  match id with
  | _ => .fail
noncomputable def impl_Matrix_at_tab : List (FuncId × DFn × Bool) := []
theorem impl_Matrix_at_hO : OrcOk Try.prog (tabD impl_Matrix_at_tab) (tabM impl_Matrix_at_tab) := tabD_nil _
noncomputable def impl_Matrix_at_T (v734 : Int) (v735 : List Nat) (v736 : Int) (v737 : Int) : Tree (Nat) :=
  (.grd (inb (IntKind.i64.wrap ((IntKind.i64.wrap (v736 * v734)) + v737)) v735.length) <|
  .leaf (nth v735 (Int.toNat (IntKind.i64.wrap ((IntKind.i64.wrap (v736 * v734)) + v737)))))

noncomputable def impl_Matrix_at_g (v734 : Int) (v735 : List Nat) (v736 : Int) (v737 : Int) : Option (Nat) := (impl_Matrix_at_T v734 v735 v736 v737).run
def impl_Matrix_at_enc (v733 : Int) (v734 : Int) (v735 : List Nat) (v736 : Int) (v737 : Int) (y : Nat) : Rs := (.flt .f32 y, [])
theorem impl_Matrix_at_den (v733 : Int) (v734 : Int) (v735 : List Nat) (v736 : Int) (v737 : Int) : (den TT (tabD impl_Matrix_at_tab) (tabM impl_Matrix_at_tab) (impl_Matrix_at_LO v733 v734 v735 v736 v737) (codeOf Try.f49) ([.agg [.int .i64 v733, .int .i64 v734, .bslc (BR.root 0) (.f32 v735)], .int .i64 v736, .int .i64 v737] ++ List.replicate (Try.f49.ntmps - ([.agg [.int .i64 v733, .int .i64 v734, .bslc (BR.root 0) (.f32 v735)], .int .i64 v736, .int .i64 v737] : List DV).length) .undef) []).bind (retD TT Try.f49.results.toList 0) = (impl_Matrix_at_T v734 v735 v736 v737).bind fun y => .leaf (impl_Matrix_at_enc v733 v734 v735 v736 v737 y) := by kernel_rfl
theorem impl_Matrix_at_fn (v733 : Int) (v734 : Int) (v735 : List Nat) (v736 : Int) (v737 : Int) (F : Fr) (hm : F.ids.length = 0) (h0 : St F [] F.H0) (hA : DVs.Ok F [] [.agg [.int .i64 v733, .int .i64 v734, .bslc (BR.root 0) (.f32 v735)], .int .i64 v736, .int .i64 v737]) {y : Nat} (hy : impl_Matrix_at_g v734 v735 v736 v737 = some y) : ∃ H', FnOk Try.prog 49 (DVs.av F [.agg [.int .i64 v733, .int .i64 v734, .bslc (BR.root 0) (.f32 v735)], .int .i64 v736, .int .i64 v737]) F.H0 ((impl_Matrix_at_enc v733 v734 v735 v736 v737 y).1.av F) H' ∧ St F (impl_Matrix_at_enc v733 v734 v735 v736 v737 y).2 H' ∧ (impl_Matrix_at_enc v733 v734 v735 v736 v737 y).1.Ok F (impl_Matrix_at_enc v733 v734 v735 v736 v737 y).2 :=
  fn_fin tok impl_Matrix_at_hO mixed Try.func49 Try.call49 (by kernel_rfl) (LoopsOk_eq (l := []) (by kernel_rfl) trivial) (impl_Matrix_at_den v733 v734 v735 v736 v737) hy hm h0 hA
noncomputable def impl_Matrix_at_F : DFn := fun args L =>
  match args with
  | [.agg [.int .i64 v733, .int .i64 v734, a1], .int .i64 v736, .int .i64 v737] =>
    optT (rowF32 L a1) fun v735 =>
    .call (impl_Matrix_at_g v734 v735 v736 v737) fun y => .leaf (.flt .f32 y, L)
  | _ => .fail
theorem impl_Matrix_at_Fok : COk Try.prog 49 impl_Matrix_at_F true := by
  intro F L H args r L' hs ha hr
  unfold impl_Matrix_at_F at hr
  split at hr
  · rename_i v733 v734 a1 v736 v737
    obtain ⟨v735, hv735, hr⟩ := optT_run hr
    simp only [Tree.run] at hr
    obtain ⟨y, hy, hr⟩ := Option.bind_eq_some_iff.1 hr
    simp only [Tree.run, Option.some.injEq, Prod.mk.injEq] at hr
    obtain ⟨rfl, rfl⟩ := hr
    exact call_ok0 hs (fun k => (([a1.av F] : List AV)[k]?).getD .top) [.agg [.int .i64 v733, .int .i64 v734, a1], .int .i64 v736, .int .i64 v737] [.agg [.int .i64 v733, .int .i64 v734, .bslc (BR.root 0) (.f32 v735)], .int .i64 v736, .int .i64 v737] (fun F' h0 hi hρ => ⟨by simp [DVs.av, DV.av, BR.av, hρ], impl_Matrix_at_fn v733 v734 v735 v736 v737 F' (by rw [hi]; rfl) (st_nil hi) ⟨⟨trivial, trivial, bslc_ok hi (by rw [h0, hρ]; exact rowF32_ok hs (DVs.okAt (DVs.okAt ha 0 rfl) 2 rfl) hv735), trivial⟩, trivial, trivial, trivial⟩ hy⟩) rfl
  · cases hr
/-! impl.mul -/
noncomputable def impl_mul_LO (v748 : Nat) (v749 : Nat) : LOr := fun id e L =>
  match id with
  | _ => .fail
noncomputable def impl_mul_tab : List (FuncId × DFn × Bool) := []
theorem impl_mul_hO : OrcOk Try.prog (tabD impl_mul_tab) (tabM impl_mul_tab) := tabD_nil _
noncomputable def impl_mul_T (v748 : Nat) (v749 : Nat) : Tree (Nat) :=
  .leaf (fmul .f32 v748 v749)

noncomputable def impl_mul_g (v748 : Nat) (v749 : Nat) : Option (Nat) := (impl_mul_T v748 v749).run
def impl_mul_enc (v748 : Nat) (v749 : Nat) (y : Nat) : Rs := (.flt .f32 y, [])
theorem impl_mul_den (v748 : Nat) (v749 : Nat) : (den TT (tabD impl_mul_tab) (tabM impl_mul_tab) (impl_mul_LO v748 v749) (codeOf Try.f50) ([.flt .f32 v748, .flt .f32 v749] ++ List.replicate (Try.f50.ntmps - ([.flt .f32 v748, .flt .f32 v749] : List DV).length) .undef) []).bind (retD TT Try.f50.results.toList 0) = (impl_mul_T v748 v749).bind fun y => .leaf (impl_mul_enc v748 v749 y) := by kernel_rfl
theorem impl_mul_fn (v748 : Nat) (v749 : Nat) (F : Fr) (hm : F.ids.length = 0) (h0 : St F [] F.H0) (hA : DVs.Ok F [] [.flt .f32 v748, .flt .f32 v749]) {y : Nat} (hy : impl_mul_g v748 v749 = some y) : ∃ H', FnOk Try.prog 50 (DVs.av F [.flt .f32 v748, .flt .f32 v749]) F.H0 ((impl_mul_enc v748 v749 y).1.av F) H' ∧ St F (impl_mul_enc v748 v749 y).2 H' ∧ (impl_mul_enc v748 v749 y).1.Ok F (impl_mul_enc v748 v749 y).2 :=
  fn_fin tok impl_mul_hO mixed Try.func50 Try.call50 (by kernel_rfl) (LoopsOk_eq (l := []) (by kernel_rfl) trivial) (impl_mul_den v748 v749) hy hm h0 hA
def impl_mul_v (v748 : Nat) (v749 : Nat) : Nat :=
  fmul .f32 v748 v749
theorem impl_mul_tot (v748 : Nat) (v749 : Nat) : impl_mul_g v748 v749 = some (impl_mul_v v748 v749) := by
  unfold impl_mul_g impl_mul_T impl_mul_v
  simp only [Tree.run]
  repeat' (first | rfl | split)
noncomputable def impl_mul_F : DFn := fun args L =>
  match args with
  | [.flt .f32 v748, .flt .f32 v749] =>
    .leaf (.flt .f32 (impl_mul_v v748 v749), L)
  | _ => .fail
theorem impl_mul_Fok : COk Try.prog 50 impl_mul_F true := by
  intro F L H args r L' hs ha hr
  unfold impl_mul_F at hr
  split at hr
  · rename_i v748 v749
    have hy := impl_mul_tot v748 v749
    generalize impl_mul_v v748 v749 = y at hy hr
    simp only [Tree.run, Option.some.injEq, Prod.mk.injEq] at hr
    obtain ⟨rfl, rfl⟩ := hr
    exact call_ok0 hs (fun k => (([] : List AV)[k]?).getD .top) [.flt .f32 v748, .flt .f32 v749] [.flt .f32 v748, .flt .f32 v749] (fun F' h0 hi hρ => ⟨by simp [DVs.av, DV.av, BR.av, hρ], impl_mul_fn v748 v749 F' (by rw [hi]; rfl) (st_nil hi) ⟨trivial, trivial, trivial⟩ hy⟩) rfl
  · cases hr
/-! (impl.Matrix).set -/
noncomputable def impl_Matrix_set_LO (v776 : Int) (v777 : Int) (v778 : List Nat) (v779 : Int) (v780 : Int) (v781 : Nat) : LOr := fun id e L =>
  match id with
  | _ => .fail
noncomputable def impl_Matrix_set_tab : List (FuncId × DFn × Bool) := []
theorem impl_Matrix_set_hO : OrcOk Try.prog (tabD impl_Matrix_set_tab) (tabM impl_Matrix_set_tab) := tabD_nil _
noncomputable def impl_Matrix_set_T (v777 : Int) (v778 : List Nat) (v779 : Int) (v780 : Int) : Tree (Unit) :=
  (.grd (inb (IntKind.i64.wrap ((IntKind.i64.wrap (v779 * v777)) + v780)) v778.length) <|
  .leaf ())

noncomputable def impl_Matrix_set_g (v777 : Int) (v778 : List Nat) (v779 : Int) (v780 : Int) : Option (Unit) := (impl_Matrix_set_T v777 v778 v779 v780).run
def impl_Matrix_set_enc (v776 : Int) (v777 : Int) (v778 : List Nat) (v779 : Int) (v780 : Int) (v781 : Nat) (y : Unit) : Rs := (.tup [], [.row (.f32 (List.set v778 (Int.toNat (IntKind.i64.wrap ((IntKind.i64.wrap (v779 * v777)) + v780))) v781)) 0])
theorem impl_Matrix_set_den (v776 : Int) (v777 : Int) (v778 : List Nat) (v779 : Int) (v780 : Int) (v781 : Nat) : (den TT (tabD impl_Matrix_set_tab) (tabM impl_Matrix_set_tab) (impl_Matrix_set_LO v776 v777 v778 v779 v780 v781) (codeOf Try.f51) ([.agg [.int .i64 v776, .int .i64 v777, .own 0 0 v778.length], .int .i64 v779, .int .i64 v780, .flt .f32 v781] ++ List.replicate (Try.f51.ntmps - ([.agg [.int .i64 v776, .int .i64 v777, .own 0 0 v778.length], .int .i64 v779, .int .i64 v780, .flt .f32 v781] : List DV).length) .undef) [.row (.f32 v778) 0]).bind (retD TT Try.f51.results.toList 1) = (impl_Matrix_set_T v777 v778 v779 v780).bind fun y => .leaf (impl_Matrix_set_enc v776 v777 v778 v779 v780 v781 y) := by kernel_rfl
theorem impl_Matrix_set_fn (v776 : Int) (v777 : Int) (v778 : List Nat) (v779 : Int) (v780 : Int) (v781 : Nat) (F : Fr) (hm : F.ids.length = 1) (h0 : St F [.row (.f32 v778) 0] F.H0) (hA : DVs.Ok F [.row (.f32 v778) 0] [.agg [.int .i64 v776, .int .i64 v777, .own 0 0 v778.length], .int .i64 v779, .int .i64 v780, .flt .f32 v781]) {y : Unit} (hy : impl_Matrix_set_g v777 v778 v779 v780 = some y) : ∃ H', FnOk Try.prog 51 (DVs.av F [.agg [.int .i64 v776, .int .i64 v777, .own 0 0 v778.length], .int .i64 v779, .int .i64 v780, .flt .f32 v781]) F.H0 ((impl_Matrix_set_enc v776 v777 v778 v779 v780 v781 y).1.av F) H' ∧ St F (impl_Matrix_set_enc v776 v777 v778 v779 v780 v781 y).2 H' ∧ (impl_Matrix_set_enc v776 v777 v778 v779 v780 v781 y).1.Ok F (impl_Matrix_set_enc v776 v777 v778 v779 v780 v781 y).2 :=
  fn_fin tok impl_Matrix_set_hO mixed Try.func51 Try.call51 (by kernel_rfl) (LoopsOk_eq (l := []) (by kernel_rfl) trivial) (impl_Matrix_set_den v776 v777 v778 v779 v780 v781) hy hm h0 hA
noncomputable def impl_Matrix_set_F : DFn := fun args L =>
  match args with
  | [.agg [.int .i64 v776, .int .i64 v777, a1], .int .i64 v779, .int .i64 v780, .flt .f32 v781] =>
    optT (ownF32 L a1) fun qv778 =>
    (match sepB [qv778.1] [] with
    | true =>
    .call (impl_Matrix_set_g v777 qv778.2 v779 v780) fun y => .grd (decide ((List.set qv778.2 (Int.toNat (IntKind.i64.wrap ((IntKind.i64.wrap (v779 * v777)) + v780))) v781).length = qv778.2.length)) (.leaf (.tup [], setRows L ([qv778.1].zip [.f32 (List.set qv778.2 (Int.toNat (IntKind.i64.wrap ((IntKind.i64.wrap (v779 * v777)) + v780))) v781)])))
    | false => .fail)
  | _ => .fail
theorem impl_Matrix_set_Fok : COk Try.prog 51 impl_Matrix_set_F false := by
  intro F L H args r L' hs ha hr
  unfold impl_Matrix_set_F at hr
  split at hr
  · rename_i v776 v777 a1 v779 v780 v781
    obtain ⟨⟨jv778, v778⟩, hqv778, hr⟩ := optT_run hr
    simp only at hr
    split at hr
    · rename_i hsep
      obtain ⟨hnd, hsepv⟩ := sepB_spec hsep
      simp only [Tree.run] at hr
      obtain ⟨y, hy, hr⟩ := Option.bind_eq_some_iff.1 hr
      try simp only [Tree.run] at hr
      obtain ⟨hl0, hr⟩ := ite_run hr
      simp only [Option.some.injEq, Prod.mk.injEq] at hr
      obtain ⟨rfl, rfl⟩ := hr
      obtain ⟨hr0, hu0, ha0, hb0⟩ := (ownR_spec (DVs.okAt (DVs.okAt ha 0 rfl) 2 rfl) (ownF32_or hqv778))
      exact mut_ok hs (fun k => (([a1.av F] : List AV)[k]?).getD .top) [.agg [.int .i64 v776, .int .i64 v777, a1], .int .i64 v779, .int .i64 v780, .flt .f32 v781] [.agg [.int .i64 v776, .int .i64 v777, .own 0 0 v778.length], .int .i64 v779, .int .i64 v780, .flt .f32 v781] [jv778] [.f32 v778] [.f32 (List.set v778 (Int.toNat (IntKind.i64.wrap ((IntKind.i64.wrap (v779 * v777)) + v780))) v781)] hnd rfl rfl (fun i j q h1 h2 => by
          rcases i with _ | i
          · simp at h1 h2; subst h1; subst h2; exact hr0
          · simp at h1) (fun i q q' h1 h2 => by
          rcases i with _ | i
          · simp at h1 h2; subst h1; subst h2; exact of_decide_eq_true hl0
          · simp at h1) (fun j hj => by simp at hj; subst hj; simp [DVs.refs, DV.refs, hu0]) (fun F' h0 hi hρ hst hS => ⟨by (have ab0 : F'.abs 0 = F.abs jv778 := (by simp [Fr.abs, hi]); simp [DVs.av, DV.av, BR.av, hρ, Row.len, ha0, ab0]), by
          obtain ⟨H1, k1, k2, _⟩ := impl_Matrix_set_fn v776 v777 v778 v779 v780 v781 F' (by rw [hi]; rfl) hst ⟨⟨trivial, trivial, ⟨_, rfl, Nat.le_refl _, Nat.le_refl _, fun _ => rfl, (ownR_spec (DVs.okAt (DVs.okAt ha 0 rfl) 2 rfl) (ownF32_or hqv778)).2.2.2⟩, trivial⟩, trivial, trivial, trivial, trivial⟩ hy
          exact ⟨H1, k1, k2⟩⟩) (fun F' => rfl) (fun L' => trivial)
    · cases hr
  · cases hr
/-! impl.RootNumber -/
noncomputable def impl_RootNumber_LO (v783 : Nat) : LOr := fun id e L =>
  match id with
  | _ => .fail
noncomputable def impl_RootNumber_tab : List (FuncId × DFn × Bool) := [(117, math_Sqrt_F, true)]
theorem impl_RootNumber_hO : OrcOk Try.prog (tabD impl_RootNumber_tab) (tabM impl_RootNumber_tab) := tabD_cons math_Sqrt_Fok (tabD_nil _)
noncomputable def impl_RootNumber_T (v783 : Nat) : Tree (Nat) :=
  (.call (fconv .f64 (math_Sqrt_v (wid v783)) .f32) fun v784 =>
  .leaf v784)

noncomputable def impl_RootNumber_g (v783 : Nat) : Option (Nat) := (impl_RootNumber_T v783).run
def impl_RootNumber_enc (v783 : Nat) (y : Nat) : Rs := (.flt .f32 y, [])
theorem impl_RootNumber_den (v783 : Nat) : (den TT (tabD impl_RootNumber_tab) (tabM impl_RootNumber_tab) (impl_RootNumber_LO v783) (codeOf Try.f52) ([.flt .f32 v783] ++ List.replicate (Try.f52.ntmps - ([.flt .f32 v783] : List DV).length) .undef) []).bind (retD TT Try.f52.results.toList 0) = (impl_RootNumber_T v783).bind fun y => .leaf (impl_RootNumber_enc v783 y) := by kernel_rfl
theorem impl_RootNumber_fn (v783 : Nat) (F : Fr) (hm : F.ids.length = 0) (h0 : St F [] F.H0) (hA : DVs.Ok F [] [.flt .f32 v783]) {y : Nat} (hy : impl_RootNumber_g v783 = some y) : ∃ H', FnOk Try.prog 52 (DVs.av F [.flt .f32 v783]) F.H0 ((impl_RootNumber_enc v783 y).1.av F) H' ∧ St F (impl_RootNumber_enc v783 y).2 H' ∧ (impl_RootNumber_enc v783 y).1.Ok F (impl_RootNumber_enc v783 y).2 :=
  fn_fin tok impl_RootNumber_hO mixed Try.func52 Try.call52 (by kernel_rfl) (LoopsOk_eq (l := []) (by kernel_rfl) trivial) (impl_RootNumber_den v783) hy hm h0 hA
noncomputable def impl_RootNumber_F : DFn := fun args L =>
  match args with
  | [.flt .f32 v783] =>
    .call (impl_RootNumber_g v783) fun y => .leaf (.flt .f32 y, L)
  | _ => .fail
theorem impl_RootNumber_Fok : COk Try.prog 52 impl_RootNumber_F true := by
  intro F L H args r L' hs ha hr
  unfold impl_RootNumber_F at hr
  split at hr
  · rename_i v783
    simp only [Tree.run] at hr
    obtain ⟨y, hy, hr⟩ := Option.bind_eq_some_iff.1 hr
    simp only [Tree.run, Option.some.injEq, Prod.mk.injEq] at hr
    obtain ⟨rfl, rfl⟩ := hr
    exact call_ok0 hs (fun k => (([] : List AV)[k]?).getD .top) [.flt .f32 v783] [.flt .f32 v783] (fun F' h0 hi hρ => ⟨by simp [DVs.av, DV.av, BR.av, hρ], impl_RootNumber_fn v783 F' (by rw [hi]; rfl) (st_nil hi) ⟨trivial, trivial⟩ hy⟩) rfl
  · cases hr
/-! (impl.Matrix).valid -/
noncomputable def impl_Matrix_valid_LO (v1143 : Int) (v1144 : Int) (v1145 : List Nat) : LOr := fun id e L =>
  match id with
  | _ => .fail
noncomputable def impl_Matrix_valid_tab : List (FuncId × DFn × Bool) := [(102, impl_ValidMatrix_F, true)]
theorem impl_Matrix_valid_hO : OrcOk Try.prog (tabD impl_Matrix_valid_tab) (tabM impl_Matrix_valid_tab) := tabD_cons impl_ValidMatrix_Fok (tabD_nil _)
noncomputable def impl_Matrix_valid_T (v1143 : Int) (v1144 : Int) (v1145 : List Nat) : Tree ((Unit) ⊕ (Int × Int)) :=
  (.call (impl_ValidMatrix_g v1143 v1144 v1145) fun v1146 =>
  (.br (!v1146) (
   .leaf (.inl ())
  ) (
   .leaf (.inr (v1143, v1144))
  )))

noncomputable def impl_Matrix_valid_g (v1143 : Int) (v1144 : Int) (v1145 : List Nat) : Option ((Unit) ⊕ (Int × Int)) := (impl_Matrix_valid_T v1143 v1144 v1145).run
def impl_Matrix_valid_enc (v1143 : Int) (v1144 : Int) (v1145 : List Nat) (y : (Unit) ⊕ (Int × Int)) : Rs := (match y with | .inl y => (.tup [.agg [.int .i64 (0 : Int), .int .i64 (0 : Int), .nilslc], .lit false], []) | .inr y => (.tup [.agg [.int .i64 y.1, .int .i64 y.2, .bslc (BR.root 0) (.f32 v1145)], .lit true], []))
theorem impl_Matrix_valid_den (v1143 : Int) (v1144 : Int) (v1145 : List Nat) : (den TT (tabD impl_Matrix_valid_tab) (tabM impl_Matrix_valid_tab) (impl_Matrix_valid_LO v1143 v1144 v1145) (codeOf Try.f53) ([.agg [.int .i64 v1143, .int .i64 v1144, .bslc (BR.root 0) (.f32 v1145)]] ++ List.replicate (Try.f53.ntmps - ([.agg [.int .i64 v1143, .int .i64 v1144, .bslc (BR.root 0) (.f32 v1145)]] : List DV).length) .undef) []).bind (retD TT Try.f53.results.toList 0) = (impl_Matrix_valid_T v1143 v1144 v1145).bind fun y => .leaf (impl_Matrix_valid_enc v1143 v1144 v1145 y) := by kernel_rfl
theorem impl_Matrix_valid_fn (v1143 : Int) (v1144 : Int) (v1145 : List Nat) (F : Fr) (hm : F.ids.length = 0) (h0 : St F [] F.H0) (hA : DVs.Ok F [] [.agg [.int .i64 v1143, .int .i64 v1144, .bslc (BR.root 0) (.f32 v1145)]]) {y : (Unit) ⊕ (Int × Int)} (hy : impl_Matrix_valid_g v1143 v1144 v1145 = some y) : ∃ H', FnOk Try.prog 53 (DVs.av F [.agg [.int .i64 v1143, .int .i64 v1144, .bslc (BR.root 0) (.f32 v1145)]]) F.H0 ((impl_Matrix_valid_enc v1143 v1144 v1145 y).1.av F) H' ∧ St F (impl_Matrix_valid_enc v1143 v1144 v1145 y).2 H' ∧ (impl_Matrix_valid_enc v1143 v1144 v1145 y).1.Ok F (impl_Matrix_valid_enc v1143 v1144 v1145 y).2 :=
  fn_fin tok impl_Matrix_valid_hO mixed Try.func53 Try.call53 (by kernel_rfl) (LoopsOk_eq (l := []) (by kernel_rfl) trivial) (impl_Matrix_valid_den v1143 v1144 v1145) hy hm h0 hA
noncomputable def impl_Matrix_valid_F : DFn := fun args L =>
  match args with
  | [.agg [.int .i64 v1143, .int .i64 v1144, a1]] =>
    optT (rowF32 L a1) fun v1145 =>
    .call (impl_Matrix_valid_g v1143 v1144 v1145) fun y => .sum y (fun y0 => .leaf (.tup [.agg [.int .i64 (0 : Int), .int .i64 (0 : Int), .nilslc], .lit false], L)) (fun z0 => .leaf (.tup [.agg [.int .i64 z0.1, .int .i64 z0.2, a1], .lit true], L))
  | _ => .fail
theorem impl_Matrix_valid_Fok : COk Try.prog 53 impl_Matrix_valid_F true := by
  intro F L H args r L' hs ha hr
  unfold impl_Matrix_valid_F at hr
  split at hr
  · rename_i v1143 v1144 a1
    obtain ⟨v1145, hv1145, hr⟩ := optT_run hr
    simp only [Tree.run] at hr
    obtain ⟨y, hy, hr⟩ := Option.bind_eq_some_iff.1 hr
    cases y with
    | inl y =>
      simp only [Tree.run, Option.some.injEq, Prod.mk.injEq] at hr
      obtain ⟨rfl, rfl⟩ := hr
      exact call_ok0 hs (fun k => (([a1.av F] : List AV)[k]?).getD .top) [.agg [.int .i64 v1143, .int .i64 v1144, a1]] [.agg [.int .i64 v1143, .int .i64 v1144, .bslc (BR.root 0) (.f32 v1145)]] (fun F' h0 hi hρ => ⟨by simp [DVs.av, DV.av, BR.av, hρ], impl_Matrix_valid_fn v1143 v1144 v1145 F' (by rw [hi]; rfl) (st_nil hi) ⟨⟨trivial, trivial, bslc_ok hi (by rw [h0, hρ]; exact rowF32_ok hs (DVs.okAt (DVs.okAt ha 0 rfl) 2 rfl) hv1145), trivial⟩, trivial⟩ hy⟩) rfl
    | inr y =>
      simp only [Tree.run, Option.some.injEq, Prod.mk.injEq] at hr
      obtain ⟨rfl, rfl⟩ := hr
      exact call_al0 hs (fun k => (([a1.av F] : List AV)[k]?).getD .top) [.agg [.int .i64 v1143, .int .i64 v1144, a1]] [.agg [.int .i64 v1143, .int .i64 v1144, .bslc (BR.root 0) (.f32 v1145)]] (fun F' h0 hi hρ => ⟨by simp [DVs.av, DV.av, BR.av, hρ], impl_Matrix_valid_fn v1143 v1144 v1145 F' (by rw [hi]; rfl) (st_nil hi) ⟨⟨trivial, trivial, bslc_ok hi (by rw [h0, hρ]; exact rowF32_ok hs (DVs.okAt (DVs.okAt ha 0 rfl) 2 rfl) hv1145), trivial⟩, trivial⟩ hy⟩) (fun F' h0 hi hρ => by simp [impl_Matrix_valid_enc, DVs.av, DV.av, BR.av, hρ]) ⟨⟨trivial, trivial, (DVs.okAt (DVs.okAt ha 0 rfl) 2 rfl), trivial⟩, trivial, trivial⟩
  · cases hr
/-! impl.RootOfSquare -/
noncomputable def impl_RootOfSquare_l4_T (v1122 : Int) (v1123 : Int) (v1125 : Int) (v1127 : Int) (v1128 : Int) (v1129 : List Nat) (s : Nat × Int) : Tree ((Nat × Int) ⊕ (Nat)) :=
  (.br (decide (s.2 < v1123)) (
   (.call (impl_Matrix_at_g v1128 v1129 v1122 s.2) fun v1130 =>
   (.call (impl_Matrix_at_g v1128 v1129 v1123 s.2) fun v1131 =>
   .leaf (.inl (fsub .f32 s.1 (impl_mul_v v1130 v1131), IntKind.i64.wrap (s.2 + (1 : Int))))))
  ) (
   .leaf (.inr s.1)
  ))

noncomputable def impl_RootOfSquare_l4_g (v1122 : Int) (v1123 : Int) (v1125 : Int) (v1127 : Int) (v1128 : Int) (v1129 : List Nat) (s0 : Nat × Int) : Option (Nat) := whileM (fun s => (impl_RootOfSquare_l4_T v1122 v1123 v1125 v1127 v1128 v1129 s).run) s0
def impl_RootOfSquare_l4_E (v688 : Int) (v689 : Int) (v690 : List Nat) (v1122 : Int) (v1123 : Int) (v1125 : Int) (v1127 : Int) (v1128 : Int) (v1129 : List Nat) (s : Nat × Int) : Sd := ([.top, .ptr 0 (0 : Nat) 0 (3 : Nat), .ptr 1 (0 : Nat) 0 (3 : Nat), .top, .ptr 2 (0 : Nat) 0 (3 : Nat), .int .i64 v1122, .int .i64 v1123, .flt .f32 s.1, .top, .top, .top, .top, .top, .top, .top, .top, .top, .top, .top, .int .i64 v688, .int .i64 v1122, .top, .top, .top, .int .i64 v1125, .int .i64 v1123, .top, .top, .top, .top, .top, .top, .int .i64 v1123, .int .i64 s.2, .top, .top, .top, .top, .top, .top, .top, .top, .top, .top, .top, .top, .top, .top, .top, .top, .top, .top, .top, .top, .top, .top, .top, .top, .top, .top, .top, .top, .top, .top, .top, .top, .top, .top, .top, .top, .top, .top, .top, .top, .top, .top, .top, .top], [.gen [.int .i64 v688, .int .i64 v689, .bslc (BR.root 0) (.f32 v690)] false 0, .gen [.int .i64 (0 : Int), .int .i64 (0 : Int), .nilslc] false 0, .gen [.int .i64 v1127, .int .i64 v1128, .own 3 0 ((v1129).length)] false 0, .row (.f32 v1129) 0])
def impl_RootOfSquare_l4_X (v688 : Int) (v689 : Int) (v690 : List Nat) (v1122 : Int) (v1123 : Int) (v1125 : Int) (v1127 : Int) (v1128 : Int) (v1129 : List Nat) (x : Nat) : Out := (.normal, [.top, .ptr 0 (0 : Nat) 0 (3 : Nat), .ptr 1 (0 : Nat) 0 (3 : Nat), .top, .ptr 2 (0 : Nat) 0 (3 : Nat), .int .i64 v1122, .int .i64 v1123, .flt .f32 x, .top, .top, .top, .top, .top, .top, .top, .top, .top, .top, .top, .int .i64 v688, .int .i64 v1122, .top, .top, .top, .int .i64 v1125, .int .i64 v1123, .top, .top, .top, .top, .top, .top, .top, .top, .top, .top, .top, .top, .top, .top, .top, .top, .top, .top, .top, .top, .top, .top, .top, .top, .top, .top, .top, .top, .top, .top, .top, .top, .top, .top, .top, .top, .top, .top, .top, .top, .top, .top, .top, .top, .top, .top, .top, .top, .top, .top, .top, .top], [.gen [.int .i64 v688, .int .i64 v689, .bslc (BR.root 0) (.f32 v690)] false 0, .gen [.int .i64 (0 : Int), .int .i64 (0 : Int), .nilslc] false 0, .gen [.int .i64 v1127, .int .i64 v1128, .own 3 0 ((v1129).length)] false 0, .row (.f32 v1129) 0])
def impl_RootOfSquare_l4_kill : List Nat := [1, 0, 0, 1, 0, 0, 0, 0, 1, 1, 1, 1, 1, 1, 1, 1, 1, 1, 1, 0, 0, 1, 1, 1, 0, 0, 1, 1, 1, 1, 1, 1, 0, 0, 1, 1, 1, 1, 1, 1, 1, 1, 1, 1, 1, 1, 1, 1, 1, 1, 1, 1, 1, 1, 1, 1, 1, 1, 1, 1, 1, 1, 1, 1, 1, 1, 1, 1, 1, 1, 1, 1, 1, 1, 1, 1, 1, 1]
def impl_RootOfSquare_l4_nx : Exit → List Nat
  | .exit 0 => [1, 1, 0, 1, 0, 1, 1, 1, 1, 1, 1, 1, 1, 1, 1, 1, 1, 1, 1, 1, 1, 1, 1, 1, 1, 1, 1, 1, 1, 1, 1, 1, 1, 1, 1, 1, 1, 1, 1, 1, 1, 1, 1, 1, 1, 1, 1, 1, 1, 1, 1, 1, 1, 1, 1, 1, 1, 1, 1, 1, 1, 1, 1, 1, 1, 1, 1, 1, 1, 1, 1, 1, 1, 1, 1, 1, 1, 1]
  | .exit 1 => [1, 0, 0, 1, 0, 1, 1, 1, 1, 1, 1, 1, 1, 1, 1, 1, 1, 1, 1, 0, 0, 1, 1, 1, 1, 1, 1, 1, 1, 1, 1, 1, 1, 1, 1, 1, 1, 1, 1, 1, 1, 1, 1, 1, 1, 1, 1, 1, 1, 1, 1, 1, 1, 1, 1, 1, 1, 1, 1, 1, 1, 1, 1, 1, 1, 1, 1, 1, 1, 1, 1, 1, 1, 1, 1, 1, 1, 1]
  | .exit 2 => [1, 0, 0, 1, 0, 1, 1, 1, 1, 1, 1, 1, 1, 1, 1, 1, 1, 1, 1, 0, 0, 1, 1, 1, 1, 1, 1, 1, 1, 1, 1, 1, 1, 1, 1, 1, 1, 1, 1, 1, 1, 1, 1, 1, 1, 1, 1, 1, 1, 1, 1, 1, 1, 1, 1, 1, 1, 1, 1, 1, 1, 1, 1, 1, 1, 1, 1, 1, 1, 1, 1, 1, 1, 1, 1, 1, 1, 1]
  | .exit 3 => [1, 0, 0, 1, 0, 0, 1, 1, 1, 1, 1, 1, 1, 1, 1, 1, 1, 1, 1, 0, 0, 1, 1, 1, 0, 0, 1, 1, 1, 1, 1, 1, 1, 1, 1, 1, 1, 1, 1, 1, 1, 1, 1, 1, 1, 1, 1, 1, 1, 1, 1, 1, 1, 1, 1, 1, 1, 1, 1, 1, 1, 1, 1, 1, 1, 1, 1, 1, 1, 1, 1, 1, 1, 1, 1, 1, 1, 1]
  | .exit 4 => [1, 0, 0, 1, 0, 0, 0, 0, 1, 1, 1, 1, 1, 1, 1, 1, 1, 1, 1, 0, 0, 1, 1, 1, 0, 0, 1, 1, 1, 1, 1, 1, 1, 1, 1, 1, 1, 1, 1, 1, 1, 1, 1, 1, 1, 1, 1, 1, 1, 1, 1, 1, 1, 1, 1, 1, 1, 1, 1, 1, 1, 1, 1, 1, 1, 1, 1, 1, 1, 1, 1, 1, 1, 1, 1, 1, 1, 1]
  | .ret => [1, 1, 0, 0, 1, 1, 1, 1, 1, 1, 1, 1, 1, 1, 1, 1, 1, 1, 1, 1, 1, 1, 1, 1, 1, 1, 1, 1, 1, 1, 1, 1, 1, 1, 1, 1, 1, 1, 1, 1, 1, 1, 1, 1, 1, 1, 1, 1, 1, 1, 1, 1, 1, 1, 1, 1, 1, 1, 1, 1, 1, 1, 1, 1, 1, 1, 1, 1, 1, 1, 1, 1, 1, 1, 1, 1, 1, 1]
  | _ => []
noncomputable def impl_RootOfSquare_l2_T (v688 : Int) (v689 : Int) (v690 : List Nat) (v1095 : Int) (v1096 : Int) (v1098 : Int) (v1099 : Int) (s : Int × (List Nat)) : Tree ((Int × (List Nat)) ⊕ ((Unit) ⊕ ((List Nat)))) :=
  (.br (decide (s.1 < v1096)) (
   (.call (impl_Matrix_at_g v689 v690 v1095 s.1) fun v1101 =>
   (.need (some (impl_RootOfSquare_l4_E v688 v689 v690 v1095 s.1 v1096 v1098 v1099 s.2 (v1101, (0 : Int))) = some (impl_RootOfSquare_l4_E v688 v689 v690 v1095 s.1 v1096 v1098 v1099 s.2 (v1101, (0 : Int)))) <|
   (.call (impl_RootOfSquare_l4_g v1095 s.1 v1096 v1098 v1099 s.2 (v1101, (0 : Int))) fun v1132 =>
   (.br (decide (s.1 < v1095)) (
    (.call (impl_Matrix_at_g v1099 s.2 s.1 s.1) fun v1133 =>
    (.call (impl_Matrix_set_g v1099 s.2 v1095 s.1) fun v1134 =>
    (.grd (decide ((List.set s.2 (Int.toNat (IntKind.i64.wrap ((IntKind.i64.wrap (v1095 * v1099)) + s.1))) (fdiv .f32 v1132 v1133)).length = s.2.length)) <|
    .leaf (.inl (IntKind.i64.wrap (s.1 + (1 : Int)), List.set s.2 (Int.toNat (IntKind.i64.wrap ((IntKind.i64.wrap (v1095 * v1099)) + s.1))) (fdiv .f32 v1132 v1133))))))
   ) (
    (.br (fgrt .f32 v1132 (0 : Nat)) (
     (.call (impl_RootNumber_g v1132) fun v1135 =>
     (.call (impl_Matrix_set_g v1099 s.2 v1095 s.1) fun v1136 =>
     (.grd (decide ((List.set s.2 (Int.toNat (IntKind.i64.wrap ((IntKind.i64.wrap (v1095 * v1099)) + s.1))) v1135).length = s.2.length)) <|
     .leaf (.inl (IntKind.i64.wrap (s.1 + (1 : Int)), List.set s.2 (Int.toNat (IntKind.i64.wrap ((IntKind.i64.wrap (v1095 * v1099)) + s.1))) v1135)))))
    ) (
     .leaf (.inr (.inl ()))
    ))
   )))))
  ) (
   .leaf (.inr (.inr s.2))
  ))

noncomputable def impl_RootOfSquare_l2_g (v688 : Int) (v689 : Int) (v690 : List Nat) (v1095 : Int) (v1096 : Int) (v1098 : Int) (v1099 : Int) (s0 : Int × (List Nat)) : Option ((Unit) ⊕ ((List Nat))) := whileM (fun s => (impl_RootOfSquare_l2_T v688 v689 v690 v1095 v1096 v1098 v1099 s).run) s0
def impl_RootOfSquare_l2_E (v688 : Int) (v689 : Int) (v690 : List Nat) (v1095 : Int) (v1096 : Int) (v1098 : Int) (v1099 : Int) (s : Int × (List Nat)) : Sd := ([.top, .ptr 0 (0 : Nat) 0 (3 : Nat), .ptr 1 (0 : Nat) 0 (3 : Nat), .top, .ptr 2 (0 : Nat) 0 (3 : Nat), .int .i64 v1095, .top, .top, .top, .top, .top, .top, .top, .top, .top, .top, .top, .top, .top, .int .i64 v688, .int .i64 v1095, .top, .top, .top, .int .i64 v1096, .int .i64 s.1, .top, .top, .top, .top, .top, .top, .top, .top, .top, .top, .top, .top, .top, .top, .top, .top, .top, .top, .top, .top, .top, .top, .top, .top, .top, .top, .top, .top, .top, .top, .top, .top, .top, .top, .top, .top, .top, .top, .top, .top, .top, .top, .top, .top, .top, .top, .top, .top, .top, .top, .top, .top], [.gen [.int .i64 v688, .int .i64 v689, .bslc (BR.root 0) (.f32 v690)] false 0, .gen [.int .i64 (0 : Int), .int .i64 (0 : Int), .nilslc] false 0, .gen [.int .i64 v1098, .int .i64 v1099, .own 3 0 ((s.2).length)] false 0, .row (.f32 s.2) 0])
def impl_RootOfSquare_l2_X (v688 : Int) (v689 : Int) (v690 : List Nat) (v1095 : Int) (v1096 : Int) (v1098 : Int) (v1099 : Int) (x : (Unit) ⊕ ((List Nat))) : Out := (match x with | .inl x => (.ret, [.top, .top, .ptr 0 (0 : Nat) 0 (3 : Nat), .lit false, .top, .top, .top, .top, .top, .top, .top, .top, .top, .top, .top, .top, .top, .top, .top, .top, .top, .top, .top, .top, .top, .top, .top, .top, .top, .top, .top, .top, .top, .top, .top, .top, .top, .top, .top, .top, .top, .top, .top, .top, .top, .top, .top, .top, .top, .top, .top, .top, .top, .top, .top, .top, .top, .top, .top, .top, .top, .top, .top, .top, .top, .top, .top, .top, .top, .top, .top, .top, .top, .top, .top, .top, .top, .top], [.gen [.int .i64 (0 : Int), .int .i64 (0 : Int), .nilslc] false 0]) | .inr x => (.normal, [.top, .ptr 0 (0 : Nat) 0 (3 : Nat), .ptr 1 (0 : Nat) 0 (3 : Nat), .top, .ptr 2 (0 : Nat) 0 (3 : Nat), .top, .top, .top, .top, .top, .top, .top, .top, .top, .top, .top, .top, .top, .top, .int .i64 v688, .int .i64 v1095, .top, .top, .top, .top, .top, .top, .top, .top, .top, .top, .top, .top, .top, .top, .top, .top, .top, .top, .top, .top, .top, .top, .top, .top, .top, .top, .top, .top, .top, .top, .top, .top, .top, .top, .top, .top, .top, .top, .top, .top, .top, .top, .top, .top, .top, .top, .top, .top, .top, .top, .top, .top, .top, .top, .top, .top, .top], [.gen [.int .i64 v688, .int .i64 v689, .bslc (BR.root 0) (.f32 v690)] false 0, .gen [.int .i64 (0 : Int), .int .i64 (0 : Int), .nilslc] false 0, .gen [.int .i64 v1098, .int .i64 v1099, .own 3 0 ((x).length)] false 0, .row (.f32 x) 0]))
def impl_RootOfSquare_l2_kill : List Nat := [1, 0, 0, 1, 0, 0, 1, 1, 1, 1, 1, 1, 1, 1, 1, 1, 1, 1, 1, 0, 0, 1, 1, 1, 0, 0, 1, 1, 1, 1, 1, 1, 1, 1, 1, 1, 1, 1, 1, 1, 1, 1, 1, 1, 1, 1, 1, 1, 1, 1, 1, 1, 1, 1, 1, 1, 1, 1, 1, 1, 1, 1, 1, 1, 1, 1, 1, 1, 1, 1, 1, 1, 1, 1, 1, 1, 1, 1]
def impl_RootOfSquare_l2_nx : Exit → List Nat
  | .exit 0 => [1, 1, 0, 1, 0, 1, 1, 1, 1, 1, 1, 1, 1, 1, 1, 1, 1, 1, 1, 1, 1, 1, 1, 1, 1, 1, 1, 1, 1, 1, 1, 1, 1, 1, 1, 1, 1, 1, 1, 1, 1, 1, 1, 1, 1, 1, 1, 1, 1, 1, 1, 1, 1, 1, 1, 1, 1, 1, 1, 1, 1, 1, 1, 1, 1, 1, 1, 1, 1, 1, 1, 1, 1, 1, 1, 1, 1, 1]
  | .exit 1 => [1, 0, 0, 1, 0, 1, 1, 1, 1, 1, 1, 1, 1, 1, 1, 1, 1, 1, 1, 0, 0, 1, 1, 1, 1, 1, 1, 1, 1, 1, 1, 1, 1, 1, 1, 1, 1, 1, 1, 1, 1, 1, 1, 1, 1, 1, 1, 1, 1, 1, 1, 1, 1, 1, 1, 1, 1, 1, 1, 1, 1, 1, 1, 1, 1, 1, 1, 1, 1, 1, 1, 1, 1, 1, 1, 1, 1, 1]
  | .exit 2 => [1, 0, 0, 1, 0, 1, 1, 1, 1, 1, 1, 1, 1, 1, 1, 1, 1, 1, 1, 0, 0, 1, 1, 1, 1, 1, 1, 1, 1, 1, 1, 1, 1, 1, 1, 1, 1, 1, 1, 1, 1, 1, 1, 1, 1, 1, 1, 1, 1, 1, 1, 1, 1, 1, 1, 1, 1, 1, 1, 1, 1, 1, 1, 1, 1, 1, 1, 1, 1, 1, 1, 1, 1, 1, 1, 1, 1, 1]
  | .ret => [1, 1, 0, 0, 1, 1, 1, 1, 1, 1, 1, 1, 1, 1, 1, 1, 1, 1, 1, 1, 1, 1, 1, 1, 1, 1, 1, 1, 1, 1, 1, 1, 1, 1, 1, 1, 1, 1, 1, 1, 1, 1, 1, 1, 1, 1, 1, 1, 1, 1, 1, 1, 1, 1, 1, 1, 1, 1, 1, 1, 1, 1, 1, 1, 1, 1, 1, 1, 1, 1, 1, 1, 1, 1, 1, 1, 1, 1]
  | _ => []
noncomputable def impl_RootOfSquare_l0_T (v688 : Int) (v689 : Int) (v690 : List Nat) (v1008 : Int) (v1009 : Int) (s : Int × (List Nat)) : Tree ((Int × (List Nat)) ⊕ ((Unit) ⊕ ((List Nat)))) :=
  (.br (decide (s.1 < v688)) (
   (.need (some (impl_RootOfSquare_l2_E v688 v689 v690 s.1 (IntKind.i64.wrap (s.1 + (1 : Int))) v1008 v1009 ((0 : Int), s.2)) = some (impl_RootOfSquare_l2_E v688 v689 v690 s.1 (IntKind.i64.wrap (s.1 + (1 : Int))) v1008 v1009 ((0 : Int), s.2))) <|
   (.call (impl_RootOfSquare_l2_g v688 v689 v690 s.1 (IntKind.i64.wrap (s.1 + (1 : Int))) v1008 v1009 ((0 : Int), s.2)) fun v1137 =>
   (.sum v1137 (fun v1138 =>
    .leaf (.inr (.inl ()))
   ) (fun v1139 =>
    .leaf (.inl (IntKind.i64.wrap (s.1 + (1 : Int)), v1139))
   ))))
  ) (
   .leaf (.inr (.inr s.2))
  ))

noncomputable def impl_RootOfSquare_l0_g (v688 : Int) (v689 : Int) (v690 : List Nat) (v1008 : Int) (v1009 : Int) (s0 : Int × (List Nat)) : Option ((Unit) ⊕ ((List Nat))) := whileM (fun s => (impl_RootOfSquare_l0_T v688 v689 v690 v1008 v1009 s).run) s0
def impl_RootOfSquare_l0_E (v688 : Int) (v689 : Int) (v690 : List Nat) (v1008 : Int) (v1009 : Int) (s : Int × (List Nat)) : Sd := ([.top, .ptr 0 (0 : Nat) 0 (3 : Nat), .ptr 1 (0 : Nat) 0 (3 : Nat), .top, .ptr 2 (0 : Nat) 0 (3 : Nat), .top, .top, .top, .top, .top, .top, .top, .top, .top, .top, .top, .top, .top, .top, .int .i64 v688, .int .i64 s.1, .top, .top, .top, .top, .top, .top, .top, .top, .top, .top, .top, .top, .top, .top, .top, .top, .top, .top, .top, .top, .top, .top, .top, .top, .top, .top, .top, .top, .top, .top, .top, .top, .top, .top, .top, .top, .top, .top, .top, .top, .top, .top, .top, .top, .top, .top, .top, .top, .top, .top, .top, .top, .top, .top, .top, .top, .top], [.gen [.int .i64 v688, .int .i64 v689, .bslc (BR.root 0) (.f32 v690)] false 0, .gen [.int .i64 (0 : Int), .int .i64 (0 : Int), .nilslc] false 0, .gen [.int .i64 v1008, .int .i64 v1009, .own 3 0 ((s.2).length)] false 0, .row (.f32 s.2) 0])
def impl_RootOfSquare_l0_X (v688 : Int) (v689 : Int) (v690 : List Nat) (v1008 : Int) (v1009 : Int) (x : (Unit) ⊕ ((List Nat))) : Out := (match x with | .inl x => (.ret, [.top, .top, .ptr 0 (0 : Nat) 0 (3 : Nat), .lit false, .top, .top, .top, .top, .top, .top, .top, .top, .top, .top, .top, .top, .top, .top, .top, .top, .top, .top, .top, .top, .top, .top, .top, .top, .top, .top, .top, .top, .top, .top, .top, .top, .top, .top, .top, .top, .top, .top, .top, .top, .top, .top, .top, .top, .top, .top, .top, .top, .top, .top, .top, .top, .top, .top, .top, .top, .top, .top, .top, .top, .top, .top, .top, .top, .top, .top, .top, .top, .top, .top, .top, .top, .top, .top], [.gen [.int .i64 (0 : Int), .int .i64 (0 : Int), .nilslc] false 0]) | .inr x => (.normal, [.top, .top, .ptr 0 (0 : Nat) 0 (3 : Nat), .top, .ptr 1 (0 : Nat) 0 (3 : Nat), .top, .top, .top, .top, .top, .top, .top, .top, .top, .top, .top, .top, .top, .top, .top, .top, .top, .top, .top, .top, .top, .top, .top, .top, .top, .top, .top, .top, .top, .top, .top, .top, .top, .top, .top, .top, .top, .top, .top, .top, .top, .top, .top, .top, .top, .top, .top, .top, .top, .top, .top, .top, .top, .top, .top, .top, .top, .top, .top, .top, .top, .top, .top, .top, .top, .top, .top, .top, .top, .top, .top, .top, .top], [.gen [.int .i64 (0 : Int), .int .i64 (0 : Int), .nilslc] false 0, .gen [.int .i64 v1008, .int .i64 v1009, .own 2 0 ((x).length)] false 0, .row (.f32 x) 0]))
def impl_RootOfSquare_l0_kill : List Nat := [1, 0, 0, 1, 0, 1, 1, 1, 1, 1, 1, 1, 1, 1, 1, 1, 1, 1, 1, 0, 0, 1, 1, 1, 1, 1, 1, 1, 1, 1, 1, 1, 1, 1, 1, 1, 1, 1, 1, 1, 1, 1, 1, 1, 1, 1, 1, 1, 1, 1, 1, 1, 1, 1, 1, 1, 1, 1, 1, 1, 1, 1, 1, 1, 1, 1, 1, 1, 1, 1, 1, 1, 1, 1, 1, 1, 1, 1]
def impl_RootOfSquare_l0_nx : Exit → List Nat
  | .exit 0 => [1, 1, 0, 1, 0, 1, 1, 1, 1, 1, 1, 1, 1, 1, 1, 1, 1, 1, 1, 1, 1, 1, 1, 1, 1, 1, 1, 1, 1, 1, 1, 1, 1, 1, 1, 1, 1, 1, 1, 1, 1, 1, 1, 1, 1, 1, 1, 1, 1, 1, 1, 1, 1, 1, 1, 1, 1, 1, 1, 1, 1, 1, 1, 1, 1, 1, 1, 1, 1, 1, 1, 1, 1, 1, 1, 1, 1, 1]
  | .ret => [1, 1, 0, 0, 1, 1, 1, 1, 1, 1, 1, 1, 1, 1, 1, 1, 1, 1, 1, 1, 1, 1, 1, 1, 1, 1, 1, 1, 1, 1, 1, 1, 1, 1, 1, 1, 1, 1, 1, 1, 1, 1, 1, 1, 1, 1, 1, 1, 1, 1, 1, 1, 1, 1, 1, 1, 1, 1, 1, 1, 1, 1, 1, 1, 1, 1, 1, 1, 1, 1, 1, 1, 1, 1, 1, 1, 1, 1]
  | _ => []
noncomputable def impl_RootOfSquare_LO (v688 : Int) (v689 : Int) (v690 : List Nat) : LOr := fun id e L =>
  match id with
  | 4 => .need (normA 0 impl_RootOfSquare_l4_kill e L = some (impl_RootOfSquare_l4_E v688 v689 v690 (gI (vAt e 5)) (gI (vAt e 6)) (gI (vAt e 24)) (gI (cAt L (vAt e 4) 0)) (gI (cAt L (vAt e 4) 1)) (gRF L (cAt L (vAt e 4) 2)) ((gF (vAt e 7)), (gI (vAt e 33))))) (.call (impl_RootOfSquare_l4_g (gI (vAt e 5)) (gI (vAt e 6)) (gI (vAt e 24)) (gI (cAt L (vAt e 4) 0)) (gI (cAt L (vAt e 4) 1)) (gRF L (cAt L (vAt e 4) 2)) ((gF (vAt e 7)), (gI (vAt e 33)))) fun x => .leaf (impl_RootOfSquare_l4_X v688 v689 v690 (gI (vAt e 5)) (gI (vAt e 6)) (gI (vAt e 24)) (gI (cAt L (vAt e 4) 0)) (gI (cAt L (vAt e 4) 1)) (gRF L (cAt L (vAt e 4) 2)) x))
  | 2 => .need (normA 0 impl_RootOfSquare_l2_kill e L = some (impl_RootOfSquare_l2_E v688 v689 v690 (gI (vAt e 5)) (gI (vAt e 24)) (gI (cAt L (vAt e 4) 0)) (gI (cAt L (vAt e 4) 1)) ((gI (vAt e 25)), (gRF L (cAt L (vAt e 4) 2))))) (.call (impl_RootOfSquare_l2_g v688 v689 v690 (gI (vAt e 5)) (gI (vAt e 24)) (gI (cAt L (vAt e 4) 0)) (gI (cAt L (vAt e 4) 1)) ((gI (vAt e 25)), (gRF L (cAt L (vAt e 4) 2)))) fun x => .sum x (fun b0 => .leaf (impl_RootOfSquare_l2_X v688 v689 v690 (gI (vAt e 5)) (gI (vAt e 24)) (gI (cAt L (vAt e 4) 0)) (gI (cAt L (vAt e 4) 1)) (.inl b0))) (fun c0 => .leaf (impl_RootOfSquare_l2_X v688 v689 v690 (gI (vAt e 5)) (gI (vAt e 24)) (gI (cAt L (vAt e 4) 0)) (gI (cAt L (vAt e 4) 1)) (.inr c0))))
  | 0 => .need (normA 0 impl_RootOfSquare_l0_kill e L = some (impl_RootOfSquare_l0_E v688 v689 v690 (gI (cAt L (vAt e 4) 0)) (gI (cAt L (vAt e 4) 1)) ((gI (vAt e 20)), (gRF L (cAt L (vAt e 4) 2))))) (.call (impl_RootOfSquare_l0_g v688 v689 v690 (gI (cAt L (vAt e 4) 0)) (gI (cAt L (vAt e 4) 1)) ((gI (vAt e 20)), (gRF L (cAt L (vAt e 4) 2)))) fun x => .sum x (fun b0 => .leaf (impl_RootOfSquare_l0_X v688 v689 v690 (gI (cAt L (vAt e 4) 0)) (gI (cAt L (vAt e 4) 1)) (.inl b0))) (fun c0 => .leaf (impl_RootOfSquare_l0_X v688 v689 v690 (gI (cAt L (vAt e 4) 0)) (gI (cAt L (vAt e 4) 1)) (.inr c0))))
  | _ => .fail
noncomputable def impl_RootOfSquare_tab : List (FuncId × DFn × Bool) := [(47, impl_isSquare_F, true), (48, impl_newMatrix_F, true), (49, impl_Matrix_at_F, true), (50, impl_mul_F, true), (51, impl_Matrix_set_F, false), (52, impl_RootNumber_F, true), (53, impl_Matrix_valid_F, true)]
theorem impl_RootOfSquare_hO : OrcOk Try.prog (tabD impl_RootOfSquare_tab) (tabM impl_RootOfSquare_tab) := tabD_cons impl_isSquare_Fok (tabD_cons impl_newMatrix_Fok (tabD_cons impl_Matrix_at_Fok (tabD_cons impl_mul_Fok (tabD_cons impl_Matrix_set_Fok (tabD_cons impl_RootNumber_Fok (tabD_cons impl_Matrix_valid_Fok (tabD_nil _)))))))
theorem impl_RootOfSquare_l4_be (v688 : Int) (v689 : Int) (v690 : List Nat) (v1122 : Int) (v1123 : Int) (v1125 : Int) (v1127 : Int) (v1128 : Int) (v1129 : List Nat) (s : Nat × Int) : bodyT TT (tabD impl_RootOfSquare_tab) (tabM impl_RootOfSquare_tab) (impl_RootOfSquare_LO v688 v689 v690) 0 impl_RootOfSquare_l4_kill impl_RootOfSquare_l4_nx (bodyOf Try.f19 4) 4 (impl_RootOfSquare_l4_E v688 v689 v690 v1122 v1123 v1125 v1127 v1128 v1129 s) = (impl_RootOfSquare_l4_T v1122 v1123 v1125 v1127 v1128 v1129 s).bind fun y => .leaf (outS (impl_RootOfSquare_l4_E v688 v689 v690 v1122 v1123 v1125 v1127 v1128 v1129) (impl_RootOfSquare_l4_X v688 v689 v690 v1122 v1123 v1125 v1127 v1128 v1129) y) := by kernel_rfl
theorem impl_RootOfSquare_l4_ok (v688 : Int) (v689 : Int) (v690 : List Nat) : LSound Try.prog 0 (impl_RootOfSquare_LO v688 v689 v690) 4 (bodyOf Try.f19 4) := by
  intro e L out h
  exact lo_ok (E := impl_RootOfSquare_l4_E v688 v689 v690 (gI (vAt e 5)) (gI (vAt e 6)) (gI (vAt e 24)) (gI (cAt L (vAt e 4) 0)) (gI (cAt L (vAt e 4) 1)) (gRF L (cAt L (vAt e 4) 2))) (gT := impl_RootOfSquare_l4_T (gI (vAt e 5)) (gI (vAt e 6)) (gI (vAt e 24)) (gI (cAt L (vAt e 4) 0)) (gI (cAt L (vAt e 4) 1)) (gRF L (cAt L (vAt e 4) 2))) (X := impl_RootOfSquare_l4_X v688 v689 v690 (gI (vAt e 5)) (gI (vAt e 6)) (gI (vAt e 24)) (gI (cAt L (vAt e 4) 0)) (gI (cAt L (vAt e 4) 1)) (gRF L (cAt L (vAt e 4) 2))) (s0 := ((gF (vAt e 7)), (gI (vAt e 33)))) tok impl_RootOfSquare_hO mixed (LoopsOk_eq (l := []) (by kernel_rfl) trivial) (impl_RootOfSquare_l4_be v688 v689 v690 (gI (vAt e 5)) (gI (vAt e 6)) (gI (vAt e 24)) (gI (cAt L (vAt e 4) 0)) (gI (cAt L (vAt e 4) 1)) (gRF L (cAt L (vAt e 4) 2))) rfl (by intro x; rfl) h
theorem impl_RootOfSquare_l2_be (v688 : Int) (v689 : Int) (v690 : List Nat) (v1095 : Int) (v1096 : Int) (v1098 : Int) (v1099 : Int) (s : Int × (List Nat)) : bodyT TT (tabD impl_RootOfSquare_tab) (tabM impl_RootOfSquare_tab) (impl_RootOfSquare_LO v688 v689 v690) 0 impl_RootOfSquare_l2_kill impl_RootOfSquare_l2_nx (bodyOf Try.f19 2) 2 (impl_RootOfSquare_l2_E v688 v689 v690 v1095 v1096 v1098 v1099 s) = (impl_RootOfSquare_l2_T v688 v689 v690 v1095 v1096 v1098 v1099 s).bind fun y => .leaf (outS (impl_RootOfSquare_l2_E v688 v689 v690 v1095 v1096 v1098 v1099) (impl_RootOfSquare_l2_X v688 v689 v690 v1095 v1096 v1098 v1099) y) := by kernel_rfl
theorem impl_RootOfSquare_l2_ok (v688 : Int) (v689 : Int) (v690 : List Nat) : LSound Try.prog 0 (impl_RootOfSquare_LO v688 v689 v690) 2 (bodyOf Try.f19 2) := by
  intro e L out h
  exact lo_ok (E := impl_RootOfSquare_l2_E v688 v689 v690 (gI (vAt e 5)) (gI (vAt e 24)) (gI (cAt L (vAt e 4) 0)) (gI (cAt L (vAt e 4) 1))) (gT := impl_RootOfSquare_l2_T v688 v689 v690 (gI (vAt e 5)) (gI (vAt e 24)) (gI (cAt L (vAt e 4) 0)) (gI (cAt L (vAt e 4) 1))) (X := impl_RootOfSquare_l2_X v688 v689 v690 (gI (vAt e 5)) (gI (vAt e 24)) (gI (cAt L (vAt e 4) 0)) (gI (cAt L (vAt e 4) 1))) (s0 := ((gI (vAt e 25)), (gRF L (cAt L (vAt e 4) 2)))) tok impl_RootOfSquare_hO mixed (LoopsOk_eq (l := [(4, bodyOf Try.f19 4)]) (by kernel_rfl) ⟨impl_RootOfSquare_l4_ok v688 v689 v690, trivial⟩) (impl_RootOfSquare_l2_be v688 v689 v690 (gI (vAt e 5)) (gI (vAt e 24)) (gI (cAt L (vAt e 4) 0)) (gI (cAt L (vAt e 4) 1))) rfl (by intro x; (cases x with | inl b => rfl | inr x => exact rfl)) h
theorem impl_RootOfSquare_l0_be (v688 : Int) (v689 : Int) (v690 : List Nat) (v1008 : Int) (v1009 : Int) (s : Int × (List Nat)) : bodyT TT (tabD impl_RootOfSquare_tab) (tabM impl_RootOfSquare_tab) (impl_RootOfSquare_LO v688 v689 v690) 0 impl_RootOfSquare_l0_kill impl_RootOfSquare_l0_nx (bodyOf Try.f19 0) 0 (impl_RootOfSquare_l0_E v688 v689 v690 v1008 v1009 s) = (impl_RootOfSquare_l0_T v688 v689 v690 v1008 v1009 s).bind fun y => .leaf (outS (impl_RootOfSquare_l0_E v688 v689 v690 v1008 v1009) (impl_RootOfSquare_l0_X v688 v689 v690 v1008 v1009) y) := by kernel_rfl
theorem impl_RootOfSquare_l0_ok (v688 : Int) (v689 : Int) (v690 : List Nat) : LSound Try.prog 0 (impl_RootOfSquare_LO v688 v689 v690) 0 (bodyOf Try.f19 0) := by
  intro e L out h
  exact lo_ok (E := impl_RootOfSquare_l0_E v688 v689 v690 (gI (cAt L (vAt e 4) 0)) (gI (cAt L (vAt e 4) 1))) (gT := impl_RootOfSquare_l0_T v688 v689 v690 (gI (cAt L (vAt e 4) 0)) (gI (cAt L (vAt e 4) 1))) (X := impl_RootOfSquare_l0_X v688 v689 v690 (gI (cAt L (vAt e 4) 0)) (gI (cAt L (vAt e 4) 1))) (s0 := ((gI (vAt e 20)), (gRF L (cAt L (vAt e 4) 2)))) tok impl_RootOfSquare_hO mixed (LoopsOk_eq (l := [(2, bodyOf Try.f19 2)]) (by kernel_rfl) ⟨impl_RootOfSquare_l2_ok v688 v689 v690, trivial⟩) (impl_RootOfSquare_l0_be v688 v689 v690 (gI (cAt L (vAt e 4) 0)) (gI (cAt L (vAt e 4) 1))) rfl (by intro x; (cases x with | inl b => rfl | inr x => exact rfl)) h
noncomputable def impl_RootOfSquare_T (v688 : Int) (v689 : Int) (v690 : List Nat) : Tree ((Unit) ⊕ (Int × Int × (List Nat))) :=
  (.call (impl_isSquare_g v688 v689 v690) fun v721 =>
  (.br (!v721) (
   .leaf (.inl ())
  ) (
   (.call (impl_newMatrix_g v688 v688) fun v724 =>
   (.need (some (impl_RootOfSquare_l0_E v688 v689 v690 v724.1 v724.2 ((0 : Int), List.replicate (Int.toNat (IntKind.i64.wrap (v688 * v688))) (0 : Nat))) = some (impl_RootOfSquare_l0_E v688 v689 v690 v724.1 v724.2 ((0 : Int), List.replicate (Int.toNat (IntKind.i64.wrap (v688 * v688))) (0 : Nat)))) <|
   (.call (impl_RootOfSquare_l0_g v688 v689 v690 v724.1 v724.2 ((0 : Int), List.replicate (Int.toNat (IntKind.i64.wrap (v688 * v688))) (0 : Nat))) fun v1140 =>
   (.sum v1140 (fun v1141 =>
    .leaf (.inl ())
   ) (fun v1142 =>
    (.call (impl_Matrix_valid_g v724.1 v724.2 v1142) fun v1147 =>
    (.sum v1147 (fun v1148 =>
     .leaf (.inl ())
    ) (fun v1149 =>
     .leaf (.inr (v1149.1, v1149.2, v1142))
    )))
   )))))
  )))

noncomputable def impl_RootOfSquare_g (v688 : Int) (v689 : Int) (v690 : List Nat) : Option ((Unit) ⊕ (Int × Int × (List Nat))) := (impl_RootOfSquare_T v688 v689 v690).run
def impl_RootOfSquare_enc (v688 : Int) (v689 : Int) (v690 : List Nat) (y : (Unit) ⊕ (Int × Int × (List Nat))) : Rs := (match y with | .inl y => (.tup [.agg [.int .i64 (0 : Int), .int .i64 (0 : Int), .nilslc], .lit false], []) | .inr y => (.tup [.agg [.int .i64 y.1, .int .i64 y.2.1, .own 0 0 ((y.2.2).length)], .lit true], [.row (.f32 y.2.2) 0]))
theorem impl_RootOfSquare_den (v688 : Int) (v689 : Int) (v690 : List Nat) : (den TT (tabD impl_RootOfSquare_tab) (tabM impl_RootOfSquare_tab) (impl_RootOfSquare_LO v688 v689 v690) (codeOf Try.f19) ([.agg [.int .i64 v688, .int .i64 v689, .bslc (BR.root 0) (.f32 v690)]] ++ List.replicate (Try.f19.ntmps - ([.agg [.int .i64 v688, .int .i64 v689, .bslc (BR.root 0) (.f32 v690)]] : List DV).length) .undef) []).bind (retD TT Try.f19.results.toList 0) = (impl_RootOfSquare_T v688 v689 v690).bind fun y => .leaf (impl_RootOfSquare_enc v688 v689 v690 y) := by kernel_rfl
theorem impl_RootOfSquare_fn (v688 : Int) (v689 : Int) (v690 : List Nat) (F : Fr) (hm : F.ids.length = 0) (h0 : St F [] F.H0) (hA : DVs.Ok F [] [.agg [.int .i64 v688, .int .i64 v689, .bslc (BR.root 0) (.f32 v690)]]) {y : (Unit) ⊕ (Int × Int × (List Nat))} (hy : impl_RootOfSquare_g v688 v689 v690 = some y) : ∃ H', FnOk Try.prog 19 (DVs.av F [.agg [.int .i64 v688, .int .i64 v689, .bslc (BR.root 0) (.f32 v690)]]) F.H0 ((impl_RootOfSquare_enc v688 v689 v690 y).1.av F) H' ∧ St F (impl_RootOfSquare_enc v688 v689 v690 y).2 H' ∧ (impl_RootOfSquare_enc v688 v689 v690 y).1.Ok F (impl_RootOfSquare_enc v688 v689 v690 y).2 :=
  fn_fin tok impl_RootOfSquare_hO mixed Try.func19 Try.call19 (by kernel_rfl) (LoopsOk_eq (l := [(0, bodyOf Try.f19 0)]) (by kernel_rfl) ⟨impl_RootOfSquare_l0_ok v688 v689 v690, trivial⟩) (impl_RootOfSquare_den v688 v689 v690) hy hm h0 hA
noncomputable def impl_RootOfSquare_F : DFn := fun args L =>
  match args with
  | [.agg [.int .i64 v688, .int .i64 v689, a1]] =>
    optT (rowF32 L a1) fun v690 =>
    .call (impl_RootOfSquare_g v688 v689 v690) fun y => .sum y (fun y0 => .leaf (.tup [.agg [.int .i64 (0 : Int), .int .i64 (0 : Int), .nilslc], .lit false], L)) (fun z0 => .leaf (.tup [.agg [.int .i64 z0.1, .int .i64 z0.2.1, .own (L.length + 0) 0 ((z0.2.2).length)], .lit true], L ++ [.row (.f32 z0.2.2) 0]))
  | _ => .fail
theorem impl_RootOfSquare_Fok : COk Try.prog 19 impl_RootOfSquare_F true := by
  intro F L H args r L' hs ha hr
  unfold impl_RootOfSquare_F at hr
  split at hr
  · rename_i v688 v689 a1
    obtain ⟨v690, hv690, hr⟩ := optT_run hr
    simp only [Tree.run] at hr
    obtain ⟨y, hy, hr⟩ := Option.bind_eq_some_iff.1 hr
    cases y with
    | inl y =>
      simp only [Tree.run, Option.some.injEq, Prod.mk.injEq] at hr
      obtain ⟨rfl, rfl⟩ := hr
      exact call_ok0 hs (fun k => (([a1.av F] : List AV)[k]?).getD .top) [.agg [.int .i64 v688, .int .i64 v689, a1]] [.agg [.int .i64 v688, .int .i64 v689, .bslc (BR.root 0) (.f32 v690)]] (fun F' h0 hi hρ => ⟨by simp [DVs.av, DV.av, BR.av, hρ], impl_RootOfSquare_fn v688 v689 v690 F' (by rw [hi]; rfl) (st_nil hi) ⟨⟨trivial, trivial, bslc_ok hi (by rw [h0, hρ]; exact rowF32_ok hs (DVs.okAt (DVs.okAt ha 0 rfl) 2 rfl) hv690), trivial⟩, trivial⟩ hy⟩) rfl
    | inr y =>
      simp only [Tree.run, Option.some.injEq, Prod.mk.injEq] at hr
      obtain ⟨rfl, rfl⟩ := hr
      exact call_ok1 hs (fun k => (([a1.av F] : List AV)[k]?).getD .top) [.agg [.int .i64 v688, .int .i64 v689, a1]] [.agg [.int .i64 v688, .int .i64 v689, .bslc (BR.root 0) (.f32 v690)]] (fun F' h0 hi hρ => ⟨by simp [DVs.av, DV.av, BR.av, hρ], impl_RootOfSquare_fn v688 v689 v690 F' (by rw [hi]; rfl) (st_nil hi) ⟨⟨trivial, trivial, bslc_ok hi (by rw [h0, hρ]; exact rowF32_ok hs (DVs.okAt (DVs.okAt ha 0 rfl) 2 rfl) hv690), trivial⟩, trivial⟩ hy⟩) rfl rfl
  · cases hr
/-! laws.sameFloat -/
noncomputable def laws_sameFloat_LO (v1162 : Nat) (v1163 : Nat) : LOr := fun id e L =>
  match id with
  | _ => .fail
noncomputable def laws_sameFloat_tab : List (FuncId × DFn × Bool) := []
theorem laws_sameFloat_hO : OrcOk Try.prog (tabD laws_sameFloat_tab) (tabM laws_sameFloat_tab) := tabD_nil _
noncomputable def laws_sameFloat_T (v1162 : Nat) (v1163 : Nat) : Tree (Bool) :=
  (.br (!feq .f64 v1162 v1162) (
   (.br (!feq .f64 v1162 v1162) (
    .leaf (!feq .f64 v1163 v1163)
   ) (
    .leaf false
   ))
  ) (
   (.br (!feq .f64 v1163 v1163) (
    (.br (!feq .f64 v1162 v1162) (
     .leaf (!feq .f64 v1163 v1163)
    ) (
     .leaf false
    ))
   ) (
    (.br (feq .f64 v1162 (0 : Nat)) (
     (.br (feq .f64 v1163 (0 : Nat)) (
      .leaf ((fgrt .f64 (fdiv .f64 (4607182418800017408 : Nat) v1162) (0 : Nat)) == (fgrt .f64 (fdiv .f64 (4607182418800017408 : Nat) v1163) (0 : Nat)))
     ) (
      .leaf (feq .f64 v1162 v1163)
     ))
    ) (
     .leaf (feq .f64 v1162 v1163)
    ))
   ))
  ))

noncomputable def laws_sameFloat_g (v1162 : Nat) (v1163 : Nat) : Option (Bool) := (laws_sameFloat_T v1162 v1163).run
def laws_sameFloat_enc (v1162 : Nat) (v1163 : Nat) (y : Bool) : Rs := (.bool y, [])
theorem laws_sameFloat_den (v1162 : Nat) (v1163 : Nat) : (den TT (tabD laws_sameFloat_tab) (tabM laws_sameFloat_tab) (laws_sameFloat_LO v1162 v1163) (codeOf Try.f13) ([.flt .f64 v1162, .flt .f64 v1163] ++ List.replicate (Try.f13.ntmps - ([.flt .f64 v1162, .flt .f64 v1163] : List DV).length) .undef) []).bind (retD TT Try.f13.results.toList 0) = (laws_sameFloat_T v1162 v1163).bind fun y => .leaf (laws_sameFloat_enc v1162 v1163 y) := by kernel_rfl
theorem laws_sameFloat_fn (v1162 : Nat) (v1163 : Nat) (F : Fr) (hm : F.ids.length = 0) (h0 : St F [] F.H0) (hA : DVs.Ok F [] [.flt .f64 v1162, .flt .f64 v1163]) {y : Bool} (hy : laws_sameFloat_g v1162 v1163 = some y) : ∃ H', FnOk Try.prog 13 (DVs.av F [.flt .f64 v1162, .flt .f64 v1163]) F.H0 ((laws_sameFloat_enc v1162 v1163 y).1.av F) H' ∧ St F (laws_sameFloat_enc v1162 v1163 y).2 H' ∧ (laws_sameFloat_enc v1162 v1163 y).1.Ok F (laws_sameFloat_enc v1162 v1163 y).2 :=
  fn_fin tok laws_sameFloat_hO mixed Try.func13 Try.call13 (by kernel_rfl) (LoopsOk_eq (l := []) (by kernel_rfl) trivial) (laws_sameFloat_den v1162 v1163) hy hm h0 hA
def laws_sameFloat_v (v1162 : Nat) (v1163 : Nat) : Bool :=
  if (!feq .f64 v1162 v1162) = true then (
   if (!feq .f64 v1162 v1162) = true then (
    !feq .f64 v1163 v1163
   ) else (
    false
   )
  ) else (
   if (!feq .f64 v1163 v1163) = true then (
    if (!feq .f64 v1162 v1162) = true then (
     !feq .f64 v1163 v1163
    ) else (
     false
    )
   ) else (
    if (feq .f64 v1162 (0 : Nat)) = true then (
     if (feq .f64 v1163 (0 : Nat)) = true then (
      (fgrt .f64 (fdiv .f64 (4607182418800017408 : Nat) v1162) (0 : Nat)) == (fgrt .f64 (fdiv .f64 (4607182418800017408 : Nat) v1163) (0 : Nat))
     ) else (
      feq .f64 v1162 v1163
     )
    ) else (
     feq .f64 v1162 v1163
    )
   )
  )
theorem laws_sameFloat_tot (v1162 : Nat) (v1163 : Nat) : laws_sameFloat_g v1162 v1163 = some (laws_sameFloat_v v1162 v1163) := by
  unfold laws_sameFloat_g laws_sameFloat_T laws_sameFloat_v
  simp only [Tree.run]
  repeat' (first | rfl | split)
noncomputable def laws_sameFloat_F : DFn := fun args L =>
  match args with
  | [.flt .f64 v1162, .flt .f64 v1163] =>
    .leaf (.bool (laws_sameFloat_v v1162 v1163), L)
  | _ => .fail
theorem laws_sameFloat_Fok : COk Try.prog 13 laws_sameFloat_F true := by
  intro F L H args r L' hs ha hr
  unfold laws_sameFloat_F at hr
  split at hr
  · rename_i v1162 v1163
    have hy := laws_sameFloat_tot v1162 v1163
    generalize laws_sameFloat_v v1162 v1163 = y at hy hr
    simp only [Tree.run, Option.some.injEq, Prod.mk.injEq] at hr
    obtain ⟨rfl, rfl⟩ := hr
    exact call_ok0 hs (fun k => (([] : List AV)[k]?).getD .top) [.flt .f64 v1162, .flt .f64 v1163] [.flt .f64 v1162, .flt .f64 v1163] (fun F' h0 hi hρ => ⟨by simp [DVs.av, DV.av, BR.av, hρ], laws_sameFloat_fn v1162 v1163 F' (by rw [hi]; rfl) (st_nil hi) ⟨trivial, trivial, trivial⟩ hy⟩) rfl
  · cases hr
/-! laws.eqFloat32S -/
noncomputable def laws_eqFloat32S_l0_T (v1159 : List Nat) (v1160 : List Nat) (s : Int) : Tree ((Int) ⊕ ((Unit) ⊕ (Unit))) :=
  (.br (decide (s < ((v1159.length : Nat) : Int))) (
   (.grd (inb s v1159.length) <|
   (.grd (inb s v1160.length) <|
   (.br (!(laws_sameFloat_v (wid (nth v1159 (Int.toNat s))) (wid (nth v1160 (Int.toNat s))))) (
    .leaf (.inr (.inl ()))
   ) (
    .leaf (.inl (IntKind.i64.wrap (s + (1 : Int))))
   ))))
  ) (
   .leaf (.inr (.inr ()))
  ))

noncomputable def laws_eqFloat32S_l0_g (v1159 : List Nat) (v1160 : List Nat) (s0 : Int) : Option ((Unit) ⊕ (Unit)) := whileM (fun s => (laws_eqFloat32S_l0_T v1159 v1160 s).run) s0
def laws_eqFloat32S_l0_E (v1159 : List Nat) (v1160 : List Nat) (s : Int) : Sd := ([.bslc (BR.root 0) (.f32 v1159), .bslc (BR.root 1) (.f32 v1160), .top, .top, .top, .int .i64 s, .top, .top, .top, .top, .top, .top, .top, .top, .top, .top, .top, .top, .top, .top, .top, .top, .top, .top, .top, .top, .top, .top, .top], [])
def laws_eqFloat32S_l0_X (v1159 : List Nat) (v1160 : List Nat) (x : (Unit) ⊕ (Unit)) : Out := (match x with | .inl x => (.ret, [.top, .top, .top, .top, .lit false, .top, .top, .top, .top, .top, .top, .top, .top, .top, .top, .top, .top, .top, .top, .top, .top, .top, .top, .top, .top, .top, .top, .top, .top], []) | .inr x => (.normal, [.top, .top, .top, .top, .top, .top, .top, .top, .top, .top, .top, .top, .top, .top, .top, .top, .top, .top, .top, .top, .top, .top, .top, .top, .top, .top, .top, .top, .top], []))
def laws_eqFloat32S_l0_kill : List Nat := [0, 0, 1, 1, 1, 0, 1, 1, 1, 1, 1, 1, 1, 1, 1, 1, 1, 1, 1, 1, 1, 1, 1, 1, 1, 1, 1, 1, 1]
def laws_eqFloat32S_l0_nx : Exit → List Nat
  | .exit 0 => [1, 1, 1, 1, 1, 1, 1, 1, 1, 1, 1, 1, 1, 1, 1, 1, 1, 1, 1, 1, 1, 1, 1, 1, 1, 1, 1, 1, 1]
  | .ret => [1, 1, 1, 1, 0, 1, 1, 1, 1, 1, 1, 1, 1, 1, 1, 1, 1, 1, 1, 1, 1, 1, 1, 1, 1, 1, 1, 1, 1]
  | _ => []
noncomputable def laws_eqFloat32S_LO (v1159 : List Nat) (v1160 : List Nat) : LOr := fun id e L =>
  match id with
  | 0 => .need (normA 0 laws_eqFloat32S_l0_kill e L = some (laws_eqFloat32S_l0_E v1159 v1160 (gI (vAt e 5)))) (.call (laws_eqFloat32S_l0_g v1159 v1160 (gI (vAt e 5))) fun x => .sum x (fun b0 => .leaf (laws_eqFloat32S_l0_X v1159 v1160 (.inl b0))) (fun c0 => .leaf (laws_eqFloat32S_l0_X v1159 v1160 (.inr c0))))
  | _ => .fail
noncomputable def laws_eqFloat32S_tab : List (FuncId × DFn × Bool) := [(13, laws_sameFloat_F, true)]
theorem laws_eqFloat32S_hO : OrcOk Try.prog (tabD laws_eqFloat32S_tab) (tabM laws_eqFloat32S_tab) := tabD_cons laws_sameFloat_Fok (tabD_nil _)
theorem laws_eqFloat32S_l0_be (v1159 : List Nat) (v1160 : List Nat) (s : Int) : bodyT TT (tabD laws_eqFloat32S_tab) (tabM laws_eqFloat32S_tab) (laws_eqFloat32S_LO v1159 v1160) 0 laws_eqFloat32S_l0_kill laws_eqFloat32S_l0_nx (bodyOf Try.f12 0) 0 (laws_eqFloat32S_l0_E v1159 v1160 s) = (laws_eqFloat32S_l0_T v1159 v1160 s).bind fun y => .leaf (outS (laws_eqFloat32S_l0_E v1159 v1160) (laws_eqFloat32S_l0_X v1159 v1160) y) := by kernel_rfl
theorem laws_eqFloat32S_l0_ok (v1159 : List Nat) (v1160 : List Nat) : LSound Try.prog 0 (laws_eqFloat32S_LO v1159 v1160) 0 (bodyOf Try.f12 0) := by
  intro e L out h
  exact lo_ok (E := laws_eqFloat32S_l0_E v1159 v1160) (gT := laws_eqFloat32S_l0_T v1159 v1160) (X := laws_eqFloat32S_l0_X v1159 v1160) (s0 := (gI (vAt e 5))) tok laws_eqFloat32S_hO mixed (LoopsOk_eq (l := []) (by kernel_rfl) trivial) (laws_eqFloat32S_l0_be v1159 v1160) rfl (by intro x; (cases x with | inl b => rfl | inr x => exact rfl)) h
noncomputable def laws_eqFloat32S_T (v1159 : List Nat) (v1160 : List Nat) : Tree (Bool) :=
  (.br (!decide (((v1159.length : Nat) : Int) = ((v1160.length : Nat) : Int))) (
   .leaf false
  ) (
   (.need (some (laws_eqFloat32S_l0_E v1159 v1160 (0 : Int)) = some (laws_eqFloat32S_l0_E v1159 v1160 (0 : Int))) <|
   (.call (laws_eqFloat32S_l0_g v1159 v1160 (0 : Int)) fun v1166 =>
   (.sum v1166 (fun v1167 =>
    .leaf false
   ) (fun v1168 =>
    .leaf true
   ))))
  ))

noncomputable def laws_eqFloat32S_g (v1159 : List Nat) (v1160 : List Nat) : Option (Bool) := (laws_eqFloat32S_T v1159 v1160).run
def laws_eqFloat32S_enc (v1159 : List Nat) (v1160 : List Nat) (y : Bool) : Rs := (.bool y, [])
theorem laws_eqFloat32S_den (v1159 : List Nat) (v1160 : List Nat) : (den TT (tabD laws_eqFloat32S_tab) (tabM laws_eqFloat32S_tab) (laws_eqFloat32S_LO v1159 v1160) (codeOf Try.f12) ([.bslc (BR.root 0) (.f32 v1159), .bslc (BR.root 1) (.f32 v1160)] ++ List.replicate (Try.f12.ntmps - ([.bslc (BR.root 0) (.f32 v1159), .bslc (BR.root 1) (.f32 v1160)] : List DV).length) .undef) []).bind (retD TT Try.f12.results.toList 0) = (laws_eqFloat32S_T v1159 v1160).bind fun y => .leaf (laws_eqFloat32S_enc v1159 v1160 y) := by kernel_rfl
theorem laws_eqFloat32S_fn (v1159 : List Nat) (v1160 : List Nat) (F : Fr) (hm : F.ids.length = 0) (h0 : St F [] F.H0) (hA : DVs.Ok F [] [.bslc (BR.root 0) (.f32 v1159), .bslc (BR.root 1) (.f32 v1160)]) {y : Bool} (hy : laws_eqFloat32S_g v1159 v1160 = some y) : ∃ H', FnOk Try.prog 12 (DVs.av F [.bslc (BR.root 0) (.f32 v1159), .bslc (BR.root 1) (.f32 v1160)]) F.H0 ((laws_eqFloat32S_enc v1159 v1160 y).1.av F) H' ∧ St F (laws_eqFloat32S_enc v1159 v1160 y).2 H' ∧ (laws_eqFloat32S_enc v1159 v1160 y).1.Ok F (laws_eqFloat32S_enc v1159 v1160 y).2 :=
  fn_fin tok laws_eqFloat32S_hO mixed Try.func12 Try.call12 (by kernel_rfl) (LoopsOk_eq (l := [(0, bodyOf Try.f12 0)]) (by kernel_rfl) ⟨laws_eqFloat32S_l0_ok v1159 v1160, trivial⟩) (laws_eqFloat32S_den v1159 v1160) hy hm h0 hA
noncomputable def laws_eqFloat32S_F : DFn := fun args L =>
  match args with
  | [a1, a2] =>
    optT (rowF32 L a1) fun v1159 =>
    optT (rowF32 L a2) fun v1160 =>
    .call (laws_eqFloat32S_g v1159 v1160) fun y => .leaf (.bool y, L)
  | _ => .fail
theorem laws_eqFloat32S_Fok : COk Try.prog 12 laws_eqFloat32S_F true := by
  intro F L H args r L' hs ha hr
  unfold laws_eqFloat32S_F at hr
  split at hr
  · rename_i a1 a2
    obtain ⟨v1159, hv1159, hr⟩ := optT_run hr
    obtain ⟨v1160, hv1160, hr⟩ := optT_run hr
    simp only [Tree.run] at hr
    obtain ⟨y, hy, hr⟩ := Option.bind_eq_some_iff.1 hr
    simp only [Tree.run, Option.some.injEq, Prod.mk.injEq] at hr
    obtain ⟨rfl, rfl⟩ := hr
    exact call_ok0 hs (fun k => (([a1.av F, a2.av F] : List AV)[k]?).getD .top) [a1, a2] [.bslc (BR.root 0) (.f32 v1159), .bslc (BR.root 1) (.f32 v1160)] (fun F' h0 hi hρ => ⟨by simp [DVs.av, DV.av, BR.av, hρ], laws_eqFloat32S_fn v1159 v1160 F' (by rw [hi]; rfl) (st_nil hi) ⟨bslc_ok hi (by rw [h0, hρ]; exact rowF32_ok hs (DVs.okAt ha 0 rfl) hv1159), bslc_ok hi (by rw [h0, hρ]; exact rowF32_ok hs (DVs.okAt ha 1 rfl) hv1160), trivial⟩ hy⟩) rfl
  · cases hr
/-! laws.eqMatrix -/
noncomputable def laws_eqMatrix_LO (v1153 : Int) (v1154 : Int) (v1155 : List Nat) (v1156 : Int) (v1157 : Int) (v1158 : List Nat) : LOr := fun id e L =>
  match id with
  | _ => .fail
noncomputable def laws_eqMatrix_tab : List (FuncId × DFn × Bool) := [(12, laws_eqFloat32S_F, true)]
theorem laws_eqMatrix_hO : OrcOk Try.prog (tabD laws_eqMatrix_tab) (tabM laws_eqMatrix_tab) := tabD_cons laws_eqFloat32S_Fok (tabD_nil _)
noncomputable def laws_eqMatrix_T (v1153 : Int) (v1154 : Int) (v1155 : List Nat) (v1156 : Int) (v1157 : Int) (v1158 : List Nat) : Tree (Bool) :=
  (.br (!decide (v1153 = v1156)) (
   .leaf false
  ) (
   (.br (!decide (v1154 = v1157)) (
    .leaf false
   ) (
    (.call (laws_eqFloat32S_g v1155 v1158) fun v1169 =>
    (.br (!v1169) (
     .leaf false
    ) (
     .leaf true
    )))
   ))
  ))

noncomputable def laws_eqMatrix_g (v1153 : Int) (v1154 : Int) (v1155 : List Nat) (v1156 : Int) (v1157 : Int) (v1158 : List Nat) : Option (Bool) := (laws_eqMatrix_T v1153 v1154 v1155 v1156 v1157 v1158).run
def laws_eqMatrix_enc (v1153 : Int) (v1154 : Int) (v1155 : List Nat) (v1156 : Int) (v1157 : Int) (v1158 : List Nat) (y : Bool) : Rs := (.bool y, [])
theorem laws_eqMatrix_den (v1153 : Int) (v1154 : Int) (v1155 : List Nat) (v1156 : Int) (v1157 : Int) (v1158 : List Nat) : (den TT (tabD laws_eqMatrix_tab) (tabM laws_eqMatrix_tab) (laws_eqMatrix_LO v1153 v1154 v1155 v1156 v1157 v1158) (codeOf Try.f20) ([.agg [.int .i64 v1153, .int .i64 v1154, .bslc (BR.root 0) (.f32 v1155)], .agg [.int .i64 v1156, .int .i64 v1157, .bslc (BR.root 1) (.f32 v1158)]] ++ List.replicate (Try.f20.ntmps - ([.agg [.int .i64 v1153, .int .i64 v1154, .bslc (BR.root 0) (.f32 v1155)], .agg [.int .i64 v1156, .int .i64 v1157, .bslc (BR.root 1) (.f32 v1158)]] : List DV).length) .undef) []).bind (retD TT Try.f20.results.toList 0) = (laws_eqMatrix_T v1153 v1154 v1155 v1156 v1157 v1158).bind fun y => .leaf (laws_eqMatrix_enc v1153 v1154 v1155 v1156 v1157 v1158 y) := by kernel_rfl
theorem laws_eqMatrix_fn (v1153 : Int) (v1154 : Int) (v1155 : List Nat) (v1156 : Int) (v1157 : Int) (v1158 : List Nat) (F : Fr) (hm : F.ids.length = 0) (h0 : St F [] F.H0) (hA : DVs.Ok F [] [.agg [.int .i64 v1153, .int .i64 v1154, .bslc (BR.root 0) (.f32 v1155)], .agg [.int .i64 v1156, .int .i64 v1157, .bslc (BR.root 1) (.f32 v1158)]]) {y : Bool} (hy : laws_eqMatrix_g v1153 v1154 v1155 v1156 v1157 v1158 = some y) : ∃ H', FnOk Try.prog 20 (DVs.av F [.agg [.int .i64 v1153, .int .i64 v1154, .bslc (BR.root 0) (.f32 v1155)], .agg [.int .i64 v1156, .int .i64 v1157, .bslc (BR.root 1) (.f32 v1158)]]) F.H0 ((laws_eqMatrix_enc v1153 v1154 v1155 v1156 v1157 v1158 y).1.av F) H' ∧ St F (laws_eqMatrix_enc v1153 v1154 v1155 v1156 v1157 v1158 y).2 H' ∧ (laws_eqMatrix_enc v1153 v1154 v1155 v1156 v1157 v1158 y).1.Ok F (laws_eqMatrix_enc v1153 v1154 v1155 v1156 v1157 v1158 y).2 :=
  fn_fin tok laws_eqMatrix_hO mixed Try.func20 Try.call20 (by kernel_rfl) (LoopsOk_eq (l := []) (by kernel_rfl) trivial) (laws_eqMatrix_den v1153 v1154 v1155 v1156 v1157 v1158) hy hm h0 hA
noncomputable def laws_eqMatrix_F : DFn := fun args L =>
  match args with
  | [.agg [.int .i64 v1153, .int .i64 v1154, a1], .agg [.int .i64 v1156, .int .i64 v1157, a2]] =>
    optT (rowF32 L a1) fun v1155 =>
    optT (rowF32 L a2) fun v1158 =>
    .call (laws_eqMatrix_g v1153 v1154 v1155 v1156 v1157 v1158) fun y => .leaf (.bool y, L)
  | _ => .fail
theorem laws_eqMatrix_Fok : COk Try.prog 20 laws_eqMatrix_F true := by
  intro F L H args r L' hs ha hr
  unfold laws_eqMatrix_F at hr
  split at hr
  · rename_i v1153 v1154 a1 v1156 v1157 a2
    obtain ⟨v1155, hv1155, hr⟩ := optT_run hr
    obtain ⟨v1158, hv1158, hr⟩ := optT_run hr
    simp only [Tree.run] at hr
    obtain ⟨y, hy, hr⟩ := Option.bind_eq_some_iff.1 hr
    simp only [Tree.run, Option.some.injEq, Prod.mk.injEq] at hr
    obtain ⟨rfl, rfl⟩ := hr
    exact call_ok0 hs (fun k => (([a1.av F, a2.av F] : List AV)[k]?).getD .top) [.agg [.int .i64 v1153, .int .i64 v1154, a1], .agg [.int .i64 v1156, .int .i64 v1157, a2]] [.agg [.int .i64 v1153, .int .i64 v1154, .bslc (BR.root 0) (.f32 v1155)], .agg [.int .i64 v1156, .int .i64 v1157, .bslc (BR.root 1) (.f32 v1158)]] (fun F' h0 hi hρ => ⟨by simp [DVs.av, DV.av, BR.av, hρ], laws_eqMatrix_fn v1153 v1154 v1155 v1156 v1157 v1158 F' (by rw [hi]; rfl) (st_nil hi) ⟨⟨trivial, trivial, bslc_ok hi (by rw [h0, hρ]; exact rowF32_ok hs (DVs.okAt (DVs.okAt ha 0 rfl) 2 rfl) hv1155), trivial⟩, ⟨trivial, trivial, bslc_ok hi (by rw [h0, hρ]; exact rowF32_ok hs (DVs.okAt (DVs.okAt ha 1 rfl) 2 rfl) hv1158), trivial⟩, trivial⟩ hy⟩) rfl
  · cases hr
/-! laws.markFloat32S -/
noncomputable def laws_markFloat32S_l0_T (s : Int × Int × (List Nat)) : Tree ((Int × Int × (List Nat)) ⊕ (Int × (List Nat))) :=
  (.br (decide (s.2.1 < (((s.2.2).length : Nat) : Int))) (
   (.grd (inb s.2.1 ((s.2.2).length)) <|
   .leaf (.inl (IntKind.i64.wrap (s.1 + (1 : Int)), IntKind.i64.wrap (s.2.1 + (1 : Int)), List.set s.2.2 (Int.toNat s.2.1) (fofint .f32 s.1))))
  ) (
   .leaf (.inr (s.1, s.2.2))
  ))

noncomputable def laws_markFloat32S_l0_g (s0 : Int × Int × (List Nat)) : Option (Int × (List Nat)) := whileM (fun s => (laws_markFloat32S_l0_T s).run) s0
def laws_markFloat32S_l0_E (v1181 : List Nat) (v1182 : Int) (s : Int × Int × (List Nat)) : Sd := ([.own 0 0 ((s.2.2).length), .int .i64 s.1, .top, .top, .top, .int .i64 s.2.1, .top, .top, .top, .top, .top, .top, .top, .top, .top, .top, .top, .top, .top, .top], [.row (.f32 s.2.2) 0])
def laws_markFloat32S_l0_X (v1181 : List Nat) (v1182 : Int) (x : Int × (List Nat)) : Out := (.normal, [.top, .int .i64 x.1, .top, .top, .top, .top, .top, .top, .top, .top, .top, .top, .top, .top, .top, .top, .top, .top, .top, .top], [.row (.f32 x.2) 0])
def laws_markFloat32S_l0_kill : List Nat := [0, 0, 1, 1, 1, 0, 1, 1, 1, 1, 1, 1, 1, 1, 1, 1, 1, 1, 1, 1]
def laws_markFloat32S_l0_nx : Exit → List Nat
  | .exit 0 => [1, 0, 1, 1, 1, 1, 1, 1, 1, 1, 1, 1, 1, 1, 1, 1, 1, 1, 1, 1]
  | .ret => [1, 1, 1, 1, 0, 1, 1, 1, 1, 1, 1, 1, 1, 1, 1, 1, 1, 1, 1, 1]
  | _ => []
noncomputable def laws_markFloat32S_LO (v1181 : List Nat) (v1182 : Int) : LOr := fun id e L =>
  match id with
  | 0 => .need (normA 1 laws_markFloat32S_l0_kill e L = some (laws_markFloat32S_l0_E v1181 v1182 ((gI (vAt e 1)), (gI (vAt e 5)), (gRF L (vAt e 0))))) (.call (laws_markFloat32S_l0_g ((gI (vAt e 1)), (gI (vAt e 5)), (gRF L (vAt e 0)))) fun x => .leaf (laws_markFloat32S_l0_X v1181 v1182 x))
  | _ => .fail
noncomputable def laws_markFloat32S_tab : List (FuncId × DFn × Bool) := []
theorem laws_markFloat32S_hO : OrcOk Try.prog (tabD laws_markFloat32S_tab) (tabM laws_markFloat32S_tab) := tabD_nil _
theorem laws_markFloat32S_l0_be (v1181 : List Nat) (v1182 : Int) (s : Int × Int × (List Nat)) : bodyT TT (tabD laws_markFloat32S_tab) (tabM laws_markFloat32S_tab) (laws_markFloat32S_LO v1181 v1182) 1 laws_markFloat32S_l0_kill laws_markFloat32S_l0_nx (bodyOf Try.f14 0) 0 (laws_markFloat32S_l0_E v1181 v1182 s) = (laws_markFloat32S_l0_T s).bind fun y => .leaf (outS (laws_markFloat32S_l0_E v1181 v1182) (laws_markFloat32S_l0_X v1181 v1182) y) := by kernel_rfl
theorem laws_markFloat32S_l0_ok (v1181 : List Nat) (v1182 : Int) : LSound Try.prog 1 (laws_markFloat32S_LO v1181 v1182) 0 (bodyOf Try.f14 0) := by
  intro e L out h
  exact lo_ok (E := laws_markFloat32S_l0_E v1181 v1182) (gT := laws_markFloat32S_l0_T) (X := laws_markFloat32S_l0_X v1181 v1182) (s0 := ((gI (vAt e 1)), (gI (vAt e 5)), (gRF L (vAt e 0)))) tok laws_markFloat32S_hO mixed (LoopsOk_eq (l := []) (by kernel_rfl) trivial) (laws_markFloat32S_l0_be v1181 v1182) rfl (by intro x; rfl) h
noncomputable def laws_markFloat32S_T (v1181 : List Nat) (v1182 : Int) : Tree (Int × (List Nat)) :=
  (.need (some (laws_markFloat32S_l0_E v1181 v1182 (v1182, (0 : Int), v1181)) = some (laws_markFloat32S_l0_E v1181 v1182 (v1182, (0 : Int), v1181))) <|
  (.call (laws_markFloat32S_l0_g (v1182, (0 : Int), v1181)) fun v1191 =>
  .leaf (v1191.1, v1191.2)))

noncomputable def laws_markFloat32S_g (v1181 : List Nat) (v1182 : Int) : Option (Int × (List Nat)) := (laws_markFloat32S_T v1181 v1182).run
def laws_markFloat32S_enc (v1181 : List Nat) (v1182 : Int) (y : Int × (List Nat)) : Rs := (.int .i64 y.1, [.row (.f32 y.2) 0])
theorem laws_markFloat32S_den (v1181 : List Nat) (v1182 : Int) : (den TT (tabD laws_markFloat32S_tab) (tabM laws_markFloat32S_tab) (laws_markFloat32S_LO v1181 v1182) (codeOf Try.f14) ([.own 0 0 v1181.length, .int .i64 v1182] ++ List.replicate (Try.f14.ntmps - ([.own 0 0 v1181.length, .int .i64 v1182] : List DV).length) .undef) [.row (.f32 v1181) 0]).bind (retD TT Try.f14.results.toList 1) = (laws_markFloat32S_T v1181 v1182).bind fun y => .leaf (laws_markFloat32S_enc v1181 v1182 y) := by kernel_rfl
theorem laws_markFloat32S_fn (v1181 : List Nat) (v1182 : Int) (F : Fr) (hm : F.ids.length = 1) (h0 : St F [.row (.f32 v1181) 0] F.H0) (hA : DVs.Ok F [.row (.f32 v1181) 0] [.own 0 0 v1181.length, .int .i64 v1182]) {y : Int × (List Nat)} (hy : laws_markFloat32S_g v1181 v1182 = some y) : ∃ H', FnOk Try.prog 14 (DVs.av F [.own 0 0 v1181.length, .int .i64 v1182]) F.H0 ((laws_markFloat32S_enc v1181 v1182 y).1.av F) H' ∧ St F (laws_markFloat32S_enc v1181 v1182 y).2 H' ∧ (laws_markFloat32S_enc v1181 v1182 y).1.Ok F (laws_markFloat32S_enc v1181 v1182 y).2 :=
  fn_fin tok laws_markFloat32S_hO mixed Try.func14 Try.call14 (by kernel_rfl) (LoopsOk_eq (l := [(0, bodyOf Try.f14 0)]) (by kernel_rfl) ⟨laws_markFloat32S_l0_ok v1181 v1182, trivial⟩) (laws_markFloat32S_den v1181 v1182) hy hm h0 hA
noncomputable def laws_markFloat32S_F : DFn := fun args L =>
  match args with
  | [a1, .int .i64 v1182] =>
    optT (ownF32 L a1) fun qv1181 =>
    (match sepB [qv1181.1] [] with
    | true =>
    .call (laws_markFloat32S_g qv1181.2 v1182) fun y => .grd (decide (y.2.length = qv1181.2.length)) (.leaf (.int .i64 y.1, setRows L ([qv1181.1].zip [.f32 y.2])))
    | false => .fail)
  | _ => .fail
theorem laws_markFloat32S_Fok : COk Try.prog 14 laws_markFloat32S_F false := by
  intro F L H args r L' hs ha hr
  unfold laws_markFloat32S_F at hr
  split at hr
  · rename_i a1 v1182
    obtain ⟨⟨jv1181, v1181⟩, hqv1181, hr⟩ := optT_run hr
    simp only at hr
    split at hr
    · rename_i hsep
      obtain ⟨hnd, hsepv⟩ := sepB_spec hsep
      simp only [Tree.run] at hr
      obtain ⟨y, hy, hr⟩ := Option.bind_eq_some_iff.1 hr
      try simp only [Tree.run] at hr
      obtain ⟨hl0, hr⟩ := ite_run hr
      simp only [Option.some.injEq, Prod.mk.injEq] at hr
      obtain ⟨rfl, rfl⟩ := hr
      obtain ⟨hr0, hu0, ha0, hb0⟩ := (ownR_spec (DVs.okAt ha 0 rfl) (ownF32_or hqv1181))
      exact mut_ok hs (fun k => (([a1.av F] : List AV)[k]?).getD .top) [a1, .int .i64 v1182] [.own 0 0 v1181.length, .int .i64 v1182] [jv1181] [.f32 v1181] [.f32 y.2] hnd rfl rfl (fun i j q h1 h2 => by
          rcases i with _ | i
          · simp at h1 h2; subst h1; subst h2; exact hr0
          · simp at h1) (fun i q q' h1 h2 => by
          rcases i with _ | i
          · simp at h1 h2; subst h1; subst h2; exact of_decide_eq_true hl0
          · simp at h1) (fun j hj => by simp at hj; subst hj; simp [DVs.refs, DV.refs, hu0]) (fun F' h0 hi hρ hst hS => ⟨by (have ab0 : F'.abs 0 = F.abs jv1181 := (by simp [Fr.abs, hi]); simp [DVs.av, DV.av, BR.av, hρ, Row.len, ha0, ab0]), by
          obtain ⟨H1, k1, k2, _⟩ := laws_markFloat32S_fn v1181 v1182 F' (by rw [hi]; rfl) hst ⟨⟨_, rfl, Nat.le_refl _, Nat.le_refl _, fun _ => rfl, (ownR_spec (DVs.okAt ha 0 rfl) (ownF32_or hqv1181)).2.2.2⟩, trivial, trivial⟩ hy
          exact ⟨H1, k1, k2⟩⟩) (fun F' => rfl) (fun L' => trivial)
    · cases hr
  · cases hr
/-! laws.markMatrix -/
noncomputable def laws_markMatrix_LO (v1192 : Int) (v1193 : Int) (v1194 : List Nat) (v1195 : Int) : LOr := fun id e L =>
  match id with
  | _ => .fail
noncomputable def laws_markMatrix_tab : List (FuncId × DFn × Bool) := [(14, laws_markFloat32S_F, false)]
theorem laws_markMatrix_hO : OrcOk Try.prog (tabD laws_markMatrix_tab) (tabM laws_markMatrix_tab) := tabD_cons laws_markFloat32S_Fok (tabD_nil _)
noncomputable def laws_markMatrix_T (v1194 : List Nat) (v1195 : Int) : Tree (Int × (List Nat)) :=
  (.call (laws_markFloat32S_g v1194 v1195) fun v1196 =>
  (.grd (decide (v1196.2.length = v1194.length)) <|
  .leaf (v1196.1, v1196.2)))

noncomputable def laws_markMatrix_g (v1194 : List Nat) (v1195 : Int) : Option (Int × (List Nat)) := (laws_markMatrix_T v1194 v1195).run
def laws_markMatrix_enc (v1192 : Int) (v1193 : Int) (v1194 : List Nat) (v1195 : Int) (y : Int × (List Nat)) : Rs := (.int .i64 y.1, [.row (.f32 y.2) 0])
theorem laws_markMatrix_den (v1192 : Int) (v1193 : Int) (v1194 : List Nat) (v1195 : Int) : (den TT (tabD laws_markMatrix_tab) (tabM laws_markMatrix_tab) (laws_markMatrix_LO v1192 v1193 v1194 v1195) (codeOf Try.f21) ([.agg [.int .i64 v1192, .int .i64 v1193, .own 0 0 v1194.length], .int .i64 v1195] ++ List.replicate (Try.f21.ntmps - ([.agg [.int .i64 v1192, .int .i64 v1193, .own 0 0 v1194.length], .int .i64 v1195] : List DV).length) .undef) [.row (.f32 v1194) 0]).bind (retD TT Try.f21.results.toList 1) = (laws_markMatrix_T v1194 v1195).bind fun y => .leaf (laws_markMatrix_enc v1192 v1193 v1194 v1195 y) := by kernel_rfl
theorem laws_markMatrix_fn (v1192 : Int) (v1193 : Int) (v1194 : List Nat) (v1195 : Int) (F : Fr) (hm : F.ids.length = 1) (h0 : St F [.row (.f32 v1194) 0] F.H0) (hA : DVs.Ok F [.row (.f32 v1194) 0] [.agg [.int .i64 v1192, .int .i64 v1193, .own 0 0 v1194.length], .int .i64 v1195]) {y : Int × (List Nat)} (hy : laws_markMatrix_g v1194 v1195 = some y) : ∃ H', FnOk Try.prog 21 (DVs.av F [.agg [.int .i64 v1192, .int .i64 v1193, .own 0 0 v1194.length], .int .i64 v1195]) F.H0 ((laws_markMatrix_enc v1192 v1193 v1194 v1195 y).1.av F) H' ∧ St F (laws_markMatrix_enc v1192 v1193 v1194 v1195 y).2 H' ∧ (laws_markMatrix_enc v1192 v1193 v1194 v1195 y).1.Ok F (laws_markMatrix_enc v1192 v1193 v1194 v1195 y).2 :=
  fn_fin tok laws_markMatrix_hO mixed Try.func21 Try.call21 (by kernel_rfl) (LoopsOk_eq (l := []) (by kernel_rfl) trivial) (laws_markMatrix_den v1192 v1193 v1194 v1195) hy hm h0 hA
noncomputable def laws_markMatrix_F : DFn := fun args L =>
  match args with
  | [.agg [.int .i64 v1192, .int .i64 v1193, a1], .int .i64 v1195] =>
    optT (ownF32 L a1) fun qv1194 =>
    (match sepB [qv1194.1] [] with
    | true =>
    .call (laws_markMatrix_g qv1194.2 v1195) fun y => .grd (decide (y.2.length = qv1194.2.length)) (.leaf (.int .i64 y.1, setRows L ([qv1194.1].zip [.f32 y.2])))
    | false => .fail)
  | _ => .fail
theorem laws_markMatrix_Fok : COk Try.prog 21 laws_markMatrix_F false := by
  intro F L H args r L' hs ha hr
  unfold laws_markMatrix_F at hr
  split at hr
  · rename_i v1192 v1193 a1 v1195
    obtain ⟨⟨jv1194, v1194⟩, hqv1194, hr⟩ := optT_run hr
    simp only at hr
    split at hr
    · rename_i hsep
      obtain ⟨hnd, hsepv⟩ := sepB_spec hsep
      simp only [Tree.run] at hr
      obtain ⟨y, hy, hr⟩ := Option.bind_eq_some_iff.1 hr
      try simp only [Tree.run] at hr
      obtain ⟨hl0, hr⟩ := ite_run hr
      simp only [Option.some.injEq, Prod.mk.injEq] at hr
      obtain ⟨rfl, rfl⟩ := hr
      obtain ⟨hr0, hu0, ha0, hb0⟩ := (ownR_spec (DVs.okAt (DVs.okAt ha 0 rfl) 2 rfl) (ownF32_or hqv1194))
      exact mut_ok hs (fun k => (([a1.av F] : List AV)[k]?).getD .top) [.agg [.int .i64 v1192, .int .i64 v1193, a1], .int .i64 v1195] [.agg [.int .i64 v1192, .int .i64 v1193, .own 0 0 v1194.length], .int .i64 v1195] [jv1194] [.f32 v1194] [.f32 y.2] hnd rfl rfl (fun i j q h1 h2 => by
          rcases i with _ | i
          · simp at h1 h2; subst h1; subst h2; exact hr0
          · simp at h1) (fun i q q' h1 h2 => by
          rcases i with _ | i
          · simp at h1 h2; subst h1; subst h2; exact of_decide_eq_true hl0
          · simp at h1) (fun j hj => by simp at hj; subst hj; simp [DVs.refs, DV.refs, hu0]) (fun F' h0 hi hρ hst hS => ⟨by (have ab0 : F'.abs 0 = F.abs jv1194 := (by simp [Fr.abs, hi]); simp [DVs.av, DV.av, BR.av, hρ, Row.len, ha0, ab0]), by
          obtain ⟨H1, k1, k2, _⟩ := laws_markMatrix_fn v1192 v1193 v1194 v1195 F' (by rw [hi]; rfl) hst ⟨⟨trivial, trivial, ⟨_, rfl, Nat.le_refl _, Nat.le_refl _, fun _ => rfl, (ownR_spec (DVs.okAt (DVs.okAt ha 0 rfl) 2 rfl) (ownF32_or hqv1194)).2.2.2⟩, trivial⟩, trivial, trivial⟩ hy
          exact ⟨H1, k1, k2⟩⟩) (fun F' => rfl) (fun L' => trivial)
    · cases hr
  · cases hr
/-! laws.markFloat32S -/
noncomputable def laws_markFloat32S_i1_l0_T (s : Unit) : Tree ((Unit) ⊕ (Unit)) :=
  (.br (decide ((0 : Int) < (0 : Int))) (
   .fail
  ) (
   .leaf (.inr ())
  ))

noncomputable def laws_markFloat32S_i1_l0_g (s0 : Unit) : Option (Unit) := whileM (fun s => (laws_markFloat32S_i1_l0_T s).run) s0
def laws_markFloat32S_i1_l0_E (v1202 : Int) (s : Unit) : Sd := ([.nilslc, .int .i64 v1202, .top, .top, .top, .int .i64 (0 : Int), .top, .top, .top, .top, .top, .top, .top, .top, .top, .top, .top, .top, .top, .top], [])
def laws_markFloat32S_i1_l0_X (v1202 : Int) (x : Unit) : Out := (.normal, [.top, .int .i64 v1202, .top, .top, .top, .top, .top, .top, .top, .top, .top, .top, .top, .top, .top, .top, .top, .top, .top, .top], [])
def laws_markFloat32S_i1_l0_kill : List Nat := [0, 0, 1, 1, 1, 0, 1, 1, 1, 1, 1, 1, 1, 1, 1, 1, 1, 1, 1, 1]
def laws_markFloat32S_i1_l0_nx : Exit → List Nat
  | .exit 0 => [1, 0, 1, 1, 1, 1, 1, 1, 1, 1, 1, 1, 1, 1, 1, 1, 1, 1, 1, 1]
  | .ret => [1, 1, 1, 1, 0, 1, 1, 1, 1, 1, 1, 1, 1, 1, 1, 1, 1, 1, 1, 1]
  | _ => []
noncomputable def laws_markFloat32S_i1_LO (v1202 : Int) : LOr := fun id e L =>
  match id with
  | 0 => .need (normA 0 laws_markFloat32S_i1_l0_kill e L = some (laws_markFloat32S_i1_l0_E v1202 ())) (.call (laws_markFloat32S_i1_l0_g ()) fun x => .leaf (laws_markFloat32S_i1_l0_X v1202 x))
  | _ => .fail
noncomputable def laws_markFloat32S_i1_tab : List (FuncId × DFn × Bool) := []
theorem laws_markFloat32S_i1_hO : OrcOk Try.prog (tabD laws_markFloat32S_i1_tab) (tabM laws_markFloat32S_i1_tab) := tabD_nil _
theorem laws_markFloat32S_i1_l0_be (v1202 : Int) (s : Unit) : bodyT TT (tabD laws_markFloat32S_i1_tab) (tabM laws_markFloat32S_i1_tab) (laws_markFloat32S_i1_LO v1202) 0 laws_markFloat32S_i1_l0_kill laws_markFloat32S_i1_l0_nx (bodyOf Try.f14 0) 0 (laws_markFloat32S_i1_l0_E v1202 s) = (laws_markFloat32S_i1_l0_T s).bind fun y => .leaf (outS (laws_markFloat32S_i1_l0_E v1202) (laws_markFloat32S_i1_l0_X v1202) y) := by kernel_rfl
theorem laws_markFloat32S_i1_l0_ok (v1202 : Int) : LSound Try.prog 0 (laws_markFloat32S_i1_LO v1202) 0 (bodyOf Try.f14 0) := by
  intro e L out h
  exact lo_ok (E := laws_markFloat32S_i1_l0_E v1202) (gT := laws_markFloat32S_i1_l0_T) (X := laws_markFloat32S_i1_l0_X v1202) (s0 := ()) tok laws_markFloat32S_i1_hO mixed (LoopsOk_eq (l := []) (by kernel_rfl) trivial) (laws_markFloat32S_i1_l0_be v1202) rfl (by intro x; rfl) h
noncomputable def laws_markFloat32S_i1_T (v1202 : Int) : Tree (Int) :=
  (.need (some (laws_markFloat32S_i1_l0_E v1202 ()) = some (laws_markFloat32S_i1_l0_E v1202 ())) <|
  (.call (laws_markFloat32S_i1_l0_g ()) fun v1205 =>
  .leaf v1202))

noncomputable def laws_markFloat32S_i1_g (v1202 : Int) : Option (Int) := (laws_markFloat32S_i1_T v1202).run
def laws_markFloat32S_i1_enc (v1202 : Int) (y : Int) : Rs := (.int .i64 y, [])
theorem laws_markFloat32S_i1_den (v1202 : Int) : (den TT (tabD laws_markFloat32S_i1_tab) (tabM laws_markFloat32S_i1_tab) (laws_markFloat32S_i1_LO v1202) (codeOf Try.f14) ([.nilslc, .int .i64 v1202] ++ List.replicate (Try.f14.ntmps - ([.nilslc, .int .i64 v1202] : List DV).length) .undef) []).bind (retD TT Try.f14.results.toList 0) = (laws_markFloat32S_i1_T v1202).bind fun y => .leaf (laws_markFloat32S_i1_enc v1202 y) := by kernel_rfl
theorem laws_markFloat32S_i1_fn (v1202 : Int) (F : Fr) (hm : F.ids.length = 0) (h0 : St F [] F.H0) (hA : DVs.Ok F [] [.nilslc, .int .i64 v1202]) {y : Int} (hy : laws_markFloat32S_i1_g v1202 = some y) : ∃ H', FnOk Try.prog 14 (DVs.av F [.nilslc, .int .i64 v1202]) F.H0 ((laws_markFloat32S_i1_enc v1202 y).1.av F) H' ∧ St F (laws_markFloat32S_i1_enc v1202 y).2 H' ∧ (laws_markFloat32S_i1_enc v1202 y).1.Ok F (laws_markFloat32S_i1_enc v1202 y).2 :=
  fn_fin tok laws_markFloat32S_i1_hO mixed Try.func14 Try.call14 (by kernel_rfl) (LoopsOk_eq (l := [(0, bodyOf Try.f14 0)]) (by kernel_rfl) ⟨laws_markFloat32S_i1_l0_ok v1202, trivial⟩) (laws_markFloat32S_i1_den v1202) hy hm h0 hA
noncomputable def laws_markFloat32S_i1_F : DFn := fun args L =>
  match args with
  | [.nilslc, .int .i64 v1202] =>
    .call (laws_markFloat32S_i1_g v1202) fun y => .leaf (.int .i64 y, L)
  | _ => .fail
theorem laws_markFloat32S_i1_Fok : COk Try.prog 14 laws_markFloat32S_i1_F true := by
  intro F L H args r L' hs ha hr
  unfold laws_markFloat32S_i1_F at hr
  split at hr
  · rename_i v1202
    simp only [Tree.run] at hr
    obtain ⟨y, hy, hr⟩ := Option.bind_eq_some_iff.1 hr
    simp only [Tree.run, Option.some.injEq, Prod.mk.injEq] at hr
    obtain ⟨rfl, rfl⟩ := hr
    exact call_ok0 hs (fun k => (([] : List AV)[k]?).getD .top) [.nilslc, .int .i64 v1202] [.nilslc, .int .i64 v1202] (fun F' h0 hi hρ => ⟨by simp [DVs.av, DV.av, BR.av, hρ], laws_markFloat32S_i1_fn v1202 F' (by rw [hi]; rfl) (st_nil hi) ⟨trivial, trivial, trivial⟩ hy⟩) rfl
  · cases hr
/-! laws.markMatrix -/
noncomputable def laws_markMatrix_i1_LO (v1199 : Int) (v1200 : Int) (v1201 : Int) : LOr := fun id e L =>
  match id with
  | _ => .fail
noncomputable def laws_markMatrix_i1_tab : List (FuncId × DFn × Bool) := [(14, laws_markFloat32S_i1_F, true)]
theorem laws_markMatrix_i1_hO : OrcOk Try.prog (tabD laws_markMatrix_i1_tab) (tabM laws_markMatrix_i1_tab) := tabD_cons laws_markFloat32S_i1_Fok (tabD_nil _)
noncomputable def laws_markMatrix_i1_T (v1201 : Int) : Tree (Int) :=
  (.call (laws_markFloat32S_i1_g v1201) fun v1206 =>
  .leaf v1206)

noncomputable def laws_markMatrix_i1_g (v1201 : Int) : Option (Int) := (laws_markMatrix_i1_T v1201).run
def laws_markMatrix_i1_enc (v1199 : Int) (v1200 : Int) (v1201 : Int) (y : Int) : Rs := (.int .i64 y, [])
theorem laws_markMatrix_i1_den (v1199 : Int) (v1200 : Int) (v1201 : Int) : (den TT (tabD laws_markMatrix_i1_tab) (tabM laws_markMatrix_i1_tab) (laws_markMatrix_i1_LO v1199 v1200 v1201) (codeOf Try.f21) ([.agg [.int .i64 v1199, .int .i64 v1200, .nilslc], .int .i64 v1201] ++ List.replicate (Try.f21.ntmps - ([.agg [.int .i64 v1199, .int .i64 v1200, .nilslc], .int .i64 v1201] : List DV).length) .undef) []).bind (retD TT Try.f21.results.toList 0) = (laws_markMatrix_i1_T v1201).bind fun y => .leaf (laws_markMatrix_i1_enc v1199 v1200 v1201 y) := by kernel_rfl
theorem laws_markMatrix_i1_fn (v1199 : Int) (v1200 : Int) (v1201 : Int) (F : Fr) (hm : F.ids.length = 0) (h0 : St F [] F.H0) (hA : DVs.Ok F [] [.agg [.int .i64 v1199, .int .i64 v1200, .nilslc], .int .i64 v1201]) {y : Int} (hy : laws_markMatrix_i1_g v1201 = some y) : ∃ H', FnOk Try.prog 21 (DVs.av F [.agg [.int .i64 v1199, .int .i64 v1200, .nilslc], .int .i64 v1201]) F.H0 ((laws_markMatrix_i1_enc v1199 v1200 v1201 y).1.av F) H' ∧ St F (laws_markMatrix_i1_enc v1199 v1200 v1201 y).2 H' ∧ (laws_markMatrix_i1_enc v1199 v1200 v1201 y).1.Ok F (laws_markMatrix_i1_enc v1199 v1200 v1201 y).2 :=
  fn_fin tok laws_markMatrix_i1_hO mixed Try.func21 Try.call21 (by kernel_rfl) (LoopsOk_eq (l := []) (by kernel_rfl) trivial) (laws_markMatrix_i1_den v1199 v1200 v1201) hy hm h0 hA
noncomputable def laws_markMatrix_i1_F : DFn := fun args L =>
  match args with
  | [.agg [.int .i64 v1199, .int .i64 v1200, .nilslc], .int .i64 v1201] =>
    .call (laws_markMatrix_i1_g v1201) fun y => .leaf (.int .i64 y, L)
  | _ => .fail
theorem laws_markMatrix_i1_Fok : COk Try.prog 21 laws_markMatrix_i1_F true := by
  intro F L H args r L' hs ha hr
  unfold laws_markMatrix_i1_F at hr
  split at hr
  · rename_i v1199 v1200 v1201
    simp only [Tree.run] at hr
    obtain ⟨y, hy, hr⟩ := Option.bind_eq_some_iff.1 hr
    simp only [Tree.run, Option.some.injEq, Prod.mk.injEq] at hr
    obtain ⟨rfl, rfl⟩ := hr
    exact call_ok0 hs (fun k => (([] : List AV)[k]?).getD .top) [.agg [.int .i64 v1199, .int .i64 v1200, .nilslc], .int .i64 v1201] [.agg [.int .i64 v1199, .int .i64 v1200, .nilslc], .int .i64 v1201] (fun F' h0 hi hρ => ⟨by simp [DVs.av, DV.av, BR.av, hρ], laws_markMatrix_i1_fn v1199 v1200 v1201 F' (by rw [hi]; rfl) (st_nil hi) ⟨⟨trivial, trivial, trivial, trivial⟩, trivial, trivial⟩ hy⟩) rfl
  · cases hr
/-! laws.heldFloat32S -/
noncomputable def laws_heldFloat32S_l0_T (v1212 : List Nat) (s : Int × Int) : Tree ((Int × Int) ⊕ ((Unit) ⊕ (Int))) :=
  (.br (decide (s.2 < ((v1212.length : Nat) : Int))) (
   (.grd (inb s.2 v1212.length) <|
   (.br (!feq .f32 (nth v1212 (Int.toNat s.2)) (fofint .f32 s.1)) (
    .leaf (.inr (.inl ()))
   ) (
    .leaf (.inl (IntKind.i64.wrap (s.1 + (1 : Int)), IntKind.i64.wrap (s.2 + (1 : Int))))
   )))
  ) (
   .leaf (.inr (.inr s.1))
  ))

noncomputable def laws_heldFloat32S_l0_g (v1212 : List Nat) (s0 : Int × Int) : Option ((Unit) ⊕ (Int)) := whileM (fun s => (laws_heldFloat32S_l0_T v1212 s).run) s0
def laws_heldFloat32S_l0_E (v1212 : List Nat) (v1213 : Int) (s : Int × Int) : Sd := ([.bslc (BR.root 0) (.f32 v1212), .int .i64 s.1, .top, .top, .top, .int .i64 s.2, .top, .top, .top, .top, .top, .top, .top, .top, .top, .top, .top, .top, .top, .top, .top, .top], [])
def laws_heldFloat32S_l0_X (v1212 : List Nat) (v1213 : Int) (x : (Unit) ⊕ (Int)) : Out := (match x with | .inl x => (.ret, [.top, .top, .top, .top, .int .i64 (-1 : Int), .top, .top, .top, .top, .top, .top, .top, .top, .top, .top, .top, .top, .top, .top, .top, .top, .top], []) | .inr x => (.normal, [.top, .int .i64 x, .top, .top, .top, .top, .top, .top, .top, .top, .top, .top, .top, .top, .top, .top, .top, .top, .top, .top, .top, .top], []))
def laws_heldFloat32S_l0_kill : List Nat := [0, 0, 1, 1, 1, 0, 1, 1, 1, 1, 1, 1, 1, 1, 1, 1, 1, 1, 1, 1, 1, 1]
def laws_heldFloat32S_l0_nx : Exit → List Nat
  | .exit 0 => [1, 0, 1, 1, 1, 1, 1, 1, 1, 1, 1, 1, 1, 1, 1, 1, 1, 1, 1, 1, 1, 1]
  | .ret => [1, 1, 1, 1, 0, 1, 1, 1, 1, 1, 1, 1, 1, 1, 1, 1, 1, 1, 1, 1, 1, 1]
  | _ => []
noncomputable def laws_heldFloat32S_LO (v1212 : List Nat) (v1213 : Int) : LOr := fun id e L =>
  match id with
  | 0 => .need (normA 0 laws_heldFloat32S_l0_kill e L = some (laws_heldFloat32S_l0_E v1212 v1213 ((gI (vAt e 1)), (gI (vAt e 5))))) (.call (laws_heldFloat32S_l0_g v1212 ((gI (vAt e 1)), (gI (vAt e 5)))) fun x => .sum x (fun b0 => .leaf (laws_heldFloat32S_l0_X v1212 v1213 (.inl b0))) (fun c0 => .leaf (laws_heldFloat32S_l0_X v1212 v1213 (.inr c0))))
  | _ => .fail
noncomputable def laws_heldFloat32S_tab : List (FuncId × DFn × Bool) := []
theorem laws_heldFloat32S_hO : OrcOk Try.prog (tabD laws_heldFloat32S_tab) (tabM laws_heldFloat32S_tab) := tabD_nil _
theorem laws_heldFloat32S_l0_be (v1212 : List Nat) (v1213 : Int) (s : Int × Int) : bodyT TT (tabD laws_heldFloat32S_tab) (tabM laws_heldFloat32S_tab) (laws_heldFloat32S_LO v1212 v1213) 0 laws_heldFloat32S_l0_kill laws_heldFloat32S_l0_nx (bodyOf Try.f15 0) 0 (laws_heldFloat32S_l0_E v1212 v1213 s) = (laws_heldFloat32S_l0_T v1212 s).bind fun y => .leaf (outS (laws_heldFloat32S_l0_E v1212 v1213) (laws_heldFloat32S_l0_X v1212 v1213) y) := by kernel_rfl
theorem laws_heldFloat32S_l0_ok (v1212 : List Nat) (v1213 : Int) : LSound Try.prog 0 (laws_heldFloat32S_LO v1212 v1213) 0 (bodyOf Try.f15 0) := by
  intro e L out h
  exact lo_ok (E := laws_heldFloat32S_l0_E v1212 v1213) (gT := laws_heldFloat32S_l0_T v1212) (X := laws_heldFloat32S_l0_X v1212 v1213) (s0 := ((gI (vAt e 1)), (gI (vAt e 5)))) tok laws_heldFloat32S_hO mixed (LoopsOk_eq (l := []) (by kernel_rfl) trivial) (laws_heldFloat32S_l0_be v1212 v1213) rfl (by intro x; (cases x with | inl b => rfl | inr x => exact rfl)) h
noncomputable def laws_heldFloat32S_T (v1212 : List Nat) (v1213 : Int) : Tree (Int) :=
  (.need (some (laws_heldFloat32S_l0_E v1212 v1213 (v1213, (0 : Int))) = some (laws_heldFloat32S_l0_E v1212 v1213 (v1213, (0 : Int)))) <|
  (.call (laws_heldFloat32S_l0_g v1212 (v1213, (0 : Int))) fun v1220 =>
  (.sum v1220 (fun v1221 =>
   .leaf (-1 : Int)
  ) (fun v1222 =>
   .leaf v1222
  ))))

noncomputable def laws_heldFloat32S_g (v1212 : List Nat) (v1213 : Int) : Option (Int) := (laws_heldFloat32S_T v1212 v1213).run
def laws_heldFloat32S_enc (v1212 : List Nat) (v1213 : Int) (y : Int) : Rs := (.int .i64 y, [])
theorem laws_heldFloat32S_den (v1212 : List Nat) (v1213 : Int) : (den TT (tabD laws_heldFloat32S_tab) (tabM laws_heldFloat32S_tab) (laws_heldFloat32S_LO v1212 v1213) (codeOf Try.f15) ([.bslc (BR.root 0) (.f32 v1212), .int .i64 v1213] ++ List.replicate (Try.f15.ntmps - ([.bslc (BR.root 0) (.f32 v1212), .int .i64 v1213] : List DV).length) .undef) []).bind (retD TT Try.f15.results.toList 0) = (laws_heldFloat32S_T v1212 v1213).bind fun y => .leaf (laws_heldFloat32S_enc v1212 v1213 y) := by kernel_rfl
theorem laws_heldFloat32S_fn (v1212 : List Nat) (v1213 : Int) (F : Fr) (hm : F.ids.length = 0) (h0 : St F [] F.H0) (hA : DVs.Ok F [] [.bslc (BR.root 0) (.f32 v1212), .int .i64 v1213]) {y : Int} (hy : laws_heldFloat32S_g v1212 v1213 = some y) : ∃ H', FnOk Try.prog 15 (DVs.av F [.bslc (BR.root 0) (.f32 v1212), .int .i64 v1213]) F.H0 ((laws_heldFloat32S_enc v1212 v1213 y).1.av F) H' ∧ St F (laws_heldFloat32S_enc v1212 v1213 y).2 H' ∧ (laws_heldFloat32S_enc v1212 v1213 y).1.Ok F (laws_heldFloat32S_enc v1212 v1213 y).2 :=
  fn_fin tok laws_heldFloat32S_hO mixed Try.func15 Try.call15 (by kernel_rfl) (LoopsOk_eq (l := [(0, bodyOf Try.f15 0)]) (by kernel_rfl) ⟨laws_heldFloat32S_l0_ok v1212 v1213, trivial⟩) (laws_heldFloat32S_den v1212 v1213) hy hm h0 hA
noncomputable def laws_heldFloat32S_F : DFn := fun args L =>
  match args with
  | [a1, .int .i64 v1213] =>
    optT (rowF32 L a1) fun v1212 =>
    .call (laws_heldFloat32S_g v1212 v1213) fun y => .leaf (.int .i64 y, L)
  | _ => .fail
theorem laws_heldFloat32S_Fok : COk Try.prog 15 laws_heldFloat32S_F true := by
  intro F L H args r L' hs ha hr
  unfold laws_heldFloat32S_F at hr
  split at hr
  · rename_i a1 v1213
    obtain ⟨v1212, hv1212, hr⟩ := optT_run hr
    simp only [Tree.run] at hr
    obtain ⟨y, hy, hr⟩ := Option.bind_eq_some_iff.1 hr
    simp only [Tree.run, Option.some.injEq, Prod.mk.injEq] at hr
    obtain ⟨rfl, rfl⟩ := hr
    exact call_ok0 hs (fun k => (([a1.av F] : List AV)[k]?).getD .top) [a1, .int .i64 v1213] [.bslc (BR.root 0) (.f32 v1212), .int .i64 v1213] (fun F' h0 hi hρ => ⟨by simp [DVs.av, DV.av, BR.av, hρ], laws_heldFloat32S_fn v1212 v1213 F' (by rw [hi]; rfl) (st_nil hi) ⟨bslc_ok hi (by rw [h0, hρ]; exact rowF32_ok hs (DVs.okAt ha 0 rfl) hv1212), trivial, trivial⟩ hy⟩) rfl
  · cases hr
/-! laws.heldMatrix -/
noncomputable def laws_heldMatrix_LO (v1208 : Int) (v1209 : Int) (v1210 : List Nat) (v1211 : Int) : LOr := fun id e L =>
  match id with
  | _ => .fail
noncomputable def laws_heldMatrix_tab : List (FuncId × DFn × Bool) := [(15, laws_heldFloat32S_F, true)]
theorem laws_heldMatrix_hO : OrcOk Try.prog (tabD laws_heldMatrix_tab) (tabM laws_heldMatrix_tab) := tabD_cons laws_heldFloat32S_Fok (tabD_nil _)
noncomputable def laws_heldMatrix_T (v1210 : List Nat) (v1211 : Int) : Tree (Int) :=
  (.call (laws_heldFloat32S_g v1210 v1211) fun v1223 =>
  (.br (decide (v1223 < (0 : Int))) (
   .leaf (-1 : Int)
  ) (
   .leaf v1223
  )))

noncomputable def laws_heldMatrix_g (v1210 : List Nat) (v1211 : Int) : Option (Int) := (laws_heldMatrix_T v1210 v1211).run
def laws_heldMatrix_enc (v1208 : Int) (v1209 : Int) (v1210 : List Nat) (v1211 : Int) (y : Int) : Rs := (.int .i64 y, [])
theorem laws_heldMatrix_den (v1208 : Int) (v1209 : Int) (v1210 : List Nat) (v1211 : Int) : (den TT (tabD laws_heldMatrix_tab) (tabM laws_heldMatrix_tab) (laws_heldMatrix_LO v1208 v1209 v1210 v1211) (codeOf Try.f22) ([.agg [.int .i64 v1208, .int .i64 v1209, .bslc (BR.root 0) (.f32 v1210)], .int .i64 v1211] ++ List.replicate (Try.f22.ntmps - ([.agg [.int .i64 v1208, .int .i64 v1209, .bslc (BR.root 0) (.f32 v1210)], .int .i64 v1211] : List DV).length) .undef) []).bind (retD TT Try.f22.results.toList 0) = (laws_heldMatrix_T v1210 v1211).bind fun y => .leaf (laws_heldMatrix_enc v1208 v1209 v1210 v1211 y) := by kernel_rfl
theorem laws_heldMatrix_fn (v1208 : Int) (v1209 : Int) (v1210 : List Nat) (v1211 : Int) (F : Fr) (hm : F.ids.length = 0) (h0 : St F [] F.H0) (hA : DVs.Ok F [] [.agg [.int .i64 v1208, .int .i64 v1209, .bslc (BR.root 0) (.f32 v1210)], .int .i64 v1211]) {y : Int} (hy : laws_heldMatrix_g v1210 v1211 = some y) : ∃ H', FnOk Try.prog 22 (DVs.av F [.agg [.int .i64 v1208, .int .i64 v1209, .bslc (BR.root 0) (.f32 v1210)], .int .i64 v1211]) F.H0 ((laws_heldMatrix_enc v1208 v1209 v1210 v1211 y).1.av F) H' ∧ St F (laws_heldMatrix_enc v1208 v1209 v1210 v1211 y).2 H' ∧ (laws_heldMatrix_enc v1208 v1209 v1210 v1211 y).1.Ok F (laws_heldMatrix_enc v1208 v1209 v1210 v1211 y).2 :=
  fn_fin tok laws_heldMatrix_hO mixed Try.func22 Try.call22 (by kernel_rfl) (LoopsOk_eq (l := []) (by kernel_rfl) trivial) (laws_heldMatrix_den v1208 v1209 v1210 v1211) hy hm h0 hA
noncomputable def laws_heldMatrix_F : DFn := fun args L =>
  match args with
  | [.agg [.int .i64 v1208, .int .i64 v1209, a1], .int .i64 v1211] =>
    optT (rowF32 L a1) fun v1210 =>
    .call (laws_heldMatrix_g v1210 v1211) fun y => .leaf (.int .i64 y, L)
  | _ => .fail
theorem laws_heldMatrix_Fok : COk Try.prog 22 laws_heldMatrix_F true := by
  intro F L H args r L' hs ha hr
  unfold laws_heldMatrix_F at hr
  split at hr
  · rename_i v1208 v1209 a1 v1211
    obtain ⟨v1210, hv1210, hr⟩ := optT_run hr
    simp only [Tree.run] at hr
    obtain ⟨y, hy, hr⟩ := Option.bind_eq_some_iff.1 hr
    simp only [Tree.run, Option.some.injEq, Prod.mk.injEq] at hr
    obtain ⟨rfl, rfl⟩ := hr
    exact call_ok0 hs (fun k => (([a1.av F] : List AV)[k]?).getD .top) [.agg [.int .i64 v1208, .int .i64 v1209, a1], .int .i64 v1211] [.agg [.int .i64 v1208, .int .i64 v1209, .bslc (BR.root 0) (.f32 v1210)], .int .i64 v1211] (fun F' h0 hi hρ => ⟨by simp [DVs.av, DV.av, BR.av, hρ], laws_heldMatrix_fn v1208 v1209 v1210 v1211 F' (by rw [hi]; rfl) (st_nil hi) ⟨⟨trivial, trivial, bslc_ok hi (by rw [h0, hρ]; exact rowF32_ok hs (DVs.okAt (DVs.okAt ha 0 rfl) 2 rfl) hv1210), trivial⟩, trivial, trivial⟩ hy⟩) rfl
  · cases hr
/-! laws.FnExactRootOfSquare -/
noncomputable def laws_FnExactRootOfSquare_LO (v1 : Int) (v2 : Int) (v3 : List Nat) : LOr := fun id e L =>
  match id with
  | _ => .fail
noncomputable def laws_FnExactRootOfSquare_tab : List (FuncId × DFn × Bool) := [(16, laws_szMatrix_F, true), (18, laws_toMatrix_F, true), (17, spec_RootOfSquare_F, true), (19, impl_RootOfSquare_F, true), (20, laws_eqMatrix_F, true), (21, (orD (fun args => match args with | [.agg [_, _, .nilslc], _] => true | _ => false) laws_markMatrix_i1_F laws_markMatrix_F), false), (22, laws_heldMatrix_F, true)]
theorem laws_FnExactRootOfSquare_hO : OrcOk Try.prog (tabD laws_FnExactRootOfSquare_tab) (tabM laws_FnExactRootOfSquare_tab) := tabD_cons laws_szMatrix_Fok (tabD_cons laws_toMatrix_Fok (tabD_cons spec_RootOfSquare_Fok (tabD_cons impl_RootOfSquare_Fok (tabD_cons laws_eqMatrix_Fok (tabD_cons (orD_ok (COk.weak laws_markMatrix_i1_Fok) laws_markMatrix_Fok) (tabD_cons laws_heldMatrix_Fok (tabD_nil _)))))))
noncomputable def laws_FnExactRootOfSquare_T (v1 : Int) (v2 : Int) (v3 : List Nat) : Tree (Bool) :=
  (.br (decide ((laws_szMatrix_v v3 (1048576 : Int)) < (0 : Int))) (
   .leaf true
  ) (
   (.call (laws_toMatrix_g v1 v2 v3) fun v21 =>
   (.call (spec_RootOfSquare_g v21.1 v21.2.1 v21.2.2) fun v684 =>
   (.sum v684 (fun v685 =>
    (.call (laws_toMatrix_g v1 v2 v3) fun v687 =>
    (.call (impl_RootOfSquare_g v687.1 v687.2.1 v687.2.2) fun v1150 =>
    (.sum v1150 (fun v1151 =>
     (.call (laws_eqMatrix_g (0 : Int) (0 : Int) ([] : List Nat) (0 : Int) (0 : Int) ([] : List Nat)) fun v1170 =>
     (.br (!v1170) (
      .leaf false
     ) (
      (.br (!(false == false)) (
       .leaf false
      ) (
       (.call (laws_toMatrix_g v1 v2 v3) fun v1171 =>
       (.call (laws_eqMatrix_g v687.1 v687.2.1 v687.2.2 v1171.1 v1171.2.1 v1171.2.2) fun v1172 =>
       (.br (!v1172) (
        .leaf false
       ) (
        (.call (laws_markMatrix_g v687.2.2 (1 : Int)) fun v1197 =>
        (.grd (decide (v1197.2.length = v687.2.2.length)) <|
        (.br (decide (v1197.1 < (0 : Int))) (
         .leaf false
        ) (
         (.call (laws_eqMatrix_g (0 : Int) (0 : Int) ([] : List Nat) (0 : Int) (0 : Int) ([] : List Nat)) fun v1198 =>
         (.br (!v1198) (
          .leaf false
         ) (
          (.br (!(false == false)) (
           .leaf false
          ) (
           (.call (laws_markMatrix_i1_g (1 : Int)) fun v1207 =>
           (.call (laws_heldMatrix_g ([] : List Nat) (1 : Int)) fun v1224 =>
           (.br (decide (v1224 < (0 : Int))) (
            .leaf false
           ) (
            (.br (!decide (v1224 = v1207)) (
             .leaf false
            ) (
             (.call (laws_toMatrix_g v1 v2 v3) fun v1225 =>
             (.call (impl_RootOfSquare_g v1225.1 v1225.2.1 v1225.2.2) fun v1226 =>
             (.sum v1226 (fun v1227 =>
              (.call (laws_eqMatrix_g (0 : Int) (0 : Int) ([] : List Nat) (0 : Int) (0 : Int) ([] : List Nat)) fun v1229 =>
              (.br (!v1229) (
               .leaf false
              ) (
               (.br (!(false == false)) (
                .leaf false
               ) (
                (.call (laws_heldMatrix_g ([] : List Nat) (1 : Int)) fun v1230 =>
                (.br (decide (v1230 < (0 : Int))) (
                 .leaf false
                ) (
                 (.br (!decide (v1230 = v1207)) (
                  .leaf false
                 ) (
                  .leaf true
                 ))
                )))
               ))
              )))
             ) (fun v1228 =>
              (.call (laws_eqMatrix_g v1228.1 v1228.2.1 v1228.2.2 (0 : Int) (0 : Int) ([] : List Nat)) fun v1231 =>
              (.br (!v1231) (
               .leaf false
              ) (
               (.br (!(true == false)) (
                .leaf false
               ) (
                (.call (laws_heldMatrix_g ([] : List Nat) (1 : Int)) fun v1232 =>
                (.br (decide (v1232 < (0 : Int))) (
                 .leaf false
                ) (
                 (.br (!decide (v1232 = v1207)) (
                  .leaf false
                 ) (
                  .leaf true
                 ))
                )))
               ))
              )))
             ))))
            ))
           ))))
          ))
         )))
        ))))
       ))))
      ))
     )))
    ) (fun v1152 =>
     (.call (laws_eqMatrix_g v1152.1 v1152.2.1 v1152.2.2 (0 : Int) (0 : Int) ([] : List Nat)) fun v1233 =>
     (.br (!v1233) (
      .leaf false
     ) (
      (.br (!(true == false)) (
       .leaf false
      ) (
       (.call (laws_toMatrix_g v1 v2 v3) fun v1234 =>
       (.call (laws_eqMatrix_g v687.1 v687.2.1 v687.2.2 v1234.1 v1234.2.1 v1234.2.2) fun v1235 =>
       (.br (!v1235) (
        .leaf false
       ) (
        (.call (laws_markMatrix_g v687.2.2 (1 : Int)) fun v1236 =>
        (.grd (decide (v1236.2.length = v687.2.2.length)) <|
        (.br (decide (v1236.1 < (0 : Int))) (
         .leaf false
        ) (
         (.call (laws_eqMatrix_g v1152.1 v1152.2.1 v1152.2.2 (0 : Int) (0 : Int) ([] : List Nat)) fun v1237 =>
         (.br (!v1237) (
          .leaf false
         ) (
          (.br (!(true == false)) (
           .leaf false
          ) (
           (.call (laws_markMatrix_g v1152.2.2 (1 : Int)) fun v1238 =>
           (.grd (decide (v1238.2.length = v1152.2.2.length)) <|
           (.call (laws_heldMatrix_g v1238.2 (1 : Int)) fun v1239 =>
           (.br (decide (v1239 < (0 : Int))) (
            .leaf false
           ) (
            (.br (!decide (v1239 = v1238.1)) (
             .leaf false
            ) (
             (.call (laws_toMatrix_g v1 v2 v3) fun v1240 =>
             (.call (impl_RootOfSquare_g v1240.1 v1240.2.1 v1240.2.2) fun v1241 =>
             (.sum v1241 (fun v1242 =>
              (.call (laws_eqMatrix_g (0 : Int) (0 : Int) ([] : List Nat) (0 : Int) (0 : Int) ([] : List Nat)) fun v1244 =>
              (.br (!v1244) (
               .leaf false
              ) (
               (.br (!(false == false)) (
                .leaf false
               ) (
                (.call (laws_heldMatrix_g v1238.2 (1 : Int)) fun v1245 =>
                (.br (decide (v1245 < (0 : Int))) (
                 .leaf false
                ) (
                 (.br (!decide (v1245 = v1238.1)) (
                  .leaf false
                 ) (
                  .leaf true
                 ))
                )))
               ))
              )))
             ) (fun v1243 =>
              (.call (laws_eqMatrix_g v1243.1 v1243.2.1 v1243.2.2 (0 : Int) (0 : Int) ([] : List Nat)) fun v1246 =>
              (.br (!v1246) (
               .leaf false
              ) (
               (.br (!(true == false)) (
                .leaf false
               ) (
                (.call (laws_heldMatrix_g v1238.2 (1 : Int)) fun v1247 =>
                (.br (decide (v1247 < (0 : Int))) (
                 .leaf false
                ) (
                 (.br (!decide (v1247 = v1238.1)) (
                  .leaf false
                 ) (
                  .leaf true
                 ))
                )))
               ))
              )))
             ))))
            ))
           )))))
          ))
         )))
        ))))
       ))))
      ))
     )))
    ))))
   ) (fun v686 =>
    (.call (laws_toMatrix_g v1 v2 v3) fun v1248 =>
    (.call (impl_RootOfSquare_g v1248.1 v1248.2.1 v1248.2.2) fun v1249 =>
    (.sum v1249 (fun v1250 =>
     (.call (laws_eqMatrix_g (0 : Int) (0 : Int) ([] : List Nat) v686.1 v686.2.1 v686.2.2) fun v1252 =>
     (.br (!v1252) (
      .leaf false
     ) (
      (.br (!(false == true)) (
       .leaf false
      ) (
       (.call (laws_toMatrix_g v1 v2 v3) fun v1253 =>
       (.call (laws_eqMatrix_g v1248.1 v1248.2.1 v1248.2.2 v1253.1 v1253.2.1 v1253.2.2) fun v1254 =>
       (.br (!v1254) (
        .leaf false
       ) (
        (.call (laws_markMatrix_g v1248.2.2 (1 : Int)) fun v1255 =>
        (.grd (decide (v1255.2.length = v1248.2.2.length)) <|
        (.br (decide (v1255.1 < (0 : Int))) (
         .leaf false
        ) (
         (.call (laws_eqMatrix_g (0 : Int) (0 : Int) ([] : List Nat) v686.1 v686.2.1 v686.2.2) fun v1256 =>
         (.br (!v1256) (
          .leaf false
         ) (
          (.br (!(false == true)) (
           .leaf false
          ) (
           (.call (laws_markMatrix_i1_g (1 : Int)) fun v1257 =>
           (.call (laws_heldMatrix_g ([] : List Nat) (1 : Int)) fun v1258 =>
           (.br (decide (v1258 < (0 : Int))) (
            .leaf false
           ) (
            (.br (!decide (v1258 = v1257)) (
             .leaf false
            ) (
             (.call (laws_toMatrix_g v1 v2 v3) fun v1259 =>
             (.call (impl_RootOfSquare_g v1259.1 v1259.2.1 v1259.2.2) fun v1260 =>
             (.sum v1260 (fun v1261 =>
              (.call (laws_eqMatrix_g (0 : Int) (0 : Int) ([] : List Nat) v686.1 v686.2.1 v686.2.2) fun v1263 =>
              (.br (!v1263) (
               .leaf false
              ) (
               (.br (!(false == true)) (
                .leaf false
               ) (
                (.call (laws_heldMatrix_g ([] : List Nat) (1 : Int)) fun v1264 =>
                (.br (decide (v1264 < (0 : Int))) (
                 .leaf false
                ) (
                 (.br (!decide (v1264 = v1257)) (
                  .leaf false
                 ) (
                  .leaf true
                 ))
                )))
               ))
              )))
             ) (fun v1262 =>
              (.call (laws_eqMatrix_g v1262.1 v1262.2.1 v1262.2.2 v686.1 v686.2.1 v686.2.2) fun v1265 =>
              (.br (!v1265) (
               .leaf false
              ) (
               (.br (!(true == true)) (
                .leaf false
               ) (
                (.call (laws_heldMatrix_g ([] : List Nat) (1 : Int)) fun v1266 =>
                (.br (decide (v1266 < (0 : Int))) (
                 .leaf false
                ) (
                 (.br (!decide (v1266 = v1257)) (
                  .leaf false
                 ) (
                  .leaf true
                 ))
                )))
               ))
              )))
             ))))
            ))
           ))))
          ))
         )))
        ))))
       ))))
      ))
     )))
    ) (fun v1251 =>
     (.call (laws_eqMatrix_g v1251.1 v1251.2.1 v1251.2.2 v686.1 v686.2.1 v686.2.2) fun v1267 =>
     (.br (!v1267) (
      .leaf false
     ) (
      (.br (!(true == true)) (
       .leaf false
      ) (
       (.call (laws_toMatrix_g v1 v2 v3) fun v1268 =>
       (.call (laws_eqMatrix_g v1248.1 v1248.2.1 v1248.2.2 v1268.1 v1268.2.1 v1268.2.2) fun v1269 =>
       (.br (!v1269) (
        .leaf false
       ) (
        (.call (laws_markMatrix_g v1248.2.2 (1 : Int)) fun v1270 =>
        (.grd (decide (v1270.2.length = v1248.2.2.length)) <|
        (.br (decide (v1270.1 < (0 : Int))) (
         .leaf false
        ) (
         (.call (laws_eqMatrix_g v1251.1 v1251.2.1 v1251.2.2 v686.1 v686.2.1 v686.2.2) fun v1271 =>
         (.br (!v1271) (
          .leaf false
         ) (
          (.br (!(true == true)) (
           .leaf false
          ) (
           (.call (laws_markMatrix_g v1251.2.2 (1 : Int)) fun v1272 =>
           (.grd (decide (v1272.2.length = v1251.2.2.length)) <|
           (.call (laws_heldMatrix_g v1272.2 (1 : Int)) fun v1273 =>
           (.br (decide (v1273 < (0 : Int))) (
            .leaf false
           ) (
            (.br (!decide (v1273 = v1272.1)) (
             .leaf false
            ) (
             (.call (laws_toMatrix_g v1 v2 v3) fun v1274 =>
             (.call (impl_RootOfSquare_g v1274.1 v1274.2.1 v1274.2.2) fun v1275 =>
             (.sum v1275 (fun v1276 =>
              (.call (laws_eqMatrix_g (0 : Int) (0 : Int) ([] : List Nat) v686.1 v686.2.1 v686.2.2) fun v1278 =>
              (.br (!v1278) (
               .leaf false
              ) (
               (.br (!(false == true)) (
                .leaf false
               ) (
                (.call (laws_heldMatrix_g v1272.2 (1 : Int)) fun v1279 =>
                (.br (decide (v1279 < (0 : Int))) (
                 .leaf false
                ) (
                 (.br (!decide (v1279 = v1272.1)) (
                  .leaf false
                 ) (
                  .leaf true
                 ))
                )))
               ))
              )))
             ) (fun v1277 =>
              (.call (laws_eqMatrix_g v1277.1 v1277.2.1 v1277.2.2 v686.1 v686.2.1 v686.2.2) fun v1280 =>
              (.br (!v1280) (
               .leaf false
              ) (
               (.br (!(true == true)) (
                .leaf false
               ) (
                (.call (laws_heldMatrix_g v1272.2 (1 : Int)) fun v1281 =>
                (.br (decide (v1281 < (0 : Int))) (
                 .leaf false
                ) (
                 (.br (!decide (v1281 = v1272.1)) (
                  .leaf false
                 ) (
                  .leaf true
                 ))
                )))
               ))
              )))
             ))))
            ))
           )))))
          ))
         )))
        ))))
       ))))
      ))
     )))
    ))))
   ))))
  ))

noncomputable def laws_FnExactRootOfSquare_g (v1 : Int) (v2 : Int) (v3 : List Nat) : Option (Bool) := (laws_FnExactRootOfSquare_T v1 v2 v3).run
def laws_FnExactRootOfSquare_enc (v1 : Int) (v2 : Int) (v3 : List Nat) (y : Bool) : Rs := (.bool y, [])
theorem laws_FnExactRootOfSquare_den (v1 : Int) (v2 : Int) (v3 : List Nat) : (den TT (tabD laws_FnExactRootOfSquare_tab) (tabM laws_FnExactRootOfSquare_tab) (laws_FnExactRootOfSquare_LO v1 v2 v3) (codeOf Try.f4) ([.agg [.int .i64 v1, .int .i64 v2, .bslc (BR.root 0) (.f32 v3)]] ++ List.replicate (Try.f4.ntmps - ([.agg [.int .i64 v1, .int .i64 v2, .bslc (BR.root 0) (.f32 v3)]] : List DV).length) .undef) []).bind (retD TT Try.f4.results.toList 0) = (laws_FnExactRootOfSquare_T v1 v2 v3).bind fun y => .leaf (laws_FnExactRootOfSquare_enc v1 v2 v3 y) := by kernel_rfl
theorem laws_FnExactRootOfSquare_fn (v1 : Int) (v2 : Int) (v3 : List Nat) (F : Fr) (hm : F.ids.length = 0) (h0 : St F [] F.H0) (hA : DVs.Ok F [] [.agg [.int .i64 v1, .int .i64 v2, .bslc (BR.root 0) (.f32 v3)]]) {y : Bool} (hy : laws_FnExactRootOfSquare_g v1 v2 v3 = some y) : ∃ H', FnOk Try.prog 4 (DVs.av F [.agg [.int .i64 v1, .int .i64 v2, .bslc (BR.root 0) (.f32 v3)]]) F.H0 ((laws_FnExactRootOfSquare_enc v1 v2 v3 y).1.av F) H' ∧ St F (laws_FnExactRootOfSquare_enc v1 v2 v3 y).2 H' ∧ (laws_FnExactRootOfSquare_enc v1 v2 v3 y).1.Ok F (laws_FnExactRootOfSquare_enc v1 v2 v3 y).2 :=
  fn_fin tok laws_FnExactRootOfSquare_hO mixed Try.func4 Try.call4 (by kernel_rfl) (LoopsOk_eq (l := []) (by kernel_rfl) trivial) (laws_FnExactRootOfSquare_den v1 v2 v3) hy hm h0 hA
noncomputable def laws_FnExactRootOfSquare_F : DFn := fun args L =>
  match args with
  | [.agg [.int .i64 v1, .int .i64 v2, a1]] =>
    optT (rowF32 L a1) fun v3 =>
    .call (laws_FnExactRootOfSquare_g v1 v2 v3) fun y => .leaf (.bool y, L)
  | _ => .fail
theorem laws_FnExactRootOfSquare_Fok : COk Try.prog 4 laws_FnExactRootOfSquare_F true := by
  intro F L H args r L' hs ha hr
  unfold laws_FnExactRootOfSquare_F at hr
  split at hr
  · rename_i v1 v2 a1
    obtain ⟨v3, hv3, hr⟩ := optT_run hr
    simp only [Tree.run] at hr
    obtain ⟨y, hy, hr⟩ := Option.bind_eq_some_iff.1 hr
    simp only [Tree.run, Option.some.injEq, Prod.mk.injEq] at hr
    obtain ⟨rfl, rfl⟩ := hr
    exact call_ok0 hs (fun k => (([a1.av F] : List AV)[k]?).getD .top) [.agg [.int .i64 v1, .int .i64 v2, a1]] [.agg [.int .i64 v1, .int .i64 v2, .bslc (BR.root 0) (.f32 v3)]] (fun F' h0 hi hρ => ⟨by simp [DVs.av, DV.av, BR.av, hρ], laws_FnExactRootOfSquare_fn v1 v2 v3 F' (by rw [hi]; rfl) (st_nil hi) ⟨⟨trivial, trivial, bslc_ok hi (by rw [h0, hρ]; exact rowF32_ok hs (DVs.okAt (DVs.okAt ha 0 rfl) 2 rfl) hv3), trivial⟩, trivial⟩ hy⟩) rfl
  · cases hr
/-! laws.szFloat32S -/
noncomputable def laws_szFloat32S_len_LO (v1289 : Nat) (v1290 : Int) : LOr := fun id e L =>
  match id with
  | _ => .fail
noncomputable def laws_szFloat32S_len_tab : List (FuncId × DFn × Bool) := []
theorem laws_szFloat32S_len_hO : OrcOk Try.prog (tabD laws_szFloat32S_len_tab) (tabM laws_szFloat32S_len_tab) := tabD_nil _
noncomputable def laws_szFloat32S_len_T (v1289 : Nat) (v1290 : Int) : Tree (Int) :=
  (.br (decide (IntKind.i64.wrap (v1290 - ((v1289 : Nat) : Int)) < (0 : Int))) (
   .leaf (-1 : Int)
  ) (
   .leaf (IntKind.i64.wrap (v1290 - ((v1289 : Nat) : Int)))
  ))

noncomputable def laws_szFloat32S_len_g (v1289 : Nat) (v1290 : Int) : Option (Int) := (laws_szFloat32S_len_T v1289 v1290).run
def laws_szFloat32S_len_enc (v1289 : Nat) (v1290 : Int) (y : Int) : Rs := (.int .i64 y, [])
theorem laws_szFloat32S_len_den (v1289 : Nat) (v1290 : Int) : (den TT (tabD laws_szFloat32S_len_tab) (tabM laws_szFloat32S_len_tab) (laws_szFloat32S_len_LO v1289 v1290) (codeOf Try.f44) ([.hslc (BR.root 0) v1289, .int .i64 v1290] ++ List.replicate (Try.f44.ntmps - ([.hslc (BR.root 0) v1289, .int .i64 v1290] : List DV).length) .undef) []).bind (retD TT Try.f44.results.toList 0) = (laws_szFloat32S_len_T v1289 v1290).bind fun y => .leaf (laws_szFloat32S_len_enc v1289 v1290 y) := by kernel_rfl
theorem laws_szFloat32S_len_fn (v1289 : Nat) (v1290 : Int) (F : Fr) (hm : F.ids.length = 0) (h0 : St F [] F.H0) (hA : DVs.Ok F [] [.hslc (BR.root 0) v1289, .int .i64 v1290]) {y : Int} (hy : laws_szFloat32S_len_g v1289 v1290 = some y) : ∃ H', FnOk Try.prog 44 (DVs.av F [.hslc (BR.root 0) v1289, .int .i64 v1290]) F.H0 ((laws_szFloat32S_len_enc v1289 v1290 y).1.av F) H' ∧ St F (laws_szFloat32S_len_enc v1289 v1290 y).2 H' ∧ (laws_szFloat32S_len_enc v1289 v1290 y).1.Ok F (laws_szFloat32S_len_enc v1289 v1290 y).2 :=
  fn_fin tok laws_szFloat32S_len_hO mixed Try.func44 Try.call44 (by kernel_rfl) (LoopsOk_eq (l := []) (by kernel_rfl) trivial) (laws_szFloat32S_len_den v1289 v1290) hy hm h0 hA
def laws_szFloat32S_len_v (v1289 : Nat) (v1290 : Int) : Int :=
  if (decide (IntKind.i64.wrap (v1290 - ((v1289 : Nat) : Int)) < (0 : Int))) = true then (
   (-1 : Int)
  ) else (
   IntKind.i64.wrap (v1290 - ((v1289 : Nat) : Int))
  )
theorem laws_szFloat32S_len_tot (v1289 : Nat) (v1290 : Int) : laws_szFloat32S_len_g v1289 v1290 = some (laws_szFloat32S_len_v v1289 v1290) := by
  unfold laws_szFloat32S_len_g laws_szFloat32S_len_T laws_szFloat32S_len_v
  simp only [Tree.run]
  repeat' (first | rfl | split)
noncomputable def laws_szFloat32S_len_F : DFn := fun args L =>
  match args with
  | [a1, .int .i64 v1290] =>
    optT (lenV L a1) fun v1289 =>
    .leaf (.int .i64 (laws_szFloat32S_len_v v1289 v1290), L)
  | _ => .fail
theorem laws_szFloat32S_len_Fok : COk Try.prog 44 laws_szFloat32S_len_F true := by
  intro F L H args r L' hs ha hr
  unfold laws_szFloat32S_len_F at hr
  split at hr
  · rename_i a1 v1290
    obtain ⟨v1289, hv1289, hr⟩ := optT_run hr
    have hy := laws_szFloat32S_len_tot v1289 v1290
    generalize laws_szFloat32S_len_v v1289 v1290 = y at hy hr
    simp only [Tree.run, Option.some.injEq, Prod.mk.injEq] at hr
    obtain ⟨rfl, rfl⟩ := hr
    exact call_ok0 hs (fun k => (([a1.av F] : List AV)[k]?).getD .top) [a1, .int .i64 v1290] [.hslc (BR.root 0) v1289, .int .i64 v1290] (fun F' h0 hi hρ => ⟨by simp [DVs.av, DV.av, BR.av, hρ], laws_szFloat32S_len_fn v1289 v1290 F' (by rw [hi]; rfl) (st_nil hi) ⟨hslc_ok hi (by rw [h0, hρ]; exact lenV_ok hs (DVs.okAt ha 0 rfl) hv1289), trivial, trivial⟩ hy⟩) rfl
  · cases hr
/-! laws.szMatrix -/
noncomputable def laws_szMatrix_len_LO (v1285 : Int) (v1286 : Int) (v1287 : Nat) (v1288 : Int) : LOr := fun id e L =>
  match id with
  | _ => .fail
noncomputable def laws_szMatrix_len_tab : List (FuncId × DFn × Bool) := [(44, laws_szFloat32S_len_F, true)]
theorem laws_szMatrix_len_hO : OrcOk Try.prog (tabD laws_szMatrix_len_tab) (tabM laws_szMatrix_len_tab) := tabD_cons laws_szFloat32S_len_Fok (tabD_nil _)
noncomputable def laws_szMatrix_len_T (v1287 : Nat) (v1288 : Int) : Tree (Int) :=
  (.br (decide ((laws_szFloat32S_len_v v1287 v1288) < (0 : Int))) (
   .leaf (-1 : Int)
  ) (
   .leaf (laws_szFloat32S_len_v v1287 v1288)
  ))

noncomputable def laws_szMatrix_len_g (v1287 : Nat) (v1288 : Int) : Option (Int) := (laws_szMatrix_len_T v1287 v1288).run
def laws_szMatrix_len_enc (v1285 : Int) (v1286 : Int) (v1287 : Nat) (v1288 : Int) (y : Int) : Rs := (.int .i64 y, [])
theorem laws_szMatrix_len_den (v1285 : Int) (v1286 : Int) (v1287 : Nat) (v1288 : Int) : (den TT (tabD laws_szMatrix_len_tab) (tabM laws_szMatrix_len_tab) (laws_szMatrix_len_LO v1285 v1286 v1287 v1288) (codeOf Try.f16) ([.agg [.int .i64 v1285, .int .i64 v1286, .hslc (BR.root 0) v1287], .int .i64 v1288] ++ List.replicate (Try.f16.ntmps - ([.agg [.int .i64 v1285, .int .i64 v1286, .hslc (BR.root 0) v1287], .int .i64 v1288] : List DV).length) .undef) []).bind (retD TT Try.f16.results.toList 0) = (laws_szMatrix_len_T v1287 v1288).bind fun y => .leaf (laws_szMatrix_len_enc v1285 v1286 v1287 v1288 y) := by kernel_rfl
theorem laws_szMatrix_len_fn (v1285 : Int) (v1286 : Int) (v1287 : Nat) (v1288 : Int) (F : Fr) (hm : F.ids.length = 0) (h0 : St F [] F.H0) (hA : DVs.Ok F [] [.agg [.int .i64 v1285, .int .i64 v1286, .hslc (BR.root 0) v1287], .int .i64 v1288]) {y : Int} (hy : laws_szMatrix_len_g v1287 v1288 = some y) : ∃ H', FnOk Try.prog 16 (DVs.av F [.agg [.int .i64 v1285, .int .i64 v1286, .hslc (BR.root 0) v1287], .int .i64 v1288]) F.H0 ((laws_szMatrix_len_enc v1285 v1286 v1287 v1288 y).1.av F) H' ∧ St F (laws_szMatrix_len_enc v1285 v1286 v1287 v1288 y).2 H' ∧ (laws_szMatrix_len_enc v1285 v1286 v1287 v1288 y).1.Ok F (laws_szMatrix_len_enc v1285 v1286 v1287 v1288 y).2 :=
  fn_fin tok laws_szMatrix_len_hO mixed Try.func16 Try.call16 (by kernel_rfl) (LoopsOk_eq (l := []) (by kernel_rfl) trivial) (laws_szMatrix_len_den v1285 v1286 v1287 v1288) hy hm h0 hA
def laws_szMatrix_len_v (v1287 : Nat) (v1288 : Int) : Int :=
  if (decide ((laws_szFloat32S_len_v v1287 v1288) < (0 : Int))) = true then (
   (-1 : Int)
  ) else (
   (laws_szFloat32S_len_v v1287 v1288)
  )
theorem laws_szMatrix_len_tot (v1287 : Nat) (v1288 : Int) : laws_szMatrix_len_g v1287 v1288 = some (laws_szMatrix_len_v v1287 v1288) := by
  unfold laws_szMatrix_len_g laws_szMatrix_len_T laws_szMatrix_len_v
  simp only [Tree.run]
  repeat' (first | rfl | split)
noncomputable def laws_szMatrix_len_F : DFn := fun args L =>
  match args with
  | [.agg [.int .i64 v1285, .int .i64 v1286, a1], .int .i64 v1288] =>
    optT (lenV L a1) fun v1287 =>
    .leaf (.int .i64 (laws_szMatrix_len_v v1287 v1288), L)
  | _ => .fail
theorem laws_szMatrix_len_Fok : COk Try.prog 16 laws_szMatrix_len_F true := by
  intro F L H args r L' hs ha hr
  unfold laws_szMatrix_len_F at hr
  split at hr
  · rename_i v1285 v1286 a1 v1288
    obtain ⟨v1287, hv1287, hr⟩ := optT_run hr
    have hy := laws_szMatrix_len_tot v1287 v1288
    generalize laws_szMatrix_len_v v1287 v1288 = y at hy hr
    simp only [Tree.run, Option.some.injEq, Prod.mk.injEq] at hr
    obtain ⟨rfl, rfl⟩ := hr
    exact call_ok0 hs (fun k => (([a1.av F] : List AV)[k]?).getD .top) [.agg [.int .i64 v1285, .int .i64 v1286, a1], .int .i64 v1288] [.agg [.int .i64 v1285, .int .i64 v1286, .hslc (BR.root 0) v1287], .int .i64 v1288] (fun F' h0 hi hρ => ⟨by simp [DVs.av, DV.av, BR.av, hρ], laws_szMatrix_len_fn v1285 v1286 v1287 v1288 F' (by rw [hi]; rfl) (st_nil hi) ⟨⟨trivial, trivial, hslc_ok hi (by rw [h0, hρ]; exact lenV_ok hs (DVs.okAt (DVs.okAt ha 0 rfl) 2 rfl) hv1287), trivial⟩, trivial, trivial⟩ hy⟩) rfl
  · cases hr
/-! laws.FnExactRootOfSquare -/
noncomputable def laws_FnExactRootOfSquare_len_LO (v1282 : Int) (v1283 : Int) (v1284 : Nat) : LOr := fun id e L =>
  match id with
  | _ => .fail
noncomputable def laws_FnExactRootOfSquare_len_tab : List (FuncId × DFn × Bool) := [(16, laws_szMatrix_len_F, true)]
theorem laws_FnExactRootOfSquare_len_hO : OrcOk Try.prog (tabD laws_FnExactRootOfSquare_len_tab) (tabM laws_FnExactRootOfSquare_len_tab) := tabD_cons laws_szMatrix_len_Fok (tabD_nil _)
noncomputable def laws_FnExactRootOfSquare_len_T (v1284 : Nat) : Tree (Bool) :=
  (.br (decide ((laws_szMatrix_len_v v1284 (1048576 : Int)) < (0 : Int))) (
   .leaf true
  ) (
   .fail
  ))

noncomputable def laws_FnExactRootOfSquare_len_g (v1284 : Nat) : Option (Bool) := (laws_FnExactRootOfSquare_len_T v1284).run
def laws_FnExactRootOfSquare_len_enc (v1282 : Int) (v1283 : Int) (v1284 : Nat) (y : Bool) : Rs := (.bool y, [])
theorem laws_FnExactRootOfSquare_len_den (v1282 : Int) (v1283 : Int) (v1284 : Nat) : (den TT (tabD laws_FnExactRootOfSquare_len_tab) (tabM laws_FnExactRootOfSquare_len_tab) (laws_FnExactRootOfSquare_len_LO v1282 v1283 v1284) (codeOf Try.f4) ([.agg [.int .i64 v1282, .int .i64 v1283, .hslc (BR.root 0) v1284]] ++ List.replicate (Try.f4.ntmps - ([.agg [.int .i64 v1282, .int .i64 v1283, .hslc (BR.root 0) v1284]] : List DV).length) .undef) []).bind (retD TT Try.f4.results.toList 0) = (laws_FnExactRootOfSquare_len_T v1284).bind fun y => .leaf (laws_FnExactRootOfSquare_len_enc v1282 v1283 v1284 y) := by kernel_rfl
theorem laws_FnExactRootOfSquare_len_fn (v1282 : Int) (v1283 : Int) (v1284 : Nat) (F : Fr) (hm : F.ids.length = 0) (h0 : St F [] F.H0) (hA : DVs.Ok F [] [.agg [.int .i64 v1282, .int .i64 v1283, .hslc (BR.root 0) v1284]]) {y : Bool} (hy : laws_FnExactRootOfSquare_len_g v1284 = some y) : ∃ H', FnOk Try.prog 4 (DVs.av F [.agg [.int .i64 v1282, .int .i64 v1283, .hslc (BR.root 0) v1284]]) F.H0 ((laws_FnExactRootOfSquare_len_enc v1282 v1283 v1284 y).1.av F) H' ∧ St F (laws_FnExactRootOfSquare_len_enc v1282 v1283 v1284 y).2 H' ∧ (laws_FnExactRootOfSquare_len_enc v1282 v1283 v1284 y).1.Ok F (laws_FnExactRootOfSquare_len_enc v1282 v1283 v1284 y).2 :=
  fn_fin tok laws_FnExactRootOfSquare_len_hO mixed Try.func4 Try.call4 (by kernel_rfl) (LoopsOk_eq (l := []) (by kernel_rfl) trivial) (laws_FnExactRootOfSquare_len_den v1282 v1283 v1284) hy hm h0 hA
noncomputable def laws_FnExactRootOfSquare_len_F : DFn := fun args L =>
  match args with
  | [.agg [.int .i64 v1282, .int .i64 v1283, a1]] =>
    optT (lenV L a1) fun v1284 =>
    .call (laws_FnExactRootOfSquare_len_g v1284) fun y => .leaf (.bool y, L)
  | _ => .fail
theorem laws_FnExactRootOfSquare_len_Fok : COk Try.prog 4 laws_FnExactRootOfSquare_len_F true := by
  intro F L H args r L' hs ha hr
  unfold laws_FnExactRootOfSquare_len_F at hr
  split at hr
  · rename_i v1282 v1283 a1
    obtain ⟨v1284, hv1284, hr⟩ := optT_run hr
    simp only [Tree.run] at hr
    obtain ⟨y, hy, hr⟩ := Option.bind_eq_some_iff.1 hr
    simp only [Tree.run, Option.some.injEq, Prod.mk.injEq] at hr
    obtain ⟨rfl, rfl⟩ := hr
    exact call_ok0 hs (fun k => (([a1.av F] : List AV)[k]?).getD .top) [.agg [.int .i64 v1282, .int .i64 v1283, a1]] [.agg [.int .i64 v1282, .int .i64 v1283, .hslc (BR.root 0) v1284]] (fun F' h0 hi hρ => ⟨by simp [DVs.av, DV.av, BR.av, hρ], laws_FnExactRootOfSquare_len_fn v1282 v1283 v1284 F' (by rw [hi]; rfl) (st_nil hi) ⟨⟨trivial, trivial, hslc_ok hi (by rw [h0, hρ]; exact lenV_ok hs (DVs.okAt (DVs.okAt ha 0 rfl) 2 rfl) hv1284), trivial⟩, trivial⟩ hy⟩) rfl
  · cases hr
end Go.Proofs.Ytflodniglbgkhaa.AM
