/- Functions: what they come to. -/
import Derived.Test.YtflodniglbgkhaaBase
set_option maxRecDepth 100000
set_option maxHeartbeats 4000000
set_option linter.unusedSimpArgs false
set_option linter.unusedVariables false
namespace Go.Proofs.Ytflodniglbgkhaa.AM
open Go.Proofs
/-! laws.szFloat32S -/
noncomputable def laws_szFloat32S_LO (v10 : List Nat) (v11 : Int) : LOr := fun id e L =>
  match id with
  | _ => .fail
noncomputable def laws_szFloat32S_tab : List (FuncId × DFn × Bool) := []
theorem laws_szFloat32S_hO : OrcOk Try.prog (tabD laws_szFloat32S_tab) (tabM laws_szFloat32S_tab) := tabD_nil _
noncomputable def laws_szFloat32S_T (v10 : List Nat) (v11 : Int) : Tree (Int) :=
  (.br (decide (IntKind.i64.wrap (v11 - ((v10.length : Nat) : Int)) < (0 : Int))) (
   .leaf (-1 : Int)
  ) (
   .leaf (IntKind.i64.wrap (v11 - ((v10.length : Nat) : Int)))
  ))

noncomputable def laws_szFloat32S_g (v10 : List Nat) (v11 : Int) : Option (Int) := (laws_szFloat32S_T v10 v11).run
def laws_szFloat32S_enc (v10 : List Nat) (v11 : Int) (y : Int) : Rs := (.int .i64 y, [])
theorem laws_szFloat32S_den (v10 : List Nat) (v11 : Int) : (den TT (tabD laws_szFloat32S_tab) (tabM laws_szFloat32S_tab) (laws_szFloat32S_LO v10 v11) (codeOf Try.f44) ([.bslc (BR.root 0) (.f32 v10), .int .i64 v11] ++ List.replicate (Try.f44.ntmps - ([.bslc (BR.root 0) (.f32 v10), .int .i64 v11] : List DV).length) .undef) []).bind (retD TT Try.f44.results.toList 0) = (laws_szFloat32S_T v10 v11).bind fun y => .leaf (laws_szFloat32S_enc v10 v11 y) := by kernel_rfl
theorem laws_szFloat32S_fn (v10 : List Nat) (v11 : Int) (F : Fr) (hm : F.ids.length = 0) (h0 : St F [] F.H0) (hA : DVs.Ok F [] [.bslc (BR.root 0) (.f32 v10), .int .i64 v11]) {y : Int} (hy : laws_szFloat32S_g v10 v11 = some y) : ∃ H', FnOk Try.prog 44 (DVs.av F [.bslc (BR.root 0) (.f32 v10), .int .i64 v11]) F.H0 ((laws_szFloat32S_enc v10 v11 y).1.av F) H' ∧ St F (laws_szFloat32S_enc v10 v11 y).2 H' ∧ (laws_szFloat32S_enc v10 v11 y).1.Ok F (laws_szFloat32S_enc v10 v11 y).2 :=
  fn_fin tok laws_szFloat32S_hO mixed Try.func44 Try.call44 (by kernel_rfl) (LoopsOk_eq (l := []) (by kernel_rfl) trivial) (laws_szFloat32S_den v10 v11) hy hm h0 hA
def laws_szFloat32S_v (v10 : List Nat) (v11 : Int) : Int :=
  if (decide (IntKind.i64.wrap (v11 - ((v10.length : Nat) : Int)) < (0 : Int))) = true then (
   (-1 : Int)
  ) else (
   IntKind.i64.wrap (v11 - ((v10.length : Nat) : Int))
  )
theorem laws_szFloat32S_tot (v10 : List Nat) (v11 : Int) : laws_szFloat32S_g v10 v11 = some (laws_szFloat32S_v v10 v11) := by
  unfold laws_szFloat32S_g laws_szFloat32S_T laws_szFloat32S_v
  simp only [Tree.run]
  repeat' (first | rfl | split)
noncomputable def laws_szFloat32S_F : DFn := fun args L =>
  match args with
  | [a1, .int .i64 v11] =>
    optT (rowF32 L a1) fun v10 =>
    .leaf (.int .i64 (laws_szFloat32S_v v10 v11), L)
  | _ => .fail
theorem laws_szFloat32S_Fok : COk Try.prog 44 laws_szFloat32S_F true := by
  intro F L H args r L' hs ha hr
  unfold laws_szFloat32S_F at hr
  split at hr
  · rename_i a1 v11
    obtain ⟨v10, hv10, hr⟩ := optT_run hr
    have hy := laws_szFloat32S_tot v10 v11
    generalize laws_szFloat32S_v v10 v11 = y at hy hr
    simp only [Tree.run, Option.some.injEq, Prod.mk.injEq] at hr
    obtain ⟨rfl, rfl⟩ := hr
    exact call_ok0 hs (fun k => (([a1.av F] : List AV)[k]?).getD .top) [a1, .int .i64 v11] [.bslc (BR.root 0) (.f32 v10), .int .i64 v11] (fun F' h0 hi hρ => ⟨by simp [DVs.av, DV.av, BR.av, hρ], laws_szFloat32S_fn v10 v11 F' (by rw [hi]; rfl) (st_nil hi) ⟨bslc_ok hi (by rw [h0, hρ]; exact rowF32_ok hs (DVs.okAt ha 0 rfl) hv10), trivial, trivial⟩ hy⟩) rfl
  · cases hr
/-! laws.szMatrix -/
noncomputable def laws_szMatrix_LO (v6 : Int) (v7 : Int) (v8 : List Nat) (v9 : Int) : LOr := fun id e L =>
  match id with
  | _ => .fail
noncomputable def laws_szMatrix_tab : List (FuncId × DFn × Bool) := [(44, laws_szFloat32S_F, true)]
theorem laws_szMatrix_hO : OrcOk Try.prog (tabD laws_szMatrix_tab) (tabM laws_szMatrix_tab) := tabD_cons laws_szFloat32S_Fok (tabD_nil _)
noncomputable def laws_szMatrix_T (v8 : List Nat) (v9 : Int) : Tree (Int) :=
  (.br (decide ((laws_szFloat32S_v v8 v9) < (0 : Int))) (
   .leaf (-1 : Int)
  ) (
   .leaf (laws_szFloat32S_v v8 v9)
  ))

noncomputable def laws_szMatrix_g (v8 : List Nat) (v9 : Int) : Option (Int) := (laws_szMatrix_T v8 v9).run
def laws_szMatrix_enc (v6 : Int) (v7 : Int) (v8 : List Nat) (v9 : Int) (y : Int) : Rs := (.int .i64 y, [])
theorem laws_szMatrix_den (v6 : Int) (v7 : Int) (v8 : List Nat) (v9 : Int) : (den TT (tabD laws_szMatrix_tab) (tabM laws_szMatrix_tab) (laws_szMatrix_LO v6 v7 v8 v9) (codeOf Try.f16) ([.agg [.int .i64 v6, .int .i64 v7, .bslc (BR.root 0) (.f32 v8)], .int .i64 v9] ++ List.replicate (Try.f16.ntmps - ([.agg [.int .i64 v6, .int .i64 v7, .bslc (BR.root 0) (.f32 v8)], .int .i64 v9] : List DV).length) .undef) []).bind (retD TT Try.f16.results.toList 0) = (laws_szMatrix_T v8 v9).bind fun y => .leaf (laws_szMatrix_enc v6 v7 v8 v9 y) := by kernel_rfl
theorem laws_szMatrix_fn (v6 : Int) (v7 : Int) (v8 : List Nat) (v9 : Int) (F : Fr) (hm : F.ids.length = 0) (h0 : St F [] F.H0) (hA : DVs.Ok F [] [.agg [.int .i64 v6, .int .i64 v7, .bslc (BR.root 0) (.f32 v8)], .int .i64 v9]) {y : Int} (hy : laws_szMatrix_g v8 v9 = some y) : ∃ H', FnOk Try.prog 16 (DVs.av F [.agg [.int .i64 v6, .int .i64 v7, .bslc (BR.root 0) (.f32 v8)], .int .i64 v9]) F.H0 ((laws_szMatrix_enc v6 v7 v8 v9 y).1.av F) H' ∧ St F (laws_szMatrix_enc v6 v7 v8 v9 y).2 H' ∧ (laws_szMatrix_enc v6 v7 v8 v9 y).1.Ok F (laws_szMatrix_enc v6 v7 v8 v9 y).2 :=
  fn_fin tok laws_szMatrix_hO mixed Try.func16 Try.call16 (by kernel_rfl) (LoopsOk_eq (l := []) (by kernel_rfl) trivial) (laws_szMatrix_den v6 v7 v8 v9) hy hm h0 hA
def laws_szMatrix_v (v8 : List Nat) (v9 : Int) : Int :=
  if (decide ((laws_szFloat32S_v v8 v9) < (0 : Int))) = true then (
   (-1 : Int)
  ) else (
   (laws_szFloat32S_v v8 v9)
  )
theorem laws_szMatrix_tot (v8 : List Nat) (v9 : Int) : laws_szMatrix_g v8 v9 = some (laws_szMatrix_v v8 v9) := by
  unfold laws_szMatrix_g laws_szMatrix_T laws_szMatrix_v
  simp only [Tree.run]
  repeat' (first | rfl | split)
noncomputable def laws_szMatrix_F : DFn := fun args L =>
  match args with
  | [.agg [.int .i64 v6, .int .i64 v7, a1], .int .i64 v9] =>
    optT (rowF32 L a1) fun v8 =>
    .leaf (.int .i64 (laws_szMatrix_v v8 v9), L)
  | _ => .fail
theorem laws_szMatrix_Fok : COk Try.prog 16 laws_szMatrix_F true := by
  intro F L H args r L' hs ha hr
  unfold laws_szMatrix_F at hr
  split at hr
  · rename_i v6 v7 a1 v9
    obtain ⟨v8, hv8, hr⟩ := optT_run hr
    have hy := laws_szMatrix_tot v8 v9
    generalize laws_szMatrix_v v8 v9 = y at hy hr
    simp only [Tree.run, Option.some.injEq, Prod.mk.injEq] at hr
    obtain ⟨rfl, rfl⟩ := hr
    exact call_ok0 hs (fun k => (([a1.av F] : List AV)[k]?).getD .top) [.agg [.int .i64 v6, .int .i64 v7, a1], .int .i64 v9] [.agg [.int .i64 v6, .int .i64 v7, .bslc (BR.root 0) (.f32 v8)], .int .i64 v9] (fun F' h0 hi hρ => ⟨by simp [DVs.av, DV.av, BR.av, hρ], laws_szMatrix_fn v6 v7 v8 v9 F' (by rw [hi]; rfl) (st_nil hi) ⟨⟨trivial, trivial, bslc_ok hi (by rw [h0, hρ]; exact rowF32_ok hs (DVs.okAt (DVs.okAt ha 0 rfl) 2 rfl) hv8), trivial⟩, trivial, trivial⟩ hy⟩) rfl
  · cases hr
/-! laws.toFloat32S -/
noncomputable def laws_toFloat32S_l0_T (v15 : List Nat) (s : Int × (List Nat)) : Tree ((Int × (List Nat)) ⊕ ((List Nat))) :=
  (.br (decide (s.1 < ((v15.length : Nat) : Int))) (
   (.grd (inb s.1 v15.length) <|
   (.grd (inb s.1 ((s.2).length)) <|
   .leaf (.inl (IntKind.i64.wrap (s.1 + (1 : Int)), List.set s.2 (Int.toNat s.1) (nth v15 (Int.toNat s.1))))))
  ) (
   .leaf (.inr s.2)
  ))

noncomputable def laws_toFloat32S_l0_g (v15 : List Nat) (s0 : Int × (List Nat)) : Option ((List Nat)) := whileM (fun s => (laws_toFloat32S_l0_T v15 s).run) s0
def laws_toFloat32S_l0_E (v15 : List Nat) (s : Int × (List Nat)) : Sd := ([.bslc (BR.root 0) (.f32 v15), .top, .top, .own 0 0 ((s.2).length), .int .i64 s.1, .top, .top, .top, .top, .top, .top, .top, .top, .top, .top, .top, .top, .top, .top, .top, .top, .top], [.row (.f32 s.2) 0])
def laws_toFloat32S_l0_X (v15 : List Nat) (x : (List Nat)) : Out := (.normal, [.top, .top, .top, .own 0 0 ((x).length), .top, .top, .top, .top, .top, .top, .top, .top, .top, .top, .top, .top, .top, .top, .top, .top, .top, .top], [.row (.f32 x) 0])
def laws_toFloat32S_l0_kill : List Nat := [0, 1, 1, 0, 0, 1, 1, 1, 1, 1, 1, 1, 1, 1, 1, 1, 1, 1, 1, 1, 1, 1]
def laws_toFloat32S_l0_nx : Exit → List Nat
  | .exit 0 => [1, 1, 1, 0, 1, 1, 1, 1, 1, 1, 1, 1, 1, 1, 1, 1, 1, 1, 1, 1, 1, 1]
  | .ret => [1, 1, 0, 1, 1, 1, 1, 1, 1, 1, 1, 1, 1, 1, 1, 1, 1, 1, 1, 1, 1, 1]
  | _ => []
noncomputable def laws_toFloat32S_LO (v15 : List Nat) : LOr := fun id e L =>
  match id with
  | 0 => .need (normA 0 laws_toFloat32S_l0_kill e L = some (laws_toFloat32S_l0_E v15 ((gI (vAt e 4)), (gRF L (vAt e 3))))) (.call (laws_toFloat32S_l0_g v15 ((gI (vAt e 4)), (gRF L (vAt e 3)))) fun x => .leaf (laws_toFloat32S_l0_X v15 x))
  | _ => .fail
noncomputable def laws_toFloat32S_tab : List (FuncId × DFn × Bool) := []
theorem laws_toFloat32S_hO : OrcOk Try.prog (tabD laws_toFloat32S_tab) (tabM laws_toFloat32S_tab) := tabD_nil _
theorem laws_toFloat32S_l0_be (v15 : List Nat) (s : Int × (List Nat)) : bodyT TT (tabD laws_toFloat32S_tab) (tabM laws_toFloat32S_tab) (laws_toFloat32S_LO v15) 0 laws_toFloat32S_l0_kill laws_toFloat32S_l0_nx (bodyOf Try.f10 0) 0 (laws_toFloat32S_l0_E v15 s) = (laws_toFloat32S_l0_T v15 s).bind fun y => .leaf (outS (laws_toFloat32S_l0_E v15) (laws_toFloat32S_l0_X v15) y) := by kernel_rfl
theorem laws_toFloat32S_l0_ok (v15 : List Nat) : LSound Try.prog 0 (laws_toFloat32S_LO v15) 0 (bodyOf Try.f10 0) := by
  intro e L out h
  exact lo_ok (E := laws_toFloat32S_l0_E v15) (gT := laws_toFloat32S_l0_T v15) (X := laws_toFloat32S_l0_X v15) (s0 := ((gI (vAt e 4)), (gRF L (vAt e 3)))) tok laws_toFloat32S_hO mixed (LoopsOk_eq (l := []) (by kernel_rfl) trivial) (laws_toFloat32S_l0_be v15) rfl (by intro x; rfl) h
noncomputable def laws_toFloat32S_T (v15 : List Nat) : Tree ((List Nat)) :=
  (.need (((v15.length : Nat) : Int) = ((v15.length : Nat) : Int)) <|
  (.grd (inb ((v15.length : Nat) : Int) (maxN + 1)) <|
  (.need (some (laws_toFloat32S_l0_E v15 ((0 : Int), List.replicate (Int.toNat ((v15.length : Nat) : Int)) (0 : Nat))) = some (laws_toFloat32S_l0_E v15 ((0 : Int), List.replicate (Int.toNat ((v15.length : Nat) : Int)) (0 : Nat)))) <|
  (.call (laws_toFloat32S_l0_g v15 ((0 : Int), List.replicate (Int.toNat ((v15.length : Nat) : Int)) (0 : Nat))) fun v21 =>
  .leaf v21))))

noncomputable def laws_toFloat32S_g (v15 : List Nat) : Option ((List Nat)) := (laws_toFloat32S_T v15).run
def laws_toFloat32S_enc (v15 : List Nat) (y : (List Nat)) : Rs := (.own 0 0 ((y).length), [.row (.f32 y) 0])
theorem laws_toFloat32S_den (v15 : List Nat) : (den TT (tabD laws_toFloat32S_tab) (tabM laws_toFloat32S_tab) (laws_toFloat32S_LO v15) (codeOf Try.f10) ([.bslc (BR.root 0) (.f32 v15)] ++ List.replicate (Try.f10.ntmps - ([.bslc (BR.root 0) (.f32 v15)] : List DV).length) .undef) []).bind (retD TT Try.f10.results.toList 0) = (laws_toFloat32S_T v15).bind fun y => .leaf (laws_toFloat32S_enc v15 y) := by kernel_rfl
theorem laws_toFloat32S_fn (v15 : List Nat) (F : Fr) (hm : F.ids.length = 0) (h0 : St F [] F.H0) (hA : DVs.Ok F [] [.bslc (BR.root 0) (.f32 v15)]) {y : (List Nat)} (hy : laws_toFloat32S_g v15 = some y) : ∃ H', FnOk Try.prog 10 (DVs.av F [.bslc (BR.root 0) (.f32 v15)]) F.H0 ((laws_toFloat32S_enc v15 y).1.av F) H' ∧ St F (laws_toFloat32S_enc v15 y).2 H' ∧ (laws_toFloat32S_enc v15 y).1.Ok F (laws_toFloat32S_enc v15 y).2 :=
  fn_fin tok laws_toFloat32S_hO mixed Try.func10 Try.call10 (by kernel_rfl) (LoopsOk_eq (l := [(0, bodyOf Try.f10 0)]) (by kernel_rfl) ⟨laws_toFloat32S_l0_ok v15, trivial⟩) (laws_toFloat32S_den v15) hy hm h0 hA
noncomputable def laws_toFloat32S_F : DFn := fun args L =>
  match args with
  | [a1] =>
    optT (rowF32 L a1) fun v15 =>
    .call (laws_toFloat32S_g v15) fun y => .leaf (.own (L.length + 0) 0 ((y).length), L ++ [.row (.f32 y) 0])
  | _ => .fail
theorem laws_toFloat32S_Fok : COk Try.prog 10 laws_toFloat32S_F true := by
  intro F L H args r L' hs ha hr
  unfold laws_toFloat32S_F at hr
  split at hr
  · rename_i a1
    obtain ⟨v15, hv15, hr⟩ := optT_run hr
    simp only [Tree.run] at hr
    obtain ⟨y, hy, hr⟩ := Option.bind_eq_some_iff.1 hr
    simp only [Tree.run, Option.some.injEq, Prod.mk.injEq] at hr
    obtain ⟨rfl, rfl⟩ := hr
    exact call_ok1 hs (fun k => (([a1.av F] : List AV)[k]?).getD .top) [a1] [.bslc (BR.root 0) (.f32 v15)] (fun F' h0 hi hρ => ⟨by simp [DVs.av, DV.av, BR.av, hρ], laws_toFloat32S_fn v15 F' (by rw [hi]; rfl) (st_nil hi) ⟨bslc_ok hi (by rw [h0, hρ]; exact rowF32_ok hs (DVs.okAt ha 0 rfl) hv15), trivial⟩ hy⟩) rfl rfl
  · cases hr
/-! laws.toMatrix -/
noncomputable def laws_toMatrix_LO (v12 : Int) (v13 : Int) (v14 : List Nat) : LOr := fun id e L =>
  match id with
  | _ => .fail
noncomputable def laws_toMatrix_tab : List (FuncId × DFn × Bool) := [(10, laws_toFloat32S_F, true)]
theorem laws_toMatrix_hO : OrcOk Try.prog (tabD laws_toMatrix_tab) (tabM laws_toMatrix_tab) := tabD_cons laws_toFloat32S_Fok (tabD_nil _)
noncomputable def laws_toMatrix_T (v12 : Int) (v13 : Int) (v14 : List Nat) : Tree (Int × Int × (List Nat)) :=
  (.call (laws_toFloat32S_g v14) fun v22 =>
  .leaf (v12, v13, v22))

noncomputable def laws_toMatrix_g (v12 : Int) (v13 : Int) (v14 : List Nat) : Option (Int × Int × (List Nat)) := (laws_toMatrix_T v12 v13 v14).run
def laws_toMatrix_enc (v12 : Int) (v13 : Int) (v14 : List Nat) (y : Int × Int × (List Nat)) : Rs := (.agg [.int .i64 y.1, .int .i64 y.2.1, .own 0 0 ((y.2.2).length)], [.row (.f32 y.2.2) 0])
theorem laws_toMatrix_den (v12 : Int) (v13 : Int) (v14 : List Nat) : (den TT (tabD laws_toMatrix_tab) (tabM laws_toMatrix_tab) (laws_toMatrix_LO v12 v13 v14) (codeOf Try.f18) ([.agg [.int .i64 v12, .int .i64 v13, .bslc (BR.root 0) (.f32 v14)]] ++ List.replicate (Try.f18.ntmps - ([.agg [.int .i64 v12, .int .i64 v13, .bslc (BR.root 0) (.f32 v14)]] : List DV).length) .undef) []).bind (retD TT Try.f18.results.toList 0) = (laws_toMatrix_T v12 v13 v14).bind fun y => .leaf (laws_toMatrix_enc v12 v13 v14 y) := by kernel_rfl
theorem laws_toMatrix_fn (v12 : Int) (v13 : Int) (v14 : List Nat) (F : Fr) (hm : F.ids.length = 0) (h0 : St F [] F.H0) (hA : DVs.Ok F [] [.agg [.int .i64 v12, .int .i64 v13, .bslc (BR.root 0) (.f32 v14)]]) {y : Int × Int × (List Nat)} (hy : laws_toMatrix_g v12 v13 v14 = some y) : ∃ H', FnOk Try.prog 18 (DVs.av F [.agg [.int .i64 v12, .int .i64 v13, .bslc (BR.root 0) (.f32 v14)]]) F.H0 ((laws_toMatrix_enc v12 v13 v14 y).1.av F) H' ∧ St F (laws_toMatrix_enc v12 v13 v14 y).2 H' ∧ (laws_toMatrix_enc v12 v13 v14 y).1.Ok F (laws_toMatrix_enc v12 v13 v14 y).2 :=
  fn_fin tok laws_toMatrix_hO mixed Try.func18 Try.call18 (by kernel_rfl) (LoopsOk_eq (l := []) (by kernel_rfl) trivial) (laws_toMatrix_den v12 v13 v14) hy hm h0 hA
noncomputable def laws_toMatrix_F : DFn := fun args L =>
  match args with
  | [.agg [.int .i64 v12, .int .i64 v13, a1]] =>
    optT (rowF32 L a1) fun v14 =>
    .call (laws_toMatrix_g v12 v13 v14) fun y => .leaf (.agg [.int .i64 y.1, .int .i64 y.2.1, .own (L.length + 0) 0 ((y.2.2).length)], L ++ [.row (.f32 y.2.2) 0])
  | _ => .fail
theorem laws_toMatrix_Fok : COk Try.prog 18 laws_toMatrix_F true := by
  intro F L H args r L' hs ha hr
  unfold laws_toMatrix_F at hr
  split at hr
  · rename_i v12 v13 a1
    obtain ⟨v14, hv14, hr⟩ := optT_run hr
    simp only [Tree.run] at hr
    obtain ⟨y, hy, hr⟩ := Option.bind_eq_some_iff.1 hr
    simp only [Tree.run, Option.some.injEq, Prod.mk.injEq] at hr
    obtain ⟨rfl, rfl⟩ := hr
    exact call_ok1 hs (fun k => (([a1.av F] : List AV)[k]?).getD .top) [.agg [.int .i64 v12, .int .i64 v13, a1]] [.agg [.int .i64 v12, .int .i64 v13, .bslc (BR.root 0) (.f32 v14)]] (fun F' h0 hi hρ => ⟨by simp [DVs.av, DV.av, BR.av, hρ], laws_toMatrix_fn v12 v13 v14 F' (by rw [hi]; rfl) (st_nil hi) ⟨⟨trivial, trivial, bslc_ok hi (by rw [h0, hρ]; exact rowF32_ok hs (DVs.okAt (DVs.okAt ha 0 rfl) 2 rfl) hv14), trivial⟩, trivial⟩ hy⟩) rfl rfl
  · cases hr
/-! spec.l00In -/
noncomputable def spec_l00In_LO (v38 : Int) (v39 : Int) (v40 : Int) : LOr := fun id e L =>
  match id with
  | _ => .fail
noncomputable def spec_l00In_tab : List (FuncId × DFn × Bool) := []
theorem spec_l00In_hO : OrcOk Try.prog (tabD spec_l00In_tab) (tabM spec_l00In_tab) := tabD_nil _
noncomputable def spec_l00In_T (v38 : Int) (v39 : Int) (v40 : Int) : Tree (Bool) :=
  (.br (decide (v39 ≤ v38)) (
   .leaf (decide (v38 ≤ v40))
  ) (
   .leaf false
  ))

noncomputable def spec_l00In_g (v38 : Int) (v39 : Int) (v40 : Int) : Option (Bool) := (spec_l00In_T v38 v39 v40).run
def spec_l00In_enc (v38 : Int) (v39 : Int) (v40 : Int) (y : Bool) : Rs := (.bool y, [])
theorem spec_l00In_den (v38 : Int) (v39 : Int) (v40 : Int) : (den TT (tabD spec_l00In_tab) (tabM spec_l00In_tab) (spec_l00In_LO v38 v39 v40) (codeOf Try.f87) ([.int .i64 v38, .int .i64 v39, .int .i64 v40] ++ List.replicate (Try.f87.ntmps - ([.int .i64 v38, .int .i64 v39, .int .i64 v40] : List DV).length) .undef) []).bind (retD TT Try.f87.results.toList 0) = (spec_l00In_T v38 v39 v40).bind fun y => .leaf (spec_l00In_enc v38 v39 v40 y) := by kernel_rfl
theorem spec_l00In_fn (v38 : Int) (v39 : Int) (v40 : Int) (F : Fr) (hm : F.ids.length = 0) (h0 : St F [] F.H0) (hA : DVs.Ok F [] [.int .i64 v38, .int .i64 v39, .int .i64 v40]) {y : Bool} (hy : spec_l00In_g v38 v39 v40 = some y) : ∃ H', FnOk Try.prog 87 (DVs.av F [.int .i64 v38, .int .i64 v39, .int .i64 v40]) F.H0 ((spec_l00In_enc v38 v39 v40 y).1.av F) H' ∧ St F (spec_l00In_enc v38 v39 v40 y).2 H' ∧ (spec_l00In_enc v38 v39 v40 y).1.Ok F (spec_l00In_enc v38 v39 v40 y).2 :=
  fn_fin tok spec_l00In_hO mixed Try.func87 Try.call87 (by kernel_rfl) (LoopsOk_eq (l := []) (by kernel_rfl) trivial) (spec_l00In_den v38 v39 v40) hy hm h0 hA
def spec_l00In_v (v38 : Int) (v39 : Int) (v40 : Int) : Bool :=
  if (decide (v39 ≤ v38)) = true then (
   decide (v38 ≤ v40)
  ) else (
   false
  )
theorem spec_l00In_tot (v38 : Int) (v39 : Int) (v40 : Int) : spec_l00In_g v38 v39 v40 = some (spec_l00In_v v38 v39 v40) := by
  unfold spec_l00In_g spec_l00In_T spec_l00In_v
  simp only [Tree.run]
  repeat' (first | rfl | split)
noncomputable def spec_l00In_F : DFn := fun args L =>
  match args with
  | [.int .i64 v38, .int .i64 v39, .int .i64 v40] =>
    .leaf (.bool (spec_l00In_v v38 v39 v40), L)
  | _ => .fail
theorem spec_l00In_Fok : COk Try.prog 87 spec_l00In_F true := by
  intro F L H args r L' hs ha hr
  unfold spec_l00In_F at hr
  split at hr
  · rename_i v38 v39 v40
    have hy := spec_l00In_tot v38 v39 v40
    generalize spec_l00In_v v38 v39 v40 = y at hy hr
    simp only [Tree.run, Option.some.injEq, Prod.mk.injEq] at hr
    obtain ⟨rfl, rfl⟩ := hr
    exact call_ok0 hs (fun k => (([] : List AV)[k]?).getD .top) [.int .i64 v38, .int .i64 v39, .int .i64 v40] [.int .i64 v38, .int .i64 v39, .int .i64 v40] (fun F' h0 hi hρ => ⟨by simp [DVs.av, DV.av, BR.av, hρ], spec_l00In_fn v38 v39 v40 F' (by rw [hi]; rfl) (st_nil hi) ⟨trivial, trivial, trivial, trivial⟩ hy⟩) rfl
  · cases hr
/-! spec.l02Sides -/
noncomputable def spec_l02Sides_LO (v36 : Int) (v37 : Int) : LOr := fun id e L =>
  match id with
  | _ => .fail
noncomputable def spec_l02Sides_tab : List (FuncId × DFn × Bool) := [(87, spec_l00In_F, true)]
theorem spec_l02Sides_hO : OrcOk Try.prog (tabD spec_l02Sides_tab) (tabM spec_l02Sides_tab) := tabD_cons spec_l00In_Fok (tabD_nil _)
noncomputable def spec_l02Sides_T (v36 : Int) (v37 : Int) : Tree (Bool) :=
  (.br (spec_l00In_v v36 (1 : Int) (12 : Int)) (
   .leaf (spec_l00In_v v37 (1 : Int) (12 : Int))
  ) (
   .leaf false
  ))

noncomputable def spec_l02Sides_g (v36 : Int) (v37 : Int) : Option (Bool) := (spec_l02Sides_T v36 v37).run
def spec_l02Sides_enc (v36 : Int) (v37 : Int) (y : Bool) : Rs := (.bool y, [])
theorem spec_l02Sides_den (v36 : Int) (v37 : Int) : (den TT (tabD spec_l02Sides_tab) (tabM spec_l02Sides_tab) (spec_l02Sides_LO v36 v37) (codeOf Try.f147) ([.int .i64 v36, .int .i64 v37] ++ List.replicate (Try.f147.ntmps - ([.int .i64 v36, .int .i64 v37] : List DV).length) .undef) []).bind (retD TT Try.f147.results.toList 0) = (spec_l02Sides_T v36 v37).bind fun y => .leaf (spec_l02Sides_enc v36 v37 y) := by kernel_rfl
theorem spec_l02Sides_fn (v36 : Int) (v37 : Int) (F : Fr) (hm : F.ids.length = 0) (h0 : St F [] F.H0) (hA : DVs.Ok F [] [.int .i64 v36, .int .i64 v37]) {y : Bool} (hy : spec_l02Sides_g v36 v37 = some y) : ∃ H', FnOk Try.prog 147 (DVs.av F [.int .i64 v36, .int .i64 v37]) F.H0 ((spec_l02Sides_enc v36 v37 y).1.av F) H' ∧ St F (spec_l02Sides_enc v36 v37 y).2 H' ∧ (spec_l02Sides_enc v36 v37 y).1.Ok F (spec_l02Sides_enc v36 v37 y).2 :=
  fn_fin tok spec_l02Sides_hO mixed Try.func147 Try.call147 (by kernel_rfl) (LoopsOk_eq (l := []) (by kernel_rfl) trivial) (spec_l02Sides_den v36 v37) hy hm h0 hA
def spec_l02Sides_v (v36 : Int) (v37 : Int) : Bool :=
  if (spec_l00In_v v36 (1 : Int) (12 : Int)) = true then (
   (spec_l00In_v v37 (1 : Int) (12 : Int))
  ) else (
   false
  )
theorem spec_l02Sides_tot (v36 : Int) (v37 : Int) : spec_l02Sides_g v36 v37 = some (spec_l02Sides_v v36 v37) := by
  unfold spec_l02Sides_g spec_l02Sides_T spec_l02Sides_v
  simp only [Tree.run]
  repeat' (first | rfl | split)
noncomputable def spec_l02Sides_F : DFn := fun args L =>
  match args with
  | [.int .i64 v36, .int .i64 v37] =>
    .leaf (.bool (spec_l02Sides_v v36 v37), L)
  | _ => .fail
theorem spec_l02Sides_Fok : COk Try.prog 147 spec_l02Sides_F true := by
  intro F L H args r L' hs ha hr
  unfold spec_l02Sides_F at hr
  split at hr
  · rename_i v36 v37
    have hy := spec_l02Sides_tot v36 v37
    generalize spec_l02Sides_v v36 v37 = y at hy hr
    simp only [Tree.run, Option.some.injEq, Prod.mk.injEq] at hr
    obtain ⟨rfl, rfl⟩ := hr
    exact call_ok0 hs (fun k => (([] : List AV)[k]?).getD .top) [.int .i64 v36, .int .i64 v37] [.int .i64 v36, .int .i64 v37] (fun F' h0 hi hρ => ⟨by simp [DVs.av, DV.av, BR.av, hρ], spec_l02Sides_fn v36 v37 F' (by rw [hi]; rfl) (st_nil hi) ⟨trivial, trivial, trivial⟩ hy⟩) rfl
  · cases hr
/-! spec.l01Finite -/
noncomputable def spec_l01Finite_LO (v43 : Nat) : LOr := fun id e L =>
  match id with
  | _ => .fail
noncomputable def spec_l01Finite_tab : List (FuncId × DFn × Bool) := []
theorem spec_l01Finite_hO : OrcOk Try.prog (tabD spec_l01Finite_tab) (tabM spec_l01Finite_tab) := tabD_nil _
noncomputable def spec_l01Finite_T (v43 : Nat) : Tree (Bool) :=
  .leaf (feq .f32 (fsub .f32 v43 v43) (0 : Nat))

noncomputable def spec_l01Finite_g (v43 : Nat) : Option (Bool) := (spec_l01Finite_T v43).run
def spec_l01Finite_enc (v43 : Nat) (y : Bool) : Rs := (.bool y, [])
theorem spec_l01Finite_den (v43 : Nat) : (den TT (tabD spec_l01Finite_tab) (tabM spec_l01Finite_tab) (spec_l01Finite_LO v43) (codeOf Try.f39) ([.flt .f32 v43] ++ List.replicate (Try.f39.ntmps - ([.flt .f32 v43] : List DV).length) .undef) []).bind (retD TT Try.f39.results.toList 0) = (spec_l01Finite_T v43).bind fun y => .leaf (spec_l01Finite_enc v43 y) := by kernel_rfl
theorem spec_l01Finite_fn (v43 : Nat) (F : Fr) (hm : F.ids.length = 0) (h0 : St F [] F.H0) (hA : DVs.Ok F [] [.flt .f32 v43]) {y : Bool} (hy : spec_l01Finite_g v43 = some y) : ∃ H', FnOk Try.prog 39 (DVs.av F [.flt .f32 v43]) F.H0 ((spec_l01Finite_enc v43 y).1.av F) H' ∧ St F (spec_l01Finite_enc v43 y).2 H' ∧ (spec_l01Finite_enc v43 y).1.Ok F (spec_l01Finite_enc v43 y).2 :=
  fn_fin tok spec_l01Finite_hO mixed Try.func39 Try.call39 (by kernel_rfl) (LoopsOk_eq (l := []) (by kernel_rfl) trivial) (spec_l01Finite_den v43) hy hm h0 hA
def spec_l01Finite_v (v43 : Nat) : Bool :=
  feq .f32 (fsub .f32 v43 v43) (0 : Nat)
theorem spec_l01Finite_tot (v43 : Nat) : spec_l01Finite_g v43 = some (spec_l01Finite_v v43) := by
  unfold spec_l01Finite_g spec_l01Finite_T spec_l01Finite_v
  simp only [Tree.run]
  repeat' (first | rfl | split)
noncomputable def spec_l01Finite_F : DFn := fun args L =>
  match args with
  | [.flt .f32 v43] =>
    .leaf (.bool (spec_l01Finite_v v43), L)
  | _ => .fail
theorem spec_l01Finite_Fok : COk Try.prog 39 spec_l01Finite_F true := by
  intro F L H args r L' hs ha hr
  unfold spec_l01Finite_F at hr
  split at hr
  · rename_i v43
    have hy := spec_l01Finite_tot v43
    generalize spec_l01Finite_v v43 = y at hy hr
    simp only [Tree.run, Option.some.injEq, Prod.mk.injEq] at hr
    obtain ⟨rfl, rfl⟩ := hr
    exact call_ok0 hs (fun k => (([] : List AV)[k]?).getD .top) [.flt .f32 v43] [.flt .f32 v43] (fun F' h0 hi hρ => ⟨by simp [DVs.av, DV.av, BR.av, hρ], spec_l01Finite_fn v43 F' (by rw [hi]; rfl) (st_nil hi) ⟨trivial, trivial⟩ hy⟩) rfl
  · cases hr
/-! spec.l02Finite -/
noncomputable def spec_l02Finite_l0_T (v41 : List Nat) (s : Int) : Tree ((Int) ⊕ ((Unit) ⊕ (Unit))) :=
  (.br (decide (s < ((v41.length : Nat) : Int))) (
   (.grd (inb s v41.length) <|
   (.br (!(spec_l01Finite_v (nth v41 (Int.toNat s)))) (
    .leaf (.inr (.inl ()))
   ) (
    .leaf (.inl (IntKind.i64.wrap (s + (1 : Int))))
   )))
  ) (
   .leaf (.inr (.inr ()))
  ))

noncomputable def spec_l02Finite_l0_g (v41 : List Nat) (s0 : Int) : Option ((Unit) ⊕ (Unit)) := whileM (fun s => (spec_l02Finite_l0_T v41 s).run) s0
def spec_l02Finite_l0_E (v41 : List Nat) (s : Int) : Sd := ([.bslc (BR.root 0) (.f32 v41), .top, .top, .int .i64 s, .top, .top, .top, .top, .top, .top, .top, .top, .top, .top, .top, .top], [])
def spec_l02Finite_l0_X (v41 : List Nat) (x : (Unit) ⊕ (Unit)) : Out := (match x with | .inl x => (.ret, [.top, .top, .lit false, .top, .top, .top, .top, .top, .top, .top, .top, .top, .top, .top, .top, .top], []) | .inr x => (.normal, [.top, .top, .top, .top, .top, .top, .top, .top, .top, .top, .top, .top, .top, .top, .top, .top], []))
def spec_l02Finite_l0_kill : List Nat := [0, 1, 1, 0, 1, 1, 1, 1, 1, 1, 1, 1, 1, 1, 1, 1]
def spec_l02Finite_l0_nx : Exit → List Nat
  | .exit 0 => [1, 1, 1, 1, 1, 1, 1, 1, 1, 1, 1, 1, 1, 1, 1, 1]
  | .ret => [1, 1, 0, 1, 1, 1, 1, 1, 1, 1, 1, 1, 1, 1, 1, 1]
  | _ => []
noncomputable def spec_l02Finite_LO (v41 : List Nat) : LOr := fun id e L =>
  match id with
  | 0 => .need (normA 0 spec_l02Finite_l0_kill e L = some (spec_l02Finite_l0_E v41 (gI (vAt e 3)))) (.call (spec_l02Finite_l0_g v41 (gI (vAt e 3))) fun x => .sum x (fun b0 => .leaf (spec_l02Finite_l0_X v41 (.inl b0))) (fun c0 => .leaf (spec_l02Finite_l0_X v41 (.inr c0))))
  | _ => .fail
noncomputable def spec_l02Finite_tab : List (FuncId × DFn × Bool) := [(39, spec_l01Finite_F, true)]
theorem spec_l02Finite_hO : OrcOk Try.prog (tabD spec_l02Finite_tab) (tabM spec_l02Finite_tab) := tabD_cons spec_l01Finite_Fok (tabD_nil _)
theorem spec_l02Finite_l0_be (v41 : List Nat) (s : Int) : bodyT TT (tabD spec_l02Finite_tab) (tabM spec_l02Finite_tab) (spec_l02Finite_LO v41) 0 spec_l02Finite_l0_kill spec_l02Finite_l0_nx (bodyOf Try.f38 0) 0 (spec_l02Finite_l0_E v41 s) = (spec_l02Finite_l0_T v41 s).bind fun y => .leaf (outS (spec_l02Finite_l0_E v41) (spec_l02Finite_l0_X v41) y) := by kernel_rfl
theorem spec_l02Finite_l0_ok (v41 : List Nat) : LSound Try.prog 0 (spec_l02Finite_LO v41) 0 (bodyOf Try.f38 0) := by
  intro e L out h
  exact lo_ok (E := spec_l02Finite_l0_E v41) (gT := spec_l02Finite_l0_T v41) (X := spec_l02Finite_l0_X v41) (s0 := (gI (vAt e 3))) tok spec_l02Finite_hO mixed (LoopsOk_eq (l := []) (by kernel_rfl) trivial) (spec_l02Finite_l0_be v41) rfl (by intro x; (cases x with | inl b => rfl | inr x => exact rfl)) h
noncomputable def spec_l02Finite_T (v41 : List Nat) : Tree (Bool) :=
  (.need (some (spec_l02Finite_l0_E v41 (0 : Int)) = some (spec_l02Finite_l0_E v41 (0 : Int))) <|
  (.call (spec_l02Finite_l0_g v41 (0 : Int)) fun v46 =>
  (.sum v46 (fun v47 =>
   .leaf false
  ) (fun v48 =>
   .leaf true
  ))))

noncomputable def spec_l02Finite_g (v41 : List Nat) : Option (Bool) := (spec_l02Finite_T v41).run
def spec_l02Finite_enc (v41 : List Nat) (y : Bool) : Rs := (.bool y, [])
theorem spec_l02Finite_den (v41 : List Nat) : (den TT (tabD spec_l02Finite_tab) (tabM spec_l02Finite_tab) (spec_l02Finite_LO v41) (codeOf Try.f38) ([.bslc (BR.root 0) (.f32 v41)] ++ List.replicate (Try.f38.ntmps - ([.bslc (BR.root 0) (.f32 v41)] : List DV).length) .undef) []).bind (retD TT Try.f38.results.toList 0) = (spec_l02Finite_T v41).bind fun y => .leaf (spec_l02Finite_enc v41 y) := by kernel_rfl
theorem spec_l02Finite_fn (v41 : List Nat) (F : Fr) (hm : F.ids.length = 0) (h0 : St F [] F.H0) (hA : DVs.Ok F [] [.bslc (BR.root 0) (.f32 v41)]) {y : Bool} (hy : spec_l02Finite_g v41 = some y) : ∃ H', FnOk Try.prog 38 (DVs.av F [.bslc (BR.root 0) (.f32 v41)]) F.H0 ((spec_l02Finite_enc v41 y).1.av F) H' ∧ St F (spec_l02Finite_enc v41 y).2 H' ∧ (spec_l02Finite_enc v41 y).1.Ok F (spec_l02Finite_enc v41 y).2 :=
  fn_fin tok spec_l02Finite_hO mixed Try.func38 Try.call38 (by kernel_rfl) (LoopsOk_eq (l := [(0, bodyOf Try.f38 0)]) (by kernel_rfl) ⟨spec_l02Finite_l0_ok v41, trivial⟩) (spec_l02Finite_den v41) hy hm h0 hA
noncomputable def spec_l02Finite_F : DFn := fun args L =>
  match args with
  | [a1] =>
    optT (rowF32 L a1) fun v41 =>
    .call (spec_l02Finite_g v41) fun y => .leaf (.bool y, L)
  | _ => .fail
theorem spec_l02Finite_Fok : COk Try.prog 38 spec_l02Finite_F true := by
  intro F L H args r L' hs ha hr
  unfold spec_l02Finite_F at hr
  split at hr
  · rename_i a1
    obtain ⟨v41, hv41, hr⟩ := optT_run hr
    simp only [Tree.run] at hr
    obtain ⟨y, hy, hr⟩ := Option.bind_eq_some_iff.1 hr
    simp only [Tree.run, Option.some.injEq, Prod.mk.injEq] at hr
    obtain ⟨rfl, rfl⟩ := hr
    exact call_ok0 hs (fun k => (([a1.av F] : List AV)[k]?).getD .top) [a1] [.bslc (BR.root 0) (.f32 v41)] (fun F' h0 hi hρ => ⟨by simp [DVs.av, DV.av, BR.av, hρ], spec_l02Finite_fn v41 F' (by rw [hi]; rfl) (st_nil hi) ⟨bslc_ok hi (by rw [h0, hρ]; exact rowF32_ok hs (DVs.okAt ha 0 rfl) hv41), trivial⟩ hy⟩) rfl
  · cases hr
/-! spec.l02Is -/
noncomputable def spec_l02Is_LO (v33 : Int) (v34 : Int) (v35 : List Nat) : LOr := fun id e L =>
  match id with
  | _ => .fail
noncomputable def spec_l02Is_tab : List (FuncId × DFn × Bool) := [(147, spec_l02Sides_F, true), (38, spec_l02Finite_F, true)]
theorem spec_l02Is_hO : OrcOk Try.prog (tabD spec_l02Is_tab) (tabM spec_l02Is_tab) := tabD_cons spec_l02Sides_Fok (tabD_cons spec_l02Finite_Fok (tabD_nil _))
noncomputable def spec_l02Is_T (v33 : Int) (v34 : Int) (v35 : List Nat) : Tree (Bool) :=
  (.br (spec_l02Sides_v v33 v34) (
   (.br (decide (((v35.length : Nat) : Int) = IntKind.i64.wrap (v33 * v34))) (
    (.call (spec_l02Finite_g v35) fun v49 =>
    .leaf v49)
   ) (
    .leaf false
   ))
  ) (
   .leaf false
  ))

noncomputable def spec_l02Is_g (v33 : Int) (v34 : Int) (v35 : List Nat) : Option (Bool) := (spec_l02Is_T v33 v34 v35).run
def spec_l02Is_enc (v33 : Int) (v34 : Int) (v35 : List Nat) (y : Bool) : Rs := (.bool y, [])
theorem spec_l02Is_den (v33 : Int) (v34 : Int) (v35 : List Nat) : (den TT (tabD spec_l02Is_tab) (tabM spec_l02Is_tab) (spec_l02Is_LO v33 v34 v35) (codeOf Try.f103) ([.bptr (BR.root 0) [.int .i64 v33, .int .i64 v34, .bslc (BR.root 1) (.f32 v35)]] ++ List.replicate (Try.f103.ntmps - ([.bptr (BR.root 0) [.int .i64 v33, .int .i64 v34, .bslc (BR.root 1) (.f32 v35)]] : List DV).length) .undef) []).bind (retD TT Try.f103.results.toList 0) = (spec_l02Is_T v33 v34 v35).bind fun y => .leaf (spec_l02Is_enc v33 v34 v35 y) := by kernel_rfl
theorem spec_l02Is_fn (v33 : Int) (v34 : Int) (v35 : List Nat) (F : Fr) (hm : F.ids.length = 0) (h0 : St F [] F.H0) (hA : DVs.Ok F [] [.bptr (BR.root 0) [.int .i64 v33, .int .i64 v34, .bslc (BR.root 1) (.f32 v35)]]) {y : Bool} (hy : spec_l02Is_g v33 v34 v35 = some y) : ∃ H', FnOk Try.prog 103 (DVs.av F [.bptr (BR.root 0) [.int .i64 v33, .int .i64 v34, .bslc (BR.root 1) (.f32 v35)]]) F.H0 ((spec_l02Is_enc v33 v34 v35 y).1.av F) H' ∧ St F (spec_l02Is_enc v33 v34 v35 y).2 H' ∧ (spec_l02Is_enc v33 v34 v35 y).1.Ok F (spec_l02Is_enc v33 v34 v35 y).2 :=
  fn_fin tok spec_l02Is_hO mixed Try.func103 Try.call103 (by kernel_rfl) (LoopsOk_eq (l := []) (by kernel_rfl) trivial) (spec_l02Is_den v33 v34 v35) hy hm h0 hA
noncomputable def spec_l02Is_F : DFn := fun args L =>
  match args with
  | [a1] =>
    optT (cellsOf L 3 a1) fun cs0 =>
    (match cs0 with
    | [.int .i64 v33, .int .i64 v34, a2] =>
    optT (rowF32 L a2) fun v35 =>
    .call (spec_l02Is_g v33 v34 v35) fun y => .leaf (.bool y, L)
    | _ => .fail)
  | _ => .fail
theorem spec_l02Is_Fok : COk Try.prog 103 spec_l02Is_F true := by
  intro F L H args r L' hs ha hr
  unfold spec_l02Is_F at hr
  split at hr
  · rename_i a1
    obtain ⟨cs0, hcp0, hr⟩ := optT_run hr
    split at hr
    · rename_i v33 v34 a2
      obtain ⟨v35, hv35, hr⟩ := optT_run hr
      simp only [Tree.run] at hr
      obtain ⟨y, hy, hr⟩ := Option.bind_eq_some_iff.1 hr
      simp only [Tree.run, Option.some.injEq, Prod.mk.injEq] at hr
      obtain ⟨rfl, rfl⟩ := hr
      exact call_ok0 hs (fun k => (([a1.av F, a2.av F] : List AV)[k]?).getD .top) [a1] [.bptr (BR.root 0) [.int .i64 v33, .int .i64 v34, .bslc (BR.root 1) (.f32 v35)]] (fun F' h0 hi hρ => ⟨by simp [DVs.av, DV.av, BR.av, hρ], spec_l02Is_fn v33 v34 v35 F' (by rw [hi]; rfl) (st_nil hi) ⟨bptr_ok hi (by rw [h0]; simpa [DVs.av, DV.av, BR.av, hρ] using (cellsOf_ok hs (DVs.okAt ha 0 rfl) hcp0).1) ⟨trivial, trivial, bslc_ok hi (by rw [h0, hρ]; exact rowF32_ok hs (DVs.okAt (cellsOf_ok hs (DVs.okAt ha 0 rfl) hcp0).2 2 rfl) hv35), trivial⟩, trivial⟩ hy⟩) rfl
    · cases hr
  · cases hr
/-! spec.l02Square -/
noncomputable def spec_l02Square_LO (v30 : Int) (v31 : Int) (v32 : List Nat) : LOr := fun id e L =>
  match id with
  | _ => .fail
noncomputable def spec_l02Square_tab : List (FuncId × DFn × Bool) := [(103, spec_l02Is_F, true)]
theorem spec_l02Square_hO : OrcOk Try.prog (tabD spec_l02Square_tab) (tabM spec_l02Square_tab) := tabD_cons spec_l02Is_Fok (tabD_nil _)
noncomputable def spec_l02Square_T (v30 : Int) (v31 : Int) (v32 : List Nat) : Tree (Bool) :=
  (.call (spec_l02Is_g v30 v31 v32) fun v50 =>
  (.br v50 (
   .leaf (decide (v30 = v31))
  ) (
   .leaf false
  )))

noncomputable def spec_l02Square_g (v30 : Int) (v31 : Int) (v32 : List Nat) : Option (Bool) := (spec_l02Square_T v30 v31 v32).run
def spec_l02Square_enc (v30 : Int) (v31 : Int) (v32 : List Nat) (y : Bool) : Rs := (.bool y, [])
theorem spec_l02Square_den (v30 : Int) (v31 : Int) (v32 : List Nat) : (den TT (tabD spec_l02Square_tab) (tabM spec_l02Square_tab) (spec_l02Square_LO v30 v31 v32) (codeOf Try.f45) ([.bptr (BR.root 0) [.int .i64 v30, .int .i64 v31, .bslc (BR.root 1) (.f32 v32)]] ++ List.replicate (Try.f45.ntmps - ([.bptr (BR.root 0) [.int .i64 v30, .int .i64 v31, .bslc (BR.root 1) (.f32 v32)]] : List DV).length) .undef) []).bind (retD TT Try.f45.results.toList 0) = (spec_l02Square_T v30 v31 v32).bind fun y => .leaf (spec_l02Square_enc v30 v31 v32 y) := by kernel_rfl
theorem spec_l02Square_fn (v30 : Int) (v31 : Int) (v32 : List Nat) (F : Fr) (hm : F.ids.length = 0) (h0 : St F [] F.H0) (hA : DVs.Ok F [] [.bptr (BR.root 0) [.int .i64 v30, .int .i64 v31, .bslc (BR.root 1) (.f32 v32)]]) {y : Bool} (hy : spec_l02Square_g v30 v31 v32 = some y) : ∃ H', FnOk Try.prog 45 (DVs.av F [.bptr (BR.root 0) [.int .i64 v30, .int .i64 v31, .bslc (BR.root 1) (.f32 v32)]]) F.H0 ((spec_l02Square_enc v30 v31 v32 y).1.av F) H' ∧ St F (spec_l02Square_enc v30 v31 v32 y).2 H' ∧ (spec_l02Square_enc v30 v31 v32 y).1.Ok F (spec_l02Square_enc v30 v31 v32 y).2 :=
  fn_fin tok spec_l02Square_hO mixed Try.func45 Try.call45 (by kernel_rfl) (LoopsOk_eq (l := []) (by kernel_rfl) trivial) (spec_l02Square_den v30 v31 v32) hy hm h0 hA
noncomputable def spec_l02Square_F : DFn := fun args L =>
  match args with
  | [a1] =>
    optT (cellsOf L 3 a1) fun cs0 =>
    (match cs0 with
    | [.int .i64 v30, .int .i64 v31, a2] =>
    optT (rowF32 L a2) fun v32 =>
    .call (spec_l02Square_g v30 v31 v32) fun y => .leaf (.bool y, L)
    | _ => .fail)
  | _ => .fail
theorem spec_l02Square_Fok : COk Try.prog 45 spec_l02Square_F true := by
  intro F L H args r L' hs ha hr
  unfold spec_l02Square_F at hr
  split at hr
  · rename_i a1
    obtain ⟨cs0, hcp0, hr⟩ := optT_run hr
    split at hr
    · rename_i v30 v31 a2
      obtain ⟨v32, hv32, hr⟩ := optT_run hr
      simp only [Tree.run] at hr
      obtain ⟨y, hy, hr⟩ := Option.bind_eq_some_iff.1 hr
      simp only [Tree.run, Option.some.injEq, Prod.mk.injEq] at hr
      obtain ⟨rfl, rfl⟩ := hr
      exact call_ok0 hs (fun k => (([a1.av F, a2.av F] : List AV)[k]?).getD .top) [a1] [.bptr (BR.root 0) [.int .i64 v30, .int .i64 v31, .bslc (BR.root 1) (.f32 v32)]] (fun F' h0 hi hρ => ⟨by simp [DVs.av, DV.av, BR.av, hρ], spec_l02Square_fn v30 v31 v32 F' (by rw [hi]; rfl) (st_nil hi) ⟨bptr_ok hi (by rw [h0]; simpa [DVs.av, DV.av, BR.av, hρ] using (cellsOf_ok hs (DVs.okAt ha 0 rfl) hcp0).1) ⟨trivial, trivial, bslc_ok hi (by rw [h0, hρ]; exact rowF32_ok hs (DVs.okAt (cellsOf_ok hs (DVs.okAt ha 0 rfl) hcp0).2 2 rfl) hv32), trivial⟩, trivial⟩ hy⟩) rfl
    · cases hr
  · cases hr
/-! spec.l02Vector -/
noncomputable def spec_l02Vector_LO (v52 : List Nat) : LOr := fun id e L =>
  match id with
  | _ => .fail
noncomputable def spec_l02Vector_tab : List (FuncId × DFn × Bool) := [(38, spec_l02Finite_F, true)]
theorem spec_l02Vector_hO : OrcOk Try.prog (tabD spec_l02Vector_tab) (tabM spec_l02Vector_tab) := tabD_cons spec_l02Finite_Fok (tabD_nil _)
noncomputable def spec_l02Vector_T (v52 : List Nat) : Tree (Bool) :=
  (.br (decide ((1 : Int) ≤ ((v52.length : Nat) : Int))) (
   (.br (decide (((v52.length : Nat) : Int) ≤ (256 : Int))) (
    (.call (spec_l02Finite_g v52) fun v53 =>
    .leaf v53)
   ) (
    .leaf false
   ))
  ) (
   .leaf false
  ))

noncomputable def spec_l02Vector_g (v52 : List Nat) : Option (Bool) := (spec_l02Vector_T v52).run
def spec_l02Vector_enc (v52 : List Nat) (y : Bool) : Rs := (.bool y, [])
theorem spec_l02Vector_den (v52 : List Nat) : (den TT (tabD spec_l02Vector_tab) (tabM spec_l02Vector_tab) (spec_l02Vector_LO v52) (codeOf Try.f76) ([.bslc (BR.root 0) (.f32 v52)] ++ List.replicate (Try.f76.ntmps - ([.bslc (BR.root 0) (.f32 v52)] : List DV).length) .undef) []).bind (retD TT Try.f76.results.toList 0) = (spec_l02Vector_T v52).bind fun y => .leaf (spec_l02Vector_enc v52 y) := by kernel_rfl
theorem spec_l02Vector_fn (v52 : List Nat) (F : Fr) (hm : F.ids.length = 0) (h0 : St F [] F.H0) (hA : DVs.Ok F [] [.bslc (BR.root 0) (.f32 v52)]) {y : Bool} (hy : spec_l02Vector_g v52 = some y) : ∃ H', FnOk Try.prog 76 (DVs.av F [.bslc (BR.root 0) (.f32 v52)]) F.H0 ((spec_l02Vector_enc v52 y).1.av F) H' ∧ St F (spec_l02Vector_enc v52 y).2 H' ∧ (spec_l02Vector_enc v52 y).1.Ok F (spec_l02Vector_enc v52 y).2 :=
  fn_fin tok spec_l02Vector_hO mixed Try.func76 Try.call76 (by kernel_rfl) (LoopsOk_eq (l := []) (by kernel_rfl) trivial) (spec_l02Vector_den v52) hy hm h0 hA
noncomputable def spec_l02Vector_F : DFn := fun args L =>
  match args with
  | [a1] =>
    optT (rowF32 L a1) fun v52 =>
    .call (spec_l02Vector_g v52) fun y => .leaf (.bool y, L)
  | _ => .fail
theorem spec_l02Vector_Fok : COk Try.prog 76 spec_l02Vector_F true := by
  intro F L H args r L' hs ha hr
  unfold spec_l02Vector_F at hr
  split at hr
  · rename_i a1
    obtain ⟨v52, hv52, hr⟩ := optT_run hr
    simp only [Tree.run] at hr
    obtain ⟨y, hy, hr⟩ := Option.bind_eq_some_iff.1 hr
    simp only [Tree.run, Option.some.injEq, Prod.mk.injEq] at hr
    obtain ⟨rfl, rfl⟩ := hr
    exact call_ok0 hs (fun k => (([a1.av F] : List AV)[k]?).getD .top) [a1] [.bslc (BR.root 0) (.f32 v52)] (fun F' h0 hi hρ => ⟨by simp [DVs.av, DV.av, BR.av, hρ], spec_l02Vector_fn v52 F' (by rw [hi]; rfl) (st_nil hi) ⟨bslc_ok hi (by rw [h0, hρ]; exact rowF32_ok hs (DVs.okAt ha 0 rfl) hv52), trivial⟩ hy⟩) rfl
  · cases hr
/-! spec.l04Rounds -/
noncomputable def spec_l04Rounds_LO (v55 : Int) : LOr := fun id e L =>
  match id with
  | _ => .fail
noncomputable def spec_l04Rounds_tab : List (FuncId × DFn × Bool) := [(87, spec_l00In_F, true)]
theorem spec_l04Rounds_hO : OrcOk Try.prog (tabD spec_l04Rounds_tab) (tabM spec_l04Rounds_tab) := tabD_cons spec_l00In_Fok (tabD_nil _)
noncomputable def spec_l04Rounds_T (v55 : Int) : Tree (Bool) :=
  .leaf (spec_l00In_v v55 (0 : Int) (64 : Int))

noncomputable def spec_l04Rounds_g (v55 : Int) : Option (Bool) := (spec_l04Rounds_T v55).run
def spec_l04Rounds_enc (v55 : Int) (y : Bool) : Rs := (.bool y, [])
theorem spec_l04Rounds_den (v55 : Int) : (den TT (tabD spec_l04Rounds_tab) (tabM spec_l04Rounds_tab) (spec_l04Rounds_LO v55) (codeOf Try.f77) ([.int .i64 v55] ++ List.replicate (Try.f77.ntmps - ([.int .i64 v55] : List DV).length) .undef) []).bind (retD TT Try.f77.results.toList 0) = (spec_l04Rounds_T v55).bind fun y => .leaf (spec_l04Rounds_enc v55 y) := by kernel_rfl
theorem spec_l04Rounds_fn (v55 : Int) (F : Fr) (hm : F.ids.length = 0) (h0 : St F [] F.H0) (hA : DVs.Ok F [] [.int .i64 v55]) {y : Bool} (hy : spec_l04Rounds_g v55 = some y) : ∃ H', FnOk Try.prog 77 (DVs.av F [.int .i64 v55]) F.H0 ((spec_l04Rounds_enc v55 y).1.av F) H' ∧ St F (spec_l04Rounds_enc v55 y).2 H' ∧ (spec_l04Rounds_enc v55 y).1.Ok F (spec_l04Rounds_enc v55 y).2 :=
  fn_fin tok spec_l04Rounds_hO mixed Try.func77 Try.call77 (by kernel_rfl) (LoopsOk_eq (l := []) (by kernel_rfl) trivial) (spec_l04Rounds_den v55) hy hm h0 hA
def spec_l04Rounds_v (v55 : Int) : Bool :=
  (spec_l00In_v v55 (0 : Int) (64 : Int))
theorem spec_l04Rounds_tot (v55 : Int) : spec_l04Rounds_g v55 = some (spec_l04Rounds_v v55) := by
  unfold spec_l04Rounds_g spec_l04Rounds_T spec_l04Rounds_v
  simp only [Tree.run]
  repeat' (first | rfl | split)
noncomputable def spec_l04Rounds_F : DFn := fun args L =>
  match args with
  | [.int .i64 v55] =>
    .leaf (.bool (spec_l04Rounds_v v55), L)
  | _ => .fail
theorem spec_l04Rounds_Fok : COk Try.prog 77 spec_l04Rounds_F true := by
  intro F L H args r L' hs ha hr
  unfold spec_l04Rounds_F at hr
  split at hr
  · rename_i v55
    have hy := spec_l04Rounds_tot v55
    generalize spec_l04Rounds_v v55 = y at hy hr
    simp only [Tree.run, Option.some.injEq, Prod.mk.injEq] at hr
    obtain ⟨rfl, rfl⟩ := hr
    exact call_ok0 hs (fun k => (([] : List AV)[k]?).getD .top) [.int .i64 v55] [.int .i64 v55] (fun F' h0 hi hρ => ⟨by simp [DVs.av, DV.av, BR.av, hρ], spec_l04Rounds_fn v55 F' (by rw [hi]; rfl) (st_nil hi) ⟨trivial, trivial⟩ hy⟩) rfl
  · cases hr
/-! spec.l02Dot -/
noncomputable def spec_l02Dot_l0_T (v59 : List Nat) (v60 : List Nat) (s : Nat × Int) : Tree ((Nat × Int) ⊕ (Nat)) :=
  (.br (decide (s.2 < ((v59.length : Nat) : Int))) (
   (.grd (inb s.2 v59.length) <|
   (.grd (inb s.2 v60.length) <|
   .leaf (.inl (fadd .f32 s.1 (fmul .f32 (nth v59 (Int.toNat s.2)) (nth v60 (Int.toNat s.2))), IntKind.i64.wrap (s.2 + (1 : Int))))))
  ) (
   .leaf (.inr s.1)
  ))

noncomputable def spec_l02Dot_l0_g (v59 : List Nat) (v60 : List Nat) (s0 : Nat × Int) : Option (Nat) := whileM (fun s => (spec_l02Dot_l0_T v59 v60 s).run) s0
def spec_l02Dot_l0_E (v59 : List Nat) (v60 : List Nat) (s : Nat × Int) : Sd := ([.bslc (BR.root 0) (.f32 v59), .bslc (BR.root 1) (.f32 v60), .top, .top, .top, .flt .f32 s.1, .int .i64 s.2, .top, .top, .top, .top, .top, .top, .top, .top, .top, .top, .top, .top, .top, .top, .top, .top, .top, .top], [])
def spec_l02Dot_l0_X (v59 : List Nat) (v60 : List Nat) (x : Nat) : Out := (.normal, [.top, .top, .top, .top, .top, .flt .f32 x, .top, .top, .top, .top, .top, .top, .top, .top, .top, .top, .top, .top, .top, .top, .top, .top, .top, .top, .top], [])
def spec_l02Dot_l0_kill : List Nat := [0, 0, 1, 1, 1, 0, 0, 1, 1, 1, 1, 1, 1, 1, 1, 1, 1, 1, 1, 1, 1, 1, 1, 1, 1]
def spec_l02Dot_l0_nx : Exit → List Nat
  | .exit 0 => [1, 1, 1, 1, 1, 0, 1, 1, 1, 1, 1, 1, 1, 1, 1, 1, 1, 1, 1, 1, 1, 1, 1, 1, 1]
  | .ret => [1, 1, 1, 1, 0, 1, 1, 1, 1, 1, 1, 1, 1, 1, 1, 1, 1, 1, 1, 1, 1, 1, 1, 1, 1]
  | _ => []
noncomputable def spec_l02Dot_LO (v59 : List Nat) (v60 : List Nat) : LOr := fun id e L =>
  match id with
  | 0 => .need (normA 0 spec_l02Dot_l0_kill e L = some (spec_l02Dot_l0_E v59 v60 ((gF (vAt e 5)), (gI (vAt e 6))))) (.call (spec_l02Dot_l0_g v59 v60 ((gF (vAt e 5)), (gI (vAt e 6)))) fun x => .leaf (spec_l02Dot_l0_X v59 v60 x))
  | _ => .fail
noncomputable def spec_l02Dot_tab : List (FuncId × DFn × Bool) := []
theorem spec_l02Dot_hO : OrcOk Try.prog (tabD spec_l02Dot_tab) (tabM spec_l02Dot_tab) := tabD_nil _
theorem spec_l02Dot_l0_be (v59 : List Nat) (v60 : List Nat) (s : Nat × Int) : bodyT TT (tabD spec_l02Dot_tab) (tabM spec_l02Dot_tab) (spec_l02Dot_LO v59 v60) 0 spec_l02Dot_l0_kill spec_l02Dot_l0_nx (bodyOf Try.f133 0) 0 (spec_l02Dot_l0_E v59 v60 s) = (spec_l02Dot_l0_T v59 v60 s).bind fun y => .leaf (outS (spec_l02Dot_l0_E v59 v60) (spec_l02Dot_l0_X v59 v60) y) := by kernel_rfl
theorem spec_l02Dot_l0_ok (v59 : List Nat) (v60 : List Nat) : LSound Try.prog 0 (spec_l02Dot_LO v59 v60) 0 (bodyOf Try.f133 0) := by
  intro e L out h
  exact lo_ok (E := spec_l02Dot_l0_E v59 v60) (gT := spec_l02Dot_l0_T v59 v60) (X := spec_l02Dot_l0_X v59 v60) (s0 := ((gF (vAt e 5)), (gI (vAt e 6)))) tok spec_l02Dot_hO mixed (LoopsOk_eq (l := []) (by kernel_rfl) trivial) (spec_l02Dot_l0_be v59 v60) rfl (by intro x; rfl) h
noncomputable def spec_l02Dot_T (v59 : List Nat) (v60 : List Nat) : Tree (Nat) :=
  (.need (some (spec_l02Dot_l0_E v59 v60 ((0 : Nat), (0 : Int))) = some (spec_l02Dot_l0_E v59 v60 ((0 : Nat), (0 : Int)))) <|
  (.call (spec_l02Dot_l0_g v59 v60 ((0 : Nat), (0 : Int))) fun v67 =>
  .leaf v67))

noncomputable def spec_l02Dot_g (v59 : List Nat) (v60 : List Nat) : Option (Nat) := (spec_l02Dot_T v59 v60).run
def spec_l02Dot_enc (v59 : List Nat) (v60 : List Nat) (y : Nat) : Rs := (.flt .f32 y, [])
theorem spec_l02Dot_den (v59 : List Nat) (v60 : List Nat) : (den TT (tabD spec_l02Dot_tab) (tabM spec_l02Dot_tab) (spec_l02Dot_LO v59 v60) (codeOf Try.f133) ([.bslc (BR.root 0) (.f32 v59), .bslc (BR.root 1) (.f32 v60)] ++ List.replicate (Try.f133.ntmps - ([.bslc (BR.root 0) (.f32 v59), .bslc (BR.root 1) (.f32 v60)] : List DV).length) .undef) []).bind (retD TT Try.f133.results.toList 0) = (spec_l02Dot_T v59 v60).bind fun y => .leaf (spec_l02Dot_enc v59 v60 y) := by kernel_rfl
theorem spec_l02Dot_fn (v59 : List Nat) (v60 : List Nat) (F : Fr) (hm : F.ids.length = 0) (h0 : St F [] F.H0) (hA : DVs.Ok F [] [.bslc (BR.root 0) (.f32 v59), .bslc (BR.root 1) (.f32 v60)]) {y : Nat} (hy : spec_l02Dot_g v59 v60 = some y) : ∃ H', FnOk Try.prog 133 (DVs.av F [.bslc (BR.root 0) (.f32 v59), .bslc (BR.root 1) (.f32 v60)]) F.H0 ((spec_l02Dot_enc v59 v60 y).1.av F) H' ∧ St F (spec_l02Dot_enc v59 v60 y).2 H' ∧ (spec_l02Dot_enc v59 v60 y).1.Ok F (spec_l02Dot_enc v59 v60 y).2 :=
  fn_fin tok spec_l02Dot_hO mixed Try.func133 Try.call133 (by kernel_rfl) (LoopsOk_eq (l := [(0, bodyOf Try.f133 0)]) (by kernel_rfl) ⟨spec_l02Dot_l0_ok v59 v60, trivial⟩) (spec_l02Dot_den v59 v60) hy hm h0 hA
noncomputable def spec_l02Dot_F : DFn := fun args L =>
  match args with
  | [a1, a2] =>
    optT (rowF32 L a1) fun v59 =>
    optT (rowF32 L a2) fun v60 =>
    .call (spec_l02Dot_g v59 v60) fun y => .leaf (.flt .f32 y, L)
  | _ => .fail
theorem spec_l02Dot_Fok : COk Try.prog 133 spec_l02Dot_F true := by
  intro F L H args r L' hs ha hr
  unfold spec_l02Dot_F at hr
  split at hr
  · rename_i a1 a2
    obtain ⟨v59, hv59, hr⟩ := optT_run hr
    obtain ⟨v60, hv60, hr⟩ := optT_run hr
    simp only [Tree.run] at hr
    obtain ⟨y, hy, hr⟩ := Option.bind_eq_some_iff.1 hr
    simp only [Tree.run, Option.some.injEq, Prod.mk.injEq] at hr
    obtain ⟨rfl, rfl⟩ := hr
    exact call_ok0 hs (fun k => (([a1.av F, a2.av F] : List AV)[k]?).getD .top) [a1, a2] [.bslc (BR.root 0) (.f32 v59), .bslc (BR.root 1) (.f32 v60)] (fun F' h0 hi hρ => ⟨by simp [DVs.av, DV.av, BR.av, hρ], spec_l02Dot_fn v59 v60 F' (by rw [hi]; rfl) (st_nil hi) ⟨bslc_ok hi (by rw [h0, hρ]; exact rowF32_ok hs (DVs.okAt ha 0 rfl) hv59), bslc_ok hi (by rw [h0, hρ]; exact rowF32_ok hs (DVs.okAt ha 1 rfl) hv60), trivial⟩ hy⟩) rfl
  · cases hr
/-! math.Sqrt -/
noncomputable def math_Sqrt_LO (v70 : Nat) : LOr := fun id e L =>
  match id with
  | _ => .fail
noncomputable def math_Sqrt_tab : List (FuncId × DFn × Bool) := [(158, Sqrt_F, true)]
theorem math_Sqrt_hO : OrcOk Try.prog (tabD math_Sqrt_tab) (tabM math_Sqrt_tab) := tabD_cons Sqrt_Fok (tabD_nil _)
noncomputable def math_Sqrt_T (v70 : Nat) : Tree (Nat) :=
  .leaf (fsqrt v70)

noncomputable def math_Sqrt_g (v70 : Nat) : Option (Nat) := (math_Sqrt_T v70).run
def math_Sqrt_enc (v70 : Nat) (y : Nat) : Rs := (.flt .f64 y, [])
theorem math_Sqrt_den (v70 : Nat) : (den TT (tabD math_Sqrt_tab) (tabM math_Sqrt_tab) (math_Sqrt_LO v70) (codeOf Try.f117) ([.flt .f64 v70] ++ List.replicate (Try.f117.ntmps - ([.flt .f64 v70] : List DV).length) .undef) []).bind (retD TT Try.f117.results.toList 0) = (math_Sqrt_T v70).bind fun y => .leaf (math_Sqrt_enc v70 y) := by kernel_rfl
theorem math_Sqrt_fn (v70 : Nat) (F : Fr) (hm : F.ids.length = 0) (h0 : St F [] F.H0) (hA : DVs.Ok F [] [.flt .f64 v70]) {y : Nat} (hy : math_Sqrt_g v70 = some y) : ∃ H', FnOk Try.prog 117 (DVs.av F [.flt .f64 v70]) F.H0 ((math_Sqrt_enc v70 y).1.av F) H' ∧ St F (math_Sqrt_enc v70 y).2 H' ∧ (math_Sqrt_enc v70 y).1.Ok F (math_Sqrt_enc v70 y).2 :=
  fn_fin tok math_Sqrt_hO mixed Try.func117 Try.call117 (by kernel_rfl) (LoopsOk_eq (l := []) (by kernel_rfl) trivial) (math_Sqrt_den v70) hy hm h0 hA
def math_Sqrt_v (v70 : Nat) : Nat :=
  fsqrt v70
theorem math_Sqrt_tot (v70 : Nat) : math_Sqrt_g v70 = some (math_Sqrt_v v70) := by
  unfold math_Sqrt_g math_Sqrt_T math_Sqrt_v
  simp only [Tree.run]
  repeat' (first | rfl | split)
noncomputable def math_Sqrt_F : DFn := fun args L =>
  match args with
  | [.flt .f64 v70] =>
    .leaf (.flt .f64 (math_Sqrt_v v70), L)
  | _ => .fail
theorem math_Sqrt_Fok : COk Try.prog 117 math_Sqrt_F true := by
  intro F L H args r L' hs ha hr
  unfold math_Sqrt_F at hr
  split at hr
  · rename_i v70
    have hy := math_Sqrt_tot v70
    generalize math_Sqrt_v v70 = y at hy hr
    simp only [Tree.run, Option.some.injEq, Prod.mk.injEq] at hr
    obtain ⟨rfl, rfl⟩ := hr
    exact call_ok0 hs (fun k => (([] : List AV)[k]?).getD .top) [.flt .f64 v70] [.flt .f64 v70] (fun F' h0 hi hρ => ⟨by simp [DVs.av, DV.av, BR.av, hρ], math_Sqrt_fn v70 F' (by rw [hi]; rfl) (st_nil hi) ⟨trivial, trivial⟩ hy⟩) rfl
  · cases hr
/-! spec.l01Narrow -/
noncomputable def spec_l01Narrow_LO (v71 : Nat) : LOr := fun id e L =>
  match id with
  | _ => .fail
noncomputable def spec_l01Narrow_tab : List (FuncId × DFn × Bool) := []
theorem spec_l01Narrow_hO : OrcOk Try.prog (tabD spec_l01Narrow_tab) (tabM spec_l01Narrow_tab) := tabD_nil _
noncomputable def spec_l01Narrow_T (v71 : Nat) : Tree (Nat) :=
  (.call (fconv .f64 v71 .f32) fun v72 =>
  .leaf v72)

noncomputable def spec_l01Narrow_g (v71 : Nat) : Option (Nat) := (spec_l01Narrow_T v71).run
def spec_l01Narrow_enc (v71 : Nat) (y : Nat) : Rs := (.flt .f32 y, [])
theorem spec_l01Narrow_den (v71 : Nat) : (den TT (tabD spec_l01Narrow_tab) (tabM spec_l01Narrow_tab) (spec_l01Narrow_LO v71) (codeOf Try.f148) ([.flt .f64 v71] ++ List.replicate (Try.f148.ntmps - ([.flt .f64 v71] : List DV).length) .undef) []).bind (retD TT Try.f148.results.toList 0) = (spec_l01Narrow_T v71).bind fun y => .leaf (spec_l01Narrow_enc v71 y) := by kernel_rfl
theorem spec_l01Narrow_fn (v71 : Nat) (F : Fr) (hm : F.ids.length = 0) (h0 : St F [] F.H0) (hA : DVs.Ok F [] [.flt .f64 v71]) {y : Nat} (hy : spec_l01Narrow_g v71 = some y) : ∃ H', FnOk Try.prog 148 (DVs.av F [.flt .f64 v71]) F.H0 ((spec_l01Narrow_enc v71 y).1.av F) H' ∧ St F (spec_l01Narrow_enc v71 y).2 H' ∧ (spec_l01Narrow_enc v71 y).1.Ok F (spec_l01Narrow_enc v71 y).2 :=
  fn_fin tok spec_l01Narrow_hO mixed Try.func148 Try.call148 (by kernel_rfl) (LoopsOk_eq (l := []) (by kernel_rfl) trivial) (spec_l01Narrow_den v71) hy hm h0 hA
noncomputable def spec_l01Narrow_F : DFn := fun args L =>
  match args with
  | [.flt .f64 v71] =>
    .call (spec_l01Narrow_g v71) fun y => .leaf (.flt .f32 y, L)
  | _ => .fail
theorem spec_l01Narrow_Fok : COk Try.prog 148 spec_l01Narrow_F true := by
  intro F L H args r L' hs ha hr
  unfold spec_l01Narrow_F at hr
  split at hr
  · rename_i v71
    simp only [Tree.run] at hr
    obtain ⟨y, hy, hr⟩ := Option.bind_eq_some_iff.1 hr
    simp only [Tree.run, Option.some.injEq, Prod.mk.injEq] at hr
    obtain ⟨rfl, rfl⟩ := hr
    exact call_ok0 hs (fun k => (([] : List AV)[k]?).getD .top) [.flt .f64 v71] [.flt .f64 v71] (fun F' h0 hi hρ => ⟨by simp [DVs.av, DV.av, BR.av, hρ], spec_l01Narrow_fn v71 F' (by rw [hi]; rfl) (st_nil hi) ⟨trivial, trivial⟩ hy⟩) rfl
  · cases hr
/-! spec.l01Sqrt -/
noncomputable def spec_l01Sqrt_LO (v69 : Nat) : LOr := fun id e L =>
  match id with
  | _ => .fail
noncomputable def spec_l01Sqrt_tab : List (FuncId × DFn × Bool) := [(117, math_Sqrt_F, true), (148, spec_l01Narrow_F, true)]
theorem spec_l01Sqrt_hO : OrcOk Try.prog (tabD spec_l01Sqrt_tab) (tabM spec_l01Sqrt_tab) := tabD_cons math_Sqrt_Fok (tabD_cons spec_l01Narrow_Fok (tabD_nil _))
noncomputable def spec_l01Sqrt_T (v69 : Nat) : Tree (Nat) :=
  (.call (spec_l01Narrow_g (math_Sqrt_v (wid v69))) fun v73 =>
  .leaf v73)

noncomputable def spec_l01Sqrt_g (v69 : Nat) : Option (Nat) := (spec_l01Sqrt_T v69).run
def spec_l01Sqrt_enc (v69 : Nat) (y : Nat) : Rs := (.flt .f32 y, [])
theorem spec_l01Sqrt_den (v69 : Nat) : (den TT (tabD spec_l01Sqrt_tab) (tabM spec_l01Sqrt_tab) (spec_l01Sqrt_LO v69) (codeOf Try.f104) ([.flt .f32 v69] ++ List.replicate (Try.f104.ntmps - ([.flt .f32 v69] : List DV).length) .undef) []).bind (retD TT Try.f104.results.toList 0) = (spec_l01Sqrt_T v69).bind fun y => .leaf (spec_l01Sqrt_enc v69 y) := by kernel_rfl
theorem spec_l01Sqrt_fn (v69 : Nat) (F : Fr) (hm : F.ids.length = 0) (h0 : St F [] F.H0) (hA : DVs.Ok F [] [.flt .f32 v69]) {y : Nat} (hy : spec_l01Sqrt_g v69 = some y) : ∃ H', FnOk Try.prog 104 (DVs.av F [.flt .f32 v69]) F.H0 ((spec_l01Sqrt_enc v69 y).1.av F) H' ∧ St F (spec_l01Sqrt_enc v69 y).2 H' ∧ (spec_l01Sqrt_enc v69 y).1.Ok F (spec_l01Sqrt_enc v69 y).2 :=
  fn_fin tok spec_l01Sqrt_hO mixed Try.func104 Try.call104 (by kernel_rfl) (LoopsOk_eq (l := []) (by kernel_rfl) trivial) (spec_l01Sqrt_den v69) hy hm h0 hA
noncomputable def spec_l01Sqrt_F : DFn := fun args L =>
  match args with
  | [.flt .f32 v69] =>
    .call (spec_l01Sqrt_g v69) fun y => .leaf (.flt .f32 y, L)
  | _ => .fail
theorem spec_l01Sqrt_Fok : COk Try.prog 104 spec_l01Sqrt_F true := by
  intro F L H args r L' hs ha hr
  unfold spec_l01Sqrt_F at hr
  split at hr
  · rename_i v69
    simp only [Tree.run] at hr
    obtain ⟨y, hy, hr⟩ := Option.bind_eq_some_iff.1 hr
    simp only [Tree.run, Option.some.injEq, Prod.mk.injEq] at hr
    obtain ⟨rfl, rfl⟩ := hr
    exact call_ok0 hs (fun k => (([] : List AV)[k]?).getD .top) [.flt .f32 v69] [.flt .f32 v69] (fun F' h0 hi hρ => ⟨by simp [DVs.av, DV.av, BR.av, hρ], spec_l01Sqrt_fn v69 F' (by rw [hi]; rfl) (st_nil hi) ⟨trivial, trivial⟩ hy⟩) rfl
  · cases hr
/-! spec.l04Unit -/
noncomputable def spec_l04Unit_l0_T (v58 : List Nat) (v80 : Nat) (s : Int × (List Nat)) : Tree ((Int × (List Nat)) ⊕ ((List Nat))) :=
  (.br (decide (s.1 < ((v58.length : Nat) : Int))) (
   (.grd (inb s.1 v58.length) <|
   (.grd (fits (s.2 ++ ([fdiv .f32 (nth v58 (Int.toNat s.1)) v80] : List Nat)).length) <|
   .leaf (.inl (IntKind.i64.wrap (s.1 + (1 : Int)), s.2 ++ ([fdiv .f32 (nth v58 (Int.toNat s.1)) v80] : List Nat)))))
  ) (
   .leaf (.inr s.2)
  ))

noncomputable def spec_l04Unit_l0_g (v58 : List Nat) (v80 : Nat) (s0 : Int × (List Nat)) : Option ((List Nat)) := whileM (fun s => (spec_l04Unit_l0_T v58 v80 s).run) s0
def spec_l04Unit_l0_E (v58 : List Nat) (v80 : Nat) (s : Int × (List Nat)) : Sd := ([.bslc (BR.root 0) (.f32 v58), .top, .top, .top, .flt .f32 v80, .own 0 0 ((s.2).length), .int .i64 s.1, .top, .top, .top, .top, .top, .top, .top, .top, .top, .top, .top, .top, .top, .top, .top, .top, .top, .top, .top, .top, .top, .top, .top, .top, .top, .top], [.row (.f32 s.2) 0])
def spec_l04Unit_l0_X (v58 : List Nat) (v80 : Nat) (x : (List Nat)) : Out := (.normal, [.top, .top, .top, .top, .flt .f32 v80, .own 0 0 ((x).length), .top, .top, .top, .top, .top, .top, .top, .top, .top, .top, .top, .top, .top, .top, .top, .top, .top, .top, .top, .top, .top, .top, .top, .top, .top, .top, .top], [.row (.f32 x) 0])
def spec_l04Unit_l0_kill : List Nat := [0, 1, 1, 1, 0, 0, 0, 1, 1, 1, 1, 1, 1, 1, 1, 1, 1, 1, 1, 1, 1, 1, 1, 1, 1, 1, 1, 1, 1, 1, 1, 1, 1]
def spec_l04Unit_l0_nx : Exit → List Nat
  | .exit 0 => [1, 1, 1, 1, 0, 0, 1, 1, 1, 1, 1, 1, 1, 1, 1, 1, 1, 1, 1, 1, 1, 1, 1, 1, 1, 1, 1, 1, 1, 1, 1, 1, 1]
  | .ret => [1, 1, 0, 0, 1, 1, 1, 1, 1, 1, 1, 1, 1, 1, 1, 1, 1, 1, 1, 1, 1, 1, 1, 1, 1, 1, 1, 1, 1, 1, 1, 1, 1]
  | _ => []
noncomputable def spec_l04Unit_LO (v58 : List Nat) : LOr := fun id e L =>
  match id with
  | 0 => .need (normA 0 spec_l04Unit_l0_kill e L = some (spec_l04Unit_l0_E v58 (gF (vAt e 4)) ((gI (vAt e 6)), (gRF L (vAt e 5))))) (.call (spec_l04Unit_l0_g v58 (gF (vAt e 4)) ((gI (vAt e 6)), (gRF L (vAt e 5)))) fun x => .leaf (spec_l04Unit_l0_X v58 (gF (vAt e 4)) x))
  | _ => .fail
noncomputable def spec_l04Unit_tab : List (FuncId × DFn × Bool) := [(133, spec_l02Dot_F, true), (104, spec_l01Sqrt_F, true), (39, spec_l01Finite_F, true)]
theorem spec_l04Unit_hO : OrcOk Try.prog (tabD spec_l04Unit_tab) (tabM spec_l04Unit_tab) := tabD_cons spec_l02Dot_Fok (tabD_cons spec_l01Sqrt_Fok (tabD_cons spec_l01Finite_Fok (tabD_nil _)))
theorem spec_l04Unit_l0_be (v58 : List Nat) (v80 : Nat) (s : Int × (List Nat)) : bodyT TT (tabD spec_l04Unit_tab) (tabM spec_l04Unit_tab) (spec_l04Unit_LO v58) 0 spec_l04Unit_l0_kill spec_l04Unit_l0_nx (bodyOf Try.f130 0) 0 (spec_l04Unit_l0_E v58 v80 s) = (spec_l04Unit_l0_T v58 v80 s).bind fun y => .leaf (outS (spec_l04Unit_l0_E v58 v80) (spec_l04Unit_l0_X v58 v80) y) := by kernel_rfl
theorem spec_l04Unit_l0_ok (v58 : List Nat) : LSound Try.prog 0 (spec_l04Unit_LO v58) 0 (bodyOf Try.f130 0) := by
  intro e L out h
  exact lo_ok (E := spec_l04Unit_l0_E v58 (gF (vAt e 4))) (gT := spec_l04Unit_l0_T v58 (gF (vAt e 4))) (X := spec_l04Unit_l0_X v58 (gF (vAt e 4))) (s0 := ((gI (vAt e 6)), (gRF L (vAt e 5)))) tok spec_l04Unit_hO mixed (LoopsOk_eq (l := []) (by kernel_rfl) trivial) (spec_l04Unit_l0_be v58 (gF (vAt e 4))) rfl (by intro x; rfl) h
noncomputable def spec_l04Unit_T (v58 : List Nat) : Tree ((Unit) ⊕ (Bool × (List Nat))) :=
  (.call (spec_l02Dot_g v58 v58) fun v68 =>
  (.call (spec_l01Sqrt_g v68) fun v74 =>
  (.br (!(fgrt .f32 v74 (0 : Nat))) (
   .leaf (.inl ())
  ) (
   (.need (some (spec_l04Unit_l0_E v58 v74 ((0 : Int), ([] : List Nat))) = some (spec_l04Unit_l0_E v58 v74 ((0 : Int), ([] : List Nat)))) <|
   (.call (spec_l04Unit_l0_g v58 v74 ((0 : Int), ([] : List Nat))) fun v83 =>
   .leaf (.inr ((spec_l01Finite_v v74), v83))))
  ))))

noncomputable def spec_l04Unit_g (v58 : List Nat) : Option ((Unit) ⊕ (Bool × (List Nat))) := (spec_l04Unit_T v58).run
def spec_l04Unit_enc (v58 : List Nat) (y : (Unit) ⊕ (Bool × (List Nat))) : Rs := (match y with | .inl y => (.tup [.nilslc, .lit false], []) | .inr y => (.tup [.own 0 0 ((y.2).length), .bool y.1], [.row (.f32 y.2) 0]))
theorem spec_l04Unit_den (v58 : List Nat) : (den TT (tabD spec_l04Unit_tab) (tabM spec_l04Unit_tab) (spec_l04Unit_LO v58) (codeOf Try.f130) ([.bslc (BR.root 0) (.f32 v58)] ++ List.replicate (Try.f130.ntmps - ([.bslc (BR.root 0) (.f32 v58)] : List DV).length) .undef) []).bind (retD TT Try.f130.results.toList 0) = (spec_l04Unit_T v58).bind fun y => .leaf (spec_l04Unit_enc v58 y) := by kernel_rfl
theorem spec_l04Unit_fn (v58 : List Nat) (F : Fr) (hm : F.ids.length = 0) (h0 : St F [] F.H0) (hA : DVs.Ok F [] [.bslc (BR.root 0) (.f32 v58)]) {y : (Unit) ⊕ (Bool × (List Nat))} (hy : spec_l04Unit_g v58 = some y) : ∃ H', FnOk Try.prog 130 (DVs.av F [.bslc (BR.root 0) (.f32 v58)]) F.H0 ((spec_l04Unit_enc v58 y).1.av F) H' ∧ St F (spec_l04Unit_enc v58 y).2 H' ∧ (spec_l04Unit_enc v58 y).1.Ok F (spec_l04Unit_enc v58 y).2 :=
  fn_fin tok spec_l04Unit_hO mixed Try.func130 Try.call130 (by kernel_rfl) (LoopsOk_eq (l := [(0, bodyOf Try.f130 0)]) (by kernel_rfl) ⟨spec_l04Unit_l0_ok v58, trivial⟩) (spec_l04Unit_den v58) hy hm h0 hA
noncomputable def spec_l04Unit_F : DFn := fun args L =>
  match args with
  | [a1] =>
    optT (rowF32 L a1) fun v58 =>
    .call (spec_l04Unit_g v58) fun y => .sum y (fun y0 => .leaf (.tup [.nilslc, .lit false], L)) (fun z0 => .leaf (.tup [.own (L.length + 0) 0 ((z0.2).length), .bool z0.1], L ++ [.row (.f32 z0.2) 0]))
  | _ => .fail
theorem spec_l04Unit_Fok : COk Try.prog 130 spec_l04Unit_F true := by
  intro F L H args r L' hs ha hr
  unfold spec_l04Unit_F at hr
  split at hr
  · rename_i a1
    obtain ⟨v58, hv58, hr⟩ := optT_run hr
    simp only [Tree.run] at hr
    obtain ⟨y, hy, hr⟩ := Option.bind_eq_some_iff.1 hr
    cases y with
    | inl y =>
      simp only [Tree.run, Option.some.injEq, Prod.mk.injEq] at hr
      obtain ⟨rfl, rfl⟩ := hr
      exact call_ok0 hs (fun k => (([a1.av F] : List AV)[k]?).getD .top) [a1] [.bslc (BR.root 0) (.f32 v58)] (fun F' h0 hi hρ => ⟨by simp [DVs.av, DV.av, BR.av, hρ], spec_l04Unit_fn v58 F' (by rw [hi]; rfl) (st_nil hi) ⟨bslc_ok hi (by rw [h0, hρ]; exact rowF32_ok hs (DVs.okAt ha 0 rfl) hv58), trivial⟩ hy⟩) rfl
    | inr y =>
      simp only [Tree.run, Option.some.injEq, Prod.mk.injEq] at hr
      obtain ⟨rfl, rfl⟩ := hr
      exact call_ok1 hs (fun k => (([a1.av F] : List AV)[k]?).getD .top) [a1] [.bslc (BR.root 0) (.f32 v58)] (fun F' h0 hi hρ => ⟨by simp [DVs.av, DV.av, BR.av, hρ], spec_l04Unit_fn v58 F' (by rw [hi]; rfl) (st_nil hi) ⟨bslc_ok hi (by rw [h0, hρ]; exact rowF32_ok hs (DVs.okAt ha 0 rfl) hv58), trivial⟩ hy⟩) rfl rfl
  · cases hr
/-! spec.l02List -/
noncomputable def spec_l02List_LO (v87 : List Nat) : LOr := fun id e L =>
  match id with
  | _ => .fail
noncomputable def spec_l02List_tab : List (FuncId × DFn × Bool) := [(38, spec_l02Finite_F, true)]
theorem spec_l02List_hO : OrcOk Try.prog (tabD spec_l02List_tab) (tabM spec_l02List_tab) := tabD_cons spec_l02Finite_Fok (tabD_nil _)
noncomputable def spec_l02List_T (v87 : List Nat) : Tree ((Unit) ⊕ (Unit)) :=
  (.call (spec_l02Finite_g v87) fun v88 =>
  (.br (!v88) (
   .leaf (.inl ())
  ) (
   .leaf (.inr ())
  )))

noncomputable def spec_l02List_g (v87 : List Nat) : Option ((Unit) ⊕ (Unit)) := (spec_l02List_T v87).run
def spec_l02List_enc (v87 : List Nat) (y : (Unit) ⊕ (Unit)) : Rs := (match y with | .inl y => (.tup [.nilslc, .lit false], []) | .inr y => (.tup [.bslc (BR.root 0) (.f32 v87), .lit true], []))
theorem spec_l02List_den (v87 : List Nat) : (den TT (tabD spec_l02List_tab) (tabM spec_l02List_tab) (spec_l02List_LO v87) (codeOf Try.f131) ([.bslc (BR.root 0) (.f32 v87)] ++ List.replicate (Try.f131.ntmps - ([.bslc (BR.root 0) (.f32 v87)] : List DV).length) .undef) []).bind (retD TT Try.f131.results.toList 0) = (spec_l02List_T v87).bind fun y => .leaf (spec_l02List_enc v87 y) := by kernel_rfl
theorem spec_l02List_fn (v87 : List Nat) (F : Fr) (hm : F.ids.length = 0) (h0 : St F [] F.H0) (hA : DVs.Ok F [] [.bslc (BR.root 0) (.f32 v87)]) {y : (Unit) ⊕ (Unit)} (hy : spec_l02List_g v87 = some y) : ∃ H', FnOk Try.prog 131 (DVs.av F [.bslc (BR.root 0) (.f32 v87)]) F.H0 ((spec_l02List_enc v87 y).1.av F) H' ∧ St F (spec_l02List_enc v87 y).2 H' ∧ (spec_l02List_enc v87 y).1.Ok F (spec_l02List_enc v87 y).2 :=
  fn_fin tok spec_l02List_hO mixed Try.func131 Try.call131 (by kernel_rfl) (LoopsOk_eq (l := []) (by kernel_rfl) trivial) (spec_l02List_den v87) hy hm h0 hA
noncomputable def spec_l02List_F : DFn := fun args L =>
  match args with
  | [a1] =>
    optT (rowF32 L a1) fun v87 =>
    .call (spec_l02List_g v87) fun y => .sum y (fun y0 => .leaf (.tup [.nilslc, .lit false], L)) (fun z0 => .leaf (.tup [a1, .lit true], L))
  | _ => .fail
theorem spec_l02List_Fok : COk Try.prog 131 spec_l02List_F true := by
  intro F L H args r L' hs ha hr
  unfold spec_l02List_F at hr
  split at hr
  · rename_i a1
    obtain ⟨v87, hv87, hr⟩ := optT_run hr
    simp only [Tree.run] at hr
    obtain ⟨y, hy, hr⟩ := Option.bind_eq_some_iff.1 hr
    cases y with
    | inl y =>
      simp only [Tree.run, Option.some.injEq, Prod.mk.injEq] at hr
      obtain ⟨rfl, rfl⟩ := hr
      exact call_ok0 hs (fun k => (([a1.av F] : List AV)[k]?).getD .top) [a1] [.bslc (BR.root 0) (.f32 v87)] (fun F' h0 hi hρ => ⟨by simp [DVs.av, DV.av, BR.av, hρ], spec_l02List_fn v87 F' (by rw [hi]; rfl) (st_nil hi) ⟨bslc_ok hi (by rw [h0, hρ]; exact rowF32_ok hs (DVs.okAt ha 0 rfl) hv87), trivial⟩ hy⟩) rfl
    | inr y =>
      simp only [Tree.run, Option.some.injEq, Prod.mk.injEq] at hr
      obtain ⟨rfl, rfl⟩ := hr
      exact call_al0 hs (fun k => (([a1.av F] : List AV)[k]?).getD .top) [a1] [.bslc (BR.root 0) (.f32 v87)] (fun F' h0 hi hρ => ⟨by simp [DVs.av, DV.av, BR.av, hρ], spec_l02List_fn v87 F' (by rw [hi]; rfl) (st_nil hi) ⟨bslc_ok hi (by rw [h0, hρ]; exact rowF32_ok hs (DVs.okAt ha 0 rfl) hv87), trivial⟩ hy⟩) (fun F' h0 hi hρ => by simp [spec_l02List_enc, DVs.av, DV.av, BR.av, hρ]) ⟨(DVs.okAt ha 0 rfl), trivial, trivial⟩
  · cases hr
/-! spec.UnitVector -/
noncomputable def spec_UnitVector_LO (v56 : List Nat) : LOr := fun id e L =>
  match id with
  | _ => .fail
noncomputable def spec_UnitVector_tab : List (FuncId × DFn × Bool) := [(76, spec_l02Vector_F, true), (130, spec_l04Unit_F, true), (131, spec_l02List_F, true)]
theorem spec_UnitVector_hO : OrcOk Try.prog (tabD spec_UnitVector_tab) (tabM spec_UnitVector_tab) := tabD_cons spec_l02Vector_Fok (tabD_cons spec_l04Unit_Fok (tabD_cons spec_l02List_Fok (tabD_nil _)))
noncomputable def spec_UnitVector_T (v56 : List Nat) : Tree ((Unit) ⊕ ((List Nat))) :=
  (.call (spec_l02Vector_g v56) fun v57 =>
  (.br (!v57) (
   .leaf (.inl ())
  ) (
   (.call (spec_l04Unit_g v56) fun v84 =>
   (.sum v84 (fun v85 =>
    .leaf (.inl ())
   ) (fun v86 =>
    (.br (!v86.1) (
     .leaf (.inl ())
    ) (
     (.call (spec_l02List_g v86.2) fun v89 =>
     (.sum v89 (fun v90 =>
      .leaf (.inl ())
     ) (fun v91 =>
      .leaf (.inr v86.2)
     )))
    ))
   )))
  )))

noncomputable def spec_UnitVector_g (v56 : List Nat) : Option ((Unit) ⊕ ((List Nat))) := (spec_UnitVector_T v56).run
def spec_UnitVector_enc (v56 : List Nat) (y : (Unit) ⊕ ((List Nat))) : Rs := (match y with | .inl y => (.tup [.nilslc, .lit false], []) | .inr y => (.tup [.own 0 0 ((y).length), .lit true], [.row (.f32 y) 0]))
theorem spec_UnitVector_den (v56 : List Nat) : (den TT (tabD spec_UnitVector_tab) (tabM spec_UnitVector_tab) (spec_UnitVector_LO v56) (codeOf Try.f78) ([.bslc (BR.root 0) (.f32 v56)] ++ List.replicate (Try.f78.ntmps - ([.bslc (BR.root 0) (.f32 v56)] : List DV).length) .undef) []).bind (retD TT Try.f78.results.toList 0) = (spec_UnitVector_T v56).bind fun y => .leaf (spec_UnitVector_enc v56 y) := by kernel_rfl
theorem spec_UnitVector_fn (v56 : List Nat) (F : Fr) (hm : F.ids.length = 0) (h0 : St F [] F.H0) (hA : DVs.Ok F [] [.bslc (BR.root 0) (.f32 v56)]) {y : (Unit) ⊕ ((List Nat))} (hy : spec_UnitVector_g v56 = some y) : ∃ H', FnOk Try.prog 78 (DVs.av F [.bslc (BR.root 0) (.f32 v56)]) F.H0 ((spec_UnitVector_enc v56 y).1.av F) H' ∧ St F (spec_UnitVector_enc v56 y).2 H' ∧ (spec_UnitVector_enc v56 y).1.Ok F (spec_UnitVector_enc v56 y).2 :=
  fn_fin tok spec_UnitVector_hO mixed Try.func78 Try.call78 (by kernel_rfl) (LoopsOk_eq (l := []) (by kernel_rfl) trivial) (spec_UnitVector_den v56) hy hm h0 hA
noncomputable def spec_UnitVector_F : DFn := fun args L =>
  match args with
  | [a1] =>
    optT (rowF32 L a1) fun v56 =>
    .call (spec_UnitVector_g v56) fun y => .sum y (fun y0 => .leaf (.tup [.nilslc, .lit false], L)) (fun z0 => .leaf (.tup [.own (L.length + 0) 0 ((z0).length), .lit true], L ++ [.row (.f32 z0) 0]))
  | _ => .fail
theorem spec_UnitVector_Fok : COk Try.prog 78 spec_UnitVector_F true := by
  intro F L H args r L' hs ha hr
  unfold spec_UnitVector_F at hr
  split at hr
  · rename_i a1
    obtain ⟨v56, hv56, hr⟩ := optT_run hr
    simp only [Tree.run] at hr
    obtain ⟨y, hy, hr⟩ := Option.bind_eq_some_iff.1 hr
    cases y with
    | inl y =>
      simp only [Tree.run, Option.some.injEq, Prod.mk.injEq] at hr
      obtain ⟨rfl, rfl⟩ := hr
      exact call_ok0 hs (fun k => (([a1.av F] : List AV)[k]?).getD .top) [a1] [.bslc (BR.root 0) (.f32 v56)] (fun F' h0 hi hρ => ⟨by simp [DVs.av, DV.av, BR.av, hρ], spec_UnitVector_fn v56 F' (by rw [hi]; rfl) (st_nil hi) ⟨bslc_ok hi (by rw [h0, hρ]; exact rowF32_ok hs (DVs.okAt ha 0 rfl) hv56), trivial⟩ hy⟩) rfl
    | inr y =>
      simp only [Tree.run, Option.some.injEq, Prod.mk.injEq] at hr
      obtain ⟨rfl, rfl⟩ := hr
      exact call_ok1 hs (fun k => (([a1.av F] : List AV)[k]?).getD .top) [a1] [.bslc (BR.root 0) (.f32 v56)] (fun F' h0 hi hρ => ⟨by simp [DVs.av, DV.av, BR.av, hρ], spec_UnitVector_fn v56 F' (by rw [hi]; rfl) (st_nil hi) ⟨bslc_ok hi (by rw [h0, hρ]; exact rowF32_ok hs (DVs.okAt ha 0 rfl) hv56), trivial⟩ hy⟩) rfl rfl
  · cases hr
/-! spec.l02Times -/
noncomputable def spec_l02Times_l0_T (v103 : Int) (v104 : Int) (v105 : List Nat) (v106 : List Nat) (s : Int × (List Nat)) : Tree ((Int × (List Nat)) ⊕ ((List Nat))) :=
  (.br (decide (s.1 < v103)) (
   (.grd (sok (IntKind.i64.wrap (s.1 * v104)) (IntKind.i64.wrap ((IntKind.i64.wrap (s.1 + (1 : Int))) * v104)) v105.length) <|
   (.call (spec_l02Dot_g (AM.sub v105 (IntKind.i64.wrap (s.1 * v104)) (IntKind.i64.wrap ((IntKind.i64.wrap (s.1 + (1 : Int))) * v104))) v106) fun v114 =>
   (.grd (fits (s.2 ++ ([v114] : List Nat)).length) <|
   .leaf (.inl (IntKind.i64.wrap (s.1 + (1 : Int)), s.2 ++ ([v114] : List Nat))))))
  ) (
   .leaf (.inr s.2)
  ))

noncomputable def spec_l02Times_l0_g (v103 : Int) (v104 : Int) (v105 : List Nat) (v106 : List Nat) (s0 : Int × (List Nat)) : Option ((List Nat)) := whileM (fun s => (spec_l02Times_l0_T v103 v104 v105 v106 s).run) s0
def spec_l02Times_l0_E (v103 : Int) (v104 : Int) (v105 : List Nat) (v106 : List Nat) (s : Int × (List Nat)) : Sd := ([.bptr (BR.root 0) [.int .i64 v103, .int .i64 v104, .bslc (BR.root 1) (.f32 v105)], .bslc (BR.root 2) (.f32 v106), .top, .top, .top, .own 0 0 ((s.2).length), .int .i64 s.1, .top, .top, .top, .top, .top, .top, .top, .top, .top, .top, .top, .top, .top, .top, .top, .top, .top, .top, .top, .top, .top, .top, .top, .top, .top, .top, .top, .top, .top, .top, .top, .top, .top], [.row (.f32 s.2) 0])
def spec_l02Times_l0_X (v103 : Int) (v104 : Int) (v105 : List Nat) (v106 : List Nat) (x : (List Nat)) : Out := (.normal, [.top, .top, .top, .top, .top, .own 0 0 ((x).length), .top, .top, .top, .top, .top, .top, .top, .top, .top, .top, .top, .top, .top, .top, .top, .top, .top, .top, .top, .top, .top, .top, .top, .top, .top, .top, .top, .top, .top, .top, .top, .top, .top, .top], [.row (.f32 x) 0])
def spec_l02Times_l0_kill : List Nat := [0, 0, 1, 1, 1, 0, 0, 1, 1, 1, 1, 1, 1, 1, 1, 1, 1, 1, 1, 1, 1, 1, 1, 1, 1, 1, 1, 1, 1, 1, 1, 1, 1, 1, 1, 1, 1, 1, 1, 1]
def spec_l02Times_l0_nx : Exit → List Nat
  | .exit 0 => [1, 1, 1, 1, 1, 0, 1, 1, 1, 1, 1, 1, 1, 1, 1, 1, 1, 1, 1, 1, 1, 1, 1, 1, 1, 1, 1, 1, 1, 1, 1, 1, 1, 1, 1, 1, 1, 1, 1, 1]
  | .ret => [1, 1, 1, 1, 0, 1, 1, 1, 1, 1, 1, 1, 1, 1, 1, 1, 1, 1, 1, 1, 1, 1, 1, 1, 1, 1, 1, 1, 1, 1, 1, 1, 1, 1, 1, 1, 1, 1, 1, 1]
  | _ => []
noncomputable def spec_l02Times_LO (v103 : Int) (v104 : Int) (v105 : List Nat) (v106 : List Nat) : LOr := fun id e L =>
  match id with
  | 0 => .need (normA 0 spec_l02Times_l0_kill e L = some (spec_l02Times_l0_E v103 v104 v105 v106 ((gI (vAt e 6)), (gRF L (vAt e 5))))) (.call (spec_l02Times_l0_g v103 v104 v105 v106 ((gI (vAt e 6)), (gRF L (vAt e 5)))) fun x => .leaf (spec_l02Times_l0_X v103 v104 v105 v106 x))
  | _ => .fail
noncomputable def spec_l02Times_tab : List (FuncId × DFn × Bool) := [(133, spec_l02Dot_F, true)]
theorem spec_l02Times_hO : OrcOk Try.prog (tabD spec_l02Times_tab) (tabM spec_l02Times_tab) := tabD_cons spec_l02Dot_Fok (tabD_nil _)
theorem spec_l02Times_l0_be (v103 : Int) (v104 : Int) (v105 : List Nat) (v106 : List Nat) (s : Int × (List Nat)) : bodyT TT (tabD spec_l02Times_tab) (tabM spec_l02Times_tab) (spec_l02Times_LO v103 v104 v105 v106) 0 spec_l02Times_l0_kill spec_l02Times_l0_nx (bodyOf Try.f132 0) 0 (spec_l02Times_l0_E v103 v104 v105 v106 s) = (spec_l02Times_l0_T v103 v104 v105 v106 s).bind fun y => .leaf (outS (spec_l02Times_l0_E v103 v104 v105 v106) (spec_l02Times_l0_X v103 v104 v105 v106) y) := by kernel_rfl
theorem spec_l02Times_l0_ok (v103 : Int) (v104 : Int) (v105 : List Nat) (v106 : List Nat) : LSound Try.prog 0 (spec_l02Times_LO v103 v104 v105 v106) 0 (bodyOf Try.f132 0) := by
  intro e L out h
  exact lo_ok (E := spec_l02Times_l0_E v103 v104 v105 v106) (gT := spec_l02Times_l0_T v103 v104 v105 v106) (X := spec_l02Times_l0_X v103 v104 v105 v106) (s0 := ((gI (vAt e 6)), (gRF L (vAt e 5)))) tok spec_l02Times_hO mixed (LoopsOk_eq (l := []) (by kernel_rfl) trivial) (spec_l02Times_l0_be v103 v104 v105 v106) rfl (by intro x; rfl) h
noncomputable def spec_l02Times_T (v103 : Int) (v104 : Int) (v105 : List Nat) (v106 : List Nat) : Tree ((List Nat)) :=
  (.need (some (spec_l02Times_l0_E v103 v104 v105 v106 ((0 : Int), ([] : List Nat))) = some (spec_l02Times_l0_E v103 v104 v105 v106 ((0 : Int), ([] : List Nat)))) <|
  (.call (spec_l02Times_l0_g v103 v104 v105 v106 ((0 : Int), ([] : List Nat))) fun v115 =>
  .leaf v115))

noncomputable def spec_l02Times_g (v103 : Int) (v104 : Int) (v105 : List Nat) (v106 : List Nat) : Option ((List Nat)) := (spec_l02Times_T v103 v104 v105 v106).run
def spec_l02Times_enc (v103 : Int) (v104 : Int) (v105 : List Nat) (v106 : List Nat) (y : (List Nat)) : Rs := (.own 0 0 ((y).length), [.row (.f32 y) 0])
theorem spec_l02Times_den (v103 : Int) (v104 : Int) (v105 : List Nat) (v106 : List Nat) : (den TT (tabD spec_l02Times_tab) (tabM spec_l02Times_tab) (spec_l02Times_LO v103 v104 v105 v106) (codeOf Try.f132) ([.bptr (BR.root 0) [.int .i64 v103, .int .i64 v104, .bslc (BR.root 1) (.f32 v105)], .bslc (BR.root 2) (.f32 v106)] ++ List.replicate (Try.f132.ntmps - ([.bptr (BR.root 0) [.int .i64 v103, .int .i64 v104, .bslc (BR.root 1) (.f32 v105)], .bslc (BR.root 2) (.f32 v106)] : List DV).length) .undef) []).bind (retD TT Try.f132.results.toList 0) = (spec_l02Times_T v103 v104 v105 v106).bind fun y => .leaf (spec_l02Times_enc v103 v104 v105 v106 y) := by kernel_rfl
theorem spec_l02Times_fn (v103 : Int) (v104 : Int) (v105 : List Nat) (v106 : List Nat) (F : Fr) (hm : F.ids.length = 0) (h0 : St F [] F.H0) (hA : DVs.Ok F [] [.bptr (BR.root 0) [.int .i64 v103, .int .i64 v104, .bslc (BR.root 1) (.f32 v105)], .bslc (BR.root 2) (.f32 v106)]) {y : (List Nat)} (hy : spec_l02Times_g v103 v104 v105 v106 = some y) : ∃ H', FnOk Try.prog 132 (DVs.av F [.bptr (BR.root 0) [.int .i64 v103, .int .i64 v104, .bslc (BR.root 1) (.f32 v105)], .bslc (BR.root 2) (.f32 v106)]) F.H0 ((spec_l02Times_enc v103 v104 v105 v106 y).1.av F) H' ∧ St F (spec_l02Times_enc v103 v104 v105 v106 y).2 H' ∧ (spec_l02Times_enc v103 v104 v105 v106 y).1.Ok F (spec_l02Times_enc v103 v104 v105 v106 y).2 :=
  fn_fin tok spec_l02Times_hO mixed Try.func132 Try.call132 (by kernel_rfl) (LoopsOk_eq (l := [(0, bodyOf Try.f132 0)]) (by kernel_rfl) ⟨spec_l02Times_l0_ok v103 v104 v105 v106, trivial⟩) (spec_l02Times_den v103 v104 v105 v106) hy hm h0 hA
noncomputable def spec_l02Times_F : DFn := fun args L =>
  match args with
  | [a1, a3] =>
    optT (cellsOf L 3 a1) fun cs0 =>
    (match cs0 with
    | [.int .i64 v103, .int .i64 v104, a2] =>
    optT (rowF32 L a2) fun v105 =>
    optT (rowF32 L a3) fun v106 =>
    .call (spec_l02Times_g v103 v104 v105 v106) fun y => .leaf (.own (L.length + 0) 0 ((y).length), L ++ [.row (.f32 y) 0])
    | _ => .fail)
  | _ => .fail
theorem spec_l02Times_Fok : COk Try.prog 132 spec_l02Times_F true := by
  intro F L H args r L' hs ha hr
  unfold spec_l02Times_F at hr
  split at hr
  · rename_i a1 a3
    obtain ⟨cs0, hcp0, hr⟩ := optT_run hr
    split at hr
    · rename_i v103 v104 a2
      obtain ⟨v105, hv105, hr⟩ := optT_run hr
      obtain ⟨v106, hv106, hr⟩ := optT_run hr
      simp only [Tree.run] at hr
      obtain ⟨y, hy, hr⟩ := Option.bind_eq_some_iff.1 hr
      simp only [Tree.run, Option.some.injEq, Prod.mk.injEq] at hr
      obtain ⟨rfl, rfl⟩ := hr
      exact call_ok1 hs (fun k => (([a1.av F, a2.av F, a3.av F] : List AV)[k]?).getD .top) [a1, a3] [.bptr (BR.root 0) [.int .i64 v103, .int .i64 v104, .bslc (BR.root 1) (.f32 v105)], .bslc (BR.root 2) (.f32 v106)] (fun F' h0 hi hρ => ⟨by simp [DVs.av, DV.av, BR.av, hρ], spec_l02Times_fn v103 v104 v105 v106 F' (by rw [hi]; rfl) (st_nil hi) ⟨bptr_ok hi (by rw [h0]; simpa [DVs.av, DV.av, BR.av, hρ] using (cellsOf_ok hs (DVs.okAt ha 0 rfl) hcp0).1) ⟨trivial, trivial, bslc_ok hi (by rw [h0, hρ]; exact rowF32_ok hs (DVs.okAt (cellsOf_ok hs (DVs.okAt ha 0 rfl) hcp0).2 2 rfl) hv105), trivial⟩, bslc_ok hi (by rw [h0, hρ]; exact rowF32_ok hs (DVs.okAt ha 1 rfl) hv106), trivial⟩ hy⟩) rfl rfl
    · cases hr
  · cases hr
/-! spec.TimesVector -/
noncomputable def spec_TimesVector_LO (v97 : Int) (v98 : Int) (v99 : List Nat) (v100 : List Nat) : LOr := fun id e L =>
  match id with
  | _ => .fail
noncomputable def spec_TimesVector_tab : List (FuncId × DFn × Bool) := [(103, spec_l02Is_F, true), (76, spec_l02Vector_F, true), (132, spec_l02Times_F, true), (131, spec_l02List_F, true)]
theorem spec_TimesVector_hO : OrcOk Try.prog (tabD spec_TimesVector_tab) (tabM spec_TimesVector_tab) := tabD_cons spec_l02Is_Fok (tabD_cons spec_l02Vector_Fok (tabD_cons spec_l02Times_Fok (tabD_cons spec_l02List_Fok (tabD_nil _))))
noncomputable def spec_TimesVector_T (v97 : Int) (v98 : Int) (v99 : List Nat) (v100 : List Nat) : Tree ((Unit) ⊕ ((List Nat))) :=
  (.call (spec_l02Is_g v97 v98 v99) fun v101 =>
  (.br (!v101) (
   .leaf (.inl ())
  ) (
   (.call (spec_l02Vector_g v100) fun v102 =>
   (.br (!v102) (
    .leaf (.inl ())
   ) (
    (.br (!decide (((v100.length : Nat) : Int) = v98)) (
     .leaf (.inl ())
    ) (
     (.call (spec_l02Times_g v97 v98 v99 v100) fun v116 =>
     (.call (spec_l02List_g v116) fun v117 =>
     (.sum v117 (fun v118 =>
      .leaf (.inl ())
     ) (fun v119 =>
      .leaf (.inr v116)
     ))))
    ))
   )))
  )))

noncomputable def spec_TimesVector_g (v97 : Int) (v98 : Int) (v99 : List Nat) (v100 : List Nat) : Option ((Unit) ⊕ ((List Nat))) := (spec_TimesVector_T v97 v98 v99 v100).run
def spec_TimesVector_enc (v97 : Int) (v98 : Int) (v99 : List Nat) (v100 : List Nat) (y : (Unit) ⊕ ((List Nat))) : Rs := (match y with | .inl y => (.tup [.nilslc, .lit false], []) | .inr y => (.tup [.own 0 0 ((y).length), .lit true], [.row (.f32 y) 0]))
theorem spec_TimesVector_den (v97 : Int) (v98 : Int) (v99 : List Nat) (v100 : List Nat) : (den TT (tabD spec_TimesVector_tab) (tabM spec_TimesVector_tab) (spec_TimesVector_LO v97 v98 v99 v100) (codeOf Try.f79) ([.agg [.int .i64 v97, .int .i64 v98, .bslc (BR.root 0) (.f32 v99)], .bslc (BR.root 1) (.f32 v100)] ++ List.replicate (Try.f79.ntmps - ([.agg [.int .i64 v97, .int .i64 v98, .bslc (BR.root 0) (.f32 v99)], .bslc (BR.root 1) (.f32 v100)] : List DV).length) .undef) []).bind (retD TT Try.f79.results.toList 0) = (spec_TimesVector_T v97 v98 v99 v100).bind fun y => .leaf (spec_TimesVector_enc v97 v98 v99 v100 y) := by kernel_rfl
theorem spec_TimesVector_fn (v97 : Int) (v98 : Int) (v99 : List Nat) (v100 : List Nat) (F : Fr) (hm : F.ids.length = 0) (h0 : St F [] F.H0) (hA : DVs.Ok F [] [.agg [.int .i64 v97, .int .i64 v98, .bslc (BR.root 0) (.f32 v99)], .bslc (BR.root 1) (.f32 v100)]) {y : (Unit) ⊕ ((List Nat))} (hy : spec_TimesVector_g v97 v98 v99 v100 = some y) : ∃ H', FnOk Try.prog 79 (DVs.av F [.agg [.int .i64 v97, .int .i64 v98, .bslc (BR.root 0) (.f32 v99)], .bslc (BR.root 1) (.f32 v100)]) F.H0 ((spec_TimesVector_enc v97 v98 v99 v100 y).1.av F) H' ∧ St F (spec_TimesVector_enc v97 v98 v99 v100 y).2 H' ∧ (spec_TimesVector_enc v97 v98 v99 v100 y).1.Ok F (spec_TimesVector_enc v97 v98 v99 v100 y).2 :=
  fn_fin tok spec_TimesVector_hO mixed Try.func79 Try.call79 (by kernel_rfl) (LoopsOk_eq (l := []) (by kernel_rfl) trivial) (spec_TimesVector_den v97 v98 v99 v100) hy hm h0 hA
noncomputable def spec_TimesVector_F : DFn := fun args L =>
  match args with
  | [.agg [.int .i64 v97, .int .i64 v98, a1], a2] =>
    optT (rowF32 L a1) fun v99 =>
    optT (rowF32 L a2) fun v100 =>
    .call (spec_TimesVector_g v97 v98 v99 v100) fun y => .sum y (fun y0 => .leaf (.tup [.nilslc, .lit false], L)) (fun z0 => .leaf (.tup [.own (L.length + 0) 0 ((z0).length), .lit true], L ++ [.row (.f32 z0) 0]))
  | _ => .fail
theorem spec_TimesVector_Fok : COk Try.prog 79 spec_TimesVector_F true := by
  intro F L H args r L' hs ha hr
  unfold spec_TimesVector_F at hr
  split at hr
  · rename_i v97 v98 a1 a2
    obtain ⟨v99, hv99, hr⟩ := optT_run hr
    obtain ⟨v100, hv100, hr⟩ := optT_run hr
    simp only [Tree.run] at hr
    obtain ⟨y, hy, hr⟩ := Option.bind_eq_some_iff.1 hr
    cases y with
    | inl y =>
      simp only [Tree.run, Option.some.injEq, Prod.mk.injEq] at hr
      obtain ⟨rfl, rfl⟩ := hr
      exact call_ok0 hs (fun k => (([a1.av F, a2.av F] : List AV)[k]?).getD .top) [.agg [.int .i64 v97, .int .i64 v98, a1], a2] [.agg [.int .i64 v97, .int .i64 v98, .bslc (BR.root 0) (.f32 v99)], .bslc (BR.root 1) (.f32 v100)] (fun F' h0 hi hρ => ⟨by simp [DVs.av, DV.av, BR.av, hρ], spec_TimesVector_fn v97 v98 v99 v100 F' (by rw [hi]; rfl) (st_nil hi) ⟨⟨trivial, trivial, bslc_ok hi (by rw [h0, hρ]; exact rowF32_ok hs (DVs.okAt (DVs.okAt ha 0 rfl) 2 rfl) hv99), trivial⟩, bslc_ok hi (by rw [h0, hρ]; exact rowF32_ok hs (DVs.okAt ha 1 rfl) hv100), trivial⟩ hy⟩) rfl
    | inr y =>
      simp only [Tree.run, Option.some.injEq, Prod.mk.injEq] at hr
      obtain ⟨rfl, rfl⟩ := hr
      exact call_ok1 hs (fun k => (([a1.av F, a2.av F] : List AV)[k]?).getD .top) [.agg [.int .i64 v97, .int .i64 v98, a1], a2] [.agg [.int .i64 v97, .int .i64 v98, .bslc (BR.root 0) (.f32 v99)], .bslc (BR.root 1) (.f32 v100)] (fun F' h0 hi hρ => ⟨by simp [DVs.av, DV.av, BR.av, hρ], spec_TimesVector_fn v97 v98 v99 v100 F' (by rw [hi]; rfl) (st_nil hi) ⟨⟨trivial, trivial, bslc_ok hi (by rw [h0, hρ]; exact rowF32_ok hs (DVs.okAt (DVs.okAt ha 0 rfl) 2 rfl) hv99), trivial⟩, bslc_ok hi (by rw [h0, hρ]; exact rowF32_ok hs (DVs.okAt ha 1 rfl) hv100), trivial⟩ hy⟩) rfl rfl
  · cases hr
/-! spec.l02Number -/
noncomputable def spec_l02Number_LO (v155 : Nat) : LOr := fun id e L =>
  match id with
  | _ => .fail
noncomputable def spec_l02Number_tab : List (FuncId × DFn × Bool) := [(39, spec_l01Finite_F, true)]
theorem spec_l02Number_hO : OrcOk Try.prog (tabD spec_l02Number_tab) (tabM spec_l02Number_tab) := tabD_cons spec_l01Finite_Fok (tabD_nil _)
noncomputable def spec_l02Number_T (v155 : Nat) : Tree ((Unit) ⊕ (Nat)) :=
  (.br (!(spec_l01Finite_v v155)) (
   .leaf (.inl ())
  ) (
   .leaf (.inr v155)
  ))

noncomputable def spec_l02Number_g (v155 : Nat) : Option ((Unit) ⊕ (Nat)) := (spec_l02Number_T v155).run
def spec_l02Number_enc (v155 : Nat) (y : (Unit) ⊕ (Nat)) : Rs := (match y with | .inl y => (.tup [.flt .f32 (0 : Nat), .lit false], []) | .inr y => (.tup [.flt .f32 y, .lit true], []))
theorem spec_l02Number_den (v155 : Nat) : (den TT (tabD spec_l02Number_tab) (tabM spec_l02Number_tab) (spec_l02Number_LO v155) (codeOf Try.f134) ([.flt .f32 v155] ++ List.replicate (Try.f134.ntmps - ([.flt .f32 v155] : List DV).length) .undef) []).bind (retD TT Try.f134.results.toList 0) = (spec_l02Number_T v155).bind fun y => .leaf (spec_l02Number_enc v155 y) := by kernel_rfl
theorem spec_l02Number_fn (v155 : Nat) (F : Fr) (hm : F.ids.length = 0) (h0 : St F [] F.H0) (hA : DVs.Ok F [] [.flt .f32 v155]) {y : (Unit) ⊕ (Nat)} (hy : spec_l02Number_g v155 = some y) : ∃ H', FnOk Try.prog 134 (DVs.av F [.flt .f32 v155]) F.H0 ((spec_l02Number_enc v155 y).1.av F) H' ∧ St F (spec_l02Number_enc v155 y).2 H' ∧ (spec_l02Number_enc v155 y).1.Ok F (spec_l02Number_enc v155 y).2 :=
  fn_fin tok spec_l02Number_hO mixed Try.func134 Try.call134 (by kernel_rfl) (LoopsOk_eq (l := []) (by kernel_rfl) trivial) (spec_l02Number_den v155) hy hm h0 hA
def spec_l02Number_v (v155 : Nat) : (Unit) ⊕ (Nat) :=
  if (!(spec_l01Finite_v v155)) = true then (
   .inl ()
  ) else (
   .inr v155
  )
theorem spec_l02Number_tot (v155 : Nat) : spec_l02Number_g v155 = some (spec_l02Number_v v155) := by
  unfold spec_l02Number_g spec_l02Number_T spec_l02Number_v
  simp only [Tree.run]
  repeat' (first | rfl | split)
noncomputable def spec_l02Number_F : DFn := fun args L =>
  match args with
  | [.flt .f32 v155] =>
    .sum (spec_l02Number_v v155) (fun y0 => .leaf (.tup [.flt .f32 (0 : Nat), .lit false], L)) (fun z0 => .leaf (.tup [.flt .f32 z0, .lit true], L))
  | _ => .fail
theorem spec_l02Number_Fok : COk Try.prog 134 spec_l02Number_F true := by
  intro F L H args r L' hs ha hr
  unfold spec_l02Number_F at hr
  split at hr
  · rename_i v155
    have hy := spec_l02Number_tot v155
    generalize spec_l02Number_v v155 = y at hy hr
    cases y with
    | inl y =>
      simp only [Tree.run, Option.some.injEq, Prod.mk.injEq] at hr
      obtain ⟨rfl, rfl⟩ := hr
      exact call_ok0 hs (fun k => (([] : List AV)[k]?).getD .top) [.flt .f32 v155] [.flt .f32 v155] (fun F' h0 hi hρ => ⟨by simp [DVs.av, DV.av, BR.av, hρ], spec_l02Number_fn v155 F' (by rw [hi]; rfl) (st_nil hi) ⟨trivial, trivial⟩ hy⟩) rfl
    | inr y =>
      simp only [Tree.run, Option.some.injEq, Prod.mk.injEq] at hr
      obtain ⟨rfl, rfl⟩ := hr
      exact call_ok0 hs (fun k => (([] : List AV)[k]?).getD .top) [.flt .f32 v155] [.flt .f32 v155] (fun F' h0 hi hρ => ⟨by simp [DVs.av, DV.av, BR.av, hρ], spec_l02Number_fn v155 F' (by rw [hi]; rfl) (st_nil hi) ⟨trivial, trivial⟩ hy⟩) rfl
  · cases hr
/-! spec.RayleighOf -/
noncomputable def spec_RayleighOf_LO (v145 : Int) (v146 : Int) (v147 : List Nat) (v148 : List Nat) : LOr := fun id e L =>
  match id with
  | _ => .fail
noncomputable def spec_RayleighOf_tab : List (FuncId × DFn × Bool) := [(45, spec_l02Square_F, true), (79, spec_TimesVector_F, true), (133, spec_l02Dot_F, true), (134, spec_l02Number_F, true)]
theorem spec_RayleighOf_hO : OrcOk Try.prog (tabD spec_RayleighOf_tab) (tabM spec_RayleighOf_tab) := tabD_cons spec_l02Square_Fok (tabD_cons spec_TimesVector_Fok (tabD_cons spec_l02Dot_Fok (tabD_cons spec_l02Number_Fok (tabD_nil _))))
noncomputable def spec_RayleighOf_T (v145 : Int) (v146 : Int) (v147 : List Nat) (v148 : List Nat) : Tree ((Unit) ⊕ (Nat)) :=
  (.call (spec_l02Square_g v145 v146 v147) fun v149 =>
  (.br (!v149) (
   .leaf (.inl ())
  ) (
   (.call (spec_TimesVector_g v145 v146 v147 v148) fun v150 =>
   (.sum v150 (fun v151 =>
    .leaf (.inl ())
   ) (fun v152 =>
    (.call (spec_l02Dot_g v148 v148) fun v153 =>
    (.br (feq .f32 v153 (0 : Nat)) (
     .leaf (.inl ())
    ) (
     (.call (spec_l02Dot_g v148 v152) fun v154 =>
     (.sum (spec_l02Number_v (fdiv .f32 v154 v153)) (fun v156 =>
      .leaf (.inl ())
     ) (fun v157 =>
      .leaf (.inr v157)
     )))
    )))
   )))
  )))

noncomputable def spec_RayleighOf_g (v145 : Int) (v146 : Int) (v147 : List Nat) (v148 : List Nat) : Option ((Unit) ⊕ (Nat)) := (spec_RayleighOf_T v145 v146 v147 v148).run
def spec_RayleighOf_enc (v145 : Int) (v146 : Int) (v147 : List Nat) (v148 : List Nat) (y : (Unit) ⊕ (Nat)) : Rs := (match y with | .inl y => (.tup [.flt .f32 (0 : Nat), .lit false], []) | .inr y => (.tup [.flt .f32 y, .lit true], []))
theorem spec_RayleighOf_den (v145 : Int) (v146 : Int) (v147 : List Nat) (v148 : List Nat) : (den TT (tabD spec_RayleighOf_tab) (tabM spec_RayleighOf_tab) (spec_RayleighOf_LO v145 v146 v147 v148) (codeOf Try.f80) ([.agg [.int .i64 v145, .int .i64 v146, .bslc (BR.root 0) (.f32 v147)], .bslc (BR.root 1) (.f32 v148)] ++ List.replicate (Try.f80.ntmps - ([.agg [.int .i64 v145, .int .i64 v146, .bslc (BR.root 0) (.f32 v147)], .bslc (BR.root 1) (.f32 v148)] : List DV).length) .undef) []).bind (retD TT Try.f80.results.toList 0) = (spec_RayleighOf_T v145 v146 v147 v148).bind fun y => .leaf (spec_RayleighOf_enc v145 v146 v147 v148 y) := by kernel_rfl
theorem spec_RayleighOf_fn (v145 : Int) (v146 : Int) (v147 : List Nat) (v148 : List Nat) (F : Fr) (hm : F.ids.length = 0) (h0 : St F [] F.H0) (hA : DVs.Ok F [] [.agg [.int .i64 v145, .int .i64 v146, .bslc (BR.root 0) (.f32 v147)], .bslc (BR.root 1) (.f32 v148)]) {y : (Unit) ⊕ (Nat)} (hy : spec_RayleighOf_g v145 v146 v147 v148 = some y) : ∃ H', FnOk Try.prog 80 (DVs.av F [.agg [.int .i64 v145, .int .i64 v146, .bslc (BR.root 0) (.f32 v147)], .bslc (BR.root 1) (.f32 v148)]) F.H0 ((spec_RayleighOf_enc v145 v146 v147 v148 y).1.av F) H' ∧ St F (spec_RayleighOf_enc v145 v146 v147 v148 y).2 H' ∧ (spec_RayleighOf_enc v145 v146 v147 v148 y).1.Ok F (spec_RayleighOf_enc v145 v146 v147 v148 y).2 :=
  fn_fin tok spec_RayleighOf_hO mixed Try.func80 Try.call80 (by kernel_rfl) (LoopsOk_eq (l := []) (by kernel_rfl) trivial) (spec_RayleighOf_den v145 v146 v147 v148) hy hm h0 hA
noncomputable def spec_RayleighOf_F : DFn := fun args L =>
  match args with
  | [.agg [.int .i64 v145, .int .i64 v146, a1], a2] =>
    optT (rowF32 L a1) fun v147 =>
    optT (rowF32 L a2) fun v148 =>
    .call (spec_RayleighOf_g v145 v146 v147 v148) fun y => .sum y (fun y0 => .leaf (.tup [.flt .f32 (0 : Nat), .lit false], L)) (fun z0 => .leaf (.tup [.flt .f32 z0, .lit true], L))
  | _ => .fail
theorem spec_RayleighOf_Fok : COk Try.prog 80 spec_RayleighOf_F true := by
  intro F L H args r L' hs ha hr
  unfold spec_RayleighOf_F at hr
  split at hr
  · rename_i v145 v146 a1 a2
    obtain ⟨v147, hv147, hr⟩ := optT_run hr
    obtain ⟨v148, hv148, hr⟩ := optT_run hr
    simp only [Tree.run] at hr
    obtain ⟨y, hy, hr⟩ := Option.bind_eq_some_iff.1 hr
    cases y with
    | inl y =>
      simp only [Tree.run, Option.some.injEq, Prod.mk.injEq] at hr
      obtain ⟨rfl, rfl⟩ := hr
      exact call_ok0 hs (fun k => (([a1.av F, a2.av F] : List AV)[k]?).getD .top) [.agg [.int .i64 v145, .int .i64 v146, a1], a2] [.agg [.int .i64 v145, .int .i64 v146, .bslc (BR.root 0) (.f32 v147)], .bslc (BR.root 1) (.f32 v148)] (fun F' h0 hi hρ => ⟨by simp [DVs.av, DV.av, BR.av, hρ], spec_RayleighOf_fn v145 v146 v147 v148 F' (by rw [hi]; rfl) (st_nil hi) ⟨⟨trivial, trivial, bslc_ok hi (by rw [h0, hρ]; exact rowF32_ok hs (DVs.okAt (DVs.okAt ha 0 rfl) 2 rfl) hv147), trivial⟩, bslc_ok hi (by rw [h0, hρ]; exact rowF32_ok hs (DVs.okAt ha 1 rfl) hv148), trivial⟩ hy⟩) rfl
    | inr y =>
      simp only [Tree.run, Option.some.injEq, Prod.mk.injEq] at hr
      obtain ⟨rfl, rfl⟩ := hr
      exact call_ok0 hs (fun k => (([a1.av F, a2.av F] : List AV)[k]?).getD .top) [.agg [.int .i64 v145, .int .i64 v146, a1], a2] [.agg [.int .i64 v145, .int .i64 v146, .bslc (BR.root 0) (.f32 v147)], .bslc (BR.root 1) (.f32 v148)] (fun F' h0 hi hρ => ⟨by simp [DVs.av, DV.av, BR.av, hρ], spec_RayleighOf_fn v145 v146 v147 v148 F' (by rw [hi]; rfl) (st_nil hi) ⟨⟨trivial, trivial, bslc_ok hi (by rw [h0, hρ]; exact rowF32_ok hs (DVs.okAt (DVs.okAt ha 0 rfl) 2 rfl) hv147), trivial⟩, bslc_ok hi (by rw [h0, hρ]; exact rowF32_ok hs (DVs.okAt ha 1 rfl) hv148), trivial⟩ hy⟩) rfl
  · cases hr
/-! spec.PowerRounds -/
noncomputable def spec_PowerRounds_l0_T (v25 : Int) (v26 : Int) (v27 : List Nat) (v29 : Int) (s : Int × (List Nat)) : Tree ((Int × (List Nat)) ⊕ ((Unit) ⊕ ((List Nat)))) :=
  (.br (decide (s.1 < v29)) (
   (.call (spec_TimesVector_g v25 v26 v27 s.2) fun v136 =>
   (.sum v136 (fun v137 =>
    .leaf (.inr (.inl ()))
   ) (fun v138 =>
    (.call (spec_UnitVector_g v138) fun v139 =>
    (.sum v139 (fun v140 =>
     .leaf (.inr (.inl ()))
    ) (fun v141 =>
     .leaf (.inl (IntKind.i64.wrap (s.1 + (1 : Int)), v141))
    )))
   )))
  ) (
   .leaf (.inr (.inr s.2))
  ))

noncomputable def spec_PowerRounds_l0_g (v25 : Int) (v26 : Int) (v27 : List Nat) (v29 : Int) (s0 : Int × (List Nat)) : Option ((Unit) ⊕ ((List Nat))) := whileM (fun s => (spec_PowerRounds_l0_T v25 v26 v27 v29 s).run) s0
def spec_PowerRounds_l0_E (v25 : Int) (v26 : Int) (v27 : List Nat) (v28 : List Nat) (v29 : Int) (s : Int × (List Nat)) : Sd := ([.top, .top, .int .i64 v29, .ptr 0 (0 : Nat) 0 (3 : Nat), .top, .top, .top, .top, .top, .own 1 0 ((s.2).length), .top, .int .i64 s.1, .top, .top, .top, .top, .top, .top, .top, .top, .top, .top, .top, .top, .top, .top, .top, .top, .top, .top, .top, .top, .top, .top, .top, .top, .top, .top, .top, .top, .top, .top, .top, .top, .top, .top, .top, .top, .top, .top, .top, .top, .top, .top, .top, .top, .top, .top, .top, .top, .top, .top, .top, .top, .top, .top, .top, .top, .top, .top, .top, .top, .top, .top], [.gen [.int .i64 v25, .int .i64 v26, .bslc (BR.root 0) (.f32 v27)] false 0, .row (.f32 s.2) 0])
def spec_PowerRounds_l0_X (v25 : Int) (v26 : Int) (v27 : List Nat) (v28 : List Nat) (v29 : Int) (x : (Unit) ⊕ ((List Nat))) : Out := (match x with | .inl x => (.ret, [.top, .top, .top, .top, .top, .top, .nilslc, .flt .f32 (0 : Nat), .lit false, .top, .top, .top, .top, .top, .top, .top, .top, .top, .top, .top, .top, .top, .top, .top, .top, .top, .top, .top, .top, .top, .top, .top, .top, .top, .top, .top, .top, .top, .top, .top, .top, .top, .top, .top, .top, .top, .top, .top, .top, .top, .top, .top, .top, .top, .top, .top, .top, .top, .top, .top, .top, .top, .top, .top, .top, .top, .top, .top, .top, .top, .top, .top, .top, .top], []) | .inr x => (.normal, [.top, .top, .top, .ptr 0 (0 : Nat) 0 (3 : Nat), .top, .top, .top, .top, .top, .own 1 0 ((x).length), .top, .top, .top, .top, .top, .top, .top, .top, .top, .top, .top, .top, .top, .top, .top, .top, .top, .top, .top, .top, .top, .top, .top, .top, .top, .top, .top, .top, .top, .top, .top, .top, .top, .top, .top, .top, .top, .top, .top, .top, .top, .top, .top, .top, .top, .top, .top, .top, .top, .top, .top, .top, .top, .top, .top, .top, .top, .top, .top, .top, .top, .top, .top, .top], [.gen [.int .i64 v25, .int .i64 v26, .bslc (BR.root 0) (.f32 v27)] false 0, .row (.f32 x) 0]))
def spec_PowerRounds_l0_kill : List Nat := [1, 1, 0, 0, 1, 1, 1, 1, 1, 0, 1, 0, 1, 1, 1, 1, 1, 1, 1, 1, 1, 1, 1, 1, 1, 1, 1, 1, 1, 1, 1, 1, 1, 1, 1, 1, 1, 1, 1, 1, 1, 1, 1, 1, 1, 1, 1, 1, 1, 1, 1, 1, 1, 1, 1, 1, 1, 1, 1, 1, 1, 1, 1, 1, 1, 1, 1, 1, 1, 1, 1, 1, 1, 1]
def spec_PowerRounds_l0_nx : Exit → List Nat
  | .exit 0 => [1, 1, 1, 0, 1, 1, 1, 1, 1, 0, 1, 1, 1, 1, 1, 1, 1, 1, 1, 1, 1, 1, 1, 1, 1, 1, 1, 1, 1, 1, 1, 1, 1, 1, 1, 1, 1, 1, 1, 1, 1, 1, 1, 1, 1, 1, 1, 1, 1, 1, 1, 1, 1, 1, 1, 1, 1, 1, 1, 1, 1, 1, 1, 1, 1, 1, 1, 1, 1, 1, 1, 1, 1, 1]
  | .ret => [1, 1, 1, 1, 1, 1, 0, 0, 0, 1, 1, 1, 1, 1, 1, 1, 1, 1, 1, 1, 1, 1, 1, 1, 1, 1, 1, 1, 1, 1, 1, 1, 1, 1, 1, 1, 1, 1, 1, 1, 1, 1, 1, 1, 1, 1, 1, 1, 1, 1, 1, 1, 1, 1, 1, 1, 1, 1, 1, 1, 1, 1, 1, 1, 1, 1, 1, 1, 1, 1, 1, 1, 1, 1]
  | _ => []
noncomputable def spec_PowerRounds_LO (v25 : Int) (v26 : Int) (v27 : List Nat) (v28 : List Nat) (v29 : Int) : LOr := fun id e L =>
  match id with
  | 0 => .need (normA 0 spec_PowerRounds_l0_kill e L = some (spec_PowerRounds_l0_E v25 v26 v27 v28 v29 ((gI (vAt e 11)), (gRF L (vAt e 9))))) (.call (spec_PowerRounds_l0_g v25 v26 v27 v29 ((gI (vAt e 11)), (gRF L (vAt e 9)))) fun x => .sum x (fun b0 => .leaf (spec_PowerRounds_l0_X v25 v26 v27 v28 v29 (.inl b0))) (fun c0 => .leaf (spec_PowerRounds_l0_X v25 v26 v27 v28 v29 (.inr c0))))
  | _ => .fail
noncomputable def spec_PowerRounds_tab : List (FuncId × DFn × Bool) := [(45, spec_l02Square_F, true), (76, spec_l02Vector_F, true), (77, spec_l04Rounds_F, true), (78, spec_UnitVector_F, true), (79, spec_TimesVector_F, true), (80, spec_RayleighOf_F, true)]
theorem spec_PowerRounds_hO : OrcOk Try.prog (tabD spec_PowerRounds_tab) (tabM spec_PowerRounds_tab) := tabD_cons spec_l02Square_Fok (tabD_cons spec_l02Vector_Fok (tabD_cons spec_l04Rounds_Fok (tabD_cons spec_UnitVector_Fok (tabD_cons spec_TimesVector_Fok (tabD_cons spec_RayleighOf_Fok (tabD_nil _))))))
theorem spec_PowerRounds_l0_be (v25 : Int) (v26 : Int) (v27 : List Nat) (v28 : List Nat) (v29 : Int) (s : Int × (List Nat)) : bodyT TT (tabD spec_PowerRounds_tab) (tabM spec_PowerRounds_tab) (spec_PowerRounds_LO v25 v26 v27 v28 v29) 0 spec_PowerRounds_l0_kill spec_PowerRounds_l0_nx (bodyOf Try.f30 0) 0 (spec_PowerRounds_l0_E v25 v26 v27 v28 v29 s) = (spec_PowerRounds_l0_T v25 v26 v27 v29 s).bind fun y => .leaf (outS (spec_PowerRounds_l0_E v25 v26 v27 v28 v29) (spec_PowerRounds_l0_X v25 v26 v27 v28 v29) y) := by kernel_rfl
theorem spec_PowerRounds_l0_ok (v25 : Int) (v26 : Int) (v27 : List Nat) (v28 : List Nat) (v29 : Int) : LSound Try.prog 0 (spec_PowerRounds_LO v25 v26 v27 v28 v29) 0 (bodyOf Try.f30 0) := by
  intro e L out h
  exact lo_ok (E := spec_PowerRounds_l0_E v25 v26 v27 v28 v29) (gT := spec_PowerRounds_l0_T v25 v26 v27 v29) (X := spec_PowerRounds_l0_X v25 v26 v27 v28 v29) (s0 := ((gI (vAt e 11)), (gRF L (vAt e 9)))) tok spec_PowerRounds_hO mixed (LoopsOk_eq (l := []) (by kernel_rfl) trivial) (spec_PowerRounds_l0_be v25 v26 v27 v28 v29) rfl (by intro x; (cases x with | inl b => rfl | inr x => exact rfl)) h
noncomputable def spec_PowerRounds_T (v25 : Int) (v26 : Int) (v27 : List Nat) (v28 : List Nat) (v29 : Int) : Tree ((Unit) ⊕ (Nat × (List Nat))) :=
  (.call (spec_l02Square_g v25 v26 v27) fun v51 =>
  (.br (!v51) (
   .leaf (.inl ())
  ) (
   (.call (spec_l02Vector_g v28) fun v54 =>
   (.br (!v54) (
    .leaf (.inl ())
   ) (
    (.br (!decide (((v28.length : Nat) : Int) = v25)) (
     .leaf (.inl ())
    ) (
     (.br (!(spec_l04Rounds_v v29)) (
      .leaf (.inl ())
     ) (
      (.call (spec_UnitVector_g v28) fun v92 =>
      (.sum v92 (fun v93 =>
       .leaf (.inl ())
      ) (fun v94 =>
       (.need (some (spec_PowerRounds_l0_E v25 v26 v27 v28 v29 ((0 : Int), v94)) = some (spec_PowerRounds_l0_E v25 v26 v27 v28 v29 ((0 : Int), v94))) <|
       (.call (spec_PowerRounds_l0_g v25 v26 v27 v29 ((0 : Int), v94)) fun v142 =>
       (.sum v142 (fun v143 =>
        .leaf (.inl ())
       ) (fun v144 =>
        (.call (spec_RayleighOf_g v25 v26 v27 v144) fun v158 =>
        (.sum v158 (fun v159 =>
         .leaf (.inl ())
        ) (fun v160 =>
         .leaf (.inr (v160, v144))
        )))
       ))))
      )))
     ))
    ))
   )))
  )))

noncomputable def spec_PowerRounds_g (v25 : Int) (v26 : Int) (v27 : List Nat) (v28 : List Nat) (v29 : Int) : Option ((Unit) ⊕ (Nat × (List Nat))) := (spec_PowerRounds_T v25 v26 v27 v28 v29).run
def spec_PowerRounds_enc (v25 : Int) (v26 : Int) (v27 : List Nat) (v28 : List Nat) (v29 : Int) (y : (Unit) ⊕ (Nat × (List Nat))) : Rs := (match y with | .inl y => (.tup [.nilslc, .flt .f32 (0 : Nat), .lit false], []) | .inr y => (.tup [.own 0 0 ((y.2).length), .flt .f32 y.1, .lit true], [.row (.f32 y.2) 0]))
theorem spec_PowerRounds_den (v25 : Int) (v26 : Int) (v27 : List Nat) (v28 : List Nat) (v29 : Int) : (den TT (tabD spec_PowerRounds_tab) (tabM spec_PowerRounds_tab) (spec_PowerRounds_LO v25 v26 v27 v28 v29) (codeOf Try.f30) ([.agg [.int .i64 v25, .int .i64 v26, .bslc (BR.root 0) (.f32 v27)], .bslc (BR.root 1) (.f32 v28), .int .i64 v29] ++ List.replicate (Try.f30.ntmps - ([.agg [.int .i64 v25, .int .i64 v26, .bslc (BR.root 0) (.f32 v27)], .bslc (BR.root 1) (.f32 v28), .int .i64 v29] : List DV).length) .undef) []).bind (retD TT Try.f30.results.toList 0) = (spec_PowerRounds_T v25 v26 v27 v28 v29).bind fun y => .leaf (spec_PowerRounds_enc v25 v26 v27 v28 v29 y) := by kernel_rfl
theorem spec_PowerRounds_fn (v25 : Int) (v26 : Int) (v27 : List Nat) (v28 : List Nat) (v29 : Int) (F : Fr) (hm : F.ids.length = 0) (h0 : St F [] F.H0) (hA : DVs.Ok F [] [.agg [.int .i64 v25, .int .i64 v26, .bslc (BR.root 0) (.f32 v27)], .bslc (BR.root 1) (.f32 v28), .int .i64 v29]) {y : (Unit) ⊕ (Nat × (List Nat))} (hy : spec_PowerRounds_g v25 v26 v27 v28 v29 = some y) : ∃ H', FnOk Try.prog 30 (DVs.av F [.agg [.int .i64 v25, .int .i64 v26, .bslc (BR.root 0) (.f32 v27)], .bslc (BR.root 1) (.f32 v28), .int .i64 v29]) F.H0 ((spec_PowerRounds_enc v25 v26 v27 v28 v29 y).1.av F) H' ∧ St F (spec_PowerRounds_enc v25 v26 v27 v28 v29 y).2 H' ∧ (spec_PowerRounds_enc v25 v26 v27 v28 v29 y).1.Ok F (spec_PowerRounds_enc v25 v26 v27 v28 v29 y).2 :=
  fn_fin tok spec_PowerRounds_hO mixed Try.func30 Try.call30 (by kernel_rfl) (LoopsOk_eq (l := [(0, bodyOf Try.f30 0)]) (by kernel_rfl) ⟨spec_PowerRounds_l0_ok v25 v26 v27 v28 v29, trivial⟩) (spec_PowerRounds_den v25 v26 v27 v28 v29) hy hm h0 hA
noncomputable def spec_PowerRounds_F : DFn := fun args L =>
  match args with
  | [.agg [.int .i64 v25, .int .i64 v26, a1], a2, .int .i64 v29] =>
    optT (rowF32 L a1) fun v27 =>
    optT (rowF32 L a2) fun v28 =>
    .call (spec_PowerRounds_g v25 v26 v27 v28 v29) fun y => .sum y (fun y0 => .leaf (.tup [.nilslc, .flt .f32 (0 : Nat), .lit false], L)) (fun z0 => .leaf (.tup [.own (L.length + 0) 0 ((z0.2).length), .flt .f32 z0.1, .lit true], L ++ [.row (.f32 z0.2) 0]))
  | _ => .fail
theorem spec_PowerRounds_Fok : COk Try.prog 30 spec_PowerRounds_F true := by
  intro F L H args r L' hs ha hr
  unfold spec_PowerRounds_F at hr
  split at hr
  · rename_i v25 v26 a1 a2 v29
    obtain ⟨v27, hv27, hr⟩ := optT_run hr
    obtain ⟨v28, hv28, hr⟩ := optT_run hr
    simp only [Tree.run] at hr
    obtain ⟨y, hy, hr⟩ := Option.bind_eq_some_iff.1 hr
    cases y with
    | inl y =>
      simp only [Tree.run, Option.some.injEq, Prod.mk.injEq] at hr
      obtain ⟨rfl, rfl⟩ := hr
      exact call_ok0 hs (fun k => (([a1.av F, a2.av F] : List AV)[k]?).getD .top) [.agg [.int .i64 v25, .int .i64 v26, a1], a2, .int .i64 v29] [.agg [.int .i64 v25, .int .i64 v26, .bslc (BR.root 0) (.f32 v27)], .bslc (BR.root 1) (.f32 v28), .int .i64 v29] (fun F' h0 hi hρ => ⟨by simp [DVs.av, DV.av, BR.av, hρ], spec_PowerRounds_fn v25 v26 v27 v28 v29 F' (by rw [hi]; rfl) (st_nil hi) ⟨⟨trivial, trivial, bslc_ok hi (by rw [h0, hρ]; exact rowF32_ok hs (DVs.okAt (DVs.okAt ha 0 rfl) 2 rfl) hv27), trivial⟩, bslc_ok hi (by rw [h0, hρ]; exact rowF32_ok hs (DVs.okAt ha 1 rfl) hv28), trivial, trivial⟩ hy⟩) rfl
    | inr y =>
      simp only [Tree.run, Option.some.injEq, Prod.mk.injEq] at hr
      obtain ⟨rfl, rfl⟩ := hr
      exact call_ok1 hs (fun k => (([a1.av F, a2.av F] : List AV)[k]?).getD .top) [.agg [.int .i64 v25, .int .i64 v26, a1], a2, .int .i64 v29] [.agg [.int .i64 v25, .int .i64 v26, .bslc (BR.root 0) (.f32 v27)], .bslc (BR.root 1) (.f32 v28), .int .i64 v29] (fun F' h0 hi hρ => ⟨by simp [DVs.av, DV.av, BR.av, hρ], spec_PowerRounds_fn v25 v26 v27 v28 v29 F' (by rw [hi]; rfl) (st_nil hi) ⟨⟨trivial, trivial, bslc_ok hi (by rw [h0, hρ]; exact rowF32_ok hs (DVs.okAt (DVs.okAt ha 0 rfl) 2 rfl) hv27), trivial⟩, bslc_ok hi (by rw [h0, hρ]; exact rowF32_ok hs (DVs.okAt ha 1 rfl) hv28), trivial, trivial⟩ hy⟩) rfl rfl
  · cases hr
/-! impl.inRange -/
noncomputable def impl_inRange_LO (v178 : Int) (v179 : Int) (v180 : Int) : LOr := fun id e L =>
  match id with
  | _ => .fail
noncomputable def impl_inRange_tab : List (FuncId × DFn × Bool) := []
theorem impl_inRange_hO : OrcOk Try.prog (tabD impl_inRange_tab) (tabM impl_inRange_tab) := tabD_nil _
noncomputable def impl_inRange_T (v178 : Int) (v179 : Int) (v180 : Int) : Tree (Bool) :=
  (.br (decide (v179 ≤ v178)) (
   .leaf (decide (v178 ≤ v180))
  ) (
   .leaf false
  ))

noncomputable def impl_inRange_g (v178 : Int) (v179 : Int) (v180 : Int) : Option (Bool) := (impl_inRange_T v178 v179 v180).run
def impl_inRange_enc (v178 : Int) (v179 : Int) (v180 : Int) (y : Bool) : Rs := (.bool y, [])
theorem impl_inRange_den (v178 : Int) (v179 : Int) (v180 : Int) : (den TT (tabD impl_inRange_tab) (tabM impl_inRange_tab) (impl_inRange_LO v178 v179 v180) (codeOf Try.f94) ([.int .i64 v178, .int .i64 v179, .int .i64 v180] ++ List.replicate (Try.f94.ntmps - ([.int .i64 v178, .int .i64 v179, .int .i64 v180] : List DV).length) .undef) []).bind (retD TT Try.f94.results.toList 0) = (impl_inRange_T v178 v179 v180).bind fun y => .leaf (impl_inRange_enc v178 v179 v180 y) := by kernel_rfl
theorem impl_inRange_fn (v178 : Int) (v179 : Int) (v180 : Int) (F : Fr) (hm : F.ids.length = 0) (h0 : St F [] F.H0) (hA : DVs.Ok F [] [.int .i64 v178, .int .i64 v179, .int .i64 v180]) {y : Bool} (hy : impl_inRange_g v178 v179 v180 = some y) : ∃ H', FnOk Try.prog 94 (DVs.av F [.int .i64 v178, .int .i64 v179, .int .i64 v180]) F.H0 ((impl_inRange_enc v178 v179 v180 y).1.av F) H' ∧ St F (impl_inRange_enc v178 v179 v180 y).2 H' ∧ (impl_inRange_enc v178 v179 v180 y).1.Ok F (impl_inRange_enc v178 v179 v180 y).2 :=
  fn_fin tok impl_inRange_hO mixed Try.func94 Try.call94 (by kernel_rfl) (LoopsOk_eq (l := []) (by kernel_rfl) trivial) (impl_inRange_den v178 v179 v180) hy hm h0 hA
def impl_inRange_v (v178 : Int) (v179 : Int) (v180 : Int) : Bool :=
  if (decide (v179 ≤ v178)) = true then (
   decide (v178 ≤ v180)
  ) else (
   false
  )
theorem impl_inRange_tot (v178 : Int) (v179 : Int) (v180 : Int) : impl_inRange_g v178 v179 v180 = some (impl_inRange_v v178 v179 v180) := by
  unfold impl_inRange_g impl_inRange_T impl_inRange_v
  simp only [Tree.run]
  repeat' (first | rfl | split)
noncomputable def impl_inRange_F : DFn := fun args L =>
  match args with
  | [.int .i64 v178, .int .i64 v179, .int .i64 v180] =>
    .leaf (.bool (impl_inRange_v v178 v179 v180), L)
  | _ => .fail
theorem impl_inRange_Fok : COk Try.prog 94 impl_inRange_F true := by
  intro F L H args r L' hs ha hr
  unfold impl_inRange_F at hr
  split at hr
  · rename_i v178 v179 v180
    have hy := impl_inRange_tot v178 v179 v180
    generalize impl_inRange_v v178 v179 v180 = y at hy hr
    simp only [Tree.run, Option.some.injEq, Prod.mk.injEq] at hr
    obtain ⟨rfl, rfl⟩ := hr
    exact call_ok0 hs (fun k => (([] : List AV)[k]?).getD .top) [.int .i64 v178, .int .i64 v179, .int .i64 v180] [.int .i64 v178, .int .i64 v179, .int .i64 v180] (fun F' h0 hi hρ => ⟨by simp [DVs.av, DV.av, BR.av, hρ], impl_inRange_fn v178 v179 v180 F' (by rw [hi]; rfl) (st_nil hi) ⟨trivial, trivial, trivial, trivial⟩ hy⟩) rfl
  · cases hr
/-! impl.isSide -/
noncomputable def impl_isSide_LO (v177 : Int) : LOr := fun id e L =>
  match id with
  | _ => .fail
noncomputable def impl_isSide_tab : List (FuncId × DFn × Bool) := [(94, impl_inRange_F, true)]
theorem impl_isSide_hO : OrcOk Try.prog (tabD impl_isSide_tab) (tabM impl_isSide_tab) := tabD_cons impl_inRange_Fok (tabD_nil _)
noncomputable def impl_isSide_T (v177 : Int) : Tree (Bool) :=
  .leaf (impl_inRange_v v177 (1 : Int) (12 : Int))

noncomputable def impl_isSide_g (v177 : Int) : Option (Bool) := (impl_isSide_T v177).run
def impl_isSide_enc (v177 : Int) (y : Bool) : Rs := (.bool y, [])
theorem impl_isSide_den (v177 : Int) : (den TT (tabD impl_isSide_tab) (tabM impl_isSide_tab) (impl_isSide_LO v177) (codeOf Try.f146) ([.int .i64 v177] ++ List.replicate (Try.f146.ntmps - ([.int .i64 v177] : List DV).length) .undef) []).bind (retD TT Try.f146.results.toList 0) = (impl_isSide_T v177).bind fun y => .leaf (impl_isSide_enc v177 y) := by kernel_rfl
theorem impl_isSide_fn (v177 : Int) (F : Fr) (hm : F.ids.length = 0) (h0 : St F [] F.H0) (hA : DVs.Ok F [] [.int .i64 v177]) {y : Bool} (hy : impl_isSide_g v177 = some y) : ∃ H', FnOk Try.prog 146 (DVs.av F [.int .i64 v177]) F.H0 ((impl_isSide_enc v177 y).1.av F) H' ∧ St F (impl_isSide_enc v177 y).2 H' ∧ (impl_isSide_enc v177 y).1.Ok F (impl_isSide_enc v177 y).2 :=
  fn_fin tok impl_isSide_hO mixed Try.func146 Try.call146 (by kernel_rfl) (LoopsOk_eq (l := []) (by kernel_rfl) trivial) (impl_isSide_den v177) hy hm h0 hA
def impl_isSide_v (v177 : Int) : Bool :=
  (impl_inRange_v v177 (1 : Int) (12 : Int))
theorem impl_isSide_tot (v177 : Int) : impl_isSide_g v177 = some (impl_isSide_v v177) := by
  unfold impl_isSide_g impl_isSide_T impl_isSide_v
  simp only [Tree.run]
  repeat' (first | rfl | split)
noncomputable def impl_isSide_F : DFn := fun args L =>
  match args with
  | [.int .i64 v177] =>
    .leaf (.bool (impl_isSide_v v177), L)
  | _ => .fail
theorem impl_isSide_Fok : COk Try.prog 146 impl_isSide_F true := by
  intro F L H args r L' hs ha hr
  unfold impl_isSide_F at hr
  split at hr
  · rename_i v177
    have hy := impl_isSide_tot v177
    generalize impl_isSide_v v177 = y at hy hr
    simp only [Tree.run, Option.some.injEq, Prod.mk.injEq] at hr
    obtain ⟨rfl, rfl⟩ := hr
    exact call_ok0 hs (fun k => (([] : List AV)[k]?).getD .top) [.int .i64 v177] [.int .i64 v177] (fun F' h0 hi hρ => ⟨by simp [DVs.av, DV.av, BR.av, hρ], impl_isSide_fn v177 F' (by rw [hi]; rfl) (st_nil hi) ⟨trivial, trivial⟩ hy⟩) rfl
  · cases hr
/-! impl.length[float32] -/
noncomputable def impl_lengthF_LO (v181 : List Nat) : LOr := fun id e L =>
  match id with
  | _ => .fail
noncomputable def impl_lengthF_tab : List (FuncId × DFn × Bool) := []
theorem impl_lengthF_hO : OrcOk Try.prog (tabD impl_lengthF_tab) (tabM impl_lengthF_tab) := tabD_nil _
noncomputable def impl_lengthF_T (v181 : List Nat) : Tree (Int) :=
  .leaf ((v181.length : Nat) : Int)

noncomputable def impl_lengthF_g (v181 : List Nat) : Option (Int) := (impl_lengthF_T v181).run
def impl_lengthF_enc (v181 : List Nat) (y : Int) : Rs := (.int .i64 y, [])
theorem impl_lengthF_den (v181 : List Nat) : (den TT (tabD impl_lengthF_tab) (tabM impl_lengthF_tab) (impl_lengthF_LO v181) (codeOf Try.f82) ([.bslc (BR.root 0) (.f32 v181)] ++ List.replicate (Try.f82.ntmps - ([.bslc (BR.root 0) (.f32 v181)] : List DV).length) .undef) []).bind (retD TT Try.f82.results.toList 0) = (impl_lengthF_T v181).bind fun y => .leaf (impl_lengthF_enc v181 y) := by kernel_rfl
theorem impl_lengthF_fn (v181 : List Nat) (F : Fr) (hm : F.ids.length = 0) (h0 : St F [] F.H0) (hA : DVs.Ok F [] [.bslc (BR.root 0) (.f32 v181)]) {y : Int} (hy : impl_lengthF_g v181 = some y) : ∃ H', FnOk Try.prog 82 (DVs.av F [.bslc (BR.root 0) (.f32 v181)]) F.H0 ((impl_lengthF_enc v181 y).1.av F) H' ∧ St F (impl_lengthF_enc v181 y).2 H' ∧ (impl_lengthF_enc v181 y).1.Ok F (impl_lengthF_enc v181 y).2 :=
  fn_fin tok impl_lengthF_hO mixed Try.func82 Try.call82 (by kernel_rfl) (LoopsOk_eq (l := []) (by kernel_rfl) trivial) (impl_lengthF_den v181) hy hm h0 hA
def impl_lengthF_v (v181 : List Nat) : Int :=
  ((v181.length : Nat) : Int)
theorem impl_lengthF_tot (v181 : List Nat) : impl_lengthF_g v181 = some (impl_lengthF_v v181) := by
  unfold impl_lengthF_g impl_lengthF_T impl_lengthF_v
  simp only [Tree.run]
  repeat' (first | rfl | split)
noncomputable def impl_lengthF_F : DFn := fun args L =>
  match args with
  | [a1] =>
    optT (rowF32 L a1) fun v181 =>
    .leaf (.int .i64 (impl_lengthF_v v181), L)
  | _ => .fail
theorem impl_lengthF_Fok : COk Try.prog 82 impl_lengthF_F true := by
  intro F L H args r L' hs ha hr
  unfold impl_lengthF_F at hr
  split at hr
  · rename_i a1
    obtain ⟨v181, hv181, hr⟩ := optT_run hr
    have hy := impl_lengthF_tot v181
    generalize impl_lengthF_v v181 = y at hy hr
    simp only [Tree.run, Option.some.injEq, Prod.mk.injEq] at hr
    obtain ⟨rfl, rfl⟩ := hr
    exact call_ok0 hs (fun k => (([a1.av F] : List AV)[k]?).getD .top) [a1] [.bslc (BR.root 0) (.f32 v181)] (fun F' h0 hi hρ => ⟨by simp [DVs.av, DV.av, BR.av, hρ], impl_lengthF_fn v181 F' (by rw [hi]; rfl) (st_nil hi) ⟨bslc_ok hi (by rw [h0, hρ]; exact rowF32_ok hs (DVs.okAt ha 0 rfl) hv181), trivial⟩ hy⟩) rfl
  · cases hr
/-! math.IsNaN -/
noncomputable def math_IsNaN_LO (v189 : Nat) : LOr := fun id e L =>
  match id with
  | _ => .fail
noncomputable def math_IsNaN_tab : List (FuncId × DFn × Bool) := []
theorem math_IsNaN_hO : OrcOk Try.prog (tabD math_IsNaN_tab) (tabM math_IsNaN_tab) := tabD_nil _
noncomputable def math_IsNaN_T (v189 : Nat) : Tree (Bool) :=
  .leaf (!feq .f64 v189 v189)

noncomputable def math_IsNaN_g (v189 : Nat) : Option (Bool) := (math_IsNaN_T v189).run
def math_IsNaN_enc (v189 : Nat) (y : Bool) : Rs := (.bool y, [])
theorem math_IsNaN_den (v189 : Nat) : (den TT (tabD math_IsNaN_tab) (tabM math_IsNaN_tab) (math_IsNaN_LO v189) (codeOf Try.f156) ([.flt .f64 v189] ++ List.replicate (Try.f156.ntmps - ([.flt .f64 v189] : List DV).length) .undef) []).bind (retD TT Try.f156.results.toList 0) = (math_IsNaN_T v189).bind fun y => .leaf (math_IsNaN_enc v189 y) := by kernel_rfl
theorem math_IsNaN_fn (v189 : Nat) (F : Fr) (hm : F.ids.length = 0) (h0 : St F [] F.H0) (hA : DVs.Ok F [] [.flt .f64 v189]) {y : Bool} (hy : math_IsNaN_g v189 = some y) : ∃ H', FnOk Try.prog 156 (DVs.av F [.flt .f64 v189]) F.H0 ((math_IsNaN_enc v189 y).1.av F) H' ∧ St F (math_IsNaN_enc v189 y).2 H' ∧ (math_IsNaN_enc v189 y).1.Ok F (math_IsNaN_enc v189 y).2 :=
  fn_fin tok math_IsNaN_hO mixed Try.func156 Try.call156 (by kernel_rfl) (LoopsOk_eq (l := []) (by kernel_rfl) trivial) (math_IsNaN_den v189) hy hm h0 hA
def math_IsNaN_v (v189 : Nat) : Bool :=
  !feq .f64 v189 v189
theorem math_IsNaN_tot (v189 : Nat) : math_IsNaN_g v189 = some (math_IsNaN_v v189) := by
  unfold math_IsNaN_g math_IsNaN_T math_IsNaN_v
  simp only [Tree.run]
  repeat' (first | rfl | split)
noncomputable def math_IsNaN_F : DFn := fun args L =>
  match args with
  | [.flt .f64 v189] =>
    .leaf (.bool (math_IsNaN_v v189), L)
  | _ => .fail
theorem math_IsNaN_Fok : COk Try.prog 156 math_IsNaN_F true := by
  intro F L H args r L' hs ha hr
  unfold math_IsNaN_F at hr
  split at hr
  · rename_i v189
    have hy := math_IsNaN_tot v189
    generalize math_IsNaN_v v189 = y at hy hr
    simp only [Tree.run, Option.some.injEq, Prod.mk.injEq] at hr
    obtain ⟨rfl, rfl⟩ := hr
    exact call_ok0 hs (fun k => (([] : List AV)[k]?).getD .top) [.flt .f64 v189] [.flt .f64 v189] (fun F' h0 hi hρ => ⟨by simp [DVs.av, DV.av, BR.av, hρ], math_IsNaN_fn v189 F' (by rw [hi]; rfl) (st_nil hi) ⟨trivial, trivial⟩ hy⟩) rfl
  · cases hr
/-! math.IsInf -/
noncomputable def math_IsInf_LO (v190 : Nat) (v191 : Int) : LOr := fun id e L =>
  match id with
  | _ => .fail
noncomputable def math_IsInf_tab : List (FuncId × DFn × Bool) := [(175, Abs_F, true)]
theorem math_IsInf_hO : OrcOk Try.prog (tabD math_IsInf_tab) (tabM math_IsInf_tab) := tabD_cons Abs_Fok (tabD_nil _)
noncomputable def math_IsInf_T (v190 : Nat) (v191 : Int) : Tree (Bool) :=
  (.br (decide (v191 = (0 : Int))) (
   .leaf (fgrt .f64 (fabs v190) (9218868437227405311 : Nat))
  ) (
   (.br (decide (v191 < (0 : Int))) (
    .leaf (fgrt .f64 (fneg .f64 v190) (9218868437227405311 : Nat))
   ) (
    .leaf (fgrt .f64 v190 (9218868437227405311 : Nat))
   ))
  ))

noncomputable def math_IsInf_g (v190 : Nat) (v191 : Int) : Option (Bool) := (math_IsInf_T v190 v191).run
def math_IsInf_enc (v190 : Nat) (v191 : Int) (y : Bool) : Rs := (.bool y, [])
theorem math_IsInf_den (v190 : Nat) (v191 : Int) : (den TT (tabD math_IsInf_tab) (tabM math_IsInf_tab) (math_IsInf_LO v190 v191) (codeOf Try.f157) ([.flt .f64 v190, .int .i64 v191] ++ List.replicate (Try.f157.ntmps - ([.flt .f64 v190, .int .i64 v191] : List DV).length) .undef) []).bind (retD TT Try.f157.results.toList 0) = (math_IsInf_T v190 v191).bind fun y => .leaf (math_IsInf_enc v190 v191 y) := by kernel_rfl
theorem math_IsInf_fn (v190 : Nat) (v191 : Int) (F : Fr) (hm : F.ids.length = 0) (h0 : St F [] F.H0) (hA : DVs.Ok F [] [.flt .f64 v190, .int .i64 v191]) {y : Bool} (hy : math_IsInf_g v190 v191 = some y) : ∃ H', FnOk Try.prog 157 (DVs.av F [.flt .f64 v190, .int .i64 v191]) F.H0 ((math_IsInf_enc v190 v191 y).1.av F) H' ∧ St F (math_IsInf_enc v190 v191 y).2 H' ∧ (math_IsInf_enc v190 v191 y).1.Ok F (math_IsInf_enc v190 v191 y).2 :=
  fn_fin tok math_IsInf_hO mixed Try.func157 Try.call157 (by kernel_rfl) (LoopsOk_eq (l := []) (by kernel_rfl) trivial) (math_IsInf_den v190 v191) hy hm h0 hA
def math_IsInf_v (v190 : Nat) (v191 : Int) : Bool :=
  if (decide (v191 = (0 : Int))) = true then (
   fgrt .f64 (fabs v190) (9218868437227405311 : Nat)
  ) else (
   if (decide (v191 < (0 : Int))) = true then (
    fgrt .f64 (fneg .f64 v190) (9218868437227405311 : Nat)
   ) else (
    fgrt .f64 v190 (9218868437227405311 : Nat)
   )
  )
theorem math_IsInf_tot (v190 : Nat) (v191 : Int) : math_IsInf_g v190 v191 = some (math_IsInf_v v190 v191) := by
  unfold math_IsInf_g math_IsInf_T math_IsInf_v
  simp only [Tree.run]
  repeat' (first | rfl | split)
noncomputable def math_IsInf_F : DFn := fun args L =>
  match args with
  | [.flt .f64 v190, .int .i64 v191] =>
    .leaf (.bool (math_IsInf_v v190 v191), L)
  | _ => .fail
theorem math_IsInf_Fok : COk Try.prog 157 math_IsInf_F true := by
  intro F L H args r L' hs ha hr
  unfold math_IsInf_F at hr
  split at hr
  · rename_i v190 v191
    have hy := math_IsInf_tot v190 v191
    generalize math_IsInf_v v190 v191 = y at hy hr
    simp only [Tree.run, Option.some.injEq, Prod.mk.injEq] at hr
    obtain ⟨rfl, rfl⟩ := hr
    exact call_ok0 hs (fun k => (([] : List AV)[k]?).getD .top) [.flt .f64 v190, .int .i64 v191] [.flt .f64 v190, .int .i64 v191] (fun F' h0 hi hρ => ⟨by simp [DVs.av, DV.av, BR.av, hρ], math_IsInf_fn v190 v191 F' (by rw [hi]; rfl) (st_nil hi) ⟨trivial, trivial, trivial⟩ hy⟩) rfl
  · cases hr
/-! impl.isFinite64 -/
noncomputable def impl_isFinite64_LO (v188 : Nat) : LOr := fun id e L =>
  match id with
  | _ => .fail
noncomputable def impl_isFinite64_tab : List (FuncId × DFn × Bool) := [(156, math_IsNaN_F, true), (157, math_IsInf_F, true)]
theorem impl_isFinite64_hO : OrcOk Try.prog (tabD impl_isFinite64_tab) (tabM impl_isFinite64_tab) := tabD_cons math_IsNaN_Fok (tabD_cons math_IsInf_Fok (tabD_nil _))
noncomputable def impl_isFinite64_T (v188 : Nat) : Tree (Bool) :=
  (.br (!(math_IsNaN_v v188)) (
   .leaf (!(math_IsInf_v v188 (0 : Int)))
  ) (
   .leaf false
  ))

noncomputable def impl_isFinite64_g (v188 : Nat) : Option (Bool) := (impl_isFinite64_T v188).run
def impl_isFinite64_enc (v188 : Nat) (y : Bool) : Rs := (.bool y, [])
theorem impl_isFinite64_den (v188 : Nat) : (den TT (tabD impl_isFinite64_tab) (tabM impl_isFinite64_tab) (impl_isFinite64_LO v188) (codeOf Try.f114) ([.flt .f64 v188] ++ List.replicate (Try.f114.ntmps - ([.flt .f64 v188] : List DV).length) .undef) []).bind (retD TT Try.f114.results.toList 0) = (impl_isFinite64_T v188).bind fun y => .leaf (impl_isFinite64_enc v188 y) := by kernel_rfl
theorem impl_isFinite64_fn (v188 : Nat) (F : Fr) (hm : F.ids.length = 0) (h0 : St F [] F.H0) (hA : DVs.Ok F [] [.flt .f64 v188]) {y : Bool} (hy : impl_isFinite64_g v188 = some y) : ∃ H', FnOk Try.prog 114 (DVs.av F [.flt .f64 v188]) F.H0 ((impl_isFinite64_enc v188 y).1.av F) H' ∧ St F (impl_isFinite64_enc v188 y).2 H' ∧ (impl_isFinite64_enc v188 y).1.Ok F (impl_isFinite64_enc v188 y).2 :=
  fn_fin tok impl_isFinite64_hO mixed Try.func114 Try.call114 (by kernel_rfl) (LoopsOk_eq (l := []) (by kernel_rfl) trivial) (impl_isFinite64_den v188) hy hm h0 hA
def impl_isFinite64_v (v188 : Nat) : Bool :=
  if (!(math_IsNaN_v v188)) = true then (
   !(math_IsInf_v v188 (0 : Int))
  ) else (
   false
  )
theorem impl_isFinite64_tot (v188 : Nat) : impl_isFinite64_g v188 = some (impl_isFinite64_v v188) := by
  unfold impl_isFinite64_g impl_isFinite64_T impl_isFinite64_v
  simp only [Tree.run]
  repeat' (first | rfl | split)
noncomputable def impl_isFinite64_F : DFn := fun args L =>
  match args with
  | [.flt .f64 v188] =>
    .leaf (.bool (impl_isFinite64_v v188), L)
  | _ => .fail
theorem impl_isFinite64_Fok : COk Try.prog 114 impl_isFinite64_F true := by
  intro F L H args r L' hs ha hr
  unfold impl_isFinite64_F at hr
  split at hr
  · rename_i v188
    have hy := impl_isFinite64_tot v188
    generalize impl_isFinite64_v v188 = y at hy hr
    simp only [Tree.run, Option.some.injEq, Prod.mk.injEq] at hr
    obtain ⟨rfl, rfl⟩ := hr
    exact call_ok0 hs (fun k => (([] : List AV)[k]?).getD .top) [.flt .f64 v188] [.flt .f64 v188] (fun F' h0 hi hρ => ⟨by simp [DVs.av, DV.av, BR.av, hρ], impl_isFinite64_fn v188 F' (by rw [hi]; rfl) (st_nil hi) ⟨trivial, trivial⟩ hy⟩) rfl
  · cases hr
/-! impl.IsFinite -/
noncomputable def impl_IsFinite_LO (v187 : Nat) : LOr := fun id e L =>
  match id with
  | _ => .fail
noncomputable def impl_IsFinite_tab : List (FuncId × DFn × Bool) := [(114, impl_isFinite64_F, true)]
theorem impl_IsFinite_hO : OrcOk Try.prog (tabD impl_IsFinite_tab) (tabM impl_IsFinite_tab) := tabD_cons impl_isFinite64_Fok (tabD_nil _)
noncomputable def impl_IsFinite_T (v187 : Nat) : Tree (Bool) :=
  .leaf (impl_isFinite64_v (wid v187))

noncomputable def impl_IsFinite_g (v187 : Nat) : Option (Bool) := (impl_IsFinite_T v187).run
def impl_IsFinite_enc (v187 : Nat) (y : Bool) : Rs := (.bool y, [])
theorem impl_IsFinite_den (v187 : Nat) : (den TT (tabD impl_IsFinite_tab) (tabM impl_IsFinite_tab) (impl_IsFinite_LO v187) (codeOf Try.f43) ([.flt .f32 v187] ++ List.replicate (Try.f43.ntmps - ([.flt .f32 v187] : List DV).length) .undef) []).bind (retD TT Try.f43.results.toList 0) = (impl_IsFinite_T v187).bind fun y => .leaf (impl_IsFinite_enc v187 y) := by kernel_rfl
theorem impl_IsFinite_fn (v187 : Nat) (F : Fr) (hm : F.ids.length = 0) (h0 : St F [] F.H0) (hA : DVs.Ok F [] [.flt .f32 v187]) {y : Bool} (hy : impl_IsFinite_g v187 = some y) : ∃ H', FnOk Try.prog 43 (DVs.av F [.flt .f32 v187]) F.H0 ((impl_IsFinite_enc v187 y).1.av F) H' ∧ St F (impl_IsFinite_enc v187 y).2 H' ∧ (impl_IsFinite_enc v187 y).1.Ok F (impl_IsFinite_enc v187 y).2 :=
  fn_fin tok impl_IsFinite_hO mixed Try.func43 Try.call43 (by kernel_rfl) (LoopsOk_eq (l := []) (by kernel_rfl) trivial) (impl_IsFinite_den v187) hy hm h0 hA
def impl_IsFinite_v (v187 : Nat) : Bool :=
  (impl_isFinite64_v (wid v187))
theorem impl_IsFinite_tot (v187 : Nat) : impl_IsFinite_g v187 = some (impl_IsFinite_v v187) := by
  unfold impl_IsFinite_g impl_IsFinite_T impl_IsFinite_v
  simp only [Tree.run]
  repeat' (first | rfl | split)
noncomputable def impl_IsFinite_F : DFn := fun args L =>
  match args with
  | [.flt .f32 v187] =>
    .leaf (.bool (impl_IsFinite_v v187), L)
  | _ => .fail
theorem impl_IsFinite_Fok : COk Try.prog 43 impl_IsFinite_F true := by
  intro F L H args r L' hs ha hr
  unfold impl_IsFinite_F at hr
  split at hr
  · rename_i v187
    have hy := impl_IsFinite_tot v187
    generalize impl_IsFinite_v v187 = y at hy hr
    simp only [Tree.run, Option.some.injEq, Prod.mk.injEq] at hr
    obtain ⟨rfl, rfl⟩ := hr
    exact call_ok0 hs (fun k => (([] : List AV)[k]?).getD .top) [.flt .f32 v187] [.flt .f32 v187] (fun F' h0 hi hρ => ⟨by simp [DVs.av, DV.av, BR.av, hρ], impl_IsFinite_fn v187 F' (by rw [hi]; rfl) (st_nil hi) ⟨trivial, trivial⟩ hy⟩) rfl
  · cases hr
/-! impl.areFinite$1 -/
noncomputable def impl_areFinite_1_LO (v186 : Nat) : LOr := fun id e L =>
  match id with
  | _ => .fail
noncomputable def impl_areFinite_1_tab : List (FuncId × DFn × Bool) := [(43, impl_IsFinite_F, true)]
theorem impl_areFinite_1_hO : OrcOk Try.prog (tabD impl_areFinite_1_tab) (tabM impl_areFinite_1_tab) := tabD_cons impl_IsFinite_Fok (tabD_nil _)
noncomputable def impl_areFinite_1_T (v186 : Nat) : Tree (Bool) :=
  .leaf (!(impl_IsFinite_v v186))

noncomputable def impl_areFinite_1_g (v186 : Nat) : Option (Bool) := (impl_areFinite_1_T v186).run
def impl_areFinite_1_enc (v186 : Nat) (y : Bool) : Rs := (.bool y, [])
theorem impl_areFinite_1_den (v186 : Nat) : (den TT (tabD impl_areFinite_1_tab) (tabM impl_areFinite_1_tab) (impl_areFinite_1_LO v186) (codeOf Try.f113) ([.flt .f32 v186] ++ List.replicate (Try.f113.ntmps - ([.flt .f32 v186] : List DV).length) .undef) []).bind (retD TT Try.f113.results.toList 0) = (impl_areFinite_1_T v186).bind fun y => .leaf (impl_areFinite_1_enc v186 y) := by kernel_rfl
theorem impl_areFinite_1_fn (v186 : Nat) (F : Fr) (hm : F.ids.length = 0) (h0 : St F [] F.H0) (hA : DVs.Ok F [] [.flt .f32 v186]) {y : Bool} (hy : impl_areFinite_1_g v186 = some y) : ∃ H', FnOk Try.prog 113 (DVs.av F [.flt .f32 v186]) F.H0 ((impl_areFinite_1_enc v186 y).1.av F) H' ∧ St F (impl_areFinite_1_enc v186 y).2 H' ∧ (impl_areFinite_1_enc v186 y).1.Ok F (impl_areFinite_1_enc v186 y).2 :=
  fn_fin tok impl_areFinite_1_hO mixed Try.func113 Try.call113 (by kernel_rfl) (LoopsOk_eq (l := []) (by kernel_rfl) trivial) (impl_areFinite_1_den v186) hy hm h0 hA
def impl_areFinite_1_v (v186 : Nat) : Bool :=
  !(impl_IsFinite_v v186)
theorem impl_areFinite_1_tot (v186 : Nat) : impl_areFinite_1_g v186 = some (impl_areFinite_1_v v186) := by
  unfold impl_areFinite_1_g impl_areFinite_1_T impl_areFinite_1_v
  simp only [Tree.run]
  repeat' (first | rfl | split)
noncomputable def impl_areFinite_1_F : DFn := fun args L =>
  match args with
  | [.flt .f32 v186] =>
    .leaf (.bool (impl_areFinite_1_v v186), L)
  | _ => .fail
theorem impl_areFinite_1_Fok : COk Try.prog 113 impl_areFinite_1_F true := by
  intro F L H args r L' hs ha hr
  unfold impl_areFinite_1_F at hr
  split at hr
  · rename_i v186
    have hy := impl_areFinite_1_tot v186
    generalize impl_areFinite_1_v v186 = y at hy hr
    simp only [Tree.run, Option.some.injEq, Prod.mk.injEq] at hr
    obtain ⟨rfl, rfl⟩ := hr
    exact call_ok0 hs (fun k => (([] : List AV)[k]?).getD .top) [.flt .f32 v186] [.flt .f32 v186] (fun F' h0 hi hρ => ⟨by simp [DVs.av, DV.av, BR.av, hρ], impl_areFinite_1_fn v186 F' (by rw [hi]; rfl) (st_nil hi) ⟨trivial, trivial⟩ hy⟩) rfl
  · cases hr
/-! slices.IndexFunc[list of float32,float32] -/
noncomputable def slices_IndexFuncF_l0_T (v184 : List Nat) (s : Int) : Tree ((Int) ⊕ ((Int) ⊕ (Unit))) :=
  (.br (decide (s < ((v184.length : Nat) : Int))) (
   (.grd (inb s v184.length) <|
   (.br (impl_areFinite_1_v (nth v184 (Int.toNat s))) (
    .leaf (.inr (.inl s))
   ) (
    .leaf (.inl (IntKind.i64.wrap (s + (1 : Int))))
   )))
  ) (
   .leaf (.inr (.inr ()))
  ))

noncomputable def slices_IndexFuncF_l0_g (v184 : List Nat) (s0 : Int) : Option ((Int) ⊕ (Unit)) := whileM (fun s => (slices_IndexFuncF_l0_T v184 s).run) s0
def slices_IndexFuncF_l0_E (v184 : List Nat) (s : Int) : Sd := ([.bslc (BR.root 0) (.f32 v184), .fn 113 [], .top, .top, .top, .top, .top, .int .i64 ((v184.length : Nat) : Int), .int .i64 s, .top, .top, .top, .top, .top, .top, .top, .top, .top, .top], [])
def slices_IndexFuncF_l0_X (v184 : List Nat) (x : (Int) ⊕ (Unit)) : Out := (match x with | .inl x => (.ret, [.top, .top, .top, .top, .int .i64 x, .top, .top, .top, .top, .top, .top, .top, .top, .top, .top, .top, .top, .top, .top], []) | .inr x => (.normal, [.top, .top, .top, .top, .top, .top, .top, .top, .top, .top, .top, .top, .top, .top, .top, .top, .top, .top, .top], []))
def slices_IndexFuncF_l0_kill : List Nat := [0, 0, 1, 1, 1, 1, 1, 0, 0, 1, 1, 1, 1, 1, 1, 1, 1, 1, 1]
def slices_IndexFuncF_l0_nx : Exit → List Nat
  | .exit 0 => [1, 1, 1, 1, 1, 1, 1, 1, 1, 1, 1, 1, 1, 1, 1, 1, 1, 1, 1]
  | .ret => [1, 1, 1, 1, 0, 1, 1, 1, 1, 1, 1, 1, 1, 1, 1, 1, 1, 1, 1]
  | _ => []
noncomputable def slices_IndexFuncF_LO (v184 : List Nat) : LOr := fun id e L =>
  match id with
  | 0 => .need (normA 0 slices_IndexFuncF_l0_kill e L = some (slices_IndexFuncF_l0_E v184 (gI (vAt e 8)))) (.call (slices_IndexFuncF_l0_g v184 (gI (vAt e 8))) fun x => .sum x (fun b0 => .leaf (slices_IndexFuncF_l0_X v184 (.inl b0))) (fun c0 => .leaf (slices_IndexFuncF_l0_X v184 (.inr c0))))
  | _ => .fail
noncomputable def slices_IndexFuncF_tab : List (FuncId × DFn × Bool) := [(113, impl_areFinite_1_F, true)]
theorem slices_IndexFuncF_hO : OrcOk Try.prog (tabD slices_IndexFuncF_tab) (tabM slices_IndexFuncF_tab) := tabD_cons impl_areFinite_1_Fok (tabD_nil _)
theorem slices_IndexFuncF_l0_be (v184 : List Nat) (s : Int) : bodyT TT (tabD slices_IndexFuncF_tab) (tabM slices_IndexFuncF_tab) (slices_IndexFuncF_LO v184) 0 slices_IndexFuncF_l0_kill slices_IndexFuncF_l0_nx (bodyOf Try.f152 0) 0 (slices_IndexFuncF_l0_E v184 s) = (slices_IndexFuncF_l0_T v184 s).bind fun y => .leaf (outS (slices_IndexFuncF_l0_E v184) (slices_IndexFuncF_l0_X v184) y) := by kernel_rfl
theorem slices_IndexFuncF_l0_ok (v184 : List Nat) : LSound Try.prog 0 (slices_IndexFuncF_LO v184) 0 (bodyOf Try.f152 0) := by
  intro e L out h
  exact lo_ok (E := slices_IndexFuncF_l0_E v184) (gT := slices_IndexFuncF_l0_T v184) (X := slices_IndexFuncF_l0_X v184) (s0 := (gI (vAt e 8))) tok slices_IndexFuncF_hO mixed (LoopsOk_eq (l := []) (by kernel_rfl) trivial) (slices_IndexFuncF_l0_be v184) rfl (by intro x; (cases x with | inl b => rfl | inr x => exact rfl)) h
noncomputable def slices_IndexFuncF_T (v184 : List Nat) : Tree (Int) :=
  (.need (some (slices_IndexFuncF_l0_E v184 (0 : Int)) = some (slices_IndexFuncF_l0_E v184 (0 : Int))) <|
  (.call (slices_IndexFuncF_l0_g v184 (0 : Int)) fun v194 =>
  (.sum v194 (fun v195 =>
   .leaf v195
  ) (fun v196 =>
   .leaf (-1 : Int)
  ))))

noncomputable def slices_IndexFuncF_g (v184 : List Nat) : Option (Int) := (slices_IndexFuncF_T v184).run
def slices_IndexFuncF_enc (v184 : List Nat) (y : Int) : Rs := (.int .i64 y, [])
theorem slices_IndexFuncF_den (v184 : List Nat) : (den TT (tabD slices_IndexFuncF_tab) (tabM slices_IndexFuncF_tab) (slices_IndexFuncF_LO v184) (codeOf Try.f152) ([.bslc (BR.root 0) (.f32 v184), .fn 113 []] ++ List.replicate (Try.f152.ntmps - ([.bslc (BR.root 0) (.f32 v184), .fn 113 []] : List DV).length) .undef) []).bind (retD TT Try.f152.results.toList 0) = (slices_IndexFuncF_T v184).bind fun y => .leaf (slices_IndexFuncF_enc v184 y) := by kernel_rfl
theorem slices_IndexFuncF_fn (v184 : List Nat) (F : Fr) (hm : F.ids.length = 0) (h0 : St F [] F.H0) (hA : DVs.Ok F [] [.bslc (BR.root 0) (.f32 v184), .fn 113 []]) {y : Int} (hy : slices_IndexFuncF_g v184 = some y) : ∃ H', FnOk Try.prog 152 (DVs.av F [.bslc (BR.root 0) (.f32 v184), .fn 113 []]) F.H0 ((slices_IndexFuncF_enc v184 y).1.av F) H' ∧ St F (slices_IndexFuncF_enc v184 y).2 H' ∧ (slices_IndexFuncF_enc v184 y).1.Ok F (slices_IndexFuncF_enc v184 y).2 :=
  fn_fin tok slices_IndexFuncF_hO mixed Try.func152 Try.call152 (by kernel_rfl) (LoopsOk_eq (l := [(0, bodyOf Try.f152 0)]) (by kernel_rfl) ⟨slices_IndexFuncF_l0_ok v184, trivial⟩) (slices_IndexFuncF_den v184) hy hm h0 hA
noncomputable def slices_IndexFuncF_F : DFn := fun args L =>
  match args with
  | [a1, .fn 113 []] =>
    optT (rowF32 L a1) fun v184 =>
    .call (slices_IndexFuncF_g v184) fun y => .leaf (.int .i64 y, L)
  | _ => .fail
theorem slices_IndexFuncF_Fok : COk Try.prog 152 slices_IndexFuncF_F true := by
  intro F L H args r L' hs ha hr
  unfold slices_IndexFuncF_F at hr
  split at hr
  · rename_i a1
    obtain ⟨v184, hv184, hr⟩ := optT_run hr
    simp only [Tree.run] at hr
    obtain ⟨y, hy, hr⟩ := Option.bind_eq_some_iff.1 hr
    simp only [Tree.run, Option.some.injEq, Prod.mk.injEq] at hr
    obtain ⟨rfl, rfl⟩ := hr
    exact call_ok0 hs (fun k => (([a1.av F] : List AV)[k]?).getD .top) [a1, .fn 113 []] [.bslc (BR.root 0) (.f32 v184), .fn 113 []] (fun F' h0 hi hρ => ⟨by simp [DVs.av, DV.av, BR.av, hρ], slices_IndexFuncF_fn v184 F' (by rw [hi]; rfl) (st_nil hi) ⟨bslc_ok hi (by rw [h0, hρ]; exact rowF32_ok hs (DVs.okAt ha 0 rfl) hv184), trivial, trivial⟩ hy⟩) rfl
  · cases hr
/-! slices.ContainsFunc[list of float32,float32] -/
noncomputable def slices_ContainsFuncF_LO (v183 : List Nat) : LOr := fun id e L =>
  match id with
  | _ => .fail
noncomputable def slices_ContainsFuncF_tab : List (FuncId × DFn × Bool) := [(152, slices_IndexFuncF_F, true)]
theorem slices_ContainsFuncF_hO : OrcOk Try.prog (tabD slices_ContainsFuncF_tab) (tabM slices_ContainsFuncF_tab) := tabD_cons slices_IndexFuncF_Fok (tabD_nil _)
noncomputable def slices_ContainsFuncF_T (v183 : List Nat) : Tree (Bool) :=
  (.call (slices_IndexFuncF_g v183) fun v197 =>
  .leaf (decide ((0 : Int) ≤ v197)))

noncomputable def slices_ContainsFuncF_g (v183 : List Nat) : Option (Bool) := (slices_ContainsFuncF_T v183).run
def slices_ContainsFuncF_enc (v183 : List Nat) (y : Bool) : Rs := (.bool y, [])
theorem slices_ContainsFuncF_den (v183 : List Nat) : (den TT (tabD slices_ContainsFuncF_tab) (tabM slices_ContainsFuncF_tab) (slices_ContainsFuncF_LO v183) (codeOf Try.f107) ([.bslc (BR.root 0) (.f32 v183), .fn 113 []] ++ List.replicate (Try.f107.ntmps - ([.bslc (BR.root 0) (.f32 v183), .fn 113 []] : List DV).length) .undef) []).bind (retD TT Try.f107.results.toList 0) = (slices_ContainsFuncF_T v183).bind fun y => .leaf (slices_ContainsFuncF_enc v183 y) := by kernel_rfl
theorem slices_ContainsFuncF_fn (v183 : List Nat) (F : Fr) (hm : F.ids.length = 0) (h0 : St F [] F.H0) (hA : DVs.Ok F [] [.bslc (BR.root 0) (.f32 v183), .fn 113 []]) {y : Bool} (hy : slices_ContainsFuncF_g v183 = some y) : ∃ H', FnOk Try.prog 107 (DVs.av F [.bslc (BR.root 0) (.f32 v183), .fn 113 []]) F.H0 ((slices_ContainsFuncF_enc v183 y).1.av F) H' ∧ St F (slices_ContainsFuncF_enc v183 y).2 H' ∧ (slices_ContainsFuncF_enc v183 y).1.Ok F (slices_ContainsFuncF_enc v183 y).2 :=
  fn_fin tok slices_ContainsFuncF_hO mixed Try.func107 Try.call107 (by kernel_rfl) (LoopsOk_eq (l := []) (by kernel_rfl) trivial) (slices_ContainsFuncF_den v183) hy hm h0 hA
noncomputable def slices_ContainsFuncF_F : DFn := fun args L =>
  match args with
  | [a1, .fn 113 []] =>
    optT (rowF32 L a1) fun v183 =>
    .call (slices_ContainsFuncF_g v183) fun y => .leaf (.bool y, L)
  | _ => .fail
theorem slices_ContainsFuncF_Fok : COk Try.prog 107 slices_ContainsFuncF_F true := by
  intro F L H args r L' hs ha hr
  unfold slices_ContainsFuncF_F at hr
  split at hr
  · rename_i a1
    obtain ⟨v183, hv183, hr⟩ := optT_run hr
    simp only [Tree.run] at hr
    obtain ⟨y, hy, hr⟩ := Option.bind_eq_some_iff.1 hr
    simp only [Tree.run, Option.some.injEq, Prod.mk.injEq] at hr
    obtain ⟨rfl, rfl⟩ := hr
    exact call_ok0 hs (fun k => (([a1.av F] : List AV)[k]?).getD .top) [a1, .fn 113 []] [.bslc (BR.root 0) (.f32 v183), .fn 113 []] (fun F' h0 hi hρ => ⟨by simp [DVs.av, DV.av, BR.av, hρ], slices_ContainsFuncF_fn v183 F' (by rw [hi]; rfl) (st_nil hi) ⟨bslc_ok hi (by rw [h0, hρ]; exact rowF32_ok hs (DVs.okAt ha 0 rfl) hv183), trivial, trivial⟩ hy⟩) rfl
  · cases hr
/-! impl.areFinite -/
noncomputable def impl_areFinite_LO (v182 : List Nat) : LOr := fun id e L =>
  match id with
  | _ => .fail
noncomputable def impl_areFinite_tab : List (FuncId × DFn × Bool) := [(107, slices_ContainsFuncF_F, true)]
theorem impl_areFinite_hO : OrcOk Try.prog (tabD impl_areFinite_tab) (tabM impl_areFinite_tab) := tabD_cons slices_ContainsFuncF_Fok (tabD_nil _)
noncomputable def impl_areFinite_T (v182 : List Nat) : Tree (Bool) :=
  (.call (slices_ContainsFuncF_g v182) fun v198 =>
  .leaf (!v198))

noncomputable def impl_areFinite_g (v182 : List Nat) : Option (Bool) := (impl_areFinite_T v182).run
def impl_areFinite_enc (v182 : List Nat) (y : Bool) : Rs := (.bool y, [])
theorem impl_areFinite_den (v182 : List Nat) : (den TT (tabD impl_areFinite_tab) (tabM impl_areFinite_tab) (impl_areFinite_LO v182) (codeOf Try.f42) ([.bslc (BR.root 0) (.f32 v182)] ++ List.replicate (Try.f42.ntmps - ([.bslc (BR.root 0) (.f32 v182)] : List DV).length) .undef) []).bind (retD TT Try.f42.results.toList 0) = (impl_areFinite_T v182).bind fun y => .leaf (impl_areFinite_enc v182 y) := by kernel_rfl
theorem impl_areFinite_fn (v182 : List Nat) (F : Fr) (hm : F.ids.length = 0) (h0 : St F [] F.H0) (hA : DVs.Ok F [] [.bslc (BR.root 0) (.f32 v182)]) {y : Bool} (hy : impl_areFinite_g v182 = some y) : ∃ H', FnOk Try.prog 42 (DVs.av F [.bslc (BR.root 0) (.f32 v182)]) F.H0 ((impl_areFinite_enc v182 y).1.av F) H' ∧ St F (impl_areFinite_enc v182 y).2 H' ∧ (impl_areFinite_enc v182 y).1.Ok F (impl_areFinite_enc v182 y).2 :=
  fn_fin tok impl_areFinite_hO mixed Try.func42 Try.call42 (by kernel_rfl) (LoopsOk_eq (l := []) (by kernel_rfl) trivial) (impl_areFinite_den v182) hy hm h0 hA
noncomputable def impl_areFinite_F : DFn := fun args L =>
  match args with
  | [a1] =>
    optT (rowF32 L a1) fun v182 =>
    .call (impl_areFinite_g v182) fun y => .leaf (.bool y, L)
  | _ => .fail
theorem impl_areFinite_Fok : COk Try.prog 42 impl_areFinite_F true := by
  intro F L H args r L' hs ha hr
  unfold impl_areFinite_F at hr
  split at hr
  · rename_i a1
    obtain ⟨v182, hv182, hr⟩ := optT_run hr
    simp only [Tree.run] at hr
    obtain ⟨y, hy, hr⟩ := Option.bind_eq_some_iff.1 hr
    simp only [Tree.run, Option.some.injEq, Prod.mk.injEq] at hr
    obtain ⟨rfl, rfl⟩ := hr
    exact call_ok0 hs (fun k => (([a1.av F] : List AV)[k]?).getD .top) [a1] [.bslc (BR.root 0) (.f32 v182)] (fun F' h0 hi hρ => ⟨by simp [DVs.av, DV.av, BR.av, hρ], impl_areFinite_fn v182 F' (by rw [hi]; rfl) (st_nil hi) ⟨bslc_ok hi (by rw [h0, hρ]; exact rowF32_ok hs (DVs.okAt ha 0 rfl) hv182), trivial⟩ hy⟩) rfl
  · cases hr
/-! impl.ValidMatrix -/
noncomputable def impl_ValidMatrix_LO (v174 : Int) (v175 : Int) (v176 : List Nat) : LOr := fun id e L =>
  match id with
  | _ => .fail
noncomputable def impl_ValidMatrix_tab : List (FuncId × DFn × Bool) := [(146, impl_isSide_F, true), (82, impl_lengthF_F, true), (42, impl_areFinite_F, true)]
theorem impl_ValidMatrix_hO : OrcOk Try.prog (tabD impl_ValidMatrix_tab) (tabM impl_ValidMatrix_tab) := tabD_cons impl_isSide_Fok (tabD_cons impl_lengthF_Fok (tabD_cons impl_areFinite_Fok (tabD_nil _)))
noncomputable def impl_ValidMatrix_T (v174 : Int) (v175 : Int) (v176 : List Nat) : Tree (Bool) :=
  (.br (impl_isSide_v v174) (
   (.br (impl_isSide_v v175) (
    (.br (decide ((impl_lengthF_v v176) = IntKind.i64.wrap (v174 * v175))) (
     (.call (impl_areFinite_g v176) fun v199 =>
     .leaf v199)
    ) (
     .leaf false
    ))
   ) (
    .leaf false
   ))
  ) (
   .leaf false
  ))

noncomputable def impl_ValidMatrix_g (v174 : Int) (v175 : Int) (v176 : List Nat) : Option (Bool) := (impl_ValidMatrix_T v174 v175 v176).run
def impl_ValidMatrix_enc (v174 : Int) (v175 : Int) (v176 : List Nat) (y : Bool) : Rs := (.bool y, [])
theorem impl_ValidMatrix_den (v174 : Int) (v175 : Int) (v176 : List Nat) : (den TT (tabD impl_ValidMatrix_tab) (tabM impl_ValidMatrix_tab) (impl_ValidMatrix_LO v174 v175 v176) (codeOf Try.f102) ([.agg [.int .i64 v174, .int .i64 v175, .bslc (BR.root 0) (.f32 v176)]] ++ List.replicate (Try.f102.ntmps - ([.agg [.int .i64 v174, .int .i64 v175, .bslc (BR.root 0) (.f32 v176)]] : List DV).length) .undef) []).bind (retD TT Try.f102.results.toList 0) = (impl_ValidMatrix_T v174 v175 v176).bind fun y => .leaf (impl_ValidMatrix_enc v174 v175 v176 y) := by kernel_rfl
theorem impl_ValidMatrix_fn (v174 : Int) (v175 : Int) (v176 : List Nat) (F : Fr) (hm : F.ids.length = 0) (h0 : St F [] F.H0) (hA : DVs.Ok F [] [.agg [.int .i64 v174, .int .i64 v175, .bslc (BR.root 0) (.f32 v176)]]) {y : Bool} (hy : impl_ValidMatrix_g v174 v175 v176 = some y) : ∃ H', FnOk Try.prog 102 (DVs.av F [.agg [.int .i64 v174, .int .i64 v175, .bslc (BR.root 0) (.f32 v176)]]) F.H0 ((impl_ValidMatrix_enc v174 v175 v176 y).1.av F) H' ∧ St F (impl_ValidMatrix_enc v174 v175 v176 y).2 H' ∧ (impl_ValidMatrix_enc v174 v175 v176 y).1.Ok F (impl_ValidMatrix_enc v174 v175 v176 y).2 :=
  fn_fin tok impl_ValidMatrix_hO mixed Try.func102 Try.call102 (by kernel_rfl) (LoopsOk_eq (l := []) (by kernel_rfl) trivial) (impl_ValidMatrix_den v174 v175 v176) hy hm h0 hA
noncomputable def impl_ValidMatrix_F : DFn := fun args L =>
  match args with
  | [.agg [.int .i64 v174, .int .i64 v175, a1]] =>
    optT (rowF32 L a1) fun v176 =>
    .call (impl_ValidMatrix_g v174 v175 v176) fun y => .leaf (.bool y, L)
  | _ => .fail
theorem impl_ValidMatrix_Fok : COk Try.prog 102 impl_ValidMatrix_F true := by
  intro F L H args r L' hs ha hr
  unfold impl_ValidMatrix_F at hr
  split at hr
  · rename_i v174 v175 a1
    obtain ⟨v176, hv176, hr⟩ := optT_run hr
    simp only [Tree.run] at hr
    obtain ⟨y, hy, hr⟩ := Option.bind_eq_some_iff.1 hr
    simp only [Tree.run, Option.some.injEq, Prod.mk.injEq] at hr
    obtain ⟨rfl, rfl⟩ := hr
    exact call_ok0 hs (fun k => (([a1.av F] : List AV)[k]?).getD .top) [.agg [.int .i64 v174, .int .i64 v175, a1]] [.agg [.int .i64 v174, .int .i64 v175, .bslc (BR.root 0) (.f32 v176)]] (fun F' h0 hi hρ => ⟨by simp [DVs.av, DV.av, BR.av, hρ], impl_ValidMatrix_fn v174 v175 v176 F' (by rw [hi]; rfl) (st_nil hi) ⟨⟨trivial, trivial, bslc_ok hi (by rw [h0, hρ]; exact rowF32_ok hs (DVs.okAt (DVs.okAt ha 0 rfl) 2 rfl) hv176), trivial⟩, trivial⟩ hy⟩) rfl
  · cases hr
/-! impl.isSquare -/
noncomputable def impl_isSquare_LO (v171 : Int) (v172 : Int) (v173 : List Nat) : LOr := fun id e L =>
  match id with
  | _ => .fail
noncomputable def impl_isSquare_tab : List (FuncId × DFn × Bool) := [(102, impl_ValidMatrix_F, true)]
theorem impl_isSquare_hO : OrcOk Try.prog (tabD impl_isSquare_tab) (tabM impl_isSquare_tab) := tabD_cons impl_ValidMatrix_Fok (tabD_nil _)
noncomputable def impl_isSquare_T (v171 : Int) (v172 : Int) (v173 : List Nat) : Tree (Bool) :=
  (.call (impl_ValidMatrix_g v171 v172 v173) fun v200 =>
  (.br v200 (
   .leaf (decide (v171 = v172))
  ) (
   .leaf false
  )))

noncomputable def impl_isSquare_g (v171 : Int) (v172 : Int) (v173 : List Nat) : Option (Bool) := (impl_isSquare_T v171 v172 v173).run
def impl_isSquare_enc (v171 : Int) (v172 : Int) (v173 : List Nat) (y : Bool) : Rs := (.bool y, [])
theorem impl_isSquare_den (v171 : Int) (v172 : Int) (v173 : List Nat) : (den TT (tabD impl_isSquare_tab) (tabM impl_isSquare_tab) (impl_isSquare_LO v171 v172 v173) (codeOf Try.f47) ([.agg [.int .i64 v171, .int .i64 v172, .bslc (BR.root 0) (.f32 v173)]] ++ List.replicate (Try.f47.ntmps - ([.agg [.int .i64 v171, .int .i64 v172, .bslc (BR.root 0) (.f32 v173)]] : List DV).length) .undef) []).bind (retD TT Try.f47.results.toList 0) = (impl_isSquare_T v171 v172 v173).bind fun y => .leaf (impl_isSquare_enc v171 v172 v173 y) := by kernel_rfl
theorem impl_isSquare_fn (v171 : Int) (v172 : Int) (v173 : List Nat) (F : Fr) (hm : F.ids.length = 0) (h0 : St F [] F.H0) (hA : DVs.Ok F [] [.agg [.int .i64 v171, .int .i64 v172, .bslc (BR.root 0) (.f32 v173)]]) {y : Bool} (hy : impl_isSquare_g v171 v172 v173 = some y) : ∃ H', FnOk Try.prog 47 (DVs.av F [.agg [.int .i64 v171, .int .i64 v172, .bslc (BR.root 0) (.f32 v173)]]) F.H0 ((impl_isSquare_enc v171 v172 v173 y).1.av F) H' ∧ St F (impl_isSquare_enc v171 v172 v173 y).2 H' ∧ (impl_isSquare_enc v171 v172 v173 y).1.Ok F (impl_isSquare_enc v171 v172 v173 y).2 :=
  fn_fin tok impl_isSquare_hO mixed Try.func47 Try.call47 (by kernel_rfl) (LoopsOk_eq (l := []) (by kernel_rfl) trivial) (impl_isSquare_den v171 v172 v173) hy hm h0 hA
noncomputable def impl_isSquare_F : DFn := fun args L =>
  match args with
  | [.agg [.int .i64 v171, .int .i64 v172, a1]] =>
    optT (rowF32 L a1) fun v173 =>
    .call (impl_isSquare_g v171 v172 v173) fun y => .leaf (.bool y, L)
  | _ => .fail
theorem impl_isSquare_Fok : COk Try.prog 47 impl_isSquare_F true := by
  intro F L H args r L' hs ha hr
  unfold impl_isSquare_F at hr
  split at hr
  · rename_i v171 v172 a1
    obtain ⟨v173, hv173, hr⟩ := optT_run hr
    simp only [Tree.run] at hr
    obtain ⟨y, hy, hr⟩ := Option.bind_eq_some_iff.1 hr
    simp only [Tree.run, Option.some.injEq, Prod.mk.injEq] at hr
    obtain ⟨rfl, rfl⟩ := hr
    exact call_ok0 hs (fun k => (([a1.av F] : List AV)[k]?).getD .top) [.agg [.int .i64 v171, .int .i64 v172, a1]] [.agg [.int .i64 v171, .int .i64 v172, .bslc (BR.root 0) (.f32 v173)]] (fun F' h0 hi hρ => ⟨by simp [DVs.av, DV.av, BR.av, hρ], impl_isSquare_fn v171 v172 v173 F' (by rw [hi]; rfl) (st_nil hi) ⟨⟨trivial, trivial, bslc_ok hi (by rw [h0, hρ]; exact rowF32_ok hs (DVs.okAt (DVs.okAt ha 0 rfl) 2 rfl) hv173), trivial⟩, trivial⟩ hy⟩) rfl
  · cases hr
/-! impl.IsVector -/
noncomputable def impl_IsVector_LO (v202 : List Nat) : LOr := fun id e L =>
  match id with
  | _ => .fail
noncomputable def impl_IsVector_tab : List (FuncId × DFn × Bool) := [(82, impl_lengthF_F, true), (94, impl_inRange_F, true), (42, impl_areFinite_F, true)]
theorem impl_IsVector_hO : OrcOk Try.prog (tabD impl_IsVector_tab) (tabM impl_IsVector_tab) := tabD_cons impl_lengthF_Fok (tabD_cons impl_inRange_Fok (tabD_cons impl_areFinite_Fok (tabD_nil _)))
noncomputable def impl_IsVector_T (v202 : List Nat) : Tree (Bool) :=
  (.br (impl_inRange_v (impl_lengthF_v v202) (1 : Int) (256 : Int)) (
   (.call (impl_areFinite_g v202) fun v203 =>
   .leaf v203)
  ) (
   .leaf false
  ))

noncomputable def impl_IsVector_g (v202 : List Nat) : Option (Bool) := (impl_IsVector_T v202).run
def impl_IsVector_enc (v202 : List Nat) (y : Bool) : Rs := (.bool y, [])
theorem impl_IsVector_den (v202 : List Nat) : (den TT (tabD impl_IsVector_tab) (tabM impl_IsVector_tab) (impl_IsVector_LO v202) (codeOf Try.f81) ([.bslc (BR.root 0) (.f32 v202)] ++ List.replicate (Try.f81.ntmps - ([.bslc (BR.root 0) (.f32 v202)] : List DV).length) .undef) []).bind (retD TT Try.f81.results.toList 0) = (impl_IsVector_T v202).bind fun y => .leaf (impl_IsVector_enc v202 y) := by kernel_rfl
theorem impl_IsVector_fn (v202 : List Nat) (F : Fr) (hm : F.ids.length = 0) (h0 : St F [] F.H0) (hA : DVs.Ok F [] [.bslc (BR.root 0) (.f32 v202)]) {y : Bool} (hy : impl_IsVector_g v202 = some y) : ∃ H', FnOk Try.prog 81 (DVs.av F [.bslc (BR.root 0) (.f32 v202)]) F.H0 ((impl_IsVector_enc v202 y).1.av F) H' ∧ St F (impl_IsVector_enc v202 y).2 H' ∧ (impl_IsVector_enc v202 y).1.Ok F (impl_IsVector_enc v202 y).2 :=
  fn_fin tok impl_IsVector_hO mixed Try.func81 Try.call81 (by kernel_rfl) (LoopsOk_eq (l := []) (by kernel_rfl) trivial) (impl_IsVector_den v202) hy hm h0 hA
noncomputable def impl_IsVector_F : DFn := fun args L =>
  match args with
  | [a1] =>
    optT (rowF32 L a1) fun v202 =>
    .call (impl_IsVector_g v202) fun y => .leaf (.bool y, L)
  | _ => .fail
theorem impl_IsVector_Fok : COk Try.prog 81 impl_IsVector_F true := by
  intro F L H args r L' hs ha hr
  unfold impl_IsVector_F at hr
  split at hr
  · rename_i a1
    obtain ⟨v202, hv202, hr⟩ := optT_run hr
    simp only [Tree.run] at hr
    obtain ⟨y, hy, hr⟩ := Option.bind_eq_some_iff.1 hr
    simp only [Tree.run, Option.some.injEq, Prod.mk.injEq] at hr
    obtain ⟨rfl, rfl⟩ := hr
    exact call_ok0 hs (fun k => (([a1.av F] : List AV)[k]?).getD .top) [a1] [.bslc (BR.root 0) (.f32 v202)] (fun F' h0 hi hρ => ⟨by simp [DVs.av, DV.av, BR.av, hρ], impl_IsVector_fn v202 F' (by rw [hi]; rfl) (st_nil hi) ⟨bslc_ok hi (by rw [h0, hρ]; exact rowF32_ok hs (DVs.okAt ha 0 rfl) hv202), trivial⟩ hy⟩) rfl
  · cases hr
/-! impl.isRounds -/
noncomputable def impl_isRounds_LO (v205 : Int) : LOr := fun id e L =>
  match id with
  | _ => .fail
noncomputable def impl_isRounds_tab : List (FuncId × DFn × Bool) := [(94, impl_inRange_F, true)]
theorem impl_isRounds_hO : OrcOk Try.prog (tabD impl_isRounds_tab) (tabM impl_isRounds_tab) := tabD_cons impl_inRange_Fok (tabD_nil _)
noncomputable def impl_isRounds_T (v205 : Int) : Tree (Bool) :=
  .leaf (impl_inRange_v v205 (0 : Int) (64 : Int))

noncomputable def impl_isRounds_g (v205 : Int) : Option (Bool) := (impl_isRounds_T v205).run
def impl_isRounds_enc (v205 : Int) (y : Bool) : Rs := (.bool y, [])
theorem impl_isRounds_den (v205 : Int) : (den TT (tabD impl_isRounds_tab) (tabM impl_isRounds_tab) (impl_isRounds_LO v205) (codeOf Try.f83) ([.int .i64 v205] ++ List.replicate (Try.f83.ntmps - ([.int .i64 v205] : List DV).length) .undef) []).bind (retD TT Try.f83.results.toList 0) = (impl_isRounds_T v205).bind fun y => .leaf (impl_isRounds_enc v205 y) := by kernel_rfl
theorem impl_isRounds_fn (v205 : Int) (F : Fr) (hm : F.ids.length = 0) (h0 : St F [] F.H0) (hA : DVs.Ok F [] [.int .i64 v205]) {y : Bool} (hy : impl_isRounds_g v205 = some y) : ∃ H', FnOk Try.prog 83 (DVs.av F [.int .i64 v205]) F.H0 ((impl_isRounds_enc v205 y).1.av F) H' ∧ St F (impl_isRounds_enc v205 y).2 H' ∧ (impl_isRounds_enc v205 y).1.Ok F (impl_isRounds_enc v205 y).2 :=
  fn_fin tok impl_isRounds_hO mixed Try.func83 Try.call83 (by kernel_rfl) (LoopsOk_eq (l := []) (by kernel_rfl) trivial) (impl_isRounds_den v205) hy hm h0 hA
def impl_isRounds_v (v205 : Int) : Bool :=
  (impl_inRange_v v205 (0 : Int) (64 : Int))
theorem impl_isRounds_tot (v205 : Int) : impl_isRounds_g v205 = some (impl_isRounds_v v205) := by
  unfold impl_isRounds_g impl_isRounds_T impl_isRounds_v
  simp only [Tree.run]
  repeat' (first | rfl | split)
noncomputable def impl_isRounds_F : DFn := fun args L =>
  match args with
  | [.int .i64 v205] =>
    .leaf (.bool (impl_isRounds_v v205), L)
  | _ => .fail
theorem impl_isRounds_Fok : COk Try.prog 83 impl_isRounds_F true := by
  intro F L H args r L' hs ha hr
  unfold impl_isRounds_F at hr
  split at hr
  · rename_i v205
    have hy := impl_isRounds_tot v205
    generalize impl_isRounds_v v205 = y at hy hr
    simp only [Tree.run, Option.some.injEq, Prod.mk.injEq] at hr
    obtain ⟨rfl, rfl⟩ := hr
    exact call_ok0 hs (fun k => (([] : List AV)[k]?).getD .top) [.int .i64 v205] [.int .i64 v205] (fun F' h0 hi hρ => ⟨by simp [DVs.av, DV.av, BR.av, hρ], impl_isRounds_fn v205 F' (by rw [hi]; rfl) (st_nil hi) ⟨trivial, trivial⟩ hy⟩) rfl
  · cases hr
/-! impl.mul -/
noncomputable def impl_mul_LO (v212 : Nat) (v213 : Nat) : LOr := fun id e L =>
  match id with
  | _ => .fail
noncomputable def impl_mul_tab : List (FuncId × DFn × Bool) := []
theorem impl_mul_hO : OrcOk Try.prog (tabD impl_mul_tab) (tabM impl_mul_tab) := tabD_nil _
noncomputable def impl_mul_T (v212 : Nat) (v213 : Nat) : Tree (Nat) :=
  .leaf (fmul .f32 v212 v213)

noncomputable def impl_mul_g (v212 : Nat) (v213 : Nat) : Option (Nat) := (impl_mul_T v212 v213).run
def impl_mul_enc (v212 : Nat) (v213 : Nat) (y : Nat) : Rs := (.flt .f32 y, [])
theorem impl_mul_den (v212 : Nat) (v213 : Nat) : (den TT (tabD impl_mul_tab) (tabM impl_mul_tab) (impl_mul_LO v212 v213) (codeOf Try.f50) ([.flt .f32 v212, .flt .f32 v213] ++ List.replicate (Try.f50.ntmps - ([.flt .f32 v212, .flt .f32 v213] : List DV).length) .undef) []).bind (retD TT Try.f50.results.toList 0) = (impl_mul_T v212 v213).bind fun y => .leaf (impl_mul_enc v212 v213 y) := by kernel_rfl
theorem impl_mul_fn (v212 : Nat) (v213 : Nat) (F : Fr) (hm : F.ids.length = 0) (h0 : St F [] F.H0) (hA : DVs.Ok F [] [.flt .f32 v212, .flt .f32 v213]) {y : Nat} (hy : impl_mul_g v212 v213 = some y) : ∃ H', FnOk Try.prog 50 (DVs.av F [.flt .f32 v212, .flt .f32 v213]) F.H0 ((impl_mul_enc v212 v213 y).1.av F) H' ∧ St F (impl_mul_enc v212 v213 y).2 H' ∧ (impl_mul_enc v212 v213 y).1.Ok F (impl_mul_enc v212 v213 y).2 :=
  fn_fin tok impl_mul_hO mixed Try.func50 Try.call50 (by kernel_rfl) (LoopsOk_eq (l := []) (by kernel_rfl) trivial) (impl_mul_den v212 v213) hy hm h0 hA
def impl_mul_v (v212 : Nat) (v213 : Nat) : Nat :=
  fmul .f32 v212 v213
theorem impl_mul_tot (v212 : Nat) (v213 : Nat) : impl_mul_g v212 v213 = some (impl_mul_v v212 v213) := by
  unfold impl_mul_g impl_mul_T impl_mul_v
  simp only [Tree.run]
  repeat' (first | rfl | split)
noncomputable def impl_mul_F : DFn := fun args L =>
  match args with
  | [.flt .f32 v212, .flt .f32 v213] =>
    .leaf (.flt .f32 (impl_mul_v v212 v213), L)
  | _ => .fail
theorem impl_mul_Fok : COk Try.prog 50 impl_mul_F true := by
  intro F L H args r L' hs ha hr
  unfold impl_mul_F at hr
  split at hr
  · rename_i v212 v213
    have hy := impl_mul_tot v212 v213
    generalize impl_mul_v v212 v213 = y at hy hr
    simp only [Tree.run, Option.some.injEq, Prod.mk.injEq] at hr
    obtain ⟨rfl, rfl⟩ := hr
    exact call_ok0 hs (fun k => (([] : List AV)[k]?).getD .top) [.flt .f32 v212, .flt .f32 v213] [.flt .f32 v212, .flt .f32 v213] (fun F' h0 hi hρ => ⟨by simp [DVs.av, DV.av, BR.av, hρ], impl_mul_fn v212 v213 F' (by rw [hi]; rfl) (st_nil hi) ⟨trivial, trivial, trivial⟩ hy⟩) rfl
  · cases hr
/-! impl.dot -/
noncomputable def impl_dot_l0_T (v208 : List Nat) (v209 : List Nat) (s : Nat × Int) : Tree ((Nat × Int) ⊕ (Nat)) :=
  (.br (decide (s.2 < ((v208.length : Nat) : Int))) (
   (.grd (inb s.2 v208.length) <|
   (.grd (inb s.2 v209.length) <|
   .leaf (.inl (fadd .f32 s.1 (impl_mul_v (nth v208 (Int.toNat s.2)) (nth v209 (Int.toNat s.2))), IntKind.i64.wrap (s.2 + (1 : Int))))))
  ) (
   .leaf (.inr s.1)
  ))

noncomputable def impl_dot_l0_g (v208 : List Nat) (v209 : List Nat) (s0 : Nat × Int) : Option (Nat) := whileM (fun s => (impl_dot_l0_T v208 v209 s).run) s0
def impl_dot_l0_E (v208 : List Nat) (v209 : List Nat) (s : Nat × Int) : Sd := ([.top, .bslc (BR.root 1) (.f32 v209), .top, .top, .top, .flt .f32 s.1, .top, .top, .bslc (BR.root 0) (.f32 v208), .int .i64 ((v208.length : Nat) : Int), .int .i64 s.2, .top, .top, .top, .top, .top, .top, .top, .top, .top, .top, .top, .top, .top, .top], [])
def impl_dot_l0_X (v208 : List Nat) (v209 : List Nat) (x : Nat) : Out := (.normal, [.top, .top, .top, .top, .top, .flt .f32 x, .top, .top, .top, .top, .top, .top, .top, .top, .top, .top, .top, .top, .top, .top, .top, .top, .top, .top, .top], [])
def impl_dot_l0_kill : List Nat := [1, 0, 1, 1, 1, 0, 1, 1, 0, 0, 0, 1, 1, 1, 1, 1, 1, 1, 1, 1, 1, 1, 1, 1, 1]
def impl_dot_l0_nx : Exit → List Nat
  | .exit 0 => [1, 1, 1, 1, 1, 0, 1, 1, 1, 1, 1, 1, 1, 1, 1, 1, 1, 1, 1, 1, 1, 1, 1, 1, 1]
  | .ret => [1, 1, 1, 1, 0, 1, 1, 1, 1, 1, 1, 1, 1, 1, 1, 1, 1, 1, 1, 1, 1, 1, 1, 1, 1]
  | _ => []
noncomputable def impl_dot_LO (v208 : List Nat) (v209 : List Nat) : LOr := fun id e L =>
  match id with
  | 0 => .need (normA 0 impl_dot_l0_kill e L = some (impl_dot_l0_E v208 v209 ((gF (vAt e 5)), (gI (vAt e 10))))) (.call (impl_dot_l0_g v208 v209 ((gF (vAt e 5)), (gI (vAt e 10)))) fun x => .leaf (impl_dot_l0_X v208 v209 x))
  | _ => .fail
noncomputable def impl_dot_tab : List (FuncId × DFn × Bool) := [(50, impl_mul_F, true)]
theorem impl_dot_hO : OrcOk Try.prog (tabD impl_dot_tab) (tabM impl_dot_tab) := tabD_cons impl_mul_Fok (tabD_nil _)
theorem impl_dot_l0_be (v208 : List Nat) (v209 : List Nat) (s : Nat × Int) : bodyT TT (tabD impl_dot_tab) (tabM impl_dot_tab) (impl_dot_LO v208 v209) 0 impl_dot_l0_kill impl_dot_l0_nx (bodyOf Try.f135 0) 0 (impl_dot_l0_E v208 v209 s) = (impl_dot_l0_T v208 v209 s).bind fun y => .leaf (outS (impl_dot_l0_E v208 v209) (impl_dot_l0_X v208 v209) y) := by kernel_rfl
theorem impl_dot_l0_ok (v208 : List Nat) (v209 : List Nat) : LSound Try.prog 0 (impl_dot_LO v208 v209) 0 (bodyOf Try.f135 0) := by
  intro e L out h
  exact lo_ok (E := impl_dot_l0_E v208 v209) (gT := impl_dot_l0_T v208 v209) (X := impl_dot_l0_X v208 v209) (s0 := ((gF (vAt e 5)), (gI (vAt e 10)))) tok impl_dot_hO mixed (LoopsOk_eq (l := []) (by kernel_rfl) trivial) (impl_dot_l0_be v208 v209) rfl (by intro x; rfl) h
noncomputable def impl_dot_T (v208 : List Nat) (v209 : List Nat) : Tree (Nat) :=
  (.need (some (impl_dot_l0_E v208 v209 ((0 : Nat), (0 : Int))) = some (impl_dot_l0_E v208 v209 ((0 : Nat), (0 : Int)))) <|
  (.call (impl_dot_l0_g v208 v209 ((0 : Nat), (0 : Int))) fun v218 =>
  .leaf v218))

noncomputable def impl_dot_g (v208 : List Nat) (v209 : List Nat) : Option (Nat) := (impl_dot_T v208 v209).run
def impl_dot_enc (v208 : List Nat) (v209 : List Nat) (y : Nat) : Rs := (.flt .f32 y, [])
theorem impl_dot_den (v208 : List Nat) (v209 : List Nat) : (den TT (tabD impl_dot_tab) (tabM impl_dot_tab) (impl_dot_LO v208 v209) (codeOf Try.f135) ([.bslc (BR.root 0) (.f32 v208), .bslc (BR.root 1) (.f32 v209)] ++ List.replicate (Try.f135.ntmps - ([.bslc (BR.root 0) (.f32 v208), .bslc (BR.root 1) (.f32 v209)] : List DV).length) .undef) []).bind (retD TT Try.f135.results.toList 0) = (impl_dot_T v208 v209).bind fun y => .leaf (impl_dot_enc v208 v209 y) := by kernel_rfl
theorem impl_dot_fn (v208 : List Nat) (v209 : List Nat) (F : Fr) (hm : F.ids.length = 0) (h0 : St F [] F.H0) (hA : DVs.Ok F [] [.bslc (BR.root 0) (.f32 v208), .bslc (BR.root 1) (.f32 v209)]) {y : Nat} (hy : impl_dot_g v208 v209 = some y) : ∃ H', FnOk Try.prog 135 (DVs.av F [.bslc (BR.root 0) (.f32 v208), .bslc (BR.root 1) (.f32 v209)]) F.H0 ((impl_dot_enc v208 v209 y).1.av F) H' ∧ St F (impl_dot_enc v208 v209 y).2 H' ∧ (impl_dot_enc v208 v209 y).1.Ok F (impl_dot_enc v208 v209 y).2 :=
  fn_fin tok impl_dot_hO mixed Try.func135 Try.call135 (by kernel_rfl) (LoopsOk_eq (l := [(0, bodyOf Try.f135 0)]) (by kernel_rfl) ⟨impl_dot_l0_ok v208 v209, trivial⟩) (impl_dot_den v208 v209) hy hm h0 hA
noncomputable def impl_dot_F : DFn := fun args L =>
  match args with
  | [a1, a2] =>
    optT (rowF32 L a1) fun v208 =>
    optT (rowF32 L a2) fun v209 =>
    .call (impl_dot_g v208 v209) fun y => .leaf (.flt .f32 y, L)
  | _ => .fail
theorem impl_dot_Fok : COk Try.prog 135 impl_dot_F true := by
  intro F L H args r L' hs ha hr
  unfold impl_dot_F at hr
  split at hr
  · rename_i a1 a2
    obtain ⟨v208, hv208, hr⟩ := optT_run hr
    obtain ⟨v209, hv209, hr⟩ := optT_run hr
    simp only [Tree.run] at hr
    obtain ⟨y, hy, hr⟩ := Option.bind_eq_some_iff.1 hr
    simp only [Tree.run, Option.some.injEq, Prod.mk.injEq] at hr
    obtain ⟨rfl, rfl⟩ := hr
    exact call_ok0 hs (fun k => (([a1.av F, a2.av F] : List AV)[k]?).getD .top) [a1, a2] [.bslc (BR.root 0) (.f32 v208), .bslc (BR.root 1) (.f32 v209)] (fun F' h0 hi hρ => ⟨by simp [DVs.av, DV.av, BR.av, hρ], impl_dot_fn v208 v209 F' (by rw [hi]; rfl) (st_nil hi) ⟨bslc_ok hi (by rw [h0, hρ]; exact rowF32_ok hs (DVs.okAt ha 0 rfl) hv208), bslc_ok hi (by rw [h0, hρ]; exact rowF32_ok hs (DVs.okAt ha 1 rfl) hv209), trivial⟩ hy⟩) rfl
  · cases hr
/-! impl.RootNumber -/
noncomputable def impl_RootNumber_LO (v220 : Nat) : LOr := fun id e L =>
  match id with
  | _ => .fail
noncomputable def impl_RootNumber_tab : List (FuncId × DFn × Bool) := [(117, math_Sqrt_F, true)]
theorem impl_RootNumber_hO : OrcOk Try.prog (tabD impl_RootNumber_tab) (tabM impl_RootNumber_tab) := tabD_cons math_Sqrt_Fok (tabD_nil _)
noncomputable def impl_RootNumber_T (v220 : Nat) : Tree (Nat) :=
  (.call (fconv .f64 (math_Sqrt_v (wid v220)) .f32) fun v221 =>
  .leaf v221)

noncomputable def impl_RootNumber_g (v220 : Nat) : Option (Nat) := (impl_RootNumber_T v220).run
def impl_RootNumber_enc (v220 : Nat) (y : Nat) : Rs := (.flt .f32 y, [])
theorem impl_RootNumber_den (v220 : Nat) : (den TT (tabD impl_RootNumber_tab) (tabM impl_RootNumber_tab) (impl_RootNumber_LO v220) (codeOf Try.f52) ([.flt .f32 v220] ++ List.replicate (Try.f52.ntmps - ([.flt .f32 v220] : List DV).length) .undef) []).bind (retD TT Try.f52.results.toList 0) = (impl_RootNumber_T v220).bind fun y => .leaf (impl_RootNumber_enc v220 y) := by kernel_rfl
theorem impl_RootNumber_fn (v220 : Nat) (F : Fr) (hm : F.ids.length = 0) (h0 : St F [] F.H0) (hA : DVs.Ok F [] [.flt .f32 v220]) {y : Nat} (hy : impl_RootNumber_g v220 = some y) : ∃ H', FnOk Try.prog 52 (DVs.av F [.flt .f32 v220]) F.H0 ((impl_RootNumber_enc v220 y).1.av F) H' ∧ St F (impl_RootNumber_enc v220 y).2 H' ∧ (impl_RootNumber_enc v220 y).1.Ok F (impl_RootNumber_enc v220 y).2 :=
  fn_fin tok impl_RootNumber_hO mixed Try.func52 Try.call52 (by kernel_rfl) (LoopsOk_eq (l := []) (by kernel_rfl) trivial) (impl_RootNumber_den v220) hy hm h0 hA
noncomputable def impl_RootNumber_F : DFn := fun args L =>
  match args with
  | [.flt .f32 v220] =>
    .call (impl_RootNumber_g v220) fun y => .leaf (.flt .f32 y, L)
  | _ => .fail
theorem impl_RootNumber_Fok : COk Try.prog 52 impl_RootNumber_F true := by
  intro F L H args r L' hs ha hr
  unfold impl_RootNumber_F at hr
  split at hr
  · rename_i v220
    simp only [Tree.run] at hr
    obtain ⟨y, hy, hr⟩ := Option.bind_eq_some_iff.1 hr
    simp only [Tree.run, Option.some.injEq, Prod.mk.injEq] at hr
    obtain ⟨rfl, rfl⟩ := hr
    exact call_ok0 hs (fun k => (([] : List AV)[k]?).getD .top) [.flt .f32 v220] [.flt .f32 v220] (fun F' h0 hi hρ => ⟨by simp [DVs.av, DV.av, BR.av, hρ], impl_RootNumber_fn v220 F' (by rw [hi]; rfl) (st_nil hi) ⟨trivial, trivial⟩ hy⟩) rfl
  · cases hr
/-! impl.allFinite -/
noncomputable def impl_allFinite_LO (v232 : List Nat) : LOr := fun id e L =>
  match id with
  | _ => .fail
noncomputable def impl_allFinite_tab : List (FuncId × DFn × Bool) := [(42, impl_areFinite_F, true)]
theorem impl_allFinite_hO : OrcOk Try.prog (tabD impl_allFinite_tab) (tabM impl_allFinite_tab) := tabD_cons impl_areFinite_Fok (tabD_nil _)
noncomputable def impl_allFinite_T (v232 : List Nat) : Tree ((Unit) ⊕ (Unit)) :=
  (.call (impl_areFinite_g v232) fun v233 =>
  (.br (!v233) (
   .leaf (.inl ())
  ) (
   .leaf (.inr ())
  )))

noncomputable def impl_allFinite_g (v232 : List Nat) : Option ((Unit) ⊕ (Unit)) := (impl_allFinite_T v232).run
def impl_allFinite_enc (v232 : List Nat) (y : (Unit) ⊕ (Unit)) : Rs := (match y with | .inl y => (.tup [.nilslc, .lit false], []) | .inr y => (.tup [.bslc (BR.root 0) (.f32 v232), .lit true], []))
theorem impl_allFinite_den (v232 : List Nat) : (den TT (tabD impl_allFinite_tab) (tabM impl_allFinite_tab) (impl_allFinite_LO v232) (codeOf Try.f136) ([.bslc (BR.root 0) (.f32 v232)] ++ List.replicate (Try.f136.ntmps - ([.bslc (BR.root 0) (.f32 v232)] : List DV).length) .undef) []).bind (retD TT Try.f136.results.toList 0) = (impl_allFinite_T v232).bind fun y => .leaf (impl_allFinite_enc v232 y) := by kernel_rfl
theorem impl_allFinite_fn (v232 : List Nat) (F : Fr) (hm : F.ids.length = 0) (h0 : St F [] F.H0) (hA : DVs.Ok F [] [.bslc (BR.root 0) (.f32 v232)]) {y : (Unit) ⊕ (Unit)} (hy : impl_allFinite_g v232 = some y) : ∃ H', FnOk Try.prog 136 (DVs.av F [.bslc (BR.root 0) (.f32 v232)]) F.H0 ((impl_allFinite_enc v232 y).1.av F) H' ∧ St F (impl_allFinite_enc v232 y).2 H' ∧ (impl_allFinite_enc v232 y).1.Ok F (impl_allFinite_enc v232 y).2 :=
  fn_fin tok impl_allFinite_hO mixed Try.func136 Try.call136 (by kernel_rfl) (LoopsOk_eq (l := []) (by kernel_rfl) trivial) (impl_allFinite_den v232) hy hm h0 hA
noncomputable def impl_allFinite_F : DFn := fun args L =>
  match args with
  | [a1] =>
    optT (rowF32 L a1) fun v232 =>
    .call (impl_allFinite_g v232) fun y => .sum y (fun y0 => .leaf (.tup [.nilslc, .lit false], L)) (fun z0 => .leaf (.tup [a1, .lit true], L))
  | _ => .fail
theorem impl_allFinite_Fok : COk Try.prog 136 impl_allFinite_F true := by
  intro F L H args r L' hs ha hr
  unfold impl_allFinite_F at hr
  split at hr
  · rename_i a1
    obtain ⟨v232, hv232, hr⟩ := optT_run hr
    simp only [Tree.run] at hr
    obtain ⟨y, hy, hr⟩ := Option.bind_eq_some_iff.1 hr
    cases y with
    | inl y =>
      simp only [Tree.run, Option.some.injEq, Prod.mk.injEq] at hr
      obtain ⟨rfl, rfl⟩ := hr
      exact call_ok0 hs (fun k => (([a1.av F] : List AV)[k]?).getD .top) [a1] [.bslc (BR.root 0) (.f32 v232)] (fun F' h0 hi hρ => ⟨by simp [DVs.av, DV.av, BR.av, hρ], impl_allFinite_fn v232 F' (by rw [hi]; rfl) (st_nil hi) ⟨bslc_ok hi (by rw [h0, hρ]; exact rowF32_ok hs (DVs.okAt ha 0 rfl) hv232), trivial⟩ hy⟩) rfl
    | inr y =>
      simp only [Tree.run, Option.some.injEq, Prod.mk.injEq] at hr
      obtain ⟨rfl, rfl⟩ := hr
      exact call_al0 hs (fun k => (([a1.av F] : List AV)[k]?).getD .top) [a1] [.bslc (BR.root 0) (.f32 v232)] (fun F' h0 hi hρ => ⟨by simp [DVs.av, DV.av, BR.av, hρ], impl_allFinite_fn v232 F' (by rw [hi]; rfl) (st_nil hi) ⟨bslc_ok hi (by rw [h0, hρ]; exact rowF32_ok hs (DVs.okAt ha 0 rfl) hv232), trivial⟩ hy⟩) (fun F' h0 hi hρ => by simp [impl_allFinite_enc, DVs.av, DV.av, BR.av, hρ]) ⟨(DVs.okAt ha 0 rfl), trivial, trivial⟩
  · cases hr
/-! impl.UnitVector -/
noncomputable def impl_UnitVector_l0_T (v206 : List Nat) (v228 : Nat) (s : Int × (List Nat)) : Tree ((Int × (List Nat)) ⊕ ((List Nat))) :=
  (.br (decide (s.1 < ((v206.length : Nat) : Int))) (
   (.grd (inb s.1 v206.length) <|
   (.grd (fits (s.2 ++ ([fdiv .f32 (nth v206 (Int.toNat s.1)) v228] : List Nat)).length) <|
   .leaf (.inl (IntKind.i64.wrap (s.1 + (1 : Int)), s.2 ++ ([fdiv .f32 (nth v206 (Int.toNat s.1)) v228] : List Nat)))))
  ) (
   .leaf (.inr s.2)
  ))

noncomputable def impl_UnitVector_l0_g (v206 : List Nat) (v228 : Nat) (s0 : Int × (List Nat)) : Option ((List Nat)) := whileM (fun s => (impl_UnitVector_l0_T v206 v228 s).run) s0
def impl_UnitVector_l0_E (v206 : List Nat) (v228 : Nat) (s : Int × (List Nat)) : Sd := ([.top, .top, .top, .top, .top, .own 0 0 ((s.2).length), .flt .f32 v228, .top, .top, .top, .top, .top, .top, .top, .top, .top, .top, .top, .top, .top, .top, .top, .top, .top, .top, .top, .bslc (BR.root 0) (.f32 v206), .int .i64 ((v206.length : Nat) : Int), .int .i64 s.1, .top, .top, .top, .top, .top, .top, .top, .top, .top, .top, .top, .top, .top, .top], [.row (.f32 s.2) 0])
def impl_UnitVector_l0_X (v206 : List Nat) (v228 : Nat) (x : (List Nat)) : Out := (.normal, [.top, .top, .top, .top, .top, .own 0 0 ((x).length), .top, .top, .top, .top, .top, .top, .top, .top, .top, .top, .top, .top, .top, .top, .top, .top, .top, .top, .top, .top, .top, .top, .top, .top, .top, .top, .top, .top, .top, .top, .top, .top, .top, .top, .top, .top, .top], [.row (.f32 x) 0])
def impl_UnitVector_l0_kill : List Nat := [1, 1, 1, 1, 1, 0, 0, 1, 1, 1, 1, 1, 1, 1, 1, 1, 1, 1, 1, 1, 1, 1, 1, 1, 1, 1, 0, 0, 0, 1, 1, 1, 1, 1, 1, 1, 1, 1, 1, 1, 1, 1, 1]
def impl_UnitVector_l0_nx : Exit → List Nat
  | .exit 0 => [1, 1, 1, 1, 1, 0, 1, 1, 1, 1, 1, 1, 1, 1, 1, 1, 1, 1, 1, 1, 1, 1, 1, 1, 1, 1, 1, 1, 1, 1, 1, 1, 1, 1, 1, 1, 1, 1, 1, 1, 1, 1, 1]
  | .ret => [1, 1, 0, 0, 1, 1, 1, 1, 1, 1, 1, 1, 1, 1, 1, 1, 1, 1, 1, 1, 1, 1, 1, 1, 1, 1, 1, 1, 1, 1, 1, 1, 1, 1, 1, 1, 1, 1, 1, 1, 1, 1, 1]
  | _ => []
noncomputable def impl_UnitVector_LO (v206 : List Nat) : LOr := fun id e L =>
  match id with
  | 0 => .need (normA 0 impl_UnitVector_l0_kill e L = some (impl_UnitVector_l0_E v206 (gF (vAt e 6)) ((gI (vAt e 28)), (gRF L (vAt e 5))))) (.call (impl_UnitVector_l0_g v206 (gF (vAt e 6)) ((gI (vAt e 28)), (gRF L (vAt e 5)))) fun x => .leaf (impl_UnitVector_l0_X v206 (gF (vAt e 6)) x))
  | _ => .fail
noncomputable def impl_UnitVector_tab : List (FuncId × DFn × Bool) := [(81, impl_IsVector_F, true), (135, impl_dot_F, true), (43, impl_IsFinite_F, true), (52, impl_RootNumber_F, true), (136, impl_allFinite_F, true)]
theorem impl_UnitVector_hO : OrcOk Try.prog (tabD impl_UnitVector_tab) (tabM impl_UnitVector_tab) := tabD_cons impl_IsVector_Fok (tabD_cons impl_dot_Fok (tabD_cons impl_IsFinite_Fok (tabD_cons impl_RootNumber_Fok (tabD_cons impl_allFinite_Fok (tabD_nil _)))))
theorem impl_UnitVector_l0_be (v206 : List Nat) (v228 : Nat) (s : Int × (List Nat)) : bodyT TT (tabD impl_UnitVector_tab) (tabM impl_UnitVector_tab) (impl_UnitVector_LO v206) 0 impl_UnitVector_l0_kill impl_UnitVector_l0_nx (bodyOf Try.f84 0) 0 (impl_UnitVector_l0_E v206 v228 s) = (impl_UnitVector_l0_T v206 v228 s).bind fun y => .leaf (outS (impl_UnitVector_l0_E v206 v228) (impl_UnitVector_l0_X v206 v228) y) := by kernel_rfl
theorem impl_UnitVector_l0_ok (v206 : List Nat) : LSound Try.prog 0 (impl_UnitVector_LO v206) 0 (bodyOf Try.f84 0) := by
  intro e L out h
  exact lo_ok (E := impl_UnitVector_l0_E v206 (gF (vAt e 6))) (gT := impl_UnitVector_l0_T v206 (gF (vAt e 6))) (X := impl_UnitVector_l0_X v206 (gF (vAt e 6))) (s0 := ((gI (vAt e 28)), (gRF L (vAt e 5)))) tok impl_UnitVector_hO mixed (LoopsOk_eq (l := []) (by kernel_rfl) trivial) (impl_UnitVector_l0_be v206 (gF (vAt e 6))) rfl (by intro x; rfl) h
noncomputable def impl_UnitVector_T (v206 : List Nat) : Tree ((Unit) ⊕ ((List Nat))) :=
  (.call (impl_IsVector_g v206) fun v207 =>
  (.br (!v207) (
   .leaf (.inl ())
  ) (
   (.call (impl_dot_g v206 v206) fun v219 =>
   (.br (!(impl_IsFinite_v v219)) (
    .leaf (.inl ())
   ) (
    (.br (!(fgrt .f32 v219 (0 : Nat))) (
     .leaf (.inl ())
    ) (
     (.call (impl_RootNumber_g v219) fun v222 =>
     (.need (some (impl_UnitVector_l0_E v206 v222 ((0 : Int), ([] : List Nat))) = some (impl_UnitVector_l0_E v206 v222 ((0 : Int), ([] : List Nat)))) <|
     (.call (impl_UnitVector_l0_g v206 v222 ((0 : Int), ([] : List Nat))) fun v231 =>
     (.call (impl_allFinite_g v231) fun v234 =>
     (.sum v234 (fun v235 =>
      .leaf (.inl ())
     ) (fun v236 =>
      .leaf (.inr v231)
     ))))))
    ))
   )))
  )))

noncomputable def impl_UnitVector_g (v206 : List Nat) : Option ((Unit) ⊕ ((List Nat))) := (impl_UnitVector_T v206).run
def impl_UnitVector_enc (v206 : List Nat) (y : (Unit) ⊕ ((List Nat))) : Rs := (match y with | .inl y => (.tup [.nilslc, .lit false], []) | .inr y => (.tup [.own 0 0 ((y).length), .lit true], [.row (.f32 y) 0]))
theorem impl_UnitVector_den (v206 : List Nat) : (den TT (tabD impl_UnitVector_tab) (tabM impl_UnitVector_tab) (impl_UnitVector_LO v206) (codeOf Try.f84) ([.bslc (BR.root 0) (.f32 v206)] ++ List.replicate (Try.f84.ntmps - ([.bslc (BR.root 0) (.f32 v206)] : List DV).length) .undef) []).bind (retD TT Try.f84.results.toList 0) = (impl_UnitVector_T v206).bind fun y => .leaf (impl_UnitVector_enc v206 y) := by kernel_rfl
theorem impl_UnitVector_fn (v206 : List Nat) (F : Fr) (hm : F.ids.length = 0) (h0 : St F [] F.H0) (hA : DVs.Ok F [] [.bslc (BR.root 0) (.f32 v206)]) {y : (Unit) ⊕ ((List Nat))} (hy : impl_UnitVector_g v206 = some y) : ∃ H', FnOk Try.prog 84 (DVs.av F [.bslc (BR.root 0) (.f32 v206)]) F.H0 ((impl_UnitVector_enc v206 y).1.av F) H' ∧ St F (impl_UnitVector_enc v206 y).2 H' ∧ (impl_UnitVector_enc v206 y).1.Ok F (impl_UnitVector_enc v206 y).2 :=
  fn_fin tok impl_UnitVector_hO mixed Try.func84 Try.call84 (by kernel_rfl) (LoopsOk_eq (l := [(0, bodyOf Try.f84 0)]) (by kernel_rfl) ⟨impl_UnitVector_l0_ok v206, trivial⟩) (impl_UnitVector_den v206) hy hm h0 hA
noncomputable def impl_UnitVector_F : DFn := fun args L =>
  match args with
  | [a1] =>
    optT (rowF32 L a1) fun v206 =>
    .call (impl_UnitVector_g v206) fun y => .sum y (fun y0 => .leaf (.tup [.nilslc, .lit false], L)) (fun z0 => .leaf (.tup [.own (L.length + 0) 0 ((z0).length), .lit true], L ++ [.row (.f32 z0) 0]))
  | _ => .fail
theorem impl_UnitVector_Fok : COk Try.prog 84 impl_UnitVector_F true := by
  intro F L H args r L' hs ha hr
  unfold impl_UnitVector_F at hr
  split at hr
  · rename_i a1
    obtain ⟨v206, hv206, hr⟩ := optT_run hr
    simp only [Tree.run] at hr
    obtain ⟨y, hy, hr⟩ := Option.bind_eq_some_iff.1 hr
    cases y with
    | inl y =>
      simp only [Tree.run, Option.some.injEq, Prod.mk.injEq] at hr
      obtain ⟨rfl, rfl⟩ := hr
      exact call_ok0 hs (fun k => (([a1.av F] : List AV)[k]?).getD .top) [a1] [.bslc (BR.root 0) (.f32 v206)] (fun F' h0 hi hρ => ⟨by simp [DVs.av, DV.av, BR.av, hρ], impl_UnitVector_fn v206 F' (by rw [hi]; rfl) (st_nil hi) ⟨bslc_ok hi (by rw [h0, hρ]; exact rowF32_ok hs (DVs.okAt ha 0 rfl) hv206), trivial⟩ hy⟩) rfl
    | inr y =>
      simp only [Tree.run, Option.some.injEq, Prod.mk.injEq] at hr
      obtain ⟨rfl, rfl⟩ := hr
      exact call_ok1 hs (fun k => (([a1.av F] : List AV)[k]?).getD .top) [a1] [.bslc (BR.root 0) (.f32 v206)] (fun F' h0 hi hρ => ⟨by simp [DVs.av, DV.av, BR.av, hρ], impl_UnitVector_fn v206 F' (by rw [hi]; rfl) (st_nil hi) ⟨bslc_ok hi (by rw [h0, hρ]; exact rowF32_ok hs (DVs.okAt ha 0 rfl) hv206), trivial⟩ hy⟩) rfl rfl
  · cases hr
/-! slices.Clone[list of float32,float32] -/
noncomputable def slices_CloneF_LO (v261 : List Nat) : LOr := fun id e L =>
  match id with
  | _ => .fail
noncomputable def slices_CloneF_tab : List (FuncId × DFn × Bool) := []
theorem slices_CloneF_hO : OrcOk Try.prog (tabD slices_CloneF_tab) (tabM slices_CloneF_tab) := tabD_nil _
noncomputable def slices_CloneF_T (v261 : List Nat) : Tree (Unit) :=
  (.grd (decide (0 < v261.length)) <|
  (.grd (fits (([] : List Nat) ++ v261).length) <|
  .leaf ()))

noncomputable def slices_CloneF_g (v261 : List Nat) : Option (Unit) := (slices_CloneF_T v261).run
def slices_CloneF_enc (v261 : List Nat) (y : Unit) : Rs := (.own 0 0 ((([] : List Nat) ++ v261).length), [.row (.f32 (([] : List Nat) ++ v261)) 0])
theorem slices_CloneF_den (v261 : List Nat) : (den TT (tabD slices_CloneF_tab) (tabM slices_CloneF_tab) (slices_CloneF_LO v261) (codeOf Try.f112) ([.bslc (BR.root 0) (.f32 v261)] ++ List.replicate (Try.f112.ntmps - ([.bslc (BR.root 0) (.f32 v261)] : List DV).length) .undef) []).bind (retD TT Try.f112.results.toList 0) = (slices_CloneF_T v261).bind fun y => .leaf (slices_CloneF_enc v261 y) := by kernel_rfl
theorem slices_CloneF_fn (v261 : List Nat) (F : Fr) (hm : F.ids.length = 0) (h0 : St F [] F.H0) (hA : DVs.Ok F [] [.bslc (BR.root 0) (.f32 v261)]) {y : Unit} (hy : slices_CloneF_g v261 = some y) : ∃ H', FnOk Try.prog 112 (DVs.av F [.bslc (BR.root 0) (.f32 v261)]) F.H0 ((slices_CloneF_enc v261 y).1.av F) H' ∧ St F (slices_CloneF_enc v261 y).2 H' ∧ (slices_CloneF_enc v261 y).1.Ok F (slices_CloneF_enc v261 y).2 :=
  fn_fin tok slices_CloneF_hO mixed Try.func112 Try.call112 (by kernel_rfl) (LoopsOk_eq (l := []) (by kernel_rfl) trivial) (slices_CloneF_den v261) hy hm h0 hA
noncomputable def slices_CloneF_F : DFn := fun args L =>
  match args with
  | [a1] =>
    optT (rowF32 L a1) fun v261 =>
    .call (slices_CloneF_g v261) fun y => .leaf (.own (L.length + 0) 0 ((([] : List Nat) ++ v261).length), L ++ [.row (.f32 (([] : List Nat) ++ v261)) 0])
  | _ => .fail
theorem slices_CloneF_Fok : COk Try.prog 112 slices_CloneF_F true := by
  intro F L H args r L' hs ha hr
  unfold slices_CloneF_F at hr
  split at hr
  · rename_i a1
    obtain ⟨v261, hv261, hr⟩ := optT_run hr
    simp only [Tree.run] at hr
    obtain ⟨y, hy, hr⟩ := Option.bind_eq_some_iff.1 hr
    simp only [Tree.run, Option.some.injEq, Prod.mk.injEq] at hr
    obtain ⟨rfl, rfl⟩ := hr
    exact call_ok1 hs (fun k => (([a1.av F] : List AV)[k]?).getD .top) [a1] [.bslc (BR.root 0) (.f32 v261)] (fun F' h0 hi hρ => ⟨by simp [DVs.av, DV.av, BR.av, hρ], slices_CloneF_fn v261 F' (by rw [hi]; rfl) (st_nil hi) ⟨bslc_ok hi (by rw [h0, hρ]; exact rowF32_ok hs (DVs.okAt ha 0 rfl) hv261), trivial⟩ hy⟩) rfl rfl
  · cases hr
/-! (impl.Matrix).row -/
noncomputable def impl_Matrix_row_LO (v257 : Int) (v258 : Int) (v259 : List Nat) (v260 : Int) : LOr := fun id e L =>
  match id with
  | _ => .fail
noncomputable def impl_Matrix_row_tab : List (FuncId × DFn × Bool) := [(112, slices_CloneF_F, true)]
theorem impl_Matrix_row_hO : OrcOk Try.prog (tabD impl_Matrix_row_tab) (tabM impl_Matrix_row_tab) := tabD_cons slices_CloneF_Fok (tabD_nil _)
noncomputable def impl_Matrix_row_T (v258 : Int) (v259 : List Nat) (v260 : Int) : Tree (Unit) :=
  (.grd (sok (IntKind.i64.wrap (v260 * v258)) (IntKind.i64.wrap ((IntKind.i64.wrap (v260 + (1 : Int))) * v258)) v259.length) <|
  (.call (slices_CloneF_g (AM.sub v259 (IntKind.i64.wrap (v260 * v258)) (IntKind.i64.wrap ((IntKind.i64.wrap (v260 + (1 : Int))) * v258)))) fun v262 =>
  .leaf ()))

noncomputable def impl_Matrix_row_g (v258 : Int) (v259 : List Nat) (v260 : Int) : Option (Unit) := (impl_Matrix_row_T v258 v259 v260).run
def impl_Matrix_row_enc (v257 : Int) (v258 : Int) (v259 : List Nat) (v260 : Int) (y : Unit) : Rs := (.own 0 0 ((([] : List Nat) ++ (AM.sub v259 (IntKind.i64.wrap (v260 * v258)) (IntKind.i64.wrap ((IntKind.i64.wrap (v260 + (1 : Int))) * v258)))).length), [.row (.f32 (([] : List Nat) ++ (AM.sub v259 (IntKind.i64.wrap (v260 * v258)) (IntKind.i64.wrap ((IntKind.i64.wrap (v260 + (1 : Int))) * v258))))) 0])
theorem impl_Matrix_row_den (v257 : Int) (v258 : Int) (v259 : List Nat) (v260 : Int) : (den TT (tabD impl_Matrix_row_tab) (tabM impl_Matrix_row_tab) (impl_Matrix_row_LO v257 v258 v259 v260) (codeOf Try.f161) ([.agg [.int .i64 v257, .int .i64 v258, .bslc (BR.root 0) (.f32 v259)], .int .i64 v260] ++ List.replicate (Try.f161.ntmps - ([.agg [.int .i64 v257, .int .i64 v258, .bslc (BR.root 0) (.f32 v259)], .int .i64 v260] : List DV).length) .undef) []).bind (retD TT Try.f161.results.toList 0) = (impl_Matrix_row_T v258 v259 v260).bind fun y => .leaf (impl_Matrix_row_enc v257 v258 v259 v260 y) := by kernel_rfl
theorem impl_Matrix_row_fn (v257 : Int) (v258 : Int) (v259 : List Nat) (v260 : Int) (F : Fr) (hm : F.ids.length = 0) (h0 : St F [] F.H0) (hA : DVs.Ok F [] [.agg [.int .i64 v257, .int .i64 v258, .bslc (BR.root 0) (.f32 v259)], .int .i64 v260]) {y : Unit} (hy : impl_Matrix_row_g v258 v259 v260 = some y) : ∃ H', FnOk Try.prog 161 (DVs.av F [.agg [.int .i64 v257, .int .i64 v258, .bslc (BR.root 0) (.f32 v259)], .int .i64 v260]) F.H0 ((impl_Matrix_row_enc v257 v258 v259 v260 y).1.av F) H' ∧ St F (impl_Matrix_row_enc v257 v258 v259 v260 y).2 H' ∧ (impl_Matrix_row_enc v257 v258 v259 v260 y).1.Ok F (impl_Matrix_row_enc v257 v258 v259 v260 y).2 :=
  fn_fin tok impl_Matrix_row_hO mixed Try.func161 Try.call161 (by kernel_rfl) (LoopsOk_eq (l := []) (by kernel_rfl) trivial) (impl_Matrix_row_den v257 v258 v259 v260) hy hm h0 hA
noncomputable def impl_Matrix_row_F : DFn := fun args L =>
  match args with
  | [.agg [.int .i64 v257, .int .i64 v258, a1], .int .i64 v260] =>
    optT (rowF32 L a1) fun v259 =>
    .call (impl_Matrix_row_g v258 v259 v260) fun y => .leaf (.own (L.length + 0) 0 ((([] : List Nat) ++ (AM.sub v259 (IntKind.i64.wrap (v260 * v258)) (IntKind.i64.wrap ((IntKind.i64.wrap (v260 + (1 : Int))) * v258)))).length), L ++ [.row (.f32 (([] : List Nat) ++ (AM.sub v259 (IntKind.i64.wrap (v260 * v258)) (IntKind.i64.wrap ((IntKind.i64.wrap (v260 + (1 : Int))) * v258))))) 0])
  | _ => .fail
theorem impl_Matrix_row_Fok : COk Try.prog 161 impl_Matrix_row_F true := by
  intro F L H args r L' hs ha hr
  unfold impl_Matrix_row_F at hr
  split at hr
  · rename_i v257 v258 a1 v260
    obtain ⟨v259, hv259, hr⟩ := optT_run hr
    simp only [Tree.run] at hr
    obtain ⟨y, hy, hr⟩ := Option.bind_eq_some_iff.1 hr
    simp only [Tree.run, Option.some.injEq, Prod.mk.injEq] at hr
    obtain ⟨rfl, rfl⟩ := hr
    exact call_ok1 hs (fun k => (([a1.av F] : List AV)[k]?).getD .top) [.agg [.int .i64 v257, .int .i64 v258, a1], .int .i64 v260] [.agg [.int .i64 v257, .int .i64 v258, .bslc (BR.root 0) (.f32 v259)], .int .i64 v260] (fun F' h0 hi hρ => ⟨by simp [DVs.av, DV.av, BR.av, hρ], impl_Matrix_row_fn v257 v258 v259 v260 F' (by rw [hi]; rfl) (st_nil hi) ⟨⟨trivial, trivial, bslc_ok hi (by rw [h0, hρ]; exact rowF32_ok hs (DVs.okAt (DVs.okAt ha 0 rfl) 2 rfl) hv259), trivial⟩, trivial, trivial⟩ hy⟩) rfl rfl
  · cases hr
/-! (impl.Matrix).timesVector -/
noncomputable def impl_Matrix_timesVector_l0_T (v252 : Int) (v253 : Int) (v254 : List Nat) (v255 : List Nat) (s : Int × (List Nat)) : Tree ((Int × (List Nat)) ⊕ ((List Nat))) :=
  (.br (decide (s.1 < v252)) (
   (.call (impl_Matrix_row_g v253 v254 s.1) fun v271 =>
   (.call (impl_dot_g (([] : List Nat) ++ (AM.sub v254 (IntKind.i64.wrap (s.1 * v253)) (IntKind.i64.wrap ((IntKind.i64.wrap (s.1 + (1 : Int))) * v253)))) v255) fun v272 =>
   (.grd (fits (s.2 ++ ([v272] : List Nat)).length) <|
   .leaf (.inl (IntKind.i64.wrap (s.1 + (1 : Int)), s.2 ++ ([v272] : List Nat))))))
  ) (
   .leaf (.inr s.2)
  ))

noncomputable def impl_Matrix_timesVector_l0_g (v252 : Int) (v253 : Int) (v254 : List Nat) (v255 : List Nat) (s0 : Int × (List Nat)) : Option ((List Nat)) := whileM (fun s => (impl_Matrix_timesVector_l0_T v252 v253 v254 v255 s).run) s0
def impl_Matrix_timesVector_l0_E (v252 : Int) (v253 : Int) (v254 : List Nat) (v255 : List Nat) (s : Int × (List Nat)) : Sd := ([.top, .bslc (BR.root 1) (.f32 v255), .ptr 0 (0 : Nat) 0 (3 : Nat), .top, .top, .own 1 0 ((s.2).length), .top, .top, .top, .int .i64 v252, .int .i64 s.1, .top, .top, .top, .top, .top, .top, .top, .top, .top, .top, .top, .top], [.gen [.int .i64 v252, .int .i64 v253, .bslc (BR.root 0) (.f32 v254)] false 0, .row (.f32 s.2) 0])
def impl_Matrix_timesVector_l0_X (v252 : Int) (v253 : Int) (v254 : List Nat) (v255 : List Nat) (x : (List Nat)) : Out := (.normal, [.top, .top, .top, .top, .top, .own 0 0 ((x).length), .top, .top, .top, .top, .top, .top, .top, .top, .top, .top, .top, .top, .top, .top, .top, .top, .top], [.row (.f32 x) 0])
def impl_Matrix_timesVector_l0_kill : List Nat := [1, 0, 0, 1, 1, 0, 1, 1, 1, 0, 0, 1, 1, 1, 1, 1, 1, 1, 1, 1, 1, 1, 1]
def impl_Matrix_timesVector_l0_nx : Exit → List Nat
  | .exit 0 => [1, 1, 1, 1, 1, 0, 1, 1, 1, 1, 1, 1, 1, 1, 1, 1, 1, 1, 1, 1, 1, 1, 1]
  | .ret => [1, 1, 1, 1, 0, 1, 1, 1, 1, 1, 1, 1, 1, 1, 1, 1, 1, 1, 1, 1, 1, 1, 1]
  | _ => []
noncomputable def impl_Matrix_timesVector_LO (v252 : Int) (v253 : Int) (v254 : List Nat) (v255 : List Nat) : LOr := fun id e L =>
  match id with
  | 0 => .need (normA 0 impl_Matrix_timesVector_l0_kill e L = some (impl_Matrix_timesVector_l0_E v252 v253 v254 v255 ((gI (vAt e 10)), (gRF L (vAt e 5))))) (.call (impl_Matrix_timesVector_l0_g v252 v253 v254 v255 ((gI (vAt e 10)), (gRF L (vAt e 5)))) fun x => .leaf (impl_Matrix_timesVector_l0_X v252 v253 v254 v255 x))
  | _ => .fail
noncomputable def impl_Matrix_timesVector_tab : List (FuncId × DFn × Bool) := [(161, impl_Matrix_row_F, true), (135, impl_dot_F, true)]
theorem impl_Matrix_timesVector_hO : OrcOk Try.prog (tabD impl_Matrix_timesVector_tab) (tabM impl_Matrix_timesVector_tab) := tabD_cons impl_Matrix_row_Fok (tabD_cons impl_dot_Fok (tabD_nil _))
theorem impl_Matrix_timesVector_l0_be (v252 : Int) (v253 : Int) (v254 : List Nat) (v255 : List Nat) (s : Int × (List Nat)) : bodyT TT (tabD impl_Matrix_timesVector_tab) (tabM impl_Matrix_timesVector_tab) (impl_Matrix_timesVector_LO v252 v253 v254 v255) 0 impl_Matrix_timesVector_l0_kill impl_Matrix_timesVector_l0_nx (bodyOf Try.f137 0) 0 (impl_Matrix_timesVector_l0_E v252 v253 v254 v255 s) = (impl_Matrix_timesVector_l0_T v252 v253 v254 v255 s).bind fun y => .leaf (outS (impl_Matrix_timesVector_l0_E v252 v253 v254 v255) (impl_Matrix_timesVector_l0_X v252 v253 v254 v255) y) := by kernel_rfl
theorem impl_Matrix_timesVector_l0_ok (v252 : Int) (v253 : Int) (v254 : List Nat) (v255 : List Nat) : LSound Try.prog 0 (impl_Matrix_timesVector_LO v252 v253 v254 v255) 0 (bodyOf Try.f137 0) := by
  intro e L out h
  exact lo_ok (E := impl_Matrix_timesVector_l0_E v252 v253 v254 v255) (gT := impl_Matrix_timesVector_l0_T v252 v253 v254 v255) (X := impl_Matrix_timesVector_l0_X v252 v253 v254 v255) (s0 := ((gI (vAt e 10)), (gRF L (vAt e 5)))) tok impl_Matrix_timesVector_hO mixed (LoopsOk_eq (l := []) (by kernel_rfl) trivial) (impl_Matrix_timesVector_l0_be v252 v253 v254 v255) rfl (by intro x; rfl) h
noncomputable def impl_Matrix_timesVector_T (v252 : Int) (v253 : Int) (v254 : List Nat) (v255 : List Nat) : Tree ((List Nat)) :=
  (.need (some (impl_Matrix_timesVector_l0_E v252 v253 v254 v255 ((0 : Int), ([] : List Nat))) = some (impl_Matrix_timesVector_l0_E v252 v253 v254 v255 ((0 : Int), ([] : List Nat)))) <|
  (.call (impl_Matrix_timesVector_l0_g v252 v253 v254 v255 ((0 : Int), ([] : List Nat))) fun v273 =>
  .leaf v273))

noncomputable def impl_Matrix_timesVector_g (v252 : Int) (v253 : Int) (v254 : List Nat) (v255 : List Nat) : Option ((List Nat)) := (impl_Matrix_timesVector_T v252 v253 v254 v255).run
def impl_Matrix_timesVector_enc (v252 : Int) (v253 : Int) (v254 : List Nat) (v255 : List Nat) (y : (List Nat)) : Rs := (.own 0 0 ((y).length), [.row (.f32 y) 0])
theorem impl_Matrix_timesVector_den (v252 : Int) (v253 : Int) (v254 : List Nat) (v255 : List Nat) : (den TT (tabD impl_Matrix_timesVector_tab) (tabM impl_Matrix_timesVector_tab) (impl_Matrix_timesVector_LO v252 v253 v254 v255) (codeOf Try.f137) ([.agg [.int .i64 v252, .int .i64 v253, .bslc (BR.root 0) (.f32 v254)], .bslc (BR.root 1) (.f32 v255)] ++ List.replicate (Try.f137.ntmps - ([.agg [.int .i64 v252, .int .i64 v253, .bslc (BR.root 0) (.f32 v254)], .bslc (BR.root 1) (.f32 v255)] : List DV).length) .undef) []).bind (retD TT Try.f137.results.toList 0) = (impl_Matrix_timesVector_T v252 v253 v254 v255).bind fun y => .leaf (impl_Matrix_timesVector_enc v252 v253 v254 v255 y) := by kernel_rfl
theorem impl_Matrix_timesVector_fn (v252 : Int) (v253 : Int) (v254 : List Nat) (v255 : List Nat) (F : Fr) (hm : F.ids.length = 0) (h0 : St F [] F.H0) (hA : DVs.Ok F [] [.agg [.int .i64 v252, .int .i64 v253, .bslc (BR.root 0) (.f32 v254)], .bslc (BR.root 1) (.f32 v255)]) {y : (List Nat)} (hy : impl_Matrix_timesVector_g v252 v253 v254 v255 = some y) : ∃ H', FnOk Try.prog 137 (DVs.av F [.agg [.int .i64 v252, .int .i64 v253, .bslc (BR.root 0) (.f32 v254)], .bslc (BR.root 1) (.f32 v255)]) F.H0 ((impl_Matrix_timesVector_enc v252 v253 v254 v255 y).1.av F) H' ∧ St F (impl_Matrix_timesVector_enc v252 v253 v254 v255 y).2 H' ∧ (impl_Matrix_timesVector_enc v252 v253 v254 v255 y).1.Ok F (impl_Matrix_timesVector_enc v252 v253 v254 v255 y).2 :=
  fn_fin tok impl_Matrix_timesVector_hO mixed Try.func137 Try.call137 (by kernel_rfl) (LoopsOk_eq (l := [(0, bodyOf Try.f137 0)]) (by kernel_rfl) ⟨impl_Matrix_timesVector_l0_ok v252 v253 v254 v255, trivial⟩) (impl_Matrix_timesVector_den v252 v253 v254 v255) hy hm h0 hA
noncomputable def impl_Matrix_timesVector_F : DFn := fun args L =>
  match args with
  | [.agg [.int .i64 v252, .int .i64 v253, a1], a2] =>
    optT (rowF32 L a1) fun v254 =>
    optT (rowF32 L a2) fun v255 =>
    .call (impl_Matrix_timesVector_g v252 v253 v254 v255) fun y => .leaf (.own (L.length + 0) 0 ((y).length), L ++ [.row (.f32 y) 0])
  | _ => .fail
theorem impl_Matrix_timesVector_Fok : COk Try.prog 137 impl_Matrix_timesVector_F true := by
  intro F L H args r L' hs ha hr
  unfold impl_Matrix_timesVector_F at hr
  split at hr
  · rename_i v252 v253 a1 a2
    obtain ⟨v254, hv254, hr⟩ := optT_run hr
    obtain ⟨v255, hv255, hr⟩ := optT_run hr
    simp only [Tree.run] at hr
    obtain ⟨y, hy, hr⟩ := Option.bind_eq_some_iff.1 hr
    simp only [Tree.run, Option.some.injEq, Prod.mk.injEq] at hr
    obtain ⟨rfl, rfl⟩ := hr
    exact call_ok1 hs (fun k => (([a1.av F, a2.av F] : List AV)[k]?).getD .top) [.agg [.int .i64 v252, .int .i64 v253, a1], a2] [.agg [.int .i64 v252, .int .i64 v253, .bslc (BR.root 0) (.f32 v254)], .bslc (BR.root 1) (.f32 v255)] (fun F' h0 hi hρ => ⟨by simp [DVs.av, DV.av, BR.av, hρ], impl_Matrix_timesVector_fn v252 v253 v254 v255 F' (by rw [hi]; rfl) (st_nil hi) ⟨⟨trivial, trivial, bslc_ok hi (by rw [h0, hρ]; exact rowF32_ok hs (DVs.okAt (DVs.okAt ha 0 rfl) 2 rfl) hv254), trivial⟩, bslc_ok hi (by rw [h0, hρ]; exact rowF32_ok hs (DVs.okAt ha 1 rfl) hv255), trivial⟩ hy⟩) rfl rfl
  · cases hr
/-! impl.TimesVector -/
noncomputable def impl_TimesVector_LO (v246 : Int) (v247 : Int) (v248 : List Nat) (v249 : List Nat) : LOr := fun id e L =>
  match id with
  | _ => .fail
noncomputable def impl_TimesVector_tab : List (FuncId × DFn × Bool) := [(102, impl_ValidMatrix_F, true), (81, impl_IsVector_F, true), (82, impl_lengthF_F, true), (137, impl_Matrix_timesVector_F, true), (136, impl_allFinite_F, true)]
theorem impl_TimesVector_hO : OrcOk Try.prog (tabD impl_TimesVector_tab) (tabM impl_TimesVector_tab) := tabD_cons impl_ValidMatrix_Fok (tabD_cons impl_IsVector_Fok (tabD_cons impl_lengthF_Fok (tabD_cons impl_Matrix_timesVector_Fok (tabD_cons impl_allFinite_Fok (tabD_nil _)))))
noncomputable def impl_TimesVector_T (v246 : Int) (v247 : Int) (v248 : List Nat) (v249 : List Nat) : Tree ((Unit) ⊕ ((List Nat))) :=
  (.call (impl_ValidMatrix_g v246 v247 v248) fun v250 =>
  (.br (!v250) (
   .leaf (.inl ())
  ) (
   (.call (impl_IsVector_g v249) fun v251 =>
   (.br (!v251) (
    .leaf (.inl ())
   ) (
    (.br (!decide ((impl_lengthF_v v249) = v247)) (
     .leaf (.inl ())
    ) (
     (.call (impl_Matrix_timesVector_g v246 v247 v248 v249) fun v274 =>
     (.call (impl_allFinite_g v274) fun v275 =>
     (.sum v275 (fun v276 =>
      .leaf (.inl ())
     ) (fun v277 =>
      .leaf (.inr v274)
     ))))
    ))
   )))
  )))

noncomputable def impl_TimesVector_g (v246 : Int) (v247 : Int) (v248 : List Nat) (v249 : List Nat) : Option ((Unit) ⊕ ((List Nat))) := (impl_TimesVector_T v246 v247 v248 v249).run
def impl_TimesVector_enc (v246 : Int) (v247 : Int) (v248 : List Nat) (v249 : List Nat) (y : (Unit) ⊕ ((List Nat))) : Rs := (match y with | .inl y => (.tup [.nilslc, .lit false], []) | .inr y => (.tup [.own 0 0 ((y).length), .lit true], [.row (.f32 y) 0]))
theorem impl_TimesVector_den (v246 : Int) (v247 : Int) (v248 : List Nat) (v249 : List Nat) : (den TT (tabD impl_TimesVector_tab) (tabM impl_TimesVector_tab) (impl_TimesVector_LO v246 v247 v248 v249) (codeOf Try.f85) ([.agg [.int .i64 v246, .int .i64 v247, .bslc (BR.root 0) (.f32 v248)], .bslc (BR.root 1) (.f32 v249)] ++ List.replicate (Try.f85.ntmps - ([.agg [.int .i64 v246, .int .i64 v247, .bslc (BR.root 0) (.f32 v248)], .bslc (BR.root 1) (.f32 v249)] : List DV).length) .undef) []).bind (retD TT Try.f85.results.toList 0) = (impl_TimesVector_T v246 v247 v248 v249).bind fun y => .leaf (impl_TimesVector_enc v246 v247 v248 v249 y) := by kernel_rfl
theorem impl_TimesVector_fn (v246 : Int) (v247 : Int) (v248 : List Nat) (v249 : List Nat) (F : Fr) (hm : F.ids.length = 0) (h0 : St F [] F.H0) (hA : DVs.Ok F [] [.agg [.int .i64 v246, .int .i64 v247, .bslc (BR.root 0) (.f32 v248)], .bslc (BR.root 1) (.f32 v249)]) {y : (Unit) ⊕ ((List Nat))} (hy : impl_TimesVector_g v246 v247 v248 v249 = some y) : ∃ H', FnOk Try.prog 85 (DVs.av F [.agg [.int .i64 v246, .int .i64 v247, .bslc (BR.root 0) (.f32 v248)], .bslc (BR.root 1) (.f32 v249)]) F.H0 ((impl_TimesVector_enc v246 v247 v248 v249 y).1.av F) H' ∧ St F (impl_TimesVector_enc v246 v247 v248 v249 y).2 H' ∧ (impl_TimesVector_enc v246 v247 v248 v249 y).1.Ok F (impl_TimesVector_enc v246 v247 v248 v249 y).2 :=
  fn_fin tok impl_TimesVector_hO mixed Try.func85 Try.call85 (by kernel_rfl) (LoopsOk_eq (l := []) (by kernel_rfl) trivial) (impl_TimesVector_den v246 v247 v248 v249) hy hm h0 hA
noncomputable def impl_TimesVector_F : DFn := fun args L =>
  match args with
  | [.agg [.int .i64 v246, .int .i64 v247, a1], a2] =>
    optT (rowF32 L a1) fun v248 =>
    optT (rowF32 L a2) fun v249 =>
    .call (impl_TimesVector_g v246 v247 v248 v249) fun y => .sum y (fun y0 => .leaf (.tup [.nilslc, .lit false], L)) (fun z0 => .leaf (.tup [.own (L.length + 0) 0 ((z0).length), .lit true], L ++ [.row (.f32 z0) 0]))
  | _ => .fail
theorem impl_TimesVector_Fok : COk Try.prog 85 impl_TimesVector_F true := by
  intro F L H args r L' hs ha hr
  unfold impl_TimesVector_F at hr
  split at hr
  · rename_i v246 v247 a1 a2
    obtain ⟨v248, hv248, hr⟩ := optT_run hr
    obtain ⟨v249, hv249, hr⟩ := optT_run hr
    simp only [Tree.run] at hr
    obtain ⟨y, hy, hr⟩ := Option.bind_eq_some_iff.1 hr
    cases y with
    | inl y =>
      simp only [Tree.run, Option.some.injEq, Prod.mk.injEq] at hr
      obtain ⟨rfl, rfl⟩ := hr
      exact call_ok0 hs (fun k => (([a1.av F, a2.av F] : List AV)[k]?).getD .top) [.agg [.int .i64 v246, .int .i64 v247, a1], a2] [.agg [.int .i64 v246, .int .i64 v247, .bslc (BR.root 0) (.f32 v248)], .bslc (BR.root 1) (.f32 v249)] (fun F' h0 hi hρ => ⟨by simp [DVs.av, DV.av, BR.av, hρ], impl_TimesVector_fn v246 v247 v248 v249 F' (by rw [hi]; rfl) (st_nil hi) ⟨⟨trivial, trivial, bslc_ok hi (by rw [h0, hρ]; exact rowF32_ok hs (DVs.okAt (DVs.okAt ha 0 rfl) 2 rfl) hv248), trivial⟩, bslc_ok hi (by rw [h0, hρ]; exact rowF32_ok hs (DVs.okAt ha 1 rfl) hv249), trivial⟩ hy⟩) rfl
    | inr y =>
      simp only [Tree.run, Option.some.injEq, Prod.mk.injEq] at hr
      obtain ⟨rfl, rfl⟩ := hr
      exact call_ok1 hs (fun k => (([a1.av F, a2.av F] : List AV)[k]?).getD .top) [.agg [.int .i64 v246, .int .i64 v247, a1], a2] [.agg [.int .i64 v246, .int .i64 v247, .bslc (BR.root 0) (.f32 v248)], .bslc (BR.root 1) (.f32 v249)] (fun F' h0 hi hρ => ⟨by simp [DVs.av, DV.av, BR.av, hρ], impl_TimesVector_fn v246 v247 v248 v249 F' (by rw [hi]; rfl) (st_nil hi) ⟨⟨trivial, trivial, bslc_ok hi (by rw [h0, hρ]; exact rowF32_ok hs (DVs.okAt (DVs.okAt ha 0 rfl) 2 rfl) hv248), trivial⟩, bslc_ok hi (by rw [h0, hρ]; exact rowF32_ok hs (DVs.okAt ha 1 rfl) hv249), trivial⟩ hy⟩) rfl rfl
  · cases hr
/-! impl.finite -/
noncomputable def impl_finite_LO (v327 : Nat) : LOr := fun id e L =>
  match id with
  | _ => .fail
noncomputable def impl_finite_tab : List (FuncId × DFn × Bool) := [(43, impl_IsFinite_F, true)]
theorem impl_finite_hO : OrcOk Try.prog (tabD impl_finite_tab) (tabM impl_finite_tab) := tabD_cons impl_IsFinite_Fok (tabD_nil _)
noncomputable def impl_finite_T (v327 : Nat) : Tree ((Unit) ⊕ (Nat)) :=
  (.br (!(impl_IsFinite_v v327)) (
   .leaf (.inl ())
  ) (
   .leaf (.inr v327)
  ))

noncomputable def impl_finite_g (v327 : Nat) : Option ((Unit) ⊕ (Nat)) := (impl_finite_T v327).run
def impl_finite_enc (v327 : Nat) (y : (Unit) ⊕ (Nat)) : Rs := (match y with | .inl y => (.tup [.flt .f32 (0 : Nat), .lit false], []) | .inr y => (.tup [.flt .f32 y, .lit true], []))
theorem impl_finite_den (v327 : Nat) : (den TT (tabD impl_finite_tab) (tabM impl_finite_tab) (impl_finite_LO v327) (codeOf Try.f138) ([.flt .f32 v327] ++ List.replicate (Try.f138.ntmps - ([.flt .f32 v327] : List DV).length) .undef) []).bind (retD TT Try.f138.results.toList 0) = (impl_finite_T v327).bind fun y => .leaf (impl_finite_enc v327 y) := by kernel_rfl
theorem impl_finite_fn (v327 : Nat) (F : Fr) (hm : F.ids.length = 0) (h0 : St F [] F.H0) (hA : DVs.Ok F [] [.flt .f32 v327]) {y : (Unit) ⊕ (Nat)} (hy : impl_finite_g v327 = some y) : ∃ H', FnOk Try.prog 138 (DVs.av F [.flt .f32 v327]) F.H0 ((impl_finite_enc v327 y).1.av F) H' ∧ St F (impl_finite_enc v327 y).2 H' ∧ (impl_finite_enc v327 y).1.Ok F (impl_finite_enc v327 y).2 :=
  fn_fin tok impl_finite_hO mixed Try.func138 Try.call138 (by kernel_rfl) (LoopsOk_eq (l := []) (by kernel_rfl) trivial) (impl_finite_den v327) hy hm h0 hA
def impl_finite_v (v327 : Nat) : (Unit) ⊕ (Nat) :=
  if (!(impl_IsFinite_v v327)) = true then (
   .inl ()
  ) else (
   .inr v327
  )
theorem impl_finite_tot (v327 : Nat) : impl_finite_g v327 = some (impl_finite_v v327) := by
  unfold impl_finite_g impl_finite_T impl_finite_v
  simp only [Tree.run]
  repeat' (first | rfl | split)
noncomputable def impl_finite_F : DFn := fun args L =>
  match args with
  | [.flt .f32 v327] =>
    .sum (impl_finite_v v327) (fun y0 => .leaf (.tup [.flt .f32 (0 : Nat), .lit false], L)) (fun z0 => .leaf (.tup [.flt .f32 z0, .lit true], L))
  | _ => .fail
theorem impl_finite_Fok : COk Try.prog 138 impl_finite_F true := by
  intro F L H args r L' hs ha hr
  unfold impl_finite_F at hr
  split at hr
  · rename_i v327
    have hy := impl_finite_tot v327
    generalize impl_finite_v v327 = y at hy hr
    cases y with
    | inl y =>
      simp only [Tree.run, Option.some.injEq, Prod.mk.injEq] at hr
      obtain ⟨rfl, rfl⟩ := hr
      exact call_ok0 hs (fun k => (([] : List AV)[k]?).getD .top) [.flt .f32 v327] [.flt .f32 v327] (fun F' h0 hi hρ => ⟨by simp [DVs.av, DV.av, BR.av, hρ], impl_finite_fn v327 F' (by rw [hi]; rfl) (st_nil hi) ⟨trivial, trivial⟩ hy⟩) rfl
    | inr y =>
      simp only [Tree.run, Option.some.injEq, Prod.mk.injEq] at hr
      obtain ⟨rfl, rfl⟩ := hr
      exact call_ok0 hs (fun k => (([] : List AV)[k]?).getD .top) [.flt .f32 v327] [.flt .f32 v327] (fun F' h0 hi hρ => ⟨by simp [DVs.av, DV.av, BR.av, hρ], impl_finite_fn v327 F' (by rw [hi]; rfl) (st_nil hi) ⟨trivial, trivial⟩ hy⟩) rfl
  · cases hr
/-! impl.RayleighOf -/
noncomputable def impl_RayleighOf_LO (v317 : Int) (v318 : Int) (v319 : List Nat) (v320 : List Nat) : LOr := fun id e L =>
  match id with
  | _ => .fail
noncomputable def impl_RayleighOf_tab : List (FuncId × DFn × Bool) := [(85, impl_TimesVector_F, true), (135, impl_dot_F, true), (138, impl_finite_F, true)]
theorem impl_RayleighOf_hO : OrcOk Try.prog (tabD impl_RayleighOf_tab) (tabM impl_RayleighOf_tab) := tabD_cons impl_TimesVector_Fok (tabD_cons impl_dot_Fok (tabD_cons impl_finite_Fok (tabD_nil _)))
noncomputable def impl_RayleighOf_T (v317 : Int) (v318 : Int) (v319 : List Nat) (v320 : List Nat) : Tree ((Unit) ⊕ (Nat)) :=
  (.call (impl_TimesVector_g v317 v318 v319 v320) fun v321 =>
  (.sum v321 (fun v322 =>
   .leaf (.inl ())
  ) (fun v323 =>
   (.br (!decide (v317 = v318)) (
    .leaf (.inl ())
   ) (
    (.call (impl_dot_g v320 v320) fun v324 =>
    (.br (feq .f32 v324 (0 : Nat)) (
     .leaf (.inl ())
    ) (
     (.call (impl_dot_g v320 v323) fun v325 =>
     (.call (impl_dot_g v320 v320) fun v326 =>
     (.sum (impl_finite_v (fdiv .f32 v325 v326)) (fun v328 =>
      .leaf (.inl ())
     ) (fun v329 =>
      .leaf (.inr v329)
     ))))
    )))
   ))
  )))

noncomputable def impl_RayleighOf_g (v317 : Int) (v318 : Int) (v319 : List Nat) (v320 : List Nat) : Option ((Unit) ⊕ (Nat)) := (impl_RayleighOf_T v317 v318 v319 v320).run
def impl_RayleighOf_enc (v317 : Int) (v318 : Int) (v319 : List Nat) (v320 : List Nat) (y : (Unit) ⊕ (Nat)) : Rs := (match y with | .inl y => (.tup [.flt .f32 (0 : Nat), .lit false], []) | .inr y => (.tup [.flt .f32 y, .lit true], []))
theorem impl_RayleighOf_den (v317 : Int) (v318 : Int) (v319 : List Nat) (v320 : List Nat) : (den TT (tabD impl_RayleighOf_tab) (tabM impl_RayleighOf_tab) (impl_RayleighOf_LO v317 v318 v319 v320) (codeOf Try.f86) ([.agg [.int .i64 v317, .int .i64 v318, .bslc (BR.root 0) (.f32 v319)], .bslc (BR.root 1) (.f32 v320)] ++ List.replicate (Try.f86.ntmps - ([.agg [.int .i64 v317, .int .i64 v318, .bslc (BR.root 0) (.f32 v319)], .bslc (BR.root 1) (.f32 v320)] : List DV).length) .undef) []).bind (retD TT Try.f86.results.toList 0) = (impl_RayleighOf_T v317 v318 v319 v320).bind fun y => .leaf (impl_RayleighOf_enc v317 v318 v319 v320 y) := by kernel_rfl
theorem impl_RayleighOf_fn (v317 : Int) (v318 : Int) (v319 : List Nat) (v320 : List Nat) (F : Fr) (hm : F.ids.length = 0) (h0 : St F [] F.H0) (hA : DVs.Ok F [] [.agg [.int .i64 v317, .int .i64 v318, .bslc (BR.root 0) (.f32 v319)], .bslc (BR.root 1) (.f32 v320)]) {y : (Unit) ⊕ (Nat)} (hy : impl_RayleighOf_g v317 v318 v319 v320 = some y) : ∃ H', FnOk Try.prog 86 (DVs.av F [.agg [.int .i64 v317, .int .i64 v318, .bslc (BR.root 0) (.f32 v319)], .bslc (BR.root 1) (.f32 v320)]) F.H0 ((impl_RayleighOf_enc v317 v318 v319 v320 y).1.av F) H' ∧ St F (impl_RayleighOf_enc v317 v318 v319 v320 y).2 H' ∧ (impl_RayleighOf_enc v317 v318 v319 v320 y).1.Ok F (impl_RayleighOf_enc v317 v318 v319 v320 y).2 :=
  fn_fin tok impl_RayleighOf_hO mixed Try.func86 Try.call86 (by kernel_rfl) (LoopsOk_eq (l := []) (by kernel_rfl) trivial) (impl_RayleighOf_den v317 v318 v319 v320) hy hm h0 hA
noncomputable def impl_RayleighOf_F : DFn := fun args L =>
  match args with
  | [.agg [.int .i64 v317, .int .i64 v318, a1], a2] =>
    optT (rowF32 L a1) fun v319 =>
    optT (rowF32 L a2) fun v320 =>
    .call (impl_RayleighOf_g v317 v318 v319 v320) fun y => .sum y (fun y0 => .leaf (.tup [.flt .f32 (0 : Nat), .lit false], L)) (fun z0 => .leaf (.tup [.flt .f32 z0, .lit true], L))
  | _ => .fail
theorem impl_RayleighOf_Fok : COk Try.prog 86 impl_RayleighOf_F true := by
  intro F L H args r L' hs ha hr
  unfold impl_RayleighOf_F at hr
  split at hr
  · rename_i v317 v318 a1 a2
    obtain ⟨v319, hv319, hr⟩ := optT_run hr
    obtain ⟨v320, hv320, hr⟩ := optT_run hr
    simp only [Tree.run] at hr
    obtain ⟨y, hy, hr⟩ := Option.bind_eq_some_iff.1 hr
    cases y with
    | inl y =>
      simp only [Tree.run, Option.some.injEq, Prod.mk.injEq] at hr
      obtain ⟨rfl, rfl⟩ := hr
      exact call_ok0 hs (fun k => (([a1.av F, a2.av F] : List AV)[k]?).getD .top) [.agg [.int .i64 v317, .int .i64 v318, a1], a2] [.agg [.int .i64 v317, .int .i64 v318, .bslc (BR.root 0) (.f32 v319)], .bslc (BR.root 1) (.f32 v320)] (fun F' h0 hi hρ => ⟨by simp [DVs.av, DV.av, BR.av, hρ], impl_RayleighOf_fn v317 v318 v319 v320 F' (by rw [hi]; rfl) (st_nil hi) ⟨⟨trivial, trivial, bslc_ok hi (by rw [h0, hρ]; exact rowF32_ok hs (DVs.okAt (DVs.okAt ha 0 rfl) 2 rfl) hv319), trivial⟩, bslc_ok hi (by rw [h0, hρ]; exact rowF32_ok hs (DVs.okAt ha 1 rfl) hv320), trivial⟩ hy⟩) rfl
    | inr y =>
      simp only [Tree.run, Option.some.injEq, Prod.mk.injEq] at hr
      obtain ⟨rfl, rfl⟩ := hr
      exact call_ok0 hs (fun k => (([a1.av F, a2.av F] : List AV)[k]?).getD .top) [.agg [.int .i64 v317, .int .i64 v318, a1], a2] [.agg [.int .i64 v317, .int .i64 v318, .bslc (BR.root 0) (.f32 v319)], .bslc (BR.root 1) (.f32 v320)] (fun F' h0 hi hρ => ⟨by simp [DVs.av, DV.av, BR.av, hρ], impl_RayleighOf_fn v317 v318 v319 v320 F' (by rw [hi]; rfl) (st_nil hi) ⟨⟨trivial, trivial, bslc_ok hi (by rw [h0, hρ]; exact rowF32_ok hs (DVs.okAt (DVs.okAt ha 0 rfl) 2 rfl) hv319), trivial⟩, bslc_ok hi (by rw [h0, hρ]; exact rowF32_ok hs (DVs.okAt ha 1 rfl) hv320), trivial⟩ hy⟩) rfl
  · cases hr
/-! impl.PowerRounds -/
noncomputable def impl_PowerRounds_l0_T (v170 : Int) (s : Unit) : Tree ((Unit) ⊕ ((Unit) ⊕ (Unit))) :=
  (.br (decide ((0 : Int) < v170)) (
   .leaf (.inr (.inl ()))
  ) (
   .leaf (.inr (.inr ()))
  ))

noncomputable def impl_PowerRounds_l0_g (v170 : Int) (s0 : Unit) : Option ((Unit) ⊕ (Unit)) := whileM (fun s => (impl_PowerRounds_l0_T v170 s).run) s0
def impl_PowerRounds_l0_E (v166 : Int) (v167 : Int) (v168 : List Nat) (v169 : List Nat) (v170 : Int) (s : Unit) : Sd := ([.top, .top, .top, .ptr 0 (0 : Nat) 0 (3 : Nat), .top, .top, .top, .top, .top, .nilslc, .lit false, .top, .top, .top, .top, .top, .top, .top, .top, .top, .top, .top, .top, .top, .top, .top, .top, .top, .top, .top, .top, .top, .top, .top, .top, .top, .top, .top, .top, .int .i64 v170, .int .i64 (0 : Int), .top, .top, .top, .top, .top, .top, .top, .top, .top, .top, .top, .top, .top, .top, .top, .top, .top, .top, .top, .top, .top, .top, .top, .top, .top, .top, .top, .top, .top], [.gen [.int .i64 v166, .int .i64 v167, .bslc (BR.root 0) (.f32 v168)] false 0])
def impl_PowerRounds_l0_X (v166 : Int) (v167 : Int) (v168 : List Nat) (v169 : List Nat) (v170 : Int) (x : (Unit) ⊕ (Unit)) : Out := (match x with | .inl x => (.ret, [.top, .top, .top, .top, .top, .top, .nilslc, .flt .f32 (0 : Nat), .lit false, .top, .top, .top, .top, .top, .top, .top, .top, .top, .top, .top, .top, .top, .top, .top, .top, .top, .top, .top, .top, .top, .top, .top, .top, .top, .top, .top, .top, .top, .top, .top, .top, .top, .top, .top, .top, .top, .top, .top, .top, .top, .top, .top, .top, .top, .top, .top, .top, .top, .top, .top, .top, .top, .top, .top, .top, .top, .top, .top, .top, .top], []) | .inr x => (.normal, [.top, .top, .top, .ptr 0 (0 : Nat) 0 (3 : Nat), .top, .top, .top, .top, .top, .nilslc, .lit false, .top, .top, .top, .top, .top, .top, .top, .top, .top, .top, .top, .top, .top, .top, .top, .top, .top, .top, .top, .top, .top, .top, .top, .top, .top, .top, .top, .top, .top, .top, .top, .top, .top, .top, .top, .top, .top, .top, .top, .top, .top, .top, .top, .top, .top, .top, .top, .top, .top, .top, .top, .top, .top, .top, .top, .top, .top, .top, .top], [.gen [.int .i64 v166, .int .i64 v167, .bslc (BR.root 0) (.f32 v168)] false 0]))
def impl_PowerRounds_l0_kill : List Nat := [1, 1, 1, 0, 1, 1, 1, 1, 1, 0, 0, 1, 1, 1, 1, 1, 1, 1, 1, 1, 1, 1, 1, 1, 1, 1, 1, 1, 1, 1, 1, 1, 1, 1, 1, 1, 1, 1, 1, 0, 0, 1, 1, 1, 1, 1, 1, 1, 1, 1, 1, 1, 1, 1, 1, 1, 1, 1, 1, 1, 1, 1, 1, 1, 1, 1, 1, 1, 1, 1]
def impl_PowerRounds_l0_nx : Exit → List Nat
  | .exit 0 => [1, 1, 1, 0, 1, 1, 1, 1, 1, 0, 0, 1, 1, 1, 1, 1, 1, 1, 1, 1, 1, 1, 1, 1, 1, 1, 1, 1, 1, 1, 1, 1, 1, 1, 1, 1, 1, 1, 1, 1, 1, 1, 1, 1, 1, 1, 1, 1, 1, 1, 1, 1, 1, 1, 1, 1, 1, 1, 1, 1, 1, 1, 1, 1, 1, 1, 1, 1, 1, 1]
  | .ret => [1, 1, 1, 1, 1, 1, 0, 0, 0, 1, 1, 1, 1, 1, 1, 1, 1, 1, 1, 1, 1, 1, 1, 1, 1, 1, 1, 1, 1, 1, 1, 1, 1, 1, 1, 1, 1, 1, 1, 1, 1, 1, 1, 1, 1, 1, 1, 1, 1, 1, 1, 1, 1, 1, 1, 1, 1, 1, 1, 1, 1, 1, 1, 1, 1, 1, 1, 1, 1, 1]
  | _ => []
noncomputable def impl_PowerRounds_l0_1_T (v166 : Int) (v167 : Int) (v168 : List Nat) (v170 : Int) (s : (Int × (List Nat)) ⊕ (Int)) : Tree (((Int × (List Nat)) ⊕ (Int)) ⊕ ((Unit) ⊕ (((List Nat)) ⊕ (Unit)))) :=
  (match s with
  | .inl s => (
  (.br (decide (s.1 < v170)) (
   (.call (impl_TimesVector_g v166 v167 v168 s.2) fun v306 =>
   (.sum v306 (fun v307 =>
    .leaf (.inr (.inl ()))
   ) (fun v308 =>
    (.call (impl_UnitVector_g v308) fun v309 =>
    (.sum v309 (fun v310 =>
     .leaf (.inl (.inr (IntKind.i64.wrap (s.1 + (1 : Int)))))
    ) (fun v311 =>
     .leaf (.inl (.inl (IntKind.i64.wrap (s.1 + (1 : Int)), v311)))
    )))
   )))
  ) (
   .leaf (.inr (.inr (.inl s.2)))
  )))
  | .inr s => (
  (.br (decide (s < v170)) (
   .leaf (.inr (.inl ()))
  ) (
   .leaf (.inr (.inr (.inr ())))
  ))))

noncomputable def impl_PowerRounds_l0_1_g (v166 : Int) (v167 : Int) (v168 : List Nat) (v170 : Int) (s0 : (Int × (List Nat)) ⊕ (Int)) : Option ((Unit) ⊕ (((List Nat)) ⊕ (Unit))) := whileM (fun s => (impl_PowerRounds_l0_1_T v166 v167 v168 v170 s).run) s0
def impl_PowerRounds_l0_1_E (v166 : Int) (v167 : Int) (v168 : List Nat) (v169 : List Nat) (v170 : Int) (s : (Int × (List Nat)) ⊕ (Int)) : Sd := (match s with | .inl s => ( ([.top, .top, .top, .ptr 0 (0 : Nat) 0 (3 : Nat), .top, .top, .top, .top, .top, .own 1 0 ((s.2).length), .lit true, .top, .top, .top, .top, .top, .top, .top, .top, .top, .top, .top, .top, .top, .top, .top, .top, .top, .top, .top, .top, .top, .top, .top, .top, .top, .top, .top, .top, .int .i64 v170, .int .i64 s.1, .top, .top, .top, .top, .top, .top, .top, .top, .top, .top, .top, .top, .top, .top, .top, .top, .top, .top, .top, .top, .top, .top, .top, .top, .top, .top, .top, .top, .top], [.gen [.int .i64 v166, .int .i64 v167, .bslc (BR.root 0) (.f32 v168)] false 0, .row (.f32 s.2) 0])) | .inr s => ( ([.top, .top, .top, .ptr 0 (0 : Nat) 0 (3 : Nat), .top, .top, .top, .top, .top, .nilslc, .lit false, .top, .top, .top, .top, .top, .top, .top, .top, .top, .top, .top, .top, .top, .top, .top, .top, .top, .top, .top, .top, .top, .top, .top, .top, .top, .top, .top, .top, .int .i64 v170, .int .i64 s, .top, .top, .top, .top, .top, .top, .top, .top, .top, .top, .top, .top, .top, .top, .top, .top, .top, .top, .top, .top, .top, .top, .top, .top, .top, .top, .top, .top, .top], [.gen [.int .i64 v166, .int .i64 v167, .bslc (BR.root 0) (.f32 v168)] false 0]))) 
def impl_PowerRounds_l0_1_X (v166 : Int) (v167 : Int) (v168 : List Nat) (v169 : List Nat) (v170 : Int) (x : (Unit) ⊕ (((List Nat)) ⊕ (Unit))) : Out := (match x with | .inl x => (.ret, [.top, .top, .top, .top, .top, .top, .nilslc, .flt .f32 (0 : Nat), .lit false, .top, .top, .top, .top, .top, .top, .top, .top, .top, .top, .top, .top, .top, .top, .top, .top, .top, .top, .top, .top, .top, .top, .top, .top, .top, .top, .top, .top, .top, .top, .top, .top, .top, .top, .top, .top, .top, .top, .top, .top, .top, .top, .top, .top, .top, .top, .top, .top, .top, .top, .top, .top, .top, .top, .top, .top, .top, .top, .top, .top, .top], []) | .inr x => (match x with | .inl x => (.normal, [.top, .top, .top, .ptr 0 (0 : Nat) 0 (3 : Nat), .top, .top, .top, .top, .top, .own 1 0 ((x).length), .lit true, .top, .top, .top, .top, .top, .top, .top, .top, .top, .top, .top, .top, .top, .top, .top, .top, .top, .top, .top, .top, .top, .top, .top, .top, .top, .top, .top, .top, .top, .top, .top, .top, .top, .top, .top, .top, .top, .top, .top, .top, .top, .top, .top, .top, .top, .top, .top, .top, .top, .top, .top, .top, .top, .top, .top, .top, .top, .top, .top], [.gen [.int .i64 v166, .int .i64 v167, .bslc (BR.root 0) (.f32 v168)] false 0, .row (.f32 x) 0]) | .inr x => (.normal, [.top, .top, .top, .ptr 0 (0 : Nat) 0 (3 : Nat), .top, .top, .top, .top, .top, .nilslc, .lit false, .top, .top, .top, .top, .top, .top, .top, .top, .top, .top, .top, .top, .top, .top, .top, .top, .top, .top, .top, .top, .top, .top, .top, .top, .top, .top, .top, .top, .top, .top, .top, .top, .top, .top, .top, .top, .top, .top, .top, .top, .top, .top, .top, .top, .top, .top, .top, .top, .top, .top, .top, .top, .top, .top, .top, .top, .top, .top, .top], [.gen [.int .i64 v166, .int .i64 v167, .bslc (BR.root 0) (.f32 v168)] false 0])))
def impl_PowerRounds_l0_1_kill : List Nat := [1, 1, 1, 0, 1, 1, 1, 1, 1, 0, 0, 1, 1, 1, 1, 1, 1, 1, 1, 1, 1, 1, 1, 1, 1, 1, 1, 1, 1, 1, 1, 1, 1, 1, 1, 1, 1, 1, 1, 0, 0, 1, 1, 1, 1, 1, 1, 1, 1, 1, 1, 1, 1, 1, 1, 1, 1, 1, 1, 1, 1, 1, 1, 1, 1, 1, 1, 1, 1, 1]
def impl_PowerRounds_l0_1_nx : Exit → List Nat
  | .exit 0 => [1, 1, 1, 0, 1, 1, 1, 1, 1, 0, 0, 1, 1, 1, 1, 1, 1, 1, 1, 1, 1, 1, 1, 1, 1, 1, 1, 1, 1, 1, 1, 1, 1, 1, 1, 1, 1, 1, 1, 1, 1, 1, 1, 1, 1, 1, 1, 1, 1, 1, 1, 1, 1, 1, 1, 1, 1, 1, 1, 1, 1, 1, 1, 1, 1, 1, 1, 1, 1, 1]
  | .ret => [1, 1, 1, 1, 1, 1, 0, 0, 0, 1, 1, 1, 1, 1, 1, 1, 1, 1, 1, 1, 1, 1, 1, 1, 1, 1, 1, 1, 1, 1, 1, 1, 1, 1, 1, 1, 1, 1, 1, 1, 1, 1, 1, 1, 1, 1, 1, 1, 1, 1, 1, 1, 1, 1, 1, 1, 1, 1, 1, 1, 1, 1, 1, 1, 1, 1, 1, 1, 1, 1]
  | _ => []
noncomputable def impl_PowerRounds_LO (v166 : Int) (v167 : Int) (v168 : List Nat) (v169 : List Nat) (v170 : Int) : LOr := fun id e L =>
  match id with
  | 0 => (match (match (vAt e 9) with | .nilslc => true | _ => false) with | true => .need (normA 0 impl_PowerRounds_l0_kill e L = some (impl_PowerRounds_l0_E v166 v167 v168 v169 v170 ())) (.call (impl_PowerRounds_l0_g v170 ()) fun x => .sum x (fun b0 => .leaf (impl_PowerRounds_l0_X v166 v167 v168 v169 v170 (.inl b0))) (fun c0 => .leaf (impl_PowerRounds_l0_X v166 v167 v168 v169 v170 (.inr c0)))) | false => .need (normA 0 impl_PowerRounds_l0_1_kill e L = some (impl_PowerRounds_l0_1_E v166 v167 v168 v169 v170 (.inl ((gI (vAt e 40)), (gRF L (vAt e 9)))))) (.call (impl_PowerRounds_l0_1_g v166 v167 v168 v170 (.inl ((gI (vAt e 40)), (gRF L (vAt e 9))))) fun x => .sum x (fun b0 => .leaf (impl_PowerRounds_l0_1_X v166 v167 v168 v169 v170 (.inl b0))) (fun c0 => .sum c0 (fun b1 => .leaf (impl_PowerRounds_l0_1_X v166 v167 v168 v169 v170 (.inr (.inl b1)))) (fun c1 => .leaf (impl_PowerRounds_l0_1_X v166 v167 v168 v169 v170 (.inr (.inr c1)))))))
  | _ => .fail
noncomputable def impl_PowerRounds_tab : List (FuncId × DFn × Bool) := [(47, impl_isSquare_F, true), (81, impl_IsVector_F, true), (82, impl_lengthF_F, true), (83, impl_isRounds_F, true), (84, impl_UnitVector_F, true), (85, impl_TimesVector_F, true), (86, impl_RayleighOf_F, true)]
theorem impl_PowerRounds_hO : OrcOk Try.prog (tabD impl_PowerRounds_tab) (tabM impl_PowerRounds_tab) := tabD_cons impl_isSquare_Fok (tabD_cons impl_IsVector_Fok (tabD_cons impl_lengthF_Fok (tabD_cons impl_isRounds_Fok (tabD_cons impl_UnitVector_Fok (tabD_cons impl_TimesVector_Fok (tabD_cons impl_RayleighOf_Fok (tabD_nil _)))))))
theorem impl_PowerRounds_l0_be (v166 : Int) (v167 : Int) (v168 : List Nat) (v169 : List Nat) (v170 : Int) (s : Unit) : bodyT TT (tabD impl_PowerRounds_tab) (tabM impl_PowerRounds_tab) (impl_PowerRounds_LO v166 v167 v168 v169 v170) 0 impl_PowerRounds_l0_kill impl_PowerRounds_l0_nx (bodyOf Try.f31 0) 0 (impl_PowerRounds_l0_E v166 v167 v168 v169 v170 s) = (impl_PowerRounds_l0_T v170 s).bind fun y => .leaf (outS (impl_PowerRounds_l0_E v166 v167 v168 v169 v170) (impl_PowerRounds_l0_X v166 v167 v168 v169 v170) y) := by kernel_rfl
theorem impl_PowerRounds_l0_1_be0 (v166 : Int) (v167 : Int) (v168 : List Nat) (v169 : List Nat) (v170 : Int) (s : Int × (List Nat)) : bodyT TT (tabD impl_PowerRounds_tab) (tabM impl_PowerRounds_tab) (impl_PowerRounds_LO v166 v167 v168 v169 v170) 0 impl_PowerRounds_l0_1_kill impl_PowerRounds_l0_1_nx (bodyOf Try.f31 0) 0 (impl_PowerRounds_l0_1_E v166 v167 v168 v169 v170 (.inl s)) = (impl_PowerRounds_l0_1_T v166 v167 v168 v170 (.inl s)).bind fun y => .leaf (outS (impl_PowerRounds_l0_1_E v166 v167 v168 v169 v170) (impl_PowerRounds_l0_1_X v166 v167 v168 v169 v170) y) := by kernel_rfl
theorem impl_PowerRounds_l0_1_be1 (v166 : Int) (v167 : Int) (v168 : List Nat) (v169 : List Nat) (v170 : Int) (s : Int) : bodyT TT (tabD impl_PowerRounds_tab) (tabM impl_PowerRounds_tab) (impl_PowerRounds_LO v166 v167 v168 v169 v170) 0 impl_PowerRounds_l0_1_kill impl_PowerRounds_l0_1_nx (bodyOf Try.f31 0) 0 (impl_PowerRounds_l0_1_E v166 v167 v168 v169 v170 (.inr s)) = (impl_PowerRounds_l0_1_T v166 v167 v168 v170 (.inr s)).bind fun y => .leaf (outS (impl_PowerRounds_l0_1_E v166 v167 v168 v169 v170) (impl_PowerRounds_l0_1_X v166 v167 v168 v169 v170) y) := by kernel_rfl
theorem impl_PowerRounds_l0_1_be (v166 : Int) (v167 : Int) (v168 : List Nat) (v169 : List Nat) (v170 : Int) (s : (Int × (List Nat)) ⊕ (Int)) : bodyT TT (tabD impl_PowerRounds_tab) (tabM impl_PowerRounds_tab) (impl_PowerRounds_LO v166 v167 v168 v169 v170) 0 impl_PowerRounds_l0_1_kill impl_PowerRounds_l0_1_nx (bodyOf Try.f31 0) 0 (impl_PowerRounds_l0_1_E v166 v167 v168 v169 v170 s) = (impl_PowerRounds_l0_1_T v166 v167 v168 v170 s).bind fun y => .leaf (outS (impl_PowerRounds_l0_1_E v166 v167 v168 v169 v170) (impl_PowerRounds_l0_1_X v166 v167 v168 v169 v170) y) := by 
  rcases s with s | s
  · exact impl_PowerRounds_l0_1_be0 v166 v167 v168 v169 v170 s
  · exact impl_PowerRounds_l0_1_be1 v166 v167 v168 v169 v170 s
theorem impl_PowerRounds_l0_ok (v166 : Int) (v167 : Int) (v168 : List Nat) (v169 : List Nat) (v170 : Int) : LSound Try.prog 0 (impl_PowerRounds_LO v166 v167 v168 v169 v170) 0 (bodyOf Try.f31 0) := by
  intro e L out h
  change (match (match (vAt e 9) with | .nilslc => true | _ => false) with | true => _ | false => _ : Tree Out).run = some out at h
  split at h
  · exact lo_ok (E := impl_PowerRounds_l0_E v166 v167 v168 v169 v170) (gT := impl_PowerRounds_l0_T v170) (X := impl_PowerRounds_l0_X v166 v167 v168 v169 v170) (s0 := ()) tok impl_PowerRounds_hO mixed (LoopsOk_eq (l := []) (by kernel_rfl) trivial) (impl_PowerRounds_l0_be v166 v167 v168 v169 v170) rfl (by intro x; (cases x with | inl b => rfl | inr x => exact rfl)) h
  ·
    exact lo_ok (E := impl_PowerRounds_l0_1_E v166 v167 v168 v169 v170) (gT := impl_PowerRounds_l0_1_T v166 v167 v168 v170) (X := impl_PowerRounds_l0_1_X v166 v167 v168 v169 v170) (s0 := .inl ((gI (vAt e 40)), (gRF L (vAt e 9)))) tok impl_PowerRounds_hO mixed (LoopsOk_eq (l := []) (by kernel_rfl) trivial) (impl_PowerRounds_l0_1_be v166 v167 v168 v169 v170) rfl (by intro x; (cases x with | inl b => rfl | inr x => (cases x with | inl b => rfl | inr x => exact rfl))) h
noncomputable def impl_PowerRounds_T (v166 : Int) (v167 : Int) (v168 : List Nat) (v169 : List Nat) (v170 : Int) : Tree ((Unit) ⊕ (Nat × (List Nat))) :=
  (.call (impl_isSquare_g v166 v167 v168) fun v201 =>
  (.br (!v201) (
   .leaf (.inl ())
  ) (
   (.call (impl_IsVector_g v169) fun v204 =>
   (.br (!v204) (
    .leaf (.inl ())
   ) (
    (.br (!decide ((impl_lengthF_v v169) = v166)) (
     .leaf (.inl ())
    ) (
     (.br (!(impl_isRounds_v v170)) (
      .leaf (.inl ())
     ) (
      (.call (impl_UnitVector_g v169) fun v237 =>
      (.sum v237 (fun v238 =>
       (.need (some (impl_PowerRounds_l0_E v166 v167 v168 v169 v170 ()) = some (impl_PowerRounds_l0_E v166 v167 v168 v169 v170 ())) <|
       (.call (impl_PowerRounds_l0_g v170 ()) fun v241 =>
       (.sum v241 (fun v242 =>
        .leaf (.inl ())
       ) (fun v243 =>
        .leaf (.inl ())
       ))))
      ) (fun v239 =>
       (.need (some (impl_PowerRounds_l0_1_E v166 v167 v168 v169 v170 (.inl ((0 : Int), v239))) = some (impl_PowerRounds_l0_1_E v166 v167 v168 v169 v170 (.inl ((0 : Int), v239)))) <|
       (.call (impl_PowerRounds_l0_1_g v166 v167 v168 v170 (.inl ((0 : Int), v239))) fun v312 =>
       (.sum v312 (fun v313 =>
        .leaf (.inl ())
       ) (fun v314 =>
        (.sum v314 (fun v315 =>
         (.call (impl_RayleighOf_g v166 v167 v168 v315) fun v330 =>
         (.sum v330 (fun v331 =>
          .leaf (.inl ())
         ) (fun v332 =>
          .leaf (.inr (v332, v315))
         )))
        ) (fun v316 =>
         .leaf (.inl ())
        ))
       ))))
      )))
     ))
    ))
   )))
  )))

noncomputable def impl_PowerRounds_g (v166 : Int) (v167 : Int) (v168 : List Nat) (v169 : List Nat) (v170 : Int) : Option ((Unit) ⊕ (Nat × (List Nat))) := (impl_PowerRounds_T v166 v167 v168 v169 v170).run
def impl_PowerRounds_enc (v166 : Int) (v167 : Int) (v168 : List Nat) (v169 : List Nat) (v170 : Int) (y : (Unit) ⊕ (Nat × (List Nat))) : Rs := (match y with | .inl y => (.tup [.nilslc, .flt .f32 (0 : Nat), .lit false], []) | .inr y => (.tup [.own 0 0 ((y.2).length), .flt .f32 y.1, .lit true], [.row (.f32 y.2) 0]))
theorem impl_PowerRounds_den (v166 : Int) (v167 : Int) (v168 : List Nat) (v169 : List Nat) (v170 : Int) : (den TT (tabD impl_PowerRounds_tab) (tabM impl_PowerRounds_tab) (impl_PowerRounds_LO v166 v167 v168 v169 v170) (codeOf Try.f31) ([.agg [.int .i64 v166, .int .i64 v167, .bslc (BR.root 0) (.f32 v168)], .bslc (BR.root 1) (.f32 v169), .int .i64 v170] ++ List.replicate (Try.f31.ntmps - ([.agg [.int .i64 v166, .int .i64 v167, .bslc (BR.root 0) (.f32 v168)], .bslc (BR.root 1) (.f32 v169), .int .i64 v170] : List DV).length) .undef) []).bind (retD TT Try.f31.results.toList 0) = (impl_PowerRounds_T v166 v167 v168 v169 v170).bind fun y => .leaf (impl_PowerRounds_enc v166 v167 v168 v169 v170 y) := by kernel_rfl
theorem impl_PowerRounds_fn (v166 : Int) (v167 : Int) (v168 : List Nat) (v169 : List Nat) (v170 : Int) (F : Fr) (hm : F.ids.length = 0) (h0 : St F [] F.H0) (hA : DVs.Ok F [] [.agg [.int .i64 v166, .int .i64 v167, .bslc (BR.root 0) (.f32 v168)], .bslc (BR.root 1) (.f32 v169), .int .i64 v170]) {y : (Unit) ⊕ (Nat × (List Nat))} (hy : impl_PowerRounds_g v166 v167 v168 v169 v170 = some y) : ∃ H', FnOk Try.prog 31 (DVs.av F [.agg [.int .i64 v166, .int .i64 v167, .bslc (BR.root 0) (.f32 v168)], .bslc (BR.root 1) (.f32 v169), .int .i64 v170]) F.H0 ((impl_PowerRounds_enc v166 v167 v168 v169 v170 y).1.av F) H' ∧ St F (impl_PowerRounds_enc v166 v167 v168 v169 v170 y).2 H' ∧ (impl_PowerRounds_enc v166 v167 v168 v169 v170 y).1.Ok F (impl_PowerRounds_enc v166 v167 v168 v169 v170 y).2 :=
  fn_fin tok impl_PowerRounds_hO mixed Try.func31 Try.call31 (by kernel_rfl) (LoopsOk_eq (l := [(0, bodyOf Try.f31 0)]) (by kernel_rfl) ⟨impl_PowerRounds_l0_ok v166 v167 v168 v169 v170, trivial⟩) (impl_PowerRounds_den v166 v167 v168 v169 v170) hy hm h0 hA
noncomputable def impl_PowerRounds_F : DFn := fun args L =>
  match args with
  | [.agg [.int .i64 v166, .int .i64 v167, a1], a2, .int .i64 v170] =>
    optT (rowF32 L a1) fun v168 =>
    optT (rowF32 L a2) fun v169 =>
    .call (impl_PowerRounds_g v166 v167 v168 v169 v170) fun y => .sum y (fun y0 => .leaf (.tup [.nilslc, .flt .f32 (0 : Nat), .lit false], L)) (fun z0 => .leaf (.tup [.own (L.length + 0) 0 ((z0.2).length), .flt .f32 z0.1, .lit true], L ++ [.row (.f32 z0.2) 0]))
  | _ => .fail
theorem impl_PowerRounds_Fok : COk Try.prog 31 impl_PowerRounds_F true := by
  intro F L H args r L' hs ha hr
  unfold impl_PowerRounds_F at hr
  split at hr
  · rename_i v166 v167 a1 a2 v170
    obtain ⟨v168, hv168, hr⟩ := optT_run hr
    obtain ⟨v169, hv169, hr⟩ := optT_run hr
    simp only [Tree.run] at hr
    obtain ⟨y, hy, hr⟩ := Option.bind_eq_some_iff.1 hr
    cases y with
    | inl y =>
      simp only [Tree.run, Option.some.injEq, Prod.mk.injEq] at hr
      obtain ⟨rfl, rfl⟩ := hr
      exact call_ok0 hs (fun k => (([a1.av F, a2.av F] : List AV)[k]?).getD .top) [.agg [.int .i64 v166, .int .i64 v167, a1], a2, .int .i64 v170] [.agg [.int .i64 v166, .int .i64 v167, .bslc (BR.root 0) (.f32 v168)], .bslc (BR.root 1) (.f32 v169), .int .i64 v170] (fun F' h0 hi hρ => ⟨by simp [DVs.av, DV.av, BR.av, hρ], impl_PowerRounds_fn v166 v167 v168 v169 v170 F' (by rw [hi]; rfl) (st_nil hi) ⟨⟨trivial, trivial, bslc_ok hi (by rw [h0, hρ]; exact rowF32_ok hs (DVs.okAt (DVs.okAt ha 0 rfl) 2 rfl) hv168), trivial⟩, bslc_ok hi (by rw [h0, hρ]; exact rowF32_ok hs (DVs.okAt ha 1 rfl) hv169), trivial, trivial⟩ hy⟩) rfl
    | inr y =>
      simp only [Tree.run, Option.some.injEq, Prod.mk.injEq] at hr
      obtain ⟨rfl, rfl⟩ := hr
      exact call_ok1 hs (fun k => (([a1.av F, a2.av F] : List AV)[k]?).getD .top) [.agg [.int .i64 v166, .int .i64 v167, a1], a2, .int .i64 v170] [.agg [.int .i64 v166, .int .i64 v167, .bslc (BR.root 0) (.f32 v168)], .bslc (BR.root 1) (.f32 v169), .int .i64 v170] (fun F' h0 hi hρ => ⟨by simp [DVs.av, DV.av, BR.av, hρ], impl_PowerRounds_fn v166 v167 v168 v169 v170 F' (by rw [hi]; rfl) (st_nil hi) ⟨⟨trivial, trivial, bslc_ok hi (by rw [h0, hρ]; exact rowF32_ok hs (DVs.okAt (DVs.okAt ha 0 rfl) 2 rfl) hv168), trivial⟩, bslc_ok hi (by rw [h0, hρ]; exact rowF32_ok hs (DVs.okAt ha 1 rfl) hv169), trivial, trivial⟩ hy⟩) rfl rfl
  · cases hr
/-! laws.sameFloat -/
noncomputable def laws_sameFloat_LO (v339 : Nat) (v340 : Nat) : LOr := fun id e L =>
  match id with
  | _ => .fail
noncomputable def laws_sameFloat_tab : List (FuncId × DFn × Bool) := []
theorem laws_sameFloat_hO : OrcOk Try.prog (tabD laws_sameFloat_tab) (tabM laws_sameFloat_tab) := tabD_nil _
noncomputable def laws_sameFloat_T (v339 : Nat) (v340 : Nat) : Tree (Bool) :=
  (.br (!feq .f64 v339 v339) (
   (.br (!feq .f64 v339 v339) (
    .leaf (!feq .f64 v340 v340)
   ) (
    .leaf false
   ))
  ) (
   (.br (!feq .f64 v340 v340) (
    (.br (!feq .f64 v339 v339) (
     .leaf (!feq .f64 v340 v340)
    ) (
     .leaf false
    ))
   ) (
    (.br (feq .f64 v339 (0 : Nat)) (
     (.br (feq .f64 v340 (0 : Nat)) (
      .leaf ((fgrt .f64 (fdiv .f64 (4607182418800017408 : Nat) v339) (0 : Nat)) == (fgrt .f64 (fdiv .f64 (4607182418800017408 : Nat) v340) (0 : Nat)))
     ) (
      .leaf (feq .f64 v339 v340)
     ))
    ) (
     .leaf (feq .f64 v339 v340)
    ))
   ))
  ))

noncomputable def laws_sameFloat_g (v339 : Nat) (v340 : Nat) : Option (Bool) := (laws_sameFloat_T v339 v340).run
def laws_sameFloat_enc (v339 : Nat) (v340 : Nat) (y : Bool) : Rs := (.bool y, [])
theorem laws_sameFloat_den (v339 : Nat) (v340 : Nat) : (den TT (tabD laws_sameFloat_tab) (tabM laws_sameFloat_tab) (laws_sameFloat_LO v339 v340) (codeOf Try.f13) ([.flt .f64 v339, .flt .f64 v340] ++ List.replicate (Try.f13.ntmps - ([.flt .f64 v339, .flt .f64 v340] : List DV).length) .undef) []).bind (retD TT Try.f13.results.toList 0) = (laws_sameFloat_T v339 v340).bind fun y => .leaf (laws_sameFloat_enc v339 v340 y) := by kernel_rfl
theorem laws_sameFloat_fn (v339 : Nat) (v340 : Nat) (F : Fr) (hm : F.ids.length = 0) (h0 : St F [] F.H0) (hA : DVs.Ok F [] [.flt .f64 v339, .flt .f64 v340]) {y : Bool} (hy : laws_sameFloat_g v339 v340 = some y) : ∃ H', FnOk Try.prog 13 (DVs.av F [.flt .f64 v339, .flt .f64 v340]) F.H0 ((laws_sameFloat_enc v339 v340 y).1.av F) H' ∧ St F (laws_sameFloat_enc v339 v340 y).2 H' ∧ (laws_sameFloat_enc v339 v340 y).1.Ok F (laws_sameFloat_enc v339 v340 y).2 :=
  fn_fin tok laws_sameFloat_hO mixed Try.func13 Try.call13 (by kernel_rfl) (LoopsOk_eq (l := []) (by kernel_rfl) trivial) (laws_sameFloat_den v339 v340) hy hm h0 hA
def laws_sameFloat_v (v339 : Nat) (v340 : Nat) : Bool :=
  if (!feq .f64 v339 v339) = true then (
   if (!feq .f64 v339 v339) = true then (
    !feq .f64 v340 v340
   ) else (
    false
   )
  ) else (
   if (!feq .f64 v340 v340) = true then (
    if (!feq .f64 v339 v339) = true then (
     !feq .f64 v340 v340
    ) else (
     false
    )
   ) else (
    if (feq .f64 v339 (0 : Nat)) = true then (
     if (feq .f64 v340 (0 : Nat)) = true then (
      (fgrt .f64 (fdiv .f64 (4607182418800017408 : Nat) v339) (0 : Nat)) == (fgrt .f64 (fdiv .f64 (4607182418800017408 : Nat) v340) (0 : Nat))
     ) else (
      feq .f64 v339 v340
     )
    ) else (
     feq .f64 v339 v340
    )
   )
  )
theorem laws_sameFloat_tot (v339 : Nat) (v340 : Nat) : laws_sameFloat_g v339 v340 = some (laws_sameFloat_v v339 v340) := by
  unfold laws_sameFloat_g laws_sameFloat_T laws_sameFloat_v
  simp only [Tree.run]
  repeat' (first | rfl | split)
noncomputable def laws_sameFloat_F : DFn := fun args L =>
  match args with
  | [.flt .f64 v339, .flt .f64 v340] =>
    .leaf (.bool (laws_sameFloat_v v339 v340), L)
  | _ => .fail
theorem laws_sameFloat_Fok : COk Try.prog 13 laws_sameFloat_F true := by
  intro F L H args r L' hs ha hr
  unfold laws_sameFloat_F at hr
  split at hr
  · rename_i v339 v340
    have hy := laws_sameFloat_tot v339 v340
    generalize laws_sameFloat_v v339 v340 = y at hy hr
    simp only [Tree.run, Option.some.injEq, Prod.mk.injEq] at hr
    obtain ⟨rfl, rfl⟩ := hr
    exact call_ok0 hs (fun k => (([] : List AV)[k]?).getD .top) [.flt .f64 v339, .flt .f64 v340] [.flt .f64 v339, .flt .f64 v340] (fun F' h0 hi hρ => ⟨by simp [DVs.av, DV.av, BR.av, hρ], laws_sameFloat_fn v339 v340 F' (by rw [hi]; rfl) (st_nil hi) ⟨trivial, trivial, trivial⟩ hy⟩) rfl
  · cases hr
/-! laws.eqFloat32S -/
noncomputable def laws_eqFloat32S_l0_T (v336 : List Nat) (v337 : List Nat) (s : Int) : Tree ((Int) ⊕ ((Unit) ⊕ (Unit))) :=
  (.br (decide (s < ((v336.length : Nat) : Int))) (
   (.grd (inb s v336.length) <|
   (.grd (inb s v337.length) <|
   (.br (!(laws_sameFloat_v (wid (nth v336 (Int.toNat s))) (wid (nth v337 (Int.toNat s))))) (
    .leaf (.inr (.inl ()))
   ) (
    .leaf (.inl (IntKind.i64.wrap (s + (1 : Int))))
   ))))
  ) (
   .leaf (.inr (.inr ()))
  ))

noncomputable def laws_eqFloat32S_l0_g (v336 : List Nat) (v337 : List Nat) (s0 : Int) : Option ((Unit) ⊕ (Unit)) := whileM (fun s => (laws_eqFloat32S_l0_T v336 v337 s).run) s0
def laws_eqFloat32S_l0_E (v336 : List Nat) (v337 : List Nat) (s : Int) : Sd := ([.bslc (BR.root 0) (.f32 v336), .bslc (BR.root 1) (.f32 v337), .top, .top, .top, .int .i64 s, .top, .top, .top, .top, .top, .top, .top, .top, .top, .top, .top, .top, .top, .top, .top, .top, .top, .top, .top, .top, .top, .top, .top], [])
def laws_eqFloat32S_l0_X (v336 : List Nat) (v337 : List Nat) (x : (Unit) ⊕ (Unit)) : Out := (match x with | .inl x => (.ret, [.top, .top, .top, .top, .lit false, .top, .top, .top, .top, .top, .top, .top, .top, .top, .top, .top, .top, .top, .top, .top, .top, .top, .top, .top, .top, .top, .top, .top, .top], []) | .inr x => (.normal, [.top, .top, .top, .top, .top, .top, .top, .top, .top, .top, .top, .top, .top, .top, .top, .top, .top, .top, .top, .top, .top, .top, .top, .top, .top, .top, .top, .top, .top], []))
def laws_eqFloat32S_l0_kill : List Nat := [0, 0, 1, 1, 1, 0, 1, 1, 1, 1, 1, 1, 1, 1, 1, 1, 1, 1, 1, 1, 1, 1, 1, 1, 1, 1, 1, 1, 1]
def laws_eqFloat32S_l0_nx : Exit → List Nat
  | .exit 0 => [1, 1, 1, 1, 1, 1, 1, 1, 1, 1, 1, 1, 1, 1, 1, 1, 1, 1, 1, 1, 1, 1, 1, 1, 1, 1, 1, 1, 1]
  | .ret => [1, 1, 1, 1, 0, 1, 1, 1, 1, 1, 1, 1, 1, 1, 1, 1, 1, 1, 1, 1, 1, 1, 1, 1, 1, 1, 1, 1, 1]
  | _ => []
noncomputable def laws_eqFloat32S_LO (v336 : List Nat) (v337 : List Nat) : LOr := fun id e L =>
  match id with
  | 0 => .need (normA 0 laws_eqFloat32S_l0_kill e L = some (laws_eqFloat32S_l0_E v336 v337 (gI (vAt e 5)))) (.call (laws_eqFloat32S_l0_g v336 v337 (gI (vAt e 5))) fun x => .sum x (fun b0 => .leaf (laws_eqFloat32S_l0_X v336 v337 (.inl b0))) (fun c0 => .leaf (laws_eqFloat32S_l0_X v336 v337 (.inr c0))))
  | _ => .fail
noncomputable def laws_eqFloat32S_tab : List (FuncId × DFn × Bool) := [(13, laws_sameFloat_F, true)]
theorem laws_eqFloat32S_hO : OrcOk Try.prog (tabD laws_eqFloat32S_tab) (tabM laws_eqFloat32S_tab) := tabD_cons laws_sameFloat_Fok (tabD_nil _)
theorem laws_eqFloat32S_l0_be (v336 : List Nat) (v337 : List Nat) (s : Int) : bodyT TT (tabD laws_eqFloat32S_tab) (tabM laws_eqFloat32S_tab) (laws_eqFloat32S_LO v336 v337) 0 laws_eqFloat32S_l0_kill laws_eqFloat32S_l0_nx (bodyOf Try.f12 0) 0 (laws_eqFloat32S_l0_E v336 v337 s) = (laws_eqFloat32S_l0_T v336 v337 s).bind fun y => .leaf (outS (laws_eqFloat32S_l0_E v336 v337) (laws_eqFloat32S_l0_X v336 v337) y) := by kernel_rfl
theorem laws_eqFloat32S_l0_ok (v336 : List Nat) (v337 : List Nat) : LSound Try.prog 0 (laws_eqFloat32S_LO v336 v337) 0 (bodyOf Try.f12 0) := by
  intro e L out h
  exact lo_ok (E := laws_eqFloat32S_l0_E v336 v337) (gT := laws_eqFloat32S_l0_T v336 v337) (X := laws_eqFloat32S_l0_X v336 v337) (s0 := (gI (vAt e 5))) tok laws_eqFloat32S_hO mixed (LoopsOk_eq (l := []) (by kernel_rfl) trivial) (laws_eqFloat32S_l0_be v336 v337) rfl (by intro x; (cases x with | inl b => rfl | inr x => exact rfl)) h
noncomputable def laws_eqFloat32S_T (v336 : List Nat) (v337 : List Nat) : Tree (Bool) :=
  (.br (!decide (((v336.length : Nat) : Int) = ((v337.length : Nat) : Int))) (
   .leaf false
  ) (
   (.need (some (laws_eqFloat32S_l0_E v336 v337 (0 : Int)) = some (laws_eqFloat32S_l0_E v336 v337 (0 : Int))) <|
   (.call (laws_eqFloat32S_l0_g v336 v337 (0 : Int)) fun v343 =>
   (.sum v343 (fun v344 =>
    .leaf false
   ) (fun v345 =>
    .leaf true
   ))))
  ))

noncomputable def laws_eqFloat32S_g (v336 : List Nat) (v337 : List Nat) : Option (Bool) := (laws_eqFloat32S_T v336 v337).run
def laws_eqFloat32S_enc (v336 : List Nat) (v337 : List Nat) (y : Bool) : Rs := (.bool y, [])
theorem laws_eqFloat32S_den (v336 : List Nat) (v337 : List Nat) : (den TT (tabD laws_eqFloat32S_tab) (tabM laws_eqFloat32S_tab) (laws_eqFloat32S_LO v336 v337) (codeOf Try.f12) ([.bslc (BR.root 0) (.f32 v336), .bslc (BR.root 1) (.f32 v337)] ++ List.replicate (Try.f12.ntmps - ([.bslc (BR.root 0) (.f32 v336), .bslc (BR.root 1) (.f32 v337)] : List DV).length) .undef) []).bind (retD TT Try.f12.results.toList 0) = (laws_eqFloat32S_T v336 v337).bind fun y => .leaf (laws_eqFloat32S_enc v336 v337 y) := by kernel_rfl
theorem laws_eqFloat32S_fn (v336 : List Nat) (v337 : List Nat) (F : Fr) (hm : F.ids.length = 0) (h0 : St F [] F.H0) (hA : DVs.Ok F [] [.bslc (BR.root 0) (.f32 v336), .bslc (BR.root 1) (.f32 v337)]) {y : Bool} (hy : laws_eqFloat32S_g v336 v337 = some y) : ∃ H', FnOk Try.prog 12 (DVs.av F [.bslc (BR.root 0) (.f32 v336), .bslc (BR.root 1) (.f32 v337)]) F.H0 ((laws_eqFloat32S_enc v336 v337 y).1.av F) H' ∧ St F (laws_eqFloat32S_enc v336 v337 y).2 H' ∧ (laws_eqFloat32S_enc v336 v337 y).1.Ok F (laws_eqFloat32S_enc v336 v337 y).2 :=
  fn_fin tok laws_eqFloat32S_hO mixed Try.func12 Try.call12 (by kernel_rfl) (LoopsOk_eq (l := [(0, bodyOf Try.f12 0)]) (by kernel_rfl) ⟨laws_eqFloat32S_l0_ok v336 v337, trivial⟩) (laws_eqFloat32S_den v336 v337) hy hm h0 hA
noncomputable def laws_eqFloat32S_F : DFn := fun args L =>
  match args with
  | [a1, a2] =>
    optT (rowF32 L a1) fun v336 =>
    optT (rowF32 L a2) fun v337 =>
    .call (laws_eqFloat32S_g v336 v337) fun y => .leaf (.bool y, L)
  | _ => .fail
theorem laws_eqFloat32S_Fok : COk Try.prog 12 laws_eqFloat32S_F true := by
  intro F L H args r L' hs ha hr
  unfold laws_eqFloat32S_F at hr
  split at hr
  · rename_i a1 a2
    obtain ⟨v336, hv336, hr⟩ := optT_run hr
    obtain ⟨v337, hv337, hr⟩ := optT_run hr
    simp only [Tree.run] at hr
    obtain ⟨y, hy, hr⟩ := Option.bind_eq_some_iff.1 hr
    simp only [Tree.run, Option.some.injEq, Prod.mk.injEq] at hr
    obtain ⟨rfl, rfl⟩ := hr
    exact call_ok0 hs (fun k => (([a1.av F, a2.av F] : List AV)[k]?).getD .top) [a1, a2] [.bslc (BR.root 0) (.f32 v336), .bslc (BR.root 1) (.f32 v337)] (fun F' h0 hi hρ => ⟨by simp [DVs.av, DV.av, BR.av, hρ], laws_eqFloat32S_fn v336 v337 F' (by rw [hi]; rfl) (st_nil hi) ⟨bslc_ok hi (by rw [h0, hρ]; exact rowF32_ok hs (DVs.okAt ha 0 rfl) hv336), bslc_ok hi (by rw [h0, hρ]; exact rowF32_ok hs (DVs.okAt ha 1 rfl) hv337), trivial⟩ hy⟩) rfl
  · cases hr
/-! laws.eqMatrix -/
noncomputable def laws_eqMatrix_LO (v348 : Int) (v349 : Int) (v350 : List Nat) (v351 : Int) (v352 : Int) (v353 : List Nat) : LOr := fun id e L =>
  match id with
  | _ => .fail
noncomputable def laws_eqMatrix_tab : List (FuncId × DFn × Bool) := [(12, laws_eqFloat32S_F, true)]
theorem laws_eqMatrix_hO : OrcOk Try.prog (tabD laws_eqMatrix_tab) (tabM laws_eqMatrix_tab) := tabD_cons laws_eqFloat32S_Fok (tabD_nil _)
noncomputable def laws_eqMatrix_T (v348 : Int) (v349 : Int) (v350 : List Nat) (v351 : Int) (v352 : Int) (v353 : List Nat) : Tree (Bool) :=
  (.br (!decide (v348 = v351)) (
   .leaf false
  ) (
   (.br (!decide (v349 = v352)) (
    .leaf false
   ) (
    (.call (laws_eqFloat32S_g v350 v353) fun v354 =>
    (.br (!v354) (
     .leaf false
    ) (
     .leaf true
    )))
   ))
  ))

noncomputable def laws_eqMatrix_g (v348 : Int) (v349 : Int) (v350 : List Nat) (v351 : Int) (v352 : Int) (v353 : List Nat) : Option (Bool) := (laws_eqMatrix_T v348 v349 v350 v351 v352 v353).run
def laws_eqMatrix_enc (v348 : Int) (v349 : Int) (v350 : List Nat) (v351 : Int) (v352 : Int) (v353 : List Nat) (y : Bool) : Rs := (.bool y, [])
theorem laws_eqMatrix_den (v348 : Int) (v349 : Int) (v350 : List Nat) (v351 : Int) (v352 : Int) (v353 : List Nat) : (den TT (tabD laws_eqMatrix_tab) (tabM laws_eqMatrix_tab) (laws_eqMatrix_LO v348 v349 v350 v351 v352 v353) (codeOf Try.f20) ([.agg [.int .i64 v348, .int .i64 v349, .bslc (BR.root 0) (.f32 v350)], .agg [.int .i64 v351, .int .i64 v352, .bslc (BR.root 1) (.f32 v353)]] ++ List.replicate (Try.f20.ntmps - ([.agg [.int .i64 v348, .int .i64 v349, .bslc (BR.root 0) (.f32 v350)], .agg [.int .i64 v351, .int .i64 v352, .bslc (BR.root 1) (.f32 v353)]] : List DV).length) .undef) []).bind (retD TT Try.f20.results.toList 0) = (laws_eqMatrix_T v348 v349 v350 v351 v352 v353).bind fun y => .leaf (laws_eqMatrix_enc v348 v349 v350 v351 v352 v353 y) := by kernel_rfl
theorem laws_eqMatrix_fn (v348 : Int) (v349 : Int) (v350 : List Nat) (v351 : Int) (v352 : Int) (v353 : List Nat) (F : Fr) (hm : F.ids.length = 0) (h0 : St F [] F.H0) (hA : DVs.Ok F [] [.agg [.int .i64 v348, .int .i64 v349, .bslc (BR.root 0) (.f32 v350)], .agg [.int .i64 v351, .int .i64 v352, .bslc (BR.root 1) (.f32 v353)]]) {y : Bool} (hy : laws_eqMatrix_g v348 v349 v350 v351 v352 v353 = some y) : ∃ H', FnOk Try.prog 20 (DVs.av F [.agg [.int .i64 v348, .int .i64 v349, .bslc (BR.root 0) (.f32 v350)], .agg [.int .i64 v351, .int .i64 v352, .bslc (BR.root 1) (.f32 v353)]]) F.H0 ((laws_eqMatrix_enc v348 v349 v350 v351 v352 v353 y).1.av F) H' ∧ St F (laws_eqMatrix_enc v348 v349 v350 v351 v352 v353 y).2 H' ∧ (laws_eqMatrix_enc v348 v349 v350 v351 v352 v353 y).1.Ok F (laws_eqMatrix_enc v348 v349 v350 v351 v352 v353 y).2 :=
  fn_fin tok laws_eqMatrix_hO mixed Try.func20 Try.call20 (by kernel_rfl) (LoopsOk_eq (l := []) (by kernel_rfl) trivial) (laws_eqMatrix_den v348 v349 v350 v351 v352 v353) hy hm h0 hA
noncomputable def laws_eqMatrix_F : DFn := fun args L =>
  match args with
  | [.agg [.int .i64 v348, .int .i64 v349, a1], .agg [.int .i64 v351, .int .i64 v352, a2]] =>
    optT (rowF32 L a1) fun v350 =>
    optT (rowF32 L a2) fun v353 =>
    .call (laws_eqMatrix_g v348 v349 v350 v351 v352 v353) fun y => .leaf (.bool y, L)
  | _ => .fail
theorem laws_eqMatrix_Fok : COk Try.prog 20 laws_eqMatrix_F true := by
  intro F L H args r L' hs ha hr
  unfold laws_eqMatrix_F at hr
  split at hr
  · rename_i v348 v349 a1 v351 v352 a2
    obtain ⟨v350, hv350, hr⟩ := optT_run hr
    obtain ⟨v353, hv353, hr⟩ := optT_run hr
    simp only [Tree.run] at hr
    obtain ⟨y, hy, hr⟩ := Option.bind_eq_some_iff.1 hr
    simp only [Tree.run, Option.some.injEq, Prod.mk.injEq] at hr
    obtain ⟨rfl, rfl⟩ := hr
    exact call_ok0 hs (fun k => (([a1.av F, a2.av F] : List AV)[k]?).getD .top) [.agg [.int .i64 v348, .int .i64 v349, a1], .agg [.int .i64 v351, .int .i64 v352, a2]] [.agg [.int .i64 v348, .int .i64 v349, .bslc (BR.root 0) (.f32 v350)], .agg [.int .i64 v351, .int .i64 v352, .bslc (BR.root 1) (.f32 v353)]] (fun F' h0 hi hρ => ⟨by simp [DVs.av, DV.av, BR.av, hρ], laws_eqMatrix_fn v348 v349 v350 v351 v352 v353 F' (by rw [hi]; rfl) (st_nil hi) ⟨⟨trivial, trivial, bslc_ok hi (by rw [h0, hρ]; exact rowF32_ok hs (DVs.okAt (DVs.okAt ha 0 rfl) 2 rfl) hv350), trivial⟩, ⟨trivial, trivial, bslc_ok hi (by rw [h0, hρ]; exact rowF32_ok hs (DVs.okAt (DVs.okAt ha 1 rfl) 2 rfl) hv353), trivial⟩, trivial⟩ hy⟩) rfl
  · cases hr
/-! laws.markFloat32S -/
noncomputable def laws_markFloat32S_l0_T (s : Int × Int × (List Nat)) : Tree ((Int × Int × (List Nat)) ⊕ (Int × (List Nat))) :=
  (.br (decide (s.2.1 < (((s.2.2).length : Nat) : Int))) (
   (.grd (inb s.2.1 ((s.2.2).length)) <|
   .leaf (.inl (IntKind.i64.wrap (s.1 + (1 : Int)), IntKind.i64.wrap (s.2.1 + (1 : Int)), List.set s.2.2 (Int.toNat s.2.1) (fofint .f32 s.1))))
  ) (
   .leaf (.inr (s.1, s.2.2))
  ))

noncomputable def laws_markFloat32S_l0_g (s0 : Int × Int × (List Nat)) : Option (Int × (List Nat)) := whileM (fun s => (laws_markFloat32S_l0_T s).run) s0
def laws_markFloat32S_l0_E (v366 : List Nat) (v367 : Int) (s : Int × Int × (List Nat)) : Sd := ([.own 0 0 ((s.2.2).length), .int .i64 s.1, .top, .top, .top, .int .i64 s.2.1, .top, .top, .top, .top, .top, .top, .top, .top, .top, .top, .top, .top, .top, .top], [.row (.f32 s.2.2) 0])
def laws_markFloat32S_l0_X (v366 : List Nat) (v367 : Int) (x : Int × (List Nat)) : Out := (.normal, [.top, .int .i64 x.1, .top, .top, .top, .top, .top, .top, .top, .top, .top, .top, .top, .top, .top, .top, .top, .top, .top, .top], [.row (.f32 x.2) 0])
def laws_markFloat32S_l0_kill : List Nat := [0, 0, 1, 1, 1, 0, 1, 1, 1, 1, 1, 1, 1, 1, 1, 1, 1, 1, 1, 1]
def laws_markFloat32S_l0_nx : Exit → List Nat
  | .exit 0 => [1, 0, 1, 1, 1, 1, 1, 1, 1, 1, 1, 1, 1, 1, 1, 1, 1, 1, 1, 1]
  | .ret => [1, 1, 1, 1, 0, 1, 1, 1, 1, 1, 1, 1, 1, 1, 1, 1, 1, 1, 1, 1]
  | _ => []
noncomputable def laws_markFloat32S_LO (v366 : List Nat) (v367 : Int) : LOr := fun id e L =>
  match id with
  | 0 => .need (normA 1 laws_markFloat32S_l0_kill e L = some (laws_markFloat32S_l0_E v366 v367 ((gI (vAt e 1)), (gI (vAt e 5)), (gRF L (vAt e 0))))) (.call (laws_markFloat32S_l0_g ((gI (vAt e 1)), (gI (vAt e 5)), (gRF L (vAt e 0)))) fun x => .leaf (laws_markFloat32S_l0_X v366 v367 x))
  | _ => .fail
noncomputable def laws_markFloat32S_tab : List (FuncId × DFn × Bool) := []
theorem laws_markFloat32S_hO : OrcOk Try.prog (tabD laws_markFloat32S_tab) (tabM laws_markFloat32S_tab) := tabD_nil _
theorem laws_markFloat32S_l0_be (v366 : List Nat) (v367 : Int) (s : Int × Int × (List Nat)) : bodyT TT (tabD laws_markFloat32S_tab) (tabM laws_markFloat32S_tab) (laws_markFloat32S_LO v366 v367) 1 laws_markFloat32S_l0_kill laws_markFloat32S_l0_nx (bodyOf Try.f14 0) 0 (laws_markFloat32S_l0_E v366 v367 s) = (laws_markFloat32S_l0_T s).bind fun y => .leaf (outS (laws_markFloat32S_l0_E v366 v367) (laws_markFloat32S_l0_X v366 v367) y) := by kernel_rfl
theorem laws_markFloat32S_l0_ok (v366 : List Nat) (v367 : Int) : LSound Try.prog 1 (laws_markFloat32S_LO v366 v367) 0 (bodyOf Try.f14 0) := by
  intro e L out h
  exact lo_ok (E := laws_markFloat32S_l0_E v366 v367) (gT := laws_markFloat32S_l0_T) (X := laws_markFloat32S_l0_X v366 v367) (s0 := ((gI (vAt e 1)), (gI (vAt e 5)), (gRF L (vAt e 0)))) tok laws_markFloat32S_hO mixed (LoopsOk_eq (l := []) (by kernel_rfl) trivial) (laws_markFloat32S_l0_be v366 v367) rfl (by intro x; rfl) h
noncomputable def laws_markFloat32S_T (v366 : List Nat) (v367 : Int) : Tree (Int × (List Nat)) :=
  (.need (some (laws_markFloat32S_l0_E v366 v367 (v367, (0 : Int), v366)) = some (laws_markFloat32S_l0_E v366 v367 (v367, (0 : Int), v366))) <|
  (.call (laws_markFloat32S_l0_g (v367, (0 : Int), v366)) fun v376 =>
  .leaf (v376.1, v376.2)))

noncomputable def laws_markFloat32S_g (v366 : List Nat) (v367 : Int) : Option (Int × (List Nat)) := (laws_markFloat32S_T v366 v367).run
def laws_markFloat32S_enc (v366 : List Nat) (v367 : Int) (y : Int × (List Nat)) : Rs := (.int .i64 y.1, [.row (.f32 y.2) 0])
theorem laws_markFloat32S_den (v366 : List Nat) (v367 : Int) : (den TT (tabD laws_markFloat32S_tab) (tabM laws_markFloat32S_tab) (laws_markFloat32S_LO v366 v367) (codeOf Try.f14) ([.own 0 0 v366.length, .int .i64 v367] ++ List.replicate (Try.f14.ntmps - ([.own 0 0 v366.length, .int .i64 v367] : List DV).length) .undef) [.row (.f32 v366) 0]).bind (retD TT Try.f14.results.toList 1) = (laws_markFloat32S_T v366 v367).bind fun y => .leaf (laws_markFloat32S_enc v366 v367 y) := by kernel_rfl
theorem laws_markFloat32S_fn (v366 : List Nat) (v367 : Int) (F : Fr) (hm : F.ids.length = 1) (h0 : St F [.row (.f32 v366) 0] F.H0) (hA : DVs.Ok F [.row (.f32 v366) 0] [.own 0 0 v366.length, .int .i64 v367]) {y : Int × (List Nat)} (hy : laws_markFloat32S_g v366 v367 = some y) : ∃ H', FnOk Try.prog 14 (DVs.av F [.own 0 0 v366.length, .int .i64 v367]) F.H0 ((laws_markFloat32S_enc v366 v367 y).1.av F) H' ∧ St F (laws_markFloat32S_enc v366 v367 y).2 H' ∧ (laws_markFloat32S_enc v366 v367 y).1.Ok F (laws_markFloat32S_enc v366 v367 y).2 :=
  fn_fin tok laws_markFloat32S_hO mixed Try.func14 Try.call14 (by kernel_rfl) (LoopsOk_eq (l := [(0, bodyOf Try.f14 0)]) (by kernel_rfl) ⟨laws_markFloat32S_l0_ok v366 v367, trivial⟩) (laws_markFloat32S_den v366 v367) hy hm h0 hA
noncomputable def laws_markFloat32S_F : DFn := fun args L =>
  match args with
  | [a1, .int .i64 v367] =>
    optT (ownF32 L a1) fun qv366 =>
    (match sepB [qv366.1] [] with
    | true =>
    .call (laws_markFloat32S_g qv366.2 v367) fun y => .grd (decide (y.2.length = qv366.2.length)) (.leaf (.int .i64 y.1, setRows L ([qv366.1].zip [.f32 y.2])))
    | false => .fail)
  | _ => .fail
theorem laws_markFloat32S_Fok : COk Try.prog 14 laws_markFloat32S_F false := by
  intro F L H args r L' hs ha hr
  unfold laws_markFloat32S_F at hr
  split at hr
  · rename_i a1 v367
    obtain ⟨⟨jv366, v366⟩, hqv366, hr⟩ := optT_run hr
    simp only at hr
    split at hr
    · rename_i hsep
      obtain ⟨hnd, hsepv⟩ := sepB_spec hsep
      simp only [Tree.run] at hr
      obtain ⟨y, hy, hr⟩ := Option.bind_eq_some_iff.1 hr
      try simp only [Tree.run] at hr
      obtain ⟨hl0, hr⟩ := ite_run hr
      simp only [Option.some.injEq, Prod.mk.injEq] at hr
      obtain ⟨rfl, rfl⟩ := hr
      obtain ⟨hr0, hu0, ha0, hb0⟩ := (ownR_spec (DVs.okAt ha 0 rfl) (ownF32_or hqv366))
      exact mut_ok hs (fun k => (([a1.av F] : List AV)[k]?).getD .top) [a1, .int .i64 v367] [.own 0 0 v366.length, .int .i64 v367] [jv366] [.f32 v366] [.f32 y.2] hnd rfl rfl (fun i j q h1 h2 => by
          rcases i with _ | i
          · simp at h1 h2; subst h1; subst h2; exact hr0
          · simp at h1) (fun i q q' h1 h2 => by
          rcases i with _ | i
          · simp at h1 h2; subst h1; subst h2; exact of_decide_eq_true hl0
          · simp at h1) (fun j hj => by simp at hj; subst hj; simp [DVs.refs, DV.refs, hu0]) (fun F' h0 hi hρ hst hS => ⟨by (have ab0 : F'.abs 0 = F.abs jv366 := (by simp [Fr.abs, hi]); simp [DVs.av, DV.av, BR.av, hρ, Row.len, ha0, ab0]), by
          obtain ⟨H1, k1, k2, _⟩ := laws_markFloat32S_fn v366 v367 F' (by rw [hi]; rfl) hst ⟨⟨_, rfl, Nat.le_refl _, Nat.le_refl _, fun _ => rfl, (ownR_spec (DVs.okAt ha 0 rfl) (ownF32_or hqv366)).2.2.2⟩, trivial, trivial⟩ hy
          exact ⟨H1, k1, k2⟩⟩) (fun F' => rfl) (fun L' => trivial)
    · cases hr
  · cases hr
/-! laws.markMatrix -/
noncomputable def laws_markMatrix_LO (v377 : Int) (v378 : Int) (v379 : List Nat) (v380 : Int) : LOr := fun id e L =>
  match id with
  | _ => .fail
noncomputable def laws_markMatrix_tab : List (FuncId × DFn × Bool) := [(14, laws_markFloat32S_F, false)]
theorem laws_markMatrix_hO : OrcOk Try.prog (tabD laws_markMatrix_tab) (tabM laws_markMatrix_tab) := tabD_cons laws_markFloat32S_Fok (tabD_nil _)
noncomputable def laws_markMatrix_T (v379 : List Nat) (v380 : Int) : Tree (Int × (List Nat)) :=
  (.call (laws_markFloat32S_g v379 v380) fun v381 =>
  (.grd (decide (v381.2.length = v379.length)) <|
  .leaf (v381.1, v381.2)))

noncomputable def laws_markMatrix_g (v379 : List Nat) (v380 : Int) : Option (Int × (List Nat)) := (laws_markMatrix_T v379 v380).run
def laws_markMatrix_enc (v377 : Int) (v378 : Int) (v379 : List Nat) (v380 : Int) (y : Int × (List Nat)) : Rs := (.int .i64 y.1, [.row (.f32 y.2) 0])
theorem laws_markMatrix_den (v377 : Int) (v378 : Int) (v379 : List Nat) (v380 : Int) : (den TT (tabD laws_markMatrix_tab) (tabM laws_markMatrix_tab) (laws_markMatrix_LO v377 v378 v379 v380) (codeOf Try.f21) ([.agg [.int .i64 v377, .int .i64 v378, .own 0 0 v379.length], .int .i64 v380] ++ List.replicate (Try.f21.ntmps - ([.agg [.int .i64 v377, .int .i64 v378, .own 0 0 v379.length], .int .i64 v380] : List DV).length) .undef) [.row (.f32 v379) 0]).bind (retD TT Try.f21.results.toList 1) = (laws_markMatrix_T v379 v380).bind fun y => .leaf (laws_markMatrix_enc v377 v378 v379 v380 y) := by kernel_rfl
theorem laws_markMatrix_fn (v377 : Int) (v378 : Int) (v379 : List Nat) (v380 : Int) (F : Fr) (hm : F.ids.length = 1) (h0 : St F [.row (.f32 v379) 0] F.H0) (hA : DVs.Ok F [.row (.f32 v379) 0] [.agg [.int .i64 v377, .int .i64 v378, .own 0 0 v379.length], .int .i64 v380]) {y : Int × (List Nat)} (hy : laws_markMatrix_g v379 v380 = some y) : ∃ H', FnOk Try.prog 21 (DVs.av F [.agg [.int .i64 v377, .int .i64 v378, .own 0 0 v379.length], .int .i64 v380]) F.H0 ((laws_markMatrix_enc v377 v378 v379 v380 y).1.av F) H' ∧ St F (laws_markMatrix_enc v377 v378 v379 v380 y).2 H' ∧ (laws_markMatrix_enc v377 v378 v379 v380 y).1.Ok F (laws_markMatrix_enc v377 v378 v379 v380 y).2 :=
  fn_fin tok laws_markMatrix_hO mixed Try.func21 Try.call21 (by kernel_rfl) (LoopsOk_eq (l := []) (by kernel_rfl) trivial) (laws_markMatrix_den v377 v378 v379 v380) hy hm h0 hA
noncomputable def laws_markMatrix_F : DFn := fun args L =>
  match args with
  | [.agg [.int .i64 v377, .int .i64 v378, a1], .int .i64 v380] =>
    optT (ownF32 L a1) fun qv379 =>
    (match sepB [qv379.1] [] with
    | true =>
    .call (laws_markMatrix_g qv379.2 v380) fun y => .grd (decide (y.2.length = qv379.2.length)) (.leaf (.int .i64 y.1, setRows L ([qv379.1].zip [.f32 y.2])))
    | false => .fail)
  | _ => .fail
theorem laws_markMatrix_Fok : COk Try.prog 21 laws_markMatrix_F false := by
  intro F L H args r L' hs ha hr
  unfold laws_markMatrix_F at hr
  split at hr
  · rename_i v377 v378 a1 v380
    obtain ⟨⟨jv379, v379⟩, hqv379, hr⟩ := optT_run hr
    simp only at hr
    split at hr
    · rename_i hsep
      obtain ⟨hnd, hsepv⟩ := sepB_spec hsep
      simp only [Tree.run] at hr
      obtain ⟨y, hy, hr⟩ := Option.bind_eq_some_iff.1 hr
      try simp only [Tree.run] at hr
      obtain ⟨hl0, hr⟩ := ite_run hr
      simp only [Option.some.injEq, Prod.mk.injEq] at hr
      obtain ⟨rfl, rfl⟩ := hr
      obtain ⟨hr0, hu0, ha0, hb0⟩ := (ownR_spec (DVs.okAt (DVs.okAt ha 0 rfl) 2 rfl) (ownF32_or hqv379))
      exact mut_ok hs (fun k => (([a1.av F] : List AV)[k]?).getD .top) [.agg [.int .i64 v377, .int .i64 v378, a1], .int .i64 v380] [.agg [.int .i64 v377, .int .i64 v378, .own 0 0 v379.length], .int .i64 v380] [jv379] [.f32 v379] [.f32 y.2] hnd rfl rfl (fun i j q h1 h2 => by
          rcases i with _ | i
          · simp at h1 h2; subst h1; subst h2; exact hr0
          · simp at h1) (fun i q q' h1 h2 => by
          rcases i with _ | i
          · simp at h1 h2; subst h1; subst h2; exact of_decide_eq_true hl0
          · simp at h1) (fun j hj => by simp at hj; subst hj; simp [DVs.refs, DV.refs, hu0]) (fun F' h0 hi hρ hst hS => ⟨by (have ab0 : F'.abs 0 = F.abs jv379 := (by simp [Fr.abs, hi]); simp [DVs.av, DV.av, BR.av, hρ, Row.len, ha0, ab0]), by
          obtain ⟨H1, k1, k2, _⟩ := laws_markMatrix_fn v377 v378 v379 v380 F' (by rw [hi]; rfl) hst ⟨⟨trivial, trivial, ⟨_, rfl, Nat.le_refl _, Nat.le_refl _, fun _ => rfl, (ownR_spec (DVs.okAt (DVs.okAt ha 0 rfl) 2 rfl) (ownF32_or hqv379)).2.2.2⟩, trivial⟩, trivial, trivial⟩ hy
          exact ⟨H1, k1, k2⟩⟩) (fun F' => rfl) (fun L' => trivial)
    · cases hr
  · cases hr
/-! laws.markFloat32S -/
noncomputable def laws_markFloat32S_i1_l0_T (s : Unit) : Tree ((Unit) ⊕ (Unit)) :=
  (.br (decide ((0 : Int) < (0 : Int))) (
   .fail
  ) (
   .leaf (.inr ())
  ))

noncomputable def laws_markFloat32S_i1_l0_g (s0 : Unit) : Option (Unit) := whileM (fun s => (laws_markFloat32S_i1_l0_T s).run) s0
def laws_markFloat32S_i1_l0_E (v385 : Int) (s : Unit) : Sd := ([.nilslc, .int .i64 v385, .top, .top, .top, .int .i64 (0 : Int), .top, .top, .top, .top, .top, .top, .top, .top, .top, .top, .top, .top, .top, .top], [])
def laws_markFloat32S_i1_l0_X (v385 : Int) (x : Unit) : Out := (.normal, [.top, .int .i64 v385, .top, .top, .top, .top, .top, .top, .top, .top, .top, .top, .top, .top, .top, .top, .top, .top, .top, .top], [])
def laws_markFloat32S_i1_l0_kill : List Nat := [0, 0, 1, 1, 1, 0, 1, 1, 1, 1, 1, 1, 1, 1, 1, 1, 1, 1, 1, 1]
def laws_markFloat32S_i1_l0_nx : Exit → List Nat
  | .exit 0 => [1, 0, 1, 1, 1, 1, 1, 1, 1, 1, 1, 1, 1, 1, 1, 1, 1, 1, 1, 1]
  | .ret => [1, 1, 1, 1, 0, 1, 1, 1, 1, 1, 1, 1, 1, 1, 1, 1, 1, 1, 1, 1]
  | _ => []
noncomputable def laws_markFloat32S_i1_LO (v385 : Int) : LOr := fun id e L =>
  match id with
  | 0 => .need (normA 0 laws_markFloat32S_i1_l0_kill e L = some (laws_markFloat32S_i1_l0_E v385 ())) (.call (laws_markFloat32S_i1_l0_g ()) fun x => .leaf (laws_markFloat32S_i1_l0_X v385 x))
  | _ => .fail
noncomputable def laws_markFloat32S_i1_tab : List (FuncId × DFn × Bool) := []
theorem laws_markFloat32S_i1_hO : OrcOk Try.prog (tabD laws_markFloat32S_i1_tab) (tabM laws_markFloat32S_i1_tab) := tabD_nil _
theorem laws_markFloat32S_i1_l0_be (v385 : Int) (s : Unit) : bodyT TT (tabD laws_markFloat32S_i1_tab) (tabM laws_markFloat32S_i1_tab) (laws_markFloat32S_i1_LO v385) 0 laws_markFloat32S_i1_l0_kill laws_markFloat32S_i1_l0_nx (bodyOf Try.f14 0) 0 (laws_markFloat32S_i1_l0_E v385 s) = (laws_markFloat32S_i1_l0_T s).bind fun y => .leaf (outS (laws_markFloat32S_i1_l0_E v385) (laws_markFloat32S_i1_l0_X v385) y) := by kernel_rfl
theorem laws_markFloat32S_i1_l0_ok (v385 : Int) : LSound Try.prog 0 (laws_markFloat32S_i1_LO v385) 0 (bodyOf Try.f14 0) := by
  intro e L out h
  exact lo_ok (E := laws_markFloat32S_i1_l0_E v385) (gT := laws_markFloat32S_i1_l0_T) (X := laws_markFloat32S_i1_l0_X v385) (s0 := ()) tok laws_markFloat32S_i1_hO mixed (LoopsOk_eq (l := []) (by kernel_rfl) trivial) (laws_markFloat32S_i1_l0_be v385) rfl (by intro x; rfl) h
noncomputable def laws_markFloat32S_i1_T (v385 : Int) : Tree (Int) :=
  (.need (some (laws_markFloat32S_i1_l0_E v385 ()) = some (laws_markFloat32S_i1_l0_E v385 ())) <|
  (.call (laws_markFloat32S_i1_l0_g ()) fun v388 =>
  .leaf v385))

noncomputable def laws_markFloat32S_i1_g (v385 : Int) : Option (Int) := (laws_markFloat32S_i1_T v385).run
def laws_markFloat32S_i1_enc (v385 : Int) (y : Int) : Rs := (.int .i64 y, [])
theorem laws_markFloat32S_i1_den (v385 : Int) : (den TT (tabD laws_markFloat32S_i1_tab) (tabM laws_markFloat32S_i1_tab) (laws_markFloat32S_i1_LO v385) (codeOf Try.f14) ([.nilslc, .int .i64 v385] ++ List.replicate (Try.f14.ntmps - ([.nilslc, .int .i64 v385] : List DV).length) .undef) []).bind (retD TT Try.f14.results.toList 0) = (laws_markFloat32S_i1_T v385).bind fun y => .leaf (laws_markFloat32S_i1_enc v385 y) := by kernel_rfl
theorem laws_markFloat32S_i1_fn (v385 : Int) (F : Fr) (hm : F.ids.length = 0) (h0 : St F [] F.H0) (hA : DVs.Ok F [] [.nilslc, .int .i64 v385]) {y : Int} (hy : laws_markFloat32S_i1_g v385 = some y) : ∃ H', FnOk Try.prog 14 (DVs.av F [.nilslc, .int .i64 v385]) F.H0 ((laws_markFloat32S_i1_enc v385 y).1.av F) H' ∧ St F (laws_markFloat32S_i1_enc v385 y).2 H' ∧ (laws_markFloat32S_i1_enc v385 y).1.Ok F (laws_markFloat32S_i1_enc v385 y).2 :=
  fn_fin tok laws_markFloat32S_i1_hO mixed Try.func14 Try.call14 (by kernel_rfl) (LoopsOk_eq (l := [(0, bodyOf Try.f14 0)]) (by kernel_rfl) ⟨laws_markFloat32S_i1_l0_ok v385, trivial⟩) (laws_markFloat32S_i1_den v385) hy hm h0 hA
noncomputable def laws_markFloat32S_i1_F : DFn := fun args L =>
  match args with
  | [.nilslc, .int .i64 v385] =>
    .call (laws_markFloat32S_i1_g v385) fun y => .leaf (.int .i64 y, L)
  | _ => .fail
theorem laws_markFloat32S_i1_Fok : COk Try.prog 14 laws_markFloat32S_i1_F true := by
  intro F L H args r L' hs ha hr
  unfold laws_markFloat32S_i1_F at hr
  split at hr
  · rename_i v385
    simp only [Tree.run] at hr
    obtain ⟨y, hy, hr⟩ := Option.bind_eq_some_iff.1 hr
    simp only [Tree.run, Option.some.injEq, Prod.mk.injEq] at hr
    obtain ⟨rfl, rfl⟩ := hr
    exact call_ok0 hs (fun k => (([] : List AV)[k]?).getD .top) [.nilslc, .int .i64 v385] [.nilslc, .int .i64 v385] (fun F' h0 hi hρ => ⟨by simp [DVs.av, DV.av, BR.av, hρ], laws_markFloat32S_i1_fn v385 F' (by rw [hi]; rfl) (st_nil hi) ⟨trivial, trivial, trivial⟩ hy⟩) rfl
  · cases hr
/-! laws.heldFloat32S -/
noncomputable def laws_heldFloat32S_l0_T (v390 : List Nat) (s : Int × Int) : Tree ((Int × Int) ⊕ ((Unit) ⊕ (Int))) :=
  (.br (decide (s.2 < ((v390.length : Nat) : Int))) (
   (.grd (inb s.2 v390.length) <|
   (.br (!feq .f32 (nth v390 (Int.toNat s.2)) (fofint .f32 s.1)) (
    .leaf (.inr (.inl ()))
   ) (
    .leaf (.inl (IntKind.i64.wrap (s.1 + (1 : Int)), IntKind.i64.wrap (s.2 + (1 : Int))))
   )))
  ) (
   .leaf (.inr (.inr s.1))
  ))

noncomputable def laws_heldFloat32S_l0_g (v390 : List Nat) (s0 : Int × Int) : Option ((Unit) ⊕ (Int)) := whileM (fun s => (laws_heldFloat32S_l0_T v390 s).run) s0
def laws_heldFloat32S_l0_E (v390 : List Nat) (v391 : Int) (s : Int × Int) : Sd := ([.bslc (BR.root 0) (.f32 v390), .int .i64 s.1, .top, .top, .top, .int .i64 s.2, .top, .top, .top, .top, .top, .top, .top, .top, .top, .top, .top, .top, .top, .top, .top, .top], [])
def laws_heldFloat32S_l0_X (v390 : List Nat) (v391 : Int) (x : (Unit) ⊕ (Int)) : Out := (match x with | .inl x => (.ret, [.top, .top, .top, .top, .int .i64 (-1 : Int), .top, .top, .top, .top, .top, .top, .top, .top, .top, .top, .top, .top, .top, .top, .top, .top, .top], []) | .inr x => (.normal, [.top, .int .i64 x, .top, .top, .top, .top, .top, .top, .top, .top, .top, .top, .top, .top, .top, .top, .top, .top, .top, .top, .top, .top], []))
def laws_heldFloat32S_l0_kill : List Nat := [0, 0, 1, 1, 1, 0, 1, 1, 1, 1, 1, 1, 1, 1, 1, 1, 1, 1, 1, 1, 1, 1]
def laws_heldFloat32S_l0_nx : Exit → List Nat
  | .exit 0 => [1, 0, 1, 1, 1, 1, 1, 1, 1, 1, 1, 1, 1, 1, 1, 1, 1, 1, 1, 1, 1, 1]
  | .ret => [1, 1, 1, 1, 0, 1, 1, 1, 1, 1, 1, 1, 1, 1, 1, 1, 1, 1, 1, 1, 1, 1]
  | _ => []
noncomputable def laws_heldFloat32S_LO (v390 : List Nat) (v391 : Int) : LOr := fun id e L =>
  match id with
  | 0 => .need (normA 0 laws_heldFloat32S_l0_kill e L = some (laws_heldFloat32S_l0_E v390 v391 ((gI (vAt e 1)), (gI (vAt e 5))))) (.call (laws_heldFloat32S_l0_g v390 ((gI (vAt e 1)), (gI (vAt e 5)))) fun x => .sum x (fun b0 => .leaf (laws_heldFloat32S_l0_X v390 v391 (.inl b0))) (fun c0 => .leaf (laws_heldFloat32S_l0_X v390 v391 (.inr c0))))
  | _ => .fail
noncomputable def laws_heldFloat32S_tab : List (FuncId × DFn × Bool) := []
theorem laws_heldFloat32S_hO : OrcOk Try.prog (tabD laws_heldFloat32S_tab) (tabM laws_heldFloat32S_tab) := tabD_nil _
theorem laws_heldFloat32S_l0_be (v390 : List Nat) (v391 : Int) (s : Int × Int) : bodyT TT (tabD laws_heldFloat32S_tab) (tabM laws_heldFloat32S_tab) (laws_heldFloat32S_LO v390 v391) 0 laws_heldFloat32S_l0_kill laws_heldFloat32S_l0_nx (bodyOf Try.f15 0) 0 (laws_heldFloat32S_l0_E v390 v391 s) = (laws_heldFloat32S_l0_T v390 s).bind fun y => .leaf (outS (laws_heldFloat32S_l0_E v390 v391) (laws_heldFloat32S_l0_X v390 v391) y) := by kernel_rfl
theorem laws_heldFloat32S_l0_ok (v390 : List Nat) (v391 : Int) : LSound Try.prog 0 (laws_heldFloat32S_LO v390 v391) 0 (bodyOf Try.f15 0) := by
  intro e L out h
  exact lo_ok (E := laws_heldFloat32S_l0_E v390 v391) (gT := laws_heldFloat32S_l0_T v390) (X := laws_heldFloat32S_l0_X v390 v391) (s0 := ((gI (vAt e 1)), (gI (vAt e 5)))) tok laws_heldFloat32S_hO mixed (LoopsOk_eq (l := []) (by kernel_rfl) trivial) (laws_heldFloat32S_l0_be v390 v391) rfl (by intro x; (cases x with | inl b => rfl | inr x => exact rfl)) h
noncomputable def laws_heldFloat32S_T (v390 : List Nat) (v391 : Int) : Tree (Int) :=
  (.need (some (laws_heldFloat32S_l0_E v390 v391 (v391, (0 : Int))) = some (laws_heldFloat32S_l0_E v390 v391 (v391, (0 : Int)))) <|
  (.call (laws_heldFloat32S_l0_g v390 (v391, (0 : Int))) fun v398 =>
  (.sum v398 (fun v399 =>
   .leaf (-1 : Int)
  ) (fun v400 =>
   .leaf v400
  ))))

noncomputable def laws_heldFloat32S_g (v390 : List Nat) (v391 : Int) : Option (Int) := (laws_heldFloat32S_T v390 v391).run
def laws_heldFloat32S_enc (v390 : List Nat) (v391 : Int) (y : Int) : Rs := (.int .i64 y, [])
theorem laws_heldFloat32S_den (v390 : List Nat) (v391 : Int) : (den TT (tabD laws_heldFloat32S_tab) (tabM laws_heldFloat32S_tab) (laws_heldFloat32S_LO v390 v391) (codeOf Try.f15) ([.bslc (BR.root 0) (.f32 v390), .int .i64 v391] ++ List.replicate (Try.f15.ntmps - ([.bslc (BR.root 0) (.f32 v390), .int .i64 v391] : List DV).length) .undef) []).bind (retD TT Try.f15.results.toList 0) = (laws_heldFloat32S_T v390 v391).bind fun y => .leaf (laws_heldFloat32S_enc v390 v391 y) := by kernel_rfl
theorem laws_heldFloat32S_fn (v390 : List Nat) (v391 : Int) (F : Fr) (hm : F.ids.length = 0) (h0 : St F [] F.H0) (hA : DVs.Ok F [] [.bslc (BR.root 0) (.f32 v390), .int .i64 v391]) {y : Int} (hy : laws_heldFloat32S_g v390 v391 = some y) : ∃ H', FnOk Try.prog 15 (DVs.av F [.bslc (BR.root 0) (.f32 v390), .int .i64 v391]) F.H0 ((laws_heldFloat32S_enc v390 v391 y).1.av F) H' ∧ St F (laws_heldFloat32S_enc v390 v391 y).2 H' ∧ (laws_heldFloat32S_enc v390 v391 y).1.Ok F (laws_heldFloat32S_enc v390 v391 y).2 :=
  fn_fin tok laws_heldFloat32S_hO mixed Try.func15 Try.call15 (by kernel_rfl) (LoopsOk_eq (l := [(0, bodyOf Try.f15 0)]) (by kernel_rfl) ⟨laws_heldFloat32S_l0_ok v390 v391, trivial⟩) (laws_heldFloat32S_den v390 v391) hy hm h0 hA
noncomputable def laws_heldFloat32S_F : DFn := fun args L =>
  match args with
  | [a1, .int .i64 v391] =>
    optT (rowF32 L a1) fun v390 =>
    .call (laws_heldFloat32S_g v390 v391) fun y => .leaf (.int .i64 y, L)
  | _ => .fail
theorem laws_heldFloat32S_Fok : COk Try.prog 15 laws_heldFloat32S_F true := by
  intro F L H args r L' hs ha hr
  unfold laws_heldFloat32S_F at hr
  split at hr
  · rename_i a1 v391
    obtain ⟨v390, hv390, hr⟩ := optT_run hr
    simp only [Tree.run] at hr
    obtain ⟨y, hy, hr⟩ := Option.bind_eq_some_iff.1 hr
    simp only [Tree.run, Option.some.injEq, Prod.mk.injEq] at hr
    obtain ⟨rfl, rfl⟩ := hr
    exact call_ok0 hs (fun k => (([a1.av F] : List AV)[k]?).getD .top) [a1, .int .i64 v391] [.bslc (BR.root 0) (.f32 v390), .int .i64 v391] (fun F' h0 hi hρ => ⟨by simp [DVs.av, DV.av, BR.av, hρ], laws_heldFloat32S_fn v390 v391 F' (by rw [hi]; rfl) (st_nil hi) ⟨bslc_ok hi (by rw [h0, hρ]; exact rowF32_ok hs (DVs.okAt ha 0 rfl) hv390), trivial, trivial⟩ hy⟩) rfl
  · cases hr
/-! laws.FnExactPowerRounds -/
noncomputable def laws_FnExactPowerRounds_LO (v1 : Int) (v2 : Int) (v3 : List Nat) (v4 : List Nat) (v5 : Int) : LOr := fun id e L =>
  match id with
  | _ => .fail
noncomputable def laws_FnExactPowerRounds_tab : List (FuncId × DFn × Bool) := [(16, laws_szMatrix_F, true), (18, laws_toMatrix_F, true), (10, laws_toFloat32S_F, true), (30, spec_PowerRounds_F, true), (31, impl_PowerRounds_F, true), (12, laws_eqFloat32S_F, true), (13, laws_sameFloat_F, true), (20, laws_eqMatrix_F, true), (21, laws_markMatrix_F, false), (14, (orD (fun args => match args with | [.nilslc, _] => true | _ => false) laws_markFloat32S_i1_F laws_markFloat32S_F), false), (15, laws_heldFloat32S_F, true)]
theorem laws_FnExactPowerRounds_hO : OrcOk Try.prog (tabD laws_FnExactPowerRounds_tab) (tabM laws_FnExactPowerRounds_tab) := tabD_cons laws_szMatrix_Fok (tabD_cons laws_toMatrix_Fok (tabD_cons laws_toFloat32S_Fok (tabD_cons spec_PowerRounds_Fok (tabD_cons impl_PowerRounds_Fok (tabD_cons laws_eqFloat32S_Fok (tabD_cons laws_sameFloat_Fok (tabD_cons laws_eqMatrix_Fok (tabD_cons laws_markMatrix_Fok (tabD_cons (orD_ok (COk.weak laws_markFloat32S_i1_Fok) laws_markFloat32S_Fok) (tabD_cons laws_heldFloat32S_Fok (tabD_nil _)))))))))))
noncomputable def laws_FnExactPowerRounds_T (v1 : Int) (v2 : Int) (v3 : List Nat) (v4 : List Nat) (v5 : Int) : Tree (Bool) :=
  (.br (decide ((1048576 : Int) < ((v4.length : Nat) : Int))) (
   .leaf true
  ) (
   (.br (decide ((laws_szMatrix_v v3 (1048576 : Int)) < (0 : Int))) (
    .leaf true
   ) (
    (.call (laws_toMatrix_g v1 v2 v3) fun v23 =>
    (.call (laws_toFloat32S_g v4) fun v24 =>
    (.call (spec_PowerRounds_g v23.1 v23.2.1 v23.2.2 v24 v5) fun v161 =>
    (.sum v161 (fun v162 =>
     (.call (laws_toMatrix_g v1 v2 v3) fun v164 =>
     (.call (laws_toFloat32S_g v4) fun v165 =>
     (.call (impl_PowerRounds_g v164.1 v164.2.1 v164.2.2 v165 v5) fun v333 =>
     (.sum v333 (fun v334 =>
      (.call (laws_eqFloat32S_g ([] : List Nat) ([] : List Nat)) fun v346 =>
      (.br (!v346) (
       .leaf false
      ) (
       (.br (!(laws_sameFloat_v (wid (0 : Nat)) (wid (0 : Nat)))) (
        .leaf false
       ) (
        (.br (!(false == false)) (
         .leaf false
        ) (
         (.call (laws_toMatrix_g v1 v2 v3) fun v347 =>
         (.call (laws_eqMatrix_g v164.1 v164.2.1 v164.2.2 v347.1 v347.2.1 v347.2.2) fun v355 =>
         (.br (!v355) (
          .leaf false
         ) (
          (.call (laws_toFloat32S_g v4) fun v356 =>
          (.call (laws_eqFloat32S_g v165 v356) fun v357 =>
          (.br (!v357) (
           .leaf false
          ) (
           (.call (laws_markMatrix_g v164.2.2 (1 : Int)) fun v382 =>
           (.grd (decide (v382.2.length = v164.2.2.length)) <|
           (.call (laws_markFloat32S_g v165 v382.1) fun v383 =>
           (.grd (decide (v383.2.length = v165.length)) <|
           (.br (decide (v383.1 < (0 : Int))) (
            .leaf false
           ) (
            (.call (laws_eqFloat32S_g ([] : List Nat) ([] : List Nat)) fun v384 =>
            (.br (!v384) (
             .leaf false
            ) (
             (.br (!(laws_sameFloat_v (wid (0 : Nat)) (wid (0 : Nat)))) (
              .leaf false
             ) (
              (.br (!(false == false)) (
               .leaf false
              ) (
               (.call (laws_markFloat32S_i1_g (1 : Int)) fun v389 =>
               (.call (laws_heldFloat32S_g ([] : List Nat) (1 : Int)) fun v401 =>
               (.br (decide (v401 < (0 : Int))) (
                .leaf false
               ) (
                (.br (!decide (v401 = v389)) (
                 .leaf false
                ) (
                 (.call (laws_toMatrix_g v1 v2 v3) fun v402 =>
                 (.call (laws_toFloat32S_g v4) fun v403 =>
                 (.call (impl_PowerRounds_g v402.1 v402.2.1 v402.2.2 v403 v5) fun v404 =>
                 (.sum v404 (fun v405 =>
                  (.call (laws_eqFloat32S_g ([] : List Nat) ([] : List Nat)) fun v407 =>
                  (.br (!v407) (
                   .leaf false
                  ) (
                   (.br (!(laws_sameFloat_v (wid (0 : Nat)) (wid (0 : Nat)))) (
                    .leaf false
                   ) (
                    (.br (!(false == false)) (
                     .leaf false
                    ) (
                     (.call (laws_heldFloat32S_g ([] : List Nat) (1 : Int)) fun v408 =>
                     (.br (decide (v408 < (0 : Int))) (
                      .leaf false
                     ) (
                      (.br (!decide (v408 = v389)) (
                       .leaf false
                      ) (
                       .leaf true
                      ))
                     )))
                    ))
                   ))
                  )))
                 ) (fun v406 =>
                  (.call (laws_eqFloat32S_g v406.2 ([] : List Nat)) fun v409 =>
                  (.br (!v409) (
                   .leaf false
                  ) (
                   (.br (!(laws_sameFloat_v (wid v406.1) (wid (0 : Nat)))) (
                    .leaf false
                   ) (
                    (.br (!(true == false)) (
                     .leaf false
                    ) (
                     (.call (laws_heldFloat32S_g ([] : List Nat) (1 : Int)) fun v410 =>
                     (.br (decide (v410 < (0 : Int))) (
                      .leaf false
                     ) (
                      (.br (!decide (v410 = v389)) (
                       .leaf false
                      ) (
                       .leaf true
                      ))
                     )))
                    ))
                   ))
                  )))
                 )))))
                ))
               ))))
              ))
             ))
            )))
           ))))))
          ))))
         ))))
        ))
       ))
      )))
     ) (fun v335 =>
      (.call (laws_eqFloat32S_g v335.2 ([] : List Nat)) fun v411 =>
      (.br (!v411) (
       .leaf false
      ) (
       (.br (!(laws_sameFloat_v (wid v335.1) (wid (0 : Nat)))) (
        .leaf false
       ) (
        (.br (!(true == false)) (
         .leaf false
        ) (
         (.call (laws_toMatrix_g v1 v2 v3) fun v412 =>
         (.call (laws_eqMatrix_g v164.1 v164.2.1 v164.2.2 v412.1 v412.2.1 v412.2.2) fun v413 =>
         (.br (!v413) (
          .leaf false
         ) (
          (.call (laws_toFloat32S_g v4) fun v414 =>
          (.call (laws_eqFloat32S_g v165 v414) fun v415 =>
          (.br (!v415) (
           .leaf false
          ) (
           (.call (laws_markMatrix_g v164.2.2 (1 : Int)) fun v416 =>
           (.grd (decide (v416.2.length = v164.2.2.length)) <|
           (.call (laws_markFloat32S_g v165 v416.1) fun v417 =>
           (.grd (decide (v417.2.length = v165.length)) <|
           (.br (decide (v417.1 < (0 : Int))) (
            .leaf false
           ) (
            (.call (laws_eqFloat32S_g v335.2 ([] : List Nat)) fun v418 =>
            (.br (!v418) (
             .leaf false
            ) (
             (.br (!(laws_sameFloat_v (wid v335.1) (wid (0 : Nat)))) (
              .leaf false
             ) (
              (.br (!(true == false)) (
               .leaf false
              ) (
               (.call (laws_markFloat32S_g v335.2 (1 : Int)) fun v419 =>
               (.grd (decide (v419.2.length = v335.2.length)) <|
               (.call (laws_heldFloat32S_g v419.2 (1 : Int)) fun v420 =>
               (.br (decide (v420 < (0 : Int))) (
                .leaf false
               ) (
                (.br (!decide (v420 = v419.1)) (
                 .leaf false
                ) (
                 (.call (laws_toMatrix_g v1 v2 v3) fun v421 =>
                 (.call (laws_toFloat32S_g v4) fun v422 =>
                 (.call (impl_PowerRounds_g v421.1 v421.2.1 v421.2.2 v422 v5) fun v423 =>
                 (.sum v423 (fun v424 =>
                  (.call (laws_eqFloat32S_g ([] : List Nat) ([] : List Nat)) fun v426 =>
                  (.br (!v426) (
                   .leaf false
                  ) (
                   (.br (!(laws_sameFloat_v (wid (0 : Nat)) (wid (0 : Nat)))) (
                    .leaf false
                   ) (
                    (.br (!(false == false)) (
                     .leaf false
                    ) (
                     (.call (laws_heldFloat32S_g v419.2 (1 : Int)) fun v427 =>
                     (.br (decide (v427 < (0 : Int))) (
                      .leaf false
                     ) (
                      (.br (!decide (v427 = v419.1)) (
                       .leaf false
                      ) (
                       .leaf true
                      ))
                     )))
                    ))
                   ))
                  )))
                 ) (fun v425 =>
                  (.call (laws_eqFloat32S_g v425.2 ([] : List Nat)) fun v428 =>
                  (.br (!v428) (
                   .leaf false
                  ) (
                   (.br (!(laws_sameFloat_v (wid v425.1) (wid (0 : Nat)))) (
                    .leaf false
                   ) (
                    (.br (!(true == false)) (
                     .leaf false
                    ) (
                     (.call (laws_heldFloat32S_g v419.2 (1 : Int)) fun v429 =>
                     (.br (decide (v429 < (0 : Int))) (
                      .leaf false
                     ) (
                      (.br (!decide (v429 = v419.1)) (
                       .leaf false
                      ) (
                       .leaf true
                      ))
                     )))
                    ))
                   ))
                  )))
                 )))))
                ))
               )))))
              ))
             ))
            )))
           ))))))
          ))))
         ))))
        ))
       ))
      )))
     )))))
    ) (fun v163 =>
     (.call (laws_toMatrix_g v1 v2 v3) fun v430 =>
     (.call (laws_toFloat32S_g v4) fun v431 =>
     (.call (impl_PowerRounds_g v430.1 v430.2.1 v430.2.2 v431 v5) fun v432 =>
     (.sum v432 (fun v433 =>
      (.call (laws_eqFloat32S_g ([] : List Nat) v163.2) fun v435 =>
      (.br (!v435) (
       .leaf false
      ) (
       (.br (!(laws_sameFloat_v (wid (0 : Nat)) (wid v163.1))) (
        .leaf false
       ) (
        (.br (!(false == true)) (
         .leaf false
        ) (
         (.call (laws_toMatrix_g v1 v2 v3) fun v436 =>
         (.call (laws_eqMatrix_g v430.1 v430.2.1 v430.2.2 v436.1 v436.2.1 v436.2.2) fun v437 =>
         (.br (!v437) (
          .leaf false
         ) (
          (.call (laws_toFloat32S_g v4) fun v438 =>
          (.call (laws_eqFloat32S_g v431 v438) fun v439 =>
          (.br (!v439) (
           .leaf false
          ) (
           (.call (laws_markMatrix_g v430.2.2 (1 : Int)) fun v440 =>
           (.grd (decide (v440.2.length = v430.2.2.length)) <|
           (.call (laws_markFloat32S_g v431 v440.1) fun v441 =>
           (.grd (decide (v441.2.length = v431.length)) <|
           (.br (decide (v441.1 < (0 : Int))) (
            .leaf false
           ) (
            (.call (laws_eqFloat32S_g ([] : List Nat) v163.2) fun v442 =>
            (.br (!v442) (
             .leaf false
            ) (
             (.br (!(laws_sameFloat_v (wid (0 : Nat)) (wid v163.1))) (
              .leaf false
             ) (
              (.br (!(false == true)) (
               .leaf false
              ) (
               (.call (laws_markFloat32S_i1_g (1 : Int)) fun v443 =>
               (.call (laws_heldFloat32S_g ([] : List Nat) (1 : Int)) fun v444 =>
               (.br (decide (v444 < (0 : Int))) (
                .leaf false
               ) (
                (.br (!decide (v444 = v443)) (
                 .leaf false
                ) (
                 (.call (laws_toMatrix_g v1 v2 v3) fun v445 =>
                 (.call (laws_toFloat32S_g v4) fun v446 =>
                 (.call (impl_PowerRounds_g v445.1 v445.2.1 v445.2.2 v446 v5) fun v447 =>
                 (.sum v447 (fun v448 =>
                  (.call (laws_eqFloat32S_g ([] : List Nat) v163.2) fun v450 =>
                  (.br (!v450) (
                   .leaf false
                  ) (
                   (.br (!(laws_sameFloat_v (wid (0 : Nat)) (wid v163.1))) (
                    .leaf false
                   ) (
                    (.br (!(false == true)) (
                     .leaf false
                    ) (
                     (.call (laws_heldFloat32S_g ([] : List Nat) (1 : Int)) fun v451 =>
                     (.br (decide (v451 < (0 : Int))) (
                      .leaf false
                     ) (
                      (.br (!decide (v451 = v443)) (
                       .leaf false
                      ) (
                       .leaf true
                      ))
                     )))
                    ))
                   ))
                  )))
                 ) (fun v449 =>
                  (.call (laws_eqFloat32S_g v449.2 v163.2) fun v452 =>
                  (.br (!v452) (
                   .leaf false
                  ) (
                   (.br (!(laws_sameFloat_v (wid v449.1) (wid v163.1))) (
                    .leaf false
                   ) (
                    (.br (!(true == true)) (
                     .leaf false
                    ) (
                     (.call (laws_heldFloat32S_g ([] : List Nat) (1 : Int)) fun v453 =>
                     (.br (decide (v453 < (0 : Int))) (
                      .leaf false
                     ) (
                      (.br (!decide (v453 = v443)) (
                       .leaf false
                      ) (
                       .leaf true
                      ))
                     )))
                    ))
                   ))
                  )))
                 )))))
                ))
               ))))
              ))
             ))
            )))
           ))))))
          ))))
         ))))
        ))
       ))
      )))
     ) (fun v434 =>
      (.call (laws_eqFloat32S_g v434.2 v163.2) fun v454 =>
      (.br (!v454) (
       .leaf false
      ) (
       (.br (!(laws_sameFloat_v (wid v434.1) (wid v163.1))) (
        .leaf false
       ) (
        (.br (!(true == true)) (
         .leaf false
        ) (
         (.call (laws_toMatrix_g v1 v2 v3) fun v455 =>
         (.call (laws_eqMatrix_g v430.1 v430.2.1 v430.2.2 v455.1 v455.2.1 v455.2.2) fun v456 =>
         (.br (!v456) (
          .leaf false
         ) (
          (.call (laws_toFloat32S_g v4) fun v457 =>
          (.call (laws_eqFloat32S_g v431 v457) fun v458 =>
          (.br (!v458) (
           .leaf false
          ) (
           (.call (laws_markMatrix_g v430.2.2 (1 : Int)) fun v459 =>
           (.grd (decide (v459.2.length = v430.2.2.length)) <|
           (.call (laws_markFloat32S_g v431 v459.1) fun v460 =>
           (.grd (decide (v460.2.length = v431.length)) <|
           (.br (decide (v460.1 < (0 : Int))) (
            .leaf false
           ) (
            (.call (laws_eqFloat32S_g v434.2 v163.2) fun v461 =>
            (.br (!v461) (
             .leaf false
            ) (
             (.br (!(laws_sameFloat_v (wid v434.1) (wid v163.1))) (
              .leaf false
             ) (
              (.br (!(true == true)) (
               .leaf false
              ) (
               (.call (laws_markFloat32S_g v434.2 (1 : Int)) fun v462 =>
               (.grd (decide (v462.2.length = v434.2.length)) <|
               (.call (laws_heldFloat32S_g v462.2 (1 : Int)) fun v463 =>
               (.br (decide (v463 < (0 : Int))) (
                .leaf false
               ) (
                (.br (!decide (v463 = v462.1)) (
                 .leaf false
                ) (
                 (.call (laws_toMatrix_g v1 v2 v3) fun v464 =>
                 (.call (laws_toFloat32S_g v4) fun v465 =>
                 (.call (impl_PowerRounds_g v464.1 v464.2.1 v464.2.2 v465 v5) fun v466 =>
                 (.sum v466 (fun v467 =>
                  (.call (laws_eqFloat32S_g ([] : List Nat) v163.2) fun v469 =>
                  (.br (!v469) (
                   .leaf false
                  ) (
                   (.br (!(laws_sameFloat_v (wid (0 : Nat)) (wid v163.1))) (
                    .leaf false
                   ) (
                    (.br (!(false == true)) (
                     .leaf false
                    ) (
                     (.call (laws_heldFloat32S_g v462.2 (1 : Int)) fun v470 =>
                     (.br (decide (v470 < (0 : Int))) (
                      .leaf false
                     ) (
                      (.br (!decide (v470 = v462.1)) (
                       .leaf false
                      ) (
                       .leaf true
                      ))
                     )))
                    ))
                   ))
                  )))
                 ) (fun v468 =>
                  (.call (laws_eqFloat32S_g v468.2 v163.2) fun v471 =>
                  (.br (!v471) (
                   .leaf false
                  ) (
                   (.br (!(laws_sameFloat_v (wid v468.1) (wid v163.1))) (
                    .leaf false
                   ) (
                    (.br (!(true == true)) (
                     .leaf false
                    ) (
                     (.call (laws_heldFloat32S_g v462.2 (1 : Int)) fun v472 =>
                     (.br (decide (v472 < (0 : Int))) (
                      .leaf false
                     ) (
                      (.br (!decide (v472 = v462.1)) (
                       .leaf false
                      ) (
                       .leaf true
                      ))
                     )))
                    ))
                   ))
                  )))
                 )))))
                ))
               )))))
              ))
             ))
            )))
           ))))))
          ))))
         ))))
        ))
       ))
      )))
     )))))
    )))))
   ))
  ))

noncomputable def laws_FnExactPowerRounds_g (v1 : Int) (v2 : Int) (v3 : List Nat) (v4 : List Nat) (v5 : Int) : Option (Bool) := (laws_FnExactPowerRounds_T v1 v2 v3 v4 v5).run
def laws_FnExactPowerRounds_enc (v1 : Int) (v2 : Int) (v3 : List Nat) (v4 : List Nat) (v5 : Int) (y : Bool) : Rs := (.bool y, [])
theorem laws_FnExactPowerRounds_den (v1 : Int) (v2 : Int) (v3 : List Nat) (v4 : List Nat) (v5 : Int) : (den TT (tabD laws_FnExactPowerRounds_tab) (tabM laws_FnExactPowerRounds_tab) (laws_FnExactPowerRounds_LO v1 v2 v3 v4 v5) (codeOf Try.f6) ([.agg [.int .i64 v1, .int .i64 v2, .bslc (BR.root 0) (.f32 v3)], .bslc (BR.root 1) (.f32 v4), .int .i64 v5] ++ List.replicate (Try.f6.ntmps - ([.agg [.int .i64 v1, .int .i64 v2, .bslc (BR.root 0) (.f32 v3)], .bslc (BR.root 1) (.f32 v4), .int .i64 v5] : List DV).length) .undef) []).bind (retD TT Try.f6.results.toList 0) = (laws_FnExactPowerRounds_T v1 v2 v3 v4 v5).bind fun y => .leaf (laws_FnExactPowerRounds_enc v1 v2 v3 v4 v5 y) := by kernel_rfl
theorem laws_FnExactPowerRounds_fn (v1 : Int) (v2 : Int) (v3 : List Nat) (v4 : List Nat) (v5 : Int) (F : Fr) (hm : F.ids.length = 0) (h0 : St F [] F.H0) (hA : DVs.Ok F [] [.agg [.int .i64 v1, .int .i64 v2, .bslc (BR.root 0) (.f32 v3)], .bslc (BR.root 1) (.f32 v4), .int .i64 v5]) {y : Bool} (hy : laws_FnExactPowerRounds_g v1 v2 v3 v4 v5 = some y) : ∃ H', FnOk Try.prog 6 (DVs.av F [.agg [.int .i64 v1, .int .i64 v2, .bslc (BR.root 0) (.f32 v3)], .bslc (BR.root 1) (.f32 v4), .int .i64 v5]) F.H0 ((laws_FnExactPowerRounds_enc v1 v2 v3 v4 v5 y).1.av F) H' ∧ St F (laws_FnExactPowerRounds_enc v1 v2 v3 v4 v5 y).2 H' ∧ (laws_FnExactPowerRounds_enc v1 v2 v3 v4 v5 y).1.Ok F (laws_FnExactPowerRounds_enc v1 v2 v3 v4 v5 y).2 :=
  fn_fin tok laws_FnExactPowerRounds_hO mixed Try.func6 Try.call6 (by kernel_rfl) (LoopsOk_eq (l := []) (by kernel_rfl) trivial) (laws_FnExactPowerRounds_den v1 v2 v3 v4 v5) hy hm h0 hA
noncomputable def laws_FnExactPowerRounds_F : DFn := fun args L =>
  match args with
  | [.agg [.int .i64 v1, .int .i64 v2, a1], a2, .int .i64 v5] =>
    optT (rowF32 L a1) fun v3 =>
    optT (rowF32 L a2) fun v4 =>
    .call (laws_FnExactPowerRounds_g v1 v2 v3 v4 v5) fun y => .leaf (.bool y, L)
  | _ => .fail
theorem laws_FnExactPowerRounds_Fok : COk Try.prog 6 laws_FnExactPowerRounds_F true := by
  intro F L H args r L' hs ha hr
  unfold laws_FnExactPowerRounds_F at hr
  split at hr
  · rename_i v1 v2 a1 a2 v5
    obtain ⟨v3, hv3, hr⟩ := optT_run hr
    obtain ⟨v4, hv4, hr⟩ := optT_run hr
    simp only [Tree.run] at hr
    obtain ⟨y, hy, hr⟩ := Option.bind_eq_some_iff.1 hr
    simp only [Tree.run, Option.some.injEq, Prod.mk.injEq] at hr
    obtain ⟨rfl, rfl⟩ := hr
    exact call_ok0 hs (fun k => (([a1.av F, a2.av F] : List AV)[k]?).getD .top) [.agg [.int .i64 v1, .int .i64 v2, a1], a2, .int .i64 v5] [.agg [.int .i64 v1, .int .i64 v2, .bslc (BR.root 0) (.f32 v3)], .bslc (BR.root 1) (.f32 v4), .int .i64 v5] (fun F' h0 hi hρ => ⟨by simp [DVs.av, DV.av, BR.av, hρ], laws_FnExactPowerRounds_fn v1 v2 v3 v4 v5 F' (by rw [hi]; rfl) (st_nil hi) ⟨⟨trivial, trivial, bslc_ok hi (by rw [h0, hρ]; exact rowF32_ok hs (DVs.okAt (DVs.okAt ha 0 rfl) 2 rfl) hv3), trivial⟩, bslc_ok hi (by rw [h0, hρ]; exact rowF32_ok hs (DVs.okAt ha 1 rfl) hv4), trivial, trivial⟩ hy⟩) rfl
  · cases hr
/-! laws.szFloat32S -/
noncomputable def laws_szFloat32S_len_LO (v482 : Nat) (v483 : Int) : LOr := fun id e L =>
  match id with
  | _ => .fail
noncomputable def laws_szFloat32S_len_tab : List (FuncId × DFn × Bool) := []
theorem laws_szFloat32S_len_hO : OrcOk Try.prog (tabD laws_szFloat32S_len_tab) (tabM laws_szFloat32S_len_tab) := tabD_nil _
noncomputable def laws_szFloat32S_len_T (v482 : Nat) (v483 : Int) : Tree (Int) :=
  (.br (decide (IntKind.i64.wrap (v483 - ((v482 : Nat) : Int)) < (0 : Int))) (
   .leaf (-1 : Int)
  ) (
   .leaf (IntKind.i64.wrap (v483 - ((v482 : Nat) : Int)))
  ))

noncomputable def laws_szFloat32S_len_g (v482 : Nat) (v483 : Int) : Option (Int) := (laws_szFloat32S_len_T v482 v483).run
def laws_szFloat32S_len_enc (v482 : Nat) (v483 : Int) (y : Int) : Rs := (.int .i64 y, [])
theorem laws_szFloat32S_len_den (v482 : Nat) (v483 : Int) : (den TT (tabD laws_szFloat32S_len_tab) (tabM laws_szFloat32S_len_tab) (laws_szFloat32S_len_LO v482 v483) (codeOf Try.f44) ([.hslc (BR.root 0) v482, .int .i64 v483] ++ List.replicate (Try.f44.ntmps - ([.hslc (BR.root 0) v482, .int .i64 v483] : List DV).length) .undef) []).bind (retD TT Try.f44.results.toList 0) = (laws_szFloat32S_len_T v482 v483).bind fun y => .leaf (laws_szFloat32S_len_enc v482 v483 y) := by kernel_rfl
theorem laws_szFloat32S_len_fn (v482 : Nat) (v483 : Int) (F : Fr) (hm : F.ids.length = 0) (h0 : St F [] F.H0) (hA : DVs.Ok F [] [.hslc (BR.root 0) v482, .int .i64 v483]) {y : Int} (hy : laws_szFloat32S_len_g v482 v483 = some y) : ∃ H', FnOk Try.prog 44 (DVs.av F [.hslc (BR.root 0) v482, .int .i64 v483]) F.H0 ((laws_szFloat32S_len_enc v482 v483 y).1.av F) H' ∧ St F (laws_szFloat32S_len_enc v482 v483 y).2 H' ∧ (laws_szFloat32S_len_enc v482 v483 y).1.Ok F (laws_szFloat32S_len_enc v482 v483 y).2 :=
  fn_fin tok laws_szFloat32S_len_hO mixed Try.func44 Try.call44 (by kernel_rfl) (LoopsOk_eq (l := []) (by kernel_rfl) trivial) (laws_szFloat32S_len_den v482 v483) hy hm h0 hA
def laws_szFloat32S_len_v (v482 : Nat) (v483 : Int) : Int :=
  if (decide (IntKind.i64.wrap (v483 - ((v482 : Nat) : Int)) < (0 : Int))) = true then (
   (-1 : Int)
  ) else (
   IntKind.i64.wrap (v483 - ((v482 : Nat) : Int))
  )
theorem laws_szFloat32S_len_tot (v482 : Nat) (v483 : Int) : laws_szFloat32S_len_g v482 v483 = some (laws_szFloat32S_len_v v482 v483) := by
  unfold laws_szFloat32S_len_g laws_szFloat32S_len_T laws_szFloat32S_len_v
  simp only [Tree.run]
  repeat' (first | rfl | split)
noncomputable def laws_szFloat32S_len_F : DFn := fun args L =>
  match args with
  | [a1, .int .i64 v483] =>
    optT (lenV L a1) fun v482 =>
    .leaf (.int .i64 (laws_szFloat32S_len_v v482 v483), L)
  | _ => .fail
theorem laws_szFloat32S_len_Fok : COk Try.prog 44 laws_szFloat32S_len_F true := by
  intro F L H args r L' hs ha hr
  unfold laws_szFloat32S_len_F at hr
  split at hr
  · rename_i a1 v483
    obtain ⟨v482, hv482, hr⟩ := optT_run hr
    have hy := laws_szFloat32S_len_tot v482 v483
    generalize laws_szFloat32S_len_v v482 v483 = y at hy hr
    simp only [Tree.run, Option.some.injEq, Prod.mk.injEq] at hr
    obtain ⟨rfl, rfl⟩ := hr
    exact call_ok0 hs (fun k => (([a1.av F] : List AV)[k]?).getD .top) [a1, .int .i64 v483] [.hslc (BR.root 0) v482, .int .i64 v483] (fun F' h0 hi hρ => ⟨by simp [DVs.av, DV.av, BR.av, hρ], laws_szFloat32S_len_fn v482 v483 F' (by rw [hi]; rfl) (st_nil hi) ⟨hslc_ok hi (by rw [h0, hρ]; exact lenV_ok hs (DVs.okAt ha 0 rfl) hv482), trivial, trivial⟩ hy⟩) rfl
  · cases hr
/-! laws.szMatrix -/
noncomputable def laws_szMatrix_len_LO (v478 : Int) (v479 : Int) (v480 : Nat) (v481 : Int) : LOr := fun id e L =>
  match id with
  | _ => .fail
noncomputable def laws_szMatrix_len_tab : List (FuncId × DFn × Bool) := [(44, laws_szFloat32S_len_F, true)]
theorem laws_szMatrix_len_hO : OrcOk Try.prog (tabD laws_szMatrix_len_tab) (tabM laws_szMatrix_len_tab) := tabD_cons laws_szFloat32S_len_Fok (tabD_nil _)
noncomputable def laws_szMatrix_len_T (v480 : Nat) (v481 : Int) : Tree (Int) :=
  (.br (decide ((laws_szFloat32S_len_v v480 v481) < (0 : Int))) (
   .leaf (-1 : Int)
  ) (
   .leaf (laws_szFloat32S_len_v v480 v481)
  ))

noncomputable def laws_szMatrix_len_g (v480 : Nat) (v481 : Int) : Option (Int) := (laws_szMatrix_len_T v480 v481).run
def laws_szMatrix_len_enc (v478 : Int) (v479 : Int) (v480 : Nat) (v481 : Int) (y : Int) : Rs := (.int .i64 y, [])
theorem laws_szMatrix_len_den (v478 : Int) (v479 : Int) (v480 : Nat) (v481 : Int) : (den TT (tabD laws_szMatrix_len_tab) (tabM laws_szMatrix_len_tab) (laws_szMatrix_len_LO v478 v479 v480 v481) (codeOf Try.f16) ([.agg [.int .i64 v478, .int .i64 v479, .hslc (BR.root 0) v480], .int .i64 v481] ++ List.replicate (Try.f16.ntmps - ([.agg [.int .i64 v478, .int .i64 v479, .hslc (BR.root 0) v480], .int .i64 v481] : List DV).length) .undef) []).bind (retD TT Try.f16.results.toList 0) = (laws_szMatrix_len_T v480 v481).bind fun y => .leaf (laws_szMatrix_len_enc v478 v479 v480 v481 y) := by kernel_rfl
theorem laws_szMatrix_len_fn (v478 : Int) (v479 : Int) (v480 : Nat) (v481 : Int) (F : Fr) (hm : F.ids.length = 0) (h0 : St F [] F.H0) (hA : DVs.Ok F [] [.agg [.int .i64 v478, .int .i64 v479, .hslc (BR.root 0) v480], .int .i64 v481]) {y : Int} (hy : laws_szMatrix_len_g v480 v481 = some y) : ∃ H', FnOk Try.prog 16 (DVs.av F [.agg [.int .i64 v478, .int .i64 v479, .hslc (BR.root 0) v480], .int .i64 v481]) F.H0 ((laws_szMatrix_len_enc v478 v479 v480 v481 y).1.av F) H' ∧ St F (laws_szMatrix_len_enc v478 v479 v480 v481 y).2 H' ∧ (laws_szMatrix_len_enc v478 v479 v480 v481 y).1.Ok F (laws_szMatrix_len_enc v478 v479 v480 v481 y).2 :=
  fn_fin tok laws_szMatrix_len_hO mixed Try.func16 Try.call16 (by kernel_rfl) (LoopsOk_eq (l := []) (by kernel_rfl) trivial) (laws_szMatrix_len_den v478 v479 v480 v481) hy hm h0 hA
def laws_szMatrix_len_v (v480 : Nat) (v481 : Int) : Int :=
  if (decide ((laws_szFloat32S_len_v v480 v481) < (0 : Int))) = true then (
   (-1 : Int)
  ) else (
   (laws_szFloat32S_len_v v480 v481)
  )
theorem laws_szMatrix_len_tot (v480 : Nat) (v481 : Int) : laws_szMatrix_len_g v480 v481 = some (laws_szMatrix_len_v v480 v481) := by
  unfold laws_szMatrix_len_g laws_szMatrix_len_T laws_szMatrix_len_v
  simp only [Tree.run]
  repeat' (first | rfl | split)
noncomputable def laws_szMatrix_len_F : DFn := fun args L =>
  match args with
  | [.agg [.int .i64 v478, .int .i64 v479, a1], .int .i64 v481] =>
    optT (lenV L a1) fun v480 =>
    .leaf (.int .i64 (laws_szMatrix_len_v v480 v481), L)
  | _ => .fail
theorem laws_szMatrix_len_Fok : COk Try.prog 16 laws_szMatrix_len_F true := by
  intro F L H args r L' hs ha hr
  unfold laws_szMatrix_len_F at hr
  split at hr
  · rename_i v478 v479 a1 v481
    obtain ⟨v480, hv480, hr⟩ := optT_run hr
    have hy := laws_szMatrix_len_tot v480 v481
    generalize laws_szMatrix_len_v v480 v481 = y at hy hr
    simp only [Tree.run, Option.some.injEq, Prod.mk.injEq] at hr
    obtain ⟨rfl, rfl⟩ := hr
    exact call_ok0 hs (fun k => (([a1.av F] : List AV)[k]?).getD .top) [.agg [.int .i64 v478, .int .i64 v479, a1], .int .i64 v481] [.agg [.int .i64 v478, .int .i64 v479, .hslc (BR.root 0) v480], .int .i64 v481] (fun F' h0 hi hρ => ⟨by simp [DVs.av, DV.av, BR.av, hρ], laws_szMatrix_len_fn v478 v479 v480 v481 F' (by rw [hi]; rfl) (st_nil hi) ⟨⟨trivial, trivial, hslc_ok hi (by rw [h0, hρ]; exact lenV_ok hs (DVs.okAt (DVs.okAt ha 0 rfl) 2 rfl) hv480), trivial⟩, trivial, trivial⟩ hy⟩) rfl
  · cases hr
/-! laws.FnExactPowerRounds -/
noncomputable def laws_FnExactPowerRounds_len_LO (v473 : Int) (v474 : Int) (v475 : Nat) (v476 : Nat) (v477 : Int) : LOr := fun id e L =>
  match id with
  | _ => .fail
noncomputable def laws_FnExactPowerRounds_len_tab : List (FuncId × DFn × Bool) := [(16, laws_szMatrix_len_F, true)]
theorem laws_FnExactPowerRounds_len_hO : OrcOk Try.prog (tabD laws_FnExactPowerRounds_len_tab) (tabM laws_FnExactPowerRounds_len_tab) := tabD_cons laws_szMatrix_len_Fok (tabD_nil _)
noncomputable def laws_FnExactPowerRounds_len_T (v475 : Nat) (v476 : Nat) : Tree (Bool) :=
  (.br (decide ((1048576 : Int) < ((v476 : Nat) : Int))) (
   .leaf true
  ) (
   (.br (decide ((laws_szMatrix_len_v v475 (1048576 : Int)) < (0 : Int))) (
    .leaf true
   ) (
    .fail
   ))
  ))

noncomputable def laws_FnExactPowerRounds_len_g (v475 : Nat) (v476 : Nat) : Option (Bool) := (laws_FnExactPowerRounds_len_T v475 v476).run
def laws_FnExactPowerRounds_len_enc (v473 : Int) (v474 : Int) (v475 : Nat) (v476 : Nat) (v477 : Int) (y : Bool) : Rs := (.bool y, [])
theorem laws_FnExactPowerRounds_len_den (v473 : Int) (v474 : Int) (v475 : Nat) (v476 : Nat) (v477 : Int) : (den TT (tabD laws_FnExactPowerRounds_len_tab) (tabM laws_FnExactPowerRounds_len_tab) (laws_FnExactPowerRounds_len_LO v473 v474 v475 v476 v477) (codeOf Try.f6) ([.agg [.int .i64 v473, .int .i64 v474, .hslc (BR.root 0) v475], .hslc (BR.root 1) v476, .int .i64 v477] ++ List.replicate (Try.f6.ntmps - ([.agg [.int .i64 v473, .int .i64 v474, .hslc (BR.root 0) v475], .hslc (BR.root 1) v476, .int .i64 v477] : List DV).length) .undef) []).bind (retD TT Try.f6.results.toList 0) = (laws_FnExactPowerRounds_len_T v475 v476).bind fun y => .leaf (laws_FnExactPowerRounds_len_enc v473 v474 v475 v476 v477 y) := by kernel_rfl
theorem laws_FnExactPowerRounds_len_fn (v473 : Int) (v474 : Int) (v475 : Nat) (v476 : Nat) (v477 : Int) (F : Fr) (hm : F.ids.length = 0) (h0 : St F [] F.H0) (hA : DVs.Ok F [] [.agg [.int .i64 v473, .int .i64 v474, .hslc (BR.root 0) v475], .hslc (BR.root 1) v476, .int .i64 v477]) {y : Bool} (hy : laws_FnExactPowerRounds_len_g v475 v476 = some y) : ∃ H', FnOk Try.prog 6 (DVs.av F [.agg [.int .i64 v473, .int .i64 v474, .hslc (BR.root 0) v475], .hslc (BR.root 1) v476, .int .i64 v477]) F.H0 ((laws_FnExactPowerRounds_len_enc v473 v474 v475 v476 v477 y).1.av F) H' ∧ St F (laws_FnExactPowerRounds_len_enc v473 v474 v475 v476 v477 y).2 H' ∧ (laws_FnExactPowerRounds_len_enc v473 v474 v475 v476 v477 y).1.Ok F (laws_FnExactPowerRounds_len_enc v473 v474 v475 v476 v477 y).2 :=
  fn_fin tok laws_FnExactPowerRounds_len_hO mixed Try.func6 Try.call6 (by kernel_rfl) (LoopsOk_eq (l := []) (by kernel_rfl) trivial) (laws_FnExactPowerRounds_len_den v473 v474 v475 v476 v477) hy hm h0 hA
noncomputable def laws_FnExactPowerRounds_len_F : DFn := fun args L =>
  match args with
  | [.agg [.int .i64 v473, .int .i64 v474, a1], a2, .int .i64 v477] =>
    optT (lenV L a1) fun v475 =>
    optT (lenV L a2) fun v476 =>
    .call (laws_FnExactPowerRounds_len_g v475 v476) fun y => .leaf (.bool y, L)
  | _ => .fail
theorem laws_FnExactPowerRounds_len_Fok : COk Try.prog 6 laws_FnExactPowerRounds_len_F true := by
  intro F L H args r L' hs ha hr
  unfold laws_FnExactPowerRounds_len_F at hr
  split at hr
  · rename_i v473 v474 a1 a2 v477
    obtain ⟨v475, hv475, hr⟩ := optT_run hr
    obtain ⟨v476, hv476, hr⟩ := optT_run hr
    simp only [Tree.run] at hr
    obtain ⟨y, hy, hr⟩ := Option.bind_eq_some_iff.1 hr
    simp only [Tree.run, Option.some.injEq, Prod.mk.injEq] at hr
    obtain ⟨rfl, rfl⟩ := hr
    exact call_ok0 hs (fun k => (([a1.av F, a2.av F] : List AV)[k]?).getD .top) [.agg [.int .i64 v473, .int .i64 v474, a1], a2, .int .i64 v477] [.agg [.int .i64 v473, .int .i64 v474, .hslc (BR.root 0) v475], .hslc (BR.root 1) v476, .int .i64 v477] (fun F' h0 hi hρ => ⟨by simp [DVs.av, DV.av, BR.av, hρ], laws_FnExactPowerRounds_len_fn v473 v474 v475 v476 v477 F' (by rw [hi]; rfl) (st_nil hi) ⟨⟨trivial, trivial, hslc_ok hi (by rw [h0, hρ]; exact lenV_ok hs (DVs.okAt (DVs.okAt ha 0 rfl) 2 rfl) hv475), trivial⟩, hslc_ok hi (by rw [h0, hρ]; exact lenV_ok hs (DVs.okAt ha 1 rfl) hv476), trivial, trivial⟩ hy⟩) rfl
  · cases hr
end Go.Proofs.Ytflodniglbgkhaa.AM
