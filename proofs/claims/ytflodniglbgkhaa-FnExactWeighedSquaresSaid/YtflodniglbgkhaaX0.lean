/- Functions: what they come to. -/
import Derived.Test.YtflodniglbgkhaaBase
set_option maxRecDepth 100000
set_option maxHeartbeats 4000000
set_option linter.unusedSimpArgs false
set_option linter.unusedVariables false
namespace Go.Proofs.Ytflodniglbgkhaa.AM
open Go.Proofs
/-! laws.szFloat32S -/
noncomputable def laws_szFloat32S_LO (v10 : List Nat) (v11 : Int) : LOr := fun id e L =>
  match id with
  | _ => .fail
noncomputable def laws_szFloat32S_tab : List (FuncId × DFn × Bool) := []
theorem laws_szFloat32S_hO : OrcOk Try.prog (tabD laws_szFloat32S_tab) (tabM laws_szFloat32S_tab) := tabD_nil _
noncomputable def laws_szFloat32S_T (v10 : List Nat) (v11 : Int) : Tree (Int) :=
  (.br (decide (IntKind.i64.wrap (v11 - ((v10.length : Nat) : Int)) < (0 : Int))) (
   .leaf (-1 : Int)
  ) (
   .leaf (IntKind.i64.wrap (v11 - ((v10.length : Nat) : Int)))
  ))

noncomputable def laws_szFloat32S_g (v10 : List Nat) (v11 : Int) : Option (Int) := (laws_szFloat32S_T v10 v11).run
def laws_szFloat32S_enc (v10 : List Nat) (v11 : Int) (y : Int) : Rs := (.int .i64 y, [])
theorem laws_szFloat32S_den (v10 : List Nat) (v11 : Int) : (den TT (tabD laws_szFloat32S_tab) (tabM laws_szFloat32S_tab) (laws_szFloat32S_LO v10 v11) (codeOf Try.f44) ([.bslc (BR.root 0) (.f32 v10), .int .i64 v11] ++ List.replicate (Try.f44.ntmps - ([.bslc (BR.root 0) (.f32 v10), .int .i64 v11] : List DV).length) .undef) []).bind (retD TT Try.f44.results.toList 0) = (laws_szFloat32S_T v10 v11).bind fun y => .leaf (laws_szFloat32S_enc v10 v11 y) := by kernel_rfl
theorem laws_szFloat32S_fn (v10 : List Nat) (v11 : Int) (F : Fr) (hm : F.ids.length = 0) (h0 : St F [] F.H0) (hA : DVs.Ok F [] [.bslc (BR.root 0) (.f32 v10), .int .i64 v11]) {y : Int} (hy : laws_szFloat32S_g v10 v11 = some y) : ∃ H', FnOk Try.prog 44 (DVs.av F [.bslc (BR.root 0) (.f32 v10), .int .i64 v11]) F.H0 ((laws_szFloat32S_enc v10 v11 y).1.av F) H' ∧ St F (laws_szFloat32S_enc v10 v11 y).2 H' ∧ (laws_szFloat32S_enc v10 v11 y).1.Ok F (laws_szFloat32S_enc v10 v11 y).2 :=
  fn_fin tok laws_szFloat32S_hO mixed Try.func44 Try.call44 (by kernel_rfl) (LoopsOk_eq (l := []) (by kernel_rfl) trivial) (laws_szFloat32S_den v10 v11) hy hm h0 hA
def laws_szFloat32S_v (v10 : List Nat) (v11 : Int) : Int :=
  if (decide (IntKind.i64.wrap (v11 - ((v10.length : Nat) : Int)) < (0 : Int))) = true then (
   (-1 : Int)
  ) else (
   IntKind.i64.wrap (v11 - ((v10.length : Nat) : Int))
  )
theorem laws_szFloat32S_tot (v10 : List Nat) (v11 : Int) : laws_szFloat32S_g v10 v11 = some (laws_szFloat32S_v v10 v11) := by
  unfold laws_szFloat32S_g laws_szFloat32S_T laws_szFloat32S_v
  simp only [Tree.run]
  repeat' (first | rfl | split)
noncomputable def laws_szFloat32S_F : DFn := fun args L =>
  match args with
  | [a1, .int .i64 v11] =>
    optT (rowF32 L a1) fun v10 =>
    .leaf (.int .i64 (laws_szFloat32S_v v10 v11), L)
  | _ => .fail
theorem laws_szFloat32S_Fok : COk Try.prog 44 laws_szFloat32S_F true := by
  intro F L H args r L' hs ha hr
  unfold laws_szFloat32S_F at hr
  split at hr
  · rename_i a1 v11
    obtain ⟨v10, hv10, hr⟩ := optT_run hr
    have hy := laws_szFloat32S_tot v10 v11
    generalize laws_szFloat32S_v v10 v11 = y at hy hr
    simp only [Tree.run, Option.some.injEq, Prod.mk.injEq] at hr
    obtain ⟨rfl, rfl⟩ := hr
    exact call_ok0 hs (fun k => (([a1.av F] : List AV)[k]?).getD .top) [a1, .int .i64 v11] [.bslc (BR.root 0) (.f32 v10), .int .i64 v11] (fun F' h0 hi hρ => ⟨by simp [DVs.av, DV.av, BR.av, hρ], laws_szFloat32S_fn v10 v11 F' (by rw [hi]; rfl) (st_nil hi) ⟨bslc_ok hi (by rw [h0, hρ]; exact rowF32_ok hs (DVs.okAt ha 0 rfl) hv10), trivial, trivial⟩ hy⟩) rfl
  · cases hr
/-! laws.szMatrix -/
noncomputable def laws_szMatrix_LO (v6 : Int) (v7 : Int) (v8 : List Nat) (v9 : Int) : LOr := fun id e L =>
  match id with
  | _ => .fail
noncomputable def laws_szMatrix_tab : List (FuncId × DFn × Bool) := [(44, laws_szFloat32S_F, true)]
theorem laws_szMatrix_hO : OrcOk Try.prog (tabD laws_szMatrix_tab) (tabM laws_szMatrix_tab) := tabD_cons laws_szFloat32S_Fok (tabD_nil _)
noncomputable def laws_szMatrix_T (v8 : List Nat) (v9 : Int) : Tree (Int) :=
  (.br (decide ((laws_szFloat32S_v v8 v9) < (0 : Int))) (
   .leaf (-1 : Int)
  ) (
   .leaf (laws_szFloat32S_v v8 v9)
  ))

noncomputable def laws_szMatrix_g (v8 : List Nat) (v9 : Int) : Option (Int) := (laws_szMatrix_T v8 v9).run
def laws_szMatrix_enc (v6 : Int) (v7 : Int) (v8 : List Nat) (v9 : Int) (y : Int) : Rs := (.int .i64 y, [])
theorem laws_szMatrix_den (v6 : Int) (v7 : Int) (v8 : List Nat) (v9 : Int) : (den TT (tabD laws_szMatrix_tab) (tabM laws_szMatrix_tab) (laws_szMatrix_LO v6 v7 v8 v9) (codeOf Try.f16) ([.agg [.int .i64 v6, .int .i64 v7, .bslc (BR.root 0) (.f32 v8)], .int .i64 v9] ++ List.replicate (Try.f16.ntmps - ([.agg [.int .i64 v6, .int .i64 v7, .bslc (BR.root 0) (.f32 v8)], .int .i64 v9] : List DV).length) .undef) []).bind (retD TT Try.f16.results.toList 0) = (laws_szMatrix_T v8 v9).bind fun y => .leaf (laws_szMatrix_enc v6 v7 v8 v9 y) := by kernel_rfl
theorem laws_szMatrix_fn (v6 : Int) (v7 : Int) (v8 : List Nat) (v9 : Int) (F : Fr) (hm : F.ids.length = 0) (h0 : St F [] F.H0) (hA : DVs.Ok F [] [.agg [.int .i64 v6, .int .i64 v7, .bslc (BR.root 0) (.f32 v8)], .int .i64 v9]) {y : Int} (hy : laws_szMatrix_g v8 v9 = some y) : ∃ H', FnOk Try.prog 16 (DVs.av F [.agg [.int .i64 v6, .int .i64 v7, .bslc (BR.root 0) (.f32 v8)], .int .i64 v9]) F.H0 ((laws_szMatrix_enc v6 v7 v8 v9 y).1.av F) H' ∧ St F (laws_szMatrix_enc v6 v7 v8 v9 y).2 H' ∧ (laws_szMatrix_enc v6 v7 v8 v9 y).1.Ok F (laws_szMatrix_enc v6 v7 v8 v9 y).2 :=
  fn_fin tok laws_szMatrix_hO mixed Try.func16 Try.call16 (by kernel_rfl) (LoopsOk_eq (l := []) (by kernel_rfl) trivial) (laws_szMatrix_den v6 v7 v8 v9) hy hm h0 hA
def laws_szMatrix_v (v8 : List Nat) (v9 : Int) : Int :=
  if (decide ((laws_szFloat32S_v v8 v9) < (0 : Int))) = true then (
   (-1 : Int)
  ) else (
   (laws_szFloat32S_v v8 v9)
  )
theorem laws_szMatrix_tot (v8 : List Nat) (v9 : Int) : laws_szMatrix_g v8 v9 = some (laws_szMatrix_v v8 v9) := by
  unfold laws_szMatrix_g laws_szMatrix_T laws_szMatrix_v
  simp only [Tree.run]
  repeat' (first | rfl | split)
noncomputable def laws_szMatrix_F : DFn := fun args L =>
  match args with
  | [.agg [.int .i64 v6, .int .i64 v7, a1], .int .i64 v9] =>
    optT (rowF32 L a1) fun v8 =>
    .leaf (.int .i64 (laws_szMatrix_v v8 v9), L)
  | _ => .fail
theorem laws_szMatrix_Fok : COk Try.prog 16 laws_szMatrix_F true := by
  intro F L H args r L' hs ha hr
  unfold laws_szMatrix_F at hr
  split at hr
  · rename_i v6 v7 a1 v9
    obtain ⟨v8, hv8, hr⟩ := optT_run hr
    have hy := laws_szMatrix_tot v8 v9
    generalize laws_szMatrix_v v8 v9 = y at hy hr
    simp only [Tree.run, Option.some.injEq, Prod.mk.injEq] at hr
    obtain ⟨rfl, rfl⟩ := hr
    exact call_ok0 hs (fun k => (([a1.av F] : List AV)[k]?).getD .top) [.agg [.int .i64 v6, .int .i64 v7, a1], .int .i64 v9] [.agg [.int .i64 v6, .int .i64 v7, .bslc (BR.root 0) (.f32 v8)], .int .i64 v9] (fun F' h0 hi hρ => ⟨by simp [DVs.av, DV.av, BR.av, hρ], laws_szMatrix_fn v6 v7 v8 v9 F' (by rw [hi]; rfl) (st_nil hi) ⟨⟨trivial, trivial, bslc_ok hi (by rw [h0, hρ]; exact rowF32_ok hs (DVs.okAt (DVs.okAt ha 0 rfl) 2 rfl) hv8), trivial⟩, trivial, trivial⟩ hy⟩) rfl
  · cases hr
/-! laws.toFloat32S -/
noncomputable def laws_toFloat32S_l0_T (v15 : List Nat) (s : Int × (List Nat)) : Tree ((Int × (List Nat)) ⊕ ((List Nat))) :=
  (.br (decide (s.1 < ((v15.length : Nat) : Int))) (
   (.grd (inb s.1 v15.length) <|
   (.grd (inb s.1 ((s.2).length)) <|
   .leaf (.inl (IntKind.i64.wrap (s.1 + (1 : Int)), List.set s.2 (Int.toNat s.1) (nth v15 (Int.toNat s.1))))))
  ) (
   .leaf (.inr s.2)
  ))

noncomputable def laws_toFloat32S_l0_g (v15 : List Nat) (s0 : Int × (List Nat)) : Option ((List Nat)) := whileM (fun s => (laws_toFloat32S_l0_T v15 s).run) s0
def laws_toFloat32S_l0_E (v15 : List Nat) (s : Int × (List Nat)) : Sd := ([.bslc (BR.root 0) (.f32 v15), .top, .top, .own 0 0 ((s.2).length), .int .i64 s.1, .top, .top, .top, .top, .top, .top, .top, .top, .top, .top, .top, .top, .top, .top, .top, .top, .top], [.row (.f32 s.2) 0])
def laws_toFloat32S_l0_X (v15 : List Nat) (x : (List Nat)) : Out := (.normal, [.top, .top, .top, .own 0 0 ((x).length), .top, .top, .top, .top, .top, .top, .top, .top, .top, .top, .top, .top, .top, .top, .top, .top, .top, .top], [.row (.f32 x) 0])
def laws_toFloat32S_l0_kill : List Nat := [0, 1, 1, 0, 0, 1, 1, 1, 1, 1, 1, 1, 1, 1, 1, 1, 1, 1, 1, 1, 1, 1]
def laws_toFloat32S_l0_nx : Exit → List Nat
  | .exit 0 => [1, 1, 1, 0, 1, 1, 1, 1, 1, 1, 1, 1, 1, 1, 1, 1, 1, 1, 1, 1, 1, 1]
  | .ret => [1, 1, 0, 1, 1, 1, 1, 1, 1, 1, 1, 1, 1, 1, 1, 1, 1, 1, 1, 1, 1, 1]
  | _ => []
noncomputable def laws_toFloat32S_LO (v15 : List Nat) : LOr := fun id e L =>
  match id with
  | 0 => .need (normA 0 laws_toFloat32S_l0_kill e L = some (laws_toFloat32S_l0_E v15 ((gI (vAt e 4)), (gRF L (vAt e 3))))) (.call (laws_toFloat32S_l0_g v15 ((gI (vAt e 4)), (gRF L (vAt e 3)))) fun x => .leaf (laws_toFloat32S_l0_X v15 x))
  | _ => .fail
noncomputable def laws_toFloat32S_tab : List (FuncId × DFn × Bool) := []
theorem laws_toFloat32S_hO : OrcOk Try.prog (tabD laws_toFloat32S_tab) (tabM laws_toFloat32S_tab) := tabD_nil _
theorem laws_toFloat32S_l0_be (v15 : List Nat) (s : Int × (List Nat)) : bodyT TT (tabD laws_toFloat32S_tab) (tabM laws_toFloat32S_tab) (laws_toFloat32S_LO v15) 0 laws_toFloat32S_l0_kill laws_toFloat32S_l0_nx (bodyOf Try.f10 0) 0 (laws_toFloat32S_l0_E v15 s) = (laws_toFloat32S_l0_T v15 s).bind fun y => .leaf (outS (laws_toFloat32S_l0_E v15) (laws_toFloat32S_l0_X v15) y) := by kernel_rfl
theorem laws_toFloat32S_l0_ok (v15 : List Nat) : LSound Try.prog 0 (laws_toFloat32S_LO v15) 0 (bodyOf Try.f10 0) := by
  intro e L out h
  exact lo_ok (E := laws_toFloat32S_l0_E v15) (gT := laws_toFloat32S_l0_T v15) (X := laws_toFloat32S_l0_X v15) (s0 := ((gI (vAt e 4)), (gRF L (vAt e 3)))) tok laws_toFloat32S_hO mixed (LoopsOk_eq (l := []) (by kernel_rfl) trivial) (laws_toFloat32S_l0_be v15) rfl (by intro x; rfl) h
noncomputable def laws_toFloat32S_T (v15 : List Nat) : Tree ((List Nat)) :=
  (.need (((v15.length : Nat) : Int) = ((v15.length : Nat) : Int)) <|
  (.grd (inb ((v15.length : Nat) : Int) (maxN + 1)) <|
  (.need (some (laws_toFloat32S_l0_E v15 ((0 : Int), List.replicate (Int.toNat ((v15.length : Nat) : Int)) (0 : Nat))) = some (laws_toFloat32S_l0_E v15 ((0 : Int), List.replicate (Int.toNat ((v15.length : Nat) : Int)) (0 : Nat)))) <|
  (.call (laws_toFloat32S_l0_g v15 ((0 : Int), List.replicate (Int.toNat ((v15.length : Nat) : Int)) (0 : Nat))) fun v21 =>
  .leaf v21))))

noncomputable def laws_toFloat32S_g (v15 : List Nat) : Option ((List Nat)) := (laws_toFloat32S_T v15).run
def laws_toFloat32S_enc (v15 : List Nat) (y : (List Nat)) : Rs := (.own 0 0 ((y).length), [.row (.f32 y) 0])
theorem laws_toFloat32S_den (v15 : List Nat) : (den TT (tabD laws_toFloat32S_tab) (tabM laws_toFloat32S_tab) (laws_toFloat32S_LO v15) (codeOf Try.f10) ([.bslc (BR.root 0) (.f32 v15)] ++ List.replicate (Try.f10.ntmps - ([.bslc (BR.root 0) (.f32 v15)] : List DV).length) .undef) []).bind (retD TT Try.f10.results.toList 0) = (laws_toFloat32S_T v15).bind fun y => .leaf (laws_toFloat32S_enc v15 y) := by kernel_rfl
theorem laws_toFloat32S_fn (v15 : List Nat) (F : Fr) (hm : F.ids.length = 0) (h0 : St F [] F.H0) (hA : DVs.Ok F [] [.bslc (BR.root 0) (.f32 v15)]) {y : (List Nat)} (hy : laws_toFloat32S_g v15 = some y) : ∃ H', FnOk Try.prog 10 (DVs.av F [.bslc (BR.root 0) (.f32 v15)]) F.H0 ((laws_toFloat32S_enc v15 y).1.av F) H' ∧ St F (laws_toFloat32S_enc v15 y).2 H' ∧ (laws_toFloat32S_enc v15 y).1.Ok F (laws_toFloat32S_enc v15 y).2 :=
  fn_fin tok laws_toFloat32S_hO mixed Try.func10 Try.call10 (by kernel_rfl) (LoopsOk_eq (l := [(0, bodyOf Try.f10 0)]) (by kernel_rfl) ⟨laws_toFloat32S_l0_ok v15, trivial⟩) (laws_toFloat32S_den v15) hy hm h0 hA
noncomputable def laws_toFloat32S_F : DFn := fun args L =>
  match args with
  | [a1] =>
    optT (rowF32 L a1) fun v15 =>
    .call (laws_toFloat32S_g v15) fun y => .leaf (.own (L.length + 0) 0 ((y).length), L ++ [.row (.f32 y) 0])
  | _ => .fail
theorem laws_toFloat32S_Fok : COk Try.prog 10 laws_toFloat32S_F true := by
  intro F L H args r L' hs ha hr
  unfold laws_toFloat32S_F at hr
  split at hr
  · rename_i a1
    obtain ⟨v15, hv15, hr⟩ := optT_run hr
    simp only [Tree.run] at hr
    obtain ⟨y, hy, hr⟩ := Option.bind_eq_some_iff.1 hr
    simp only [Tree.run, Option.some.injEq, Prod.mk.injEq] at hr
    obtain ⟨rfl, rfl⟩ := hr
    exact call_ok1 hs (fun k => (([a1.av F] : List AV)[k]?).getD .top) [a1] [.bslc (BR.root 0) (.f32 v15)] (fun F' h0 hi hρ => ⟨by simp [DVs.av, DV.av, BR.av, hρ], laws_toFloat32S_fn v15 F' (by rw [hi]; rfl) (st_nil hi) ⟨bslc_ok hi (by rw [h0, hρ]; exact rowF32_ok hs (DVs.okAt ha 0 rfl) hv15), trivial⟩ hy⟩) rfl rfl
  · cases hr
/-! laws.toMatrix -/
noncomputable def laws_toMatrix_LO (v12 : Int) (v13 : Int) (v14 : List Nat) : LOr := fun id e L =>
  match id with
  | _ => .fail
noncomputable def laws_toMatrix_tab : List (FuncId × DFn × Bool) := [(10, laws_toFloat32S_F, true)]
theorem laws_toMatrix_hO : OrcOk Try.prog (tabD laws_toMatrix_tab) (tabM laws_toMatrix_tab) := tabD_cons laws_toFloat32S_Fok (tabD_nil _)
noncomputable def laws_toMatrix_T (v12 : Int) (v13 : Int) (v14 : List Nat) : Tree (Int × Int × (List Nat)) :=
  (.call (laws_toFloat32S_g v14) fun v22 =>
  .leaf (v12, v13, v22))

noncomputable def laws_toMatrix_g (v12 : Int) (v13 : Int) (v14 : List Nat) : Option (Int × Int × (List Nat)) := (laws_toMatrix_T v12 v13 v14).run
def laws_toMatrix_enc (v12 : Int) (v13 : Int) (v14 : List Nat) (y : Int × Int × (List Nat)) : Rs := (.agg [.int .i64 y.1, .int .i64 y.2.1, .own 0 0 ((y.2.2).length)], [.row (.f32 y.2.2) 0])
theorem laws_toMatrix_den (v12 : Int) (v13 : Int) (v14 : List Nat) : (den TT (tabD laws_toMatrix_tab) (tabM laws_toMatrix_tab) (laws_toMatrix_LO v12 v13 v14) (codeOf Try.f18) ([.agg [.int .i64 v12, .int .i64 v13, .bslc (BR.root 0) (.f32 v14)]] ++ List.replicate (Try.f18.ntmps - ([.agg [.int .i64 v12, .int .i64 v13, .bslc (BR.root 0) (.f32 v14)]] : List DV).length) .undef) []).bind (retD TT Try.f18.results.toList 0) = (laws_toMatrix_T v12 v13 v14).bind fun y => .leaf (laws_toMatrix_enc v12 v13 v14 y) := by kernel_rfl
theorem laws_toMatrix_fn (v12 : Int) (v13 : Int) (v14 : List Nat) (F : Fr) (hm : F.ids.length = 0) (h0 : St F [] F.H0) (hA : DVs.Ok F [] [.agg [.int .i64 v12, .int .i64 v13, .bslc (BR.root 0) (.f32 v14)]]) {y : Int × Int × (List Nat)} (hy : laws_toMatrix_g v12 v13 v14 = some y) : ∃ H', FnOk Try.prog 18 (DVs.av F [.agg [.int .i64 v12, .int .i64 v13, .bslc (BR.root 0) (.f32 v14)]]) F.H0 ((laws_toMatrix_enc v12 v13 v14 y).1.av F) H' ∧ St F (laws_toMatrix_enc v12 v13 v14 y).2 H' ∧ (laws_toMatrix_enc v12 v13 v14 y).1.Ok F (laws_toMatrix_enc v12 v13 v14 y).2 :=
  fn_fin tok laws_toMatrix_hO mixed Try.func18 Try.call18 (by kernel_rfl) (LoopsOk_eq (l := []) (by kernel_rfl) trivial) (laws_toMatrix_den v12 v13 v14) hy hm h0 hA
noncomputable def laws_toMatrix_F : DFn := fun args L =>
  match args with
  | [.agg [.int .i64 v12, .int .i64 v13, a1]] =>
    optT (rowF32 L a1) fun v14 =>
    .call (laws_toMatrix_g v12 v13 v14) fun y => .leaf (.agg [.int .i64 y.1, .int .i64 y.2.1, .own (L.length + 0) 0 ((y.2.2).length)], L ++ [.row (.f32 y.2.2) 0])
  | _ => .fail
theorem laws_toMatrix_Fok : COk Try.prog 18 laws_toMatrix_F true := by
  intro F L H args r L' hs ha hr
  unfold laws_toMatrix_F at hr
  split at hr
  · rename_i v12 v13 a1
    obtain ⟨v14, hv14, hr⟩ := optT_run hr
    simp only [Tree.run] at hr
    obtain ⟨y, hy, hr⟩ := Option.bind_eq_some_iff.1 hr
    simp only [Tree.run, Option.some.injEq, Prod.mk.injEq] at hr
    obtain ⟨rfl, rfl⟩ := hr
    exact call_ok1 hs (fun k => (([a1.av F] : List AV)[k]?).getD .top) [.agg [.int .i64 v12, .int .i64 v13, a1]] [.agg [.int .i64 v12, .int .i64 v13, .bslc (BR.root 0) (.f32 v14)]] (fun F' h0 hi hρ => ⟨by simp [DVs.av, DV.av, BR.av, hρ], laws_toMatrix_fn v12 v13 v14 F' (by rw [hi]; rfl) (st_nil hi) ⟨⟨trivial, trivial, bslc_ok hi (by rw [h0, hρ]; exact rowF32_ok hs (DVs.okAt (DVs.okAt ha 0 rfl) 2 rfl) hv14), trivial⟩, trivial⟩ hy⟩) rfl rfl
  · cases hr
/-! spec.l00In -/
noncomputable def spec_l00In_LO (v36 : Int) (v37 : Int) (v38 : Int) : LOr := fun id e L =>
  match id with
  | _ => .fail
noncomputable def spec_l00In_tab : List (FuncId × DFn × Bool) := []
theorem spec_l00In_hO : OrcOk Try.prog (tabD spec_l00In_tab) (tabM spec_l00In_tab) := tabD_nil _
noncomputable def spec_l00In_T (v36 : Int) (v37 : Int) (v38 : Int) : Tree (Bool) :=
  (.br (decide (v37 ≤ v36)) (
   .leaf (decide (v36 ≤ v38))
  ) (
   .leaf false
  ))

noncomputable def spec_l00In_g (v36 : Int) (v37 : Int) (v38 : Int) : Option (Bool) := (spec_l00In_T v36 v37 v38).run
def spec_l00In_enc (v36 : Int) (v37 : Int) (v38 : Int) (y : Bool) : Rs := (.bool y, [])
theorem spec_l00In_den (v36 : Int) (v37 : Int) (v38 : Int) : (den TT (tabD spec_l00In_tab) (tabM spec_l00In_tab) (spec_l00In_LO v36 v37 v38) (codeOf Try.f87) ([.int .i64 v36, .int .i64 v37, .int .i64 v38] ++ List.replicate (Try.f87.ntmps - ([.int .i64 v36, .int .i64 v37, .int .i64 v38] : List DV).length) .undef) []).bind (retD TT Try.f87.results.toList 0) = (spec_l00In_T v36 v37 v38).bind fun y => .leaf (spec_l00In_enc v36 v37 v38 y) := by kernel_rfl
theorem spec_l00In_fn (v36 : Int) (v37 : Int) (v38 : Int) (F : Fr) (hm : F.ids.length = 0) (h0 : St F [] F.H0) (hA : DVs.Ok F [] [.int .i64 v36, .int .i64 v37, .int .i64 v38]) {y : Bool} (hy : spec_l00In_g v36 v37 v38 = some y) : ∃ H', FnOk Try.prog 87 (DVs.av F [.int .i64 v36, .int .i64 v37, .int .i64 v38]) F.H0 ((spec_l00In_enc v36 v37 v38 y).1.av F) H' ∧ St F (spec_l00In_enc v36 v37 v38 y).2 H' ∧ (spec_l00In_enc v36 v37 v38 y).1.Ok F (spec_l00In_enc v36 v37 v38 y).2 :=
  fn_fin tok spec_l00In_hO mixed Try.func87 Try.call87 (by kernel_rfl) (LoopsOk_eq (l := []) (by kernel_rfl) trivial) (spec_l00In_den v36 v37 v38) hy hm h0 hA
def spec_l00In_v (v36 : Int) (v37 : Int) (v38 : Int) : Bool :=
  if (decide (v37 ≤ v36)) = true then (
   decide (v36 ≤ v38)
  ) else (
   false
  )
theorem spec_l00In_tot (v36 : Int) (v37 : Int) (v38 : Int) : spec_l00In_g v36 v37 v38 = some (spec_l00In_v v36 v37 v38) := by
  unfold spec_l00In_g spec_l00In_T spec_l00In_v
  simp only [Tree.run]
  repeat' (first | rfl | split)
noncomputable def spec_l00In_F : DFn := fun args L =>
  match args with
  | [.int .i64 v36, .int .i64 v37, .int .i64 v38] =>
    .leaf (.bool (spec_l00In_v v36 v37 v38), L)
  | _ => .fail
theorem spec_l00In_Fok : COk Try.prog 87 spec_l00In_F true := by
  intro F L H args r L' hs ha hr
  unfold spec_l00In_F at hr
  split at hr
  · rename_i v36 v37 v38
    have hy := spec_l00In_tot v36 v37 v38
    generalize spec_l00In_v v36 v37 v38 = y at hy hr
    simp only [Tree.run, Option.some.injEq, Prod.mk.injEq] at hr
    obtain ⟨rfl, rfl⟩ := hr
    exact call_ok0 hs (fun k => (([] : List AV)[k]?).getD .top) [.int .i64 v36, .int .i64 v37, .int .i64 v38] [.int .i64 v36, .int .i64 v37, .int .i64 v38] (fun F' h0 hi hρ => ⟨by simp [DVs.av, DV.av, BR.av, hρ], spec_l00In_fn v36 v37 v38 F' (by rw [hi]; rfl) (st_nil hi) ⟨trivial, trivial, trivial, trivial⟩ hy⟩) rfl
  · cases hr
/-! spec.l02Sides -/
noncomputable def spec_l02Sides_LO (v34 : Int) (v35 : Int) : LOr := fun id e L =>
  match id with
  | _ => .fail
noncomputable def spec_l02Sides_tab : List (FuncId × DFn × Bool) := [(87, spec_l00In_F, true)]
theorem spec_l02Sides_hO : OrcOk Try.prog (tabD spec_l02Sides_tab) (tabM spec_l02Sides_tab) := tabD_cons spec_l00In_Fok (tabD_nil _)
noncomputable def spec_l02Sides_T (v34 : Int) (v35 : Int) : Tree (Bool) :=
  (.br (spec_l00In_v v34 (1 : Int) (12 : Int)) (
   .leaf (spec_l00In_v v35 (1 : Int) (12 : Int))
  ) (
   .leaf false
  ))

noncomputable def spec_l02Sides_g (v34 : Int) (v35 : Int) : Option (Bool) := (spec_l02Sides_T v34 v35).run
def spec_l02Sides_enc (v34 : Int) (v35 : Int) (y : Bool) : Rs := (.bool y, [])
theorem spec_l02Sides_den (v34 : Int) (v35 : Int) : (den TT (tabD spec_l02Sides_tab) (tabM spec_l02Sides_tab) (spec_l02Sides_LO v34 v35) (codeOf Try.f147) ([.int .i64 v34, .int .i64 v35] ++ List.replicate (Try.f147.ntmps - ([.int .i64 v34, .int .i64 v35] : List DV).length) .undef) []).bind (retD TT Try.f147.results.toList 0) = (spec_l02Sides_T v34 v35).bind fun y => .leaf (spec_l02Sides_enc v34 v35 y) := by kernel_rfl
theorem spec_l02Sides_fn (v34 : Int) (v35 : Int) (F : Fr) (hm : F.ids.length = 0) (h0 : St F [] F.H0) (hA : DVs.Ok F [] [.int .i64 v34, .int .i64 v35]) {y : Bool} (hy : spec_l02Sides_g v34 v35 = some y) : ∃ H', FnOk Try.prog 147 (DVs.av F [.int .i64 v34, .int .i64 v35]) F.H0 ((spec_l02Sides_enc v34 v35 y).1.av F) H' ∧ St F (spec_l02Sides_enc v34 v35 y).2 H' ∧ (spec_l02Sides_enc v34 v35 y).1.Ok F (spec_l02Sides_enc v34 v35 y).2 :=
  fn_fin tok spec_l02Sides_hO mixed Try.func147 Try.call147 (by kernel_rfl) (LoopsOk_eq (l := []) (by kernel_rfl) trivial) (spec_l02Sides_den v34 v35) hy hm h0 hA
def spec_l02Sides_v (v34 : Int) (v35 : Int) : Bool :=
  if (spec_l00In_v v34 (1 : Int) (12 : Int)) = true then (
   (spec_l00In_v v35 (1 : Int) (12 : Int))
  ) else (
   false
  )
theorem spec_l02Sides_tot (v34 : Int) (v35 : Int) : spec_l02Sides_g v34 v35 = some (spec_l02Sides_v v34 v35) := by
  unfold spec_l02Sides_g spec_l02Sides_T spec_l02Sides_v
  simp only [Tree.run]
  repeat' (first | rfl | split)
noncomputable def spec_l02Sides_F : DFn := fun args L =>
  match args with
  | [.int .i64 v34, .int .i64 v35] =>
    .leaf (.bool (spec_l02Sides_v v34 v35), L)
  | _ => .fail
theorem spec_l02Sides_Fok : COk Try.prog 147 spec_l02Sides_F true := by
  intro F L H args r L' hs ha hr
  unfold spec_l02Sides_F at hr
  split at hr
  · rename_i v34 v35
    have hy := spec_l02Sides_tot v34 v35
    generalize spec_l02Sides_v v34 v35 = y at hy hr
    simp only [Tree.run, Option.some.injEq, Prod.mk.injEq] at hr
    obtain ⟨rfl, rfl⟩ := hr
    exact call_ok0 hs (fun k => (([] : List AV)[k]?).getD .top) [.int .i64 v34, .int .i64 v35] [.int .i64 v34, .int .i64 v35] (fun F' h0 hi hρ => ⟨by simp [DVs.av, DV.av, BR.av, hρ], spec_l02Sides_fn v34 v35 F' (by rw [hi]; rfl) (st_nil hi) ⟨trivial, trivial, trivial⟩ hy⟩) rfl
  · cases hr
/-! spec.l01Finite -/
noncomputable def spec_l01Finite_LO (v41 : Nat) : LOr := fun id e L =>
  match id with
  | _ => .fail
noncomputable def spec_l01Finite_tab : List (FuncId × DFn × Bool) := []
theorem spec_l01Finite_hO : OrcOk Try.prog (tabD spec_l01Finite_tab) (tabM spec_l01Finite_tab) := tabD_nil _
noncomputable def spec_l01Finite_T (v41 : Nat) : Tree (Bool) :=
  .leaf (feq .f32 (fsub .f32 v41 v41) (0 : Nat))

noncomputable def spec_l01Finite_g (v41 : Nat) : Option (Bool) := (spec_l01Finite_T v41).run
def spec_l01Finite_enc (v41 : Nat) (y : Bool) : Rs := (.bool y, [])
theorem spec_l01Finite_den (v41 : Nat) : (den TT (tabD spec_l01Finite_tab) (tabM spec_l01Finite_tab) (spec_l01Finite_LO v41) (codeOf Try.f39) ([.flt .f32 v41] ++ List.replicate (Try.f39.ntmps - ([.flt .f32 v41] : List DV).length) .undef) []).bind (retD TT Try.f39.results.toList 0) = (spec_l01Finite_T v41).bind fun y => .leaf (spec_l01Finite_enc v41 y) := by kernel_rfl
theorem spec_l01Finite_fn (v41 : Nat) (F : Fr) (hm : F.ids.length = 0) (h0 : St F [] F.H0) (hA : DVs.Ok F [] [.flt .f32 v41]) {y : Bool} (hy : spec_l01Finite_g v41 = some y) : ∃ H', FnOk Try.prog 39 (DVs.av F [.flt .f32 v41]) F.H0 ((spec_l01Finite_enc v41 y).1.av F) H' ∧ St F (spec_l01Finite_enc v41 y).2 H' ∧ (spec_l01Finite_enc v41 y).1.Ok F (spec_l01Finite_enc v41 y).2 :=
  fn_fin tok spec_l01Finite_hO mixed Try.func39 Try.call39 (by kernel_rfl) (LoopsOk_eq (l := []) (by kernel_rfl) trivial) (spec_l01Finite_den v41) hy hm h0 hA
def spec_l01Finite_v (v41 : Nat) : Bool :=
  feq .f32 (fsub .f32 v41 v41) (0 : Nat)
theorem spec_l01Finite_tot (v41 : Nat) : spec_l01Finite_g v41 = some (spec_l01Finite_v v41) := by
  unfold spec_l01Finite_g spec_l01Finite_T spec_l01Finite_v
  simp only [Tree.run]
  repeat' (first | rfl | split)
noncomputable def spec_l01Finite_F : DFn := fun args L =>
  match args with
  | [.flt .f32 v41] =>
    .leaf (.bool (spec_l01Finite_v v41), L)
  | _ => .fail
theorem spec_l01Finite_Fok : COk Try.prog 39 spec_l01Finite_F true := by
  intro F L H args r L' hs ha hr
  unfold spec_l01Finite_F at hr
  split at hr
  · rename_i v41
    have hy := spec_l01Finite_tot v41
    generalize spec_l01Finite_v v41 = y at hy hr
    simp only [Tree.run, Option.some.injEq, Prod.mk.injEq] at hr
    obtain ⟨rfl, rfl⟩ := hr
    exact call_ok0 hs (fun k => (([] : List AV)[k]?).getD .top) [.flt .f32 v41] [.flt .f32 v41] (fun F' h0 hi hρ => ⟨by simp [DVs.av, DV.av, BR.av, hρ], spec_l01Finite_fn v41 F' (by rw [hi]; rfl) (st_nil hi) ⟨trivial, trivial⟩ hy⟩) rfl
  · cases hr
/-! spec.l02Finite -/
noncomputable def spec_l02Finite_l0_T (v39 : List Nat) (s : Int) : Tree ((Int) ⊕ ((Unit) ⊕ (Unit))) :=
  (.br (decide (s < ((v39.length : Nat) : Int))) (
   (.grd (inb s v39.length) <|
   (.br (!(spec_l01Finite_v (nth v39 (Int.toNat s)))) (
    .leaf (.inr (.inl ()))
   ) (
    .leaf (.inl (IntKind.i64.wrap (s + (1 : Int))))
   )))
  ) (
   .leaf (.inr (.inr ()))
  ))

noncomputable def spec_l02Finite_l0_g (v39 : List Nat) (s0 : Int) : Option ((Unit) ⊕ (Unit)) := whileM (fun s => (spec_l02Finite_l0_T v39 s).run) s0
def spec_l02Finite_l0_E (v39 : List Nat) (s : Int) : Sd := ([.bslc (BR.root 0) (.f32 v39), .top, .top, .int .i64 s, .top, .top, .top, .top, .top, .top, .top, .top, .top, .top, .top, .top], [])
def spec_l02Finite_l0_X (v39 : List Nat) (x : (Unit) ⊕ (Unit)) : Out := (match x with | .inl x => (.ret, [.top, .top, .lit false, .top, .top, .top, .top, .top, .top, .top, .top, .top, .top, .top, .top, .top], []) | .inr x => (.normal, [.top, .top, .top, .top, .top, .top, .top, .top, .top, .top, .top, .top, .top, .top, .top, .top], []))
def spec_l02Finite_l0_kill : List Nat := [0, 1, 1, 0, 1, 1, 1, 1, 1, 1, 1, 1, 1, 1, 1, 1]
def spec_l02Finite_l0_nx : Exit → List Nat
  | .exit 0 => [1, 1, 1, 1, 1, 1, 1, 1, 1, 1, 1, 1, 1, 1, 1, 1]
  | .ret => [1, 1, 0, 1, 1, 1, 1, 1, 1, 1, 1, 1, 1, 1, 1, 1]
  | _ => []
noncomputable def spec_l02Finite_LO (v39 : List Nat) : LOr := fun id e L =>
  match id with
  | 0 => .need (normA 0 spec_l02Finite_l0_kill e L = some (spec_l02Finite_l0_E v39 (gI (vAt e 3)))) (.call (spec_l02Finite_l0_g v39 (gI (vAt e 3))) fun x => .sum x (fun b0 => .leaf (spec_l02Finite_l0_X v39 (.inl b0))) (fun c0 => .leaf (spec_l02Finite_l0_X v39 (.inr c0))))
  | _ => .fail
noncomputable def spec_l02Finite_tab : List (FuncId × DFn × Bool) := [(39, spec_l01Finite_F, true)]
theorem spec_l02Finite_hO : OrcOk Try.prog (tabD spec_l02Finite_tab) (tabM spec_l02Finite_tab) := tabD_cons spec_l01Finite_Fok (tabD_nil _)
theorem spec_l02Finite_l0_be (v39 : List Nat) (s : Int) : bodyT TT (tabD spec_l02Finite_tab) (tabM spec_l02Finite_tab) (spec_l02Finite_LO v39) 0 spec_l02Finite_l0_kill spec_l02Finite_l0_nx (bodyOf Try.f38 0) 0 (spec_l02Finite_l0_E v39 s) = (spec_l02Finite_l0_T v39 s).bind fun y => .leaf (outS (spec_l02Finite_l0_E v39) (spec_l02Finite_l0_X v39) y) := by kernel_rfl
theorem spec_l02Finite_l0_ok (v39 : List Nat) : LSound Try.prog 0 (spec_l02Finite_LO v39) 0 (bodyOf Try.f38 0) := by
  intro e L out h
  exact lo_ok (E := spec_l02Finite_l0_E v39) (gT := spec_l02Finite_l0_T v39) (X := spec_l02Finite_l0_X v39) (s0 := (gI (vAt e 3))) tok spec_l02Finite_hO mixed (LoopsOk_eq (l := []) (by kernel_rfl) trivial) (spec_l02Finite_l0_be v39) rfl (by intro x; (cases x with | inl b => rfl | inr x => exact rfl)) h
noncomputable def spec_l02Finite_T (v39 : List Nat) : Tree (Bool) :=
  (.need (some (spec_l02Finite_l0_E v39 (0 : Int)) = some (spec_l02Finite_l0_E v39 (0 : Int))) <|
  (.call (spec_l02Finite_l0_g v39 (0 : Int)) fun v44 =>
  (.sum v44 (fun v45 =>
   .leaf false
  ) (fun v46 =>
   .leaf true
  ))))

noncomputable def spec_l02Finite_g (v39 : List Nat) : Option (Bool) := (spec_l02Finite_T v39).run
def spec_l02Finite_enc (v39 : List Nat) (y : Bool) : Rs := (.bool y, [])
theorem spec_l02Finite_den (v39 : List Nat) : (den TT (tabD spec_l02Finite_tab) (tabM spec_l02Finite_tab) (spec_l02Finite_LO v39) (codeOf Try.f38) ([.bslc (BR.root 0) (.f32 v39)] ++ List.replicate (Try.f38.ntmps - ([.bslc (BR.root 0) (.f32 v39)] : List DV).length) .undef) []).bind (retD TT Try.f38.results.toList 0) = (spec_l02Finite_T v39).bind fun y => .leaf (spec_l02Finite_enc v39 y) := by kernel_rfl
theorem spec_l02Finite_fn (v39 : List Nat) (F : Fr) (hm : F.ids.length = 0) (h0 : St F [] F.H0) (hA : DVs.Ok F [] [.bslc (BR.root 0) (.f32 v39)]) {y : Bool} (hy : spec_l02Finite_g v39 = some y) : ∃ H', FnOk Try.prog 38 (DVs.av F [.bslc (BR.root 0) (.f32 v39)]) F.H0 ((spec_l02Finite_enc v39 y).1.av F) H' ∧ St F (spec_l02Finite_enc v39 y).2 H' ∧ (spec_l02Finite_enc v39 y).1.Ok F (spec_l02Finite_enc v39 y).2 :=
  fn_fin tok spec_l02Finite_hO mixed Try.func38 Try.call38 (by kernel_rfl) (LoopsOk_eq (l := [(0, bodyOf Try.f38 0)]) (by kernel_rfl) ⟨spec_l02Finite_l0_ok v39, trivial⟩) (spec_l02Finite_den v39) hy hm h0 hA
noncomputable def spec_l02Finite_F : DFn := fun args L =>
  match args with
  | [a1] =>
    optT (rowF32 L a1) fun v39 =>
    .call (spec_l02Finite_g v39) fun y => .leaf (.bool y, L)
  | _ => .fail
theorem spec_l02Finite_Fok : COk Try.prog 38 spec_l02Finite_F true := by
  intro F L H args r L' hs ha hr
  unfold spec_l02Finite_F at hr
  split at hr
  · rename_i a1
    obtain ⟨v39, hv39, hr⟩ := optT_run hr
    simp only [Tree.run] at hr
    obtain ⟨y, hy, hr⟩ := Option.bind_eq_some_iff.1 hr
    simp only [Tree.run, Option.some.injEq, Prod.mk.injEq] at hr
    obtain ⟨rfl, rfl⟩ := hr
    exact call_ok0 hs (fun k => (([a1.av F] : List AV)[k]?).getD .top) [a1] [.bslc (BR.root 0) (.f32 v39)] (fun F' h0 hi hρ => ⟨by simp [DVs.av, DV.av, BR.av, hρ], spec_l02Finite_fn v39 F' (by rw [hi]; rfl) (st_nil hi) ⟨bslc_ok hi (by rw [h0, hρ]; exact rowF32_ok hs (DVs.okAt ha 0 rfl) hv39), trivial⟩ hy⟩) rfl
  · cases hr
/-! spec.l02Is -/
noncomputable def spec_l02Is_LO (v31 : Int) (v32 : Int) (v33 : List Nat) : LOr := fun id e L =>
  match id with
  | _ => .fail
noncomputable def spec_l02Is_tab : List (FuncId × DFn × Bool) := [(147, spec_l02Sides_F, true), (38, spec_l02Finite_F, true)]
theorem spec_l02Is_hO : OrcOk Try.prog (tabD spec_l02Is_tab) (tabM spec_l02Is_tab) := tabD_cons spec_l02Sides_Fok (tabD_cons spec_l02Finite_Fok (tabD_nil _))
noncomputable def spec_l02Is_T (v31 : Int) (v32 : Int) (v33 : List Nat) : Tree (Bool) :=
  (.br (spec_l02Sides_v v31 v32) (
   (.br (decide (((v33.length : Nat) : Int) = IntKind.i64.wrap (v31 * v32))) (
    (.call (spec_l02Finite_g v33) fun v47 =>
    .leaf v47)
   ) (
    .leaf false
   ))
  ) (
   .leaf false
  ))

noncomputable def spec_l02Is_g (v31 : Int) (v32 : Int) (v33 : List Nat) : Option (Bool) := (spec_l02Is_T v31 v32 v33).run
def spec_l02Is_enc (v31 : Int) (v32 : Int) (v33 : List Nat) (y : Bool) : Rs := (.bool y, [])
theorem spec_l02Is_den (v31 : Int) (v32 : Int) (v33 : List Nat) : (den TT (tabD spec_l02Is_tab) (tabM spec_l02Is_tab) (spec_l02Is_LO v31 v32 v33) (codeOf Try.f103) ([.bptr (BR.root 0) [.int .i64 v31, .int .i64 v32, .bslc (BR.root 1) (.f32 v33)]] ++ List.replicate (Try.f103.ntmps - ([.bptr (BR.root 0) [.int .i64 v31, .int .i64 v32, .bslc (BR.root 1) (.f32 v33)]] : List DV).length) .undef) []).bind (retD TT Try.f103.results.toList 0) = (spec_l02Is_T v31 v32 v33).bind fun y => .leaf (spec_l02Is_enc v31 v32 v33 y) := by kernel_rfl
theorem spec_l02Is_fn (v31 : Int) (v32 : Int) (v33 : List Nat) (F : Fr) (hm : F.ids.length = 0) (h0 : St F [] F.H0) (hA : DVs.Ok F [] [.bptr (BR.root 0) [.int .i64 v31, .int .i64 v32, .bslc (BR.root 1) (.f32 v33)]]) {y : Bool} (hy : spec_l02Is_g v31 v32 v33 = some y) : ∃ H', FnOk Try.prog 103 (DVs.av F [.bptr (BR.root 0) [.int .i64 v31, .int .i64 v32, .bslc (BR.root 1) (.f32 v33)]]) F.H0 ((spec_l02Is_enc v31 v32 v33 y).1.av F) H' ∧ St F (spec_l02Is_enc v31 v32 v33 y).2 H' ∧ (spec_l02Is_enc v31 v32 v33 y).1.Ok F (spec_l02Is_enc v31 v32 v33 y).2 :=
  fn_fin tok spec_l02Is_hO mixed Try.func103 Try.call103 (by kernel_rfl) (LoopsOk_eq (l := []) (by kernel_rfl) trivial) (spec_l02Is_den v31 v32 v33) hy hm h0 hA
noncomputable def spec_l02Is_F : DFn := fun args L =>
  match args with
  | [a1] =>
    optT (cellsOf L 3 a1) fun cs0 =>
    (match cs0 with
    | [.int .i64 v31, .int .i64 v32, a2] =>
    optT (rowF32 L a2) fun v33 =>
    .call (spec_l02Is_g v31 v32 v33) fun y => .leaf (.bool y, L)
    | _ => .fail)
  | _ => .fail
theorem spec_l02Is_Fok : COk Try.prog 103 spec_l02Is_F true := by
  intro F L H args r L' hs ha hr
  unfold spec_l02Is_F at hr
  split at hr
  · rename_i a1
    obtain ⟨cs0, hcp0, hr⟩ := optT_run hr
    split at hr
    · rename_i v31 v32 a2
      obtain ⟨v33, hv33, hr⟩ := optT_run hr
      simp only [Tree.run] at hr
      obtain ⟨y, hy, hr⟩ := Option.bind_eq_some_iff.1 hr
      simp only [Tree.run, Option.some.injEq, Prod.mk.injEq] at hr
      obtain ⟨rfl, rfl⟩ := hr
      exact call_ok0 hs (fun k => (([a1.av F, a2.av F] : List AV)[k]?).getD .top) [a1] [.bptr (BR.root 0) [.int .i64 v31, .int .i64 v32, .bslc (BR.root 1) (.f32 v33)]] (fun F' h0 hi hρ => ⟨by simp [DVs.av, DV.av, BR.av, hρ], spec_l02Is_fn v31 v32 v33 F' (by rw [hi]; rfl) (st_nil hi) ⟨bptr_ok hi (by rw [h0]; simpa [DVs.av, DV.av, BR.av, hρ] using (cellsOf_ok hs (DVs.okAt ha 0 rfl) hcp0).1) ⟨trivial, trivial, bslc_ok hi (by rw [h0, hρ]; exact rowF32_ok hs (DVs.okAt (cellsOf_ok hs (DVs.okAt ha 0 rfl) hcp0).2 2 rfl) hv33), trivial⟩, trivial⟩ hy⟩) rfl
    · cases hr
  · cases hr
/-! spec.l02Vector -/
noncomputable def spec_l02Vector_LO (v49 : List Nat) : LOr := fun id e L =>
  match id with
  | _ => .fail
noncomputable def spec_l02Vector_tab : List (FuncId × DFn × Bool) := [(38, spec_l02Finite_F, true)]
theorem spec_l02Vector_hO : OrcOk Try.prog (tabD spec_l02Vector_tab) (tabM spec_l02Vector_tab) := tabD_cons spec_l02Finite_Fok (tabD_nil _)
noncomputable def spec_l02Vector_T (v49 : List Nat) : Tree (Bool) :=
  (.br (decide ((1 : Int) ≤ ((v49.length : Nat) : Int))) (
   (.br (decide (((v49.length : Nat) : Int) ≤ (256 : Int))) (
    (.call (spec_l02Finite_g v49) fun v50 =>
    .leaf v50)
   ) (
    .leaf false
   ))
  ) (
   .leaf false
  ))

noncomputable def spec_l02Vector_g (v49 : List Nat) : Option (Bool) := (spec_l02Vector_T v49).run
def spec_l02Vector_enc (v49 : List Nat) (y : Bool) : Rs := (.bool y, [])
theorem spec_l02Vector_den (v49 : List Nat) : (den TT (tabD spec_l02Vector_tab) (tabM spec_l02Vector_tab) (spec_l02Vector_LO v49) (codeOf Try.f76) ([.bslc (BR.root 0) (.f32 v49)] ++ List.replicate (Try.f76.ntmps - ([.bslc (BR.root 0) (.f32 v49)] : List DV).length) .undef) []).bind (retD TT Try.f76.results.toList 0) = (spec_l02Vector_T v49).bind fun y => .leaf (spec_l02Vector_enc v49 y) := by kernel_rfl
theorem spec_l02Vector_fn (v49 : List Nat) (F : Fr) (hm : F.ids.length = 0) (h0 : St F [] F.H0) (hA : DVs.Ok F [] [.bslc (BR.root 0) (.f32 v49)]) {y : Bool} (hy : spec_l02Vector_g v49 = some y) : ∃ H', FnOk Try.prog 76 (DVs.av F [.bslc (BR.root 0) (.f32 v49)]) F.H0 ((spec_l02Vector_enc v49 y).1.av F) H' ∧ St F (spec_l02Vector_enc v49 y).2 H' ∧ (spec_l02Vector_enc v49 y).1.Ok F (spec_l02Vector_enc v49 y).2 :=
  fn_fin tok spec_l02Vector_hO mixed Try.func76 Try.call76 (by kernel_rfl) (LoopsOk_eq (l := []) (by kernel_rfl) trivial) (spec_l02Vector_den v49) hy hm h0 hA
noncomputable def spec_l02Vector_F : DFn := fun args L =>
  match args with
  | [a1] =>
    optT (rowF32 L a1) fun v49 =>
    .call (spec_l02Vector_g v49) fun y => .leaf (.bool y, L)
  | _ => .fail
theorem spec_l02Vector_Fok : COk Try.prog 76 spec_l02Vector_F true := by
  intro F L H args r L' hs ha hr
  unfold spec_l02Vector_F at hr
  split at hr
  · rename_i a1
    obtain ⟨v49, hv49, hr⟩ := optT_run hr
    simp only [Tree.run] at hr
    obtain ⟨y, hy, hr⟩ := Option.bind_eq_some_iff.1 hr
    simp only [Tree.run, Option.some.injEq, Prod.mk.injEq] at hr
    obtain ⟨rfl, rfl⟩ := hr
    exact call_ok0 hs (fun k => (([a1.av F] : List AV)[k]?).getD .top) [a1] [.bslc (BR.root 0) (.f32 v49)] (fun F' h0 hi hρ => ⟨by simp [DVs.av, DV.av, BR.av, hρ], spec_l02Vector_fn v49 F' (by rw [hi]; rfl) (st_nil hi) ⟨bslc_ok hi (by rw [h0, hρ]; exact rowF32_ok hs (DVs.okAt ha 0 rfl) hv49), trivial⟩ hy⟩) rfl
  · cases hr
/-! spec.l02Own -/
noncomputable def spec_l02Own_LO (v53 : Int) (v54 : Int) (v55 : List Nat) : LOr := fun id e L =>
  match id with
  | _ => .fail
noncomputable def spec_l02Own_tab : List (FuncId × DFn × Bool) := []
theorem spec_l02Own_hO : OrcOk Try.prog (tabD spec_l02Own_tab) (tabM spec_l02Own_tab) := tabD_nil _
noncomputable def spec_l02Own_T (v53 : Int) (v54 : Int) (v55 : List Nat) : Tree (Int × Int) :=
  (.grd (fits (([] : List Nat) ++ v55).length) <|
  .leaf (v53, v54))

noncomputable def spec_l02Own_g (v53 : Int) (v54 : Int) (v55 : List Nat) : Option (Int × Int) := (spec_l02Own_T v53 v54 v55).run
def spec_l02Own_enc (v53 : Int) (v54 : Int) (v55 : List Nat) (y : Int × Int) : Rs := (.agg [.int .i64 y.1, .int .i64 y.2, .own 0 0 ((([] : List Nat) ++ v55).length)], [.row (.f32 (([] : List Nat) ++ v55)) 0])
theorem spec_l02Own_den (v53 : Int) (v54 : Int) (v55 : List Nat) : (den TT (tabD spec_l02Own_tab) (tabM spec_l02Own_tab) (spec_l02Own_LO v53 v54 v55) (codeOf Try.f88) ([.bptr (BR.root 0) [.int .i64 v53, .int .i64 v54, .bslc (BR.root 1) (.f32 v55)]] ++ List.replicate (Try.f88.ntmps - ([.bptr (BR.root 0) [.int .i64 v53, .int .i64 v54, .bslc (BR.root 1) (.f32 v55)]] : List DV).length) .undef) []).bind (retD TT Try.f88.results.toList 0) = (spec_l02Own_T v53 v54 v55).bind fun y => .leaf (spec_l02Own_enc v53 v54 v55 y) := by kernel_rfl
theorem spec_l02Own_fn (v53 : Int) (v54 : Int) (v55 : List Nat) (F : Fr) (hm : F.ids.length = 0) (h0 : St F [] F.H0) (hA : DVs.Ok F [] [.bptr (BR.root 0) [.int .i64 v53, .int .i64 v54, .bslc (BR.root 1) (.f32 v55)]]) {y : Int × Int} (hy : spec_l02Own_g v53 v54 v55 = some y) : ∃ H', FnOk Try.prog 88 (DVs.av F [.bptr (BR.root 0) [.int .i64 v53, .int .i64 v54, .bslc (BR.root 1) (.f32 v55)]]) F.H0 ((spec_l02Own_enc v53 v54 v55 y).1.av F) H' ∧ St F (spec_l02Own_enc v53 v54 v55 y).2 H' ∧ (spec_l02Own_enc v53 v54 v55 y).1.Ok F (spec_l02Own_enc v53 v54 v55 y).2 :=
  fn_fin tok spec_l02Own_hO mixed Try.func88 Try.call88 (by kernel_rfl) (LoopsOk_eq (l := []) (by kernel_rfl) trivial) (spec_l02Own_den v53 v54 v55) hy hm h0 hA
noncomputable def spec_l02Own_F : DFn := fun args L =>
  match args with
  | [a1] =>
    optT (cellsOf L 3 a1) fun cs0 =>
    (match cs0 with
    | [.int .i64 v53, .int .i64 v54, a2] =>
    optT (rowF32 L a2) fun v55 =>
    .call (spec_l02Own_g v53 v54 v55) fun y => .leaf (.agg [.int .i64 y.1, .int .i64 y.2, .own (L.length + 0) 0 ((([] : List Nat) ++ v55).length)], L ++ [.row (.f32 (([] : List Nat) ++ v55)) 0])
    | _ => .fail)
  | _ => .fail
theorem spec_l02Own_Fok : COk Try.prog 88 spec_l02Own_F true := by
  intro F L H args r L' hs ha hr
  unfold spec_l02Own_F at hr
  split at hr
  · rename_i a1
    obtain ⟨cs0, hcp0, hr⟩ := optT_run hr
    split at hr
    · rename_i v53 v54 a2
      obtain ⟨v55, hv55, hr⟩ := optT_run hr
      simp only [Tree.run] at hr
      obtain ⟨y, hy, hr⟩ := Option.bind_eq_some_iff.1 hr
      simp only [Tree.run, Option.some.injEq, Prod.mk.injEq] at hr
      obtain ⟨rfl, rfl⟩ := hr
      exact call_ok1 hs (fun k => (([a1.av F, a2.av F] : List AV)[k]?).getD .top) [a1] [.bptr (BR.root 0) [.int .i64 v53, .int .i64 v54, .bslc (BR.root 1) (.f32 v55)]] (fun F' h0 hi hρ => ⟨by simp [DVs.av, DV.av, BR.av, hρ], spec_l02Own_fn v53 v54 v55 F' (by rw [hi]; rfl) (st_nil hi) ⟨bptr_ok hi (by rw [h0]; simpa [DVs.av, DV.av, BR.av, hρ] using (cellsOf_ok hs (DVs.okAt ha 0 rfl) hcp0).1) ⟨trivial, trivial, bslc_ok hi (by rw [h0, hρ]; exact rowF32_ok hs (DVs.okAt (cellsOf_ok hs (DVs.okAt ha 0 rfl) hcp0).2 2 rfl) hv55), trivial⟩, trivial⟩ hy⟩) rfl rfl
    · cases hr
  · cases hr
/-! math.Sqrt -/
noncomputable def math_Sqrt_LO (v61 : Nat) : LOr := fun id e L =>
  match id with
  | _ => .fail
noncomputable def math_Sqrt_tab : List (FuncId × DFn × Bool) := [(158, Sqrt_F, true)]
theorem math_Sqrt_hO : OrcOk Try.prog (tabD math_Sqrt_tab) (tabM math_Sqrt_tab) := tabD_cons Sqrt_Fok (tabD_nil _)
noncomputable def math_Sqrt_T (v61 : Nat) : Tree (Nat) :=
  .leaf (fsqrt v61)

noncomputable def math_Sqrt_g (v61 : Nat) : Option (Nat) := (math_Sqrt_T v61).run
def math_Sqrt_enc (v61 : Nat) (y : Nat) : Rs := (.flt .f64 y, [])
theorem math_Sqrt_den (v61 : Nat) : (den TT (tabD math_Sqrt_tab) (tabM math_Sqrt_tab) (math_Sqrt_LO v61) (codeOf Try.f117) ([.flt .f64 v61] ++ List.replicate (Try.f117.ntmps - ([.flt .f64 v61] : List DV).length) .undef) []).bind (retD TT Try.f117.results.toList 0) = (math_Sqrt_T v61).bind fun y => .leaf (math_Sqrt_enc v61 y) := by kernel_rfl
theorem math_Sqrt_fn (v61 : Nat) (F : Fr) (hm : F.ids.length = 0) (h0 : St F [] F.H0) (hA : DVs.Ok F [] [.flt .f64 v61]) {y : Nat} (hy : math_Sqrt_g v61 = some y) : ∃ H', FnOk Try.prog 117 (DVs.av F [.flt .f64 v61]) F.H0 ((math_Sqrt_enc v61 y).1.av F) H' ∧ St F (math_Sqrt_enc v61 y).2 H' ∧ (math_Sqrt_enc v61 y).1.Ok F (math_Sqrt_enc v61 y).2 :=
  fn_fin tok math_Sqrt_hO mixed Try.func117 Try.call117 (by kernel_rfl) (LoopsOk_eq (l := []) (by kernel_rfl) trivial) (math_Sqrt_den v61) hy hm h0 hA
def math_Sqrt_v (v61 : Nat) : Nat :=
  fsqrt v61
theorem math_Sqrt_tot (v61 : Nat) : math_Sqrt_g v61 = some (math_Sqrt_v v61) := by
  unfold math_Sqrt_g math_Sqrt_T math_Sqrt_v
  simp only [Tree.run]
  repeat' (first | rfl | split)
noncomputable def math_Sqrt_F : DFn := fun args L =>
  match args with
  | [.flt .f64 v61] =>
    .leaf (.flt .f64 (math_Sqrt_v v61), L)
  | _ => .fail
theorem math_Sqrt_Fok : COk Try.prog 117 math_Sqrt_F true := by
  intro F L H args r L' hs ha hr
  unfold math_Sqrt_F at hr
  split at hr
  · rename_i v61
    have hy := math_Sqrt_tot v61
    generalize math_Sqrt_v v61 = y at hy hr
    simp only [Tree.run, Option.some.injEq, Prod.mk.injEq] at hr
    obtain ⟨rfl, rfl⟩ := hr
    exact call_ok0 hs (fun k => (([] : List AV)[k]?).getD .top) [.flt .f64 v61] [.flt .f64 v61] (fun F' h0 hi hρ => ⟨by simp [DVs.av, DV.av, BR.av, hρ], math_Sqrt_fn v61 F' (by rw [hi]; rfl) (st_nil hi) ⟨trivial, trivial⟩ hy⟩) rfl
  · cases hr
/-! spec.l01Narrow -/
noncomputable def spec_l01Narrow_LO (v62 : Nat) : LOr := fun id e L =>
  match id with
  | _ => .fail
noncomputable def spec_l01Narrow_tab : List (FuncId × DFn × Bool) := []
theorem spec_l01Narrow_hO : OrcOk Try.prog (tabD spec_l01Narrow_tab) (tabM spec_l01Narrow_tab) := tabD_nil _
noncomputable def spec_l01Narrow_T (v62 : Nat) : Tree (Nat) :=
  (.call (fconv .f64 v62 .f32) fun v63 =>
  .leaf v63)

noncomputable def spec_l01Narrow_g (v62 : Nat) : Option (Nat) := (spec_l01Narrow_T v62).run
def spec_l01Narrow_enc (v62 : Nat) (y : Nat) : Rs := (.flt .f32 y, [])
theorem spec_l01Narrow_den (v62 : Nat) : (den TT (tabD spec_l01Narrow_tab) (tabM spec_l01Narrow_tab) (spec_l01Narrow_LO v62) (codeOf Try.f148) ([.flt .f64 v62] ++ List.replicate (Try.f148.ntmps - ([.flt .f64 v62] : List DV).length) .undef) []).bind (retD TT Try.f148.results.toList 0) = (spec_l01Narrow_T v62).bind fun y => .leaf (spec_l01Narrow_enc v62 y) := by kernel_rfl
theorem spec_l01Narrow_fn (v62 : Nat) (F : Fr) (hm : F.ids.length = 0) (h0 : St F [] F.H0) (hA : DVs.Ok F [] [.flt .f64 v62]) {y : Nat} (hy : spec_l01Narrow_g v62 = some y) : ∃ H', FnOk Try.prog 148 (DVs.av F [.flt .f64 v62]) F.H0 ((spec_l01Narrow_enc v62 y).1.av F) H' ∧ St F (spec_l01Narrow_enc v62 y).2 H' ∧ (spec_l01Narrow_enc v62 y).1.Ok F (spec_l01Narrow_enc v62 y).2 :=
  fn_fin tok spec_l01Narrow_hO mixed Try.func148 Try.call148 (by kernel_rfl) (LoopsOk_eq (l := []) (by kernel_rfl) trivial) (spec_l01Narrow_den v62) hy hm h0 hA
noncomputable def spec_l01Narrow_F : DFn := fun args L =>
  match args with
  | [.flt .f64 v62] =>
    .call (spec_l01Narrow_g v62) fun y => .leaf (.flt .f32 y, L)
  | _ => .fail
theorem spec_l01Narrow_Fok : COk Try.prog 148 spec_l01Narrow_F true := by
  intro F L H args r L' hs ha hr
  unfold spec_l01Narrow_F at hr
  split at hr
  · rename_i v62
    simp only [Tree.run] at hr
    obtain ⟨y, hy, hr⟩ := Option.bind_eq_some_iff.1 hr
    simp only [Tree.run, Option.some.injEq, Prod.mk.injEq] at hr
    obtain ⟨rfl, rfl⟩ := hr
    exact call_ok0 hs (fun k => (([] : List AV)[k]?).getD .top) [.flt .f64 v62] [.flt .f64 v62] (fun F' h0 hi hρ => ⟨by simp [DVs.av, DV.av, BR.av, hρ], spec_l01Narrow_fn v62 F' (by rw [hi]; rfl) (st_nil hi) ⟨trivial, trivial⟩ hy⟩) rfl
  · cases hr
/-! spec.l01Sqrt -/
noncomputable def spec_l01Sqrt_LO (v60 : Nat) : LOr := fun id e L =>
  match id with
  | _ => .fail
noncomputable def spec_l01Sqrt_tab : List (FuncId × DFn × Bool) := [(117, math_Sqrt_F, true), (148, spec_l01Narrow_F, true)]
theorem spec_l01Sqrt_hO : OrcOk Try.prog (tabD spec_l01Sqrt_tab) (tabM spec_l01Sqrt_tab) := tabD_cons math_Sqrt_Fok (tabD_cons spec_l01Narrow_Fok (tabD_nil _))
noncomputable def spec_l01Sqrt_T (v60 : Nat) : Tree (Nat) :=
  (.call (spec_l01Narrow_g (math_Sqrt_v (wid v60))) fun v64 =>
  .leaf v64)

noncomputable def spec_l01Sqrt_g (v60 : Nat) : Option (Nat) := (spec_l01Sqrt_T v60).run
def spec_l01Sqrt_enc (v60 : Nat) (y : Nat) : Rs := (.flt .f32 y, [])
theorem spec_l01Sqrt_den (v60 : Nat) : (den TT (tabD spec_l01Sqrt_tab) (tabM spec_l01Sqrt_tab) (spec_l01Sqrt_LO v60) (codeOf Try.f104) ([.flt .f32 v60] ++ List.replicate (Try.f104.ntmps - ([.flt .f32 v60] : List DV).length) .undef) []).bind (retD TT Try.f104.results.toList 0) = (spec_l01Sqrt_T v60).bind fun y => .leaf (spec_l01Sqrt_enc v60 y) := by kernel_rfl
theorem spec_l01Sqrt_fn (v60 : Nat) (F : Fr) (hm : F.ids.length = 0) (h0 : St F [] F.H0) (hA : DVs.Ok F [] [.flt .f32 v60]) {y : Nat} (hy : spec_l01Sqrt_g v60 = some y) : ∃ H', FnOk Try.prog 104 (DVs.av F [.flt .f32 v60]) F.H0 ((spec_l01Sqrt_enc v60 y).1.av F) H' ∧ St F (spec_l01Sqrt_enc v60 y).2 H' ∧ (spec_l01Sqrt_enc v60 y).1.Ok F (spec_l01Sqrt_enc v60 y).2 :=
  fn_fin tok spec_l01Sqrt_hO mixed Try.func104 Try.call104 (by kernel_rfl) (LoopsOk_eq (l := []) (by kernel_rfl) trivial) (spec_l01Sqrt_den v60) hy hm h0 hA
noncomputable def spec_l01Sqrt_F : DFn := fun args L =>
  match args with
  | [.flt .f32 v60] =>
    .call (spec_l01Sqrt_g v60) fun y => .leaf (.flt .f32 y, L)
  | _ => .fail
theorem spec_l01Sqrt_Fok : COk Try.prog 104 spec_l01Sqrt_F true := by
  intro F L H args r L' hs ha hr
  unfold spec_l01Sqrt_F at hr
  split at hr
  · rename_i v60
    simp only [Tree.run] at hr
    obtain ⟨y, hy, hr⟩ := Option.bind_eq_some_iff.1 hr
    simp only [Tree.run, Option.some.injEq, Prod.mk.injEq] at hr
    obtain ⟨rfl, rfl⟩ := hr
    exact call_ok0 hs (fun k => (([] : List AV)[k]?).getD .top) [.flt .f32 v60] [.flt .f32 v60] (fun F' h0 hi hρ => ⟨by simp [DVs.av, DV.av, BR.av, hρ], spec_l01Sqrt_fn v60 F' (by rw [hi]; rfl) (st_nil hi) ⟨trivial, trivial⟩ hy⟩) rfl
  · cases hr
/-! spec.l02Zero -/
noncomputable def spec_l02Zero_LO (v155 : Int) (v156 : Int) : LOr := fun id e L =>
  match id with
  | _ => .fail
noncomputable def spec_l02Zero_tab : List (FuncId × DFn × Bool) := []
theorem spec_l02Zero_hO : OrcOk Try.prog (tabD spec_l02Zero_tab) (tabM spec_l02Zero_tab) := tabD_nil _
noncomputable def spec_l02Zero_T (v155 : Int) (v156 : Int) : Tree (Int × Int) :=
  (.need (IntKind.i64.wrap (v155 * v156) = IntKind.i64.wrap (v155 * v156)) <|
  (.grd (inb (IntKind.i64.wrap (v155 * v156)) (maxN + 1)) <|
  .leaf (v155, v156)))

noncomputable def spec_l02Zero_g (v155 : Int) (v156 : Int) : Option (Int × Int) := (spec_l02Zero_T v155 v156).run
def spec_l02Zero_enc (v155 : Int) (v156 : Int) (y : Int × Int) : Rs := (.agg [.int .i64 y.1, .int .i64 y.2, .own 0 0 ((List.replicate (Int.toNat (IntKind.i64.wrap (v155 * v156))) (0 : Nat)).length)], [.row (.f32 (List.replicate (Int.toNat (IntKind.i64.wrap (v155 * v156))) (0 : Nat))) 0])
theorem spec_l02Zero_den (v155 : Int) (v156 : Int) : (den TT (tabD spec_l02Zero_tab) (tabM spec_l02Zero_tab) (spec_l02Zero_LO v155 v156) (codeOf Try.f115) ([.int .i64 v155, .int .i64 v156] ++ List.replicate (Try.f115.ntmps - ([.int .i64 v155, .int .i64 v156] : List DV).length) .undef) []).bind (retD TT Try.f115.results.toList 0) = (spec_l02Zero_T v155 v156).bind fun y => .leaf (spec_l02Zero_enc v155 v156 y) := by kernel_rfl
theorem spec_l02Zero_fn (v155 : Int) (v156 : Int) (F : Fr) (hm : F.ids.length = 0) (h0 : St F [] F.H0) (hA : DVs.Ok F [] [.int .i64 v155, .int .i64 v156]) {y : Int × Int} (hy : spec_l02Zero_g v155 v156 = some y) : ∃ H', FnOk Try.prog 115 (DVs.av F [.int .i64 v155, .int .i64 v156]) F.H0 ((spec_l02Zero_enc v155 v156 y).1.av F) H' ∧ St F (spec_l02Zero_enc v155 v156 y).2 H' ∧ (spec_l02Zero_enc v155 v156 y).1.Ok F (spec_l02Zero_enc v155 v156 y).2 :=
  fn_fin tok spec_l02Zero_hO mixed Try.func115 Try.call115 (by kernel_rfl) (LoopsOk_eq (l := []) (by kernel_rfl) trivial) (spec_l02Zero_den v155 v156) hy hm h0 hA
noncomputable def spec_l02Zero_F : DFn := fun args L =>
  match args with
  | [.int .i64 v155, .int .i64 v156] =>
    .call (spec_l02Zero_g v155 v156) fun y => .leaf (.agg [.int .i64 y.1, .int .i64 y.2, .own (L.length + 0) 0 ((List.replicate (Int.toNat (IntKind.i64.wrap (v155 * v156))) (0 : Nat)).length)], L ++ [.row (.f32 (List.replicate (Int.toNat (IntKind.i64.wrap (v155 * v156))) (0 : Nat))) 0])
  | _ => .fail
theorem spec_l02Zero_Fok : COk Try.prog 115 spec_l02Zero_F true := by
  intro F L H args r L' hs ha hr
  unfold spec_l02Zero_F at hr
  split at hr
  · rename_i v155 v156
    simp only [Tree.run] at hr
    obtain ⟨y, hy, hr⟩ := Option.bind_eq_some_iff.1 hr
    simp only [Tree.run, Option.some.injEq, Prod.mk.injEq] at hr
    obtain ⟨rfl, rfl⟩ := hr
    exact call_ok1 hs (fun k => (([] : List AV)[k]?).getD .top) [.int .i64 v155, .int .i64 v156] [.int .i64 v155, .int .i64 v156] (fun F' h0 hi hρ => ⟨by simp [DVs.av, DV.av, BR.av, hρ], spec_l02Zero_fn v155 v156 F' (by rw [hi]; rfl) (st_nil hi) ⟨trivial, trivial, trivial⟩ hy⟩) rfl rfl
  · cases hr
/-! spec.l02At -/
noncomputable def spec_l02At_LO (v169 : Int) (v170 : Int) (v171 : List Nat) (v172 : Int) (v173 : Int) : LOr := fun id e L =>
  match id with
  | _ => .fail
noncomputable def spec_l02At_tab : List (FuncId × DFn × Bool) := []
theorem spec_l02At_hO : OrcOk Try.prog (tabD spec_l02At_tab) (tabM spec_l02At_tab) := tabD_nil _
noncomputable def spec_l02At_T (v170 : Int) (v171 : List Nat) (v172 : Int) (v173 : Int) : Tree (Nat) :=
  (.grd (inb (IntKind.i64.wrap ((IntKind.i64.wrap (v172 * v170)) + v173)) v171.length) <|
  .leaf (nth v171 (Int.toNat (IntKind.i64.wrap ((IntKind.i64.wrap (v172 * v170)) + v173)))))

noncomputable def spec_l02At_g (v170 : Int) (v171 : List Nat) (v172 : Int) (v173 : Int) : Option (Nat) := (spec_l02At_T v170 v171 v172 v173).run
def spec_l02At_enc (v169 : Int) (v170 : Int) (v171 : List Nat) (v172 : Int) (v173 : Int) (y : Nat) : Rs := (.flt .f32 y, [])
theorem spec_l02At_den (v169 : Int) (v170 : Int) (v171 : List Nat) (v172 : Int) (v173 : Int) : (den TT (tabD spec_l02At_tab) (tabM spec_l02At_tab) (spec_l02At_LO v169 v170 v171 v172 v173) (codeOf Try.f116) ([.bptr (BR.root 0) [.int .i64 v169, .int .i64 v170, .bslc (BR.root 1) (.f32 v171)], .int .i64 v172, .int .i64 v173] ++ List.replicate (Try.f116.ntmps - ([.bptr (BR.root 0) [.int .i64 v169, .int .i64 v170, .bslc (BR.root 1) (.f32 v171)], .int .i64 v172, .int .i64 v173] : List DV).length) .undef) []).bind (retD TT Try.f116.results.toList 0) = (spec_l02At_T v170 v171 v172 v173).bind fun y => .leaf (spec_l02At_enc v169 v170 v171 v172 v173 y) := by kernel_rfl
theorem spec_l02At_fn (v169 : Int) (v170 : Int) (v171 : List Nat) (v172 : Int) (v173 : Int) (F : Fr) (hm : F.ids.length = 0) (h0 : St F [] F.H0) (hA : DVs.Ok F [] [.bptr (BR.root 0) [.int .i64 v169, .int .i64 v170, .bslc (BR.root 1) (.f32 v171)], .int .i64 v172, .int .i64 v173]) {y : Nat} (hy : spec_l02At_g v170 v171 v172 v173 = some y) : ∃ H', FnOk Try.prog 116 (DVs.av F [.bptr (BR.root 0) [.int .i64 v169, .int .i64 v170, .bslc (BR.root 1) (.f32 v171)], .int .i64 v172, .int .i64 v173]) F.H0 ((spec_l02At_enc v169 v170 v171 v172 v173 y).1.av F) H' ∧ St F (spec_l02At_enc v169 v170 v171 v172 v173 y).2 H' ∧ (spec_l02At_enc v169 v170 v171 v172 v173 y).1.Ok F (spec_l02At_enc v169 v170 v171 v172 v173 y).2 :=
  fn_fin tok spec_l02At_hO mixed Try.func116 Try.call116 (by kernel_rfl) (LoopsOk_eq (l := []) (by kernel_rfl) trivial) (spec_l02At_den v169 v170 v171 v172 v173) hy hm h0 hA
noncomputable def spec_l02At_F : DFn := fun args L =>
  match args with
  | [a1, .int .i64 v172, .int .i64 v173] =>
    optT (cellsOf L 3 a1) fun cs0 =>
    (match cs0 with
    | [.int .i64 v169, .int .i64 v170, a2] =>
    optT (rowF32 L a2) fun v171 =>
    .call (spec_l02At_g v170 v171 v172 v173) fun y => .leaf (.flt .f32 y, L)
    | _ => .fail)
  | _ => .fail
theorem spec_l02At_Fok : COk Try.prog 116 spec_l02At_F true := by
  intro F L H args r L' hs ha hr
  unfold spec_l02At_F at hr
  split at hr
  · rename_i a1 v172 v173
    obtain ⟨cs0, hcp0, hr⟩ := optT_run hr
    split at hr
    · rename_i v169 v170 a2
      obtain ⟨v171, hv171, hr⟩ := optT_run hr
      simp only [Tree.run] at hr
      obtain ⟨y, hy, hr⟩ := Option.bind_eq_some_iff.1 hr
      simp only [Tree.run, Option.some.injEq, Prod.mk.injEq] at hr
      obtain ⟨rfl, rfl⟩ := hr
      exact call_ok0 hs (fun k => (([a1.av F, a2.av F] : List AV)[k]?).getD .top) [a1, .int .i64 v172, .int .i64 v173] [.bptr (BR.root 0) [.int .i64 v169, .int .i64 v170, .bslc (BR.root 1) (.f32 v171)], .int .i64 v172, .int .i64 v173] (fun F' h0 hi hρ => ⟨by simp [DVs.av, DV.av, BR.av, hρ], spec_l02At_fn v169 v170 v171 v172 v173 F' (by rw [hi]; rfl) (st_nil hi) ⟨bptr_ok hi (by rw [h0]; simpa [DVs.av, DV.av, BR.av, hρ] using (cellsOf_ok hs (DVs.okAt ha 0 rfl) hcp0).1) ⟨trivial, trivial, bslc_ok hi (by rw [h0, hρ]; exact rowF32_ok hs (DVs.okAt (cellsOf_ok hs (DVs.okAt ha 0 rfl) hcp0).2 2 rfl) hv171), trivial⟩, trivial, trivial, trivial⟩ hy⟩) rfl
    · cases hr
  · cases hr
/-! spec.l03Column -/
noncomputable def spec_l03Column_l0_T (v164 : Int) (v165 : Int) (v166 : List Nat) (v167 : Int) (s : Int × (List Nat)) : Tree ((Int × (List Nat)) ⊕ ((List Nat))) :=
  (.br (decide (s.1 < v164)) (
   (.call (spec_l02At_g v165 v166 s.1 v167) fun v180 =>
   (.grd (fits (s.2 ++ ([v180] : List Nat)).length) <|
   .leaf (.inl (IntKind.i64.wrap (s.1 + (1 : Int)), s.2 ++ ([v180] : List Nat)))))
  ) (
   .leaf (.inr s.2)
  ))

noncomputable def spec_l03Column_l0_g (v164 : Int) (v165 : Int) (v166 : List Nat) (v167 : Int) (s0 : Int × (List Nat)) : Option ((List Nat)) := whileM (fun s => (spec_l03Column_l0_T v164 v165 v166 v167 s).run) s0
def spec_l03Column_l0_E (v164 : Int) (v165 : Int) (v166 : List Nat) (v167 : Int) (s : Int × (List Nat)) : Sd := ([.bptr (BR.root 0) [.int .i64 v164, .int .i64 v165, .bslc (BR.root 1) (.f32 v166)], .int .i64 v167, .top, .top, .top, .own 0 0 ((s.2).length), .int .i64 s.1, .top, .top, .top, .top, .top, .top, .top, .top, .top, .top, .top, .top, .top, .top, .top, .top, .top], [.row (.f32 s.2) 0])
def spec_l03Column_l0_X (v164 : Int) (v165 : Int) (v166 : List Nat) (v167 : Int) (x : (List Nat)) : Out := (.normal, [.top, .top, .top, .top, .top, .own 0 0 ((x).length), .top, .top, .top, .top, .top, .top, .top, .top, .top, .top, .top, .top, .top, .top, .top, .top, .top, .top], [.row (.f32 x) 0])
def spec_l03Column_l0_kill : List Nat := [0, 0, 1, 1, 1, 0, 0, 1, 1, 1, 1, 1, 1, 1, 1, 1, 1, 1, 1, 1, 1, 1, 1, 1]
def spec_l03Column_l0_nx : Exit → List Nat
  | .exit 0 => [1, 1, 1, 1, 1, 0, 1, 1, 1, 1, 1, 1, 1, 1, 1, 1, 1, 1, 1, 1, 1, 1, 1, 1]
  | .ret => [1, 1, 1, 1, 0, 1, 1, 1, 1, 1, 1, 1, 1, 1, 1, 1, 1, 1, 1, 1, 1, 1, 1, 1]
  | _ => []
noncomputable def spec_l03Column_LO (v164 : Int) (v165 : Int) (v166 : List Nat) (v167 : Int) : LOr := fun id e L =>
  match id with
  | 0 => .need (normA 0 spec_l03Column_l0_kill e L = some (spec_l03Column_l0_E v164 v165 v166 v167 ((gI (vAt e 6)), (gRF L (vAt e 5))))) (.call (spec_l03Column_l0_g v164 v165 v166 v167 ((gI (vAt e 6)), (gRF L (vAt e 5)))) fun x => .leaf (spec_l03Column_l0_X v164 v165 v166 v167 x))
  | _ => .fail
noncomputable def spec_l03Column_tab : List (FuncId × DFn × Bool) := [(116, spec_l02At_F, true)]
theorem spec_l03Column_hO : OrcOk Try.prog (tabD spec_l03Column_tab) (tabM spec_l03Column_tab) := tabD_cons spec_l02At_Fok (tabD_nil _)
theorem spec_l03Column_l0_be (v164 : Int) (v165 : Int) (v166 : List Nat) (v167 : Int) (s : Int × (List Nat)) : bodyT TT (tabD spec_l03Column_tab) (tabM spec_l03Column_tab) (spec_l03Column_LO v164 v165 v166 v167) 0 spec_l03Column_l0_kill spec_l03Column_l0_nx (bodyOf Try.f150 0) 0 (spec_l03Column_l0_E v164 v165 v166 v167 s) = (spec_l03Column_l0_T v164 v165 v166 v167 s).bind fun y => .leaf (outS (spec_l03Column_l0_E v164 v165 v166 v167) (spec_l03Column_l0_X v164 v165 v166 v167) y) := by kernel_rfl
theorem spec_l03Column_l0_ok (v164 : Int) (v165 : Int) (v166 : List Nat) (v167 : Int) : LSound Try.prog 0 (spec_l03Column_LO v164 v165 v166 v167) 0 (bodyOf Try.f150 0) := by
  intro e L out h
  exact lo_ok (E := spec_l03Column_l0_E v164 v165 v166 v167) (gT := spec_l03Column_l0_T v164 v165 v166 v167) (X := spec_l03Column_l0_X v164 v165 v166 v167) (s0 := ((gI (vAt e 6)), (gRF L (vAt e 5)))) tok spec_l03Column_hO mixed (LoopsOk_eq (l := []) (by kernel_rfl) trivial) (spec_l03Column_l0_be v164 v165 v166 v167) rfl (by intro x; rfl) h
noncomputable def spec_l03Column_T (v164 : Int) (v165 : Int) (v166 : List Nat) (v167 : Int) : Tree ((List Nat)) :=
  (.need (some (spec_l03Column_l0_E v164 v165 v166 v167 ((0 : Int), ([] : List Nat))) = some (spec_l03Column_l0_E v164 v165 v166 v167 ((0 : Int), ([] : List Nat)))) <|
  (.call (spec_l03Column_l0_g v164 v165 v166 v167 ((0 : Int), ([] : List Nat))) fun v181 =>
  .leaf v181))

noncomputable def spec_l03Column_g (v164 : Int) (v165 : Int) (v166 : List Nat) (v167 : Int) : Option ((List Nat)) := (spec_l03Column_T v164 v165 v166 v167).run
def spec_l03Column_enc (v164 : Int) (v165 : Int) (v166 : List Nat) (v167 : Int) (y : (List Nat)) : Rs := (.own 0 0 ((y).length), [.row (.f32 y) 0])
theorem spec_l03Column_den (v164 : Int) (v165 : Int) (v166 : List Nat) (v167 : Int) : (den TT (tabD spec_l03Column_tab) (tabM spec_l03Column_tab) (spec_l03Column_LO v164 v165 v166 v167) (codeOf Try.f150) ([.bptr (BR.root 0) [.int .i64 v164, .int .i64 v165, .bslc (BR.root 1) (.f32 v166)], .int .i64 v167] ++ List.replicate (Try.f150.ntmps - ([.bptr (BR.root 0) [.int .i64 v164, .int .i64 v165, .bslc (BR.root 1) (.f32 v166)], .int .i64 v167] : List DV).length) .undef) []).bind (retD TT Try.f150.results.toList 0) = (spec_l03Column_T v164 v165 v166 v167).bind fun y => .leaf (spec_l03Column_enc v164 v165 v166 v167 y) := by kernel_rfl
theorem spec_l03Column_fn (v164 : Int) (v165 : Int) (v166 : List Nat) (v167 : Int) (F : Fr) (hm : F.ids.length = 0) (h0 : St F [] F.H0) (hA : DVs.Ok F [] [.bptr (BR.root 0) [.int .i64 v164, .int .i64 v165, .bslc (BR.root 1) (.f32 v166)], .int .i64 v167]) {y : (List Nat)} (hy : spec_l03Column_g v164 v165 v166 v167 = some y) : ∃ H', FnOk Try.prog 150 (DVs.av F [.bptr (BR.root 0) [.int .i64 v164, .int .i64 v165, .bslc (BR.root 1) (.f32 v166)], .int .i64 v167]) F.H0 ((spec_l03Column_enc v164 v165 v166 v167 y).1.av F) H' ∧ St F (spec_l03Column_enc v164 v165 v166 v167 y).2 H' ∧ (spec_l03Column_enc v164 v165 v166 v167 y).1.Ok F (spec_l03Column_enc v164 v165 v166 v167 y).2 :=
  fn_fin tok spec_l03Column_hO mixed Try.func150 Try.call150 (by kernel_rfl) (LoopsOk_eq (l := [(0, bodyOf Try.f150 0)]) (by kernel_rfl) ⟨spec_l03Column_l0_ok v164 v165 v166 v167, trivial⟩) (spec_l03Column_den v164 v165 v166 v167) hy hm h0 hA
noncomputable def spec_l03Column_F : DFn := fun args L =>
  match args with
  | [a1, .int .i64 v167] =>
    optT (cellsOf L 3 a1) fun cs0 =>
    (match cs0 with
    | [.int .i64 v164, .int .i64 v165, a2] =>
    optT (rowF32 L a2) fun v166 =>
    .call (spec_l03Column_g v164 v165 v166 v167) fun y => .leaf (.own (L.length + 0) 0 ((y).length), L ++ [.row (.f32 y) 0])
    | _ => .fail)
  | _ => .fail
theorem spec_l03Column_Fok : COk Try.prog 150 spec_l03Column_F true := by
  intro F L H args r L' hs ha hr
  unfold spec_l03Column_F at hr
  split at hr
  · rename_i a1 v167
    obtain ⟨cs0, hcp0, hr⟩ := optT_run hr
    split at hr
    · rename_i v164 v165 a2
      obtain ⟨v166, hv166, hr⟩ := optT_run hr
      simp only [Tree.run] at hr
      obtain ⟨y, hy, hr⟩ := Option.bind_eq_some_iff.1 hr
      simp only [Tree.run, Option.some.injEq, Prod.mk.injEq] at hr
      obtain ⟨rfl, rfl⟩ := hr
      exact call_ok1 hs (fun k => (([a1.av F, a2.av F] : List AV)[k]?).getD .top) [a1, .int .i64 v167] [.bptr (BR.root 0) [.int .i64 v164, .int .i64 v165, .bslc (BR.root 1) (.f32 v166)], .int .i64 v167] (fun F' h0 hi hρ => ⟨by simp [DVs.av, DV.av, BR.av, hρ], spec_l03Column_fn v164 v165 v166 v167 F' (by rw [hi]; rfl) (st_nil hi) ⟨bptr_ok hi (by rw [h0]; simpa [DVs.av, DV.av, BR.av, hρ] using (cellsOf_ok hs (DVs.okAt ha 0 rfl) hcp0).1) ⟨trivial, trivial, bslc_ok hi (by rw [h0, hρ]; exact rowF32_ok hs (DVs.okAt (cellsOf_ok hs (DVs.okAt ha 0 rfl) hcp0).2 2 rfl) hv166), trivial⟩, trivial, trivial⟩ hy⟩) rfl rfl
    · cases hr
  · cases hr
/-! spec.l02Dot -/
noncomputable def spec_l02Dot_l0_T (v199 : List Nat) (v200 : List Nat) (s : Nat × Int) : Tree ((Nat × Int) ⊕ (Nat)) :=
  (.br (decide (s.2 < ((v199.length : Nat) : Int))) (
   (.grd (inb s.2 v199.length) <|
   (.grd (inb s.2 v200.length) <|
   .leaf (.inl (fadd .f32 s.1 (fmul .f32 (nth v199 (Int.toNat s.2)) (nth v200 (Int.toNat s.2))), IntKind.i64.wrap (s.2 + (1 : Int))))))
  ) (
   .leaf (.inr s.1)
  ))

noncomputable def spec_l02Dot_l0_g (v199 : List Nat) (v200 : List Nat) (s0 : Nat × Int) : Option (Nat) := whileM (fun s => (spec_l02Dot_l0_T v199 v200 s).run) s0
def spec_l02Dot_l0_E (v199 : List Nat) (v200 : List Nat) (s : Nat × Int) : Sd := ([.bslc (BR.root 0) (.f32 v199), .bslc (BR.root 1) (.f32 v200), .top, .top, .top, .flt .f32 s.1, .int .i64 s.2, .top, .top, .top, .top, .top, .top, .top, .top, .top, .top, .top, .top, .top, .top, .top, .top, .top, .top], [])
def spec_l02Dot_l0_X (v199 : List Nat) (v200 : List Nat) (x : Nat) : Out := (.normal, [.top, .top, .top, .top, .top, .flt .f32 x, .top, .top, .top, .top, .top, .top, .top, .top, .top, .top, .top, .top, .top, .top, .top, .top, .top, .top, .top], [])
def spec_l02Dot_l0_kill : List Nat := [0, 0, 1, 1, 1, 0, 0, 1, 1, 1, 1, 1, 1, 1, 1, 1, 1, 1, 1, 1, 1, 1, 1, 1, 1]
def spec_l02Dot_l0_nx : Exit → List Nat
  | .exit 0 => [1, 1, 1, 1, 1, 0, 1, 1, 1, 1, 1, 1, 1, 1, 1, 1, 1, 1, 1, 1, 1, 1, 1, 1, 1]
  | .ret => [1, 1, 1, 1, 0, 1, 1, 1, 1, 1, 1, 1, 1, 1, 1, 1, 1, 1, 1, 1, 1, 1, 1, 1, 1]
  | _ => []
noncomputable def spec_l02Dot_LO (v199 : List Nat) (v200 : List Nat) : LOr := fun id e L =>
  match id with
  | 0 => .need (normA 0 spec_l02Dot_l0_kill e L = some (spec_l02Dot_l0_E v199 v200 ((gF (vAt e 5)), (gI (vAt e 6))))) (.call (spec_l02Dot_l0_g v199 v200 ((gF (vAt e 5)), (gI (vAt e 6)))) fun x => .leaf (spec_l02Dot_l0_X v199 v200 x))
  | _ => .fail
noncomputable def spec_l02Dot_tab : List (FuncId × DFn × Bool) := []
theorem spec_l02Dot_hO : OrcOk Try.prog (tabD spec_l02Dot_tab) (tabM spec_l02Dot_tab) := tabD_nil _
theorem spec_l02Dot_l0_be (v199 : List Nat) (v200 : List Nat) (s : Nat × Int) : bodyT TT (tabD spec_l02Dot_tab) (tabM spec_l02Dot_tab) (spec_l02Dot_LO v199 v200) 0 spec_l02Dot_l0_kill spec_l02Dot_l0_nx (bodyOf Try.f133 0) 0 (spec_l02Dot_l0_E v199 v200 s) = (spec_l02Dot_l0_T v199 v200 s).bind fun y => .leaf (outS (spec_l02Dot_l0_E v199 v200) (spec_l02Dot_l0_X v199 v200) y) := by kernel_rfl
theorem spec_l02Dot_l0_ok (v199 : List Nat) (v200 : List Nat) : LSound Try.prog 0 (spec_l02Dot_LO v199 v200) 0 (bodyOf Try.f133 0) := by
  intro e L out h
  exact lo_ok (E := spec_l02Dot_l0_E v199 v200) (gT := spec_l02Dot_l0_T v199 v200) (X := spec_l02Dot_l0_X v199 v200) (s0 := ((gF (vAt e 5)), (gI (vAt e 6)))) tok spec_l02Dot_hO mixed (LoopsOk_eq (l := []) (by kernel_rfl) trivial) (spec_l02Dot_l0_be v199 v200) rfl (by intro x; rfl) h
noncomputable def spec_l02Dot_T (v199 : List Nat) (v200 : List Nat) : Tree (Nat) :=
  (.need (some (spec_l02Dot_l0_E v199 v200 ((0 : Nat), (0 : Int))) = some (spec_l02Dot_l0_E v199 v200 ((0 : Nat), (0 : Int)))) <|
  (.call (spec_l02Dot_l0_g v199 v200 ((0 : Nat), (0 : Int))) fun v207 =>
  .leaf v207))

noncomputable def spec_l02Dot_g (v199 : List Nat) (v200 : List Nat) : Option (Nat) := (spec_l02Dot_T v199 v200).run
def spec_l02Dot_enc (v199 : List Nat) (v200 : List Nat) (y : Nat) : Rs := (.flt .f32 y, [])
theorem spec_l02Dot_den (v199 : List Nat) (v200 : List Nat) : (den TT (tabD spec_l02Dot_tab) (tabM spec_l02Dot_tab) (spec_l02Dot_LO v199 v200) (codeOf Try.f133) ([.bslc (BR.root 0) (.f32 v199), .bslc (BR.root 1) (.f32 v200)] ++ List.replicate (Try.f133.ntmps - ([.bslc (BR.root 0) (.f32 v199), .bslc (BR.root 1) (.f32 v200)] : List DV).length) .undef) []).bind (retD TT Try.f133.results.toList 0) = (spec_l02Dot_T v199 v200).bind fun y => .leaf (spec_l02Dot_enc v199 v200 y) := by kernel_rfl
theorem spec_l02Dot_fn (v199 : List Nat) (v200 : List Nat) (F : Fr) (hm : F.ids.length = 0) (h0 : St F [] F.H0) (hA : DVs.Ok F [] [.bslc (BR.root 0) (.f32 v199), .bslc (BR.root 1) (.f32 v200)]) {y : Nat} (hy : spec_l02Dot_g v199 v200 = some y) : ∃ H', FnOk Try.prog 133 (DVs.av F [.bslc (BR.root 0) (.f32 v199), .bslc (BR.root 1) (.f32 v200)]) F.H0 ((spec_l02Dot_enc v199 v200 y).1.av F) H' ∧ St F (spec_l02Dot_enc v199 v200 y).2 H' ∧ (spec_l02Dot_enc v199 v200 y).1.Ok F (spec_l02Dot_enc v199 v200 y).2 :=
  fn_fin tok spec_l02Dot_hO mixed Try.func133 Try.call133 (by kernel_rfl) (LoopsOk_eq (l := [(0, bodyOf Try.f133 0)]) (by kernel_rfl) ⟨spec_l02Dot_l0_ok v199 v200, trivial⟩) (spec_l02Dot_den v199 v200) hy hm h0 hA
noncomputable def spec_l02Dot_F : DFn := fun args L =>
  match args with
  | [a1, a2] =>
    optT (rowF32 L a1) fun v199 =>
    optT (rowF32 L a2) fun v200 =>
    .call (spec_l02Dot_g v199 v200) fun y => .leaf (.flt .f32 y, L)
  | _ => .fail
theorem spec_l02Dot_Fok : COk Try.prog 133 spec_l02Dot_F true := by
  intro F L H args r L' hs ha hr
  unfold spec_l02Dot_F at hr
  split at hr
  · rename_i a1 a2
    obtain ⟨v199, hv199, hr⟩ := optT_run hr
    obtain ⟨v200, hv200, hr⟩ := optT_run hr
    simp only [Tree.run] at hr
    obtain ⟨y, hy, hr⟩ := Option.bind_eq_some_iff.1 hr
    simp only [Tree.run, Option.some.injEq, Prod.mk.injEq] at hr
    obtain ⟨rfl, rfl⟩ := hr
    exact call_ok0 hs (fun k => (([a1.av F, a2.av F] : List AV)[k]?).getD .top) [a1, a2] [.bslc (BR.root 0) (.f32 v199), .bslc (BR.root 1) (.f32 v200)] (fun F' h0 hi hρ => ⟨by simp [DVs.av, DV.av, BR.av, hρ], spec_l02Dot_fn v199 v200 F' (by rw [hi]; rfl) (st_nil hi) ⟨bslc_ok hi (by rw [h0, hρ]; exact rowF32_ok hs (DVs.okAt ha 0 rfl) hv199), bslc_ok hi (by rw [h0, hρ]; exact rowF32_ok hs (DVs.okAt ha 1 rfl) hv200), trivial⟩ hy⟩) rfl
  · cases hr
/-! spec.l03Mirror -/
noncomputable def spec_l03Mirror_l6_T (v1826 : Int) (v1827 : Int) (v1828 : Int) (v1829 : Nat) (v1830 : Int) (v1832 : Int) (v1833 : Int) (v1834 : Int) (v1835 : Int) (v1837 : List Nat) (v1838 : List Nat) (v1839 : List Nat) (s : Int × (List Nat)) : Tree ((Int × (List Nat)) ⊕ ((List Nat))) :=
  (.br (decide (s.1 < v1830)) (
   (.grd (inb s.1 ((s.2).length)) <|
   (.grd (inb s.1 ((v1837).length)) <|
   (.grd (inb s.1 ((s.2).length)) <|
   .leaf (.inl (IntKind.i64.wrap (s.1 + (1 : Int)), List.set s.2 (Int.toNat s.1) (fsub .f32 (nth s.2 (Int.toNat s.1)) (fmul .f32 v1829 (nth v1837 (Int.toNat s.1)))))))))
  ) (
   .leaf (.inr s.2)
  ))

noncomputable def spec_l03Mirror_l6_g (v1826 : Int) (v1827 : Int) (v1828 : Int) (v1829 : Nat) (v1830 : Int) (v1832 : Int) (v1833 : Int) (v1834 : Int) (v1835 : Int) (v1837 : List Nat) (v1838 : List Nat) (v1839 : List Nat) (s0 : Int × (List Nat)) : Option ((List Nat)) := whileM (fun s => (spec_l03Mirror_l6_T v1826 v1827 v1828 v1829 v1830 v1832 v1833 v1834 v1835 v1837 v1838 v1839 s).run) s0
def spec_l03Mirror_l6_E (v152 : Int) (v153 : Int) (v154 : List Nat) (v1826 : Int) (v1827 : Int) (v1828 : Int) (v1829 : Nat) (v1830 : Int) (v1832 : Int) (v1833 : Int) (v1834 : Int) (v1835 : Int) (v1837 : List Nat) (v1838 : List Nat) (v1839 : List Nat) (s : Int × (List Nat)) : Sd := ([.bptr (BR.root 0) [.int .i64 v152, .int .i64 v153, .bslc (BR.root 1) (.f32 v154)], .top, .ptr 0 (0 : Nat) 0 (3 : Nat), .ptr 1 (0 : Nat) 0 (3 : Nat), .top, .ptr 2 (0 : Nat) 0 (3 : Nat), .ptr 3 (0 : Nat) 0 (3 : Nat), .int .i64 v1826, .own 4 0 ((s.2).length), .int .i64 v1827, .int .i64 v1828, .own 5 0 ((v1837).length), .flt .f32 v1829, .top, .top, .top, .top, .top, .top, .top, .top, .top, .top, .top, .top, .top, .top, .top, .top, .top, .top, .top, .top, .top, .top, .top, .top, .top, .top, .top, .top, .top, .top, .top, .top, .top, .top, .top, .top, .top, .top, .top, .top, .top, .top, .top, .top, .top, .top, .top, .top, .top, .top, .top, .top, .top, .top, .top, .top, .top, .top, .top, .top, .top, .int .i64 v1830, .int .i64 s.1, .top, .top, .top, .top, .top, .top, .top, .top, .top, .top, .top, .top, .top, .top, .top, .top, .top, .top, .top, .top, .top, .top, .top, .top, .top, .top, .top, .top, .top, .top, .top, .top, .top, .top, .top, .top, .top, .top, .top, .top, .top, .top, .top, .top, .top, .top, .top, .top, .top, .top, .top, .top, .top, .top, .top, .top, .top, .top, .top, .top, .top, .top, .top], [.gen [.int .i64 (0 : Int), .int .i64 (0 : Int), .nilslc] false 0, .gen [.int .i64 (0 : Int), .int .i64 (0 : Int), .nilslc] false 0, .gen [.int .i64 v1832, .int .i64 v1833, .own 6 0 ((v1838).length)] false 0, .gen [.int .i64 v1834, .int .i64 v1835, .own 7 0 ((v1839).length)] false 0, .row (.f32 s.2) 0, .row (.f32 v1837) 0, .row (.f32 v1838) 0, .row (.f32 v1839) 0])
def spec_l03Mirror_l6_X (v152 : Int) (v153 : Int) (v154 : List Nat) (v1826 : Int) (v1827 : Int) (v1828 : Int) (v1829 : Nat) (v1830 : Int) (v1832 : Int) (v1833 : Int) (v1834 : Int) (v1835 : Int) (v1837 : List Nat) (v1838 : List Nat) (v1839 : List Nat) (x : (List Nat)) : Out := (.normal, [.bptr (BR.root 0) [.int .i64 v152, .int .i64 v153, .bslc (BR.root 1) (.f32 v154)], .top, .ptr 0 (0 : Nat) 0 (3 : Nat), .ptr 1 (0 : Nat) 0 (3 : Nat), .top, .ptr 2 (0 : Nat) 0 (3 : Nat), .ptr 3 (0 : Nat) 0 (3 : Nat), .int .i64 v1826, .own 4 0 ((x).length), .int .i64 v1827, .int .i64 v1828, .top, .top, .top, .top, .top, .top, .top, .top, .top, .top, .top, .top, .top, .top, .top, .top, .top, .top, .top, .top, .top, .top, .top, .top, .top, .top, .top, .top, .top, .top, .top, .top, .top, .top, .top, .top, .top, .top, .top, .top, .top, .top, .top, .top, .top, .top, .top, .top, .top, .top, .top, .top, .top, .top, .top, .top, .top, .top, .top, .top, .top, .top, .top, .top, .top, .top, .top, .top, .top, .top, .top, .top, .top, .top, .top, .top, .top, .top, .top, .top, .top, .top, .top, .top, .top, .top, .top, .top, .top, .top, .top, .top, .top, .top, .top, .top, .top, .top, .top, .top, .top, .top, .top, .top, .top, .top, .top, .top, .top, .top, .top, .top, .top, .top, .top, .top, .top, .top, .top, .top, .top, .top, .top, .top, .top, .top, .top, .top], [.gen [.int .i64 (0 : Int), .int .i64 (0 : Int), .nilslc] false 0, .gen [.int .i64 (0 : Int), .int .i64 (0 : Int), .nilslc] false 0, .gen [.int .i64 v1832, .int .i64 v1833, .own 5 0 ((v1838).length)] false 0, .gen [.int .i64 v1834, .int .i64 v1835, .own 6 0 ((v1839).length)] false 0, .row (.f32 x) 0, .row (.f32 v1838) 0, .row (.f32 v1839) 0])
def spec_l03Mirror_l6_kill : List Nat := [0, 1, 0, 0, 1, 0, 0, 0, 0, 0, 0, 0, 0, 1, 1, 1, 1, 1, 1, 1, 1, 1, 1, 1, 1, 1, 1, 1, 1, 1, 1, 1, 1, 1, 1, 1, 1, 1, 1, 1, 1, 1, 1, 1, 1, 1, 1, 1, 1, 1, 1, 1, 1, 1, 1, 1, 1, 1, 1, 1, 1, 1, 1, 1, 1, 1, 1, 1, 1, 1, 1, 1, 1, 1, 0, 0, 1, 1, 1, 1, 1, 1, 1, 1, 1, 1, 1, 1, 1, 1, 1, 1, 1, 1, 1, 1, 1, 1, 1, 1, 1, 1, 1, 1, 1, 1, 1, 1, 1, 1, 1, 1, 1, 1, 1, 1, 1, 1, 1, 1, 1, 1, 1, 1, 1, 1, 1, 1, 1, 1, 1, 1, 1, 1, 1, 1, 1, 1, 1]
def spec_l03Mirror_l6_nx : Exit → List Nat
  | .exit 0 => [1, 1, 0, 0, 1, 0, 0, 1, 1, 1, 1, 1, 1, 1, 1, 1, 1, 1, 1, 1, 1, 1, 1, 1, 1, 1, 1, 1, 1, 1, 1, 1, 1, 1, 1, 1, 1, 1, 1, 1, 1, 1, 1, 1, 1, 1, 1, 1, 1, 1, 1, 1, 1, 1, 1, 1, 1, 1, 1, 1, 1, 1, 1, 1, 1, 1, 1, 1, 1, 1, 1, 1, 1, 1, 1, 1, 1, 1, 1, 1, 1, 1, 1, 1, 1, 1, 1, 1, 1, 1, 1, 1, 1, 1, 1, 1, 1, 1, 1, 1, 1, 1, 1, 1, 1, 1, 1, 1, 1, 1, 1, 1, 1, 1, 1, 1, 1, 1, 1, 1, 1, 1, 1, 1, 1, 1, 1, 1, 1, 1, 1, 1, 1, 1, 1, 1, 1, 1, 1]
  | .exit 1 => [0, 1, 0, 0, 1, 0, 0, 0, 1, 1, 1, 1, 1, 1, 1, 1, 1, 1, 1, 1, 1, 1, 1, 1, 1, 1, 1, 1, 1, 1, 1, 1, 1, 1, 1, 1, 1, 1, 1, 1, 1, 1, 1, 1, 1, 1, 1, 1, 1, 1, 1, 1, 1, 1, 1, 1, 1, 1, 1, 1, 1, 1, 1, 1, 1, 1, 1, 1, 1, 1, 1, 1, 1, 1, 1, 1, 1, 1, 1, 1, 1, 1, 1, 1, 1, 1, 1, 1, 1, 1, 1, 1, 1, 1, 1, 1, 1, 1, 1, 1, 1, 1, 1, 1, 1, 1, 1, 1, 1, 1, 1, 1, 1, 1, 1, 1, 1, 1, 1, 1, 1, 1, 1, 1, 1, 1, 1, 1, 1, 1, 1, 1, 1, 1, 1, 1, 1, 1, 1]
  | .exit 2 => [0, 1, 0, 0, 1, 0, 0, 0, 0, 1, 1, 1, 1, 1, 1, 1, 1, 1, 1, 1, 1, 1, 1, 1, 1, 1, 1, 1, 1, 1, 1, 1, 1, 1, 1, 1, 1, 1, 1, 1, 1, 1, 1, 1, 1, 1, 1, 1, 1, 1, 1, 1, 1, 1, 1, 1, 1, 1, 1, 1, 1, 1, 1, 1, 1, 1, 1, 1, 1, 1, 1, 1, 1, 1, 1, 1, 1, 1, 1, 1, 1, 1, 1, 1, 1, 1, 1, 1, 1, 1, 1, 1, 1, 1, 1, 1, 1, 1, 1, 1, 1, 1, 1, 1, 1, 1, 1, 1, 1, 1, 1, 1, 1, 1, 1, 1, 1, 1, 1, 1, 1, 1, 1, 1, 1, 1, 1, 1, 1, 1, 1, 1, 1, 1, 1, 1, 1, 1, 1]
  | .exit 3 => [0, 1, 0, 0, 1, 0, 0, 0, 0, 0, 1, 1, 1, 1, 1, 1, 1, 1, 1, 1, 1, 1, 1, 1, 1, 1, 1, 1, 1, 1, 1, 1, 1, 1, 1, 1, 1, 1, 1, 1, 1, 1, 1, 1, 1, 1, 1, 1, 1, 1, 1, 1, 1, 1, 1, 1, 1, 1, 1, 1, 1, 1, 1, 1, 1, 1, 1, 1, 1, 1, 1, 1, 1, 1, 1, 1, 1, 1, 1, 1, 1, 1, 1, 1, 1, 1, 1, 1, 1, 1, 1, 1, 1, 1, 1, 1, 1, 1, 1, 1, 1, 1, 1, 1, 1, 1, 1, 1, 1, 1, 1, 1, 1, 1, 1, 1, 1, 1, 1, 1, 1, 1, 1, 1, 1, 1, 1, 1, 1, 1, 1, 1, 1, 1, 1, 1, 1, 1, 1]
  | .exit 4 => [0, 1, 0, 0, 1, 0, 0, 0, 0, 0, 1, 1, 1, 1, 1, 1, 1, 1, 1, 1, 1, 1, 1, 1, 1, 1, 1, 1, 1, 1, 1, 1, 1, 1, 1, 1, 1, 1, 1, 1, 1, 1, 1, 1, 1, 1, 1, 1, 1, 1, 1, 1, 1, 1, 1, 1, 1, 1, 1, 1, 1, 1, 1, 1, 1, 1, 1, 1, 1, 1, 1, 1, 1, 1, 1, 1, 1, 1, 1, 1, 1, 1, 1, 1, 1, 1, 1, 1, 1, 1, 1, 1, 1, 1, 1, 1, 1, 1, 1, 1, 1, 1, 1, 1, 1, 1, 1, 1, 1, 1, 1, 1, 1, 1, 1, 1, 1, 1, 1, 1, 1, 1, 1, 1, 1, 1, 1, 1, 1, 1, 1, 1, 1, 1, 1, 1, 1, 1, 1]
  | .exit 5 => [0, 1, 0, 0, 1, 0, 0, 0, 0, 0, 0, 1, 1, 1, 1, 1, 1, 1, 1, 1, 1, 1, 1, 1, 1, 1, 1, 1, 1, 1, 1, 1, 1, 1, 1, 1, 1, 1, 1, 1, 1, 1, 1, 1, 1, 1, 1, 1, 1, 1, 1, 1, 1, 1, 1, 1, 1, 1, 1, 1, 1, 1, 1, 1, 1, 1, 1, 1, 1, 1, 1, 1, 1, 1, 1, 1, 1, 1, 1, 1, 1, 1, 1, 1, 1, 1, 1, 1, 1, 1, 1, 1, 1, 1, 1, 1, 1, 1, 1, 1, 1, 1, 1, 1, 1, 1, 1, 1, 1, 1, 1, 1, 1, 1, 1, 1, 1, 1, 1, 1, 1, 1, 1, 1, 1, 1, 1, 1, 1, 1, 1, 1, 1, 1, 1, 1, 1, 1, 1]
  | .exit 6 => [0, 1, 0, 0, 1, 0, 0, 0, 0, 0, 0, 1, 1, 1, 1, 1, 1, 1, 1, 1, 1, 1, 1, 1, 1, 1, 1, 1, 1, 1, 1, 1, 1, 1, 1, 1, 1, 1, 1, 1, 1, 1, 1, 1, 1, 1, 1, 1, 1, 1, 1, 1, 1, 1, 1, 1, 1, 1, 1, 1, 1, 1, 1, 1, 1, 1, 1, 1, 1, 1, 1, 1, 1, 1, 1, 1, 1, 1, 1, 1, 1, 1, 1, 1, 1, 1, 1, 1, 1, 1, 1, 1, 1, 1, 1, 1, 1, 1, 1, 1, 1, 1, 1, 1, 1, 1, 1, 1, 1, 1, 1, 1, 1, 1, 1, 1, 1, 1, 1, 1, 1, 1, 1, 1, 1, 1, 1, 1, 1, 1, 1, 1, 1, 1, 1, 1, 1, 1, 1]
  | .ret => [1, 1, 0, 0, 0, 1, 1, 1, 1, 1, 1, 1, 1, 1, 1, 1, 1, 1, 1, 1, 1, 1, 1, 1, 1, 1, 1, 1, 1, 1, 1, 1, 1, 1, 1, 1, 1, 1, 1, 1, 1, 1, 1, 1, 1, 1, 1, 1, 1, 1, 1, 1, 1, 1, 1, 1, 1, 1, 1, 1, 1, 1, 1, 1, 1, 1, 1, 1, 1, 1, 1, 1, 1, 1, 1, 1, 1, 1, 1, 1, 1, 1, 1, 1, 1, 1, 1, 1, 1, 1, 1, 1, 1, 1, 1, 1, 1, 1, 1, 1, 1, 1, 1, 1, 1, 1, 1, 1, 1, 1, 1, 1, 1, 1, 1, 1, 1, 1, 1, 1, 1, 1, 1, 1, 1, 1, 1, 1, 1, 1, 1, 1, 1, 1, 1, 1, 1, 1, 1]
  | _ => []
noncomputable def spec_l03Mirror_l4_T (v152 : Int) (v153 : Int) (v154 : List Nat) (v1785 : Int) (v1786 : Int) (v1788 : Int) (v1789 : Int) (v1790 : Int) (v1791 : Int) (v1793 : List Nat) (s : Int × (List Nat) × (List Nat)) : Tree ((Int × (List Nat) × (List Nat)) ⊕ ((List Nat) × (List Nat))) :=
  (.br (decide (s.1 < v1785)) (
   (.call (spec_l03Column_g v1788 v1789 v1793 s.1) fun v1795 =>
   (.call (spec_l02Dot_g v1795 s.2.1) fun v1796 =>
   (.call (spec_l02At_g v1791 s.2.2 s.1 v1785) fun v1797 =>
   (.grd (inb (IntKind.i64.wrap ((IntKind.i64.wrap (s.1 * v1791)) + v1785)) ((s.2.2).length)) <|
   (.need (some (spec_l03Mirror_l6_E v152 v153 v154 v1785 v1786 s.1 v1796 (((s.2.1).length : Nat) : Int) v1788 v1789 v1790 v1791 v1795 v1793 (List.set s.2.2 (Int.toNat (IntKind.i64.wrap ((IntKind.i64.wrap (s.1 * v1791)) + v1785))) (fadd .f32 v1797 v1796)) ((0 : Int), s.2.1)) = some (spec_l03Mirror_l6_E v152 v153 v154 v1785 v1786 s.1 v1796 (((s.2.1).length : Nat) : Int) v1788 v1789 v1790 v1791 v1795 v1793 (List.set s.2.2 (Int.toNat (IntKind.i64.wrap ((IntKind.i64.wrap (s.1 * v1791)) + v1785))) (fadd .f32 v1797 v1796)) ((0 : Int), s.2.1))) <|
   (.call (spec_l03Mirror_l6_g v1785 v1786 s.1 v1796 (((s.2.1).length : Nat) : Int) v1788 v1789 v1790 v1791 v1795 v1793 (List.set s.2.2 (Int.toNat (IntKind.i64.wrap ((IntKind.i64.wrap (s.1 * v1791)) + v1785))) (fadd .f32 v1797 v1796)) ((0 : Int), s.2.1)) fun v1840 =>
   .leaf (.inl (IntKind.i64.wrap (s.1 + (1 : Int)), v1840, (List.set s.2.2 (Int.toNat (IntKind.i64.wrap ((IntKind.i64.wrap (s.1 * v1791)) + v1785))) (fadd .f32 v1797 v1796))))))))))
  ) (
   .leaf (.inr (s.2.1, s.2.2))
  ))

noncomputable def spec_l03Mirror_l4_g (v152 : Int) (v153 : Int) (v154 : List Nat) (v1785 : Int) (v1786 : Int) (v1788 : Int) (v1789 : Int) (v1790 : Int) (v1791 : Int) (v1793 : List Nat) (s0 : Int × (List Nat) × (List Nat)) : Option ((List Nat) × (List Nat)) := whileM (fun s => (spec_l03Mirror_l4_T v152 v153 v154 v1785 v1786 v1788 v1789 v1790 v1791 v1793 s).run) s0
def spec_l03Mirror_l4_E (v152 : Int) (v153 : Int) (v154 : List Nat) (v1785 : Int) (v1786 : Int) (v1788 : Int) (v1789 : Int) (v1790 : Int) (v1791 : Int) (v1793 : List Nat) (s : Int × (List Nat) × (List Nat)) : Sd := ([.bptr (BR.root 0) [.int .i64 v152, .int .i64 v153, .bslc (BR.root 1) (.f32 v154)], .top, .ptr 0 (0 : Nat) 0 (3 : Nat), .ptr 1 (0 : Nat) 0 (3 : Nat), .top, .ptr 2 (0 : Nat) 0 (3 : Nat), .ptr 3 (0 : Nat) 0 (3 : Nat), .int .i64 v1785, .own 4 0 ((s.2.1).length), .int .i64 v1786, .int .i64 s.1, .top, .top, .top, .top, .top, .top, .top, .top, .top, .top, .top, .top, .top, .top, .top, .top, .top, .top, .top, .top, .top, .top, .top, .top, .top, .top, .top, .top, .top, .top, .top, .top, .top, .top, .top, .top, .top, .top, .top, .top, .top, .top, .top, .top, .top, .top, .top, .top, .top, .top, .top, .top, .top, .top, .top, .top, .top, .top, .top, .top, .top, .top, .top, .top, .top, .top, .top, .top, .top, .top, .top, .top, .top, .top, .top, .top, .top, .top, .top, .top, .top, .top, .top, .top, .top, .top, .top, .top, .top, .top, .top, .top, .top, .top, .top, .top, .top, .top, .top, .top, .top, .top, .top, .top, .top, .top, .top, .top, .top, .top, .top, .top, .top, .top, .top, .top, .top, .top, .top, .top, .top, .top, .top, .top, .top, .top, .top, .top], [.gen [.int .i64 (0 : Int), .int .i64 (0 : Int), .nilslc] false 0, .gen [.int .i64 (0 : Int), .int .i64 (0 : Int), .nilslc] false 0, .gen [.int .i64 v1788, .int .i64 v1789, .own 5 0 ((v1793).length)] false 0, .gen [.int .i64 v1790, .int .i64 v1791, .own 6 0 ((s.2.2).length)] false 0, .row (.f32 s.2.1) 0, .row (.f32 v1793) 0, .row (.f32 s.2.2) 0])
def spec_l03Mirror_l4_X (v152 : Int) (v153 : Int) (v154 : List Nat) (v1785 : Int) (v1786 : Int) (v1788 : Int) (v1789 : Int) (v1790 : Int) (v1791 : Int) (v1793 : List Nat) (x : (List Nat) × (List Nat)) : Out := (.normal, [.bptr (BR.root 0) [.int .i64 v152, .int .i64 v153, .bslc (BR.root 1) (.f32 v154)], .top, .ptr 0 (0 : Nat) 0 (3 : Nat), .ptr 1 (0 : Nat) 0 (3 : Nat), .top, .ptr 2 (0 : Nat) 0 (3 : Nat), .ptr 3 (0 : Nat) 0 (3 : Nat), .int .i64 v1785, .own 4 0 ((x.1).length), .int .i64 v1786, .top, .top, .top, .top, .top, .top, .top, .top, .top, .top, .top, .top, .top, .top, .top, .top, .top, .top, .top, .top, .top, .top, .top, .top, .top, .top, .top, .top, .top, .top, .top, .top, .top, .top, .top, .top, .top, .top, .top, .top, .top, .top, .top, .top, .top, .top, .top, .top, .top, .top, .top, .top, .top, .top, .top, .top, .top, .top, .top, .top, .top, .top, .top, .top, .top, .top, .top, .top, .top, .top, .top, .top, .top, .top, .top, .top, .top, .top, .top, .top, .top, .top, .top, .top, .top, .top, .top, .top, .top, .top, .top, .top, .top, .top, .top, .top, .top, .top, .top, .top, .top, .top, .top, .top, .top, .top, .top, .top, .top, .top, .top, .top, .top, .top, .top, .top, .top, .top, .top, .top, .top, .top, .top, .top, .top, .top, .top, .top, .top], [.gen [.int .i64 (0 : Int), .int .i64 (0 : Int), .nilslc] false 0, .gen [.int .i64 (0 : Int), .int .i64 (0 : Int), .nilslc] false 0, .gen [.int .i64 v1788, .int .i64 v1789, .own 5 0 ((v1793).length)] false 0, .gen [.int .i64 v1790, .int .i64 v1791, .own 6 0 ((x.2).length)] false 0, .row (.f32 x.1) 0, .row (.f32 v1793) 0, .row (.f32 x.2) 0])
def spec_l03Mirror_l4_kill : List Nat := [0, 1, 0, 0, 1, 0, 0, 0, 0, 0, 0, 1, 1, 1, 1, 1, 1, 1, 1, 1, 1, 1, 1, 1, 1, 1, 1, 1, 1, 1, 1, 1, 1, 1, 1, 1, 1, 1, 1, 1, 1, 1, 1, 1, 1, 1, 1, 1, 1, 1, 1, 1, 1, 1, 1, 1, 1, 1, 1, 1, 1, 1, 1, 1, 1, 1, 1, 1, 1, 1, 1, 1, 1, 1, 1, 1, 1, 1, 1, 1, 1, 1, 1, 1, 1, 1, 1, 1, 1, 1, 1, 1, 1, 1, 1, 1, 1, 1, 1, 1, 1, 1, 1, 1, 1, 1, 1, 1, 1, 1, 1, 1, 1, 1, 1, 1, 1, 1, 1, 1, 1, 1, 1, 1, 1, 1, 1, 1, 1, 1, 1, 1, 1, 1, 1, 1, 1, 1, 1]
def spec_l03Mirror_l4_nx : Exit → List Nat
  | .exit 0 => [1, 1, 0, 0, 1, 0, 0, 1, 1, 1, 1, 1, 1, 1, 1, 1, 1, 1, 1, 1, 1, 1, 1, 1, 1, 1, 1, 1, 1, 1, 1, 1, 1, 1, 1, 1, 1, 1, 1, 1, 1, 1, 1, 1, 1, 1, 1, 1, 1, 1, 1, 1, 1, 1, 1, 1, 1, 1, 1, 1, 1, 1, 1, 1, 1, 1, 1, 1, 1, 1, 1, 1, 1, 1, 1, 1, 1, 1, 1, 1, 1, 1, 1, 1, 1, 1, 1, 1, 1, 1, 1, 1, 1, 1, 1, 1, 1, 1, 1, 1, 1, 1, 1, 1, 1, 1, 1, 1, 1, 1, 1, 1, 1, 1, 1, 1, 1, 1, 1, 1, 1, 1, 1, 1, 1, 1, 1, 1, 1, 1, 1, 1, 1, 1, 1, 1, 1, 1, 1]
  | .exit 1 => [0, 1, 0, 0, 1, 0, 0, 0, 1, 1, 1, 1, 1, 1, 1, 1, 1, 1, 1, 1, 1, 1, 1, 1, 1, 1, 1, 1, 1, 1, 1, 1, 1, 1, 1, 1, 1, 1, 1, 1, 1, 1, 1, 1, 1, 1, 1, 1, 1, 1, 1, 1, 1, 1, 1, 1, 1, 1, 1, 1, 1, 1, 1, 1, 1, 1, 1, 1, 1, 1, 1, 1, 1, 1, 1, 1, 1, 1, 1, 1, 1, 1, 1, 1, 1, 1, 1, 1, 1, 1, 1, 1, 1, 1, 1, 1, 1, 1, 1, 1, 1, 1, 1, 1, 1, 1, 1, 1, 1, 1, 1, 1, 1, 1, 1, 1, 1, 1, 1, 1, 1, 1, 1, 1, 1, 1, 1, 1, 1, 1, 1, 1, 1, 1, 1, 1, 1, 1, 1]
  | .exit 2 => [0, 1, 0, 0, 1, 0, 0, 0, 0, 1, 1, 1, 1, 1, 1, 1, 1, 1, 1, 1, 1, 1, 1, 1, 1, 1, 1, 1, 1, 1, 1, 1, 1, 1, 1, 1, 1, 1, 1, 1, 1, 1, 1, 1, 1, 1, 1, 1, 1, 1, 1, 1, 1, 1, 1, 1, 1, 1, 1, 1, 1, 1, 1, 1, 1, 1, 1, 1, 1, 1, 1, 1, 1, 1, 1, 1, 1, 1, 1, 1, 1, 1, 1, 1, 1, 1, 1, 1, 1, 1, 1, 1, 1, 1, 1, 1, 1, 1, 1, 1, 1, 1, 1, 1, 1, 1, 1, 1, 1, 1, 1, 1, 1, 1, 1, 1, 1, 1, 1, 1, 1, 1, 1, 1, 1, 1, 1, 1, 1, 1, 1, 1, 1, 1, 1, 1, 1, 1, 1]
  | .exit 3 => [0, 1, 0, 0, 1, 0, 0, 0, 0, 0, 1, 1, 1, 1, 1, 1, 1, 1, 1, 1, 1, 1, 1, 1, 1, 1, 1, 1, 1, 1, 1, 1, 1, 1, 1, 1, 1, 1, 1, 1, 1, 1, 1, 1, 1, 1, 1, 1, 1, 1, 1, 1, 1, 1, 1, 1, 1, 1, 1, 1, 1, 1, 1, 1, 1, 1, 1, 1, 1, 1, 1, 1, 1, 1, 1, 1, 1, 1, 1, 1, 1, 1, 1, 1, 1, 1, 1, 1, 1, 1, 1, 1, 1, 1, 1, 1, 1, 1, 1, 1, 1, 1, 1, 1, 1, 1, 1, 1, 1, 1, 1, 1, 1, 1, 1, 1, 1, 1, 1, 1, 1, 1, 1, 1, 1, 1, 1, 1, 1, 1, 1, 1, 1, 1, 1, 1, 1, 1, 1]
  | .exit 4 => [0, 1, 0, 0, 1, 0, 0, 0, 0, 0, 1, 1, 1, 1, 1, 1, 1, 1, 1, 1, 1, 1, 1, 1, 1, 1, 1, 1, 1, 1, 1, 1, 1, 1, 1, 1, 1, 1, 1, 1, 1, 1, 1, 1, 1, 1, 1, 1, 1, 1, 1, 1, 1, 1, 1, 1, 1, 1, 1, 1, 1, 1, 1, 1, 1, 1, 1, 1, 1, 1, 1, 1, 1, 1, 1, 1, 1, 1, 1, 1, 1, 1, 1, 1, 1, 1, 1, 1, 1, 1, 1, 1, 1, 1, 1, 1, 1, 1, 1, 1, 1, 1, 1, 1, 1, 1, 1, 1, 1, 1, 1, 1, 1, 1, 1, 1, 1, 1, 1, 1, 1, 1, 1, 1, 1, 1, 1, 1, 1, 1, 1, 1, 1, 1, 1, 1, 1, 1, 1]
  | .ret => [1, 1, 0, 0, 0, 1, 1, 1, 1, 1, 1, 1, 1, 1, 1, 1, 1, 1, 1, 1, 1, 1, 1, 1, 1, 1, 1, 1, 1, 1, 1, 1, 1, 1, 1, 1, 1, 1, 1, 1, 1, 1, 1, 1, 1, 1, 1, 1, 1, 1, 1, 1, 1, 1, 1, 1, 1, 1, 1, 1, 1, 1, 1, 1, 1, 1, 1, 1, 1, 1, 1, 1, 1, 1, 1, 1, 1, 1, 1, 1, 1, 1, 1, 1, 1, 1, 1, 1, 1, 1, 1, 1, 1, 1, 1, 1, 1, 1, 1, 1, 1, 1, 1, 1, 1, 1, 1, 1, 1, 1, 1, 1, 1, 1, 1, 1, 1, 1, 1, 1, 1, 1, 1, 1, 1, 1, 1, 1, 1, 1, 1, 1, 1, 1, 1, 1, 1, 1, 1]
  | _ => []
noncomputable def spec_l03Mirror_l2_T (v152 : Int) (v153 : Int) (v154 : List Nat) (v1664 : Int) (v1666 : Int) (v1667 : Int) (v1668 : Int) (v1669 : Int) (v1671 : List Nat) (s : Int × (List Nat) × (List Nat)) : Tree ((Int × (List Nat) × (List Nat)) ⊕ ((List Nat) × (List Nat))) :=
  (.br (decide (s.1 < (2 : Int))) (
   (.need (some (spec_l03Mirror_l4_E v152 v153 v154 v1664 s.1 v1666 v1667 v1668 v1669 v1671 ((0 : Int), s.2.1, s.2.2)) = some (spec_l03Mirror_l4_E v152 v153 v154 v1664 s.1 v1666 v1667 v1668 v1669 v1671 ((0 : Int), s.2.1, s.2.2))) <|
   (.call (spec_l03Mirror_l4_g v152 v153 v154 v1664 s.1 v1666 v1667 v1668 v1669 v1671 ((0 : Int), s.2.1, s.2.2)) fun v1841 =>
   .leaf (.inl (IntKind.i64.wrap (s.1 + (1 : Int)), v1841.1, v1841.2))))
  ) (
   .leaf (.inr (s.2.1, s.2.2))
  ))

noncomputable def spec_l03Mirror_l2_g (v152 : Int) (v153 : Int) (v154 : List Nat) (v1664 : Int) (v1666 : Int) (v1667 : Int) (v1668 : Int) (v1669 : Int) (v1671 : List Nat) (s0 : Int × (List Nat) × (List Nat)) : Option ((List Nat) × (List Nat)) := whileM (fun s => (spec_l03Mirror_l2_T v152 v153 v154 v1664 v1666 v1667 v1668 v1669 v1671 s).run) s0
def spec_l03Mirror_l2_E (v152 : Int) (v153 : Int) (v154 : List Nat) (v1664 : Int) (v1666 : Int) (v1667 : Int) (v1668 : Int) (v1669 : Int) (v1671 : List Nat) (s : Int × (List Nat) × (List Nat)) : Sd := ([.bptr (BR.root 0) [.int .i64 v152, .int .i64 v153, .bslc (BR.root 1) (.f32 v154)], .top, .ptr 0 (0 : Nat) 0 (3 : Nat), .ptr 1 (0 : Nat) 0 (3 : Nat), .top, .ptr 2 (0 : Nat) 0 (3 : Nat), .ptr 3 (0 : Nat) 0 (3 : Nat), .int .i64 v1664, .own 4 0 ((s.2.1).length), .int .i64 s.1, .top, .top, .top, .top, .top, .top, .top, .top, .top, .top, .top, .top, .top, .top, .top, .top, .top, .top, .top, .top, .top, .top, .top, .top, .top, .top, .top, .top, .top, .top, .top, .top, .top, .top, .top, .top, .top, .top, .top, .top, .top, .top, .top, .top, .top, .top, .top, .top, .top, .top, .top, .top, .top, .top, .top, .top, .top, .top, .top, .top, .top, .top, .top, .top, .top, .top, .top, .top, .top, .top, .top, .top, .top, .top, .top, .top, .top, .top, .top, .top, .top, .top, .top, .top, .top, .top, .top, .top, .top, .top, .top, .top, .top, .top, .top, .top, .top, .top, .top, .top, .top, .top, .top, .top, .top, .top, .top, .top, .top, .top, .top, .top, .top, .top, .top, .top, .top, .top, .top, .top, .top, .top, .top, .top, .top, .top, .top, .top, .top], [.gen [.int .i64 (0 : Int), .int .i64 (0 : Int), .nilslc] false 0, .gen [.int .i64 (0 : Int), .int .i64 (0 : Int), .nilslc] false 0, .gen [.int .i64 v1666, .int .i64 v1667, .own 5 0 ((v1671).length)] false 0, .gen [.int .i64 v1668, .int .i64 v1669, .own 6 0 ((s.2.2).length)] false 0, .row (.f32 s.2.1) 0, .row (.f32 v1671) 0, .row (.f32 s.2.2) 0])
def spec_l03Mirror_l2_X (v152 : Int) (v153 : Int) (v154 : List Nat) (v1664 : Int) (v1666 : Int) (v1667 : Int) (v1668 : Int) (v1669 : Int) (v1671 : List Nat) (x : (List Nat) × (List Nat)) : Out := (.normal, [.bptr (BR.root 0) [.int .i64 v152, .int .i64 v153, .bslc (BR.root 1) (.f32 v154)], .top, .ptr 0 (0 : Nat) 0 (3 : Nat), .ptr 1 (0 : Nat) 0 (3 : Nat), .top, .ptr 2 (0 : Nat) 0 (3 : Nat), .ptr 3 (0 : Nat) 0 (3 : Nat), .int .i64 v1664, .own 4 0 ((x.1).length), .top, .top, .top, .top, .top, .top, .top, .top, .top, .top, .top, .top, .top, .top, .top, .top, .top, .top, .top, .top, .top, .top, .top, .top, .top, .top, .top, .top, .top, .top, .top, .top, .top, .top, .top, .top, .top, .top, .top, .top, .top, .top, .top, .top, .top, .top, .top, .top, .top, .top, .top, .top, .top, .top, .top, .top, .top, .top, .top, .top, .top, .top, .top, .top, .top, .top, .top, .top, .top, .top, .top, .top, .top, .top, .top, .top, .top, .top, .top, .top, .top, .top, .top, .top, .top, .top, .top, .top, .top, .top, .top, .top, .top, .top, .top, .top, .top, .top, .top, .top, .top, .top, .top, .top, .top, .top, .top, .top, .top, .top, .top, .top, .top, .top, .top, .top, .top, .top, .top, .top, .top, .top, .top, .top, .top, .top, .top, .top, .top, .top], [.gen [.int .i64 (0 : Int), .int .i64 (0 : Int), .nilslc] false 0, .gen [.int .i64 (0 : Int), .int .i64 (0 : Int), .nilslc] false 0, .gen [.int .i64 v1666, .int .i64 v1667, .own 5 0 ((v1671).length)] false 0, .gen [.int .i64 v1668, .int .i64 v1669, .own 6 0 ((x.2).length)] false 0, .row (.f32 x.1) 0, .row (.f32 v1671) 0, .row (.f32 x.2) 0])
def spec_l03Mirror_l2_kill : List Nat := [0, 1, 0, 0, 1, 0, 0, 0, 0, 0, 1, 1, 1, 1, 1, 1, 1, 1, 1, 1, 1, 1, 1, 1, 1, 1, 1, 1, 1, 1, 1, 1, 1, 1, 1, 1, 1, 1, 1, 1, 1, 1, 1, 1, 1, 1, 1, 1, 1, 1, 1, 1, 1, 1, 1, 1, 1, 1, 1, 1, 1, 1, 1, 1, 1, 1, 1, 1, 1, 1, 1, 1, 1, 1, 1, 1, 1, 1, 1, 1, 1, 1, 1, 1, 1, 1, 1, 1, 1, 1, 1, 1, 1, 1, 1, 1, 1, 1, 1, 1, 1, 1, 1, 1, 1, 1, 1, 1, 1, 1, 1, 1, 1, 1, 1, 1, 1, 1, 1, 1, 1, 1, 1, 1, 1, 1, 1, 1, 1, 1, 1, 1, 1, 1, 1, 1, 1, 1, 1]
def spec_l03Mirror_l2_nx : Exit → List Nat
  | .exit 0 => [1, 1, 0, 0, 1, 0, 0, 1, 1, 1, 1, 1, 1, 1, 1, 1, 1, 1, 1, 1, 1, 1, 1, 1, 1, 1, 1, 1, 1, 1, 1, 1, 1, 1, 1, 1, 1, 1, 1, 1, 1, 1, 1, 1, 1, 1, 1, 1, 1, 1, 1, 1, 1, 1, 1, 1, 1, 1, 1, 1, 1, 1, 1, 1, 1, 1, 1, 1, 1, 1, 1, 1, 1, 1, 1, 1, 1, 1, 1, 1, 1, 1, 1, 1, 1, 1, 1, 1, 1, 1, 1, 1, 1, 1, 1, 1, 1, 1, 1, 1, 1, 1, 1, 1, 1, 1, 1, 1, 1, 1, 1, 1, 1, 1, 1, 1, 1, 1, 1, 1, 1, 1, 1, 1, 1, 1, 1, 1, 1, 1, 1, 1, 1, 1, 1, 1, 1, 1, 1]
  | .exit 1 => [0, 1, 0, 0, 1, 0, 0, 0, 1, 1, 1, 1, 1, 1, 1, 1, 1, 1, 1, 1, 1, 1, 1, 1, 1, 1, 1, 1, 1, 1, 1, 1, 1, 1, 1, 1, 1, 1, 1, 1, 1, 1, 1, 1, 1, 1, 1, 1, 1, 1, 1, 1, 1, 1, 1, 1, 1, 1, 1, 1, 1, 1, 1, 1, 1, 1, 1, 1, 1, 1, 1, 1, 1, 1, 1, 1, 1, 1, 1, 1, 1, 1, 1, 1, 1, 1, 1, 1, 1, 1, 1, 1, 1, 1, 1, 1, 1, 1, 1, 1, 1, 1, 1, 1, 1, 1, 1, 1, 1, 1, 1, 1, 1, 1, 1, 1, 1, 1, 1, 1, 1, 1, 1, 1, 1, 1, 1, 1, 1, 1, 1, 1, 1, 1, 1, 1, 1, 1, 1]
  | .exit 2 => [0, 1, 0, 0, 1, 0, 0, 0, 0, 1, 1, 1, 1, 1, 1, 1, 1, 1, 1, 1, 1, 1, 1, 1, 1, 1, 1, 1, 1, 1, 1, 1, 1, 1, 1, 1, 1, 1, 1, 1, 1, 1, 1, 1, 1, 1, 1, 1, 1, 1, 1, 1, 1, 1, 1, 1, 1, 1, 1, 1, 1, 1, 1, 1, 1, 1, 1, 1, 1, 1, 1, 1, 1, 1, 1, 1, 1, 1, 1, 1, 1, 1, 1, 1, 1, 1, 1, 1, 1, 1, 1, 1, 1, 1, 1, 1, 1, 1, 1, 1, 1, 1, 1, 1, 1, 1, 1, 1, 1, 1, 1, 1, 1, 1, 1, 1, 1, 1, 1, 1, 1, 1, 1, 1, 1, 1, 1, 1, 1, 1, 1, 1, 1, 1, 1, 1, 1, 1, 1]
  | .ret => [1, 1, 0, 0, 0, 1, 1, 1, 1, 1, 1, 1, 1, 1, 1, 1, 1, 1, 1, 1, 1, 1, 1, 1, 1, 1, 1, 1, 1, 1, 1, 1, 1, 1, 1, 1, 1, 1, 1, 1, 1, 1, 1, 1, 1, 1, 1, 1, 1, 1, 1, 1, 1, 1, 1, 1, 1, 1, 1, 1, 1, 1, 1, 1, 1, 1, 1, 1, 1, 1, 1, 1, 1, 1, 1, 1, 1, 1, 1, 1, 1, 1, 1, 1, 1, 1, 1, 1, 1, 1, 1, 1, 1, 1, 1, 1, 1, 1, 1, 1, 1, 1, 1, 1, 1, 1, 1, 1, 1, 1, 1, 1, 1, 1, 1, 1, 1, 1, 1, 1, 1, 1, 1, 1, 1, 1, 1, 1, 1, 1, 1, 1, 1, 1, 1, 1, 1, 1, 1]
  | _ => []
noncomputable def spec_l03Mirror_l8_T (v1867 : Int) (v1868 : Nat) (v1869 : Int) (v1871 : Int) (v1872 : Int) (v1873 : Int) (v1874 : Int) (v1875 : List Nat) (v1877 : List Nat) (s : Int × (List Nat)) : Tree ((Int × (List Nat)) ⊕ ((List Nat))) :=
  (.br (decide (s.1 < v1869)) (
   (.grd (inb s.1 ((v1875).length)) <|
   (.grd (inb (IntKind.i64.wrap ((IntKind.i64.wrap (s.1 * v1872)) + v1867)) ((s.2).length)) <|
   .leaf (.inl (IntKind.i64.wrap (s.1 + (1 : Int)), List.set s.2 (Int.toNat (IntKind.i64.wrap ((IntKind.i64.wrap (s.1 * v1872)) + v1867))) (fdiv .f32 (nth v1875 (Int.toNat s.1)) v1868)))))
  ) (
   .leaf (.inr s.2)
  ))

noncomputable def spec_l03Mirror_l8_g (v1867 : Int) (v1868 : Nat) (v1869 : Int) (v1871 : Int) (v1872 : Int) (v1873 : Int) (v1874 : Int) (v1875 : List Nat) (v1877 : List Nat) (s0 : Int × (List Nat)) : Option ((List Nat)) := whileM (fun s => (spec_l03Mirror_l8_T v1867 v1868 v1869 v1871 v1872 v1873 v1874 v1875 v1877 s).run) s0
def spec_l03Mirror_l8_E (v152 : Int) (v153 : Int) (v154 : List Nat) (v1867 : Int) (v1868 : Nat) (v1869 : Int) (v1871 : Int) (v1872 : Int) (v1873 : Int) (v1874 : Int) (v1875 : List Nat) (v1877 : List Nat) (s : Int × (List Nat)) : Sd := ([.bptr (BR.root 0) [.int .i64 v152, .int .i64 v153, .bslc (BR.root 1) (.f32 v154)], .top, .ptr 0 (0 : Nat) 0 (3 : Nat), .ptr 1 (0 : Nat) 0 (3 : Nat), .top, .ptr 2 (0 : Nat) 0 (3 : Nat), .ptr 3 (0 : Nat) 0 (3 : Nat), .int .i64 v1867, .own 4 0 ((v1875).length), .top, .top, .top, .top, .top, .flt .f32 v1868, .top, .top, .top, .top, .top, .top, .top, .top, .top, .top, .top, .top, .top, .top, .top, .top, .top, .top, .top, .top, .top, .top, .top, .top, .top, .top, .top, .top, .top, .top, .top, .top, .top, .top, .top, .top, .top, .top, .top, .top, .top, .top, .top, .top, .top, .top, .top, .top, .top, .top, .top, .top, .top, .top, .top, .top, .top, .top, .top, .top, .top, .top, .top, .top, .top, .top, .top, .top, .top, .top, .top, .top, .top, .top, .top, .top, .top, .top, .top, .top, .top, .top, .top, .top, .top, .top, .top, .top, .top, .top, .top, .top, .top, .top, .top, .top, .top, .top, .int .i64 v1869, .int .i64 s.1, .top, .top, .top, .top, .top, .top, .top, .top, .top, .top, .top, .top, .top, .top, .top, .top, .top, .top, .top, .top, .top, .top, .top, .top], [.gen [.int .i64 (0 : Int), .int .i64 (0 : Int), .nilslc] false 0, .gen [.int .i64 (0 : Int), .int .i64 (0 : Int), .nilslc] false 0, .gen [.int .i64 v1871, .int .i64 v1872, .own 5 0 ((s.2).length)] false 0, .gen [.int .i64 v1873, .int .i64 v1874, .own 6 0 ((v1877).length)] false 0, .row (.f32 v1875) 0, .row (.f32 s.2) 0, .row (.f32 v1877) 0])
def spec_l03Mirror_l8_X (v152 : Int) (v153 : Int) (v154 : List Nat) (v1867 : Int) (v1868 : Nat) (v1869 : Int) (v1871 : Int) (v1872 : Int) (v1873 : Int) (v1874 : Int) (v1875 : List Nat) (v1877 : List Nat) (x : (List Nat)) : Out := (.normal, [.bptr (BR.root 0) [.int .i64 v152, .int .i64 v153, .bslc (BR.root 1) (.f32 v154)], .top, .ptr 0 (0 : Nat) 0 (3 : Nat), .ptr 1 (0 : Nat) 0 (3 : Nat), .top, .ptr 2 (0 : Nat) 0 (3 : Nat), .ptr 3 (0 : Nat) 0 (3 : Nat), .int .i64 v1867, .top, .top, .top, .top, .top, .top, .top, .top, .top, .top, .top, .top, .top, .top, .top, .top, .top, .top, .top, .top, .top, .top, .top, .top, .top, .top, .top, .top, .top, .top, .top, .top, .top, .top, .top, .top, .top, .top, .top, .top, .top, .top, .top, .top, .top, .top, .top, .top, .top, .top, .top, .top, .top, .top, .top, .top, .top, .top, .top, .top, .top, .top, .top, .top, .top, .top, .top, .top, .top, .top, .top, .top, .top, .top, .top, .top, .top, .top, .top, .top, .top, .top, .top, .top, .top, .top, .top, .top, .top, .top, .top, .top, .top, .top, .top, .top, .top, .top, .top, .top, .top, .top, .top, .top, .top, .top, .top, .top, .top, .top, .top, .top, .top, .top, .top, .top, .top, .top, .top, .top, .top, .top, .top, .top, .top, .top, .top, .top, .top, .top, .top], [.gen [.int .i64 (0 : Int), .int .i64 (0 : Int), .nilslc] false 0, .gen [.int .i64 (0 : Int), .int .i64 (0 : Int), .nilslc] false 0, .gen [.int .i64 v1871, .int .i64 v1872, .own 4 0 ((x).length)] false 0, .gen [.int .i64 v1873, .int .i64 v1874, .own 5 0 ((v1877).length)] false 0, .row (.f32 x) 0, .row (.f32 v1877) 0])
def spec_l03Mirror_l8_kill : List Nat := [0, 1, 0, 0, 1, 0, 0, 0, 0, 1, 1, 1, 1, 1, 0, 1, 1, 1, 1, 1, 1, 1, 1, 1, 1, 1, 1, 1, 1, 1, 1, 1, 1, 1, 1, 1, 1, 1, 1, 1, 1, 1, 1, 1, 1, 1, 1, 1, 1, 1, 1, 1, 1, 1, 1, 1, 1, 1, 1, 1, 1, 1, 1, 1, 1, 1, 1, 1, 1, 1, 1, 1, 1, 1, 1, 1, 1, 1, 1, 1, 1, 1, 1, 1, 1, 1, 1, 1, 1, 1, 1, 1, 1, 1, 1, 1, 1, 1, 1, 1, 1, 1, 1, 1, 1, 1, 1, 1, 1, 1, 1, 1, 1, 0, 0, 1, 1, 1, 1, 1, 1, 1, 1, 1, 1, 1, 1, 1, 1, 1, 1, 1, 1, 1, 1, 1, 1, 1, 1]
def spec_l03Mirror_l8_nx : Exit → List Nat
  | .exit 0 => [1, 1, 0, 0, 1, 0, 0, 1, 1, 1, 1, 1, 1, 1, 1, 1, 1, 1, 1, 1, 1, 1, 1, 1, 1, 1, 1, 1, 1, 1, 1, 1, 1, 1, 1, 1, 1, 1, 1, 1, 1, 1, 1, 1, 1, 1, 1, 1, 1, 1, 1, 1, 1, 1, 1, 1, 1, 1, 1, 1, 1, 1, 1, 1, 1, 1, 1, 1, 1, 1, 1, 1, 1, 1, 1, 1, 1, 1, 1, 1, 1, 1, 1, 1, 1, 1, 1, 1, 1, 1, 1, 1, 1, 1, 1, 1, 1, 1, 1, 1, 1, 1, 1, 1, 1, 1, 1, 1, 1, 1, 1, 1, 1, 1, 1, 1, 1, 1, 1, 1, 1, 1, 1, 1, 1, 1, 1, 1, 1, 1, 1, 1, 1, 1, 1, 1, 1, 1, 1]
  | .exit 1 => [0, 1, 0, 0, 1, 0, 0, 0, 1, 1, 1, 1, 1, 1, 1, 1, 1, 1, 1, 1, 1, 1, 1, 1, 1, 1, 1, 1, 1, 1, 1, 1, 1, 1, 1, 1, 1, 1, 1, 1, 1, 1, 1, 1, 1, 1, 1, 1, 1, 1, 1, 1, 1, 1, 1, 1, 1, 1, 1, 1, 1, 1, 1, 1, 1, 1, 1, 1, 1, 1, 1, 1, 1, 1, 1, 1, 1, 1, 1, 1, 1, 1, 1, 1, 1, 1, 1, 1, 1, 1, 1, 1, 1, 1, 1, 1, 1, 1, 1, 1, 1, 1, 1, 1, 1, 1, 1, 1, 1, 1, 1, 1, 1, 1, 1, 1, 1, 1, 1, 1, 1, 1, 1, 1, 1, 1, 1, 1, 1, 1, 1, 1, 1, 1, 1, 1, 1, 1, 1]
  | .exit 8 => [0, 1, 0, 0, 1, 0, 0, 0, 1, 1, 1, 1, 1, 1, 1, 1, 1, 1, 1, 1, 1, 1, 1, 1, 1, 1, 1, 1, 1, 1, 1, 1, 1, 1, 1, 1, 1, 1, 1, 1, 1, 1, 1, 1, 1, 1, 1, 1, 1, 1, 1, 1, 1, 1, 1, 1, 1, 1, 1, 1, 1, 1, 1, 1, 1, 1, 1, 1, 1, 1, 1, 1, 1, 1, 1, 1, 1, 1, 1, 1, 1, 1, 1, 1, 1, 1, 1, 1, 1, 1, 1, 1, 1, 1, 1, 1, 1, 1, 1, 1, 1, 1, 1, 1, 1, 1, 1, 1, 1, 1, 1, 1, 1, 1, 1, 1, 1, 1, 1, 1, 1, 1, 1, 1, 1, 1, 1, 1, 1, 1, 1, 1, 1, 1, 1, 1, 1, 1, 1]
  | .ret => [1, 1, 0, 0, 0, 1, 1, 1, 1, 1, 1, 1, 1, 1, 1, 1, 1, 1, 1, 1, 1, 1, 1, 1, 1, 1, 1, 1, 1, 1, 1, 1, 1, 1, 1, 1, 1, 1, 1, 1, 1, 1, 1, 1, 1, 1, 1, 1, 1, 1, 1, 1, 1, 1, 1, 1, 1, 1, 1, 1, 1, 1, 1, 1, 1, 1, 1, 1, 1, 1, 1, 1, 1, 1, 1, 1, 1, 1, 1, 1, 1, 1, 1, 1, 1, 1, 1, 1, 1, 1, 1, 1, 1, 1, 1, 1, 1, 1, 1, 1, 1, 1, 1, 1, 1, 1, 1, 1, 1, 1, 1, 1, 1, 1, 1, 1, 1, 1, 1, 1, 1, 1, 1, 1, 1, 1, 1, 1, 1, 1, 1, 1, 1, 1, 1, 1, 1, 1, 1]
  | _ => []
noncomputable def spec_l03Mirror_l0_T (v152 : Int) (v153 : Int) (v154 : List Nat) (v1301 : Int) (v1302 : Int) (v1303 : Int) (v1304 : Int) (s : Int × (List Nat) × (List Nat)) : Tree ((Int × (List Nat) × (List Nat)) ⊕ ((Unit) ⊕ ((List Nat) × (List Nat)))) :=
  (.br (decide (s.1 < v153)) (
   (.call (spec_l03Column_g v152 v153 v154 s.1) fun v1307 =>
   (.need (some (spec_l03Mirror_l2_E v152 v153 v154 s.1 v1301 v1302 v1303 v1304 s.2.1 ((0 : Int), v1307, s.2.2)) = some (spec_l03Mirror_l2_E v152 v153 v154 s.1 v1301 v1302 v1303 v1304 s.2.1 ((0 : Int), v1307, s.2.2))) <|
   (.call (spec_l03Mirror_l2_g v152 v153 v154 s.1 v1301 v1302 v1303 v1304 s.2.1 ((0 : Int), v1307, s.2.2)) fun v1842 =>
   (.call (spec_l02Dot_g v1842.1 v1842.1) fun v1843 =>
   (.call (spec_l01Sqrt_g v1843) fun v1844 =>
   (.br (!(fgrt .f32 v1844 (0 : Nat))) (
    .leaf (.inr (.inl ()))
   ) (
    (.grd (inb (IntKind.i64.wrap ((IntKind.i64.wrap (s.1 * v1304)) + s.1)) ((v1842.2).length)) <|
    (.need (some (spec_l03Mirror_l8_E v152 v153 v154 s.1 v1844 (((v1842.1).length : Nat) : Int) v1301 v1302 v1303 v1304 v1842.1 (List.set v1842.2 (Int.toNat (IntKind.i64.wrap ((IntKind.i64.wrap (s.1 * v1304)) + s.1))) v1844) ((0 : Int), s.2.1)) = some (spec_l03Mirror_l8_E v152 v153 v154 s.1 v1844 (((v1842.1).length : Nat) : Int) v1301 v1302 v1303 v1304 v1842.1 (List.set v1842.2 (Int.toNat (IntKind.i64.wrap ((IntKind.i64.wrap (s.1 * v1304)) + s.1))) v1844) ((0 : Int), s.2.1))) <|
    (.call (spec_l03Mirror_l8_g s.1 v1844 (((v1842.1).length : Nat) : Int) v1301 v1302 v1303 v1304 v1842.1 (List.set v1842.2 (Int.toNat (IntKind.i64.wrap ((IntKind.i64.wrap (s.1 * v1304)) + s.1))) v1844) ((0 : Int), s.2.1)) fun v1878 =>
    .leaf (.inl (IntKind.i64.wrap (s.1 + (1 : Int)), v1878, (List.set v1842.2 (Int.toNat (IntKind.i64.wrap ((IntKind.i64.wrap (s.1 * v1304)) + s.1))) v1844))))))
   )))))))
  ) (
   .leaf (.inr (.inr (s.2.1, s.2.2)))
  ))

noncomputable def spec_l03Mirror_l0_g (v152 : Int) (v153 : Int) (v154 : List Nat) (v1301 : Int) (v1302 : Int) (v1303 : Int) (v1304 : Int) (s0 : Int × (List Nat) × (List Nat)) : Option ((Unit) ⊕ ((List Nat) × (List Nat))) := whileM (fun s => (spec_l03Mirror_l0_T v152 v153 v154 v1301 v1302 v1303 v1304 s).run) s0
def spec_l03Mirror_l0_E (v152 : Int) (v153 : Int) (v154 : List Nat) (v1301 : Int) (v1302 : Int) (v1303 : Int) (v1304 : Int) (s : Int × (List Nat) × (List Nat)) : Sd := ([.bptr (BR.root 0) [.int .i64 v152, .int .i64 v153, .bslc (BR.root 1) (.f32 v154)], .top, .ptr 0 (0 : Nat) 0 (3 : Nat), .ptr 1 (0 : Nat) 0 (3 : Nat), .top, .ptr 2 (0 : Nat) 0 (3 : Nat), .ptr 3 (0 : Nat) 0 (3 : Nat), .int .i64 s.1, .top, .top, .top, .top, .top, .top, .top, .top, .top, .top, .top, .top, .top, .top, .top, .top, .top, .top, .top, .top, .top, .top, .top, .top, .top, .top, .top, .top, .top, .top, .top, .top, .top, .top, .top, .top, .top, .top, .top, .top, .top, .top, .top, .top, .top, .top, .top, .top, .top, .top, .top, .top, .top, .top, .top, .top, .top, .top, .top, .top, .top, .top, .top, .top, .top, .top, .top, .top, .top, .top, .top, .top, .top, .top, .top, .top, .top, .top, .top, .top, .top, .top, .top, .top, .top, .top, .top, .top, .top, .top, .top, .top, .top, .top, .top, .top, .top, .top, .top, .top, .top, .top, .top, .top, .top, .top, .top, .top, .top, .top, .top, .top, .top, .top, .top, .top, .top, .top, .top, .top, .top, .top, .top, .top, .top, .top, .top, .top, .top, .top, .top], [.gen [.int .i64 (0 : Int), .int .i64 (0 : Int), .nilslc] false 0, .gen [.int .i64 (0 : Int), .int .i64 (0 : Int), .nilslc] false 0, .gen [.int .i64 v1301, .int .i64 v1302, .own 4 0 ((s.2.1).length)] false 0, .gen [.int .i64 v1303, .int .i64 v1304, .own 5 0 ((s.2.2).length)] false 0, .row (.f32 s.2.1) 0, .row (.f32 s.2.2) 0])
def spec_l03Mirror_l0_X (v152 : Int) (v153 : Int) (v154 : List Nat) (v1301 : Int) (v1302 : Int) (v1303 : Int) (v1304 : Int) (x : (Unit) ⊕ ((List Nat) × (List Nat))) : Out := (match x with | .inl x => (.ret, [.top, .top, .ptr 0 (0 : Nat) 0 (3 : Nat), .ptr 1 (0 : Nat) 0 (3 : Nat), .lit false, .top, .top, .top, .top, .top, .top, .top, .top, .top, .top, .top, .top, .top, .top, .top, .top, .top, .top, .top, .top, .top, .top, .top, .top, .top, .top, .top, .top, .top, .top, .top, .top, .top, .top, .top, .top, .top, .top, .top, .top, .top, .top, .top, .top, .top, .top, .top, .top, .top, .top, .top, .top, .top, .top, .top, .top, .top, .top, .top, .top, .top, .top, .top, .top, .top, .top, .top, .top, .top, .top, .top, .top, .top, .top, .top, .top, .top, .top, .top, .top, .top, .top, .top, .top, .top, .top, .top, .top, .top, .top, .top, .top, .top, .top, .top, .top, .top, .top, .top, .top, .top, .top, .top, .top, .top, .top, .top, .top, .top, .top, .top, .top, .top, .top, .top, .top, .top, .top, .top, .top, .top, .top, .top, .top, .top, .top, .top, .top, .top, .top, .top, .top, .top, .top], [.gen [.int .i64 (0 : Int), .int .i64 (0 : Int), .nilslc] false 0, .gen [.int .i64 (0 : Int), .int .i64 (0 : Int), .nilslc] false 0]) | .inr x => (.normal, [.top, .top, .ptr 0 (0 : Nat) 0 (3 : Nat), .ptr 1 (0 : Nat) 0 (3 : Nat), .top, .ptr 2 (0 : Nat) 0 (3 : Nat), .ptr 3 (0 : Nat) 0 (3 : Nat), .top, .top, .top, .top, .top, .top, .top, .top, .top, .top, .top, .top, .top, .top, .top, .top, .top, .top, .top, .top, .top, .top, .top, .top, .top, .top, .top, .top, .top, .top, .top, .top, .top, .top, .top, .top, .top, .top, .top, .top, .top, .top, .top, .top, .top, .top, .top, .top, .top, .top, .top, .top, .top, .top, .top, .top, .top, .top, .top, .top, .top, .top, .top, .top, .top, .top, .top, .top, .top, .top, .top, .top, .top, .top, .top, .top, .top, .top, .top, .top, .top, .top, .top, .top, .top, .top, .top, .top, .top, .top, .top, .top, .top, .top, .top, .top, .top, .top, .top, .top, .top, .top, .top, .top, .top, .top, .top, .top, .top, .top, .top, .top, .top, .top, .top, .top, .top, .top, .top, .top, .top, .top, .top, .top, .top, .top, .top, .top, .top, .top, .top, .top], [.gen [.int .i64 (0 : Int), .int .i64 (0 : Int), .nilslc] false 0, .gen [.int .i64 (0 : Int), .int .i64 (0 : Int), .nilslc] false 0, .gen [.int .i64 v1301, .int .i64 v1302, .own 4 0 ((x.1).length)] false 0, .gen [.int .i64 v1303, .int .i64 v1304, .own 5 0 ((x.2).length)] false 0, .row (.f32 x.1) 0, .row (.f32 x.2) 0]))
def spec_l03Mirror_l0_kill : List Nat := [0, 1, 0, 0, 1, 0, 0, 0, 1, 1, 1, 1, 1, 1, 1, 1, 1, 1, 1, 1, 1, 1, 1, 1, 1, 1, 1, 1, 1, 1, 1, 1, 1, 1, 1, 1, 1, 1, 1, 1, 1, 1, 1, 1, 1, 1, 1, 1, 1, 1, 1, 1, 1, 1, 1, 1, 1, 1, 1, 1, 1, 1, 1, 1, 1, 1, 1, 1, 1, 1, 1, 1, 1, 1, 1, 1, 1, 1, 1, 1, 1, 1, 1, 1, 1, 1, 1, 1, 1, 1, 1, 1, 1, 1, 1, 1, 1, 1, 1, 1, 1, 1, 1, 1, 1, 1, 1, 1, 1, 1, 1, 1, 1, 1, 1, 1, 1, 1, 1, 1, 1, 1, 1, 1, 1, 1, 1, 1, 1, 1, 1, 1, 1, 1, 1, 1, 1, 1, 1]
def spec_l03Mirror_l0_nx : Exit → List Nat
  | .exit 0 => [1, 1, 0, 0, 1, 0, 0, 1, 1, 1, 1, 1, 1, 1, 1, 1, 1, 1, 1, 1, 1, 1, 1, 1, 1, 1, 1, 1, 1, 1, 1, 1, 1, 1, 1, 1, 1, 1, 1, 1, 1, 1, 1, 1, 1, 1, 1, 1, 1, 1, 1, 1, 1, 1, 1, 1, 1, 1, 1, 1, 1, 1, 1, 1, 1, 1, 1, 1, 1, 1, 1, 1, 1, 1, 1, 1, 1, 1, 1, 1, 1, 1, 1, 1, 1, 1, 1, 1, 1, 1, 1, 1, 1, 1, 1, 1, 1, 1, 1, 1, 1, 1, 1, 1, 1, 1, 1, 1, 1, 1, 1, 1, 1, 1, 1, 1, 1, 1, 1, 1, 1, 1, 1, 1, 1, 1, 1, 1, 1, 1, 1, 1, 1, 1, 1, 1, 1, 1, 1]
  | .ret => [1, 1, 0, 0, 0, 1, 1, 1, 1, 1, 1, 1, 1, 1, 1, 1, 1, 1, 1, 1, 1, 1, 1, 1, 1, 1, 1, 1, 1, 1, 1, 1, 1, 1, 1, 1, 1, 1, 1, 1, 1, 1, 1, 1, 1, 1, 1, 1, 1, 1, 1, 1, 1, 1, 1, 1, 1, 1, 1, 1, 1, 1, 1, 1, 1, 1, 1, 1, 1, 1, 1, 1, 1, 1, 1, 1, 1, 1, 1, 1, 1, 1, 1, 1, 1, 1, 1, 1, 1, 1, 1, 1, 1, 1, 1, 1, 1, 1, 1, 1, 1, 1, 1, 1, 1, 1, 1, 1, 1, 1, 1, 1, 1, 1, 1, 1, 1, 1, 1, 1, 1, 1, 1, 1, 1, 1, 1, 1, 1, 1, 1, 1, 1, 1, 1, 1, 1, 1, 1]
  | _ => []
noncomputable def spec_l03Mirror_LO (v152 : Int) (v153 : Int) (v154 : List Nat) : LOr := fun id e L =>
  match id with
  | 6 => .need (normA 0 spec_l03Mirror_l6_kill e L = some (spec_l03Mirror_l6_E v152 v153 v154 (gI (vAt e 7)) (gI (vAt e 9)) (gI (vAt e 10)) (gF (vAt e 12)) (gI (vAt e 74)) (gI (cAt L (vAt e 5) 0)) (gI (cAt L (vAt e 5) 1)) (gI (cAt L (vAt e 6) 0)) (gI (cAt L (vAt e 6) 1)) (gRF L (vAt e 11)) (gRF L (cAt L (vAt e 5) 2)) (gRF L (cAt L (vAt e 6) 2)) ((gI (vAt e 75)), (gRF L (vAt e 8))))) (.call (spec_l03Mirror_l6_g (gI (vAt e 7)) (gI (vAt e 9)) (gI (vAt e 10)) (gF (vAt e 12)) (gI (vAt e 74)) (gI (cAt L (vAt e 5) 0)) (gI (cAt L (vAt e 5) 1)) (gI (cAt L (vAt e 6) 0)) (gI (cAt L (vAt e 6) 1)) (gRF L (vAt e 11)) (gRF L (cAt L (vAt e 5) 2)) (gRF L (cAt L (vAt e 6) 2)) ((gI (vAt e 75)), (gRF L (vAt e 8)))) fun x => .leaf (spec_l03Mirror_l6_X v152 v153 v154 (gI (vAt e 7)) (gI (vAt e 9)) (gI (vAt e 10)) (gF (vAt e 12)) (gI (vAt e 74)) (gI (cAt L (vAt e 5) 0)) (gI (cAt L (vAt e 5) 1)) (gI (cAt L (vAt e 6) 0)) (gI (cAt L (vAt e 6) 1)) (gRF L (vAt e 11)) (gRF L (cAt L (vAt e 5) 2)) (gRF L (cAt L (vAt e 6) 2)) x))
  | 4 => .need (normA 0 spec_l03Mirror_l4_kill e L = some (spec_l03Mirror_l4_E v152 v153 v154 (gI (vAt e 7)) (gI (vAt e 9)) (gI (cAt L (vAt e 5) 0)) (gI (cAt L (vAt e 5) 1)) (gI (cAt L (vAt e 6) 0)) (gI (cAt L (vAt e 6) 1)) (gRF L (cAt L (vAt e 5) 2)) ((gI (vAt e 10)), (gRF L (vAt e 8)), (gRF L (cAt L (vAt e 6) 2))))) (.call (spec_l03Mirror_l4_g v152 v153 v154 (gI (vAt e 7)) (gI (vAt e 9)) (gI (cAt L (vAt e 5) 0)) (gI (cAt L (vAt e 5) 1)) (gI (cAt L (vAt e 6) 0)) (gI (cAt L (vAt e 6) 1)) (gRF L (cAt L (vAt e 5) 2)) ((gI (vAt e 10)), (gRF L (vAt e 8)), (gRF L (cAt L (vAt e 6) 2)))) fun x => .leaf (spec_l03Mirror_l4_X v152 v153 v154 (gI (vAt e 7)) (gI (vAt e 9)) (gI (cAt L (vAt e 5) 0)) (gI (cAt L (vAt e 5) 1)) (gI (cAt L (vAt e 6) 0)) (gI (cAt L (vAt e 6) 1)) (gRF L (cAt L (vAt e 5) 2)) x))
  | 2 => .need (normA 0 spec_l03Mirror_l2_kill e L = some (spec_l03Mirror_l2_E v152 v153 v154 (gI (vAt e 7)) (gI (cAt L (vAt e 5) 0)) (gI (cAt L (vAt e 5) 1)) (gI (cAt L (vAt e 6) 0)) (gI (cAt L (vAt e 6) 1)) (gRF L (cAt L (vAt e 5) 2)) ((gI (vAt e 9)), (gRF L (vAt e 8)), (gRF L (cAt L (vAt e 6) 2))))) (.call (spec_l03Mirror_l2_g v152 v153 v154 (gI (vAt e 7)) (gI (cAt L (vAt e 5) 0)) (gI (cAt L (vAt e 5) 1)) (gI (cAt L (vAt e 6) 0)) (gI (cAt L (vAt e 6) 1)) (gRF L (cAt L (vAt e 5) 2)) ((gI (vAt e 9)), (gRF L (vAt e 8)), (gRF L (cAt L (vAt e 6) 2)))) fun x => .leaf (spec_l03Mirror_l2_X v152 v153 v154 (gI (vAt e 7)) (gI (cAt L (vAt e 5) 0)) (gI (cAt L (vAt e 5) 1)) (gI (cAt L (vAt e 6) 0)) (gI (cAt L (vAt e 6) 1)) (gRF L (cAt L (vAt e 5) 2)) x))
  | 8 => .need (normA 0 spec_l03Mirror_l8_kill e L = some (spec_l03Mirror_l8_E v152 v153 v154 (gI (vAt e 7)) (gF (vAt e 14)) (gI (vAt e 113)) (gI (cAt L (vAt e 5) 0)) (gI (cAt L (vAt e 5) 1)) (gI (cAt L (vAt e 6) 0)) (gI (cAt L (vAt e 6) 1)) (gRF L (vAt e 8)) (gRF L (cAt L (vAt e 6) 2)) ((gI (vAt e 114)), (gRF L (cAt L (vAt e 5) 2))))) (.call (spec_l03Mirror_l8_g (gI (vAt e 7)) (gF (vAt e 14)) (gI (vAt e 113)) (gI (cAt L (vAt e 5) 0)) (gI (cAt L (vAt e 5) 1)) (gI (cAt L (vAt e 6) 0)) (gI (cAt L (vAt e 6) 1)) (gRF L (vAt e 8)) (gRF L (cAt L (vAt e 6) 2)) ((gI (vAt e 114)), (gRF L (cAt L (vAt e 5) 2)))) fun x => .leaf (spec_l03Mirror_l8_X v152 v153 v154 (gI (vAt e 7)) (gF (vAt e 14)) (gI (vAt e 113)) (gI (cAt L (vAt e 5) 0)) (gI (cAt L (vAt e 5) 1)) (gI (cAt L (vAt e 6) 0)) (gI (cAt L (vAt e 6) 1)) (gRF L (vAt e 8)) (gRF L (cAt L (vAt e 6) 2)) x))
  | 0 => .need (normA 0 spec_l03Mirror_l0_kill e L = some (spec_l03Mirror_l0_E v152 v153 v154 (gI (cAt L (vAt e 5) 0)) (gI (cAt L (vAt e 5) 1)) (gI (cAt L (vAt e 6) 0)) (gI (cAt L (vAt e 6) 1)) ((gI (vAt e 7)), (gRF L (cAt L (vAt e 5) 2)), (gRF L (cAt L (vAt e 6) 2))))) (.call (spec_l03Mirror_l0_g v152 v153 v154 (gI (cAt L (vAt e 5) 0)) (gI (cAt L (vAt e 5) 1)) (gI (cAt L (vAt e 6) 0)) (gI (cAt L (vAt e 6) 1)) ((gI (vAt e 7)), (gRF L (cAt L (vAt e 5) 2)), (gRF L (cAt L (vAt e 6) 2)))) fun x => .sum x (fun b0 => .leaf (spec_l03Mirror_l0_X v152 v153 v154 (gI (cAt L (vAt e 5) 0)) (gI (cAt L (vAt e 5) 1)) (gI (cAt L (vAt e 6) 0)) (gI (cAt L (vAt e 6) 1)) (.inl b0))) (fun c0 => .leaf (spec_l03Mirror_l0_X v152 v153 v154 (gI (cAt L (vAt e 5) 0)) (gI (cAt L (vAt e 5) 1)) (gI (cAt L (vAt e 6) 0)) (gI (cAt L (vAt e 6) 1)) (.inr c0))))
  | _ => .fail
noncomputable def spec_l03Mirror_tab : List (FuncId × DFn × Bool) := [(115, spec_l02Zero_F, true), (150, spec_l03Column_F, true), (133, spec_l02Dot_F, true), (116, spec_l02At_F, true), (104, spec_l01Sqrt_F, true), (103, spec_l02Is_F, true)]
theorem spec_l03Mirror_hO : OrcOk Try.prog (tabD spec_l03Mirror_tab) (tabM spec_l03Mirror_tab) := tabD_cons spec_l02Zero_Fok (tabD_cons spec_l03Column_Fok (tabD_cons spec_l02Dot_Fok (tabD_cons spec_l02At_Fok (tabD_cons spec_l01Sqrt_Fok (tabD_cons spec_l02Is_Fok (tabD_nil _))))))
theorem spec_l03Mirror_l6_be (v152 : Int) (v153 : Int) (v154 : List Nat) (v1826 : Int) (v1827 : Int) (v1828 : Int) (v1829 : Nat) (v1830 : Int) (v1832 : Int) (v1833 : Int) (v1834 : Int) (v1835 : Int) (v1837 : List Nat) (v1838 : List Nat) (v1839 : List Nat) (s : Int × (List Nat)) : bodyT TT (tabD spec_l03Mirror_tab) (tabM spec_l03Mirror_tab) (spec_l03Mirror_LO v152 v153 v154) 0 spec_l03Mirror_l6_kill spec_l03Mirror_l6_nx (bodyOf Try.f149 6) 6 (spec_l03Mirror_l6_E v152 v153 v154 v1826 v1827 v1828 v1829 v1830 v1832 v1833 v1834 v1835 v1837 v1838 v1839 s) = (spec_l03Mirror_l6_T v1826 v1827 v1828 v1829 v1830 v1832 v1833 v1834 v1835 v1837 v1838 v1839 s).bind fun y => .leaf (outS (spec_l03Mirror_l6_E v152 v153 v154 v1826 v1827 v1828 v1829 v1830 v1832 v1833 v1834 v1835 v1837 v1838 v1839) (spec_l03Mirror_l6_X v152 v153 v154 v1826 v1827 v1828 v1829 v1830 v1832 v1833 v1834 v1835 v1837 v1838 v1839) y) := by kernel_rfl
theorem spec_l03Mirror_l6_ok (v152 : Int) (v153 : Int) (v154 : List Nat) : LSound Try.prog 0 (spec_l03Mirror_LO v152 v153 v154) 6 (bodyOf Try.f149 6) := by
  intro e L out h
  exact lo_ok (E := spec_l03Mirror_l6_E v152 v153 v154 (gI (vAt e 7)) (gI (vAt e 9)) (gI (vAt e 10)) (gF (vAt e 12)) (gI (vAt e 74)) (gI (cAt L (vAt e 5) 0)) (gI (cAt L (vAt e 5) 1)) (gI (cAt L (vAt e 6) 0)) (gI (cAt L (vAt e 6) 1)) (gRF L (vAt e 11)) (gRF L (cAt L (vAt e 5) 2)) (gRF L (cAt L (vAt e 6) 2))) (gT := spec_l03Mirror_l6_T (gI (vAt e 7)) (gI (vAt e 9)) (gI (vAt e 10)) (gF (vAt e 12)) (gI (vAt e 74)) (gI (cAt L (vAt e 5) 0)) (gI (cAt L (vAt e 5) 1)) (gI (cAt L (vAt e 6) 0)) (gI (cAt L (vAt e 6) 1)) (gRF L (vAt e 11)) (gRF L (cAt L (vAt e 5) 2)) (gRF L (cAt L (vAt e 6) 2))) (X := spec_l03Mirror_l6_X v152 v153 v154 (gI (vAt e 7)) (gI (vAt e 9)) (gI (vAt e 10)) (gF (vAt e 12)) (gI (vAt e 74)) (gI (cAt L (vAt e 5) 0)) (gI (cAt L (vAt e 5) 1)) (gI (cAt L (vAt e 6) 0)) (gI (cAt L (vAt e 6) 1)) (gRF L (vAt e 11)) (gRF L (cAt L (vAt e 5) 2)) (gRF L (cAt L (vAt e 6) 2))) (s0 := ((gI (vAt e 75)), (gRF L (vAt e 8)))) tok spec_l03Mirror_hO mixed (LoopsOk_eq (l := []) (by kernel_rfl) trivial) (spec_l03Mirror_l6_be v152 v153 v154 (gI (vAt e 7)) (gI (vAt e 9)) (gI (vAt e 10)) (gF (vAt e 12)) (gI (vAt e 74)) (gI (cAt L (vAt e 5) 0)) (gI (cAt L (vAt e 5) 1)) (gI (cAt L (vAt e 6) 0)) (gI (cAt L (vAt e 6) 1)) (gRF L (vAt e 11)) (gRF L (cAt L (vAt e 5) 2)) (gRF L (cAt L (vAt e 6) 2))) rfl (by intro x; rfl) h
theorem spec_l03Mirror_l4_be (v152 : Int) (v153 : Int) (v154 : List Nat) (v1785 : Int) (v1786 : Int) (v1788 : Int) (v1789 : Int) (v1790 : Int) (v1791 : Int) (v1793 : List Nat) (s : Int × (List Nat) × (List Nat)) : bodyT TT (tabD spec_l03Mirror_tab) (tabM spec_l03Mirror_tab) (spec_l03Mirror_LO v152 v153 v154) 0 spec_l03Mirror_l4_kill spec_l03Mirror_l4_nx (bodyOf Try.f149 4) 4 (spec_l03Mirror_l4_E v152 v153 v154 v1785 v1786 v1788 v1789 v1790 v1791 v1793 s) = (spec_l03Mirror_l4_T v152 v153 v154 v1785 v1786 v1788 v1789 v1790 v1791 v1793 s).bind fun y => .leaf (outS (spec_l03Mirror_l4_E v152 v153 v154 v1785 v1786 v1788 v1789 v1790 v1791 v1793) (spec_l03Mirror_l4_X v152 v153 v154 v1785 v1786 v1788 v1789 v1790 v1791 v1793) y) := by kernel_rfl
theorem spec_l03Mirror_l4_ok (v152 : Int) (v153 : Int) (v154 : List Nat) : LSound Try.prog 0 (spec_l03Mirror_LO v152 v153 v154) 4 (bodyOf Try.f149 4) := by
  intro e L out h
  exact lo_ok (E := spec_l03Mirror_l4_E v152 v153 v154 (gI (vAt e 7)) (gI (vAt e 9)) (gI (cAt L (vAt e 5) 0)) (gI (cAt L (vAt e 5) 1)) (gI (cAt L (vAt e 6) 0)) (gI (cAt L (vAt e 6) 1)) (gRF L (cAt L (vAt e 5) 2))) (gT := spec_l03Mirror_l4_T v152 v153 v154 (gI (vAt e 7)) (gI (vAt e 9)) (gI (cAt L (vAt e 5) 0)) (gI (cAt L (vAt e 5) 1)) (gI (cAt L (vAt e 6) 0)) (gI (cAt L (vAt e 6) 1)) (gRF L (cAt L (vAt e 5) 2))) (X := spec_l03Mirror_l4_X v152 v153 v154 (gI (vAt e 7)) (gI (vAt e 9)) (gI (cAt L (vAt e 5) 0)) (gI (cAt L (vAt e 5) 1)) (gI (cAt L (vAt e 6) 0)) (gI (cAt L (vAt e 6) 1)) (gRF L (cAt L (vAt e 5) 2))) (s0 := ((gI (vAt e 10)), (gRF L (vAt e 8)), (gRF L (cAt L (vAt e 6) 2)))) tok spec_l03Mirror_hO mixed (LoopsOk_eq (l := [(6, bodyOf Try.f149 6)]) (by kernel_rfl) ⟨spec_l03Mirror_l6_ok v152 v153 v154, trivial⟩) (spec_l03Mirror_l4_be v152 v153 v154 (gI (vAt e 7)) (gI (vAt e 9)) (gI (cAt L (vAt e 5) 0)) (gI (cAt L (vAt e 5) 1)) (gI (cAt L (vAt e 6) 0)) (gI (cAt L (vAt e 6) 1)) (gRF L (cAt L (vAt e 5) 2))) rfl (by intro x; rfl) h
theorem spec_l03Mirror_l2_be (v152 : Int) (v153 : Int) (v154 : List Nat) (v1664 : Int) (v1666 : Int) (v1667 : Int) (v1668 : Int) (v1669 : Int) (v1671 : List Nat) (s : Int × (List Nat) × (List Nat)) : bodyT TT (tabD spec_l03Mirror_tab) (tabM spec_l03Mirror_tab) (spec_l03Mirror_LO v152 v153 v154) 0 spec_l03Mirror_l2_kill spec_l03Mirror_l2_nx (bodyOf Try.f149 2) 2 (spec_l03Mirror_l2_E v152 v153 v154 v1664 v1666 v1667 v1668 v1669 v1671 s) = (spec_l03Mirror_l2_T v152 v153 v154 v1664 v1666 v1667 v1668 v1669 v1671 s).bind fun y => .leaf (outS (spec_l03Mirror_l2_E v152 v153 v154 v1664 v1666 v1667 v1668 v1669 v1671) (spec_l03Mirror_l2_X v152 v153 v154 v1664 v1666 v1667 v1668 v1669 v1671) y) := by kernel_rfl
theorem spec_l03Mirror_l2_ok (v152 : Int) (v153 : Int) (v154 : List Nat) : LSound Try.prog 0 (spec_l03Mirror_LO v152 v153 v154) 2 (bodyOf Try.f149 2) := by
  intro e L out h
  exact lo_ok (E := spec_l03Mirror_l2_E v152 v153 v154 (gI (vAt e 7)) (gI (cAt L (vAt e 5) 0)) (gI (cAt L (vAt e 5) 1)) (gI (cAt L (vAt e 6) 0)) (gI (cAt L (vAt e 6) 1)) (gRF L (cAt L (vAt e 5) 2))) (gT := spec_l03Mirror_l2_T v152 v153 v154 (gI (vAt e 7)) (gI (cAt L (vAt e 5) 0)) (gI (cAt L (vAt e 5) 1)) (gI (cAt L (vAt e 6) 0)) (gI (cAt L (vAt e 6) 1)) (gRF L (cAt L (vAt e 5) 2))) (X := spec_l03Mirror_l2_X v152 v153 v154 (gI (vAt e 7)) (gI (cAt L (vAt e 5) 0)) (gI (cAt L (vAt e 5) 1)) (gI (cAt L (vAt e 6) 0)) (gI (cAt L (vAt e 6) 1)) (gRF L (cAt L (vAt e 5) 2))) (s0 := ((gI (vAt e 9)), (gRF L (vAt e 8)), (gRF L (cAt L (vAt e 6) 2)))) tok spec_l03Mirror_hO mixed (LoopsOk_eq (l := [(4, bodyOf Try.f149 4)]) (by kernel_rfl) ⟨spec_l03Mirror_l4_ok v152 v153 v154, trivial⟩) (spec_l03Mirror_l2_be v152 v153 v154 (gI (vAt e 7)) (gI (cAt L (vAt e 5) 0)) (gI (cAt L (vAt e 5) 1)) (gI (cAt L (vAt e 6) 0)) (gI (cAt L (vAt e 6) 1)) (gRF L (cAt L (vAt e 5) 2))) rfl (by intro x; rfl) h
theorem spec_l03Mirror_l8_be (v152 : Int) (v153 : Int) (v154 : List Nat) (v1867 : Int) (v1868 : Nat) (v1869 : Int) (v1871 : Int) (v1872 : Int) (v1873 : Int) (v1874 : Int) (v1875 : List Nat) (v1877 : List Nat) (s : Int × (List Nat)) : bodyT TT (tabD spec_l03Mirror_tab) (tabM spec_l03Mirror_tab) (spec_l03Mirror_LO v152 v153 v154) 0 spec_l03Mirror_l8_kill spec_l03Mirror_l8_nx (bodyOf Try.f149 8) 8 (spec_l03Mirror_l8_E v152 v153 v154 v1867 v1868 v1869 v1871 v1872 v1873 v1874 v1875 v1877 s) = (spec_l03Mirror_l8_T v1867 v1868 v1869 v1871 v1872 v1873 v1874 v1875 v1877 s).bind fun y => .leaf (outS (spec_l03Mirror_l8_E v152 v153 v154 v1867 v1868 v1869 v1871 v1872 v1873 v1874 v1875 v1877) (spec_l03Mirror_l8_X v152 v153 v154 v1867 v1868 v1869 v1871 v1872 v1873 v1874 v1875 v1877) y) := by kernel_rfl
theorem spec_l03Mirror_l8_ok (v152 : Int) (v153 : Int) (v154 : List Nat) : LSound Try.prog 0 (spec_l03Mirror_LO v152 v153 v154) 8 (bodyOf Try.f149 8) := by
  intro e L out h
  exact lo_ok (E := spec_l03Mirror_l8_E v152 v153 v154 (gI (vAt e 7)) (gF (vAt e 14)) (gI (vAt e 113)) (gI (cAt L (vAt e 5) 0)) (gI (cAt L (vAt e 5) 1)) (gI (cAt L (vAt e 6) 0)) (gI (cAt L (vAt e 6) 1)) (gRF L (vAt e 8)) (gRF L (cAt L (vAt e 6) 2))) (gT := spec_l03Mirror_l8_T (gI (vAt e 7)) (gF (vAt e 14)) (gI (vAt e 113)) (gI (cAt L (vAt e 5) 0)) (gI (cAt L (vAt e 5) 1)) (gI (cAt L (vAt e 6) 0)) (gI (cAt L (vAt e 6) 1)) (gRF L (vAt e 8)) (gRF L (cAt L (vAt e 6) 2))) (X := spec_l03Mirror_l8_X v152 v153 v154 (gI (vAt e 7)) (gF (vAt e 14)) (gI (vAt e 113)) (gI (cAt L (vAt e 5) 0)) (gI (cAt L (vAt e 5) 1)) (gI (cAt L (vAt e 6) 0)) (gI (cAt L (vAt e 6) 1)) (gRF L (vAt e 8)) (gRF L (cAt L (vAt e 6) 2))) (s0 := ((gI (vAt e 114)), (gRF L (cAt L (vAt e 5) 2)))) tok spec_l03Mirror_hO mixed (LoopsOk_eq (l := []) (by kernel_rfl) trivial) (spec_l03Mirror_l8_be v152 v153 v154 (gI (vAt e 7)) (gF (vAt e 14)) (gI (vAt e 113)) (gI (cAt L (vAt e 5) 0)) (gI (cAt L (vAt e 5) 1)) (gI (cAt L (vAt e 6) 0)) (gI (cAt L (vAt e 6) 1)) (gRF L (vAt e 8)) (gRF L (cAt L (vAt e 6) 2))) rfl (by intro x; rfl) h
theorem spec_l03Mirror_l0_be (v152 : Int) (v153 : Int) (v154 : List Nat) (v1301 : Int) (v1302 : Int) (v1303 : Int) (v1304 : Int) (s : Int × (List Nat) × (List Nat)) : bodyT TT (tabD spec_l03Mirror_tab) (tabM spec_l03Mirror_tab) (spec_l03Mirror_LO v152 v153 v154) 0 spec_l03Mirror_l0_kill spec_l03Mirror_l0_nx (bodyOf Try.f149 0) 0 (spec_l03Mirror_l0_E v152 v153 v154 v1301 v1302 v1303 v1304 s) = (spec_l03Mirror_l0_T v152 v153 v154 v1301 v1302 v1303 v1304 s).bind fun y => .leaf (outS (spec_l03Mirror_l0_E v152 v153 v154 v1301 v1302 v1303 v1304) (spec_l03Mirror_l0_X v152 v153 v154 v1301 v1302 v1303 v1304) y) := by kernel_rfl
theorem spec_l03Mirror_l0_ok (v152 : Int) (v153 : Int) (v154 : List Nat) : LSound Try.prog 0 (spec_l03Mirror_LO v152 v153 v154) 0 (bodyOf Try.f149 0) := by
  intro e L out h
  exact lo_ok (E := spec_l03Mirror_l0_E v152 v153 v154 (gI (cAt L (vAt e 5) 0)) (gI (cAt L (vAt e 5) 1)) (gI (cAt L (vAt e 6) 0)) (gI (cAt L (vAt e 6) 1))) (gT := spec_l03Mirror_l0_T v152 v153 v154 (gI (cAt L (vAt e 5) 0)) (gI (cAt L (vAt e 5) 1)) (gI (cAt L (vAt e 6) 0)) (gI (cAt L (vAt e 6) 1))) (X := spec_l03Mirror_l0_X v152 v153 v154 (gI (cAt L (vAt e 5) 0)) (gI (cAt L (vAt e 5) 1)) (gI (cAt L (vAt e 6) 0)) (gI (cAt L (vAt e 6) 1))) (s0 := ((gI (vAt e 7)), (gRF L (cAt L (vAt e 5) 2)), (gRF L (cAt L (vAt e 6) 2)))) tok spec_l03Mirror_hO mixed (LoopsOk_eq (l := [(2, bodyOf Try.f149 2), (8, bodyOf Try.f149 8)]) (by kernel_rfl) ⟨spec_l03Mirror_l2_ok v152 v153 v154, spec_l03Mirror_l8_ok v152 v153 v154, trivial⟩) (spec_l03Mirror_l0_be v152 v153 v154 (gI (cAt L (vAt e 5) 0)) (gI (cAt L (vAt e 5) 1)) (gI (cAt L (vAt e 6) 0)) (gI (cAt L (vAt e 6) 1))) rfl (by intro x; (cases x with | inl b => rfl | inr x => exact rfl)) h
noncomputable def spec_l03Mirror_T (v152 : Int) (v153 : Int) (v154 : List Nat) : Tree ((Unit) ⊕ ((Int × Int × Int × Int × Bool × (List Nat) × (List Nat)) ⊕ (Int × Int × Int × Int × (List Nat) × (List Nat)))) :=
  (.call (spec_l02Zero_g v152 v153) fun v157 =>
  (.call (spec_l02Zero_g v153 v153) fun v158 =>
  (.need (some (spec_l03Mirror_l0_E v152 v153 v154 v157.1 v157.2 v158.1 v158.2 ((0 : Int), List.replicate (Int.toNat (IntKind.i64.wrap (v152 * v153))) (0 : Nat), List.replicate (Int.toNat (IntKind.i64.wrap (v153 * v153))) (0 : Nat))) = some (spec_l03Mirror_l0_E v152 v153 v154 v157.1 v157.2 v158.1 v158.2 ((0 : Int), List.replicate (Int.toNat (IntKind.i64.wrap (v152 * v153))) (0 : Nat), List.replicate (Int.toNat (IntKind.i64.wrap (v153 * v153))) (0 : Nat)))) <|
  (.call (spec_l03Mirror_l0_g v152 v153 v154 v157.1 v157.2 v158.1 v158.2 ((0 : Int), List.replicate (Int.toNat (IntKind.i64.wrap (v152 * v153))) (0 : Nat), List.replicate (Int.toNat (IntKind.i64.wrap (v153 * v153))) (0 : Nat))) fun v1879 =>
  (.sum v1879 (fun v1880 =>
   .leaf (.inl ())
  ) (fun v1881 =>
   (.call (spec_l02Is_g v157.1 v157.2 v1881.1) fun v1882 =>
   (.br v1882 (
    (.call (spec_l02Is_g v158.1 v158.2 v1881.2) fun v1883 =>
    .leaf (.inr (.inl (v157.1, v157.2, v158.1, v158.2, v1883, v1881.1, v1881.2))))
   ) (
    .leaf (.inr (.inr (v157.1, v157.2, v158.1, v158.2, v1881.1, v1881.2)))
   )))
  ))))))

noncomputable def spec_l03Mirror_g (v152 : Int) (v153 : Int) (v154 : List Nat) : Option ((Unit) ⊕ ((Int × Int × Int × Int × Bool × (List Nat) × (List Nat)) ⊕ (Int × Int × Int × Int × (List Nat) × (List Nat)))) := (spec_l03Mirror_T v152 v153 v154).run
def spec_l03Mirror_enc (v152 : Int) (v153 : Int) (v154 : List Nat) (y : (Unit) ⊕ ((Int × Int × Int × Int × Bool × (List Nat) × (List Nat)) ⊕ (Int × Int × Int × Int × (List Nat) × (List Nat)))) : Rs := (match y with | .inl y => (.tup [.agg [.int .i64 (0 : Int), .int .i64 (0 : Int), .nilslc], .agg [.int .i64 (0 : Int), .int .i64 (0 : Int), .nilslc], .lit false], []) | .inr y => (match y with | .inl y => (.tup [.agg [.int .i64 y.1, .int .i64 y.2.1, .own 0 0 ((y.2.2.2.2.2.1).length)], .agg [.int .i64 y.2.2.1, .int .i64 y.2.2.2.1, .own 1 0 ((y.2.2.2.2.2.2).length)], .bool y.2.2.2.2.1], [.row (.f32 y.2.2.2.2.2.1) 0, .row (.f32 y.2.2.2.2.2.2) 0]) | .inr y => (.tup [.agg [.int .i64 y.1, .int .i64 y.2.1, .own 0 0 ((y.2.2.2.2.1).length)], .agg [.int .i64 y.2.2.1, .int .i64 y.2.2.2.1, .own 1 0 ((y.2.2.2.2.2).length)], .lit false], [.row (.f32 y.2.2.2.2.1) 0, .row (.f32 y.2.2.2.2.2) 0])))
theorem spec_l03Mirror_den (v152 : Int) (v153 : Int) (v154 : List Nat) : (den TT (tabD spec_l03Mirror_tab) (tabM spec_l03Mirror_tab) (spec_l03Mirror_LO v152 v153 v154) (codeOf Try.f149) ([.bptr (BR.root 0) [.int .i64 v152, .int .i64 v153, .bslc (BR.root 1) (.f32 v154)]] ++ List.replicate (Try.f149.ntmps - ([.bptr (BR.root 0) [.int .i64 v152, .int .i64 v153, .bslc (BR.root 1) (.f32 v154)]] : List DV).length) .undef) []).bind (retD TT Try.f149.results.toList 0) = (spec_l03Mirror_T v152 v153 v154).bind fun y => .leaf (spec_l03Mirror_enc v152 v153 v154 y) := by kernel_rfl
theorem spec_l03Mirror_fn (v152 : Int) (v153 : Int) (v154 : List Nat) (F : Fr) (hm : F.ids.length = 0) (h0 : St F [] F.H0) (hA : DVs.Ok F [] [.bptr (BR.root 0) [.int .i64 v152, .int .i64 v153, .bslc (BR.root 1) (.f32 v154)]]) {y : (Unit) ⊕ ((Int × Int × Int × Int × Bool × (List Nat) × (List Nat)) ⊕ (Int × Int × Int × Int × (List Nat) × (List Nat)))} (hy : spec_l03Mirror_g v152 v153 v154 = some y) : ∃ H', FnOk Try.prog 149 (DVs.av F [.bptr (BR.root 0) [.int .i64 v152, .int .i64 v153, .bslc (BR.root 1) (.f32 v154)]]) F.H0 ((spec_l03Mirror_enc v152 v153 v154 y).1.av F) H' ∧ St F (spec_l03Mirror_enc v152 v153 v154 y).2 H' ∧ (spec_l03Mirror_enc v152 v153 v154 y).1.Ok F (spec_l03Mirror_enc v152 v153 v154 y).2 :=
  fn_fin tok spec_l03Mirror_hO mixed Try.func149 Try.call149 (by kernel_rfl) (LoopsOk_eq (l := [(0, bodyOf Try.f149 0)]) (by kernel_rfl) ⟨spec_l03Mirror_l0_ok v152 v153 v154, trivial⟩) (spec_l03Mirror_den v152 v153 v154) hy hm h0 hA
noncomputable def spec_l03Mirror_F : DFn := fun args L =>
  match args with
  | [a1] =>
    optT (cellsOf L 3 a1) fun cs0 =>
    (match cs0 with
    | [.int .i64 v152, .int .i64 v153, a2] =>
    optT (rowF32 L a2) fun v154 =>
    .call (spec_l03Mirror_g v152 v153 v154) fun y => .sum y (fun y0 => .leaf (.tup [.agg [.int .i64 (0 : Int), .int .i64 (0 : Int), .nilslc], .agg [.int .i64 (0 : Int), .int .i64 (0 : Int), .nilslc], .lit false], L)) (fun z0 => .sum z0 (fun y1 => .leaf (.tup [.agg [.int .i64 y1.1, .int .i64 y1.2.1, .own (L.length + 0) 0 ((y1.2.2.2.2.2.1).length)], .agg [.int .i64 y1.2.2.1, .int .i64 y1.2.2.2.1, .own (L.length + 1) 0 ((y1.2.2.2.2.2.2).length)], .bool y1.2.2.2.2.1], L ++ [.row (.f32 y1.2.2.2.2.2.1) 0, .row (.f32 y1.2.2.2.2.2.2) 0])) (fun z1 => .leaf (.tup [.agg [.int .i64 z1.1, .int .i64 z1.2.1, .own (L.length + 0) 0 ((z1.2.2.2.2.1).length)], .agg [.int .i64 z1.2.2.1, .int .i64 z1.2.2.2.1, .own (L.length + 1) 0 ((z1.2.2.2.2.2).length)], .lit false], L ++ [.row (.f32 z1.2.2.2.2.1) 0, .row (.f32 z1.2.2.2.2.2) 0])))
    | _ => .fail)
  | _ => .fail
theorem spec_l03Mirror_Fok : COk Try.prog 149 spec_l03Mirror_F true := by
  intro F L H args r L' hs ha hr
  unfold spec_l03Mirror_F at hr
  split at hr
  · rename_i a1
    obtain ⟨cs0, hcp0, hr⟩ := optT_run hr
    split at hr
    · rename_i v152 v153 a2
      obtain ⟨v154, hv154, hr⟩ := optT_run hr
      simp only [Tree.run] at hr
      obtain ⟨y, hy, hr⟩ := Option.bind_eq_some_iff.1 hr
      cases y with
      | inl y =>
        simp only [Tree.run, Option.some.injEq, Prod.mk.injEq] at hr
        obtain ⟨rfl, rfl⟩ := hr
        exact call_ok0 hs (fun k => (([a1.av F, a2.av F] : List AV)[k]?).getD .top) [a1] [.bptr (BR.root 0) [.int .i64 v152, .int .i64 v153, .bslc (BR.root 1) (.f32 v154)]] (fun F' h0 hi hρ => ⟨by simp [DVs.av, DV.av, BR.av, hρ], spec_l03Mirror_fn v152 v153 v154 F' (by rw [hi]; rfl) (st_nil hi) ⟨bptr_ok hi (by rw [h0]; simpa [DVs.av, DV.av, BR.av, hρ] using (cellsOf_ok hs (DVs.okAt ha 0 rfl) hcp0).1) ⟨trivial, trivial, bslc_ok hi (by rw [h0, hρ]; exact rowF32_ok hs (DVs.okAt (cellsOf_ok hs (DVs.okAt ha 0 rfl) hcp0).2 2 rfl) hv154), trivial⟩, trivial⟩ hy⟩) rfl
      | inr y =>
        cases y with
        | inl y =>
          simp only [Tree.run, Option.some.injEq, Prod.mk.injEq] at hr
          obtain ⟨rfl, rfl⟩ := hr
          exact call_ok1 hs (fun k => (([a1.av F, a2.av F] : List AV)[k]?).getD .top) [a1] [.bptr (BR.root 0) [.int .i64 v152, .int .i64 v153, .bslc (BR.root 1) (.f32 v154)]] (fun F' h0 hi hρ => ⟨by simp [DVs.av, DV.av, BR.av, hρ], spec_l03Mirror_fn v152 v153 v154 F' (by rw [hi]; rfl) (st_nil hi) ⟨bptr_ok hi (by rw [h0]; simpa [DVs.av, DV.av, BR.av, hρ] using (cellsOf_ok hs (DVs.okAt ha 0 rfl) hcp0).1) ⟨trivial, trivial, bslc_ok hi (by rw [h0, hρ]; exact rowF32_ok hs (DVs.okAt (cellsOf_ok hs (DVs.okAt ha 0 rfl) hcp0).2 2 rfl) hv154), trivial⟩, trivial⟩ hy⟩) rfl rfl
        | inr y =>
          simp only [Tree.run, Option.some.injEq, Prod.mk.injEq] at hr
          obtain ⟨rfl, rfl⟩ := hr
          exact call_ok1 hs (fun k => (([a1.av F, a2.av F] : List AV)[k]?).getD .top) [a1] [.bptr (BR.root 0) [.int .i64 v152, .int .i64 v153, .bslc (BR.root 1) (.f32 v154)]] (fun F' h0 hi hρ => ⟨by simp [DVs.av, DV.av, BR.av, hρ], spec_l03Mirror_fn v152 v153 v154 F' (by rw [hi]; rfl) (st_nil hi) ⟨bptr_ok hi (by rw [h0]; simpa [DVs.av, DV.av, BR.av, hρ] using (cellsOf_ok hs (DVs.okAt ha 0 rfl) hcp0).1) ⟨trivial, trivial, bslc_ok hi (by rw [h0, hρ]; exact rowF32_ok hs (DVs.okAt (cellsOf_ok hs (DVs.okAt ha 0 rfl) hcp0).2 2 rfl) hv154), trivial⟩, trivial⟩ hy⟩) rfl rfl
    · cases hr
  · cases hr
/-! spec.l02List -/
noncomputable def spec_l02List_LO (v1983 : List Nat) : LOr := fun id e L =>
  match id with
  | _ => .fail
noncomputable def spec_l02List_tab : List (FuncId × DFn × Bool) := [(38, spec_l02Finite_F, true)]
theorem spec_l02List_hO : OrcOk Try.prog (tabD spec_l02List_tab) (tabM spec_l02List_tab) := tabD_cons spec_l02Finite_Fok (tabD_nil _)
noncomputable def spec_l02List_T (v1983 : List Nat) : Tree ((Unit) ⊕ (Unit)) :=
  (.call (spec_l02Finite_g v1983) fun v1984 =>
  (.br (!v1984) (
   .leaf (.inl ())
  ) (
   .leaf (.inr ())
  )))

noncomputable def spec_l02List_g (v1983 : List Nat) : Option ((Unit) ⊕ (Unit)) := (spec_l02List_T v1983).run
def spec_l02List_enc (v1983 : List Nat) (y : (Unit) ⊕ (Unit)) : Rs := (match y with | .inl y => (.tup [.nilslc, .lit false], []) | .inr y => (.tup [.bslc (BR.root 0) (.f32 v1983), .lit true], []))
theorem spec_l02List_den (v1983 : List Nat) : (den TT (tabD spec_l02List_tab) (tabM spec_l02List_tab) (spec_l02List_LO v1983) (codeOf Try.f131) ([.bslc (BR.root 0) (.f32 v1983)] ++ List.replicate (Try.f131.ntmps - ([.bslc (BR.root 0) (.f32 v1983)] : List DV).length) .undef) []).bind (retD TT Try.f131.results.toList 0) = (spec_l02List_T v1983).bind fun y => .leaf (spec_l02List_enc v1983 y) := by kernel_rfl
theorem spec_l02List_fn (v1983 : List Nat) (F : Fr) (hm : F.ids.length = 0) (h0 : St F [] F.H0) (hA : DVs.Ok F [] [.bslc (BR.root 0) (.f32 v1983)]) {y : (Unit) ⊕ (Unit)} (hy : spec_l02List_g v1983 = some y) : ∃ H', FnOk Try.prog 131 (DVs.av F [.bslc (BR.root 0) (.f32 v1983)]) F.H0 ((spec_l02List_enc v1983 y).1.av F) H' ∧ St F (spec_l02List_enc v1983 y).2 H' ∧ (spec_l02List_enc v1983 y).1.Ok F (spec_l02List_enc v1983 y).2 :=
  fn_fin tok spec_l02List_hO mixed Try.func131 Try.call131 (by kernel_rfl) (LoopsOk_eq (l := []) (by kernel_rfl) trivial) (spec_l02List_den v1983) hy hm h0 hA
noncomputable def spec_l02List_F : DFn := fun args L =>
  match args with
  | [a1] =>
    optT (rowF32 L a1) fun v1983 =>
    .call (spec_l02List_g v1983) fun y => .sum y (fun y0 => .leaf (.tup [.nilslc, .lit false], L)) (fun z0 => .leaf (.tup [a1, .lit true], L))
  | _ => .fail
theorem spec_l02List_Fok : COk Try.prog 131 spec_l02List_F true := by
  intro F L H args r L' hs ha hr
  unfold spec_l02List_F at hr
  split at hr
  · rename_i a1
    obtain ⟨v1983, hv1983, hr⟩ := optT_run hr
    simp only [Tree.run] at hr
    obtain ⟨y, hy, hr⟩ := Option.bind_eq_some_iff.1 hr
    cases y with
    | inl y =>
      simp only [Tree.run, Option.some.injEq, Prod.mk.injEq] at hr
      obtain ⟨rfl, rfl⟩ := hr
      exact call_ok0 hs (fun k => (([a1.av F] : List AV)[k]?).getD .top) [a1] [.bslc (BR.root 0) (.f32 v1983)] (fun F' h0 hi hρ => ⟨by simp [DVs.av, DV.av, BR.av, hρ], spec_l02List_fn v1983 F' (by rw [hi]; rfl) (st_nil hi) ⟨bslc_ok hi (by rw [h0, hρ]; exact rowF32_ok hs (DVs.okAt ha 0 rfl) hv1983), trivial⟩ hy⟩) rfl
    | inr y =>
      simp only [Tree.run, Option.some.injEq, Prod.mk.injEq] at hr
      obtain ⟨rfl, rfl⟩ := hr
      exact call_al0 hs (fun k => (([a1.av F] : List AV)[k]?).getD .top) [a1] [.bslc (BR.root 0) (.f32 v1983)] (fun F' h0 hi hρ => ⟨by simp [DVs.av, DV.av, BR.av, hρ], spec_l02List_fn v1983 F' (by rw [hi]; rfl) (st_nil hi) ⟨bslc_ok hi (by rw [h0, hρ]; exact rowF32_ok hs (DVs.okAt ha 0 rfl) hv1983), trivial⟩ hy⟩) (fun F' h0 hi hρ => by simp [spec_l02List_enc, DVs.av, DV.av, BR.av, hρ]) ⟨(DVs.okAt ha 0 rfl), trivial, trivial⟩
  · cases hr
/-! spec.l03UpperSolve -/
noncomputable def spec_l03UpperSolve_l2_T (v1920 : Int) (v1921 : Int) (v1922 : List Nat) (v1973 : Int) (v1976 : List Nat) (s : Nat × Int) : Tree ((Nat × Int) ⊕ (Nat)) :=
  (.br (decide (s.2 < v1920)) (
   (.call (spec_l02At_g v1921 v1922 v1973 s.2) fun v1977 =>
   (.grd (inb s.2 ((v1976).length)) <|
   .leaf (.inl (fsub .f32 s.1 (fmul .f32 v1977 (nth v1976 (Int.toNat s.2))), IntKind.i64.wrap (s.2 + (1 : Int))))))
  ) (
   .leaf (.inr s.1)
  ))

noncomputable def spec_l03UpperSolve_l2_g (v1920 : Int) (v1921 : Int) (v1922 : List Nat) (v1973 : Int) (v1976 : List Nat) (s0 : Nat × Int) : Option (Nat) := whileM (fun s => (spec_l03UpperSolve_l2_T v1920 v1921 v1922 v1973 v1976 s).run) s0
def spec_l03UpperSolve_l2_E (v1920 : Int) (v1921 : Int) (v1922 : List Nat) (v1923 : List Nat) (v1973 : Int) (v1976 : List Nat) (s : Nat × Int) : Sd := ([.bptr (BR.root 0) [.int .i64 v1920, .int .i64 v1921, .bslc (BR.root 1) (.f32 v1922)], .bslc (BR.root 2) (.f32 v1923), .top, .top, .top, .top, .int .i64 v1920, .own 0 0 ((v1976).length), .int .i64 v1973, .flt .f32 s.1, .int .i64 s.2, .top, .top, .top, .top, .top, .top, .top, .top, .top, .top, .top, .top, .top, .top, .top, .top, .top, .top, .top, .top, .top, .top, .top, .top, .top, .top, .top, .top, .top, .top, .top, .top, .top, .top, .top, .top, .top, .top, .top, .top, .top, .top, .top, .top, .top, .top, .top, .top, .top, .top, .top, .top, .top], [.row (.f32 v1976) 0])
def spec_l03UpperSolve_l2_X (v1920 : Int) (v1921 : Int) (v1922 : List Nat) (v1923 : List Nat) (v1973 : Int) (v1976 : List Nat) (x : Nat) : Out := (.normal, [.bptr (BR.root 0) [.int .i64 v1920, .int .i64 v1921, .bslc (BR.root 1) (.f32 v1922)], .bslc (BR.root 2) (.f32 v1923), .top, .top, .top, .top, .int .i64 v1920, .own 0 0 ((v1976).length), .int .i64 v1973, .flt .f32 x, .top, .top, .top, .top, .top, .top, .top, .top, .top, .top, .top, .top, .top, .top, .top, .top, .top, .top, .top, .top, .top, .top, .top, .top, .top, .top, .top, .top, .top, .top, .top, .top, .top, .top, .top, .top, .top, .top, .top, .top, .top, .top, .top, .top, .top, .top, .top, .top, .top, .top, .top, .top, .top, .top], [.row (.f32 v1976) 0])
def spec_l03UpperSolve_l2_kill : List Nat := [0, 0, 1, 1, 1, 1, 0, 0, 0, 0, 0, 1, 1, 1, 1, 1, 1, 1, 1, 1, 1, 1, 1, 1, 1, 1, 1, 1, 1, 1, 1, 1, 1, 1, 1, 1, 1, 1, 1, 1, 1, 1, 1, 1, 1, 1, 1, 1, 1, 1, 1, 1, 1, 1, 1, 1, 1, 1, 1, 1, 1, 1, 1, 1]
def spec_l03UpperSolve_l2_nx : Exit → List Nat
  | .exit 0 => [1, 1, 1, 1, 1, 1, 1, 0, 1, 1, 1, 1, 1, 1, 1, 1, 1, 1, 1, 1, 1, 1, 1, 1, 1, 1, 1, 1, 1, 1, 1, 1, 1, 1, 1, 1, 1, 1, 1, 1, 1, 1, 1, 1, 1, 1, 1, 1, 1, 1, 1, 1, 1, 1, 1, 1, 1, 1, 1, 1, 1, 1, 1, 1]
  | .exit 1 => [0, 0, 1, 1, 1, 1, 0, 0, 0, 1, 1, 1, 1, 1, 1, 1, 1, 1, 1, 1, 1, 1, 1, 1, 1, 1, 1, 1, 1, 1, 1, 1, 1, 1, 1, 1, 1, 1, 1, 1, 1, 1, 1, 1, 1, 1, 1, 1, 1, 1, 1, 1, 1, 1, 1, 1, 1, 1, 1, 1, 1, 1, 1, 1]
  | .exit 2 => [0, 0, 1, 1, 1, 1, 0, 0, 0, 0, 1, 1, 1, 1, 1, 1, 1, 1, 1, 1, 1, 1, 1, 1, 1, 1, 1, 1, 1, 1, 1, 1, 1, 1, 1, 1, 1, 1, 1, 1, 1, 1, 1, 1, 1, 1, 1, 1, 1, 1, 1, 1, 1, 1, 1, 1, 1, 1, 1, 1, 1, 1, 1, 1]
  | .ret => [1, 1, 1, 1, 0, 0, 1, 1, 1, 1, 1, 1, 1, 1, 1, 1, 1, 1, 1, 1, 1, 1, 1, 1, 1, 1, 1, 1, 1, 1, 1, 1, 1, 1, 1, 1, 1, 1, 1, 1, 1, 1, 1, 1, 1, 1, 1, 1, 1, 1, 1, 1, 1, 1, 1, 1, 1, 1, 1, 1, 1, 1, 1, 1]
  | _ => []
noncomputable def spec_l03UpperSolve_l0_T (v1920 : Int) (v1921 : Int) (v1922 : List Nat) (v1923 : List Nat) (s : Int × (List Nat)) : Tree ((Int × (List Nat)) ⊕ ((Unit) ⊕ ((List Nat)))) :=
  (.br (decide ((0 : Int) ≤ s.1)) (
   (.call (spec_l02At_g v1921 v1922 s.1 s.1) fun v1962 =>
   (.br (feq .f32 v1962 (0 : Nat)) (
    .leaf (.inr (.inl ()))
   ) (
    (.grd (inb s.1 v1923.length) <|
    (.need (some (spec_l03UpperSolve_l2_E v1920 v1921 v1922 v1923 s.1 s.2 (nth v1923 (Int.toNat s.1), IntKind.i64.wrap (s.1 + (1 : Int)))) = some (spec_l03UpperSolve_l2_E v1920 v1921 v1922 v1923 s.1 s.2 (nth v1923 (Int.toNat s.1), IntKind.i64.wrap (s.1 + (1 : Int))))) <|
    (.call (spec_l03UpperSolve_l2_g v1920 v1921 v1922 s.1 s.2 (nth v1923 (Int.toNat s.1), IntKind.i64.wrap (s.1 + (1 : Int)))) fun v1978 =>
    (.call (spec_l02At_g v1921 v1922 s.1 s.1) fun v1979 =>
    (.grd (inb s.1 ((s.2).length)) <|
    .leaf (.inl (IntKind.i64.wrap (s.1 - (1 : Int)), List.set s.2 (Int.toNat s.1) (fdiv .f32 v1978 v1979))))))))
   )))
  ) (
   .leaf (.inr (.inr s.2))
  ))

noncomputable def spec_l03UpperSolve_l0_g (v1920 : Int) (v1921 : Int) (v1922 : List Nat) (v1923 : List Nat) (s0 : Int × (List Nat)) : Option ((Unit) ⊕ ((List Nat))) := whileM (fun s => (spec_l03UpperSolve_l0_T v1920 v1921 v1922 v1923 s).run) s0
def spec_l03UpperSolve_l0_E (v1920 : Int) (v1921 : Int) (v1922 : List Nat) (v1923 : List Nat) (s : Int × (List Nat)) : Sd := ([.bptr (BR.root 0) [.int .i64 v1920, .int .i64 v1921, .bslc (BR.root 1) (.f32 v1922)], .bslc (BR.root 2) (.f32 v1923), .top, .top, .top, .top, .int .i64 v1920, .own 0 0 ((s.2).length), .int .i64 s.1, .top, .top, .top, .top, .top, .top, .top, .top, .top, .top, .top, .top, .top, .top, .top, .top, .top, .top, .top, .top, .top, .top, .top, .top, .top, .top, .top, .top, .top, .top, .top, .top, .top, .top, .top, .top, .top, .top, .top, .top, .top, .top, .top, .top, .top, .top, .top, .top, .top, .top, .top, .top, .top, .top, .top], [.row (.f32 s.2) 0])
def spec_l03UpperSolve_l0_X (v1920 : Int) (v1921 : Int) (v1922 : List Nat) (v1923 : List Nat) (x : (Unit) ⊕ ((List Nat))) : Out := (match x with | .inl x => (.ret, [.top, .top, .top, .top, .nilslc, .lit false, .top, .top, .top, .top, .top, .top, .top, .top, .top, .top, .top, .top, .top, .top, .top, .top, .top, .top, .top, .top, .top, .top, .top, .top, .top, .top, .top, .top, .top, .top, .top, .top, .top, .top, .top, .top, .top, .top, .top, .top, .top, .top, .top, .top, .top, .top, .top, .top, .top, .top, .top, .top, .top, .top, .top, .top, .top, .top], []) | .inr x => (.normal, [.top, .top, .top, .top, .top, .top, .top, .own 0 0 ((x).length), .top, .top, .top, .top, .top, .top, .top, .top, .top, .top, .top, .top, .top, .top, .top, .top, .top, .top, .top, .top, .top, .top, .top, .top, .top, .top, .top, .top, .top, .top, .top, .top, .top, .top, .top, .top, .top, .top, .top, .top, .top, .top, .top, .top, .top, .top, .top, .top, .top, .top, .top, .top, .top, .top, .top, .top], [.row (.f32 x) 0]))
def spec_l03UpperSolve_l0_kill : List Nat := [0, 0, 1, 1, 1, 1, 0, 0, 0, 1, 1, 1, 1, 1, 1, 1, 1, 1, 1, 1, 1, 1, 1, 1, 1, 1, 1, 1, 1, 1, 1, 1, 1, 1, 1, 1, 1, 1, 1, 1, 1, 1, 1, 1, 1, 1, 1, 1, 1, 1, 1, 1, 1, 1, 1, 1, 1, 1, 1, 1, 1, 1, 1, 1]
def spec_l03UpperSolve_l0_nx : Exit → List Nat
  | .exit 0 => [1, 1, 1, 1, 1, 1, 1, 0, 1, 1, 1, 1, 1, 1, 1, 1, 1, 1, 1, 1, 1, 1, 1, 1, 1, 1, 1, 1, 1, 1, 1, 1, 1, 1, 1, 1, 1, 1, 1, 1, 1, 1, 1, 1, 1, 1, 1, 1, 1, 1, 1, 1, 1, 1, 1, 1, 1, 1, 1, 1, 1, 1, 1, 1]
  | .ret => [1, 1, 1, 1, 0, 0, 1, 1, 1, 1, 1, 1, 1, 1, 1, 1, 1, 1, 1, 1, 1, 1, 1, 1, 1, 1, 1, 1, 1, 1, 1, 1, 1, 1, 1, 1, 1, 1, 1, 1, 1, 1, 1, 1, 1, 1, 1, 1, 1, 1, 1, 1, 1, 1, 1, 1, 1, 1, 1, 1, 1, 1, 1, 1]
  | _ => []
noncomputable def spec_l03UpperSolve_LO (v1920 : Int) (v1921 : Int) (v1922 : List Nat) (v1923 : List Nat) : LOr := fun id e L =>
  match id with
  | 2 => .need (normA 0 spec_l03UpperSolve_l2_kill e L = some (spec_l03UpperSolve_l2_E v1920 v1921 v1922 v1923 (gI (vAt e 8)) (gRF L (vAt e 7)) ((gF (vAt e 9)), (gI (vAt e 10))))) (.call (spec_l03UpperSolve_l2_g v1920 v1921 v1922 (gI (vAt e 8)) (gRF L (vAt e 7)) ((gF (vAt e 9)), (gI (vAt e 10)))) fun x => .leaf (spec_l03UpperSolve_l2_X v1920 v1921 v1922 v1923 (gI (vAt e 8)) (gRF L (vAt e 7)) x))
  | 0 => .need (normA 0 spec_l03UpperSolve_l0_kill e L = some (spec_l03UpperSolve_l0_E v1920 v1921 v1922 v1923 ((gI (vAt e 8)), (gRF L (vAt e 7))))) (.call (spec_l03UpperSolve_l0_g v1920 v1921 v1922 v1923 ((gI (vAt e 8)), (gRF L (vAt e 7)))) fun x => .sum x (fun b0 => .leaf (spec_l03UpperSolve_l0_X v1920 v1921 v1922 v1923 (.inl b0))) (fun c0 => .leaf (spec_l03UpperSolve_l0_X v1920 v1921 v1922 v1923 (.inr c0))))
  | _ => .fail
noncomputable def spec_l03UpperSolve_tab : List (FuncId × DFn × Bool) := [(116, spec_l02At_F, true), (131, spec_l02List_F, true)]
theorem spec_l03UpperSolve_hO : OrcOk Try.prog (tabD spec_l03UpperSolve_tab) (tabM spec_l03UpperSolve_tab) := tabD_cons spec_l02At_Fok (tabD_cons spec_l02List_Fok (tabD_nil _))
theorem spec_l03UpperSolve_l2_be (v1920 : Int) (v1921 : Int) (v1922 : List Nat) (v1923 : List Nat) (v1973 : Int) (v1976 : List Nat) (s : Nat × Int) : bodyT TT (tabD spec_l03UpperSolve_tab) (tabM spec_l03UpperSolve_tab) (spec_l03UpperSolve_LO v1920 v1921 v1922 v1923) 0 spec_l03UpperSolve_l2_kill spec_l03UpperSolve_l2_nx (bodyOf Try.f151 2) 2 (spec_l03UpperSolve_l2_E v1920 v1921 v1922 v1923 v1973 v1976 s) = (spec_l03UpperSolve_l2_T v1920 v1921 v1922 v1973 v1976 s).bind fun y => .leaf (outS (spec_l03UpperSolve_l2_E v1920 v1921 v1922 v1923 v1973 v1976) (spec_l03UpperSolve_l2_X v1920 v1921 v1922 v1923 v1973 v1976) y) := by kernel_rfl
theorem spec_l03UpperSolve_l2_ok (v1920 : Int) (v1921 : Int) (v1922 : List Nat) (v1923 : List Nat) : LSound Try.prog 0 (spec_l03UpperSolve_LO v1920 v1921 v1922 v1923) 2 (bodyOf Try.f151 2) := by
  intro e L out h
  exact lo_ok (E := spec_l03UpperSolve_l2_E v1920 v1921 v1922 v1923 (gI (vAt e 8)) (gRF L (vAt e 7))) (gT := spec_l03UpperSolve_l2_T v1920 v1921 v1922 (gI (vAt e 8)) (gRF L (vAt e 7))) (X := spec_l03UpperSolve_l2_X v1920 v1921 v1922 v1923 (gI (vAt e 8)) (gRF L (vAt e 7))) (s0 := ((gF (vAt e 9)), (gI (vAt e 10)))) tok spec_l03UpperSolve_hO mixed (LoopsOk_eq (l := []) (by kernel_rfl) trivial) (spec_l03UpperSolve_l2_be v1920 v1921 v1922 v1923 (gI (vAt e 8)) (gRF L (vAt e 7))) rfl (by intro x; rfl) h
theorem spec_l03UpperSolve_l0_be (v1920 : Int) (v1921 : Int) (v1922 : List Nat) (v1923 : List Nat) (s : Int × (List Nat)) : bodyT TT (tabD spec_l03UpperSolve_tab) (tabM spec_l03UpperSolve_tab) (spec_l03UpperSolve_LO v1920 v1921 v1922 v1923) 0 spec_l03UpperSolve_l0_kill spec_l03UpperSolve_l0_nx (bodyOf Try.f151 0) 0 (spec_l03UpperSolve_l0_E v1920 v1921 v1922 v1923 s) = (spec_l03UpperSolve_l0_T v1920 v1921 v1922 v1923 s).bind fun y => .leaf (outS (spec_l03UpperSolve_l0_E v1920 v1921 v1922 v1923) (spec_l03UpperSolve_l0_X v1920 v1921 v1922 v1923) y) := by kernel_rfl
theorem spec_l03UpperSolve_l0_ok (v1920 : Int) (v1921 : Int) (v1922 : List Nat) (v1923 : List Nat) : LSound Try.prog 0 (spec_l03UpperSolve_LO v1920 v1921 v1922 v1923) 0 (bodyOf Try.f151 0) := by
  intro e L out h
  exact lo_ok (E := spec_l03UpperSolve_l0_E v1920 v1921 v1922 v1923) (gT := spec_l03UpperSolve_l0_T v1920 v1921 v1922 v1923) (X := spec_l03UpperSolve_l0_X v1920 v1921 v1922 v1923) (s0 := ((gI (vAt e 8)), (gRF L (vAt e 7)))) tok spec_l03UpperSolve_hO mixed (LoopsOk_eq (l := [(2, bodyOf Try.f151 2)]) (by kernel_rfl) ⟨spec_l03UpperSolve_l2_ok v1920 v1921 v1922 v1923, trivial⟩) (spec_l03UpperSolve_l0_be v1920 v1921 v1922 v1923) rfl (by intro x; (cases x with | inl b => rfl | inr x => exact rfl)) h
noncomputable def spec_l03UpperSolve_T (v1920 : Int) (v1921 : Int) (v1922 : List Nat) (v1923 : List Nat) : Tree ((Unit) ⊕ ((List Nat))) :=
  (.grd (fits (([] : List Nat) ++ v1923).length) <|
  (.need (some (spec_l03UpperSolve_l0_E v1920 v1921 v1922 v1923 (IntKind.i64.wrap (v1920 - (1 : Int)), ([] : List Nat) ++ v1923)) = some (spec_l03UpperSolve_l0_E v1920 v1921 v1922 v1923 (IntKind.i64.wrap (v1920 - (1 : Int)), ([] : List Nat) ++ v1923))) <|
  (.call (spec_l03UpperSolve_l0_g v1920 v1921 v1922 v1923 (IntKind.i64.wrap (v1920 - (1 : Int)), ([] : List Nat) ++ v1923)) fun v1980 =>
  (.sum v1980 (fun v1981 =>
   .leaf (.inl ())
  ) (fun v1982 =>
   (.call (spec_l02List_g v1982) fun v1985 =>
   (.sum v1985 (fun v1986 =>
    .leaf (.inl ())
   ) (fun v1987 =>
    .leaf (.inr v1982)
   )))
  )))))

noncomputable def spec_l03UpperSolve_g (v1920 : Int) (v1921 : Int) (v1922 : List Nat) (v1923 : List Nat) : Option ((Unit) ⊕ ((List Nat))) := (spec_l03UpperSolve_T v1920 v1921 v1922 v1923).run
def spec_l03UpperSolve_enc (v1920 : Int) (v1921 : Int) (v1922 : List Nat) (v1923 : List Nat) (y : (Unit) ⊕ ((List Nat))) : Rs := (match y with | .inl y => (.tup [.nilslc, .lit false], []) | .inr y => (.tup [.own 0 0 ((y).length), .lit true], [.row (.f32 y) 0]))
theorem spec_l03UpperSolve_den (v1920 : Int) (v1921 : Int) (v1922 : List Nat) (v1923 : List Nat) : (den TT (tabD spec_l03UpperSolve_tab) (tabM spec_l03UpperSolve_tab) (spec_l03UpperSolve_LO v1920 v1921 v1922 v1923) (codeOf Try.f151) ([.bptr (BR.root 0) [.int .i64 v1920, .int .i64 v1921, .bslc (BR.root 1) (.f32 v1922)], .bslc (BR.root 2) (.f32 v1923)] ++ List.replicate (Try.f151.ntmps - ([.bptr (BR.root 0) [.int .i64 v1920, .int .i64 v1921, .bslc (BR.root 1) (.f32 v1922)], .bslc (BR.root 2) (.f32 v1923)] : List DV).length) .undef) []).bind (retD TT Try.f151.results.toList 0) = (spec_l03UpperSolve_T v1920 v1921 v1922 v1923).bind fun y => .leaf (spec_l03UpperSolve_enc v1920 v1921 v1922 v1923 y) := by kernel_rfl
theorem spec_l03UpperSolve_fn (v1920 : Int) (v1921 : Int) (v1922 : List Nat) (v1923 : List Nat) (F : Fr) (hm : F.ids.length = 0) (h0 : St F [] F.H0) (hA : DVs.Ok F [] [.bptr (BR.root 0) [.int .i64 v1920, .int .i64 v1921, .bslc (BR.root 1) (.f32 v1922)], .bslc (BR.root 2) (.f32 v1923)]) {y : (Unit) ⊕ ((List Nat))} (hy : spec_l03UpperSolve_g v1920 v1921 v1922 v1923 = some y) : ∃ H', FnOk Try.prog 151 (DVs.av F [.bptr (BR.root 0) [.int .i64 v1920, .int .i64 v1921, .bslc (BR.root 1) (.f32 v1922)], .bslc (BR.root 2) (.f32 v1923)]) F.H0 ((spec_l03UpperSolve_enc v1920 v1921 v1922 v1923 y).1.av F) H' ∧ St F (spec_l03UpperSolve_enc v1920 v1921 v1922 v1923 y).2 H' ∧ (spec_l03UpperSolve_enc v1920 v1921 v1922 v1923 y).1.Ok F (spec_l03UpperSolve_enc v1920 v1921 v1922 v1923 y).2 :=
  fn_fin tok spec_l03UpperSolve_hO mixed Try.func151 Try.call151 (by kernel_rfl) (LoopsOk_eq (l := [(0, bodyOf Try.f151 0)]) (by kernel_rfl) ⟨spec_l03UpperSolve_l0_ok v1920 v1921 v1922 v1923, trivial⟩) (spec_l03UpperSolve_den v1920 v1921 v1922 v1923) hy hm h0 hA
noncomputable def spec_l03UpperSolve_F : DFn := fun args L =>
  match args with
  | [a1, a3] =>
    optT (cellsOf L 3 a1) fun cs0 =>
    (match cs0 with
    | [.int .i64 v1920, .int .i64 v1921, a2] =>
    optT (rowF32 L a2) fun v1922 =>
    optT (rowF32 L a3) fun v1923 =>
    .call (spec_l03UpperSolve_g v1920 v1921 v1922 v1923) fun y => .sum y (fun y0 => .leaf (.tup [.nilslc, .lit false], L)) (fun z0 => .leaf (.tup [.own (L.length + 0) 0 ((z0).length), .lit true], L ++ [.row (.f32 z0) 0]))
    | _ => .fail)
  | _ => .fail
theorem spec_l03UpperSolve_Fok : COk Try.prog 151 spec_l03UpperSolve_F true := by
  intro F L H args r L' hs ha hr
  unfold spec_l03UpperSolve_F at hr
  split at hr
  · rename_i a1 a3
    obtain ⟨cs0, hcp0, hr⟩ := optT_run hr
    split at hr
    · rename_i v1920 v1921 a2
      obtain ⟨v1922, hv1922, hr⟩ := optT_run hr
      obtain ⟨v1923, hv1923, hr⟩ := optT_run hr
      simp only [Tree.run] at hr
      obtain ⟨y, hy, hr⟩ := Option.bind_eq_some_iff.1 hr
      cases y with
      | inl y =>
        simp only [Tree.run, Option.some.injEq, Prod.mk.injEq] at hr
        obtain ⟨rfl, rfl⟩ := hr
        exact call_ok0 hs (fun k => (([a1.av F, a2.av F, a3.av F] : List AV)[k]?).getD .top) [a1, a3] [.bptr (BR.root 0) [.int .i64 v1920, .int .i64 v1921, .bslc (BR.root 1) (.f32 v1922)], .bslc (BR.root 2) (.f32 v1923)] (fun F' h0 hi hρ => ⟨by simp [DVs.av, DV.av, BR.av, hρ], spec_l03UpperSolve_fn v1920 v1921 v1922 v1923 F' (by rw [hi]; rfl) (st_nil hi) ⟨bptr_ok hi (by rw [h0]; simpa [DVs.av, DV.av, BR.av, hρ] using (cellsOf_ok hs (DVs.okAt ha 0 rfl) hcp0).1) ⟨trivial, trivial, bslc_ok hi (by rw [h0, hρ]; exact rowF32_ok hs (DVs.okAt (cellsOf_ok hs (DVs.okAt ha 0 rfl) hcp0).2 2 rfl) hv1922), trivial⟩, bslc_ok hi (by rw [h0, hρ]; exact rowF32_ok hs (DVs.okAt ha 1 rfl) hv1923), trivial⟩ hy⟩) rfl
      | inr y =>
        simp only [Tree.run, Option.some.injEq, Prod.mk.injEq] at hr
        obtain ⟨rfl, rfl⟩ := hr
        exact call_ok1 hs (fun k => (([a1.av F, a2.av F, a3.av F] : List AV)[k]?).getD .top) [a1, a3] [.bptr (BR.root 0) [.int .i64 v1920, .int .i64 v1921, .bslc (BR.root 1) (.f32 v1922)], .bslc (BR.root 2) (.f32 v1923)] (fun F' h0 hi hρ => ⟨by simp [DVs.av, DV.av, BR.av, hρ], spec_l03UpperSolve_fn v1920 v1921 v1922 v1923 F' (by rw [hi]; rfl) (st_nil hi) ⟨bptr_ok hi (by rw [h0]; simpa [DVs.av, DV.av, BR.av, hρ] using (cellsOf_ok hs (DVs.okAt ha 0 rfl) hcp0).1) ⟨trivial, trivial, bslc_ok hi (by rw [h0, hρ]; exact rowF32_ok hs (DVs.okAt (cellsOf_ok hs (DVs.okAt ha 0 rfl) hcp0).2 2 rfl) hv1922), trivial⟩, bslc_ok hi (by rw [h0, hρ]; exact rowF32_ok hs (DVs.okAt ha 1 rfl) hv1923), trivial⟩ hy⟩) rfl rfl
    · cases hr
  · cases hr
/-! spec.l03Least -/
noncomputable def spec_l03Least_l0_T (v149 : Int) (v151 : List Nat) (v1909 : Int) (v1910 : Int) (v1911 : Int) (v1912 : Int) (v1914 : List Nat) (v1915 : List Nat) (s : Int × (List Nat)) : Tree ((Int × (List Nat)) ⊕ ((List Nat))) :=
  (.br (decide (s.1 < v149)) (
   (.call (spec_l03Column_g v1909 v1910 v1914 s.1) fun v1916 =>
   (.call (spec_l02Dot_g v1916 v151) fun v1917 =>
   (.grd (fits (s.2 ++ ([v1917] : List Nat)).length) <|
   .leaf (.inl (IntKind.i64.wrap (s.1 + (1 : Int)), s.2 ++ ([v1917] : List Nat))))))
  ) (
   .leaf (.inr s.2)
  ))

noncomputable def spec_l03Least_l0_g (v149 : Int) (v151 : List Nat) (v1909 : Int) (v1910 : Int) (v1911 : Int) (v1912 : Int) (v1914 : List Nat) (v1915 : List Nat) (s0 : Int × (List Nat)) : Option ((List Nat)) := whileM (fun s => (spec_l03Least_l0_T v149 v151 v1909 v1910 v1911 v1912 v1914 v1915 s).run) s0
def spec_l03Least_l0_E (v148 : Int) (v149 : Int) (v150 : List Nat) (v151 : List Nat) (v1909 : Int) (v1910 : Int) (v1911 : Int) (v1912 : Int) (v1914 : List Nat) (v1915 : List Nat) (s : Int × (List Nat)) : Sd := ([.bptr (BR.root 0) [.int .i64 v148, .int .i64 v149, .bslc (BR.root 1) (.f32 v150)], .bslc (BR.root 2) (.f32 v151), .top, .top, .top, .top, .ptr 0 (0 : Nat) 0 (3 : Nat), .ptr 1 (0 : Nat) 0 (3 : Nat), .top, .own 2 0 ((s.2).length), .int .i64 s.1, .top, .top, .top, .top, .top, .top, .top, .top, .top, .top, .top, .top, .top, .top, .top, .top, .top, .top, .top, .top, .top, .top, .top, .top, .top, .top, .top, .top, .top, .top, .top], [.gen [.int .i64 v1909, .int .i64 v1910, .own 3 0 ((v1914).length)] false 0, .gen [.int .i64 v1911, .int .i64 v1912, .own 4 0 ((v1915).length)] false 0, .row (.f32 s.2) 0, .row (.f32 v1914) 0, .row (.f32 v1915) 0])
def spec_l03Least_l0_X (v148 : Int) (v149 : Int) (v150 : List Nat) (v151 : List Nat) (v1909 : Int) (v1910 : Int) (v1911 : Int) (v1912 : Int) (v1914 : List Nat) (v1915 : List Nat) (x : (List Nat)) : Out := (.normal, [.top, .top, .top, .top, .top, .top, .top, .ptr 0 (0 : Nat) 0 (3 : Nat), .top, .own 1 0 ((x).length), .top, .top, .top, .top, .top, .top, .top, .top, .top, .top, .top, .top, .top, .top, .top, .top, .top, .top, .top, .top, .top, .top, .top, .top, .top, .top, .top, .top, .top, .top, .top, .top], [.gen [.int .i64 v1911, .int .i64 v1912, .own 2 0 ((v1915).length)] false 0, .row (.f32 x) 0, .row (.f32 v1915) 0])
def spec_l03Least_l0_kill : List Nat := [0, 0, 1, 1, 1, 1, 0, 0, 1, 0, 0, 1, 1, 1, 1, 1, 1, 1, 1, 1, 1, 1, 1, 1, 1, 1, 1, 1, 1, 1, 1, 1, 1, 1, 1, 1, 1, 1, 1, 1, 1, 1]
def spec_l03Least_l0_nx : Exit → List Nat
  | .exit 0 => [1, 1, 1, 1, 1, 1, 1, 0, 1, 0, 1, 1, 1, 1, 1, 1, 1, 1, 1, 1, 1, 1, 1, 1, 1, 1, 1, 1, 1, 1, 1, 1, 1, 1, 1, 1, 1, 1, 1, 1, 1, 1]
  | .ret => [1, 1, 1, 1, 0, 0, 1, 1, 1, 1, 1, 1, 1, 1, 1, 1, 1, 1, 1, 1, 1, 1, 1, 1, 1, 1, 1, 1, 1, 1, 1, 1, 1, 1, 1, 1, 1, 1, 1, 1, 1, 1]
  | _ => []
noncomputable def spec_l03Least_LO (v148 : Int) (v149 : Int) (v150 : List Nat) (v151 : List Nat) : LOr := fun id e L =>
  match id with
  | 0 => .need (normA 0 spec_l03Least_l0_kill e L = some (spec_l03Least_l0_E v148 v149 v150 v151 (gI (cAt L (vAt e 6) 0)) (gI (cAt L (vAt e 6) 1)) (gI (cAt L (vAt e 7) 0)) (gI (cAt L (vAt e 7) 1)) (gRF L (cAt L (vAt e 6) 2)) (gRF L (cAt L (vAt e 7) 2)) ((gI (vAt e 10)), (gRF L (vAt e 9))))) (.call (spec_l03Least_l0_g v149 v151 (gI (cAt L (vAt e 6) 0)) (gI (cAt L (vAt e 6) 1)) (gI (cAt L (vAt e 7) 0)) (gI (cAt L (vAt e 7) 1)) (gRF L (cAt L (vAt e 6) 2)) (gRF L (cAt L (vAt e 7) 2)) ((gI (vAt e 10)), (gRF L (vAt e 9)))) fun x => .leaf (spec_l03Least_l0_X v148 v149 v150 v151 (gI (cAt L (vAt e 6) 0)) (gI (cAt L (vAt e 6) 1)) (gI (cAt L (vAt e 7) 0)) (gI (cAt L (vAt e 7) 1)) (gRF L (cAt L (vAt e 6) 2)) (gRF L (cAt L (vAt e 7) 2)) x))
  | _ => .fail
noncomputable def spec_l03Least_tab : List (FuncId × DFn × Bool) := [(149, spec_l03Mirror_F, true), (150, spec_l03Column_F, true), (133, spec_l02Dot_F, true), (38, spec_l02Finite_F, true), (151, spec_l03UpperSolve_F, true)]
theorem spec_l03Least_hO : OrcOk Try.prog (tabD spec_l03Least_tab) (tabM spec_l03Least_tab) := tabD_cons spec_l03Mirror_Fok (tabD_cons spec_l03Column_Fok (tabD_cons spec_l02Dot_Fok (tabD_cons spec_l02Finite_Fok (tabD_cons spec_l03UpperSolve_Fok (tabD_nil _)))))
theorem spec_l03Least_l0_be (v148 : Int) (v149 : Int) (v150 : List Nat) (v151 : List Nat) (v1909 : Int) (v1910 : Int) (v1911 : Int) (v1912 : Int) (v1914 : List Nat) (v1915 : List Nat) (s : Int × (List Nat)) : bodyT TT (tabD spec_l03Least_tab) (tabM spec_l03Least_tab) (spec_l03Least_LO v148 v149 v150 v151) 0 spec_l03Least_l0_kill spec_l03Least_l0_nx (bodyOf Try.f105 0) 0 (spec_l03Least_l0_E v148 v149 v150 v151 v1909 v1910 v1911 v1912 v1914 v1915 s) = (spec_l03Least_l0_T v149 v151 v1909 v1910 v1911 v1912 v1914 v1915 s).bind fun y => .leaf (outS (spec_l03Least_l0_E v148 v149 v150 v151 v1909 v1910 v1911 v1912 v1914 v1915) (spec_l03Least_l0_X v148 v149 v150 v151 v1909 v1910 v1911 v1912 v1914 v1915) y) := by kernel_rfl
theorem spec_l03Least_l0_ok (v148 : Int) (v149 : Int) (v150 : List Nat) (v151 : List Nat) : LSound Try.prog 0 (spec_l03Least_LO v148 v149 v150 v151) 0 (bodyOf Try.f105 0) := by
  intro e L out h
  exact lo_ok (E := spec_l03Least_l0_E v148 v149 v150 v151 (gI (cAt L (vAt e 6) 0)) (gI (cAt L (vAt e 6) 1)) (gI (cAt L (vAt e 7) 0)) (gI (cAt L (vAt e 7) 1)) (gRF L (cAt L (vAt e 6) 2)) (gRF L (cAt L (vAt e 7) 2))) (gT := spec_l03Least_l0_T v149 v151 (gI (cAt L (vAt e 6) 0)) (gI (cAt L (vAt e 6) 1)) (gI (cAt L (vAt e 7) 0)) (gI (cAt L (vAt e 7) 1)) (gRF L (cAt L (vAt e 6) 2)) (gRF L (cAt L (vAt e 7) 2))) (X := spec_l03Least_l0_X v148 v149 v150 v151 (gI (cAt L (vAt e 6) 0)) (gI (cAt L (vAt e 6) 1)) (gI (cAt L (vAt e 7) 0)) (gI (cAt L (vAt e 7) 1)) (gRF L (cAt L (vAt e 6) 2)) (gRF L (cAt L (vAt e 7) 2))) (s0 := ((gI (vAt e 10)), (gRF L (vAt e 9)))) tok spec_l03Least_hO mixed (LoopsOk_eq (l := []) (by kernel_rfl) trivial) (spec_l03Least_l0_be v148 v149 v150 v151 (gI (cAt L (vAt e 6) 0)) (gI (cAt L (vAt e 6) 1)) (gI (cAt L (vAt e 7) 0)) (gI (cAt L (vAt e 7) 1)) (gRF L (cAt L (vAt e 6) 2)) (gRF L (cAt L (vAt e 7) 2))) rfl (by intro x; rfl) h
noncomputable def spec_l03Least_T (v148 : Int) (v149 : Int) (v150 : List Nat) (v151 : List Nat) : Tree ((Unit) ⊕ ((List Nat))) :=
  (.call (spec_l03Mirror_g v148 v149 v150) fun v1884 =>
  (.sum v1884 (fun v1885 =>
   .leaf (.inl ())
  ) (fun v1886 =>
   (.sum v1886 (fun v1887 =>
    (.br (!v1887.2.2.2.2.1) (
     .leaf (.inl ())
    ) (
     (.need (some (spec_l03Least_l0_E v148 v149 v150 v151 v1887.1 v1887.2.1 v1887.2.2.1 v1887.2.2.2.1 v1887.2.2.2.2.2.1 v1887.2.2.2.2.2.2 ((0 : Int), ([] : List Nat))) = some (spec_l03Least_l0_E v148 v149 v150 v151 v1887.1 v1887.2.1 v1887.2.2.1 v1887.2.2.2.1 v1887.2.2.2.2.2.1 v1887.2.2.2.2.2.2 ((0 : Int), ([] : List Nat)))) <|
     (.call (spec_l03Least_l0_g v149 v151 v1887.1 v1887.2.1 v1887.2.2.1 v1887.2.2.2.1 v1887.2.2.2.2.2.1 v1887.2.2.2.2.2.2 ((0 : Int), ([] : List Nat))) fun v1918 =>
     (.call (spec_l02Finite_g v1918) fun v1919 =>
     (.br (!v1919) (
      .leaf (.inl ())
     ) (
      (.call (spec_l03UpperSolve_g v1887.2.2.1 v1887.2.2.2.1 v1887.2.2.2.2.2.2 v1918) fun v1988 =>
      (.sum v1988 (fun v1989 =>
       .leaf (.inl ())
      ) (fun v1990 =>
       .leaf (.inr v1990)
      )))
     )))))
    ))
   ) (fun v1888 =>
    .leaf (.inl ())
   ))
  )))

noncomputable def spec_l03Least_g (v148 : Int) (v149 : Int) (v150 : List Nat) (v151 : List Nat) : Option ((Unit) ⊕ ((List Nat))) := (spec_l03Least_T v148 v149 v150 v151).run
def spec_l03Least_enc (v148 : Int) (v149 : Int) (v150 : List Nat) (v151 : List Nat) (y : (Unit) ⊕ ((List Nat))) : Rs := (match y with | .inl y => (.tup [.nilslc, .lit false], []) | .inr y => (.tup [.own 0 0 ((y).length), .lit true], [.row (.f32 y) 0]))
theorem spec_l03Least_den (v148 : Int) (v149 : Int) (v150 : List Nat) (v151 : List Nat) : (den TT (tabD spec_l03Least_tab) (tabM spec_l03Least_tab) (spec_l03Least_LO v148 v149 v150 v151) (codeOf Try.f105) ([.bptr (BR.root 0) [.int .i64 v148, .int .i64 v149, .bslc (BR.root 1) (.f32 v150)], .bslc (BR.root 2) (.f32 v151)] ++ List.replicate (Try.f105.ntmps - ([.bptr (BR.root 0) [.int .i64 v148, .int .i64 v149, .bslc (BR.root 1) (.f32 v150)], .bslc (BR.root 2) (.f32 v151)] : List DV).length) .undef) []).bind (retD TT Try.f105.results.toList 0) = (spec_l03Least_T v148 v149 v150 v151).bind fun y => .leaf (spec_l03Least_enc v148 v149 v150 v151 y) := by kernel_rfl
theorem spec_l03Least_fn (v148 : Int) (v149 : Int) (v150 : List Nat) (v151 : List Nat) (F : Fr) (hm : F.ids.length = 0) (h0 : St F [] F.H0) (hA : DVs.Ok F [] [.bptr (BR.root 0) [.int .i64 v148, .int .i64 v149, .bslc (BR.root 1) (.f32 v150)], .bslc (BR.root 2) (.f32 v151)]) {y : (Unit) ⊕ ((List Nat))} (hy : spec_l03Least_g v148 v149 v150 v151 = some y) : ∃ H', FnOk Try.prog 105 (DVs.av F [.bptr (BR.root 0) [.int .i64 v148, .int .i64 v149, .bslc (BR.root 1) (.f32 v150)], .bslc (BR.root 2) (.f32 v151)]) F.H0 ((spec_l03Least_enc v148 v149 v150 v151 y).1.av F) H' ∧ St F (spec_l03Least_enc v148 v149 v150 v151 y).2 H' ∧ (spec_l03Least_enc v148 v149 v150 v151 y).1.Ok F (spec_l03Least_enc v148 v149 v150 v151 y).2 :=
  fn_fin tok spec_l03Least_hO mixed Try.func105 Try.call105 (by kernel_rfl) (LoopsOk_eq (l := [(0, bodyOf Try.f105 0)]) (by kernel_rfl) ⟨spec_l03Least_l0_ok v148 v149 v150 v151, trivial⟩) (spec_l03Least_den v148 v149 v150 v151) hy hm h0 hA
noncomputable def spec_l03Least_F : DFn := fun args L =>
  match args with
  | [a1, a3] =>
    optT (cellsOf L 3 a1) fun cs0 =>
    (match cs0 with
    | [.int .i64 v148, .int .i64 v149, a2] =>
    optT (rowF32 L a2) fun v150 =>
    optT (rowF32 L a3) fun v151 =>
    .call (spec_l03Least_g v148 v149 v150 v151) fun y => .sum y (fun y0 => .leaf (.tup [.nilslc, .lit false], L)) (fun z0 => .leaf (.tup [.own (L.length + 0) 0 ((z0).length), .lit true], L ++ [.row (.f32 z0) 0]))
    | _ => .fail)
  | _ => .fail
theorem spec_l03Least_Fok : COk Try.prog 105 spec_l03Least_F true := by
  intro F L H args r L' hs ha hr
  unfold spec_l03Least_F at hr
  split at hr
  · rename_i a1 a3
    obtain ⟨cs0, hcp0, hr⟩ := optT_run hr
    split at hr
    · rename_i v148 v149 a2
      obtain ⟨v150, hv150, hr⟩ := optT_run hr
      obtain ⟨v151, hv151, hr⟩ := optT_run hr
      simp only [Tree.run] at hr
      obtain ⟨y, hy, hr⟩ := Option.bind_eq_some_iff.1 hr
      cases y with
      | inl y =>
        simp only [Tree.run, Option.some.injEq, Prod.mk.injEq] at hr
        obtain ⟨rfl, rfl⟩ := hr
        exact call_ok0 hs (fun k => (([a1.av F, a2.av F, a3.av F] : List AV)[k]?).getD .top) [a1, a3] [.bptr (BR.root 0) [.int .i64 v148, .int .i64 v149, .bslc (BR.root 1) (.f32 v150)], .bslc (BR.root 2) (.f32 v151)] (fun F' h0 hi hρ => ⟨by simp [DVs.av, DV.av, BR.av, hρ], spec_l03Least_fn v148 v149 v150 v151 F' (by rw [hi]; rfl) (st_nil hi) ⟨bptr_ok hi (by rw [h0]; simpa [DVs.av, DV.av, BR.av, hρ] using (cellsOf_ok hs (DVs.okAt ha 0 rfl) hcp0).1) ⟨trivial, trivial, bslc_ok hi (by rw [h0, hρ]; exact rowF32_ok hs (DVs.okAt (cellsOf_ok hs (DVs.okAt ha 0 rfl) hcp0).2 2 rfl) hv150), trivial⟩, bslc_ok hi (by rw [h0, hρ]; exact rowF32_ok hs (DVs.okAt ha 1 rfl) hv151), trivial⟩ hy⟩) rfl
      | inr y =>
        simp only [Tree.run, Option.some.injEq, Prod.mk.injEq] at hr
        obtain ⟨rfl, rfl⟩ := hr
        exact call_ok1 hs (fun k => (([a1.av F, a2.av F, a3.av F] : List AV)[k]?).getD .top) [a1, a3] [.bptr (BR.root 0) [.int .i64 v148, .int .i64 v149, .bslc (BR.root 1) (.f32 v150)], .bslc (BR.root 2) (.f32 v151)] (fun F' h0 hi hρ => ⟨by simp [DVs.av, DV.av, BR.av, hρ], spec_l03Least_fn v148 v149 v150 v151 F' (by rw [hi]; rfl) (st_nil hi) ⟨bptr_ok hi (by rw [h0]; simpa [DVs.av, DV.av, BR.av, hρ] using (cellsOf_ok hs (DVs.okAt ha 0 rfl) hcp0).1) ⟨trivial, trivial, bslc_ok hi (by rw [h0, hρ]; exact rowF32_ok hs (DVs.okAt (cellsOf_ok hs (DVs.okAt ha 0 rfl) hcp0).2 2 rfl) hv150), trivial⟩, bslc_ok hi (by rw [h0, hρ]; exact rowF32_ok hs (DVs.okAt ha 1 rfl) hv151), trivial⟩ hy⟩) rfl rfl
    · cases hr
  · cases hr
/-! spec.WeighedSquares -/
noncomputable def spec_WeighedSquares_l2_T (v27 : Int) (v28 : List Nat) (v135 : Int) (v136 : Nat) (v138 : Int) (v139 : Int) (v140 : List Nat) (s : Int × (List Nat)) : Tree ((Int × (List Nat)) ⊕ ((List Nat))) :=
  (.br (decide (s.1 < v27)) (
   (.grd (inb (IntKind.i64.wrap ((IntKind.i64.wrap (v135 * v27)) + s.1)) v28.length) <|
   (.grd (inb (IntKind.i64.wrap ((IntKind.i64.wrap (v135 * v27)) + s.1)) ((s.2).length)) <|
   .leaf (.inl (IntKind.i64.wrap (s.1 + (1 : Int)), List.set s.2 (Int.toNat (IntKind.i64.wrap ((IntKind.i64.wrap (v135 * v27)) + s.1))) (fmul .f32 v136 (nth v28 (Int.toNat (IntKind.i64.wrap ((IntKind.i64.wrap (v135 * v27)) + s.1)))))))))
  ) (
   .leaf (.inr s.2)
  ))

noncomputable def spec_WeighedSquares_l2_g (v27 : Int) (v28 : List Nat) (v135 : Int) (v136 : Nat) (v138 : Int) (v139 : Int) (v140 : List Nat) (s0 : Int × (List Nat)) : Option ((List Nat)) := whileM (fun s => (spec_WeighedSquares_l2_T v27 v28 v135 v136 v138 v139 v140 s).run) s0
def spec_WeighedSquares_l2_E (v26 : Int) (v27 : Int) (v28 : List Nat) (v29 : List Nat) (v30 : List Nat) (v135 : Int) (v136 : Nat) (v138 : Int) (v139 : Int) (v140 : List Nat) (s : Int × (List Nat)) : Sd := ([.top, .bslc (BR.root 1) (.f32 v29), .bslc (BR.root 2) (.f32 v30), .ptr 0 (0 : Nat) 0 (3 : Nat), .top, .top, .top, .top, .ptr 1 (0 : Nat) 0 (3 : Nat), .own 2 0 ((v140).length), .int .i64 v135, .flt .f32 v136, .int .i64 s.1, .top, .top, .top, .top, .top, .top, .top, .top, .top, .top, .top, .top, .top, .top, .top, .top, .top, .top, .top, .top, .top, .top, .top, .top, .top, .top, .top, .top, .top, .top, .top, .top, .top, .top, .top, .top, .top, .int .i64 ((v30.length : Nat) : Int), .int .i64 v135, .top, .top, .top, .top, .top, .top, .top, .top, .top, .top, .top, .top, .top, .top, .top, .top, .top, .top, .top, .top, .top, .top, .top, .top, .top, .top, .top, .top, .top, .top, .top, .top, .top, .top, .top, .top, .top, .top, .top, .top, .top, .top, .top, .top, .top, .top, .top, .top, .top, .top, .top, .top, .top, .top, .top, .top], [.gen [.int .i64 v26, .int .i64 v27, .bslc (BR.root 0) (.f32 v28)] false 0, .gen [.int .i64 v138, .int .i64 v139, .own 3 0 ((s.2).length)] false 0, .row (.f32 v140) 0, .row (.f32 s.2) 0])
def spec_WeighedSquares_l2_X (v26 : Int) (v27 : Int) (v28 : List Nat) (v29 : List Nat) (v30 : List Nat) (v135 : Int) (v136 : Nat) (v138 : Int) (v139 : Int) (v140 : List Nat) (x : (List Nat)) : Out := (.normal, [.top, .bslc (BR.root 1) (.f32 v29), .bslc (BR.root 2) (.f32 v30), .ptr 0 (0 : Nat) 0 (3 : Nat), .top, .top, .top, .top, .ptr 1 (0 : Nat) 0 (3 : Nat), .own 2 0 ((v140).length), .top, .top, .top, .top, .top, .top, .top, .top, .top, .top, .top, .top, .top, .top, .top, .top, .top, .top, .top, .top, .top, .top, .top, .top, .top, .top, .top, .top, .top, .top, .top, .top, .top, .top, .top, .top, .top, .top, .top, .top, .int .i64 ((v30.length : Nat) : Int), .int .i64 v135, .top, .top, .top, .top, .top, .top, .top, .top, .top, .top, .top, .top, .top, .top, .top, .top, .top, .top, .top, .top, .top, .top, .top, .top, .top, .top, .top, .top, .top, .top, .top, .top, .top, .top, .top, .top, .top, .top, .top, .top, .top, .top, .top, .top, .top, .top, .top, .top, .top, .top, .top, .top, .top, .top, .top, .top], [.gen [.int .i64 v26, .int .i64 v27, .bslc (BR.root 0) (.f32 v28)] false 0, .gen [.int .i64 v138, .int .i64 v139, .own 3 0 ((x).length)] false 0, .row (.f32 v140) 0, .row (.f32 x) 0])
def spec_WeighedSquares_l2_kill : List Nat := [1, 0, 0, 0, 1, 1, 1, 1, 0, 0, 0, 0, 0, 1, 1, 1, 1, 1, 1, 1, 1, 1, 1, 1, 1, 1, 1, 1, 1, 1, 1, 1, 1, 1, 1, 1, 1, 1, 1, 1, 1, 1, 1, 1, 1, 1, 1, 1, 1, 1, 0, 0, 1, 1, 1, 1, 1, 1, 1, 1, 1, 1, 1, 1, 1, 1, 1, 1, 1, 1, 1, 1, 1, 1, 1, 1, 1, 1, 1, 1, 1, 1, 1, 1, 1, 1, 1, 1, 1, 1, 1, 1, 1, 1, 1, 1, 1, 1, 1, 1, 1, 1, 1, 1, 1, 1, 1, 1]
def spec_WeighedSquares_l2_nx : Exit → List Nat
  | .exit 0 => [1, 1, 1, 1, 1, 1, 1, 1, 0, 0, 1, 1, 1, 1, 1, 1, 1, 1, 1, 1, 1, 1, 1, 1, 1, 1, 1, 1, 1, 1, 1, 1, 1, 1, 1, 1, 1, 1, 1, 1, 1, 1, 1, 1, 1, 1, 1, 1, 1, 1, 1, 1, 1, 1, 1, 1, 1, 1, 1, 1, 1, 1, 1, 1, 1, 1, 1, 1, 1, 1, 1, 1, 1, 1, 1, 1, 1, 1, 1, 1, 1, 1, 1, 1, 1, 1, 1, 1, 1, 1, 1, 1, 1, 1, 1, 1, 1, 1, 1, 1, 1, 1, 1, 1, 1, 1, 1, 1]
  | .exit 1 => [1, 0, 0, 0, 1, 1, 1, 1, 0, 0, 1, 1, 1, 1, 1, 1, 1, 1, 1, 1, 1, 1, 1, 1, 1, 1, 1, 1, 1, 1, 1, 1, 1, 1, 1, 1, 1, 1, 1, 1, 1, 1, 1, 1, 1, 1, 1, 1, 1, 1, 0, 0, 1, 1, 1, 1, 1, 1, 1, 1, 1, 1, 1, 1, 1, 1, 1, 1, 1, 1, 1, 1, 1, 1, 1, 1, 1, 1, 1, 1, 1, 1, 1, 1, 1, 1, 1, 1, 1, 1, 1, 1, 1, 1, 1, 1, 1, 1, 1, 1, 1, 1, 1, 1, 1, 1, 1, 1]
  | .exit 2 => [1, 0, 0, 0, 1, 1, 1, 1, 0, 0, 1, 1, 1, 1, 1, 1, 1, 1, 1, 1, 1, 1, 1, 1, 1, 1, 1, 1, 1, 1, 1, 1, 1, 1, 1, 1, 1, 1, 1, 1, 1, 1, 1, 1, 1, 1, 1, 1, 1, 1, 0, 0, 1, 1, 1, 1, 1, 1, 1, 1, 1, 1, 1, 1, 1, 1, 1, 1, 1, 1, 1, 1, 1, 1, 1, 1, 1, 1, 1, 1, 1, 1, 1, 1, 1, 1, 1, 1, 1, 1, 1, 1, 1, 1, 1, 1, 1, 1, 1, 1, 1, 1, 1, 1, 1, 1, 1, 1]
  | .ret => [1, 1, 1, 1, 1, 1, 0, 0, 1, 1, 1, 1, 1, 1, 1, 1, 1, 1, 1, 1, 1, 1, 1, 1, 1, 1, 1, 1, 1, 1, 1, 1, 1, 1, 1, 1, 1, 1, 1, 1, 1, 1, 1, 1, 1, 1, 1, 1, 1, 1, 1, 1, 1, 1, 1, 1, 1, 1, 1, 1, 1, 1, 1, 1, 1, 1, 1, 1, 1, 1, 1, 1, 1, 1, 1, 1, 1, 1, 1, 1, 1, 1, 1, 1, 1, 1, 1, 1, 1, 1, 1, 1, 1, 1, 1, 1, 1, 1, 1, 1, 1, 1, 1, 1, 1, 1, 1, 1]
  | _ => []
noncomputable def spec_WeighedSquares_l0_T (v26 : Int) (v27 : Int) (v28 : List Nat) (v29 : List Nat) (v30 : List Nat) (v116 : Int) (v117 : Int) (s : Int × (List Nat) × (List Nat)) : Tree ((Int × (List Nat) × (List Nat)) ⊕ ((Unit) ⊕ ((List Nat) × (List Nat)))) :=
  (.br (decide (s.1 < ((v30.length : Nat) : Int))) (
   (.grd (inb s.1 v30.length) <|
   (.br (fless .f32 (nth v30 (Int.toNat s.1)) (0 : Nat)) (
    .leaf (.inr (.inl ()))
   ) (
    (.grd (inb s.1 v30.length) <|
    (.call (spec_l01Sqrt_g (nth v30 (Int.toNat s.1))) fun v120 =>
    (.grd (inb s.1 v29.length) <|
    (.grd (fits (s.2.1 ++ ([fmul .f32 v120 (nth v29 (Int.toNat s.1))] : List Nat)).length) <|
    (.need (some (spec_WeighedSquares_l2_E v26 v27 v28 v29 v30 s.1 v120 v116 v117 (s.2.1 ++ ([fmul .f32 v120 (nth v29 (Int.toNat s.1))] : List Nat)) ((0 : Int), s.2.2)) = some (spec_WeighedSquares_l2_E v26 v27 v28 v29 v30 s.1 v120 v116 v117 (s.2.1 ++ ([fmul .f32 v120 (nth v29 (Int.toNat s.1))] : List Nat)) ((0 : Int), s.2.2))) <|
    (.call (spec_WeighedSquares_l2_g v27 v28 s.1 v120 v116 v117 (s.2.1 ++ ([fmul .f32 v120 (nth v29 (Int.toNat s.1))] : List Nat)) ((0 : Int), s.2.2)) fun v142 =>
    .leaf (.inl (IntKind.i64.wrap (s.1 + (1 : Int)), (s.2.1 ++ ([fmul .f32 v120 (nth v29 (Int.toNat s.1))] : List Nat)), v142))))))))
   )))
  ) (
   .leaf (.inr (.inr (s.2.1, s.2.2)))
  ))

noncomputable def spec_WeighedSquares_l0_g (v26 : Int) (v27 : Int) (v28 : List Nat) (v29 : List Nat) (v30 : List Nat) (v116 : Int) (v117 : Int) (s0 : Int × (List Nat) × (List Nat)) : Option ((Unit) ⊕ ((List Nat) × (List Nat))) := whileM (fun s => (spec_WeighedSquares_l0_T v26 v27 v28 v29 v30 v116 v117 s).run) s0
def spec_WeighedSquares_l0_E (v26 : Int) (v27 : Int) (v28 : List Nat) (v29 : List Nat) (v30 : List Nat) (v116 : Int) (v117 : Int) (s : Int × (List Nat) × (List Nat)) : Sd := ([.top, .bslc (BR.root 1) (.f32 v29), .bslc (BR.root 2) (.f32 v30), .ptr 0 (0 : Nat) 0 (3 : Nat), .top, .top, .top, .top, .ptr 1 (0 : Nat) 0 (3 : Nat), .own 2 0 ((s.2.1).length), .top, .top, .top, .top, .top, .top, .top, .top, .top, .top, .top, .top, .top, .top, .top, .top, .top, .top, .top, .top, .top, .top, .top, .top, .top, .top, .top, .top, .top, .top, .top, .top, .top, .top, .top, .top, .top, .top, .top, .top, .int .i64 ((v30.length : Nat) : Int), .int .i64 s.1, .top, .top, .top, .top, .top, .top, .top, .top, .top, .top, .top, .top, .top, .top, .top, .top, .top, .top, .top, .top, .top, .top, .top, .top, .top, .top, .top, .top, .top, .top, .top, .top, .top, .top, .top, .top, .top, .top, .top, .top, .top, .top, .top, .top, .top, .top, .top, .top, .top, .top, .top, .top, .top, .top, .top, .top], [.gen [.int .i64 v26, .int .i64 v27, .bslc (BR.root 0) (.f32 v28)] false 0, .gen [.int .i64 v116, .int .i64 v117, .own 3 0 ((s.2.2).length)] false 0, .row (.f32 s.2.1) 0, .row (.f32 s.2.2) 0])
def spec_WeighedSquares_l0_X (v26 : Int) (v27 : Int) (v28 : List Nat) (v29 : List Nat) (v30 : List Nat) (v116 : Int) (v117 : Int) (x : (Unit) ⊕ ((List Nat) × (List Nat))) : Out := (match x with | .inl x => (.ret, [.top, .top, .top, .top, .top, .top, .nilslc, .lit false, .top, .top, .top, .top, .top, .top, .top, .top, .top, .top, .top, .top, .top, .top, .top, .top, .top, .top, .top, .top, .top, .top, .top, .top, .top, .top, .top, .top, .top, .top, .top, .top, .top, .top, .top, .top, .top, .top, .top, .top, .top, .top, .top, .top, .top, .top, .top, .top, .top, .top, .top, .top, .top, .top, .top, .top, .top, .top, .top, .top, .top, .top, .top, .top, .top, .top, .top, .top, .top, .top, .top, .top, .top, .top, .top, .top, .top, .top, .top, .top, .top, .top, .top, .top, .top, .top, .top, .top, .top, .top, .top, .top, .top, .top, .top, .top, .top, .top, .top, .top], []) | .inr x => (.normal, [.top, .top, .top, .top, .top, .top, .top, .top, .ptr 0 (0 : Nat) 0 (3 : Nat), .own 1 0 ((x.1).length), .top, .top, .top, .top, .top, .top, .top, .top, .top, .top, .top, .top, .top, .top, .top, .top, .top, .top, .top, .top, .top, .top, .top, .top, .top, .top, .top, .top, .top, .top, .top, .top, .top, .top, .top, .top, .top, .top, .top, .top, .top, .top, .top, .top, .top, .top, .top, .top, .top, .top, .top, .top, .top, .top, .top, .top, .top, .top, .top, .top, .top, .top, .top, .top, .top, .top, .top, .top, .top, .top, .top, .top, .top, .top, .top, .top, .top, .top, .top, .top, .top, .top, .top, .top, .top, .top, .top, .top, .top, .top, .top, .top, .top, .top, .top, .top, .top, .top], [.gen [.int .i64 v116, .int .i64 v117, .own 2 0 ((x.2).length)] false 0, .row (.f32 x.1) 0, .row (.f32 x.2) 0]))
def spec_WeighedSquares_l0_kill : List Nat := [1, 0, 0, 0, 1, 1, 1, 1, 0, 0, 1, 1, 1, 1, 1, 1, 1, 1, 1, 1, 1, 1, 1, 1, 1, 1, 1, 1, 1, 1, 1, 1, 1, 1, 1, 1, 1, 1, 1, 1, 1, 1, 1, 1, 1, 1, 1, 1, 1, 1, 0, 0, 1, 1, 1, 1, 1, 1, 1, 1, 1, 1, 1, 1, 1, 1, 1, 1, 1, 1, 1, 1, 1, 1, 1, 1, 1, 1, 1, 1, 1, 1, 1, 1, 1, 1, 1, 1, 1, 1, 1, 1, 1, 1, 1, 1, 1, 1, 1, 1, 1, 1, 1, 1, 1, 1, 1, 1]
def spec_WeighedSquares_l0_nx : Exit → List Nat
  | .exit 0 => [1, 1, 1, 1, 1, 1, 1, 1, 0, 0, 1, 1, 1, 1, 1, 1, 1, 1, 1, 1, 1, 1, 1, 1, 1, 1, 1, 1, 1, 1, 1, 1, 1, 1, 1, 1, 1, 1, 1, 1, 1, 1, 1, 1, 1, 1, 1, 1, 1, 1, 1, 1, 1, 1, 1, 1, 1, 1, 1, 1, 1, 1, 1, 1, 1, 1, 1, 1, 1, 1, 1, 1, 1, 1, 1, 1, 1, 1, 1, 1, 1, 1, 1, 1, 1, 1, 1, 1, 1, 1, 1, 1, 1, 1, 1, 1, 1, 1, 1, 1, 1, 1, 1, 1, 1, 1, 1, 1]
  | .ret => [1, 1, 1, 1, 1, 1, 0, 0, 1, 1, 1, 1, 1, 1, 1, 1, 1, 1, 1, 1, 1, 1, 1, 1, 1, 1, 1, 1, 1, 1, 1, 1, 1, 1, 1, 1, 1, 1, 1, 1, 1, 1, 1, 1, 1, 1, 1, 1, 1, 1, 1, 1, 1, 1, 1, 1, 1, 1, 1, 1, 1, 1, 1, 1, 1, 1, 1, 1, 1, 1, 1, 1, 1, 1, 1, 1, 1, 1, 1, 1, 1, 1, 1, 1, 1, 1, 1, 1, 1, 1, 1, 1, 1, 1, 1, 1, 1, 1, 1, 1, 1, 1, 1, 1, 1, 1, 1, 1]
  | _ => []
noncomputable def spec_WeighedSquares_LO (v26 : Int) (v27 : Int) (v28 : List Nat) (v29 : List Nat) (v30 : List Nat) : LOr := fun id e L =>
  match id with
  | 2 => .need (normA 0 spec_WeighedSquares_l2_kill e L = some (spec_WeighedSquares_l2_E v26 v27 v28 v29 v30 (gI (vAt e 10)) (gF (vAt e 11)) (gI (cAt L (vAt e 8) 0)) (gI (cAt L (vAt e 8) 1)) (gRF L (vAt e 9)) ((gI (vAt e 12)), (gRF L (cAt L (vAt e 8) 2))))) (.call (spec_WeighedSquares_l2_g v27 v28 (gI (vAt e 10)) (gF (vAt e 11)) (gI (cAt L (vAt e 8) 0)) (gI (cAt L (vAt e 8) 1)) (gRF L (vAt e 9)) ((gI (vAt e 12)), (gRF L (cAt L (vAt e 8) 2)))) fun x => .leaf (spec_WeighedSquares_l2_X v26 v27 v28 v29 v30 (gI (vAt e 10)) (gF (vAt e 11)) (gI (cAt L (vAt e 8) 0)) (gI (cAt L (vAt e 8) 1)) (gRF L (vAt e 9)) x))
  | 0 => .need (normA 0 spec_WeighedSquares_l0_kill e L = some (spec_WeighedSquares_l0_E v26 v27 v28 v29 v30 (gI (cAt L (vAt e 8) 0)) (gI (cAt L (vAt e 8) 1)) ((gI (vAt e 51)), (gRF L (vAt e 9)), (gRF L (cAt L (vAt e 8) 2))))) (.call (spec_WeighedSquares_l0_g v26 v27 v28 v29 v30 (gI (cAt L (vAt e 8) 0)) (gI (cAt L (vAt e 8) 1)) ((gI (vAt e 51)), (gRF L (vAt e 9)), (gRF L (cAt L (vAt e 8) 2)))) fun x => .sum x (fun b0 => .leaf (spec_WeighedSquares_l0_X v26 v27 v28 v29 v30 (gI (cAt L (vAt e 8) 0)) (gI (cAt L (vAt e 8) 1)) (.inl b0))) (fun c0 => .leaf (spec_WeighedSquares_l0_X v26 v27 v28 v29 v30 (gI (cAt L (vAt e 8) 0)) (gI (cAt L (vAt e 8) 1)) (.inr c0))))
  | _ => .fail
noncomputable def spec_WeighedSquares_tab : List (FuncId × DFn × Bool) := [(103, spec_l02Is_F, true), (76, spec_l02Vector_F, true), (88, spec_l02Own_F, true), (104, spec_l01Sqrt_F, true), (38, spec_l02Finite_F, true), (105, spec_l03Least_F, true)]
theorem spec_WeighedSquares_hO : OrcOk Try.prog (tabD spec_WeighedSquares_tab) (tabM spec_WeighedSquares_tab) := tabD_cons spec_l02Is_Fok (tabD_cons spec_l02Vector_Fok (tabD_cons spec_l02Own_Fok (tabD_cons spec_l01Sqrt_Fok (tabD_cons spec_l02Finite_Fok (tabD_cons spec_l03Least_Fok (tabD_nil _))))))
theorem spec_WeighedSquares_l2_be (v26 : Int) (v27 : Int) (v28 : List Nat) (v29 : List Nat) (v30 : List Nat) (v135 : Int) (v136 : Nat) (v138 : Int) (v139 : Int) (v140 : List Nat) (s : Int × (List Nat)) : bodyT TT (tabD spec_WeighedSquares_tab) (tabM spec_WeighedSquares_tab) (spec_WeighedSquares_LO v26 v27 v28 v29 v30) 0 spec_WeighedSquares_l2_kill spec_WeighedSquares_l2_nx (bodyOf Try.f34 2) 2 (spec_WeighedSquares_l2_E v26 v27 v28 v29 v30 v135 v136 v138 v139 v140 s) = (spec_WeighedSquares_l2_T v27 v28 v135 v136 v138 v139 v140 s).bind fun y => .leaf (outS (spec_WeighedSquares_l2_E v26 v27 v28 v29 v30 v135 v136 v138 v139 v140) (spec_WeighedSquares_l2_X v26 v27 v28 v29 v30 v135 v136 v138 v139 v140) y) := by kernel_rfl
theorem spec_WeighedSquares_l2_ok (v26 : Int) (v27 : Int) (v28 : List Nat) (v29 : List Nat) (v30 : List Nat) : LSound Try.prog 0 (spec_WeighedSquares_LO v26 v27 v28 v29 v30) 2 (bodyOf Try.f34 2) := by
  intro e L out h
  exact lo_ok (E := spec_WeighedSquares_l2_E v26 v27 v28 v29 v30 (gI (vAt e 10)) (gF (vAt e 11)) (gI (cAt L (vAt e 8) 0)) (gI (cAt L (vAt e 8) 1)) (gRF L (vAt e 9))) (gT := spec_WeighedSquares_l2_T v27 v28 (gI (vAt e 10)) (gF (vAt e 11)) (gI (cAt L (vAt e 8) 0)) (gI (cAt L (vAt e 8) 1)) (gRF L (vAt e 9))) (X := spec_WeighedSquares_l2_X v26 v27 v28 v29 v30 (gI (vAt e 10)) (gF (vAt e 11)) (gI (cAt L (vAt e 8) 0)) (gI (cAt L (vAt e 8) 1)) (gRF L (vAt e 9))) (s0 := ((gI (vAt e 12)), (gRF L (cAt L (vAt e 8) 2)))) tok spec_WeighedSquares_hO mixed (LoopsOk_eq (l := []) (by kernel_rfl) trivial) (spec_WeighedSquares_l2_be v26 v27 v28 v29 v30 (gI (vAt e 10)) (gF (vAt e 11)) (gI (cAt L (vAt e 8) 0)) (gI (cAt L (vAt e 8) 1)) (gRF L (vAt e 9))) rfl (by intro x; rfl) h
theorem spec_WeighedSquares_l0_be (v26 : Int) (v27 : Int) (v28 : List Nat) (v29 : List Nat) (v30 : List Nat) (v116 : Int) (v117 : Int) (s : Int × (List Nat) × (List Nat)) : bodyT TT (tabD spec_WeighedSquares_tab) (tabM spec_WeighedSquares_tab) (spec_WeighedSquares_LO v26 v27 v28 v29 v30) 0 spec_WeighedSquares_l0_kill spec_WeighedSquares_l0_nx (bodyOf Try.f34 0) 0 (spec_WeighedSquares_l0_E v26 v27 v28 v29 v30 v116 v117 s) = (spec_WeighedSquares_l0_T v26 v27 v28 v29 v30 v116 v117 s).bind fun y => .leaf (outS (spec_WeighedSquares_l0_E v26 v27 v28 v29 v30 v116 v117) (spec_WeighedSquares_l0_X v26 v27 v28 v29 v30 v116 v117) y) := by kernel_rfl
theorem spec_WeighedSquares_l0_ok (v26 : Int) (v27 : Int) (v28 : List Nat) (v29 : List Nat) (v30 : List Nat) : LSound Try.prog 0 (spec_WeighedSquares_LO v26 v27 v28 v29 v30) 0 (bodyOf Try.f34 0) := by
  intro e L out h
  exact lo_ok (E := spec_WeighedSquares_l0_E v26 v27 v28 v29 v30 (gI (cAt L (vAt e 8) 0)) (gI (cAt L (vAt e 8) 1))) (gT := spec_WeighedSquares_l0_T v26 v27 v28 v29 v30 (gI (cAt L (vAt e 8) 0)) (gI (cAt L (vAt e 8) 1))) (X := spec_WeighedSquares_l0_X v26 v27 v28 v29 v30 (gI (cAt L (vAt e 8) 0)) (gI (cAt L (vAt e 8) 1))) (s0 := ((gI (vAt e 51)), (gRF L (vAt e 9)), (gRF L (cAt L (vAt e 8) 2)))) tok spec_WeighedSquares_hO mixed (LoopsOk_eq (l := [(2, bodyOf Try.f34 2)]) (by kernel_rfl) ⟨spec_WeighedSquares_l2_ok v26 v27 v28 v29 v30, trivial⟩) (spec_WeighedSquares_l0_be v26 v27 v28 v29 v30 (gI (cAt L (vAt e 8) 0)) (gI (cAt L (vAt e 8) 1))) rfl (by intro x; (cases x with | inl b => rfl | inr x => exact rfl)) h
noncomputable def spec_WeighedSquares_T (v26 : Int) (v27 : Int) (v28 : List Nat) (v29 : List Nat) (v30 : List Nat) : Tree ((Unit) ⊕ ((List Nat))) :=
  (.call (spec_l02Is_g v26 v27 v28) fun v48 =>
  (.br (!v48) (
   .leaf (.inl ())
  ) (
   (.br (decide (v26 < v27)) (
    .leaf (.inl ())
   ) (
    (.call (spec_l02Vector_g v29) fun v51 =>
    (.br (!v51) (
     .leaf (.inl ())
    ) (
     (.br (!decide (((v29.length : Nat) : Int) = v26)) (
      .leaf (.inl ())
     ) (
      (.call (spec_l02Vector_g v30) fun v52 =>
      (.br (!v52) (
       .leaf (.inl ())
      ) (
       (.br (!decide (((v30.length : Nat) : Int) = ((v29.length : Nat) : Int))) (
        .leaf (.inl ())
       ) (
        (.call (spec_l02Own_g v26 v27 v28) fun v56 =>
        (.need (some (spec_WeighedSquares_l0_E v26 v27 v28 v29 v30 v56.1 v56.2 ((0 : Int), ([] : List Nat), ([] : List Nat) ++ v28)) = some (spec_WeighedSquares_l0_E v26 v27 v28 v29 v30 v56.1 v56.2 ((0 : Int), ([] : List Nat), ([] : List Nat) ++ v28))) <|
        (.call (spec_WeighedSquares_l0_g v26 v27 v28 v29 v30 v56.1 v56.2 ((0 : Int), ([] : List Nat), ([] : List Nat) ++ v28)) fun v143 =>
        (.sum v143 (fun v144 =>
         .leaf (.inl ())
        ) (fun v145 =>
         (.call (spec_l02Is_g v56.1 v56.2 v145.2) fun v146 =>
         (.br (!v146) (
          .leaf (.inl ())
         ) (
          (.call (spec_l02Finite_g v145.1) fun v147 =>
          (.br (!v147) (
           .leaf (.inl ())
          ) (
           (.call (spec_l03Least_g v56.1 v56.2 v145.2 v145.1) fun v1991 =>
           (.sum v1991 (fun v1992 =>
            .leaf (.inl ())
           ) (fun v1993 =>
            .leaf (.inr v1993)
           )))
          )))
         )))
        )))))
       ))
      )))
     ))
    )))
   ))
  )))

noncomputable def spec_WeighedSquares_g (v26 : Int) (v27 : Int) (v28 : List Nat) (v29 : List Nat) (v30 : List Nat) : Option ((Unit) ⊕ ((List Nat))) := (spec_WeighedSquares_T v26 v27 v28 v29 v30).run
def spec_WeighedSquares_enc (v26 : Int) (v27 : Int) (v28 : List Nat) (v29 : List Nat) (v30 : List Nat) (y : (Unit) ⊕ ((List Nat))) : Rs := (match y with | .inl y => (.tup [.nilslc, .lit false], []) | .inr y => (.tup [.own 0 0 ((y).length), .lit true], [.row (.f32 y) 0]))
theorem spec_WeighedSquares_den (v26 : Int) (v27 : Int) (v28 : List Nat) (v29 : List Nat) (v30 : List Nat) : (den TT (tabD spec_WeighedSquares_tab) (tabM spec_WeighedSquares_tab) (spec_WeighedSquares_LO v26 v27 v28 v29 v30) (codeOf Try.f34) ([.agg [.int .i64 v26, .int .i64 v27, .bslc (BR.root 0) (.f32 v28)], .bslc (BR.root 1) (.f32 v29), .bslc (BR.root 2) (.f32 v30)] ++ List.replicate (Try.f34.ntmps - ([.agg [.int .i64 v26, .int .i64 v27, .bslc (BR.root 0) (.f32 v28)], .bslc (BR.root 1) (.f32 v29), .bslc (BR.root 2) (.f32 v30)] : List DV).length) .undef) []).bind (retD TT Try.f34.results.toList 0) = (spec_WeighedSquares_T v26 v27 v28 v29 v30).bind fun y => .leaf (spec_WeighedSquares_enc v26 v27 v28 v29 v30 y) := by kernel_rfl
theorem spec_WeighedSquares_fn (v26 : Int) (v27 : Int) (v28 : List Nat) (v29 : List Nat) (v30 : List Nat) (F : Fr) (hm : F.ids.length = 0) (h0 : St F [] F.H0) (hA : DVs.Ok F [] [.agg [.int .i64 v26, .int .i64 v27, .bslc (BR.root 0) (.f32 v28)], .bslc (BR.root 1) (.f32 v29), .bslc (BR.root 2) (.f32 v30)]) {y : (Unit) ⊕ ((List Nat))} (hy : spec_WeighedSquares_g v26 v27 v28 v29 v30 = some y) : ∃ H', FnOk Try.prog 34 (DVs.av F [.agg [.int .i64 v26, .int .i64 v27, .bslc (BR.root 0) (.f32 v28)], .bslc (BR.root 1) (.f32 v29), .bslc (BR.root 2) (.f32 v30)]) F.H0 ((spec_WeighedSquares_enc v26 v27 v28 v29 v30 y).1.av F) H' ∧ St F (spec_WeighedSquares_enc v26 v27 v28 v29 v30 y).2 H' ∧ (spec_WeighedSquares_enc v26 v27 v28 v29 v30 y).1.Ok F (spec_WeighedSquares_enc v26 v27 v28 v29 v30 y).2 :=
  fn_fin tok spec_WeighedSquares_hO mixed Try.func34 Try.call34 (by kernel_rfl) (LoopsOk_eq (l := [(0, bodyOf Try.f34 0)]) (by kernel_rfl) ⟨spec_WeighedSquares_l0_ok v26 v27 v28 v29 v30, trivial⟩) (spec_WeighedSquares_den v26 v27 v28 v29 v30) hy hm h0 hA
noncomputable def spec_WeighedSquares_F : DFn := fun args L =>
  match args with
  | [.agg [.int .i64 v26, .int .i64 v27, a1], a2, a3] =>
    optT (rowF32 L a1) fun v28 =>
    optT (rowF32 L a2) fun v29 =>
    optT (rowF32 L a3) fun v30 =>
    .call (spec_WeighedSquares_g v26 v27 v28 v29 v30) fun y => .sum y (fun y0 => .leaf (.tup [.nilslc, .lit false], L)) (fun z0 => .leaf (.tup [.own (L.length + 0) 0 ((z0).length), .lit true], L ++ [.row (.f32 z0) 0]))
  | _ => .fail
theorem spec_WeighedSquares_Fok : COk Try.prog 34 spec_WeighedSquares_F true := by
  intro F L H args r L' hs ha hr
  unfold spec_WeighedSquares_F at hr
  split at hr
  · rename_i v26 v27 a1 a2 a3
    obtain ⟨v28, hv28, hr⟩ := optT_run hr
    obtain ⟨v29, hv29, hr⟩ := optT_run hr
    obtain ⟨v30, hv30, hr⟩ := optT_run hr
    simp only [Tree.run] at hr
    obtain ⟨y, hy, hr⟩ := Option.bind_eq_some_iff.1 hr
    cases y with
    | inl y =>
      simp only [Tree.run, Option.some.injEq, Prod.mk.injEq] at hr
      obtain ⟨rfl, rfl⟩ := hr
      exact call_ok0 hs (fun k => (([a1.av F, a2.av F, a3.av F] : List AV)[k]?).getD .top) [.agg [.int .i64 v26, .int .i64 v27, a1], a2, a3] [.agg [.int .i64 v26, .int .i64 v27, .bslc (BR.root 0) (.f32 v28)], .bslc (BR.root 1) (.f32 v29), .bslc (BR.root 2) (.f32 v30)] (fun F' h0 hi hρ => ⟨by simp [DVs.av, DV.av, BR.av, hρ], spec_WeighedSquares_fn v26 v27 v28 v29 v30 F' (by rw [hi]; rfl) (st_nil hi) ⟨⟨trivial, trivial, bslc_ok hi (by rw [h0, hρ]; exact rowF32_ok hs (DVs.okAt (DVs.okAt ha 0 rfl) 2 rfl) hv28), trivial⟩, bslc_ok hi (by rw [h0, hρ]; exact rowF32_ok hs (DVs.okAt ha 1 rfl) hv29), bslc_ok hi (by rw [h0, hρ]; exact rowF32_ok hs (DVs.okAt ha 2 rfl) hv30), trivial⟩ hy⟩) rfl
    | inr y =>
      simp only [Tree.run, Option.some.injEq, Prod.mk.injEq] at hr
      obtain ⟨rfl, rfl⟩ := hr
      exact call_ok1 hs (fun k => (([a1.av F, a2.av F, a3.av F] : List AV)[k]?).getD .top) [.agg [.int .i64 v26, .int .i64 v27, a1], a2, a3] [.agg [.int .i64 v26, .int .i64 v27, .bslc (BR.root 0) (.f32 v28)], .bslc (BR.root 1) (.f32 v29), .bslc (BR.root 2) (.f32 v30)] (fun F' h0 hi hρ => ⟨by simp [DVs.av, DV.av, BR.av, hρ], spec_WeighedSquares_fn v26 v27 v28 v29 v30 F' (by rw [hi]; rfl) (st_nil hi) ⟨⟨trivial, trivial, bslc_ok hi (by rw [h0, hρ]; exact rowF32_ok hs (DVs.okAt (DVs.okAt ha 0 rfl) 2 rfl) hv28), trivial⟩, bslc_ok hi (by rw [h0, hρ]; exact rowF32_ok hs (DVs.okAt ha 1 rfl) hv29), bslc_ok hi (by rw [h0, hρ]; exact rowF32_ok hs (DVs.okAt ha 2 rfl) hv30), trivial⟩ hy⟩) rfl rfl
  · cases hr
/-! impl.inRange -/
noncomputable def impl_inRange_LO (v2009 : Int) (v2010 : Int) (v2011 : Int) : LOr := fun id e L =>
  match id with
  | _ => .fail
noncomputable def impl_inRange_tab : List (FuncId × DFn × Bool) := []
theorem impl_inRange_hO : OrcOk Try.prog (tabD impl_inRange_tab) (tabM impl_inRange_tab) := tabD_nil _
noncomputable def impl_inRange_T (v2009 : Int) (v2010 : Int) (v2011 : Int) : Tree (Bool) :=
  (.br (decide (v2010 ≤ v2009)) (
   .leaf (decide (v2009 ≤ v2011))
  ) (
   .leaf false
  ))

noncomputable def impl_inRange_g (v2009 : Int) (v2010 : Int) (v2011 : Int) : Option (Bool) := (impl_inRange_T v2009 v2010 v2011).run
def impl_inRange_enc (v2009 : Int) (v2010 : Int) (v2011 : Int) (y : Bool) : Rs := (.bool y, [])
theorem impl_inRange_den (v2009 : Int) (v2010 : Int) (v2011 : Int) : (den TT (tabD impl_inRange_tab) (tabM impl_inRange_tab) (impl_inRange_LO v2009 v2010 v2011) (codeOf Try.f94) ([.int .i64 v2009, .int .i64 v2010, .int .i64 v2011] ++ List.replicate (Try.f94.ntmps - ([.int .i64 v2009, .int .i64 v2010, .int .i64 v2011] : List DV).length) .undef) []).bind (retD TT Try.f94.results.toList 0) = (impl_inRange_T v2009 v2010 v2011).bind fun y => .leaf (impl_inRange_enc v2009 v2010 v2011 y) := by kernel_rfl
theorem impl_inRange_fn (v2009 : Int) (v2010 : Int) (v2011 : Int) (F : Fr) (hm : F.ids.length = 0) (h0 : St F [] F.H0) (hA : DVs.Ok F [] [.int .i64 v2009, .int .i64 v2010, .int .i64 v2011]) {y : Bool} (hy : impl_inRange_g v2009 v2010 v2011 = some y) : ∃ H', FnOk Try.prog 94 (DVs.av F [.int .i64 v2009, .int .i64 v2010, .int .i64 v2011]) F.H0 ((impl_inRange_enc v2009 v2010 v2011 y).1.av F) H' ∧ St F (impl_inRange_enc v2009 v2010 v2011 y).2 H' ∧ (impl_inRange_enc v2009 v2010 v2011 y).1.Ok F (impl_inRange_enc v2009 v2010 v2011 y).2 :=
  fn_fin tok impl_inRange_hO mixed Try.func94 Try.call94 (by kernel_rfl) (LoopsOk_eq (l := []) (by kernel_rfl) trivial) (impl_inRange_den v2009 v2010 v2011) hy hm h0 hA
def impl_inRange_v (v2009 : Int) (v2010 : Int) (v2011 : Int) : Bool :=
  if (decide (v2010 ≤ v2009)) = true then (
   decide (v2009 ≤ v2011)
  ) else (
   false
  )
theorem impl_inRange_tot (v2009 : Int) (v2010 : Int) (v2011 : Int) : impl_inRange_g v2009 v2010 v2011 = some (impl_inRange_v v2009 v2010 v2011) := by
  unfold impl_inRange_g impl_inRange_T impl_inRange_v
  simp only [Tree.run]
  repeat' (first | rfl | split)
noncomputable def impl_inRange_F : DFn := fun args L =>
  match args with
  | [.int .i64 v2009, .int .i64 v2010, .int .i64 v2011] =>
    .leaf (.bool (impl_inRange_v v2009 v2010 v2011), L)
  | _ => .fail
theorem impl_inRange_Fok : COk Try.prog 94 impl_inRange_F true := by
  intro F L H args r L' hs ha hr
  unfold impl_inRange_F at hr
  split at hr
  · rename_i v2009 v2010 v2011
    have hy := impl_inRange_tot v2009 v2010 v2011
    generalize impl_inRange_v v2009 v2010 v2011 = y at hy hr
    simp only [Tree.run, Option.some.injEq, Prod.mk.injEq] at hr
    obtain ⟨rfl, rfl⟩ := hr
    exact call_ok0 hs (fun k => (([] : List AV)[k]?).getD .top) [.int .i64 v2009, .int .i64 v2010, .int .i64 v2011] [.int .i64 v2009, .int .i64 v2010, .int .i64 v2011] (fun F' h0 hi hρ => ⟨by simp [DVs.av, DV.av, BR.av, hρ], impl_inRange_fn v2009 v2010 v2011 F' (by rw [hi]; rfl) (st_nil hi) ⟨trivial, trivial, trivial, trivial⟩ hy⟩) rfl
  · cases hr
/-! impl.isSide -/
noncomputable def impl_isSide_LO (v2008 : Int) : LOr := fun id e L =>
  match id with
  | _ => .fail
noncomputable def impl_isSide_tab : List (FuncId × DFn × Bool) := [(94, impl_inRange_F, true)]
theorem impl_isSide_hO : OrcOk Try.prog (tabD impl_isSide_tab) (tabM impl_isSide_tab) := tabD_cons impl_inRange_Fok (tabD_nil _)
noncomputable def impl_isSide_T (v2008 : Int) : Tree (Bool) :=
  .leaf (impl_inRange_v v2008 (1 : Int) (12 : Int))

noncomputable def impl_isSide_g (v2008 : Int) : Option (Bool) := (impl_isSide_T v2008).run
def impl_isSide_enc (v2008 : Int) (y : Bool) : Rs := (.bool y, [])
theorem impl_isSide_den (v2008 : Int) : (den TT (tabD impl_isSide_tab) (tabM impl_isSide_tab) (impl_isSide_LO v2008) (codeOf Try.f146) ([.int .i64 v2008] ++ List.replicate (Try.f146.ntmps - ([.int .i64 v2008] : List DV).length) .undef) []).bind (retD TT Try.f146.results.toList 0) = (impl_isSide_T v2008).bind fun y => .leaf (impl_isSide_enc v2008 y) := by kernel_rfl
theorem impl_isSide_fn (v2008 : Int) (F : Fr) (hm : F.ids.length = 0) (h0 : St F [] F.H0) (hA : DVs.Ok F [] [.int .i64 v2008]) {y : Bool} (hy : impl_isSide_g v2008 = some y) : ∃ H', FnOk Try.prog 146 (DVs.av F [.int .i64 v2008]) F.H0 ((impl_isSide_enc v2008 y).1.av F) H' ∧ St F (impl_isSide_enc v2008 y).2 H' ∧ (impl_isSide_enc v2008 y).1.Ok F (impl_isSide_enc v2008 y).2 :=
  fn_fin tok impl_isSide_hO mixed Try.func146 Try.call146 (by kernel_rfl) (LoopsOk_eq (l := []) (by kernel_rfl) trivial) (impl_isSide_den v2008) hy hm h0 hA
def impl_isSide_v (v2008 : Int) : Bool :=
  (impl_inRange_v v2008 (1 : Int) (12 : Int))
theorem impl_isSide_tot (v2008 : Int) : impl_isSide_g v2008 = some (impl_isSide_v v2008) := by
  unfold impl_isSide_g impl_isSide_T impl_isSide_v
  simp only [Tree.run]
  repeat' (first | rfl | split)
noncomputable def impl_isSide_F : DFn := fun args L =>
  match args with
  | [.int .i64 v2008] =>
    .leaf (.bool (impl_isSide_v v2008), L)
  | _ => .fail
theorem impl_isSide_Fok : COk Try.prog 146 impl_isSide_F true := by
  intro F L H args r L' hs ha hr
  unfold impl_isSide_F at hr
  split at hr
  · rename_i v2008
    have hy := impl_isSide_tot v2008
    generalize impl_isSide_v v2008 = y at hy hr
    simp only [Tree.run, Option.some.injEq, Prod.mk.injEq] at hr
    obtain ⟨rfl, rfl⟩ := hr
    exact call_ok0 hs (fun k => (([] : List AV)[k]?).getD .top) [.int .i64 v2008] [.int .i64 v2008] (fun F' h0 hi hρ => ⟨by simp [DVs.av, DV.av, BR.av, hρ], impl_isSide_fn v2008 F' (by rw [hi]; rfl) (st_nil hi) ⟨trivial, trivial⟩ hy⟩) rfl
  · cases hr
/-! impl.length[float32] -/
noncomputable def impl_lengthF_LO (v2012 : List Nat) : LOr := fun id e L =>
  match id with
  | _ => .fail
noncomputable def impl_lengthF_tab : List (FuncId × DFn × Bool) := []
theorem impl_lengthF_hO : OrcOk Try.prog (tabD impl_lengthF_tab) (tabM impl_lengthF_tab) := tabD_nil _
noncomputable def impl_lengthF_T (v2012 : List Nat) : Tree (Int) :=
  .leaf ((v2012.length : Nat) : Int)

noncomputable def impl_lengthF_g (v2012 : List Nat) : Option (Int) := (impl_lengthF_T v2012).run
def impl_lengthF_enc (v2012 : List Nat) (y : Int) : Rs := (.int .i64 y, [])
theorem impl_lengthF_den (v2012 : List Nat) : (den TT (tabD impl_lengthF_tab) (tabM impl_lengthF_tab) (impl_lengthF_LO v2012) (codeOf Try.f82) ([.bslc (BR.root 0) (.f32 v2012)] ++ List.replicate (Try.f82.ntmps - ([.bslc (BR.root 0) (.f32 v2012)] : List DV).length) .undef) []).bind (retD TT Try.f82.results.toList 0) = (impl_lengthF_T v2012).bind fun y => .leaf (impl_lengthF_enc v2012 y) := by kernel_rfl
theorem impl_lengthF_fn (v2012 : List Nat) (F : Fr) (hm : F.ids.length = 0) (h0 : St F [] F.H0) (hA : DVs.Ok F [] [.bslc (BR.root 0) (.f32 v2012)]) {y : Int} (hy : impl_lengthF_g v2012 = some y) : ∃ H', FnOk Try.prog 82 (DVs.av F [.bslc (BR.root 0) (.f32 v2012)]) F.H0 ((impl_lengthF_enc v2012 y).1.av F) H' ∧ St F (impl_lengthF_enc v2012 y).2 H' ∧ (impl_lengthF_enc v2012 y).1.Ok F (impl_lengthF_enc v2012 y).2 :=
  fn_fin tok impl_lengthF_hO mixed Try.func82 Try.call82 (by kernel_rfl) (LoopsOk_eq (l := []) (by kernel_rfl) trivial) (impl_lengthF_den v2012) hy hm h0 hA
def impl_lengthF_v (v2012 : List Nat) : Int :=
  ((v2012.length : Nat) : Int)
theorem impl_lengthF_tot (v2012 : List Nat) : impl_lengthF_g v2012 = some (impl_lengthF_v v2012) := by
  unfold impl_lengthF_g impl_lengthF_T impl_lengthF_v
  simp only [Tree.run]
  repeat' (first | rfl | split)
noncomputable def impl_lengthF_F : DFn := fun args L =>
  match args with
  | [a1] =>
    optT (rowF32 L a1) fun v2012 =>
    .leaf (.int .i64 (impl_lengthF_v v2012), L)
  | _ => .fail
theorem impl_lengthF_Fok : COk Try.prog 82 impl_lengthF_F true := by
  intro F L H args r L' hs ha hr
  unfold impl_lengthF_F at hr
  split at hr
  · rename_i a1
    obtain ⟨v2012, hv2012, hr⟩ := optT_run hr
    have hy := impl_lengthF_tot v2012
    generalize impl_lengthF_v v2012 = y at hy hr
    simp only [Tree.run, Option.some.injEq, Prod.mk.injEq] at hr
    obtain ⟨rfl, rfl⟩ := hr
    exact call_ok0 hs (fun k => (([a1.av F] : List AV)[k]?).getD .top) [a1] [.bslc (BR.root 0) (.f32 v2012)] (fun F' h0 hi hρ => ⟨by simp [DVs.av, DV.av, BR.av, hρ], impl_lengthF_fn v2012 F' (by rw [hi]; rfl) (st_nil hi) ⟨bslc_ok hi (by rw [h0, hρ]; exact rowF32_ok hs (DVs.okAt ha 0 rfl) hv2012), trivial⟩ hy⟩) rfl
  · cases hr
/-! math.IsNaN -/
noncomputable def math_IsNaN_LO (v2020 : Nat) : LOr := fun id e L =>
  match id with
  | _ => .fail
noncomputable def math_IsNaN_tab : List (FuncId × DFn × Bool) := []
theorem math_IsNaN_hO : OrcOk Try.prog (tabD math_IsNaN_tab) (tabM math_IsNaN_tab) := tabD_nil _
noncomputable def math_IsNaN_T (v2020 : Nat) : Tree (Bool) :=
  .leaf (!feq .f64 v2020 v2020)

noncomputable def math_IsNaN_g (v2020 : Nat) : Option (Bool) := (math_IsNaN_T v2020).run
def math_IsNaN_enc (v2020 : Nat) (y : Bool) : Rs := (.bool y, [])
theorem math_IsNaN_den (v2020 : Nat) : (den TT (tabD math_IsNaN_tab) (tabM math_IsNaN_tab) (math_IsNaN_LO v2020) (codeOf Try.f156) ([.flt .f64 v2020] ++ List.replicate (Try.f156.ntmps - ([.flt .f64 v2020] : List DV).length) .undef) []).bind (retD TT Try.f156.results.toList 0) = (math_IsNaN_T v2020).bind fun y => .leaf (math_IsNaN_enc v2020 y) := by kernel_rfl
theorem math_IsNaN_fn (v2020 : Nat) (F : Fr) (hm : F.ids.length = 0) (h0 : St F [] F.H0) (hA : DVs.Ok F [] [.flt .f64 v2020]) {y : Bool} (hy : math_IsNaN_g v2020 = some y) : ∃ H', FnOk Try.prog 156 (DVs.av F [.flt .f64 v2020]) F.H0 ((math_IsNaN_enc v2020 y).1.av F) H' ∧ St F (math_IsNaN_enc v2020 y).2 H' ∧ (math_IsNaN_enc v2020 y).1.Ok F (math_IsNaN_enc v2020 y).2 :=
  fn_fin tok math_IsNaN_hO mixed Try.func156 Try.call156 (by kernel_rfl) (LoopsOk_eq (l := []) (by kernel_rfl) trivial) (math_IsNaN_den v2020) hy hm h0 hA
def math_IsNaN_v (v2020 : Nat) : Bool :=
  !feq .f64 v2020 v2020
theorem math_IsNaN_tot (v2020 : Nat) : math_IsNaN_g v2020 = some (math_IsNaN_v v2020) := by
  unfold math_IsNaN_g math_IsNaN_T math_IsNaN_v
  simp only [Tree.run]
  repeat' (first | rfl | split)
noncomputable def math_IsNaN_F : DFn := fun args L =>
  match args with
  | [.flt .f64 v2020] =>
    .leaf (.bool (math_IsNaN_v v2020), L)
  | _ => .fail
theorem math_IsNaN_Fok : COk Try.prog 156 math_IsNaN_F true := by
  intro F L H args r L' hs ha hr
  unfold math_IsNaN_F at hr
  split at hr
  · rename_i v2020
    have hy := math_IsNaN_tot v2020
    generalize math_IsNaN_v v2020 = y at hy hr
    simp only [Tree.run, Option.some.injEq, Prod.mk.injEq] at hr
    obtain ⟨rfl, rfl⟩ := hr
    exact call_ok0 hs (fun k => (([] : List AV)[k]?).getD .top) [.flt .f64 v2020] [.flt .f64 v2020] (fun F' h0 hi hρ => ⟨by simp [DVs.av, DV.av, BR.av, hρ], math_IsNaN_fn v2020 F' (by rw [hi]; rfl) (st_nil hi) ⟨trivial, trivial⟩ hy⟩) rfl
  · cases hr
/-! math.IsInf -/
noncomputable def math_IsInf_LO (v2021 : Nat) (v2022 : Int) : LOr := fun id e L =>
  match id with
  | _ => .fail
noncomputable def math_IsInf_tab : List (FuncId × DFn × Bool) := [(175, Abs_F, true)]
theorem math_IsInf_hO : OrcOk Try.prog (tabD math_IsInf_tab) (tabM math_IsInf_tab) := tabD_cons Abs_Fok (tabD_nil _)
noncomputable def math_IsInf_T (v2021 : Nat) (v2022 : Int) : Tree (Bool) :=
  (.br (decide (v2022 = (0 : Int))) (
   .leaf (fgrt .f64 (fabs v2021) (9218868437227405311 : Nat))
  ) (
   (.br (decide (v2022 < (0 : Int))) (
    .leaf (fgrt .f64 (fneg .f64 v2021) (9218868437227405311 : Nat))
   ) (
    .leaf (fgrt .f64 v2021 (9218868437227405311 : Nat))
   ))
  ))

noncomputable def math_IsInf_g (v2021 : Nat) (v2022 : Int) : Option (Bool) := (math_IsInf_T v2021 v2022).run
def math_IsInf_enc (v2021 : Nat) (v2022 : Int) (y : Bool) : Rs := (.bool y, [])
theorem math_IsInf_den (v2021 : Nat) (v2022 : Int) : (den TT (tabD math_IsInf_tab) (tabM math_IsInf_tab) (math_IsInf_LO v2021 v2022) (codeOf Try.f157) ([.flt .f64 v2021, .int .i64 v2022] ++ List.replicate (Try.f157.ntmps - ([.flt .f64 v2021, .int .i64 v2022] : List DV).length) .undef) []).bind (retD TT Try.f157.results.toList 0) = (math_IsInf_T v2021 v2022).bind fun y => .leaf (math_IsInf_enc v2021 v2022 y) := by kernel_rfl
theorem math_IsInf_fn (v2021 : Nat) (v2022 : Int) (F : Fr) (hm : F.ids.length = 0) (h0 : St F [] F.H0) (hA : DVs.Ok F [] [.flt .f64 v2021, .int .i64 v2022]) {y : Bool} (hy : math_IsInf_g v2021 v2022 = some y) : ∃ H', FnOk Try.prog 157 (DVs.av F [.flt .f64 v2021, .int .i64 v2022]) F.H0 ((math_IsInf_enc v2021 v2022 y).1.av F) H' ∧ St F (math_IsInf_enc v2021 v2022 y).2 H' ∧ (math_IsInf_enc v2021 v2022 y).1.Ok F (math_IsInf_enc v2021 v2022 y).2 :=
  fn_fin tok math_IsInf_hO mixed Try.func157 Try.call157 (by kernel_rfl) (LoopsOk_eq (l := []) (by kernel_rfl) trivial) (math_IsInf_den v2021 v2022) hy hm h0 hA
def math_IsInf_v (v2021 : Nat) (v2022 : Int) : Bool :=
  if (decide (v2022 = (0 : Int))) = true then (
   fgrt .f64 (fabs v2021) (9218868437227405311 : Nat)
  ) else (
   if (decide (v2022 < (0 : Int))) = true then (
    fgrt .f64 (fneg .f64 v2021) (9218868437227405311 : Nat)
   ) else (
    fgrt .f64 v2021 (9218868437227405311 : Nat)
   )
  )
theorem math_IsInf_tot (v2021 : Nat) (v2022 : Int) : math_IsInf_g v2021 v2022 = some (math_IsInf_v v2021 v2022) := by
  unfold math_IsInf_g math_IsInf_T math_IsInf_v
  simp only [Tree.run]
  repeat' (first | rfl | split)
noncomputable def math_IsInf_F : DFn := fun args L =>
  match args with
  | [.flt .f64 v2021, .int .i64 v2022] =>
    .leaf (.bool (math_IsInf_v v2021 v2022), L)
  | _ => .fail
theorem math_IsInf_Fok : COk Try.prog 157 math_IsInf_F true := by
  intro F L H args r L' hs ha hr
  unfold math_IsInf_F at hr
  split at hr
  · rename_i v2021 v2022
    have hy := math_IsInf_tot v2021 v2022
    generalize math_IsInf_v v2021 v2022 = y at hy hr
    simp only [Tree.run, Option.some.injEq, Prod.mk.injEq] at hr
    obtain ⟨rfl, rfl⟩ := hr
    exact call_ok0 hs (fun k => (([] : List AV)[k]?).getD .top) [.flt .f64 v2021, .int .i64 v2022] [.flt .f64 v2021, .int .i64 v2022] (fun F' h0 hi hρ => ⟨by simp [DVs.av, DV.av, BR.av, hρ], math_IsInf_fn v2021 v2022 F' (by rw [hi]; rfl) (st_nil hi) ⟨trivial, trivial, trivial⟩ hy⟩) rfl
  · cases hr
/-! impl.isFinite64 -/
noncomputable def impl_isFinite64_LO (v2019 : Nat) : LOr := fun id e L =>
  match id with
  | _ => .fail
noncomputable def impl_isFinite64_tab : List (FuncId × DFn × Bool) := [(156, math_IsNaN_F, true), (157, math_IsInf_F, true)]
theorem impl_isFinite64_hO : OrcOk Try.prog (tabD impl_isFinite64_tab) (tabM impl_isFinite64_tab) := tabD_cons math_IsNaN_Fok (tabD_cons math_IsInf_Fok (tabD_nil _))
noncomputable def impl_isFinite64_T (v2019 : Nat) : Tree (Bool) :=
  (.br (!(math_IsNaN_v v2019)) (
   .leaf (!(math_IsInf_v v2019 (0 : Int)))
  ) (
   .leaf false
  ))

noncomputable def impl_isFinite64_g (v2019 : Nat) : Option (Bool) := (impl_isFinite64_T v2019).run
def impl_isFinite64_enc (v2019 : Nat) (y : Bool) : Rs := (.bool y, [])
theorem impl_isFinite64_den (v2019 : Nat) : (den TT (tabD impl_isFinite64_tab) (tabM impl_isFinite64_tab) (impl_isFinite64_LO v2019) (codeOf Try.f114) ([.flt .f64 v2019] ++ List.replicate (Try.f114.ntmps - ([.flt .f64 v2019] : List DV).length) .undef) []).bind (retD TT Try.f114.results.toList 0) = (impl_isFinite64_T v2019).bind fun y => .leaf (impl_isFinite64_enc v2019 y) := by kernel_rfl
theorem impl_isFinite64_fn (v2019 : Nat) (F : Fr) (hm : F.ids.length = 0) (h0 : St F [] F.H0) (hA : DVs.Ok F [] [.flt .f64 v2019]) {y : Bool} (hy : impl_isFinite64_g v2019 = some y) : ∃ H', FnOk Try.prog 114 (DVs.av F [.flt .f64 v2019]) F.H0 ((impl_isFinite64_enc v2019 y).1.av F) H' ∧ St F (impl_isFinite64_enc v2019 y).2 H' ∧ (impl_isFinite64_enc v2019 y).1.Ok F (impl_isFinite64_enc v2019 y).2 :=
  fn_fin tok impl_isFinite64_hO mixed Try.func114 Try.call114 (by kernel_rfl) (LoopsOk_eq (l := []) (by kernel_rfl) trivial) (impl_isFinite64_den v2019) hy hm h0 hA
def impl_isFinite64_v (v2019 : Nat) : Bool :=
  if (!(math_IsNaN_v v2019)) = true then (
   !(math_IsInf_v v2019 (0 : Int))
  ) else (
   false
  )
theorem impl_isFinite64_tot (v2019 : Nat) : impl_isFinite64_g v2019 = some (impl_isFinite64_v v2019) := by
  unfold impl_isFinite64_g impl_isFinite64_T impl_isFinite64_v
  simp only [Tree.run]
  repeat' (first | rfl | split)
noncomputable def impl_isFinite64_F : DFn := fun args L =>
  match args with
  | [.flt .f64 v2019] =>
    .leaf (.bool (impl_isFinite64_v v2019), L)
  | _ => .fail
theorem impl_isFinite64_Fok : COk Try.prog 114 impl_isFinite64_F true := by
  intro F L H args r L' hs ha hr
  unfold impl_isFinite64_F at hr
  split at hr
  · rename_i v2019
    have hy := impl_isFinite64_tot v2019
    generalize impl_isFinite64_v v2019 = y at hy hr
    simp only [Tree.run, Option.some.injEq, Prod.mk.injEq] at hr
    obtain ⟨rfl, rfl⟩ := hr
    exact call_ok0 hs (fun k => (([] : List AV)[k]?).getD .top) [.flt .f64 v2019] [.flt .f64 v2019] (fun F' h0 hi hρ => ⟨by simp [DVs.av, DV.av, BR.av, hρ], impl_isFinite64_fn v2019 F' (by rw [hi]; rfl) (st_nil hi) ⟨trivial, trivial⟩ hy⟩) rfl
  · cases hr
/-! impl.IsFinite -/
noncomputable def impl_IsFinite_LO (v2018 : Nat) : LOr := fun id e L =>
  match id with
  | _ => .fail
noncomputable def impl_IsFinite_tab : List (FuncId × DFn × Bool) := [(114, impl_isFinite64_F, true)]
theorem impl_IsFinite_hO : OrcOk Try.prog (tabD impl_IsFinite_tab) (tabM impl_IsFinite_tab) := tabD_cons impl_isFinite64_Fok (tabD_nil _)
noncomputable def impl_IsFinite_T (v2018 : Nat) : Tree (Bool) :=
  .leaf (impl_isFinite64_v (wid v2018))

noncomputable def impl_IsFinite_g (v2018 : Nat) : Option (Bool) := (impl_IsFinite_T v2018).run
def impl_IsFinite_enc (v2018 : Nat) (y : Bool) : Rs := (.bool y, [])
theorem impl_IsFinite_den (v2018 : Nat) : (den TT (tabD impl_IsFinite_tab) (tabM impl_IsFinite_tab) (impl_IsFinite_LO v2018) (codeOf Try.f43) ([.flt .f32 v2018] ++ List.replicate (Try.f43.ntmps - ([.flt .f32 v2018] : List DV).length) .undef) []).bind (retD TT Try.f43.results.toList 0) = (impl_IsFinite_T v2018).bind fun y => .leaf (impl_IsFinite_enc v2018 y) := by kernel_rfl
theorem impl_IsFinite_fn (v2018 : Nat) (F : Fr) (hm : F.ids.length = 0) (h0 : St F [] F.H0) (hA : DVs.Ok F [] [.flt .f32 v2018]) {y : Bool} (hy : impl_IsFinite_g v2018 = some y) : ∃ H', FnOk Try.prog 43 (DVs.av F [.flt .f32 v2018]) F.H0 ((impl_IsFinite_enc v2018 y).1.av F) H' ∧ St F (impl_IsFinite_enc v2018 y).2 H' ∧ (impl_IsFinite_enc v2018 y).1.Ok F (impl_IsFinite_enc v2018 y).2 :=
  fn_fin tok impl_IsFinite_hO mixed Try.func43 Try.call43 (by kernel_rfl) (LoopsOk_eq (l := []) (by kernel_rfl) trivial) (impl_IsFinite_den v2018) hy hm h0 hA
def impl_IsFinite_v (v2018 : Nat) : Bool :=
  (impl_isFinite64_v (wid v2018))
theorem impl_IsFinite_tot (v2018 : Nat) : impl_IsFinite_g v2018 = some (impl_IsFinite_v v2018) := by
  unfold impl_IsFinite_g impl_IsFinite_T impl_IsFinite_v
  simp only [Tree.run]
  repeat' (first | rfl | split)
noncomputable def impl_IsFinite_F : DFn := fun args L =>
  match args with
  | [.flt .f32 v2018] =>
    .leaf (.bool (impl_IsFinite_v v2018), L)
  | _ => .fail
theorem impl_IsFinite_Fok : COk Try.prog 43 impl_IsFinite_F true := by
  intro F L H args r L' hs ha hr
  unfold impl_IsFinite_F at hr
  split at hr
  · rename_i v2018
    have hy := impl_IsFinite_tot v2018
    generalize impl_IsFinite_v v2018 = y at hy hr
    simp only [Tree.run, Option.some.injEq, Prod.mk.injEq] at hr
    obtain ⟨rfl, rfl⟩ := hr
    exact call_ok0 hs (fun k => (([] : List AV)[k]?).getD .top) [.flt .f32 v2018] [.flt .f32 v2018] (fun F' h0 hi hρ => ⟨by simp [DVs.av, DV.av, BR.av, hρ], impl_IsFinite_fn v2018 F' (by rw [hi]; rfl) (st_nil hi) ⟨trivial, trivial⟩ hy⟩) rfl
  · cases hr
/-! impl.areFinite$1 -/
noncomputable def impl_areFinite_1_LO (v2017 : Nat) : LOr := fun id e L =>
  match id with
  | _ => .fail
noncomputable def impl_areFinite_1_tab : List (FuncId × DFn × Bool) := [(43, impl_IsFinite_F, true)]
theorem impl_areFinite_1_hO : OrcOk Try.prog (tabD impl_areFinite_1_tab) (tabM impl_areFinite_1_tab) := tabD_cons impl_IsFinite_Fok (tabD_nil _)
noncomputable def impl_areFinite_1_T (v2017 : Nat) : Tree (Bool) :=
  .leaf (!(impl_IsFinite_v v2017))

noncomputable def impl_areFinite_1_g (v2017 : Nat) : Option (Bool) := (impl_areFinite_1_T v2017).run
def impl_areFinite_1_enc (v2017 : Nat) (y : Bool) : Rs := (.bool y, [])
theorem impl_areFinite_1_den (v2017 : Nat) : (den TT (tabD impl_areFinite_1_tab) (tabM impl_areFinite_1_tab) (impl_areFinite_1_LO v2017) (codeOf Try.f113) ([.flt .f32 v2017] ++ List.replicate (Try.f113.ntmps - ([.flt .f32 v2017] : List DV).length) .undef) []).bind (retD TT Try.f113.results.toList 0) = (impl_areFinite_1_T v2017).bind fun y => .leaf (impl_areFinite_1_enc v2017 y) := by kernel_rfl
theorem impl_areFinite_1_fn (v2017 : Nat) (F : Fr) (hm : F.ids.length = 0) (h0 : St F [] F.H0) (hA : DVs.Ok F [] [.flt .f32 v2017]) {y : Bool} (hy : impl_areFinite_1_g v2017 = some y) : ∃ H', FnOk Try.prog 113 (DVs.av F [.flt .f32 v2017]) F.H0 ((impl_areFinite_1_enc v2017 y).1.av F) H' ∧ St F (impl_areFinite_1_enc v2017 y).2 H' ∧ (impl_areFinite_1_enc v2017 y).1.Ok F (impl_areFinite_1_enc v2017 y).2 :=
  fn_fin tok impl_areFinite_1_hO mixed Try.func113 Try.call113 (by kernel_rfl) (LoopsOk_eq (l := []) (by kernel_rfl) trivial) (impl_areFinite_1_den v2017) hy hm h0 hA
def impl_areFinite_1_v (v2017 : Nat) : Bool :=
  !(impl_IsFinite_v v2017)
theorem impl_areFinite_1_tot (v2017 : Nat) : impl_areFinite_1_g v2017 = some (impl_areFinite_1_v v2017) := by
  unfold impl_areFinite_1_g impl_areFinite_1_T impl_areFinite_1_v
  simp only [Tree.run]
  repeat' (first | rfl | split)
noncomputable def impl_areFinite_1_F : DFn := fun args L =>
  match args with
  | [.flt .f32 v2017] =>
    .leaf (.bool (impl_areFinite_1_v v2017), L)
  | _ => .fail
theorem impl_areFinite_1_Fok : COk Try.prog 113 impl_areFinite_1_F true := by
  intro F L H args r L' hs ha hr
  unfold impl_areFinite_1_F at hr
  split at hr
  · rename_i v2017
    have hy := impl_areFinite_1_tot v2017
    generalize impl_areFinite_1_v v2017 = y at hy hr
    simp only [Tree.run, Option.some.injEq, Prod.mk.injEq] at hr
    obtain ⟨rfl, rfl⟩ := hr
    exact call_ok0 hs (fun k => (([] : List AV)[k]?).getD .top) [.flt .f32 v2017] [.flt .f32 v2017] (fun F' h0 hi hρ => ⟨by simp [DVs.av, DV.av, BR.av, hρ], impl_areFinite_1_fn v2017 F' (by rw [hi]; rfl) (st_nil hi) ⟨trivial, trivial⟩ hy⟩) rfl
  · cases hr
/-! slices.IndexFunc[list of float32,float32] -/
noncomputable def slices_IndexFuncF_l0_T (v2015 : List Nat) (s : Int) : Tree ((Int) ⊕ ((Int) ⊕ (Unit))) :=
  (.br (decide (s < ((v2015.length : Nat) : Int))) (
   (.grd (inb s v2015.length) <|
   (.br (impl_areFinite_1_v (nth v2015 (Int.toNat s))) (
    .leaf (.inr (.inl s))
   ) (
    .leaf (.inl (IntKind.i64.wrap (s + (1 : Int))))
   )))
  ) (
   .leaf (.inr (.inr ()))
  ))

noncomputable def slices_IndexFuncF_l0_g (v2015 : List Nat) (s0 : Int) : Option ((Int) ⊕ (Unit)) := whileM (fun s => (slices_IndexFuncF_l0_T v2015 s).run) s0
def slices_IndexFuncF_l0_E (v2015 : List Nat) (s : Int) : Sd := ([.bslc (BR.root 0) (.f32 v2015), .fn 113 [], .top, .top, .top, .top, .top, .int .i64 ((v2015.length : Nat) : Int), .int .i64 s, .top, .top, .top, .top, .top, .top, .top, .top, .top, .top], [])
def slices_IndexFuncF_l0_X (v2015 : List Nat) (x : (Int) ⊕ (Unit)) : Out := (match x with | .inl x => (.ret, [.top, .top, .top, .top, .int .i64 x, .top, .top, .top, .top, .top, .top, .top, .top, .top, .top, .top, .top, .top, .top], []) | .inr x => (.normal, [.top, .top, .top, .top, .top, .top, .top, .top, .top, .top, .top, .top, .top, .top, .top, .top, .top, .top, .top], []))
def slices_IndexFuncF_l0_kill : List Nat := [0, 0, 1, 1, 1, 1, 1, 0, 0, 1, 1, 1, 1, 1, 1, 1, 1, 1, 1]
def slices_IndexFuncF_l0_nx : Exit → List Nat
  | .exit 0 => [1, 1, 1, 1, 1, 1, 1, 1, 1, 1, 1, 1, 1, 1, 1, 1, 1, 1, 1]
  | .ret => [1, 1, 1, 1, 0, 1, 1, 1, 1, 1, 1, 1, 1, 1, 1, 1, 1, 1, 1]
  | _ => []
noncomputable def slices_IndexFuncF_LO (v2015 : List Nat) : LOr := fun id e L =>
  match id with
  | 0 => .need (normA 0 slices_IndexFuncF_l0_kill e L = some (slices_IndexFuncF_l0_E v2015 (gI (vAt e 8)))) (.call (slices_IndexFuncF_l0_g v2015 (gI (vAt e 8))) fun x => .sum x (fun b0 => .leaf (slices_IndexFuncF_l0_X v2015 (.inl b0))) (fun c0 => .leaf (slices_IndexFuncF_l0_X v2015 (.inr c0))))
  | _ => .fail
noncomputable def slices_IndexFuncF_tab : List (FuncId × DFn × Bool) := [(113, impl_areFinite_1_F, true)]
theorem slices_IndexFuncF_hO : OrcOk Try.prog (tabD slices_IndexFuncF_tab) (tabM slices_IndexFuncF_tab) := tabD_cons impl_areFinite_1_Fok (tabD_nil _)
theorem slices_IndexFuncF_l0_be (v2015 : List Nat) (s : Int) : bodyT TT (tabD slices_IndexFuncF_tab) (tabM slices_IndexFuncF_tab) (slices_IndexFuncF_LO v2015) 0 slices_IndexFuncF_l0_kill slices_IndexFuncF_l0_nx (bodyOf Try.f152 0) 0 (slices_IndexFuncF_l0_E v2015 s) = (slices_IndexFuncF_l0_T v2015 s).bind fun y => .leaf (outS (slices_IndexFuncF_l0_E v2015) (slices_IndexFuncF_l0_X v2015) y) := by kernel_rfl
theorem slices_IndexFuncF_l0_ok (v2015 : List Nat) : LSound Try.prog 0 (slices_IndexFuncF_LO v2015) 0 (bodyOf Try.f152 0) := by
  intro e L out h
  exact lo_ok (E := slices_IndexFuncF_l0_E v2015) (gT := slices_IndexFuncF_l0_T v2015) (X := slices_IndexFuncF_l0_X v2015) (s0 := (gI (vAt e 8))) tok slices_IndexFuncF_hO mixed (LoopsOk_eq (l := []) (by kernel_rfl) trivial) (slices_IndexFuncF_l0_be v2015) rfl (by intro x; (cases x with | inl b => rfl | inr x => exact rfl)) h
noncomputable def slices_IndexFuncF_T (v2015 : List Nat) : Tree (Int) :=
  (.need (some (slices_IndexFuncF_l0_E v2015 (0 : Int)) = some (slices_IndexFuncF_l0_E v2015 (0 : Int))) <|
  (.call (slices_IndexFuncF_l0_g v2015 (0 : Int)) fun v2025 =>
  (.sum v2025 (fun v2026 =>
   .leaf v2026
  ) (fun v2027 =>
   .leaf (-1 : Int)
  ))))

noncomputable def slices_IndexFuncF_g (v2015 : List Nat) : Option (Int) := (slices_IndexFuncF_T v2015).run
def slices_IndexFuncF_enc (v2015 : List Nat) (y : Int) : Rs := (.int .i64 y, [])
theorem slices_IndexFuncF_den (v2015 : List Nat) : (den TT (tabD slices_IndexFuncF_tab) (tabM slices_IndexFuncF_tab) (slices_IndexFuncF_LO v2015) (codeOf Try.f152) ([.bslc (BR.root 0) (.f32 v2015), .fn 113 []] ++ List.replicate (Try.f152.ntmps - ([.bslc (BR.root 0) (.f32 v2015), .fn 113 []] : List DV).length) .undef) []).bind (retD TT Try.f152.results.toList 0) = (slices_IndexFuncF_T v2015).bind fun y => .leaf (slices_IndexFuncF_enc v2015 y) := by kernel_rfl
theorem slices_IndexFuncF_fn (v2015 : List Nat) (F : Fr) (hm : F.ids.length = 0) (h0 : St F [] F.H0) (hA : DVs.Ok F [] [.bslc (BR.root 0) (.f32 v2015), .fn 113 []]) {y : Int} (hy : slices_IndexFuncF_g v2015 = some y) : ∃ H', FnOk Try.prog 152 (DVs.av F [.bslc (BR.root 0) (.f32 v2015), .fn 113 []]) F.H0 ((slices_IndexFuncF_enc v2015 y).1.av F) H' ∧ St F (slices_IndexFuncF_enc v2015 y).2 H' ∧ (slices_IndexFuncF_enc v2015 y).1.Ok F (slices_IndexFuncF_enc v2015 y).2 :=
  fn_fin tok slices_IndexFuncF_hO mixed Try.func152 Try.call152 (by kernel_rfl) (LoopsOk_eq (l := [(0, bodyOf Try.f152 0)]) (by kernel_rfl) ⟨slices_IndexFuncF_l0_ok v2015, trivial⟩) (slices_IndexFuncF_den v2015) hy hm h0 hA
noncomputable def slices_IndexFuncF_F : DFn := fun args L =>
  match args with
  | [a1, .fn 113 []] =>
    optT (rowF32 L a1) fun v2015 =>
    .call (slices_IndexFuncF_g v2015) fun y => .leaf (.int .i64 y, L)
  | _ => .fail
theorem slices_IndexFuncF_Fok : COk Try.prog 152 slices_IndexFuncF_F true := by
  intro F L H args r L' hs ha hr
  unfold slices_IndexFuncF_F at hr
  split at hr
  · rename_i a1
    obtain ⟨v2015, hv2015, hr⟩ := optT_run hr
    simp only [Tree.run] at hr
    obtain ⟨y, hy, hr⟩ := Option.bind_eq_some_iff.1 hr
    simp only [Tree.run, Option.some.injEq, Prod.mk.injEq] at hr
    obtain ⟨rfl, rfl⟩ := hr
    exact call_ok0 hs (fun k => (([a1.av F] : List AV)[k]?).getD .top) [a1, .fn 113 []] [.bslc (BR.root 0) (.f32 v2015), .fn 113 []] (fun F' h0 hi hρ => ⟨by simp [DVs.av, DV.av, BR.av, hρ], slices_IndexFuncF_fn v2015 F' (by rw [hi]; rfl) (st_nil hi) ⟨bslc_ok hi (by rw [h0, hρ]; exact rowF32_ok hs (DVs.okAt ha 0 rfl) hv2015), trivial, trivial⟩ hy⟩) rfl
  · cases hr
/-! slices.ContainsFunc[list of float32,float32] -/
noncomputable def slices_ContainsFuncF_LO (v2014 : List Nat) : LOr := fun id e L =>
  match id with
  | _ => .fail
noncomputable def slices_ContainsFuncF_tab : List (FuncId × DFn × Bool) := [(152, slices_IndexFuncF_F, true)]
theorem slices_ContainsFuncF_hO : OrcOk Try.prog (tabD slices_ContainsFuncF_tab) (tabM slices_ContainsFuncF_tab) := tabD_cons slices_IndexFuncF_Fok (tabD_nil _)
noncomputable def slices_ContainsFuncF_T (v2014 : List Nat) : Tree (Bool) :=
  (.call (slices_IndexFuncF_g v2014) fun v2028 =>
  .leaf (decide ((0 : Int) ≤ v2028)))

noncomputable def slices_ContainsFuncF_g (v2014 : List Nat) : Option (Bool) := (slices_ContainsFuncF_T v2014).run
def slices_ContainsFuncF_enc (v2014 : List Nat) (y : Bool) : Rs := (.bool y, [])
theorem slices_ContainsFuncF_den (v2014 : List Nat) : (den TT (tabD slices_ContainsFuncF_tab) (tabM slices_ContainsFuncF_tab) (slices_ContainsFuncF_LO v2014) (codeOf Try.f107) ([.bslc (BR.root 0) (.f32 v2014), .fn 113 []] ++ List.replicate (Try.f107.ntmps - ([.bslc (BR.root 0) (.f32 v2014), .fn 113 []] : List DV).length) .undef) []).bind (retD TT Try.f107.results.toList 0) = (slices_ContainsFuncF_T v2014).bind fun y => .leaf (slices_ContainsFuncF_enc v2014 y) := by kernel_rfl
theorem slices_ContainsFuncF_fn (v2014 : List Nat) (F : Fr) (hm : F.ids.length = 0) (h0 : St F [] F.H0) (hA : DVs.Ok F [] [.bslc (BR.root 0) (.f32 v2014), .fn 113 []]) {y : Bool} (hy : slices_ContainsFuncF_g v2014 = some y) : ∃ H', FnOk Try.prog 107 (DVs.av F [.bslc (BR.root 0) (.f32 v2014), .fn 113 []]) F.H0 ((slices_ContainsFuncF_enc v2014 y).1.av F) H' ∧ St F (slices_ContainsFuncF_enc v2014 y).2 H' ∧ (slices_ContainsFuncF_enc v2014 y).1.Ok F (slices_ContainsFuncF_enc v2014 y).2 :=
  fn_fin tok slices_ContainsFuncF_hO mixed Try.func107 Try.call107 (by kernel_rfl) (LoopsOk_eq (l := []) (by kernel_rfl) trivial) (slices_ContainsFuncF_den v2014) hy hm h0 hA
noncomputable def slices_ContainsFuncF_F : DFn := fun args L =>
  match args with
  | [a1, .fn 113 []] =>
    optT (rowF32 L a1) fun v2014 =>
    .call (slices_ContainsFuncF_g v2014) fun y => .leaf (.bool y, L)
  | _ => .fail
theorem slices_ContainsFuncF_Fok : COk Try.prog 107 slices_ContainsFuncF_F true := by
  intro F L H args r L' hs ha hr
  unfold slices_ContainsFuncF_F at hr
  split at hr
  · rename_i a1
    obtain ⟨v2014, hv2014, hr⟩ := optT_run hr
    simp only [Tree.run] at hr
    obtain ⟨y, hy, hr⟩ := Option.bind_eq_some_iff.1 hr
    simp only [Tree.run, Option.some.injEq, Prod.mk.injEq] at hr
    obtain ⟨rfl, rfl⟩ := hr
    exact call_ok0 hs (fun k => (([a1.av F] : List AV)[k]?).getD .top) [a1, .fn 113 []] [.bslc (BR.root 0) (.f32 v2014), .fn 113 []] (fun F' h0 hi hρ => ⟨by simp [DVs.av, DV.av, BR.av, hρ], slices_ContainsFuncF_fn v2014 F' (by rw [hi]; rfl) (st_nil hi) ⟨bslc_ok hi (by rw [h0, hρ]; exact rowF32_ok hs (DVs.okAt ha 0 rfl) hv2014), trivial, trivial⟩ hy⟩) rfl
  · cases hr
/-! impl.areFinite -/
noncomputable def impl_areFinite_LO (v2013 : List Nat) : LOr := fun id e L =>
  match id with
  | _ => .fail
noncomputable def impl_areFinite_tab : List (FuncId × DFn × Bool) := [(107, slices_ContainsFuncF_F, true)]
theorem impl_areFinite_hO : OrcOk Try.prog (tabD impl_areFinite_tab) (tabM impl_areFinite_tab) := tabD_cons slices_ContainsFuncF_Fok (tabD_nil _)
noncomputable def impl_areFinite_T (v2013 : List Nat) : Tree (Bool) :=
  (.call (slices_ContainsFuncF_g v2013) fun v2029 =>
  .leaf (!v2029))

noncomputable def impl_areFinite_g (v2013 : List Nat) : Option (Bool) := (impl_areFinite_T v2013).run
def impl_areFinite_enc (v2013 : List Nat) (y : Bool) : Rs := (.bool y, [])
theorem impl_areFinite_den (v2013 : List Nat) : (den TT (tabD impl_areFinite_tab) (tabM impl_areFinite_tab) (impl_areFinite_LO v2013) (codeOf Try.f42) ([.bslc (BR.root 0) (.f32 v2013)] ++ List.replicate (Try.f42.ntmps - ([.bslc (BR.root 0) (.f32 v2013)] : List DV).length) .undef) []).bind (retD TT Try.f42.results.toList 0) = (impl_areFinite_T v2013).bind fun y => .leaf (impl_areFinite_enc v2013 y) := by kernel_rfl
theorem impl_areFinite_fn (v2013 : List Nat) (F : Fr) (hm : F.ids.length = 0) (h0 : St F [] F.H0) (hA : DVs.Ok F [] [.bslc (BR.root 0) (.f32 v2013)]) {y : Bool} (hy : impl_areFinite_g v2013 = some y) : ∃ H', FnOk Try.prog 42 (DVs.av F [.bslc (BR.root 0) (.f32 v2013)]) F.H0 ((impl_areFinite_enc v2013 y).1.av F) H' ∧ St F (impl_areFinite_enc v2013 y).2 H' ∧ (impl_areFinite_enc v2013 y).1.Ok F (impl_areFinite_enc v2013 y).2 :=
  fn_fin tok impl_areFinite_hO mixed Try.func42 Try.call42 (by kernel_rfl) (LoopsOk_eq (l := []) (by kernel_rfl) trivial) (impl_areFinite_den v2013) hy hm h0 hA
noncomputable def impl_areFinite_F : DFn := fun args L =>
  match args with
  | [a1] =>
    optT (rowF32 L a1) fun v2013 =>
    .call (impl_areFinite_g v2013) fun y => .leaf (.bool y, L)
  | _ => .fail
theorem impl_areFinite_Fok : COk Try.prog 42 impl_areFinite_F true := by
  intro F L H args r L' hs ha hr
  unfold impl_areFinite_F at hr
  split at hr
  · rename_i a1
    obtain ⟨v2013, hv2013, hr⟩ := optT_run hr
    simp only [Tree.run] at hr
    obtain ⟨y, hy, hr⟩ := Option.bind_eq_some_iff.1 hr
    simp only [Tree.run, Option.some.injEq, Prod.mk.injEq] at hr
    obtain ⟨rfl, rfl⟩ := hr
    exact call_ok0 hs (fun k => (([a1.av F] : List AV)[k]?).getD .top) [a1] [.bslc (BR.root 0) (.f32 v2013)] (fun F' h0 hi hρ => ⟨by simp [DVs.av, DV.av, BR.av, hρ], impl_areFinite_fn v2013 F' (by rw [hi]; rfl) (st_nil hi) ⟨bslc_ok hi (by rw [h0, hρ]; exact rowF32_ok hs (DVs.okAt ha 0 rfl) hv2013), trivial⟩ hy⟩) rfl
  · cases hr
/-! impl.ValidMatrix -/
noncomputable def impl_ValidMatrix_LO (v2005 : Int) (v2006 : Int) (v2007 : List Nat) : LOr := fun id e L =>
  match id with
  | _ => .fail
noncomputable def impl_ValidMatrix_tab : List (FuncId × DFn × Bool) := [(146, impl_isSide_F, true), (82, impl_lengthF_F, true), (42, impl_areFinite_F, true)]
theorem impl_ValidMatrix_hO : OrcOk Try.prog (tabD impl_ValidMatrix_tab) (tabM impl_ValidMatrix_tab) := tabD_cons impl_isSide_Fok (tabD_cons impl_lengthF_Fok (tabD_cons impl_areFinite_Fok (tabD_nil _)))
noncomputable def impl_ValidMatrix_T (v2005 : Int) (v2006 : Int) (v2007 : List Nat) : Tree (Bool) :=
  (.br (impl_isSide_v v2005) (
   (.br (impl_isSide_v v2006) (
    (.br (decide ((impl_lengthF_v v2007) = IntKind.i64.wrap (v2005 * v2006))) (
     (.call (impl_areFinite_g v2007) fun v2030 =>
     .leaf v2030)
    ) (
     .leaf false
    ))
   ) (
    .leaf false
   ))
  ) (
   .leaf false
  ))

noncomputable def impl_ValidMatrix_g (v2005 : Int) (v2006 : Int) (v2007 : List Nat) : Option (Bool) := (impl_ValidMatrix_T v2005 v2006 v2007).run
def impl_ValidMatrix_enc (v2005 : Int) (v2006 : Int) (v2007 : List Nat) (y : Bool) : Rs := (.bool y, [])
theorem impl_ValidMatrix_den (v2005 : Int) (v2006 : Int) (v2007 : List Nat) : (den TT (tabD impl_ValidMatrix_tab) (tabM impl_ValidMatrix_tab) (impl_ValidMatrix_LO v2005 v2006 v2007) (codeOf Try.f102) ([.agg [.int .i64 v2005, .int .i64 v2006, .bslc (BR.root 0) (.f32 v2007)]] ++ List.replicate (Try.f102.ntmps - ([.agg [.int .i64 v2005, .int .i64 v2006, .bslc (BR.root 0) (.f32 v2007)]] : List DV).length) .undef) []).bind (retD TT Try.f102.results.toList 0) = (impl_ValidMatrix_T v2005 v2006 v2007).bind fun y => .leaf (impl_ValidMatrix_enc v2005 v2006 v2007 y) := by kernel_rfl
theorem impl_ValidMatrix_fn (v2005 : Int) (v2006 : Int) (v2007 : List Nat) (F : Fr) (hm : F.ids.length = 0) (h0 : St F [] F.H0) (hA : DVs.Ok F [] [.agg [.int .i64 v2005, .int .i64 v2006, .bslc (BR.root 0) (.f32 v2007)]]) {y : Bool} (hy : impl_ValidMatrix_g v2005 v2006 v2007 = some y) : ∃ H', FnOk Try.prog 102 (DVs.av F [.agg [.int .i64 v2005, .int .i64 v2006, .bslc (BR.root 0) (.f32 v2007)]]) F.H0 ((impl_ValidMatrix_enc v2005 v2006 v2007 y).1.av F) H' ∧ St F (impl_ValidMatrix_enc v2005 v2006 v2007 y).2 H' ∧ (impl_ValidMatrix_enc v2005 v2006 v2007 y).1.Ok F (impl_ValidMatrix_enc v2005 v2006 v2007 y).2 :=
  fn_fin tok impl_ValidMatrix_hO mixed Try.func102 Try.call102 (by kernel_rfl) (LoopsOk_eq (l := []) (by kernel_rfl) trivial) (impl_ValidMatrix_den v2005 v2006 v2007) hy hm h0 hA
noncomputable def impl_ValidMatrix_F : DFn := fun args L =>
  match args with
  | [.agg [.int .i64 v2005, .int .i64 v2006, a1]] =>
    optT (rowF32 L a1) fun v2007 =>
    .call (impl_ValidMatrix_g v2005 v2006 v2007) fun y => .leaf (.bool y, L)
  | _ => .fail
theorem impl_ValidMatrix_Fok : COk Try.prog 102 impl_ValidMatrix_F true := by
  intro F L H args r L' hs ha hr
  unfold impl_ValidMatrix_F at hr
  split at hr
  · rename_i v2005 v2006 a1
    obtain ⟨v2007, hv2007, hr⟩ := optT_run hr
    simp only [Tree.run] at hr
    obtain ⟨y, hy, hr⟩ := Option.bind_eq_some_iff.1 hr
    simp only [Tree.run, Option.some.injEq, Prod.mk.injEq] at hr
    obtain ⟨rfl, rfl⟩ := hr
    exact call_ok0 hs (fun k => (([a1.av F] : List AV)[k]?).getD .top) [.agg [.int .i64 v2005, .int .i64 v2006, a1]] [.agg [.int .i64 v2005, .int .i64 v2006, .bslc (BR.root 0) (.f32 v2007)]] (fun F' h0 hi hρ => ⟨by simp [DVs.av, DV.av, BR.av, hρ], impl_ValidMatrix_fn v2005 v2006 v2007 F' (by rw [hi]; rfl) (st_nil hi) ⟨⟨trivial, trivial, bslc_ok hi (by rw [h0, hρ]; exact rowF32_ok hs (DVs.okAt (DVs.okAt ha 0 rfl) 2 rfl) hv2007), trivial⟩, trivial⟩ hy⟩) rfl
  · cases hr
/-! impl.IsVector -/
noncomputable def impl_IsVector_LO (v2034 : List Nat) : LOr := fun id e L =>
  match id with
  | _ => .fail
noncomputable def impl_IsVector_tab : List (FuncId × DFn × Bool) := [(82, impl_lengthF_F, true), (94, impl_inRange_F, true), (42, impl_areFinite_F, true)]
theorem impl_IsVector_hO : OrcOk Try.prog (tabD impl_IsVector_tab) (tabM impl_IsVector_tab) := tabD_cons impl_lengthF_Fok (tabD_cons impl_inRange_Fok (tabD_cons impl_areFinite_Fok (tabD_nil _)))
noncomputable def impl_IsVector_T (v2034 : List Nat) : Tree (Bool) :=
  (.br (impl_inRange_v (impl_lengthF_v v2034) (1 : Int) (256 : Int)) (
   (.call (impl_areFinite_g v2034) fun v2035 =>
   .leaf v2035)
  ) (
   .leaf false
  ))

noncomputable def impl_IsVector_g (v2034 : List Nat) : Option (Bool) := (impl_IsVector_T v2034).run
def impl_IsVector_enc (v2034 : List Nat) (y : Bool) : Rs := (.bool y, [])
theorem impl_IsVector_den (v2034 : List Nat) : (den TT (tabD impl_IsVector_tab) (tabM impl_IsVector_tab) (impl_IsVector_LO v2034) (codeOf Try.f81) ([.bslc (BR.root 0) (.f32 v2034)] ++ List.replicate (Try.f81.ntmps - ([.bslc (BR.root 0) (.f32 v2034)] : List DV).length) .undef) []).bind (retD TT Try.f81.results.toList 0) = (impl_IsVector_T v2034).bind fun y => .leaf (impl_IsVector_enc v2034 y) := by kernel_rfl
theorem impl_IsVector_fn (v2034 : List Nat) (F : Fr) (hm : F.ids.length = 0) (h0 : St F [] F.H0) (hA : DVs.Ok F [] [.bslc (BR.root 0) (.f32 v2034)]) {y : Bool} (hy : impl_IsVector_g v2034 = some y) : ∃ H', FnOk Try.prog 81 (DVs.av F [.bslc (BR.root 0) (.f32 v2034)]) F.H0 ((impl_IsVector_enc v2034 y).1.av F) H' ∧ St F (impl_IsVector_enc v2034 y).2 H' ∧ (impl_IsVector_enc v2034 y).1.Ok F (impl_IsVector_enc v2034 y).2 :=
  fn_fin tok impl_IsVector_hO mixed Try.func81 Try.call81 (by kernel_rfl) (LoopsOk_eq (l := []) (by kernel_rfl) trivial) (impl_IsVector_den v2034) hy hm h0 hA
noncomputable def impl_IsVector_F : DFn := fun args L =>
  match args with
  | [a1] =>
    optT (rowF32 L a1) fun v2034 =>
    .call (impl_IsVector_g v2034) fun y => .leaf (.bool y, L)
  | _ => .fail
theorem impl_IsVector_Fok : COk Try.prog 81 impl_IsVector_F true := by
  intro F L H args r L' hs ha hr
  unfold impl_IsVector_F at hr
  split at hr
  · rename_i a1
    obtain ⟨v2034, hv2034, hr⟩ := optT_run hr
    simp only [Tree.run] at hr
    obtain ⟨y, hy, hr⟩ := Option.bind_eq_some_iff.1 hr
    simp only [Tree.run, Option.some.injEq, Prod.mk.injEq] at hr
    obtain ⟨rfl, rfl⟩ := hr
    exact call_ok0 hs (fun k => (([a1.av F] : List AV)[k]?).getD .top) [a1] [.bslc (BR.root 0) (.f32 v2034)] (fun F' h0 hi hρ => ⟨by simp [DVs.av, DV.av, BR.av, hρ], impl_IsVector_fn v2034 F' (by rw [hi]; rfl) (st_nil hi) ⟨bslc_ok hi (by rw [h0, hρ]; exact rowF32_ok hs (DVs.okAt ha 0 rfl) hv2034), trivial⟩ hy⟩) rfl
  · cases hr
/-! impl.areVectors -/
noncomputable def impl_areVectors_LO (v2032 : List Nat) (v2033 : List Nat) : LOr := fun id e L =>
  match id with
  | _ => .fail
noncomputable def impl_areVectors_tab : List (FuncId × DFn × Bool) := [(81, impl_IsVector_F, true)]
theorem impl_areVectors_hO : OrcOk Try.prog (tabD impl_areVectors_tab) (tabM impl_areVectors_tab) := tabD_cons impl_IsVector_Fok (tabD_nil _)
noncomputable def impl_areVectors_T (v2032 : List Nat) (v2033 : List Nat) : Tree (Bool) :=
  (.call (impl_IsVector_g v2032) fun v2036 =>
  (.br v2036 (
   (.call (impl_IsVector_g v2033) fun v2037 =>
   (.br v2037 (
    .leaf (decide (((v2032.length : Nat) : Int) = ((v2033.length : Nat) : Int)))
   ) (
    .leaf false
   )))
  ) (
   .leaf false
  )))

noncomputable def impl_areVectors_g (v2032 : List Nat) (v2033 : List Nat) : Option (Bool) := (impl_areVectors_T v2032 v2033).run
def impl_areVectors_enc (v2032 : List Nat) (v2033 : List Nat) (y : Bool) : Rs := (.bool y, [])
theorem impl_areVectors_den (v2032 : List Nat) (v2033 : List Nat) : (den TT (tabD impl_areVectors_tab) (tabM impl_areVectors_tab) (impl_areVectors_LO v2032 v2033) (codeOf Try.f106) ([.bslc (BR.root 0) (.f32 v2032), .bslc (BR.root 1) (.f32 v2033)] ++ List.replicate (Try.f106.ntmps - ([.bslc (BR.root 0) (.f32 v2032), .bslc (BR.root 1) (.f32 v2033)] : List DV).length) .undef) []).bind (retD TT Try.f106.results.toList 0) = (impl_areVectors_T v2032 v2033).bind fun y => .leaf (impl_areVectors_enc v2032 v2033 y) := by kernel_rfl
theorem impl_areVectors_fn (v2032 : List Nat) (v2033 : List Nat) (F : Fr) (hm : F.ids.length = 0) (h0 : St F [] F.H0) (hA : DVs.Ok F [] [.bslc (BR.root 0) (.f32 v2032), .bslc (BR.root 1) (.f32 v2033)]) {y : Bool} (hy : impl_areVectors_g v2032 v2033 = some y) : ∃ H', FnOk Try.prog 106 (DVs.av F [.bslc (BR.root 0) (.f32 v2032), .bslc (BR.root 1) (.f32 v2033)]) F.H0 ((impl_areVectors_enc v2032 v2033 y).1.av F) H' ∧ St F (impl_areVectors_enc v2032 v2033 y).2 H' ∧ (impl_areVectors_enc v2032 v2033 y).1.Ok F (impl_areVectors_enc v2032 v2033 y).2 :=
  fn_fin tok impl_areVectors_hO mixed Try.func106 Try.call106 (by kernel_rfl) (LoopsOk_eq (l := []) (by kernel_rfl) trivial) (impl_areVectors_den v2032 v2033) hy hm h0 hA
noncomputable def impl_areVectors_F : DFn := fun args L =>
  match args with
  | [a1, a2] =>
    optT (rowF32 L a1) fun v2032 =>
    optT (rowF32 L a2) fun v2033 =>
    .call (impl_areVectors_g v2032 v2033) fun y => .leaf (.bool y, L)
  | _ => .fail
theorem impl_areVectors_Fok : COk Try.prog 106 impl_areVectors_F true := by
  intro F L H args r L' hs ha hr
  unfold impl_areVectors_F at hr
  split at hr
  · rename_i a1 a2
    obtain ⟨v2032, hv2032, hr⟩ := optT_run hr
    obtain ⟨v2033, hv2033, hr⟩ := optT_run hr
    simp only [Tree.run] at hr
    obtain ⟨y, hy, hr⟩ := Option.bind_eq_some_iff.1 hr
    simp only [Tree.run, Option.some.injEq, Prod.mk.injEq] at hr
    obtain ⟨rfl, rfl⟩ := hr
    exact call_ok0 hs (fun k => (([a1.av F, a2.av F] : List AV)[k]?).getD .top) [a1, a2] [.bslc (BR.root 0) (.f32 v2032), .bslc (BR.root 1) (.f32 v2033)] (fun F' h0 hi hρ => ⟨by simp [DVs.av, DV.av, BR.av, hρ], impl_areVectors_fn v2032 v2033 F' (by rw [hi]; rfl) (st_nil hi) ⟨bslc_ok hi (by rw [h0, hρ]; exact rowF32_ok hs (DVs.okAt ha 0 rfl) hv2032), bslc_ok hi (by rw [h0, hρ]; exact rowF32_ok hs (DVs.okAt ha 1 rfl) hv2033), trivial⟩ hy⟩) rfl
  · cases hr
/-! impl.WeighedSquares$1 -/
noncomputable def impl_WeighedSquares_1_LO (v2042 : Nat) : LOr := fun id e L =>
  match id with
  | _ => .fail
noncomputable def impl_WeighedSquares_1_tab : List (FuncId × DFn × Bool) := []
theorem impl_WeighedSquares_1_hO : OrcOk Try.prog (tabD impl_WeighedSquares_1_tab) (tabM impl_WeighedSquares_1_tab) := tabD_nil _
noncomputable def impl_WeighedSquares_1_T (v2042 : Nat) : Tree (Bool) :=
  .leaf (fless .f32 v2042 (0 : Nat))

noncomputable def impl_WeighedSquares_1_g (v2042 : Nat) : Option (Bool) := (impl_WeighedSquares_1_T v2042).run
def impl_WeighedSquares_1_enc (v2042 : Nat) (y : Bool) : Rs := (.bool y, [])
theorem impl_WeighedSquares_1_den (v2042 : Nat) : (den TT (tabD impl_WeighedSquares_1_tab) (tabM impl_WeighedSquares_1_tab) (impl_WeighedSquares_1_LO v2042) (codeOf Try.f108) ([.flt .f32 v2042] ++ List.replicate (Try.f108.ntmps - ([.flt .f32 v2042] : List DV).length) .undef) []).bind (retD TT Try.f108.results.toList 0) = (impl_WeighedSquares_1_T v2042).bind fun y => .leaf (impl_WeighedSquares_1_enc v2042 y) := by kernel_rfl
theorem impl_WeighedSquares_1_fn (v2042 : Nat) (F : Fr) (hm : F.ids.length = 0) (h0 : St F [] F.H0) (hA : DVs.Ok F [] [.flt .f32 v2042]) {y : Bool} (hy : impl_WeighedSquares_1_g v2042 = some y) : ∃ H', FnOk Try.prog 108 (DVs.av F [.flt .f32 v2042]) F.H0 ((impl_WeighedSquares_1_enc v2042 y).1.av F) H' ∧ St F (impl_WeighedSquares_1_enc v2042 y).2 H' ∧ (impl_WeighedSquares_1_enc v2042 y).1.Ok F (impl_WeighedSquares_1_enc v2042 y).2 :=
  fn_fin tok impl_WeighedSquares_1_hO mixed Try.func108 Try.call108 (by kernel_rfl) (LoopsOk_eq (l := []) (by kernel_rfl) trivial) (impl_WeighedSquares_1_den v2042) hy hm h0 hA
def impl_WeighedSquares_1_v (v2042 : Nat) : Bool :=
  fless .f32 v2042 (0 : Nat)
theorem impl_WeighedSquares_1_tot (v2042 : Nat) : impl_WeighedSquares_1_g v2042 = some (impl_WeighedSquares_1_v v2042) := by
  unfold impl_WeighedSquares_1_g impl_WeighedSquares_1_T impl_WeighedSquares_1_v
  simp only [Tree.run]
  repeat' (first | rfl | split)
noncomputable def impl_WeighedSquares_1_F : DFn := fun args L =>
  match args with
  | [.flt .f32 v2042] =>
    .leaf (.bool (impl_WeighedSquares_1_v v2042), L)
  | _ => .fail
theorem impl_WeighedSquares_1_Fok : COk Try.prog 108 impl_WeighedSquares_1_F true := by
  intro F L H args r L' hs ha hr
  unfold impl_WeighedSquares_1_F at hr
  split at hr
  · rename_i v2042
    have hy := impl_WeighedSquares_1_tot v2042
    generalize impl_WeighedSquares_1_v v2042 = y at hy hr
    simp only [Tree.run, Option.some.injEq, Prod.mk.injEq] at hr
    obtain ⟨rfl, rfl⟩ := hr
    exact call_ok0 hs (fun k => (([] : List AV)[k]?).getD .top) [.flt .f32 v2042] [.flt .f32 v2042] (fun F' h0 hi hρ => ⟨by simp [DVs.av, DV.av, BR.av, hρ], impl_WeighedSquares_1_fn v2042 F' (by rw [hi]; rfl) (st_nil hi) ⟨trivial, trivial⟩ hy⟩) rfl
  · cases hr
/-! slices.IndexFunc[list of float32,float32] -/
noncomputable def slices_IndexFuncF_i1_l0_T (v2040 : List Nat) (s : Int) : Tree ((Int) ⊕ ((Int) ⊕ (Unit))) :=
  (.br (decide (s < ((v2040.length : Nat) : Int))) (
   (.grd (inb s v2040.length) <|
   (.br (impl_WeighedSquares_1_v (nth v2040 (Int.toNat s))) (
    .leaf (.inr (.inl s))
   ) (
    .leaf (.inl (IntKind.i64.wrap (s + (1 : Int))))
   )))
  ) (
   .leaf (.inr (.inr ()))
  ))

noncomputable def slices_IndexFuncF_i1_l0_g (v2040 : List Nat) (s0 : Int) : Option ((Int) ⊕ (Unit)) := whileM (fun s => (slices_IndexFuncF_i1_l0_T v2040 s).run) s0
def slices_IndexFuncF_i1_l0_E (v2040 : List Nat) (s : Int) : Sd := ([.bslc (BR.root 0) (.f32 v2040), .fn 108 [], .top, .top, .top, .top, .top, .int .i64 ((v2040.length : Nat) : Int), .int .i64 s, .top, .top, .top, .top, .top, .top, .top, .top, .top, .top], [])
def slices_IndexFuncF_i1_l0_X (v2040 : List Nat) (x : (Int) ⊕ (Unit)) : Out := (match x with | .inl x => (.ret, [.top, .top, .top, .top, .int .i64 x, .top, .top, .top, .top, .top, .top, .top, .top, .top, .top, .top, .top, .top, .top], []) | .inr x => (.normal, [.top, .top, .top, .top, .top, .top, .top, .top, .top, .top, .top, .top, .top, .top, .top, .top, .top, .top, .top], []))
def slices_IndexFuncF_i1_l0_kill : List Nat := [0, 0, 1, 1, 1, 1, 1, 0, 0, 1, 1, 1, 1, 1, 1, 1, 1, 1, 1]
def slices_IndexFuncF_i1_l0_nx : Exit → List Nat
  | .exit 0 => [1, 1, 1, 1, 1, 1, 1, 1, 1, 1, 1, 1, 1, 1, 1, 1, 1, 1, 1]
  | .ret => [1, 1, 1, 1, 0, 1, 1, 1, 1, 1, 1, 1, 1, 1, 1, 1, 1, 1, 1]
  | _ => []
noncomputable def slices_IndexFuncF_i1_LO (v2040 : List Nat) : LOr := fun id e L =>
  match id with
  | 0 => .need (normA 0 slices_IndexFuncF_i1_l0_kill e L = some (slices_IndexFuncF_i1_l0_E v2040 (gI (vAt e 8)))) (.call (slices_IndexFuncF_i1_l0_g v2040 (gI (vAt e 8))) fun x => .sum x (fun b0 => .leaf (slices_IndexFuncF_i1_l0_X v2040 (.inl b0))) (fun c0 => .leaf (slices_IndexFuncF_i1_l0_X v2040 (.inr c0))))
  | _ => .fail
noncomputable def slices_IndexFuncF_i1_tab : List (FuncId × DFn × Bool) := [(108, impl_WeighedSquares_1_F, true)]
theorem slices_IndexFuncF_i1_hO : OrcOk Try.prog (tabD slices_IndexFuncF_i1_tab) (tabM slices_IndexFuncF_i1_tab) := tabD_cons impl_WeighedSquares_1_Fok (tabD_nil _)
theorem slices_IndexFuncF_i1_l0_be (v2040 : List Nat) (s : Int) : bodyT TT (tabD slices_IndexFuncF_i1_tab) (tabM slices_IndexFuncF_i1_tab) (slices_IndexFuncF_i1_LO v2040) 0 slices_IndexFuncF_i1_l0_kill slices_IndexFuncF_i1_l0_nx (bodyOf Try.f152 0) 0 (slices_IndexFuncF_i1_l0_E v2040 s) = (slices_IndexFuncF_i1_l0_T v2040 s).bind fun y => .leaf (outS (slices_IndexFuncF_i1_l0_E v2040) (slices_IndexFuncF_i1_l0_X v2040) y) := by kernel_rfl
theorem slices_IndexFuncF_i1_l0_ok (v2040 : List Nat) : LSound Try.prog 0 (slices_IndexFuncF_i1_LO v2040) 0 (bodyOf Try.f152 0) := by
  intro e L out h
  exact lo_ok (E := slices_IndexFuncF_i1_l0_E v2040) (gT := slices_IndexFuncF_i1_l0_T v2040) (X := slices_IndexFuncF_i1_l0_X v2040) (s0 := (gI (vAt e 8))) tok slices_IndexFuncF_i1_hO mixed (LoopsOk_eq (l := []) (by kernel_rfl) trivial) (slices_IndexFuncF_i1_l0_be v2040) rfl (by intro x; (cases x with | inl b => rfl | inr x => exact rfl)) h
noncomputable def slices_IndexFuncF_i1_T (v2040 : List Nat) : Tree (Int) :=
  (.need (some (slices_IndexFuncF_i1_l0_E v2040 (0 : Int)) = some (slices_IndexFuncF_i1_l0_E v2040 (0 : Int))) <|
  (.call (slices_IndexFuncF_i1_l0_g v2040 (0 : Int)) fun v2045 =>
  (.sum v2045 (fun v2046 =>
   .leaf v2046
  ) (fun v2047 =>
   .leaf (-1 : Int)
  ))))

noncomputable def slices_IndexFuncF_i1_g (v2040 : List Nat) : Option (Int) := (slices_IndexFuncF_i1_T v2040).run
def slices_IndexFuncF_i1_enc (v2040 : List Nat) (y : Int) : Rs := (.int .i64 y, [])
theorem slices_IndexFuncF_i1_den (v2040 : List Nat) : (den TT (tabD slices_IndexFuncF_i1_tab) (tabM slices_IndexFuncF_i1_tab) (slices_IndexFuncF_i1_LO v2040) (codeOf Try.f152) ([.bslc (BR.root 0) (.f32 v2040), .fn 108 []] ++ List.replicate (Try.f152.ntmps - ([.bslc (BR.root 0) (.f32 v2040), .fn 108 []] : List DV).length) .undef) []).bind (retD TT Try.f152.results.toList 0) = (slices_IndexFuncF_i1_T v2040).bind fun y => .leaf (slices_IndexFuncF_i1_enc v2040 y) := by kernel_rfl
theorem slices_IndexFuncF_i1_fn (v2040 : List Nat) (F : Fr) (hm : F.ids.length = 0) (h0 : St F [] F.H0) (hA : DVs.Ok F [] [.bslc (BR.root 0) (.f32 v2040), .fn 108 []]) {y : Int} (hy : slices_IndexFuncF_i1_g v2040 = some y) : ∃ H', FnOk Try.prog 152 (DVs.av F [.bslc (BR.root 0) (.f32 v2040), .fn 108 []]) F.H0 ((slices_IndexFuncF_i1_enc v2040 y).1.av F) H' ∧ St F (slices_IndexFuncF_i1_enc v2040 y).2 H' ∧ (slices_IndexFuncF_i1_enc v2040 y).1.Ok F (slices_IndexFuncF_i1_enc v2040 y).2 :=
  fn_fin tok slices_IndexFuncF_i1_hO mixed Try.func152 Try.call152 (by kernel_rfl) (LoopsOk_eq (l := [(0, bodyOf Try.f152 0)]) (by kernel_rfl) ⟨slices_IndexFuncF_i1_l0_ok v2040, trivial⟩) (slices_IndexFuncF_i1_den v2040) hy hm h0 hA
noncomputable def slices_IndexFuncF_i1_F : DFn := fun args L =>
  match args with
  | [a1, .fn 108 []] =>
    optT (rowF32 L a1) fun v2040 =>
    .call (slices_IndexFuncF_i1_g v2040) fun y => .leaf (.int .i64 y, L)
  | _ => .fail
theorem slices_IndexFuncF_i1_Fok : COk Try.prog 152 slices_IndexFuncF_i1_F true := by
  intro F L H args r L' hs ha hr
  unfold slices_IndexFuncF_i1_F at hr
  split at hr
  · rename_i a1
    obtain ⟨v2040, hv2040, hr⟩ := optT_run hr
    simp only [Tree.run] at hr
    obtain ⟨y, hy, hr⟩ := Option.bind_eq_some_iff.1 hr
    simp only [Tree.run, Option.some.injEq, Prod.mk.injEq] at hr
    obtain ⟨rfl, rfl⟩ := hr
    exact call_ok0 hs (fun k => (([a1.av F] : List AV)[k]?).getD .top) [a1, .fn 108 []] [.bslc (BR.root 0) (.f32 v2040), .fn 108 []] (fun F' h0 hi hρ => ⟨by simp [DVs.av, DV.av, BR.av, hρ], slices_IndexFuncF_i1_fn v2040 F' (by rw [hi]; rfl) (st_nil hi) ⟨bslc_ok hi (by rw [h0, hρ]; exact rowF32_ok hs (DVs.okAt ha 0 rfl) hv2040), trivial, trivial⟩ hy⟩) rfl
  · cases hr
/-! slices.ContainsFunc[list of float32,float32] -/
noncomputable def slices_ContainsFuncF_i1_LO (v2039 : List Nat) : LOr := fun id e L =>
  match id with
  | _ => .fail
noncomputable def slices_ContainsFuncF_i1_tab : List (FuncId × DFn × Bool) := [(152, slices_IndexFuncF_i1_F, true)]
theorem slices_ContainsFuncF_i1_hO : OrcOk Try.prog (tabD slices_ContainsFuncF_i1_tab) (tabM slices_ContainsFuncF_i1_tab) := tabD_cons slices_IndexFuncF_i1_Fok (tabD_nil _)
noncomputable def slices_ContainsFuncF_i1_T (v2039 : List Nat) : Tree (Bool) :=
  (.call (slices_IndexFuncF_i1_g v2039) fun v2048 =>
  .leaf (decide ((0 : Int) ≤ v2048)))

noncomputable def slices_ContainsFuncF_i1_g (v2039 : List Nat) : Option (Bool) := (slices_ContainsFuncF_i1_T v2039).run
def slices_ContainsFuncF_i1_enc (v2039 : List Nat) (y : Bool) : Rs := (.bool y, [])
theorem slices_ContainsFuncF_i1_den (v2039 : List Nat) : (den TT (tabD slices_ContainsFuncF_i1_tab) (tabM slices_ContainsFuncF_i1_tab) (slices_ContainsFuncF_i1_LO v2039) (codeOf Try.f107) ([.bslc (BR.root 0) (.f32 v2039), .fn 108 []] ++ List.replicate (Try.f107.ntmps - ([.bslc (BR.root 0) (.f32 v2039), .fn 108 []] : List DV).length) .undef) []).bind (retD TT Try.f107.results.toList 0) = (slices_ContainsFuncF_i1_T v2039).bind fun y => .leaf (slices_ContainsFuncF_i1_enc v2039 y) := by kernel_rfl
theorem slices_ContainsFuncF_i1_fn (v2039 : List Nat) (F : Fr) (hm : F.ids.length = 0) (h0 : St F [] F.H0) (hA : DVs.Ok F [] [.bslc (BR.root 0) (.f32 v2039), .fn 108 []]) {y : Bool} (hy : slices_ContainsFuncF_i1_g v2039 = some y) : ∃ H', FnOk Try.prog 107 (DVs.av F [.bslc (BR.root 0) (.f32 v2039), .fn 108 []]) F.H0 ((slices_ContainsFuncF_i1_enc v2039 y).1.av F) H' ∧ St F (slices_ContainsFuncF_i1_enc v2039 y).2 H' ∧ (slices_ContainsFuncF_i1_enc v2039 y).1.Ok F (slices_ContainsFuncF_i1_enc v2039 y).2 :=
  fn_fin tok slices_ContainsFuncF_i1_hO mixed Try.func107 Try.call107 (by kernel_rfl) (LoopsOk_eq (l := []) (by kernel_rfl) trivial) (slices_ContainsFuncF_i1_den v2039) hy hm h0 hA
noncomputable def slices_ContainsFuncF_i1_F : DFn := fun args L =>
  match args with
  | [a1, .fn 108 []] =>
    optT (rowF32 L a1) fun v2039 =>
    .call (slices_ContainsFuncF_i1_g v2039) fun y => .leaf (.bool y, L)
  | _ => .fail
theorem slices_ContainsFuncF_i1_Fok : COk Try.prog 107 slices_ContainsFuncF_i1_F true := by
  intro F L H args r L' hs ha hr
  unfold slices_ContainsFuncF_i1_F at hr
  split at hr
  · rename_i a1
    obtain ⟨v2039, hv2039, hr⟩ := optT_run hr
    simp only [Tree.run] at hr
    obtain ⟨y, hy, hr⟩ := Option.bind_eq_some_iff.1 hr
    simp only [Tree.run, Option.some.injEq, Prod.mk.injEq] at hr
    obtain ⟨rfl, rfl⟩ := hr
    exact call_ok0 hs (fun k => (([a1.av F] : List AV)[k]?).getD .top) [a1, .fn 108 []] [.bslc (BR.root 0) (.f32 v2039), .fn 108 []] (fun F' h0 hi hρ => ⟨by simp [DVs.av, DV.av, BR.av, hρ], slices_ContainsFuncF_i1_fn v2039 F' (by rw [hi]; rfl) (st_nil hi) ⟨bslc_ok hi (by rw [h0, hρ]; exact rowF32_ok hs (DVs.okAt ha 0 rfl) hv2039), trivial, trivial⟩ hy⟩) rfl
  · cases hr
/-! impl.RootNumber -/
noncomputable def impl_RootNumber_LO (v2051 : Nat) : LOr := fun id e L =>
  match id with
  | _ => .fail
noncomputable def impl_RootNumber_tab : List (FuncId × DFn × Bool) := [(117, math_Sqrt_F, true)]
theorem impl_RootNumber_hO : OrcOk Try.prog (tabD impl_RootNumber_tab) (tabM impl_RootNumber_tab) := tabD_cons math_Sqrt_Fok (tabD_nil _)
noncomputable def impl_RootNumber_T (v2051 : Nat) : Tree (Nat) :=
  (.call (fconv .f64 (math_Sqrt_v (wid v2051)) .f32) fun v2052 =>
  .leaf v2052)

noncomputable def impl_RootNumber_g (v2051 : Nat) : Option (Nat) := (impl_RootNumber_T v2051).run
def impl_RootNumber_enc (v2051 : Nat) (y : Nat) : Rs := (.flt .f32 y, [])
theorem impl_RootNumber_den (v2051 : Nat) : (den TT (tabD impl_RootNumber_tab) (tabM impl_RootNumber_tab) (impl_RootNumber_LO v2051) (codeOf Try.f52) ([.flt .f32 v2051] ++ List.replicate (Try.f52.ntmps - ([.flt .f32 v2051] : List DV).length) .undef) []).bind (retD TT Try.f52.results.toList 0) = (impl_RootNumber_T v2051).bind fun y => .leaf (impl_RootNumber_enc v2051 y) := by kernel_rfl
theorem impl_RootNumber_fn (v2051 : Nat) (F : Fr) (hm : F.ids.length = 0) (h0 : St F [] F.H0) (hA : DVs.Ok F [] [.flt .f32 v2051]) {y : Nat} (hy : impl_RootNumber_g v2051 = some y) : ∃ H', FnOk Try.prog 52 (DVs.av F [.flt .f32 v2051]) F.H0 ((impl_RootNumber_enc v2051 y).1.av F) H' ∧ St F (impl_RootNumber_enc v2051 y).2 H' ∧ (impl_RootNumber_enc v2051 y).1.Ok F (impl_RootNumber_enc v2051 y).2 :=
  fn_fin tok impl_RootNumber_hO mixed Try.func52 Try.call52 (by kernel_rfl) (LoopsOk_eq (l := []) (by kernel_rfl) trivial) (impl_RootNumber_den v2051) hy hm h0 hA
noncomputable def impl_RootNumber_F : DFn := fun args L =>
  match args with
  | [.flt .f32 v2051] =>
    .call (impl_RootNumber_g v2051) fun y => .leaf (.flt .f32 y, L)
  | _ => .fail
theorem impl_RootNumber_Fok : COk Try.prog 52 impl_RootNumber_F true := by
  intro F L H args r L' hs ha hr
  unfold impl_RootNumber_F at hr
  split at hr
  · rename_i v2051
    simp only [Tree.run] at hr
    obtain ⟨y, hy, hr⟩ := Option.bind_eq_some_iff.1 hr
    simp only [Tree.run, Option.some.injEq, Prod.mk.injEq] at hr
    obtain ⟨rfl, rfl⟩ := hr
    exact call_ok0 hs (fun k => (([] : List AV)[k]?).getD .top) [.flt .f32 v2051] [.flt .f32 v2051] (fun F' h0 hi hρ => ⟨by simp [DVs.av, DV.av, BR.av, hρ], impl_RootNumber_fn v2051 F' (by rw [hi]; rfl) (st_nil hi) ⟨trivial, trivial⟩ hy⟩) rfl
  · cases hr
/-! impl.mul -/
noncomputable def impl_mul_LO (v2054 : Nat) (v2055 : Nat) : LOr := fun id e L =>
  match id with
  | _ => .fail
noncomputable def impl_mul_tab : List (FuncId × DFn × Bool) := []
theorem impl_mul_hO : OrcOk Try.prog (tabD impl_mul_tab) (tabM impl_mul_tab) := tabD_nil _
noncomputable def impl_mul_T (v2054 : Nat) (v2055 : Nat) : Tree (Nat) :=
  .leaf (fmul .f32 v2054 v2055)

noncomputable def impl_mul_g (v2054 : Nat) (v2055 : Nat) : Option (Nat) := (impl_mul_T v2054 v2055).run
def impl_mul_enc (v2054 : Nat) (v2055 : Nat) (y : Nat) : Rs := (.flt .f32 y, [])
theorem impl_mul_den (v2054 : Nat) (v2055 : Nat) : (den TT (tabD impl_mul_tab) (tabM impl_mul_tab) (impl_mul_LO v2054 v2055) (codeOf Try.f50) ([.flt .f32 v2054, .flt .f32 v2055] ++ List.replicate (Try.f50.ntmps - ([.flt .f32 v2054, .flt .f32 v2055] : List DV).length) .undef) []).bind (retD TT Try.f50.results.toList 0) = (impl_mul_T v2054 v2055).bind fun y => .leaf (impl_mul_enc v2054 v2055 y) := by kernel_rfl
theorem impl_mul_fn (v2054 : Nat) (v2055 : Nat) (F : Fr) (hm : F.ids.length = 0) (h0 : St F [] F.H0) (hA : DVs.Ok F [] [.flt .f32 v2054, .flt .f32 v2055]) {y : Nat} (hy : impl_mul_g v2054 v2055 = some y) : ∃ H', FnOk Try.prog 50 (DVs.av F [.flt .f32 v2054, .flt .f32 v2055]) F.H0 ((impl_mul_enc v2054 v2055 y).1.av F) H' ∧ St F (impl_mul_enc v2054 v2055 y).2 H' ∧ (impl_mul_enc v2054 v2055 y).1.Ok F (impl_mul_enc v2054 v2055 y).2 :=
  fn_fin tok impl_mul_hO mixed Try.func50 Try.call50 (by kernel_rfl) (LoopsOk_eq (l := []) (by kernel_rfl) trivial) (impl_mul_den v2054 v2055) hy hm h0 hA
def impl_mul_v (v2054 : Nat) (v2055 : Nat) : Nat :=
  fmul .f32 v2054 v2055
theorem impl_mul_tot (v2054 : Nat) (v2055 : Nat) : impl_mul_g v2054 v2055 = some (impl_mul_v v2054 v2055) := by
  unfold impl_mul_g impl_mul_T impl_mul_v
  simp only [Tree.run]
  repeat' (first | rfl | split)
noncomputable def impl_mul_F : DFn := fun args L =>
  match args with
  | [.flt .f32 v2054, .flt .f32 v2055] =>
    .leaf (.flt .f32 (impl_mul_v v2054 v2055), L)
  | _ => .fail
theorem impl_mul_Fok : COk Try.prog 50 impl_mul_F true := by
  intro F L H args r L' hs ha hr
  unfold impl_mul_F at hr
  split at hr
  · rename_i v2054 v2055
    have hy := impl_mul_tot v2054 v2055
    generalize impl_mul_v v2054 v2055 = y at hy hr
    simp only [Tree.run, Option.some.injEq, Prod.mk.injEq] at hr
    obtain ⟨rfl, rfl⟩ := hr
    exact call_ok0 hs (fun k => (([] : List AV)[k]?).getD .top) [.flt .f32 v2054, .flt .f32 v2055] [.flt .f32 v2054, .flt .f32 v2055] (fun F' h0 hi hρ => ⟨by simp [DVs.av, DV.av, BR.av, hρ], impl_mul_fn v2054 v2055 F' (by rw [hi]; rfl) (st_nil hi) ⟨trivial, trivial, trivial⟩ hy⟩) rfl
  · cases hr
/-! impl.newMatrix -/
noncomputable def impl_newMatrix_LO (v2069 : Int) (v2070 : Int) : LOr := fun id e L =>
  match id with
  | _ => .fail
noncomputable def impl_newMatrix_tab : List (FuncId × DFn × Bool) := []
theorem impl_newMatrix_hO : OrcOk Try.prog (tabD impl_newMatrix_tab) (tabM impl_newMatrix_tab) := tabD_nil _
noncomputable def impl_newMatrix_T (v2069 : Int) (v2070 : Int) : Tree (Int × Int) :=
  (.need (IntKind.i64.wrap (v2069 * v2070) = IntKind.i64.wrap (v2069 * v2070)) <|
  (.grd (inb (IntKind.i64.wrap (v2069 * v2070)) (maxN + 1)) <|
  .leaf (v2069, v2070)))

noncomputable def impl_newMatrix_g (v2069 : Int) (v2070 : Int) : Option (Int × Int) := (impl_newMatrix_T v2069 v2070).run
def impl_newMatrix_enc (v2069 : Int) (v2070 : Int) (y : Int × Int) : Rs := (.agg [.int .i64 y.1, .int .i64 y.2, .own 0 0 ((List.replicate (Int.toNat (IntKind.i64.wrap (v2069 * v2070))) (0 : Nat)).length)], [.row (.f32 (List.replicate (Int.toNat (IntKind.i64.wrap (v2069 * v2070))) (0 : Nat))) 0])
theorem impl_newMatrix_den (v2069 : Int) (v2070 : Int) : (den TT (tabD impl_newMatrix_tab) (tabM impl_newMatrix_tab) (impl_newMatrix_LO v2069 v2070) (codeOf Try.f48) ([.int .i64 v2069, .int .i64 v2070] ++ List.replicate (Try.f48.ntmps - ([.int .i64 v2069, .int .i64 v2070] : List DV).length) .undef) []).bind (retD TT Try.f48.results.toList 0) = (impl_newMatrix_T v2069 v2070).bind fun y => .leaf (impl_newMatrix_enc v2069 v2070 y) := by kernel_rfl
theorem impl_newMatrix_fn (v2069 : Int) (v2070 : Int) (F : Fr) (hm : F.ids.length = 0) (h0 : St F [] F.H0) (hA : DVs.Ok F [] [.int .i64 v2069, .int .i64 v2070]) {y : Int × Int} (hy : impl_newMatrix_g v2069 v2070 = some y) : ∃ H', FnOk Try.prog 48 (DVs.av F [.int .i64 v2069, .int .i64 v2070]) F.H0 ((impl_newMatrix_enc v2069 v2070 y).1.av F) H' ∧ St F (impl_newMatrix_enc v2069 v2070 y).2 H' ∧ (impl_newMatrix_enc v2069 v2070 y).1.Ok F (impl_newMatrix_enc v2069 v2070 y).2 :=
  fn_fin tok impl_newMatrix_hO mixed Try.func48 Try.call48 (by kernel_rfl) (LoopsOk_eq (l := []) (by kernel_rfl) trivial) (impl_newMatrix_den v2069 v2070) hy hm h0 hA
noncomputable def impl_newMatrix_F : DFn := fun args L =>
  match args with
  | [.int .i64 v2069, .int .i64 v2070] =>
    .call (impl_newMatrix_g v2069 v2070) fun y => .leaf (.agg [.int .i64 y.1, .int .i64 y.2, .own (L.length + 0) 0 ((List.replicate (Int.toNat (IntKind.i64.wrap (v2069 * v2070))) (0 : Nat)).length)], L ++ [.row (.f32 (List.replicate (Int.toNat (IntKind.i64.wrap (v2069 * v2070))) (0 : Nat))) 0])
  | _ => .fail
theorem impl_newMatrix_Fok : COk Try.prog 48 impl_newMatrix_F true := by
  intro F L H args r L' hs ha hr
  unfold impl_newMatrix_F at hr
  split at hr
  · rename_i v2069 v2070
    simp only [Tree.run] at hr
    obtain ⟨y, hy, hr⟩ := Option.bind_eq_some_iff.1 hr
    simp only [Tree.run, Option.some.injEq, Prod.mk.injEq] at hr
    obtain ⟨rfl, rfl⟩ := hr
    exact call_ok1 hs (fun k => (([] : List AV)[k]?).getD .top) [.int .i64 v2069, .int .i64 v2070] [.int .i64 v2069, .int .i64 v2070] (fun F' h0 hi hρ => ⟨by simp [DVs.av, DV.av, BR.av, hρ], impl_newMatrix_fn v2069 v2070 F' (by rw [hi]; rfl) (st_nil hi) ⟨trivial, trivial, trivial⟩ hy⟩) rfl rfl
  · cases hr
end Go.Proofs.Ytflodniglbgkhaa.AM
