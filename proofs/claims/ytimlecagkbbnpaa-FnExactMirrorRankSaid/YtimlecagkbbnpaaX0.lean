/- Functions: what they come to. -/
import Derived.Test.YtimlecagkbbnpaaBase
set_option maxRecDepth 100000
set_option maxHeartbeats 4000000
set_option linter.unusedSimpArgs false
set_option linter.unusedVariables false
namespace Go.Proofs.Ytimlecagkbbnpaa.AM
open Go.Proofs
/-! laws.szFloat32S -/
noncomputable def laws_szFloat32S_LO (v9 : List Nat) (v10 : Int) : LOr := fun id e L =>
  match id with
  | _ => .fail
noncomputable def laws_szFloat32S_tab : List (FuncId × DFn × Bool) := []
theorem laws_szFloat32S_hO : OrcOk Try.prog (tabD laws_szFloat32S_tab) (tabM laws_szFloat32S_tab) := tabD_nil _
noncomputable def laws_szFloat32S_T (v9 : List Nat) (v10 : Int) : Tree (Int) :=
  (.br (decide (IntKind.i64.wrap (v10 - ((v9.length : Nat) : Int)) < (0 : Int))) (
   .leaf (-1 : Int)
  ) (
   .leaf (IntKind.i64.wrap (v10 - ((v9.length : Nat) : Int)))
  ))

noncomputable def laws_szFloat32S_g (v9 : List Nat) (v10 : Int) : Option (Int) := (laws_szFloat32S_T v9 v10).run
def laws_szFloat32S_enc (v9 : List Nat) (v10 : Int) (y : Int) : Rs := (.int .i64 y, [])
theorem laws_szFloat32S_den (v9 : List Nat) (v10 : Int) : (den TT (tabD laws_szFloat32S_tab) (tabM laws_szFloat32S_tab) (laws_szFloat32S_LO v9 v10) (codeOf Try.f96) ([.bslc (BR.root 0) (.f32 v9), .int .i64 v10] ++ List.replicate (Try.f96.ntmps - ([.bslc (BR.root 0) (.f32 v9), .int .i64 v10] : List DV).length) .undef) []).bind (retD TT Try.f96.results.toList 0) = (laws_szFloat32S_T v9 v10).bind fun y => .leaf (laws_szFloat32S_enc v9 v10 y) := by kernel_rfl
theorem laws_szFloat32S_fn (v9 : List Nat) (v10 : Int) (F : Fr) (h0 : St F [] F.H0) (hA : DVs.Ok F [] [.bslc (BR.root 0) (.f32 v9), .int .i64 v10]) {y : Int} (hy : laws_szFloat32S_g v9 v10 = some y) : ∃ F' H', Fwd 0 F F' [] (laws_szFloat32S_enc v9 v10 y).2 ∧ FnOk Try.prog 96 (DVs.av F [.bslc (BR.root 0) (.f32 v9), .int .i64 v10]) F.H0 ((laws_szFloat32S_enc v9 v10 y).1.av F') H' ∧ St F' (laws_szFloat32S_enc v9 v10 y).2 H' ∧ (laws_szFloat32S_enc v9 v10 y).1.Ok F' (laws_szFloat32S_enc v9 v10 y).2 :=
  fn_fin tok laws_szFloat32S_hO mixed Try.func96 Try.call96 (by kernel_rfl) (LoopsOk_eq (l := []) (by kernel_rfl) trivial) (laws_szFloat32S_den v9 v10) hy h0 hA
def laws_szFloat32S_v (v9 : List Nat) (v10 : Int) : Int :=
  if (decide (IntKind.i64.wrap (v10 - ((v9.length : Nat) : Int)) < (0 : Int))) = true then (
   (-1 : Int)
  ) else (
   IntKind.i64.wrap (v10 - ((v9.length : Nat) : Int))
  )
theorem laws_szFloat32S_tot (v9 : List Nat) (v10 : Int) : laws_szFloat32S_g v9 v10 = some (laws_szFloat32S_v v9 v10) := by
  unfold laws_szFloat32S_g laws_szFloat32S_T laws_szFloat32S_v
  simp only [Tree.run]
  repeat' (first | rfl | split)
noncomputable def laws_szFloat32S_F : DFn := fun args L =>
  match args with
  | [a1, .int .i64 v10] =>
    optT (rowF32 L a1) fun v9 =>
    .leaf (.int .i64 (laws_szFloat32S_v v9 v10), L)
  | _ => .fail
theorem laws_szFloat32S_Fok : COk Try.prog 96 laws_szFloat32S_F true := by
  intro F L H args r L' hs ha hr
  unfold laws_szFloat32S_F at hr
  split at hr
  · rename_i a1 v10
    obtain ⟨v9, hv9, hr⟩ := optT_run hr
    have hy := laws_szFloat32S_tot v9 v10
    generalize laws_szFloat32S_v v9 v10 = y at hy hr
    simp only [Tree.run, Option.some.injEq, Prod.mk.injEq] at hr
    obtain ⟨rfl, rfl⟩ := hr
    exact call_ok0 hs (fun k => (([a1.av F] : List AV)[k]?).getD .top) [a1, .int .i64 v10] [.bslc (BR.root 0) (.f32 v9), .int .i64 v10] (fun F' h0 hi hρ => ⟨by simp [DVs.av, DV.av, BR.av, hρ], laws_szFloat32S_fn v9 v10 F' (st_nil hi) ⟨bslc_ok hi (by rw [h0, hρ]; exact rowF32_ok hs (DVs.okAt ha 0 rfl) hv9), trivial, trivial⟩ hy⟩) rfl
  · cases hr
/-! laws.szMatrix -/
noncomputable def laws_szMatrix_LO (v5 : Int) (v6 : Int) (v7 : List Nat) (v8 : Int) : LOr := fun id e L =>
  match id with
  | _ => .fail
noncomputable def laws_szMatrix_tab : List (FuncId × DFn × Bool) := [(96, laws_szFloat32S_F, true)]
theorem laws_szMatrix_hO : OrcOk Try.prog (tabD laws_szMatrix_tab) (tabM laws_szMatrix_tab) := tabD_cons laws_szFloat32S_Fok (tabD_nil _)
noncomputable def laws_szMatrix_T (v7 : List Nat) (v8 : Int) : Tree (Int) :=
  (.br (decide ((laws_szFloat32S_v v7 v8) < (0 : Int))) (
   .leaf (-1 : Int)
  ) (
   .leaf (laws_szFloat32S_v v7 v8)
  ))

noncomputable def laws_szMatrix_g (v7 : List Nat) (v8 : Int) : Option (Int) := (laws_szMatrix_T v7 v8).run
def laws_szMatrix_enc (v5 : Int) (v6 : Int) (v7 : List Nat) (v8 : Int) (y : Int) : Rs := (.int .i64 y, [])
theorem laws_szMatrix_den (v5 : Int) (v6 : Int) (v7 : List Nat) (v8 : Int) : (den TT (tabD laws_szMatrix_tab) (tabM laws_szMatrix_tab) (laws_szMatrix_LO v5 v6 v7 v8) (codeOf Try.f36) ([.agg [.int .i64 v5, .int .i64 v6, .bslc (BR.root 0) (.f32 v7)], .int .i64 v8] ++ List.replicate (Try.f36.ntmps - ([.agg [.int .i64 v5, .int .i64 v6, .bslc (BR.root 0) (.f32 v7)], .int .i64 v8] : List DV).length) .undef) []).bind (retD TT Try.f36.results.toList 0) = (laws_szMatrix_T v7 v8).bind fun y => .leaf (laws_szMatrix_enc v5 v6 v7 v8 y) := by kernel_rfl
theorem laws_szMatrix_fn (v5 : Int) (v6 : Int) (v7 : List Nat) (v8 : Int) (F : Fr) (h0 : St F [] F.H0) (hA : DVs.Ok F [] [.agg [.int .i64 v5, .int .i64 v6, .bslc (BR.root 0) (.f32 v7)], .int .i64 v8]) {y : Int} (hy : laws_szMatrix_g v7 v8 = some y) : ∃ F' H', Fwd 0 F F' [] (laws_szMatrix_enc v5 v6 v7 v8 y).2 ∧ FnOk Try.prog 36 (DVs.av F [.agg [.int .i64 v5, .int .i64 v6, .bslc (BR.root 0) (.f32 v7)], .int .i64 v8]) F.H0 ((laws_szMatrix_enc v5 v6 v7 v8 y).1.av F') H' ∧ St F' (laws_szMatrix_enc v5 v6 v7 v8 y).2 H' ∧ (laws_szMatrix_enc v5 v6 v7 v8 y).1.Ok F' (laws_szMatrix_enc v5 v6 v7 v8 y).2 :=
  fn_fin tok laws_szMatrix_hO mixed Try.func36 Try.call36 (by kernel_rfl) (LoopsOk_eq (l := []) (by kernel_rfl) trivial) (laws_szMatrix_den v5 v6 v7 v8) hy h0 hA
def laws_szMatrix_v (v7 : List Nat) (v8 : Int) : Int :=
  if (decide ((laws_szFloat32S_v v7 v8) < (0 : Int))) = true then (
   (-1 : Int)
  ) else (
   (laws_szFloat32S_v v7 v8)
  )
theorem laws_szMatrix_tot (v7 : List Nat) (v8 : Int) : laws_szMatrix_g v7 v8 = some (laws_szMatrix_v v7 v8) := by
  unfold laws_szMatrix_g laws_szMatrix_T laws_szMatrix_v
  simp only [Tree.run]
  repeat' (first | rfl | split)
noncomputable def laws_szMatrix_F : DFn := fun args L =>
  match args with
  | [.agg [.int .i64 v5, .int .i64 v6, a1], .int .i64 v8] =>
    optT (rowF32 L a1) fun v7 =>
    .leaf (.int .i64 (laws_szMatrix_v v7 v8), L)
  | _ => .fail
theorem laws_szMatrix_Fok : COk Try.prog 36 laws_szMatrix_F true := by
  intro F L H args r L' hs ha hr
  unfold laws_szMatrix_F at hr
  split at hr
  · rename_i v5 v6 a1 v8
    obtain ⟨v7, hv7, hr⟩ := optT_run hr
    have hy := laws_szMatrix_tot v7 v8
    generalize laws_szMatrix_v v7 v8 = y at hy hr
    simp only [Tree.run, Option.some.injEq, Prod.mk.injEq] at hr
    obtain ⟨rfl, rfl⟩ := hr
    exact call_ok0 hs (fun k => (([a1.av F] : List AV)[k]?).getD .top) [.agg [.int .i64 v5, .int .i64 v6, a1], .int .i64 v8] [.agg [.int .i64 v5, .int .i64 v6, .bslc (BR.root 0) (.f32 v7)], .int .i64 v8] (fun F' h0 hi hρ => ⟨by simp [DVs.av, DV.av, BR.av, hρ], laws_szMatrix_fn v5 v6 v7 v8 F' (st_nil hi) ⟨⟨trivial, trivial, bslc_ok hi (by rw [h0, hρ]; exact rowF32_ok hs (DVs.okAt (DVs.okAt ha 0 rfl) 2 rfl) hv7), trivial⟩, trivial, trivial⟩ hy⟩) rfl
  · cases hr
/-! laws.toFloat32S -/
noncomputable def laws_toFloat32S_l0_T (v14 : List Nat) (s : Int × (List Nat)) : Tree ((Int × (List Nat)) ⊕ ((List Nat))) :=
  (.br (decide (s.1 < ((v14.length : Nat) : Int))) (
   (.grd (inb s.1 v14.length) <|
   (.grd (inb s.1 ((s.2).length)) <|
   .leaf (.inl (IntKind.i64.wrap (s.1 + (1 : Int)), List.set s.2 (Int.toNat s.1) (nth v14 (Int.toNat s.1))))))
  ) (
   .leaf (.inr s.2)
  ))

noncomputable def laws_toFloat32S_l0_g (v14 : List Nat) (s0 : Int × (List Nat)) : Option ((List Nat)) := whileM (fun s => (laws_toFloat32S_l0_T v14 s).run) s0
def laws_toFloat32S_l0_E (v14 : List Nat) (s : Int × (List Nat)) : Sd := ([.bslc (BR.root 0) (.f32 v14),tp,tp,.own 0 0 ((s.2).length),.int .i64 s.1,tp,tp,tp,tp,tp,tp,tp,tp,tp,tp,tp,tp,tp,tp,tp,tp,tp], [.row (.f32 s.2) 0])
def laws_toFloat32S_l0_X (v14 : List Nat) (x : (List Nat)) : Out := (.normal, [tp,tp,tp,.own 0 0 ((x).length),tp,tp,tp,tp,tp,tp,tp,tp,tp,tp,tp,tp,tp,tp,tp,tp,tp,tp], [.row (.f32 x) 0])
def laws_toFloat32S_l0_kill : List Nat := KL true [0,1,2,2,17]
def laws_toFloat32S_l0_nx : Exit → List Nat
  | .exit 0 => KL true [3,1,18]
  | .ret => KL true [2,1,19]
  | _ => []
noncomputable def laws_toFloat32S_LO (v14 : List Nat) : LOr := fun id e L =>
  match id with
  | 0 => .need (normA 0 laws_toFloat32S_l0_kill e L = some (laws_toFloat32S_l0_E v14 ((gI (vAt e 4)), (gRF L (vAt e 3))))) (.call (laws_toFloat32S_l0_g v14 ((gI (vAt e 4)), (gRF L (vAt e 3)))) fun x => .leaf (laws_toFloat32S_l0_X v14 x))
  | _ => .fail
noncomputable def laws_toFloat32S_tab : List (FuncId × DFn × Bool) := []
theorem laws_toFloat32S_hO : OrcOk Try.prog (tabD laws_toFloat32S_tab) (tabM laws_toFloat32S_tab) := tabD_nil _
theorem laws_toFloat32S_l0_be (v14 : List Nat) (s : Int × (List Nat)) : bodyT TT (tabD laws_toFloat32S_tab) (tabM laws_toFloat32S_tab) (laws_toFloat32S_LO v14) 0 laws_toFloat32S_l0_kill laws_toFloat32S_l0_nx (bodyOf Try.f45 0) 0 (laws_toFloat32S_l0_E v14 s) = (laws_toFloat32S_l0_T v14 s).bind fun y => .leaf (outS (laws_toFloat32S_l0_E v14) (laws_toFloat32S_l0_X v14) y) := by kernel_rfl
theorem laws_toFloat32S_l0_ok (v14 : List Nat) : LSound Try.prog 0 (laws_toFloat32S_LO v14) 0 (bodyOf Try.f45 0) := by
  intro e L out h
  exact lo_ok (E := laws_toFloat32S_l0_E v14) (gT := laws_toFloat32S_l0_T v14) (X := laws_toFloat32S_l0_X v14) (s0 := ((gI (vAt e 4)), (gRF L (vAt e 3)))) tok laws_toFloat32S_hO mixed (LoopsOk_eq (l := []) (by kernel_rfl) trivial) (laws_toFloat32S_l0_be v14) rfl (by intro x; rfl) h
noncomputable def laws_toFloat32S_T (v14 : List Nat) : Tree ((List Nat)) :=
  (.need (((v14.length : Nat) : Int) = ((v14.length : Nat) : Int)) <|
  (.grd (inb ((v14.length : Nat) : Int) (maxN + 1)) <|
  (.need (some (laws_toFloat32S_l0_E v14 ((0 : Int), List.replicate (Int.toNat ((v14.length : Nat) : Int)) (0 : Nat))) = some (laws_toFloat32S_l0_E v14 ((0 : Int), List.replicate (Int.toNat ((v14.length : Nat) : Int)) (0 : Nat)))) <|
  (.call (laws_toFloat32S_l0_g v14 ((0 : Int), List.replicate (Int.toNat ((v14.length : Nat) : Int)) (0 : Nat))) fun v20 =>
  .leaf v20))))

noncomputable def laws_toFloat32S_g (v14 : List Nat) : Option ((List Nat)) := (laws_toFloat32S_T v14).run
def laws_toFloat32S_enc (v14 : List Nat) (y : (List Nat)) : Rs := (.own 0 0 ((y).length), [.row (.f32 y) 0])
theorem laws_toFloat32S_den (v14 : List Nat) : (den TT (tabD laws_toFloat32S_tab) (tabM laws_toFloat32S_tab) (laws_toFloat32S_LO v14) (codeOf Try.f45) ([.bslc (BR.root 0) (.f32 v14)] ++ List.replicate (Try.f45.ntmps - ([.bslc (BR.root 0) (.f32 v14)] : List DV).length) .undef) []).bind (retD TT Try.f45.results.toList 0) = (laws_toFloat32S_T v14).bind fun y => .leaf (laws_toFloat32S_enc v14 y) := by kernel_rfl
theorem laws_toFloat32S_fn (v14 : List Nat) (F : Fr) (h0 : St F [] F.H0) (hA : DVs.Ok F [] [.bslc (BR.root 0) (.f32 v14)]) {y : (List Nat)} (hy : laws_toFloat32S_g v14 = some y) : ∃ F' H', Fwd 0 F F' [] (laws_toFloat32S_enc v14 y).2 ∧ FnOk Try.prog 45 (DVs.av F [.bslc (BR.root 0) (.f32 v14)]) F.H0 ((laws_toFloat32S_enc v14 y).1.av F') H' ∧ St F' (laws_toFloat32S_enc v14 y).2 H' ∧ (laws_toFloat32S_enc v14 y).1.Ok F' (laws_toFloat32S_enc v14 y).2 :=
  fn_fin tok laws_toFloat32S_hO mixed Try.func45 Try.call45 (by kernel_rfl) (LoopsOk_eq (l := [(0, bodyOf Try.f45 0)]) (by kernel_rfl) ⟨laws_toFloat32S_l0_ok v14, trivial⟩) (laws_toFloat32S_den v14) hy h0 hA
noncomputable def laws_toFloat32S_F : DFn := fun args L =>
  match args with
  | [a1] =>
    optT (rowF32 L a1) fun v14 =>
    .call (laws_toFloat32S_g v14) fun y => .leaf (.own (L.length + 0) 0 ((y).length), L ++ [.row (.f32 y) 0])
  | _ => .fail
theorem laws_toFloat32S_Fok : COk Try.prog 45 laws_toFloat32S_F true := by
  intro F L H args r L' hs ha hr
  unfold laws_toFloat32S_F at hr
  split at hr
  · rename_i a1
    obtain ⟨v14, hv14, hr⟩ := optT_run hr
    simp only [Tree.run] at hr
    obtain ⟨y, hy, hr⟩ := Option.bind_eq_some_iff.1 hr
    simp only [Tree.run, Option.some.injEq, Prod.mk.injEq] at hr
    obtain ⟨rfl, rfl⟩ := hr
    exact call_ok1 hs (fun k => (([a1.av F] : List AV)[k]?).getD .top) [a1] [.bslc (BR.root 0) (.f32 v14)] (fun F' h0 hi hρ => ⟨by simp [DVs.av, DV.av, BR.av, hρ], laws_toFloat32S_fn v14 F' (st_nil hi) ⟨bslc_ok hi (by rw [h0, hρ]; exact rowF32_ok hs (DVs.okAt ha 0 rfl) hv14), trivial⟩ hy⟩) rfl rfl
  · cases hr
/-! laws.toMatrix -/
noncomputable def laws_toMatrix_LO (v11 : Int) (v12 : Int) (v13 : List Nat) : LOr := fun id e L =>
  match id with
  | _ => .fail
noncomputable def laws_toMatrix_tab : List (FuncId × DFn × Bool) := [(45, laws_toFloat32S_F, true)]
theorem laws_toMatrix_hO : OrcOk Try.prog (tabD laws_toMatrix_tab) (tabM laws_toMatrix_tab) := tabD_cons laws_toFloat32S_Fok (tabD_nil _)
noncomputable def laws_toMatrix_T (v11 : Int) (v12 : Int) (v13 : List Nat) : Tree (Int × Int × (List Nat)) :=
  (.call (laws_toFloat32S_g v13) fun v21 =>
  .leaf (v11, v12, v21))

noncomputable def laws_toMatrix_g (v11 : Int) (v12 : Int) (v13 : List Nat) : Option (Int × Int × (List Nat)) := (laws_toMatrix_T v11 v12 v13).run
def laws_toMatrix_enc (v11 : Int) (v12 : Int) (v13 : List Nat) (y : Int × Int × (List Nat)) : Rs := (.agg [.int .i64 y.1, .int .i64 y.2.1, .own 0 0 ((y.2.2).length)], [.row (.f32 y.2.2) 0])
theorem laws_toMatrix_den (v11 : Int) (v12 : Int) (v13 : List Nat) : (den TT (tabD laws_toMatrix_tab) (tabM laws_toMatrix_tab) (laws_toMatrix_LO v11 v12 v13) (codeOf Try.f38) ([.agg [.int .i64 v11, .int .i64 v12, .bslc (BR.root 0) (.f32 v13)]] ++ List.replicate (Try.f38.ntmps - ([.agg [.int .i64 v11, .int .i64 v12, .bslc (BR.root 0) (.f32 v13)]] : List DV).length) .undef) []).bind (retD TT Try.f38.results.toList 0) = (laws_toMatrix_T v11 v12 v13).bind fun y => .leaf (laws_toMatrix_enc v11 v12 v13 y) := by kernel_rfl
theorem laws_toMatrix_fn (v11 : Int) (v12 : Int) (v13 : List Nat) (F : Fr) (h0 : St F [] F.H0) (hA : DVs.Ok F [] [.agg [.int .i64 v11, .int .i64 v12, .bslc (BR.root 0) (.f32 v13)]]) {y : Int × Int × (List Nat)} (hy : laws_toMatrix_g v11 v12 v13 = some y) : ∃ F' H', Fwd 0 F F' [] (laws_toMatrix_enc v11 v12 v13 y).2 ∧ FnOk Try.prog 38 (DVs.av F [.agg [.int .i64 v11, .int .i64 v12, .bslc (BR.root 0) (.f32 v13)]]) F.H0 ((laws_toMatrix_enc v11 v12 v13 y).1.av F') H' ∧ St F' (laws_toMatrix_enc v11 v12 v13 y).2 H' ∧ (laws_toMatrix_enc v11 v12 v13 y).1.Ok F' (laws_toMatrix_enc v11 v12 v13 y).2 :=
  fn_fin tok laws_toMatrix_hO mixed Try.func38 Try.call38 (by kernel_rfl) (LoopsOk_eq (l := []) (by kernel_rfl) trivial) (laws_toMatrix_den v11 v12 v13) hy h0 hA
noncomputable def laws_toMatrix_F : DFn := fun args L =>
  match args with
  | [.agg [.int .i64 v11, .int .i64 v12, a1]] =>
    optT (rowF32 L a1) fun v13 =>
    .call (laws_toMatrix_g v11 v12 v13) fun y => .leaf (.agg [.int .i64 y.1, .int .i64 y.2.1, .own (L.length + 0) 0 ((y.2.2).length)], L ++ [.row (.f32 y.2.2) 0])
  | _ => .fail
theorem laws_toMatrix_Fok : COk Try.prog 38 laws_toMatrix_F true := by
  intro F L H args r L' hs ha hr
  unfold laws_toMatrix_F at hr
  split at hr
  · rename_i v11 v12 a1
    obtain ⟨v13, hv13, hr⟩ := optT_run hr
    simp only [Tree.run] at hr
    obtain ⟨y, hy, hr⟩ := Option.bind_eq_some_iff.1 hr
    simp only [Tree.run, Option.some.injEq, Prod.mk.injEq] at hr
    obtain ⟨rfl, rfl⟩ := hr
    exact call_ok1 hs (fun k => (([a1.av F] : List AV)[k]?).getD .top) [.agg [.int .i64 v11, .int .i64 v12, a1]] [.agg [.int .i64 v11, .int .i64 v12, .bslc (BR.root 0) (.f32 v13)]] (fun F' h0 hi hρ => ⟨by simp [DVs.av, DV.av, BR.av, hρ], laws_toMatrix_fn v11 v12 v13 F' (st_nil hi) ⟨⟨trivial, trivial, bslc_ok hi (by rw [h0, hρ]; exact rowF32_ok hs (DVs.okAt (DVs.okAt ha 0 rfl) 2 rfl) hv13), trivial⟩, trivial⟩ hy⟩) rfl rfl
  · cases hr
end Go.Proofs.Ytimlecagkbbnpaa.AM
