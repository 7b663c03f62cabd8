/- Functions: what they come to. -/
import Derived.Test.YtjniaobboclniabBase
set_option maxRecDepth 100000
set_option maxHeartbeats 4000000
set_option linter.unusedSimpArgs false
set_option linter.unusedVariables false
namespace Go.Proofs.Ytjniaobboclniab.AM
open Go.Proofs
/-! laws.szFloat32S -/
noncomputable def laws_szFloat32S_LO (v9 : List Nat) (v10 : Int) : LOr := fun id e L =>
  match id with
  | _ => .fail
noncomputable def laws_szFloat32S_tab : List (FuncId × DFn × Bool) := []
theorem laws_szFloat32S_hO : OrcOk Try.prog (tabD laws_szFloat32S_tab) (tabM laws_szFloat32S_tab) := tabD_nil _
noncomputable def laws_szFloat32S_T (v9 : List Nat) (v10 : Int) : Tree (Int) :=
  (.br (decide (IntKind.i64.wrap (v10 - ((v9.length : Nat) : Int)) < (0 : Int))) (
   .leaf (-1 : Int)
  ) (
   .leaf (IntKind.i64.wrap (v10 - ((v9.length : Nat) : Int)))
  ))

noncomputable def laws_szFloat32S_g (v9 : List Nat) (v10 : Int) : Option (Int) := (laws_szFloat32S_T v9 v10).run
def laws_szFloat32S_enc (v9 : List Nat) (v10 : Int) (y : Int) : Rs := (.int .i64 y, [])
theorem laws_szFloat32S_den (v9 : List Nat) (v10 : Int) : (den TT (tabD laws_szFloat32S_tab) (tabM laws_szFloat32S_tab) (laws_szFloat32S_LO v9 v10) (codeOf Try.f77) ([.bslc (BR.root 0) (.f32 v9), .int .i64 v10] ++ List.replicate (Try.f77.ntmps - ([.bslc (BR.root 0) (.f32 v9), .int .i64 v10] : List DV).length) .undef) []).bind (retD TT Try.f77.results.toList 0) = (laws_szFloat32S_T v9 v10).bind fun y => .leaf (laws_szFloat32S_enc v9 v10 y) := by kernel_rfl
theorem laws_szFloat32S_fn (v9 : List Nat) (v10 : Int) (F : Fr) (hm : F.ids.length = 0) (h0 : St F [] F.H0) (hA : DVs.Ok F [] [.bslc (BR.root 0) (.f32 v9), .int .i64 v10]) {y : Int} (hy : laws_szFloat32S_g v9 v10 = some y) : ∃ H', FnOk Try.prog 77 (DVs.av F [.bslc (BR.root 0) (.f32 v9), .int .i64 v10]) F.H0 ((laws_szFloat32S_enc v9 v10 y).1.av F) H' ∧ St F (laws_szFloat32S_enc v9 v10 y).2 H' ∧ (laws_szFloat32S_enc v9 v10 y).1.Ok F (laws_szFloat32S_enc v9 v10 y).2 :=
  fn_fin tok laws_szFloat32S_hO mixed Try.func77 Try.call77 (by kernel_rfl) (LoopsOk_eq (l := []) (by kernel_rfl) trivial) (laws_szFloat32S_den v9 v10) hy hm h0 hA
def laws_szFloat32S_v (v9 : List Nat) (v10 : Int) : Int :=
  if (decide (IntKind.i64.wrap (v10 - ((v9.length : Nat) : Int)) < (0 : Int))) = true then (
   (-1 : Int)
  ) else (
   IntKind.i64.wrap (v10 - ((v9.length : Nat) : Int))
  )
theorem laws_szFloat32S_tot (v9 : List Nat) (v10 : Int) : laws_szFloat32S_g v9 v10 = some (laws_szFloat32S_v v9 v10) := by
  unfold laws_szFloat32S_g laws_szFloat32S_T laws_szFloat32S_v
  simp only [Tree.run]
  repeat' (first | rfl | split)
noncomputable def laws_szFloat32S_F : DFn := fun args L =>
  match args with
  | [a1, .int .i64 v10] =>
    optT (rowF32 L a1) fun v9 =>
    .leaf (.int .i64 (laws_szFloat32S_v v9 v10), L)
  | _ => .fail
theorem laws_szFloat32S_Fok : COk Try.prog 77 laws_szFloat32S_F true := by
  intro F L H args r L' hs ha hr
  unfold laws_szFloat32S_F at hr
  split at hr
  · rename_i a1 v10
    obtain ⟨v9, hv9, hr⟩ := optT_run hr
    have hy := laws_szFloat32S_tot v9 v10
    generalize laws_szFloat32S_v v9 v10 = y at hy hr
    simp only [Tree.run, Option.some.injEq, Prod.mk.injEq] at hr
    obtain ⟨rfl, rfl⟩ := hr
    exact call_ok0 hs (fun k => (([a1.av F] : List AV)[k]?).getD .top) [a1, .int .i64 v10] [.bslc (BR.root 0) (.f32 v9), .int .i64 v10] (fun F' h0 hi hρ => ⟨by simp [DVs.av, DV.av, BR.av, hρ], laws_szFloat32S_fn v9 v10 F' (by rw [hi]; rfl) (st_nil hi) ⟨bslc_ok hi (by rw [h0, hρ]; exact rowF32_ok hs (DVs.okAt ha 0 rfl) hv9), trivial, trivial⟩ hy⟩) rfl
  · cases hr
/-! laws.szThirds -/
noncomputable def laws_szThirds_LO (v5 : List Nat) (v6 : List Nat) (v7 : List Nat) (v8 : Int) : LOr := fun id e L =>
  match id with
  | _ => .fail
noncomputable def laws_szThirds_tab : List (FuncId × DFn × Bool) := [(77, laws_szFloat32S_F, true)]
theorem laws_szThirds_hO : OrcOk Try.prog (tabD laws_szThirds_tab) (tabM laws_szThirds_tab) := tabD_cons laws_szFloat32S_Fok (tabD_nil _)
noncomputable def laws_szThirds_T (v5 : List Nat) (v6 : List Nat) (v7 : List Nat) (v8 : Int) : Tree (Int) :=
  (.br (decide ((laws_szFloat32S_v v5 v8) < (0 : Int))) (
   .leaf (-1 : Int)
  ) (
   (.br (decide ((laws_szFloat32S_v v6 (laws_szFloat32S_v v5 v8)) < (0 : Int))) (
    .leaf (-1 : Int)
   ) (
    (.br (decide ((laws_szFloat32S_v v7 (laws_szFloat32S_v v6 (laws_szFloat32S_v v5 v8))) < (0 : Int))) (
     .leaf (-1 : Int)
    ) (
     .leaf (laws_szFloat32S_v v7 (laws_szFloat32S_v v6 (laws_szFloat32S_v v5 v8)))
    ))
   ))
  ))

noncomputable def laws_szThirds_g (v5 : List Nat) (v6 : List Nat) (v7 : List Nat) (v8 : Int) : Option (Int) := (laws_szThirds_T v5 v6 v7 v8).run
def laws_szThirds_enc (v5 : List Nat) (v6 : List Nat) (v7 : List Nat) (v8 : Int) (y : Int) : Rs := (.int .i64 y, [])
theorem laws_szThirds_den (v5 : List Nat) (v6 : List Nat) (v7 : List Nat) (v8 : Int) : (den TT (tabD laws_szThirds_tab) (tabM laws_szThirds_tab) (laws_szThirds_LO v5 v6 v7 v8) (codeOf Try.f22) ([.agg [.bslc (BR.root 0) (.f32 v5), .bslc (BR.root 1) (.f32 v6), .bslc (BR.root 2) (.f32 v7)], .int .i64 v8] ++ List.replicate (Try.f22.ntmps - ([.agg [.bslc (BR.root 0) (.f32 v5), .bslc (BR.root 1) (.f32 v6), .bslc (BR.root 2) (.f32 v7)], .int .i64 v8] : List DV).length) .undef) []).bind (retD TT Try.f22.results.toList 0) = (laws_szThirds_T v5 v6 v7 v8).bind fun y => .leaf (laws_szThirds_enc v5 v6 v7 v8 y) := by kernel_rfl
theorem laws_szThirds_fn (v5 : List Nat) (v6 : List Nat) (v7 : List Nat) (v8 : Int) (F : Fr) (hm : F.ids.length = 0) (h0 : St F [] F.H0) (hA : DVs.Ok F [] [.agg [.bslc (BR.root 0) (.f32 v5), .bslc (BR.root 1) (.f32 v6), .bslc (BR.root 2) (.f32 v7)], .int .i64 v8]) {y : Int} (hy : laws_szThirds_g v5 v6 v7 v8 = some y) : ∃ H', FnOk Try.prog 22 (DVs.av F [.agg [.bslc (BR.root 0) (.f32 v5), .bslc (BR.root 1) (.f32 v6), .bslc (BR.root 2) (.f32 v7)], .int .i64 v8]) F.H0 ((laws_szThirds_enc v5 v6 v7 v8 y).1.av F) H' ∧ St F (laws_szThirds_enc v5 v6 v7 v8 y).2 H' ∧ (laws_szThirds_enc v5 v6 v7 v8 y).1.Ok F (laws_szThirds_enc v5 v6 v7 v8 y).2 :=
  fn_fin tok laws_szThirds_hO mixed Try.func22 Try.call22 (by kernel_rfl) (LoopsOk_eq (l := []) (by kernel_rfl) trivial) (laws_szThirds_den v5 v6 v7 v8) hy hm h0 hA
def laws_szThirds_v (v5 : List Nat) (v6 : List Nat) (v7 : List Nat) (v8 : Int) : Int :=
  if (decide ((laws_szFloat32S_v v5 v8) < (0 : Int))) = true then (
   (-1 : Int)
  ) else (
   if (decide ((laws_szFloat32S_v v6 (laws_szFloat32S_v v5 v8)) < (0 : Int))) = true then (
    (-1 : Int)
   ) else (
    if (decide ((laws_szFloat32S_v v7 (laws_szFloat32S_v v6 (laws_szFloat32S_v v5 v8))) < (0 : Int))) = true then (
     (-1 : Int)
    ) else (
     (laws_szFloat32S_v v7 (laws_szFloat32S_v v6 (laws_szFloat32S_v v5 v8)))
    )
   )
  )
theorem laws_szThirds_tot (v5 : List Nat) (v6 : List Nat) (v7 : List Nat) (v8 : Int) : laws_szThirds_g v5 v6 v7 v8 = some (laws_szThirds_v v5 v6 v7 v8) := by
  unfold laws_szThirds_g laws_szThirds_T laws_szThirds_v
  simp only [Tree.run]
  repeat' (first | rfl | split)
noncomputable def laws_szThirds_F : DFn := fun args L =>
  match args with
  | [.agg [a1, a2, a3], .int .i64 v8] =>
    optT (rowF32 L a1) fun v5 =>
    optT (rowF32 L a2) fun v6 =>
    optT (rowF32 L a3) fun v7 =>
    .leaf (.int .i64 (laws_szThirds_v v5 v6 v7 v8), L)
  | _ => .fail
theorem laws_szThirds_Fok : COk Try.prog 22 laws_szThirds_F true := by
  intro F L H args r L' hs ha hr
  unfold laws_szThirds_F at hr
  split at hr
  · rename_i a1 a2 a3 v8
    obtain ⟨v5, hv5, hr⟩ := optT_run hr
    obtain ⟨v6, hv6, hr⟩ := optT_run hr
    obtain ⟨v7, hv7, hr⟩ := optT_run hr
    have hy := laws_szThirds_tot v5 v6 v7 v8
    generalize laws_szThirds_v v5 v6 v7 v8 = y at hy hr
    simp only [Tree.run, Option.some.injEq, Prod.mk.injEq] at hr
    obtain ⟨rfl, rfl⟩ := hr
    exact call_ok0 hs (fun k => (([a1.av F, a2.av F, a3.av F] : List AV)[k]?).getD .top) [.agg [a1, a2, a3], .int .i64 v8] [.agg [.bslc (BR.root 0) (.f32 v5), .bslc (BR.root 1) (.f32 v6), .bslc (BR.root 2) (.f32 v7)], .int .i64 v8] (fun F' h0 hi hρ => ⟨by simp [DVs.av, DV.av, BR.av, hρ], laws_szThirds_fn v5 v6 v7 v8 F' (by rw [hi]; rfl) (st_nil hi) ⟨⟨bslc_ok hi (by rw [h0, hρ]; exact rowF32_ok hs (DVs.okAt (DVs.okAt ha 0 rfl) 0 rfl) hv5), bslc_ok hi (by rw [h0, hρ]; exact rowF32_ok hs (DVs.okAt (DVs.okAt ha 0 rfl) 1 rfl) hv6), bslc_ok hi (by rw [h0, hρ]; exact rowF32_ok hs (DVs.okAt (DVs.okAt ha 0 rfl) 2 rfl) hv7), trivial⟩, trivial, trivial⟩ hy⟩) rfl
  · cases hr
/-! laws.toFloat32S -/
noncomputable def laws_toFloat32S_l0_T (v14 : List Nat) (s : Int × (List Nat)) : Tree ((Int × (List Nat)) ⊕ ((List Nat))) :=
  (.br (decide (s.1 < ((v14.length : Nat) : Int))) (
   (.grd (inb s.1 v14.length) <|
   (.grd (inb s.1 ((s.2).length)) <|
   .leaf (.inl (IntKind.i64.wrap (s.1 + (1 : Int)), List.set s.2 (Int.toNat s.1) (nth v14 (Int.toNat s.1))))))
  ) (
   .leaf (.inr s.2)
  ))

noncomputable def laws_toFloat32S_l0_g (v14 : List Nat) (s0 : Int × (List Nat)) : Option ((List Nat)) := whileM (fun s => (laws_toFloat32S_l0_T v14 s).run) s0
def laws_toFloat32S_l0_E (v14 : List Nat) (s : Int × (List Nat)) : Sd := ([.bslc (BR.root 0) (.f32 v14), .top, .top, .own 0 0 ((s.2).length), .int .i64 s.1, .top, .top, .top, .top, .top, .top, .top, .top, .top, .top, .top, .top, .top, .top, .top, .top, .top], [.row (.f32 s.2) 0])
def laws_toFloat32S_l0_X (v14 : List Nat) (x : (List Nat)) : Out := (.normal, [.top, .top, .top, .own 0 0 ((x).length), .top, .top, .top, .top, .top, .top, .top, .top, .top, .top, .top, .top, .top, .top, .top, .top, .top, .top], [.row (.f32 x) 0])
def laws_toFloat32S_l0_kill : List Nat := [0, 1, 1, 0, 0, 1, 1, 1, 1, 1, 1, 1, 1, 1, 1, 1, 1, 1, 1, 1, 1, 1]
def laws_toFloat32S_l0_nx : Exit → List Nat
  | .exit 0 => [1, 1, 1, 0, 1, 1, 1, 1, 1, 1, 1, 1, 1, 1, 1, 1, 1, 1, 1, 1, 1, 1]
  | .ret => [1, 1, 0, 1, 1, 1, 1, 1, 1, 1, 1, 1, 1, 1, 1, 1, 1, 1, 1, 1, 1, 1]
  | _ => []
noncomputable def laws_toFloat32S_LO (v14 : List Nat) : LOr := fun id e L =>
  match id with
  | 0 => .need (normA 0 laws_toFloat32S_l0_kill e L = some (laws_toFloat32S_l0_E v14 ((gI (vAt e 4)), (gRF L (vAt e 3))))) (.call (laws_toFloat32S_l0_g v14 ((gI (vAt e 4)), (gRF L (vAt e 3)))) fun x => .leaf (laws_toFloat32S_l0_X v14 x))
  | _ => .fail
noncomputable def laws_toFloat32S_tab : List (FuncId × DFn × Bool) := []
theorem laws_toFloat32S_hO : OrcOk Try.prog (tabD laws_toFloat32S_tab) (tabM laws_toFloat32S_tab) := tabD_nil _
theorem laws_toFloat32S_l0_be (v14 : List Nat) (s : Int × (List Nat)) : bodyT TT (tabD laws_toFloat32S_tab) (tabM laws_toFloat32S_tab) (laws_toFloat32S_LO v14) 0 laws_toFloat32S_l0_kill laws_toFloat32S_l0_nx (bodyOf Try.f25 0) 0 (laws_toFloat32S_l0_E v14 s) = (laws_toFloat32S_l0_T v14 s).bind fun y => .leaf (outS (laws_toFloat32S_l0_E v14) (laws_toFloat32S_l0_X v14) y) := by kernel_rfl
theorem laws_toFloat32S_l0_ok (v14 : List Nat) : LSound Try.prog 0 (laws_toFloat32S_LO v14) 0 (bodyOf Try.f25 0) := by
  intro e L out h
  exact lo_ok (E := laws_toFloat32S_l0_E v14) (gT := laws_toFloat32S_l0_T v14) (X := laws_toFloat32S_l0_X v14) (s0 := ((gI (vAt e 4)), (gRF L (vAt e 3)))) tok laws_toFloat32S_hO mixed (LoopsOk_eq (l := []) (by kernel_rfl) trivial) (laws_toFloat32S_l0_be v14) rfl (by intro x; rfl) h
noncomputable def laws_toFloat32S_T (v14 : List Nat) : Tree ((List Nat)) :=
  (.need (((v14.length : Nat) : Int) = ((v14.length : Nat) : Int)) <|
  (.grd (inb ((v14.length : Nat) : Int) (maxN + 1)) <|
  (.need (some (laws_toFloat32S_l0_E v14 ((0 : Int), List.replicate (Int.toNat ((v14.length : Nat) : Int)) (0 : Nat))) = some (laws_toFloat32S_l0_E v14 ((0 : Int), List.replicate (Int.toNat ((v14.length : Nat) : Int)) (0 : Nat)))) <|
  (.call (laws_toFloat32S_l0_g v14 ((0 : Int), List.replicate (Int.toNat ((v14.length : Nat) : Int)) (0 : Nat))) fun v20 =>
  .leaf v20))))

noncomputable def laws_toFloat32S_g (v14 : List Nat) : Option ((List Nat)) := (laws_toFloat32S_T v14).run
def laws_toFloat32S_enc (v14 : List Nat) (y : (List Nat)) : Rs := (.own 0 0 ((y).length), [.row (.f32 y) 0])
theorem laws_toFloat32S_den (v14 : List Nat) : (den TT (tabD laws_toFloat32S_tab) (tabM laws_toFloat32S_tab) (laws_toFloat32S_LO v14) (codeOf Try.f25) ([.bslc (BR.root 0) (.f32 v14)] ++ List.replicate (Try.f25.ntmps - ([.bslc (BR.root 0) (.f32 v14)] : List DV).length) .undef) []).bind (retD TT Try.f25.results.toList 0) = (laws_toFloat32S_T v14).bind fun y => .leaf (laws_toFloat32S_enc v14 y) := by kernel_rfl
theorem laws_toFloat32S_fn (v14 : List Nat) (F : Fr) (hm : F.ids.length = 0) (h0 : St F [] F.H0) (hA : DVs.Ok F [] [.bslc (BR.root 0) (.f32 v14)]) {y : (List Nat)} (hy : laws_toFloat32S_g v14 = some y) : ∃ H', FnOk Try.prog 25 (DVs.av F [.bslc (BR.root 0) (.f32 v14)]) F.H0 ((laws_toFloat32S_enc v14 y).1.av F) H' ∧ St F (laws_toFloat32S_enc v14 y).2 H' ∧ (laws_toFloat32S_enc v14 y).1.Ok F (laws_toFloat32S_enc v14 y).2 :=
  fn_fin tok laws_toFloat32S_hO mixed Try.func25 Try.call25 (by kernel_rfl) (LoopsOk_eq (l := [(0, bodyOf Try.f25 0)]) (by kernel_rfl) ⟨laws_toFloat32S_l0_ok v14, trivial⟩) (laws_toFloat32S_den v14) hy hm h0 hA
noncomputable def laws_toFloat32S_F : DFn := fun args L =>
  match args with
  | [a1] =>
    optT (rowF32 L a1) fun v14 =>
    .call (laws_toFloat32S_g v14) fun y => .leaf (.own (L.length + 0) 0 ((y).length), L ++ [.row (.f32 y) 0])
  | _ => .fail
theorem laws_toFloat32S_Fok : COk Try.prog 25 laws_toFloat32S_F true := by
  intro F L H args r L' hs ha hr
  unfold laws_toFloat32S_F at hr
  split at hr
  · rename_i a1
    obtain ⟨v14, hv14, hr⟩ := optT_run hr
    simp only [Tree.run] at hr
    obtain ⟨y, hy, hr⟩ := Option.bind_eq_some_iff.1 hr
    simp only [Tree.run, Option.some.injEq, Prod.mk.injEq] at hr
    obtain ⟨rfl, rfl⟩ := hr
    exact call_ok1 hs (fun k => (([a1.av F] : List AV)[k]?).getD .top) [a1] [.bslc (BR.root 0) (.f32 v14)] (fun F' h0 hi hρ => ⟨by simp [DVs.av, DV.av, BR.av, hρ], laws_toFloat32S_fn v14 F' (by rw [hi]; rfl) (st_nil hi) ⟨bslc_ok hi (by rw [h0, hρ]; exact rowF32_ok hs (DVs.okAt ha 0 rfl) hv14), trivial⟩ hy⟩) rfl rfl
  · cases hr
/-! laws.toThirds -/
noncomputable def laws_toThirds_LO (v11 : List Nat) (v12 : List Nat) (v13 : List Nat) : LOr := fun id e L =>
  match id with
  | _ => .fail
noncomputable def laws_toThirds_tab : List (FuncId × DFn × Bool) := [(25, laws_toFloat32S_F, true)]
theorem laws_toThirds_hO : OrcOk Try.prog (tabD laws_toThirds_tab) (tabM laws_toThirds_tab) := tabD_cons laws_toFloat32S_Fok (tabD_nil _)
noncomputable def laws_toThirds_T (v11 : List Nat) (v12 : List Nat) (v13 : List Nat) : Tree ((List Nat) × (List Nat) × (List Nat)) :=
  (.call (laws_toFloat32S_g v11) fun v21 =>
  (.call (laws_toFloat32S_g v12) fun v22 =>
  (.call (laws_toFloat32S_g v13) fun v23 =>
  .leaf (v21, v22, v23))))

noncomputable def laws_toThirds_g (v11 : List Nat) (v12 : List Nat) (v13 : List Nat) : Option ((List Nat) × (List Nat) × (List Nat)) := (laws_toThirds_T v11 v12 v13).run
def laws_toThirds_enc (v11 : List Nat) (v12 : List Nat) (v13 : List Nat) (y : (List Nat) × (List Nat) × (List Nat)) : Rs := (.agg [.own 0 0 ((y.1).length), .own 1 0 ((y.2.1).length), .own 2 0 ((y.2.2).length)], [.row (.f32 y.1) 0, .row (.f32 y.2.1) 0, .row (.f32 y.2.2) 0])
theorem laws_toThirds_den (v11 : List Nat) (v12 : List Nat) (v13 : List Nat) : (den TT (tabD laws_toThirds_tab) (tabM laws_toThirds_tab) (laws_toThirds_LO v11 v12 v13) (codeOf Try.f24) ([.agg [.bslc (BR.root 0) (.f32 v11), .bslc (BR.root 1) (.f32 v12), .bslc (BR.root 2) (.f32 v13)]] ++ List.replicate (Try.f24.ntmps - ([.agg [.bslc (BR.root 0) (.f32 v11), .bslc (BR.root 1) (.f32 v12), .bslc (BR.root 2) (.f32 v13)]] : List DV).length) .undef) []).bind (retD TT Try.f24.results.toList 0) = (laws_toThirds_T v11 v12 v13).bind fun y => .leaf (laws_toThirds_enc v11 v12 v13 y) := by kernel_rfl
theorem laws_toThirds_fn (v11 : List Nat) (v12 : List Nat) (v13 : List Nat) (F : Fr) (hm : F.ids.length = 0) (h0 : St F [] F.H0) (hA : DVs.Ok F [] [.agg [.bslc (BR.root 0) (.f32 v11), .bslc (BR.root 1) (.f32 v12), .bslc (BR.root 2) (.f32 v13)]]) {y : (List Nat) × (List Nat) × (List Nat)} (hy : laws_toThirds_g v11 v12 v13 = some y) : ∃ H', FnOk Try.prog 24 (DVs.av F [.agg [.bslc (BR.root 0) (.f32 v11), .bslc (BR.root 1) (.f32 v12), .bslc (BR.root 2) (.f32 v13)]]) F.H0 ((laws_toThirds_enc v11 v12 v13 y).1.av F) H' ∧ St F (laws_toThirds_enc v11 v12 v13 y).2 H' ∧ (laws_toThirds_enc v11 v12 v13 y).1.Ok F (laws_toThirds_enc v11 v12 v13 y).2 :=
  fn_fin tok laws_toThirds_hO mixed Try.func24 Try.call24 (by kernel_rfl) (LoopsOk_eq (l := []) (by kernel_rfl) trivial) (laws_toThirds_den v11 v12 v13) hy hm h0 hA
noncomputable def laws_toThirds_F : DFn := fun args L =>
  match args with
  | [.agg [a1, a2, a3]] =>
    optT (rowF32 L a1) fun v11 =>
    optT (rowF32 L a2) fun v12 =>
    optT (rowF32 L a3) fun v13 =>
    .call (laws_toThirds_g v11 v12 v13) fun y => .leaf (.agg [.own (L.length + 0) 0 ((y.1).length), .own (L.length + 1) 0 ((y.2.1).length), .own (L.length + 2) 0 ((y.2.2).length)], L ++ [.row (.f32 y.1) 0, .row (.f32 y.2.1) 0, .row (.f32 y.2.2) 0])
  | _ => .fail
theorem laws_toThirds_Fok : COk Try.prog 24 laws_toThirds_F true := by
  intro F L H args r L' hs ha hr
  unfold laws_toThirds_F at hr
  split at hr
  · rename_i a1 a2 a3
    obtain ⟨v11, hv11, hr⟩ := optT_run hr
    obtain ⟨v12, hv12, hr⟩ := optT_run hr
    obtain ⟨v13, hv13, hr⟩ := optT_run hr
    simp only [Tree.run] at hr
    obtain ⟨y, hy, hr⟩ := Option.bind_eq_some_iff.1 hr
    simp only [Tree.run, Option.some.injEq, Prod.mk.injEq] at hr
    obtain ⟨rfl, rfl⟩ := hr
    exact call_ok1 hs (fun k => (([a1.av F, a2.av F, a3.av F] : List AV)[k]?).getD .top) [.agg [a1, a2, a3]] [.agg [.bslc (BR.root 0) (.f32 v11), .bslc (BR.root 1) (.f32 v12), .bslc (BR.root 2) (.f32 v13)]] (fun F' h0 hi hρ => ⟨by simp [DVs.av, DV.av, BR.av, hρ], laws_toThirds_fn v11 v12 v13 F' (by rw [hi]; rfl) (st_nil hi) ⟨⟨bslc_ok hi (by rw [h0, hρ]; exact rowF32_ok hs (DVs.okAt (DVs.okAt ha 0 rfl) 0 rfl) hv11), bslc_ok hi (by rw [h0, hρ]; exact rowF32_ok hs (DVs.okAt (DVs.okAt ha 0 rfl) 1 rfl) hv12), bslc_ok hi (by rw [h0, hρ]; exact rowF32_ok hs (DVs.okAt (DVs.okAt ha 0 rfl) 2 rfl) hv13), trivial⟩, trivial⟩ hy⟩) rfl rfl
  · cases hr
/-! spec.l01Finite -/
noncomputable def spec_l01Finite_LO (v39 : Nat) : LOr := fun id e L =>
  match id with
  | _ => .fail
noncomputable def spec_l01Finite_tab : List (FuncId × DFn × Bool) := []
theorem spec_l01Finite_hO : OrcOk Try.prog (tabD spec_l01Finite_tab) (tabM spec_l01Finite_tab) := tabD_nil _
noncomputable def spec_l01Finite_T (v39 : Nat) : Tree (Bool) :=
  .leaf (feq .f32 (fsub .f32 v39 v39) (0 : Nat))

noncomputable def spec_l01Finite_g (v39 : Nat) : Option (Bool) := (spec_l01Finite_T v39).run
def spec_l01Finite_enc (v39 : Nat) (y : Bool) : Rs := (.bool y, [])
theorem spec_l01Finite_den (v39 : Nat) : (den TT (tabD spec_l01Finite_tab) (tabM spec_l01Finite_tab) (spec_l01Finite_LO v39) (codeOf Try.f144) ([.flt .f32 v39] ++ List.replicate (Try.f144.ntmps - ([.flt .f32 v39] : List DV).length) .undef) []).bind (retD TT Try.f144.results.toList 0) = (spec_l01Finite_T v39).bind fun y => .leaf (spec_l01Finite_enc v39 y) := by kernel_rfl
theorem spec_l01Finite_fn (v39 : Nat) (F : Fr) (hm : F.ids.length = 0) (h0 : St F [] F.H0) (hA : DVs.Ok F [] [.flt .f32 v39]) {y : Bool} (hy : spec_l01Finite_g v39 = some y) : ∃ H', FnOk Try.prog 144 (DVs.av F [.flt .f32 v39]) F.H0 ((spec_l01Finite_enc v39 y).1.av F) H' ∧ St F (spec_l01Finite_enc v39 y).2 H' ∧ (spec_l01Finite_enc v39 y).1.Ok F (spec_l01Finite_enc v39 y).2 :=
  fn_fin tok spec_l01Finite_hO mixed Try.func144 Try.call144 (by kernel_rfl) (LoopsOk_eq (l := []) (by kernel_rfl) trivial) (spec_l01Finite_den v39) hy hm h0 hA
def spec_l01Finite_v (v39 : Nat) : Bool :=
  feq .f32 (fsub .f32 v39 v39) (0 : Nat)
theorem spec_l01Finite_tot (v39 : Nat) : spec_l01Finite_g v39 = some (spec_l01Finite_v v39) := by
  unfold spec_l01Finite_g spec_l01Finite_T spec_l01Finite_v
  simp only [Tree.run]
  repeat' (first | rfl | split)
noncomputable def spec_l01Finite_F : DFn := fun args L =>
  match args with
  | [.flt .f32 v39] =>
    .leaf (.bool (spec_l01Finite_v v39), L)
  | _ => .fail
theorem spec_l01Finite_Fok : COk Try.prog 144 spec_l01Finite_F true := by
  intro F L H args r L' hs ha hr
  unfold spec_l01Finite_F at hr
  split at hr
  · rename_i v39
    have hy := spec_l01Finite_tot v39
    generalize spec_l01Finite_v v39 = y at hy hr
    simp only [Tree.run, Option.some.injEq, Prod.mk.injEq] at hr
    obtain ⟨rfl, rfl⟩ := hr
    exact call_ok0 hs (fun k => (([] : List AV)[k]?).getD .top) [.flt .f32 v39] [.flt .f32 v39] (fun F' h0 hi hρ => ⟨by simp [DVs.av, DV.av, BR.av, hρ], spec_l01Finite_fn v39 F' (by rw [hi]; rfl) (st_nil hi) ⟨trivial, trivial⟩ hy⟩) rfl
  · cases hr
/-! spec.l02Finite -/
noncomputable def spec_l02Finite_l0_T (v37 : List Nat) (s : Int) : Tree ((Int) ⊕ ((Unit) ⊕ (Unit))) :=
  (.br (decide (s < ((v37.length : Nat) : Int))) (
   (.grd (inb s v37.length) <|
   (.br (!(spec_l01Finite_v (nth v37 (Int.toNat s)))) (
    .leaf (.inr (.inl ()))
   ) (
    .leaf (.inl (IntKind.i64.wrap (s + (1 : Int))))
   )))
  ) (
   .leaf (.inr (.inr ()))
  ))

noncomputable def spec_l02Finite_l0_g (v37 : List Nat) (s0 : Int) : Option ((Unit) ⊕ (Unit)) := whileM (fun s => (spec_l02Finite_l0_T v37 s).run) s0
def spec_l02Finite_l0_E (v37 : List Nat) (s : Int) : Sd := ([.bslc (BR.root 0) (.f32 v37), .top, .top, .int .i64 s, .top, .top, .top, .top, .top, .top, .top, .top, .top, .top, .top, .top], [])
def spec_l02Finite_l0_X (v37 : List Nat) (x : (Unit) ⊕ (Unit)) : Out := (match x with | .inl x => (.ret, [.top, .top, .lit false, .top, .top, .top, .top, .top, .top, .top, .top, .top, .top, .top, .top, .top], []) | .inr x => (.normal, [.top, .top, .top, .top, .top, .top, .top, .top, .top, .top, .top, .top, .top, .top, .top, .top], []))
def spec_l02Finite_l0_kill : List Nat := [0, 1, 1, 0, 1, 1, 1, 1, 1, 1, 1, 1, 1, 1, 1, 1]
def spec_l02Finite_l0_nx : Exit → List Nat
  | .exit 0 => [1, 1, 1, 1, 1, 1, 1, 1, 1, 1, 1, 1, 1, 1, 1, 1]
  | .ret => [1, 1, 0, 1, 1, 1, 1, 1, 1, 1, 1, 1, 1, 1, 1, 1]
  | _ => []
noncomputable def spec_l02Finite_LO (v37 : List Nat) : LOr := fun id e L =>
  match id with
  | 0 => .need (normA 0 spec_l02Finite_l0_kill e L = some (spec_l02Finite_l0_E v37 (gI (vAt e 3)))) (.call (spec_l02Finite_l0_g v37 (gI (vAt e 3))) fun x => .sum x (fun b0 => .leaf (spec_l02Finite_l0_X v37 (.inl b0))) (fun c0 => .leaf (spec_l02Finite_l0_X v37 (.inr c0))))
  | _ => .fail
noncomputable def spec_l02Finite_tab : List (FuncId × DFn × Bool) := [(144, spec_l01Finite_F, true)]
theorem spec_l02Finite_hO : OrcOk Try.prog (tabD spec_l02Finite_tab) (tabM spec_l02Finite_tab) := tabD_cons spec_l01Finite_Fok (tabD_nil _)
theorem spec_l02Finite_l0_be (v37 : List Nat) (s : Int) : bodyT TT (tabD spec_l02Finite_tab) (tabM spec_l02Finite_tab) (spec_l02Finite_LO v37) 0 spec_l02Finite_l0_kill spec_l02Finite_l0_nx (bodyOf Try.f173 0) 0 (spec_l02Finite_l0_E v37 s) = (spec_l02Finite_l0_T v37 s).bind fun y => .leaf (outS (spec_l02Finite_l0_E v37) (spec_l02Finite_l0_X v37) y) := by kernel_rfl
theorem spec_l02Finite_l0_ok (v37 : List Nat) : LSound Try.prog 0 (spec_l02Finite_LO v37) 0 (bodyOf Try.f173 0) := by
  intro e L out h
  exact lo_ok (E := spec_l02Finite_l0_E v37) (gT := spec_l02Finite_l0_T v37) (X := spec_l02Finite_l0_X v37) (s0 := (gI (vAt e 3))) tok spec_l02Finite_hO mixed (LoopsOk_eq (l := []) (by kernel_rfl) trivial) (spec_l02Finite_l0_be v37) rfl (by intro x; (cases x with | inl b => rfl | inr x => exact rfl)) h
noncomputable def spec_l02Finite_T (v37 : List Nat) : Tree (Bool) :=
  (.need (some (spec_l02Finite_l0_E v37 (0 : Int)) = some (spec_l02Finite_l0_E v37 (0 : Int))) <|
  (.call (spec_l02Finite_l0_g v37 (0 : Int)) fun v42 =>
  (.sum v42 (fun v43 =>
   .leaf false
  ) (fun v44 =>
   .leaf true
  ))))

noncomputable def spec_l02Finite_g (v37 : List Nat) : Option (Bool) := (spec_l02Finite_T v37).run
def spec_l02Finite_enc (v37 : List Nat) (y : Bool) : Rs := (.bool y, [])
theorem spec_l02Finite_den (v37 : List Nat) : (den TT (tabD spec_l02Finite_tab) (tabM spec_l02Finite_tab) (spec_l02Finite_LO v37) (codeOf Try.f173) ([.bslc (BR.root 0) (.f32 v37)] ++ List.replicate (Try.f173.ntmps - ([.bslc (BR.root 0) (.f32 v37)] : List DV).length) .undef) []).bind (retD TT Try.f173.results.toList 0) = (spec_l02Finite_T v37).bind fun y => .leaf (spec_l02Finite_enc v37 y) := by kernel_rfl
theorem spec_l02Finite_fn (v37 : List Nat) (F : Fr) (hm : F.ids.length = 0) (h0 : St F [] F.H0) (hA : DVs.Ok F [] [.bslc (BR.root 0) (.f32 v37)]) {y : Bool} (hy : spec_l02Finite_g v37 = some y) : ∃ H', FnOk Try.prog 173 (DVs.av F [.bslc (BR.root 0) (.f32 v37)]) F.H0 ((spec_l02Finite_enc v37 y).1.av F) H' ∧ St F (spec_l02Finite_enc v37 y).2 H' ∧ (spec_l02Finite_enc v37 y).1.Ok F (spec_l02Finite_enc v37 y).2 :=
  fn_fin tok spec_l02Finite_hO mixed Try.func173 Try.call173 (by kernel_rfl) (LoopsOk_eq (l := [(0, bodyOf Try.f173 0)]) (by kernel_rfl) ⟨spec_l02Finite_l0_ok v37, trivial⟩) (spec_l02Finite_den v37) hy hm h0 hA
noncomputable def spec_l02Finite_F : DFn := fun args L =>
  match args with
  | [a1] =>
    optT (rowF32 L a1) fun v37 =>
    .call (spec_l02Finite_g v37) fun y => .leaf (.bool y, L)
  | _ => .fail
theorem spec_l02Finite_Fok : COk Try.prog 173 spec_l02Finite_F true := by
  intro F L H args r L' hs ha hr
  unfold spec_l02Finite_F at hr
  split at hr
  · rename_i a1
    obtain ⟨v37, hv37, hr⟩ := optT_run hr
    simp only [Tree.run] at hr
    obtain ⟨y, hy, hr⟩ := Option.bind_eq_some_iff.1 hr
    simp only [Tree.run, Option.some.injEq, Prod.mk.injEq] at hr
    obtain ⟨rfl, rfl⟩ := hr
    exact call_ok0 hs (fun k => (([a1.av F] : List AV)[k]?).getD .top) [a1] [.bslc (BR.root 0) (.f32 v37)] (fun F' h0 hi hρ => ⟨by simp [DVs.av, DV.av, BR.av, hρ], spec_l02Finite_fn v37 F' (by rw [hi]; rfl) (st_nil hi) ⟨bslc_ok hi (by rw [h0, hρ]; exact rowF32_ok hs (DVs.okAt ha 0 rfl) hv37), trivial⟩ hy⟩) rfl
  · cases hr
/-! spec.l07Thirds -/
noncomputable def spec_l07Thirds_LO (v34 : List Nat) (v35 : List Nat) (v36 : List Nat) : LOr := fun id e L =>
  match id with
  | _ => .fail
noncomputable def spec_l07Thirds_tab : List (FuncId × DFn × Bool) := [(173, spec_l02Finite_F, true)]
theorem spec_l07Thirds_hO : OrcOk Try.prog (tabD spec_l07Thirds_tab) (tabM spec_l07Thirds_tab) := tabD_cons spec_l02Finite_Fok (tabD_nil _)
noncomputable def spec_l07Thirds_T (v34 : List Nat) (v35 : List Nat) (v36 : List Nat) : Tree (Bool) :=
  (.br (decide (((v35.length : Nat) : Int) < (1 : Int))) (
   .leaf false
  ) (
   (.br (decide ((32 : Int) < ((v35.length : Nat) : Int))) (
    .leaf false
   ) (
    (.br (!decide (((v34.length : Nat) : Int) = ((v35.length : Nat) : Int))) (
     .leaf false
    ) (
     (.br (!decide (((v36.length : Nat) : Int) = ((v35.length : Nat) : Int))) (
      .leaf false
     ) (
      (.call (spec_l02Finite_g v34) fun v45 =>
      (.br v45 (
       (.call (spec_l02Finite_g v35) fun v46 =>
       (.br v46 (
        (.call (spec_l02Finite_g v36) fun v47 =>
        (.br v47 (
         (.grd (inb (0 : Int) v34.length) <|
         (.br (feq .f32 (nth v34 (Int.toNat (0 : Int))) (0 : Nat)) (
          (.grd (inb (IntKind.i64.wrap (((v35.length : Nat) : Int) - (1 : Int))) v36.length) <|
          .leaf (feq .f32 (nth v36 (Int.toNat (IntKind.i64.wrap (((v35.length : Nat) : Int) - (1 : Int))))) (0 : Nat)))
         ) (
          .leaf false
         )))
        ) (
         .leaf false
        )))
       ) (
        .leaf false
       )))
      ) (
       .leaf false
      )))
     ))
    ))
   ))
  ))

noncomputable def spec_l07Thirds_g (v34 : List Nat) (v35 : List Nat) (v36 : List Nat) : Option (Bool) := (spec_l07Thirds_T v34 v35 v36).run
def spec_l07Thirds_enc (v34 : List Nat) (v35 : List Nat) (v36 : List Nat) (y : Bool) : Rs := (.bool y, [])
theorem spec_l07Thirds_den (v34 : List Nat) (v35 : List Nat) (v36 : List Nat) : (den TT (tabD spec_l07Thirds_tab) (tabM spec_l07Thirds_tab) (spec_l07Thirds_LO v34 v35 v36) (codeOf Try.f172) ([.bptr (BR.root 0) [.bslc (BR.root 1) (.f32 v34), .bslc (BR.root 2) (.f32 v35), .bslc (BR.root 3) (.f32 v36)]] ++ List.replicate (Try.f172.ntmps - ([.bptr (BR.root 0) [.bslc (BR.root 1) (.f32 v34), .bslc (BR.root 2) (.f32 v35), .bslc (BR.root 3) (.f32 v36)]] : List DV).length) .undef) []).bind (retD TT Try.f172.results.toList 0) = (spec_l07Thirds_T v34 v35 v36).bind fun y => .leaf (spec_l07Thirds_enc v34 v35 v36 y) := by kernel_rfl
theorem spec_l07Thirds_fn (v34 : List Nat) (v35 : List Nat) (v36 : List Nat) (F : Fr) (hm : F.ids.length = 0) (h0 : St F [] F.H0) (hA : DVs.Ok F [] [.bptr (BR.root 0) [.bslc (BR.root 1) (.f32 v34), .bslc (BR.root 2) (.f32 v35), .bslc (BR.root 3) (.f32 v36)]]) {y : Bool} (hy : spec_l07Thirds_g v34 v35 v36 = some y) : ∃ H', FnOk Try.prog 172 (DVs.av F [.bptr (BR.root 0) [.bslc (BR.root 1) (.f32 v34), .bslc (BR.root 2) (.f32 v35), .bslc (BR.root 3) (.f32 v36)]]) F.H0 ((spec_l07Thirds_enc v34 v35 v36 y).1.av F) H' ∧ St F (spec_l07Thirds_enc v34 v35 v36 y).2 H' ∧ (spec_l07Thirds_enc v34 v35 v36 y).1.Ok F (spec_l07Thirds_enc v34 v35 v36 y).2 :=
  fn_fin tok spec_l07Thirds_hO mixed Try.func172 Try.call172 (by kernel_rfl) (LoopsOk_eq (l := []) (by kernel_rfl) trivial) (spec_l07Thirds_den v34 v35 v36) hy hm h0 hA
noncomputable def spec_l07Thirds_F : DFn := fun args L =>
  match args with
  | [a1] =>
    optT (cellsOf L 3 a1) fun cs0 =>
    (match cs0 with
    | [a2, a3, a4] =>
    optT (rowF32 L a2) fun v34 =>
    optT (rowF32 L a3) fun v35 =>
    optT (rowF32 L a4) fun v36 =>
    .call (spec_l07Thirds_g v34 v35 v36) fun y => .leaf (.bool y, L)
    | _ => .fail)
  | _ => .fail
theorem spec_l07Thirds_Fok : COk Try.prog 172 spec_l07Thirds_F true := by
  intro F L H args r L' hs ha hr
  unfold spec_l07Thirds_F at hr
  split at hr
  · rename_i a1
    obtain ⟨cs0, hcp0, hr⟩ := optT_run hr
    split at hr
    · rename_i a2 a3 a4
      obtain ⟨v34, hv34, hr⟩ := optT_run hr
      obtain ⟨v35, hv35, hr⟩ := optT_run hr
      obtain ⟨v36, hv36, hr⟩ := optT_run hr
      simp only [Tree.run] at hr
      obtain ⟨y, hy, hr⟩ := Option.bind_eq_some_iff.1 hr
      simp only [Tree.run, Option.some.injEq, Prod.mk.injEq] at hr
      obtain ⟨rfl, rfl⟩ := hr
      exact call_ok0 hs (fun k => (([a1.av F, a2.av F, a3.av F, a4.av F] : List AV)[k]?).getD .top) [a1] [.bptr (BR.root 0) [.bslc (BR.root 1) (.f32 v34), .bslc (BR.root 2) (.f32 v35), .bslc (BR.root 3) (.f32 v36)]] (fun F' h0 hi hρ => ⟨by simp [DVs.av, DV.av, BR.av, hρ], spec_l07Thirds_fn v34 v35 v36 F' (by rw [hi]; rfl) (st_nil hi) ⟨bptr_ok hi (by rw [h0]; simpa [DVs.av, DV.av, BR.av, hρ] using (cellsOf_ok hs (DVs.okAt ha 0 rfl) hcp0).1) ⟨bslc_ok hi (by rw [h0, hρ]; exact rowF32_ok hs (DVs.okAt (cellsOf_ok hs (DVs.okAt ha 0 rfl) hcp0).2 0 rfl) hv34), bslc_ok hi (by rw [h0, hρ]; exact rowF32_ok hs (DVs.okAt (cellsOf_ok hs (DVs.okAt ha 0 rfl) hcp0).2 1 rfl) hv35), bslc_ok hi (by rw [h0, hρ]; exact rowF32_ok hs (DVs.okAt (cellsOf_ok hs (DVs.okAt ha 0 rfl) hcp0).2 2 rfl) hv36), trivial⟩, trivial⟩ hy⟩) rfl
    · cases hr
  · cases hr
/-! spec.l07Fits -/
noncomputable def spec_l07Fits_LO (v30 : List Nat) (v31 : List Nat) (v32 : List Nat) (v33 : List Nat) : LOr := fun id e L =>
  match id with
  | _ => .fail
noncomputable def spec_l07Fits_tab : List (FuncId × DFn × Bool) := [(172, spec_l07Thirds_F, true), (173, spec_l02Finite_F, true)]
theorem spec_l07Fits_hO : OrcOk Try.prog (tabD spec_l07Fits_tab) (tabM spec_l07Fits_tab) := tabD_cons spec_l07Thirds_Fok (tabD_cons spec_l02Finite_Fok (tabD_nil _))
noncomputable def spec_l07Fits_T (v30 : List Nat) (v31 : List Nat) (v32 : List Nat) (v33 : List Nat) : Tree (Bool) :=
  (.call (spec_l07Thirds_g v30 v31 v32) fun v48 =>
  (.br v48 (
   (.br (decide (((v33.length : Nat) : Int) = ((v31.length : Nat) : Int))) (
    (.call (spec_l02Finite_g v33) fun v49 =>
    .leaf v49)
   ) (
    .leaf false
   ))
  ) (
   .leaf false
  )))

noncomputable def spec_l07Fits_g (v30 : List Nat) (v31 : List Nat) (v32 : List Nat) (v33 : List Nat) : Option (Bool) := (spec_l07Fits_T v30 v31 v32 v33).run
def spec_l07Fits_enc (v30 : List Nat) (v31 : List Nat) (v32 : List Nat) (v33 : List Nat) (y : Bool) : Rs := (.bool y, [])
theorem spec_l07Fits_den (v30 : List Nat) (v31 : List Nat) (v32 : List Nat) (v33 : List Nat) : (den TT (tabD spec_l07Fits_tab) (tabM spec_l07Fits_tab) (spec_l07Fits_LO v30 v31 v32 v33) (codeOf Try.f90) ([.bptr (BR.root 0) [.bslc (BR.root 1) (.f32 v30), .bslc (BR.root 2) (.f32 v31), .bslc (BR.root 3) (.f32 v32)], .bslc (BR.root 4) (.f32 v33)] ++ List.replicate (Try.f90.ntmps - ([.bptr (BR.root 0) [.bslc (BR.root 1) (.f32 v30), .bslc (BR.root 2) (.f32 v31), .bslc (BR.root 3) (.f32 v32)], .bslc (BR.root 4) (.f32 v33)] : List DV).length) .undef) []).bind (retD TT Try.f90.results.toList 0) = (spec_l07Fits_T v30 v31 v32 v33).bind fun y => .leaf (spec_l07Fits_enc v30 v31 v32 v33 y) := by kernel_rfl
theorem spec_l07Fits_fn (v30 : List Nat) (v31 : List Nat) (v32 : List Nat) (v33 : List Nat) (F : Fr) (hm : F.ids.length = 0) (h0 : St F [] F.H0) (hA : DVs.Ok F [] [.bptr (BR.root 0) [.bslc (BR.root 1) (.f32 v30), .bslc (BR.root 2) (.f32 v31), .bslc (BR.root 3) (.f32 v32)], .bslc (BR.root 4) (.f32 v33)]) {y : Bool} (hy : spec_l07Fits_g v30 v31 v32 v33 = some y) : ∃ H', FnOk Try.prog 90 (DVs.av F [.bptr (BR.root 0) [.bslc (BR.root 1) (.f32 v30), .bslc (BR.root 2) (.f32 v31), .bslc (BR.root 3) (.f32 v32)], .bslc (BR.root 4) (.f32 v33)]) F.H0 ((spec_l07Fits_enc v30 v31 v32 v33 y).1.av F) H' ∧ St F (spec_l07Fits_enc v30 v31 v32 v33 y).2 H' ∧ (spec_l07Fits_enc v30 v31 v32 v33 y).1.Ok F (spec_l07Fits_enc v30 v31 v32 v33 y).2 :=
  fn_fin tok spec_l07Fits_hO mixed Try.func90 Try.call90 (by kernel_rfl) (LoopsOk_eq (l := []) (by kernel_rfl) trivial) (spec_l07Fits_den v30 v31 v32 v33) hy hm h0 hA
noncomputable def spec_l07Fits_F : DFn := fun args L =>
  match args with
  | [a1, a5] =>
    optT (cellsOf L 3 a1) fun cs0 =>
    (match cs0 with
    | [a2, a3, a4] =>
    optT (rowF32 L a2) fun v30 =>
    optT (rowF32 L a3) fun v31 =>
    optT (rowF32 L a4) fun v32 =>
    optT (rowF32 L a5) fun v33 =>
    .call (spec_l07Fits_g v30 v31 v32 v33) fun y => .leaf (.bool y, L)
    | _ => .fail)
  | _ => .fail
theorem spec_l07Fits_Fok : COk Try.prog 90 spec_l07Fits_F true := by
  intro F L H args r L' hs ha hr
  unfold spec_l07Fits_F at hr
  split at hr
  · rename_i a1 a5
    obtain ⟨cs0, hcp0, hr⟩ := optT_run hr
    split at hr
    · rename_i a2 a3 a4
      obtain ⟨v30, hv30, hr⟩ := optT_run hr
      obtain ⟨v31, hv31, hr⟩ := optT_run hr
      obtain ⟨v32, hv32, hr⟩ := optT_run hr
      obtain ⟨v33, hv33, hr⟩ := optT_run hr
      simp only [Tree.run] at hr
      obtain ⟨y, hy, hr⟩ := Option.bind_eq_some_iff.1 hr
      simp only [Tree.run, Option.some.injEq, Prod.mk.injEq] at hr
      obtain ⟨rfl, rfl⟩ := hr
      exact call_ok0 hs (fun k => (([a1.av F, a2.av F, a3.av F, a4.av F, a5.av F] : List AV)[k]?).getD .top) [a1, a5] [.bptr (BR.root 0) [.bslc (BR.root 1) (.f32 v30), .bslc (BR.root 2) (.f32 v31), .bslc (BR.root 3) (.f32 v32)], .bslc (BR.root 4) (.f32 v33)] (fun F' h0 hi hρ => ⟨by simp [DVs.av, DV.av, BR.av, hρ], spec_l07Fits_fn v30 v31 v32 v33 F' (by rw [hi]; rfl) (st_nil hi) ⟨bptr_ok hi (by rw [h0]; simpa [DVs.av, DV.av, BR.av, hρ] using (cellsOf_ok hs (DVs.okAt ha 0 rfl) hcp0).1) ⟨bslc_ok hi (by rw [h0, hρ]; exact rowF32_ok hs (DVs.okAt (cellsOf_ok hs (DVs.okAt ha 0 rfl) hcp0).2 0 rfl) hv30), bslc_ok hi (by rw [h0, hρ]; exact rowF32_ok hs (DVs.okAt (cellsOf_ok hs (DVs.okAt ha 0 rfl) hcp0).2 1 rfl) hv31), bslc_ok hi (by rw [h0, hρ]; exact rowF32_ok hs (DVs.okAt (cellsOf_ok hs (DVs.okAt ha 0 rfl) hcp0).2 2 rfl) hv32), trivial⟩, bslc_ok hi (by rw [h0, hρ]; exact rowF32_ok hs (DVs.okAt ha 1 rfl) hv33), trivial⟩ hy⟩) rfl
    · cases hr
  · cases hr
/-! spec.l02List -/
noncomputable def spec_l02List_LO (v77 : List Nat) : LOr := fun id e L =>
  match id with
  | _ => .fail
noncomputable def spec_l02List_tab : List (FuncId × DFn × Bool) := [(173, spec_l02Finite_F, true)]
theorem spec_l02List_hO : OrcOk Try.prog (tabD spec_l02List_tab) (tabM spec_l02List_tab) := tabD_cons spec_l02Finite_Fok (tabD_nil _)
noncomputable def spec_l02List_T (v77 : List Nat) : Tree ((Unit) ⊕ (Unit)) :=
  (.call (spec_l02Finite_g v77) fun v78 =>
  (.br (!v78) (
   .leaf (.inl ())
  ) (
   .leaf (.inr ())
  )))

noncomputable def spec_l02List_g (v77 : List Nat) : Option ((Unit) ⊕ (Unit)) := (spec_l02List_T v77).run
def spec_l02List_enc (v77 : List Nat) (y : (Unit) ⊕ (Unit)) : Rs := (match y with | .inl y => (.tup [.nilslc, .lit false], []) | .inr y => (.tup [.bslc (BR.root 0) (.f32 v77), .lit true], []))
theorem spec_l02List_den (v77 : List Nat) : (den TT (tabD spec_l02List_tab) (tabM spec_l02List_tab) (spec_l02List_LO v77) (codeOf Try.f166) ([.bslc (BR.root 0) (.f32 v77)] ++ List.replicate (Try.f166.ntmps - ([.bslc (BR.root 0) (.f32 v77)] : List DV).length) .undef) []).bind (retD TT Try.f166.results.toList 0) = (spec_l02List_T v77).bind fun y => .leaf (spec_l02List_enc v77 y) := by kernel_rfl
theorem spec_l02List_fn (v77 : List Nat) (F : Fr) (hm : F.ids.length = 0) (h0 : St F [] F.H0) (hA : DVs.Ok F [] [.bslc (BR.root 0) (.f32 v77)]) {y : (Unit) ⊕ (Unit)} (hy : spec_l02List_g v77 = some y) : ∃ H', FnOk Try.prog 166 (DVs.av F [.bslc (BR.root 0) (.f32 v77)]) F.H0 ((spec_l02List_enc v77 y).1.av F) H' ∧ St F (spec_l02List_enc v77 y).2 H' ∧ (spec_l02List_enc v77 y).1.Ok F (spec_l02List_enc v77 y).2 :=
  fn_fin tok spec_l02List_hO mixed Try.func166 Try.call166 (by kernel_rfl) (LoopsOk_eq (l := []) (by kernel_rfl) trivial) (spec_l02List_den v77) hy hm h0 hA
noncomputable def spec_l02List_F : DFn := fun args L =>
  match args with
  | [a1] =>
    optT (rowF32 L a1) fun v77 =>
    .call (spec_l02List_g v77) fun y => .sum y (fun y0 => .leaf (.tup [.nilslc, .lit false], L)) (fun z0 => .leaf (.tup [a1, .lit true], L))
  | _ => .fail
theorem spec_l02List_Fok : COk Try.prog 166 spec_l02List_F true := by
  intro F L H args r L' hs ha hr
  unfold spec_l02List_F at hr
  split at hr
  · rename_i a1
    obtain ⟨v77, hv77, hr⟩ := optT_run hr
    simp only [Tree.run] at hr
    obtain ⟨y, hy, hr⟩ := Option.bind_eq_some_iff.1 hr
    cases y with
    | inl y =>
      simp only [Tree.run, Option.some.injEq, Prod.mk.injEq] at hr
      obtain ⟨rfl, rfl⟩ := hr
      exact call_ok0 hs (fun k => (([a1.av F] : List AV)[k]?).getD .top) [a1] [.bslc (BR.root 0) (.f32 v77)] (fun F' h0 hi hρ => ⟨by simp [DVs.av, DV.av, BR.av, hρ], spec_l02List_fn v77 F' (by rw [hi]; rfl) (st_nil hi) ⟨bslc_ok hi (by rw [h0, hρ]; exact rowF32_ok hs (DVs.okAt ha 0 rfl) hv77), trivial⟩ hy⟩) rfl
    | inr y =>
      simp only [Tree.run, Option.some.injEq, Prod.mk.injEq] at hr
      obtain ⟨rfl, rfl⟩ := hr
      exact call_al0 hs (fun k => (([a1.av F] : List AV)[k]?).getD .top) [a1] [.bslc (BR.root 0) (.f32 v77)] (fun F' h0 hi hρ => ⟨by simp [DVs.av, DV.av, BR.av, hρ], spec_l02List_fn v77 F' (by rw [hi]; rfl) (st_nil hi) ⟨bslc_ok hi (by rw [h0, hρ]; exact rowF32_ok hs (DVs.okAt ha 0 rfl) hv77), trivial⟩ hy⟩) (fun F' h0 hi hρ => by simp [spec_l02List_enc, DVs.av, DV.av, BR.av, hρ]) ⟨(DVs.okAt ha 0 rfl), trivial, trivial⟩
  · cases hr
/-! spec.l07Solve -/
noncomputable def spec_l07Solve_l0_T (v51 : List Nat) (v53 : List Nat) (v54 : List Nat) (s : Int × (List Nat) × (List Nat)) : Tree ((Int × (List Nat) × (List Nat)) ⊕ ((Unit) ⊕ ((List Nat) × (List Nat)))) :=
  (.br (decide (s.1 < ((v54.length : Nat) : Int))) (
   (.grd (inb s.1 v51.length) <|
   (.grd (inb (IntKind.i64.wrap (s.1 - (1 : Int))) ((s.2.1).length)) <|
   (.grd (inb s.1 ((s.2.1).length)) <|
   (.grd (inb (IntKind.i64.wrap (s.1 - (1 : Int))) v53.length) <|
   (.grd (inb s.1 ((s.2.1).length)) <|
   (.grd (inb s.1 ((s.2.2).length)) <|
   (.grd (inb (IntKind.i64.wrap (s.1 - (1 : Int))) ((s.2.2).length)) <|
   (.grd (inb s.1 ((s.2.2).length)) <|
   (.grd (inb s.1 ((s.2.1).length)) <|
   (.br (feq .f32 (nth (List.set s.2.1 (Int.toNat s.1) (fsub .f32 (nth s.2.1 (Int.toNat s.1)) (fmul .f32 (fdiv .f32 (nth v51 (Int.toNat s.1)) (nth s.2.1 (Int.toNat (IntKind.i64.wrap (s.1 - (1 : Int)))))) (nth v53 (Int.toNat (IntKind.i64.wrap (s.1 - (1 : Int)))))))) (Int.toNat s.1)) (0 : Nat)) (
    .leaf (.inr (.inl ()))
   ) (
    .leaf (.inl (IntKind.i64.wrap (s.1 + (1 : Int)), List.set s.2.1 (Int.toNat s.1) (fsub .f32 (nth s.2.1 (Int.toNat s.1)) (fmul .f32 (fdiv .f32 (nth v51 (Int.toNat s.1)) (nth s.2.1 (Int.toNat (IntKind.i64.wrap (s.1 - (1 : Int)))))) (nth v53 (Int.toNat (IntKind.i64.wrap (s.1 - (1 : Int))))))), List.set s.2.2 (Int.toNat s.1) (fsub .f32 (nth s.2.2 (Int.toNat s.1)) (fmul .f32 (fdiv .f32 (nth v51 (Int.toNat s.1)) (nth s.2.1 (Int.toNat (IntKind.i64.wrap (s.1 - (1 : Int)))))) (nth s.2.2 (Int.toNat (IntKind.i64.wrap (s.1 - (1 : Int)))))))))
   )))))))))))
  ) (
   .leaf (.inr (.inr (s.2.1, s.2.2)))
  ))

noncomputable def spec_l07Solve_l0_g (v51 : List Nat) (v53 : List Nat) (v54 : List Nat) (s0 : Int × (List Nat) × (List Nat)) : Option ((Unit) ⊕ ((List Nat) × (List Nat))) := whileM (fun s => (spec_l07Solve_l0_T v51 v53 v54 s).run) s0
def spec_l07Solve_l0_E (v51 : List Nat) (v52 : List Nat) (v53 : List Nat) (v54 : List Nat) (s : Int × (List Nat) × (List Nat)) : Sd := ([.bptr (BR.root 0) [.bslc (BR.root 1) (.f32 v51), .bslc (BR.root 2) (.f32 v52), .bslc (BR.root 3) (.f32 v53)], .top, .top, .top, .top, .top, .int .i64 ((v54.length : Nat) : Int), .own 0 0 ((s.2.1).length), .own 1 0 ((s.2.2).length), .int .i64 s.1, .top, .top, .top, .top, .top, .top, .top, .top, .top, .top, .top, .top, .top, .top, .top, .top, .top, .top, .top, .top, .top, .top, .top, .top, .top, .top, .top, .top, .top, .top, .top, .top, .top, .top, .top, .top, .top, .top, .top, .top, .top, .top, .top, .top, .top, .top, .top, .top, .top, .top, .top, .top, .top, .top, .top, .top, .top, .top, .top, .top, .top, .top, .top, .top, .top, .top, .top, .top, .top, .top, .top, .top, .top, .top, .top, .top, .top, .top, .top, .top, .top, .top, .top, .top, .top, .top, .top, .top, .top, .top, .top, .top, .top, .top, .top, .top, .top, .top, .top, .top, .top, .top, .top, .top, .top, .top, .top, .top, .top, .top, .top, .top, .top, .top, .top, .top, .top, .top, .top], [.row (.f32 s.2.1) 0, .row (.f32 s.2.2) 0])
def spec_l07Solve_l0_X (v51 : List Nat) (v52 : List Nat) (v53 : List Nat) (v54 : List Nat) (x : (Unit) ⊕ ((List Nat) × (List Nat))) : Out := (match x with | .inl x => (.ret, [.top, .top, .top, .top, .nilslc, .lit false, .top, .top, .top, .top, .top, .top, .top, .top, .top, .top, .top, .top, .top, .top, .top, .top, .top, .top, .top, .top, .top, .top, .top, .top, .top, .top, .top, .top, .top, .top, .top, .top, .top, .top, .top, .top, .top, .top, .top, .top, .top, .top, .top, .top, .top, .top, .top, .top, .top, .top, .top, .top, .top, .top, .top, .top, .top, .top, .top, .top, .top, .top, .top, .top, .top, .top, .top, .top, .top, .top, .top, .top, .top, .top, .top, .top, .top, .top, .top, .top, .top, .top, .top, .top, .top, .top, .top, .top, .top, .top, .top, .top, .top, .top, .top, .top, .top, .top, .top, .top, .top, .top, .top, .top, .top, .top, .top, .top, .top, .top, .top, .top, .top, .top, .top, .top, .top, .top, .top, .top, .top, .top, .top], []) | .inr x => (.normal, [.bptr (BR.root 0) [.bslc (BR.root 1) (.f32 v51), .bslc (BR.root 2) (.f32 v52), .bslc (BR.root 3) (.f32 v53)], .top, .top, .top, .top, .top, .int .i64 ((v54.length : Nat) : Int), .own 0 0 ((x.1).length), .own 1 0 ((x.2).length), .top, .top, .top, .top, .top, .top, .top, .top, .top, .top, .top, .top, .top, .top, .top, .top, .top, .top, .top, .top, .top, .top, .top, .top, .top, .top, .top, .top, .top, .top, .top, .top, .top, .top, .top, .top, .top, .top, .top, .top, .top, .top, .top, .top, .top, .top, .top, .top, .top, .top, .top, .top, .top, .top, .top, .top, .top, .top, .top, .top, .top, .top, .top, .top, .top, .top, .top, .top, .top, .top, .top, .top, .top, .top, .top, .top, .top, .top, .top, .top, .top, .top, .top, .top, .top, .top, .top, .top, .top, .top, .top, .top, .top, .top, .top, .top, .top, .top, .top, .top, .top, .top, .top, .top, .top, .top, .top, .top, .top, .top, .top, .top, .top, .top, .top, .top, .top, .top, .top, .top], [.row (.f32 x.1) 0, .row (.f32 x.2) 0]))
def spec_l07Solve_l0_kill : List Nat := [0, 1, 1, 1, 1, 1, 0, 0, 0, 0, 1, 1, 1, 1, 1, 1, 1, 1, 1, 1, 1, 1, 1, 1, 1, 1, 1, 1, 1, 1, 1, 1, 1, 1, 1, 1, 1, 1, 1, 1, 1, 1, 1, 1, 1, 1, 1, 1, 1, 1, 1, 1, 1, 1, 1, 1, 1, 1, 1, 1, 1, 1, 1, 1, 1, 1, 1, 1, 1, 1, 1, 1, 1, 1, 1, 1, 1, 1, 1, 1, 1, 1, 1, 1, 1, 1, 1, 1, 1, 1, 1, 1, 1, 1, 1, 1, 1, 1, 1, 1, 1, 1, 1, 1, 1, 1, 1, 1, 1, 1, 1, 1, 1, 1, 1, 1, 1, 1, 1, 1, 1, 1, 1, 1, 1, 1, 1, 1, 1]
def spec_l07Solve_l0_nx : Exit → List Nat
  | .exit 0 => [0, 1, 1, 1, 1, 1, 0, 0, 0, 1, 1, 1, 1, 1, 1, 1, 1, 1, 1, 1, 1, 1, 1, 1, 1, 1, 1, 1, 1, 1, 1, 1, 1, 1, 1, 1, 1, 1, 1, 1, 1, 1, 1, 1, 1, 1, 1, 1, 1, 1, 1, 1, 1, 1, 1, 1, 1, 1, 1, 1, 1, 1, 1, 1, 1, 1, 1, 1, 1, 1, 1, 1, 1, 1, 1, 1, 1, 1, 1, 1, 1, 1, 1, 1, 1, 1, 1, 1, 1, 1, 1, 1, 1, 1, 1, 1, 1, 1, 1, 1, 1, 1, 1, 1, 1, 1, 1, 1, 1, 1, 1, 1, 1, 1, 1, 1, 1, 1, 1, 1, 1, 1, 1, 1, 1, 1, 1, 1, 1]
  | .ret => [1, 1, 1, 1, 0, 0, 1, 1, 1, 1, 1, 1, 1, 1, 1, 1, 1, 1, 1, 1, 1, 1, 1, 1, 1, 1, 1, 1, 1, 1, 1, 1, 1, 1, 1, 1, 1, 1, 1, 1, 1, 1, 1, 1, 1, 1, 1, 1, 1, 1, 1, 1, 1, 1, 1, 1, 1, 1, 1, 1, 1, 1, 1, 1, 1, 1, 1, 1, 1, 1, 1, 1, 1, 1, 1, 1, 1, 1, 1, 1, 1, 1, 1, 1, 1, 1, 1, 1, 1, 1, 1, 1, 1, 1, 1, 1, 1, 1, 1, 1, 1, 1, 1, 1, 1, 1, 1, 1, 1, 1, 1, 1, 1, 1, 1, 1, 1, 1, 1, 1, 1, 1, 1, 1, 1, 1, 1, 1, 1]
  | _ => []
noncomputable def spec_l07Solve_l2_T (v53 : List Nat) (v54 : List Nat) (v73 : List Nat) (v74 : List Nat) (s : Int × (List Nat)) : Tree ((Int × (List Nat)) ⊕ ((List Nat))) :=
  (.br (decide ((0 : Int) ≤ s.1)) (
   (.grd (inb s.1 ((v74).length)) <|
   (.br (decide (IntKind.i64.wrap (s.1 + (1 : Int)) < ((v54.length : Nat) : Int))) (
    (.grd (inb s.1 v53.length) <|
    (.grd (inb (IntKind.i64.wrap (s.1 + (1 : Int))) ((s.2).length)) <|
    (.grd (inb s.1 ((v73).length)) <|
    (.grd (inb s.1 ((s.2).length)) <|
    .leaf (.inl (IntKind.i64.wrap (s.1 - (1 : Int)), List.set s.2 (Int.toNat s.1) (fdiv .f32 (fsub .f32 (nth v74 (Int.toNat s.1)) (fmul .f32 (nth v53 (Int.toNat s.1)) (nth s.2 (Int.toNat (IntKind.i64.wrap (s.1 + (1 : Int))))))) (nth v73 (Int.toNat s.1)))))))))
   ) (
    (.grd (inb s.1 ((v73).length)) <|
    (.grd (inb s.1 ((s.2).length)) <|
    .leaf (.inl (IntKind.i64.wrap (s.1 - (1 : Int)), List.set s.2 (Int.toNat s.1) (fdiv .f32 (nth v74 (Int.toNat s.1)) (nth v73 (Int.toNat s.1)))))))
   )))
  ) (
   .leaf (.inr s.2)
  ))

noncomputable def spec_l07Solve_l2_g (v53 : List Nat) (v54 : List Nat) (v73 : List Nat) (v74 : List Nat) (s0 : Int × (List Nat)) : Option ((List Nat)) := whileM (fun s => (spec_l07Solve_l2_T v53 v54 v73 v74 s).run) s0
def spec_l07Solve_l2_E (v51 : List Nat) (v52 : List Nat) (v53 : List Nat) (v54 : List Nat) (v73 : List Nat) (v74 : List Nat) (s : Int × (List Nat)) : Sd := ([.bptr (BR.root 0) [.bslc (BR.root 1) (.f32 v51), .bslc (BR.root 2) (.f32 v52), .bslc (BR.root 3) (.f32 v53)], .top, .top, .top, .top, .top, .int .i64 ((v54.length : Nat) : Int), .own 0 0 ((v73).length), .own 1 0 ((v74).length), .top, .top, .own 2 0 ((s.2).length), .int .i64 s.1, .top, .top, .top, .top, .top, .top, .top, .top, .top, .top, .top, .top, .top, .top, .top, .top, .top, .top, .top, .top, .top, .top, .top, .top, .top, .top, .top, .top, .top, .top, .top, .top, .top, .top, .top, .top, .top, .top, .top, .top, .top, .top, .top, .top, .top, .top, .top, .top, .top, .top, .top, .top, .top, .top, .top, .top, .top, .top, .top, .top, .top, .top, .top, .top, .top, .top, .top, .top, .top, .top, .top, .top, .top, .top, .top, .top, .top, .top, .top, .top, .top, .top, .top, .top, .top, .top, .top, .top, .top, .top, .top, .top, .top, .top, .top, .top, .top, .top, .top, .top, .top, .top, .top, .top, .top, .top, .top, .top, .top, .top, .top, .top, .top, .top, .top, .top], [.row (.f32 v73) 0, .row (.f32 v74) 0, .row (.f32 s.2) 0])
def spec_l07Solve_l2_X (v51 : List Nat) (v52 : List Nat) (v53 : List Nat) (v54 : List Nat) (v73 : List Nat) (v74 : List Nat) (x : (List Nat)) : Out := (.normal, [.top, .top, .top, .top, .top, .top, .top, .top, .top, .top, .top, .own 0 0 ((x).length), .top, .top, .top, .top, .top, .top, .top, .top, .top, .top, .top, .top, .top, .top, .top, .top, .top, .top, .top, .top, .top, .top, .top, .top, .top, .top, .top, .top, .top, .top, .top, .top, .top, .top, .top, .top, .top, .top, .top, .top, .top, .top, .top, .top, .top, .top, .top, .top, .top, .top, .top, .top, .top, .top, .top, .top, .top, .top, .top, .top, .top, .top, .top, .top, .top, .top, .top, .top, .top, .top, .top, .top, .top, .top, .top, .top, .top, .top, .top, .top, .top, .top, .top, .top, .top, .top, .top, .top, .top, .top, .top, .top, .top, .top, .top, .top, .top, .top, .top, .top, .top, .top, .top, .top, .top, .top, .top, .top, .top, .top, .top, .top, .top, .top, .top, .top, .top], [.row (.f32 x) 0])
def spec_l07Solve_l2_kill : List Nat := [0, 1, 1, 1, 1, 1, 0, 0, 0, 1, 1, 0, 0, 1, 1, 1, 1, 1, 1, 1, 1, 1, 1, 1, 1, 1, 1, 1, 1, 1, 1, 1, 1, 1, 1, 1, 1, 1, 1, 1, 1, 1, 1, 1, 1, 1, 1, 1, 1, 1, 1, 1, 1, 1, 1, 1, 1, 1, 1, 1, 1, 1, 1, 1, 1, 1, 1, 1, 1, 1, 1, 1, 1, 1, 1, 1, 1, 1, 1, 1, 1, 1, 1, 1, 1, 1, 1, 1, 1, 1, 1, 1, 1, 1, 1, 1, 1, 1, 1, 1, 1, 1, 1, 1, 1, 1, 1, 1, 1, 1, 1, 1, 1, 1, 1, 1, 1, 1, 1, 1, 1, 1, 1, 1, 1, 1, 1, 1, 1]
def spec_l07Solve_l2_nx : Exit → List Nat
  | .exit 2 => [1, 1, 1, 1, 1, 1, 1, 1, 1, 1, 1, 0, 1, 1, 1, 1, 1, 1, 1, 1, 1, 1, 1, 1, 1, 1, 1, 1, 1, 1, 1, 1, 1, 1, 1, 1, 1, 1, 1, 1, 1, 1, 1, 1, 1, 1, 1, 1, 1, 1, 1, 1, 1, 1, 1, 1, 1, 1, 1, 1, 1, 1, 1, 1, 1, 1, 1, 1, 1, 1, 1, 1, 1, 1, 1, 1, 1, 1, 1, 1, 1, 1, 1, 1, 1, 1, 1, 1, 1, 1, 1, 1, 1, 1, 1, 1, 1, 1, 1, 1, 1, 1, 1, 1, 1, 1, 1, 1, 1, 1, 1, 1, 1, 1, 1, 1, 1, 1, 1, 1, 1, 1, 1, 1, 1, 1, 1, 1, 1]
  | .ret => [1, 1, 1, 1, 0, 0, 1, 1, 1, 1, 1, 1, 1, 1, 1, 1, 1, 1, 1, 1, 1, 1, 1, 1, 1, 1, 1, 1, 1, 1, 1, 1, 1, 1, 1, 1, 1, 1, 1, 1, 1, 1, 1, 1, 1, 1, 1, 1, 1, 1, 1, 1, 1, 1, 1, 1, 1, 1, 1, 1, 1, 1, 1, 1, 1, 1, 1, 1, 1, 1, 1, 1, 1, 1, 1, 1, 1, 1, 1, 1, 1, 1, 1, 1, 1, 1, 1, 1, 1, 1, 1, 1, 1, 1, 1, 1, 1, 1, 1, 1, 1, 1, 1, 1, 1, 1, 1, 1, 1, 1, 1, 1, 1, 1, 1, 1, 1, 1, 1, 1, 1, 1, 1, 1, 1, 1, 1, 1, 1]
  | _ => []
noncomputable def spec_l07Solve_LO (v51 : List Nat) (v52 : List Nat) (v53 : List Nat) (v54 : List Nat) : LOr := fun id e L =>
  match id with
  | 0 => .need (normA 0 spec_l07Solve_l0_kill e L = some (spec_l07Solve_l0_E v51 v52 v53 v54 ((gI (vAt e 9)), (gRF L (vAt e 7)), (gRF L (vAt e 8))))) (.call (spec_l07Solve_l0_g v51 v53 v54 ((gI (vAt e 9)), (gRF L (vAt e 7)), (gRF L (vAt e 8)))) fun x => .sum x (fun b0 => .leaf (spec_l07Solve_l0_X v51 v52 v53 v54 (.inl b0))) (fun c0 => .leaf (spec_l07Solve_l0_X v51 v52 v53 v54 (.inr c0))))
  | 2 => .need (normA 0 spec_l07Solve_l2_kill e L = some (spec_l07Solve_l2_E v51 v52 v53 v54 (gRF L (vAt e 7)) (gRF L (vAt e 8)) ((gI (vAt e 12)), (gRF L (vAt e 11))))) (.call (spec_l07Solve_l2_g v53 v54 (gRF L (vAt e 7)) (gRF L (vAt e 8)) ((gI (vAt e 12)), (gRF L (vAt e 11)))) fun x => .leaf (spec_l07Solve_l2_X v51 v52 v53 v54 (gRF L (vAt e 7)) (gRF L (vAt e 8)) x))
  | _ => .fail
noncomputable def spec_l07Solve_tab : List (FuncId × DFn × Bool) := [(166, spec_l02List_F, true)]
theorem spec_l07Solve_hO : OrcOk Try.prog (tabD spec_l07Solve_tab) (tabM spec_l07Solve_tab) := tabD_cons spec_l02List_Fok (tabD_nil _)
theorem spec_l07Solve_l0_be (v51 : List Nat) (v52 : List Nat) (v53 : List Nat) (v54 : List Nat) (s : Int × (List Nat) × (List Nat)) : bodyT TT (tabD spec_l07Solve_tab) (tabM spec_l07Solve_tab) (spec_l07Solve_LO v51 v52 v53 v54) 0 spec_l07Solve_l0_kill spec_l07Solve_l0_nx (bodyOf Try.f91 0) 0 (spec_l07Solve_l0_E v51 v52 v53 v54 s) = (spec_l07Solve_l0_T v51 v53 v54 s).bind fun y => .leaf (outS (spec_l07Solve_l0_E v51 v52 v53 v54) (spec_l07Solve_l0_X v51 v52 v53 v54) y) := by kernel_rfl
theorem spec_l07Solve_l0_ok (v51 : List Nat) (v52 : List Nat) (v53 : List Nat) (v54 : List Nat) : LSound Try.prog 0 (spec_l07Solve_LO v51 v52 v53 v54) 0 (bodyOf Try.f91 0) := by
  intro e L out h
  exact lo_ok (E := spec_l07Solve_l0_E v51 v52 v53 v54) (gT := spec_l07Solve_l0_T v51 v53 v54) (X := spec_l07Solve_l0_X v51 v52 v53 v54) (s0 := ((gI (vAt e 9)), (gRF L (vAt e 7)), (gRF L (vAt e 8)))) tok spec_l07Solve_hO mixed (LoopsOk_eq (l := []) (by kernel_rfl) trivial) (spec_l07Solve_l0_be v51 v52 v53 v54) rfl (by intro x; (cases x with | inl b => rfl | inr x => exact rfl)) h
theorem spec_l07Solve_l2_be (v51 : List Nat) (v52 : List Nat) (v53 : List Nat) (v54 : List Nat) (v73 : List Nat) (v74 : List Nat) (s : Int × (List Nat)) : bodyT TT (tabD spec_l07Solve_tab) (tabM spec_l07Solve_tab) (spec_l07Solve_LO v51 v52 v53 v54) 0 spec_l07Solve_l2_kill spec_l07Solve_l2_nx (bodyOf Try.f91 2) 2 (spec_l07Solve_l2_E v51 v52 v53 v54 v73 v74 s) = (spec_l07Solve_l2_T v53 v54 v73 v74 s).bind fun y => .leaf (outS (spec_l07Solve_l2_E v51 v52 v53 v54 v73 v74) (spec_l07Solve_l2_X v51 v52 v53 v54 v73 v74) y) := by kernel_rfl
theorem spec_l07Solve_l2_ok (v51 : List Nat) (v52 : List Nat) (v53 : List Nat) (v54 : List Nat) : LSound Try.prog 0 (spec_l07Solve_LO v51 v52 v53 v54) 2 (bodyOf Try.f91 2) := by
  intro e L out h
  exact lo_ok (E := spec_l07Solve_l2_E v51 v52 v53 v54 (gRF L (vAt e 7)) (gRF L (vAt e 8))) (gT := spec_l07Solve_l2_T v53 v54 (gRF L (vAt e 7)) (gRF L (vAt e 8))) (X := spec_l07Solve_l2_X v51 v52 v53 v54 (gRF L (vAt e 7)) (gRF L (vAt e 8))) (s0 := ((gI (vAt e 12)), (gRF L (vAt e 11)))) tok spec_l07Solve_hO mixed (LoopsOk_eq (l := []) (by kernel_rfl) trivial) (spec_l07Solve_l2_be v51 v52 v53 v54 (gRF L (vAt e 7)) (gRF L (vAt e 8))) rfl (by intro x; rfl) h
noncomputable def spec_l07Solve_T (v51 : List Nat) (v52 : List Nat) (v53 : List Nat) (v54 : List Nat) : Tree ((Unit) ⊕ ((List Nat))) :=
  (.grd (fits (([] : List Nat) ++ v52).length) <|
  (.grd (fits (([] : List Nat) ++ v54).length) <|
  (.grd (inb (0 : Int) ((([] : List Nat) ++ v52).length)) <|
  (.br (feq .f32 (nth (([] : List Nat) ++ v52) (Int.toNat (0 : Int))) (0 : Nat)) (
   .leaf (.inl ())
  ) (
   (.need (some (spec_l07Solve_l0_E v51 v52 v53 v54 ((1 : Int), ([] : List Nat) ++ v52, ([] : List Nat) ++ v54)) = some (spec_l07Solve_l0_E v51 v52 v53 v54 ((1 : Int), ([] : List Nat) ++ v52, ([] : List Nat) ++ v54))) <|
   (.call (spec_l07Solve_l0_g v51 v53 v54 ((1 : Int), ([] : List Nat) ++ v52, ([] : List Nat) ++ v54)) fun v62 =>
   (.sum v62 (fun v63 =>
    .leaf (.inl ())
   ) (fun v64 =>
    (.need (((v54.length : Nat) : Int) = ((v54.length : Nat) : Int)) <|
    (.grd (inb ((v54.length : Nat) : Int) (maxN + 1)) <|
    (.need (some (spec_l07Solve_l2_E v51 v52 v53 v54 v64.1 v64.2 (IntKind.i64.wrap (((v54.length : Nat) : Int) - (1 : Int)), List.replicate (Int.toNat ((v54.length : Nat) : Int)) (0 : Nat))) = some (spec_l07Solve_l2_E v51 v52 v53 v54 v64.1 v64.2 (IntKind.i64.wrap (((v54.length : Nat) : Int) - (1 : Int)), List.replicate (Int.toNat ((v54.length : Nat) : Int)) (0 : Nat)))) <|
    (.call (spec_l07Solve_l2_g v53 v54 v64.1 v64.2 (IntKind.i64.wrap (((v54.length : Nat) : Int) - (1 : Int)), List.replicate (Int.toNat ((v54.length : Nat) : Int)) (0 : Nat))) fun v76 =>
    (.call (spec_l02List_g v76) fun v79 =>
    (.sum v79 (fun v80 =>
     .leaf (.inl ())
    ) (fun v81 =>
     .leaf (.inr v76)
    )))))))
   ))))
  )))))

noncomputable def spec_l07Solve_g (v51 : List Nat) (v52 : List Nat) (v53 : List Nat) (v54 : List Nat) : Option ((Unit) ⊕ ((List Nat))) := (spec_l07Solve_T v51 v52 v53 v54).run
def spec_l07Solve_enc (v51 : List Nat) (v52 : List Nat) (v53 : List Nat) (v54 : List Nat) (y : (Unit) ⊕ ((List Nat))) : Rs := (match y with | .inl y => (.tup [.nilslc, .lit false], []) | .inr y => (.tup [.own 0 0 ((y).length), .lit true], [.row (.f32 y) 0]))
theorem spec_l07Solve_den (v51 : List Nat) (v52 : List Nat) (v53 : List Nat) (v54 : List Nat) : (den TT (tabD spec_l07Solve_tab) (tabM spec_l07Solve_tab) (spec_l07Solve_LO v51 v52 v53 v54) (codeOf Try.f91) ([.bptr (BR.root 0) [.bslc (BR.root 1) (.f32 v51), .bslc (BR.root 2) (.f32 v52), .bslc (BR.root 3) (.f32 v53)], .bslc (BR.root 4) (.f32 v54)] ++ List.replicate (Try.f91.ntmps - ([.bptr (BR.root 0) [.bslc (BR.root 1) (.f32 v51), .bslc (BR.root 2) (.f32 v52), .bslc (BR.root 3) (.f32 v53)], .bslc (BR.root 4) (.f32 v54)] : List DV).length) .undef) []).bind (retD TT Try.f91.results.toList 0) = (spec_l07Solve_T v51 v52 v53 v54).bind fun y => .leaf (spec_l07Solve_enc v51 v52 v53 v54 y) := by kernel_rfl
theorem spec_l07Solve_fn (v51 : List Nat) (v52 : List Nat) (v53 : List Nat) (v54 : List Nat) (F : Fr) (hm : F.ids.length = 0) (h0 : St F [] F.H0) (hA : DVs.Ok F [] [.bptr (BR.root 0) [.bslc (BR.root 1) (.f32 v51), .bslc (BR.root 2) (.f32 v52), .bslc (BR.root 3) (.f32 v53)], .bslc (BR.root 4) (.f32 v54)]) {y : (Unit) ⊕ ((List Nat))} (hy : spec_l07Solve_g v51 v52 v53 v54 = some y) : ∃ H', FnOk Try.prog 91 (DVs.av F [.bptr (BR.root 0) [.bslc (BR.root 1) (.f32 v51), .bslc (BR.root 2) (.f32 v52), .bslc (BR.root 3) (.f32 v53)], .bslc (BR.root 4) (.f32 v54)]) F.H0 ((spec_l07Solve_enc v51 v52 v53 v54 y).1.av F) H' ∧ St F (spec_l07Solve_enc v51 v52 v53 v54 y).2 H' ∧ (spec_l07Solve_enc v51 v52 v53 v54 y).1.Ok F (spec_l07Solve_enc v51 v52 v53 v54 y).2 :=
  fn_fin tok spec_l07Solve_hO mixed Try.func91 Try.call91 (by kernel_rfl) (LoopsOk_eq (l := [(0, bodyOf Try.f91 0), (2, bodyOf Try.f91 2)]) (by kernel_rfl) ⟨spec_l07Solve_l0_ok v51 v52 v53 v54, spec_l07Solve_l2_ok v51 v52 v53 v54, trivial⟩) (spec_l07Solve_den v51 v52 v53 v54) hy hm h0 hA
noncomputable def spec_l07Solve_F : DFn := fun args L =>
  match args with
  | [a1, a5] =>
    optT (cellsOf L 3 a1) fun cs0 =>
    (match cs0 with
    | [a2, a3, a4] =>
    optT (rowF32 L a2) fun v51 =>
    optT (rowF32 L a3) fun v52 =>
    optT (rowF32 L a4) fun v53 =>
    optT (rowF32 L a5) fun v54 =>
    .call (spec_l07Solve_g v51 v52 v53 v54) fun y => .sum y (fun y0 => .leaf (.tup [.nilslc, .lit false], L)) (fun z0 => .leaf (.tup [.own (L.length + 0) 0 ((z0).length), .lit true], L ++ [.row (.f32 z0) 0]))
    | _ => .fail)
  | _ => .fail
theorem spec_l07Solve_Fok : COk Try.prog 91 spec_l07Solve_F true := by
  intro F L H args r L' hs ha hr
  unfold spec_l07Solve_F at hr
  split at hr
  · rename_i a1 a5
    obtain ⟨cs0, hcp0, hr⟩ := optT_run hr
    split at hr
    · rename_i a2 a3 a4
      obtain ⟨v51, hv51, hr⟩ := optT_run hr
      obtain ⟨v52, hv52, hr⟩ := optT_run hr
      obtain ⟨v53, hv53, hr⟩ := optT_run hr
      obtain ⟨v54, hv54, hr⟩ := optT_run hr
      simp only [Tree.run] at hr
      obtain ⟨y, hy, hr⟩ := Option.bind_eq_some_iff.1 hr
      cases y with
      | inl y =>
        simp only [Tree.run, Option.some.injEq, Prod.mk.injEq] at hr
        obtain ⟨rfl, rfl⟩ := hr
        exact call_ok0 hs (fun k => (([a1.av F, a2.av F, a3.av F, a4.av F, a5.av F] : List AV)[k]?).getD .top) [a1, a5] [.bptr (BR.root 0) [.bslc (BR.root 1) (.f32 v51), .bslc (BR.root 2) (.f32 v52), .bslc (BR.root 3) (.f32 v53)], .bslc (BR.root 4) (.f32 v54)] (fun F' h0 hi hρ => ⟨by simp [DVs.av, DV.av, BR.av, hρ], spec_l07Solve_fn v51 v52 v53 v54 F' (by rw [hi]; rfl) (st_nil hi) ⟨bptr_ok hi (by rw [h0]; simpa [DVs.av, DV.av, BR.av, hρ] using (cellsOf_ok hs (DVs.okAt ha 0 rfl) hcp0).1) ⟨bslc_ok hi (by rw [h0, hρ]; exact rowF32_ok hs (DVs.okAt (cellsOf_ok hs (DVs.okAt ha 0 rfl) hcp0).2 0 rfl) hv51), bslc_ok hi (by rw [h0, hρ]; exact rowF32_ok hs (DVs.okAt (cellsOf_ok hs (DVs.okAt ha 0 rfl) hcp0).2 1 rfl) hv52), bslc_ok hi (by rw [h0, hρ]; exact rowF32_ok hs (DVs.okAt (cellsOf_ok hs (DVs.okAt ha 0 rfl) hcp0).2 2 rfl) hv53), trivial⟩, bslc_ok hi (by rw [h0, hρ]; exact rowF32_ok hs (DVs.okAt ha 1 rfl) hv54), trivial⟩ hy⟩) rfl
      | inr y =>
        simp only [Tree.run, Option.some.injEq, Prod.mk.injEq] at hr
        obtain ⟨rfl, rfl⟩ := hr
        exact call_ok1 hs (fun k => (([a1.av F, a2.av F, a3.av F, a4.av F, a5.av F] : List AV)[k]?).getD .top) [a1, a5] [.bptr (BR.root 0) [.bslc (BR.root 1) (.f32 v51), .bslc (BR.root 2) (.f32 v52), .bslc (BR.root 3) (.f32 v53)], .bslc (BR.root 4) (.f32 v54)] (fun F' h0 hi hρ => ⟨by simp [DVs.av, DV.av, BR.av, hρ], spec_l07Solve_fn v51 v52 v53 v54 F' (by rw [hi]; rfl) (st_nil hi) ⟨bptr_ok hi (by rw [h0]; simpa [DVs.av, DV.av, BR.av, hρ] using (cellsOf_ok hs (DVs.okAt ha 0 rfl) hcp0).1) ⟨bslc_ok hi (by rw [h0, hρ]; exact rowF32_ok hs (DVs.okAt (cellsOf_ok hs (DVs.okAt ha 0 rfl) hcp0).2 0 rfl) hv51), bslc_ok hi (by rw [h0, hρ]; exact rowF32_ok hs (DVs.okAt (cellsOf_ok hs (DVs.okAt ha 0 rfl) hcp0).2 1 rfl) hv52), bslc_ok hi (by rw [h0, hρ]; exact rowF32_ok hs (DVs.okAt (cellsOf_ok hs (DVs.okAt ha 0 rfl) hcp0).2 2 rfl) hv53), trivial⟩, bslc_ok hi (by rw [h0, hρ]; exact rowF32_ok hs (DVs.okAt ha 1 rfl) hv54), trivial⟩ hy⟩) rfl rfl
    · cases hr
  · cases hr
/-! spec.ThirdsSolve -/
noncomputable def spec_ThirdsSolve_LO (v26 : List Nat) (v27 : List Nat) (v28 : List Nat) (v29 : List Nat) : LOr := fun id e L =>
  match id with
  | _ => .fail
noncomputable def spec_ThirdsSolve_tab : List (FuncId × DFn × Bool) := [(90, spec_l07Fits_F, true), (91, spec_l07Solve_F, true)]
theorem spec_ThirdsSolve_hO : OrcOk Try.prog (tabD spec_ThirdsSolve_tab) (tabM spec_ThirdsSolve_tab) := tabD_cons spec_l07Fits_Fok (tabD_cons spec_l07Solve_Fok (tabD_nil _))
noncomputable def spec_ThirdsSolve_T (v26 : List Nat) (v27 : List Nat) (v28 : List Nat) (v29 : List Nat) : Tree ((Unit) ⊕ ((List Nat))) :=
  (.call (spec_l07Fits_g v26 v27 v28 v29) fun v50 =>
  (.br (!v50) (
   .leaf (.inl ())
  ) (
   (.call (spec_l07Solve_g v26 v27 v28 v29) fun v82 =>
   (.sum v82 (fun v83 =>
    .leaf (.inl ())
   ) (fun v84 =>
    .leaf (.inr v84)
   )))
  )))

noncomputable def spec_ThirdsSolve_g (v26 : List Nat) (v27 : List Nat) (v28 : List Nat) (v29 : List Nat) : Option ((Unit) ⊕ ((List Nat))) := (spec_ThirdsSolve_T v26 v27 v28 v29).run
def spec_ThirdsSolve_enc (v26 : List Nat) (v27 : List Nat) (v28 : List Nat) (v29 : List Nat) (y : (Unit) ⊕ ((List Nat))) : Rs := (match y with | .inl y => (.tup [.nilslc, .lit false], []) | .inr y => (.tup [.own 0 0 ((y).length), .lit true], [.row (.f32 y) 0]))
theorem spec_ThirdsSolve_den (v26 : List Nat) (v27 : List Nat) (v28 : List Nat) (v29 : List Nat) : (den TT (tabD spec_ThirdsSolve_tab) (tabM spec_ThirdsSolve_tab) (spec_ThirdsSolve_LO v26 v27 v28 v29) (codeOf Try.f23) ([.agg [.bslc (BR.root 0) (.f32 v26), .bslc (BR.root 1) (.f32 v27), .bslc (BR.root 2) (.f32 v28)], .bslc (BR.root 3) (.f32 v29)] ++ List.replicate (Try.f23.ntmps - ([.agg [.bslc (BR.root 0) (.f32 v26), .bslc (BR.root 1) (.f32 v27), .bslc (BR.root 2) (.f32 v28)], .bslc (BR.root 3) (.f32 v29)] : List DV).length) .undef) []).bind (retD TT Try.f23.results.toList 0) = (spec_ThirdsSolve_T v26 v27 v28 v29).bind fun y => .leaf (spec_ThirdsSolve_enc v26 v27 v28 v29 y) := by kernel_rfl
theorem spec_ThirdsSolve_fn (v26 : List Nat) (v27 : List Nat) (v28 : List Nat) (v29 : List Nat) (F : Fr) (hm : F.ids.length = 0) (h0 : St F [] F.H0) (hA : DVs.Ok F [] [.agg [.bslc (BR.root 0) (.f32 v26), .bslc (BR.root 1) (.f32 v27), .bslc (BR.root 2) (.f32 v28)], .bslc (BR.root 3) (.f32 v29)]) {y : (Unit) ⊕ ((List Nat))} (hy : spec_ThirdsSolve_g v26 v27 v28 v29 = some y) : ∃ H', FnOk Try.prog 23 (DVs.av F [.agg [.bslc (BR.root 0) (.f32 v26), .bslc (BR.root 1) (.f32 v27), .bslc (BR.root 2) (.f32 v28)], .bslc (BR.root 3) (.f32 v29)]) F.H0 ((spec_ThirdsSolve_enc v26 v27 v28 v29 y).1.av F) H' ∧ St F (spec_ThirdsSolve_enc v26 v27 v28 v29 y).2 H' ∧ (spec_ThirdsSolve_enc v26 v27 v28 v29 y).1.Ok F (spec_ThirdsSolve_enc v26 v27 v28 v29 y).2 :=
  fn_fin tok spec_ThirdsSolve_hO mixed Try.func23 Try.call23 (by kernel_rfl) (LoopsOk_eq (l := []) (by kernel_rfl) trivial) (spec_ThirdsSolve_den v26 v27 v28 v29) hy hm h0 hA
noncomputable def spec_ThirdsSolve_F : DFn := fun args L =>
  match args with
  | [.agg [a1, a2, a3], a4] =>
    optT (rowF32 L a1) fun v26 =>
    optT (rowF32 L a2) fun v27 =>
    optT (rowF32 L a3) fun v28 =>
    optT (rowF32 L a4) fun v29 =>
    .call (spec_ThirdsSolve_g v26 v27 v28 v29) fun y => .sum y (fun y0 => .leaf (.tup [.nilslc, .lit false], L)) (fun z0 => .leaf (.tup [.own (L.length + 0) 0 ((z0).length), .lit true], L ++ [.row (.f32 z0) 0]))
  | _ => .fail
theorem spec_ThirdsSolve_Fok : COk Try.prog 23 spec_ThirdsSolve_F true := by
  intro F L H args r L' hs ha hr
  unfold spec_ThirdsSolve_F at hr
  split at hr
  · rename_i a1 a2 a3 a4
    obtain ⟨v26, hv26, hr⟩ := optT_run hr
    obtain ⟨v27, hv27, hr⟩ := optT_run hr
    obtain ⟨v28, hv28, hr⟩ := optT_run hr
    obtain ⟨v29, hv29, hr⟩ := optT_run hr
    simp only [Tree.run] at hr
    obtain ⟨y, hy, hr⟩ := Option.bind_eq_some_iff.1 hr
    cases y with
    | inl y =>
      simp only [Tree.run, Option.some.injEq, Prod.mk.injEq] at hr
      obtain ⟨rfl, rfl⟩ := hr
      exact call_ok0 hs (fun k => (([a1.av F, a2.av F, a3.av F, a4.av F] : List AV)[k]?).getD .top) [.agg [a1, a2, a3], a4] [.agg [.bslc (BR.root 0) (.f32 v26), .bslc (BR.root 1) (.f32 v27), .bslc (BR.root 2) (.f32 v28)], .bslc (BR.root 3) (.f32 v29)] (fun F' h0 hi hρ => ⟨by simp [DVs.av, DV.av, BR.av, hρ], spec_ThirdsSolve_fn v26 v27 v28 v29 F' (by rw [hi]; rfl) (st_nil hi) ⟨⟨bslc_ok hi (by rw [h0, hρ]; exact rowF32_ok hs (DVs.okAt (DVs.okAt ha 0 rfl) 0 rfl) hv26), bslc_ok hi (by rw [h0, hρ]; exact rowF32_ok hs (DVs.okAt (DVs.okAt ha 0 rfl) 1 rfl) hv27), bslc_ok hi (by rw [h0, hρ]; exact rowF32_ok hs (DVs.okAt (DVs.okAt ha 0 rfl) 2 rfl) hv28), trivial⟩, bslc_ok hi (by rw [h0, hρ]; exact rowF32_ok hs (DVs.okAt ha 1 rfl) hv29), trivial⟩ hy⟩) rfl
    | inr y =>
      simp only [Tree.run, Option.some.injEq, Prod.mk.injEq] at hr
      obtain ⟨rfl, rfl⟩ := hr
      exact call_ok1 hs (fun k => (([a1.av F, a2.av F, a3.av F, a4.av F] : List AV)[k]?).getD .top) [.agg [a1, a2, a3], a4] [.agg [.bslc (BR.root 0) (.f32 v26), .bslc (BR.root 1) (.f32 v27), .bslc (BR.root 2) (.f32 v28)], .bslc (BR.root 3) (.f32 v29)] (fun F' h0 hi hρ => ⟨by simp [DVs.av, DV.av, BR.av, hρ], spec_ThirdsSolve_fn v26 v27 v28 v29 F' (by rw [hi]; rfl) (st_nil hi) ⟨⟨bslc_ok hi (by rw [h0, hρ]; exact rowF32_ok hs (DVs.okAt (DVs.okAt ha 0 rfl) 0 rfl) hv26), bslc_ok hi (by rw [h0, hρ]; exact rowF32_ok hs (DVs.okAt (DVs.okAt ha 0 rfl) 1 rfl) hv27), bslc_ok hi (by rw [h0, hρ]; exact rowF32_ok hs (DVs.okAt (DVs.okAt ha 0 rfl) 2 rfl) hv28), trivial⟩, bslc_ok hi (by rw [h0, hρ]; exact rowF32_ok hs (DVs.okAt ha 1 rfl) hv29), trivial⟩ hy⟩) rfl rfl
  · cases hr
/-! impl.length[float32] -/
noncomputable def impl_lengthF_LO (v103 : List Nat) : LOr := fun id e L =>
  match id with
  | _ => .fail
noncomputable def impl_lengthF_tab : List (FuncId × DFn × Bool) := []
theorem impl_lengthF_hO : OrcOk Try.prog (tabD impl_lengthF_tab) (tabM impl_lengthF_tab) := tabD_nil _
noncomputable def impl_lengthF_T (v103 : List Nat) : Tree (Int) :=
  .leaf ((v103.length : Nat) : Int)

noncomputable def impl_lengthF_g (v103 : List Nat) : Option (Int) := (impl_lengthF_T v103).run
def impl_lengthF_enc (v103 : List Nat) (y : Int) : Rs := (.int .i64 y, [])
theorem impl_lengthF_den (v103 : List Nat) : (den TT (tabD impl_lengthF_tab) (tabM impl_lengthF_tab) (impl_lengthF_LO v103) (codeOf Try.f204) ([.bslc (BR.root 0) (.f32 v103)] ++ List.replicate (Try.f204.ntmps - ([.bslc (BR.root 0) (.f32 v103)] : List DV).length) .undef) []).bind (retD TT Try.f204.results.toList 0) = (impl_lengthF_T v103).bind fun y => .leaf (impl_lengthF_enc v103 y) := by kernel_rfl
theorem impl_lengthF_fn (v103 : List Nat) (F : Fr) (hm : F.ids.length = 0) (h0 : St F [] F.H0) (hA : DVs.Ok F [] [.bslc (BR.root 0) (.f32 v103)]) {y : Int} (hy : impl_lengthF_g v103 = some y) : ∃ H', FnOk Try.prog 204 (DVs.av F [.bslc (BR.root 0) (.f32 v103)]) F.H0 ((impl_lengthF_enc v103 y).1.av F) H' ∧ St F (impl_lengthF_enc v103 y).2 H' ∧ (impl_lengthF_enc v103 y).1.Ok F (impl_lengthF_enc v103 y).2 :=
  fn_fin tok impl_lengthF_hO mixed Try.func204 Try.call204 (by kernel_rfl) (LoopsOk_eq (l := []) (by kernel_rfl) trivial) (impl_lengthF_den v103) hy hm h0 hA
def impl_lengthF_v (v103 : List Nat) : Int :=
  ((v103.length : Nat) : Int)
theorem impl_lengthF_tot (v103 : List Nat) : impl_lengthF_g v103 = some (impl_lengthF_v v103) := by
  unfold impl_lengthF_g impl_lengthF_T impl_lengthF_v
  simp only [Tree.run]
  repeat' (first | rfl | split)
noncomputable def impl_lengthF_F : DFn := fun args L =>
  match args with
  | [a1] =>
    optT (rowF32 L a1) fun v103 =>
    .leaf (.int .i64 (impl_lengthF_v v103), L)
  | _ => .fail
theorem impl_lengthF_Fok : COk Try.prog 204 impl_lengthF_F true := by
  intro F L H args r L' hs ha hr
  unfold impl_lengthF_F at hr
  split at hr
  · rename_i a1
    obtain ⟨v103, hv103, hr⟩ := optT_run hr
    have hy := impl_lengthF_tot v103
    generalize impl_lengthF_v v103 = y at hy hr
    simp only [Tree.run, Option.some.injEq, Prod.mk.injEq] at hr
    obtain ⟨rfl, rfl⟩ := hr
    exact call_ok0 hs (fun k => (([a1.av F] : List AV)[k]?).getD .top) [a1] [.bslc (BR.root 0) (.f32 v103)] (fun F' h0 hi hρ => ⟨by simp [DVs.av, DV.av, BR.av, hρ], impl_lengthF_fn v103 F' (by rw [hi]; rfl) (st_nil hi) ⟨bslc_ok hi (by rw [h0, hρ]; exact rowF32_ok hs (DVs.okAt ha 0 rfl) hv103), trivial⟩ hy⟩) rfl
  · cases hr
/-! impl.inRange -/
noncomputable def impl_inRange_LO (v104 : Int) (v105 : Int) (v106 : Int) : LOr := fun id e L =>
  match id with
  | _ => .fail
noncomputable def impl_inRange_tab : List (FuncId × DFn × Bool) := []
theorem impl_inRange_hO : OrcOk Try.prog (tabD impl_inRange_tab) (tabM impl_inRange_tab) := tabD_nil _
noncomputable def impl_inRange_T (v104 : Int) (v105 : Int) (v106 : Int) : Tree (Bool) :=
  (.br (decide (v105 ≤ v104)) (
   .leaf (decide (v104 ≤ v106))
  ) (
   .leaf false
  ))

noncomputable def impl_inRange_g (v104 : Int) (v105 : Int) (v106 : Int) : Option (Bool) := (impl_inRange_T v104 v105 v106).run
def impl_inRange_enc (v104 : Int) (v105 : Int) (v106 : Int) (y : Bool) : Rs := (.bool y, [])
theorem impl_inRange_den (v104 : Int) (v105 : Int) (v106 : Int) : (den TT (tabD impl_inRange_tab) (tabM impl_inRange_tab) (impl_inRange_LO v104 v105 v106) (codeOf Try.f100) ([.int .i64 v104, .int .i64 v105, .int .i64 v106] ++ List.replicate (Try.f100.ntmps - ([.int .i64 v104, .int .i64 v105, .int .i64 v106] : List DV).length) .undef) []).bind (retD TT Try.f100.results.toList 0) = (impl_inRange_T v104 v105 v106).bind fun y => .leaf (impl_inRange_enc v104 v105 v106 y) := by kernel_rfl
theorem impl_inRange_fn (v104 : Int) (v105 : Int) (v106 : Int) (F : Fr) (hm : F.ids.length = 0) (h0 : St F [] F.H0) (hA : DVs.Ok F [] [.int .i64 v104, .int .i64 v105, .int .i64 v106]) {y : Bool} (hy : impl_inRange_g v104 v105 v106 = some y) : ∃ H', FnOk Try.prog 100 (DVs.av F [.int .i64 v104, .int .i64 v105, .int .i64 v106]) F.H0 ((impl_inRange_enc v104 v105 v106 y).1.av F) H' ∧ St F (impl_inRange_enc v104 v105 v106 y).2 H' ∧ (impl_inRange_enc v104 v105 v106 y).1.Ok F (impl_inRange_enc v104 v105 v106 y).2 :=
  fn_fin tok impl_inRange_hO mixed Try.func100 Try.call100 (by kernel_rfl) (LoopsOk_eq (l := []) (by kernel_rfl) trivial) (impl_inRange_den v104 v105 v106) hy hm h0 hA
def impl_inRange_v (v104 : Int) (v105 : Int) (v106 : Int) : Bool :=
  if (decide (v105 ≤ v104)) = true then (
   decide (v104 ≤ v106)
  ) else (
   false
  )
theorem impl_inRange_tot (v104 : Int) (v105 : Int) (v106 : Int) : impl_inRange_g v104 v105 v106 = some (impl_inRange_v v104 v105 v106) := by
  unfold impl_inRange_g impl_inRange_T impl_inRange_v
  simp only [Tree.run]
  repeat' (first | rfl | split)
noncomputable def impl_inRange_F : DFn := fun args L =>
  match args with
  | [.int .i64 v104, .int .i64 v105, .int .i64 v106] =>
    .leaf (.bool (impl_inRange_v v104 v105 v106), L)
  | _ => .fail
theorem impl_inRange_Fok : COk Try.prog 100 impl_inRange_F true := by
  intro F L H args r L' hs ha hr
  unfold impl_inRange_F at hr
  split at hr
  · rename_i v104 v105 v106
    have hy := impl_inRange_tot v104 v105 v106
    generalize impl_inRange_v v104 v105 v106 = y at hy hr
    simp only [Tree.run, Option.some.injEq, Prod.mk.injEq] at hr
    obtain ⟨rfl, rfl⟩ := hr
    exact call_ok0 hs (fun k => (([] : List AV)[k]?).getD .top) [.int .i64 v104, .int .i64 v105, .int .i64 v106] [.int .i64 v104, .int .i64 v105, .int .i64 v106] (fun F' h0 hi hρ => ⟨by simp [DVs.av, DV.av, BR.av, hρ], impl_inRange_fn v104 v105 v106 F' (by rw [hi]; rfl) (st_nil hi) ⟨trivial, trivial, trivial, trivial⟩ hy⟩) rfl
  · cases hr
/-! math.IsNaN -/
noncomputable def math_IsNaN_LO (v114 : Nat) : LOr := fun id e L =>
  match id with
  | _ => .fail
noncomputable def math_IsNaN_tab : List (FuncId × DFn × Bool) := []
theorem math_IsNaN_hO : OrcOk Try.prog (tabD math_IsNaN_tab) (tabM math_IsNaN_tab) := tabD_nil _
noncomputable def math_IsNaN_T (v114 : Nat) : Tree (Bool) :=
  .leaf (!feq .f64 v114 v114)

noncomputable def math_IsNaN_g (v114 : Nat) : Option (Bool) := (math_IsNaN_T v114).run
def math_IsNaN_enc (v114 : Nat) (y : Bool) : Rs := (.bool y, [])
theorem math_IsNaN_den (v114 : Nat) : (den TT (tabD math_IsNaN_tab) (tabM math_IsNaN_tab) (math_IsNaN_LO v114) (codeOf Try.f228) ([.flt .f64 v114] ++ List.replicate (Try.f228.ntmps - ([.flt .f64 v114] : List DV).length) .undef) []).bind (retD TT Try.f228.results.toList 0) = (math_IsNaN_T v114).bind fun y => .leaf (math_IsNaN_enc v114 y) := by kernel_rfl
theorem math_IsNaN_fn (v114 : Nat) (F : Fr) (hm : F.ids.length = 0) (h0 : St F [] F.H0) (hA : DVs.Ok F [] [.flt .f64 v114]) {y : Bool} (hy : math_IsNaN_g v114 = some y) : ∃ H', FnOk Try.prog 228 (DVs.av F [.flt .f64 v114]) F.H0 ((math_IsNaN_enc v114 y).1.av F) H' ∧ St F (math_IsNaN_enc v114 y).2 H' ∧ (math_IsNaN_enc v114 y).1.Ok F (math_IsNaN_enc v114 y).2 :=
  fn_fin tok math_IsNaN_hO mixed Try.func228 Try.call228 (by kernel_rfl) (LoopsOk_eq (l := []) (by kernel_rfl) trivial) (math_IsNaN_den v114) hy hm h0 hA
def math_IsNaN_v (v114 : Nat) : Bool :=
  !feq .f64 v114 v114
theorem math_IsNaN_tot (v114 : Nat) : math_IsNaN_g v114 = some (math_IsNaN_v v114) := by
  unfold math_IsNaN_g math_IsNaN_T math_IsNaN_v
  simp only [Tree.run]
  repeat' (first | rfl | split)
noncomputable def math_IsNaN_F : DFn := fun args L =>
  match args with
  | [.flt .f64 v114] =>
    .leaf (.bool (math_IsNaN_v v114), L)
  | _ => .fail
theorem math_IsNaN_Fok : COk Try.prog 228 math_IsNaN_F true := by
  intro F L H args r L' hs ha hr
  unfold math_IsNaN_F at hr
  split at hr
  · rename_i v114
    have hy := math_IsNaN_tot v114
    generalize math_IsNaN_v v114 = y at hy hr
    simp only [Tree.run, Option.some.injEq, Prod.mk.injEq] at hr
    obtain ⟨rfl, rfl⟩ := hr
    exact call_ok0 hs (fun k => (([] : List AV)[k]?).getD .top) [.flt .f64 v114] [.flt .f64 v114] (fun F' h0 hi hρ => ⟨by simp [DVs.av, DV.av, BR.av, hρ], math_IsNaN_fn v114 F' (by rw [hi]; rfl) (st_nil hi) ⟨trivial, trivial⟩ hy⟩) rfl
  · cases hr
/-! math.IsInf -/
noncomputable def math_IsInf_LO (v115 : Nat) (v116 : Int) : LOr := fun id e L =>
  match id with
  | _ => .fail
noncomputable def math_IsInf_tab : List (FuncId × DFn × Bool) := [(147, Abs_F, true)]
theorem math_IsInf_hO : OrcOk Try.prog (tabD math_IsInf_tab) (tabM math_IsInf_tab) := tabD_cons Abs_Fok (tabD_nil _)
noncomputable def math_IsInf_T (v115 : Nat) (v116 : Int) : Tree (Bool) :=
  (.br (decide (v116 = (0 : Int))) (
   .leaf (fgrt .f64 (fabs v115) (9218868437227405311 : Nat))
  ) (
   (.br (decide (v116 < (0 : Int))) (
    .leaf (fgrt .f64 (fneg .f64 v115) (9218868437227405311 : Nat))
   ) (
    .leaf (fgrt .f64 v115 (9218868437227405311 : Nat))
   ))
  ))

noncomputable def math_IsInf_g (v115 : Nat) (v116 : Int) : Option (Bool) := (math_IsInf_T v115 v116).run
def math_IsInf_enc (v115 : Nat) (v116 : Int) (y : Bool) : Rs := (.bool y, [])
theorem math_IsInf_den (v115 : Nat) (v116 : Int) : (den TT (tabD math_IsInf_tab) (tabM math_IsInf_tab) (math_IsInf_LO v115 v116) (codeOf Try.f229) ([.flt .f64 v115, .int .i64 v116] ++ List.replicate (Try.f229.ntmps - ([.flt .f64 v115, .int .i64 v116] : List DV).length) .undef) []).bind (retD TT Try.f229.results.toList 0) = (math_IsInf_T v115 v116).bind fun y => .leaf (math_IsInf_enc v115 v116 y) := by kernel_rfl
theorem math_IsInf_fn (v115 : Nat) (v116 : Int) (F : Fr) (hm : F.ids.length = 0) (h0 : St F [] F.H0) (hA : DVs.Ok F [] [.flt .f64 v115, .int .i64 v116]) {y : Bool} (hy : math_IsInf_g v115 v116 = some y) : ∃ H', FnOk Try.prog 229 (DVs.av F [.flt .f64 v115, .int .i64 v116]) F.H0 ((math_IsInf_enc v115 v116 y).1.av F) H' ∧ St F (math_IsInf_enc v115 v116 y).2 H' ∧ (math_IsInf_enc v115 v116 y).1.Ok F (math_IsInf_enc v115 v116 y).2 :=
  fn_fin tok math_IsInf_hO mixed Try.func229 Try.call229 (by kernel_rfl) (LoopsOk_eq (l := []) (by kernel_rfl) trivial) (math_IsInf_den v115 v116) hy hm h0 hA
def math_IsInf_v (v115 : Nat) (v116 : Int) : Bool :=
  if (decide (v116 = (0 : Int))) = true then (
   fgrt .f64 (fabs v115) (9218868437227405311 : Nat)
  ) else (
   if (decide (v116 < (0 : Int))) = true then (
    fgrt .f64 (fneg .f64 v115) (9218868437227405311 : Nat)
   ) else (
    fgrt .f64 v115 (9218868437227405311 : Nat)
   )
  )
theorem math_IsInf_tot (v115 : Nat) (v116 : Int) : math_IsInf_g v115 v116 = some (math_IsInf_v v115 v116) := by
  unfold math_IsInf_g math_IsInf_T math_IsInf_v
  simp only [Tree.run]
  repeat' (first | rfl | split)
noncomputable def math_IsInf_F : DFn := fun args L =>
  match args with
  | [.flt .f64 v115, .int .i64 v116] =>
    .leaf (.bool (math_IsInf_v v115 v116), L)
  | _ => .fail
theorem math_IsInf_Fok : COk Try.prog 229 math_IsInf_F true := by
  intro F L H args r L' hs ha hr
  unfold math_IsInf_F at hr
  split at hr
  · rename_i v115 v116
    have hy := math_IsInf_tot v115 v116
    generalize math_IsInf_v v115 v116 = y at hy hr
    simp only [Tree.run, Option.some.injEq, Prod.mk.injEq] at hr
    obtain ⟨rfl, rfl⟩ := hr
    exact call_ok0 hs (fun k => (([] : List AV)[k]?).getD .top) [.flt .f64 v115, .int .i64 v116] [.flt .f64 v115, .int .i64 v116] (fun F' h0 hi hρ => ⟨by simp [DVs.av, DV.av, BR.av, hρ], math_IsInf_fn v115 v116 F' (by rw [hi]; rfl) (st_nil hi) ⟨trivial, trivial, trivial⟩ hy⟩) rfl
  · cases hr
/-! impl.isFinite64 -/
noncomputable def impl_isFinite64_LO (v113 : Nat) : LOr := fun id e L =>
  match id with
  | _ => .fail
noncomputable def impl_isFinite64_tab : List (FuncId × DFn × Bool) := [(228, math_IsNaN_F, true), (229, math_IsInf_F, true)]
theorem impl_isFinite64_hO : OrcOk Try.prog (tabD impl_isFinite64_tab) (tabM impl_isFinite64_tab) := tabD_cons math_IsNaN_Fok (tabD_cons math_IsInf_Fok (tabD_nil _))
noncomputable def impl_isFinite64_T (v113 : Nat) : Tree (Bool) :=
  (.br (!(math_IsNaN_v v113)) (
   .leaf (!(math_IsInf_v v113 (0 : Int)))
  ) (
   .leaf false
  ))

noncomputable def impl_isFinite64_g (v113 : Nat) : Option (Bool) := (impl_isFinite64_T v113).run
def impl_isFinite64_enc (v113 : Nat) (y : Bool) : Rs := (.bool y, [])
theorem impl_isFinite64_den (v113 : Nat) : (den TT (tabD impl_isFinite64_tab) (tabM impl_isFinite64_tab) (impl_isFinite64_LO v113) (codeOf Try.f205) ([.flt .f64 v113] ++ List.replicate (Try.f205.ntmps - ([.flt .f64 v113] : List DV).length) .undef) []).bind (retD TT Try.f205.results.toList 0) = (impl_isFinite64_T v113).bind fun y => .leaf (impl_isFinite64_enc v113 y) := by kernel_rfl
theorem impl_isFinite64_fn (v113 : Nat) (F : Fr) (hm : F.ids.length = 0) (h0 : St F [] F.H0) (hA : DVs.Ok F [] [.flt .f64 v113]) {y : Bool} (hy : impl_isFinite64_g v113 = some y) : ∃ H', FnOk Try.prog 205 (DVs.av F [.flt .f64 v113]) F.H0 ((impl_isFinite64_enc v113 y).1.av F) H' ∧ St F (impl_isFinite64_enc v113 y).2 H' ∧ (impl_isFinite64_enc v113 y).1.Ok F (impl_isFinite64_enc v113 y).2 :=
  fn_fin tok impl_isFinite64_hO mixed Try.func205 Try.call205 (by kernel_rfl) (LoopsOk_eq (l := []) (by kernel_rfl) trivial) (impl_isFinite64_den v113) hy hm h0 hA
def impl_isFinite64_v (v113 : Nat) : Bool :=
  if (!(math_IsNaN_v v113)) = true then (
   !(math_IsInf_v v113 (0 : Int))
  ) else (
   false
  )
theorem impl_isFinite64_tot (v113 : Nat) : impl_isFinite64_g v113 = some (impl_isFinite64_v v113) := by
  unfold impl_isFinite64_g impl_isFinite64_T impl_isFinite64_v
  simp only [Tree.run]
  repeat' (first | rfl | split)
noncomputable def impl_isFinite64_F : DFn := fun args L =>
  match args with
  | [.flt .f64 v113] =>
    .leaf (.bool (impl_isFinite64_v v113), L)
  | _ => .fail
theorem impl_isFinite64_Fok : COk Try.prog 205 impl_isFinite64_F true := by
  intro F L H args r L' hs ha hr
  unfold impl_isFinite64_F at hr
  split at hr
  · rename_i v113
    have hy := impl_isFinite64_tot v113
    generalize impl_isFinite64_v v113 = y at hy hr
    simp only [Tree.run, Option.some.injEq, Prod.mk.injEq] at hr
    obtain ⟨rfl, rfl⟩ := hr
    exact call_ok0 hs (fun k => (([] : List AV)[k]?).getD .top) [.flt .f64 v113] [.flt .f64 v113] (fun F' h0 hi hρ => ⟨by simp [DVs.av, DV.av, BR.av, hρ], impl_isFinite64_fn v113 F' (by rw [hi]; rfl) (st_nil hi) ⟨trivial, trivial⟩ hy⟩) rfl
  · cases hr
/-! impl.IsFinite -/
noncomputable def impl_IsFinite_LO (v112 : Nat) : LOr := fun id e L =>
  match id with
  | _ => .fail
noncomputable def impl_IsFinite_tab : List (FuncId × DFn × Bool) := [(205, impl_isFinite64_F, true)]
theorem impl_IsFinite_hO : OrcOk Try.prog (tabD impl_IsFinite_tab) (tabM impl_IsFinite_tab) := tabD_cons impl_isFinite64_Fok (tabD_nil _)
noncomputable def impl_IsFinite_T (v112 : Nat) : Tree (Bool) :=
  .leaf (impl_isFinite64_v (wid v112))

noncomputable def impl_IsFinite_g (v112 : Nat) : Option (Bool) := (impl_IsFinite_T v112).run
def impl_IsFinite_enc (v112 : Nat) (y : Bool) : Rs := (.bool y, [])
theorem impl_IsFinite_den (v112 : Nat) : (den TT (tabD impl_IsFinite_tab) (tabM impl_IsFinite_tab) (impl_IsFinite_LO v112) (codeOf Try.f146) ([.flt .f32 v112] ++ List.replicate (Try.f146.ntmps - ([.flt .f32 v112] : List DV).length) .undef) []).bind (retD TT Try.f146.results.toList 0) = (impl_IsFinite_T v112).bind fun y => .leaf (impl_IsFinite_enc v112 y) := by kernel_rfl
theorem impl_IsFinite_fn (v112 : Nat) (F : Fr) (hm : F.ids.length = 0) (h0 : St F [] F.H0) (hA : DVs.Ok F [] [.flt .f32 v112]) {y : Bool} (hy : impl_IsFinite_g v112 = some y) : ∃ H', FnOk Try.prog 146 (DVs.av F [.flt .f32 v112]) F.H0 ((impl_IsFinite_enc v112 y).1.av F) H' ∧ St F (impl_IsFinite_enc v112 y).2 H' ∧ (impl_IsFinite_enc v112 y).1.Ok F (impl_IsFinite_enc v112 y).2 :=
  fn_fin tok impl_IsFinite_hO mixed Try.func146 Try.call146 (by kernel_rfl) (LoopsOk_eq (l := []) (by kernel_rfl) trivial) (impl_IsFinite_den v112) hy hm h0 hA
def impl_IsFinite_v (v112 : Nat) : Bool :=
  (impl_isFinite64_v (wid v112))
theorem impl_IsFinite_tot (v112 : Nat) : impl_IsFinite_g v112 = some (impl_IsFinite_v v112) := by
  unfold impl_IsFinite_g impl_IsFinite_T impl_IsFinite_v
  simp only [Tree.run]
  repeat' (first | rfl | split)
noncomputable def impl_IsFinite_F : DFn := fun args L =>
  match args with
  | [.flt .f32 v112] =>
    .leaf (.bool (impl_IsFinite_v v112), L)
  | _ => .fail
theorem impl_IsFinite_Fok : COk Try.prog 146 impl_IsFinite_F true := by
  intro F L H args r L' hs ha hr
  unfold impl_IsFinite_F at hr
  split at hr
  · rename_i v112
    have hy := impl_IsFinite_tot v112
    generalize impl_IsFinite_v v112 = y at hy hr
    simp only [Tree.run, Option.some.injEq, Prod.mk.injEq] at hr
    obtain ⟨rfl, rfl⟩ := hr
    exact call_ok0 hs (fun k => (([] : List AV)[k]?).getD .top) [.flt .f32 v112] [.flt .f32 v112] (fun F' h0 hi hρ => ⟨by simp [DVs.av, DV.av, BR.av, hρ], impl_IsFinite_fn v112 F' (by rw [hi]; rfl) (st_nil hi) ⟨trivial, trivial⟩ hy⟩) rfl
  · cases hr
/-! impl.areFinite$1 -/
noncomputable def impl_areFinite_1_LO (v111 : Nat) : LOr := fun id e L =>
  match id with
  | _ => .fail
noncomputable def impl_areFinite_1_tab : List (FuncId × DFn × Bool) := [(146, impl_IsFinite_F, true)]
theorem impl_areFinite_1_hO : OrcOk Try.prog (tabD impl_areFinite_1_tab) (tabM impl_areFinite_1_tab) := tabD_cons impl_IsFinite_Fok (tabD_nil _)
noncomputable def impl_areFinite_1_T (v111 : Nat) : Tree (Bool) :=
  .leaf (!(impl_IsFinite_v v111))

noncomputable def impl_areFinite_1_g (v111 : Nat) : Option (Bool) := (impl_areFinite_1_T v111).run
def impl_areFinite_1_enc (v111 : Nat) (y : Bool) : Rs := (.bool y, [])
theorem impl_areFinite_1_den (v111 : Nat) : (den TT (tabD impl_areFinite_1_tab) (tabM impl_areFinite_1_tab) (impl_areFinite_1_LO v111) (codeOf Try.f194) ([.flt .f32 v111] ++ List.replicate (Try.f194.ntmps - ([.flt .f32 v111] : List DV).length) .undef) []).bind (retD TT Try.f194.results.toList 0) = (impl_areFinite_1_T v111).bind fun y => .leaf (impl_areFinite_1_enc v111 y) := by kernel_rfl
theorem impl_areFinite_1_fn (v111 : Nat) (F : Fr) (hm : F.ids.length = 0) (h0 : St F [] F.H0) (hA : DVs.Ok F [] [.flt .f32 v111]) {y : Bool} (hy : impl_areFinite_1_g v111 = some y) : ∃ H', FnOk Try.prog 194 (DVs.av F [.flt .f32 v111]) F.H0 ((impl_areFinite_1_enc v111 y).1.av F) H' ∧ St F (impl_areFinite_1_enc v111 y).2 H' ∧ (impl_areFinite_1_enc v111 y).1.Ok F (impl_areFinite_1_enc v111 y).2 :=
  fn_fin tok impl_areFinite_1_hO mixed Try.func194 Try.call194 (by kernel_rfl) (LoopsOk_eq (l := []) (by kernel_rfl) trivial) (impl_areFinite_1_den v111) hy hm h0 hA
def impl_areFinite_1_v (v111 : Nat) : Bool :=
  !(impl_IsFinite_v v111)
theorem impl_areFinite_1_tot (v111 : Nat) : impl_areFinite_1_g v111 = some (impl_areFinite_1_v v111) := by
  unfold impl_areFinite_1_g impl_areFinite_1_T impl_areFinite_1_v
  simp only [Tree.run]
  repeat' (first | rfl | split)
noncomputable def impl_areFinite_1_F : DFn := fun args L =>
  match args with
  | [.flt .f32 v111] =>
    .leaf (.bool (impl_areFinite_1_v v111), L)
  | _ => .fail
theorem impl_areFinite_1_Fok : COk Try.prog 194 impl_areFinite_1_F true := by
  intro F L H args r L' hs ha hr
  unfold impl_areFinite_1_F at hr
  split at hr
  · rename_i v111
    have hy := impl_areFinite_1_tot v111
    generalize impl_areFinite_1_v v111 = y at hy hr
    simp only [Tree.run, Option.some.injEq, Prod.mk.injEq] at hr
    obtain ⟨rfl, rfl⟩ := hr
    exact call_ok0 hs (fun k => (([] : List AV)[k]?).getD .top) [.flt .f32 v111] [.flt .f32 v111] (fun F' h0 hi hρ => ⟨by simp [DVs.av, DV.av, BR.av, hρ], impl_areFinite_1_fn v111 F' (by rw [hi]; rfl) (st_nil hi) ⟨trivial, trivial⟩ hy⟩) rfl
  · cases hr
/-! slices.IndexFunc[list of float32,float32] -/
noncomputable def slices_IndexFuncF_l0_T (v109 : List Nat) (s : Int) : Tree ((Int) ⊕ ((Int) ⊕ (Unit))) :=
  (.br (decide (s < ((v109.length : Nat) : Int))) (
   (.grd (inb s v109.length) <|
   (.br (impl_areFinite_1_v (nth v109 (Int.toNat s))) (
    .leaf (.inr (.inl s))
   ) (
    .leaf (.inl (IntKind.i64.wrap (s + (1 : Int))))
   )))
  ) (
   .leaf (.inr (.inr ()))
  ))

noncomputable def slices_IndexFuncF_l0_g (v109 : List Nat) (s0 : Int) : Option ((Int) ⊕ (Unit)) := whileM (fun s => (slices_IndexFuncF_l0_T v109 s).run) s0
def slices_IndexFuncF_l0_E (v109 : List Nat) (s : Int) : Sd := ([.bslc (BR.root 0) (.f32 v109), .fn 194 [], .top, .top, .top, .top, .top, .int .i64 ((v109.length : Nat) : Int), .int .i64 s, .top, .top, .top, .top, .top, .top, .top, .top, .top, .top], [])
def slices_IndexFuncF_l0_X (v109 : List Nat) (x : (Int) ⊕ (Unit)) : Out := (match x with | .inl x => (.ret, [.top, .top, .top, .top, .int .i64 x, .top, .top, .top, .top, .top, .top, .top, .top, .top, .top, .top, .top, .top, .top], []) | .inr x => (.normal, [.top, .top, .top, .top, .top, .top, .top, .top, .top, .top, .top, .top, .top, .top, .top, .top, .top, .top, .top], []))
def slices_IndexFuncF_l0_kill : List Nat := [0, 0, 1, 1, 1, 1, 1, 0, 0, 1, 1, 1, 1, 1, 1, 1, 1, 1, 1]
def slices_IndexFuncF_l0_nx : Exit → List Nat
  | .exit 0 => [1, 1, 1, 1, 1, 1, 1, 1, 1, 1, 1, 1, 1, 1, 1, 1, 1, 1, 1]
  | .ret => [1, 1, 1, 1, 0, 1, 1, 1, 1, 1, 1, 1, 1, 1, 1, 1, 1, 1, 1]
  | _ => []
noncomputable def slices_IndexFuncF_LO (v109 : List Nat) : LOr := fun id e L =>
  match id with
  | 0 => .need (normA 0 slices_IndexFuncF_l0_kill e L = some (slices_IndexFuncF_l0_E v109 (gI (vAt e 8)))) (.call (slices_IndexFuncF_l0_g v109 (gI (vAt e 8))) fun x => .sum x (fun b0 => .leaf (slices_IndexFuncF_l0_X v109 (.inl b0))) (fun c0 => .leaf (slices_IndexFuncF_l0_X v109 (.inr c0))))
  | _ => .fail
noncomputable def slices_IndexFuncF_tab : List (FuncId × DFn × Bool) := [(194, impl_areFinite_1_F, true)]
theorem slices_IndexFuncF_hO : OrcOk Try.prog (tabD slices_IndexFuncF_tab) (tabM slices_IndexFuncF_tab) := tabD_cons impl_areFinite_1_Fok (tabD_nil _)
theorem slices_IndexFuncF_l0_be (v109 : List Nat) (s : Int) : bodyT TT (tabD slices_IndexFuncF_tab) (tabM slices_IndexFuncF_tab) (slices_IndexFuncF_LO v109) 0 slices_IndexFuncF_l0_kill slices_IndexFuncF_l0_nx (bodyOf Try.f236 0) 0 (slices_IndexFuncF_l0_E v109 s) = (slices_IndexFuncF_l0_T v109 s).bind fun y => .leaf (outS (slices_IndexFuncF_l0_E v109) (slices_IndexFuncF_l0_X v109) y) := by kernel_rfl
theorem slices_IndexFuncF_l0_ok (v109 : List Nat) : LSound Try.prog 0 (slices_IndexFuncF_LO v109) 0 (bodyOf Try.f236 0) := by
  intro e L out h
  exact lo_ok (E := slices_IndexFuncF_l0_E v109) (gT := slices_IndexFuncF_l0_T v109) (X := slices_IndexFuncF_l0_X v109) (s0 := (gI (vAt e 8))) tok slices_IndexFuncF_hO mixed (LoopsOk_eq (l := []) (by kernel_rfl) trivial) (slices_IndexFuncF_l0_be v109) rfl (by intro x; (cases x with | inl b => rfl | inr x => exact rfl)) h
noncomputable def slices_IndexFuncF_T (v109 : List Nat) : Tree (Int) :=
  (.need (some (slices_IndexFuncF_l0_E v109 (0 : Int)) = some (slices_IndexFuncF_l0_E v109 (0 : Int))) <|
  (.call (slices_IndexFuncF_l0_g v109 (0 : Int)) fun v119 =>
  (.sum v119 (fun v120 =>
   .leaf v120
  ) (fun v121 =>
   .leaf (-1 : Int)
  ))))

noncomputable def slices_IndexFuncF_g (v109 : List Nat) : Option (Int) := (slices_IndexFuncF_T v109).run
def slices_IndexFuncF_enc (v109 : List Nat) (y : Int) : Rs := (.int .i64 y, [])
theorem slices_IndexFuncF_den (v109 : List Nat) : (den TT (tabD slices_IndexFuncF_tab) (tabM slices_IndexFuncF_tab) (slices_IndexFuncF_LO v109) (codeOf Try.f236) ([.bslc (BR.root 0) (.f32 v109), .fn 194 []] ++ List.replicate (Try.f236.ntmps - ([.bslc (BR.root 0) (.f32 v109), .fn 194 []] : List DV).length) .undef) []).bind (retD TT Try.f236.results.toList 0) = (slices_IndexFuncF_T v109).bind fun y => .leaf (slices_IndexFuncF_enc v109 y) := by kernel_rfl
theorem slices_IndexFuncF_fn (v109 : List Nat) (F : Fr) (hm : F.ids.length = 0) (h0 : St F [] F.H0) (hA : DVs.Ok F [] [.bslc (BR.root 0) (.f32 v109), .fn 194 []]) {y : Int} (hy : slices_IndexFuncF_g v109 = some y) : ∃ H', FnOk Try.prog 236 (DVs.av F [.bslc (BR.root 0) (.f32 v109), .fn 194 []]) F.H0 ((slices_IndexFuncF_enc v109 y).1.av F) H' ∧ St F (slices_IndexFuncF_enc v109 y).2 H' ∧ (slices_IndexFuncF_enc v109 y).1.Ok F (slices_IndexFuncF_enc v109 y).2 :=
  fn_fin tok slices_IndexFuncF_hO mixed Try.func236 Try.call236 (by kernel_rfl) (LoopsOk_eq (l := [(0, bodyOf Try.f236 0)]) (by kernel_rfl) ⟨slices_IndexFuncF_l0_ok v109, trivial⟩) (slices_IndexFuncF_den v109) hy hm h0 hA
noncomputable def slices_IndexFuncF_F : DFn := fun args L =>
  match args with
  | [a1, .fn 194 []] =>
    optT (rowF32 L a1) fun v109 =>
    .call (slices_IndexFuncF_g v109) fun y => .leaf (.int .i64 y, L)
  | _ => .fail
theorem slices_IndexFuncF_Fok : COk Try.prog 236 slices_IndexFuncF_F true := by
  intro F L H args r L' hs ha hr
  unfold slices_IndexFuncF_F at hr
  split at hr
  · rename_i a1
    obtain ⟨v109, hv109, hr⟩ := optT_run hr
    simp only [Tree.run] at hr
    obtain ⟨y, hy, hr⟩ := Option.bind_eq_some_iff.1 hr
    simp only [Tree.run, Option.some.injEq, Prod.mk.injEq] at hr
    obtain ⟨rfl, rfl⟩ := hr
    exact call_ok0 hs (fun k => (([a1.av F] : List AV)[k]?).getD .top) [a1, .fn 194 []] [.bslc (BR.root 0) (.f32 v109), .fn 194 []] (fun F' h0 hi hρ => ⟨by simp [DVs.av, DV.av, BR.av, hρ], slices_IndexFuncF_fn v109 F' (by rw [hi]; rfl) (st_nil hi) ⟨bslc_ok hi (by rw [h0, hρ]; exact rowF32_ok hs (DVs.okAt ha 0 rfl) hv109), trivial, trivial⟩ hy⟩) rfl
  · cases hr
/-! slices.ContainsFunc[list of float32,float32] -/
noncomputable def slices_ContainsFuncF_LO (v108 : List Nat) : LOr := fun id e L =>
  match id with
  | _ => .fail
noncomputable def slices_ContainsFuncF_tab : List (FuncId × DFn × Bool) := [(236, slices_IndexFuncF_F, true)]
theorem slices_ContainsFuncF_hO : OrcOk Try.prog (tabD slices_ContainsFuncF_tab) (tabM slices_ContainsFuncF_tab) := tabD_cons slices_IndexFuncF_Fok (tabD_nil _)
noncomputable def slices_ContainsFuncF_T (v108 : List Nat) : Tree (Bool) :=
  (.call (slices_IndexFuncF_g v108) fun v122 =>
  .leaf (decide ((0 : Int) ≤ v122)))

noncomputable def slices_ContainsFuncF_g (v108 : List Nat) : Option (Bool) := (slices_ContainsFuncF_T v108).run
def slices_ContainsFuncF_enc (v108 : List Nat) (y : Bool) : Rs := (.bool y, [])
theorem slices_ContainsFuncF_den (v108 : List Nat) : (den TT (tabD slices_ContainsFuncF_tab) (tabM slices_ContainsFuncF_tab) (slices_ContainsFuncF_LO v108) (codeOf Try.f193) ([.bslc (BR.root 0) (.f32 v108), .fn 194 []] ++ List.replicate (Try.f193.ntmps - ([.bslc (BR.root 0) (.f32 v108), .fn 194 []] : List DV).length) .undef) []).bind (retD TT Try.f193.results.toList 0) = (slices_ContainsFuncF_T v108).bind fun y => .leaf (slices_ContainsFuncF_enc v108 y) := by kernel_rfl
theorem slices_ContainsFuncF_fn (v108 : List Nat) (F : Fr) (hm : F.ids.length = 0) (h0 : St F [] F.H0) (hA : DVs.Ok F [] [.bslc (BR.root 0) (.f32 v108), .fn 194 []]) {y : Bool} (hy : slices_ContainsFuncF_g v108 = some y) : ∃ H', FnOk Try.prog 193 (DVs.av F [.bslc (BR.root 0) (.f32 v108), .fn 194 []]) F.H0 ((slices_ContainsFuncF_enc v108 y).1.av F) H' ∧ St F (slices_ContainsFuncF_enc v108 y).2 H' ∧ (slices_ContainsFuncF_enc v108 y).1.Ok F (slices_ContainsFuncF_enc v108 y).2 :=
  fn_fin tok slices_ContainsFuncF_hO mixed Try.func193 Try.call193 (by kernel_rfl) (LoopsOk_eq (l := []) (by kernel_rfl) trivial) (slices_ContainsFuncF_den v108) hy hm h0 hA
noncomputable def slices_ContainsFuncF_F : DFn := fun args L =>
  match args with
  | [a1, .fn 194 []] =>
    optT (rowF32 L a1) fun v108 =>
    .call (slices_ContainsFuncF_g v108) fun y => .leaf (.bool y, L)
  | _ => .fail
theorem slices_ContainsFuncF_Fok : COk Try.prog 193 slices_ContainsFuncF_F true := by
  intro F L H args r L' hs ha hr
  unfold slices_ContainsFuncF_F at hr
  split at hr
  · rename_i a1
    obtain ⟨v108, hv108, hr⟩ := optT_run hr
    simp only [Tree.run] at hr
    obtain ⟨y, hy, hr⟩ := Option.bind_eq_some_iff.1 hr
    simp only [Tree.run, Option.some.injEq, Prod.mk.injEq] at hr
    obtain ⟨rfl, rfl⟩ := hr
    exact call_ok0 hs (fun k => (([a1.av F] : List AV)[k]?).getD .top) [a1, .fn 194 []] [.bslc (BR.root 0) (.f32 v108), .fn 194 []] (fun F' h0 hi hρ => ⟨by simp [DVs.av, DV.av, BR.av, hρ], slices_ContainsFuncF_fn v108 F' (by rw [hi]; rfl) (st_nil hi) ⟨bslc_ok hi (by rw [h0, hρ]; exact rowF32_ok hs (DVs.okAt ha 0 rfl) hv108), trivial, trivial⟩ hy⟩) rfl
  · cases hr
/-! impl.areFinite -/
noncomputable def impl_areFinite_LO (v107 : List Nat) : LOr := fun id e L =>
  match id with
  | _ => .fail
noncomputable def impl_areFinite_tab : List (FuncId × DFn × Bool) := [(193, slices_ContainsFuncF_F, true)]
theorem impl_areFinite_hO : OrcOk Try.prog (tabD impl_areFinite_tab) (tabM impl_areFinite_tab) := tabD_cons slices_ContainsFuncF_Fok (tabD_nil _)
noncomputable def impl_areFinite_T (v107 : List Nat) : Tree (Bool) :=
  (.call (slices_ContainsFuncF_g v107) fun v123 =>
  .leaf (!v123))

noncomputable def impl_areFinite_g (v107 : List Nat) : Option (Bool) := (impl_areFinite_T v107).run
def impl_areFinite_enc (v107 : List Nat) (y : Bool) : Rs := (.bool y, [])
theorem impl_areFinite_den (v107 : List Nat) : (den TT (tabD impl_areFinite_tab) (tabM impl_areFinite_tab) (impl_areFinite_LO v107) (codeOf Try.f134) ([.bslc (BR.root 0) (.f32 v107)] ++ List.replicate (Try.f134.ntmps - ([.bslc (BR.root 0) (.f32 v107)] : List DV).length) .undef) []).bind (retD TT Try.f134.results.toList 0) = (impl_areFinite_T v107).bind fun y => .leaf (impl_areFinite_enc v107 y) := by kernel_rfl
theorem impl_areFinite_fn (v107 : List Nat) (F : Fr) (hm : F.ids.length = 0) (h0 : St F [] F.H0) (hA : DVs.Ok F [] [.bslc (BR.root 0) (.f32 v107)]) {y : Bool} (hy : impl_areFinite_g v107 = some y) : ∃ H', FnOk Try.prog 134 (DVs.av F [.bslc (BR.root 0) (.f32 v107)]) F.H0 ((impl_areFinite_enc v107 y).1.av F) H' ∧ St F (impl_areFinite_enc v107 y).2 H' ∧ (impl_areFinite_enc v107 y).1.Ok F (impl_areFinite_enc v107 y).2 :=
  fn_fin tok impl_areFinite_hO mixed Try.func134 Try.call134 (by kernel_rfl) (LoopsOk_eq (l := []) (by kernel_rfl) trivial) (impl_areFinite_den v107) hy hm h0 hA
noncomputable def impl_areFinite_F : DFn := fun args L =>
  match args with
  | [a1] =>
    optT (rowF32 L a1) fun v107 =>
    .call (impl_areFinite_g v107) fun y => .leaf (.bool y, L)
  | _ => .fail
theorem impl_areFinite_Fok : COk Try.prog 134 impl_areFinite_F true := by
  intro F L H args r L' hs ha hr
  unfold impl_areFinite_F at hr
  split at hr
  · rename_i a1
    obtain ⟨v107, hv107, hr⟩ := optT_run hr
    simp only [Tree.run] at hr
    obtain ⟨y, hy, hr⟩ := Option.bind_eq_some_iff.1 hr
    simp only [Tree.run, Option.some.injEq, Prod.mk.injEq] at hr
    obtain ⟨rfl, rfl⟩ := hr
    exact call_ok0 hs (fun k => (([a1.av F] : List AV)[k]?).getD .top) [a1] [.bslc (BR.root 0) (.f32 v107)] (fun F' h0 hi hρ => ⟨by simp [DVs.av, DV.av, BR.av, hρ], impl_areFinite_fn v107 F' (by rw [hi]; rfl) (st_nil hi) ⟨bslc_ok hi (by rw [h0, hρ]; exact rowF32_ok hs (DVs.okAt ha 0 rfl) hv107), trivial⟩ hy⟩) rfl
  · cases hr
/-! impl.isList -/
noncomputable def impl_isList_LO (v101 : List Nat) (v102 : Int) : LOr := fun id e L =>
  match id with
  | _ => .fail
noncomputable def impl_isList_tab : List (FuncId × DFn × Bool) := [(204, impl_lengthF_F, true), (100, impl_inRange_F, true), (134, impl_areFinite_F, true)]
theorem impl_isList_hO : OrcOk Try.prog (tabD impl_isList_tab) (tabM impl_isList_tab) := tabD_cons impl_lengthF_Fok (tabD_cons impl_inRange_Fok (tabD_cons impl_areFinite_Fok (tabD_nil _)))
noncomputable def impl_isList_T (v101 : List Nat) (v102 : Int) : Tree (Bool) :=
  (.br (impl_inRange_v (impl_lengthF_v v101) (1 : Int) v102) (
   (.call (impl_areFinite_g v101) fun v124 =>
   .leaf v124)
  ) (
   .leaf false
  ))

noncomputable def impl_isList_g (v101 : List Nat) (v102 : Int) : Option (Bool) := (impl_isList_T v101 v102).run
def impl_isList_enc (v101 : List Nat) (v102 : Int) (y : Bool) : Rs := (.bool y, [])
theorem impl_isList_den (v101 : List Nat) (v102 : Int) : (den TT (tabD impl_isList_tab) (tabM impl_isList_tab) (impl_isList_LO v101 v102) (codeOf Try.f226) ([.bslc (BR.root 0) (.f32 v101), .int .i64 v102] ++ List.replicate (Try.f226.ntmps - ([.bslc (BR.root 0) (.f32 v101), .int .i64 v102] : List DV).length) .undef) []).bind (retD TT Try.f226.results.toList 0) = (impl_isList_T v101 v102).bind fun y => .leaf (impl_isList_enc v101 v102 y) := by kernel_rfl
theorem impl_isList_fn (v101 : List Nat) (v102 : Int) (F : Fr) (hm : F.ids.length = 0) (h0 : St F [] F.H0) (hA : DVs.Ok F [] [.bslc (BR.root 0) (.f32 v101), .int .i64 v102]) {y : Bool} (hy : impl_isList_g v101 v102 = some y) : ∃ H', FnOk Try.prog 226 (DVs.av F [.bslc (BR.root 0) (.f32 v101), .int .i64 v102]) F.H0 ((impl_isList_enc v101 v102 y).1.av F) H' ∧ St F (impl_isList_enc v101 v102 y).2 H' ∧ (impl_isList_enc v101 v102 y).1.Ok F (impl_isList_enc v101 v102 y).2 :=
  fn_fin tok impl_isList_hO mixed Try.func226 Try.call226 (by kernel_rfl) (LoopsOk_eq (l := []) (by kernel_rfl) trivial) (impl_isList_den v101 v102) hy hm h0 hA
noncomputable def impl_isList_F : DFn := fun args L =>
  match args with
  | [a1, .int .i64 v102] =>
    optT (rowF32 L a1) fun v101 =>
    .call (impl_isList_g v101 v102) fun y => .leaf (.bool y, L)
  | _ => .fail
theorem impl_isList_Fok : COk Try.prog 226 impl_isList_F true := by
  intro F L H args r L' hs ha hr
  unfold impl_isList_F at hr
  split at hr
  · rename_i a1 v102
    obtain ⟨v101, hv101, hr⟩ := optT_run hr
    simp only [Tree.run] at hr
    obtain ⟨y, hy, hr⟩ := Option.bind_eq_some_iff.1 hr
    simp only [Tree.run, Option.some.injEq, Prod.mk.injEq] at hr
    obtain ⟨rfl, rfl⟩ := hr
    exact call_ok0 hs (fun k => (([a1.av F] : List AV)[k]?).getD .top) [a1, .int .i64 v102] [.bslc (BR.root 0) (.f32 v101), .int .i64 v102] (fun F' h0 hi hρ => ⟨by simp [DVs.av, DV.av, BR.av, hρ], impl_isList_fn v101 v102 F' (by rw [hi]; rfl) (st_nil hi) ⟨bslc_ok hi (by rw [h0, hρ]; exact rowF32_ok hs (DVs.okAt ha 0 rfl) hv101), trivial, trivial⟩ hy⟩) rfl
  · cases hr
/-! impl.ValidThirds -/
noncomputable def impl_ValidThirds_LO (v98 : List Nat) (v99 : List Nat) (v100 : List Nat) : LOr := fun id e L =>
  match id with
  | _ => .fail
noncomputable def impl_ValidThirds_tab : List (FuncId × DFn × Bool) := [(226, impl_isList_F, true), (134, impl_areFinite_F, true)]
theorem impl_ValidThirds_hO : OrcOk Try.prog (tabD impl_ValidThirds_tab) (tabM impl_ValidThirds_tab) := tabD_cons impl_isList_Fok (tabD_cons impl_areFinite_Fok (tabD_nil _))
noncomputable def impl_ValidThirds_T (v98 : List Nat) (v99 : List Nat) (v100 : List Nat) : Tree (Bool) :=
  (.call (impl_isList_g v99 (32 : Int)) fun v125 =>
  (.br v125 (
   (.br (decide (((v98.length : Nat) : Int) = ((v99.length : Nat) : Int))) (
    (.br (decide (((v100.length : Nat) : Int) = ((v99.length : Nat) : Int))) (
     (.call (impl_areFinite_g v98) fun v126 =>
     (.br v126 (
      (.call (impl_areFinite_g v100) fun v127 =>
      (.br v127 (
       (.grd (inb (0 : Int) v98.length) <|
       (.br (feq .f32 (nth v98 (Int.toNat (0 : Int))) (0 : Nat)) (
        (.grd (inb (IntKind.i64.wrap (((v99.length : Nat) : Int) - (1 : Int))) v100.length) <|
        .leaf (feq .f32 (nth v100 (Int.toNat (IntKind.i64.wrap (((v99.length : Nat) : Int) - (1 : Int))))) (0 : Nat)))
       ) (
        .leaf false
       )))
      ) (
       .leaf false
      )))
     ) (
      .leaf false
     )))
    ) (
     .leaf false
    ))
   ) (
    .leaf false
   ))
  ) (
   .leaf false
  )))

noncomputable def impl_ValidThirds_g (v98 : List Nat) (v99 : List Nat) (v100 : List Nat) : Option (Bool) := (impl_ValidThirds_T v98 v99 v100).run
def impl_ValidThirds_enc (v98 : List Nat) (v99 : List Nat) (v100 : List Nat) (y : Bool) : Rs := (.bool y, [])
theorem impl_ValidThirds_den (v98 : List Nat) (v99 : List Nat) (v100 : List Nat) : (den TT (tabD impl_ValidThirds_tab) (tabM impl_ValidThirds_tab) (impl_ValidThirds_LO v98 v99 v100) (codeOf Try.f174) ([.agg [.bslc (BR.root 0) (.f32 v98), .bslc (BR.root 1) (.f32 v99), .bslc (BR.root 2) (.f32 v100)]] ++ List.replicate (Try.f174.ntmps - ([.agg [.bslc (BR.root 0) (.f32 v98), .bslc (BR.root 1) (.f32 v99), .bslc (BR.root 2) (.f32 v100)]] : List DV).length) .undef) []).bind (retD TT Try.f174.results.toList 0) = (impl_ValidThirds_T v98 v99 v100).bind fun y => .leaf (impl_ValidThirds_enc v98 v99 v100 y) := by kernel_rfl
theorem impl_ValidThirds_fn (v98 : List Nat) (v99 : List Nat) (v100 : List Nat) (F : Fr) (hm : F.ids.length = 0) (h0 : St F [] F.H0) (hA : DVs.Ok F [] [.agg [.bslc (BR.root 0) (.f32 v98), .bslc (BR.root 1) (.f32 v99), .bslc (BR.root 2) (.f32 v100)]]) {y : Bool} (hy : impl_ValidThirds_g v98 v99 v100 = some y) : ∃ H', FnOk Try.prog 174 (DVs.av F [.agg [.bslc (BR.root 0) (.f32 v98), .bslc (BR.root 1) (.f32 v99), .bslc (BR.root 2) (.f32 v100)]]) F.H0 ((impl_ValidThirds_enc v98 v99 v100 y).1.av F) H' ∧ St F (impl_ValidThirds_enc v98 v99 v100 y).2 H' ∧ (impl_ValidThirds_enc v98 v99 v100 y).1.Ok F (impl_ValidThirds_enc v98 v99 v100 y).2 :=
  fn_fin tok impl_ValidThirds_hO mixed Try.func174 Try.call174 (by kernel_rfl) (LoopsOk_eq (l := []) (by kernel_rfl) trivial) (impl_ValidThirds_den v98 v99 v100) hy hm h0 hA
noncomputable def impl_ValidThirds_F : DFn := fun args L =>
  match args with
  | [.agg [a1, a2, a3]] =>
    optT (rowF32 L a1) fun v98 =>
    optT (rowF32 L a2) fun v99 =>
    optT (rowF32 L a3) fun v100 =>
    .call (impl_ValidThirds_g v98 v99 v100) fun y => .leaf (.bool y, L)
  | _ => .fail
theorem impl_ValidThirds_Fok : COk Try.prog 174 impl_ValidThirds_F true := by
  intro F L H args r L' hs ha hr
  unfold impl_ValidThirds_F at hr
  split at hr
  · rename_i a1 a2 a3
    obtain ⟨v98, hv98, hr⟩ := optT_run hr
    obtain ⟨v99, hv99, hr⟩ := optT_run hr
    obtain ⟨v100, hv100, hr⟩ := optT_run hr
    simp only [Tree.run] at hr
    obtain ⟨y, hy, hr⟩ := Option.bind_eq_some_iff.1 hr
    simp only [Tree.run, Option.some.injEq, Prod.mk.injEq] at hr
    obtain ⟨rfl, rfl⟩ := hr
    exact call_ok0 hs (fun k => (([a1.av F, a2.av F, a3.av F] : List AV)[k]?).getD .top) [.agg [a1, a2, a3]] [.agg [.bslc (BR.root 0) (.f32 v98), .bslc (BR.root 1) (.f32 v99), .bslc (BR.root 2) (.f32 v100)]] (fun F' h0 hi hρ => ⟨by simp [DVs.av, DV.av, BR.av, hρ], impl_ValidThirds_fn v98 v99 v100 F' (by rw [hi]; rfl) (st_nil hi) ⟨⟨bslc_ok hi (by rw [h0, hρ]; exact rowF32_ok hs (DVs.okAt (DVs.okAt ha 0 rfl) 0 rfl) hv98), bslc_ok hi (by rw [h0, hρ]; exact rowF32_ok hs (DVs.okAt (DVs.okAt ha 0 rfl) 1 rfl) hv99), bslc_ok hi (by rw [h0, hρ]; exact rowF32_ok hs (DVs.okAt (DVs.okAt ha 0 rfl) 2 rfl) hv100), trivial⟩, trivial⟩ hy⟩) rfl
  · cases hr
/-! (impl.Thirds).takes -/
noncomputable def impl_Thirds_takes_LO (v94 : List Nat) (v95 : List Nat) (v96 : List Nat) (v97 : List Nat) : LOr := fun id e L =>
  match id with
  | _ => .fail
noncomputable def impl_Thirds_takes_tab : List (FuncId × DFn × Bool) := [(174, impl_ValidThirds_F, true), (134, impl_areFinite_F, true)]
theorem impl_Thirds_takes_hO : OrcOk Try.prog (tabD impl_Thirds_takes_tab) (tabM impl_Thirds_takes_tab) := tabD_cons impl_ValidThirds_Fok (tabD_cons impl_areFinite_Fok (tabD_nil _))
noncomputable def impl_Thirds_takes_T (v94 : List Nat) (v95 : List Nat) (v96 : List Nat) (v97 : List Nat) : Tree (Bool) :=
  (.call (impl_ValidThirds_g v94 v95 v96) fun v128 =>
  (.br v128 (
   (.br (decide (((v97.length : Nat) : Int) = ((v95.length : Nat) : Int))) (
    (.call (impl_areFinite_g v97) fun v129 =>
    .leaf v129)
   ) (
    .leaf false
   ))
  ) (
   .leaf false
  )))

noncomputable def impl_Thirds_takes_g (v94 : List Nat) (v95 : List Nat) (v96 : List Nat) (v97 : List Nat) : Option (Bool) := (impl_Thirds_takes_T v94 v95 v96 v97).run
def impl_Thirds_takes_enc (v94 : List Nat) (v95 : List Nat) (v96 : List Nat) (v97 : List Nat) (y : Bool) : Rs := (.bool y, [])
theorem impl_Thirds_takes_den (v94 : List Nat) (v95 : List Nat) (v96 : List Nat) (v97 : List Nat) : (den TT (tabD impl_Thirds_takes_tab) (tabM impl_Thirds_takes_tab) (impl_Thirds_takes_LO v94 v95 v96 v97) (codeOf Try.f92) ([.agg [.bslc (BR.root 0) (.f32 v94), .bslc (BR.root 1) (.f32 v95), .bslc (BR.root 2) (.f32 v96)], .bslc (BR.root 3) (.f32 v97)] ++ List.replicate (Try.f92.ntmps - ([.agg [.bslc (BR.root 0) (.f32 v94), .bslc (BR.root 1) (.f32 v95), .bslc (BR.root 2) (.f32 v96)], .bslc (BR.root 3) (.f32 v97)] : List DV).length) .undef) []).bind (retD TT Try.f92.results.toList 0) = (impl_Thirds_takes_T v94 v95 v96 v97).bind fun y => .leaf (impl_Thirds_takes_enc v94 v95 v96 v97 y) := by kernel_rfl
theorem impl_Thirds_takes_fn (v94 : List Nat) (v95 : List Nat) (v96 : List Nat) (v97 : List Nat) (F : Fr) (hm : F.ids.length = 0) (h0 : St F [] F.H0) (hA : DVs.Ok F [] [.agg [.bslc (BR.root 0) (.f32 v94), .bslc (BR.root 1) (.f32 v95), .bslc (BR.root 2) (.f32 v96)], .bslc (BR.root 3) (.f32 v97)]) {y : Bool} (hy : impl_Thirds_takes_g v94 v95 v96 v97 = some y) : ∃ H', FnOk Try.prog 92 (DVs.av F [.agg [.bslc (BR.root 0) (.f32 v94), .bslc (BR.root 1) (.f32 v95), .bslc (BR.root 2) (.f32 v96)], .bslc (BR.root 3) (.f32 v97)]) F.H0 ((impl_Thirds_takes_enc v94 v95 v96 v97 y).1.av F) H' ∧ St F (impl_Thirds_takes_enc v94 v95 v96 v97 y).2 H' ∧ (impl_Thirds_takes_enc v94 v95 v96 v97 y).1.Ok F (impl_Thirds_takes_enc v94 v95 v96 v97 y).2 :=
  fn_fin tok impl_Thirds_takes_hO mixed Try.func92 Try.call92 (by kernel_rfl) (LoopsOk_eq (l := []) (by kernel_rfl) trivial) (impl_Thirds_takes_den v94 v95 v96 v97) hy hm h0 hA
noncomputable def impl_Thirds_takes_F : DFn := fun args L =>
  match args with
  | [.agg [a1, a2, a3], a4] =>
    optT (rowF32 L a1) fun v94 =>
    optT (rowF32 L a2) fun v95 =>
    optT (rowF32 L a3) fun v96 =>
    optT (rowF32 L a4) fun v97 =>
    .call (impl_Thirds_takes_g v94 v95 v96 v97) fun y => .leaf (.bool y, L)
  | _ => .fail
theorem impl_Thirds_takes_Fok : COk Try.prog 92 impl_Thirds_takes_F true := by
  intro F L H args r L' hs ha hr
  unfold impl_Thirds_takes_F at hr
  split at hr
  · rename_i a1 a2 a3 a4
    obtain ⟨v94, hv94, hr⟩ := optT_run hr
    obtain ⟨v95, hv95, hr⟩ := optT_run hr
    obtain ⟨v96, hv96, hr⟩ := optT_run hr
    obtain ⟨v97, hv97, hr⟩ := optT_run hr
    simp only [Tree.run] at hr
    obtain ⟨y, hy, hr⟩ := Option.bind_eq_some_iff.1 hr
    simp only [Tree.run, Option.some.injEq, Prod.mk.injEq] at hr
    obtain ⟨rfl, rfl⟩ := hr
    exact call_ok0 hs (fun k => (([a1.av F, a2.av F, a3.av F, a4.av F] : List AV)[k]?).getD .top) [.agg [a1, a2, a3], a4] [.agg [.bslc (BR.root 0) (.f32 v94), .bslc (BR.root 1) (.f32 v95), .bslc (BR.root 2) (.f32 v96)], .bslc (BR.root 3) (.f32 v97)] (fun F' h0 hi hρ => ⟨by simp [DVs.av, DV.av, BR.av, hρ], impl_Thirds_takes_fn v94 v95 v96 v97 F' (by rw [hi]; rfl) (st_nil hi) ⟨⟨bslc_ok hi (by rw [h0, hρ]; exact rowF32_ok hs (DVs.okAt (DVs.okAt ha 0 rfl) 0 rfl) hv94), bslc_ok hi (by rw [h0, hρ]; exact rowF32_ok hs (DVs.okAt (DVs.okAt ha 0 rfl) 1 rfl) hv95), bslc_ok hi (by rw [h0, hρ]; exact rowF32_ok hs (DVs.okAt (DVs.okAt ha 0 rfl) 2 rfl) hv96), trivial⟩, bslc_ok hi (by rw [h0, hρ]; exact rowF32_ok hs (DVs.okAt ha 1 rfl) hv97), trivial⟩ hy⟩) rfl
  · cases hr
/-! slices.Clone[list of float32,float32] -/
noncomputable def slices_CloneF_LO (v131 : List Nat) : LOr := fun id e L =>
  match id with
  | _ => .fail
noncomputable def slices_CloneF_tab : List (FuncId × DFn × Bool) := []
theorem slices_CloneF_hO : OrcOk Try.prog (tabD slices_CloneF_tab) (tabM slices_CloneF_tab) := tabD_nil _
noncomputable def slices_CloneF_T (v131 : List Nat) : Tree (Unit) :=
  (.grd (decide (0 < v131.length)) <|
  (.grd (fits (([] : List Nat) ++ v131).length) <|
  .leaf ()))

noncomputable def slices_CloneF_g (v131 : List Nat) : Option (Unit) := (slices_CloneF_T v131).run
def slices_CloneF_enc (v131 : List Nat) (y : Unit) : Rs := (.own 0 0 ((([] : List Nat) ++ v131).length), [.row (.f32 (([] : List Nat) ++ v131)) 0])
theorem slices_CloneF_den (v131 : List Nat) : (den TT (tabD slices_CloneF_tab) (tabM slices_CloneF_tab) (slices_CloneF_LO v131) (codeOf Try.f93) ([.bslc (BR.root 0) (.f32 v131)] ++ List.replicate (Try.f93.ntmps - ([.bslc (BR.root 0) (.f32 v131)] : List DV).length) .undef) []).bind (retD TT Try.f93.results.toList 0) = (slices_CloneF_T v131).bind fun y => .leaf (slices_CloneF_enc v131 y) := by kernel_rfl
theorem slices_CloneF_fn (v131 : List Nat) (F : Fr) (hm : F.ids.length = 0) (h0 : St F [] F.H0) (hA : DVs.Ok F [] [.bslc (BR.root 0) (.f32 v131)]) {y : Unit} (hy : slices_CloneF_g v131 = some y) : ∃ H', FnOk Try.prog 93 (DVs.av F [.bslc (BR.root 0) (.f32 v131)]) F.H0 ((slices_CloneF_enc v131 y).1.av F) H' ∧ St F (slices_CloneF_enc v131 y).2 H' ∧ (slices_CloneF_enc v131 y).1.Ok F (slices_CloneF_enc v131 y).2 :=
  fn_fin tok slices_CloneF_hO mixed Try.func93 Try.call93 (by kernel_rfl) (LoopsOk_eq (l := []) (by kernel_rfl) trivial) (slices_CloneF_den v131) hy hm h0 hA
noncomputable def slices_CloneF_F : DFn := fun args L =>
  match args with
  | [a1] =>
    optT (rowF32 L a1) fun v131 =>
    .call (slices_CloneF_g v131) fun y => .leaf (.own (L.length + 0) 0 ((([] : List Nat) ++ v131).length), L ++ [.row (.f32 (([] : List Nat) ++ v131)) 0])
  | _ => .fail
theorem slices_CloneF_Fok : COk Try.prog 93 slices_CloneF_F true := by
  intro F L H args r L' hs ha hr
  unfold slices_CloneF_F at hr
  split at hr
  · rename_i a1
    obtain ⟨v131, hv131, hr⟩ := optT_run hr
    simp only [Tree.run] at hr
    obtain ⟨y, hy, hr⟩ := Option.bind_eq_some_iff.1 hr
    simp only [Tree.run, Option.some.injEq, Prod.mk.injEq] at hr
    obtain ⟨rfl, rfl⟩ := hr
    exact call_ok1 hs (fun k => (([a1.av F] : List AV)[k]?).getD .top) [a1] [.bslc (BR.root 0) (.f32 v131)] (fun F' h0 hi hρ => ⟨by simp [DVs.av, DV.av, BR.av, hρ], slices_CloneF_fn v131 F' (by rw [hi]; rfl) (st_nil hi) ⟨bslc_ok hi (by rw [h0, hρ]; exact rowF32_ok hs (DVs.okAt ha 0 rfl) hv131), trivial⟩ hy⟩) rfl rfl
  · cases hr
/-! impl.mul -/
noncomputable def impl_mul_LO (v135 : Nat) (v136 : Nat) : LOr := fun id e L =>
  match id with
  | _ => .fail
noncomputable def impl_mul_tab : List (FuncId × DFn × Bool) := []
theorem impl_mul_hO : OrcOk Try.prog (tabD impl_mul_tab) (tabM impl_mul_tab) := tabD_nil _
noncomputable def impl_mul_T (v135 : Nat) (v136 : Nat) : Tree (Nat) :=
  .leaf (fmul .f32 v135 v136)

noncomputable def impl_mul_g (v135 : Nat) (v136 : Nat) : Option (Nat) := (impl_mul_T v135 v136).run
def impl_mul_enc (v135 : Nat) (v136 : Nat) (y : Nat) : Rs := (.flt .f32 y, [])
theorem impl_mul_den (v135 : Nat) (v136 : Nat) : (den TT (tabD impl_mul_tab) (tabM impl_mul_tab) (impl_mul_LO v135 v136) (codeOf Try.f94) ([.flt .f32 v135, .flt .f32 v136] ++ List.replicate (Try.f94.ntmps - ([.flt .f32 v135, .flt .f32 v136] : List DV).length) .undef) []).bind (retD TT Try.f94.results.toList 0) = (impl_mul_T v135 v136).bind fun y => .leaf (impl_mul_enc v135 v136 y) := by kernel_rfl
theorem impl_mul_fn (v135 : Nat) (v136 : Nat) (F : Fr) (hm : F.ids.length = 0) (h0 : St F [] F.H0) (hA : DVs.Ok F [] [.flt .f32 v135, .flt .f32 v136]) {y : Nat} (hy : impl_mul_g v135 v136 = some y) : ∃ H', FnOk Try.prog 94 (DVs.av F [.flt .f32 v135, .flt .f32 v136]) F.H0 ((impl_mul_enc v135 v136 y).1.av F) H' ∧ St F (impl_mul_enc v135 v136 y).2 H' ∧ (impl_mul_enc v135 v136 y).1.Ok F (impl_mul_enc v135 v136 y).2 :=
  fn_fin tok impl_mul_hO mixed Try.func94 Try.call94 (by kernel_rfl) (LoopsOk_eq (l := []) (by kernel_rfl) trivial) (impl_mul_den v135 v136) hy hm h0 hA
def impl_mul_v (v135 : Nat) (v136 : Nat) : Nat :=
  fmul .f32 v135 v136
theorem impl_mul_tot (v135 : Nat) (v136 : Nat) : impl_mul_g v135 v136 = some (impl_mul_v v135 v136) := by
  unfold impl_mul_g impl_mul_T impl_mul_v
  simp only [Tree.run]
  repeat' (first | rfl | split)
noncomputable def impl_mul_F : DFn := fun args L =>
  match args with
  | [.flt .f32 v135, .flt .f32 v136] =>
    .leaf (.flt .f32 (impl_mul_v v135 v136), L)
  | _ => .fail
theorem impl_mul_Fok : COk Try.prog 94 impl_mul_F true := by
  intro F L H args r L' hs ha hr
  unfold impl_mul_F at hr
  split at hr
  · rename_i v135 v136
    have hy := impl_mul_tot v135 v136
    generalize impl_mul_v v135 v136 = y at hy hr
    simp only [Tree.run, Option.some.injEq, Prod.mk.injEq] at hr
    obtain ⟨rfl, rfl⟩ := hr
    exact call_ok0 hs (fun k => (([] : List AV)[k]?).getD .top) [.flt .f32 v135, .flt .f32 v136] [.flt .f32 v135, .flt .f32 v136] (fun F' h0 hi hρ => ⟨by simp [DVs.av, DV.av, BR.av, hρ], impl_mul_fn v135 v136 F' (by rw [hi]; rfl) (st_nil hi) ⟨trivial, trivial, trivial⟩ hy⟩) rfl
  · cases hr
/-! slices.Index[list of float32,float32] -/
noncomputable def slices_IndexF_l0_T (v146 : List Nat) (v147 : Nat) (s : Int) : Tree ((Int) ⊕ ((Int) ⊕ (Unit))) :=
  (.br (decide (s < ((v146.length : Nat) : Int))) (
   (.grd (inb s v146.length) <|
   (.br (feq .f32 v147 (nth v146 (Int.toNat s))) (
    .leaf (.inr (.inl s))
   ) (
    .leaf (.inl (IntKind.i64.wrap (s + (1 : Int))))
   )))
  ) (
   .leaf (.inr (.inr ()))
  ))

noncomputable def slices_IndexF_l0_g (v146 : List Nat) (v147 : Nat) (s0 : Int) : Option ((Int) ⊕ (Unit)) := whileM (fun s => (slices_IndexF_l0_T v146 v147 s).run) s0
def slices_IndexF_l0_E (v146 : List Nat) (v147 : Nat) (s : Int) : Sd := ([.bslc (BR.root 0) (.f32 v146), .flt .f32 v147, .top, .top, .top, .top, .top, .int .i64 ((v146.length : Nat) : Int), .int .i64 s, .top, .top, .top, .top, .top, .top, .top, .top, .top, .top], [])
def slices_IndexF_l0_X (v146 : List Nat) (v147 : Nat) (x : (Int) ⊕ (Unit)) : Out := (match x with | .inl x => (.ret, [.top, .top, .top, .top, .int .i64 x, .top, .top, .top, .top, .top, .top, .top, .top, .top, .top, .top, .top, .top, .top], []) | .inr x => (.normal, [.top, .top, .top, .top, .top, .top, .top, .top, .top, .top, .top, .top, .top, .top, .top, .top, .top, .top, .top], []))
def slices_IndexF_l0_kill : List Nat := [0, 0, 1, 1, 1, 1, 1, 0, 0, 1, 1, 1, 1, 1, 1, 1, 1, 1, 1]
def slices_IndexF_l0_nx : Exit → List Nat
  | .exit 0 => [1, 1, 1, 1, 1, 1, 1, 1, 1, 1, 1, 1, 1, 1, 1, 1, 1, 1, 1]
  | .ret => [1, 1, 1, 1, 0, 1, 1, 1, 1, 1, 1, 1, 1, 1, 1, 1, 1, 1, 1]
  | _ => []
noncomputable def slices_IndexF_LO (v146 : List Nat) (v147 : Nat) : LOr := fun id e L =>
  match id with
  | 0 => .need (normA 0 slices_IndexF_l0_kill e L = some (slices_IndexF_l0_E v146 v147 (gI (vAt e 8)))) (.call (slices_IndexF_l0_g v146 v147 (gI (vAt e 8))) fun x => .sum x (fun b0 => .leaf (slices_IndexF_l0_X v146 v147 (.inl b0))) (fun c0 => .leaf (slices_IndexF_l0_X v146 v147 (.inr c0))))
  | _ => .fail
noncomputable def slices_IndexF_tab : List (FuncId × DFn × Bool) := []
theorem slices_IndexF_hO : OrcOk Try.prog (tabD slices_IndexF_tab) (tabM slices_IndexF_tab) := tabD_nil _
theorem slices_IndexF_l0_be (v146 : List Nat) (v147 : Nat) (s : Int) : bodyT TT (tabD slices_IndexF_tab) (tabM slices_IndexF_tab) (slices_IndexF_LO v146 v147) 0 slices_IndexF_l0_kill slices_IndexF_l0_nx (bodyOf Try.f175 0) 0 (slices_IndexF_l0_E v146 v147 s) = (slices_IndexF_l0_T v146 v147 s).bind fun y => .leaf (outS (slices_IndexF_l0_E v146 v147) (slices_IndexF_l0_X v146 v147) y) := by kernel_rfl
theorem slices_IndexF_l0_ok (v146 : List Nat) (v147 : Nat) : LSound Try.prog 0 (slices_IndexF_LO v146 v147) 0 (bodyOf Try.f175 0) := by
  intro e L out h
  exact lo_ok (E := slices_IndexF_l0_E v146 v147) (gT := slices_IndexF_l0_T v146 v147) (X := slices_IndexF_l0_X v146 v147) (s0 := (gI (vAt e 8))) tok slices_IndexF_hO mixed (LoopsOk_eq (l := []) (by kernel_rfl) trivial) (slices_IndexF_l0_be v146 v147) rfl (by intro x; (cases x with | inl b => rfl | inr x => exact rfl)) h
noncomputable def slices_IndexF_T (v146 : List Nat) (v147 : Nat) : Tree (Int) :=
  (.need (some (slices_IndexF_l0_E v146 v147 (0 : Int)) = some (slices_IndexF_l0_E v146 v147 (0 : Int))) <|
  (.call (slices_IndexF_l0_g v146 v147 (0 : Int)) fun v151 =>
  (.sum v151 (fun v152 =>
   .leaf v152
  ) (fun v153 =>
   .leaf (-1 : Int)
  ))))

noncomputable def slices_IndexF_g (v146 : List Nat) (v147 : Nat) : Option (Int) := (slices_IndexF_T v146 v147).run
def slices_IndexF_enc (v146 : List Nat) (v147 : Nat) (y : Int) : Rs := (.int .i64 y, [])
theorem slices_IndexF_den (v146 : List Nat) (v147 : Nat) : (den TT (tabD slices_IndexF_tab) (tabM slices_IndexF_tab) (slices_IndexF_LO v146 v147) (codeOf Try.f175) ([.bslc (BR.root 0) (.f32 v146), .flt .f32 v147] ++ List.replicate (Try.f175.ntmps - ([.bslc (BR.root 0) (.f32 v146), .flt .f32 v147] : List DV).length) .undef) []).bind (retD TT Try.f175.results.toList 0) = (slices_IndexF_T v146 v147).bind fun y => .leaf (slices_IndexF_enc v146 v147 y) := by kernel_rfl
theorem slices_IndexF_fn (v146 : List Nat) (v147 : Nat) (F : Fr) (hm : F.ids.length = 0) (h0 : St F [] F.H0) (hA : DVs.Ok F [] [.bslc (BR.root 0) (.f32 v146), .flt .f32 v147]) {y : Int} (hy : slices_IndexF_g v146 v147 = some y) : ∃ H', FnOk Try.prog 175 (DVs.av F [.bslc (BR.root 0) (.f32 v146), .flt .f32 v147]) F.H0 ((slices_IndexF_enc v146 v147 y).1.av F) H' ∧ St F (slices_IndexF_enc v146 v147 y).2 H' ∧ (slices_IndexF_enc v146 v147 y).1.Ok F (slices_IndexF_enc v146 v147 y).2 :=
  fn_fin tok slices_IndexF_hO mixed Try.func175 Try.call175 (by kernel_rfl) (LoopsOk_eq (l := [(0, bodyOf Try.f175 0)]) (by kernel_rfl) ⟨slices_IndexF_l0_ok v146 v147, trivial⟩) (slices_IndexF_den v146 v147) hy hm h0 hA
noncomputable def slices_IndexF_F : DFn := fun args L =>
  match args with
  | [a1, .flt .f32 v147] =>
    optT (rowF32 L a1) fun v146 =>
    .call (slices_IndexF_g v146 v147) fun y => .leaf (.int .i64 y, L)
  | _ => .fail
theorem slices_IndexF_Fok : COk Try.prog 175 slices_IndexF_F true := by
  intro F L H args r L' hs ha hr
  unfold slices_IndexF_F at hr
  split at hr
  · rename_i a1 v147
    obtain ⟨v146, hv146, hr⟩ := optT_run hr
    simp only [Tree.run] at hr
    obtain ⟨y, hy, hr⟩ := Option.bind_eq_some_iff.1 hr
    simp only [Tree.run, Option.some.injEq, Prod.mk.injEq] at hr
    obtain ⟨rfl, rfl⟩ := hr
    exact call_ok0 hs (fun k => (([a1.av F] : List AV)[k]?).getD .top) [a1, .flt .f32 v147] [.bslc (BR.root 0) (.f32 v146), .flt .f32 v147] (fun F' h0 hi hρ => ⟨by simp [DVs.av, DV.av, BR.av, hρ], slices_IndexF_fn v146 v147 F' (by rw [hi]; rfl) (st_nil hi) ⟨bslc_ok hi (by rw [h0, hρ]; exact rowF32_ok hs (DVs.okAt ha 0 rfl) hv146), trivial, trivial⟩ hy⟩) rfl
  · cases hr
/-! slices.Contains[list of float32,float32] -/
noncomputable def slices_ContainsF_LO (v144 : List Nat) (v145 : Nat) : LOr := fun id e L =>
  match id with
  | _ => .fail
noncomputable def slices_ContainsF_tab : List (FuncId × DFn × Bool) := [(175, slices_IndexF_F, true)]
theorem slices_ContainsF_hO : OrcOk Try.prog (tabD slices_ContainsF_tab) (tabM slices_ContainsF_tab) := tabD_cons slices_IndexF_Fok (tabD_nil _)
noncomputable def slices_ContainsF_T (v144 : List Nat) (v145 : Nat) : Tree (Bool) :=
  (.call (slices_IndexF_g v144 v145) fun v154 =>
  .leaf (decide ((0 : Int) ≤ v154)))

noncomputable def slices_ContainsF_g (v144 : List Nat) (v145 : Nat) : Option (Bool) := (slices_ContainsF_T v144 v145).run
def slices_ContainsF_enc (v144 : List Nat) (v145 : Nat) (y : Bool) : Rs := (.bool y, [])
theorem slices_ContainsF_den (v144 : List Nat) (v145 : Nat) : (den TT (tabD slices_ContainsF_tab) (tabM slices_ContainsF_tab) (slices_ContainsF_LO v144 v145) (codeOf Try.f95) ([.bslc (BR.root 0) (.f32 v144), .flt .f32 v145] ++ List.replicate (Try.f95.ntmps - ([.bslc (BR.root 0) (.f32 v144), .flt .f32 v145] : List DV).length) .undef) []).bind (retD TT Try.f95.results.toList 0) = (slices_ContainsF_T v144 v145).bind fun y => .leaf (slices_ContainsF_enc v144 v145 y) := by kernel_rfl
theorem slices_ContainsF_fn (v144 : List Nat) (v145 : Nat) (F : Fr) (hm : F.ids.length = 0) (h0 : St F [] F.H0) (hA : DVs.Ok F [] [.bslc (BR.root 0) (.f32 v144), .flt .f32 v145]) {y : Bool} (hy : slices_ContainsF_g v144 v145 = some y) : ∃ H', FnOk Try.prog 95 (DVs.av F [.bslc (BR.root 0) (.f32 v144), .flt .f32 v145]) F.H0 ((slices_ContainsF_enc v144 v145 y).1.av F) H' ∧ St F (slices_ContainsF_enc v144 v145 y).2 H' ∧ (slices_ContainsF_enc v144 v145 y).1.Ok F (slices_ContainsF_enc v144 v145 y).2 :=
  fn_fin tok slices_ContainsF_hO mixed Try.func95 Try.call95 (by kernel_rfl) (LoopsOk_eq (l := []) (by kernel_rfl) trivial) (slices_ContainsF_den v144 v145) hy hm h0 hA
noncomputable def slices_ContainsF_F : DFn := fun args L =>
  match args with
  | [a1, .flt .f32 v145] =>
    optT (rowF32 L a1) fun v144 =>
    .call (slices_ContainsF_g v144 v145) fun y => .leaf (.bool y, L)
  | _ => .fail
theorem slices_ContainsF_Fok : COk Try.prog 95 slices_ContainsF_F true := by
  intro F L H args r L' hs ha hr
  unfold slices_ContainsF_F at hr
  split at hr
  · rename_i a1 v145
    obtain ⟨v144, hv144, hr⟩ := optT_run hr
    simp only [Tree.run] at hr
    obtain ⟨y, hy, hr⟩ := Option.bind_eq_some_iff.1 hr
    simp only [Tree.run, Option.some.injEq, Prod.mk.injEq] at hr
    obtain ⟨rfl, rfl⟩ := hr
    exact call_ok0 hs (fun k => (([a1.av F] : List AV)[k]?).getD .top) [a1, .flt .f32 v145] [.bslc (BR.root 0) (.f32 v144), .flt .f32 v145] (fun F' h0 hi hρ => ⟨by simp [DVs.av, DV.av, BR.av, hρ], slices_ContainsF_fn v144 v145 F' (by rw [hi]; rfl) (st_nil hi) ⟨bslc_ok hi (by rw [h0, hρ]; exact rowF32_ok hs (DVs.okAt ha 0 rfl) hv144), trivial, trivial⟩ hy⟩) rfl
  · cases hr
/-! impl.allFinite -/
noncomputable def impl_allFinite_LO (v166 : List Nat) : LOr := fun id e L =>
  match id with
  | _ => .fail
noncomputable def impl_allFinite_tab : List (FuncId × DFn × Bool) := [(134, impl_areFinite_F, true)]
theorem impl_allFinite_hO : OrcOk Try.prog (tabD impl_allFinite_tab) (tabM impl_allFinite_tab) := tabD_cons impl_areFinite_Fok (tabD_nil _)
noncomputable def impl_allFinite_T (v166 : List Nat) : Tree ((Unit) ⊕ (Unit)) :=
  (.call (impl_areFinite_g v166) fun v167 =>
  (.br (!v167) (
   .leaf (.inl ())
  ) (
   .leaf (.inr ())
  )))

noncomputable def impl_allFinite_g (v166 : List Nat) : Option ((Unit) ⊕ (Unit)) := (impl_allFinite_T v166).run
def impl_allFinite_enc (v166 : List Nat) (y : (Unit) ⊕ (Unit)) : Rs := (match y with | .inl y => (.tup [.nilslc, .lit false], []) | .inr y => (.tup [.bslc (BR.root 0) (.f32 v166), .lit true], []))
theorem impl_allFinite_den (v166 : List Nat) : (den TT (tabD impl_allFinite_tab) (tabM impl_allFinite_tab) (impl_allFinite_LO v166) (codeOf Try.f96) ([.bslc (BR.root 0) (.f32 v166)] ++ List.replicate (Try.f96.ntmps - ([.bslc (BR.root 0) (.f32 v166)] : List DV).length) .undef) []).bind (retD TT Try.f96.results.toList 0) = (impl_allFinite_T v166).bind fun y => .leaf (impl_allFinite_enc v166 y) := by kernel_rfl
theorem impl_allFinite_fn (v166 : List Nat) (F : Fr) (hm : F.ids.length = 0) (h0 : St F [] F.H0) (hA : DVs.Ok F [] [.bslc (BR.root 0) (.f32 v166)]) {y : (Unit) ⊕ (Unit)} (hy : impl_allFinite_g v166 = some y) : ∃ H', FnOk Try.prog 96 (DVs.av F [.bslc (BR.root 0) (.f32 v166)]) F.H0 ((impl_allFinite_enc v166 y).1.av F) H' ∧ St F (impl_allFinite_enc v166 y).2 H' ∧ (impl_allFinite_enc v166 y).1.Ok F (impl_allFinite_enc v166 y).2 :=
  fn_fin tok impl_allFinite_hO mixed Try.func96 Try.call96 (by kernel_rfl) (LoopsOk_eq (l := []) (by kernel_rfl) trivial) (impl_allFinite_den v166) hy hm h0 hA
noncomputable def impl_allFinite_F : DFn := fun args L =>
  match args with
  | [a1] =>
    optT (rowF32 L a1) fun v166 =>
    .call (impl_allFinite_g v166) fun y => .sum y (fun y0 => .leaf (.tup [.nilslc, .lit false], L)) (fun z0 => .leaf (.tup [a1, .lit true], L))
  | _ => .fail
theorem impl_allFinite_Fok : COk Try.prog 96 impl_allFinite_F true := by
  intro F L H args r L' hs ha hr
  unfold impl_allFinite_F at hr
  split at hr
  · rename_i a1
    obtain ⟨v166, hv166, hr⟩ := optT_run hr
    simp only [Tree.run] at hr
    obtain ⟨y, hy, hr⟩ := Option.bind_eq_some_iff.1 hr
    cases y with
    | inl y =>
      simp only [Tree.run, Option.some.injEq, Prod.mk.injEq] at hr
      obtain ⟨rfl, rfl⟩ := hr
      exact call_ok0 hs (fun k => (([a1.av F] : List AV)[k]?).getD .top) [a1] [.bslc (BR.root 0) (.f32 v166)] (fun F' h0 hi hρ => ⟨by simp [DVs.av, DV.av, BR.av, hρ], impl_allFinite_fn v166 F' (by rw [hi]; rfl) (st_nil hi) ⟨bslc_ok hi (by rw [h0, hρ]; exact rowF32_ok hs (DVs.okAt ha 0 rfl) hv166), trivial⟩ hy⟩) rfl
    | inr y =>
      simp only [Tree.run, Option.some.injEq, Prod.mk.injEq] at hr
      obtain ⟨rfl, rfl⟩ := hr
      exact call_al0 hs (fun k => (([a1.av F] : List AV)[k]?).getD .top) [a1] [.bslc (BR.root 0) (.f32 v166)] (fun F' h0 hi hρ => ⟨by simp [DVs.av, DV.av, BR.av, hρ], impl_allFinite_fn v166 F' (by rw [hi]; rfl) (st_nil hi) ⟨bslc_ok hi (by rw [h0, hρ]; exact rowF32_ok hs (DVs.okAt ha 0 rfl) hv166), trivial⟩ hy⟩) (fun F' h0 hi hρ => by simp [impl_allFinite_enc, DVs.av, DV.av, BR.av, hρ]) ⟨(DVs.okAt ha 0 rfl), trivial, trivial⟩
  · cases hr
/-! impl.ThirdsSolve -/
noncomputable def impl_ThirdsSolve_l0_T (v90 : List Nat) (v92 : List Nat) (v93 : List Nat) (s : Int × (List Nat) × (List Nat)) : Tree ((Int × (List Nat) × (List Nat)) ⊕ ((List Nat) × (List Nat))) :=
  (.br (decide (s.1 < ((v93.length : Nat) : Int))) (
   (.grd (inb s.1 v90.length) <|
   (.grd (inb (IntKind.i64.wrap (s.1 - (1 : Int))) ((s.2.1).length)) <|
   (.grd (inb s.1 ((s.2.1).length)) <|
   (.grd (inb (IntKind.i64.wrap (s.1 - (1 : Int))) v92.length) <|
   (.grd (inb s.1 ((s.2.1).length)) <|
   (.grd (inb s.1 ((s.2.2).length)) <|
   (.grd (inb (IntKind.i64.wrap (s.1 - (1 : Int))) ((s.2.2).length)) <|
   (.grd (inb s.1 ((s.2.2).length)) <|
   .leaf (.inl (IntKind.i64.wrap (s.1 + (1 : Int)), List.set s.2.1 (Int.toNat s.1) (fsub .f32 (nth s.2.1 (Int.toNat s.1)) (impl_mul_v (fdiv .f32 (nth v90 (Int.toNat s.1)) (nth s.2.1 (Int.toNat (IntKind.i64.wrap (s.1 - (1 : Int)))))) (nth v92 (Int.toNat (IntKind.i64.wrap (s.1 - (1 : Int))))))), List.set s.2.2 (Int.toNat s.1) (fsub .f32 (nth s.2.2 (Int.toNat s.1)) (impl_mul_v (fdiv .f32 (nth v90 (Int.toNat s.1)) (nth s.2.1 (Int.toNat (IntKind.i64.wrap (s.1 - (1 : Int)))))) (nth s.2.2 (Int.toNat (IntKind.i64.wrap (s.1 - (1 : Int)))))))))))))))))
  ) (
   .leaf (.inr (s.2.1, s.2.2))
  ))

noncomputable def impl_ThirdsSolve_l0_g (v90 : List Nat) (v92 : List Nat) (v93 : List Nat) (s0 : Int × (List Nat) × (List Nat)) : Option ((List Nat) × (List Nat)) := whileM (fun s => (impl_ThirdsSolve_l0_T v90 v92 v93 s).run) s0
def impl_ThirdsSolve_l0_E (v90 : List Nat) (v91 : List Nat) (v92 : List Nat) (v93 : List Nat) (s : Int × (List Nat) × (List Nat)) : Sd := ([.top, .top, .ptr 0 (0 : Nat) 0 (3 : Nat), .top, .top, .top, .own 1 0 ((s.2.1).length), .own 2 0 ((s.2.2).length), .int .i64 ((v93.length : Nat) : Int), .int .i64 s.1, .top, .top, .top, .top, .top, .top, .top, .top, .top, .top, .top, .top, .top, .top, .top, .top, .top, .top, .top, .top, .top, .top, .top, .top, .top, .top, .top, .top, .top, .top, .top, .top, .top, .top, .top, .top, .top, .top, .top, .top, .top, .top, .top, .top, .top, .top, .top, .top, .top, .top, .top, .top, .top, .top, .top, .top, .top, .top, .top, .top, .top, .top, .top, .top, .top, .top, .top, .top, .top, .top, .top, .top, .top, .top, .top, .top, .top, .top, .top, .top, .top, .top, .top, .top, .top, .top, .top, .top, .top, .top, .top, .top, .top, .top, .top, .top, .top, .top, .top], [.gen [.bslc (BR.root 0) (.f32 v90), .bslc (BR.root 1) (.f32 v91), .bslc (BR.root 2) (.f32 v92)] false 0, .row (.f32 s.2.1) 0, .row (.f32 s.2.2) 0])
def impl_ThirdsSolve_l0_X (v90 : List Nat) (v91 : List Nat) (v92 : List Nat) (v93 : List Nat) (x : (List Nat) × (List Nat)) : Out := (.normal, [.top, .top, .ptr 0 (0 : Nat) 0 (3 : Nat), .top, .top, .top, .own 1 0 ((x.1).length), .own 2 0 ((x.2).length), .int .i64 ((v93.length : Nat) : Int), .top, .top, .top, .top, .top, .top, .top, .top, .top, .top, .top, .top, .top, .top, .top, .top, .top, .top, .top, .top, .top, .top, .top, .top, .top, .top, .top, .top, .top, .top, .top, .top, .top, .top, .top, .top, .top, .top, .top, .top, .top, .top, .top, .top, .top, .top, .top, .top, .top, .top, .top, .top, .top, .top, .top, .top, .top, .top, .top, .top, .top, .top, .top, .top, .top, .top, .top, .top, .top, .top, .top, .top, .top, .top, .top, .top, .top, .top, .top, .top, .top, .top, .top, .top, .top, .top, .top, .top, .top, .top, .top, .top, .top, .top, .top, .top, .top, .top, .top, .top], [.gen [.bslc (BR.root 0) (.f32 v90), .bslc (BR.root 1) (.f32 v91), .bslc (BR.root 2) (.f32 v92)] false 0, .row (.f32 x.1) 0, .row (.f32 x.2) 0])
def impl_ThirdsSolve_l0_kill : List Nat := [1, 1, 0, 1, 1, 1, 0, 0, 0, 0, 1, 1, 1, 1, 1, 1, 1, 1, 1, 1, 1, 1, 1, 1, 1, 1, 1, 1, 1, 1, 1, 1, 1, 1, 1, 1, 1, 1, 1, 1, 1, 1, 1, 1, 1, 1, 1, 1, 1, 1, 1, 1, 1, 1, 1, 1, 1, 1, 1, 1, 1, 1, 1, 1, 1, 1, 1, 1, 1, 1, 1, 1, 1, 1, 1, 1, 1, 1, 1, 1, 1, 1, 1, 1, 1, 1, 1, 1, 1, 1, 1, 1, 1, 1, 1, 1, 1, 1, 1, 1, 1, 1, 1, 1, 1, 1, 1, 1, 1]
def impl_ThirdsSolve_l0_nx : Exit → List Nat
  | .exit 0 => [1, 1, 0, 1, 1, 1, 0, 0, 0, 1, 1, 1, 1, 1, 1, 1, 1, 1, 1, 1, 1, 1, 1, 1, 1, 1, 1, 1, 1, 1, 1, 1, 1, 1, 1, 1, 1, 1, 1, 1, 1, 1, 1, 1, 1, 1, 1, 1, 1, 1, 1, 1, 1, 1, 1, 1, 1, 1, 1, 1, 1, 1, 1, 1, 1, 1, 1, 1, 1, 1, 1, 1, 1, 1, 1, 1, 1, 1, 1, 1, 1, 1, 1, 1, 1, 1, 1, 1, 1, 1, 1, 1, 1, 1, 1, 1, 1, 1, 1, 1, 1, 1, 1, 1, 1, 1, 1, 1, 1]
  | .ret => [1, 1, 1, 1, 0, 0, 1, 1, 1, 1, 1, 1, 1, 1, 1, 1, 1, 1, 1, 1, 1, 1, 1, 1, 1, 1, 1, 1, 1, 1, 1, 1, 1, 1, 1, 1, 1, 1, 1, 1, 1, 1, 1, 1, 1, 1, 1, 1, 1, 1, 1, 1, 1, 1, 1, 1, 1, 1, 1, 1, 1, 1, 1, 1, 1, 1, 1, 1, 1, 1, 1, 1, 1, 1, 1, 1, 1, 1, 1, 1, 1, 1, 1, 1, 1, 1, 1, 1, 1, 1, 1, 1, 1, 1, 1, 1, 1, 1, 1, 1, 1, 1, 1, 1, 1, 1, 1, 1, 1]
  | _ => []
noncomputable def impl_ThirdsSolve_l2_T (v92 : List Nat) (v93 : List Nat) (v163 : List Nat) (s : Int × (List Nat)) : Tree ((Int × (List Nat)) ⊕ ((List Nat))) :=
  (.br (decide ((0 : Int) ≤ s.1)) (
   (.br (decide (IntKind.i64.wrap (s.1 + (1 : Int)) < ((v93.length : Nat) : Int))) (
    (.grd (inb s.1 ((s.2).length)) <|
    (.grd (inb s.1 v92.length) <|
    (.grd (inb (IntKind.i64.wrap (s.1 + (1 : Int))) ((s.2).length)) <|
    (.grd (inb s.1 ((s.2).length)) <|
    (.grd (inb s.1 ((s.2).length)) <|
    (.grd (inb s.1 ((v163).length)) <|
    (.grd (inb s.1 ((s.2).length)) <|
    .leaf (.inl (IntKind.i64.wrap (s.1 - (1 : Int)), List.set (List.set s.2 (Int.toNat s.1) (fsub .f32 (nth s.2 (Int.toNat s.1)) (impl_mul_v (nth v92 (Int.toNat s.1)) (nth s.2 (Int.toNat (IntKind.i64.wrap (s.1 + (1 : Int)))))))) (Int.toNat s.1) (fdiv .f32 (nth (List.set s.2 (Int.toNat s.1) (fsub .f32 (nth s.2 (Int.toNat s.1)) (impl_mul_v (nth v92 (Int.toNat s.1)) (nth s.2 (Int.toNat (IntKind.i64.wrap (s.1 + (1 : Int)))))))) (Int.toNat s.1)) (nth v163 (Int.toNat s.1))))))))))))
   ) (
    (.grd (inb s.1 ((s.2).length)) <|
    (.grd (inb s.1 ((v163).length)) <|
    (.grd (inb s.1 ((s.2).length)) <|
    .leaf (.inl (IntKind.i64.wrap (s.1 - (1 : Int)), List.set s.2 (Int.toNat s.1) (fdiv .f32 (nth s.2 (Int.toNat s.1)) (nth v163 (Int.toNat s.1))))))))
   ))
  ) (
   .leaf (.inr s.2)
  ))

noncomputable def impl_ThirdsSolve_l2_g (v92 : List Nat) (v93 : List Nat) (v163 : List Nat) (s0 : Int × (List Nat)) : Option ((List Nat)) := whileM (fun s => (impl_ThirdsSolve_l2_T v92 v93 v163 s).run) s0
def impl_ThirdsSolve_l2_E (v90 : List Nat) (v91 : List Nat) (v92 : List Nat) (v93 : List Nat) (v163 : List Nat) (s : Int × (List Nat)) : Sd := ([.top, .top, .ptr 0 (0 : Nat) 0 (3 : Nat), .top, .top, .top, .own 1 0 ((v163).length), .own 2 0 ((s.2).length), .int .i64 ((v93.length : Nat) : Int), .top, .top, .int .i64 s.1, .top, .top, .top, .top, .top, .top, .top, .top, .top, .top, .top, .top, .top, .top, .top, .top, .top, .top, .top, .top, .top, .top, .top, .top, .top, .top, .top, .top, .top, .top, .top, .top, .top, .top, .top, .top, .top, .top, .top, .top, .top, .top, .top, .top, .top, .top, .top, .top, .top, .top, .top, .top, .top, .top, .top, .top, .top, .top, .top, .top, .top, .top, .top, .top, .top, .top, .top, .top, .top, .top, .top, .top, .top, .top, .top, .top, .top, .top, .top, .top, .top, .top, .top, .top, .top, .top, .top, .top, .top, .top, .top, .top, .top, .top, .top, .top, .top], [.gen [.bslc (BR.root 0) (.f32 v90), .bslc (BR.root 1) (.f32 v91), .bslc (BR.root 2) (.f32 v92)] false 0, .row (.f32 v163) 0, .row (.f32 s.2) 0])
def impl_ThirdsSolve_l2_X (v90 : List Nat) (v91 : List Nat) (v92 : List Nat) (v93 : List Nat) (v163 : List Nat) (x : (List Nat)) : Out := (.normal, [.top, .top, .top, .top, .top, .top, .top, .own 0 0 ((x).length), .top, .top, .top, .top, .top, .top, .top, .top, .top, .top, .top, .top, .top, .top, .top, .top, .top, .top, .top, .top, .top, .top, .top, .top, .top, .top, .top, .top, .top, .top, .top, .top, .top, .top, .top, .top, .top, .top, .top, .top, .top, .top, .top, .top, .top, .top, .top, .top, .top, .top, .top, .top, .top, .top, .top, .top, .top, .top, .top, .top, .top, .top, .top, .top, .top, .top, .top, .top, .top, .top, .top, .top, .top, .top, .top, .top, .top, .top, .top, .top, .top, .top, .top, .top, .top, .top, .top, .top, .top, .top, .top, .top, .top, .top, .top, .top, .top, .top, .top, .top, .top], [.row (.f32 x) 0])
def impl_ThirdsSolve_l2_kill : List Nat := [1, 1, 0, 1, 1, 1, 0, 0, 0, 1, 1, 0, 1, 1, 1, 1, 1, 1, 1, 1, 1, 1, 1, 1, 1, 1, 1, 1, 1, 1, 1, 1, 1, 1, 1, 1, 1, 1, 1, 1, 1, 1, 1, 1, 1, 1, 1, 1, 1, 1, 1, 1, 1, 1, 1, 1, 1, 1, 1, 1, 1, 1, 1, 1, 1, 1, 1, 1, 1, 1, 1, 1, 1, 1, 1, 1, 1, 1, 1, 1, 1, 1, 1, 1, 1, 1, 1, 1, 1, 1, 1, 1, 1, 1, 1, 1, 1, 1, 1, 1, 1, 1, 1, 1, 1, 1, 1, 1, 1]
def impl_ThirdsSolve_l2_nx : Exit → List Nat
  | .exit 2 => [1, 1, 1, 1, 1, 1, 1, 0, 1, 1, 1, 1, 1, 1, 1, 1, 1, 1, 1, 1, 1, 1, 1, 1, 1, 1, 1, 1, 1, 1, 1, 1, 1, 1, 1, 1, 1, 1, 1, 1, 1, 1, 1, 1, 1, 1, 1, 1, 1, 1, 1, 1, 1, 1, 1, 1, 1, 1, 1, 1, 1, 1, 1, 1, 1, 1, 1, 1, 1, 1, 1, 1, 1, 1, 1, 1, 1, 1, 1, 1, 1, 1, 1, 1, 1, 1, 1, 1, 1, 1, 1, 1, 1, 1, 1, 1, 1, 1, 1, 1, 1, 1, 1, 1, 1, 1, 1, 1, 1]
  | .ret => [1, 1, 1, 1, 0, 0, 1, 1, 1, 1, 1, 1, 1, 1, 1, 1, 1, 1, 1, 1, 1, 1, 1, 1, 1, 1, 1, 1, 1, 1, 1, 1, 1, 1, 1, 1, 1, 1, 1, 1, 1, 1, 1, 1, 1, 1, 1, 1, 1, 1, 1, 1, 1, 1, 1, 1, 1, 1, 1, 1, 1, 1, 1, 1, 1, 1, 1, 1, 1, 1, 1, 1, 1, 1, 1, 1, 1, 1, 1, 1, 1, 1, 1, 1, 1, 1, 1, 1, 1, 1, 1, 1, 1, 1, 1, 1, 1, 1, 1, 1, 1, 1, 1, 1, 1, 1, 1, 1, 1]
  | _ => []
noncomputable def impl_ThirdsSolve_LO (v90 : List Nat) (v91 : List Nat) (v92 : List Nat) (v93 : List Nat) : LOr := fun id e L =>
  match id with
  | 0 => .need (normA 0 impl_ThirdsSolve_l0_kill e L = some (impl_ThirdsSolve_l0_E v90 v91 v92 v93 ((gI (vAt e 9)), (gRF L (vAt e 6)), (gRF L (vAt e 7))))) (.call (impl_ThirdsSolve_l0_g v90 v92 v93 ((gI (vAt e 9)), (gRF L (vAt e 6)), (gRF L (vAt e 7)))) fun x => .leaf (impl_ThirdsSolve_l0_X v90 v91 v92 v93 x))
  | 2 => .need (normA 0 impl_ThirdsSolve_l2_kill e L = some (impl_ThirdsSolve_l2_E v90 v91 v92 v93 (gRF L (vAt e 6)) ((gI (vAt e 11)), (gRF L (vAt e 7))))) (.call (impl_ThirdsSolve_l2_g v92 v93 (gRF L (vAt e 6)) ((gI (vAt e 11)), (gRF L (vAt e 7)))) fun x => .leaf (impl_ThirdsSolve_l2_X v90 v91 v92 v93 (gRF L (vAt e 6)) x))
  | _ => .fail
noncomputable def impl_ThirdsSolve_tab : List (FuncId × DFn × Bool) := [(92, impl_Thirds_takes_F, true), (93, slices_CloneF_F, true), (94, impl_mul_F, true), (95, slices_ContainsF_F, true), (96, impl_allFinite_F, true)]
theorem impl_ThirdsSolve_hO : OrcOk Try.prog (tabD impl_ThirdsSolve_tab) (tabM impl_ThirdsSolve_tab) := tabD_cons impl_Thirds_takes_Fok (tabD_cons slices_CloneF_Fok (tabD_cons impl_mul_Fok (tabD_cons slices_ContainsF_Fok (tabD_cons impl_allFinite_Fok (tabD_nil _)))))
theorem impl_ThirdsSolve_l0_be (v90 : List Nat) (v91 : List Nat) (v92 : List Nat) (v93 : List Nat) (s : Int × (List Nat) × (List Nat)) : bodyT TT (tabD impl_ThirdsSolve_tab) (tabM impl_ThirdsSolve_tab) (impl_ThirdsSolve_LO v90 v91 v92 v93) 0 impl_ThirdsSolve_l0_kill impl_ThirdsSolve_l0_nx (bodyOf Try.f26 0) 0 (impl_ThirdsSolve_l0_E v90 v91 v92 v93 s) = (impl_ThirdsSolve_l0_T v90 v92 v93 s).bind fun y => .leaf (outS (impl_ThirdsSolve_l0_E v90 v91 v92 v93) (impl_ThirdsSolve_l0_X v90 v91 v92 v93) y) := by kernel_rfl
theorem impl_ThirdsSolve_l0_ok (v90 : List Nat) (v91 : List Nat) (v92 : List Nat) (v93 : List Nat) : LSound Try.prog 0 (impl_ThirdsSolve_LO v90 v91 v92 v93) 0 (bodyOf Try.f26 0) := by
  intro e L out h
  exact lo_ok (E := impl_ThirdsSolve_l0_E v90 v91 v92 v93) (gT := impl_ThirdsSolve_l0_T v90 v92 v93) (X := impl_ThirdsSolve_l0_X v90 v91 v92 v93) (s0 := ((gI (vAt e 9)), (gRF L (vAt e 6)), (gRF L (vAt e 7)))) tok impl_ThirdsSolve_hO mixed (LoopsOk_eq (l := []) (by kernel_rfl) trivial) (impl_ThirdsSolve_l0_be v90 v91 v92 v93) rfl (by intro x; rfl) h
theorem impl_ThirdsSolve_l2_be (v90 : List Nat) (v91 : List Nat) (v92 : List Nat) (v93 : List Nat) (v163 : List Nat) (s : Int × (List Nat)) : bodyT TT (tabD impl_ThirdsSolve_tab) (tabM impl_ThirdsSolve_tab) (impl_ThirdsSolve_LO v90 v91 v92 v93) 0 impl_ThirdsSolve_l2_kill impl_ThirdsSolve_l2_nx (bodyOf Try.f26 2) 2 (impl_ThirdsSolve_l2_E v90 v91 v92 v93 v163 s) = (impl_ThirdsSolve_l2_T v92 v93 v163 s).bind fun y => .leaf (outS (impl_ThirdsSolve_l2_E v90 v91 v92 v93 v163) (impl_ThirdsSolve_l2_X v90 v91 v92 v93 v163) y) := by kernel_rfl
theorem impl_ThirdsSolve_l2_ok (v90 : List Nat) (v91 : List Nat) (v92 : List Nat) (v93 : List Nat) : LSound Try.prog 0 (impl_ThirdsSolve_LO v90 v91 v92 v93) 2 (bodyOf Try.f26 2) := by
  intro e L out h
  exact lo_ok (E := impl_ThirdsSolve_l2_E v90 v91 v92 v93 (gRF L (vAt e 6))) (gT := impl_ThirdsSolve_l2_T v92 v93 (gRF L (vAt e 6))) (X := impl_ThirdsSolve_l2_X v90 v91 v92 v93 (gRF L (vAt e 6))) (s0 := ((gI (vAt e 11)), (gRF L (vAt e 7)))) tok impl_ThirdsSolve_hO mixed (LoopsOk_eq (l := []) (by kernel_rfl) trivial) (impl_ThirdsSolve_l2_be v90 v91 v92 v93 (gRF L (vAt e 6))) rfl (by intro x; rfl) h
noncomputable def impl_ThirdsSolve_T (v90 : List Nat) (v91 : List Nat) (v92 : List Nat) (v93 : List Nat) : Tree ((Unit) ⊕ ((List Nat))) :=
  (.call (impl_Thirds_takes_g v90 v91 v92 v93) fun v130 =>
  (.br (!v130) (
   .leaf (.inl ())
  ) (
   (.call (slices_CloneF_g v91) fun v132 =>
   (.call (slices_CloneF_g v93) fun v133 =>
   (.need (some (impl_ThirdsSolve_l0_E v90 v91 v92 v93 ((1 : Int), ([] : List Nat) ++ v91, ([] : List Nat) ++ v93)) = some (impl_ThirdsSolve_l0_E v90 v91 v92 v93 ((1 : Int), ([] : List Nat) ++ v91, ([] : List Nat) ++ v93))) <|
   (.call (impl_ThirdsSolve_l0_g v90 v92 v93 ((1 : Int), ([] : List Nat) ++ v91, ([] : List Nat) ++ v93)) fun v143 =>
   (.call (slices_ContainsF_g v143.1 (0 : Nat)) fun v155 =>
   (.br v155 (
    .leaf (.inl ())
   ) (
    (.need (some (impl_ThirdsSolve_l2_E v90 v91 v92 v93 v143.1 (IntKind.i64.wrap (((v93.length : Nat) : Int) - (1 : Int)), v143.2)) = some (impl_ThirdsSolve_l2_E v90 v91 v92 v93 v143.1 (IntKind.i64.wrap (((v93.length : Nat) : Int) - (1 : Int)), v143.2))) <|
    (.call (impl_ThirdsSolve_l2_g v92 v93 v143.1 (IntKind.i64.wrap (((v93.length : Nat) : Int) - (1 : Int)), v143.2)) fun v165 =>
    (.call (impl_allFinite_g v165) fun v168 =>
    (.sum v168 (fun v169 =>
     .leaf (.inl ())
    ) (fun v170 =>
     .leaf (.inr v165)
    )))))
   )))))))
  )))

noncomputable def impl_ThirdsSolve_g (v90 : List Nat) (v91 : List Nat) (v92 : List Nat) (v93 : List Nat) : Option ((Unit) ⊕ ((List Nat))) := (impl_ThirdsSolve_T v90 v91 v92 v93).run
def impl_ThirdsSolve_enc (v90 : List Nat) (v91 : List Nat) (v92 : List Nat) (v93 : List Nat) (y : (Unit) ⊕ ((List Nat))) : Rs := (match y with | .inl y => (.tup [.nilslc, .lit false], []) | .inr y => (.tup [.own 0 0 ((y).length), .lit true], [.row (.f32 y) 0]))
theorem impl_ThirdsSolve_den (v90 : List Nat) (v91 : List Nat) (v92 : List Nat) (v93 : List Nat) : (den TT (tabD impl_ThirdsSolve_tab) (tabM impl_ThirdsSolve_tab) (impl_ThirdsSolve_LO v90 v91 v92 v93) (codeOf Try.f26) ([.agg [.bslc (BR.root 0) (.f32 v90), .bslc (BR.root 1) (.f32 v91), .bslc (BR.root 2) (.f32 v92)], .bslc (BR.root 3) (.f32 v93)] ++ List.replicate (Try.f26.ntmps - ([.agg [.bslc (BR.root 0) (.f32 v90), .bslc (BR.root 1) (.f32 v91), .bslc (BR.root 2) (.f32 v92)], .bslc (BR.root 3) (.f32 v93)] : List DV).length) .undef) []).bind (retD TT Try.f26.results.toList 0) = (impl_ThirdsSolve_T v90 v91 v92 v93).bind fun y => .leaf (impl_ThirdsSolve_enc v90 v91 v92 v93 y) := by kernel_rfl
theorem impl_ThirdsSolve_fn (v90 : List Nat) (v91 : List Nat) (v92 : List Nat) (v93 : List Nat) (F : Fr) (hm : F.ids.length = 0) (h0 : St F [] F.H0) (hA : DVs.Ok F [] [.agg [.bslc (BR.root 0) (.f32 v90), .bslc (BR.root 1) (.f32 v91), .bslc (BR.root 2) (.f32 v92)], .bslc (BR.root 3) (.f32 v93)]) {y : (Unit) ⊕ ((List Nat))} (hy : impl_ThirdsSolve_g v90 v91 v92 v93 = some y) : ∃ H', FnOk Try.prog 26 (DVs.av F [.agg [.bslc (BR.root 0) (.f32 v90), .bslc (BR.root 1) (.f32 v91), .bslc (BR.root 2) (.f32 v92)], .bslc (BR.root 3) (.f32 v93)]) F.H0 ((impl_ThirdsSolve_enc v90 v91 v92 v93 y).1.av F) H' ∧ St F (impl_ThirdsSolve_enc v90 v91 v92 v93 y).2 H' ∧ (impl_ThirdsSolve_enc v90 v91 v92 v93 y).1.Ok F (impl_ThirdsSolve_enc v90 v91 v92 v93 y).2 :=
  fn_fin tok impl_ThirdsSolve_hO mixed Try.func26 Try.call26 (by kernel_rfl) (LoopsOk_eq (l := [(0, bodyOf Try.f26 0), (2, bodyOf Try.f26 2)]) (by kernel_rfl) ⟨impl_ThirdsSolve_l0_ok v90 v91 v92 v93, impl_ThirdsSolve_l2_ok v90 v91 v92 v93, trivial⟩) (impl_ThirdsSolve_den v90 v91 v92 v93) hy hm h0 hA
noncomputable def impl_ThirdsSolve_F : DFn := fun args L =>
  match args with
  | [.agg [a1, a2, a3], a4] =>
    optT (rowF32 L a1) fun v90 =>
    optT (rowF32 L a2) fun v91 =>
    optT (rowF32 L a3) fun v92 =>
    optT (rowF32 L a4) fun v93 =>
    .call (impl_ThirdsSolve_g v90 v91 v92 v93) fun y => .sum y (fun y0 => .leaf (.tup [.nilslc, .lit false], L)) (fun z0 => .leaf (.tup [.own (L.length + 0) 0 ((z0).length), .lit true], L ++ [.row (.f32 z0) 0]))
  | _ => .fail
theorem impl_ThirdsSolve_Fok : COk Try.prog 26 impl_ThirdsSolve_F true := by
  intro F L H args r L' hs ha hr
  unfold impl_ThirdsSolve_F at hr
  split at hr
  · rename_i a1 a2 a3 a4
    obtain ⟨v90, hv90, hr⟩ := optT_run hr
    obtain ⟨v91, hv91, hr⟩ := optT_run hr
    obtain ⟨v92, hv92, hr⟩ := optT_run hr
    obtain ⟨v93, hv93, hr⟩ := optT_run hr
    simp only [Tree.run] at hr
    obtain ⟨y, hy, hr⟩ := Option.bind_eq_some_iff.1 hr
    cases y with
    | inl y =>
      simp only [Tree.run, Option.some.injEq, Prod.mk.injEq] at hr
      obtain ⟨rfl, rfl⟩ := hr
      exact call_ok0 hs (fun k => (([a1.av F, a2.av F, a3.av F, a4.av F] : List AV)[k]?).getD .top) [.agg [a1, a2, a3], a4] [.agg [.bslc (BR.root 0) (.f32 v90), .bslc (BR.root 1) (.f32 v91), .bslc (BR.root 2) (.f32 v92)], .bslc (BR.root 3) (.f32 v93)] (fun F' h0 hi hρ => ⟨by simp [DVs.av, DV.av, BR.av, hρ], impl_ThirdsSolve_fn v90 v91 v92 v93 F' (by rw [hi]; rfl) (st_nil hi) ⟨⟨bslc_ok hi (by rw [h0, hρ]; exact rowF32_ok hs (DVs.okAt (DVs.okAt ha 0 rfl) 0 rfl) hv90), bslc_ok hi (by rw [h0, hρ]; exact rowF32_ok hs (DVs.okAt (DVs.okAt ha 0 rfl) 1 rfl) hv91), bslc_ok hi (by rw [h0, hρ]; exact rowF32_ok hs (DVs.okAt (DVs.okAt ha 0 rfl) 2 rfl) hv92), trivial⟩, bslc_ok hi (by rw [h0, hρ]; exact rowF32_ok hs (DVs.okAt ha 1 rfl) hv93), trivial⟩ hy⟩) rfl
    | inr y =>
      simp only [Tree.run, Option.some.injEq, Prod.mk.injEq] at hr
      obtain ⟨rfl, rfl⟩ := hr
      exact call_ok1 hs (fun k => (([a1.av F, a2.av F, a3.av F, a4.av F] : List AV)[k]?).getD .top) [.agg [a1, a2, a3], a4] [.agg [.bslc (BR.root 0) (.f32 v90), .bslc (BR.root 1) (.f32 v91), .bslc (BR.root 2) (.f32 v92)], .bslc (BR.root 3) (.f32 v93)] (fun F' h0 hi hρ => ⟨by simp [DVs.av, DV.av, BR.av, hρ], impl_ThirdsSolve_fn v90 v91 v92 v93 F' (by rw [hi]; rfl) (st_nil hi) ⟨⟨bslc_ok hi (by rw [h0, hρ]; exact rowF32_ok hs (DVs.okAt (DVs.okAt ha 0 rfl) 0 rfl) hv90), bslc_ok hi (by rw [h0, hρ]; exact rowF32_ok hs (DVs.okAt (DVs.okAt ha 0 rfl) 1 rfl) hv91), bslc_ok hi (by rw [h0, hρ]; exact rowF32_ok hs (DVs.okAt (DVs.okAt ha 0 rfl) 2 rfl) hv92), trivial⟩, bslc_ok hi (by rw [h0, hρ]; exact rowF32_ok hs (DVs.okAt ha 1 rfl) hv93), trivial⟩ hy⟩) rfl rfl
  · cases hr
/-! laws.sameFloat -/
noncomputable def laws_sameFloat_LO (v177 : Nat) (v178 : Nat) : LOr := fun id e L =>
  match id with
  | _ => .fail
noncomputable def laws_sameFloat_tab : List (FuncId × DFn × Bool) := []
theorem laws_sameFloat_hO : OrcOk Try.prog (tabD laws_sameFloat_tab) (tabM laws_sameFloat_tab) := tabD_nil _
noncomputable def laws_sameFloat_T (v177 : Nat) (v178 : Nat) : Tree (Bool) :=
  (.br (!feq .f64 v177 v177) (
   (.br (!feq .f64 v177 v177) (
    .leaf (!feq .f64 v178 v178)
   ) (
    .leaf false
   ))
  ) (
   (.br (!feq .f64 v178 v178) (
    (.br (!feq .f64 v177 v177) (
     .leaf (!feq .f64 v178 v178)
    ) (
     .leaf false
    ))
   ) (
    (.br (feq .f64 v177 (0 : Nat)) (
     (.br (feq .f64 v178 (0 : Nat)) (
      .leaf ((fgrt .f64 (fdiv .f64 (4607182418800017408 : Nat) v177) (0 : Nat)) == (fgrt .f64 (fdiv .f64 (4607182418800017408 : Nat) v178) (0 : Nat)))
     ) (
      .leaf (feq .f64 v177 v178)
     ))
    ) (
     .leaf (feq .f64 v177 v178)
    ))
   ))
  ))

noncomputable def laws_sameFloat_g (v177 : Nat) (v178 : Nat) : Option (Bool) := (laws_sameFloat_T v177 v178).run
def laws_sameFloat_enc (v177 : Nat) (v178 : Nat) (y : Bool) : Rs := (.bool y, [])
theorem laws_sameFloat_den (v177 : Nat) (v178 : Nat) : (den TT (tabD laws_sameFloat_tab) (tabM laws_sameFloat_tab) (laws_sameFloat_LO v177 v178) (codeOf Try.f53) ([.flt .f64 v177, .flt .f64 v178] ++ List.replicate (Try.f53.ntmps - ([.flt .f64 v177, .flt .f64 v178] : List DV).length) .undef) []).bind (retD TT Try.f53.results.toList 0) = (laws_sameFloat_T v177 v178).bind fun y => .leaf (laws_sameFloat_enc v177 v178 y) := by kernel_rfl
theorem laws_sameFloat_fn (v177 : Nat) (v178 : Nat) (F : Fr) (hm : F.ids.length = 0) (h0 : St F [] F.H0) (hA : DVs.Ok F [] [.flt .f64 v177, .flt .f64 v178]) {y : Bool} (hy : laws_sameFloat_g v177 v178 = some y) : ∃ H', FnOk Try.prog 53 (DVs.av F [.flt .f64 v177, .flt .f64 v178]) F.H0 ((laws_sameFloat_enc v177 v178 y).1.av F) H' ∧ St F (laws_sameFloat_enc v177 v178 y).2 H' ∧ (laws_sameFloat_enc v177 v178 y).1.Ok F (laws_sameFloat_enc v177 v178 y).2 :=
  fn_fin tok laws_sameFloat_hO mixed Try.func53 Try.call53 (by kernel_rfl) (LoopsOk_eq (l := []) (by kernel_rfl) trivial) (laws_sameFloat_den v177 v178) hy hm h0 hA
def laws_sameFloat_v (v177 : Nat) (v178 : Nat) : Bool :=
  if (!feq .f64 v177 v177) = true then (
   if (!feq .f64 v177 v177) = true then (
    !feq .f64 v178 v178
   ) else (
    false
   )
  ) else (
   if (!feq .f64 v178 v178) = true then (
    if (!feq .f64 v177 v177) = true then (
     !feq .f64 v178 v178
    ) else (
     false
    )
   ) else (
    if (feq .f64 v177 (0 : Nat)) = true then (
     if (feq .f64 v178 (0 : Nat)) = true then (
      (fgrt .f64 (fdiv .f64 (4607182418800017408 : Nat) v177) (0 : Nat)) == (fgrt .f64 (fdiv .f64 (4607182418800017408 : Nat) v178) (0 : Nat))
     ) else (
      feq .f64 v177 v178
     )
    ) else (
     feq .f64 v177 v178
    )
   )
  )
theorem laws_sameFloat_tot (v177 : Nat) (v178 : Nat) : laws_sameFloat_g v177 v178 = some (laws_sameFloat_v v177 v178) := by
  unfold laws_sameFloat_g laws_sameFloat_T laws_sameFloat_v
  simp only [Tree.run]
  repeat' (first | rfl | split)
noncomputable def laws_sameFloat_F : DFn := fun args L =>
  match args with
  | [.flt .f64 v177, .flt .f64 v178] =>
    .leaf (.bool (laws_sameFloat_v v177 v178), L)
  | _ => .fail
theorem laws_sameFloat_Fok : COk Try.prog 53 laws_sameFloat_F true := by
  intro F L H args r L' hs ha hr
  unfold laws_sameFloat_F at hr
  split at hr
  · rename_i v177 v178
    have hy := laws_sameFloat_tot v177 v178
    generalize laws_sameFloat_v v177 v178 = y at hy hr
    simp only [Tree.run, Option.some.injEq, Prod.mk.injEq] at hr
    obtain ⟨rfl, rfl⟩ := hr
    exact call_ok0 hs (fun k => (([] : List AV)[k]?).getD .top) [.flt .f64 v177, .flt .f64 v178] [.flt .f64 v177, .flt .f64 v178] (fun F' h0 hi hρ => ⟨by simp [DVs.av, DV.av, BR.av, hρ], laws_sameFloat_fn v177 v178 F' (by rw [hi]; rfl) (st_nil hi) ⟨trivial, trivial, trivial⟩ hy⟩) rfl
  · cases hr
/-! laws.eqFloat32S -/
noncomputable def laws_eqFloat32S_l0_T (v174 : List Nat) (v175 : List Nat) (s : Int) : Tree ((Int) ⊕ ((Unit) ⊕ (Unit))) :=
  (.br (decide (s < ((v174.length : Nat) : Int))) (
   (.grd (inb s v174.length) <|
   (.grd (inb s v175.length) <|
   (.br (!(laws_sameFloat_v (wid (nth v174 (Int.toNat s))) (wid (nth v175 (Int.toNat s))))) (
    .leaf (.inr (.inl ()))
   ) (
    .leaf (.inl (IntKind.i64.wrap (s + (1 : Int))))
   ))))
  ) (
   .leaf (.inr (.inr ()))
  ))

noncomputable def laws_eqFloat32S_l0_g (v174 : List Nat) (v175 : List Nat) (s0 : Int) : Option ((Unit) ⊕ (Unit)) := whileM (fun s => (laws_eqFloat32S_l0_T v174 v175 s).run) s0
def laws_eqFloat32S_l0_E (v174 : List Nat) (v175 : List Nat) (s : Int) : Sd := ([.bslc (BR.root 0) (.f32 v174), .bslc (BR.root 1) (.f32 v175), .top, .top, .top, .int .i64 s, .top, .top, .top, .top, .top, .top, .top, .top, .top, .top, .top, .top, .top, .top, .top, .top, .top, .top, .top, .top, .top, .top, .top], [])
def laws_eqFloat32S_l0_X (v174 : List Nat) (v175 : List Nat) (x : (Unit) ⊕ (Unit)) : Out := (match x with | .inl x => (.ret, [.top, .top, .top, .top, .lit false, .top, .top, .top, .top, .top, .top, .top, .top, .top, .top, .top, .top, .top, .top, .top, .top, .top, .top, .top, .top, .top, .top, .top, .top], []) | .inr x => (.normal, [.top, .top, .top, .top, .top, .top, .top, .top, .top, .top, .top, .top, .top, .top, .top, .top, .top, .top, .top, .top, .top, .top, .top, .top, .top, .top, .top, .top, .top], []))
def laws_eqFloat32S_l0_kill : List Nat := [0, 0, 1, 1, 1, 0, 1, 1, 1, 1, 1, 1, 1, 1, 1, 1, 1, 1, 1, 1, 1, 1, 1, 1, 1, 1, 1, 1, 1]
def laws_eqFloat32S_l0_nx : Exit → List Nat
  | .exit 0 => [1, 1, 1, 1, 1, 1, 1, 1, 1, 1, 1, 1, 1, 1, 1, 1, 1, 1, 1, 1, 1, 1, 1, 1, 1, 1, 1, 1, 1]
  | .ret => [1, 1, 1, 1, 0, 1, 1, 1, 1, 1, 1, 1, 1, 1, 1, 1, 1, 1, 1, 1, 1, 1, 1, 1, 1, 1, 1, 1, 1]
  | _ => []
noncomputable def laws_eqFloat32S_LO (v174 : List Nat) (v175 : List Nat) : LOr := fun id e L =>
  match id with
  | 0 => .need (normA 0 laws_eqFloat32S_l0_kill e L = some (laws_eqFloat32S_l0_E v174 v175 (gI (vAt e 5)))) (.call (laws_eqFloat32S_l0_g v174 v175 (gI (vAt e 5))) fun x => .sum x (fun b0 => .leaf (laws_eqFloat32S_l0_X v174 v175 (.inl b0))) (fun c0 => .leaf (laws_eqFloat32S_l0_X v174 v175 (.inr c0))))
  | _ => .fail
noncomputable def laws_eqFloat32S_tab : List (FuncId × DFn × Bool) := [(53, laws_sameFloat_F, true)]
theorem laws_eqFloat32S_hO : OrcOk Try.prog (tabD laws_eqFloat32S_tab) (tabM laws_eqFloat32S_tab) := tabD_cons laws_sameFloat_Fok (tabD_nil _)
theorem laws_eqFloat32S_l0_be (v174 : List Nat) (v175 : List Nat) (s : Int) : bodyT TT (tabD laws_eqFloat32S_tab) (tabM laws_eqFloat32S_tab) (laws_eqFloat32S_LO v174 v175) 0 laws_eqFloat32S_l0_kill laws_eqFloat32S_l0_nx (bodyOf Try.f27 0) 0 (laws_eqFloat32S_l0_E v174 v175 s) = (laws_eqFloat32S_l0_T v174 v175 s).bind fun y => .leaf (outS (laws_eqFloat32S_l0_E v174 v175) (laws_eqFloat32S_l0_X v174 v175) y) := by kernel_rfl
theorem laws_eqFloat32S_l0_ok (v174 : List Nat) (v175 : List Nat) : LSound Try.prog 0 (laws_eqFloat32S_LO v174 v175) 0 (bodyOf Try.f27 0) := by
  intro e L out h
  exact lo_ok (E := laws_eqFloat32S_l0_E v174 v175) (gT := laws_eqFloat32S_l0_T v174 v175) (X := laws_eqFloat32S_l0_X v174 v175) (s0 := (gI (vAt e 5))) tok laws_eqFloat32S_hO mixed (LoopsOk_eq (l := []) (by kernel_rfl) trivial) (laws_eqFloat32S_l0_be v174 v175) rfl (by intro x; (cases x with | inl b => rfl | inr x => exact rfl)) h
noncomputable def laws_eqFloat32S_T (v174 : List Nat) (v175 : List Nat) : Tree (Bool) :=
  (.br (!decide (((v174.length : Nat) : Int) = ((v175.length : Nat) : Int))) (
   .leaf false
  ) (
   (.need (some (laws_eqFloat32S_l0_E v174 v175 (0 : Int)) = some (laws_eqFloat32S_l0_E v174 v175 (0 : Int))) <|
   (.call (laws_eqFloat32S_l0_g v174 v175 (0 : Int)) fun v181 =>
   (.sum v181 (fun v182 =>
    .leaf false
   ) (fun v183 =>
    .leaf true
   ))))
  ))

noncomputable def laws_eqFloat32S_g (v174 : List Nat) (v175 : List Nat) : Option (Bool) := (laws_eqFloat32S_T v174 v175).run
def laws_eqFloat32S_enc (v174 : List Nat) (v175 : List Nat) (y : Bool) : Rs := (.bool y, [])
theorem laws_eqFloat32S_den (v174 : List Nat) (v175 : List Nat) : (den TT (tabD laws_eqFloat32S_tab) (tabM laws_eqFloat32S_tab) (laws_eqFloat32S_LO v174 v175) (codeOf Try.f27) ([.bslc (BR.root 0) (.f32 v174), .bslc (BR.root 1) (.f32 v175)] ++ List.replicate (Try.f27.ntmps - ([.bslc (BR.root 0) (.f32 v174), .bslc (BR.root 1) (.f32 v175)] : List DV).length) .undef) []).bind (retD TT Try.f27.results.toList 0) = (laws_eqFloat32S_T v174 v175).bind fun y => .leaf (laws_eqFloat32S_enc v174 v175 y) := by kernel_rfl
theorem laws_eqFloat32S_fn (v174 : List Nat) (v175 : List Nat) (F : Fr) (hm : F.ids.length = 0) (h0 : St F [] F.H0) (hA : DVs.Ok F [] [.bslc (BR.root 0) (.f32 v174), .bslc (BR.root 1) (.f32 v175)]) {y : Bool} (hy : laws_eqFloat32S_g v174 v175 = some y) : ∃ H', FnOk Try.prog 27 (DVs.av F [.bslc (BR.root 0) (.f32 v174), .bslc (BR.root 1) (.f32 v175)]) F.H0 ((laws_eqFloat32S_enc v174 v175 y).1.av F) H' ∧ St F (laws_eqFloat32S_enc v174 v175 y).2 H' ∧ (laws_eqFloat32S_enc v174 v175 y).1.Ok F (laws_eqFloat32S_enc v174 v175 y).2 :=
  fn_fin tok laws_eqFloat32S_hO mixed Try.func27 Try.call27 (by kernel_rfl) (LoopsOk_eq (l := [(0, bodyOf Try.f27 0)]) (by kernel_rfl) ⟨laws_eqFloat32S_l0_ok v174 v175, trivial⟩) (laws_eqFloat32S_den v174 v175) hy hm h0 hA
noncomputable def laws_eqFloat32S_F : DFn := fun args L =>
  match args with
  | [a1, a2] =>
    optT (rowF32 L a1) fun v174 =>
    optT (rowF32 L a2) fun v175 =>
    .call (laws_eqFloat32S_g v174 v175) fun y => .leaf (.bool y, L)
  | _ => .fail
theorem laws_eqFloat32S_Fok : COk Try.prog 27 laws_eqFloat32S_F true := by
  intro F L H args r L' hs ha hr
  unfold laws_eqFloat32S_F at hr
  split at hr
  · rename_i a1 a2
    obtain ⟨v174, hv174, hr⟩ := optT_run hr
    obtain ⟨v175, hv175, hr⟩ := optT_run hr
    simp only [Tree.run] at hr
    obtain ⟨y, hy, hr⟩ := Option.bind_eq_some_iff.1 hr
    simp only [Tree.run, Option.some.injEq, Prod.mk.injEq] at hr
    obtain ⟨rfl, rfl⟩ := hr
    exact call_ok0 hs (fun k => (([a1.av F, a2.av F] : List AV)[k]?).getD .top) [a1, a2] [.bslc (BR.root 0) (.f32 v174), .bslc (BR.root 1) (.f32 v175)] (fun F' h0 hi hρ => ⟨by simp [DVs.av, DV.av, BR.av, hρ], laws_eqFloat32S_fn v174 v175 F' (by rw [hi]; rfl) (st_nil hi) ⟨bslc_ok hi (by rw [h0, hρ]; exact rowF32_ok hs (DVs.okAt ha 0 rfl) hv174), bslc_ok hi (by rw [h0, hρ]; exact rowF32_ok hs (DVs.okAt ha 1 rfl) hv175), trivial⟩ hy⟩) rfl
  · cases hr
/-! laws.eqThirds -/
noncomputable def laws_eqThirds_LO (v186 : List Nat) (v187 : List Nat) (v188 : List Nat) (v189 : List Nat) (v190 : List Nat) (v191 : List Nat) : LOr := fun id e L =>
  match id with
  | _ => .fail
noncomputable def laws_eqThirds_tab : List (FuncId × DFn × Bool) := [(27, laws_eqFloat32S_F, true)]
theorem laws_eqThirds_hO : OrcOk Try.prog (tabD laws_eqThirds_tab) (tabM laws_eqThirds_tab) := tabD_cons laws_eqFloat32S_Fok (tabD_nil _)
noncomputable def laws_eqThirds_T (v186 : List Nat) (v187 : List Nat) (v188 : List Nat) (v189 : List Nat) (v190 : List Nat) (v191 : List Nat) : Tree (Bool) :=
  (.call (laws_eqFloat32S_g v186 v189) fun v192 =>
  (.br (!v192) (
   .leaf false
  ) (
   (.call (laws_eqFloat32S_g v187 v190) fun v193 =>
   (.br (!v193) (
    .leaf false
   ) (
    (.call (laws_eqFloat32S_g v188 v191) fun v194 =>
    (.br (!v194) (
     .leaf false
    ) (
     .leaf true
    )))
   )))
  )))

noncomputable def laws_eqThirds_g (v186 : List Nat) (v187 : List Nat) (v188 : List Nat) (v189 : List Nat) (v190 : List Nat) (v191 : List Nat) : Option (Bool) := (laws_eqThirds_T v186 v187 v188 v189 v190 v191).run
def laws_eqThirds_enc (v186 : List Nat) (v187 : List Nat) (v188 : List Nat) (v189 : List Nat) (v190 : List Nat) (v191 : List Nat) (y : Bool) : Rs := (.bool y, [])
theorem laws_eqThirds_den (v186 : List Nat) (v187 : List Nat) (v188 : List Nat) (v189 : List Nat) (v190 : List Nat) (v191 : List Nat) : (den TT (tabD laws_eqThirds_tab) (tabM laws_eqThirds_tab) (laws_eqThirds_LO v186 v187 v188 v189 v190 v191) (codeOf Try.f28) ([.agg [.bslc (BR.root 0) (.f32 v186), .bslc (BR.root 1) (.f32 v187), .bslc (BR.root 2) (.f32 v188)], .agg [.bslc (BR.root 3) (.f32 v189), .bslc (BR.root 4) (.f32 v190), .bslc (BR.root 5) (.f32 v191)]] ++ List.replicate (Try.f28.ntmps - ([.agg [.bslc (BR.root 0) (.f32 v186), .bslc (BR.root 1) (.f32 v187), .bslc (BR.root 2) (.f32 v188)], .agg [.bslc (BR.root 3) (.f32 v189), .bslc (BR.root 4) (.f32 v190), .bslc (BR.root 5) (.f32 v191)]] : List DV).length) .undef) []).bind (retD TT Try.f28.results.toList 0) = (laws_eqThirds_T v186 v187 v188 v189 v190 v191).bind fun y => .leaf (laws_eqThirds_enc v186 v187 v188 v189 v190 v191 y) := by kernel_rfl
theorem laws_eqThirds_fn (v186 : List Nat) (v187 : List Nat) (v188 : List Nat) (v189 : List Nat) (v190 : List Nat) (v191 : List Nat) (F : Fr) (hm : F.ids.length = 0) (h0 : St F [] F.H0) (hA : DVs.Ok F [] [.agg [.bslc (BR.root 0) (.f32 v186), .bslc (BR.root 1) (.f32 v187), .bslc (BR.root 2) (.f32 v188)], .agg [.bslc (BR.root 3) (.f32 v189), .bslc (BR.root 4) (.f32 v190), .bslc (BR.root 5) (.f32 v191)]]) {y : Bool} (hy : laws_eqThirds_g v186 v187 v188 v189 v190 v191 = some y) : ∃ H', FnOk Try.prog 28 (DVs.av F [.agg [.bslc (BR.root 0) (.f32 v186), .bslc (BR.root 1) (.f32 v187), .bslc (BR.root 2) (.f32 v188)], .agg [.bslc (BR.root 3) (.f32 v189), .bslc (BR.root 4) (.f32 v190), .bslc (BR.root 5) (.f32 v191)]]) F.H0 ((laws_eqThirds_enc v186 v187 v188 v189 v190 v191 y).1.av F) H' ∧ St F (laws_eqThirds_enc v186 v187 v188 v189 v190 v191 y).2 H' ∧ (laws_eqThirds_enc v186 v187 v188 v189 v190 v191 y).1.Ok F (laws_eqThirds_enc v186 v187 v188 v189 v190 v191 y).2 :=
  fn_fin tok laws_eqThirds_hO mixed Try.func28 Try.call28 (by kernel_rfl) (LoopsOk_eq (l := []) (by kernel_rfl) trivial) (laws_eqThirds_den v186 v187 v188 v189 v190 v191) hy hm h0 hA
noncomputable def laws_eqThirds_F : DFn := fun args L =>
  match args with
  | [.agg [a1, a2, a3], .agg [a4, a5, a6]] =>
    optT (rowF32 L a1) fun v186 =>
    optT (rowF32 L a2) fun v187 =>
    optT (rowF32 L a3) fun v188 =>
    optT (rowF32 L a4) fun v189 =>
    optT (rowF32 L a5) fun v190 =>
    optT (rowF32 L a6) fun v191 =>
    .call (laws_eqThirds_g v186 v187 v188 v189 v190 v191) fun y => .leaf (.bool y, L)
  | _ => .fail
theorem laws_eqThirds_Fok : COk Try.prog 28 laws_eqThirds_F true := by
  intro F L H args r L' hs ha hr
  unfold laws_eqThirds_F at hr
  split at hr
  · rename_i a1 a2 a3 a4 a5 a6
    obtain ⟨v186, hv186, hr⟩ := optT_run hr
    obtain ⟨v187, hv187, hr⟩ := optT_run hr
    obtain ⟨v188, hv188, hr⟩ := optT_run hr
    obtain ⟨v189, hv189, hr⟩ := optT_run hr
    obtain ⟨v190, hv190, hr⟩ := optT_run hr
    obtain ⟨v191, hv191, hr⟩ := optT_run hr
    simp only [Tree.run] at hr
    obtain ⟨y, hy, hr⟩ := Option.bind_eq_some_iff.1 hr
    simp only [Tree.run, Option.some.injEq, Prod.mk.injEq] at hr
    obtain ⟨rfl, rfl⟩ := hr
    exact call_ok0 hs (fun k => (([a1.av F, a2.av F, a3.av F, a4.av F, a5.av F, a6.av F] : List AV)[k]?).getD .top) [.agg [a1, a2, a3], .agg [a4, a5, a6]] [.agg [.bslc (BR.root 0) (.f32 v186), .bslc (BR.root 1) (.f32 v187), .bslc (BR.root 2) (.f32 v188)], .agg [.bslc (BR.root 3) (.f32 v189), .bslc (BR.root 4) (.f32 v190), .bslc (BR.root 5) (.f32 v191)]] (fun F' h0 hi hρ => ⟨by simp [DVs.av, DV.av, BR.av, hρ], laws_eqThirds_fn v186 v187 v188 v189 v190 v191 F' (by rw [hi]; rfl) (st_nil hi) ⟨⟨bslc_ok hi (by rw [h0, hρ]; exact rowF32_ok hs (DVs.okAt (DVs.okAt ha 0 rfl) 0 rfl) hv186), bslc_ok hi (by rw [h0, hρ]; exact rowF32_ok hs (DVs.okAt (DVs.okAt ha 0 rfl) 1 rfl) hv187), bslc_ok hi (by rw [h0, hρ]; exact rowF32_ok hs (DVs.okAt (DVs.okAt ha 0 rfl) 2 rfl) hv188), trivial⟩, ⟨bslc_ok hi (by rw [h0, hρ]; exact rowF32_ok hs (DVs.okAt (DVs.okAt ha 1 rfl) 0 rfl) hv189), bslc_ok hi (by rw [h0, hρ]; exact rowF32_ok hs (DVs.okAt (DVs.okAt ha 1 rfl) 1 rfl) hv190), bslc_ok hi (by rw [h0, hρ]; exact rowF32_ok hs (DVs.okAt (DVs.okAt ha 1 rfl) 2 rfl) hv191), trivial⟩, trivial⟩ hy⟩) rfl
  · cases hr
/-! laws.markFloat32S -/
noncomputable def laws_markFloat32S_l0_T (s : Int × Int × (List Nat)) : Tree ((Int × Int × (List Nat)) ⊕ (Int × (List Nat))) :=
  (.br (decide (s.2.1 < (((s.2.2).length : Nat) : Int))) (
   (.grd (inb s.2.1 ((s.2.2).length)) <|
   .leaf (.inl (IntKind.i64.wrap (s.1 + (1 : Int)), IntKind.i64.wrap (s.2.1 + (1 : Int)), List.set s.2.2 (Int.toNat s.2.1) (fofint .f32 s.1))))
  ) (
   .leaf (.inr (s.1, s.2.2))
  ))

noncomputable def laws_markFloat32S_l0_g (s0 : Int × Int × (List Nat)) : Option (Int × (List Nat)) := whileM (fun s => (laws_markFloat32S_l0_T s).run) s0
def laws_markFloat32S_l0_E (v206 : List Nat) (v207 : Int) (s : Int × Int × (List Nat)) : Sd := ([.own 0 0 ((s.2.2).length), .int .i64 s.1, .top, .top, .top, .int .i64 s.2.1, .top, .top, .top, .top, .top, .top, .top, .top, .top, .top, .top, .top, .top, .top], [.row (.f32 s.2.2) 0])
def laws_markFloat32S_l0_X (v206 : List Nat) (v207 : Int) (x : Int × (List Nat)) : Out := (.normal, [.top, .int .i64 x.1, .top, .top, .top, .top, .top, .top, .top, .top, .top, .top, .top, .top, .top, .top, .top, .top, .top, .top], [.row (.f32 x.2) 0])
def laws_markFloat32S_l0_kill : List Nat := [0, 0, 1, 1, 1, 0, 1, 1, 1, 1, 1, 1, 1, 1, 1, 1, 1, 1, 1, 1]
def laws_markFloat32S_l0_nx : Exit → List Nat
  | .exit 0 => [1, 0, 1, 1, 1, 1, 1, 1, 1, 1, 1, 1, 1, 1, 1, 1, 1, 1, 1, 1]
  | .ret => [1, 1, 1, 1, 0, 1, 1, 1, 1, 1, 1, 1, 1, 1, 1, 1, 1, 1, 1, 1]
  | _ => []
noncomputable def laws_markFloat32S_LO (v206 : List Nat) (v207 : Int) : LOr := fun id e L =>
  match id with
  | 0 => .need (normA 1 laws_markFloat32S_l0_kill e L = some (laws_markFloat32S_l0_E v206 v207 ((gI (vAt e 1)), (gI (vAt e 5)), (gRF L (vAt e 0))))) (.call (laws_markFloat32S_l0_g ((gI (vAt e 1)), (gI (vAt e 5)), (gRF L (vAt e 0)))) fun x => .leaf (laws_markFloat32S_l0_X v206 v207 x))
  | _ => .fail
noncomputable def laws_markFloat32S_tab : List (FuncId × DFn × Bool) := []
theorem laws_markFloat32S_hO : OrcOk Try.prog (tabD laws_markFloat32S_tab) (tabM laws_markFloat32S_tab) := tabD_nil _
theorem laws_markFloat32S_l0_be (v206 : List Nat) (v207 : Int) (s : Int × Int × (List Nat)) : bodyT TT (tabD laws_markFloat32S_tab) (tabM laws_markFloat32S_tab) (laws_markFloat32S_LO v206 v207) 1 laws_markFloat32S_l0_kill laws_markFloat32S_l0_nx (bodyOf Try.f30 0) 0 (laws_markFloat32S_l0_E v206 v207 s) = (laws_markFloat32S_l0_T s).bind fun y => .leaf (outS (laws_markFloat32S_l0_E v206 v207) (laws_markFloat32S_l0_X v206 v207) y) := by kernel_rfl
theorem laws_markFloat32S_l0_ok (v206 : List Nat) (v207 : Int) : LSound Try.prog 1 (laws_markFloat32S_LO v206 v207) 0 (bodyOf Try.f30 0) := by
  intro e L out h
  exact lo_ok (E := laws_markFloat32S_l0_E v206 v207) (gT := laws_markFloat32S_l0_T) (X := laws_markFloat32S_l0_X v206 v207) (s0 := ((gI (vAt e 1)), (gI (vAt e 5)), (gRF L (vAt e 0)))) tok laws_markFloat32S_hO mixed (LoopsOk_eq (l := []) (by kernel_rfl) trivial) (laws_markFloat32S_l0_be v206 v207) rfl (by intro x; rfl) h
noncomputable def laws_markFloat32S_T (v206 : List Nat) (v207 : Int) : Tree (Int × (List Nat)) :=
  (.need (some (laws_markFloat32S_l0_E v206 v207 (v207, (0 : Int), v206)) = some (laws_markFloat32S_l0_E v206 v207 (v207, (0 : Int), v206))) <|
  (.call (laws_markFloat32S_l0_g (v207, (0 : Int), v206)) fun v216 =>
  .leaf (v216.1, v216.2)))

noncomputable def laws_markFloat32S_g (v206 : List Nat) (v207 : Int) : Option (Int × (List Nat)) := (laws_markFloat32S_T v206 v207).run
def laws_markFloat32S_enc (v206 : List Nat) (v207 : Int) (y : Int × (List Nat)) : Rs := (.int .i64 y.1, [.row (.f32 y.2) 0])
theorem laws_markFloat32S_den (v206 : List Nat) (v207 : Int) : (den TT (tabD laws_markFloat32S_tab) (tabM laws_markFloat32S_tab) (laws_markFloat32S_LO v206 v207) (codeOf Try.f30) ([.own 0 0 v206.length, .int .i64 v207] ++ List.replicate (Try.f30.ntmps - ([.own 0 0 v206.length, .int .i64 v207] : List DV).length) .undef) [.row (.f32 v206) 0]).bind (retD TT Try.f30.results.toList 1) = (laws_markFloat32S_T v206 v207).bind fun y => .leaf (laws_markFloat32S_enc v206 v207 y) := by kernel_rfl
theorem laws_markFloat32S_fn (v206 : List Nat) (v207 : Int) (F : Fr) (hm : F.ids.length = 1) (h0 : St F [.row (.f32 v206) 0] F.H0) (hA : DVs.Ok F [.row (.f32 v206) 0] [.own 0 0 v206.length, .int .i64 v207]) {y : Int × (List Nat)} (hy : laws_markFloat32S_g v206 v207 = some y) : ∃ H', FnOk Try.prog 30 (DVs.av F [.own 0 0 v206.length, .int .i64 v207]) F.H0 ((laws_markFloat32S_enc v206 v207 y).1.av F) H' ∧ St F (laws_markFloat32S_enc v206 v207 y).2 H' ∧ (laws_markFloat32S_enc v206 v207 y).1.Ok F (laws_markFloat32S_enc v206 v207 y).2 :=
  fn_fin tok laws_markFloat32S_hO mixed Try.func30 Try.call30 (by kernel_rfl) (LoopsOk_eq (l := [(0, bodyOf Try.f30 0)]) (by kernel_rfl) ⟨laws_markFloat32S_l0_ok v206 v207, trivial⟩) (laws_markFloat32S_den v206 v207) hy hm h0 hA
noncomputable def laws_markFloat32S_F : DFn := fun args L =>
  match args with
  | [a1, .int .i64 v207] =>
    optT (ownF32 L a1) fun qv206 =>
    (match sepB [qv206.1] [] with
    | true =>
    .call (laws_markFloat32S_g qv206.2 v207) fun y => .grd (decide (y.2.length = qv206.2.length)) (.leaf (.int .i64 y.1, setRows L ([qv206.1].zip [.f32 y.2])))
    | false => .fail)
  | _ => .fail
theorem laws_markFloat32S_Fok : COk Try.prog 30 laws_markFloat32S_F false := by
  intro F L H args r L' hs ha hr
  unfold laws_markFloat32S_F at hr
  split at hr
  · rename_i a1 v207
    obtain ⟨⟨jv206, v206⟩, hqv206, hr⟩ := optT_run hr
    simp only at hr
    split at hr
    · rename_i hsep
      obtain ⟨hnd, hsepv⟩ := sepB_spec hsep
      simp only [Tree.run] at hr
      obtain ⟨y, hy, hr⟩ := Option.bind_eq_some_iff.1 hr
      try simp only [Tree.run] at hr
      obtain ⟨hl0, hr⟩ := ite_run hr
      simp only [Option.some.injEq, Prod.mk.injEq] at hr
      obtain ⟨rfl, rfl⟩ := hr
      obtain ⟨hr0, hu0, ha0, hb0⟩ := (ownR_spec (DVs.okAt ha 0 rfl) (ownF32_or hqv206))
      exact mut_ok hs (fun k => (([a1.av F] : List AV)[k]?).getD .top) [a1, .int .i64 v207] [.own 0 0 v206.length, .int .i64 v207] [jv206] [.f32 v206] [.f32 y.2] hnd rfl rfl (fun i j q h1 h2 => by
          rcases i with _ | i
          · simp at h1 h2; subst h1; subst h2; exact hr0
          · simp at h1) (fun i q q' h1 h2 => by
          rcases i with _ | i
          · simp at h1 h2; subst h1; subst h2; exact of_decide_eq_true hl0
          · simp at h1) (fun j hj => by simp at hj; subst hj; simp [DVs.refs, DV.refs, hu0]) (fun F' h0 hi hρ hst hS => ⟨by (have ab0 : F'.abs 0 = F.abs jv206 := (by simp [Fr.abs, hi]); simp [DVs.av, DV.av, BR.av, hρ, Row.len, ha0, ab0]), by
          obtain ⟨H1, k1, k2, _⟩ := laws_markFloat32S_fn v206 v207 F' (by rw [hi]; rfl) hst ⟨⟨_, rfl, Nat.le_refl _, Nat.le_refl _, fun _ => rfl, (ownR_spec (DVs.okAt ha 0 rfl) (ownF32_or hqv206)).2.2.2⟩, trivial, trivial⟩ hy
          exact ⟨H1, k1, k2⟩⟩) (fun F' => rfl) (fun L' => trivial)
    · cases hr
  · cases hr
/-! laws.markThirds -/
noncomputable def laws_markThirds_LO (v228 : List Nat) (v229 : List Nat) (v230 : List Nat) (v231 : Int) : LOr := fun id e L =>
  match id with
  | _ => .fail
noncomputable def laws_markThirds_tab : List (FuncId × DFn × Bool) := [(30, laws_markFloat32S_F, false)]
theorem laws_markThirds_hO : OrcOk Try.prog (tabD laws_markThirds_tab) (tabM laws_markThirds_tab) := tabD_cons laws_markFloat32S_Fok (tabD_nil _)
noncomputable def laws_markThirds_T (v228 : List Nat) (v229 : List Nat) (v230 : List Nat) (v231 : Int) : Tree (Int × (List Nat) × (List Nat) × (List Nat)) :=
  (.call (laws_markFloat32S_g v228 v231) fun v232 =>
  (.grd (decide (v232.2.length = v228.length)) <|
  (.call (laws_markFloat32S_g v229 v232.1) fun v233 =>
  (.grd (decide (v233.2.length = v229.length)) <|
  (.call (laws_markFloat32S_g v230 v233.1) fun v234 =>
  (.grd (decide (v234.2.length = v230.length)) <|
  .leaf (v234.1, v232.2, v233.2, v234.2)))))))

noncomputable def laws_markThirds_g (v228 : List Nat) (v229 : List Nat) (v230 : List Nat) (v231 : Int) : Option (Int × (List Nat) × (List Nat) × (List Nat)) := (laws_markThirds_T v228 v229 v230 v231).run
def laws_markThirds_enc (v228 : List Nat) (v229 : List Nat) (v230 : List Nat) (v231 : Int) (y : Int × (List Nat) × (List Nat) × (List Nat)) : Rs := (.int .i64 y.1, [.row (.f32 y.2.1) 0, .row (.f32 y.2.2.1) 0, .row (.f32 y.2.2.2) 0])
theorem laws_markThirds_den (v228 : List Nat) (v229 : List Nat) (v230 : List Nat) (v231 : Int) : (den TT (tabD laws_markThirds_tab) (tabM laws_markThirds_tab) (laws_markThirds_LO v228 v229 v230 v231) (codeOf Try.f29) ([.agg [.own 0 0 v228.length, .own 1 0 v229.length, .own 2 0 v230.length], .int .i64 v231] ++ List.replicate (Try.f29.ntmps - ([.agg [.own 0 0 v228.length, .own 1 0 v229.length, .own 2 0 v230.length], .int .i64 v231] : List DV).length) .undef) [.row (.f32 v228) 0, .row (.f32 v229) 0, .row (.f32 v230) 0]).bind (retD TT Try.f29.results.toList 3) = (laws_markThirds_T v228 v229 v230 v231).bind fun y => .leaf (laws_markThirds_enc v228 v229 v230 v231 y) := by kernel_rfl
theorem laws_markThirds_fn (v228 : List Nat) (v229 : List Nat) (v230 : List Nat) (v231 : Int) (F : Fr) (hm : F.ids.length = 3) (h0 : St F [.row (.f32 v228) 0, .row (.f32 v229) 0, .row (.f32 v230) 0] F.H0) (hA : DVs.Ok F [.row (.f32 v228) 0, .row (.f32 v229) 0, .row (.f32 v230) 0] [.agg [.own 0 0 v228.length, .own 1 0 v229.length, .own 2 0 v230.length], .int .i64 v231]) {y : Int × (List Nat) × (List Nat) × (List Nat)} (hy : laws_markThirds_g v228 v229 v230 v231 = some y) : ∃ H', FnOk Try.prog 29 (DVs.av F [.agg [.own 0 0 v228.length, .own 1 0 v229.length, .own 2 0 v230.length], .int .i64 v231]) F.H0 ((laws_markThirds_enc v228 v229 v230 v231 y).1.av F) H' ∧ St F (laws_markThirds_enc v228 v229 v230 v231 y).2 H' ∧ (laws_markThirds_enc v228 v229 v230 v231 y).1.Ok F (laws_markThirds_enc v228 v229 v230 v231 y).2 :=
  fn_fin tok laws_markThirds_hO mixed Try.func29 Try.call29 (by kernel_rfl) (LoopsOk_eq (l := []) (by kernel_rfl) trivial) (laws_markThirds_den v228 v229 v230 v231) hy hm h0 hA
noncomputable def laws_markThirds_F : DFn := fun args L =>
  match args with
  | [.agg [a1, a2, a3], .int .i64 v231] =>
    optT (ownF32 L a1) fun qv228 =>
    optT (ownF32 L a2) fun qv229 =>
    optT (ownF32 L a3) fun qv230 =>
    (match sepB [qv228.1, qv229.1, qv230.1] [] with
    | true =>
    .call (laws_markThirds_g qv228.2 qv229.2 qv230.2 v231) fun y => .grd (decide (y.2.1.length = qv228.2.length)) (.grd (decide (y.2.2.1.length = qv229.2.length)) (.grd (decide (y.2.2.2.length = qv230.2.length)) (.leaf (.int .i64 y.1, setRows L ([qv228.1, qv229.1, qv230.1].zip [.f32 y.2.1, .f32 y.2.2.1, .f32 y.2.2.2])))))
    | false => .fail)
  | _ => .fail
theorem laws_markThirds_Fok : COk Try.prog 29 laws_markThirds_F false := by
  intro F L H args r L' hs ha hr
  unfold laws_markThirds_F at hr
  split at hr
  · rename_i a1 a2 a3 v231
    obtain ⟨⟨jv228, v228⟩, hqv228, hr⟩ := optT_run hr
    simp only at hr
    obtain ⟨⟨jv229, v229⟩, hqv229, hr⟩ := optT_run hr
    simp only at hr
    obtain ⟨⟨jv230, v230⟩, hqv230, hr⟩ := optT_run hr
    simp only at hr
    split at hr
    · rename_i hsep
      obtain ⟨hnd, hsepv⟩ := sepB_spec hsep
      simp only [Tree.run] at hr
      obtain ⟨y, hy, hr⟩ := Option.bind_eq_some_iff.1 hr
      try simp only [Tree.run] at hr
      obtain ⟨hl0, hr⟩ := ite_run hr
      obtain ⟨hl1, hr⟩ := ite_run hr
      obtain ⟨hl2, hr⟩ := ite_run hr
      simp only [Option.some.injEq, Prod.mk.injEq] at hr
      obtain ⟨rfl, rfl⟩ := hr
      obtain ⟨hr0, hu0, ha0, hb0⟩ := (ownR_spec (DVs.okAt (DVs.okAt ha 0 rfl) 0 rfl) (ownF32_or hqv228))
      obtain ⟨hr1, hu1, ha1, hb1⟩ := (ownR_spec (DVs.okAt (DVs.okAt ha 0 rfl) 1 rfl) (ownF32_or hqv229))
      obtain ⟨hr2, hu2, ha2, hb2⟩ := (ownR_spec (DVs.okAt (DVs.okAt ha 0 rfl) 2 rfl) (ownF32_or hqv230))
      exact mut_ok hs (fun k => (([a1.av F, a2.av F, a3.av F] : List AV)[k]?).getD .top) [.agg [a1, a2, a3], .int .i64 v231] [.agg [.own 0 0 v228.length, .own 1 0 v229.length, .own 2 0 v230.length], .int .i64 v231] [jv228, jv229, jv230] [.f32 v228, .f32 v229, .f32 v230] [.f32 y.2.1, .f32 y.2.2.1, .f32 y.2.2.2] hnd rfl rfl (fun i j q h1 h2 => by
          rcases i with _ | _ | _ | i
          · simp at h1 h2; subst h1; subst h2; exact hr0
          · simp at h1 h2; subst h1; subst h2; exact hr1
          · simp at h1 h2; subst h1; subst h2; exact hr2
          · simp at h1) (fun i q q' h1 h2 => by
          rcases i with _ | _ | _ | i
          · simp at h1 h2; subst h1; subst h2; exact of_decide_eq_true hl0
          · simp at h1 h2; subst h1; subst h2; exact of_decide_eq_true hl1
          · simp at h1 h2; subst h1; subst h2; exact of_decide_eq_true hl2
          · simp at h1) (fun j hj => by simp at hj; rcases hj with rfl | rfl | rfl <;> simp [DVs.refs, DV.refs, hu0, hu1, hu2]) (fun F' h0 hi hρ hst hS => ⟨by (have ab0 : F'.abs 0 = F.abs jv228 := (by simp [Fr.abs, hi]); have ab1 : F'.abs 1 = F.abs jv229 := (by simp [Fr.abs, hi]); have ab2 : F'.abs 2 = F.abs jv230 := (by simp [Fr.abs, hi]); simp [DVs.av, DV.av, BR.av, hρ, Row.len, ha0, ab0, ha1, ab1, ha2, ab2]), by
          obtain ⟨H1, k1, k2, _⟩ := laws_markThirds_fn v228 v229 v230 v231 F' (by rw [hi]; rfl) hst ⟨⟨⟨_, rfl, Nat.le_refl _, Nat.le_refl _, fun _ => rfl, (ownR_spec (DVs.okAt (DVs.okAt ha 0 rfl) 0 rfl) (ownF32_or hqv228)).2.2.2⟩, ⟨_, rfl, Nat.le_refl _, Nat.le_refl _, fun _ => rfl, (ownR_spec (DVs.okAt (DVs.okAt ha 0 rfl) 1 rfl) (ownF32_or hqv229)).2.2.2⟩, ⟨_, rfl, Nat.le_refl _, Nat.le_refl _, fun _ => rfl, (ownR_spec (DVs.okAt (DVs.okAt ha 0 rfl) 2 rfl) (ownF32_or hqv230)).2.2.2⟩, trivial⟩, trivial, trivial⟩ hy
          exact ⟨H1, k1, k2⟩⟩) (fun F' => rfl) (fun L' => trivial)
    · cases hr
  · cases hr
/-! laws.markFloat32S -/
noncomputable def laws_markFloat32S_i1_l0_T (s : Unit) : Tree ((Unit) ⊕ (Unit)) :=
  (.br (decide ((0 : Int) < (0 : Int))) (
   .fail
  ) (
   .leaf (.inr ())
  ))

noncomputable def laws_markFloat32S_i1_l0_g (s0 : Unit) : Option (Unit) := whileM (fun s => (laws_markFloat32S_i1_l0_T s).run) s0
def laws_markFloat32S_i1_l0_E (v238 : Int) (s : Unit) : Sd := ([.nilslc, .int .i64 v238, .top, .top, .top, .int .i64 (0 : Int), .top, .top, .top, .top, .top, .top, .top, .top, .top, .top, .top, .top, .top, .top], [])
def laws_markFloat32S_i1_l0_X (v238 : Int) (x : Unit) : Out := (.normal, [.top, .int .i64 v238, .top, .top, .top, .top, .top, .top, .top, .top, .top, .top, .top, .top, .top, .top, .top, .top, .top, .top], [])
def laws_markFloat32S_i1_l0_kill : List Nat := [0, 0, 1, 1, 1, 0, 1, 1, 1, 1, 1, 1, 1, 1, 1, 1, 1, 1, 1, 1]
def laws_markFloat32S_i1_l0_nx : Exit → List Nat
  | .exit 0 => [1, 0, 1, 1, 1, 1, 1, 1, 1, 1, 1, 1, 1, 1, 1, 1, 1, 1, 1, 1]
  | .ret => [1, 1, 1, 1, 0, 1, 1, 1, 1, 1, 1, 1, 1, 1, 1, 1, 1, 1, 1, 1]
  | _ => []
noncomputable def laws_markFloat32S_i1_LO (v238 : Int) : LOr := fun id e L =>
  match id with
  | 0 => .need (normA 0 laws_markFloat32S_i1_l0_kill e L = some (laws_markFloat32S_i1_l0_E v238 ())) (.call (laws_markFloat32S_i1_l0_g ()) fun x => .leaf (laws_markFloat32S_i1_l0_X v238 x))
  | _ => .fail
noncomputable def laws_markFloat32S_i1_tab : List (FuncId × DFn × Bool) := []
theorem laws_markFloat32S_i1_hO : OrcOk Try.prog (tabD laws_markFloat32S_i1_tab) (tabM laws_markFloat32S_i1_tab) := tabD_nil _
theorem laws_markFloat32S_i1_l0_be (v238 : Int) (s : Unit) : bodyT TT (tabD laws_markFloat32S_i1_tab) (tabM laws_markFloat32S_i1_tab) (laws_markFloat32S_i1_LO v238) 0 laws_markFloat32S_i1_l0_kill laws_markFloat32S_i1_l0_nx (bodyOf Try.f30 0) 0 (laws_markFloat32S_i1_l0_E v238 s) = (laws_markFloat32S_i1_l0_T s).bind fun y => .leaf (outS (laws_markFloat32S_i1_l0_E v238) (laws_markFloat32S_i1_l0_X v238) y) := by kernel_rfl
theorem laws_markFloat32S_i1_l0_ok (v238 : Int) : LSound Try.prog 0 (laws_markFloat32S_i1_LO v238) 0 (bodyOf Try.f30 0) := by
  intro e L out h
  exact lo_ok (E := laws_markFloat32S_i1_l0_E v238) (gT := laws_markFloat32S_i1_l0_T) (X := laws_markFloat32S_i1_l0_X v238) (s0 := ()) tok laws_markFloat32S_i1_hO mixed (LoopsOk_eq (l := []) (by kernel_rfl) trivial) (laws_markFloat32S_i1_l0_be v238) rfl (by intro x; rfl) h
noncomputable def laws_markFloat32S_i1_T (v238 : Int) : Tree (Int) :=
  (.need (some (laws_markFloat32S_i1_l0_E v238 ()) = some (laws_markFloat32S_i1_l0_E v238 ())) <|
  (.call (laws_markFloat32S_i1_l0_g ()) fun v241 =>
  .leaf v238))

noncomputable def laws_markFloat32S_i1_g (v238 : Int) : Option (Int) := (laws_markFloat32S_i1_T v238).run
def laws_markFloat32S_i1_enc (v238 : Int) (y : Int) : Rs := (.int .i64 y, [])
theorem laws_markFloat32S_i1_den (v238 : Int) : (den TT (tabD laws_markFloat32S_i1_tab) (tabM laws_markFloat32S_i1_tab) (laws_markFloat32S_i1_LO v238) (codeOf Try.f30) ([.nilslc, .int .i64 v238] ++ List.replicate (Try.f30.ntmps - ([.nilslc, .int .i64 v238] : List DV).length) .undef) []).bind (retD TT Try.f30.results.toList 0) = (laws_markFloat32S_i1_T v238).bind fun y => .leaf (laws_markFloat32S_i1_enc v238 y) := by kernel_rfl
theorem laws_markFloat32S_i1_fn (v238 : Int) (F : Fr) (hm : F.ids.length = 0) (h0 : St F [] F.H0) (hA : DVs.Ok F [] [.nilslc, .int .i64 v238]) {y : Int} (hy : laws_markFloat32S_i1_g v238 = some y) : ∃ H', FnOk Try.prog 30 (DVs.av F [.nilslc, .int .i64 v238]) F.H0 ((laws_markFloat32S_i1_enc v238 y).1.av F) H' ∧ St F (laws_markFloat32S_i1_enc v238 y).2 H' ∧ (laws_markFloat32S_i1_enc v238 y).1.Ok F (laws_markFloat32S_i1_enc v238 y).2 :=
  fn_fin tok laws_markFloat32S_i1_hO mixed Try.func30 Try.call30 (by kernel_rfl) (LoopsOk_eq (l := [(0, bodyOf Try.f30 0)]) (by kernel_rfl) ⟨laws_markFloat32S_i1_l0_ok v238, trivial⟩) (laws_markFloat32S_i1_den v238) hy hm h0 hA
noncomputable def laws_markFloat32S_i1_F : DFn := fun args L =>
  match args with
  | [.nilslc, .int .i64 v238] =>
    .call (laws_markFloat32S_i1_g v238) fun y => .leaf (.int .i64 y, L)
  | _ => .fail
theorem laws_markFloat32S_i1_Fok : COk Try.prog 30 laws_markFloat32S_i1_F true := by
  intro F L H args r L' hs ha hr
  unfold laws_markFloat32S_i1_F at hr
  split at hr
  · rename_i v238
    simp only [Tree.run] at hr
    obtain ⟨y, hy, hr⟩ := Option.bind_eq_some_iff.1 hr
    simp only [Tree.run, Option.some.injEq, Prod.mk.injEq] at hr
    obtain ⟨rfl, rfl⟩ := hr
    exact call_ok0 hs (fun k => (([] : List AV)[k]?).getD .top) [.nilslc, .int .i64 v238] [.nilslc, .int .i64 v238] (fun F' h0 hi hρ => ⟨by simp [DVs.av, DV.av, BR.av, hρ], laws_markFloat32S_i1_fn v238 F' (by rw [hi]; rfl) (st_nil hi) ⟨trivial, trivial, trivial⟩ hy⟩) rfl
  · cases hr
/-! laws.heldFloat32S -/
noncomputable def laws_heldFloat32S_l0_T (v243 : List Nat) (s : Int × Int) : Tree ((Int × Int) ⊕ ((Unit) ⊕ (Int))) :=
  (.br (decide (s.2 < ((v243.length : Nat) : Int))) (
   (.grd (inb s.2 v243.length) <|
   (.br (!feq .f32 (nth v243 (Int.toNat s.2)) (fofint .f32 s.1)) (
    .leaf (.inr (.inl ()))
   ) (
    .leaf (.inl (IntKind.i64.wrap (s.1 + (1 : Int)), IntKind.i64.wrap (s.2 + (1 : Int))))
   )))
  ) (
   .leaf (.inr (.inr s.1))
  ))

noncomputable def laws_heldFloat32S_l0_g (v243 : List Nat) (s0 : Int × Int) : Option ((Unit) ⊕ (Int)) := whileM (fun s => (laws_heldFloat32S_l0_T v243 s).run) s0
def laws_heldFloat32S_l0_E (v243 : List Nat) (v244 : Int) (s : Int × Int) : Sd := ([.bslc (BR.root 0) (.f32 v243), .int .i64 s.1, .top, .top, .top, .int .i64 s.2, .top, .top, .top, .top, .top, .top, .top, .top, .top, .top, .top, .top, .top, .top, .top, .top], [])
def laws_heldFloat32S_l0_X (v243 : List Nat) (v244 : Int) (x : (Unit) ⊕ (Int)) : Out := (match x with | .inl x => (.ret, [.top, .top, .top, .top, .int .i64 (-1 : Int), .top, .top, .top, .top, .top, .top, .top, .top, .top, .top, .top, .top, .top, .top, .top, .top, .top], []) | .inr x => (.normal, [.top, .int .i64 x, .top, .top, .top, .top, .top, .top, .top, .top, .top, .top, .top, .top, .top, .top, .top, .top, .top, .top, .top, .top], []))
def laws_heldFloat32S_l0_kill : List Nat := [0, 0, 1, 1, 1, 0, 1, 1, 1, 1, 1, 1, 1, 1, 1, 1, 1, 1, 1, 1, 1, 1]
def laws_heldFloat32S_l0_nx : Exit → List Nat
  | .exit 0 => [1, 0, 1, 1, 1, 1, 1, 1, 1, 1, 1, 1, 1, 1, 1, 1, 1, 1, 1, 1, 1, 1]
  | .ret => [1, 1, 1, 1, 0, 1, 1, 1, 1, 1, 1, 1, 1, 1, 1, 1, 1, 1, 1, 1, 1, 1]
  | _ => []
noncomputable def laws_heldFloat32S_LO (v243 : List Nat) (v244 : Int) : LOr := fun id e L =>
  match id with
  | 0 => .need (normA 0 laws_heldFloat32S_l0_kill e L = some (laws_heldFloat32S_l0_E v243 v244 ((gI (vAt e 1)), (gI (vAt e 5))))) (.call (laws_heldFloat32S_l0_g v243 ((gI (vAt e 1)), (gI (vAt e 5)))) fun x => .sum x (fun b0 => .leaf (laws_heldFloat32S_l0_X v243 v244 (.inl b0))) (fun c0 => .leaf (laws_heldFloat32S_l0_X v243 v244 (.inr c0))))
  | _ => .fail
noncomputable def laws_heldFloat32S_tab : List (FuncId × DFn × Bool) := []
theorem laws_heldFloat32S_hO : OrcOk Try.prog (tabD laws_heldFloat32S_tab) (tabM laws_heldFloat32S_tab) := tabD_nil _
theorem laws_heldFloat32S_l0_be (v243 : List Nat) (v244 : Int) (s : Int × Int) : bodyT TT (tabD laws_heldFloat32S_tab) (tabM laws_heldFloat32S_tab) (laws_heldFloat32S_LO v243 v244) 0 laws_heldFloat32S_l0_kill laws_heldFloat32S_l0_nx (bodyOf Try.f31 0) 0 (laws_heldFloat32S_l0_E v243 v244 s) = (laws_heldFloat32S_l0_T v243 s).bind fun y => .leaf (outS (laws_heldFloat32S_l0_E v243 v244) (laws_heldFloat32S_l0_X v243 v244) y) := by kernel_rfl
theorem laws_heldFloat32S_l0_ok (v243 : List Nat) (v244 : Int) : LSound Try.prog 0 (laws_heldFloat32S_LO v243 v244) 0 (bodyOf Try.f31 0) := by
  intro e L out h
  exact lo_ok (E := laws_heldFloat32S_l0_E v243 v244) (gT := laws_heldFloat32S_l0_T v243) (X := laws_heldFloat32S_l0_X v243 v244) (s0 := ((gI (vAt e 1)), (gI (vAt e 5)))) tok laws_heldFloat32S_hO mixed (LoopsOk_eq (l := []) (by kernel_rfl) trivial) (laws_heldFloat32S_l0_be v243 v244) rfl (by intro x; (cases x with | inl b => rfl | inr x => exact rfl)) h
noncomputable def laws_heldFloat32S_T (v243 : List Nat) (v244 : Int) : Tree (Int) :=
  (.need (some (laws_heldFloat32S_l0_E v243 v244 (v244, (0 : Int))) = some (laws_heldFloat32S_l0_E v243 v244 (v244, (0 : Int)))) <|
  (.call (laws_heldFloat32S_l0_g v243 (v244, (0 : Int))) fun v251 =>
  (.sum v251 (fun v252 =>
   .leaf (-1 : Int)
  ) (fun v253 =>
   .leaf v253
  ))))

noncomputable def laws_heldFloat32S_g (v243 : List Nat) (v244 : Int) : Option (Int) := (laws_heldFloat32S_T v243 v244).run
def laws_heldFloat32S_enc (v243 : List Nat) (v244 : Int) (y : Int) : Rs := (.int .i64 y, [])
theorem laws_heldFloat32S_den (v243 : List Nat) (v244 : Int) : (den TT (tabD laws_heldFloat32S_tab) (tabM laws_heldFloat32S_tab) (laws_heldFloat32S_LO v243 v244) (codeOf Try.f31) ([.bslc (BR.root 0) (.f32 v243), .int .i64 v244] ++ List.replicate (Try.f31.ntmps - ([.bslc (BR.root 0) (.f32 v243), .int .i64 v244] : List DV).length) .undef) []).bind (retD TT Try.f31.results.toList 0) = (laws_heldFloat32S_T v243 v244).bind fun y => .leaf (laws_heldFloat32S_enc v243 v244 y) := by kernel_rfl
theorem laws_heldFloat32S_fn (v243 : List Nat) (v244 : Int) (F : Fr) (hm : F.ids.length = 0) (h0 : St F [] F.H0) (hA : DVs.Ok F [] [.bslc (BR.root 0) (.f32 v243), .int .i64 v244]) {y : Int} (hy : laws_heldFloat32S_g v243 v244 = some y) : ∃ H', FnOk Try.prog 31 (DVs.av F [.bslc (BR.root 0) (.f32 v243), .int .i64 v244]) F.H0 ((laws_heldFloat32S_enc v243 v244 y).1.av F) H' ∧ St F (laws_heldFloat32S_enc v243 v244 y).2 H' ∧ (laws_heldFloat32S_enc v243 v244 y).1.Ok F (laws_heldFloat32S_enc v243 v244 y).2 :=
  fn_fin tok laws_heldFloat32S_hO mixed Try.func31 Try.call31 (by kernel_rfl) (LoopsOk_eq (l := [(0, bodyOf Try.f31 0)]) (by kernel_rfl) ⟨laws_heldFloat32S_l0_ok v243 v244, trivial⟩) (laws_heldFloat32S_den v243 v244) hy hm h0 hA
noncomputable def laws_heldFloat32S_F : DFn := fun args L =>
  match args with
  | [a1, .int .i64 v244] =>
    optT (rowF32 L a1) fun v243 =>
    .call (laws_heldFloat32S_g v243 v244) fun y => .leaf (.int .i64 y, L)
  | _ => .fail
theorem laws_heldFloat32S_Fok : COk Try.prog 31 laws_heldFloat32S_F true := by
  intro F L H args r L' hs ha hr
  unfold laws_heldFloat32S_F at hr
  split at hr
  · rename_i a1 v244
    obtain ⟨v243, hv243, hr⟩ := optT_run hr
    simp only [Tree.run] at hr
    obtain ⟨y, hy, hr⟩ := Option.bind_eq_some_iff.1 hr
    simp only [Tree.run, Option.some.injEq, Prod.mk.injEq] at hr
    obtain ⟨rfl, rfl⟩ := hr
    exact call_ok0 hs (fun k => (([a1.av F] : List AV)[k]?).getD .top) [a1, .int .i64 v244] [.bslc (BR.root 0) (.f32 v243), .int .i64 v244] (fun F' h0 hi hρ => ⟨by simp [DVs.av, DV.av, BR.av, hρ], laws_heldFloat32S_fn v243 v244 F' (by rw [hi]; rfl) (st_nil hi) ⟨bslc_ok hi (by rw [h0, hρ]; exact rowF32_ok hs (DVs.okAt ha 0 rfl) hv243), trivial, trivial⟩ hy⟩) rfl
  · cases hr
/-! laws.FnExactThirdsSolve -/
noncomputable def laws_FnExactThirdsSolve_LO (v1 : List Nat) (v2 : List Nat) (v3 : List Nat) (v4 : List Nat) : LOr := fun id e L =>
  match id with
  | _ => .fail
noncomputable def laws_FnExactThirdsSolve_tab : List (FuncId × DFn × Bool) := [(22, laws_szThirds_F, true), (24, laws_toThirds_F, true), (25, laws_toFloat32S_F, true), (23, spec_ThirdsSolve_F, true), (26, impl_ThirdsSolve_F, true), (27, laws_eqFloat32S_F, true), (28, laws_eqThirds_F, true), (29, laws_markThirds_F, false), (30, (orD (fun args => match args with | [.nilslc, _] => true | _ => false) laws_markFloat32S_i1_F laws_markFloat32S_F), false), (31, laws_heldFloat32S_F, true)]
theorem laws_FnExactThirdsSolve_hO : OrcOk Try.prog (tabD laws_FnExactThirdsSolve_tab) (tabM laws_FnExactThirdsSolve_tab) := tabD_cons laws_szThirds_Fok (tabD_cons laws_toThirds_Fok (tabD_cons laws_toFloat32S_Fok (tabD_cons spec_ThirdsSolve_Fok (tabD_cons impl_ThirdsSolve_Fok (tabD_cons laws_eqFloat32S_Fok (tabD_cons laws_eqThirds_Fok (tabD_cons laws_markThirds_Fok (tabD_cons (orD_ok (COk.weak laws_markFloat32S_i1_Fok) laws_markFloat32S_Fok) (tabD_cons laws_heldFloat32S_Fok (tabD_nil _))))))))))
noncomputable def laws_FnExactThirdsSolve_T (v1 : List Nat) (v2 : List Nat) (v3 : List Nat) (v4 : List Nat) : Tree (Bool) :=
  (.br (decide ((1048576 : Int) < ((v4.length : Nat) : Int))) (
   .leaf true
  ) (
   (.br (decide ((laws_szThirds_v v1 v2 v3 (1048576 : Int)) < (0 : Int))) (
    .leaf true
   ) (
    (.call (laws_toThirds_g v1 v2 v3) fun v24 =>
    (.call (laws_toFloat32S_g v4) fun v25 =>
    (.call (spec_ThirdsSolve_g v24.1 v24.2.1 v24.2.2 v25) fun v85 =>
    (.sum v85 (fun v86 =>
     (.call (laws_toThirds_g v1 v2 v3) fun v88 =>
     (.call (laws_toFloat32S_g v4) fun v89 =>
     (.call (impl_ThirdsSolve_g v88.1 v88.2.1 v88.2.2 v89) fun v171 =>
     (.sum v171 (fun v172 =>
      (.call (laws_eqFloat32S_g ([] : List Nat) ([] : List Nat)) fun v184 =>
      (.br (!v184) (
       .leaf false
      ) (
       (.br (!(false == false)) (
        .leaf false
       ) (
        (.call (laws_toThirds_g v1 v2 v3) fun v185 =>
        (.call (laws_eqThirds_g v88.1 v88.2.1 v88.2.2 v185.1 v185.2.1 v185.2.2) fun v195 =>
        (.br (!v195) (
         .leaf false
        ) (
         (.call (laws_toFloat32S_g v4) fun v196 =>
         (.call (laws_eqFloat32S_g v89 v196) fun v197 =>
         (.br (!v197) (
          .leaf false
         ) (
          (.call (laws_markThirds_g v88.1 v88.2.1 v88.2.2 (1 : Int)) fun v235 =>
          (.grd (decide (v235.2.1.length = v88.1.length)) <|
          (.grd (decide (v235.2.2.1.length = v88.2.1.length)) <|
          (.grd (decide (v235.2.2.2.length = v88.2.2.length)) <|
          (.call (laws_markFloat32S_g v89 v235.1) fun v236 =>
          (.grd (decide (v236.2.length = v89.length)) <|
          (.br (decide (v236.1 < (0 : Int))) (
           .leaf false
          ) (
           (.call (laws_eqFloat32S_g ([] : List Nat) ([] : List Nat)) fun v237 =>
           (.br (!v237) (
            .leaf false
           ) (
            (.br (!(false == false)) (
             .leaf false
            ) (
             (.call (laws_markFloat32S_i1_g (1 : Int)) fun v242 =>
             (.call (laws_heldFloat32S_g ([] : List Nat) (1 : Int)) fun v254 =>
             (.br (decide (v254 < (0 : Int))) (
              .leaf false
             ) (
              (.br (!decide (v254 = v242)) (
               .leaf false
              ) (
               (.call (laws_toThirds_g v1 v2 v3) fun v255 =>
               (.call (laws_toFloat32S_g v4) fun v256 =>
               (.call (impl_ThirdsSolve_g v255.1 v255.2.1 v255.2.2 v256) fun v257 =>
               (.sum v257 (fun v258 =>
                (.call (laws_eqFloat32S_g ([] : List Nat) ([] : List Nat)) fun v260 =>
                (.br (!v260) (
                 .leaf false
                ) (
                 (.br (!(false == false)) (
                  .leaf false
                 ) (
                  (.call (laws_heldFloat32S_g ([] : List Nat) (1 : Int)) fun v261 =>
                  (.br (decide (v261 < (0 : Int))) (
                   .leaf false
                  ) (
                   (.br (!decide (v261 = v242)) (
                    .leaf false
                   ) (
                    .leaf true
                   ))
                  )))
                 ))
                )))
               ) (fun v259 =>
                (.call (laws_eqFloat32S_g v259 ([] : List Nat)) fun v262 =>
                (.br (!v262) (
                 .leaf false
                ) (
                 (.br (!(true == false)) (
                  .leaf false
                 ) (
                  (.call (laws_heldFloat32S_g ([] : List Nat) (1 : Int)) fun v263 =>
                  (.br (decide (v263 < (0 : Int))) (
                   .leaf false
                  ) (
                   (.br (!decide (v263 = v242)) (
                    .leaf false
                   ) (
                    .leaf true
                   ))
                  )))
                 ))
                )))
               )))))
              ))
             ))))
            ))
           )))
          ))))))))
         ))))
        ))))
       ))
      )))
     ) (fun v173 =>
      (.call (laws_eqFloat32S_g v173 ([] : List Nat)) fun v264 =>
      (.br (!v264) (
       .leaf false
      ) (
       (.br (!(true == false)) (
        .leaf false
       ) (
        (.call (laws_toThirds_g v1 v2 v3) fun v265 =>
        (.call (laws_eqThirds_g v88.1 v88.2.1 v88.2.2 v265.1 v265.2.1 v265.2.2) fun v266 =>
        (.br (!v266) (
         .leaf false
        ) (
         (.call (laws_toFloat32S_g v4) fun v267 =>
         (.call (laws_eqFloat32S_g v89 v267) fun v268 =>
         (.br (!v268) (
          .leaf false
         ) (
          (.call (laws_markThirds_g v88.1 v88.2.1 v88.2.2 (1 : Int)) fun v269 =>
          (.grd (decide (v269.2.1.length = v88.1.length)) <|
          (.grd (decide (v269.2.2.1.length = v88.2.1.length)) <|
          (.grd (decide (v269.2.2.2.length = v88.2.2.length)) <|
          (.call (laws_markFloat32S_g v89 v269.1) fun v270 =>
          (.grd (decide (v270.2.length = v89.length)) <|
          (.br (decide (v270.1 < (0 : Int))) (
           .leaf false
          ) (
           (.call (laws_eqFloat32S_g v173 ([] : List Nat)) fun v271 =>
           (.br (!v271) (
            .leaf false
           ) (
            (.br (!(true == false)) (
             .leaf false
            ) (
             (.call (laws_markFloat32S_g v173 (1 : Int)) fun v272 =>
             (.grd (decide (v272.2.length = v173.length)) <|
             (.call (laws_heldFloat32S_g v272.2 (1 : Int)) fun v273 =>
             (.br (decide (v273 < (0 : Int))) (
              .leaf false
             ) (
              (.br (!decide (v273 = v272.1)) (
               .leaf false
              ) (
               (.call (laws_toThirds_g v1 v2 v3) fun v274 =>
               (.call (laws_toFloat32S_g v4) fun v275 =>
               (.call (impl_ThirdsSolve_g v274.1 v274.2.1 v274.2.2 v275) fun v276 =>
               (.sum v276 (fun v277 =>
                (.call (laws_eqFloat32S_g ([] : List Nat) ([] : List Nat)) fun v279 =>
                (.br (!v279) (
                 .leaf false
                ) (
                 (.br (!(false == false)) (
                  .leaf false
                 ) (
                  (.call (laws_heldFloat32S_g v272.2 (1 : Int)) fun v280 =>
                  (.br (decide (v280 < (0 : Int))) (
                   .leaf false
                  ) (
                   (.br (!decide (v280 = v272.1)) (
                    .leaf false
                   ) (
                    .leaf true
                   ))
                  )))
                 ))
                )))
               ) (fun v278 =>
                (.call (laws_eqFloat32S_g v278 ([] : List Nat)) fun v281 =>
                (.br (!v281) (
                 .leaf false
                ) (
                 (.br (!(true == false)) (
                  .leaf false
                 ) (
                  (.call (laws_heldFloat32S_g v272.2 (1 : Int)) fun v282 =>
                  (.br (decide (v282 < (0 : Int))) (
                   .leaf false
                  ) (
                   (.br (!decide (v282 = v272.1)) (
                    .leaf false
                   ) (
                    .leaf true
                   ))
                  )))
                 ))
                )))
               )))))
              ))
             )))))
            ))
           )))
          ))))))))
         ))))
        ))))
       ))
      )))
     )))))
    ) (fun v87 =>
     (.call (laws_toThirds_g v1 v2 v3) fun v283 =>
     (.call (laws_toFloat32S_g v4) fun v284 =>
     (.call (impl_ThirdsSolve_g v283.1 v283.2.1 v283.2.2 v284) fun v285 =>
     (.sum v285 (fun v286 =>
      (.call (laws_eqFloat32S_g ([] : List Nat) v87) fun v288 =>
      (.br (!v288) (
       .leaf false
      ) (
       (.br (!(false == true)) (
        .leaf false
       ) (
        (.call (laws_toThirds_g v1 v2 v3) fun v289 =>
        (.call (laws_eqThirds_g v283.1 v283.2.1 v283.2.2 v289.1 v289.2.1 v289.2.2) fun v290 =>
        (.br (!v290) (
         .leaf false
        ) (
         (.call (laws_toFloat32S_g v4) fun v291 =>
         (.call (laws_eqFloat32S_g v284 v291) fun v292 =>
         (.br (!v292) (
          .leaf false
         ) (
          (.call (laws_markThirds_g v283.1 v283.2.1 v283.2.2 (1 : Int)) fun v293 =>
          (.grd (decide (v293.2.1.length = v283.1.length)) <|
          (.grd (decide (v293.2.2.1.length = v283.2.1.length)) <|
          (.grd (decide (v293.2.2.2.length = v283.2.2.length)) <|
          (.call (laws_markFloat32S_g v284 v293.1) fun v294 =>
          (.grd (decide (v294.2.length = v284.length)) <|
          (.br (decide (v294.1 < (0 : Int))) (
           .leaf false
          ) (
           (.call (laws_eqFloat32S_g ([] : List Nat) v87) fun v295 =>
           (.br (!v295) (
            .leaf false
           ) (
            (.br (!(false == true)) (
             .leaf false
            ) (
             (.call (laws_markFloat32S_i1_g (1 : Int)) fun v296 =>
             (.call (laws_heldFloat32S_g ([] : List Nat) (1 : Int)) fun v297 =>
             (.br (decide (v297 < (0 : Int))) (
              .leaf false
             ) (
              (.br (!decide (v297 = v296)) (
               .leaf false
              ) (
               (.call (laws_toThirds_g v1 v2 v3) fun v298 =>
               (.call (laws_toFloat32S_g v4) fun v299 =>
               (.call (impl_ThirdsSolve_g v298.1 v298.2.1 v298.2.2 v299) fun v300 =>
               (.sum v300 (fun v301 =>
                (.call (laws_eqFloat32S_g ([] : List Nat) v87) fun v303 =>
                (.br (!v303) (
                 .leaf false
                ) (
                 (.br (!(false == true)) (
                  .leaf false
                 ) (
                  (.call (laws_heldFloat32S_g ([] : List Nat) (1 : Int)) fun v304 =>
                  (.br (decide (v304 < (0 : Int))) (
                   .leaf false
                  ) (
                   (.br (!decide (v304 = v296)) (
                    .leaf false
                   ) (
                    .leaf true
                   ))
                  )))
                 ))
                )))
               ) (fun v302 =>
                (.call (laws_eqFloat32S_g v302 v87) fun v305 =>
                (.br (!v305) (
                 .leaf false
                ) (
                 (.br (!(true == true)) (
                  .leaf false
                 ) (
                  (.call (laws_heldFloat32S_g ([] : List Nat) (1 : Int)) fun v306 =>
                  (.br (decide (v306 < (0 : Int))) (
                   .leaf false
                  ) (
                   (.br (!decide (v306 = v296)) (
                    .leaf false
                   ) (
                    .leaf true
                   ))
                  )))
                 ))
                )))
               )))))
              ))
             ))))
            ))
           )))
          ))))))))
         ))))
        ))))
       ))
      )))
     ) (fun v287 =>
      (.call (laws_eqFloat32S_g v287 v87) fun v307 =>
      (.br (!v307) (
       .leaf false
      ) (
       (.br (!(true == true)) (
        .leaf false
       ) (
        (.call (laws_toThirds_g v1 v2 v3) fun v308 =>
        (.call (laws_eqThirds_g v283.1 v283.2.1 v283.2.2 v308.1 v308.2.1 v308.2.2) fun v309 =>
        (.br (!v309) (
         .leaf false
        ) (
         (.call (laws_toFloat32S_g v4) fun v310 =>
         (.call (laws_eqFloat32S_g v284 v310) fun v311 =>
         (.br (!v311) (
          .leaf false
         ) (
          (.call (laws_markThirds_g v283.1 v283.2.1 v283.2.2 (1 : Int)) fun v312 =>
          (.grd (decide (v312.2.1.length = v283.1.length)) <|
          (.grd (decide (v312.2.2.1.length = v283.2.1.length)) <|
          (.grd (decide (v312.2.2.2.length = v283.2.2.length)) <|
          (.call (laws_markFloat32S_g v284 v312.1) fun v313 =>
          (.grd (decide (v313.2.length = v284.length)) <|
          (.br (decide (v313.1 < (0 : Int))) (
           .leaf false
          ) (
           (.call (laws_eqFloat32S_g v287 v87) fun v314 =>
           (.br (!v314) (
            .leaf false
           ) (
            (.br (!(true == true)) (
             .leaf false
            ) (
             (.call (laws_markFloat32S_g v287 (1 : Int)) fun v315 =>
             (.grd (decide (v315.2.length = v287.length)) <|
             (.call (laws_heldFloat32S_g v315.2 (1 : Int)) fun v316 =>
             (.br (decide (v316 < (0 : Int))) (
              .leaf false
             ) (
              (.br (!decide (v316 = v315.1)) (
               .leaf false
              ) (
               (.call (laws_toThirds_g v1 v2 v3) fun v317 =>
               (.call (laws_toFloat32S_g v4) fun v318 =>
               (.call (impl_ThirdsSolve_g v317.1 v317.2.1 v317.2.2 v318) fun v319 =>
               (.sum v319 (fun v320 =>
                (.call (laws_eqFloat32S_g ([] : List Nat) v87) fun v322 =>
                (.br (!v322) (
                 .leaf false
                ) (
                 (.br (!(false == true)) (
                  .leaf false
                 ) (
                  (.call (laws_heldFloat32S_g v315.2 (1 : Int)) fun v323 =>
                  (.br (decide (v323 < (0 : Int))) (
                   .leaf false
                  ) (
                   (.br (!decide (v323 = v315.1)) (
                    .leaf false
                   ) (
                    .leaf true
                   ))
                  )))
                 ))
                )))
               ) (fun v321 =>
                (.call (laws_eqFloat32S_g v321 v87) fun v324 =>
                (.br (!v324) (
                 .leaf false
                ) (
                 (.br (!(true == true)) (
                  .leaf false
                 ) (
                  (.call (laws_heldFloat32S_g v315.2 (1 : Int)) fun v325 =>
                  (.br (decide (v325 < (0 : Int))) (
                   .leaf false
                  ) (
                   (.br (!decide (v325 = v315.1)) (
                    .leaf false
                   ) (
                    .leaf true
                   ))
                  )))
                 ))
                )))
               )))))
              ))
             )))))
            ))
           )))
          ))))))))
         ))))
        ))))
       ))
      )))
     )))))
    )))))
   ))
  ))

noncomputable def laws_FnExactThirdsSolve_g (v1 : List Nat) (v2 : List Nat) (v3 : List Nat) (v4 : List Nat) : Option (Bool) := (laws_FnExactThirdsSolve_T v1 v2 v3 v4).run
def laws_FnExactThirdsSolve_enc (v1 : List Nat) (v2 : List Nat) (v3 : List Nat) (v4 : List Nat) (y : Bool) : Rs := (.bool y, [])
theorem laws_FnExactThirdsSolve_den (v1 : List Nat) (v2 : List Nat) (v3 : List Nat) (v4 : List Nat) : (den TT (tabD laws_FnExactThirdsSolve_tab) (tabM laws_FnExactThirdsSolve_tab) (laws_FnExactThirdsSolve_LO v1 v2 v3 v4) (codeOf Try.f4) ([.agg [.bslc (BR.root 0) (.f32 v1), .bslc (BR.root 1) (.f32 v2), .bslc (BR.root 2) (.f32 v3)], .bslc (BR.root 3) (.f32 v4)] ++ List.replicate (Try.f4.ntmps - ([.agg [.bslc (BR.root 0) (.f32 v1), .bslc (BR.root 1) (.f32 v2), .bslc (BR.root 2) (.f32 v3)], .bslc (BR.root 3) (.f32 v4)] : List DV).length) .undef) []).bind (retD TT Try.f4.results.toList 0) = (laws_FnExactThirdsSolve_T v1 v2 v3 v4).bind fun y => .leaf (laws_FnExactThirdsSolve_enc v1 v2 v3 v4 y) := by kernel_rfl
theorem laws_FnExactThirdsSolve_fn (v1 : List Nat) (v2 : List Nat) (v3 : List Nat) (v4 : List Nat) (F : Fr) (hm : F.ids.length = 0) (h0 : St F [] F.H0) (hA : DVs.Ok F [] [.agg [.bslc (BR.root 0) (.f32 v1), .bslc (BR.root 1) (.f32 v2), .bslc (BR.root 2) (.f32 v3)], .bslc (BR.root 3) (.f32 v4)]) {y : Bool} (hy : laws_FnExactThirdsSolve_g v1 v2 v3 v4 = some y) : ∃ H', FnOk Try.prog 4 (DVs.av F [.agg [.bslc (BR.root 0) (.f32 v1), .bslc (BR.root 1) (.f32 v2), .bslc (BR.root 2) (.f32 v3)], .bslc (BR.root 3) (.f32 v4)]) F.H0 ((laws_FnExactThirdsSolve_enc v1 v2 v3 v4 y).1.av F) H' ∧ St F (laws_FnExactThirdsSolve_enc v1 v2 v3 v4 y).2 H' ∧ (laws_FnExactThirdsSolve_enc v1 v2 v3 v4 y).1.Ok F (laws_FnExactThirdsSolve_enc v1 v2 v3 v4 y).2 :=
  fn_fin tok laws_FnExactThirdsSolve_hO mixed Try.func4 Try.call4 (by kernel_rfl) (LoopsOk_eq (l := []) (by kernel_rfl) trivial) (laws_FnExactThirdsSolve_den v1 v2 v3 v4) hy hm h0 hA
noncomputable def laws_FnExactThirdsSolve_F : DFn := fun args L =>
  match args with
  | [.agg [a1, a2, a3], a4] =>
    optT (rowF32 L a1) fun v1 =>
    optT (rowF32 L a2) fun v2 =>
    optT (rowF32 L a3) fun v3 =>
    optT (rowF32 L a4) fun v4 =>
    .call (laws_FnExactThirdsSolve_g v1 v2 v3 v4) fun y => .leaf (.bool y, L)
  | _ => .fail
theorem laws_FnExactThirdsSolve_Fok : COk Try.prog 4 laws_FnExactThirdsSolve_F true := by
  intro F L H args r L' hs ha hr
  unfold laws_FnExactThirdsSolve_F at hr
  split at hr
  · rename_i a1 a2 a3 a4
    obtain ⟨v1, hv1, hr⟩ := optT_run hr
    obtain ⟨v2, hv2, hr⟩ := optT_run hr
    obtain ⟨v3, hv3, hr⟩ := optT_run hr
    obtain ⟨v4, hv4, hr⟩ := optT_run hr
    simp only [Tree.run] at hr
    obtain ⟨y, hy, hr⟩ := Option.bind_eq_some_iff.1 hr
    simp only [Tree.run, Option.some.injEq, Prod.mk.injEq] at hr
    obtain ⟨rfl, rfl⟩ := hr
    exact call_ok0 hs (fun k => (([a1.av F, a2.av F, a3.av F, a4.av F] : List AV)[k]?).getD .top) [.agg [a1, a2, a3], a4] [.agg [.bslc (BR.root 0) (.f32 v1), .bslc (BR.root 1) (.f32 v2), .bslc (BR.root 2) (.f32 v3)], .bslc (BR.root 3) (.f32 v4)] (fun F' h0 hi hρ => ⟨by simp [DVs.av, DV.av, BR.av, hρ], laws_FnExactThirdsSolve_fn v1 v2 v3 v4 F' (by rw [hi]; rfl) (st_nil hi) ⟨⟨bslc_ok hi (by rw [h0, hρ]; exact rowF32_ok hs (DVs.okAt (DVs.okAt ha 0 rfl) 0 rfl) hv1), bslc_ok hi (by rw [h0, hρ]; exact rowF32_ok hs (DVs.okAt (DVs.okAt ha 0 rfl) 1 rfl) hv2), bslc_ok hi (by rw [h0, hρ]; exact rowF32_ok hs (DVs.okAt (DVs.okAt ha 0 rfl) 2 rfl) hv3), trivial⟩, bslc_ok hi (by rw [h0, hρ]; exact rowF32_ok hs (DVs.okAt ha 1 rfl) hv4), trivial⟩ hy⟩) rfl
  · cases hr
/-! laws.szFloat32S -/
noncomputable def laws_szFloat32S_len_LO (v334 : Nat) (v335 : Int) : LOr := fun id e L =>
  match id with
  | _ => .fail
noncomputable def laws_szFloat32S_len_tab : List (FuncId × DFn × Bool) := []
theorem laws_szFloat32S_len_hO : OrcOk Try.prog (tabD laws_szFloat32S_len_tab) (tabM laws_szFloat32S_len_tab) := tabD_nil _
noncomputable def laws_szFloat32S_len_T (v334 : Nat) (v335 : Int) : Tree (Int) :=
  (.br (decide (IntKind.i64.wrap (v335 - ((v334 : Nat) : Int)) < (0 : Int))) (
   .leaf (-1 : Int)
  ) (
   .leaf (IntKind.i64.wrap (v335 - ((v334 : Nat) : Int)))
  ))

noncomputable def laws_szFloat32S_len_g (v334 : Nat) (v335 : Int) : Option (Int) := (laws_szFloat32S_len_T v334 v335).run
def laws_szFloat32S_len_enc (v334 : Nat) (v335 : Int) (y : Int) : Rs := (.int .i64 y, [])
theorem laws_szFloat32S_len_den (v334 : Nat) (v335 : Int) : (den TT (tabD laws_szFloat32S_len_tab) (tabM laws_szFloat32S_len_tab) (laws_szFloat32S_len_LO v334 v335) (codeOf Try.f77) ([.hslc (BR.root 0) v334, .int .i64 v335] ++ List.replicate (Try.f77.ntmps - ([.hslc (BR.root 0) v334, .int .i64 v335] : List DV).length) .undef) []).bind (retD TT Try.f77.results.toList 0) = (laws_szFloat32S_len_T v334 v335).bind fun y => .leaf (laws_szFloat32S_len_enc v334 v335 y) := by kernel_rfl
theorem laws_szFloat32S_len_fn (v334 : Nat) (v335 : Int) (F : Fr) (hm : F.ids.length = 0) (h0 : St F [] F.H0) (hA : DVs.Ok F [] [.hslc (BR.root 0) v334, .int .i64 v335]) {y : Int} (hy : laws_szFloat32S_len_g v334 v335 = some y) : ∃ H', FnOk Try.prog 77 (DVs.av F [.hslc (BR.root 0) v334, .int .i64 v335]) F.H0 ((laws_szFloat32S_len_enc v334 v335 y).1.av F) H' ∧ St F (laws_szFloat32S_len_enc v334 v335 y).2 H' ∧ (laws_szFloat32S_len_enc v334 v335 y).1.Ok F (laws_szFloat32S_len_enc v334 v335 y).2 :=
  fn_fin tok laws_szFloat32S_len_hO mixed Try.func77 Try.call77 (by kernel_rfl) (LoopsOk_eq (l := []) (by kernel_rfl) trivial) (laws_szFloat32S_len_den v334 v335) hy hm h0 hA
def laws_szFloat32S_len_v (v334 : Nat) (v335 : Int) : Int :=
  if (decide (IntKind.i64.wrap (v335 - ((v334 : Nat) : Int)) < (0 : Int))) = true then (
   (-1 : Int)
  ) else (
   IntKind.i64.wrap (v335 - ((v334 : Nat) : Int))
  )
theorem laws_szFloat32S_len_tot (v334 : Nat) (v335 : Int) : laws_szFloat32S_len_g v334 v335 = some (laws_szFloat32S_len_v v334 v335) := by
  unfold laws_szFloat32S_len_g laws_szFloat32S_len_T laws_szFloat32S_len_v
  simp only [Tree.run]
  repeat' (first | rfl | split)
noncomputable def laws_szFloat32S_len_F : DFn := fun args L =>
  match args with
  | [a1, .int .i64 v335] =>
    optT (lenV L a1) fun v334 =>
    .leaf (.int .i64 (laws_szFloat32S_len_v v334 v335), L)
  | _ => .fail
theorem laws_szFloat32S_len_Fok : COk Try.prog 77 laws_szFloat32S_len_F true := by
  intro F L H args r L' hs ha hr
  unfold laws_szFloat32S_len_F at hr
  split at hr
  · rename_i a1 v335
    obtain ⟨v334, hv334, hr⟩ := optT_run hr
    have hy := laws_szFloat32S_len_tot v334 v335
    generalize laws_szFloat32S_len_v v334 v335 = y at hy hr
    simp only [Tree.run, Option.some.injEq, Prod.mk.injEq] at hr
    obtain ⟨rfl, rfl⟩ := hr
    exact call_ok0 hs (fun k => (([a1.av F] : List AV)[k]?).getD .top) [a1, .int .i64 v335] [.hslc (BR.root 0) v334, .int .i64 v335] (fun F' h0 hi hρ => ⟨by simp [DVs.av, DV.av, BR.av, hρ], laws_szFloat32S_len_fn v334 v335 F' (by rw [hi]; rfl) (st_nil hi) ⟨hslc_ok hi (by rw [h0, hρ]; exact lenV_ok hs (DVs.okAt ha 0 rfl) hv334), trivial, trivial⟩ hy⟩) rfl
  · cases hr
/-! laws.szThirds -/
noncomputable def laws_szThirds_len_LO (v330 : Nat) (v331 : Nat) (v332 : Nat) (v333 : Int) : LOr := fun id e L =>
  match id with
  | _ => .fail
noncomputable def laws_szThirds_len_tab : List (FuncId × DFn × Bool) := [(77, laws_szFloat32S_len_F, true)]
theorem laws_szThirds_len_hO : OrcOk Try.prog (tabD laws_szThirds_len_tab) (tabM laws_szThirds_len_tab) := tabD_cons laws_szFloat32S_len_Fok (tabD_nil _)
noncomputable def laws_szThirds_len_T (v330 : Nat) (v331 : Nat) (v332 : Nat) (v333 : Int) : Tree (Int) :=
  (.br (decide ((laws_szFloat32S_len_v v330 v333) < (0 : Int))) (
   .leaf (-1 : Int)
  ) (
   (.br (decide ((laws_szFloat32S_len_v v331 (laws_szFloat32S_len_v v330 v333)) < (0 : Int))) (
    .leaf (-1 : Int)
   ) (
    (.br (decide ((laws_szFloat32S_len_v v332 (laws_szFloat32S_len_v v331 (laws_szFloat32S_len_v v330 v333))) < (0 : Int))) (
     .leaf (-1 : Int)
    ) (
     .leaf (laws_szFloat32S_len_v v332 (laws_szFloat32S_len_v v331 (laws_szFloat32S_len_v v330 v333)))
    ))
   ))
  ))

noncomputable def laws_szThirds_len_g (v330 : Nat) (v331 : Nat) (v332 : Nat) (v333 : Int) : Option (Int) := (laws_szThirds_len_T v330 v331 v332 v333).run
def laws_szThirds_len_enc (v330 : Nat) (v331 : Nat) (v332 : Nat) (v333 : Int) (y : Int) : Rs := (.int .i64 y, [])
theorem laws_szThirds_len_den (v330 : Nat) (v331 : Nat) (v332 : Nat) (v333 : Int) : (den TT (tabD laws_szThirds_len_tab) (tabM laws_szThirds_len_tab) (laws_szThirds_len_LO v330 v331 v332 v333) (codeOf Try.f22) ([.agg [.hslc (BR.root 0) v330, .hslc (BR.root 1) v331, .hslc (BR.root 2) v332], .int .i64 v333] ++ List.replicate (Try.f22.ntmps - ([.agg [.hslc (BR.root 0) v330, .hslc (BR.root 1) v331, .hslc (BR.root 2) v332], .int .i64 v333] : List DV).length) .undef) []).bind (retD TT Try.f22.results.toList 0) = (laws_szThirds_len_T v330 v331 v332 v333).bind fun y => .leaf (laws_szThirds_len_enc v330 v331 v332 v333 y) := by kernel_rfl
theorem laws_szThirds_len_fn (v330 : Nat) (v331 : Nat) (v332 : Nat) (v333 : Int) (F : Fr) (hm : F.ids.length = 0) (h0 : St F [] F.H0) (hA : DVs.Ok F [] [.agg [.hslc (BR.root 0) v330, .hslc (BR.root 1) v331, .hslc (BR.root 2) v332], .int .i64 v333]) {y : Int} (hy : laws_szThirds_len_g v330 v331 v332 v333 = some y) : ∃ H', FnOk Try.prog 22 (DVs.av F [.agg [.hslc (BR.root 0) v330, .hslc (BR.root 1) v331, .hslc (BR.root 2) v332], .int .i64 v333]) F.H0 ((laws_szThirds_len_enc v330 v331 v332 v333 y).1.av F) H' ∧ St F (laws_szThirds_len_enc v330 v331 v332 v333 y).2 H' ∧ (laws_szThirds_len_enc v330 v331 v332 v333 y).1.Ok F (laws_szThirds_len_enc v330 v331 v332 v333 y).2 :=
  fn_fin tok laws_szThirds_len_hO mixed Try.func22 Try.call22 (by kernel_rfl) (LoopsOk_eq (l := []) (by kernel_rfl) trivial) (laws_szThirds_len_den v330 v331 v332 v333) hy hm h0 hA
def laws_szThirds_len_v (v330 : Nat) (v331 : Nat) (v332 : Nat) (v333 : Int) : Int :=
  if (decide ((laws_szFloat32S_len_v v330 v333) < (0 : Int))) = true then (
   (-1 : Int)
  ) else (
   if (decide ((laws_szFloat32S_len_v v331 (laws_szFloat32S_len_v v330 v333)) < (0 : Int))) = true then (
    (-1 : Int)
   ) else (
    if (decide ((laws_szFloat32S_len_v v332 (laws_szFloat32S_len_v v331 (laws_szFloat32S_len_v v330 v333))) < (0 : Int))) = true then (
     (-1 : Int)
    ) else (
     (laws_szFloat32S_len_v v332 (laws_szFloat32S_len_v v331 (laws_szFloat32S_len_v v330 v333)))
    )
   )
  )
theorem laws_szThirds_len_tot (v330 : Nat) (v331 : Nat) (v332 : Nat) (v333 : Int) : laws_szThirds_len_g v330 v331 v332 v333 = some (laws_szThirds_len_v v330 v331 v332 v333) := by
  unfold laws_szThirds_len_g laws_szThirds_len_T laws_szThirds_len_v
  simp only [Tree.run]
  repeat' (first | rfl | split)
noncomputable def laws_szThirds_len_F : DFn := fun args L =>
  match args with
  | [.agg [a1, a2, a3], .int .i64 v333] =>
    optT (lenV L a1) fun v330 =>
    optT (lenV L a2) fun v331 =>
    optT (lenV L a3) fun v332 =>
    .leaf (.int .i64 (laws_szThirds_len_v v330 v331 v332 v333), L)
  | _ => .fail
theorem laws_szThirds_len_Fok : COk Try.prog 22 laws_szThirds_len_F true := by
  intro F L H args r L' hs ha hr
  unfold laws_szThirds_len_F at hr
  split at hr
  · rename_i a1 a2 a3 v333
    obtain ⟨v330, hv330, hr⟩ := optT_run hr
    obtain ⟨v331, hv331, hr⟩ := optT_run hr
    obtain ⟨v332, hv332, hr⟩ := optT_run hr
    have hy := laws_szThirds_len_tot v330 v331 v332 v333
    generalize laws_szThirds_len_v v330 v331 v332 v333 = y at hy hr
    simp only [Tree.run, Option.some.injEq, Prod.mk.injEq] at hr
    obtain ⟨rfl, rfl⟩ := hr
    exact call_ok0 hs (fun k => (([a1.av F, a2.av F, a3.av F] : List AV)[k]?).getD .top) [.agg [a1, a2, a3], .int .i64 v333] [.agg [.hslc (BR.root 0) v330, .hslc (BR.root 1) v331, .hslc (BR.root 2) v332], .int .i64 v333] (fun F' h0 hi hρ => ⟨by simp [DVs.av, DV.av, BR.av, hρ], laws_szThirds_len_fn v330 v331 v332 v333 F' (by rw [hi]; rfl) (st_nil hi) ⟨⟨hslc_ok hi (by rw [h0, hρ]; exact lenV_ok hs (DVs.okAt (DVs.okAt ha 0 rfl) 0 rfl) hv330), hslc_ok hi (by rw [h0, hρ]; exact lenV_ok hs (DVs.okAt (DVs.okAt ha 0 rfl) 1 rfl) hv331), hslc_ok hi (by rw [h0, hρ]; exact lenV_ok hs (DVs.okAt (DVs.okAt ha 0 rfl) 2 rfl) hv332), trivial⟩, trivial, trivial⟩ hy⟩) rfl
  · cases hr
/-! laws.FnExactThirdsSolve -/
noncomputable def laws_FnExactThirdsSolve_len_LO (v326 : Nat) (v327 : Nat) (v328 : Nat) (v329 : Nat) : LOr := fun id e L =>
  match id with
  | _ => .fail
noncomputable def laws_FnExactThirdsSolve_len_tab : List (FuncId × DFn × Bool) := [(22, laws_szThirds_len_F, true)]
theorem laws_FnExactThirdsSolve_len_hO : OrcOk Try.prog (tabD laws_FnExactThirdsSolve_len_tab) (tabM laws_FnExactThirdsSolve_len_tab) := tabD_cons laws_szThirds_len_Fok (tabD_nil _)
noncomputable def laws_FnExactThirdsSolve_len_T (v326 : Nat) (v327 : Nat) (v328 : Nat) (v329 : Nat) : Tree (Bool) :=
  (.br (decide ((1048576 : Int) < ((v329 : Nat) : Int))) (
   .leaf true
  ) (
   (.br (decide ((laws_szThirds_len_v v326 v327 v328 (1048576 : Int)) < (0 : Int))) (
    .leaf true
   ) (
    .fail
   ))
  ))

noncomputable def laws_FnExactThirdsSolve_len_g (v326 : Nat) (v327 : Nat) (v328 : Nat) (v329 : Nat) : Option (Bool) := (laws_FnExactThirdsSolve_len_T v326 v327 v328 v329).run
def laws_FnExactThirdsSolve_len_enc (v326 : Nat) (v327 : Nat) (v328 : Nat) (v329 : Nat) (y : Bool) : Rs := (.bool y, [])
theorem laws_FnExactThirdsSolve_len_den (v326 : Nat) (v327 : Nat) (v328 : Nat) (v329 : Nat) : (den TT (tabD laws_FnExactThirdsSolve_len_tab) (tabM laws_FnExactThirdsSolve_len_tab) (laws_FnExactThirdsSolve_len_LO v326 v327 v328 v329) (codeOf Try.f4) ([.agg [.hslc (BR.root 0) v326, .hslc (BR.root 1) v327, .hslc (BR.root 2) v328], .hslc (BR.root 3) v329] ++ List.replicate (Try.f4.ntmps - ([.agg [.hslc (BR.root 0) v326, .hslc (BR.root 1) v327, .hslc (BR.root 2) v328], .hslc (BR.root 3) v329] : List DV).length) .undef) []).bind (retD TT Try.f4.results.toList 0) = (laws_FnExactThirdsSolve_len_T v326 v327 v328 v329).bind fun y => .leaf (laws_FnExactThirdsSolve_len_enc v326 v327 v328 v329 y) := by kernel_rfl
theorem laws_FnExactThirdsSolve_len_fn (v326 : Nat) (v327 : Nat) (v328 : Nat) (v329 : Nat) (F : Fr) (hm : F.ids.length = 0) (h0 : St F [] F.H0) (hA : DVs.Ok F [] [.agg [.hslc (BR.root 0) v326, .hslc (BR.root 1) v327, .hslc (BR.root 2) v328], .hslc (BR.root 3) v329]) {y : Bool} (hy : laws_FnExactThirdsSolve_len_g v326 v327 v328 v329 = some y) : ∃ H', FnOk Try.prog 4 (DVs.av F [.agg [.hslc (BR.root 0) v326, .hslc (BR.root 1) v327, .hslc (BR.root 2) v328], .hslc (BR.root 3) v329]) F.H0 ((laws_FnExactThirdsSolve_len_enc v326 v327 v328 v329 y).1.av F) H' ∧ St F (laws_FnExactThirdsSolve_len_enc v326 v327 v328 v329 y).2 H' ∧ (laws_FnExactThirdsSolve_len_enc v326 v327 v328 v329 y).1.Ok F (laws_FnExactThirdsSolve_len_enc v326 v327 v328 v329 y).2 :=
  fn_fin tok laws_FnExactThirdsSolve_len_hO mixed Try.func4 Try.call4 (by kernel_rfl) (LoopsOk_eq (l := []) (by kernel_rfl) trivial) (laws_FnExactThirdsSolve_len_den v326 v327 v328 v329) hy hm h0 hA
noncomputable def laws_FnExactThirdsSolve_len_F : DFn := fun args L =>
  match args with
  | [.agg [a1, a2, a3], a4] =>
    optT (lenV L a1) fun v326 =>
    optT (lenV L a2) fun v327 =>
    optT (lenV L a3) fun v328 =>
    optT (lenV L a4) fun v329 =>
    .call (laws_FnExactThirdsSolve_len_g v326 v327 v328 v329) fun y => .leaf (.bool y, L)
  | _ => .fail
theorem laws_FnExactThirdsSolve_len_Fok : COk Try.prog 4 laws_FnExactThirdsSolve_len_F true := by
  intro F L H args r L' hs ha hr
  unfold laws_FnExactThirdsSolve_len_F at hr
  split at hr
  · rename_i a1 a2 a3 a4
    obtain ⟨v326, hv326, hr⟩ := optT_run hr
    obtain ⟨v327, hv327, hr⟩ := optT_run hr
    obtain ⟨v328, hv328, hr⟩ := optT_run hr
    obtain ⟨v329, hv329, hr⟩ := optT_run hr
    simp only [Tree.run] at hr
    obtain ⟨y, hy, hr⟩ := Option.bind_eq_some_iff.1 hr
    simp only [Tree.run, Option.some.injEq, Prod.mk.injEq] at hr
    obtain ⟨rfl, rfl⟩ := hr
    exact call_ok0 hs (fun k => (([a1.av F, a2.av F, a3.av F, a4.av F] : List AV)[k]?).getD .top) [.agg [a1, a2, a3], a4] [.agg [.hslc (BR.root 0) v326, .hslc (BR.root 1) v327, .hslc (BR.root 2) v328], .hslc (BR.root 3) v329] (fun F' h0 hi hρ => ⟨by simp [DVs.av, DV.av, BR.av, hρ], laws_FnExactThirdsSolve_len_fn v326 v327 v328 v329 F' (by rw [hi]; rfl) (st_nil hi) ⟨⟨hslc_ok hi (by rw [h0, hρ]; exact lenV_ok hs (DVs.okAt (DVs.okAt ha 0 rfl) 0 rfl) hv326), hslc_ok hi (by rw [h0, hρ]; exact lenV_ok hs (DVs.okAt (DVs.okAt ha 0 rfl) 1 rfl) hv327), hslc_ok hi (by rw [h0, hρ]; exact lenV_ok hs (DVs.okAt (DVs.okAt ha 0 rfl) 2 rfl) hv328), trivial⟩, hslc_ok hi (by rw [h0, hρ]; exact lenV_ok hs (DVs.okAt ha 1 rfl) hv329), trivial⟩ hy⟩) rfl
  · cases hr
end Go.Proofs.Ytjniaobboclniab.AM
