/- Functions: what they come to. -/
import Derived.Test.YtjniaobboclniaaBase
set_option maxRecDepth 100000
set_option maxHeartbeats 4000000
set_option linter.unusedSimpArgs false
set_option linter.unusedVariables false
namespace Go.Proofs.Ytjniaobboclniaa.AM
open Go.Proofs
/-! laws.szFloat32S -/
noncomputable def laws_szFloat32S_LO (v9 : List Nat) (v10 : Int) : LOr := fun id e L =>
  match id with
  | _ => .fail
noncomputable def laws_szFloat32S_tab : List (FuncId × DFn × Bool) := []
theorem laws_szFloat32S_hO : OrcOk Try.prog (tabD laws_szFloat32S_tab) (tabM laws_szFloat32S_tab) := tabD_nil _
noncomputable def laws_szFloat32S_T (v9 : List Nat) (v10 : Int) : Tree (Int) :=
  (.br (decide (IntKind.i64.wrap (v10 - ((v9.length : Nat) : Int)) < (0 : Int))) (
   .leaf (-1 : Int)
  ) (
   .leaf (IntKind.i64.wrap (v10 - ((v9.length : Nat) : Int)))
  ))

noncomputable def laws_szFloat32S_g (v9 : List Nat) (v10 : Int) : Option (Int) := (laws_szFloat32S_T v9 v10).run
def laws_szFloat32S_enc (v9 : List Nat) (v10 : Int) (y : Int) : Rs := (.int .i64 y, [])
theorem laws_szFloat32S_den (v9 : List Nat) (v10 : Int) : (den TT (tabD laws_szFloat32S_tab) (tabM laws_szFloat32S_tab) (laws_szFloat32S_LO v9 v10) (codeOf Try.f100) ([.bslc (BR.root 0) (.f32 v9), .int .i64 v10] ++ List.replicate (Try.f100.ntmps - ([.bslc (BR.root 0) (.f32 v9), .int .i64 v10] : List DV).length) .undef) []).bind (retD TT Try.f100.results.toList 0) = (laws_szFloat32S_T v9 v10).bind fun y => .leaf (laws_szFloat32S_enc v9 v10 y) := by kernel_rfl
theorem laws_szFloat32S_fn (v9 : List Nat) (v10 : Int) (F : Fr) (hm : F.ids.length = 0) (h0 : St F [] F.H0) (hA : DVs.Ok F [] [.bslc (BR.root 0) (.f32 v9), .int .i64 v10]) {y : Int} (hy : laws_szFloat32S_g v9 v10 = some y) : ∃ H', FnOk Try.prog 100 (DVs.av F [.bslc (BR.root 0) (.f32 v9), .int .i64 v10]) F.H0 ((laws_szFloat32S_enc v9 v10 y).1.av F) H' ∧ St F (laws_szFloat32S_enc v9 v10 y).2 H' ∧ (laws_szFloat32S_enc v9 v10 y).1.Ok F (laws_szFloat32S_enc v9 v10 y).2 :=
  fn_fin tok laws_szFloat32S_hO mixed Try.func100 Try.call100 (by kernel_rfl) (LoopsOk_eq (l := []) (by kernel_rfl) trivial) (laws_szFloat32S_den v9 v10) hy hm h0 hA
def laws_szFloat32S_v (v9 : List Nat) (v10 : Int) : Int :=
  if (decide (IntKind.i64.wrap (v10 - ((v9.length : Nat) : Int)) < (0 : Int))) = true then (
   (-1 : Int)
  ) else (
   IntKind.i64.wrap (v10 - ((v9.length : Nat) : Int))
  )
theorem laws_szFloat32S_tot (v9 : List Nat) (v10 : Int) : laws_szFloat32S_g v9 v10 = some (laws_szFloat32S_v v9 v10) := by
  unfold laws_szFloat32S_g laws_szFloat32S_T laws_szFloat32S_v
  simp only [Tree.run]
  repeat' (first | rfl | split)
noncomputable def laws_szFloat32S_F : DFn := fun args L =>
  match args with
  | [a1, .int .i64 v10] =>
    optT (rowF32 L a1) fun v9 =>
    .leaf (.int .i64 (laws_szFloat32S_v v9 v10), L)
  | _ => .fail
theorem laws_szFloat32S_Fok : COk Try.prog 100 laws_szFloat32S_F true := by
  intro F L H args r L' hs ha hr
  unfold laws_szFloat32S_F at hr
  split at hr
  · rename_i a1 v10
    obtain ⟨v9, hv9, hr⟩ := optT_run hr
    have hy := laws_szFloat32S_tot v9 v10
    generalize laws_szFloat32S_v v9 v10 = y at hy hr
    simp only [Tree.run, Option.some.injEq, Prod.mk.injEq] at hr
    obtain ⟨rfl, rfl⟩ := hr
    exact call_ok0 hs (fun k => (([a1.av F] : List AV)[k]?).getD .top) [a1, .int .i64 v10] [.bslc (BR.root 0) (.f32 v9), .int .i64 v10] (fun F' h0 hi hρ => ⟨by simp [DVs.av, DV.av, BR.av, hρ], laws_szFloat32S_fn v9 v10 F' (by rw [hi]; rfl) (st_nil hi) ⟨bslc_ok hi (by rw [h0, hρ]; exact rowF32_ok hs (DVs.okAt ha 0 rfl) hv9), trivial, trivial⟩ hy⟩) rfl
  · cases hr
/-! laws.szThirds -/
noncomputable def laws_szThirds_LO (v5 : List Nat) (v6 : List Nat) (v7 : List Nat) (v8 : Int) : LOr := fun id e L =>
  match id with
  | _ => .fail
noncomputable def laws_szThirds_tab : List (FuncId × DFn × Bool) := [(100, laws_szFloat32S_F, true)]
theorem laws_szThirds_hO : OrcOk Try.prog (tabD laws_szThirds_tab) (tabM laws_szThirds_tab) := tabD_cons laws_szFloat32S_Fok (tabD_nil _)
noncomputable def laws_szThirds_T (v5 : List Nat) (v6 : List Nat) (v7 : List Nat) (v8 : Int) : Tree (Int) :=
  (.br (decide ((laws_szFloat32S_v v5 v8) < (0 : Int))) (
   .leaf (-1 : Int)
  ) (
   (.br (decide ((laws_szFloat32S_v v6 (laws_szFloat32S_v v5 v8)) < (0 : Int))) (
    .leaf (-1 : Int)
   ) (
    (.br (decide ((laws_szFloat32S_v v7 (laws_szFloat32S_v v6 (laws_szFloat32S_v v5 v8))) < (0 : Int))) (
     .leaf (-1 : Int)
    ) (
     .leaf (laws_szFloat32S_v v7 (laws_szFloat32S_v v6 (laws_szFloat32S_v v5 v8)))
    ))
   ))
  ))

noncomputable def laws_szThirds_g (v5 : List Nat) (v6 : List Nat) (v7 : List Nat) (v8 : Int) : Option (Int) := (laws_szThirds_T v5 v6 v7 v8).run
def laws_szThirds_enc (v5 : List Nat) (v6 : List Nat) (v7 : List Nat) (v8 : Int) (y : Int) : Rs := (.int .i64 y, [])
theorem laws_szThirds_den (v5 : List Nat) (v6 : List Nat) (v7 : List Nat) (v8 : Int) : (den TT (tabD laws_szThirds_tab) (tabM laws_szThirds_tab) (laws_szThirds_LO v5 v6 v7 v8) (codeOf Try.f41) ([.agg [.bslc (BR.root 0) (.f32 v5), .bslc (BR.root 1) (.f32 v6), .bslc (BR.root 2) (.f32 v7)], .int .i64 v8] ++ List.replicate (Try.f41.ntmps - ([.agg [.bslc (BR.root 0) (.f32 v5), .bslc (BR.root 1) (.f32 v6), .bslc (BR.root 2) (.f32 v7)], .int .i64 v8] : List DV).length) .undef) []).bind (retD TT Try.f41.results.toList 0) = (laws_szThirds_T v5 v6 v7 v8).bind fun y => .leaf (laws_szThirds_enc v5 v6 v7 v8 y) := by kernel_rfl
theorem laws_szThirds_fn (v5 : List Nat) (v6 : List Nat) (v7 : List Nat) (v8 : Int) (F : Fr) (hm : F.ids.length = 0) (h0 : St F [] F.H0) (hA : DVs.Ok F [] [.agg [.bslc (BR.root 0) (.f32 v5), .bslc (BR.root 1) (.f32 v6), .bslc (BR.root 2) (.f32 v7)], .int .i64 v8]) {y : Int} (hy : laws_szThirds_g v5 v6 v7 v8 = some y) : ∃ H', FnOk Try.prog 41 (DVs.av F [.agg [.bslc (BR.root 0) (.f32 v5), .bslc (BR.root 1) (.f32 v6), .bslc (BR.root 2) (.f32 v7)], .int .i64 v8]) F.H0 ((laws_szThirds_enc v5 v6 v7 v8 y).1.av F) H' ∧ St F (laws_szThirds_enc v5 v6 v7 v8 y).2 H' ∧ (laws_szThirds_enc v5 v6 v7 v8 y).1.Ok F (laws_szThirds_enc v5 v6 v7 v8 y).2 :=
  fn_fin tok laws_szThirds_hO mixed Try.func41 Try.call41 (by kernel_rfl) (LoopsOk_eq (l := []) (by kernel_rfl) trivial) (laws_szThirds_den v5 v6 v7 v8) hy hm h0 hA
def laws_szThirds_v (v5 : List Nat) (v6 : List Nat) (v7 : List Nat) (v8 : Int) : Int :=
  if (decide ((laws_szFloat32S_v v5 v8) < (0 : Int))) = true then (
   (-1 : Int)
  ) else (
   if (decide ((laws_szFloat32S_v v6 (laws_szFloat32S_v v5 v8)) < (0 : Int))) = true then (
    (-1 : Int)
   ) else (
    if (decide ((laws_szFloat32S_v v7 (laws_szFloat32S_v v6 (laws_szFloat32S_v v5 v8))) < (0 : Int))) = true then (
     (-1 : Int)
    ) else (
     (laws_szFloat32S_v v7 (laws_szFloat32S_v v6 (laws_szFloat32S_v v5 v8)))
    )
   )
  )
theorem laws_szThirds_tot (v5 : List Nat) (v6 : List Nat) (v7 : List Nat) (v8 : Int) : laws_szThirds_g v5 v6 v7 v8 = some (laws_szThirds_v v5 v6 v7 v8) := by
  unfold laws_szThirds_g laws_szThirds_T laws_szThirds_v
  simp only [Tree.run]
  repeat' (first | rfl | split)
noncomputable def laws_szThirds_F : DFn := fun args L =>
  match args with
  | [.agg [a1, a2, a3], .int .i64 v8] =>
    optT (rowF32 L a1) fun v5 =>
    optT (rowF32 L a2) fun v6 =>
    optT (rowF32 L a3) fun v7 =>
    .leaf (.int .i64 (laws_szThirds_v v5 v6 v7 v8), L)
  | _ => .fail
theorem laws_szThirds_Fok : COk Try.prog 41 laws_szThirds_F true := by
  intro F L H args r L' hs ha hr
  unfold laws_szThirds_F at hr
  split at hr
  · rename_i a1 a2 a3 v8
    obtain ⟨v5, hv5, hr⟩ := optT_run hr
    obtain ⟨v6, hv6, hr⟩ := optT_run hr
    obtain ⟨v7, hv7, hr⟩ := optT_run hr
    have hy := laws_szThirds_tot v5 v6 v7 v8
    generalize laws_szThirds_v v5 v6 v7 v8 = y at hy hr
    simp only [Tree.run, Option.some.injEq, Prod.mk.injEq] at hr
    obtain ⟨rfl, rfl⟩ := hr
    exact call_ok0 hs (fun k => (([a1.av F, a2.av F, a3.av F] : List AV)[k]?).getD .top) [.agg [a1, a2, a3], .int .i64 v8] [.agg [.bslc (BR.root 0) (.f32 v5), .bslc (BR.root 1) (.f32 v6), .bslc (BR.root 2) (.f32 v7)], .int .i64 v8] (fun F' h0 hi hρ => ⟨by simp [DVs.av, DV.av, BR.av, hρ], laws_szThirds_fn v5 v6 v7 v8 F' (by rw [hi]; rfl) (st_nil hi) ⟨⟨bslc_ok hi (by rw [h0, hρ]; exact rowF32_ok hs (DVs.okAt (DVs.okAt ha 0 rfl) 0 rfl) hv5), bslc_ok hi (by rw [h0, hρ]; exact rowF32_ok hs (DVs.okAt (DVs.okAt ha 0 rfl) 1 rfl) hv6), bslc_ok hi (by rw [h0, hρ]; exact rowF32_ok hs (DVs.okAt (DVs.okAt ha 0 rfl) 2 rfl) hv7), trivial⟩, trivial, trivial⟩ hy⟩) rfl
  · cases hr
/-! laws.toFloat32S -/
noncomputable def laws_toFloat32S_l0_T (v14 : List Nat) (s : Int × (List Nat)) : Tree ((Int × (List Nat)) ⊕ ((List Nat))) :=
  (.br (decide (s.1 < ((v14.length : Nat) : Int))) (
   (.grd (inb s.1 v14.length) <|
   (.grd (inb s.1 ((s.2).length)) <|
   .leaf (.inl (IntKind.i64.wrap (s.1 + (1 : Int)), List.set s.2 (Int.toNat s.1) (nth v14 (Int.toNat s.1))))))
  ) (
   .leaf (.inr s.2)
  ))

noncomputable def laws_toFloat32S_l0_g (v14 : List Nat) (s0 : Int × (List Nat)) : Option ((List Nat)) := whileM (fun s => (laws_toFloat32S_l0_T v14 s).run) s0
def laws_toFloat32S_l0_E (v14 : List Nat) (s : Int × (List Nat)) : Sd := ([.bslc (BR.root 0) (.f32 v14), .top, .top, .own 0 0 ((s.2).length), .int .i64 s.1, .top, .top, .top, .top, .top, .top, .top, .top, .top, .top, .top, .top, .top, .top, .top, .top, .top], [.row (.f32 s.2) 0])
def laws_toFloat32S_l0_X (v14 : List Nat) (x : (List Nat)) : Out := (.normal, [.top, .top, .top, .own 0 0 ((x).length), .top, .top, .top, .top, .top, .top, .top, .top, .top, .top, .top, .top, .top, .top, .top, .top, .top, .top], [.row (.f32 x) 0])
def laws_toFloat32S_l0_kill : List Nat := [0, 1, 1, 0, 0, 1, 1, 1, 1, 1, 1, 1, 1, 1, 1, 1, 1, 1, 1, 1, 1, 1]
def laws_toFloat32S_l0_nx : Exit → List Nat
  | .exit 0 => [1, 1, 1, 0, 1, 1, 1, 1, 1, 1, 1, 1, 1, 1, 1, 1, 1, 1, 1, 1, 1, 1]
  | .ret => [1, 1, 0, 1, 1, 1, 1, 1, 1, 1, 1, 1, 1, 1, 1, 1, 1, 1, 1, 1, 1, 1]
  | _ => []
noncomputable def laws_toFloat32S_LO (v14 : List Nat) : LOr := fun id e L =>
  match id with
  | 0 => .need (normA 0 laws_toFloat32S_l0_kill e L = some (laws_toFloat32S_l0_E v14 ((gI (vAt e 4)), (gRF L (vAt e 3))))) (.call (laws_toFloat32S_l0_g v14 ((gI (vAt e 4)), (gRF L (vAt e 3)))) fun x => .leaf (laws_toFloat32S_l0_X v14 x))
  | _ => .fail
noncomputable def laws_toFloat32S_tab : List (FuncId × DFn × Bool) := []
theorem laws_toFloat32S_hO : OrcOk Try.prog (tabD laws_toFloat32S_tab) (tabM laws_toFloat32S_tab) := tabD_nil _
theorem laws_toFloat32S_l0_be (v14 : List Nat) (s : Int × (List Nat)) : bodyT TT (tabD laws_toFloat32S_tab) (tabM laws_toFloat32S_tab) (laws_toFloat32S_LO v14) 0 laws_toFloat32S_l0_kill laws_toFloat32S_l0_nx (bodyOf Try.f29 0) 0 (laws_toFloat32S_l0_E v14 s) = (laws_toFloat32S_l0_T v14 s).bind fun y => .leaf (outS (laws_toFloat32S_l0_E v14) (laws_toFloat32S_l0_X v14) y) := by kernel_rfl
theorem laws_toFloat32S_l0_ok (v14 : List Nat) : LSound Try.prog 0 (laws_toFloat32S_LO v14) 0 (bodyOf Try.f29 0) := by
  intro e L out h
  exact lo_ok (E := laws_toFloat32S_l0_E v14) (gT := laws_toFloat32S_l0_T v14) (X := laws_toFloat32S_l0_X v14) (s0 := ((gI (vAt e 4)), (gRF L (vAt e 3)))) tok laws_toFloat32S_hO mixed (LoopsOk_eq (l := []) (by kernel_rfl) trivial) (laws_toFloat32S_l0_be v14) rfl (by intro x; rfl) h
noncomputable def laws_toFloat32S_T (v14 : List Nat) : Tree ((List Nat)) :=
  (.need (((v14.length : Nat) : Int) = ((v14.length : Nat) : Int)) <|
  (.grd (inb ((v14.length : Nat) : Int) (maxN + 1)) <|
  (.need (some (laws_toFloat32S_l0_E v14 ((0 : Int), List.replicate (Int.toNat ((v14.length : Nat) : Int)) (0 : Nat))) = some (laws_toFloat32S_l0_E v14 ((0 : Int), List.replicate (Int.toNat ((v14.length : Nat) : Int)) (0 : Nat)))) <|
  (.call (laws_toFloat32S_l0_g v14 ((0 : Int), List.replicate (Int.toNat ((v14.length : Nat) : Int)) (0 : Nat))) fun v20 =>
  .leaf v20))))

noncomputable def laws_toFloat32S_g (v14 : List Nat) : Option ((List Nat)) := (laws_toFloat32S_T v14).run
def laws_toFloat32S_enc (v14 : List Nat) (y : (List Nat)) : Rs := (.own 0 0 ((y).length), [.row (.f32 y) 0])
theorem laws_toFloat32S_den (v14 : List Nat) : (den TT (tabD laws_toFloat32S_tab) (tabM laws_toFloat32S_tab) (laws_toFloat32S_LO v14) (codeOf Try.f29) ([.bslc (BR.root 0) (.f32 v14)] ++ List.replicate (Try.f29.ntmps - ([.bslc (BR.root 0) (.f32 v14)] : List DV).length) .undef) []).bind (retD TT Try.f29.results.toList 0) = (laws_toFloat32S_T v14).bind fun y => .leaf (laws_toFloat32S_enc v14 y) := by kernel_rfl
theorem laws_toFloat32S_fn (v14 : List Nat) (F : Fr) (hm : F.ids.length = 0) (h0 : St F [] F.H0) (hA : DVs.Ok F [] [.bslc (BR.root 0) (.f32 v14)]) {y : (List Nat)} (hy : laws_toFloat32S_g v14 = some y) : ∃ H', FnOk Try.prog 29 (DVs.av F [.bslc (BR.root 0) (.f32 v14)]) F.H0 ((laws_toFloat32S_enc v14 y).1.av F) H' ∧ St F (laws_toFloat32S_enc v14 y).2 H' ∧ (laws_toFloat32S_enc v14 y).1.Ok F (laws_toFloat32S_enc v14 y).2 :=
  fn_fin tok laws_toFloat32S_hO mixed Try.func29 Try.call29 (by kernel_rfl) (LoopsOk_eq (l := [(0, bodyOf Try.f29 0)]) (by kernel_rfl) ⟨laws_toFloat32S_l0_ok v14, trivial⟩) (laws_toFloat32S_den v14) hy hm h0 hA
noncomputable def laws_toFloat32S_F : DFn := fun args L =>
  match args with
  | [a1] =>
    optT (rowF32 L a1) fun v14 =>
    .call (laws_toFloat32S_g v14) fun y => .leaf (.own (L.length + 0) 0 ((y).length), L ++ [.row (.f32 y) 0])
  | _ => .fail
theorem laws_toFloat32S_Fok : COk Try.prog 29 laws_toFloat32S_F true := by
  intro F L H args r L' hs ha hr
  unfold laws_toFloat32S_F at hr
  split at hr
  · rename_i a1
    obtain ⟨v14, hv14, hr⟩ := optT_run hr
    simp only [Tree.run] at hr
    obtain ⟨y, hy, hr⟩ := Option.bind_eq_some_iff.1 hr
    simp only [Tree.run, Option.some.injEq, Prod.mk.injEq] at hr
    obtain ⟨rfl, rfl⟩ := hr
    exact call_ok1 hs (fun k => (([a1.av F] : List AV)[k]?).getD .top) [a1] [.bslc (BR.root 0) (.f32 v14)] (fun F' h0 hi hρ => ⟨by simp [DVs.av, DV.av, BR.av, hρ], laws_toFloat32S_fn v14 F' (by rw [hi]; rfl) (st_nil hi) ⟨bslc_ok hi (by rw [h0, hρ]; exact rowF32_ok hs (DVs.okAt ha 0 rfl) hv14), trivial⟩ hy⟩) rfl rfl
  · cases hr
/-! laws.toThirds -/
noncomputable def laws_toThirds_LO (v11 : List Nat) (v12 : List Nat) (v13 : List Nat) : LOr := fun id e L =>
  match id with
  | _ => .fail
noncomputable def laws_toThirds_tab : List (FuncId × DFn × Bool) := [(29, laws_toFloat32S_F, true)]
theorem laws_toThirds_hO : OrcOk Try.prog (tabD laws_toThirds_tab) (tabM laws_toThirds_tab) := tabD_cons laws_toFloat32S_Fok (tabD_nil _)
noncomputable def laws_toThirds_T (v11 : List Nat) (v12 : List Nat) (v13 : List Nat) : Tree ((List Nat) × (List Nat) × (List Nat)) :=
  (.call (laws_toFloat32S_g v11) fun v21 =>
  (.call (laws_toFloat32S_g v12) fun v22 =>
  (.call (laws_toFloat32S_g v13) fun v23 =>
  .leaf (v21, v22, v23))))

noncomputable def laws_toThirds_g (v11 : List Nat) (v12 : List Nat) (v13 : List Nat) : Option ((List Nat) × (List Nat) × (List Nat)) := (laws_toThirds_T v11 v12 v13).run
def laws_toThirds_enc (v11 : List Nat) (v12 : List Nat) (v13 : List Nat) (y : (List Nat) × (List Nat) × (List Nat)) : Rs := (.agg [.own 0 0 ((y.1).length), .own 1 0 ((y.2.1).length), .own 2 0 ((y.2.2).length)], [.row (.f32 y.1) 0, .row (.f32 y.2.1) 0, .row (.f32 y.2.2) 0])
theorem laws_toThirds_den (v11 : List Nat) (v12 : List Nat) (v13 : List Nat) : (den TT (tabD laws_toThirds_tab) (tabM laws_toThirds_tab) (laws_toThirds_LO v11 v12 v13) (codeOf Try.f43) ([.agg [.bslc (BR.root 0) (.f32 v11), .bslc (BR.root 1) (.f32 v12), .bslc (BR.root 2) (.f32 v13)]] ++ List.replicate (Try.f43.ntmps - ([.agg [.bslc (BR.root 0) (.f32 v11), .bslc (BR.root 1) (.f32 v12), .bslc (BR.root 2) (.f32 v13)]] : List DV).length) .undef) []).bind (retD TT Try.f43.results.toList 0) = (laws_toThirds_T v11 v12 v13).bind fun y => .leaf (laws_toThirds_enc v11 v12 v13 y) := by kernel_rfl
theorem laws_toThirds_fn (v11 : List Nat) (v12 : List Nat) (v13 : List Nat) (F : Fr) (hm : F.ids.length = 0) (h0 : St F [] F.H0) (hA : DVs.Ok F [] [.agg [.bslc (BR.root 0) (.f32 v11), .bslc (BR.root 1) (.f32 v12), .bslc (BR.root 2) (.f32 v13)]]) {y : (List Nat) × (List Nat) × (List Nat)} (hy : laws_toThirds_g v11 v12 v13 = some y) : ∃ H', FnOk Try.prog 43 (DVs.av F [.agg [.bslc (BR.root 0) (.f32 v11), .bslc (BR.root 1) (.f32 v12), .bslc (BR.root 2) (.f32 v13)]]) F.H0 ((laws_toThirds_enc v11 v12 v13 y).1.av F) H' ∧ St F (laws_toThirds_enc v11 v12 v13 y).2 H' ∧ (laws_toThirds_enc v11 v12 v13 y).1.Ok F (laws_toThirds_enc v11 v12 v13 y).2 :=
  fn_fin tok laws_toThirds_hO mixed Try.func43 Try.call43 (by kernel_rfl) (LoopsOk_eq (l := []) (by kernel_rfl) trivial) (laws_toThirds_den v11 v12 v13) hy hm h0 hA
noncomputable def laws_toThirds_F : DFn := fun args L =>
  match args with
  | [.agg [a1, a2, a3]] =>
    optT (rowF32 L a1) fun v11 =>
    optT (rowF32 L a2) fun v12 =>
    optT (rowF32 L a3) fun v13 =>
    .call (laws_toThirds_g v11 v12 v13) fun y => .leaf (.agg [.own (L.length + 0) 0 ((y.1).length), .own (L.length + 1) 0 ((y.2.1).length), .own (L.length + 2) 0 ((y.2.2).length)], L ++ [.row (.f32 y.1) 0, .row (.f32 y.2.1) 0, .row (.f32 y.2.2) 0])
  | _ => .fail
theorem laws_toThirds_Fok : COk Try.prog 43 laws_toThirds_F true := by
  intro F L H args r L' hs ha hr
  unfold laws_toThirds_F at hr
  split at hr
  · rename_i a1 a2 a3
    obtain ⟨v11, hv11, hr⟩ := optT_run hr
    obtain ⟨v12, hv12, hr⟩ := optT_run hr
    obtain ⟨v13, hv13, hr⟩ := optT_run hr
    simp only [Tree.run] at hr
    obtain ⟨y, hy, hr⟩ := Option.bind_eq_some_iff.1 hr
    simp only [Tree.run, Option.some.injEq, Prod.mk.injEq] at hr
    obtain ⟨rfl, rfl⟩ := hr
    exact call_ok1 hs (fun k => (([a1.av F, a2.av F, a3.av F] : List AV)[k]?).getD .top) [.agg [a1, a2, a3]] [.agg [.bslc (BR.root 0) (.f32 v11), .bslc (BR.root 1) (.f32 v12), .bslc (BR.root 2) (.f32 v13)]] (fun F' h0 hi hρ => ⟨by simp [DVs.av, DV.av, BR.av, hρ], laws_toThirds_fn v11 v12 v13 F' (by rw [hi]; rfl) (st_nil hi) ⟨⟨bslc_ok hi (by rw [h0, hρ]; exact rowF32_ok hs (DVs.okAt (DVs.okAt ha 0 rfl) 0 rfl) hv11), bslc_ok hi (by rw [h0, hρ]; exact rowF32_ok hs (DVs.okAt (DVs.okAt ha 0 rfl) 1 rfl) hv12), bslc_ok hi (by rw [h0, hρ]; exact rowF32_ok hs (DVs.okAt (DVs.okAt ha 0 rfl) 2 rfl) hv13), trivial⟩, trivial⟩ hy⟩) rfl rfl
  · cases hr
/-! spec.l01Finite -/
noncomputable def spec_l01Finite_LO (v39 : Nat) : LOr := fun id e L =>
  match id with
  | _ => .fail
noncomputable def spec_l01Finite_tab : List (FuncId × DFn × Bool) := []
theorem spec_l01Finite_hO : OrcOk Try.prog (tabD spec_l01Finite_tab) (tabM spec_l01Finite_tab) := tabD_nil _
noncomputable def spec_l01Finite_T (v39 : Nat) : Tree (Bool) :=
  .leaf (feq .f32 (fsub .f32 v39 v39) (0 : Nat))

noncomputable def spec_l01Finite_g (v39 : Nat) : Option (Bool) := (spec_l01Finite_T v39).run
def spec_l01Finite_enc (v39 : Nat) (y : Bool) : Rs := (.bool y, [])
theorem spec_l01Finite_den (v39 : Nat) : (den TT (tabD spec_l01Finite_tab) (tabM spec_l01Finite_tab) (spec_l01Finite_LO v39) (codeOf Try.f123) ([.flt .f32 v39] ++ List.replicate (Try.f123.ntmps - ([.flt .f32 v39] : List DV).length) .undef) []).bind (retD TT Try.f123.results.toList 0) = (spec_l01Finite_T v39).bind fun y => .leaf (spec_l01Finite_enc v39 y) := by kernel_rfl
theorem spec_l01Finite_fn (v39 : Nat) (F : Fr) (hm : F.ids.length = 0) (h0 : St F [] F.H0) (hA : DVs.Ok F [] [.flt .f32 v39]) {y : Bool} (hy : spec_l01Finite_g v39 = some y) : ∃ H', FnOk Try.prog 123 (DVs.av F [.flt .f32 v39]) F.H0 ((spec_l01Finite_enc v39 y).1.av F) H' ∧ St F (spec_l01Finite_enc v39 y).2 H' ∧ (spec_l01Finite_enc v39 y).1.Ok F (spec_l01Finite_enc v39 y).2 :=
  fn_fin tok spec_l01Finite_hO mixed Try.func123 Try.call123 (by kernel_rfl) (LoopsOk_eq (l := []) (by kernel_rfl) trivial) (spec_l01Finite_den v39) hy hm h0 hA
def spec_l01Finite_v (v39 : Nat) : Bool :=
  feq .f32 (fsub .f32 v39 v39) (0 : Nat)
theorem spec_l01Finite_tot (v39 : Nat) : spec_l01Finite_g v39 = some (spec_l01Finite_v v39) := by
  unfold spec_l01Finite_g spec_l01Finite_T spec_l01Finite_v
  simp only [Tree.run]
  repeat' (first | rfl | split)
noncomputable def spec_l01Finite_F : DFn := fun args L =>
  match args with
  | [.flt .f32 v39] =>
    .leaf (.bool (spec_l01Finite_v v39), L)
  | _ => .fail
theorem spec_l01Finite_Fok : COk Try.prog 123 spec_l01Finite_F true := by
  intro F L H args r L' hs ha hr
  unfold spec_l01Finite_F at hr
  split at hr
  · rename_i v39
    have hy := spec_l01Finite_tot v39
    generalize spec_l01Finite_v v39 = y at hy hr
    simp only [Tree.run, Option.some.injEq, Prod.mk.injEq] at hr
    obtain ⟨rfl, rfl⟩ := hr
    exact call_ok0 hs (fun k => (([] : List AV)[k]?).getD .top) [.flt .f32 v39] [.flt .f32 v39] (fun F' h0 hi hρ => ⟨by simp [DVs.av, DV.av, BR.av, hρ], spec_l01Finite_fn v39 F' (by rw [hi]; rfl) (st_nil hi) ⟨trivial, trivial⟩ hy⟩) rfl
  · cases hr
/-! spec.l02Finite -/
noncomputable def spec_l02Finite_l0_T (v37 : List Nat) (s : Int) : Tree ((Int) ⊕ ((Unit) ⊕ (Unit))) :=
  (.br (decide (s < ((v37.length : Nat) : Int))) (
   (.grd (inb s v37.length) <|
   (.br (!(spec_l01Finite_v (nth v37 (Int.toNat s)))) (
    .leaf (.inr (.inl ()))
   ) (
    .leaf (.inl (IntKind.i64.wrap (s + (1 : Int))))
   )))
  ) (
   .leaf (.inr (.inr ()))
  ))

noncomputable def spec_l02Finite_l0_g (v37 : List Nat) (s0 : Int) : Option ((Unit) ⊕ (Unit)) := whileM (fun s => (spec_l02Finite_l0_T v37 s).run) s0
def spec_l02Finite_l0_E (v37 : List Nat) (s : Int) : Sd := ([.bslc (BR.root 0) (.f32 v37), .top, .top, .int .i64 s, .top, .top, .top, .top, .top, .top, .top, .top, .top, .top, .top, .top], [])
def spec_l02Finite_l0_X (v37 : List Nat) (x : (Unit) ⊕ (Unit)) : Out := (match x with | .inl x => (.ret, [.top, .top, .lit false, .top, .top, .top, .top, .top, .top, .top, .top, .top, .top, .top, .top, .top], []) | .inr x => (.normal, [.top, .top, .top, .top, .top, .top, .top, .top, .top, .top, .top, .top, .top, .top, .top, .top], []))
def spec_l02Finite_l0_kill : List Nat := [0, 1, 1, 0, 1, 1, 1, 1, 1, 1, 1, 1, 1, 1, 1, 1]
def spec_l02Finite_l0_nx : Exit → List Nat
  | .exit 0 => [1, 1, 1, 1, 1, 1, 1, 1, 1, 1, 1, 1, 1, 1, 1, 1]
  | .ret => [1, 1, 0, 1, 1, 1, 1, 1, 1, 1, 1, 1, 1, 1, 1, 1]
  | _ => []
noncomputable def spec_l02Finite_LO (v37 : List Nat) : LOr := fun id e L =>
  match id with
  | 0 => .need (normA 0 spec_l02Finite_l0_kill e L = some (spec_l02Finite_l0_E v37 (gI (vAt e 3)))) (.call (spec_l02Finite_l0_g v37 (gI (vAt e 3))) fun x => .sum x (fun b0 => .leaf (spec_l02Finite_l0_X v37 (.inl b0))) (fun c0 => .leaf (spec_l02Finite_l0_X v37 (.inr c0))))
  | _ => .fail
noncomputable def spec_l02Finite_tab : List (FuncId × DFn × Bool) := [(123, spec_l01Finite_F, true)]
theorem spec_l02Finite_hO : OrcOk Try.prog (tabD spec_l02Finite_tab) (tabM spec_l02Finite_tab) := tabD_cons spec_l01Finite_Fok (tabD_nil _)
theorem spec_l02Finite_l0_be (v37 : List Nat) (s : Int) : bodyT TT (tabD spec_l02Finite_tab) (tabM spec_l02Finite_tab) (spec_l02Finite_LO v37) 0 spec_l02Finite_l0_kill spec_l02Finite_l0_nx (bodyOf Try.f140 0) 0 (spec_l02Finite_l0_E v37 s) = (spec_l02Finite_l0_T v37 s).bind fun y => .leaf (outS (spec_l02Finite_l0_E v37) (spec_l02Finite_l0_X v37) y) := by kernel_rfl
theorem spec_l02Finite_l0_ok (v37 : List Nat) : LSound Try.prog 0 (spec_l02Finite_LO v37) 0 (bodyOf Try.f140 0) := by
  intro e L out h
  exact lo_ok (E := spec_l02Finite_l0_E v37) (gT := spec_l02Finite_l0_T v37) (X := spec_l02Finite_l0_X v37) (s0 := (gI (vAt e 3))) tok spec_l02Finite_hO mixed (LoopsOk_eq (l := []) (by kernel_rfl) trivial) (spec_l02Finite_l0_be v37) rfl (by intro x; (cases x with | inl b => rfl | inr x => exact rfl)) h
noncomputable def spec_l02Finite_T (v37 : List Nat) : Tree (Bool) :=
  (.need (some (spec_l02Finite_l0_E v37 (0 : Int)) = some (spec_l02Finite_l0_E v37 (0 : Int))) <|
  (.call (spec_l02Finite_l0_g v37 (0 : Int)) fun v42 =>
  (.sum v42 (fun v43 =>
   .leaf false
  ) (fun v44 =>
   .leaf true
  ))))

noncomputable def spec_l02Finite_g (v37 : List Nat) : Option (Bool) := (spec_l02Finite_T v37).run
def spec_l02Finite_enc (v37 : List Nat) (y : Bool) : Rs := (.bool y, [])
theorem spec_l02Finite_den (v37 : List Nat) : (den TT (tabD spec_l02Finite_tab) (tabM spec_l02Finite_tab) (spec_l02Finite_LO v37) (codeOf Try.f140) ([.bslc (BR.root 0) (.f32 v37)] ++ List.replicate (Try.f140.ntmps - ([.bslc (BR.root 0) (.f32 v37)] : List DV).length) .undef) []).bind (retD TT Try.f140.results.toList 0) = (spec_l02Finite_T v37).bind fun y => .leaf (spec_l02Finite_enc v37 y) := by kernel_rfl
theorem spec_l02Finite_fn (v37 : List Nat) (F : Fr) (hm : F.ids.length = 0) (h0 : St F [] F.H0) (hA : DVs.Ok F [] [.bslc (BR.root 0) (.f32 v37)]) {y : Bool} (hy : spec_l02Finite_g v37 = some y) : ∃ H', FnOk Try.prog 140 (DVs.av F [.bslc (BR.root 0) (.f32 v37)]) F.H0 ((spec_l02Finite_enc v37 y).1.av F) H' ∧ St F (spec_l02Finite_enc v37 y).2 H' ∧ (spec_l02Finite_enc v37 y).1.Ok F (spec_l02Finite_enc v37 y).2 :=
  fn_fin tok spec_l02Finite_hO mixed Try.func140 Try.call140 (by kernel_rfl) (LoopsOk_eq (l := [(0, bodyOf Try.f140 0)]) (by kernel_rfl) ⟨spec_l02Finite_l0_ok v37, trivial⟩) (spec_l02Finite_den v37) hy hm h0 hA
noncomputable def spec_l02Finite_F : DFn := fun args L =>
  match args with
  | [a1] =>
    optT (rowF32 L a1) fun v37 =>
    .call (spec_l02Finite_g v37) fun y => .leaf (.bool y, L)
  | _ => .fail
theorem spec_l02Finite_Fok : COk Try.prog 140 spec_l02Finite_F true := by
  intro F L H args r L' hs ha hr
  unfold spec_l02Finite_F at hr
  split at hr
  · rename_i a1
    obtain ⟨v37, hv37, hr⟩ := optT_run hr
    simp only [Tree.run] at hr
    obtain ⟨y, hy, hr⟩ := Option.bind_eq_some_iff.1 hr
    simp only [Tree.run, Option.some.injEq, Prod.mk.injEq] at hr
    obtain ⟨rfl, rfl⟩ := hr
    exact call_ok0 hs (fun k => (([a1.av F] : List AV)[k]?).getD .top) [a1] [.bslc (BR.root 0) (.f32 v37)] (fun F' h0 hi hρ => ⟨by simp [DVs.av, DV.av, BR.av, hρ], spec_l02Finite_fn v37 F' (by rw [hi]; rfl) (st_nil hi) ⟨bslc_ok hi (by rw [h0, hρ]; exact rowF32_ok hs (DVs.okAt ha 0 rfl) hv37), trivial⟩ hy⟩) rfl
  · cases hr
/-! spec.l07Thirds -/
noncomputable def spec_l07Thirds_LO (v34 : List Nat) (v35 : List Nat) (v36 : List Nat) : LOr := fun id e L =>
  match id with
  | _ => .fail
noncomputable def spec_l07Thirds_tab : List (FuncId × DFn × Bool) := [(140, spec_l02Finite_F, true)]
theorem spec_l07Thirds_hO : OrcOk Try.prog (tabD spec_l07Thirds_tab) (tabM spec_l07Thirds_tab) := tabD_cons spec_l02Finite_Fok (tabD_nil _)
noncomputable def spec_l07Thirds_T (v34 : List Nat) (v35 : List Nat) (v36 : List Nat) : Tree (Bool) :=
  (.br (decide (((v35.length : Nat) : Int) < (1 : Int))) (
   .leaf false
  ) (
   (.br (decide ((32 : Int) < ((v35.length : Nat) : Int))) (
    .leaf false
   ) (
    (.br (!decide (((v34.length : Nat) : Int) = ((v35.length : Nat) : Int))) (
     .leaf false
    ) (
     (.br (!decide (((v36.length : Nat) : Int) = ((v35.length : Nat) : Int))) (
      .leaf false
     ) (
      (.call (spec_l02Finite_g v34) fun v45 =>
      (.br v45 (
       (.call (spec_l02Finite_g v35) fun v46 =>
       (.br v46 (
        (.call (spec_l02Finite_g v36) fun v47 =>
        (.br v47 (
         (.grd (inb (0 : Int) v34.length) <|
         (.br (feq .f32 (nth v34 (Int.toNat (0 : Int))) (0 : Nat)) (
          (.grd (inb (IntKind.i64.wrap (((v35.length : Nat) : Int) - (1 : Int))) v36.length) <|
          .leaf (feq .f32 (nth v36 (Int.toNat (IntKind.i64.wrap (((v35.length : Nat) : Int) - (1 : Int))))) (0 : Nat)))
         ) (
          .leaf false
         )))
        ) (
         .leaf false
        )))
       ) (
        .leaf false
       )))
      ) (
       .leaf false
      )))
     ))
    ))
   ))
  ))

noncomputable def spec_l07Thirds_g (v34 : List Nat) (v35 : List Nat) (v36 : List Nat) : Option (Bool) := (spec_l07Thirds_T v34 v35 v36).run
def spec_l07Thirds_enc (v34 : List Nat) (v35 : List Nat) (v36 : List Nat) (y : Bool) : Rs := (.bool y, [])
theorem spec_l07Thirds_den (v34 : List Nat) (v35 : List Nat) (v36 : List Nat) : (den TT (tabD spec_l07Thirds_tab) (tabM spec_l07Thirds_tab) (spec_l07Thirds_LO v34 v35 v36) (codeOf Try.f152) ([.bptr (BR.root 0) [.bslc (BR.root 1) (.f32 v34), .bslc (BR.root 2) (.f32 v35), .bslc (BR.root 3) (.f32 v36)]] ++ List.replicate (Try.f152.ntmps - ([.bptr (BR.root 0) [.bslc (BR.root 1) (.f32 v34), .bslc (BR.root 2) (.f32 v35), .bslc (BR.root 3) (.f32 v36)]] : List DV).length) .undef) []).bind (retD TT Try.f152.results.toList 0) = (spec_l07Thirds_T v34 v35 v36).bind fun y => .leaf (spec_l07Thirds_enc v34 v35 v36 y) := by kernel_rfl
theorem spec_l07Thirds_fn (v34 : List Nat) (v35 : List Nat) (v36 : List Nat) (F : Fr) (hm : F.ids.length = 0) (h0 : St F [] F.H0) (hA : DVs.Ok F [] [.bptr (BR.root 0) [.bslc (BR.root 1) (.f32 v34), .bslc (BR.root 2) (.f32 v35), .bslc (BR.root 3) (.f32 v36)]]) {y : Bool} (hy : spec_l07Thirds_g v34 v35 v36 = some y) : ∃ H', FnOk Try.prog 152 (DVs.av F [.bptr (BR.root 0) [.bslc (BR.root 1) (.f32 v34), .bslc (BR.root 2) (.f32 v35), .bslc (BR.root 3) (.f32 v36)]]) F.H0 ((spec_l07Thirds_enc v34 v35 v36 y).1.av F) H' ∧ St F (spec_l07Thirds_enc v34 v35 v36 y).2 H' ∧ (spec_l07Thirds_enc v34 v35 v36 y).1.Ok F (spec_l07Thirds_enc v34 v35 v36 y).2 :=
  fn_fin tok spec_l07Thirds_hO mixed Try.func152 Try.call152 (by kernel_rfl) (LoopsOk_eq (l := []) (by kernel_rfl) trivial) (spec_l07Thirds_den v34 v35 v36) hy hm h0 hA
noncomputable def spec_l07Thirds_F : DFn := fun args L =>
  match args with
  | [a1] =>
    optT (cellsOf L 3 a1) fun cs0 =>
    (match cs0 with
    | [a2, a3, a4] =>
    optT (rowF32 L a2) fun v34 =>
    optT (rowF32 L a3) fun v35 =>
    optT (rowF32 L a4) fun v36 =>
    .call (spec_l07Thirds_g v34 v35 v36) fun y => .leaf (.bool y, L)
    | _ => .fail)
  | _ => .fail
theorem spec_l07Thirds_Fok : COk Try.prog 152 spec_l07Thirds_F true := by
  intro F L H args r L' hs ha hr
  unfold spec_l07Thirds_F at hr
  split at hr
  · rename_i a1
    obtain ⟨cs0, hcp0, hr⟩ := optT_run hr
    split at hr
    · rename_i a2 a3 a4
      obtain ⟨v34, hv34, hr⟩ := optT_run hr
      obtain ⟨v35, hv35, hr⟩ := optT_run hr
      obtain ⟨v36, hv36, hr⟩ := optT_run hr
      simp only [Tree.run] at hr
      obtain ⟨y, hy, hr⟩ := Option.bind_eq_some_iff.1 hr
      simp only [Tree.run, Option.some.injEq, Prod.mk.injEq] at hr
      obtain ⟨rfl, rfl⟩ := hr
      exact call_ok0 hs (fun k => (([a1.av F, a2.av F, a3.av F, a4.av F] : List AV)[k]?).getD .top) [a1] [.bptr (BR.root 0) [.bslc (BR.root 1) (.f32 v34), .bslc (BR.root 2) (.f32 v35), .bslc (BR.root 3) (.f32 v36)]] (fun F' h0 hi hρ => ⟨by simp [DVs.av, DV.av, BR.av, hρ], spec_l07Thirds_fn v34 v35 v36 F' (by rw [hi]; rfl) (st_nil hi) ⟨bptr_ok hi (by rw [h0]; simpa [DVs.av, DV.av, BR.av, hρ] using (cellsOf_ok hs (DVs.okAt ha 0 rfl) hcp0).1) ⟨bslc_ok hi (by rw [h0, hρ]; exact rowF32_ok hs (DVs.okAt (cellsOf_ok hs (DVs.okAt ha 0 rfl) hcp0).2 0 rfl) hv34), bslc_ok hi (by rw [h0, hρ]; exact rowF32_ok hs (DVs.okAt (cellsOf_ok hs (DVs.okAt ha 0 rfl) hcp0).2 1 rfl) hv35), bslc_ok hi (by rw [h0, hρ]; exact rowF32_ok hs (DVs.okAt (cellsOf_ok hs (DVs.okAt ha 0 rfl) hcp0).2 2 rfl) hv36), trivial⟩, trivial⟩ hy⟩) rfl
    · cases hr
  · cases hr
/-! spec.l07Fits -/
noncomputable def spec_l07Fits_LO (v30 : List Nat) (v31 : List Nat) (v32 : List Nat) (v33 : List Nat) : LOr := fun id e L =>
  match id with
  | _ => .fail
noncomputable def spec_l07Fits_tab : List (FuncId × DFn × Bool) := [(152, spec_l07Thirds_F, true), (140, spec_l02Finite_F, true)]
theorem spec_l07Fits_hO : OrcOk Try.prog (tabD spec_l07Fits_tab) (tabM spec_l07Fits_tab) := tabD_cons spec_l07Thirds_Fok (tabD_cons spec_l02Finite_Fok (tabD_nil _))
noncomputable def spec_l07Fits_T (v30 : List Nat) (v31 : List Nat) (v32 : List Nat) (v33 : List Nat) : Tree (Bool) :=
  (.call (spec_l07Thirds_g v30 v31 v32) fun v48 =>
  (.br v48 (
   (.br (decide (((v33.length : Nat) : Int) = ((v31.length : Nat) : Int))) (
    (.call (spec_l02Finite_g v33) fun v49 =>
    .leaf v49)
   ) (
    .leaf false
   ))
  ) (
   .leaf false
  )))

noncomputable def spec_l07Fits_g (v30 : List Nat) (v31 : List Nat) (v32 : List Nat) (v33 : List Nat) : Option (Bool) := (spec_l07Fits_T v30 v31 v32 v33).run
def spec_l07Fits_enc (v30 : List Nat) (v31 : List Nat) (v32 : List Nat) (v33 : List Nat) (y : Bool) : Rs := (.bool y, [])
theorem spec_l07Fits_den (v30 : List Nat) (v31 : List Nat) (v32 : List Nat) (v33 : List Nat) : (den TT (tabD spec_l07Fits_tab) (tabM spec_l07Fits_tab) (spec_l07Fits_LO v30 v31 v32 v33) (codeOf Try.f101) ([.bptr (BR.root 0) [.bslc (BR.root 1) (.f32 v30), .bslc (BR.root 2) (.f32 v31), .bslc (BR.root 3) (.f32 v32)], .bslc (BR.root 4) (.f32 v33)] ++ List.replicate (Try.f101.ntmps - ([.bptr (BR.root 0) [.bslc (BR.root 1) (.f32 v30), .bslc (BR.root 2) (.f32 v31), .bslc (BR.root 3) (.f32 v32)], .bslc (BR.root 4) (.f32 v33)] : List DV).length) .undef) []).bind (retD TT Try.f101.results.toList 0) = (spec_l07Fits_T v30 v31 v32 v33).bind fun y => .leaf (spec_l07Fits_enc v30 v31 v32 v33 y) := by kernel_rfl
theorem spec_l07Fits_fn (v30 : List Nat) (v31 : List Nat) (v32 : List Nat) (v33 : List Nat) (F : Fr) (hm : F.ids.length = 0) (h0 : St F [] F.H0) (hA : DVs.Ok F [] [.bptr (BR.root 0) [.bslc (BR.root 1) (.f32 v30), .bslc (BR.root 2) (.f32 v31), .bslc (BR.root 3) (.f32 v32)], .bslc (BR.root 4) (.f32 v33)]) {y : Bool} (hy : spec_l07Fits_g v30 v31 v32 v33 = some y) : ∃ H', FnOk Try.prog 101 (DVs.av F [.bptr (BR.root 0) [.bslc (BR.root 1) (.f32 v30), .bslc (BR.root 2) (.f32 v31), .bslc (BR.root 3) (.f32 v32)], .bslc (BR.root 4) (.f32 v33)]) F.H0 ((spec_l07Fits_enc v30 v31 v32 v33 y).1.av F) H' ∧ St F (spec_l07Fits_enc v30 v31 v32 v33 y).2 H' ∧ (spec_l07Fits_enc v30 v31 v32 v33 y).1.Ok F (spec_l07Fits_enc v30 v31 v32 v33 y).2 :=
  fn_fin tok spec_l07Fits_hO mixed Try.func101 Try.call101 (by kernel_rfl) (LoopsOk_eq (l := []) (by kernel_rfl) trivial) (spec_l07Fits_den v30 v31 v32 v33) hy hm h0 hA
noncomputable def spec_l07Fits_F : DFn := fun args L =>
  match args with
  | [a1, a5] =>
    optT (cellsOf L 3 a1) fun cs0 =>
    (match cs0 with
    | [a2, a3, a4] =>
    optT (rowF32 L a2) fun v30 =>
    optT (rowF32 L a3) fun v31 =>
    optT (rowF32 L a4) fun v32 =>
    optT (rowF32 L a5) fun v33 =>
    .call (spec_l07Fits_g v30 v31 v32 v33) fun y => .leaf (.bool y, L)
    | _ => .fail)
  | _ => .fail
theorem spec_l07Fits_Fok : COk Try.prog 101 spec_l07Fits_F true := by
  intro F L H args r L' hs ha hr
  unfold spec_l07Fits_F at hr
  split at hr
  · rename_i a1 a5
    obtain ⟨cs0, hcp0, hr⟩ := optT_run hr
    split at hr
    · rename_i a2 a3 a4
      obtain ⟨v30, hv30, hr⟩ := optT_run hr
      obtain ⟨v31, hv31, hr⟩ := optT_run hr
      obtain ⟨v32, hv32, hr⟩ := optT_run hr
      obtain ⟨v33, hv33, hr⟩ := optT_run hr
      simp only [Tree.run] at hr
      obtain ⟨y, hy, hr⟩ := Option.bind_eq_some_iff.1 hr
      simp only [Tree.run, Option.some.injEq, Prod.mk.injEq] at hr
      obtain ⟨rfl, rfl⟩ := hr
      exact call_ok0 hs (fun k => (([a1.av F, a2.av F, a3.av F, a4.av F, a5.av F] : List AV)[k]?).getD .top) [a1, a5] [.bptr (BR.root 0) [.bslc (BR.root 1) (.f32 v30), .bslc (BR.root 2) (.f32 v31), .bslc (BR.root 3) (.f32 v32)], .bslc (BR.root 4) (.f32 v33)] (fun F' h0 hi hρ => ⟨by simp [DVs.av, DV.av, BR.av, hρ], spec_l07Fits_fn v30 v31 v32 v33 F' (by rw [hi]; rfl) (st_nil hi) ⟨bptr_ok hi (by rw [h0]; simpa [DVs.av, DV.av, BR.av, hρ] using (cellsOf_ok hs (DVs.okAt ha 0 rfl) hcp0).1) ⟨bslc_ok hi (by rw [h0, hρ]; exact rowF32_ok hs (DVs.okAt (cellsOf_ok hs (DVs.okAt ha 0 rfl) hcp0).2 0 rfl) hv30), bslc_ok hi (by rw [h0, hρ]; exact rowF32_ok hs (DVs.okAt (cellsOf_ok hs (DVs.okAt ha 0 rfl) hcp0).2 1 rfl) hv31), bslc_ok hi (by rw [h0, hρ]; exact rowF32_ok hs (DVs.okAt (cellsOf_ok hs (DVs.okAt ha 0 rfl) hcp0).2 2 rfl) hv32), trivial⟩, bslc_ok hi (by rw [h0, hρ]; exact rowF32_ok hs (DVs.okAt ha 1 rfl) hv33), trivial⟩ hy⟩) rfl
    · cases hr
  · cases hr
/-! spec.l02List -/
noncomputable def spec_l02List_LO (v57 : List Nat) : LOr := fun id e L =>
  match id with
  | _ => .fail
noncomputable def spec_l02List_tab : List (FuncId × DFn × Bool) := [(140, spec_l02Finite_F, true)]
theorem spec_l02List_hO : OrcOk Try.prog (tabD spec_l02List_tab) (tabM spec_l02List_tab) := tabD_cons spec_l02Finite_Fok (tabD_nil _)
noncomputable def spec_l02List_T (v57 : List Nat) : Tree ((Unit) ⊕ (Unit)) :=
  (.call (spec_l02Finite_g v57) fun v58 =>
  (.br (!v58) (
   .leaf (.inl ())
  ) (
   .leaf (.inr ())
  )))

noncomputable def spec_l02List_g (v57 : List Nat) : Option ((Unit) ⊕ (Unit)) := (spec_l02List_T v57).run
def spec_l02List_enc (v57 : List Nat) (y : (Unit) ⊕ (Unit)) : Rs := (match y with | .inl y => (.tup [.nilslc, .lit false], []) | .inr y => (.tup [.bslc (BR.root 0) (.f32 v57), .lit true], []))
theorem spec_l02List_den (v57 : List Nat) : (den TT (tabD spec_l02List_tab) (tabM spec_l02List_tab) (spec_l02List_LO v57) (codeOf Try.f92) ([.bslc (BR.root 0) (.f32 v57)] ++ List.replicate (Try.f92.ntmps - ([.bslc (BR.root 0) (.f32 v57)] : List DV).length) .undef) []).bind (retD TT Try.f92.results.toList 0) = (spec_l02List_T v57).bind fun y => .leaf (spec_l02List_enc v57 y) := by kernel_rfl
theorem spec_l02List_fn (v57 : List Nat) (F : Fr) (hm : F.ids.length = 0) (h0 : St F [] F.H0) (hA : DVs.Ok F [] [.bslc (BR.root 0) (.f32 v57)]) {y : (Unit) ⊕ (Unit)} (hy : spec_l02List_g v57 = some y) : ∃ H', FnOk Try.prog 92 (DVs.av F [.bslc (BR.root 0) (.f32 v57)]) F.H0 ((spec_l02List_enc v57 y).1.av F) H' ∧ St F (spec_l02List_enc v57 y).2 H' ∧ (spec_l02List_enc v57 y).1.Ok F (spec_l02List_enc v57 y).2 :=
  fn_fin tok spec_l02List_hO mixed Try.func92 Try.call92 (by kernel_rfl) (LoopsOk_eq (l := []) (by kernel_rfl) trivial) (spec_l02List_den v57) hy hm h0 hA
noncomputable def spec_l02List_F : DFn := fun args L =>
  match args with
  | [a1] =>
    optT (rowF32 L a1) fun v57 =>
    .call (spec_l02List_g v57) fun y => .sum y (fun y0 => .leaf (.tup [.nilslc, .lit false], L)) (fun z0 => .leaf (.tup [a1, .lit true], L))
  | _ => .fail
theorem spec_l02List_Fok : COk Try.prog 92 spec_l02List_F true := by
  intro F L H args r L' hs ha hr
  unfold spec_l02List_F at hr
  split at hr
  · rename_i a1
    obtain ⟨v57, hv57, hr⟩ := optT_run hr
    simp only [Tree.run] at hr
    obtain ⟨y, hy, hr⟩ := Option.bind_eq_some_iff.1 hr
    cases y with
    | inl y =>
      simp only [Tree.run, Option.some.injEq, Prod.mk.injEq] at hr
      obtain ⟨rfl, rfl⟩ := hr
      exact call_ok0 hs (fun k => (([a1.av F] : List AV)[k]?).getD .top) [a1] [.bslc (BR.root 0) (.f32 v57)] (fun F' h0 hi hρ => ⟨by simp [DVs.av, DV.av, BR.av, hρ], spec_l02List_fn v57 F' (by rw [hi]; rfl) (st_nil hi) ⟨bslc_ok hi (by rw [h0, hρ]; exact rowF32_ok hs (DVs.okAt ha 0 rfl) hv57), trivial⟩ hy⟩) rfl
    | inr y =>
      simp only [Tree.run, Option.some.injEq, Prod.mk.injEq] at hr
      obtain ⟨rfl, rfl⟩ := hr
      exact call_al0 hs (fun k => (([a1.av F] : List AV)[k]?).getD .top) [a1] [.bslc (BR.root 0) (.f32 v57)] (fun F' h0 hi hρ => ⟨by simp [DVs.av, DV.av, BR.av, hρ], spec_l02List_fn v57 F' (by rw [hi]; rfl) (st_nil hi) ⟨bslc_ok hi (by rw [h0, hρ]; exact rowF32_ok hs (DVs.okAt ha 0 rfl) hv57), trivial⟩ hy⟩) (fun F' h0 hi hρ => by simp [spec_l02List_enc, DVs.av, DV.av, BR.av, hρ]) ⟨(DVs.okAt ha 0 rfl), trivial, trivial⟩
  · cases hr
/-! spec.ThirdsTimes -/
noncomputable def spec_ThirdsTimes_l0_T (v26 : List Nat) (v27 : List Nat) (v28 : List Nat) (v29 : List Nat) (s : Int × (List Nat)) : Tree ((Int × (List Nat)) ⊕ ((List Nat))) :=
  (.br (decide (s.1 < ((v29.length : Nat) : Int))) (
   (.br (decide ((0 : Int) < s.1)) (
    (.grd (inb s.1 v26.length) <|
    (.grd (inb (IntKind.i64.wrap (s.1 - (1 : Int))) v29.length) <|
    (.grd (inb s.1 v27.length) <|
    (.grd (inb s.1 v29.length) <|
    (.br (decide (IntKind.i64.wrap (s.1 + (1 : Int)) < ((v29.length : Nat) : Int))) (
     (.grd (inb s.1 v28.length) <|
     (.grd (inb (IntKind.i64.wrap (s.1 + (1 : Int))) v29.length) <|
     (.grd (fits (s.2 ++ ([fadd .f32 (fadd .f32 (fadd .f32 (0 : Nat) (fmul .f32 (nth v26 (Int.toNat s.1)) (nth v29 (Int.toNat (IntKind.i64.wrap (s.1 - (1 : Int))))))) (fmul .f32 (nth v27 (Int.toNat s.1)) (nth v29 (Int.toNat s.1)))) (fmul .f32 (nth v28 (Int.toNat s.1)) (nth v29 (Int.toNat (IntKind.i64.wrap (s.1 + (1 : Int))))))] : List Nat)).length) <|
     .leaf (.inl (IntKind.i64.wrap (s.1 + (1 : Int)), s.2 ++ ([fadd .f32 (fadd .f32 (fadd .f32 (0 : Nat) (fmul .f32 (nth v26 (Int.toNat s.1)) (nth v29 (Int.toNat (IntKind.i64.wrap (s.1 - (1 : Int))))))) (fmul .f32 (nth v27 (Int.toNat s.1)) (nth v29 (Int.toNat s.1)))) (fmul .f32 (nth v28 (Int.toNat s.1)) (nth v29 (Int.toNat (IntKind.i64.wrap (s.1 + (1 : Int))))))] : List Nat))))))
    ) (
     (.grd (fits (s.2 ++ ([fadd .f32 (fadd .f32 (0 : Nat) (fmul .f32 (nth v26 (Int.toNat s.1)) (nth v29 (Int.toNat (IntKind.i64.wrap (s.1 - (1 : Int))))))) (fmul .f32 (nth v27 (Int.toNat s.1)) (nth v29 (Int.toNat s.1)))] : List Nat)).length) <|
     .leaf (.inl (IntKind.i64.wrap (s.1 + (1 : Int)), s.2 ++ ([fadd .f32 (fadd .f32 (0 : Nat) (fmul .f32 (nth v26 (Int.toNat s.1)) (nth v29 (Int.toNat (IntKind.i64.wrap (s.1 - (1 : Int))))))) (fmul .f32 (nth v27 (Int.toNat s.1)) (nth v29 (Int.toNat s.1)))] : List Nat))))
    ))))))
   ) (
    (.grd (inb s.1 v27.length) <|
    (.grd (inb s.1 v29.length) <|
    (.br (decide (IntKind.i64.wrap (s.1 + (1 : Int)) < ((v29.length : Nat) : Int))) (
     (.grd (inb s.1 v28.length) <|
     (.grd (inb (IntKind.i64.wrap (s.1 + (1 : Int))) v29.length) <|
     (.grd (fits (s.2 ++ ([fadd .f32 (fadd .f32 (0 : Nat) (fmul .f32 (nth v27 (Int.toNat s.1)) (nth v29 (Int.toNat s.1)))) (fmul .f32 (nth v28 (Int.toNat s.1)) (nth v29 (Int.toNat (IntKind.i64.wrap (s.1 + (1 : Int))))))] : List Nat)).length) <|
     .leaf (.inl (IntKind.i64.wrap (s.1 + (1 : Int)), s.2 ++ ([fadd .f32 (fadd .f32 (0 : Nat) (fmul .f32 (nth v27 (Int.toNat s.1)) (nth v29 (Int.toNat s.1)))) (fmul .f32 (nth v28 (Int.toNat s.1)) (nth v29 (Int.toNat (IntKind.i64.wrap (s.1 + (1 : Int))))))] : List Nat))))))
    ) (
     (.grd (fits (s.2 ++ ([fadd .f32 (0 : Nat) (fmul .f32 (nth v27 (Int.toNat s.1)) (nth v29 (Int.toNat s.1)))] : List Nat)).length) <|
     .leaf (.inl (IntKind.i64.wrap (s.1 + (1 : Int)), s.2 ++ ([fadd .f32 (0 : Nat) (fmul .f32 (nth v27 (Int.toNat s.1)) (nth v29 (Int.toNat s.1)))] : List Nat))))
    ))))
   ))
  ) (
   .leaf (.inr s.2)
  ))

noncomputable def spec_ThirdsTimes_l0_g (v26 : List Nat) (v27 : List Nat) (v28 : List Nat) (v29 : List Nat) (s0 : Int × (List Nat)) : Option ((List Nat)) := whileM (fun s => (spec_ThirdsTimes_l0_T v26 v27 v28 v29 s).run) s0
def spec_ThirdsTimes_l0_E (v26 : List Nat) (v27 : List Nat) (v28 : List Nat) (v29 : List Nat) (s : Int × (List Nat)) : Sd := ([.top, .bslc (BR.root 3) (.f32 v29), .ptr 0 (0 : Nat) 0 (3 : Nat), .top, .top, .top, .own 1 0 ((s.2).length), .top, .top, .top, .top, .top, .top, .top, .int .i64 ((v29.length : Nat) : Int), .int .i64 s.1, .top, .top, .top, .top, .top, .top, .top, .top, .top, .top, .top, .top, .top, .top, .top, .top, .top, .top, .top, .top, .top, .top, .top, .top, .top, .top, .top, .top, .top, .top, .top, .top, .top, .top, .top, .top, .top, .top, .top, .top, .top, .top, .top, .top, .top, .top, .top, .top, .top, .top, .top, .top, .top, .top, .top, .top], [.gen [.bslc (BR.root 0) (.f32 v26), .bslc (BR.root 1) (.f32 v27), .bslc (BR.root 2) (.f32 v28)] false 0, .row (.f32 s.2) 0])
def spec_ThirdsTimes_l0_X (v26 : List Nat) (v27 : List Nat) (v28 : List Nat) (v29 : List Nat) (x : (List Nat)) : Out := (.normal, [.top, .top, .top, .top, .top, .top, .own 0 0 ((x).length), .top, .top, .top, .top, .top, .top, .top, .top, .top, .top, .top, .top, .top, .top, .top, .top, .top, .top, .top, .top, .top, .top, .top, .top, .top, .top, .top, .top, .top, .top, .top, .top, .top, .top, .top, .top, .top, .top, .top, .top, .top, .top, .top, .top, .top, .top, .top, .top, .top, .top, .top, .top, .top, .top, .top, .top, .top, .top, .top, .top, .top, .top, .top, .top, .top], [.row (.f32 x) 0])
def spec_ThirdsTimes_l0_kill : List Nat := [1, 0, 0, 1, 1, 1, 0, 1, 1, 1, 1, 1, 1, 1, 0, 0, 1, 1, 1, 1, 1, 1, 1, 1, 1, 1, 1, 1, 1, 1, 1, 1, 1, 1, 1, 1, 1, 1, 1, 1, 1, 1, 1, 1, 1, 1, 1, 1, 1, 1, 1, 1, 1, 1, 1, 1, 1, 1, 1, 1, 1, 1, 1, 1, 1, 1, 1, 1, 1, 1, 1, 1]
def spec_ThirdsTimes_l0_nx : Exit → List Nat
  | .exit 0 => [1, 1, 1, 1, 1, 1, 0, 1, 1, 1, 1, 1, 1, 1, 1, 1, 1, 1, 1, 1, 1, 1, 1, 1, 1, 1, 1, 1, 1, 1, 1, 1, 1, 1, 1, 1, 1, 1, 1, 1, 1, 1, 1, 1, 1, 1, 1, 1, 1, 1, 1, 1, 1, 1, 1, 1, 1, 1, 1, 1, 1, 1, 1, 1, 1, 1, 1, 1, 1, 1, 1, 1]
  | .ret => [1, 1, 1, 1, 0, 0, 1, 1, 1, 1, 1, 1, 1, 1, 1, 1, 1, 1, 1, 1, 1, 1, 1, 1, 1, 1, 1, 1, 1, 1, 1, 1, 1, 1, 1, 1, 1, 1, 1, 1, 1, 1, 1, 1, 1, 1, 1, 1, 1, 1, 1, 1, 1, 1, 1, 1, 1, 1, 1, 1, 1, 1, 1, 1, 1, 1, 1, 1, 1, 1, 1, 1]
  | _ => []
noncomputable def spec_ThirdsTimes_LO (v26 : List Nat) (v27 : List Nat) (v28 : List Nat) (v29 : List Nat) : LOr := fun id e L =>
  match id with
  | 0 => .need (normA 0 spec_ThirdsTimes_l0_kill e L = some (spec_ThirdsTimes_l0_E v26 v27 v28 v29 ((gI (vAt e 15)), (gRF L (vAt e 6))))) (.call (spec_ThirdsTimes_l0_g v26 v27 v28 v29 ((gI (vAt e 15)), (gRF L (vAt e 6)))) fun x => .leaf (spec_ThirdsTimes_l0_X v26 v27 v28 v29 x))
  | _ => .fail
noncomputable def spec_ThirdsTimes_tab : List (FuncId × DFn × Bool) := [(101, spec_l07Fits_F, true), (92, spec_l02List_F, true)]
theorem spec_ThirdsTimes_hO : OrcOk Try.prog (tabD spec_ThirdsTimes_tab) (tabM spec_ThirdsTimes_tab) := tabD_cons spec_l07Fits_Fok (tabD_cons spec_l02List_Fok (tabD_nil _))
theorem spec_ThirdsTimes_l0_be (v26 : List Nat) (v27 : List Nat) (v28 : List Nat) (v29 : List Nat) (s : Int × (List Nat)) : bodyT TT (tabD spec_ThirdsTimes_tab) (tabM spec_ThirdsTimes_tab) (spec_ThirdsTimes_LO v26 v27 v28 v29) 0 spec_ThirdsTimes_l0_kill spec_ThirdsTimes_l0_nx (bodyOf Try.f42 0) 0 (spec_ThirdsTimes_l0_E v26 v27 v28 v29 s) = (spec_ThirdsTimes_l0_T v26 v27 v28 v29 s).bind fun y => .leaf (outS (spec_ThirdsTimes_l0_E v26 v27 v28 v29) (spec_ThirdsTimes_l0_X v26 v27 v28 v29) y) := by kernel_rfl
theorem spec_ThirdsTimes_l0_ok (v26 : List Nat) (v27 : List Nat) (v28 : List Nat) (v29 : List Nat) : LSound Try.prog 0 (spec_ThirdsTimes_LO v26 v27 v28 v29) 0 (bodyOf Try.f42 0) := by
  intro e L out h
  exact lo_ok (E := spec_ThirdsTimes_l0_E v26 v27 v28 v29) (gT := spec_ThirdsTimes_l0_T v26 v27 v28 v29) (X := spec_ThirdsTimes_l0_X v26 v27 v28 v29) (s0 := ((gI (vAt e 15)), (gRF L (vAt e 6)))) tok spec_ThirdsTimes_hO mixed (LoopsOk_eq (l := []) (by kernel_rfl) trivial) (spec_ThirdsTimes_l0_be v26 v27 v28 v29) rfl (by intro x; rfl) h
noncomputable def spec_ThirdsTimes_T (v26 : List Nat) (v27 : List Nat) (v28 : List Nat) (v29 : List Nat) : Tree ((Unit) ⊕ ((List Nat))) :=
  (.call (spec_l07Fits_g v26 v27 v28 v29) fun v50 =>
  (.br (!v50) (
   .leaf (.inl ())
  ) (
   (.need (some (spec_ThirdsTimes_l0_E v26 v27 v28 v29 ((0 : Int), ([] : List Nat))) = some (spec_ThirdsTimes_l0_E v26 v27 v28 v29 ((0 : Int), ([] : List Nat)))) <|
   (.call (spec_ThirdsTimes_l0_g v26 v27 v28 v29 ((0 : Int), ([] : List Nat))) fun v56 =>
   (.call (spec_l02List_g v56) fun v59 =>
   (.sum v59 (fun v60 =>
    .leaf (.inl ())
   ) (fun v61 =>
    .leaf (.inr v56)
   )))))
  )))

noncomputable def spec_ThirdsTimes_g (v26 : List Nat) (v27 : List Nat) (v28 : List Nat) (v29 : List Nat) : Option ((Unit) ⊕ ((List Nat))) := (spec_ThirdsTimes_T v26 v27 v28 v29).run
def spec_ThirdsTimes_enc (v26 : List Nat) (v27 : List Nat) (v28 : List Nat) (v29 : List Nat) (y : (Unit) ⊕ ((List Nat))) : Rs := (match y with | .inl y => (.tup [.nilslc, .lit false], []) | .inr y => (.tup [.own 0 0 ((y).length), .lit true], [.row (.f32 y) 0]))
theorem spec_ThirdsTimes_den (v26 : List Nat) (v27 : List Nat) (v28 : List Nat) (v29 : List Nat) : (den TT (tabD spec_ThirdsTimes_tab) (tabM spec_ThirdsTimes_tab) (spec_ThirdsTimes_LO v26 v27 v28 v29) (codeOf Try.f42) ([.agg [.bslc (BR.root 0) (.f32 v26), .bslc (BR.root 1) (.f32 v27), .bslc (BR.root 2) (.f32 v28)], .bslc (BR.root 3) (.f32 v29)] ++ List.replicate (Try.f42.ntmps - ([.agg [.bslc (BR.root 0) (.f32 v26), .bslc (BR.root 1) (.f32 v27), .bslc (BR.root 2) (.f32 v28)], .bslc (BR.root 3) (.f32 v29)] : List DV).length) .undef) []).bind (retD TT Try.f42.results.toList 0) = (spec_ThirdsTimes_T v26 v27 v28 v29).bind fun y => .leaf (spec_ThirdsTimes_enc v26 v27 v28 v29 y) := by kernel_rfl
theorem spec_ThirdsTimes_fn (v26 : List Nat) (v27 : List Nat) (v28 : List Nat) (v29 : List Nat) (F : Fr) (hm : F.ids.length = 0) (h0 : St F [] F.H0) (hA : DVs.Ok F [] [.agg [.bslc (BR.root 0) (.f32 v26), .bslc (BR.root 1) (.f32 v27), .bslc (BR.root 2) (.f32 v28)], .bslc (BR.root 3) (.f32 v29)]) {y : (Unit) ⊕ ((List Nat))} (hy : spec_ThirdsTimes_g v26 v27 v28 v29 = some y) : ∃ H', FnOk Try.prog 42 (DVs.av F [.agg [.bslc (BR.root 0) (.f32 v26), .bslc (BR.root 1) (.f32 v27), .bslc (BR.root 2) (.f32 v28)], .bslc (BR.root 3) (.f32 v29)]) F.H0 ((spec_ThirdsTimes_enc v26 v27 v28 v29 y).1.av F) H' ∧ St F (spec_ThirdsTimes_enc v26 v27 v28 v29 y).2 H' ∧ (spec_ThirdsTimes_enc v26 v27 v28 v29 y).1.Ok F (spec_ThirdsTimes_enc v26 v27 v28 v29 y).2 :=
  fn_fin tok spec_ThirdsTimes_hO mixed Try.func42 Try.call42 (by kernel_rfl) (LoopsOk_eq (l := [(0, bodyOf Try.f42 0)]) (by kernel_rfl) ⟨spec_ThirdsTimes_l0_ok v26 v27 v28 v29, trivial⟩) (spec_ThirdsTimes_den v26 v27 v28 v29) hy hm h0 hA
noncomputable def spec_ThirdsTimes_F : DFn := fun args L =>
  match args with
  | [.agg [a1, a2, a3], a4] =>
    optT (rowF32 L a1) fun v26 =>
    optT (rowF32 L a2) fun v27 =>
    optT (rowF32 L a3) fun v28 =>
    optT (rowF32 L a4) fun v29 =>
    .call (spec_ThirdsTimes_g v26 v27 v28 v29) fun y => .sum y (fun y0 => .leaf (.tup [.nilslc, .lit false], L)) (fun z0 => .leaf (.tup [.own (L.length + 0) 0 ((z0).length), .lit true], L ++ [.row (.f32 z0) 0]))
  | _ => .fail
theorem spec_ThirdsTimes_Fok : COk Try.prog 42 spec_ThirdsTimes_F true := by
  intro F L H args r L' hs ha hr
  unfold spec_ThirdsTimes_F at hr
  split at hr
  · rename_i a1 a2 a3 a4
    obtain ⟨v26, hv26, hr⟩ := optT_run hr
    obtain ⟨v27, hv27, hr⟩ := optT_run hr
    obtain ⟨v28, hv28, hr⟩ := optT_run hr
    obtain ⟨v29, hv29, hr⟩ := optT_run hr
    simp only [Tree.run] at hr
    obtain ⟨y, hy, hr⟩ := Option.bind_eq_some_iff.1 hr
    cases y with
    | inl y =>
      simp only [Tree.run, Option.some.injEq, Prod.mk.injEq] at hr
      obtain ⟨rfl, rfl⟩ := hr
      exact call_ok0 hs (fun k => (([a1.av F, a2.av F, a3.av F, a4.av F] : List AV)[k]?).getD .top) [.agg [a1, a2, a3], a4] [.agg [.bslc (BR.root 0) (.f32 v26), .bslc (BR.root 1) (.f32 v27), .bslc (BR.root 2) (.f32 v28)], .bslc (BR.root 3) (.f32 v29)] (fun F' h0 hi hρ => ⟨by simp [DVs.av, DV.av, BR.av, hρ], spec_ThirdsTimes_fn v26 v27 v28 v29 F' (by rw [hi]; rfl) (st_nil hi) ⟨⟨bslc_ok hi (by rw [h0, hρ]; exact rowF32_ok hs (DVs.okAt (DVs.okAt ha 0 rfl) 0 rfl) hv26), bslc_ok hi (by rw [h0, hρ]; exact rowF32_ok hs (DVs.okAt (DVs.okAt ha 0 rfl) 1 rfl) hv27), bslc_ok hi (by rw [h0, hρ]; exact rowF32_ok hs (DVs.okAt (DVs.okAt ha 0 rfl) 2 rfl) hv28), trivial⟩, bslc_ok hi (by rw [h0, hρ]; exact rowF32_ok hs (DVs.okAt ha 1 rfl) hv29), trivial⟩ hy⟩) rfl
    | inr y =>
      simp only [Tree.run, Option.some.injEq, Prod.mk.injEq] at hr
      obtain ⟨rfl, rfl⟩ := hr
      exact call_ok1 hs (fun k => (([a1.av F, a2.av F, a3.av F, a4.av F] : List AV)[k]?).getD .top) [.agg [a1, a2, a3], a4] [.agg [.bslc (BR.root 0) (.f32 v26), .bslc (BR.root 1) (.f32 v27), .bslc (BR.root 2) (.f32 v28)], .bslc (BR.root 3) (.f32 v29)] (fun F' h0 hi hρ => ⟨by simp [DVs.av, DV.av, BR.av, hρ], spec_ThirdsTimes_fn v26 v27 v28 v29 F' (by rw [hi]; rfl) (st_nil hi) ⟨⟨bslc_ok hi (by rw [h0, hρ]; exact rowF32_ok hs (DVs.okAt (DVs.okAt ha 0 rfl) 0 rfl) hv26), bslc_ok hi (by rw [h0, hρ]; exact rowF32_ok hs (DVs.okAt (DVs.okAt ha 0 rfl) 1 rfl) hv27), bslc_ok hi (by rw [h0, hρ]; exact rowF32_ok hs (DVs.okAt (DVs.okAt ha 0 rfl) 2 rfl) hv28), trivial⟩, bslc_ok hi (by rw [h0, hρ]; exact rowF32_ok hs (DVs.okAt ha 1 rfl) hv29), trivial⟩ hy⟩) rfl rfl
  · cases hr
/-! impl.length[float32] -/
noncomputable def impl_lengthF_LO (v80 : List Nat) : LOr := fun id e L =>
  match id with
  | _ => .fail
noncomputable def impl_lengthF_tab : List (FuncId × DFn × Bool) := []
theorem impl_lengthF_hO : OrcOk Try.prog (tabD impl_lengthF_tab) (tabM impl_lengthF_tab) := tabD_nil _
noncomputable def impl_lengthF_T (v80 : List Nat) : Tree (Int) :=
  .leaf ((v80.length : Nat) : Int)

noncomputable def impl_lengthF_g (v80 : List Nat) : Option (Int) := (impl_lengthF_T v80).run
def impl_lengthF_enc (v80 : List Nat) (y : Int) : Rs := (.int .i64 y, [])
theorem impl_lengthF_den (v80 : List Nat) : (den TT (tabD impl_lengthF_tab) (tabM impl_lengthF_tab) (impl_lengthF_LO v80) (codeOf Try.f142) ([.bslc (BR.root 0) (.f32 v80)] ++ List.replicate (Try.f142.ntmps - ([.bslc (BR.root 0) (.f32 v80)] : List DV).length) .undef) []).bind (retD TT Try.f142.results.toList 0) = (impl_lengthF_T v80).bind fun y => .leaf (impl_lengthF_enc v80 y) := by kernel_rfl
theorem impl_lengthF_fn (v80 : List Nat) (F : Fr) (hm : F.ids.length = 0) (h0 : St F [] F.H0) (hA : DVs.Ok F [] [.bslc (BR.root 0) (.f32 v80)]) {y : Int} (hy : impl_lengthF_g v80 = some y) : ∃ H', FnOk Try.prog 142 (DVs.av F [.bslc (BR.root 0) (.f32 v80)]) F.H0 ((impl_lengthF_enc v80 y).1.av F) H' ∧ St F (impl_lengthF_enc v80 y).2 H' ∧ (impl_lengthF_enc v80 y).1.Ok F (impl_lengthF_enc v80 y).2 :=
  fn_fin tok impl_lengthF_hO mixed Try.func142 Try.call142 (by kernel_rfl) (LoopsOk_eq (l := []) (by kernel_rfl) trivial) (impl_lengthF_den v80) hy hm h0 hA
def impl_lengthF_v (v80 : List Nat) : Int :=
  ((v80.length : Nat) : Int)
theorem impl_lengthF_tot (v80 : List Nat) : impl_lengthF_g v80 = some (impl_lengthF_v v80) := by
  unfold impl_lengthF_g impl_lengthF_T impl_lengthF_v
  simp only [Tree.run]
  repeat' (first | rfl | split)
noncomputable def impl_lengthF_F : DFn := fun args L =>
  match args with
  | [a1] =>
    optT (rowF32 L a1) fun v80 =>
    .leaf (.int .i64 (impl_lengthF_v v80), L)
  | _ => .fail
theorem impl_lengthF_Fok : COk Try.prog 142 impl_lengthF_F true := by
  intro F L H args r L' hs ha hr
  unfold impl_lengthF_F at hr
  split at hr
  · rename_i a1
    obtain ⟨v80, hv80, hr⟩ := optT_run hr
    have hy := impl_lengthF_tot v80
    generalize impl_lengthF_v v80 = y at hy hr
    simp only [Tree.run, Option.some.injEq, Prod.mk.injEq] at hr
    obtain ⟨rfl, rfl⟩ := hr
    exact call_ok0 hs (fun k => (([a1.av F] : List AV)[k]?).getD .top) [a1] [.bslc (BR.root 0) (.f32 v80)] (fun F' h0 hi hρ => ⟨by simp [DVs.av, DV.av, BR.av, hρ], impl_lengthF_fn v80 F' (by rw [hi]; rfl) (st_nil hi) ⟨bslc_ok hi (by rw [h0, hρ]; exact rowF32_ok hs (DVs.okAt ha 0 rfl) hv80), trivial⟩ hy⟩) rfl
  · cases hr
/-! impl.inRange -/
noncomputable def impl_inRange_LO (v81 : Int) (v82 : Int) (v83 : Int) : LOr := fun id e L =>
  match id with
  | _ => .fail
noncomputable def impl_inRange_tab : List (FuncId × DFn × Bool) := []
theorem impl_inRange_hO : OrcOk Try.prog (tabD impl_inRange_tab) (tabM impl_inRange_tab) := tabD_nil _
noncomputable def impl_inRange_T (v81 : Int) (v82 : Int) (v83 : Int) : Tree (Bool) :=
  (.br (decide (v82 ≤ v81)) (
   .leaf (decide (v81 ≤ v83))
  ) (
   .leaf false
  ))

noncomputable def impl_inRange_g (v81 : Int) (v82 : Int) (v83 : Int) : Option (Bool) := (impl_inRange_T v81 v82 v83).run
def impl_inRange_enc (v81 : Int) (v82 : Int) (v83 : Int) (y : Bool) : Rs := (.bool y, [])
theorem impl_inRange_den (v81 : Int) (v82 : Int) (v83 : Int) : (den TT (tabD impl_inRange_tab) (tabM impl_inRange_tab) (impl_inRange_LO v81 v82 v83) (codeOf Try.f80) ([.int .i64 v81, .int .i64 v82, .int .i64 v83] ++ List.replicate (Try.f80.ntmps - ([.int .i64 v81, .int .i64 v82, .int .i64 v83] : List DV).length) .undef) []).bind (retD TT Try.f80.results.toList 0) = (impl_inRange_T v81 v82 v83).bind fun y => .leaf (impl_inRange_enc v81 v82 v83 y) := by kernel_rfl
theorem impl_inRange_fn (v81 : Int) (v82 : Int) (v83 : Int) (F : Fr) (hm : F.ids.length = 0) (h0 : St F [] F.H0) (hA : DVs.Ok F [] [.int .i64 v81, .int .i64 v82, .int .i64 v83]) {y : Bool} (hy : impl_inRange_g v81 v82 v83 = some y) : ∃ H', FnOk Try.prog 80 (DVs.av F [.int .i64 v81, .int .i64 v82, .int .i64 v83]) F.H0 ((impl_inRange_enc v81 v82 v83 y).1.av F) H' ∧ St F (impl_inRange_enc v81 v82 v83 y).2 H' ∧ (impl_inRange_enc v81 v82 v83 y).1.Ok F (impl_inRange_enc v81 v82 v83 y).2 :=
  fn_fin tok impl_inRange_hO mixed Try.func80 Try.call80 (by kernel_rfl) (LoopsOk_eq (l := []) (by kernel_rfl) trivial) (impl_inRange_den v81 v82 v83) hy hm h0 hA
def impl_inRange_v (v81 : Int) (v82 : Int) (v83 : Int) : Bool :=
  if (decide (v82 ≤ v81)) = true then (
   decide (v81 ≤ v83)
  ) else (
   false
  )
theorem impl_inRange_tot (v81 : Int) (v82 : Int) (v83 : Int) : impl_inRange_g v81 v82 v83 = some (impl_inRange_v v81 v82 v83) := by
  unfold impl_inRange_g impl_inRange_T impl_inRange_v
  simp only [Tree.run]
  repeat' (first | rfl | split)
noncomputable def impl_inRange_F : DFn := fun args L =>
  match args with
  | [.int .i64 v81, .int .i64 v82, .int .i64 v83] =>
    .leaf (.bool (impl_inRange_v v81 v82 v83), L)
  | _ => .fail
theorem impl_inRange_Fok : COk Try.prog 80 impl_inRange_F true := by
  intro F L H args r L' hs ha hr
  unfold impl_inRange_F at hr
  split at hr
  · rename_i v81 v82 v83
    have hy := impl_inRange_tot v81 v82 v83
    generalize impl_inRange_v v81 v82 v83 = y at hy hr
    simp only [Tree.run, Option.some.injEq, Prod.mk.injEq] at hr
    obtain ⟨rfl, rfl⟩ := hr
    exact call_ok0 hs (fun k => (([] : List AV)[k]?).getD .top) [.int .i64 v81, .int .i64 v82, .int .i64 v83] [.int .i64 v81, .int .i64 v82, .int .i64 v83] (fun F' h0 hi hρ => ⟨by simp [DVs.av, DV.av, BR.av, hρ], impl_inRange_fn v81 v82 v83 F' (by rw [hi]; rfl) (st_nil hi) ⟨trivial, trivial, trivial, trivial⟩ hy⟩) rfl
  · cases hr
/-! math.IsNaN -/
noncomputable def math_IsNaN_LO (v91 : Nat) : LOr := fun id e L =>
  match id with
  | _ => .fail
noncomputable def math_IsNaN_tab : List (FuncId × DFn × Bool) := []
theorem math_IsNaN_hO : OrcOk Try.prog (tabD math_IsNaN_tab) (tabM math_IsNaN_tab) := tabD_nil _
noncomputable def math_IsNaN_T (v91 : Nat) : Tree (Bool) :=
  .leaf (!feq .f64 v91 v91)

noncomputable def math_IsNaN_g (v91 : Nat) : Option (Bool) := (math_IsNaN_T v91).run
def math_IsNaN_enc (v91 : Nat) (y : Bool) : Rs := (.bool y, [])
theorem math_IsNaN_den (v91 : Nat) : (den TT (tabD math_IsNaN_tab) (tabM math_IsNaN_tab) (math_IsNaN_LO v91) (codeOf Try.f188) ([.flt .f64 v91] ++ List.replicate (Try.f188.ntmps - ([.flt .f64 v91] : List DV).length) .undef) []).bind (retD TT Try.f188.results.toList 0) = (math_IsNaN_T v91).bind fun y => .leaf (math_IsNaN_enc v91 y) := by kernel_rfl
theorem math_IsNaN_fn (v91 : Nat) (F : Fr) (hm : F.ids.length = 0) (h0 : St F [] F.H0) (hA : DVs.Ok F [] [.flt .f64 v91]) {y : Bool} (hy : math_IsNaN_g v91 = some y) : ∃ H', FnOk Try.prog 188 (DVs.av F [.flt .f64 v91]) F.H0 ((math_IsNaN_enc v91 y).1.av F) H' ∧ St F (math_IsNaN_enc v91 y).2 H' ∧ (math_IsNaN_enc v91 y).1.Ok F (math_IsNaN_enc v91 y).2 :=
  fn_fin tok math_IsNaN_hO mixed Try.func188 Try.call188 (by kernel_rfl) (LoopsOk_eq (l := []) (by kernel_rfl) trivial) (math_IsNaN_den v91) hy hm h0 hA
def math_IsNaN_v (v91 : Nat) : Bool :=
  !feq .f64 v91 v91
theorem math_IsNaN_tot (v91 : Nat) : math_IsNaN_g v91 = some (math_IsNaN_v v91) := by
  unfold math_IsNaN_g math_IsNaN_T math_IsNaN_v
  simp only [Tree.run]
  repeat' (first | rfl | split)
noncomputable def math_IsNaN_F : DFn := fun args L =>
  match args with
  | [.flt .f64 v91] =>
    .leaf (.bool (math_IsNaN_v v91), L)
  | _ => .fail
theorem math_IsNaN_Fok : COk Try.prog 188 math_IsNaN_F true := by
  intro F L H args r L' hs ha hr
  unfold math_IsNaN_F at hr
  split at hr
  · rename_i v91
    have hy := math_IsNaN_tot v91
    generalize math_IsNaN_v v91 = y at hy hr
    simp only [Tree.run, Option.some.injEq, Prod.mk.injEq] at hr
    obtain ⟨rfl, rfl⟩ := hr
    exact call_ok0 hs (fun k => (([] : List AV)[k]?).getD .top) [.flt .f64 v91] [.flt .f64 v91] (fun F' h0 hi hρ => ⟨by simp [DVs.av, DV.av, BR.av, hρ], math_IsNaN_fn v91 F' (by rw [hi]; rfl) (st_nil hi) ⟨trivial, trivial⟩ hy⟩) rfl
  · cases hr
/-! math.IsInf -/
noncomputable def math_IsInf_LO (v92 : Nat) (v93 : Int) : LOr := fun id e L =>
  match id with
  | _ => .fail
noncomputable def math_IsInf_tab : List (FuncId × DFn × Bool) := [(191, Abs_F, true)]
theorem math_IsInf_hO : OrcOk Try.prog (tabD math_IsInf_tab) (tabM math_IsInf_tab) := tabD_cons Abs_Fok (tabD_nil _)
noncomputable def math_IsInf_T (v92 : Nat) (v93 : Int) : Tree (Bool) :=
  (.br (decide (v93 = (0 : Int))) (
   .leaf (fgrt .f64 (fabs v92) (9218868437227405311 : Nat))
  ) (
   (.br (decide (v93 < (0 : Int))) (
    .leaf (fgrt .f64 (fneg .f64 v92) (9218868437227405311 : Nat))
   ) (
    .leaf (fgrt .f64 v92 (9218868437227405311 : Nat))
   ))
  ))

noncomputable def math_IsInf_g (v92 : Nat) (v93 : Int) : Option (Bool) := (math_IsInf_T v92 v93).run
def math_IsInf_enc (v92 : Nat) (v93 : Int) (y : Bool) : Rs := (.bool y, [])
theorem math_IsInf_den (v92 : Nat) (v93 : Int) : (den TT (tabD math_IsInf_tab) (tabM math_IsInf_tab) (math_IsInf_LO v92 v93) (codeOf Try.f189) ([.flt .f64 v92, .int .i64 v93] ++ List.replicate (Try.f189.ntmps - ([.flt .f64 v92, .int .i64 v93] : List DV).length) .undef) []).bind (retD TT Try.f189.results.toList 0) = (math_IsInf_T v92 v93).bind fun y => .leaf (math_IsInf_enc v92 v93 y) := by kernel_rfl
theorem math_IsInf_fn (v92 : Nat) (v93 : Int) (F : Fr) (hm : F.ids.length = 0) (h0 : St F [] F.H0) (hA : DVs.Ok F [] [.flt .f64 v92, .int .i64 v93]) {y : Bool} (hy : math_IsInf_g v92 v93 = some y) : ∃ H', FnOk Try.prog 189 (DVs.av F [.flt .f64 v92, .int .i64 v93]) F.H0 ((math_IsInf_enc v92 v93 y).1.av F) H' ∧ St F (math_IsInf_enc v92 v93 y).2 H' ∧ (math_IsInf_enc v92 v93 y).1.Ok F (math_IsInf_enc v92 v93 y).2 :=
  fn_fin tok math_IsInf_hO mixed Try.func189 Try.call189 (by kernel_rfl) (LoopsOk_eq (l := []) (by kernel_rfl) trivial) (math_IsInf_den v92 v93) hy hm h0 hA
def math_IsInf_v (v92 : Nat) (v93 : Int) : Bool :=
  if (decide (v93 = (0 : Int))) = true then (
   fgrt .f64 (fabs v92) (9218868437227405311 : Nat)
  ) else (
   if (decide (v93 < (0 : Int))) = true then (
    fgrt .f64 (fneg .f64 v92) (9218868437227405311 : Nat)
   ) else (
    fgrt .f64 v92 (9218868437227405311 : Nat)
   )
  )
theorem math_IsInf_tot (v92 : Nat) (v93 : Int) : math_IsInf_g v92 v93 = some (math_IsInf_v v92 v93) := by
  unfold math_IsInf_g math_IsInf_T math_IsInf_v
  simp only [Tree.run]
  repeat' (first | rfl | split)
noncomputable def math_IsInf_F : DFn := fun args L =>
  match args with
  | [.flt .f64 v92, .int .i64 v93] =>
    .leaf (.bool (math_IsInf_v v92 v93), L)
  | _ => .fail
theorem math_IsInf_Fok : COk Try.prog 189 math_IsInf_F true := by
  intro F L H args r L' hs ha hr
  unfold math_IsInf_F at hr
  split at hr
  · rename_i v92 v93
    have hy := math_IsInf_tot v92 v93
    generalize math_IsInf_v v92 v93 = y at hy hr
    simp only [Tree.run, Option.some.injEq, Prod.mk.injEq] at hr
    obtain ⟨rfl, rfl⟩ := hr
    exact call_ok0 hs (fun k => (([] : List AV)[k]?).getD .top) [.flt .f64 v92, .int .i64 v93] [.flt .f64 v92, .int .i64 v93] (fun F' h0 hi hρ => ⟨by simp [DVs.av, DV.av, BR.av, hρ], math_IsInf_fn v92 v93 F' (by rw [hi]; rfl) (st_nil hi) ⟨trivial, trivial, trivial⟩ hy⟩) rfl
  · cases hr
/-! impl.isFinite64 -/
noncomputable def impl_isFinite64_LO (v90 : Nat) : LOr := fun id e L =>
  match id with
  | _ => .fail
noncomputable def impl_isFinite64_tab : List (FuncId × DFn × Bool) := [(188, math_IsNaN_F, true), (189, math_IsInf_F, true)]
theorem impl_isFinite64_hO : OrcOk Try.prog (tabD impl_isFinite64_tab) (tabM impl_isFinite64_tab) := tabD_cons math_IsNaN_Fok (tabD_cons math_IsInf_Fok (tabD_nil _))
noncomputable def impl_isFinite64_T (v90 : Nat) : Tree (Bool) :=
  (.br (!(math_IsNaN_v v90)) (
   .leaf (!(math_IsInf_v v90 (0 : Int)))
  ) (
   .leaf false
  ))

noncomputable def impl_isFinite64_g (v90 : Nat) : Option (Bool) := (impl_isFinite64_T v90).run
def impl_isFinite64_enc (v90 : Nat) (y : Bool) : Rs := (.bool y, [])
theorem impl_isFinite64_den (v90 : Nat) : (den TT (tabD impl_isFinite64_tab) (tabM impl_isFinite64_tab) (impl_isFinite64_LO v90) (codeOf Try.f183) ([.flt .f64 v90] ++ List.replicate (Try.f183.ntmps - ([.flt .f64 v90] : List DV).length) .undef) []).bind (retD TT Try.f183.results.toList 0) = (impl_isFinite64_T v90).bind fun y => .leaf (impl_isFinite64_enc v90 y) := by kernel_rfl
theorem impl_isFinite64_fn (v90 : Nat) (F : Fr) (hm : F.ids.length = 0) (h0 : St F [] F.H0) (hA : DVs.Ok F [] [.flt .f64 v90]) {y : Bool} (hy : impl_isFinite64_g v90 = some y) : ∃ H', FnOk Try.prog 183 (DVs.av F [.flt .f64 v90]) F.H0 ((impl_isFinite64_enc v90 y).1.av F) H' ∧ St F (impl_isFinite64_enc v90 y).2 H' ∧ (impl_isFinite64_enc v90 y).1.Ok F (impl_isFinite64_enc v90 y).2 :=
  fn_fin tok impl_isFinite64_hO mixed Try.func183 Try.call183 (by kernel_rfl) (LoopsOk_eq (l := []) (by kernel_rfl) trivial) (impl_isFinite64_den v90) hy hm h0 hA
def impl_isFinite64_v (v90 : Nat) : Bool :=
  if (!(math_IsNaN_v v90)) = true then (
   !(math_IsInf_v v90 (0 : Int))
  ) else (
   false
  )
theorem impl_isFinite64_tot (v90 : Nat) : impl_isFinite64_g v90 = some (impl_isFinite64_v v90) := by
  unfold impl_isFinite64_g impl_isFinite64_T impl_isFinite64_v
  simp only [Tree.run]
  repeat' (first | rfl | split)
noncomputable def impl_isFinite64_F : DFn := fun args L =>
  match args with
  | [.flt .f64 v90] =>
    .leaf (.bool (impl_isFinite64_v v90), L)
  | _ => .fail
theorem impl_isFinite64_Fok : COk Try.prog 183 impl_isFinite64_F true := by
  intro F L H args r L' hs ha hr
  unfold impl_isFinite64_F at hr
  split at hr
  · rename_i v90
    have hy := impl_isFinite64_tot v90
    generalize impl_isFinite64_v v90 = y at hy hr
    simp only [Tree.run, Option.some.injEq, Prod.mk.injEq] at hr
    obtain ⟨rfl, rfl⟩ := hr
    exact call_ok0 hs (fun k => (([] : List AV)[k]?).getD .top) [.flt .f64 v90] [.flt .f64 v90] (fun F' h0 hi hρ => ⟨by simp [DVs.av, DV.av, BR.av, hρ], impl_isFinite64_fn v90 F' (by rw [hi]; rfl) (st_nil hi) ⟨trivial, trivial⟩ hy⟩) rfl
  · cases hr
/-! impl.IsFinite -/
noncomputable def impl_IsFinite_LO (v89 : Nat) : LOr := fun id e L =>
  match id with
  | _ => .fail
noncomputable def impl_IsFinite_tab : List (FuncId × DFn × Bool) := [(183, impl_isFinite64_F, true)]
theorem impl_IsFinite_hO : OrcOk Try.prog (tabD impl_IsFinite_tab) (tabM impl_IsFinite_tab) := tabD_cons impl_isFinite64_Fok (tabD_nil _)
noncomputable def impl_IsFinite_T (v89 : Nat) : Tree (Bool) :=
  .leaf (impl_isFinite64_v (wid v89))

noncomputable def impl_IsFinite_g (v89 : Nat) : Option (Bool) := (impl_IsFinite_T v89).run
def impl_IsFinite_enc (v89 : Nat) (y : Bool) : Rs := (.bool y, [])
theorem impl_IsFinite_den (v89 : Nat) : (den TT (tabD impl_IsFinite_tab) (tabM impl_IsFinite_tab) (impl_IsFinite_LO v89) (codeOf Try.f147) ([.flt .f32 v89] ++ List.replicate (Try.f147.ntmps - ([.flt .f32 v89] : List DV).length) .undef) []).bind (retD TT Try.f147.results.toList 0) = (impl_IsFinite_T v89).bind fun y => .leaf (impl_IsFinite_enc v89 y) := by kernel_rfl
theorem impl_IsFinite_fn (v89 : Nat) (F : Fr) (hm : F.ids.length = 0) (h0 : St F [] F.H0) (hA : DVs.Ok F [] [.flt .f32 v89]) {y : Bool} (hy : impl_IsFinite_g v89 = some y) : ∃ H', FnOk Try.prog 147 (DVs.av F [.flt .f32 v89]) F.H0 ((impl_IsFinite_enc v89 y).1.av F) H' ∧ St F (impl_IsFinite_enc v89 y).2 H' ∧ (impl_IsFinite_enc v89 y).1.Ok F (impl_IsFinite_enc v89 y).2 :=
  fn_fin tok impl_IsFinite_hO mixed Try.func147 Try.call147 (by kernel_rfl) (LoopsOk_eq (l := []) (by kernel_rfl) trivial) (impl_IsFinite_den v89) hy hm h0 hA
def impl_IsFinite_v (v89 : Nat) : Bool :=
  (impl_isFinite64_v (wid v89))
theorem impl_IsFinite_tot (v89 : Nat) : impl_IsFinite_g v89 = some (impl_IsFinite_v v89) := by
  unfold impl_IsFinite_g impl_IsFinite_T impl_IsFinite_v
  simp only [Tree.run]
  repeat' (first | rfl | split)
noncomputable def impl_IsFinite_F : DFn := fun args L =>
  match args with
  | [.flt .f32 v89] =>
    .leaf (.bool (impl_IsFinite_v v89), L)
  | _ => .fail
theorem impl_IsFinite_Fok : COk Try.prog 147 impl_IsFinite_F true := by
  intro F L H args r L' hs ha hr
  unfold impl_IsFinite_F at hr
  split at hr
  · rename_i v89
    have hy := impl_IsFinite_tot v89
    generalize impl_IsFinite_v v89 = y at hy hr
    simp only [Tree.run, Option.some.injEq, Prod.mk.injEq] at hr
    obtain ⟨rfl, rfl⟩ := hr
    exact call_ok0 hs (fun k => (([] : List AV)[k]?).getD .top) [.flt .f32 v89] [.flt .f32 v89] (fun F' h0 hi hρ => ⟨by simp [DVs.av, DV.av, BR.av, hρ], impl_IsFinite_fn v89 F' (by rw [hi]; rfl) (st_nil hi) ⟨trivial, trivial⟩ hy⟩) rfl
  · cases hr
/-! impl.areFinite$1 -/
noncomputable def impl_areFinite_1_LO (v88 : Nat) : LOr := fun id e L =>
  match id with
  | _ => .fail
noncomputable def impl_areFinite_1_tab : List (FuncId × DFn × Bool) := [(147, impl_IsFinite_F, true)]
theorem impl_areFinite_1_hO : OrcOk Try.prog (tabD impl_areFinite_1_tab) (tabM impl_areFinite_1_tab) := tabD_cons impl_IsFinite_Fok (tabD_nil _)
noncomputable def impl_areFinite_1_T (v88 : Nat) : Tree (Bool) :=
  .leaf (!(impl_IsFinite_v v88))

noncomputable def impl_areFinite_1_g (v88 : Nat) : Option (Bool) := (impl_areFinite_1_T v88).run
def impl_areFinite_1_enc (v88 : Nat) (y : Bool) : Rs := (.bool y, [])
theorem impl_areFinite_1_den (v88 : Nat) : (den TT (tabD impl_areFinite_1_tab) (tabM impl_areFinite_1_tab) (impl_areFinite_1_LO v88) (codeOf Try.f146) ([.flt .f32 v88] ++ List.replicate (Try.f146.ntmps - ([.flt .f32 v88] : List DV).length) .undef) []).bind (retD TT Try.f146.results.toList 0) = (impl_areFinite_1_T v88).bind fun y => .leaf (impl_areFinite_1_enc v88 y) := by kernel_rfl
theorem impl_areFinite_1_fn (v88 : Nat) (F : Fr) (hm : F.ids.length = 0) (h0 : St F [] F.H0) (hA : DVs.Ok F [] [.flt .f32 v88]) {y : Bool} (hy : impl_areFinite_1_g v88 = some y) : ∃ H', FnOk Try.prog 146 (DVs.av F [.flt .f32 v88]) F.H0 ((impl_areFinite_1_enc v88 y).1.av F) H' ∧ St F (impl_areFinite_1_enc v88 y).2 H' ∧ (impl_areFinite_1_enc v88 y).1.Ok F (impl_areFinite_1_enc v88 y).2 :=
  fn_fin tok impl_areFinite_1_hO mixed Try.func146 Try.call146 (by kernel_rfl) (LoopsOk_eq (l := []) (by kernel_rfl) trivial) (impl_areFinite_1_den v88) hy hm h0 hA
def impl_areFinite_1_v (v88 : Nat) : Bool :=
  !(impl_IsFinite_v v88)
theorem impl_areFinite_1_tot (v88 : Nat) : impl_areFinite_1_g v88 = some (impl_areFinite_1_v v88) := by
  unfold impl_areFinite_1_g impl_areFinite_1_T impl_areFinite_1_v
  simp only [Tree.run]
  repeat' (first | rfl | split)
noncomputable def impl_areFinite_1_F : DFn := fun args L =>
  match args with
  | [.flt .f32 v88] =>
    .leaf (.bool (impl_areFinite_1_v v88), L)
  | _ => .fail
theorem impl_areFinite_1_Fok : COk Try.prog 146 impl_areFinite_1_F true := by
  intro F L H args r L' hs ha hr
  unfold impl_areFinite_1_F at hr
  split at hr
  · rename_i v88
    have hy := impl_areFinite_1_tot v88
    generalize impl_areFinite_1_v v88 = y at hy hr
    simp only [Tree.run, Option.some.injEq, Prod.mk.injEq] at hr
    obtain ⟨rfl, rfl⟩ := hr
    exact call_ok0 hs (fun k => (([] : List AV)[k]?).getD .top) [.flt .f32 v88] [.flt .f32 v88] (fun F' h0 hi hρ => ⟨by simp [DVs.av, DV.av, BR.av, hρ], impl_areFinite_1_fn v88 F' (by rw [hi]; rfl) (st_nil hi) ⟨trivial, trivial⟩ hy⟩) rfl
  · cases hr
/-! slices.IndexFunc[list of float32,float32] -/
noncomputable def slices_IndexFuncF_l0_T (v86 : List Nat) (s : Int) : Tree ((Int) ⊕ ((Int) ⊕ (Unit))) :=
  (.br (decide (s < ((v86.length : Nat) : Int))) (
   (.grd (inb s v86.length) <|
   (.br (impl_areFinite_1_v (nth v86 (Int.toNat s))) (
    .leaf (.inr (.inl s))
   ) (
    .leaf (.inl (IntKind.i64.wrap (s + (1 : Int))))
   )))
  ) (
   .leaf (.inr (.inr ()))
  ))

noncomputable def slices_IndexFuncF_l0_g (v86 : List Nat) (s0 : Int) : Option ((Int) ⊕ (Unit)) := whileM (fun s => (slices_IndexFuncF_l0_T v86 s).run) s0
def slices_IndexFuncF_l0_E (v86 : List Nat) (s : Int) : Sd := ([.bslc (BR.root 0) (.f32 v86), .fn 146 [], .top, .top, .top, .top, .top, .int .i64 ((v86.length : Nat) : Int), .int .i64 s, .top, .top, .top, .top, .top, .top, .top, .top, .top, .top], [])
def slices_IndexFuncF_l0_X (v86 : List Nat) (x : (Int) ⊕ (Unit)) : Out := (match x with | .inl x => (.ret, [.top, .top, .top, .top, .int .i64 x, .top, .top, .top, .top, .top, .top, .top, .top, .top, .top, .top, .top, .top, .top], []) | .inr x => (.normal, [.top, .top, .top, .top, .top, .top, .top, .top, .top, .top, .top, .top, .top, .top, .top, .top, .top, .top, .top], []))
def slices_IndexFuncF_l0_kill : List Nat := [0, 0, 1, 1, 1, 1, 1, 0, 0, 1, 1, 1, 1, 1, 1, 1, 1, 1, 1]
def slices_IndexFuncF_l0_nx : Exit → List Nat
  | .exit 0 => [1, 1, 1, 1, 1, 1, 1, 1, 1, 1, 1, 1, 1, 1, 1, 1, 1, 1, 1]
  | .ret => [1, 1, 1, 1, 0, 1, 1, 1, 1, 1, 1, 1, 1, 1, 1, 1, 1, 1, 1]
  | _ => []
noncomputable def slices_IndexFuncF_LO (v86 : List Nat) : LOr := fun id e L =>
  match id with
  | 0 => .need (normA 0 slices_IndexFuncF_l0_kill e L = some (slices_IndexFuncF_l0_E v86 (gI (vAt e 8)))) (.call (slices_IndexFuncF_l0_g v86 (gI (vAt e 8))) fun x => .sum x (fun b0 => .leaf (slices_IndexFuncF_l0_X v86 (.inl b0))) (fun c0 => .leaf (slices_IndexFuncF_l0_X v86 (.inr c0))))
  | _ => .fail
noncomputable def slices_IndexFuncF_tab : List (FuncId × DFn × Bool) := [(146, impl_areFinite_1_F, true)]
theorem slices_IndexFuncF_hO : OrcOk Try.prog (tabD slices_IndexFuncF_tab) (tabM slices_IndexFuncF_tab) := tabD_cons impl_areFinite_1_Fok (tabD_nil _)
theorem slices_IndexFuncF_l0_be (v86 : List Nat) (s : Int) : bodyT TT (tabD slices_IndexFuncF_tab) (tabM slices_IndexFuncF_tab) (slices_IndexFuncF_LO v86) 0 slices_IndexFuncF_l0_kill slices_IndexFuncF_l0_nx (bodyOf Try.f182 0) 0 (slices_IndexFuncF_l0_E v86 s) = (slices_IndexFuncF_l0_T v86 s).bind fun y => .leaf (outS (slices_IndexFuncF_l0_E v86) (slices_IndexFuncF_l0_X v86) y) := by kernel_rfl
theorem slices_IndexFuncF_l0_ok (v86 : List Nat) : LSound Try.prog 0 (slices_IndexFuncF_LO v86) 0 (bodyOf Try.f182 0) := by
  intro e L out h
  exact lo_ok (E := slices_IndexFuncF_l0_E v86) (gT := slices_IndexFuncF_l0_T v86) (X := slices_IndexFuncF_l0_X v86) (s0 := (gI (vAt e 8))) tok slices_IndexFuncF_hO mixed (LoopsOk_eq (l := []) (by kernel_rfl) trivial) (slices_IndexFuncF_l0_be v86) rfl (by intro x; (cases x with | inl b => rfl | inr x => exact rfl)) h
noncomputable def slices_IndexFuncF_T (v86 : List Nat) : Tree (Int) :=
  (.need (some (slices_IndexFuncF_l0_E v86 (0 : Int)) = some (slices_IndexFuncF_l0_E v86 (0 : Int))) <|
  (.call (slices_IndexFuncF_l0_g v86 (0 : Int)) fun v96 =>
  (.sum v96 (fun v97 =>
   .leaf v97
  ) (fun v98 =>
   .leaf (-1 : Int)
  ))))

noncomputable def slices_IndexFuncF_g (v86 : List Nat) : Option (Int) := (slices_IndexFuncF_T v86).run
def slices_IndexFuncF_enc (v86 : List Nat) (y : Int) : Rs := (.int .i64 y, [])
theorem slices_IndexFuncF_den (v86 : List Nat) : (den TT (tabD slices_IndexFuncF_tab) (tabM slices_IndexFuncF_tab) (slices_IndexFuncF_LO v86) (codeOf Try.f182) ([.bslc (BR.root 0) (.f32 v86), .fn 146 []] ++ List.replicate (Try.f182.ntmps - ([.bslc (BR.root 0) (.f32 v86), .fn 146 []] : List DV).length) .undef) []).bind (retD TT Try.f182.results.toList 0) = (slices_IndexFuncF_T v86).bind fun y => .leaf (slices_IndexFuncF_enc v86 y) := by kernel_rfl
theorem slices_IndexFuncF_fn (v86 : List Nat) (F : Fr) (hm : F.ids.length = 0) (h0 : St F [] F.H0) (hA : DVs.Ok F [] [.bslc (BR.root 0) (.f32 v86), .fn 146 []]) {y : Int} (hy : slices_IndexFuncF_g v86 = some y) : ∃ H', FnOk Try.prog 182 (DVs.av F [.bslc (BR.root 0) (.f32 v86), .fn 146 []]) F.H0 ((slices_IndexFuncF_enc v86 y).1.av F) H' ∧ St F (slices_IndexFuncF_enc v86 y).2 H' ∧ (slices_IndexFuncF_enc v86 y).1.Ok F (slices_IndexFuncF_enc v86 y).2 :=
  fn_fin tok slices_IndexFuncF_hO mixed Try.func182 Try.call182 (by kernel_rfl) (LoopsOk_eq (l := [(0, bodyOf Try.f182 0)]) (by kernel_rfl) ⟨slices_IndexFuncF_l0_ok v86, trivial⟩) (slices_IndexFuncF_den v86) hy hm h0 hA
noncomputable def slices_IndexFuncF_F : DFn := fun args L =>
  match args with
  | [a1, .fn 146 []] =>
    optT (rowF32 L a1) fun v86 =>
    .call (slices_IndexFuncF_g v86) fun y => .leaf (.int .i64 y, L)
  | _ => .fail
theorem slices_IndexFuncF_Fok : COk Try.prog 182 slices_IndexFuncF_F true := by
  intro F L H args r L' hs ha hr
  unfold slices_IndexFuncF_F at hr
  split at hr
  · rename_i a1
    obtain ⟨v86, hv86, hr⟩ := optT_run hr
    simp only [Tree.run] at hr
    obtain ⟨y, hy, hr⟩ := Option.bind_eq_some_iff.1 hr
    simp only [Tree.run, Option.some.injEq, Prod.mk.injEq] at hr
    obtain ⟨rfl, rfl⟩ := hr
    exact call_ok0 hs (fun k => (([a1.av F] : List AV)[k]?).getD .top) [a1, .fn 146 []] [.bslc (BR.root 0) (.f32 v86), .fn 146 []] (fun F' h0 hi hρ => ⟨by simp [DVs.av, DV.av, BR.av, hρ], slices_IndexFuncF_fn v86 F' (by rw [hi]; rfl) (st_nil hi) ⟨bslc_ok hi (by rw [h0, hρ]; exact rowF32_ok hs (DVs.okAt ha 0 rfl) hv86), trivial, trivial⟩ hy⟩) rfl
  · cases hr
/-! slices.ContainsFunc[list of float32,float32] -/
noncomputable def slices_ContainsFuncF_LO (v85 : List Nat) : LOr := fun id e L =>
  match id with
  | _ => .fail
noncomputable def slices_ContainsFuncF_tab : List (FuncId × DFn × Bool) := [(182, slices_IndexFuncF_F, true)]
theorem slices_ContainsFuncF_hO : OrcOk Try.prog (tabD slices_ContainsFuncF_tab) (tabM slices_ContainsFuncF_tab) := tabD_cons slices_IndexFuncF_Fok (tabD_nil _)
noncomputable def slices_ContainsFuncF_T (v85 : List Nat) : Tree (Bool) :=
  (.call (slices_IndexFuncF_g v85) fun v99 =>
  .leaf (decide ((0 : Int) ≤ v99)))

noncomputable def slices_ContainsFuncF_g (v85 : List Nat) : Option (Bool) := (slices_ContainsFuncF_T v85).run
def slices_ContainsFuncF_enc (v85 : List Nat) (y : Bool) : Rs := (.bool y, [])
theorem slices_ContainsFuncF_den (v85 : List Nat) : (den TT (tabD slices_ContainsFuncF_tab) (tabM slices_ContainsFuncF_tab) (slices_ContainsFuncF_LO v85) (codeOf Try.f145) ([.bslc (BR.root 0) (.f32 v85), .fn 146 []] ++ List.replicate (Try.f145.ntmps - ([.bslc (BR.root 0) (.f32 v85), .fn 146 []] : List DV).length) .undef) []).bind (retD TT Try.f145.results.toList 0) = (slices_ContainsFuncF_T v85).bind fun y => .leaf (slices_ContainsFuncF_enc v85 y) := by kernel_rfl
theorem slices_ContainsFuncF_fn (v85 : List Nat) (F : Fr) (hm : F.ids.length = 0) (h0 : St F [] F.H0) (hA : DVs.Ok F [] [.bslc (BR.root 0) (.f32 v85), .fn 146 []]) {y : Bool} (hy : slices_ContainsFuncF_g v85 = some y) : ∃ H', FnOk Try.prog 145 (DVs.av F [.bslc (BR.root 0) (.f32 v85), .fn 146 []]) F.H0 ((slices_ContainsFuncF_enc v85 y).1.av F) H' ∧ St F (slices_ContainsFuncF_enc v85 y).2 H' ∧ (slices_ContainsFuncF_enc v85 y).1.Ok F (slices_ContainsFuncF_enc v85 y).2 :=
  fn_fin tok slices_ContainsFuncF_hO mixed Try.func145 Try.call145 (by kernel_rfl) (LoopsOk_eq (l := []) (by kernel_rfl) trivial) (slices_ContainsFuncF_den v85) hy hm h0 hA
noncomputable def slices_ContainsFuncF_F : DFn := fun args L =>
  match args with
  | [a1, .fn 146 []] =>
    optT (rowF32 L a1) fun v85 =>
    .call (slices_ContainsFuncF_g v85) fun y => .leaf (.bool y, L)
  | _ => .fail
theorem slices_ContainsFuncF_Fok : COk Try.prog 145 slices_ContainsFuncF_F true := by
  intro F L H args r L' hs ha hr
  unfold slices_ContainsFuncF_F at hr
  split at hr
  · rename_i a1
    obtain ⟨v85, hv85, hr⟩ := optT_run hr
    simp only [Tree.run] at hr
    obtain ⟨y, hy, hr⟩ := Option.bind_eq_some_iff.1 hr
    simp only [Tree.run, Option.some.injEq, Prod.mk.injEq] at hr
    obtain ⟨rfl, rfl⟩ := hr
    exact call_ok0 hs (fun k => (([a1.av F] : List AV)[k]?).getD .top) [a1, .fn 146 []] [.bslc (BR.root 0) (.f32 v85), .fn 146 []] (fun F' h0 hi hρ => ⟨by simp [DVs.av, DV.av, BR.av, hρ], slices_ContainsFuncF_fn v85 F' (by rw [hi]; rfl) (st_nil hi) ⟨bslc_ok hi (by rw [h0, hρ]; exact rowF32_ok hs (DVs.okAt ha 0 rfl) hv85), trivial, trivial⟩ hy⟩) rfl
  · cases hr
/-! impl.areFinite -/
noncomputable def impl_areFinite_LO (v84 : List Nat) : LOr := fun id e L =>
  match id with
  | _ => .fail
noncomputable def impl_areFinite_tab : List (FuncId × DFn × Bool) := [(145, slices_ContainsFuncF_F, true)]
theorem impl_areFinite_hO : OrcOk Try.prog (tabD impl_areFinite_tab) (tabM impl_areFinite_tab) := tabD_cons slices_ContainsFuncF_Fok (tabD_nil _)
noncomputable def impl_areFinite_T (v84 : List Nat) : Tree (Bool) :=
  (.call (slices_ContainsFuncF_g v84) fun v100 =>
  .leaf (!v100))

noncomputable def impl_areFinite_g (v84 : List Nat) : Option (Bool) := (impl_areFinite_T v84).run
def impl_areFinite_enc (v84 : List Nat) (y : Bool) : Rs := (.bool y, [])
theorem impl_areFinite_den (v84 : List Nat) : (den TT (tabD impl_areFinite_tab) (tabM impl_areFinite_tab) (impl_areFinite_LO v84) (codeOf Try.f94) ([.bslc (BR.root 0) (.f32 v84)] ++ List.replicate (Try.f94.ntmps - ([.bslc (BR.root 0) (.f32 v84)] : List DV).length) .undef) []).bind (retD TT Try.f94.results.toList 0) = (impl_areFinite_T v84).bind fun y => .leaf (impl_areFinite_enc v84 y) := by kernel_rfl
theorem impl_areFinite_fn (v84 : List Nat) (F : Fr) (hm : F.ids.length = 0) (h0 : St F [] F.H0) (hA : DVs.Ok F [] [.bslc (BR.root 0) (.f32 v84)]) {y : Bool} (hy : impl_areFinite_g v84 = some y) : ∃ H', FnOk Try.prog 94 (DVs.av F [.bslc (BR.root 0) (.f32 v84)]) F.H0 ((impl_areFinite_enc v84 y).1.av F) H' ∧ St F (impl_areFinite_enc v84 y).2 H' ∧ (impl_areFinite_enc v84 y).1.Ok F (impl_areFinite_enc v84 y).2 :=
  fn_fin tok impl_areFinite_hO mixed Try.func94 Try.call94 (by kernel_rfl) (LoopsOk_eq (l := []) (by kernel_rfl) trivial) (impl_areFinite_den v84) hy hm h0 hA
noncomputable def impl_areFinite_F : DFn := fun args L =>
  match args with
  | [a1] =>
    optT (rowF32 L a1) fun v84 =>
    .call (impl_areFinite_g v84) fun y => .leaf (.bool y, L)
  | _ => .fail
theorem impl_areFinite_Fok : COk Try.prog 94 impl_areFinite_F true := by
  intro F L H args r L' hs ha hr
  unfold impl_areFinite_F at hr
  split at hr
  · rename_i a1
    obtain ⟨v84, hv84, hr⟩ := optT_run hr
    simp only [Tree.run] at hr
    obtain ⟨y, hy, hr⟩ := Option.bind_eq_some_iff.1 hr
    simp only [Tree.run, Option.some.injEq, Prod.mk.injEq] at hr
    obtain ⟨rfl, rfl⟩ := hr
    exact call_ok0 hs (fun k => (([a1.av F] : List AV)[k]?).getD .top) [a1] [.bslc (BR.root 0) (.f32 v84)] (fun F' h0 hi hρ => ⟨by simp [DVs.av, DV.av, BR.av, hρ], impl_areFinite_fn v84 F' (by rw [hi]; rfl) (st_nil hi) ⟨bslc_ok hi (by rw [h0, hρ]; exact rowF32_ok hs (DVs.okAt ha 0 rfl) hv84), trivial⟩ hy⟩) rfl
  · cases hr
/-! impl.isList -/
noncomputable def impl_isList_LO (v78 : List Nat) (v79 : Int) : LOr := fun id e L =>
  match id with
  | _ => .fail
noncomputable def impl_isList_tab : List (FuncId × DFn × Bool) := [(142, impl_lengthF_F, true), (80, impl_inRange_F, true), (94, impl_areFinite_F, true)]
theorem impl_isList_hO : OrcOk Try.prog (tabD impl_isList_tab) (tabM impl_isList_tab) := tabD_cons impl_lengthF_Fok (tabD_cons impl_inRange_Fok (tabD_cons impl_areFinite_Fok (tabD_nil _)))
noncomputable def impl_isList_T (v78 : List Nat) (v79 : Int) : Tree (Bool) :=
  (.br (impl_inRange_v (impl_lengthF_v v78) (1 : Int) v79) (
   (.call (impl_areFinite_g v78) fun v101 =>
   .leaf v101)
  ) (
   .leaf false
  ))

noncomputable def impl_isList_g (v78 : List Nat) (v79 : Int) : Option (Bool) := (impl_isList_T v78 v79).run
def impl_isList_enc (v78 : List Nat) (v79 : Int) (y : Bool) : Rs := (.bool y, [])
theorem impl_isList_den (v78 : List Nat) (v79 : Int) : (den TT (tabD impl_isList_tab) (tabM impl_isList_tab) (impl_isList_LO v78 v79) (codeOf Try.f88) ([.bslc (BR.root 0) (.f32 v78), .int .i64 v79] ++ List.replicate (Try.f88.ntmps - ([.bslc (BR.root 0) (.f32 v78), .int .i64 v79] : List DV).length) .undef) []).bind (retD TT Try.f88.results.toList 0) = (impl_isList_T v78 v79).bind fun y => .leaf (impl_isList_enc v78 v79 y) := by kernel_rfl
theorem impl_isList_fn (v78 : List Nat) (v79 : Int) (F : Fr) (hm : F.ids.length = 0) (h0 : St F [] F.H0) (hA : DVs.Ok F [] [.bslc (BR.root 0) (.f32 v78), .int .i64 v79]) {y : Bool} (hy : impl_isList_g v78 v79 = some y) : ∃ H', FnOk Try.prog 88 (DVs.av F [.bslc (BR.root 0) (.f32 v78), .int .i64 v79]) F.H0 ((impl_isList_enc v78 v79 y).1.av F) H' ∧ St F (impl_isList_enc v78 v79 y).2 H' ∧ (impl_isList_enc v78 v79 y).1.Ok F (impl_isList_enc v78 v79 y).2 :=
  fn_fin tok impl_isList_hO mixed Try.func88 Try.call88 (by kernel_rfl) (LoopsOk_eq (l := []) (by kernel_rfl) trivial) (impl_isList_den v78 v79) hy hm h0 hA
noncomputable def impl_isList_F : DFn := fun args L =>
  match args with
  | [a1, .int .i64 v79] =>
    optT (rowF32 L a1) fun v78 =>
    .call (impl_isList_g v78 v79) fun y => .leaf (.bool y, L)
  | _ => .fail
theorem impl_isList_Fok : COk Try.prog 88 impl_isList_F true := by
  intro F L H args r L' hs ha hr
  unfold impl_isList_F at hr
  split at hr
  · rename_i a1 v79
    obtain ⟨v78, hv78, hr⟩ := optT_run hr
    simp only [Tree.run] at hr
    obtain ⟨y, hy, hr⟩ := Option.bind_eq_some_iff.1 hr
    simp only [Tree.run, Option.some.injEq, Prod.mk.injEq] at hr
    obtain ⟨rfl, rfl⟩ := hr
    exact call_ok0 hs (fun k => (([a1.av F] : List AV)[k]?).getD .top) [a1, .int .i64 v79] [.bslc (BR.root 0) (.f32 v78), .int .i64 v79] (fun F' h0 hi hρ => ⟨by simp [DVs.av, DV.av, BR.av, hρ], impl_isList_fn v78 v79 F' (by rw [hi]; rfl) (st_nil hi) ⟨bslc_ok hi (by rw [h0, hρ]; exact rowF32_ok hs (DVs.okAt ha 0 rfl) hv78), trivial, trivial⟩ hy⟩) rfl
  · cases hr
/-! impl.ValidThirds -/
noncomputable def impl_ValidThirds_LO (v75 : List Nat) (v76 : List Nat) (v77 : List Nat) : LOr := fun id e L =>
  match id with
  | _ => .fail
noncomputable def impl_ValidThirds_tab : List (FuncId × DFn × Bool) := [(88, impl_isList_F, true), (94, impl_areFinite_F, true)]
theorem impl_ValidThirds_hO : OrcOk Try.prog (tabD impl_ValidThirds_tab) (tabM impl_ValidThirds_tab) := tabD_cons impl_isList_Fok (tabD_cons impl_areFinite_Fok (tabD_nil _))
noncomputable def impl_ValidThirds_T (v75 : List Nat) (v76 : List Nat) (v77 : List Nat) : Tree (Bool) :=
  (.call (impl_isList_g v76 (32 : Int)) fun v102 =>
  (.br v102 (
   (.br (decide (((v75.length : Nat) : Int) = ((v76.length : Nat) : Int))) (
    (.br (decide (((v77.length : Nat) : Int) = ((v76.length : Nat) : Int))) (
     (.call (impl_areFinite_g v75) fun v103 =>
     (.br v103 (
      (.call (impl_areFinite_g v77) fun v104 =>
      (.br v104 (
       (.grd (inb (0 : Int) v75.length) <|
       (.br (feq .f32 (nth v75 (Int.toNat (0 : Int))) (0 : Nat)) (
        (.grd (inb (IntKind.i64.wrap (((v76.length : Nat) : Int) - (1 : Int))) v77.length) <|
        .leaf (feq .f32 (nth v77 (Int.toNat (IntKind.i64.wrap (((v76.length : Nat) : Int) - (1 : Int))))) (0 : Nat)))
       ) (
        .leaf false
       )))
      ) (
       .leaf false
      )))
     ) (
      .leaf false
     )))
    ) (
     .leaf false
    ))
   ) (
    .leaf false
   ))
  ) (
   .leaf false
  )))

noncomputable def impl_ValidThirds_g (v75 : List Nat) (v76 : List Nat) (v77 : List Nat) : Option (Bool) := (impl_ValidThirds_T v75 v76 v77).run
def impl_ValidThirds_enc (v75 : List Nat) (v76 : List Nat) (v77 : List Nat) (y : Bool) : Rs := (.bool y, [])
theorem impl_ValidThirds_den (v75 : List Nat) (v76 : List Nat) (v77 : List Nat) : (den TT (tabD impl_ValidThirds_tab) (tabM impl_ValidThirds_tab) (impl_ValidThirds_LO v75 v76 v77) (codeOf Try.f153) ([.agg [.bslc (BR.root 0) (.f32 v75), .bslc (BR.root 1) (.f32 v76), .bslc (BR.root 2) (.f32 v77)]] ++ List.replicate (Try.f153.ntmps - ([.agg [.bslc (BR.root 0) (.f32 v75), .bslc (BR.root 1) (.f32 v76), .bslc (BR.root 2) (.f32 v77)]] : List DV).length) .undef) []).bind (retD TT Try.f153.results.toList 0) = (impl_ValidThirds_T v75 v76 v77).bind fun y => .leaf (impl_ValidThirds_enc v75 v76 v77 y) := by kernel_rfl
theorem impl_ValidThirds_fn (v75 : List Nat) (v76 : List Nat) (v77 : List Nat) (F : Fr) (hm : F.ids.length = 0) (h0 : St F [] F.H0) (hA : DVs.Ok F [] [.agg [.bslc (BR.root 0) (.f32 v75), .bslc (BR.root 1) (.f32 v76), .bslc (BR.root 2) (.f32 v77)]]) {y : Bool} (hy : impl_ValidThirds_g v75 v76 v77 = some y) : ∃ H', FnOk Try.prog 153 (DVs.av F [.agg [.bslc (BR.root 0) (.f32 v75), .bslc (BR.root 1) (.f32 v76), .bslc (BR.root 2) (.f32 v77)]]) F.H0 ((impl_ValidThirds_enc v75 v76 v77 y).1.av F) H' ∧ St F (impl_ValidThirds_enc v75 v76 v77 y).2 H' ∧ (impl_ValidThirds_enc v75 v76 v77 y).1.Ok F (impl_ValidThirds_enc v75 v76 v77 y).2 :=
  fn_fin tok impl_ValidThirds_hO mixed Try.func153 Try.call153 (by kernel_rfl) (LoopsOk_eq (l := []) (by kernel_rfl) trivial) (impl_ValidThirds_den v75 v76 v77) hy hm h0 hA
noncomputable def impl_ValidThirds_F : DFn := fun args L =>
  match args with
  | [.agg [a1, a2, a3]] =>
    optT (rowF32 L a1) fun v75 =>
    optT (rowF32 L a2) fun v76 =>
    optT (rowF32 L a3) fun v77 =>
    .call (impl_ValidThirds_g v75 v76 v77) fun y => .leaf (.bool y, L)
  | _ => .fail
theorem impl_ValidThirds_Fok : COk Try.prog 153 impl_ValidThirds_F true := by
  intro F L H args r L' hs ha hr
  unfold impl_ValidThirds_F at hr
  split at hr
  · rename_i a1 a2 a3
    obtain ⟨v75, hv75, hr⟩ := optT_run hr
    obtain ⟨v76, hv76, hr⟩ := optT_run hr
    obtain ⟨v77, hv77, hr⟩ := optT_run hr
    simp only [Tree.run] at hr
    obtain ⟨y, hy, hr⟩ := Option.bind_eq_some_iff.1 hr
    simp only [Tree.run, Option.some.injEq, Prod.mk.injEq] at hr
    obtain ⟨rfl, rfl⟩ := hr
    exact call_ok0 hs (fun k => (([a1.av F, a2.av F, a3.av F] : List AV)[k]?).getD .top) [.agg [a1, a2, a3]] [.agg [.bslc (BR.root 0) (.f32 v75), .bslc (BR.root 1) (.f32 v76), .bslc (BR.root 2) (.f32 v77)]] (fun F' h0 hi hρ => ⟨by simp [DVs.av, DV.av, BR.av, hρ], impl_ValidThirds_fn v75 v76 v77 F' (by rw [hi]; rfl) (st_nil hi) ⟨⟨bslc_ok hi (by rw [h0, hρ]; exact rowF32_ok hs (DVs.okAt (DVs.okAt ha 0 rfl) 0 rfl) hv75), bslc_ok hi (by rw [h0, hρ]; exact rowF32_ok hs (DVs.okAt (DVs.okAt ha 0 rfl) 1 rfl) hv76), bslc_ok hi (by rw [h0, hρ]; exact rowF32_ok hs (DVs.okAt (DVs.okAt ha 0 rfl) 2 rfl) hv77), trivial⟩, trivial⟩ hy⟩) rfl
  · cases hr
/-! (impl.Thirds).takes -/
noncomputable def impl_Thirds_takes_LO (v71 : List Nat) (v72 : List Nat) (v73 : List Nat) (v74 : List Nat) : LOr := fun id e L =>
  match id with
  | _ => .fail
noncomputable def impl_Thirds_takes_tab : List (FuncId × DFn × Bool) := [(153, impl_ValidThirds_F, true), (94, impl_areFinite_F, true)]
theorem impl_Thirds_takes_hO : OrcOk Try.prog (tabD impl_Thirds_takes_tab) (tabM impl_Thirds_takes_tab) := tabD_cons impl_ValidThirds_Fok (tabD_cons impl_areFinite_Fok (tabD_nil _))
noncomputable def impl_Thirds_takes_T (v71 : List Nat) (v72 : List Nat) (v73 : List Nat) (v74 : List Nat) : Tree (Bool) :=
  (.call (impl_ValidThirds_g v71 v72 v73) fun v105 =>
  (.br v105 (
   (.br (decide (((v74.length : Nat) : Int) = ((v72.length : Nat) : Int))) (
    (.call (impl_areFinite_g v74) fun v106 =>
    .leaf v106)
   ) (
    .leaf false
   ))
  ) (
   .leaf false
  )))

noncomputable def impl_Thirds_takes_g (v71 : List Nat) (v72 : List Nat) (v73 : List Nat) (v74 : List Nat) : Option (Bool) := (impl_Thirds_takes_T v71 v72 v73 v74).run
def impl_Thirds_takes_enc (v71 : List Nat) (v72 : List Nat) (v73 : List Nat) (v74 : List Nat) (y : Bool) : Rs := (.bool y, [])
theorem impl_Thirds_takes_den (v71 : List Nat) (v72 : List Nat) (v73 : List Nat) (v74 : List Nat) : (den TT (tabD impl_Thirds_takes_tab) (tabM impl_Thirds_takes_tab) (impl_Thirds_takes_LO v71 v72 v73 v74) (codeOf Try.f102) ([.agg [.bslc (BR.root 0) (.f32 v71), .bslc (BR.root 1) (.f32 v72), .bslc (BR.root 2) (.f32 v73)], .bslc (BR.root 3) (.f32 v74)] ++ List.replicate (Try.f102.ntmps - ([.agg [.bslc (BR.root 0) (.f32 v71), .bslc (BR.root 1) (.f32 v72), .bslc (BR.root 2) (.f32 v73)], .bslc (BR.root 3) (.f32 v74)] : List DV).length) .undef) []).bind (retD TT Try.f102.results.toList 0) = (impl_Thirds_takes_T v71 v72 v73 v74).bind fun y => .leaf (impl_Thirds_takes_enc v71 v72 v73 v74 y) := by kernel_rfl
theorem impl_Thirds_takes_fn (v71 : List Nat) (v72 : List Nat) (v73 : List Nat) (v74 : List Nat) (F : Fr) (hm : F.ids.length = 0) (h0 : St F [] F.H0) (hA : DVs.Ok F [] [.agg [.bslc (BR.root 0) (.f32 v71), .bslc (BR.root 1) (.f32 v72), .bslc (BR.root 2) (.f32 v73)], .bslc (BR.root 3) (.f32 v74)]) {y : Bool} (hy : impl_Thirds_takes_g v71 v72 v73 v74 = some y) : ∃ H', FnOk Try.prog 102 (DVs.av F [.agg [.bslc (BR.root 0) (.f32 v71), .bslc (BR.root 1) (.f32 v72), .bslc (BR.root 2) (.f32 v73)], .bslc (BR.root 3) (.f32 v74)]) F.H0 ((impl_Thirds_takes_enc v71 v72 v73 v74 y).1.av F) H' ∧ St F (impl_Thirds_takes_enc v71 v72 v73 v74 y).2 H' ∧ (impl_Thirds_takes_enc v71 v72 v73 v74 y).1.Ok F (impl_Thirds_takes_enc v71 v72 v73 v74 y).2 :=
  fn_fin tok impl_Thirds_takes_hO mixed Try.func102 Try.call102 (by kernel_rfl) (LoopsOk_eq (l := []) (by kernel_rfl) trivial) (impl_Thirds_takes_den v71 v72 v73 v74) hy hm h0 hA
noncomputable def impl_Thirds_takes_F : DFn := fun args L =>
  match args with
  | [.agg [a1, a2, a3], a4] =>
    optT (rowF32 L a1) fun v71 =>
    optT (rowF32 L a2) fun v72 =>
    optT (rowF32 L a3) fun v73 =>
    optT (rowF32 L a4) fun v74 =>
    .call (impl_Thirds_takes_g v71 v72 v73 v74) fun y => .leaf (.bool y, L)
  | _ => .fail
theorem impl_Thirds_takes_Fok : COk Try.prog 102 impl_Thirds_takes_F true := by
  intro F L H args r L' hs ha hr
  unfold impl_Thirds_takes_F at hr
  split at hr
  · rename_i a1 a2 a3 a4
    obtain ⟨v71, hv71, hr⟩ := optT_run hr
    obtain ⟨v72, hv72, hr⟩ := optT_run hr
    obtain ⟨v73, hv73, hr⟩ := optT_run hr
    obtain ⟨v74, hv74, hr⟩ := optT_run hr
    simp only [Tree.run] at hr
    obtain ⟨y, hy, hr⟩ := Option.bind_eq_some_iff.1 hr
    simp only [Tree.run, Option.some.injEq, Prod.mk.injEq] at hr
    obtain ⟨rfl, rfl⟩ := hr
    exact call_ok0 hs (fun k => (([a1.av F, a2.av F, a3.av F, a4.av F] : List AV)[k]?).getD .top) [.agg [a1, a2, a3], a4] [.agg [.bslc (BR.root 0) (.f32 v71), .bslc (BR.root 1) (.f32 v72), .bslc (BR.root 2) (.f32 v73)], .bslc (BR.root 3) (.f32 v74)] (fun F' h0 hi hρ => ⟨by simp [DVs.av, DV.av, BR.av, hρ], impl_Thirds_takes_fn v71 v72 v73 v74 F' (by rw [hi]; rfl) (st_nil hi) ⟨⟨bslc_ok hi (by rw [h0, hρ]; exact rowF32_ok hs (DVs.okAt (DVs.okAt ha 0 rfl) 0 rfl) hv71), bslc_ok hi (by rw [h0, hρ]; exact rowF32_ok hs (DVs.okAt (DVs.okAt ha 0 rfl) 1 rfl) hv72), bslc_ok hi (by rw [h0, hρ]; exact rowF32_ok hs (DVs.okAt (DVs.okAt ha 0 rfl) 2 rfl) hv73), trivial⟩, bslc_ok hi (by rw [h0, hρ]; exact rowF32_ok hs (DVs.okAt ha 1 rfl) hv74), trivial⟩ hy⟩) rfl
  · cases hr
/-! impl.mul -/
noncomputable def impl_mul_LO (v109 : Nat) (v110 : Nat) : LOr := fun id e L =>
  match id with
  | _ => .fail
noncomputable def impl_mul_tab : List (FuncId × DFn × Bool) := []
theorem impl_mul_hO : OrcOk Try.prog (tabD impl_mul_tab) (tabM impl_mul_tab) := tabD_nil _
noncomputable def impl_mul_T (v109 : Nat) (v110 : Nat) : Tree (Nat) :=
  .leaf (fmul .f32 v109 v110)

noncomputable def impl_mul_g (v109 : Nat) (v110 : Nat) : Option (Nat) := (impl_mul_T v109 v110).run
def impl_mul_enc (v109 : Nat) (v110 : Nat) (y : Nat) : Rs := (.flt .f32 y, [])
theorem impl_mul_den (v109 : Nat) (v110 : Nat) : (den TT (tabD impl_mul_tab) (tabM impl_mul_tab) (impl_mul_LO v109 v110) (codeOf Try.f96) ([.flt .f32 v109, .flt .f32 v110] ++ List.replicate (Try.f96.ntmps - ([.flt .f32 v109, .flt .f32 v110] : List DV).length) .undef) []).bind (retD TT Try.f96.results.toList 0) = (impl_mul_T v109 v110).bind fun y => .leaf (impl_mul_enc v109 v110 y) := by kernel_rfl
theorem impl_mul_fn (v109 : Nat) (v110 : Nat) (F : Fr) (hm : F.ids.length = 0) (h0 : St F [] F.H0) (hA : DVs.Ok F [] [.flt .f32 v109, .flt .f32 v110]) {y : Nat} (hy : impl_mul_g v109 v110 = some y) : ∃ H', FnOk Try.prog 96 (DVs.av F [.flt .f32 v109, .flt .f32 v110]) F.H0 ((impl_mul_enc v109 v110 y).1.av F) H' ∧ St F (impl_mul_enc v109 v110 y).2 H' ∧ (impl_mul_enc v109 v110 y).1.Ok F (impl_mul_enc v109 v110 y).2 :=
  fn_fin tok impl_mul_hO mixed Try.func96 Try.call96 (by kernel_rfl) (LoopsOk_eq (l := []) (by kernel_rfl) trivial) (impl_mul_den v109 v110) hy hm h0 hA
def impl_mul_v (v109 : Nat) (v110 : Nat) : Nat :=
  fmul .f32 v109 v110
theorem impl_mul_tot (v109 : Nat) (v110 : Nat) : impl_mul_g v109 v110 = some (impl_mul_v v109 v110) := by
  unfold impl_mul_g impl_mul_T impl_mul_v
  simp only [Tree.run]
  repeat' (first | rfl | split)
noncomputable def impl_mul_F : DFn := fun args L =>
  match args with
  | [.flt .f32 v109, .flt .f32 v110] =>
    .leaf (.flt .f32 (impl_mul_v v109 v110), L)
  | _ => .fail
theorem impl_mul_Fok : COk Try.prog 96 impl_mul_F true := by
  intro F L H args r L' hs ha hr
  unfold impl_mul_F at hr
  split at hr
  · rename_i v109 v110
    have hy := impl_mul_tot v109 v110
    generalize impl_mul_v v109 v110 = y at hy hr
    simp only [Tree.run, Option.some.injEq, Prod.mk.injEq] at hr
    obtain ⟨rfl, rfl⟩ := hr
    exact call_ok0 hs (fun k => (([] : List AV)[k]?).getD .top) [.flt .f32 v109, .flt .f32 v110] [.flt .f32 v109, .flt .f32 v110] (fun F' h0 hi hρ => ⟨by simp [DVs.av, DV.av, BR.av, hρ], impl_mul_fn v109 v110 F' (by rw [hi]; rfl) (st_nil hi) ⟨trivial, trivial, trivial⟩ hy⟩) rfl
  · cases hr
/-! impl.allFinite -/
noncomputable def impl_allFinite_LO (v116 : List Nat) : LOr := fun id e L =>
  match id with
  | _ => .fail
noncomputable def impl_allFinite_tab : List (FuncId × DFn × Bool) := [(94, impl_areFinite_F, true)]
theorem impl_allFinite_hO : OrcOk Try.prog (tabD impl_allFinite_tab) (tabM impl_allFinite_tab) := tabD_cons impl_areFinite_Fok (tabD_nil _)
noncomputable def impl_allFinite_T (v116 : List Nat) : Tree ((Unit) ⊕ (Unit)) :=
  (.call (impl_areFinite_g v116) fun v117 =>
  (.br (!v117) (
   .leaf (.inl ())
  ) (
   .leaf (.inr ())
  )))

noncomputable def impl_allFinite_g (v116 : List Nat) : Option ((Unit) ⊕ (Unit)) := (impl_allFinite_T v116).run
def impl_allFinite_enc (v116 : List Nat) (y : (Unit) ⊕ (Unit)) : Rs := (match y with | .inl y => (.tup [.nilslc, .lit false], []) | .inr y => (.tup [.bslc (BR.root 0) (.f32 v116), .lit true], []))
theorem impl_allFinite_den (v116 : List Nat) : (den TT (tabD impl_allFinite_tab) (tabM impl_allFinite_tab) (impl_allFinite_LO v116) (codeOf Try.f97) ([.bslc (BR.root 0) (.f32 v116)] ++ List.replicate (Try.f97.ntmps - ([.bslc (BR.root 0) (.f32 v116)] : List DV).length) .undef) []).bind (retD TT Try.f97.results.toList 0) = (impl_allFinite_T v116).bind fun y => .leaf (impl_allFinite_enc v116 y) := by kernel_rfl
theorem impl_allFinite_fn (v116 : List Nat) (F : Fr) (hm : F.ids.length = 0) (h0 : St F [] F.H0) (hA : DVs.Ok F [] [.bslc (BR.root 0) (.f32 v116)]) {y : (Unit) ⊕ (Unit)} (hy : impl_allFinite_g v116 = some y) : ∃ H', FnOk Try.prog 97 (DVs.av F [.bslc (BR.root 0) (.f32 v116)]) F.H0 ((impl_allFinite_enc v116 y).1.av F) H' ∧ St F (impl_allFinite_enc v116 y).2 H' ∧ (impl_allFinite_enc v116 y).1.Ok F (impl_allFinite_enc v116 y).2 :=
  fn_fin tok impl_allFinite_hO mixed Try.func97 Try.call97 (by kernel_rfl) (LoopsOk_eq (l := []) (by kernel_rfl) trivial) (impl_allFinite_den v116) hy hm h0 hA
noncomputable def impl_allFinite_F : DFn := fun args L =>
  match args with
  | [a1] =>
    optT (rowF32 L a1) fun v116 =>
    .call (impl_allFinite_g v116) fun y => .sum y (fun y0 => .leaf (.tup [.nilslc, .lit false], L)) (fun z0 => .leaf (.tup [a1, .lit true], L))
  | _ => .fail
theorem impl_allFinite_Fok : COk Try.prog 97 impl_allFinite_F true := by
  intro F L H args r L' hs ha hr
  unfold impl_allFinite_F at hr
  split at hr
  · rename_i a1
    obtain ⟨v116, hv116, hr⟩ := optT_run hr
    simp only [Tree.run] at hr
    obtain ⟨y, hy, hr⟩ := Option.bind_eq_some_iff.1 hr
    cases y with
    | inl y =>
      simp only [Tree.run, Option.some.injEq, Prod.mk.injEq] at hr
      obtain ⟨rfl, rfl⟩ := hr
      exact call_ok0 hs (fun k => (([a1.av F] : List AV)[k]?).getD .top) [a1] [.bslc (BR.root 0) (.f32 v116)] (fun F' h0 hi hρ => ⟨by simp [DVs.av, DV.av, BR.av, hρ], impl_allFinite_fn v116 F' (by rw [hi]; rfl) (st_nil hi) ⟨bslc_ok hi (by rw [h0, hρ]; exact rowF32_ok hs (DVs.okAt ha 0 rfl) hv116), trivial⟩ hy⟩) rfl
    | inr y =>
      simp only [Tree.run, Option.some.injEq, Prod.mk.injEq] at hr
      obtain ⟨rfl, rfl⟩ := hr
      exact call_al0 hs (fun k => (([a1.av F] : List AV)[k]?).getD .top) [a1] [.bslc (BR.root 0) (.f32 v116)] (fun F' h0 hi hρ => ⟨by simp [DVs.av, DV.av, BR.av, hρ], impl_allFinite_fn v116 F' (by rw [hi]; rfl) (st_nil hi) ⟨bslc_ok hi (by rw [h0, hρ]; exact rowF32_ok hs (DVs.okAt ha 0 rfl) hv116), trivial⟩ hy⟩) (fun F' h0 hi hρ => by simp [impl_allFinite_enc, DVs.av, DV.av, BR.av, hρ]) ⟨(DVs.okAt ha 0 rfl), trivial, trivial⟩
  · cases hr
/-! impl.ThirdsTimes -/
noncomputable def impl_ThirdsTimes_l0_T (v67 : List Nat) (v68 : List Nat) (v69 : List Nat) (v70 : List Nat) (s : Int × (List Nat)) : Tree ((Int × (List Nat)) ⊕ ((List Nat))) :=
  (.br (decide (s.1 < ((v70.length : Nat) : Int))) (
   (.br (decide ((0 : Int) < s.1)) (
    (.grd (inb s.1 v67.length) <|
    (.grd (inb (IntKind.i64.wrap (s.1 - (1 : Int))) v70.length) <|
    (.grd (inb s.1 v68.length) <|
    (.grd (inb s.1 v70.length) <|
    (.br (decide (IntKind.i64.wrap (s.1 + (1 : Int)) < ((v70.length : Nat) : Int))) (
     (.grd (inb s.1 v69.length) <|
     (.grd (inb (IntKind.i64.wrap (s.1 + (1 : Int))) v70.length) <|
     (.grd (fits (s.2 ++ ([fadd .f32 (fadd .f32 (fadd .f32 (0 : Nat) (impl_mul_v (nth v67 (Int.toNat s.1)) (nth v70 (Int.toNat (IntKind.i64.wrap (s.1 - (1 : Int))))))) (impl_mul_v (nth v68 (Int.toNat s.1)) (nth v70 (Int.toNat s.1)))) (impl_mul_v (nth v69 (Int.toNat s.1)) (nth v70 (Int.toNat (IntKind.i64.wrap (s.1 + (1 : Int))))))] : List Nat)).length) <|
     .leaf (.inl (IntKind.i64.wrap (s.1 + (1 : Int)), s.2 ++ ([fadd .f32 (fadd .f32 (fadd .f32 (0 : Nat) (impl_mul_v (nth v67 (Int.toNat s.1)) (nth v70 (Int.toNat (IntKind.i64.wrap (s.1 - (1 : Int))))))) (impl_mul_v (nth v68 (Int.toNat s.1)) (nth v70 (Int.toNat s.1)))) (impl_mul_v (nth v69 (Int.toNat s.1)) (nth v70 (Int.toNat (IntKind.i64.wrap (s.1 + (1 : Int))))))] : List Nat))))))
    ) (
     (.grd (fits (s.2 ++ ([fadd .f32 (fadd .f32 (0 : Nat) (impl_mul_v (nth v67 (Int.toNat s.1)) (nth v70 (Int.toNat (IntKind.i64.wrap (s.1 - (1 : Int))))))) (impl_mul_v (nth v68 (Int.toNat s.1)) (nth v70 (Int.toNat s.1)))] : List Nat)).length) <|
     .leaf (.inl (IntKind.i64.wrap (s.1 + (1 : Int)), s.2 ++ ([fadd .f32 (fadd .f32 (0 : Nat) (impl_mul_v (nth v67 (Int.toNat s.1)) (nth v70 (Int.toNat (IntKind.i64.wrap (s.1 - (1 : Int))))))) (impl_mul_v (nth v68 (Int.toNat s.1)) (nth v70 (Int.toNat s.1)))] : List Nat))))
    ))))))
   ) (
    (.grd (inb s.1 v68.length) <|
    (.grd (inb s.1 v70.length) <|
    (.br (decide (IntKind.i64.wrap (s.1 + (1 : Int)) < ((v70.length : Nat) : Int))) (
     (.grd (inb s.1 v69.length) <|
     (.grd (inb (IntKind.i64.wrap (s.1 + (1 : Int))) v70.length) <|
     (.grd (fits (s.2 ++ ([fadd .f32 (fadd .f32 (0 : Nat) (impl_mul_v (nth v68 (Int.toNat s.1)) (nth v70 (Int.toNat s.1)))) (impl_mul_v (nth v69 (Int.toNat s.1)) (nth v70 (Int.toNat (IntKind.i64.wrap (s.1 + (1 : Int))))))] : List Nat)).length) <|
     .leaf (.inl (IntKind.i64.wrap (s.1 + (1 : Int)), s.2 ++ ([fadd .f32 (fadd .f32 (0 : Nat) (impl_mul_v (nth v68 (Int.toNat s.1)) (nth v70 (Int.toNat s.1)))) (impl_mul_v (nth v69 (Int.toNat s.1)) (nth v70 (Int.toNat (IntKind.i64.wrap (s.1 + (1 : Int))))))] : List Nat))))))
    ) (
     (.grd (fits (s.2 ++ ([fadd .f32 (0 : Nat) (impl_mul_v (nth v68 (Int.toNat s.1)) (nth v70 (Int.toNat s.1)))] : List Nat)).length) <|
     .leaf (.inl (IntKind.i64.wrap (s.1 + (1 : Int)), s.2 ++ ([fadd .f32 (0 : Nat) (impl_mul_v (nth v68 (Int.toNat s.1)) (nth v70 (Int.toNat s.1)))] : List Nat))))
    ))))
   ))
  ) (
   .leaf (.inr s.2)
  ))

noncomputable def impl_ThirdsTimes_l0_g (v67 : List Nat) (v68 : List Nat) (v69 : List Nat) (v70 : List Nat) (s0 : Int × (List Nat)) : Option ((List Nat)) := whileM (fun s => (impl_ThirdsTimes_l0_T v67 v68 v69 v70 s).run) s0
def impl_ThirdsTimes_l0_E (v67 : List Nat) (v68 : List Nat) (v69 : List Nat) (v70 : List Nat) (s : Int × (List Nat)) : Sd := ([.top, .bslc (BR.root 3) (.f32 v70), .ptr 0 (0 : Nat) 0 (3 : Nat), .top, .top, .top, .own 1 0 ((s.2).length), .top, .top, .top, .top, .top, .top, .top, .top, .int .i64 ((v70.length : Nat) : Int), .int .i64 s.1, .top, .top, .top, .top, .top, .top, .top, .top, .top, .top, .top, .top, .top, .top, .top, .top, .top, .top, .top, .top, .top, .top, .top, .top, .top, .top, .top, .top, .top, .top, .top, .top, .top, .top, .top, .top, .top, .top, .top, .top, .top, .top, .top, .top, .top, .top, .top, .top, .top, .top, .top, .top, .top, .top, .top, .top], [.gen [.bslc (BR.root 0) (.f32 v67), .bslc (BR.root 1) (.f32 v68), .bslc (BR.root 2) (.f32 v69)] false 0, .row (.f32 s.2) 0])
def impl_ThirdsTimes_l0_X (v67 : List Nat) (v68 : List Nat) (v69 : List Nat) (v70 : List Nat) (x : (List Nat)) : Out := (.normal, [.top, .top, .top, .top, .top, .top, .own 0 0 ((x).length), .top, .top, .top, .top, .top, .top, .top, .top, .top, .top, .top, .top, .top, .top, .top, .top, .top, .top, .top, .top, .top, .top, .top, .top, .top, .top, .top, .top, .top, .top, .top, .top, .top, .top, .top, .top, .top, .top, .top, .top, .top, .top, .top, .top, .top, .top, .top, .top, .top, .top, .top, .top, .top, .top, .top, .top, .top, .top, .top, .top, .top, .top, .top, .top, .top, .top], [.row (.f32 x) 0])
def impl_ThirdsTimes_l0_kill : List Nat := [1, 0, 0, 1, 1, 1, 0, 1, 1, 1, 1, 1, 1, 1, 1, 0, 0, 1, 1, 1, 1, 1, 1, 1, 1, 1, 1, 1, 1, 1, 1, 1, 1, 1, 1, 1, 1, 1, 1, 1, 1, 1, 1, 1, 1, 1, 1, 1, 1, 1, 1, 1, 1, 1, 1, 1, 1, 1, 1, 1, 1, 1, 1, 1, 1, 1, 1, 1, 1, 1, 1, 1, 1]
def impl_ThirdsTimes_l0_nx : Exit → List Nat
  | .exit 0 => [1, 1, 1, 1, 1, 1, 0, 1, 1, 1, 1, 1, 1, 1, 1, 1, 1, 1, 1, 1, 1, 1, 1, 1, 1, 1, 1, 1, 1, 1, 1, 1, 1, 1, 1, 1, 1, 1, 1, 1, 1, 1, 1, 1, 1, 1, 1, 1, 1, 1, 1, 1, 1, 1, 1, 1, 1, 1, 1, 1, 1, 1, 1, 1, 1, 1, 1, 1, 1, 1, 1, 1, 1]
  | .ret => [1, 1, 1, 1, 0, 0, 1, 1, 1, 1, 1, 1, 1, 1, 1, 1, 1, 1, 1, 1, 1, 1, 1, 1, 1, 1, 1, 1, 1, 1, 1, 1, 1, 1, 1, 1, 1, 1, 1, 1, 1, 1, 1, 1, 1, 1, 1, 1, 1, 1, 1, 1, 1, 1, 1, 1, 1, 1, 1, 1, 1, 1, 1, 1, 1, 1, 1, 1, 1, 1, 1, 1, 1]
  | _ => []
noncomputable def impl_ThirdsTimes_LO (v67 : List Nat) (v68 : List Nat) (v69 : List Nat) (v70 : List Nat) : LOr := fun id e L =>
  match id with
  | 0 => .need (normA 0 impl_ThirdsTimes_l0_kill e L = some (impl_ThirdsTimes_l0_E v67 v68 v69 v70 ((gI (vAt e 16)), (gRF L (vAt e 6))))) (.call (impl_ThirdsTimes_l0_g v67 v68 v69 v70 ((gI (vAt e 16)), (gRF L (vAt e 6)))) fun x => .leaf (impl_ThirdsTimes_l0_X v67 v68 v69 v70 x))
  | _ => .fail
noncomputable def impl_ThirdsTimes_tab : List (FuncId × DFn × Bool) := [(102, impl_Thirds_takes_F, true), (96, impl_mul_F, true), (97, impl_allFinite_F, true)]
theorem impl_ThirdsTimes_hO : OrcOk Try.prog (tabD impl_ThirdsTimes_tab) (tabM impl_ThirdsTimes_tab) := tabD_cons impl_Thirds_takes_Fok (tabD_cons impl_mul_Fok (tabD_cons impl_allFinite_Fok (tabD_nil _)))
theorem impl_ThirdsTimes_l0_be (v67 : List Nat) (v68 : List Nat) (v69 : List Nat) (v70 : List Nat) (s : Int × (List Nat)) : bodyT TT (tabD impl_ThirdsTimes_tab) (tabM impl_ThirdsTimes_tab) (impl_ThirdsTimes_LO v67 v68 v69 v70) 0 impl_ThirdsTimes_l0_kill impl_ThirdsTimes_l0_nx (bodyOf Try.f44 0) 0 (impl_ThirdsTimes_l0_E v67 v68 v69 v70 s) = (impl_ThirdsTimes_l0_T v67 v68 v69 v70 s).bind fun y => .leaf (outS (impl_ThirdsTimes_l0_E v67 v68 v69 v70) (impl_ThirdsTimes_l0_X v67 v68 v69 v70) y) := by kernel_rfl
theorem impl_ThirdsTimes_l0_ok (v67 : List Nat) (v68 : List Nat) (v69 : List Nat) (v70 : List Nat) : LSound Try.prog 0 (impl_ThirdsTimes_LO v67 v68 v69 v70) 0 (bodyOf Try.f44 0) := by
  intro e L out h
  exact lo_ok (E := impl_ThirdsTimes_l0_E v67 v68 v69 v70) (gT := impl_ThirdsTimes_l0_T v67 v68 v69 v70) (X := impl_ThirdsTimes_l0_X v67 v68 v69 v70) (s0 := ((gI (vAt e 16)), (gRF L (vAt e 6)))) tok impl_ThirdsTimes_hO mixed (LoopsOk_eq (l := []) (by kernel_rfl) trivial) (impl_ThirdsTimes_l0_be v67 v68 v69 v70) rfl (by intro x; rfl) h
noncomputable def impl_ThirdsTimes_T (v67 : List Nat) (v68 : List Nat) (v69 : List Nat) (v70 : List Nat) : Tree ((Unit) ⊕ ((List Nat))) :=
  (.call (impl_Thirds_takes_g v67 v68 v69 v70) fun v107 =>
  (.br (!v107) (
   .leaf (.inl ())
  ) (
   (.need (some (impl_ThirdsTimes_l0_E v67 v68 v69 v70 ((0 : Int), ([] : List Nat))) = some (impl_ThirdsTimes_l0_E v67 v68 v69 v70 ((0 : Int), ([] : List Nat)))) <|
   (.call (impl_ThirdsTimes_l0_g v67 v68 v69 v70 ((0 : Int), ([] : List Nat))) fun v115 =>
   (.call (impl_allFinite_g v115) fun v118 =>
   (.sum v118 (fun v119 =>
    .leaf (.inl ())
   ) (fun v120 =>
    .leaf (.inr v115)
   )))))
  )))

noncomputable def impl_ThirdsTimes_g (v67 : List Nat) (v68 : List Nat) (v69 : List Nat) (v70 : List Nat) : Option ((Unit) ⊕ ((List Nat))) := (impl_ThirdsTimes_T v67 v68 v69 v70).run
def impl_ThirdsTimes_enc (v67 : List Nat) (v68 : List Nat) (v69 : List Nat) (v70 : List Nat) (y : (Unit) ⊕ ((List Nat))) : Rs := (match y with | .inl y => (.tup [.nilslc, .lit false], []) | .inr y => (.tup [.own 0 0 ((y).length), .lit true], [.row (.f32 y) 0]))
theorem impl_ThirdsTimes_den (v67 : List Nat) (v68 : List Nat) (v69 : List Nat) (v70 : List Nat) : (den TT (tabD impl_ThirdsTimes_tab) (tabM impl_ThirdsTimes_tab) (impl_ThirdsTimes_LO v67 v68 v69 v70) (codeOf Try.f44) ([.agg [.bslc (BR.root 0) (.f32 v67), .bslc (BR.root 1) (.f32 v68), .bslc (BR.root 2) (.f32 v69)], .bslc (BR.root 3) (.f32 v70)] ++ List.replicate (Try.f44.ntmps - ([.agg [.bslc (BR.root 0) (.f32 v67), .bslc (BR.root 1) (.f32 v68), .bslc (BR.root 2) (.f32 v69)], .bslc (BR.root 3) (.f32 v70)] : List DV).length) .undef) []).bind (retD TT Try.f44.results.toList 0) = (impl_ThirdsTimes_T v67 v68 v69 v70).bind fun y => .leaf (impl_ThirdsTimes_enc v67 v68 v69 v70 y) := by kernel_rfl
theorem impl_ThirdsTimes_fn (v67 : List Nat) (v68 : List Nat) (v69 : List Nat) (v70 : List Nat) (F : Fr) (hm : F.ids.length = 0) (h0 : St F [] F.H0) (hA : DVs.Ok F [] [.agg [.bslc (BR.root 0) (.f32 v67), .bslc (BR.root 1) (.f32 v68), .bslc (BR.root 2) (.f32 v69)], .bslc (BR.root 3) (.f32 v70)]) {y : (Unit) ⊕ ((List Nat))} (hy : impl_ThirdsTimes_g v67 v68 v69 v70 = some y) : ∃ H', FnOk Try.prog 44 (DVs.av F [.agg [.bslc (BR.root 0) (.f32 v67), .bslc (BR.root 1) (.f32 v68), .bslc (BR.root 2) (.f32 v69)], .bslc (BR.root 3) (.f32 v70)]) F.H0 ((impl_ThirdsTimes_enc v67 v68 v69 v70 y).1.av F) H' ∧ St F (impl_ThirdsTimes_enc v67 v68 v69 v70 y).2 H' ∧ (impl_ThirdsTimes_enc v67 v68 v69 v70 y).1.Ok F (impl_ThirdsTimes_enc v67 v68 v69 v70 y).2 :=
  fn_fin tok impl_ThirdsTimes_hO mixed Try.func44 Try.call44 (by kernel_rfl) (LoopsOk_eq (l := [(0, bodyOf Try.f44 0)]) (by kernel_rfl) ⟨impl_ThirdsTimes_l0_ok v67 v68 v69 v70, trivial⟩) (impl_ThirdsTimes_den v67 v68 v69 v70) hy hm h0 hA
noncomputable def impl_ThirdsTimes_F : DFn := fun args L =>
  match args with
  | [.agg [a1, a2, a3], a4] =>
    optT (rowF32 L a1) fun v67 =>
    optT (rowF32 L a2) fun v68 =>
    optT (rowF32 L a3) fun v69 =>
    optT (rowF32 L a4) fun v70 =>
    .call (impl_ThirdsTimes_g v67 v68 v69 v70) fun y => .sum y (fun y0 => .leaf (.tup [.nilslc, .lit false], L)) (fun z0 => .leaf (.tup [.own (L.length + 0) 0 ((z0).length), .lit true], L ++ [.row (.f32 z0) 0]))
  | _ => .fail
theorem impl_ThirdsTimes_Fok : COk Try.prog 44 impl_ThirdsTimes_F true := by
  intro F L H args r L' hs ha hr
  unfold impl_ThirdsTimes_F at hr
  split at hr
  · rename_i a1 a2 a3 a4
    obtain ⟨v67, hv67, hr⟩ := optT_run hr
    obtain ⟨v68, hv68, hr⟩ := optT_run hr
    obtain ⟨v69, hv69, hr⟩ := optT_run hr
    obtain ⟨v70, hv70, hr⟩ := optT_run hr
    simp only [Tree.run] at hr
    obtain ⟨y, hy, hr⟩ := Option.bind_eq_some_iff.1 hr
    cases y with
    | inl y =>
      simp only [Tree.run, Option.some.injEq, Prod.mk.injEq] at hr
      obtain ⟨rfl, rfl⟩ := hr
      exact call_ok0 hs (fun k => (([a1.av F, a2.av F, a3.av F, a4.av F] : List AV)[k]?).getD .top) [.agg [a1, a2, a3], a4] [.agg [.bslc (BR.root 0) (.f32 v67), .bslc (BR.root 1) (.f32 v68), .bslc (BR.root 2) (.f32 v69)], .bslc (BR.root 3) (.f32 v70)] (fun F' h0 hi hρ => ⟨by simp [DVs.av, DV.av, BR.av, hρ], impl_ThirdsTimes_fn v67 v68 v69 v70 F' (by rw [hi]; rfl) (st_nil hi) ⟨⟨bslc_ok hi (by rw [h0, hρ]; exact rowF32_ok hs (DVs.okAt (DVs.okAt ha 0 rfl) 0 rfl) hv67), bslc_ok hi (by rw [h0, hρ]; exact rowF32_ok hs (DVs.okAt (DVs.okAt ha 0 rfl) 1 rfl) hv68), bslc_ok hi (by rw [h0, hρ]; exact rowF32_ok hs (DVs.okAt (DVs.okAt ha 0 rfl) 2 rfl) hv69), trivial⟩, bslc_ok hi (by rw [h0, hρ]; exact rowF32_ok hs (DVs.okAt ha 1 rfl) hv70), trivial⟩ hy⟩) rfl
    | inr y =>
      simp only [Tree.run, Option.some.injEq, Prod.mk.injEq] at hr
      obtain ⟨rfl, rfl⟩ := hr
      exact call_ok1 hs (fun k => (([a1.av F, a2.av F, a3.av F, a4.av F] : List AV)[k]?).getD .top) [.agg [a1, a2, a3], a4] [.agg [.bslc (BR.root 0) (.f32 v67), .bslc (BR.root 1) (.f32 v68), .bslc (BR.root 2) (.f32 v69)], .bslc (BR.root 3) (.f32 v70)] (fun F' h0 hi hρ => ⟨by simp [DVs.av, DV.av, BR.av, hρ], impl_ThirdsTimes_fn v67 v68 v69 v70 F' (by rw [hi]; rfl) (st_nil hi) ⟨⟨bslc_ok hi (by rw [h0, hρ]; exact rowF32_ok hs (DVs.okAt (DVs.okAt ha 0 rfl) 0 rfl) hv67), bslc_ok hi (by rw [h0, hρ]; exact rowF32_ok hs (DVs.okAt (DVs.okAt ha 0 rfl) 1 rfl) hv68), bslc_ok hi (by rw [h0, hρ]; exact rowF32_ok hs (DVs.okAt (DVs.okAt ha 0 rfl) 2 rfl) hv69), trivial⟩, bslc_ok hi (by rw [h0, hρ]; exact rowF32_ok hs (DVs.okAt ha 1 rfl) hv70), trivial⟩ hy⟩) rfl rfl
  · cases hr
/-! laws.sameFloat -/
noncomputable def laws_sameFloat_LO (v127 : Nat) (v128 : Nat) : LOr := fun id e L =>
  match id with
  | _ => .fail
noncomputable def laws_sameFloat_tab : List (FuncId × DFn × Bool) := []
theorem laws_sameFloat_hO : OrcOk Try.prog (tabD laws_sameFloat_tab) (tabM laws_sameFloat_tab) := tabD_nil _
noncomputable def laws_sameFloat_T (v127 : Nat) (v128 : Nat) : Tree (Bool) :=
  (.br (!feq .f64 v127 v127) (
   (.br (!feq .f64 v127 v127) (
    .leaf (!feq .f64 v128 v128)
   ) (
    .leaf false
   ))
  ) (
   (.br (!feq .f64 v128 v128) (
    (.br (!feq .f64 v127 v127) (
     .leaf (!feq .f64 v128 v128)
    ) (
     .leaf false
    ))
   ) (
    (.br (feq .f64 v127 (0 : Nat)) (
     (.br (feq .f64 v128 (0 : Nat)) (
      .leaf ((fgrt .f64 (fdiv .f64 (4607182418800017408 : Nat) v127) (0 : Nat)) == (fgrt .f64 (fdiv .f64 (4607182418800017408 : Nat) v128) (0 : Nat)))
     ) (
      .leaf (feq .f64 v127 v128)
     ))
    ) (
     .leaf (feq .f64 v127 v128)
    ))
   ))
  ))

noncomputable def laws_sameFloat_g (v127 : Nat) (v128 : Nat) : Option (Bool) := (laws_sameFloat_T v127 v128).run
def laws_sameFloat_enc (v127 : Nat) (v128 : Nat) (y : Bool) : Rs := (.bool y, [])
theorem laws_sameFloat_den (v127 : Nat) (v128 : Nat) : (den TT (tabD laws_sameFloat_tab) (tabM laws_sameFloat_tab) (laws_sameFloat_LO v127 v128) (codeOf Try.f90) ([.flt .f64 v127, .flt .f64 v128] ++ List.replicate (Try.f90.ntmps - ([.flt .f64 v127, .flt .f64 v128] : List DV).length) .undef) []).bind (retD TT Try.f90.results.toList 0) = (laws_sameFloat_T v127 v128).bind fun y => .leaf (laws_sameFloat_enc v127 v128 y) := by kernel_rfl
theorem laws_sameFloat_fn (v127 : Nat) (v128 : Nat) (F : Fr) (hm : F.ids.length = 0) (h0 : St F [] F.H0) (hA : DVs.Ok F [] [.flt .f64 v127, .flt .f64 v128]) {y : Bool} (hy : laws_sameFloat_g v127 v128 = some y) : ∃ H', FnOk Try.prog 90 (DVs.av F [.flt .f64 v127, .flt .f64 v128]) F.H0 ((laws_sameFloat_enc v127 v128 y).1.av F) H' ∧ St F (laws_sameFloat_enc v127 v128 y).2 H' ∧ (laws_sameFloat_enc v127 v128 y).1.Ok F (laws_sameFloat_enc v127 v128 y).2 :=
  fn_fin tok laws_sameFloat_hO mixed Try.func90 Try.call90 (by kernel_rfl) (LoopsOk_eq (l := []) (by kernel_rfl) trivial) (laws_sameFloat_den v127 v128) hy hm h0 hA
def laws_sameFloat_v (v127 : Nat) (v128 : Nat) : Bool :=
  if (!feq .f64 v127 v127) = true then (
   if (!feq .f64 v127 v127) = true then (
    !feq .f64 v128 v128
   ) else (
    false
   )
  ) else (
   if (!feq .f64 v128 v128) = true then (
    if (!feq .f64 v127 v127) = true then (
     !feq .f64 v128 v128
    ) else (
     false
    )
   ) else (
    if (feq .f64 v127 (0 : Nat)) = true then (
     if (feq .f64 v128 (0 : Nat)) = true then (
      (fgrt .f64 (fdiv .f64 (4607182418800017408 : Nat) v127) (0 : Nat)) == (fgrt .f64 (fdiv .f64 (4607182418800017408 : Nat) v128) (0 : Nat))
     ) else (
      feq .f64 v127 v128
     )
    ) else (
     feq .f64 v127 v128
    )
   )
  )
theorem laws_sameFloat_tot (v127 : Nat) (v128 : Nat) : laws_sameFloat_g v127 v128 = some (laws_sameFloat_v v127 v128) := by
  unfold laws_sameFloat_g laws_sameFloat_T laws_sameFloat_v
  simp only [Tree.run]
  repeat' (first | rfl | split)
noncomputable def laws_sameFloat_F : DFn := fun args L =>
  match args with
  | [.flt .f64 v127, .flt .f64 v128] =>
    .leaf (.bool (laws_sameFloat_v v127 v128), L)
  | _ => .fail
theorem laws_sameFloat_Fok : COk Try.prog 90 laws_sameFloat_F true := by
  intro F L H args r L' hs ha hr
  unfold laws_sameFloat_F at hr
  split at hr
  · rename_i v127 v128
    have hy := laws_sameFloat_tot v127 v128
    generalize laws_sameFloat_v v127 v128 = y at hy hr
    simp only [Tree.run, Option.some.injEq, Prod.mk.injEq] at hr
    obtain ⟨rfl, rfl⟩ := hr
    exact call_ok0 hs (fun k => (([] : List AV)[k]?).getD .top) [.flt .f64 v127, .flt .f64 v128] [.flt .f64 v127, .flt .f64 v128] (fun F' h0 hi hρ => ⟨by simp [DVs.av, DV.av, BR.av, hρ], laws_sameFloat_fn v127 v128 F' (by rw [hi]; rfl) (st_nil hi) ⟨trivial, trivial, trivial⟩ hy⟩) rfl
  · cases hr
/-! laws.eqFloat32S -/
noncomputable def laws_eqFloat32S_l0_T (v124 : List Nat) (v125 : List Nat) (s : Int) : Tree ((Int) ⊕ ((Unit) ⊕ (Unit))) :=
  (.br (decide (s < ((v124.length : Nat) : Int))) (
   (.grd (inb s v124.length) <|
   (.grd (inb s v125.length) <|
   (.br (!(laws_sameFloat_v (wid (nth v124 (Int.toNat s))) (wid (nth v125 (Int.toNat s))))) (
    .leaf (.inr (.inl ()))
   ) (
    .leaf (.inl (IntKind.i64.wrap (s + (1 : Int))))
   ))))
  ) (
   .leaf (.inr (.inr ()))
  ))

noncomputable def laws_eqFloat32S_l0_g (v124 : List Nat) (v125 : List Nat) (s0 : Int) : Option ((Unit) ⊕ (Unit)) := whileM (fun s => (laws_eqFloat32S_l0_T v124 v125 s).run) s0
def laws_eqFloat32S_l0_E (v124 : List Nat) (v125 : List Nat) (s : Int) : Sd := ([.bslc (BR.root 0) (.f32 v124), .bslc (BR.root 1) (.f32 v125), .top, .top, .top, .int .i64 s, .top, .top, .top, .top, .top, .top, .top, .top, .top, .top, .top, .top, .top, .top, .top, .top, .top, .top, .top, .top, .top, .top, .top], [])
def laws_eqFloat32S_l0_X (v124 : List Nat) (v125 : List Nat) (x : (Unit) ⊕ (Unit)) : Out := (match x with | .inl x => (.ret, [.top, .top, .top, .top, .lit false, .top, .top, .top, .top, .top, .top, .top, .top, .top, .top, .top, .top, .top, .top, .top, .top, .top, .top, .top, .top, .top, .top, .top, .top], []) | .inr x => (.normal, [.top, .top, .top, .top, .top, .top, .top, .top, .top, .top, .top, .top, .top, .top, .top, .top, .top, .top, .top, .top, .top, .top, .top, .top, .top, .top, .top, .top, .top], []))
def laws_eqFloat32S_l0_kill : List Nat := [0, 0, 1, 1, 1, 0, 1, 1, 1, 1, 1, 1, 1, 1, 1, 1, 1, 1, 1, 1, 1, 1, 1, 1, 1, 1, 1, 1, 1]
def laws_eqFloat32S_l0_nx : Exit → List Nat
  | .exit 0 => [1, 1, 1, 1, 1, 1, 1, 1, 1, 1, 1, 1, 1, 1, 1, 1, 1, 1, 1, 1, 1, 1, 1, 1, 1, 1, 1, 1, 1]
  | .ret => [1, 1, 1, 1, 0, 1, 1, 1, 1, 1, 1, 1, 1, 1, 1, 1, 1, 1, 1, 1, 1, 1, 1, 1, 1, 1, 1, 1, 1]
  | _ => []
noncomputable def laws_eqFloat32S_LO (v124 : List Nat) (v125 : List Nat) : LOr := fun id e L =>
  match id with
  | 0 => .need (normA 0 laws_eqFloat32S_l0_kill e L = some (laws_eqFloat32S_l0_E v124 v125 (gI (vAt e 5)))) (.call (laws_eqFloat32S_l0_g v124 v125 (gI (vAt e 5))) fun x => .sum x (fun b0 => .leaf (laws_eqFloat32S_l0_X v124 v125 (.inl b0))) (fun c0 => .leaf (laws_eqFloat32S_l0_X v124 v125 (.inr c0))))
  | _ => .fail
noncomputable def laws_eqFloat32S_tab : List (FuncId × DFn × Bool) := [(90, laws_sameFloat_F, true)]
theorem laws_eqFloat32S_hO : OrcOk Try.prog (tabD laws_eqFloat32S_tab) (tabM laws_eqFloat32S_tab) := tabD_cons laws_sameFloat_Fok (tabD_nil _)
theorem laws_eqFloat32S_l0_be (v124 : List Nat) (v125 : List Nat) (s : Int) : bodyT TT (tabD laws_eqFloat32S_tab) (tabM laws_eqFloat32S_tab) (laws_eqFloat32S_LO v124 v125) 0 laws_eqFloat32S_l0_kill laws_eqFloat32S_l0_nx (bodyOf Try.f32 0) 0 (laws_eqFloat32S_l0_E v124 v125 s) = (laws_eqFloat32S_l0_T v124 v125 s).bind fun y => .leaf (outS (laws_eqFloat32S_l0_E v124 v125) (laws_eqFloat32S_l0_X v124 v125) y) := by kernel_rfl
theorem laws_eqFloat32S_l0_ok (v124 : List Nat) (v125 : List Nat) : LSound Try.prog 0 (laws_eqFloat32S_LO v124 v125) 0 (bodyOf Try.f32 0) := by
  intro e L out h
  exact lo_ok (E := laws_eqFloat32S_l0_E v124 v125) (gT := laws_eqFloat32S_l0_T v124 v125) (X := laws_eqFloat32S_l0_X v124 v125) (s0 := (gI (vAt e 5))) tok laws_eqFloat32S_hO mixed (LoopsOk_eq (l := []) (by kernel_rfl) trivial) (laws_eqFloat32S_l0_be v124 v125) rfl (by intro x; (cases x with | inl b => rfl | inr x => exact rfl)) h
noncomputable def laws_eqFloat32S_T (v124 : List Nat) (v125 : List Nat) : Tree (Bool) :=
  (.br (!decide (((v124.length : Nat) : Int) = ((v125.length : Nat) : Int))) (
   .leaf false
  ) (
   (.need (some (laws_eqFloat32S_l0_E v124 v125 (0 : Int)) = some (laws_eqFloat32S_l0_E v124 v125 (0 : Int))) <|
   (.call (laws_eqFloat32S_l0_g v124 v125 (0 : Int)) fun v131 =>
   (.sum v131 (fun v132 =>
    .leaf false
   ) (fun v133 =>
    .leaf true
   ))))
  ))

noncomputable def laws_eqFloat32S_g (v124 : List Nat) (v125 : List Nat) : Option (Bool) := (laws_eqFloat32S_T v124 v125).run
def laws_eqFloat32S_enc (v124 : List Nat) (v125 : List Nat) (y : Bool) : Rs := (.bool y, [])
theorem laws_eqFloat32S_den (v124 : List Nat) (v125 : List Nat) : (den TT (tabD laws_eqFloat32S_tab) (tabM laws_eqFloat32S_tab) (laws_eqFloat32S_LO v124 v125) (codeOf Try.f32) ([.bslc (BR.root 0) (.f32 v124), .bslc (BR.root 1) (.f32 v125)] ++ List.replicate (Try.f32.ntmps - ([.bslc (BR.root 0) (.f32 v124), .bslc (BR.root 1) (.f32 v125)] : List DV).length) .undef) []).bind (retD TT Try.f32.results.toList 0) = (laws_eqFloat32S_T v124 v125).bind fun y => .leaf (laws_eqFloat32S_enc v124 v125 y) := by kernel_rfl
theorem laws_eqFloat32S_fn (v124 : List Nat) (v125 : List Nat) (F : Fr) (hm : F.ids.length = 0) (h0 : St F [] F.H0) (hA : DVs.Ok F [] [.bslc (BR.root 0) (.f32 v124), .bslc (BR.root 1) (.f32 v125)]) {y : Bool} (hy : laws_eqFloat32S_g v124 v125 = some y) : ∃ H', FnOk Try.prog 32 (DVs.av F [.bslc (BR.root 0) (.f32 v124), .bslc (BR.root 1) (.f32 v125)]) F.H0 ((laws_eqFloat32S_enc v124 v125 y).1.av F) H' ∧ St F (laws_eqFloat32S_enc v124 v125 y).2 H' ∧ (laws_eqFloat32S_enc v124 v125 y).1.Ok F (laws_eqFloat32S_enc v124 v125 y).2 :=
  fn_fin tok laws_eqFloat32S_hO mixed Try.func32 Try.call32 (by kernel_rfl) (LoopsOk_eq (l := [(0, bodyOf Try.f32 0)]) (by kernel_rfl) ⟨laws_eqFloat32S_l0_ok v124 v125, trivial⟩) (laws_eqFloat32S_den v124 v125) hy hm h0 hA
noncomputable def laws_eqFloat32S_F : DFn := fun args L =>
  match args with
  | [a1, a2] =>
    optT (rowF32 L a1) fun v124 =>
    optT (rowF32 L a2) fun v125 =>
    .call (laws_eqFloat32S_g v124 v125) fun y => .leaf (.bool y, L)
  | _ => .fail
theorem laws_eqFloat32S_Fok : COk Try.prog 32 laws_eqFloat32S_F true := by
  intro F L H args r L' hs ha hr
  unfold laws_eqFloat32S_F at hr
  split at hr
  · rename_i a1 a2
    obtain ⟨v124, hv124, hr⟩ := optT_run hr
    obtain ⟨v125, hv125, hr⟩ := optT_run hr
    simp only [Tree.run] at hr
    obtain ⟨y, hy, hr⟩ := Option.bind_eq_some_iff.1 hr
    simp only [Tree.run, Option.some.injEq, Prod.mk.injEq] at hr
    obtain ⟨rfl, rfl⟩ := hr
    exact call_ok0 hs (fun k => (([a1.av F, a2.av F] : List AV)[k]?).getD .top) [a1, a2] [.bslc (BR.root 0) (.f32 v124), .bslc (BR.root 1) (.f32 v125)] (fun F' h0 hi hρ => ⟨by simp [DVs.av, DV.av, BR.av, hρ], laws_eqFloat32S_fn v124 v125 F' (by rw [hi]; rfl) (st_nil hi) ⟨bslc_ok hi (by rw [h0, hρ]; exact rowF32_ok hs (DVs.okAt ha 0 rfl) hv124), bslc_ok hi (by rw [h0, hρ]; exact rowF32_ok hs (DVs.okAt ha 1 rfl) hv125), trivial⟩ hy⟩) rfl
  · cases hr
/-! laws.eqThirds -/
noncomputable def laws_eqThirds_LO (v136 : List Nat) (v137 : List Nat) (v138 : List Nat) (v139 : List Nat) (v140 : List Nat) (v141 : List Nat) : LOr := fun id e L =>
  match id with
  | _ => .fail
noncomputable def laws_eqThirds_tab : List (FuncId × DFn × Bool) := [(32, laws_eqFloat32S_F, true)]
theorem laws_eqThirds_hO : OrcOk Try.prog (tabD laws_eqThirds_tab) (tabM laws_eqThirds_tab) := tabD_cons laws_eqFloat32S_Fok (tabD_nil _)
noncomputable def laws_eqThirds_T (v136 : List Nat) (v137 : List Nat) (v138 : List Nat) (v139 : List Nat) (v140 : List Nat) (v141 : List Nat) : Tree (Bool) :=
  (.call (laws_eqFloat32S_g v136 v139) fun v142 =>
  (.br (!v142) (
   .leaf false
  ) (
   (.call (laws_eqFloat32S_g v137 v140) fun v143 =>
   (.br (!v143) (
    .leaf false
   ) (
    (.call (laws_eqFloat32S_g v138 v141) fun v144 =>
    (.br (!v144) (
     .leaf false
    ) (
     .leaf true
    )))
   )))
  )))

noncomputable def laws_eqThirds_g (v136 : List Nat) (v137 : List Nat) (v138 : List Nat) (v139 : List Nat) (v140 : List Nat) (v141 : List Nat) : Option (Bool) := (laws_eqThirds_T v136 v137 v138 v139 v140 v141).run
def laws_eqThirds_enc (v136 : List Nat) (v137 : List Nat) (v138 : List Nat) (v139 : List Nat) (v140 : List Nat) (v141 : List Nat) (y : Bool) : Rs := (.bool y, [])
theorem laws_eqThirds_den (v136 : List Nat) (v137 : List Nat) (v138 : List Nat) (v139 : List Nat) (v140 : List Nat) (v141 : List Nat) : (den TT (tabD laws_eqThirds_tab) (tabM laws_eqThirds_tab) (laws_eqThirds_LO v136 v137 v138 v139 v140 v141) (codeOf Try.f45) ([.agg [.bslc (BR.root 0) (.f32 v136), .bslc (BR.root 1) (.f32 v137), .bslc (BR.root 2) (.f32 v138)], .agg [.bslc (BR.root 3) (.f32 v139), .bslc (BR.root 4) (.f32 v140), .bslc (BR.root 5) (.f32 v141)]] ++ List.replicate (Try.f45.ntmps - ([.agg [.bslc (BR.root 0) (.f32 v136), .bslc (BR.root 1) (.f32 v137), .bslc (BR.root 2) (.f32 v138)], .agg [.bslc (BR.root 3) (.f32 v139), .bslc (BR.root 4) (.f32 v140), .bslc (BR.root 5) (.f32 v141)]] : List DV).length) .undef) []).bind (retD TT Try.f45.results.toList 0) = (laws_eqThirds_T v136 v137 v138 v139 v140 v141).bind fun y => .leaf (laws_eqThirds_enc v136 v137 v138 v139 v140 v141 y) := by kernel_rfl
theorem laws_eqThirds_fn (v136 : List Nat) (v137 : List Nat) (v138 : List Nat) (v139 : List Nat) (v140 : List Nat) (v141 : List Nat) (F : Fr) (hm : F.ids.length = 0) (h0 : St F [] F.H0) (hA : DVs.Ok F [] [.agg [.bslc (BR.root 0) (.f32 v136), .bslc (BR.root 1) (.f32 v137), .bslc (BR.root 2) (.f32 v138)], .agg [.bslc (BR.root 3) (.f32 v139), .bslc (BR.root 4) (.f32 v140), .bslc (BR.root 5) (.f32 v141)]]) {y : Bool} (hy : laws_eqThirds_g v136 v137 v138 v139 v140 v141 = some y) : ∃ H', FnOk Try.prog 45 (DVs.av F [.agg [.bslc (BR.root 0) (.f32 v136), .bslc (BR.root 1) (.f32 v137), .bslc (BR.root 2) (.f32 v138)], .agg [.bslc (BR.root 3) (.f32 v139), .bslc (BR.root 4) (.f32 v140), .bslc (BR.root 5) (.f32 v141)]]) F.H0 ((laws_eqThirds_enc v136 v137 v138 v139 v140 v141 y).1.av F) H' ∧ St F (laws_eqThirds_enc v136 v137 v138 v139 v140 v141 y).2 H' ∧ (laws_eqThirds_enc v136 v137 v138 v139 v140 v141 y).1.Ok F (laws_eqThirds_enc v136 v137 v138 v139 v140 v141 y).2 :=
  fn_fin tok laws_eqThirds_hO mixed Try.func45 Try.call45 (by kernel_rfl) (LoopsOk_eq (l := []) (by kernel_rfl) trivial) (laws_eqThirds_den v136 v137 v138 v139 v140 v141) hy hm h0 hA
noncomputable def laws_eqThirds_F : DFn := fun args L =>
  match args with
  | [.agg [a1, a2, a3], .agg [a4, a5, a6]] =>
    optT (rowF32 L a1) fun v136 =>
    optT (rowF32 L a2) fun v137 =>
    optT (rowF32 L a3) fun v138 =>
    optT (rowF32 L a4) fun v139 =>
    optT (rowF32 L a5) fun v140 =>
    optT (rowF32 L a6) fun v141 =>
    .call (laws_eqThirds_g v136 v137 v138 v139 v140 v141) fun y => .leaf (.bool y, L)
  | _ => .fail
theorem laws_eqThirds_Fok : COk Try.prog 45 laws_eqThirds_F true := by
  intro F L H args r L' hs ha hr
  unfold laws_eqThirds_F at hr
  split at hr
  · rename_i a1 a2 a3 a4 a5 a6
    obtain ⟨v136, hv136, hr⟩ := optT_run hr
    obtain ⟨v137, hv137, hr⟩ := optT_run hr
    obtain ⟨v138, hv138, hr⟩ := optT_run hr
    obtain ⟨v139, hv139, hr⟩ := optT_run hr
    obtain ⟨v140, hv140, hr⟩ := optT_run hr
    obtain ⟨v141, hv141, hr⟩ := optT_run hr
    simp only [Tree.run] at hr
    obtain ⟨y, hy, hr⟩ := Option.bind_eq_some_iff.1 hr
    simp only [Tree.run, Option.some.injEq, Prod.mk.injEq] at hr
    obtain ⟨rfl, rfl⟩ := hr
    exact call_ok0 hs (fun k => (([a1.av F, a2.av F, a3.av F, a4.av F, a5.av F, a6.av F] : List AV)[k]?).getD .top) [.agg [a1, a2, a3], .agg [a4, a5, a6]] [.agg [.bslc (BR.root 0) (.f32 v136), .bslc (BR.root 1) (.f32 v137), .bslc (BR.root 2) (.f32 v138)], .agg [.bslc (BR.root 3) (.f32 v139), .bslc (BR.root 4) (.f32 v140), .bslc (BR.root 5) (.f32 v141)]] (fun F' h0 hi hρ => ⟨by simp [DVs.av, DV.av, BR.av, hρ], laws_eqThirds_fn v136 v137 v138 v139 v140 v141 F' (by rw [hi]; rfl) (st_nil hi) ⟨⟨bslc_ok hi (by rw [h0, hρ]; exact rowF32_ok hs (DVs.okAt (DVs.okAt ha 0 rfl) 0 rfl) hv136), bslc_ok hi (by rw [h0, hρ]; exact rowF32_ok hs (DVs.okAt (DVs.okAt ha 0 rfl) 1 rfl) hv137), bslc_ok hi (by rw [h0, hρ]; exact rowF32_ok hs (DVs.okAt (DVs.okAt ha 0 rfl) 2 rfl) hv138), trivial⟩, ⟨bslc_ok hi (by rw [h0, hρ]; exact rowF32_ok hs (DVs.okAt (DVs.okAt ha 1 rfl) 0 rfl) hv139), bslc_ok hi (by rw [h0, hρ]; exact rowF32_ok hs (DVs.okAt (DVs.okAt ha 1 rfl) 1 rfl) hv140), bslc_ok hi (by rw [h0, hρ]; exact rowF32_ok hs (DVs.okAt (DVs.okAt ha 1 rfl) 2 rfl) hv141), trivial⟩, trivial⟩ hy⟩) rfl
  · cases hr
/-! laws.markFloat32S -/
noncomputable def laws_markFloat32S_l0_T (s : Int × Int × (List Nat)) : Tree ((Int × Int × (List Nat)) ⊕ (Int × (List Nat))) :=
  (.br (decide (s.2.1 < (((s.2.2).length : Nat) : Int))) (
   (.grd (inb s.2.1 ((s.2.2).length)) <|
   .leaf (.inl (IntKind.i64.wrap (s.1 + (1 : Int)), IntKind.i64.wrap (s.2.1 + (1 : Int)), List.set s.2.2 (Int.toNat s.2.1) (fofint .f32 s.1))))
  ) (
   .leaf (.inr (s.1, s.2.2))
  ))

noncomputable def laws_markFloat32S_l0_g (s0 : Int × Int × (List Nat)) : Option (Int × (List Nat)) := whileM (fun s => (laws_markFloat32S_l0_T s).run) s0
def laws_markFloat32S_l0_E (v156 : List Nat) (v157 : Int) (s : Int × Int × (List Nat)) : Sd := ([.own 0 0 ((s.2.2).length), .int .i64 s.1, .top, .top, .top, .int .i64 s.2.1, .top, .top, .top, .top, .top, .top, .top, .top, .top, .top, .top, .top, .top, .top], [.row (.f32 s.2.2) 0])
def laws_markFloat32S_l0_X (v156 : List Nat) (v157 : Int) (x : Int × (List Nat)) : Out := (.normal, [.top, .int .i64 x.1, .top, .top, .top, .top, .top, .top, .top, .top, .top, .top, .top, .top, .top, .top, .top, .top, .top, .top], [.row (.f32 x.2) 0])
def laws_markFloat32S_l0_kill : List Nat := [0, 0, 1, 1, 1, 0, 1, 1, 1, 1, 1, 1, 1, 1, 1, 1, 1, 1, 1, 1]
def laws_markFloat32S_l0_nx : Exit → List Nat
  | .exit 0 => [1, 0, 1, 1, 1, 1, 1, 1, 1, 1, 1, 1, 1, 1, 1, 1, 1, 1, 1, 1]
  | .ret => [1, 1, 1, 1, 0, 1, 1, 1, 1, 1, 1, 1, 1, 1, 1, 1, 1, 1, 1, 1]
  | _ => []
noncomputable def laws_markFloat32S_LO (v156 : List Nat) (v157 : Int) : LOr := fun id e L =>
  match id with
  | 0 => .need (normA 1 laws_markFloat32S_l0_kill e L = some (laws_markFloat32S_l0_E v156 v157 ((gI (vAt e 1)), (gI (vAt e 5)), (gRF L (vAt e 0))))) (.call (laws_markFloat32S_l0_g ((gI (vAt e 1)), (gI (vAt e 5)), (gRF L (vAt e 0)))) fun x => .leaf (laws_markFloat32S_l0_X v156 v157 x))
  | _ => .fail
noncomputable def laws_markFloat32S_tab : List (FuncId × DFn × Bool) := []
theorem laws_markFloat32S_hO : OrcOk Try.prog (tabD laws_markFloat32S_tab) (tabM laws_markFloat32S_tab) := tabD_nil _
theorem laws_markFloat32S_l0_be (v156 : List Nat) (v157 : Int) (s : Int × Int × (List Nat)) : bodyT TT (tabD laws_markFloat32S_tab) (tabM laws_markFloat32S_tab) (laws_markFloat32S_LO v156 v157) 1 laws_markFloat32S_l0_kill laws_markFloat32S_l0_nx (bodyOf Try.f33 0) 0 (laws_markFloat32S_l0_E v156 v157 s) = (laws_markFloat32S_l0_T s).bind fun y => .leaf (outS (laws_markFloat32S_l0_E v156 v157) (laws_markFloat32S_l0_X v156 v157) y) := by kernel_rfl
theorem laws_markFloat32S_l0_ok (v156 : List Nat) (v157 : Int) : LSound Try.prog 1 (laws_markFloat32S_LO v156 v157) 0 (bodyOf Try.f33 0) := by
  intro e L out h
  exact lo_ok (E := laws_markFloat32S_l0_E v156 v157) (gT := laws_markFloat32S_l0_T) (X := laws_markFloat32S_l0_X v156 v157) (s0 := ((gI (vAt e 1)), (gI (vAt e 5)), (gRF L (vAt e 0)))) tok laws_markFloat32S_hO mixed (LoopsOk_eq (l := []) (by kernel_rfl) trivial) (laws_markFloat32S_l0_be v156 v157) rfl (by intro x; rfl) h
noncomputable def laws_markFloat32S_T (v156 : List Nat) (v157 : Int) : Tree (Int × (List Nat)) :=
  (.need (some (laws_markFloat32S_l0_E v156 v157 (v157, (0 : Int), v156)) = some (laws_markFloat32S_l0_E v156 v157 (v157, (0 : Int), v156))) <|
  (.call (laws_markFloat32S_l0_g (v157, (0 : Int), v156)) fun v166 =>
  .leaf (v166.1, v166.2)))

noncomputable def laws_markFloat32S_g (v156 : List Nat) (v157 : Int) : Option (Int × (List Nat)) := (laws_markFloat32S_T v156 v157).run
def laws_markFloat32S_enc (v156 : List Nat) (v157 : Int) (y : Int × (List Nat)) : Rs := (.int .i64 y.1, [.row (.f32 y.2) 0])
theorem laws_markFloat32S_den (v156 : List Nat) (v157 : Int) : (den TT (tabD laws_markFloat32S_tab) (tabM laws_markFloat32S_tab) (laws_markFloat32S_LO v156 v157) (codeOf Try.f33) ([.own 0 0 v156.length, .int .i64 v157] ++ List.replicate (Try.f33.ntmps - ([.own 0 0 v156.length, .int .i64 v157] : List DV).length) .undef) [.row (.f32 v156) 0]).bind (retD TT Try.f33.results.toList 1) = (laws_markFloat32S_T v156 v157).bind fun y => .leaf (laws_markFloat32S_enc v156 v157 y) := by kernel_rfl
theorem laws_markFloat32S_fn (v156 : List Nat) (v157 : Int) (F : Fr) (hm : F.ids.length = 1) (h0 : St F [.row (.f32 v156) 0] F.H0) (hA : DVs.Ok F [.row (.f32 v156) 0] [.own 0 0 v156.length, .int .i64 v157]) {y : Int × (List Nat)} (hy : laws_markFloat32S_g v156 v157 = some y) : ∃ H', FnOk Try.prog 33 (DVs.av F [.own 0 0 v156.length, .int .i64 v157]) F.H0 ((laws_markFloat32S_enc v156 v157 y).1.av F) H' ∧ St F (laws_markFloat32S_enc v156 v157 y).2 H' ∧ (laws_markFloat32S_enc v156 v157 y).1.Ok F (laws_markFloat32S_enc v156 v157 y).2 :=
  fn_fin tok laws_markFloat32S_hO mixed Try.func33 Try.call33 (by kernel_rfl) (LoopsOk_eq (l := [(0, bodyOf Try.f33 0)]) (by kernel_rfl) ⟨laws_markFloat32S_l0_ok v156 v157, trivial⟩) (laws_markFloat32S_den v156 v157) hy hm h0 hA
noncomputable def laws_markFloat32S_F : DFn := fun args L =>
  match args with
  | [a1, .int .i64 v157] =>
    optT (ownF32 L a1) fun qv156 =>
    (match sepB [qv156.1] [] with
    | true =>
    .call (laws_markFloat32S_g qv156.2 v157) fun y => .grd (decide (y.2.length = qv156.2.length)) (.leaf (.int .i64 y.1, setRows L ([qv156.1].zip [.f32 y.2])))
    | false => .fail)
  | _ => .fail
theorem laws_markFloat32S_Fok : COk Try.prog 33 laws_markFloat32S_F false := by
  intro F L H args r L' hs ha hr
  unfold laws_markFloat32S_F at hr
  split at hr
  · rename_i a1 v157
    obtain ⟨⟨jv156, v156⟩, hqv156, hr⟩ := optT_run hr
    simp only at hr
    split at hr
    · rename_i hsep
      obtain ⟨hnd, hsepv⟩ := sepB_spec hsep
      simp only [Tree.run] at hr
      obtain ⟨y, hy, hr⟩ := Option.bind_eq_some_iff.1 hr
      try simp only [Tree.run] at hr
      obtain ⟨hl0, hr⟩ := ite_run hr
      simp only [Option.some.injEq, Prod.mk.injEq] at hr
      obtain ⟨rfl, rfl⟩ := hr
      obtain ⟨hr0, hu0, ha0, hb0⟩ := (ownR_spec (DVs.okAt ha 0 rfl) (ownF32_or hqv156))
      exact mut_ok hs (fun k => (([a1.av F] : List AV)[k]?).getD .top) [a1, .int .i64 v157] [.own 0 0 v156.length, .int .i64 v157] [jv156] [.f32 v156] [.f32 y.2] hnd rfl rfl (fun i j q h1 h2 => by
          rcases i with _ | i
          · simp at h1 h2; subst h1; subst h2; exact hr0
          · simp at h1) (fun i q q' h1 h2 => by
          rcases i with _ | i
          · simp at h1 h2; subst h1; subst h2; exact of_decide_eq_true hl0
          · simp at h1) (fun j hj => by simp at hj; subst hj; simp [DVs.refs, DV.refs, hu0]) (fun F' h0 hi hρ hst hS => ⟨by (have ab0 : F'.abs 0 = F.abs jv156 := (by simp [Fr.abs, hi]); simp [DVs.av, DV.av, BR.av, hρ, Row.len, ha0, ab0]), by
          obtain ⟨H1, k1, k2, _⟩ := laws_markFloat32S_fn v156 v157 F' (by rw [hi]; rfl) hst ⟨⟨_, rfl, Nat.le_refl _, Nat.le_refl _, fun _ => rfl, (ownR_spec (DVs.okAt ha 0 rfl) (ownF32_or hqv156)).2.2.2⟩, trivial, trivial⟩ hy
          exact ⟨H1, k1, k2⟩⟩) (fun F' => rfl) (fun L' => trivial)
    · cases hr
  · cases hr
/-! laws.markThirds -/
noncomputable def laws_markThirds_LO (v178 : List Nat) (v179 : List Nat) (v180 : List Nat) (v181 : Int) : LOr := fun id e L =>
  match id with
  | _ => .fail
noncomputable def laws_markThirds_tab : List (FuncId × DFn × Bool) := [(33, laws_markFloat32S_F, false)]
theorem laws_markThirds_hO : OrcOk Try.prog (tabD laws_markThirds_tab) (tabM laws_markThirds_tab) := tabD_cons laws_markFloat32S_Fok (tabD_nil _)
noncomputable def laws_markThirds_T (v178 : List Nat) (v179 : List Nat) (v180 : List Nat) (v181 : Int) : Tree (Int × (List Nat) × (List Nat) × (List Nat)) :=
  (.call (laws_markFloat32S_g v178 v181) fun v182 =>
  (.grd (decide (v182.2.length = v178.length)) <|
  (.call (laws_markFloat32S_g v179 v182.1) fun v183 =>
  (.grd (decide (v183.2.length = v179.length)) <|
  (.call (laws_markFloat32S_g v180 v183.1) fun v184 =>
  (.grd (decide (v184.2.length = v180.length)) <|
  .leaf (v184.1, v182.2, v183.2, v184.2)))))))

noncomputable def laws_markThirds_g (v178 : List Nat) (v179 : List Nat) (v180 : List Nat) (v181 : Int) : Option (Int × (List Nat) × (List Nat) × (List Nat)) := (laws_markThirds_T v178 v179 v180 v181).run
def laws_markThirds_enc (v178 : List Nat) (v179 : List Nat) (v180 : List Nat) (v181 : Int) (y : Int × (List Nat) × (List Nat) × (List Nat)) : Rs := (.int .i64 y.1, [.row (.f32 y.2.1) 0, .row (.f32 y.2.2.1) 0, .row (.f32 y.2.2.2) 0])
theorem laws_markThirds_den (v178 : List Nat) (v179 : List Nat) (v180 : List Nat) (v181 : Int) : (den TT (tabD laws_markThirds_tab) (tabM laws_markThirds_tab) (laws_markThirds_LO v178 v179 v180 v181) (codeOf Try.f46) ([.agg [.own 0 0 v178.length, .own 1 0 v179.length, .own 2 0 v180.length], .int .i64 v181] ++ List.replicate (Try.f46.ntmps - ([.agg [.own 0 0 v178.length, .own 1 0 v179.length, .own 2 0 v180.length], .int .i64 v181] : List DV).length) .undef) [.row (.f32 v178) 0, .row (.f32 v179) 0, .row (.f32 v180) 0]).bind (retD TT Try.f46.results.toList 3) = (laws_markThirds_T v178 v179 v180 v181).bind fun y => .leaf (laws_markThirds_enc v178 v179 v180 v181 y) := by kernel_rfl
theorem laws_markThirds_fn (v178 : List Nat) (v179 : List Nat) (v180 : List Nat) (v181 : Int) (F : Fr) (hm : F.ids.length = 3) (h0 : St F [.row (.f32 v178) 0, .row (.f32 v179) 0, .row (.f32 v180) 0] F.H0) (hA : DVs.Ok F [.row (.f32 v178) 0, .row (.f32 v179) 0, .row (.f32 v180) 0] [.agg [.own 0 0 v178.length, .own 1 0 v179.length, .own 2 0 v180.length], .int .i64 v181]) {y : Int × (List Nat) × (List Nat) × (List Nat)} (hy : laws_markThirds_g v178 v179 v180 v181 = some y) : ∃ H', FnOk Try.prog 46 (DVs.av F [.agg [.own 0 0 v178.length, .own 1 0 v179.length, .own 2 0 v180.length], .int .i64 v181]) F.H0 ((laws_markThirds_enc v178 v179 v180 v181 y).1.av F) H' ∧ St F (laws_markThirds_enc v178 v179 v180 v181 y).2 H' ∧ (laws_markThirds_enc v178 v179 v180 v181 y).1.Ok F (laws_markThirds_enc v178 v179 v180 v181 y).2 :=
  fn_fin tok laws_markThirds_hO mixed Try.func46 Try.call46 (by kernel_rfl) (LoopsOk_eq (l := []) (by kernel_rfl) trivial) (laws_markThirds_den v178 v179 v180 v181) hy hm h0 hA
noncomputable def laws_markThirds_F : DFn := fun args L =>
  match args with
  | [.agg [a1, a2, a3], .int .i64 v181] =>
    optT (ownF32 L a1) fun qv178 =>
    optT (ownF32 L a2) fun qv179 =>
    optT (ownF32 L a3) fun qv180 =>
    (match sepB [qv178.1, qv179.1, qv180.1] [] with
    | true =>
    .call (laws_markThirds_g qv178.2 qv179.2 qv180.2 v181) fun y => .grd (decide (y.2.1.length = qv178.2.length)) (.grd (decide (y.2.2.1.length = qv179.2.length)) (.grd (decide (y.2.2.2.length = qv180.2.length)) (.leaf (.int .i64 y.1, setRows L ([qv178.1, qv179.1, qv180.1].zip [.f32 y.2.1, .f32 y.2.2.1, .f32 y.2.2.2])))))
    | false => .fail)
  | _ => .fail
theorem laws_markThirds_Fok : COk Try.prog 46 laws_markThirds_F false := by
  intro F L H args r L' hs ha hr
  unfold laws_markThirds_F at hr
  split at hr
  · rename_i a1 a2 a3 v181
    obtain ⟨⟨jv178, v178⟩, hqv178, hr⟩ := optT_run hr
    simp only at hr
    obtain ⟨⟨jv179, v179⟩, hqv179, hr⟩ := optT_run hr
    simp only at hr
    obtain ⟨⟨jv180, v180⟩, hqv180, hr⟩ := optT_run hr
    simp only at hr
    split at hr
    · rename_i hsep
      obtain ⟨hnd, hsepv⟩ := sepB_spec hsep
      simp only [Tree.run] at hr
      obtain ⟨y, hy, hr⟩ := Option.bind_eq_some_iff.1 hr
      try simp only [Tree.run] at hr
      obtain ⟨hl0, hr⟩ := ite_run hr
      obtain ⟨hl1, hr⟩ := ite_run hr
      obtain ⟨hl2, hr⟩ := ite_run hr
      simp only [Option.some.injEq, Prod.mk.injEq] at hr
      obtain ⟨rfl, rfl⟩ := hr
      obtain ⟨hr0, hu0, ha0, hb0⟩ := (ownR_spec (DVs.okAt (DVs.okAt ha 0 rfl) 0 rfl) (ownF32_or hqv178))
      obtain ⟨hr1, hu1, ha1, hb1⟩ := (ownR_spec (DVs.okAt (DVs.okAt ha 0 rfl) 1 rfl) (ownF32_or hqv179))
      obtain ⟨hr2, hu2, ha2, hb2⟩ := (ownR_spec (DVs.okAt (DVs.okAt ha 0 rfl) 2 rfl) (ownF32_or hqv180))
      exact mut_ok hs (fun k => (([a1.av F, a2.av F, a3.av F] : List AV)[k]?).getD .top) [.agg [a1, a2, a3], .int .i64 v181] [.agg [.own 0 0 v178.length, .own 1 0 v179.length, .own 2 0 v180.length], .int .i64 v181] [jv178, jv179, jv180] [.f32 v178, .f32 v179, .f32 v180] [.f32 y.2.1, .f32 y.2.2.1, .f32 y.2.2.2] hnd rfl rfl (fun i j q h1 h2 => by
          rcases i with _ | _ | _ | i
          · simp at h1 h2; subst h1; subst h2; exact hr0
          · simp at h1 h2; subst h1; subst h2; exact hr1
          · simp at h1 h2; subst h1; subst h2; exact hr2
          · simp at h1) (fun i q q' h1 h2 => by
          rcases i with _ | _ | _ | i
          · simp at h1 h2; subst h1; subst h2; exact of_decide_eq_true hl0
          · simp at h1 h2; subst h1; subst h2; exact of_decide_eq_true hl1
          · simp at h1 h2; subst h1; subst h2; exact of_decide_eq_true hl2
          · simp at h1) (fun j hj => by simp at hj; rcases hj with rfl | rfl | rfl <;> simp [DVs.refs, DV.refs, hu0, hu1, hu2]) (fun F' h0 hi hρ hst hS => ⟨by (have ab0 : F'.abs 0 = F.abs jv178 := (by simp [Fr.abs, hi]); have ab1 : F'.abs 1 = F.abs jv179 := (by simp [Fr.abs, hi]); have ab2 : F'.abs 2 = F.abs jv180 := (by simp [Fr.abs, hi]); simp [DVs.av, DV.av, BR.av, hρ, Row.len, ha0, ab0, ha1, ab1, ha2, ab2]), by
          obtain ⟨H1, k1, k2, _⟩ := laws_markThirds_fn v178 v179 v180 v181 F' (by rw [hi]; rfl) hst ⟨⟨⟨_, rfl, Nat.le_refl _, Nat.le_refl _, fun _ => rfl, (ownR_spec (DVs.okAt (DVs.okAt ha 0 rfl) 0 rfl) (ownF32_or hqv178)).2.2.2⟩, ⟨_, rfl, Nat.le_refl _, Nat.le_refl _, fun _ => rfl, (ownR_spec (DVs.okAt (DVs.okAt ha 0 rfl) 1 rfl) (ownF32_or hqv179)).2.2.2⟩, ⟨_, rfl, Nat.le_refl _, Nat.le_refl _, fun _ => rfl, (ownR_spec (DVs.okAt (DVs.okAt ha 0 rfl) 2 rfl) (ownF32_or hqv180)).2.2.2⟩, trivial⟩, trivial, trivial⟩ hy
          exact ⟨H1, k1, k2⟩⟩) (fun F' => rfl) (fun L' => trivial)
    · cases hr
  · cases hr
/-! laws.markFloat32S -/
noncomputable def laws_markFloat32S_i1_l0_T (s : Unit) : Tree ((Unit) ⊕ (Unit)) :=
  (.br (decide ((0 : Int) < (0 : Int))) (
   .fail
  ) (
   .leaf (.inr ())
  ))

noncomputable def laws_markFloat32S_i1_l0_g (s0 : Unit) : Option (Unit) := whileM (fun s => (laws_markFloat32S_i1_l0_T s).run) s0
def laws_markFloat32S_i1_l0_E (v188 : Int) (s : Unit) : Sd := ([.nilslc, .int .i64 v188, .top, .top, .top, .int .i64 (0 : Int), .top, .top, .top, .top, .top, .top, .top, .top, .top, .top, .top, .top, .top, .top], [])
def laws_markFloat32S_i1_l0_X (v188 : Int) (x : Unit) : Out := (.normal, [.top, .int .i64 v188, .top, .top, .top, .top, .top, .top, .top, .top, .top, .top, .top, .top, .top, .top, .top, .top, .top, .top], [])
def laws_markFloat32S_i1_l0_kill : List Nat := [0, 0, 1, 1, 1, 0, 1, 1, 1, 1, 1, 1, 1, 1, 1, 1, 1, 1, 1, 1]
def laws_markFloat32S_i1_l0_nx : Exit → List Nat
  | .exit 0 => [1, 0, 1, 1, 1, 1, 1, 1, 1, 1, 1, 1, 1, 1, 1, 1, 1, 1, 1, 1]
  | .ret => [1, 1, 1, 1, 0, 1, 1, 1, 1, 1, 1, 1, 1, 1, 1, 1, 1, 1, 1, 1]
  | _ => []
noncomputable def laws_markFloat32S_i1_LO (v188 : Int) : LOr := fun id e L =>
  match id with
  | 0 => .need (normA 0 laws_markFloat32S_i1_l0_kill e L = some (laws_markFloat32S_i1_l0_E v188 ())) (.call (laws_markFloat32S_i1_l0_g ()) fun x => .leaf (laws_markFloat32S_i1_l0_X v188 x))
  | _ => .fail
noncomputable def laws_markFloat32S_i1_tab : List (FuncId × DFn × Bool) := []
theorem laws_markFloat32S_i1_hO : OrcOk Try.prog (tabD laws_markFloat32S_i1_tab) (tabM laws_markFloat32S_i1_tab) := tabD_nil _
theorem laws_markFloat32S_i1_l0_be (v188 : Int) (s : Unit) : bodyT TT (tabD laws_markFloat32S_i1_tab) (tabM laws_markFloat32S_i1_tab) (laws_markFloat32S_i1_LO v188) 0 laws_markFloat32S_i1_l0_kill laws_markFloat32S_i1_l0_nx (bodyOf Try.f33 0) 0 (laws_markFloat32S_i1_l0_E v188 s) = (laws_markFloat32S_i1_l0_T s).bind fun y => .leaf (outS (laws_markFloat32S_i1_l0_E v188) (laws_markFloat32S_i1_l0_X v188) y) := by kernel_rfl
theorem laws_markFloat32S_i1_l0_ok (v188 : Int) : LSound Try.prog 0 (laws_markFloat32S_i1_LO v188) 0 (bodyOf Try.f33 0) := by
  intro e L out h
  exact lo_ok (E := laws_markFloat32S_i1_l0_E v188) (gT := laws_markFloat32S_i1_l0_T) (X := laws_markFloat32S_i1_l0_X v188) (s0 := ()) tok laws_markFloat32S_i1_hO mixed (LoopsOk_eq (l := []) (by kernel_rfl) trivial) (laws_markFloat32S_i1_l0_be v188) rfl (by intro x; rfl) h
noncomputable def laws_markFloat32S_i1_T (v188 : Int) : Tree (Int) :=
  (.need (some (laws_markFloat32S_i1_l0_E v188 ()) = some (laws_markFloat32S_i1_l0_E v188 ())) <|
  (.call (laws_markFloat32S_i1_l0_g ()) fun v191 =>
  .leaf v188))

noncomputable def laws_markFloat32S_i1_g (v188 : Int) : Option (Int) := (laws_markFloat32S_i1_T v188).run
def laws_markFloat32S_i1_enc (v188 : Int) (y : Int) : Rs := (.int .i64 y, [])
theorem laws_markFloat32S_i1_den (v188 : Int) : (den TT (tabD laws_markFloat32S_i1_tab) (tabM laws_markFloat32S_i1_tab) (laws_markFloat32S_i1_LO v188) (codeOf Try.f33) ([.nilslc, .int .i64 v188] ++ List.replicate (Try.f33.ntmps - ([.nilslc, .int .i64 v188] : List DV).length) .undef) []).bind (retD TT Try.f33.results.toList 0) = (laws_markFloat32S_i1_T v188).bind fun y => .leaf (laws_markFloat32S_i1_enc v188 y) := by kernel_rfl
theorem laws_markFloat32S_i1_fn (v188 : Int) (F : Fr) (hm : F.ids.length = 0) (h0 : St F [] F.H0) (hA : DVs.Ok F [] [.nilslc, .int .i64 v188]) {y : Int} (hy : laws_markFloat32S_i1_g v188 = some y) : ∃ H', FnOk Try.prog 33 (DVs.av F [.nilslc, .int .i64 v188]) F.H0 ((laws_markFloat32S_i1_enc v188 y).1.av F) H' ∧ St F (laws_markFloat32S_i1_enc v188 y).2 H' ∧ (laws_markFloat32S_i1_enc v188 y).1.Ok F (laws_markFloat32S_i1_enc v188 y).2 :=
  fn_fin tok laws_markFloat32S_i1_hO mixed Try.func33 Try.call33 (by kernel_rfl) (LoopsOk_eq (l := [(0, bodyOf Try.f33 0)]) (by kernel_rfl) ⟨laws_markFloat32S_i1_l0_ok v188, trivial⟩) (laws_markFloat32S_i1_den v188) hy hm h0 hA
noncomputable def laws_markFloat32S_i1_F : DFn := fun args L =>
  match args with
  | [.nilslc, .int .i64 v188] =>
    .call (laws_markFloat32S_i1_g v188) fun y => .leaf (.int .i64 y, L)
  | _ => .fail
theorem laws_markFloat32S_i1_Fok : COk Try.prog 33 laws_markFloat32S_i1_F true := by
  intro F L H args r L' hs ha hr
  unfold laws_markFloat32S_i1_F at hr
  split at hr
  · rename_i v188
    simp only [Tree.run] at hr
    obtain ⟨y, hy, hr⟩ := Option.bind_eq_some_iff.1 hr
    simp only [Tree.run, Option.some.injEq, Prod.mk.injEq] at hr
    obtain ⟨rfl, rfl⟩ := hr
    exact call_ok0 hs (fun k => (([] : List AV)[k]?).getD .top) [.nilslc, .int .i64 v188] [.nilslc, .int .i64 v188] (fun F' h0 hi hρ => ⟨by simp [DVs.av, DV.av, BR.av, hρ], laws_markFloat32S_i1_fn v188 F' (by rw [hi]; rfl) (st_nil hi) ⟨trivial, trivial, trivial⟩ hy⟩) rfl
  · cases hr
/-! laws.heldFloat32S -/
noncomputable def laws_heldFloat32S_l0_T (v193 : List Nat) (s : Int × Int) : Tree ((Int × Int) ⊕ ((Unit) ⊕ (Int))) :=
  (.br (decide (s.2 < ((v193.length : Nat) : Int))) (
   (.grd (inb s.2 v193.length) <|
   (.br (!feq .f32 (nth v193 (Int.toNat s.2)) (fofint .f32 s.1)) (
    .leaf (.inr (.inl ()))
   ) (
    .leaf (.inl (IntKind.i64.wrap (s.1 + (1 : Int)), IntKind.i64.wrap (s.2 + (1 : Int))))
   )))
  ) (
   .leaf (.inr (.inr s.1))
  ))

noncomputable def laws_heldFloat32S_l0_g (v193 : List Nat) (s0 : Int × Int) : Option ((Unit) ⊕ (Int)) := whileM (fun s => (laws_heldFloat32S_l0_T v193 s).run) s0
def laws_heldFloat32S_l0_E (v193 : List Nat) (v194 : Int) (s : Int × Int) : Sd := ([.bslc (BR.root 0) (.f32 v193), .int .i64 s.1, .top, .top, .top, .int .i64 s.2, .top, .top, .top, .top, .top, .top, .top, .top, .top, .top, .top, .top, .top, .top, .top, .top], [])
def laws_heldFloat32S_l0_X (v193 : List Nat) (v194 : Int) (x : (Unit) ⊕ (Int)) : Out := (match x with | .inl x => (.ret, [.top, .top, .top, .top, .int .i64 (-1 : Int), .top, .top, .top, .top, .top, .top, .top, .top, .top, .top, .top, .top, .top, .top, .top, .top, .top], []) | .inr x => (.normal, [.top, .int .i64 x, .top, .top, .top, .top, .top, .top, .top, .top, .top, .top, .top, .top, .top, .top, .top, .top, .top, .top, .top, .top], []))
def laws_heldFloat32S_l0_kill : List Nat := [0, 0, 1, 1, 1, 0, 1, 1, 1, 1, 1, 1, 1, 1, 1, 1, 1, 1, 1, 1, 1, 1]
def laws_heldFloat32S_l0_nx : Exit → List Nat
  | .exit 0 => [1, 0, 1, 1, 1, 1, 1, 1, 1, 1, 1, 1, 1, 1, 1, 1, 1, 1, 1, 1, 1, 1]
  | .ret => [1, 1, 1, 1, 0, 1, 1, 1, 1, 1, 1, 1, 1, 1, 1, 1, 1, 1, 1, 1, 1, 1]
  | _ => []
noncomputable def laws_heldFloat32S_LO (v193 : List Nat) (v194 : Int) : LOr := fun id e L =>
  match id with
  | 0 => .need (normA 0 laws_heldFloat32S_l0_kill e L = some (laws_heldFloat32S_l0_E v193 v194 ((gI (vAt e 1)), (gI (vAt e 5))))) (.call (laws_heldFloat32S_l0_g v193 ((gI (vAt e 1)), (gI (vAt e 5)))) fun x => .sum x (fun b0 => .leaf (laws_heldFloat32S_l0_X v193 v194 (.inl b0))) (fun c0 => .leaf (laws_heldFloat32S_l0_X v193 v194 (.inr c0))))
  | _ => .fail
noncomputable def laws_heldFloat32S_tab : List (FuncId × DFn × Bool) := []
theorem laws_heldFloat32S_hO : OrcOk Try.prog (tabD laws_heldFloat32S_tab) (tabM laws_heldFloat32S_tab) := tabD_nil _
theorem laws_heldFloat32S_l0_be (v193 : List Nat) (v194 : Int) (s : Int × Int) : bodyT TT (tabD laws_heldFloat32S_tab) (tabM laws_heldFloat32S_tab) (laws_heldFloat32S_LO v193 v194) 0 laws_heldFloat32S_l0_kill laws_heldFloat32S_l0_nx (bodyOf Try.f38 0) 0 (laws_heldFloat32S_l0_E v193 v194 s) = (laws_heldFloat32S_l0_T v193 s).bind fun y => .leaf (outS (laws_heldFloat32S_l0_E v193 v194) (laws_heldFloat32S_l0_X v193 v194) y) := by kernel_rfl
theorem laws_heldFloat32S_l0_ok (v193 : List Nat) (v194 : Int) : LSound Try.prog 0 (laws_heldFloat32S_LO v193 v194) 0 (bodyOf Try.f38 0) := by
  intro e L out h
  exact lo_ok (E := laws_heldFloat32S_l0_E v193 v194) (gT := laws_heldFloat32S_l0_T v193) (X := laws_heldFloat32S_l0_X v193 v194) (s0 := ((gI (vAt e 1)), (gI (vAt e 5)))) tok laws_heldFloat32S_hO mixed (LoopsOk_eq (l := []) (by kernel_rfl) trivial) (laws_heldFloat32S_l0_be v193 v194) rfl (by intro x; (cases x with | inl b => rfl | inr x => exact rfl)) h
noncomputable def laws_heldFloat32S_T (v193 : List Nat) (v194 : Int) : Tree (Int) :=
  (.need (some (laws_heldFloat32S_l0_E v193 v194 (v194, (0 : Int))) = some (laws_heldFloat32S_l0_E v193 v194 (v194, (0 : Int)))) <|
  (.call (laws_heldFloat32S_l0_g v193 (v194, (0 : Int))) fun v201 =>
  (.sum v201 (fun v202 =>
   .leaf (-1 : Int)
  ) (fun v203 =>
   .leaf v203
  ))))

noncomputable def laws_heldFloat32S_g (v193 : List Nat) (v194 : Int) : Option (Int) := (laws_heldFloat32S_T v193 v194).run
def laws_heldFloat32S_enc (v193 : List Nat) (v194 : Int) (y : Int) : Rs := (.int .i64 y, [])
theorem laws_heldFloat32S_den (v193 : List Nat) (v194 : Int) : (den TT (tabD laws_heldFloat32S_tab) (tabM laws_heldFloat32S_tab) (laws_heldFloat32S_LO v193 v194) (codeOf Try.f38) ([.bslc (BR.root 0) (.f32 v193), .int .i64 v194] ++ List.replicate (Try.f38.ntmps - ([.bslc (BR.root 0) (.f32 v193), .int .i64 v194] : List DV).length) .undef) []).bind (retD TT Try.f38.results.toList 0) = (laws_heldFloat32S_T v193 v194).bind fun y => .leaf (laws_heldFloat32S_enc v193 v194 y) := by kernel_rfl
theorem laws_heldFloat32S_fn (v193 : List Nat) (v194 : Int) (F : Fr) (hm : F.ids.length = 0) (h0 : St F [] F.H0) (hA : DVs.Ok F [] [.bslc (BR.root 0) (.f32 v193), .int .i64 v194]) {y : Int} (hy : laws_heldFloat32S_g v193 v194 = some y) : ∃ H', FnOk Try.prog 38 (DVs.av F [.bslc (BR.root 0) (.f32 v193), .int .i64 v194]) F.H0 ((laws_heldFloat32S_enc v193 v194 y).1.av F) H' ∧ St F (laws_heldFloat32S_enc v193 v194 y).2 H' ∧ (laws_heldFloat32S_enc v193 v194 y).1.Ok F (laws_heldFloat32S_enc v193 v194 y).2 :=
  fn_fin tok laws_heldFloat32S_hO mixed Try.func38 Try.call38 (by kernel_rfl) (LoopsOk_eq (l := [(0, bodyOf Try.f38 0)]) (by kernel_rfl) ⟨laws_heldFloat32S_l0_ok v193 v194, trivial⟩) (laws_heldFloat32S_den v193 v194) hy hm h0 hA
noncomputable def laws_heldFloat32S_F : DFn := fun args L =>
  match args with
  | [a1, .int .i64 v194] =>
    optT (rowF32 L a1) fun v193 =>
    .call (laws_heldFloat32S_g v193 v194) fun y => .leaf (.int .i64 y, L)
  | _ => .fail
theorem laws_heldFloat32S_Fok : COk Try.prog 38 laws_heldFloat32S_F true := by
  intro F L H args r L' hs ha hr
  unfold laws_heldFloat32S_F at hr
  split at hr
  · rename_i a1 v194
    obtain ⟨v193, hv193, hr⟩ := optT_run hr
    simp only [Tree.run] at hr
    obtain ⟨y, hy, hr⟩ := Option.bind_eq_some_iff.1 hr
    simp only [Tree.run, Option.some.injEq, Prod.mk.injEq] at hr
    obtain ⟨rfl, rfl⟩ := hr
    exact call_ok0 hs (fun k => (([a1.av F] : List AV)[k]?).getD .top) [a1, .int .i64 v194] [.bslc (BR.root 0) (.f32 v193), .int .i64 v194] (fun F' h0 hi hρ => ⟨by simp [DVs.av, DV.av, BR.av, hρ], laws_heldFloat32S_fn v193 v194 F' (by rw [hi]; rfl) (st_nil hi) ⟨bslc_ok hi (by rw [h0, hρ]; exact rowF32_ok hs (DVs.okAt ha 0 rfl) hv193), trivial, trivial⟩ hy⟩) rfl
  · cases hr
/-! laws.FnExactThirdsTimes -/
noncomputable def laws_FnExactThirdsTimes_LO (v1 : List Nat) (v2 : List Nat) (v3 : List Nat) (v4 : List Nat) : LOr := fun id e L =>
  match id with
  | _ => .fail
noncomputable def laws_FnExactThirdsTimes_tab : List (FuncId × DFn × Bool) := [(41, laws_szThirds_F, true), (43, laws_toThirds_F, true), (29, laws_toFloat32S_F, true), (42, spec_ThirdsTimes_F, true), (44, impl_ThirdsTimes_F, true), (32, laws_eqFloat32S_F, true), (45, laws_eqThirds_F, true), (46, laws_markThirds_F, false), (33, (orD (fun args => match args with | [.nilslc, _] => true | _ => false) laws_markFloat32S_i1_F laws_markFloat32S_F), false), (38, laws_heldFloat32S_F, true)]
theorem laws_FnExactThirdsTimes_hO : OrcOk Try.prog (tabD laws_FnExactThirdsTimes_tab) (tabM laws_FnExactThirdsTimes_tab) := tabD_cons laws_szThirds_Fok (tabD_cons laws_toThirds_Fok (tabD_cons laws_toFloat32S_Fok (tabD_cons spec_ThirdsTimes_Fok (tabD_cons impl_ThirdsTimes_Fok (tabD_cons laws_eqFloat32S_Fok (tabD_cons laws_eqThirds_Fok (tabD_cons laws_markThirds_Fok (tabD_cons (orD_ok (COk.weak laws_markFloat32S_i1_Fok) laws_markFloat32S_Fok) (tabD_cons laws_heldFloat32S_Fok (tabD_nil _))))))))))
noncomputable def laws_FnExactThirdsTimes_T (v1 : List Nat) (v2 : List Nat) (v3 : List Nat) (v4 : List Nat) : Tree (Bool) :=
  (.br (decide ((1048576 : Int) < ((v4.length : Nat) : Int))) (
   .leaf true
  ) (
   (.br (decide ((laws_szThirds_v v1 v2 v3 (1048576 : Int)) < (0 : Int))) (
    .leaf true
   ) (
    (.call (laws_toThirds_g v1 v2 v3) fun v24 =>
    (.call (laws_toFloat32S_g v4) fun v25 =>
    (.call (spec_ThirdsTimes_g v24.1 v24.2.1 v24.2.2 v25) fun v62 =>
    (.sum v62 (fun v63 =>
     (.call (laws_toThirds_g v1 v2 v3) fun v65 =>
     (.call (laws_toFloat32S_g v4) fun v66 =>
     (.call (impl_ThirdsTimes_g v65.1 v65.2.1 v65.2.2 v66) fun v121 =>
     (.sum v121 (fun v122 =>
      (.call (laws_eqFloat32S_g ([] : List Nat) ([] : List Nat)) fun v134 =>
      (.br (!v134) (
       .leaf false
      ) (
       (.br (!(false == false)) (
        .leaf false
       ) (
        (.call (laws_toThirds_g v1 v2 v3) fun v135 =>
        (.call (laws_eqThirds_g v65.1 v65.2.1 v65.2.2 v135.1 v135.2.1 v135.2.2) fun v145 =>
        (.br (!v145) (
         .leaf false
        ) (
         (.call (laws_toFloat32S_g v4) fun v146 =>
         (.call (laws_eqFloat32S_g v66 v146) fun v147 =>
         (.br (!v147) (
          .leaf false
         ) (
          (.call (laws_markThirds_g v65.1 v65.2.1 v65.2.2 (1 : Int)) fun v185 =>
          (.grd (decide (v185.2.1.length = v65.1.length)) <|
          (.grd (decide (v185.2.2.1.length = v65.2.1.length)) <|
          (.grd (decide (v185.2.2.2.length = v65.2.2.length)) <|
          (.call (laws_markFloat32S_g v66 v185.1) fun v186 =>
          (.grd (decide (v186.2.length = v66.length)) <|
          (.br (decide (v186.1 < (0 : Int))) (
           .leaf false
          ) (
           (.call (laws_eqFloat32S_g ([] : List Nat) ([] : List Nat)) fun v187 =>
           (.br (!v187) (
            .leaf false
           ) (
            (.br (!(false == false)) (
             .leaf false
            ) (
             (.call (laws_markFloat32S_i1_g (1 : Int)) fun v192 =>
             (.call (laws_heldFloat32S_g ([] : List Nat) (1 : Int)) fun v204 =>
             (.br (decide (v204 < (0 : Int))) (
              .leaf false
             ) (
              (.br (!decide (v204 = v192)) (
               .leaf false
              ) (
               (.call (laws_toThirds_g v1 v2 v3) fun v205 =>
               (.call (laws_toFloat32S_g v4) fun v206 =>
               (.call (impl_ThirdsTimes_g v205.1 v205.2.1 v205.2.2 v206) fun v207 =>
               (.sum v207 (fun v208 =>
                (.call (laws_eqFloat32S_g ([] : List Nat) ([] : List Nat)) fun v210 =>
                (.br (!v210) (
                 .leaf false
                ) (
                 (.br (!(false == false)) (
                  .leaf false
                 ) (
                  (.call (laws_heldFloat32S_g ([] : List Nat) (1 : Int)) fun v211 =>
                  (.br (decide (v211 < (0 : Int))) (
                   .leaf false
                  ) (
                   (.br (!decide (v211 = v192)) (
                    .leaf false
                   ) (
                    .leaf true
                   ))
                  )))
                 ))
                )))
               ) (fun v209 =>
                (.call (laws_eqFloat32S_g v209 ([] : List Nat)) fun v212 =>
                (.br (!v212) (
                 .leaf false
                ) (
                 (.br (!(true == false)) (
                  .leaf false
                 ) (
                  (.call (laws_heldFloat32S_g ([] : List Nat) (1 : Int)) fun v213 =>
                  (.br (decide (v213 < (0 : Int))) (
                   .leaf false
                  ) (
                   (.br (!decide (v213 = v192)) (
                    .leaf false
                   ) (
                    .leaf true
                   ))
                  )))
                 ))
                )))
               )))))
              ))
             ))))
            ))
           )))
          ))))))))
         ))))
        ))))
       ))
      )))
     ) (fun v123 =>
      (.call (laws_eqFloat32S_g v123 ([] : List Nat)) fun v214 =>
      (.br (!v214) (
       .leaf false
      ) (
       (.br (!(true == false)) (
        .leaf false
       ) (
        (.call (laws_toThirds_g v1 v2 v3) fun v215 =>
        (.call (laws_eqThirds_g v65.1 v65.2.1 v65.2.2 v215.1 v215.2.1 v215.2.2) fun v216 =>
        (.br (!v216) (
         .leaf false
        ) (
         (.call (laws_toFloat32S_g v4) fun v217 =>
         (.call (laws_eqFloat32S_g v66 v217) fun v218 =>
         (.br (!v218) (
          .leaf false
         ) (
          (.call (laws_markThirds_g v65.1 v65.2.1 v65.2.2 (1 : Int)) fun v219 =>
          (.grd (decide (v219.2.1.length = v65.1.length)) <|
          (.grd (decide (v219.2.2.1.length = v65.2.1.length)) <|
          (.grd (decide (v219.2.2.2.length = v65.2.2.length)) <|
          (.call (laws_markFloat32S_g v66 v219.1) fun v220 =>
          (.grd (decide (v220.2.length = v66.length)) <|
          (.br (decide (v220.1 < (0 : Int))) (
           .leaf false
          ) (
           (.call (laws_eqFloat32S_g v123 ([] : List Nat)) fun v221 =>
           (.br (!v221) (
            .leaf false
           ) (
            (.br (!(true == false)) (
             .leaf false
            ) (
             (.call (laws_markFloat32S_g v123 (1 : Int)) fun v222 =>
             (.grd (decide (v222.2.length = v123.length)) <|
             (.call (laws_heldFloat32S_g v222.2 (1 : Int)) fun v223 =>
             (.br (decide (v223 < (0 : Int))) (
              .leaf false
             ) (
              (.br (!decide (v223 = v222.1)) (
               .leaf false
              ) (
               (.call (laws_toThirds_g v1 v2 v3) fun v224 =>
               (.call (laws_toFloat32S_g v4) fun v225 =>
               (.call (impl_ThirdsTimes_g v224.1 v224.2.1 v224.2.2 v225) fun v226 =>
               (.sum v226 (fun v227 =>
                (.call (laws_eqFloat32S_g ([] : List Nat) ([] : List Nat)) fun v229 =>
                (.br (!v229) (
                 .leaf false
                ) (
                 (.br (!(false == false)) (
                  .leaf false
                 ) (
                  (.call (laws_heldFloat32S_g v222.2 (1 : Int)) fun v230 =>
                  (.br (decide (v230 < (0 : Int))) (
                   .leaf false
                  ) (
                   (.br (!decide (v230 = v222.1)) (
                    .leaf false
                   ) (
                    .leaf true
                   ))
                  )))
                 ))
                )))
               ) (fun v228 =>
                (.call (laws_eqFloat32S_g v228 ([] : List Nat)) fun v231 =>
                (.br (!v231) (
                 .leaf false
                ) (
                 (.br (!(true == false)) (
                  .leaf false
                 ) (
                  (.call (laws_heldFloat32S_g v222.2 (1 : Int)) fun v232 =>
                  (.br (decide (v232 < (0 : Int))) (
                   .leaf false
                  ) (
                   (.br (!decide (v232 = v222.1)) (
                    .leaf false
                   ) (
                    .leaf true
                   ))
                  )))
                 ))
                )))
               )))))
              ))
             )))))
            ))
           )))
          ))))))))
         ))))
        ))))
       ))
      )))
     )))))
    ) (fun v64 =>
     (.call (laws_toThirds_g v1 v2 v3) fun v233 =>
     (.call (laws_toFloat32S_g v4) fun v234 =>
     (.call (impl_ThirdsTimes_g v233.1 v233.2.1 v233.2.2 v234) fun v235 =>
     (.sum v235 (fun v236 =>
      (.call (laws_eqFloat32S_g ([] : List Nat) v64) fun v238 =>
      (.br (!v238) (
       .leaf false
      ) (
       (.br (!(false == true)) (
        .leaf false
       ) (
        (.call (laws_toThirds_g v1 v2 v3) fun v239 =>
        (.call (laws_eqThirds_g v233.1 v233.2.1 v233.2.2 v239.1 v239.2.1 v239.2.2) fun v240 =>
        (.br (!v240) (
         .leaf false
        ) (
         (.call (laws_toFloat32S_g v4) fun v241 =>
         (.call (laws_eqFloat32S_g v234 v241) fun v242 =>
         (.br (!v242) (
          .leaf false
         ) (
          (.call (laws_markThirds_g v233.1 v233.2.1 v233.2.2 (1 : Int)) fun v243 =>
          (.grd (decide (v243.2.1.length = v233.1.length)) <|
          (.grd (decide (v243.2.2.1.length = v233.2.1.length)) <|
          (.grd (decide (v243.2.2.2.length = v233.2.2.length)) <|
          (.call (laws_markFloat32S_g v234 v243.1) fun v244 =>
          (.grd (decide (v244.2.length = v234.length)) <|
          (.br (decide (v244.1 < (0 : Int))) (
           .leaf false
          ) (
           (.call (laws_eqFloat32S_g ([] : List Nat) v64) fun v245 =>
           (.br (!v245) (
            .leaf false
           ) (
            (.br (!(false == true)) (
             .leaf false
            ) (
             (.call (laws_markFloat32S_i1_g (1 : Int)) fun v246 =>
             (.call (laws_heldFloat32S_g ([] : List Nat) (1 : Int)) fun v247 =>
             (.br (decide (v247 < (0 : Int))) (
              .leaf false
             ) (
              (.br (!decide (v247 = v246)) (
               .leaf false
              ) (
               (.call (laws_toThirds_g v1 v2 v3) fun v248 =>
               (.call (laws_toFloat32S_g v4) fun v249 =>
               (.call (impl_ThirdsTimes_g v248.1 v248.2.1 v248.2.2 v249) fun v250 =>
               (.sum v250 (fun v251 =>
                (.call (laws_eqFloat32S_g ([] : List Nat) v64) fun v253 =>
                (.br (!v253) (
                 .leaf false
                ) (
                 (.br (!(false == true)) (
                  .leaf false
                 ) (
                  (.call (laws_heldFloat32S_g ([] : List Nat) (1 : Int)) fun v254 =>
                  (.br (decide (v254 < (0 : Int))) (
                   .leaf false
                  ) (
                   (.br (!decide (v254 = v246)) (
                    .leaf false
                   ) (
                    .leaf true
                   ))
                  )))
                 ))
                )))
               ) (fun v252 =>
                (.call (laws_eqFloat32S_g v252 v64) fun v255 =>
                (.br (!v255) (
                 .leaf false
                ) (
                 (.br (!(true == true)) (
                  .leaf false
                 ) (
                  (.call (laws_heldFloat32S_g ([] : List Nat) (1 : Int)) fun v256 =>
                  (.br (decide (v256 < (0 : Int))) (
                   .leaf false
                  ) (
                   (.br (!decide (v256 = v246)) (
                    .leaf false
                   ) (
                    .leaf true
                   ))
                  )))
                 ))
                )))
               )))))
              ))
             ))))
            ))
           )))
          ))))))))
         ))))
        ))))
       ))
      )))
     ) (fun v237 =>
      (.call (laws_eqFloat32S_g v237 v64) fun v257 =>
      (.br (!v257) (
       .leaf false
      ) (
       (.br (!(true == true)) (
        .leaf false
       ) (
        (.call (laws_toThirds_g v1 v2 v3) fun v258 =>
        (.call (laws_eqThirds_g v233.1 v233.2.1 v233.2.2 v258.1 v258.2.1 v258.2.2) fun v259 =>
        (.br (!v259) (
         .leaf false
        ) (
         (.call (laws_toFloat32S_g v4) fun v260 =>
         (.call (laws_eqFloat32S_g v234 v260) fun v261 =>
         (.br (!v261) (
          .leaf false
         ) (
          (.call (laws_markThirds_g v233.1 v233.2.1 v233.2.2 (1 : Int)) fun v262 =>
          (.grd (decide (v262.2.1.length = v233.1.length)) <|
          (.grd (decide (v262.2.2.1.length = v233.2.1.length)) <|
          (.grd (decide (v262.2.2.2.length = v233.2.2.length)) <|
          (.call (laws_markFloat32S_g v234 v262.1) fun v263 =>
          (.grd (decide (v263.2.length = v234.length)) <|
          (.br (decide (v263.1 < (0 : Int))) (
           .leaf false
          ) (
           (.call (laws_eqFloat32S_g v237 v64) fun v264 =>
           (.br (!v264) (
            .leaf false
           ) (
            (.br (!(true == true)) (
             .leaf false
            ) (
             (.call (laws_markFloat32S_g v237 (1 : Int)) fun v265 =>
             (.grd (decide (v265.2.length = v237.length)) <|
             (.call (laws_heldFloat32S_g v265.2 (1 : Int)) fun v266 =>
             (.br (decide (v266 < (0 : Int))) (
              .leaf false
             ) (
              (.br (!decide (v266 = v265.1)) (
               .leaf false
              ) (
               (.call (laws_toThirds_g v1 v2 v3) fun v267 =>
               (.call (laws_toFloat32S_g v4) fun v268 =>
               (.call (impl_ThirdsTimes_g v267.1 v267.2.1 v267.2.2 v268) fun v269 =>
               (.sum v269 (fun v270 =>
                (.call (laws_eqFloat32S_g ([] : List Nat) v64) fun v272 =>
                (.br (!v272) (
                 .leaf false
                ) (
                 (.br (!(false == true)) (
                  .leaf false
                 ) (
                  (.call (laws_heldFloat32S_g v265.2 (1 : Int)) fun v273 =>
                  (.br (decide (v273 < (0 : Int))) (
                   .leaf false
                  ) (
                   (.br (!decide (v273 = v265.1)) (
                    .leaf false
                   ) (
                    .leaf true
                   ))
                  )))
                 ))
                )))
               ) (fun v271 =>
                (.call (laws_eqFloat32S_g v271 v64) fun v274 =>
                (.br (!v274) (
                 .leaf false
                ) (
                 (.br (!(true == true)) (
                  .leaf false
                 ) (
                  (.call (laws_heldFloat32S_g v265.2 (1 : Int)) fun v275 =>
                  (.br (decide (v275 < (0 : Int))) (
                   .leaf false
                  ) (
                   (.br (!decide (v275 = v265.1)) (
                    .leaf false
                   ) (
                    .leaf true
                   ))
                  )))
                 ))
                )))
               )))))
              ))
             )))))
            ))
           )))
          ))))))))
         ))))
        ))))
       ))
      )))
     )))))
    )))))
   ))
  ))

noncomputable def laws_FnExactThirdsTimes_g (v1 : List Nat) (v2 : List Nat) (v3 : List Nat) (v4 : List Nat) : Option (Bool) := (laws_FnExactThirdsTimes_T v1 v2 v3 v4).run
def laws_FnExactThirdsTimes_enc (v1 : List Nat) (v2 : List Nat) (v3 : List Nat) (v4 : List Nat) (y : Bool) : Rs := (.bool y, [])
theorem laws_FnExactThirdsTimes_den (v1 : List Nat) (v2 : List Nat) (v3 : List Nat) (v4 : List Nat) : (den TT (tabD laws_FnExactThirdsTimes_tab) (tabM laws_FnExactThirdsTimes_tab) (laws_FnExactThirdsTimes_LO v1 v2 v3 v4) (codeOf Try.f8) ([.agg [.bslc (BR.root 0) (.f32 v1), .bslc (BR.root 1) (.f32 v2), .bslc (BR.root 2) (.f32 v3)], .bslc (BR.root 3) (.f32 v4)] ++ List.replicate (Try.f8.ntmps - ([.agg [.bslc (BR.root 0) (.f32 v1), .bslc (BR.root 1) (.f32 v2), .bslc (BR.root 2) (.f32 v3)], .bslc (BR.root 3) (.f32 v4)] : List DV).length) .undef) []).bind (retD TT Try.f8.results.toList 0) = (laws_FnExactThirdsTimes_T v1 v2 v3 v4).bind fun y => .leaf (laws_FnExactThirdsTimes_enc v1 v2 v3 v4 y) := by kernel_rfl
theorem laws_FnExactThirdsTimes_fn (v1 : List Nat) (v2 : List Nat) (v3 : List Nat) (v4 : List Nat) (F : Fr) (hm : F.ids.length = 0) (h0 : St F [] F.H0) (hA : DVs.Ok F [] [.agg [.bslc (BR.root 0) (.f32 v1), .bslc (BR.root 1) (.f32 v2), .bslc (BR.root 2) (.f32 v3)], .bslc (BR.root 3) (.f32 v4)]) {y : Bool} (hy : laws_FnExactThirdsTimes_g v1 v2 v3 v4 = some y) : ∃ H', FnOk Try.prog 8 (DVs.av F [.agg [.bslc (BR.root 0) (.f32 v1), .bslc (BR.root 1) (.f32 v2), .bslc (BR.root 2) (.f32 v3)], .bslc (BR.root 3) (.f32 v4)]) F.H0 ((laws_FnExactThirdsTimes_enc v1 v2 v3 v4 y).1.av F) H' ∧ St F (laws_FnExactThirdsTimes_enc v1 v2 v3 v4 y).2 H' ∧ (laws_FnExactThirdsTimes_enc v1 v2 v3 v4 y).1.Ok F (laws_FnExactThirdsTimes_enc v1 v2 v3 v4 y).2 :=
  fn_fin tok laws_FnExactThirdsTimes_hO mixed Try.func8 Try.call8 (by kernel_rfl) (LoopsOk_eq (l := []) (by kernel_rfl) trivial) (laws_FnExactThirdsTimes_den v1 v2 v3 v4) hy hm h0 hA
noncomputable def laws_FnExactThirdsTimes_F : DFn := fun args L =>
  match args with
  | [.agg [a1, a2, a3], a4] =>
    optT (rowF32 L a1) fun v1 =>
    optT (rowF32 L a2) fun v2 =>
    optT (rowF32 L a3) fun v3 =>
    optT (rowF32 L a4) fun v4 =>
    .call (laws_FnExactThirdsTimes_g v1 v2 v3 v4) fun y => .leaf (.bool y, L)
  | _ => .fail
theorem laws_FnExactThirdsTimes_Fok : COk Try.prog 8 laws_FnExactThirdsTimes_F true := by
  intro F L H args r L' hs ha hr
  unfold laws_FnExactThirdsTimes_F at hr
  split at hr
  · rename_i a1 a2 a3 a4
    obtain ⟨v1, hv1, hr⟩ := optT_run hr
    obtain ⟨v2, hv2, hr⟩ := optT_run hr
    obtain ⟨v3, hv3, hr⟩ := optT_run hr
    obtain ⟨v4, hv4, hr⟩ := optT_run hr
    simp only [Tree.run] at hr
    obtain ⟨y, hy, hr⟩ := Option.bind_eq_some_iff.1 hr
    simp only [Tree.run, Option.some.injEq, Prod.mk.injEq] at hr
    obtain ⟨rfl, rfl⟩ := hr
    exact call_ok0 hs (fun k => (([a1.av F, a2.av F, a3.av F, a4.av F] : List AV)[k]?).getD .top) [.agg [a1, a2, a3], a4] [.agg [.bslc (BR.root 0) (.f32 v1), .bslc (BR.root 1) (.f32 v2), .bslc (BR.root 2) (.f32 v3)], .bslc (BR.root 3) (.f32 v4)] (fun F' h0 hi hρ => ⟨by simp [DVs.av, DV.av, BR.av, hρ], laws_FnExactThirdsTimes_fn v1 v2 v3 v4 F' (by rw [hi]; rfl) (st_nil hi) ⟨⟨bslc_ok hi (by rw [h0, hρ]; exact rowF32_ok hs (DVs.okAt (DVs.okAt ha 0 rfl) 0 rfl) hv1), bslc_ok hi (by rw [h0, hρ]; exact rowF32_ok hs (DVs.okAt (DVs.okAt ha 0 rfl) 1 rfl) hv2), bslc_ok hi (by rw [h0, hρ]; exact rowF32_ok hs (DVs.okAt (DVs.okAt ha 0 rfl) 2 rfl) hv3), trivial⟩, bslc_ok hi (by rw [h0, hρ]; exact rowF32_ok hs (DVs.okAt ha 1 rfl) hv4), trivial⟩ hy⟩) rfl
  · cases hr
/-! laws.szFloat32S -/
noncomputable def laws_szFloat32S_len_LO (v284 : Nat) (v285 : Int) : LOr := fun id e L =>
  match id with
  | _ => .fail
noncomputable def laws_szFloat32S_len_tab : List (FuncId × DFn × Bool) := []
theorem laws_szFloat32S_len_hO : OrcOk Try.prog (tabD laws_szFloat32S_len_tab) (tabM laws_szFloat32S_len_tab) := tabD_nil _
noncomputable def laws_szFloat32S_len_T (v284 : Nat) (v285 : Int) : Tree (Int) :=
  (.br (decide (IntKind.i64.wrap (v285 - ((v284 : Nat) : Int)) < (0 : Int))) (
   .leaf (-1 : Int)
  ) (
   .leaf (IntKind.i64.wrap (v285 - ((v284 : Nat) : Int)))
  ))

noncomputable def laws_szFloat32S_len_g (v284 : Nat) (v285 : Int) : Option (Int) := (laws_szFloat32S_len_T v284 v285).run
def laws_szFloat32S_len_enc (v284 : Nat) (v285 : Int) (y : Int) : Rs := (.int .i64 y, [])
theorem laws_szFloat32S_len_den (v284 : Nat) (v285 : Int) : (den TT (tabD laws_szFloat32S_len_tab) (tabM laws_szFloat32S_len_tab) (laws_szFloat32S_len_LO v284 v285) (codeOf Try.f100) ([.hslc (BR.root 0) v284, .int .i64 v285] ++ List.replicate (Try.f100.ntmps - ([.hslc (BR.root 0) v284, .int .i64 v285] : List DV).length) .undef) []).bind (retD TT Try.f100.results.toList 0) = (laws_szFloat32S_len_T v284 v285).bind fun y => .leaf (laws_szFloat32S_len_enc v284 v285 y) := by kernel_rfl
theorem laws_szFloat32S_len_fn (v284 : Nat) (v285 : Int) (F : Fr) (hm : F.ids.length = 0) (h0 : St F [] F.H0) (hA : DVs.Ok F [] [.hslc (BR.root 0) v284, .int .i64 v285]) {y : Int} (hy : laws_szFloat32S_len_g v284 v285 = some y) : ∃ H', FnOk Try.prog 100 (DVs.av F [.hslc (BR.root 0) v284, .int .i64 v285]) F.H0 ((laws_szFloat32S_len_enc v284 v285 y).1.av F) H' ∧ St F (laws_szFloat32S_len_enc v284 v285 y).2 H' ∧ (laws_szFloat32S_len_enc v284 v285 y).1.Ok F (laws_szFloat32S_len_enc v284 v285 y).2 :=
  fn_fin tok laws_szFloat32S_len_hO mixed Try.func100 Try.call100 (by kernel_rfl) (LoopsOk_eq (l := []) (by kernel_rfl) trivial) (laws_szFloat32S_len_den v284 v285) hy hm h0 hA
def laws_szFloat32S_len_v (v284 : Nat) (v285 : Int) : Int :=
  if (decide (IntKind.i64.wrap (v285 - ((v284 : Nat) : Int)) < (0 : Int))) = true then (
   (-1 : Int)
  ) else (
   IntKind.i64.wrap (v285 - ((v284 : Nat) : Int))
  )
theorem laws_szFloat32S_len_tot (v284 : Nat) (v285 : Int) : laws_szFloat32S_len_g v284 v285 = some (laws_szFloat32S_len_v v284 v285) := by
  unfold laws_szFloat32S_len_g laws_szFloat32S_len_T laws_szFloat32S_len_v
  simp only [Tree.run]
  repeat' (first | rfl | split)
noncomputable def laws_szFloat32S_len_F : DFn := fun args L =>
  match args with
  | [a1, .int .i64 v285] =>
    optT (lenV L a1) fun v284 =>
    .leaf (.int .i64 (laws_szFloat32S_len_v v284 v285), L)
  | _ => .fail
theorem laws_szFloat32S_len_Fok : COk Try.prog 100 laws_szFloat32S_len_F true := by
  intro F L H args r L' hs ha hr
  unfold laws_szFloat32S_len_F at hr
  split at hr
  · rename_i a1 v285
    obtain ⟨v284, hv284, hr⟩ := optT_run hr
    have hy := laws_szFloat32S_len_tot v284 v285
    generalize laws_szFloat32S_len_v v284 v285 = y at hy hr
    simp only [Tree.run, Option.some.injEq, Prod.mk.injEq] at hr
    obtain ⟨rfl, rfl⟩ := hr
    exact call_ok0 hs (fun k => (([a1.av F] : List AV)[k]?).getD .top) [a1, .int .i64 v285] [.hslc (BR.root 0) v284, .int .i64 v285] (fun F' h0 hi hρ => ⟨by simp [DVs.av, DV.av, BR.av, hρ], laws_szFloat32S_len_fn v284 v285 F' (by rw [hi]; rfl) (st_nil hi) ⟨hslc_ok hi (by rw [h0, hρ]; exact lenV_ok hs (DVs.okAt ha 0 rfl) hv284), trivial, trivial⟩ hy⟩) rfl
  · cases hr
/-! laws.szThirds -/
noncomputable def laws_szThirds_len_LO (v280 : Nat) (v281 : Nat) (v282 : Nat) (v283 : Int) : LOr := fun id e L =>
  match id with
  | _ => .fail
noncomputable def laws_szThirds_len_tab : List (FuncId × DFn × Bool) := [(100, laws_szFloat32S_len_F, true)]
theorem laws_szThirds_len_hO : OrcOk Try.prog (tabD laws_szThirds_len_tab) (tabM laws_szThirds_len_tab) := tabD_cons laws_szFloat32S_len_Fok (tabD_nil _)
noncomputable def laws_szThirds_len_T (v280 : Nat) (v281 : Nat) (v282 : Nat) (v283 : Int) : Tree (Int) :=
  (.br (decide ((laws_szFloat32S_len_v v280 v283) < (0 : Int))) (
   .leaf (-1 : Int)
  ) (
   (.br (decide ((laws_szFloat32S_len_v v281 (laws_szFloat32S_len_v v280 v283)) < (0 : Int))) (
    .leaf (-1 : Int)
   ) (
    (.br (decide ((laws_szFloat32S_len_v v282 (laws_szFloat32S_len_v v281 (laws_szFloat32S_len_v v280 v283))) < (0 : Int))) (
     .leaf (-1 : Int)
    ) (
     .leaf (laws_szFloat32S_len_v v282 (laws_szFloat32S_len_v v281 (laws_szFloat32S_len_v v280 v283)))
    ))
   ))
  ))

noncomputable def laws_szThirds_len_g (v280 : Nat) (v281 : Nat) (v282 : Nat) (v283 : Int) : Option (Int) := (laws_szThirds_len_T v280 v281 v282 v283).run
def laws_szThirds_len_enc (v280 : Nat) (v281 : Nat) (v282 : Nat) (v283 : Int) (y : Int) : Rs := (.int .i64 y, [])
theorem laws_szThirds_len_den (v280 : Nat) (v281 : Nat) (v282 : Nat) (v283 : Int) : (den TT (tabD laws_szThirds_len_tab) (tabM laws_szThirds_len_tab) (laws_szThirds_len_LO v280 v281 v282 v283) (codeOf Try.f41) ([.agg [.hslc (BR.root 0) v280, .hslc (BR.root 1) v281, .hslc (BR.root 2) v282], .int .i64 v283] ++ List.replicate (Try.f41.ntmps - ([.agg [.hslc (BR.root 0) v280, .hslc (BR.root 1) v281, .hslc (BR.root 2) v282], .int .i64 v283] : List DV).length) .undef) []).bind (retD TT Try.f41.results.toList 0) = (laws_szThirds_len_T v280 v281 v282 v283).bind fun y => .leaf (laws_szThirds_len_enc v280 v281 v282 v283 y) := by kernel_rfl
theorem laws_szThirds_len_fn (v280 : Nat) (v281 : Nat) (v282 : Nat) (v283 : Int) (F : Fr) (hm : F.ids.length = 0) (h0 : St F [] F.H0) (hA : DVs.Ok F [] [.agg [.hslc (BR.root 0) v280, .hslc (BR.root 1) v281, .hslc (BR.root 2) v282], .int .i64 v283]) {y : Int} (hy : laws_szThirds_len_g v280 v281 v282 v283 = some y) : ∃ H', FnOk Try.prog 41 (DVs.av F [.agg [.hslc (BR.root 0) v280, .hslc (BR.root 1) v281, .hslc (BR.root 2) v282], .int .i64 v283]) F.H0 ((laws_szThirds_len_enc v280 v281 v282 v283 y).1.av F) H' ∧ St F (laws_szThirds_len_enc v280 v281 v282 v283 y).2 H' ∧ (laws_szThirds_len_enc v280 v281 v282 v283 y).1.Ok F (laws_szThirds_len_enc v280 v281 v282 v283 y).2 :=
  fn_fin tok laws_szThirds_len_hO mixed Try.func41 Try.call41 (by kernel_rfl) (LoopsOk_eq (l := []) (by kernel_rfl) trivial) (laws_szThirds_len_den v280 v281 v282 v283) hy hm h0 hA
def laws_szThirds_len_v (v280 : Nat) (v281 : Nat) (v282 : Nat) (v283 : Int) : Int :=
  if (decide ((laws_szFloat32S_len_v v280 v283) < (0 : Int))) = true then (
   (-1 : Int)
  ) else (
   if (decide ((laws_szFloat32S_len_v v281 (laws_szFloat32S_len_v v280 v283)) < (0 : Int))) = true then (
    (-1 : Int)
   ) else (
    if (decide ((laws_szFloat32S_len_v v282 (laws_szFloat32S_len_v v281 (laws_szFloat32S_len_v v280 v283))) < (0 : Int))) = true then (
     (-1 : Int)
    ) else (
     (laws_szFloat32S_len_v v282 (laws_szFloat32S_len_v v281 (laws_szFloat32S_len_v v280 v283)))
    )
   )
  )
theorem laws_szThirds_len_tot (v280 : Nat) (v281 : Nat) (v282 : Nat) (v283 : Int) : laws_szThirds_len_g v280 v281 v282 v283 = some (laws_szThirds_len_v v280 v281 v282 v283) := by
  unfold laws_szThirds_len_g laws_szThirds_len_T laws_szThirds_len_v
  simp only [Tree.run]
  repeat' (first | rfl | split)
noncomputable def laws_szThirds_len_F : DFn := fun args L =>
  match args with
  | [.agg [a1, a2, a3], .int .i64 v283] =>
    optT (lenV L a1) fun v280 =>
    optT (lenV L a2) fun v281 =>
    optT (lenV L a3) fun v282 =>
    .leaf (.int .i64 (laws_szThirds_len_v v280 v281 v282 v283), L)
  | _ => .fail
theorem laws_szThirds_len_Fok : COk Try.prog 41 laws_szThirds_len_F true := by
  intro F L H args r L' hs ha hr
  unfold laws_szThirds_len_F at hr
  split at hr
  · rename_i a1 a2 a3 v283
    obtain ⟨v280, hv280, hr⟩ := optT_run hr
    obtain ⟨v281, hv281, hr⟩ := optT_run hr
    obtain ⟨v282, hv282, hr⟩ := optT_run hr
    have hy := laws_szThirds_len_tot v280 v281 v282 v283
    generalize laws_szThirds_len_v v280 v281 v282 v283 = y at hy hr
    simp only [Tree.run, Option.some.injEq, Prod.mk.injEq] at hr
    obtain ⟨rfl, rfl⟩ := hr
    exact call_ok0 hs (fun k => (([a1.av F, a2.av F, a3.av F] : List AV)[k]?).getD .top) [.agg [a1, a2, a3], .int .i64 v283] [.agg [.hslc (BR.root 0) v280, .hslc (BR.root 1) v281, .hslc (BR.root 2) v282], .int .i64 v283] (fun F' h0 hi hρ => ⟨by simp [DVs.av, DV.av, BR.av, hρ], laws_szThirds_len_fn v280 v281 v282 v283 F' (by rw [hi]; rfl) (st_nil hi) ⟨⟨hslc_ok hi (by rw [h0, hρ]; exact lenV_ok hs (DVs.okAt (DVs.okAt ha 0 rfl) 0 rfl) hv280), hslc_ok hi (by rw [h0, hρ]; exact lenV_ok hs (DVs.okAt (DVs.okAt ha 0 rfl) 1 rfl) hv281), hslc_ok hi (by rw [h0, hρ]; exact lenV_ok hs (DVs.okAt (DVs.okAt ha 0 rfl) 2 rfl) hv282), trivial⟩, trivial, trivial⟩ hy⟩) rfl
  · cases hr
/-! laws.FnExactThirdsTimes -/
noncomputable def laws_FnExactThirdsTimes_len_LO (v276 : Nat) (v277 : Nat) (v278 : Nat) (v279 : Nat) : LOr := fun id e L =>
  match id with
  | _ => .fail
noncomputable def laws_FnExactThirdsTimes_len_tab : List (FuncId × DFn × Bool) := [(41, laws_szThirds_len_F, true)]
theorem laws_FnExactThirdsTimes_len_hO : OrcOk Try.prog (tabD laws_FnExactThirdsTimes_len_tab) (tabM laws_FnExactThirdsTimes_len_tab) := tabD_cons laws_szThirds_len_Fok (tabD_nil _)
noncomputable def laws_FnExactThirdsTimes_len_T (v276 : Nat) (v277 : Nat) (v278 : Nat) (v279 : Nat) : Tree (Bool) :=
  (.br (decide ((1048576 : Int) < ((v279 : Nat) : Int))) (
   .leaf true
  ) (
   (.br (decide ((laws_szThirds_len_v v276 v277 v278 (1048576 : Int)) < (0 : Int))) (
    .leaf true
   ) (
    .fail
   ))
  ))

noncomputable def laws_FnExactThirdsTimes_len_g (v276 : Nat) (v277 : Nat) (v278 : Nat) (v279 : Nat) : Option (Bool) := (laws_FnExactThirdsTimes_len_T v276 v277 v278 v279).run
def laws_FnExactThirdsTimes_len_enc (v276 : Nat) (v277 : Nat) (v278 : Nat) (v279 : Nat) (y : Bool) : Rs := (.bool y, [])
theorem laws_FnExactThirdsTimes_len_den (v276 : Nat) (v277 : Nat) (v278 : Nat) (v279 : Nat) : (den TT (tabD laws_FnExactThirdsTimes_len_tab) (tabM laws_FnExactThirdsTimes_len_tab) (laws_FnExactThirdsTimes_len_LO v276 v277 v278 v279) (codeOf Try.f8) ([.agg [.hslc (BR.root 0) v276, .hslc (BR.root 1) v277, .hslc (BR.root 2) v278], .hslc (BR.root 3) v279] ++ List.replicate (Try.f8.ntmps - ([.agg [.hslc (BR.root 0) v276, .hslc (BR.root 1) v277, .hslc (BR.root 2) v278], .hslc (BR.root 3) v279] : List DV).length) .undef) []).bind (retD TT Try.f8.results.toList 0) = (laws_FnExactThirdsTimes_len_T v276 v277 v278 v279).bind fun y => .leaf (laws_FnExactThirdsTimes_len_enc v276 v277 v278 v279 y) := by kernel_rfl
theorem laws_FnExactThirdsTimes_len_fn (v276 : Nat) (v277 : Nat) (v278 : Nat) (v279 : Nat) (F : Fr) (hm : F.ids.length = 0) (h0 : St F [] F.H0) (hA : DVs.Ok F [] [.agg [.hslc (BR.root 0) v276, .hslc (BR.root 1) v277, .hslc (BR.root 2) v278], .hslc (BR.root 3) v279]) {y : Bool} (hy : laws_FnExactThirdsTimes_len_g v276 v277 v278 v279 = some y) : ∃ H', FnOk Try.prog 8 (DVs.av F [.agg [.hslc (BR.root 0) v276, .hslc (BR.root 1) v277, .hslc (BR.root 2) v278], .hslc (BR.root 3) v279]) F.H0 ((laws_FnExactThirdsTimes_len_enc v276 v277 v278 v279 y).1.av F) H' ∧ St F (laws_FnExactThirdsTimes_len_enc v276 v277 v278 v279 y).2 H' ∧ (laws_FnExactThirdsTimes_len_enc v276 v277 v278 v279 y).1.Ok F (laws_FnExactThirdsTimes_len_enc v276 v277 v278 v279 y).2 :=
  fn_fin tok laws_FnExactThirdsTimes_len_hO mixed Try.func8 Try.call8 (by kernel_rfl) (LoopsOk_eq (l := []) (by kernel_rfl) trivial) (laws_FnExactThirdsTimes_len_den v276 v277 v278 v279) hy hm h0 hA
noncomputable def laws_FnExactThirdsTimes_len_F : DFn := fun args L =>
  match args with
  | [.agg [a1, a2, a3], a4] =>
    optT (lenV L a1) fun v276 =>
    optT (lenV L a2) fun v277 =>
    optT (lenV L a3) fun v278 =>
    optT (lenV L a4) fun v279 =>
    .call (laws_FnExactThirdsTimes_len_g v276 v277 v278 v279) fun y => .leaf (.bool y, L)
  | _ => .fail
theorem laws_FnExactThirdsTimes_len_Fok : COk Try.prog 8 laws_FnExactThirdsTimes_len_F true := by
  intro F L H args r L' hs ha hr
  unfold laws_FnExactThirdsTimes_len_F at hr
  split at hr
  · rename_i a1 a2 a3 a4
    obtain ⟨v276, hv276, hr⟩ := optT_run hr
    obtain ⟨v277, hv277, hr⟩ := optT_run hr
    obtain ⟨v278, hv278, hr⟩ := optT_run hr
    obtain ⟨v279, hv279, hr⟩ := optT_run hr
    simp only [Tree.run] at hr
    obtain ⟨y, hy, hr⟩ := Option.bind_eq_some_iff.1 hr
    simp only [Tree.run, Option.some.injEq, Prod.mk.injEq] at hr
    obtain ⟨rfl, rfl⟩ := hr
    exact call_ok0 hs (fun k => (([a1.av F, a2.av F, a3.av F, a4.av F] : List AV)[k]?).getD .top) [.agg [a1, a2, a3], a4] [.agg [.hslc (BR.root 0) v276, .hslc (BR.root 1) v277, .hslc (BR.root 2) v278], .hslc (BR.root 3) v279] (fun F' h0 hi hρ => ⟨by simp [DVs.av, DV.av, BR.av, hρ], laws_FnExactThirdsTimes_len_fn v276 v277 v278 v279 F' (by rw [hi]; rfl) (st_nil hi) ⟨⟨hslc_ok hi (by rw [h0, hρ]; exact lenV_ok hs (DVs.okAt (DVs.okAt ha 0 rfl) 0 rfl) hv276), hslc_ok hi (by rw [h0, hρ]; exact lenV_ok hs (DVs.okAt (DVs.okAt ha 0 rfl) 1 rfl) hv277), hslc_ok hi (by rw [h0, hρ]; exact lenV_ok hs (DVs.okAt (DVs.okAt ha 0 rfl) 2 rfl) hv278), trivial⟩, hslc_ok hi (by rw [h0, hρ]; exact lenV_ok hs (DVs.okAt ha 1 rfl) hv279), trivial⟩ hy⟩) rfl
  · cases hr
end Go.Proofs.Ytjniaobboclniaa.AM
