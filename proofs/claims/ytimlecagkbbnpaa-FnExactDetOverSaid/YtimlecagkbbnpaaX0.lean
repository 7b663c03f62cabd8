/- Functions: what they come to. -/
import Derived.Test.YtimlecagkbbnpaaBase
set_option maxRecDepth 100000
set_option maxHeartbeats 4000000
set_option linter.unusedSimpArgs false
set_option linter.unusedVariables false
namespace Go.Proofs.Ytimlecagkbbnpaa.AM
open Go.Proofs
/-! laws.szInt64S -/
noncomputable def laws_szInt64S_LO (v9 : List Int) (v10 : Int) : LOr := fun id e L =>
  match id with
  | _ => .fail
noncomputable def laws_szInt64S_tab : List (FuncId × DFn × Bool) := []
theorem laws_szInt64S_hO : OrcOk Try.prog (tabD laws_szInt64S_tab) (tabM laws_szInt64S_tab) := tabD_nil _
noncomputable def laws_szInt64S_T (v9 : List Int) (v10 : Int) : Tree (Int) :=
  (.br (decide (IntKind.i64.wrap (v10 - ((v9.length : Nat) : Int)) < (0 : Int))) (
   .leaf (-1 : Int)
  ) (
   .leaf (IntKind.i64.wrap (v10 - ((v9.length : Nat) : Int)))
  ))

noncomputable def laws_szInt64S_g (v9 : List Int) (v10 : Int) : Option (Int) := (laws_szInt64S_T v9 v10).run
def laws_szInt64S_enc (v9 : List Int) (v10 : Int) (y : Int) : Rs := (.int .i64 y, [])
theorem laws_szInt64S_den (v9 : List Int) (v10 : Int) : (den TT (tabD laws_szInt64S_tab) (tabM laws_szInt64S_tab) (laws_szInt64S_LO v9 v10) (codeOf Try.f59) ([.bslc (BR.root 0) (.i64 v9), .int .i64 v10] ++ List.replicate (Try.f59.ntmps - ([.bslc (BR.root 0) (.i64 v9), .int .i64 v10] : List DV).length) .undef) []).bind (retD TT Try.f59.results.toList 0) = (laws_szInt64S_T v9 v10).bind fun y => .leaf (laws_szInt64S_enc v9 v10 y) := by kernel_rfl
theorem laws_szInt64S_fn (v9 : List Int) (v10 : Int) (F : Fr) (h0 : St F [] F.H0) (hA : DVs.Ok F [] [.bslc (BR.root 0) (.i64 v9), .int .i64 v10]) {y : Int} (hy : laws_szInt64S_g v9 v10 = some y) : ∃ F' H', Fwd 0 F F' [] (laws_szInt64S_enc v9 v10 y).2 ∧ FnOk Try.prog 59 (DVs.av F [.bslc (BR.root 0) (.i64 v9), .int .i64 v10]) F.H0 ((laws_szInt64S_enc v9 v10 y).1.av F') H' ∧ St F' (laws_szInt64S_enc v9 v10 y).2 H' ∧ (laws_szInt64S_enc v9 v10 y).1.Ok F' (laws_szInt64S_enc v9 v10 y).2 :=
  fn_fin tok laws_szInt64S_hO mixed Try.func59 Try.call59 (by kernel_rfl) (LoopsOk_eq (l := []) (by kernel_rfl) trivial) (laws_szInt64S_den v9 v10) hy h0 hA
def laws_szInt64S_v (v9 : List Int) (v10 : Int) : Int :=
  if (decide (IntKind.i64.wrap (v10 - ((v9.length : Nat) : Int)) < (0 : Int))) = true then (
   (-1 : Int)
  ) else (
   IntKind.i64.wrap (v10 - ((v9.length : Nat) : Int))
  )
theorem laws_szInt64S_tot (v9 : List Int) (v10 : Int) : laws_szInt64S_g v9 v10 = some (laws_szInt64S_v v9 v10) := by
  unfold laws_szInt64S_g laws_szInt64S_T laws_szInt64S_v
  simp only [Tree.run]
  repeat' (first | rfl | split)
noncomputable def laws_szInt64S_F : DFn := fun args L =>
  match args with
  | [a1, .int .i64 v10] =>
    optT (rowI64 L a1) fun v9 =>
    .leaf (.int .i64 (laws_szInt64S_v v9 v10), L)
  | _ => .fail
theorem laws_szInt64S_Fok : COk Try.prog 59 laws_szInt64S_F true := by
  intro F L H args r L' hs ha hr
  unfold laws_szInt64S_F at hr
  split at hr
  · rename_i a1 v10
    obtain ⟨v9, hv9, hr⟩ := optT_run hr
    have hy := laws_szInt64S_tot v9 v10
    generalize laws_szInt64S_v v9 v10 = y at hy hr
    simp only [Tree.run, Option.some.injEq, Prod.mk.injEq] at hr
    obtain ⟨rfl, rfl⟩ := hr
    exact call_ok0 hs (fun k => (([a1.av F] : List AV)[k]?).getD .top) [a1, .int .i64 v10] [.bslc (BR.root 0) (.i64 v9), .int .i64 v10] (fun F' h0 hi hρ => ⟨by simp [DVs.av, DV.av, BR.av, hρ], laws_szInt64S_fn v9 v10 F' (st_nil hi) ⟨bslc_ok hi (by rw [h0, hρ]; exact rowI64_ok hs (DVs.okAt ha 0 rfl) hv9), trivial, trivial⟩ hy⟩) rfl
  · cases hr
/-! laws.szWhole -/
noncomputable def laws_szWhole_LO (v5 : Int) (v6 : Int) (v7 : List Int) (v8 : Int) : LOr := fun id e L =>
  match id with
  | _ => .fail
noncomputable def laws_szWhole_tab : List (FuncId × DFn × Bool) := [(59, laws_szInt64S_F, true)]
theorem laws_szWhole_hO : OrcOk Try.prog (tabD laws_szWhole_tab) (tabM laws_szWhole_tab) := tabD_cons laws_szInt64S_Fok (tabD_nil _)
noncomputable def laws_szWhole_T (v7 : List Int) (v8 : Int) : Tree (Int) :=
  (.br (decide ((laws_szInt64S_v v7 v8) < (0 : Int))) (
   .leaf (-1 : Int)
  ) (
   .leaf (laws_szInt64S_v v7 v8)
  ))

noncomputable def laws_szWhole_g (v7 : List Int) (v8 : Int) : Option (Int) := (laws_szWhole_T v7 v8).run
def laws_szWhole_enc (v5 : Int) (v6 : Int) (v7 : List Int) (v8 : Int) (y : Int) : Rs := (.int .i64 y, [])
theorem laws_szWhole_den (v5 : Int) (v6 : Int) (v7 : List Int) (v8 : Int) : (den TT (tabD laws_szWhole_tab) (tabM laws_szWhole_tab) (laws_szWhole_LO v5 v6 v7 v8) (codeOf Try.f12) ([.agg [.int .i64 v5, .int .i64 v6, .bslc (BR.root 0) (.i64 v7)], .int .i64 v8] ++ List.replicate (Try.f12.ntmps - ([.agg [.int .i64 v5, .int .i64 v6, .bslc (BR.root 0) (.i64 v7)], .int .i64 v8] : List DV).length) .undef) []).bind (retD TT Try.f12.results.toList 0) = (laws_szWhole_T v7 v8).bind fun y => .leaf (laws_szWhole_enc v5 v6 v7 v8 y) := by kernel_rfl
theorem laws_szWhole_fn (v5 : Int) (v6 : Int) (v7 : List Int) (v8 : Int) (F : Fr) (h0 : St F [] F.H0) (hA : DVs.Ok F [] [.agg [.int .i64 v5, .int .i64 v6, .bslc (BR.root 0) (.i64 v7)], .int .i64 v8]) {y : Int} (hy : laws_szWhole_g v7 v8 = some y) : ∃ F' H', Fwd 0 F F' [] (laws_szWhole_enc v5 v6 v7 v8 y).2 ∧ FnOk Try.prog 12 (DVs.av F [.agg [.int .i64 v5, .int .i64 v6, .bslc (BR.root 0) (.i64 v7)], .int .i64 v8]) F.H0 ((laws_szWhole_enc v5 v6 v7 v8 y).1.av F') H' ∧ St F' (laws_szWhole_enc v5 v6 v7 v8 y).2 H' ∧ (laws_szWhole_enc v5 v6 v7 v8 y).1.Ok F' (laws_szWhole_enc v5 v6 v7 v8 y).2 :=
  fn_fin tok laws_szWhole_hO mixed Try.func12 Try.call12 (by kernel_rfl) (LoopsOk_eq (l := []) (by kernel_rfl) trivial) (laws_szWhole_den v5 v6 v7 v8) hy h0 hA
def laws_szWhole_v (v7 : List Int) (v8 : Int) : Int :=
  if (decide ((laws_szInt64S_v v7 v8) < (0 : Int))) = true then (
   (-1 : Int)
  ) else (
   (laws_szInt64S_v v7 v8)
  )
theorem laws_szWhole_tot (v7 : List Int) (v8 : Int) : laws_szWhole_g v7 v8 = some (laws_szWhole_v v7 v8) := by
  unfold laws_szWhole_g laws_szWhole_T laws_szWhole_v
  simp only [Tree.run]
  repeat' (first | rfl | split)
noncomputable def laws_szWhole_F : DFn := fun args L =>
  match args with
  | [.agg [.int .i64 v5, .int .i64 v6, a1], .int .i64 v8] =>
    optT (rowI64 L a1) fun v7 =>
    .leaf (.int .i64 (laws_szWhole_v v7 v8), L)
  | _ => .fail
theorem laws_szWhole_Fok : COk Try.prog 12 laws_szWhole_F true := by
  intro F L H args r L' hs ha hr
  unfold laws_szWhole_F at hr
  split at hr
  · rename_i v5 v6 a1 v8
    obtain ⟨v7, hv7, hr⟩ := optT_run hr
    have hy := laws_szWhole_tot v7 v8
    generalize laws_szWhole_v v7 v8 = y at hy hr
    simp only [Tree.run, Option.some.injEq, Prod.mk.injEq] at hr
    obtain ⟨rfl, rfl⟩ := hr
    exact call_ok0 hs (fun k => (([a1.av F] : List AV)[k]?).getD .top) [.agg [.int .i64 v5, .int .i64 v6, a1], .int .i64 v8] [.agg [.int .i64 v5, .int .i64 v6, .bslc (BR.root 0) (.i64 v7)], .int .i64 v8] (fun F' h0 hi hρ => ⟨by simp [DVs.av, DV.av, BR.av, hρ], laws_szWhole_fn v5 v6 v7 v8 F' (st_nil hi) ⟨⟨trivial, trivial, bslc_ok hi (by rw [h0, hρ]; exact rowI64_ok hs (DVs.okAt (DVs.okAt ha 0 rfl) 2 rfl) hv7), trivial⟩, trivial, trivial⟩ hy⟩) rfl
  · cases hr
/-! laws.toInt64S -/
noncomputable def laws_toInt64S_l0_T (v14 : List Int) (s : Int × (List Int)) : Tree ((Int × (List Int)) ⊕ ((List Int))) :=
  (.br (decide (s.1 < ((v14.length : Nat) : Int))) (
   (.grd (inb s.1 v14.length) <|
   (.grd (inb s.1 ((s.2).length)) <|
   .leaf (.inl (IntKind.i64.wrap (s.1 + (1 : Int)), List.set s.2 (Int.toNat s.1) (nth v14 (Int.toNat s.1))))))
  ) (
   .leaf (.inr s.2)
  ))

noncomputable def laws_toInt64S_l0_g (v14 : List Int) (s0 : Int × (List Int)) : Option ((List Int)) := whileM (fun s => (laws_toInt64S_l0_T v14 s).run) s0
def laws_toInt64S_l0_E (v14 : List Int) (s : Int × (List Int)) : Sd := ([.bslc (BR.root 0) (.i64 v14), .top, .top, .own 0 0 ((s.2).length), .int .i64 s.1, .top, .top, .top, .top, .top, .top, .top, .top, .top, .top, .top, .top, .top, .top, .top, .top, .top], [.row (.i64 s.2) 0])
def laws_toInt64S_l0_X (v14 : List Int) (x : (List Int)) : Out := (.normal, [.top, .top, .top, .own 0 0 ((x).length), .top, .top, .top, .top, .top, .top, .top, .top, .top, .top, .top, .top, .top, .top, .top, .top, .top, .top], [.row (.i64 x) 0])
def laws_toInt64S_l0_kill : List Nat := [0, 1, 1, 0, 0, 1, 1, 1, 1, 1, 1, 1, 1, 1, 1, 1, 1, 1, 1, 1, 1, 1]
def laws_toInt64S_l0_nx : Exit → List Nat
  | .exit 0 => [1, 1, 1, 0, 1, 1, 1, 1, 1, 1, 1, 1, 1, 1, 1, 1, 1, 1, 1, 1, 1, 1]
  | .ret => [1, 1, 0, 1, 1, 1, 1, 1, 1, 1, 1, 1, 1, 1, 1, 1, 1, 1, 1, 1, 1, 1]
  | _ => []
noncomputable def laws_toInt64S_LO (v14 : List Int) : LOr := fun id e L =>
  match id with
  | 0 => .need (normA 0 laws_toInt64S_l0_kill e L = some (laws_toInt64S_l0_E v14 ((gI (vAt e 4)), (gRI L (vAt e 3))))) (.call (laws_toInt64S_l0_g v14 ((gI (vAt e 4)), (gRI L (vAt e 3)))) fun x => .leaf (laws_toInt64S_l0_X v14 x))
  | _ => .fail
noncomputable def laws_toInt64S_tab : List (FuncId × DFn × Bool) := []
theorem laws_toInt64S_hO : OrcOk Try.prog (tabD laws_toInt64S_tab) (tabM laws_toInt64S_tab) := tabD_nil _
theorem laws_toInt64S_l0_be (v14 : List Int) (s : Int × (List Int)) : bodyT TT (tabD laws_toInt64S_tab) (tabM laws_toInt64S_tab) (laws_toInt64S_LO v14) 0 laws_toInt64S_l0_kill laws_toInt64S_l0_nx (bodyOf Try.f20 0) 0 (laws_toInt64S_l0_E v14 s) = (laws_toInt64S_l0_T v14 s).bind fun y => .leaf (outS (laws_toInt64S_l0_E v14) (laws_toInt64S_l0_X v14) y) := by kernel_rfl
theorem laws_toInt64S_l0_ok (v14 : List Int) : LSound Try.prog 0 (laws_toInt64S_LO v14) 0 (bodyOf Try.f20 0) := by
  intro e L out h
  exact lo_ok (E := laws_toInt64S_l0_E v14) (gT := laws_toInt64S_l0_T v14) (X := laws_toInt64S_l0_X v14) (s0 := ((gI (vAt e 4)), (gRI L (vAt e 3)))) tok laws_toInt64S_hO mixed (LoopsOk_eq (l := []) (by kernel_rfl) trivial) (laws_toInt64S_l0_be v14) rfl (by intro x; rfl) h
noncomputable def laws_toInt64S_T (v14 : List Int) : Tree ((List Int)) :=
  (.need (((v14.length : Nat) : Int) = ((v14.length : Nat) : Int)) <|
  (.grd (inb ((v14.length : Nat) : Int) (maxN + 1)) <|
  (.need (some (laws_toInt64S_l0_E v14 ((0 : Int), List.replicate (Int.toNat ((v14.length : Nat) : Int)) (0 : Int))) = some (laws_toInt64S_l0_E v14 ((0 : Int), List.replicate (Int.toNat ((v14.length : Nat) : Int)) (0 : Int)))) <|
  (.call (laws_toInt64S_l0_g v14 ((0 : Int), List.replicate (Int.toNat ((v14.length : Nat) : Int)) (0 : Int))) fun v20 =>
  .leaf v20))))

noncomputable def laws_toInt64S_g (v14 : List Int) : Option ((List Int)) := (laws_toInt64S_T v14).run
def laws_toInt64S_enc (v14 : List Int) (y : (List Int)) : Rs := (.own 0 0 ((y).length), [.row (.i64 y) 0])
theorem laws_toInt64S_den (v14 : List Int) : (den TT (tabD laws_toInt64S_tab) (tabM laws_toInt64S_tab) (laws_toInt64S_LO v14) (codeOf Try.f20) ([.bslc (BR.root 0) (.i64 v14)] ++ List.replicate (Try.f20.ntmps - ([.bslc (BR.root 0) (.i64 v14)] : List DV).length) .undef) []).bind (retD TT Try.f20.results.toList 0) = (laws_toInt64S_T v14).bind fun y => .leaf (laws_toInt64S_enc v14 y) := by kernel_rfl
theorem laws_toInt64S_fn (v14 : List Int) (F : Fr) (h0 : St F [] F.H0) (hA : DVs.Ok F [] [.bslc (BR.root 0) (.i64 v14)]) {y : (List Int)} (hy : laws_toInt64S_g v14 = some y) : ∃ F' H', Fwd 0 F F' [] (laws_toInt64S_enc v14 y).2 ∧ FnOk Try.prog 20 (DVs.av F [.bslc (BR.root 0) (.i64 v14)]) F.H0 ((laws_toInt64S_enc v14 y).1.av F') H' ∧ St F' (laws_toInt64S_enc v14 y).2 H' ∧ (laws_toInt64S_enc v14 y).1.Ok F' (laws_toInt64S_enc v14 y).2 :=
  fn_fin tok laws_toInt64S_hO mixed Try.func20 Try.call20 (by kernel_rfl) (LoopsOk_eq (l := [(0, bodyOf Try.f20 0)]) (by kernel_rfl) ⟨laws_toInt64S_l0_ok v14, trivial⟩) (laws_toInt64S_den v14) hy h0 hA
noncomputable def laws_toInt64S_F : DFn := fun args L =>
  match args with
  | [a1] =>
    optT (rowI64 L a1) fun v14 =>
    .call (laws_toInt64S_g v14) fun y => .leaf (.own (L.length + 0) 0 ((y).length), L ++ [.row (.i64 y) 0])
  | _ => .fail
theorem laws_toInt64S_Fok : COk Try.prog 20 laws_toInt64S_F true := by
  intro F L H args r L' hs ha hr
  unfold laws_toInt64S_F at hr
  split at hr
  · rename_i a1
    obtain ⟨v14, hv14, hr⟩ := optT_run hr
    simp only [Tree.run] at hr
    obtain ⟨y, hy, hr⟩ := Option.bind_eq_some_iff.1 hr
    simp only [Tree.run, Option.some.injEq, Prod.mk.injEq] at hr
    obtain ⟨rfl, rfl⟩ := hr
    exact call_ok1 hs (fun k => (([a1.av F] : List AV)[k]?).getD .top) [a1] [.bslc (BR.root 0) (.i64 v14)] (fun F' h0 hi hρ => ⟨by simp [DVs.av, DV.av, BR.av, hρ], laws_toInt64S_fn v14 F' (st_nil hi) ⟨bslc_ok hi (by rw [h0, hρ]; exact rowI64_ok hs (DVs.okAt ha 0 rfl) hv14), trivial⟩ hy⟩) rfl rfl
  · cases hr
/-! laws.toWhole -/
noncomputable def laws_toWhole_LO (v11 : Int) (v12 : Int) (v13 : List Int) : LOr := fun id e L =>
  match id with
  | _ => .fail
noncomputable def laws_toWhole_tab : List (FuncId × DFn × Bool) := [(20, laws_toInt64S_F, true)]
theorem laws_toWhole_hO : OrcOk Try.prog (tabD laws_toWhole_tab) (tabM laws_toWhole_tab) := tabD_cons laws_toInt64S_Fok (tabD_nil _)
noncomputable def laws_toWhole_T (v11 : Int) (v12 : Int) (v13 : List Int) : Tree (Int × Int × (List Int)) :=
  (.call (laws_toInt64S_g v13) fun v21 =>
  .leaf (v11, v12, v21))

noncomputable def laws_toWhole_g (v11 : Int) (v12 : Int) (v13 : List Int) : Option (Int × Int × (List Int)) := (laws_toWhole_T v11 v12 v13).run
def laws_toWhole_enc (v11 : Int) (v12 : Int) (v13 : List Int) (y : Int × Int × (List Int)) : Rs := (.agg [.int .i64 y.1, .int .i64 y.2.1, .own 0 0 ((y.2.2).length)], [.row (.i64 y.2.2) 0])
theorem laws_toWhole_den (v11 : Int) (v12 : Int) (v13 : List Int) : (den TT (tabD laws_toWhole_tab) (tabM laws_toWhole_tab) (laws_toWhole_LO v11 v12 v13) (codeOf Try.f14) ([.agg [.int .i64 v11, .int .i64 v12, .bslc (BR.root 0) (.i64 v13)]] ++ List.replicate (Try.f14.ntmps - ([.agg [.int .i64 v11, .int .i64 v12, .bslc (BR.root 0) (.i64 v13)]] : List DV).length) .undef) []).bind (retD TT Try.f14.results.toList 0) = (laws_toWhole_T v11 v12 v13).bind fun y => .leaf (laws_toWhole_enc v11 v12 v13 y) := by kernel_rfl
theorem laws_toWhole_fn (v11 : Int) (v12 : Int) (v13 : List Int) (F : Fr) (h0 : St F [] F.H0) (hA : DVs.Ok F [] [.agg [.int .i64 v11, .int .i64 v12, .bslc (BR.root 0) (.i64 v13)]]) {y : Int × Int × (List Int)} (hy : laws_toWhole_g v11 v12 v13 = some y) : ∃ F' H', Fwd 0 F F' [] (laws_toWhole_enc v11 v12 v13 y).2 ∧ FnOk Try.prog 14 (DVs.av F [.agg [.int .i64 v11, .int .i64 v12, .bslc (BR.root 0) (.i64 v13)]]) F.H0 ((laws_toWhole_enc v11 v12 v13 y).1.av F') H' ∧ St F' (laws_toWhole_enc v11 v12 v13 y).2 H' ∧ (laws_toWhole_enc v11 v12 v13 y).1.Ok F' (laws_toWhole_enc v11 v12 v13 y).2 :=
  fn_fin tok laws_toWhole_hO mixed Try.func14 Try.call14 (by kernel_rfl) (LoopsOk_eq (l := []) (by kernel_rfl) trivial) (laws_toWhole_den v11 v12 v13) hy h0 hA
noncomputable def laws_toWhole_F : DFn := fun args L =>
  match args with
  | [.agg [.int .i64 v11, .int .i64 v12, a1]] =>
    optT (rowI64 L a1) fun v13 =>
    .call (laws_toWhole_g v11 v12 v13) fun y => .leaf (.agg [.int .i64 y.1, .int .i64 y.2.1, .own (L.length + 0) 0 ((y.2.2).length)], L ++ [.row (.i64 y.2.2) 0])
  | _ => .fail
theorem laws_toWhole_Fok : COk Try.prog 14 laws_toWhole_F true := by
  intro F L H args r L' hs ha hr
  unfold laws_toWhole_F at hr
  split at hr
  · rename_i v11 v12 a1
    obtain ⟨v13, hv13, hr⟩ := optT_run hr
    simp only [Tree.run] at hr
    obtain ⟨y, hy, hr⟩ := Option.bind_eq_some_iff.1 hr
    simp only [Tree.run, Option.some.injEq, Prod.mk.injEq] at hr
    obtain ⟨rfl, rfl⟩ := hr
    exact call_ok1 hs (fun k => (([a1.av F] : List AV)[k]?).getD .top) [.agg [.int .i64 v11, .int .i64 v12, a1]] [.agg [.int .i64 v11, .int .i64 v12, .bslc (BR.root 0) (.i64 v13)]] (fun F' h0 hi hρ => ⟨by simp [DVs.av, DV.av, BR.av, hρ], laws_toWhole_fn v11 v12 v13 F' (st_nil hi) ⟨⟨trivial, trivial, bslc_ok hi (by rw [h0, hρ]; exact rowI64_ok hs (DVs.okAt (DVs.okAt ha 0 rfl) 2 rfl) hv13), trivial⟩, trivial⟩ hy⟩) rfl rfl
  · cases hr
/-! spec.l00In -/
noncomputable def spec_l00In_LO (v31 : Int) (v32 : Int) (v33 : Int) : LOr := fun id e L =>
  match id with
  | _ => .fail
noncomputable def spec_l00In_tab : List (FuncId × DFn × Bool) := []
theorem spec_l00In_hO : OrcOk Try.prog (tabD spec_l00In_tab) (tabM spec_l00In_tab) := tabD_nil _
noncomputable def spec_l00In_T (v31 : Int) (v32 : Int) (v33 : Int) : Tree (Bool) :=
  (.br (decide (v32 ≤ v31)) (
   .leaf (decide (v31 ≤ v33))
  ) (
   .leaf false
  ))

noncomputable def spec_l00In_g (v31 : Int) (v32 : Int) (v33 : Int) : Option (Bool) := (spec_l00In_T v31 v32 v33).run
def spec_l00In_enc (v31 : Int) (v32 : Int) (v33 : Int) (y : Bool) : Rs := (.bool y, [])
theorem spec_l00In_den (v31 : Int) (v32 : Int) (v33 : Int) : (den TT (tabD spec_l00In_tab) (tabM spec_l00In_tab) (spec_l00In_LO v31 v32 v33) (codeOf Try.f80) ([.int .i64 v31, .int .i64 v32, .int .i64 v33] ++ List.replicate (Try.f80.ntmps - ([.int .i64 v31, .int .i64 v32, .int .i64 v33] : List DV).length) .undef) []).bind (retD TT Try.f80.results.toList 0) = (spec_l00In_T v31 v32 v33).bind fun y => .leaf (spec_l00In_enc v31 v32 v33 y) := by kernel_rfl
theorem spec_l00In_fn (v31 : Int) (v32 : Int) (v33 : Int) (F : Fr) (h0 : St F [] F.H0) (hA : DVs.Ok F [] [.int .i64 v31, .int .i64 v32, .int .i64 v33]) {y : Bool} (hy : spec_l00In_g v31 v32 v33 = some y) : ∃ F' H', Fwd 0 F F' [] (spec_l00In_enc v31 v32 v33 y).2 ∧ FnOk Try.prog 80 (DVs.av F [.int .i64 v31, .int .i64 v32, .int .i64 v33]) F.H0 ((spec_l00In_enc v31 v32 v33 y).1.av F') H' ∧ St F' (spec_l00In_enc v31 v32 v33 y).2 H' ∧ (spec_l00In_enc v31 v32 v33 y).1.Ok F' (spec_l00In_enc v31 v32 v33 y).2 :=
  fn_fin tok spec_l00In_hO mixed Try.func80 Try.call80 (by kernel_rfl) (LoopsOk_eq (l := []) (by kernel_rfl) trivial) (spec_l00In_den v31 v32 v33) hy h0 hA
def spec_l00In_v (v31 : Int) (v32 : Int) (v33 : Int) : Bool :=
  if (decide (v32 ≤ v31)) = true then (
   decide (v31 ≤ v33)
  ) else (
   false
  )
theorem spec_l00In_tot (v31 : Int) (v32 : Int) (v33 : Int) : spec_l00In_g v31 v32 v33 = some (spec_l00In_v v31 v32 v33) := by
  unfold spec_l00In_g spec_l00In_T spec_l00In_v
  simp only [Tree.run]
  repeat' (first | rfl | split)
noncomputable def spec_l00In_F : DFn := fun args L =>
  match args with
  | [.int .i64 v31, .int .i64 v32, .int .i64 v33] =>
    .leaf (.bool (spec_l00In_v v31 v32 v33), L)
  | _ => .fail
theorem spec_l00In_Fok : COk Try.prog 80 spec_l00In_F true := by
  intro F L H args r L' hs ha hr
  unfold spec_l00In_F at hr
  split at hr
  · rename_i v31 v32 v33
    have hy := spec_l00In_tot v31 v32 v33
    generalize spec_l00In_v v31 v32 v33 = y at hy hr
    simp only [Tree.run, Option.some.injEq, Prod.mk.injEq] at hr
    obtain ⟨rfl, rfl⟩ := hr
    exact call_ok0 hs (fun k => (([] : List AV)[k]?).getD .top) [.int .i64 v31, .int .i64 v32, .int .i64 v33] [.int .i64 v31, .int .i64 v32, .int .i64 v33] (fun F' h0 hi hρ => ⟨by simp [DVs.av, DV.av, BR.av, hρ], spec_l00In_fn v31 v32 v33 F' (st_nil hi) ⟨trivial, trivial, trivial, trivial⟩ hy⟩) rfl
  · cases hr
/-! spec.l06Bound -/
noncomputable def spec_l06Bound_l0_T (v34 : List Int) (v35 : Int) (s : Int) : Tree ((Int) ⊕ ((Unit) ⊕ (Unit))) :=
  (.br (decide (s < ((v34.length : Nat) : Int))) (
   (.grd (inb s v34.length) <|
   (.br (!(spec_l00In_v (nth v34 (Int.toNat s)) (IntKind.i64.wrap (0 - v35)) v35)) (
    .leaf (.inr (.inl ()))
   ) (
    .leaf (.inl (IntKind.i64.wrap (s + (1 : Int))))
   )))
  ) (
   .leaf (.inr (.inr ()))
  ))

noncomputable def spec_l06Bound_l0_g (v34 : List Int) (v35 : Int) (s0 : Int) : Option ((Unit) ⊕ (Unit)) := whileM (fun s => (spec_l06Bound_l0_T v34 v35 s).run) s0
def spec_l06Bound_l0_E (v34 : List Int) (v35 : Int) (s : Int) : Sd := ([.bslc (BR.root 0) (.i64 v34), .int .i64 v35, .top, .top, .top, .int .i64 s, .top, .top, .top, .top, .top, .top, .top, .top, .top, .top, .top, .top, .top, .top, .top], [])
def spec_l06Bound_l0_X (v34 : List Int) (v35 : Int) (x : (Unit) ⊕ (Unit)) : Out := (match x with | .inl x => (.ret, [.top, .top, .top, .top, .lit false, .top, .top, .top, .top, .top, .top, .top, .top, .top, .top, .top, .top, .top, .top, .top, .top], []) | .inr x => (.normal, [.top, .top, .top, .top, .top, .top, .top, .top, .top, .top, .top, .top, .top, .top, .top, .top, .top, .top, .top, .top, .top], []))
def spec_l06Bound_l0_kill : List Nat := [0, 0, 1, 1, 1, 0, 1, 1, 1, 1, 1, 1, 1, 1, 1, 1, 1, 1, 1, 1, 1]
def spec_l06Bound_l0_nx : Exit → List Nat
  | .exit 0 => [1, 1, 1, 1, 1, 1, 1, 1, 1, 1, 1, 1, 1, 1, 1, 1, 1, 1, 1, 1, 1]
  | .ret => [1, 1, 1, 1, 0, 1, 1, 1, 1, 1, 1, 1, 1, 1, 1, 1, 1, 1, 1, 1, 1]
  | _ => []
noncomputable def spec_l06Bound_LO (v34 : List Int) (v35 : Int) : LOr := fun id e L =>
  match id with
  | 0 => .need (normA 0 spec_l06Bound_l0_kill e L = some (spec_l06Bound_l0_E v34 v35 (gI (vAt e 5)))) (.call (spec_l06Bound_l0_g v34 v35 (gI (vAt e 5))) fun x => .sum x (fun b0 => .leaf (spec_l06Bound_l0_X v34 v35 (.inl b0))) (fun c0 => .leaf (spec_l06Bound_l0_X v34 v35 (.inr c0))))
  | _ => .fail
noncomputable def spec_l06Bound_tab : List (FuncId × DFn × Bool) := [(80, spec_l00In_F, true)]
theorem spec_l06Bound_hO : OrcOk Try.prog (tabD spec_l06Bound_tab) (tabM spec_l06Bound_tab) := tabD_cons spec_l00In_Fok (tabD_nil _)
theorem spec_l06Bound_l0_be (v34 : List Int) (v35 : Int) (s : Int) : bodyT TT (tabD spec_l06Bound_tab) (tabM spec_l06Bound_tab) (spec_l06Bound_LO v34 v35) 0 spec_l06Bound_l0_kill spec_l06Bound_l0_nx (bodyOf Try.f66 0) 0 (spec_l06Bound_l0_E v34 v35 s) = (spec_l06Bound_l0_T v34 v35 s).bind fun y => .leaf (outS (spec_l06Bound_l0_E v34 v35) (spec_l06Bound_l0_X v34 v35) y) := by kernel_rfl
theorem spec_l06Bound_l0_ok (v34 : List Int) (v35 : Int) : LSound Try.prog 0 (spec_l06Bound_LO v34 v35) 0 (bodyOf Try.f66 0) := by
  intro e L out h
  exact lo_ok (E := spec_l06Bound_l0_E v34 v35) (gT := spec_l06Bound_l0_T v34 v35) (X := spec_l06Bound_l0_X v34 v35) (s0 := (gI (vAt e 5))) tok spec_l06Bound_hO mixed (LoopsOk_eq (l := []) (by kernel_rfl) trivial) (spec_l06Bound_l0_be v34 v35) rfl (by intro x; (cases x with | inl b => rfl | inr x => exact rfl)) h
noncomputable def spec_l06Bound_T (v34 : List Int) (v35 : Int) : Tree (Bool) :=
  (.need (some (spec_l06Bound_l0_E v34 v35 (0 : Int)) = some (spec_l06Bound_l0_E v34 v35 (0 : Int))) <|
  (.call (spec_l06Bound_l0_g v34 v35 (0 : Int)) fun v39 =>
  (.sum v39 (fun v40 =>
   .leaf false
  ) (fun v41 =>
   .leaf true
  ))))

noncomputable def spec_l06Bound_g (v34 : List Int) (v35 : Int) : Option (Bool) := (spec_l06Bound_T v34 v35).run
def spec_l06Bound_enc (v34 : List Int) (v35 : Int) (y : Bool) : Rs := (.bool y, [])
theorem spec_l06Bound_den (v34 : List Int) (v35 : Int) : (den TT (tabD spec_l06Bound_tab) (tabM spec_l06Bound_tab) (spec_l06Bound_LO v34 v35) (codeOf Try.f66) ([.bslc (BR.root 0) (.i64 v34), .int .i64 v35] ++ List.replicate (Try.f66.ntmps - ([.bslc (BR.root 0) (.i64 v34), .int .i64 v35] : List DV).length) .undef) []).bind (retD TT Try.f66.results.toList 0) = (spec_l06Bound_T v34 v35).bind fun y => .leaf (spec_l06Bound_enc v34 v35 y) := by kernel_rfl
theorem spec_l06Bound_fn (v34 : List Int) (v35 : Int) (F : Fr) (h0 : St F [] F.H0) (hA : DVs.Ok F [] [.bslc (BR.root 0) (.i64 v34), .int .i64 v35]) {y : Bool} (hy : spec_l06Bound_g v34 v35 = some y) : ∃ F' H', Fwd 0 F F' [] (spec_l06Bound_enc v34 v35 y).2 ∧ FnOk Try.prog 66 (DVs.av F [.bslc (BR.root 0) (.i64 v34), .int .i64 v35]) F.H0 ((spec_l06Bound_enc v34 v35 y).1.av F') H' ∧ St F' (spec_l06Bound_enc v34 v35 y).2 H' ∧ (spec_l06Bound_enc v34 v35 y).1.Ok F' (spec_l06Bound_enc v34 v35 y).2 :=
  fn_fin tok spec_l06Bound_hO mixed Try.func66 Try.call66 (by kernel_rfl) (LoopsOk_eq (l := [(0, bodyOf Try.f66 0)]) (by kernel_rfl) ⟨spec_l06Bound_l0_ok v34 v35, trivial⟩) (spec_l06Bound_den v34 v35) hy h0 hA
noncomputable def spec_l06Bound_F : DFn := fun args L =>
  match args with
  | [a1, .int .i64 v35] =>
    optT (rowI64 L a1) fun v34 =>
    .call (spec_l06Bound_g v34 v35) fun y => .leaf (.bool y, L)
  | _ => .fail
theorem spec_l06Bound_Fok : COk Try.prog 66 spec_l06Bound_F true := by
  intro F L H args r L' hs ha hr
  unfold spec_l06Bound_F at hr
  split at hr
  · rename_i a1 v35
    obtain ⟨v34, hv34, hr⟩ := optT_run hr
    simp only [Tree.run] at hr
    obtain ⟨y, hy, hr⟩ := Option.bind_eq_some_iff.1 hr
    simp only [Tree.run, Option.some.injEq, Prod.mk.injEq] at hr
    obtain ⟨rfl, rfl⟩ := hr
    exact call_ok0 hs (fun k => (([a1.av F] : List AV)[k]?).getD .top) [a1, .int .i64 v35] [.bslc (BR.root 0) (.i64 v34), .int .i64 v35] (fun F' h0 hi hρ => ⟨by simp [DVs.av, DV.av, BR.av, hρ], spec_l06Bound_fn v34 v35 F' (st_nil hi) ⟨bslc_ok hi (by rw [h0, hρ]; exact rowI64_ok hs (DVs.okAt ha 0 rfl) hv34), trivial, trivial⟩ hy⟩) rfl
  · cases hr
/-! spec.l06Is -/
noncomputable def spec_l06Is_LO (v27 : Int) (v28 : Int) (v29 : List Int) (v30 : Int) : LOr := fun id e L =>
  match id with
  | _ => .fail
noncomputable def spec_l06Is_tab : List (FuncId × DFn × Bool) := [(80, spec_l00In_F, true), (66, spec_l06Bound_F, true)]
theorem spec_l06Is_hO : OrcOk Try.prog (tabD spec_l06Is_tab) (tabM spec_l06Is_tab) := tabD_cons spec_l00In_Fok (tabD_cons spec_l06Bound_Fok (tabD_nil _))
noncomputable def spec_l06Is_T (v27 : Int) (v28 : Int) (v29 : List Int) (v30 : Int) : Tree (Bool) :=
  (.br (spec_l00In_v v27 (1 : Int) (6 : Int)) (
   (.br (spec_l00In_v v28 (1 : Int) (6 : Int)) (
    (.br (decide (((v29.length : Nat) : Int) = IntKind.i64.wrap (v27 * v28))) (
     (.call (spec_l06Bound_g v29 v30) fun v42 =>
     .leaf v42)
    ) (
     .leaf false
    ))
   ) (
    .leaf false
   ))
  ) (
   .leaf false
  ))

noncomputable def spec_l06Is_g (v27 : Int) (v28 : Int) (v29 : List Int) (v30 : Int) : Option (Bool) := (spec_l06Is_T v27 v28 v29 v30).run
def spec_l06Is_enc (v27 : Int) (v28 : Int) (v29 : List Int) (v30 : Int) (y : Bool) : Rs := (.bool y, [])
theorem spec_l06Is_den (v27 : Int) (v28 : Int) (v29 : List Int) (v30 : Int) : (den TT (tabD spec_l06Is_tab) (tabM spec_l06Is_tab) (spec_l06Is_LO v27 v28 v29 v30) (codeOf Try.f60) ([.bptr (BR.root 0) [.int .i64 v27, .int .i64 v28, .bslc (BR.root 1) (.i64 v29)], .int .i64 v30] ++ List.replicate (Try.f60.ntmps - ([.bptr (BR.root 0) [.int .i64 v27, .int .i64 v28, .bslc (BR.root 1) (.i64 v29)], .int .i64 v30] : List DV).length) .undef) []).bind (retD TT Try.f60.results.toList 0) = (spec_l06Is_T v27 v28 v29 v30).bind fun y => .leaf (spec_l06Is_enc v27 v28 v29 v30 y) := by kernel_rfl
theorem spec_l06Is_fn (v27 : Int) (v28 : Int) (v29 : List Int) (v30 : Int) (F : Fr) (h0 : St F [] F.H0) (hA : DVs.Ok F [] [.bptr (BR.root 0) [.int .i64 v27, .int .i64 v28, .bslc (BR.root 1) (.i64 v29)], .int .i64 v30]) {y : Bool} (hy : spec_l06Is_g v27 v28 v29 v30 = some y) : ∃ F' H', Fwd 0 F F' [] (spec_l06Is_enc v27 v28 v29 v30 y).2 ∧ FnOk Try.prog 60 (DVs.av F [.bptr (BR.root 0) [.int .i64 v27, .int .i64 v28, .bslc (BR.root 1) (.i64 v29)], .int .i64 v30]) F.H0 ((spec_l06Is_enc v27 v28 v29 v30 y).1.av F') H' ∧ St F' (spec_l06Is_enc v27 v28 v29 v30 y).2 H' ∧ (spec_l06Is_enc v27 v28 v29 v30 y).1.Ok F' (spec_l06Is_enc v27 v28 v29 v30 y).2 :=
  fn_fin tok spec_l06Is_hO mixed Try.func60 Try.call60 (by kernel_rfl) (LoopsOk_eq (l := []) (by kernel_rfl) trivial) (spec_l06Is_den v27 v28 v29 v30) hy h0 hA
noncomputable def spec_l06Is_F : DFn := fun args L =>
  match args with
  | [a1, .int .i64 v30] =>
    optT (cellsOf L 3 a1) fun cs0 =>
    (match cs0 with
    | [.int .i64 v27, .int .i64 v28, a2] =>
    optT (rowI64 L a2) fun v29 =>
    .call (spec_l06Is_g v27 v28 v29 v30) fun y => .leaf (.bool y, L)
    | _ => .fail)
  | _ => .fail
theorem spec_l06Is_Fok : COk Try.prog 60 spec_l06Is_F true := by
  intro F L H args r L' hs ha hr
  unfold spec_l06Is_F at hr
  split at hr
  · rename_i a1 v30
    obtain ⟨cs0, hcp0, hr⟩ := optT_run hr
    split at hr
    · rename_i v27 v28 a2
      obtain ⟨v29, hv29, hr⟩ := optT_run hr
      simp only [Tree.run] at hr
      obtain ⟨y, hy, hr⟩ := Option.bind_eq_some_iff.1 hr
      simp only [Tree.run, Option.some.injEq, Prod.mk.injEq] at hr
      obtain ⟨rfl, rfl⟩ := hr
      exact call_ok0 hs (fun k => (([a1.av F, a2.av F] : List AV)[k]?).getD .top) [a1, .int .i64 v30] [.bptr (BR.root 0) [.int .i64 v27, .int .i64 v28, .bslc (BR.root 1) (.i64 v29)], .int .i64 v30] (fun F' h0 hi hρ => ⟨by simp [DVs.av, DV.av, BR.av, hρ], spec_l06Is_fn v27 v28 v29 v30 F' (st_nil hi) ⟨bptr_ok hi (by rw [h0]; simpa [DVs.av, DV.av, BR.av, hρ] using (cellsOf_ok hs (DVs.okAt ha 0 rfl) hcp0).1) ⟨trivial, trivial, bslc_ok hi (by rw [h0, hρ]; exact rowI64_ok hs (DVs.okAt (cellsOf_ok hs (DVs.okAt ha 0 rfl) hcp0).2 2 rfl) hv29), trivial⟩, trivial, trivial⟩ hy⟩) rfl
    · cases hr
  · cases hr
/-! spec.l06Prime -/
noncomputable def spec_l06Prime_l0_T (v44 : Int) (s : Int) : Tree ((Int) ⊕ ((Unit) ⊕ (Unit))) :=
  (.br (decide (IntKind.i64.wrap (s * s) ≤ v44)) (
   (.br (decide (v44 ≤ (997 : Int))) (
    (.grd (!decide (s = 0)) <|
    (.br (decide (Int.tmod v44 s = (0 : Int))) (
     .leaf (.inr (.inl ()))
    ) (
     .leaf (.inl (IntKind.i64.wrap (s + (1 : Int))))
    )))
   ) (
    .leaf (.inr (.inr ()))
   ))
  ) (
   .leaf (.inr (.inr ()))
  ))

noncomputable def spec_l06Prime_l0_g (v44 : Int) (s0 : Int) : Option ((Unit) ⊕ (Unit)) := whileM (fun s => (spec_l06Prime_l0_T v44 s).run) s0
def spec_l06Prime_l0_E (v44 : Int) (s : Int) : Sd := ([.int .i64 v44, .top, .top, .int .i64 s, .top, .top, .top, .top, .top, .top, .top, .top, .top, .top, .top, .top, .top, .top, .top, .top, .top, .top, .top, .top, .top], [])
def spec_l06Prime_l0_X (v44 : Int) (x : (Unit) ⊕ (Unit)) : Out := (match x with | .inl x => (.ret, [.top, .top, .lit false, .top, .top, .top, .top, .top, .top, .top, .top, .top, .top, .top, .top, .top, .top, .top, .top, .top, .top, .top, .top, .top, .top], []) | .inr x => (.normal, [.int .i64 v44, .top, .top, .top, .top, .top, .top, .top, .top, .top, .top, .top, .top, .top, .top, .top, .top, .top, .top, .top, .top, .top, .top, .top, .top], []))
def spec_l06Prime_l0_kill : List Nat := [0, 1, 1, 0, 1, 1, 1, 1, 1, 1, 1, 1, 1, 1, 1, 1, 1, 1, 1, 1, 1, 1, 1, 1, 1]
def spec_l06Prime_l0_nx : Exit → List Nat
  | .exit 0 => [0, 1, 1, 1, 1, 1, 1, 1, 1, 1, 1, 1, 1, 1, 1, 1, 1, 1, 1, 1, 1, 1, 1, 1, 1]
  | .ret => [1, 1, 0, 1, 1, 1, 1, 1, 1, 1, 1, 1, 1, 1, 1, 1, 1, 1, 1, 1, 1, 1, 1, 1, 1]
  | _ => []
noncomputable def spec_l06Prime_LO (v44 : Int) : LOr := fun id e L =>
  match id with
  | 0 => .need (normA 0 spec_l06Prime_l0_kill e L = some (spec_l06Prime_l0_E v44 (gI (vAt e 3)))) (.call (spec_l06Prime_l0_g v44 (gI (vAt e 3))) fun x => .sum x (fun b0 => .leaf (spec_l06Prime_l0_X v44 (.inl b0))) (fun c0 => .leaf (spec_l06Prime_l0_X v44 (.inr c0))))
  | _ => .fail
noncomputable def spec_l06Prime_tab : List (FuncId × DFn × Bool) := []
theorem spec_l06Prime_hO : OrcOk Try.prog (tabD spec_l06Prime_tab) (tabM spec_l06Prime_tab) := tabD_nil _
theorem spec_l06Prime_l0_be (v44 : Int) (s : Int) : bodyT TT (tabD spec_l06Prime_tab) (tabM spec_l06Prime_tab) (spec_l06Prime_LO v44) 0 spec_l06Prime_l0_kill spec_l06Prime_l0_nx (bodyOf Try.f61 0) 0 (spec_l06Prime_l0_E v44 s) = (spec_l06Prime_l0_T v44 s).bind fun y => .leaf (outS (spec_l06Prime_l0_E v44) (spec_l06Prime_l0_X v44) y) := by kernel_rfl
theorem spec_l06Prime_l0_ok (v44 : Int) : LSound Try.prog 0 (spec_l06Prime_LO v44) 0 (bodyOf Try.f61 0) := by
  intro e L out h
  exact lo_ok (E := spec_l06Prime_l0_E v44) (gT := spec_l06Prime_l0_T v44) (X := spec_l06Prime_l0_X v44) (s0 := (gI (vAt e 3))) tok spec_l06Prime_hO mixed (LoopsOk_eq (l := []) (by kernel_rfl) trivial) (spec_l06Prime_l0_be v44) rfl (by intro x; (cases x with | inl b => rfl | inr x => exact rfl)) h
noncomputable def spec_l06Prime_T (v44 : Int) : Tree (Bool) :=
  (.need (some (spec_l06Prime_l0_E v44 (2 : Int)) = some (spec_l06Prime_l0_E v44 (2 : Int))) <|
  (.call (spec_l06Prime_l0_g v44 (2 : Int)) fun v48 =>
  (.sum v48 (fun v49 =>
   .leaf false
  ) (fun v50 =>
   (.br (decide ((2 : Int) ≤ v44)) (
    .leaf (decide (v44 ≤ (997 : Int)))
   ) (
    .leaf false
   ))
  ))))

noncomputable def spec_l06Prime_g (v44 : Int) : Option (Bool) := (spec_l06Prime_T v44).run
def spec_l06Prime_enc (v44 : Int) (y : Bool) : Rs := (.bool y, [])
theorem spec_l06Prime_den (v44 : Int) : (den TT (tabD spec_l06Prime_tab) (tabM spec_l06Prime_tab) (spec_l06Prime_LO v44) (codeOf Try.f61) ([.int .i64 v44] ++ List.replicate (Try.f61.ntmps - ([.int .i64 v44] : List DV).length) .undef) []).bind (retD TT Try.f61.results.toList 0) = (spec_l06Prime_T v44).bind fun y => .leaf (spec_l06Prime_enc v44 y) := by kernel_rfl
theorem spec_l06Prime_fn (v44 : Int) (F : Fr) (h0 : St F [] F.H0) (hA : DVs.Ok F [] [.int .i64 v44]) {y : Bool} (hy : spec_l06Prime_g v44 = some y) : ∃ F' H', Fwd 0 F F' [] (spec_l06Prime_enc v44 y).2 ∧ FnOk Try.prog 61 (DVs.av F [.int .i64 v44]) F.H0 ((spec_l06Prime_enc v44 y).1.av F') H' ∧ St F' (spec_l06Prime_enc v44 y).2 H' ∧ (spec_l06Prime_enc v44 y).1.Ok F' (spec_l06Prime_enc v44 y).2 :=
  fn_fin tok spec_l06Prime_hO mixed Try.func61 Try.call61 (by kernel_rfl) (LoopsOk_eq (l := [(0, bodyOf Try.f61 0)]) (by kernel_rfl) ⟨spec_l06Prime_l0_ok v44, trivial⟩) (spec_l06Prime_den v44) hy h0 hA
noncomputable def spec_l06Prime_F : DFn := fun args L =>
  match args with
  | [.int .i64 v44] =>
    .call (spec_l06Prime_g v44) fun y => .leaf (.bool y, L)
  | _ => .fail
theorem spec_l06Prime_Fok : COk Try.prog 61 spec_l06Prime_F true := by
  intro F L H args r L' hs ha hr
  unfold spec_l06Prime_F at hr
  split at hr
  · rename_i v44
    simp only [Tree.run] at hr
    obtain ⟨y, hy, hr⟩ := Option.bind_eq_some_iff.1 hr
    simp only [Tree.run, Option.some.injEq, Prod.mk.injEq] at hr
    obtain ⟨rfl, rfl⟩ := hr
    exact call_ok0 hs (fun k => (([] : List AV)[k]?).getD .top) [.int .i64 v44] [.int .i64 v44] (fun F' h0 hi hρ => ⟨by simp [DVs.av, DV.av, BR.av, hρ], spec_l06Prime_fn v44 F' (st_nil hi) ⟨trivial, trivial⟩ hy⟩) rfl
  · cases hr
/-! spec.l06At -/
noncomputable def spec_l06At_LO (v60 : Int) (v61 : Int) (v62 : List Int) (v63 : Int) (v64 : Int) : LOr := fun id e L =>
  match id with
  | _ => .fail
noncomputable def spec_l06At_tab : List (FuncId × DFn × Bool) := []
theorem spec_l06At_hO : OrcOk Try.prog (tabD spec_l06At_tab) (tabM spec_l06At_tab) := tabD_nil _
noncomputable def spec_l06At_T (v61 : Int) (v62 : List Int) (v63 : Int) (v64 : Int) : Tree (Int) :=
  (.grd (inb (IntKind.i64.wrap ((IntKind.i64.wrap (v63 * v61)) + v64)) v62.length) <|
  .leaf (nth v62 (Int.toNat (IntKind.i64.wrap ((IntKind.i64.wrap (v63 * v61)) + v64)))))

noncomputable def spec_l06At_g (v61 : Int) (v62 : List Int) (v63 : Int) (v64 : Int) : Option (Int) := (spec_l06At_T v61 v62 v63 v64).run
def spec_l06At_enc (v60 : Int) (v61 : Int) (v62 : List Int) (v63 : Int) (v64 : Int) (y : Int) : Rs := (.int .i64 y, [])
theorem spec_l06At_den (v60 : Int) (v61 : Int) (v62 : List Int) (v63 : Int) (v64 : Int) : (den TT (tabD spec_l06At_tab) (tabM spec_l06At_tab) (spec_l06At_LO v60 v61 v62 v63 v64) (codeOf Try.f124) ([.bptr (BR.root 0) [.int .i64 v60, .int .i64 v61, .bslc (BR.root 1) (.i64 v62)], .int .i64 v63, .int .i64 v64] ++ List.replicate (Try.f124.ntmps - ([.bptr (BR.root 0) [.int .i64 v60, .int .i64 v61, .bslc (BR.root 1) (.i64 v62)], .int .i64 v63, .int .i64 v64] : List DV).length) .undef) []).bind (retD TT Try.f124.results.toList 0) = (spec_l06At_T v61 v62 v63 v64).bind fun y => .leaf (spec_l06At_enc v60 v61 v62 v63 v64 y) := by kernel_rfl
theorem spec_l06At_fn (v60 : Int) (v61 : Int) (v62 : List Int) (v63 : Int) (v64 : Int) (F : Fr) (h0 : St F [] F.H0) (hA : DVs.Ok F [] [.bptr (BR.root 0) [.int .i64 v60, .int .i64 v61, .bslc (BR.root 1) (.i64 v62)], .int .i64 v63, .int .i64 v64]) {y : Int} (hy : spec_l06At_g v61 v62 v63 v64 = some y) : ∃ F' H', Fwd 0 F F' [] (spec_l06At_enc v60 v61 v62 v63 v64 y).2 ∧ FnOk Try.prog 124 (DVs.av F [.bptr (BR.root 0) [.int .i64 v60, .int .i64 v61, .bslc (BR.root 1) (.i64 v62)], .int .i64 v63, .int .i64 v64]) F.H0 ((spec_l06At_enc v60 v61 v62 v63 v64 y).1.av F') H' ∧ St F' (spec_l06At_enc v60 v61 v62 v63 v64 y).2 H' ∧ (spec_l06At_enc v60 v61 v62 v63 v64 y).1.Ok F' (spec_l06At_enc v60 v61 v62 v63 v64 y).2 :=
  fn_fin tok spec_l06At_hO mixed Try.func124 Try.call124 (by kernel_rfl) (LoopsOk_eq (l := []) (by kernel_rfl) trivial) (spec_l06At_den v60 v61 v62 v63 v64) hy h0 hA
noncomputable def spec_l06At_F : DFn := fun args L =>
  match args with
  | [a1, .int .i64 v63, .int .i64 v64] =>
    optT (cellsOf L 3 a1) fun cs0 =>
    (match cs0 with
    | [.int .i64 v60, .int .i64 v61, a2] =>
    optT (rowI64 L a2) fun v62 =>
    .call (spec_l06At_g v61 v62 v63 v64) fun y => .leaf (.int .i64 y, L)
    | _ => .fail)
  | _ => .fail
theorem spec_l06At_Fok : COk Try.prog 124 spec_l06At_F true := by
  intro F L H args r L' hs ha hr
  unfold spec_l06At_F at hr
  split at hr
  · rename_i a1 v63 v64
    obtain ⟨cs0, hcp0, hr⟩ := optT_run hr
    split at hr
    · rename_i v60 v61 a2
      obtain ⟨v62, hv62, hr⟩ := optT_run hr
      simp only [Tree.run] at hr
      obtain ⟨y, hy, hr⟩ := Option.bind_eq_some_iff.1 hr
      simp only [Tree.run, Option.some.injEq, Prod.mk.injEq] at hr
      obtain ⟨rfl, rfl⟩ := hr
      exact call_ok0 hs (fun k => (([a1.av F, a2.av F] : List AV)[k]?).getD .top) [a1, .int .i64 v63, .int .i64 v64] [.bptr (BR.root 0) [.int .i64 v60, .int .i64 v61, .bslc (BR.root 1) (.i64 v62)], .int .i64 v63, .int .i64 v64] (fun F' h0 hi hρ => ⟨by simp [DVs.av, DV.av, BR.av, hρ], spec_l06At_fn v60 v61 v62 v63 v64 F' (st_nil hi) ⟨bptr_ok hi (by rw [h0]; simpa [DVs.av, DV.av, BR.av, hρ] using (cellsOf_ok hs (DVs.okAt ha 0 rfl) hcp0).1) ⟨trivial, trivial, bslc_ok hi (by rw [h0, hρ]; exact rowI64_ok hs (DVs.okAt (cellsOf_ok hs (DVs.okAt ha 0 rfl) hcp0).2 2 rfl) hv62), trivial⟩, trivial, trivial, trivial⟩ hy⟩) rfl
    · cases hr
  · cases hr
/-! spec.l06Mod -/
noncomputable def spec_l06Mod_LO (v66 : Int) (v67 : Int) : LOr := fun id e L =>
  match id with
  | _ => .fail
noncomputable def spec_l06Mod_tab : List (FuncId × DFn × Bool) := []
theorem spec_l06Mod_hO : OrcOk Try.prog (tabD spec_l06Mod_tab) (tabM spec_l06Mod_tab) := tabD_nil _
noncomputable def spec_l06Mod_T (v66 : Int) (v67 : Int) : Tree (Int) :=
  (.grd (!decide (v67 = 0)) <|
  (.br (decide (Int.tmod v66 v67 < (0 : Int))) (
   .leaf (IntKind.i64.wrap ((Int.tmod v66 v67) + v67))
  ) (
   .leaf (Int.tmod v66 v67)
  )))

noncomputable def spec_l06Mod_g (v66 : Int) (v67 : Int) : Option (Int) := (spec_l06Mod_T v66 v67).run
def spec_l06Mod_enc (v66 : Int) (v67 : Int) (y : Int) : Rs := (.int .i64 y, [])
theorem spec_l06Mod_den (v66 : Int) (v67 : Int) : (den TT (tabD spec_l06Mod_tab) (tabM spec_l06Mod_tab) (spec_l06Mod_LO v66 v67) (codeOf Try.f68) ([.int .i64 v66, .int .i64 v67] ++ List.replicate (Try.f68.ntmps - ([.int .i64 v66, .int .i64 v67] : List DV).length) .undef) []).bind (retD TT Try.f68.results.toList 0) = (spec_l06Mod_T v66 v67).bind fun y => .leaf (spec_l06Mod_enc v66 v67 y) := by kernel_rfl
theorem spec_l06Mod_fn (v66 : Int) (v67 : Int) (F : Fr) (h0 : St F [] F.H0) (hA : DVs.Ok F [] [.int .i64 v66, .int .i64 v67]) {y : Int} (hy : spec_l06Mod_g v66 v67 = some y) : ∃ F' H', Fwd 0 F F' [] (spec_l06Mod_enc v66 v67 y).2 ∧ FnOk Try.prog 68 (DVs.av F [.int .i64 v66, .int .i64 v67]) F.H0 ((spec_l06Mod_enc v66 v67 y).1.av F') H' ∧ St F' (spec_l06Mod_enc v66 v67 y).2 H' ∧ (spec_l06Mod_enc v66 v67 y).1.Ok F' (spec_l06Mod_enc v66 v67 y).2 :=
  fn_fin tok spec_l06Mod_hO mixed Try.func68 Try.call68 (by kernel_rfl) (LoopsOk_eq (l := []) (by kernel_rfl) trivial) (spec_l06Mod_den v66 v67) hy h0 hA
noncomputable def spec_l06Mod_F : DFn := fun args L =>
  match args with
  | [.int .i64 v66, .int .i64 v67] =>
    .call (spec_l06Mod_g v66 v67) fun y => .leaf (.int .i64 y, L)
  | _ => .fail
theorem spec_l06Mod_Fok : COk Try.prog 68 spec_l06Mod_F true := by
  intro F L H args r L' hs ha hr
  unfold spec_l06Mod_F at hr
  split at hr
  · rename_i v66 v67
    simp only [Tree.run] at hr
    obtain ⟨y, hy, hr⟩ := Option.bind_eq_some_iff.1 hr
    simp only [Tree.run, Option.some.injEq, Prod.mk.injEq] at hr
    obtain ⟨rfl, rfl⟩ := hr
    exact call_ok0 hs (fun k => (([] : List AV)[k]?).getD .top) [.int .i64 v66, .int .i64 v67] [.int .i64 v66, .int .i64 v67] (fun F' h0 hi hρ => ⟨by simp [DVs.av, DV.av, BR.av, hρ], spec_l06Mod_fn v66 v67 F' (st_nil hi) ⟨trivial, trivial, trivial⟩ hy⟩) rfl
  · cases hr
/-! spec.l06Back -/
noncomputable def spec_l06Back_l0_T (v153 : Int) (v154 : Int) (s : Int × Int) : Tree ((Int × Int) ⊕ (Int)) :=
  (.br (decide ((0 : Int) < s.2)) (
   (.grd (!decide (v154 = 0)) <|
   .leaf (.inl (Int.tmod (IntKind.i64.wrap (s.1 * v153)) v154, IntKind.i64.wrap (s.2 - (1 : Int)))))
  ) (
   .leaf (.inr s.1)
  ))

noncomputable def spec_l06Back_l0_g (v153 : Int) (v154 : Int) (s0 : Int × Int) : Option (Int) := whileM (fun s => (spec_l06Back_l0_T v153 v154 s).run) s0
def spec_l06Back_l0_E (v153 : Int) (v154 : Int) (s : Int × Int) : Sd := ([.int .i64 v153, .int .i64 v154, .top, .top, .top, .int .i64 s.1, .int .i64 s.2, .top, .top, .top, .top, .top, .top, .top, .top, .top, .top, .top, .top], [])
def spec_l06Back_l0_X (v153 : Int) (v154 : Int) (x : Int) : Out := (.normal, [.top, .top, .top, .top, .top, .int .i64 x, .top, .top, .top, .top, .top, .top, .top, .top, .top, .top, .top, .top, .top], [])
def spec_l06Back_l0_kill : List Nat := [0, 0, 1, 1, 1, 0, 0, 1, 1, 1, 1, 1, 1, 1, 1, 1, 1, 1, 1]
def spec_l06Back_l0_nx : Exit → List Nat
  | .exit 0 => [1, 1, 1, 1, 1, 0, 1, 1, 1, 1, 1, 1, 1, 1, 1, 1, 1, 1, 1]
  | .ret => [1, 1, 1, 1, 0, 1, 1, 1, 1, 1, 1, 1, 1, 1, 1, 1, 1, 1, 1]
  | _ => []
noncomputable def spec_l06Back_LO (v153 : Int) (v154 : Int) : LOr := fun id e L =>
  match id with
  | 0 => .need (normA 0 spec_l06Back_l0_kill e L = some (spec_l06Back_l0_E v153 v154 ((gI (vAt e 5)), (gI (vAt e 6))))) (.call (spec_l06Back_l0_g v153 v154 ((gI (vAt e 5)), (gI (vAt e 6)))) fun x => .leaf (spec_l06Back_l0_X v153 v154 x))
  | _ => .fail
noncomputable def spec_l06Back_tab : List (FuncId × DFn × Bool) := []
theorem spec_l06Back_hO : OrcOk Try.prog (tabD spec_l06Back_tab) (tabM spec_l06Back_tab) := tabD_nil _
theorem spec_l06Back_l0_be (v153 : Int) (v154 : Int) (s : Int × Int) : bodyT TT (tabD spec_l06Back_tab) (tabM spec_l06Back_tab) (spec_l06Back_LO v153 v154) 0 spec_l06Back_l0_kill spec_l06Back_l0_nx (bodyOf Try.f125 0) 0 (spec_l06Back_l0_E v153 v154 s) = (spec_l06Back_l0_T v153 v154 s).bind fun y => .leaf (outS (spec_l06Back_l0_E v153 v154) (spec_l06Back_l0_X v153 v154) y) := by kernel_rfl
theorem spec_l06Back_l0_ok (v153 : Int) (v154 : Int) : LSound Try.prog 0 (spec_l06Back_LO v153 v154) 0 (bodyOf Try.f125 0) := by
  intro e L out h
  exact lo_ok (E := spec_l06Back_l0_E v153 v154) (gT := spec_l06Back_l0_T v153 v154) (X := spec_l06Back_l0_X v153 v154) (s0 := ((gI (vAt e 5)), (gI (vAt e 6)))) tok spec_l06Back_hO mixed (LoopsOk_eq (l := []) (by kernel_rfl) trivial) (spec_l06Back_l0_be v153 v154) rfl (by intro x; rfl) h
noncomputable def spec_l06Back_T (v153 : Int) (v154 : Int) : Tree (Int) :=
  (.need (some (spec_l06Back_l0_E v153 v154 ((1 : Int), IntKind.i64.wrap (v154 - (2 : Int)))) = some (spec_l06Back_l0_E v153 v154 ((1 : Int), IntKind.i64.wrap (v154 - (2 : Int))))) <|
  (.call (spec_l06Back_l0_g v153 v154 ((1 : Int), IntKind.i64.wrap (v154 - (2 : Int)))) fun v161 =>
  .leaf v161))

noncomputable def spec_l06Back_g (v153 : Int) (v154 : Int) : Option (Int) := (spec_l06Back_T v153 v154).run
def spec_l06Back_enc (v153 : Int) (v154 : Int) (y : Int) : Rs := (.int .i64 y, [])
theorem spec_l06Back_den (v153 : Int) (v154 : Int) : (den TT (tabD spec_l06Back_tab) (tabM spec_l06Back_tab) (spec_l06Back_LO v153 v154) (codeOf Try.f125) ([.int .i64 v153, .int .i64 v154] ++ List.replicate (Try.f125.ntmps - ([.int .i64 v153, .int .i64 v154] : List DV).length) .undef) []).bind (retD TT Try.f125.results.toList 0) = (spec_l06Back_T v153 v154).bind fun y => .leaf (spec_l06Back_enc v153 v154 y) := by kernel_rfl
theorem spec_l06Back_fn (v153 : Int) (v154 : Int) (F : Fr) (h0 : St F [] F.H0) (hA : DVs.Ok F [] [.int .i64 v153, .int .i64 v154]) {y : Int} (hy : spec_l06Back_g v153 v154 = some y) : ∃ F' H', Fwd 0 F F' [] (spec_l06Back_enc v153 v154 y).2 ∧ FnOk Try.prog 125 (DVs.av F [.int .i64 v153, .int .i64 v154]) F.H0 ((spec_l06Back_enc v153 v154 y).1.av F') H' ∧ St F' (spec_l06Back_enc v153 v154 y).2 H' ∧ (spec_l06Back_enc v153 v154 y).1.Ok F' (spec_l06Back_enc v153 v154 y).2 :=
  fn_fin tok spec_l06Back_hO mixed Try.func125 Try.call125 (by kernel_rfl) (LoopsOk_eq (l := [(0, bodyOf Try.f125 0)]) (by kernel_rfl) ⟨spec_l06Back_l0_ok v153 v154, trivial⟩) (spec_l06Back_den v153 v154) hy h0 hA
noncomputable def spec_l06Back_F : DFn := fun args L =>
  match args with
  | [.int .i64 v153, .int .i64 v154] =>
    .call (spec_l06Back_g v153 v154) fun y => .leaf (.int .i64 y, L)
  | _ => .fail
theorem spec_l06Back_Fok : COk Try.prog 125 spec_l06Back_F true := by
  intro F L H args r L' hs ha hr
  unfold spec_l06Back_F at hr
  split at hr
  · rename_i v153 v154
    simp only [Tree.run] at hr
    obtain ⟨y, hy, hr⟩ := Option.bind_eq_some_iff.1 hr
    simp only [Tree.run, Option.some.injEq, Prod.mk.injEq] at hr
    obtain ⟨rfl, rfl⟩ := hr
    exact call_ok0 hs (fun k => (([] : List AV)[k]?).getD .top) [.int .i64 v153, .int .i64 v154] [.int .i64 v153, .int .i64 v154] (fun F' h0 hi hρ => ⟨by simp [DVs.av, DV.av, BR.av, hρ], spec_l06Back_fn v153 v154 F' (st_nil hi) ⟨trivial, trivial, trivial⟩ hy⟩) rfl
  · cases hr
/-! spec.l06Over -/
noncomputable def spec_l06Over_l2_T (v53 : Int) (v54 : List Int) (v56 : Int) (v122 : Int) (v124 : List (List Int)) (v125 : List Nat) (s : Int × (List Int)) : Tree ((Int × (List Int)) ⊕ ((List Int))) :=
  (.br (decide (s.1 < v53)) (
   (.call (spec_l06At_g v53 v54 v122 s.1) fun v127 =>
   (.call (spec_l06Mod_g v127 v56) fun v128 =>
   (.grd (fits (s.2 ++ ([v128] : List Int)).length) <|
   .leaf (.inl (IntKind.i64.wrap (s.1 + (1 : Int)), s.2 ++ ([v128] : List Int))))))
  ) (
   .leaf (.inr s.2)
  ))

noncomputable def spec_l06Over_l2_g (v53 : Int) (v54 : List Int) (v56 : Int) (v122 : Int) (v124 : List (List Int)) (v125 : List Nat) (s0 : Int × (List Int)) : Option ((List Int)) := whileM (fun s => (spec_l06Over_l2_T v53 v54 v56 v122 v124 v125 s).run) s0
def spec_l06Over_l2_E (v52 : Int) (v53 : Int) (v54 : List Int) (v55 : List Int) (v56 : Int) (v122 : Int) (v124 : List (List Int)) (v125 : List Nat) (s : Int × (List Int)) : Sd := ([.bptr (BR.root 0) [.int .i64 v52, .int .i64 v53, .bslc (BR.root 1) (.i64 v54)], .bslc (BR.root 2) (.i64 v55), .int .i64 v56, .top, .top, .top, .top, .top, .top, .nest 0 0 1 ((v125).length), .int .i64 v122, .own 1 0 ((s.2).length), .int .i64 s.1, .top, .top, .top, .top, .top, .top, .top, .top, .top, .top, .top, .top, .top, .top, .top, .top, .top, .top, .top, .top, .top, .top, .top, .top, .top, .top, .top, .top, .top, .top, .top, .top, .top, .top, .top, .top, .top, .top, .top, .top, .top, .top, .top, .top, .top, .top, .top, .top, .top, .top, .top, .top, .top, .top, .top, .top, .top, .top, .top, .top, .top, .top, .top, .top, .top, .top, .top, .top, .top, .top, .top, .top, .top, .top, .top, .top, .top, .top, .top, .top, .top, .top, .top, .top, .top, .top, .top, .top, .top, .top, .top, .top, .top, .top, .top, .top, .top, .top, .top, .top, .top, .top, .top, .top, .top, .top, .top, .top, .top, .top, .top, .top, .top, .top, .top, .top, .top, .top, .top, .top, .top, .top, .top, .top, .top, .top, .top, .top, .top, .top, .top, .top, .top, .top, .top, .top, .top, .top, .top, .top, .top, .top, .top, .top, .top, .top, .top, .top, .top, .top, .top, .top, .top, .top, .top, .top, .top, .top, .top, .top, .top, .top, .top, .top, .top, .top, .top, .top, .top, .top, .top, .top, .top, .top, .top, .top, .top, .top, .top, .top, .top, .top, .top, .top, .top, .top, .top, .top, .top, .top, .top, .top, .top, .top, .top, .top, .top, .top, .top, .top, .top, .top, .top, .top, .top, .top, .top, .top, .top, .top, .top, .top, .top], [.nest [.sl (.i64 v124) v125] false 0, .row (.i64 s.2) 0])
def spec_l06Over_l2_X (v52 : Int) (v53 : Int) (v54 : List Int) (v55 : List Int) (v56 : Int) (v122 : Int) (v124 : List (List Int)) (v125 : List Nat) (x : (List Int)) : Out := (.normal, [.bptr (BR.root 0) [.int .i64 v52, .int .i64 v53, .bslc (BR.root 1) (.i64 v54)], .bslc (BR.root 2) (.i64 v55), .int .i64 v56, .top, .top, .top, .top, .top, .top, .nest 0 0 1 ((v125).length), .int .i64 v122, .own 1 0 ((x).length), .top, .top, .top, .top, .top, .top, .top, .top, .top, .top, .top, .top, .top, .top, .top, .top, .top, .top, .top, .top, .top, .top, .top, .top, .top, .top, .top, .top, .top, .top, .top, .top, .top, .top, .top, .top, .top, .top, .top, .top, .top, .top, .top, .top, .top, .top, .top, .top, .top, .top, .top, .top, .top, .top, .top, .top, .top, .top, .top, .top, .top, .top, .top, .top, .top, .top, .top, .top, .top, .top, .top, .top, .top, .top, .top, .top, .top, .top, .top, .top, .top, .top, .top, .top, .top, .top, .top, .top, .top, .top, .top, .top, .top, .top, .top, .top, .top, .top, .top, .top, .top, .top, .top, .top, .top, .top, .top, .top, .top, .top, .top, .top, .top, .top, .top, .top, .top, .top, .top, .top, .top, .top, .top, .top, .top, .top, .top, .top, .top, .top, .top, .top, .top, .top, .top, .top, .top, .top, .top, .top, .top, .top, .top, .top, .top, .top, .top, .top, .top, .top, .top, .top, .top, .top, .top, .top, .top, .top, .top, .top, .top, .top, .top, .top, .top, .top, .top, .top, .top, .top, .top, .top, .top, .top, .top, .top, .top, .top, .top, .top, .top, .top, .top, .top, .top, .top, .top, .top, .top, .top, .top, .top, .top, .top, .top, .top, .top, .top, .top, .top, .top, .top, .top, .top, .top, .top, .top, .top, .top, .top, .top, .top, .top, .top], [.nest [.sl (.i64 v124) v125] false 0, .row (.i64 x) 0])
def spec_l06Over_l2_kill : List Nat := [0, 0, 0, 1, 1, 1, 1, 1, 1, 0, 0, 0, 0, 1, 1, 1, 1, 1, 1, 1, 1, 1, 1, 1, 1, 1, 1, 1, 1, 1, 1, 1, 1, 1, 1, 1, 1, 1, 1, 1, 1, 1, 1, 1, 1, 1, 1, 1, 1, 1, 1, 1, 1, 1, 1, 1, 1, 1, 1, 1, 1, 1, 1, 1, 1, 1, 1, 1, 1, 1, 1, 1, 1, 1, 1, 1, 1, 1, 1, 1, 1, 1, 1, 1, 1, 1, 1, 1, 1, 1, 1, 1, 1, 1, 1, 1, 1, 1, 1, 1, 1, 1, 1, 1, 1, 1, 1, 1, 1, 1, 1, 1, 1, 1, 1, 1, 1, 1, 1, 1, 1, 1, 1, 1, 1, 1, 1, 1, 1, 1, 1, 1, 1, 1, 1, 1, 1, 1, 1, 1, 1, 1, 1, 1, 1, 1, 1, 1, 1, 1, 1, 1, 1, 1, 1, 1, 1, 1, 1, 1, 1, 1, 1, 1, 1, 1, 1, 1, 1, 1, 1, 1, 1, 1, 1, 1, 1, 1, 1, 1, 1, 1, 1, 1, 1, 1, 1, 1, 1, 1, 1, 1, 1, 1, 1, 1, 1, 1, 1, 1, 1, 1, 1, 1, 1, 1, 1, 1, 1, 1, 1, 1, 1, 1, 1, 1, 1, 1, 1, 1, 1, 1, 1, 1, 1, 1]
def spec_l06Over_l2_nx : Exit → List Nat
  | .exit 0 => [0, 1, 0, 1, 1, 1, 1, 1, 1, 0, 1, 1, 1, 1, 1, 1, 1, 1, 1, 1, 1, 1, 1, 1, 1, 1, 1, 1, 1, 1, 1, 1, 1, 1, 1, 1, 1, 1, 1, 1, 1, 1, 1, 1, 1, 1, 1, 1, 1, 1, 1, 1, 1, 1, 1, 1, 1, 1, 1, 1, 1, 1, 1, 1, 1, 1, 1, 1, 1, 1, 1, 1, 1, 1, 1, 1, 1, 1, 1, 1, 1, 1, 1, 1, 1, 1, 1, 1, 1, 1, 1, 1, 1, 1, 1, 1, 1, 1, 1, 1, 1, 1, 1, 1, 1, 1, 1, 1, 1, 1, 1, 1, 1, 1, 1, 1, 1, 1, 1, 1, 1, 1, 1, 1, 1, 1, 1, 1, 1, 1, 1, 1, 1, 1, 1, 1, 1, 1, 1, 1, 1, 1, 1, 1, 1, 1, 1, 1, 1, 1, 1, 1, 1, 1, 1, 1, 1, 1, 1, 1, 1, 1, 1, 1, 1, 1, 1, 1, 1, 1, 1, 1, 1, 1, 1, 1, 1, 1, 1, 1, 1, 1, 1, 1, 1, 1, 1, 1, 1, 1, 1, 1, 1, 1, 1, 1, 1, 1, 1, 1, 1, 1, 1, 1, 1, 1, 1, 1, 1, 1, 1, 1, 1, 1, 1, 1, 1, 1, 1, 1, 1, 1, 1, 1, 1, 1]
  | .exit 1 => [0, 0, 0, 1, 1, 1, 1, 1, 1, 0, 0, 1, 1, 1, 1, 1, 1, 1, 1, 1, 1, 1, 1, 1, 1, 1, 1, 1, 1, 1, 1, 1, 1, 1, 1, 1, 1, 1, 1, 1, 1, 1, 1, 1, 1, 1, 1, 1, 1, 1, 1, 1, 1, 1, 1, 1, 1, 1, 1, 1, 1, 1, 1, 1, 1, 1, 1, 1, 1, 1, 1, 1, 1, 1, 1, 1, 1, 1, 1, 1, 1, 1, 1, 1, 1, 1, 1, 1, 1, 1, 1, 1, 1, 1, 1, 1, 1, 1, 1, 1, 1, 1, 1, 1, 1, 1, 1, 1, 1, 1, 1, 1, 1, 1, 1, 1, 1, 1, 1, 1, 1, 1, 1, 1, 1, 1, 1, 1, 1, 1, 1, 1, 1, 1, 1, 1, 1, 1, 1, 1, 1, 1, 1, 1, 1, 1, 1, 1, 1, 1, 1, 1, 1, 1, 1, 1, 1, 1, 1, 1, 1, 1, 1, 1, 1, 1, 1, 1, 1, 1, 1, 1, 1, 1, 1, 1, 1, 1, 1, 1, 1, 1, 1, 1, 1, 1, 1, 1, 1, 1, 1, 1, 1, 1, 1, 1, 1, 1, 1, 1, 1, 1, 1, 1, 1, 1, 1, 1, 1, 1, 1, 1, 1, 1, 1, 1, 1, 1, 1, 1, 1, 1, 1, 1, 1, 1]
  | .exit 2 => [0, 0, 0, 1, 1, 1, 1, 1, 1, 0, 0, 0, 1, 1, 1, 1, 1, 1, 1, 1, 1, 1, 1, 1, 1, 1, 1, 1, 1, 1, 1, 1, 1, 1, 1, 1, 1, 1, 1, 1, 1, 1, 1, 1, 1, 1, 1, 1, 1, 1, 1, 1, 1, 1, 1, 1, 1, 1, 1, 1, 1, 1, 1, 1, 1, 1, 1, 1, 1, 1, 1, 1, 1, 1, 1, 1, 1, 1, 1, 1, 1, 1, 1, 1, 1, 1, 1, 1, 1, 1, 1, 1, 1, 1, 1, 1, 1, 1, 1, 1, 1, 1, 1, 1, 1, 1, 1, 1, 1, 1, 1, 1, 1, 1, 1, 1, 1, 1, 1, 1, 1, 1, 1, 1, 1, 1, 1, 1, 1, 1, 1, 1, 1, 1, 1, 1, 1, 1, 1, 1, 1, 1, 1, 1, 1, 1, 1, 1, 1, 1, 1, 1, 1, 1, 1, 1, 1, 1, 1, 1, 1, 1, 1, 1, 1, 1, 1, 1, 1, 1, 1, 1, 1, 1, 1, 1, 1, 1, 1, 1, 1, 1, 1, 1, 1, 1, 1, 1, 1, 1, 1, 1, 1, 1, 1, 1, 1, 1, 1, 1, 1, 1, 1, 1, 1, 1, 1, 1, 1, 1, 1, 1, 1, 1, 1, 1, 1, 1, 1, 1, 1, 1, 1, 1, 1, 1]
  | .ret => [1, 1, 1, 1, 1, 1, 0, 0, 0, 1, 1, 1, 1, 1, 1, 1, 1, 1, 1, 1, 1, 1, 1, 1, 1, 1, 1, 1, 1, 1, 1, 1, 1, 1, 1, 1, 1, 1, 1, 1, 1, 1, 1, 1, 1, 1, 1, 1, 1, 1, 1, 1, 1, 1, 1, 1, 1, 1, 1, 1, 1, 1, 1, 1, 1, 1, 1, 1, 1, 1, 1, 1, 1, 1, 1, 1, 1, 1, 1, 1, 1, 1, 1, 1, 1, 1, 1, 1, 1, 1, 1, 1, 1, 1, 1, 1, 1, 1, 1, 1, 1, 1, 1, 1, 1, 1, 1, 1, 1, 1, 1, 1, 1, 1, 1, 1, 1, 1, 1, 1, 1, 1, 1, 1, 1, 1, 1, 1, 1, 1, 1, 1, 1, 1, 1, 1, 1, 1, 1, 1, 1, 1, 1, 1, 1, 1, 1, 1, 1, 1, 1, 1, 1, 1, 1, 1, 1, 1, 1, 1, 1, 1, 1, 1, 1, 1, 1, 1, 1, 1, 1, 1, 1, 1, 1, 1, 1, 1, 1, 1, 1, 1, 1, 1, 1, 1, 1, 1, 1, 1, 1, 1, 1, 1, 1, 1, 1, 1, 1, 1, 1, 1, 1, 1, 1, 1, 1, 1, 1, 1, 1, 1, 1, 1, 1, 1, 1, 1, 1, 1, 1, 1, 1, 1, 1, 1]
  | _ => []
noncomputable def spec_l06Over_l0_T (v52 : Int) (v53 : Int) (v54 : List Int) (v55 : List Int) (v56 : Int) (s : Int × (List (List Int)) × (List Nat)) : Tree ((Int × (List (List Int)) × (List Nat)) ⊕ ((List (List Int)) × (List Nat))) :=
  (.br (decide (s.1 < v52)) (
   (.need (some (spec_l06Over_l2_E v52 v53 v54 v55 v56 s.1 s.2.1 s.2.2 ((0 : Int), ([] : List Int))) = some (spec_l06Over_l2_E v52 v53 v54 v55 v56 s.1 s.2.1 s.2.2 ((0 : Int), ([] : List Int)))) <|
   (.call (spec_l06Over_l2_g v53 v54 v56 s.1 s.2.1 s.2.2 ((0 : Int), ([] : List Int))) fun v129 =>
   (.br (decide ((0 : Int) < ((v55.length : Nat) : Int))) (
    (.grd (inb s.1 v55.length) <|
    (.call (spec_l06Mod_g (nth v55 (Int.toNat s.1)) v56) fun v130 =>
    (.grd (fits (v129 ++ ([v130] : List Int)).length) <|
    (.grd (fits (((s.2.2).length) + (1 : Nat))) <|
    .leaf (.inl (IntKind.i64.wrap (s.1 + (1 : Int)), s.2.1 ++ ([v129 ++ ([v130] : List Int)] : List (List Int)), s.2.2 ++ [s.2.1.length + 1]))))))
   ) (
    (.grd (fits (((s.2.2).length) + (1 : Nat))) <|
    .leaf (.inl (IntKind.i64.wrap (s.1 + (1 : Int)), s.2.1 ++ ([v129] : List (List Int)), s.2.2 ++ [s.2.1.length + 1])))
   ))))
  ) (
   .leaf (.inr (s.2.1, s.2.2))
  ))

noncomputable def spec_l06Over_l0_g (v52 : Int) (v53 : Int) (v54 : List Int) (v55 : List Int) (v56 : Int) (s0 : Int × (List (List Int)) × (List Nat)) : Option ((List (List Int)) × (List Nat)) := whileM (fun s => (spec_l06Over_l0_T v52 v53 v54 v55 v56 s).run) s0
def spec_l06Over_l0_E (v52 : Int) (v53 : Int) (v54 : List Int) (v55 : List Int) (v56 : Int) (s : Int × (List (List Int)) × (List Nat)) : Sd := ([.bptr (BR.root 0) [.int .i64 v52, .int .i64 v53, .bslc (BR.root 1) (.i64 v54)], .bslc (BR.root 2) (.i64 v55), .int .i64 v56, .top, .top, .top, .top, .top, .top, .nest 0 0 1 ((s.2.2).length), .int .i64 s.1, .top, .top, .top, .top, .top, .top, .top, .top, .top, .top, .top, .top, .top, .top, .top, .top, .top, .top, .top, .top, .top, .top, .top, .top, .top, .top, .top, .top, .top, .top, .top, .top, .top, .top, .top, .top, .top, .top, .top, .top, .top, .top, .top, .top, .top, .top, .top, .top, .top, .top, .top, .top, .top, .top, .top, .top, .top, .top, .top, .top, .top, .top, .top, .top, .top, .top, .top, .top, .top, .top, .top, .top, .top, .top, .top, .top, .top, .top, .top, .top, .top, .top, .top, .top, .top, .top, .top, .top, .top, .top, .top, .top, .top, .top, .top, .top, .top, .top, .top, .top, .top, .top, .top, .top, .top, .top, .top, .top, .top, .top, .top, .top, .top, .top, .top, .top, .top, .top, .top, .top, .top, .top, .top, .top, .top, .top, .top, .top, .top, .top, .top, .top, .top, .top, .top, .top, .top, .top, .top, .top, .top, .top, .top, .top, .top, .top, .top, .top, .top, .top, .top, .top, .top, .top, .top, .top, .top, .top, .top, .top, .top, .top, .top, .top, .top, .top, .top, .top, .top, .top, .top, .top, .top, .top, .top, .top, .top, .top, .top, .top, .top, .top, .top, .top, .top, .top, .top, .top, .top, .top, .top, .top, .top, .top, .top, .top, .top, .top, .top, .top, .top, .top, .top, .top, .top, .top, .top, .top, .top, .top, .top, .top, .top, .top, .top], [.nest [.sl (.i64 s.2.1) s.2.2] false 0])
def spec_l06Over_l0_X (v52 : Int) (v53 : Int) (v54 : List Int) (v55 : List Int) (v56 : Int) (x : (List (List Int)) × (List Nat)) : Out := (.normal, [.bptr (BR.root 0) [.int .i64 v52, .int .i64 v53, .bslc (BR.root 1) (.i64 v54)], .top, .int .i64 v56, .top, .top, .top, .top, .top, .top, .nest 0 0 1 ((x.2).length), .top, .top, .top, .top, .top, .top, .top, .top, .top, .top, .top, .top, .top, .top, .top, .top, .top, .top, .top, .top, .top, .top, .top, .top, .top, .top, .top, .top, .top, .top, .top, .top, .top, .top, .top, .top, .top, .top, .top, .top, .top, .top, .top, .top, .top, .top, .top, .top, .top, .top, .top, .top, .top, .top, .top, .top, .top, .top, .top, .top, .top, .top, .top, .top, .top, .top, .top, .top, .top, .top, .top, .top, .top, .top, .top, .top, .top, .top, .top, .top, .top, .top, .top, .top, .top, .top, .top, .top, .top, .top, .top, .top, .top, .top, .top, .top, .top, .top, .top, .top, .top, .top, .top, .top, .top, .top, .top, .top, .top, .top, .top, .top, .top, .top, .top, .top, .top, .top, .top, .top, .top, .top, .top, .top, .top, .top, .top, .top, .top, .top, .top, .top, .top, .top, .top, .top, .top, .top, .top, .top, .top, .top, .top, .top, .top, .top, .top, .top, .top, .top, .top, .top, .top, .top, .top, .top, .top, .top, .top, .top, .top, .top, .top, .top, .top, .top, .top, .top, .top, .top, .top, .top, .top, .top, .top, .top, .top, .top, .top, .top, .top, .top, .top, .top, .top, .top, .top, .top, .top, .top, .top, .top, .top, .top, .top, .top, .top, .top, .top, .top, .top, .top, .top, .top, .top, .top, .top, .top, .top, .top, .top, .top, .top, .top, .top, .top], [.nest [.sl (.i64 x.1) x.2] false 0])
def spec_l06Over_l0_kill : List Nat := [0, 0, 0, 1, 1, 1, 1, 1, 1, 0, 0, 1, 1, 1, 1, 1, 1, 1, 1, 1, 1, 1, 1, 1, 1, 1, 1, 1, 1, 1, 1, 1, 1, 1, 1, 1, 1, 1, 1, 1, 1, 1, 1, 1, 1, 1, 1, 1, 1, 1, 1, 1, 1, 1, 1, 1, 1, 1, 1, 1, 1, 1, 1, 1, 1, 1, 1, 1, 1, 1, 1, 1, 1, 1, 1, 1, 1, 1, 1, 1, 1, 1, 1, 1, 1, 1, 1, 1, 1, 1, 1, 1, 1, 1, 1, 1, 1, 1, 1, 1, 1, 1, 1, 1, 1, 1, 1, 1, 1, 1, 1, 1, 1, 1, 1, 1, 1, 1, 1, 1, 1, 1, 1, 1, 1, 1, 1, 1, 1, 1, 1, 1, 1, 1, 1, 1, 1, 1, 1, 1, 1, 1, 1, 1, 1, 1, 1, 1, 1, 1, 1, 1, 1, 1, 1, 1, 1, 1, 1, 1, 1, 1, 1, 1, 1, 1, 1, 1, 1, 1, 1, 1, 1, 1, 1, 1, 1, 1, 1, 1, 1, 1, 1, 1, 1, 1, 1, 1, 1, 1, 1, 1, 1, 1, 1, 1, 1, 1, 1, 1, 1, 1, 1, 1, 1, 1, 1, 1, 1, 1, 1, 1, 1, 1, 1, 1, 1, 1, 1, 1, 1, 1, 1, 1, 1, 1]
def spec_l06Over_l0_nx : Exit → List Nat
  | .exit 0 => [0, 1, 0, 1, 1, 1, 1, 1, 1, 0, 1, 1, 1, 1, 1, 1, 1, 1, 1, 1, 1, 1, 1, 1, 1, 1, 1, 1, 1, 1, 1, 1, 1, 1, 1, 1, 1, 1, 1, 1, 1, 1, 1, 1, 1, 1, 1, 1, 1, 1, 1, 1, 1, 1, 1, 1, 1, 1, 1, 1, 1, 1, 1, 1, 1, 1, 1, 1, 1, 1, 1, 1, 1, 1, 1, 1, 1, 1, 1, 1, 1, 1, 1, 1, 1, 1, 1, 1, 1, 1, 1, 1, 1, 1, 1, 1, 1, 1, 1, 1, 1, 1, 1, 1, 1, 1, 1, 1, 1, 1, 1, 1, 1, 1, 1, 1, 1, 1, 1, 1, 1, 1, 1, 1, 1, 1, 1, 1, 1, 1, 1, 1, 1, 1, 1, 1, 1, 1, 1, 1, 1, 1, 1, 1, 1, 1, 1, 1, 1, 1, 1, 1, 1, 1, 1, 1, 1, 1, 1, 1, 1, 1, 1, 1, 1, 1, 1, 1, 1, 1, 1, 1, 1, 1, 1, 1, 1, 1, 1, 1, 1, 1, 1, 1, 1, 1, 1, 1, 1, 1, 1, 1, 1, 1, 1, 1, 1, 1, 1, 1, 1, 1, 1, 1, 1, 1, 1, 1, 1, 1, 1, 1, 1, 1, 1, 1, 1, 1, 1, 1, 1, 1, 1, 1, 1, 1]
  | .ret => [1, 1, 1, 1, 1, 1, 0, 0, 0, 1, 1, 1, 1, 1, 1, 1, 1, 1, 1, 1, 1, 1, 1, 1, 1, 1, 1, 1, 1, 1, 1, 1, 1, 1, 1, 1, 1, 1, 1, 1, 1, 1, 1, 1, 1, 1, 1, 1, 1, 1, 1, 1, 1, 1, 1, 1, 1, 1, 1, 1, 1, 1, 1, 1, 1, 1, 1, 1, 1, 1, 1, 1, 1, 1, 1, 1, 1, 1, 1, 1, 1, 1, 1, 1, 1, 1, 1, 1, 1, 1, 1, 1, 1, 1, 1, 1, 1, 1, 1, 1, 1, 1, 1, 1, 1, 1, 1, 1, 1, 1, 1, 1, 1, 1, 1, 1, 1, 1, 1, 1, 1, 1, 1, 1, 1, 1, 1, 1, 1, 1, 1, 1, 1, 1, 1, 1, 1, 1, 1, 1, 1, 1, 1, 1, 1, 1, 1, 1, 1, 1, 1, 1, 1, 1, 1, 1, 1, 1, 1, 1, 1, 1, 1, 1, 1, 1, 1, 1, 1, 1, 1, 1, 1, 1, 1, 1, 1, 1, 1, 1, 1, 1, 1, 1, 1, 1, 1, 1, 1, 1, 1, 1, 1, 1, 1, 1, 1, 1, 1, 1, 1, 1, 1, 1, 1, 1, 1, 1, 1, 1, 1, 1, 1, 1, 1, 1, 1, 1, 1, 1, 1, 1, 1, 1, 1, 1]
  | _ => []
noncomputable def spec_l06Over_l6_T (v713 : Int) (v714 : Int) (v715 : Int) (v717 : List (List Int)) (v718 : List Nat) (v719 : List Int) (s : Int) : Tree ((Int) ⊕ (Int)) :=
  (.br (decide (s < (((v718).length : Nat) : Int))) (
   (.grd (inb s ((v718).length)) <|
   (.grd (inb v714 ((nget v717 (nth v718 (Int.toNat s))).length)) <|
   (.br (decide (nth (nget v717 (nth v718 (Int.toNat s))) (Int.toNat v714) = (0 : Int))) (
    .leaf (.inl (IntKind.i64.wrap (s + (1 : Int))))
   ) (
    .leaf (.inr s)
   ))))
  ) (
   .leaf (.inr s)
  ))

noncomputable def spec_l06Over_l6_g (v713 : Int) (v714 : Int) (v715 : Int) (v717 : List (List Int)) (v718 : List Nat) (v719 : List Int) (s0 : Int) : Option (Int) := whileM (fun s => (spec_l06Over_l6_T v713 v714 v715 v717 v718 v719 s).run) s0
def spec_l06Over_l6_E (v52 : Int) (v53 : Int) (v54 : List Int) (v55 : List Int) (v56 : Int) (v713 : Int) (v714 : Int) (v715 : Int) (v717 : List (List Int)) (v718 : List Nat) (v719 : List Int) (s : Int) : Sd := ([.bptr (BR.root 0) [.int .i64 v52, .int .i64 v53, .bslc (BR.root 1) (.i64 v54)], .top, .int .i64 v56, .top, .top, .top, .top, .top, .top, .nest 0 0 1 ((v718).length), .top, .top, .top, .own 1 0 ((v719).length), .int .i64 v713, .int .i64 v714, .int .i64 v715, .int .i64 s, .top, .top, .top, .top, .top, .top, .top, .top, .top, .top, .top, .top, .top, .top, .top, .top, .top, .top, .top, .top, .top, .top, .top, .top, .top, .top, .top, .top, .top, .top, .top, .top, .top, .top, .top, .top, .top, .top, .top, .top, .top, .top, .top, .top, .top, .top, .top, .top, .top, .top, .top, .top, .top, .top, .top, .top, .top, .top, .top, .top, .top, .top, .top, .top, .top, .top, .top, .top, .top, .top, .top, .top, .top, .top, .top, .top, .top, .top, .top, .top, .top, .top, .top, .top, .top, .top, .top, .top, .top, .top, .top, .top, .top, .top, .top, .top, .top, .top, .top, .top, .top, .top, .top, .top, .top, .top, .top, .top, .top, .top, .top, .top, .top, .top, .top, .top, .top, .top, .top, .top, .top, .top, .top, .top, .top, .top, .top, .top, .top, .top, .top, .top, .top, .top, .top, .top, .top, .top, .top, .top, .top, .top, .top, .top, .top, .top, .top, .top, .top, .top, .top, .top, .top, .top, .top, .top, .top, .top, .top, .top, .top, .top, .top, .top, .top, .top, .top, .top, .top, .top, .top, .top, .top, .top, .top, .top, .top, .top, .top, .top, .top, .top, .top, .top, .top, .top, .top, .top, .top, .top, .top, .top, .top, .top, .top, .top, .top, .top, .top, .top, .top, .top, .top, .top, .top, .top, .top, .top], [.nest [.sl (.i64 v717) v718] false 0, .row (.i64 v719) 0])
def spec_l06Over_l6_X (v52 : Int) (v53 : Int) (v54 : List Int) (v55 : List Int) (v56 : Int) (v713 : Int) (v714 : Int) (v715 : Int) (v717 : List (List Int)) (v718 : List Nat) (v719 : List Int) (x : Int) : Out := (.normal, [.bptr (BR.root 0) [.int .i64 v52, .int .i64 v53, .bslc (BR.root 1) (.i64 v54)], .top, .int .i64 v56, .top, .top, .top, .top, .top, .top, .nest 0 0 1 ((v718).length), .top, .top, .top, .own 1 0 ((v719).length), .int .i64 v713, .int .i64 v714, .int .i64 v715, .int .i64 x, .top, .top, .top, .top, .top, .top, .top, .top, .top, .top, .top, .top, .top, .top, .top, .top, .top, .top, .top, .top, .top, .top, .top, .top, .top, .top, .top, .top, .top, .top, .top, .top, .top, .top, .top, .top, .top, .top, .top, .top, .top, .top, .top, .top, .top, .top, .top, .top, .top, .top, .top, .top, .top, .top, .top, .top, .top, .top, .top, .top, .top, .top, .top, .top, .top, .top, .top, .top, .top, .top, .top, .top, .top, .top, .top, .top, .top, .top, .top, .top, .top, .top, .top, .top, .top, .top, .top, .top, .top, .top, .top, .top, .top, .top, .top, .top, .top, .top, .top, .top, .top, .top, .top, .top, .top, .top, .top, .top, .top, .top, .top, .top, .top, .top, .top, .top, .top, .top, .top, .top, .top, .top, .top, .top, .top, .top, .top, .top, .top, .top, .top, .top, .top, .top, .top, .top, .top, .top, .top, .top, .top, .top, .top, .top, .top, .top, .top, .top, .top, .top, .top, .top, .top, .top, .top, .top, .top, .top, .top, .top, .top, .top, .top, .top, .top, .top, .top, .top, .top, .top, .top, .top, .top, .top, .top, .top, .top, .top, .top, .top, .top, .top, .top, .top, .top, .top, .top, .top, .top, .top, .top, .top, .top, .top, .top, .top, .top, .top, .top, .top, .top, .top, .top, .top, .top, .top, .top, .top], [.nest [.sl (.i64 v717) v718] false 0, .row (.i64 v719) 0])
def spec_l06Over_l6_kill : List Nat := [0, 1, 0, 1, 1, 1, 1, 1, 1, 0, 1, 1, 1, 0, 0, 0, 0, 0, 1, 1, 1, 1, 1, 1, 1, 1, 1, 1, 1, 1, 1, 1, 1, 1, 1, 1, 1, 1, 1, 1, 1, 1, 1, 1, 1, 1, 1, 1, 1, 1, 1, 1, 1, 1, 1, 1, 1, 1, 1, 1, 1, 1, 1, 1, 1, 1, 1, 1, 1, 1, 1, 1, 1, 1, 1, 1, 1, 1, 1, 1, 1, 1, 1, 1, 1, 1, 1, 1, 1, 1, 1, 1, 1, 1, 1, 1, 1, 1, 1, 1, 1, 1, 1, 1, 1, 1, 1, 1, 1, 1, 1, 1, 1, 1, 1, 1, 1, 1, 1, 1, 1, 1, 1, 1, 1, 1, 1, 1, 1, 1, 1, 1, 1, 1, 1, 1, 1, 1, 1, 1, 1, 1, 1, 1, 1, 1, 1, 1, 1, 1, 1, 1, 1, 1, 1, 1, 1, 1, 1, 1, 1, 1, 1, 1, 1, 1, 1, 1, 1, 1, 1, 1, 1, 1, 1, 1, 1, 1, 1, 1, 1, 1, 1, 1, 1, 1, 1, 1, 1, 1, 1, 1, 1, 1, 1, 1, 1, 1, 1, 1, 1, 1, 1, 1, 1, 1, 1, 1, 1, 1, 1, 1, 1, 1, 1, 1, 1, 1, 1, 1, 1, 1, 1, 1, 1, 1]
def spec_l06Over_l6_nx : Exit → List Nat
  | .exit 4 => [1, 1, 1, 1, 1, 1, 1, 1, 1, 0, 1, 1, 1, 0, 0, 1, 1, 1, 1, 1, 1, 1, 1, 1, 1, 1, 1, 1, 1, 1, 1, 1, 1, 1, 1, 1, 1, 1, 1, 1, 1, 1, 1, 1, 1, 1, 1, 1, 1, 1, 1, 1, 1, 1, 1, 1, 1, 1, 1, 1, 1, 1, 1, 1, 1, 1, 1, 1, 1, 1, 1, 1, 1, 1, 1, 1, 1, 1, 1, 1, 1, 1, 1, 1, 1, 1, 1, 1, 1, 1, 1, 1, 1, 1, 1, 1, 1, 1, 1, 1, 1, 1, 1, 1, 1, 1, 1, 1, 1, 1, 1, 1, 1, 1, 1, 1, 1, 1, 1, 1, 1, 1, 1, 1, 1, 1, 1, 1, 1, 1, 1, 1, 1, 1, 1, 1, 1, 1, 1, 1, 1, 1, 1, 1, 1, 1, 1, 1, 1, 1, 1, 1, 1, 1, 1, 1, 1, 1, 1, 1, 1, 1, 1, 1, 1, 1, 1, 1, 1, 1, 1, 1, 1, 1, 1, 1, 1, 1, 1, 1, 1, 1, 1, 1, 1, 1, 1, 1, 1, 1, 1, 1, 1, 1, 1, 1, 1, 1, 1, 1, 1, 1, 1, 1, 1, 1, 1, 1, 1, 1, 1, 1, 1, 1, 1, 1, 1, 1, 1, 1, 1, 1, 1, 1, 1, 1]
  | .exit 5 => [0, 1, 0, 1, 1, 1, 1, 1, 1, 0, 1, 1, 1, 0, 0, 0, 1, 1, 1, 1, 1, 1, 1, 1, 1, 1, 1, 1, 1, 1, 1, 1, 1, 1, 1, 1, 1, 1, 1, 1, 1, 1, 1, 1, 1, 1, 1, 1, 1, 1, 1, 1, 1, 1, 1, 1, 1, 1, 1, 1, 1, 1, 1, 1, 1, 1, 1, 1, 1, 1, 1, 1, 1, 1, 1, 1, 1, 1, 1, 1, 1, 1, 1, 1, 1, 1, 1, 1, 1, 1, 1, 1, 1, 1, 1, 1, 1, 1, 1, 1, 1, 1, 1, 1, 1, 1, 1, 1, 1, 1, 1, 1, 1, 1, 1, 1, 1, 1, 1, 1, 1, 1, 1, 1, 1, 1, 1, 1, 1, 1, 1, 1, 1, 1, 1, 1, 1, 1, 1, 1, 1, 1, 1, 1, 1, 1, 1, 1, 1, 1, 1, 1, 1, 1, 1, 1, 1, 1, 1, 1, 1, 1, 1, 1, 1, 1, 1, 1, 1, 1, 1, 1, 1, 1, 1, 1, 1, 1, 1, 1, 1, 1, 1, 1, 1, 1, 1, 1, 1, 1, 1, 1, 1, 1, 1, 1, 1, 1, 1, 1, 1, 1, 1, 1, 1, 1, 1, 1, 1, 1, 1, 1, 1, 1, 1, 1, 1, 1, 1, 1, 1, 1, 1, 1, 1, 1]
  | .exit 6 => [0, 1, 0, 1, 1, 1, 1, 1, 1, 0, 1, 1, 1, 0, 0, 0, 0, 0, 1, 1, 1, 1, 1, 1, 1, 1, 1, 1, 1, 1, 1, 1, 1, 1, 1, 1, 1, 1, 1, 1, 1, 1, 1, 1, 1, 1, 1, 1, 1, 1, 1, 1, 1, 1, 1, 1, 1, 1, 1, 1, 1, 1, 1, 1, 1, 1, 1, 1, 1, 1, 1, 1, 1, 1, 1, 1, 1, 1, 1, 1, 1, 1, 1, 1, 1, 1, 1, 1, 1, 1, 1, 1, 1, 1, 1, 1, 1, 1, 1, 1, 1, 1, 1, 1, 1, 1, 1, 1, 1, 1, 1, 1, 1, 1, 1, 1, 1, 1, 1, 1, 1, 1, 1, 1, 1, 1, 1, 1, 1, 1, 1, 1, 1, 1, 1, 1, 1, 1, 1, 1, 1, 1, 1, 1, 1, 1, 1, 1, 1, 1, 1, 1, 1, 1, 1, 1, 1, 1, 1, 1, 1, 1, 1, 1, 1, 1, 1, 1, 1, 1, 1, 1, 1, 1, 1, 1, 1, 1, 1, 1, 1, 1, 1, 1, 1, 1, 1, 1, 1, 1, 1, 1, 1, 1, 1, 1, 1, 1, 1, 1, 1, 1, 1, 1, 1, 1, 1, 1, 1, 1, 1, 1, 1, 1, 1, 1, 1, 1, 1, 1, 1, 1, 1, 1, 1, 1]
  | .ret => [1, 1, 1, 1, 1, 1, 0, 0, 0, 1, 1, 1, 1, 1, 1, 1, 1, 1, 1, 1, 1, 1, 1, 1, 1, 1, 1, 1, 1, 1, 1, 1, 1, 1, 1, 1, 1, 1, 1, 1, 1, 1, 1, 1, 1, 1, 1, 1, 1, 1, 1, 1, 1, 1, 1, 1, 1, 1, 1, 1, 1, 1, 1, 1, 1, 1, 1, 1, 1, 1, 1, 1, 1, 1, 1, 1, 1, 1, 1, 1, 1, 1, 1, 1, 1, 1, 1, 1, 1, 1, 1, 1, 1, 1, 1, 1, 1, 1, 1, 1, 1, 1, 1, 1, 1, 1, 1, 1, 1, 1, 1, 1, 1, 1, 1, 1, 1, 1, 1, 1, 1, 1, 1, 1, 1, 1, 1, 1, 1, 1, 1, 1, 1, 1, 1, 1, 1, 1, 1, 1, 1, 1, 1, 1, 1, 1, 1, 1, 1, 1, 1, 1, 1, 1, 1, 1, 1, 1, 1, 1, 1, 1, 1, 1, 1, 1, 1, 1, 1, 1, 1, 1, 1, 1, 1, 1, 1, 1, 1, 1, 1, 1, 1, 1, 1, 1, 1, 1, 1, 1, 1, 1, 1, 1, 1, 1, 1, 1, 1, 1, 1, 1, 1, 1, 1, 1, 1, 1, 1, 1, 1, 1, 1, 1, 1, 1, 1, 1, 1, 1, 1, 1, 1, 1, 1, 1]
  | _ => []
noncomputable def spec_l06Over_l8_T (v56 : Int) (v739 : Int) (v740 : Int) (v741 : Int) (v742 : Int) (v745 : List Nat) (v746 : List Int) (s : Int × (List (List Int))) : Tree ((Int × (List (List Int))) ⊕ ((List (List Int)))) :=
  (.grd (inb v741 ((v745).length)) <|
  (.br (decide (s.1 < (((nget s.2 (nth v745 (Int.toNat v741))).length : Nat) : Int))) (
   (.grd (inb v741 ((v745).length)) <|
   (.grd (inb v741 ((v745).length)) <|
   (.grd (inb s.1 ((nget s.2 (nth v745 (Int.toNat v741))).length)) <|
   (.grd (!decide (v56 = 0)) <|
   (.grd (inb s.1 ((nget s.2 (nth v745 (Int.toNat v741))).length)) <|
   .leaf (.inl (IntKind.i64.wrap (s.1 + (1 : Int)), List.set s.2 ((nth v745 (Int.toNat v741)) - 1) (List.set (nget s.2 (nth v745 (Int.toNat v741))) (Int.toNat s.1) (Int.tmod (IntKind.i64.wrap ((nth (nget s.2 (nth v745 (Int.toNat v741))) (Int.toNat s.1)) * v742)) v56)))))))))
  ) (
   .leaf (.inr s.2)
  )))

noncomputable def spec_l06Over_l8_g (v56 : Int) (v739 : Int) (v740 : Int) (v741 : Int) (v742 : Int) (v745 : List Nat) (v746 : List Int) (s0 : Int × (List (List Int))) : Option ((List (List Int))) := whileM (fun s => (spec_l06Over_l8_T v56 v739 v740 v741 v742 v745 v746 s).run) s0
def spec_l06Over_l8_E (v52 : Int) (v53 : Int) (v54 : List Int) (v55 : List Int) (v56 : Int) (v739 : Int) (v740 : Int) (v741 : Int) (v742 : Int) (v745 : List Nat) (v746 : List Int) (s : Int × (List (List Int))) : Sd := ([.bptr (BR.root 0) [.int .i64 v52, .int .i64 v53, .bslc (BR.root 1) (.i64 v54)], .top, .int .i64 v56, .top, .top, .top, .top, .top, .top, .nest 0 0 1 ((v745).length), .top, .top, .top, .own 1 0 ((v746).length), .int .i64 v739, .int .i64 v740, .int .i64 v741, .top, .top, .int .i64 v742, .int .i64 s.1, .top, .top, .top, .top, .top, .top, .top, .top, .top, .top, .top, .top, .top, .top, .top, .top, .top, .top, .top, .top, .top, .top, .top, .top, .top, .top, .top, .top, .top, .top, .top, .top, .top, .top, .top, .top, .top, .top, .top, .top, .top, .top, .top, .top, .top, .top, .top, .top, .top, .top, .top, .top, .top, .top, .top, .top, .top, .top, .top, .top, .top, .top, .top, .top, .top, .top, .top, .top, .top, .top, .top, .top, .top, .top, .top, .top, .top, .top, .top, .top, .top, .top, .top, .top, .top, .top, .top, .top, .top, .top, .top, .top, .top, .top, .top, .top, .top, .top, .top, .top, .top, .top, .top, .top, .top, .top, .top, .top, .top, .top, .top, .top, .top, .top, .top, .top, .top, .top, .top, .top, .top, .top, .top, .top, .top, .top, .top, .top, .top, .top, .top, .top, .top, .top, .top, .top, .top, .top, .top, .top, .top, .top, .top, .top, .top, .top, .top, .top, .top, .top, .top, .top, .top, .top, .top, .top, .top, .top, .top, .top, .top, .top, .top, .top, .top, .top, .top, .top, .top, .top, .top, .top, .top, .top, .top, .top, .top, .top, .top, .top, .top, .top, .top, .top, .top, .top, .top, .top, .top, .top, .top, .top, .top, .top, .top, .top, .top, .top, .top, .top, .top, .top, .top, .top, .top], [.nest [.sl (.i64 s.2) v745] false 0, .row (.i64 v746) 0])
def spec_l06Over_l8_X (v52 : Int) (v53 : Int) (v54 : List Int) (v55 : List Int) (v56 : Int) (v739 : Int) (v740 : Int) (v741 : Int) (v742 : Int) (v745 : List Nat) (v746 : List Int) (x : (List (List Int))) : Out := (.normal, [.bptr (BR.root 0) [.int .i64 v52, .int .i64 v53, .bslc (BR.root 1) (.i64 v54)], .top, .int .i64 v56, .top, .top, .top, .top, .top, .top, .nest 0 0 1 ((v745).length), .top, .top, .top, .own 1 0 ((v746).length), .int .i64 v739, .int .i64 v740, .int .i64 v741, .top, .top, .top, .top, .top, .top, .top, .top, .top, .top, .top, .top, .top, .top, .top, .top, .top, .top, .top, .top, .top, .top, .top, .top, .top, .top, .top, .top, .top, .top, .top, .top, .top, .top, .top, .top, .top, .top, .top, .top, .top, .top, .top, .top, .top, .top, .top, .top, .top, .top, .top, .top, .top, .top, .top, .top, .top, .top, .top, .top, .top, .top, .top, .top, .top, .top, .top, .top, .top, .top, .top, .top, .top, .top, .top, .top, .top, .top, .top, .top, .top, .top, .top, .top, .top, .top, .top, .top, .top, .top, .top, .top, .top, .top, .top, .top, .top, .top, .top, .top, .top, .top, .top, .top, .top, .top, .top, .top, .top, .top, .top, .top, .top, .top, .top, .top, .top, .top, .top, .top, .top, .top, .top, .top, .top, .top, .top, .top, .top, .top, .top, .top, .top, .top, .top, .top, .top, .top, .top, .top, .top, .top, .top, .top, .top, .top, .top, .top, .top, .top, .top, .top, .top, .top, .top, .top, .top, .top, .top, .top, .top, .top, .top, .top, .top, .top, .top, .top, .top, .top, .top, .top, .top, .top, .top, .top, .top, .top, .top, .top, .top, .top, .top, .top, .top, .top, .top, .top, .top, .top, .top, .top, .top, .top, .top, .top, .top, .top, .top, .top, .top, .top, .top, .top, .top, .top, .top, .top, .top], [.nest [.sl (.i64 x) v745] false 0, .row (.i64 v746) 0])
def spec_l06Over_l8_kill : List Nat := [0, 1, 0, 1, 1, 1, 1, 1, 1, 0, 1, 1, 1, 0, 0, 0, 0, 1, 1, 0, 0, 1, 1, 1, 1, 1, 1, 1, 1, 1, 1, 1, 1, 1, 1, 1, 1, 1, 1, 1, 1, 1, 1, 1, 1, 1, 1, 1, 1, 1, 1, 1, 1, 1, 1, 1, 1, 1, 1, 1, 1, 1, 1, 1, 1, 1, 1, 1, 1, 1, 1, 1, 1, 1, 1, 1, 1, 1, 1, 1, 1, 1, 1, 1, 1, 1, 1, 1, 1, 1, 1, 1, 1, 1, 1, 1, 1, 1, 1, 1, 1, 1, 1, 1, 1, 1, 1, 1, 1, 1, 1, 1, 1, 1, 1, 1, 1, 1, 1, 1, 1, 1, 1, 1, 1, 1, 1, 1, 1, 1, 1, 1, 1, 1, 1, 1, 1, 1, 1, 1, 1, 1, 1, 1, 1, 1, 1, 1, 1, 1, 1, 1, 1, 1, 1, 1, 1, 1, 1, 1, 1, 1, 1, 1, 1, 1, 1, 1, 1, 1, 1, 1, 1, 1, 1, 1, 1, 1, 1, 1, 1, 1, 1, 1, 1, 1, 1, 1, 1, 1, 1, 1, 1, 1, 1, 1, 1, 1, 1, 1, 1, 1, 1, 1, 1, 1, 1, 1, 1, 1, 1, 1, 1, 1, 1, 1, 1, 1, 1, 1, 1, 1, 1, 1, 1, 1]
def spec_l06Over_l8_nx : Exit → List Nat
  | .exit 4 => [1, 1, 1, 1, 1, 1, 1, 1, 1, 0, 1, 1, 1, 0, 0, 1, 1, 1, 1, 1, 1, 1, 1, 1, 1, 1, 1, 1, 1, 1, 1, 1, 1, 1, 1, 1, 1, 1, 1, 1, 1, 1, 1, 1, 1, 1, 1, 1, 1, 1, 1, 1, 1, 1, 1, 1, 1, 1, 1, 1, 1, 1, 1, 1, 1, 1, 1, 1, 1, 1, 1, 1, 1, 1, 1, 1, 1, 1, 1, 1, 1, 1, 1, 1, 1, 1, 1, 1, 1, 1, 1, 1, 1, 1, 1, 1, 1, 1, 1, 1, 1, 1, 1, 1, 1, 1, 1, 1, 1, 1, 1, 1, 1, 1, 1, 1, 1, 1, 1, 1, 1, 1, 1, 1, 1, 1, 1, 1, 1, 1, 1, 1, 1, 1, 1, 1, 1, 1, 1, 1, 1, 1, 1, 1, 1, 1, 1, 1, 1, 1, 1, 1, 1, 1, 1, 1, 1, 1, 1, 1, 1, 1, 1, 1, 1, 1, 1, 1, 1, 1, 1, 1, 1, 1, 1, 1, 1, 1, 1, 1, 1, 1, 1, 1, 1, 1, 1, 1, 1, 1, 1, 1, 1, 1, 1, 1, 1, 1, 1, 1, 1, 1, 1, 1, 1, 1, 1, 1, 1, 1, 1, 1, 1, 1, 1, 1, 1, 1, 1, 1, 1, 1, 1, 1, 1, 1]
  | .exit 5 => [0, 1, 0, 1, 1, 1, 1, 1, 1, 0, 1, 1, 1, 0, 0, 0, 1, 1, 1, 1, 1, 1, 1, 1, 1, 1, 1, 1, 1, 1, 1, 1, 1, 1, 1, 1, 1, 1, 1, 1, 1, 1, 1, 1, 1, 1, 1, 1, 1, 1, 1, 1, 1, 1, 1, 1, 1, 1, 1, 1, 1, 1, 1, 1, 1, 1, 1, 1, 1, 1, 1, 1, 1, 1, 1, 1, 1, 1, 1, 1, 1, 1, 1, 1, 1, 1, 1, 1, 1, 1, 1, 1, 1, 1, 1, 1, 1, 1, 1, 1, 1, 1, 1, 1, 1, 1, 1, 1, 1, 1, 1, 1, 1, 1, 1, 1, 1, 1, 1, 1, 1, 1, 1, 1, 1, 1, 1, 1, 1, 1, 1, 1, 1, 1, 1, 1, 1, 1, 1, 1, 1, 1, 1, 1, 1, 1, 1, 1, 1, 1, 1, 1, 1, 1, 1, 1, 1, 1, 1, 1, 1, 1, 1, 1, 1, 1, 1, 1, 1, 1, 1, 1, 1, 1, 1, 1, 1, 1, 1, 1, 1, 1, 1, 1, 1, 1, 1, 1, 1, 1, 1, 1, 1, 1, 1, 1, 1, 1, 1, 1, 1, 1, 1, 1, 1, 1, 1, 1, 1, 1, 1, 1, 1, 1, 1, 1, 1, 1, 1, 1, 1, 1, 1, 1, 1, 1]
  | .exit 8 => [0, 1, 0, 1, 1, 1, 1, 1, 1, 0, 1, 1, 1, 0, 0, 0, 0, 1, 1, 1, 1, 1, 1, 1, 1, 1, 1, 1, 1, 1, 1, 1, 1, 1, 1, 1, 1, 1, 1, 1, 1, 1, 1, 1, 1, 1, 1, 1, 1, 1, 1, 1, 1, 1, 1, 1, 1, 1, 1, 1, 1, 1, 1, 1, 1, 1, 1, 1, 1, 1, 1, 1, 1, 1, 1, 1, 1, 1, 1, 1, 1, 1, 1, 1, 1, 1, 1, 1, 1, 1, 1, 1, 1, 1, 1, 1, 1, 1, 1, 1, 1, 1, 1, 1, 1, 1, 1, 1, 1, 1, 1, 1, 1, 1, 1, 1, 1, 1, 1, 1, 1, 1, 1, 1, 1, 1, 1, 1, 1, 1, 1, 1, 1, 1, 1, 1, 1, 1, 1, 1, 1, 1, 1, 1, 1, 1, 1, 1, 1, 1, 1, 1, 1, 1, 1, 1, 1, 1, 1, 1, 1, 1, 1, 1, 1, 1, 1, 1, 1, 1, 1, 1, 1, 1, 1, 1, 1, 1, 1, 1, 1, 1, 1, 1, 1, 1, 1, 1, 1, 1, 1, 1, 1, 1, 1, 1, 1, 1, 1, 1, 1, 1, 1, 1, 1, 1, 1, 1, 1, 1, 1, 1, 1, 1, 1, 1, 1, 1, 1, 1, 1, 1, 1, 1, 1, 1]
  | .ret => [1, 1, 1, 1, 1, 1, 0, 0, 0, 1, 1, 1, 1, 1, 1, 1, 1, 1, 1, 1, 1, 1, 1, 1, 1, 1, 1, 1, 1, 1, 1, 1, 1, 1, 1, 1, 1, 1, 1, 1, 1, 1, 1, 1, 1, 1, 1, 1, 1, 1, 1, 1, 1, 1, 1, 1, 1, 1, 1, 1, 1, 1, 1, 1, 1, 1, 1, 1, 1, 1, 1, 1, 1, 1, 1, 1, 1, 1, 1, 1, 1, 1, 1, 1, 1, 1, 1, 1, 1, 1, 1, 1, 1, 1, 1, 1, 1, 1, 1, 1, 1, 1, 1, 1, 1, 1, 1, 1, 1, 1, 1, 1, 1, 1, 1, 1, 1, 1, 1, 1, 1, 1, 1, 1, 1, 1, 1, 1, 1, 1, 1, 1, 1, 1, 1, 1, 1, 1, 1, 1, 1, 1, 1, 1, 1, 1, 1, 1, 1, 1, 1, 1, 1, 1, 1, 1, 1, 1, 1, 1, 1, 1, 1, 1, 1, 1, 1, 1, 1, 1, 1, 1, 1, 1, 1, 1, 1, 1, 1, 1, 1, 1, 1, 1, 1, 1, 1, 1, 1, 1, 1, 1, 1, 1, 1, 1, 1, 1, 1, 1, 1, 1, 1, 1, 1, 1, 1, 1, 1, 1, 1, 1, 1, 1, 1, 1, 1, 1, 1, 1, 1, 1, 1, 1, 1, 1]
  | _ => []
noncomputable def spec_l06Over_l12_T (v56 : Int) (v851 : Int) (v852 : Int) (v853 : Int) (v854 : Int) (v855 : Int) (v858 : List Nat) (v859 : List Int) (s : Int × (List (List Int))) : Tree ((Int × (List (List Int))) ⊕ ((List (List Int)))) :=
  (.grd (inb v854 ((v858).length)) <|
  (.br (decide (s.1 < (((nget s.2 (nth v858 (Int.toNat v854))).length : Nat) : Int))) (
   (.br (!decide (v854 = v853)) (
    (.grd (inb v854 ((v858).length)) <|
    (.grd (inb v854 ((v858).length)) <|
    (.grd (inb s.1 ((nget s.2 (nth v858 (Int.toNat v854))).length)) <|
    (.grd (inb v853 ((v858).length)) <|
    (.grd (inb s.1 ((nget s.2 (nth v858 (Int.toNat v853))).length)) <|
    (.call (spec_l06Mod_g (IntKind.i64.wrap ((nth (nget s.2 (nth v858 (Int.toNat v854))) (Int.toNat s.1)) - (IntKind.i64.wrap (v855 * (nth (nget s.2 (nth v858 (Int.toNat v853))) (Int.toNat s.1)))))) v56) fun v860 =>
    (.grd (inb s.1 ((nget s.2 (nth v858 (Int.toNat v854))).length)) <|
    .leaf (.inl (IntKind.i64.wrap (s.1 + (1 : Int)), List.set s.2 ((nth v858 (Int.toNat v854)) - 1) (List.set (nget s.2 (nth v858 (Int.toNat v854))) (Int.toNat s.1) v860))))))))))
   ) (
    .leaf (.inr s.2)
   ))
  ) (
   .leaf (.inr s.2)
  )))

noncomputable def spec_l06Over_l12_g (v56 : Int) (v851 : Int) (v852 : Int) (v853 : Int) (v854 : Int) (v855 : Int) (v858 : List Nat) (v859 : List Int) (s0 : Int × (List (List Int))) : Option ((List (List Int))) := whileM (fun s => (spec_l06Over_l12_T v56 v851 v852 v853 v854 v855 v858 v859 s).run) s0
def spec_l06Over_l12_E (v52 : Int) (v53 : Int) (v54 : List Int) (v55 : List Int) (v56 : Int) (v851 : Int) (v852 : Int) (v853 : Int) (v854 : Int) (v855 : Int) (v858 : List Nat) (v859 : List Int) (s : Int × (List (List Int))) : Sd := ([.bptr (BR.root 0) [.int .i64 v52, .int .i64 v53, .bslc (BR.root 1) (.i64 v54)], .top, .int .i64 v56, .top, .top, .top, .top, .top, .top, .nest 0 0 1 ((v858).length), .top, .top, .top, .own 1 0 ((v859).length), .int .i64 v851, .int .i64 v852, .int .i64 v853, .top, .top, .top, .top, .int .i64 v854, .int .i64 v855, .int .i64 s.1, .top, .top, .top, .top, .top, .top, .top, .top, .top, .top, .top, .top, .top, .top, .top, .top, .top, .top, .top, .top, .top, .top, .top, .top, .top, .top, .top, .top, .top, .top, .top, .top, .top, .top, .top, .top, .top, .top, .top, .top, .top, .top, .top, .top, .top, .top, .top, .top, .top, .top, .top, .top, .top, .top, .top, .top, .top, .top, .top, .top, .top, .top, .top, .top, .top, .top, .top, .top, .top, .top, .top, .top, .top, .top, .top, .top, .top, .top, .top, .top, .top, .top, .top, .top, .top, .top, .top, .top, .top, .top, .top, .top, .top, .top, .top, .top, .top, .top, .top, .top, .top, .top, .top, .top, .top, .top, .top, .top, .top, .top, .top, .top, .top, .top, .top, .top, .top, .top, .top, .top, .top, .top, .top, .top, .top, .top, .top, .top, .top, .top, .top, .top, .top, .top, .top, .top, .top, .top, .top, .top, .top, .top, .top, .top, .top, .top, .top, .top, .top, .top, .top, .top, .top, .top, .top, .top, .top, .top, .top, .top, .top, .top, .top, .top, .top, .top, .top, .top, .top, .top, .top, .top, .top, .top, .top, .top, .top, .top, .top, .top, .top, .top, .top, .top, .top, .top, .top, .top, .top, .top, .top, .top, .top, .top, .top, .top, .top, .top, .top, .top, .top, .top], [.nest [.sl (.i64 s.2) v858] false 0, .row (.i64 v859) 0])
def spec_l06Over_l12_X (v52 : Int) (v53 : Int) (v54 : List Int) (v55 : List Int) (v56 : Int) (v851 : Int) (v852 : Int) (v853 : Int) (v854 : Int) (v855 : Int) (v858 : List Nat) (v859 : List Int) (x : (List (List Int))) : Out := (.normal, [.bptr (BR.root 0) [.int .i64 v52, .int .i64 v53, .bslc (BR.root 1) (.i64 v54)], .top, .int .i64 v56, .top, .top, .top, .top, .top, .top, .nest 0 0 1 ((v858).length), .top, .top, .top, .own 1 0 ((v859).length), .int .i64 v851, .int .i64 v852, .int .i64 v853, .top, .top, .top, .top, .int .i64 v854, .top, .top, .top, .top, .top, .top, .top, .top, .top, .top, .top, .top, .top, .top, .top, .top, .top, .top, .top, .top, .top, .top, .top, .top, .top, .top, .top, .top, .top, .top, .top, .top, .top, .top, .top, .top, .top, .top, .top, .top, .top, .top, .top, .top, .top, .top, .top, .top, .top, .top, .top, .top, .top, .top, .top, .top, .top, .top, .top, .top, .top, .top, .top, .top, .top, .top, .top, .top, .top, .top, .top, .top, .top, .top, .top, .top, .top, .top, .top, .top, .top, .top, .top, .top, .top, .top, .top, .top, .top, .top, .top, .top, .top, .top, .top, .top, .top, .top, .top, .top, .top, .top, .top, .top, .top, .top, .top, .top, .top, .top, .top, .top, .top, .top, .top, .top, .top, .top, .top, .top, .top, .top, .top, .top, .top, .top, .top, .top, .top, .top, .top, .top, .top, .top, .top, .top, .top, .top, .top, .top, .top, .top, .top, .top, .top, .top, .top, .top, .top, .top, .top, .top, .top, .top, .top, .top, .top, .top, .top, .top, .top, .top, .top, .top, .top, .top, .top, .top, .top, .top, .top, .top, .top, .top, .top, .top, .top, .top, .top, .top, .top, .top, .top, .top, .top, .top, .top, .top, .top, .top, .top, .top, .top, .top, .top, .top, .top, .top, .top, .top, .top, .top, .top, .top], [.nest [.sl (.i64 x) v858] false 0, .row (.i64 v859) 0])
def spec_l06Over_l12_kill : List Nat := [0, 1, 0, 1, 1, 1, 1, 1, 1, 0, 1, 1, 1, 0, 0, 0, 0, 1, 1, 1, 1, 0, 0, 0, 1, 1, 1, 1, 1, 1, 1, 1, 1, 1, 1, 1, 1, 1, 1, 1, 1, 1, 1, 1, 1, 1, 1, 1, 1, 1, 1, 1, 1, 1, 1, 1, 1, 1, 1, 1, 1, 1, 1, 1, 1, 1, 1, 1, 1, 1, 1, 1, 1, 1, 1, 1, 1, 1, 1, 1, 1, 1, 1, 1, 1, 1, 1, 1, 1, 1, 1, 1, 1, 1, 1, 1, 1, 1, 1, 1, 1, 1, 1, 1, 1, 1, 1, 1, 1, 1, 1, 1, 1, 1, 1, 1, 1, 1, 1, 1, 1, 1, 1, 1, 1, 1, 1, 1, 1, 1, 1, 1, 1, 1, 1, 1, 1, 1, 1, 1, 1, 1, 1, 1, 1, 1, 1, 1, 1, 1, 1, 1, 1, 1, 1, 1, 1, 1, 1, 1, 1, 1, 1, 1, 1, 1, 1, 1, 1, 1, 1, 1, 1, 1, 1, 1, 1, 1, 1, 1, 1, 1, 1, 1, 1, 1, 1, 1, 1, 1, 1, 1, 1, 1, 1, 1, 1, 1, 1, 1, 1, 1, 1, 1, 1, 1, 1, 1, 1, 1, 1, 1, 1, 1, 1, 1, 1, 1, 1, 1, 1, 1, 1, 1, 1, 1]
def spec_l06Over_l12_nx : Exit → List Nat
  | .exit 4 => [1, 1, 1, 1, 1, 1, 1, 1, 1, 0, 1, 1, 1, 0, 0, 1, 1, 1, 1, 1, 1, 1, 1, 1, 1, 1, 1, 1, 1, 1, 1, 1, 1, 1, 1, 1, 1, 1, 1, 1, 1, 1, 1, 1, 1, 1, 1, 1, 1, 1, 1, 1, 1, 1, 1, 1, 1, 1, 1, 1, 1, 1, 1, 1, 1, 1, 1, 1, 1, 1, 1, 1, 1, 1, 1, 1, 1, 1, 1, 1, 1, 1, 1, 1, 1, 1, 1, 1, 1, 1, 1, 1, 1, 1, 1, 1, 1, 1, 1, 1, 1, 1, 1, 1, 1, 1, 1, 1, 1, 1, 1, 1, 1, 1, 1, 1, 1, 1, 1, 1, 1, 1, 1, 1, 1, 1, 1, 1, 1, 1, 1, 1, 1, 1, 1, 1, 1, 1, 1, 1, 1, 1, 1, 1, 1, 1, 1, 1, 1, 1, 1, 1, 1, 1, 1, 1, 1, 1, 1, 1, 1, 1, 1, 1, 1, 1, 1, 1, 1, 1, 1, 1, 1, 1, 1, 1, 1, 1, 1, 1, 1, 1, 1, 1, 1, 1, 1, 1, 1, 1, 1, 1, 1, 1, 1, 1, 1, 1, 1, 1, 1, 1, 1, 1, 1, 1, 1, 1, 1, 1, 1, 1, 1, 1, 1, 1, 1, 1, 1, 1, 1, 1, 1, 1, 1, 1]
  | .exit 5 => [0, 1, 0, 1, 1, 1, 1, 1, 1, 0, 1, 1, 1, 0, 0, 0, 1, 1, 1, 1, 1, 1, 1, 1, 1, 1, 1, 1, 1, 1, 1, 1, 1, 1, 1, 1, 1, 1, 1, 1, 1, 1, 1, 1, 1, 1, 1, 1, 1, 1, 1, 1, 1, 1, 1, 1, 1, 1, 1, 1, 1, 1, 1, 1, 1, 1, 1, 1, 1, 1, 1, 1, 1, 1, 1, 1, 1, 1, 1, 1, 1, 1, 1, 1, 1, 1, 1, 1, 1, 1, 1, 1, 1, 1, 1, 1, 1, 1, 1, 1, 1, 1, 1, 1, 1, 1, 1, 1, 1, 1, 1, 1, 1, 1, 1, 1, 1, 1, 1, 1, 1, 1, 1, 1, 1, 1, 1, 1, 1, 1, 1, 1, 1, 1, 1, 1, 1, 1, 1, 1, 1, 1, 1, 1, 1, 1, 1, 1, 1, 1, 1, 1, 1, 1, 1, 1, 1, 1, 1, 1, 1, 1, 1, 1, 1, 1, 1, 1, 1, 1, 1, 1, 1, 1, 1, 1, 1, 1, 1, 1, 1, 1, 1, 1, 1, 1, 1, 1, 1, 1, 1, 1, 1, 1, 1, 1, 1, 1, 1, 1, 1, 1, 1, 1, 1, 1, 1, 1, 1, 1, 1, 1, 1, 1, 1, 1, 1, 1, 1, 1, 1, 1, 1, 1, 1, 1]
  | .exit 10 => [0, 1, 0, 1, 1, 1, 1, 1, 1, 0, 1, 1, 1, 0, 0, 0, 1, 1, 1, 1, 1, 1, 1, 1, 1, 1, 1, 1, 1, 1, 1, 1, 1, 1, 1, 1, 1, 1, 1, 1, 1, 1, 1, 1, 1, 1, 1, 1, 1, 1, 1, 1, 1, 1, 1, 1, 1, 1, 1, 1, 1, 1, 1, 1, 1, 1, 1, 1, 1, 1, 1, 1, 1, 1, 1, 1, 1, 1, 1, 1, 1, 1, 1, 1, 1, 1, 1, 1, 1, 1, 1, 1, 1, 1, 1, 1, 1, 1, 1, 1, 1, 1, 1, 1, 1, 1, 1, 1, 1, 1, 1, 1, 1, 1, 1, 1, 1, 1, 1, 1, 1, 1, 1, 1, 1, 1, 1, 1, 1, 1, 1, 1, 1, 1, 1, 1, 1, 1, 1, 1, 1, 1, 1, 1, 1, 1, 1, 1, 1, 1, 1, 1, 1, 1, 1, 1, 1, 1, 1, 1, 1, 1, 1, 1, 1, 1, 1, 1, 1, 1, 1, 1, 1, 1, 1, 1, 1, 1, 1, 1, 1, 1, 1, 1, 1, 1, 1, 1, 1, 1, 1, 1, 1, 1, 1, 1, 1, 1, 1, 1, 1, 1, 1, 1, 1, 1, 1, 1, 1, 1, 1, 1, 1, 1, 1, 1, 1, 1, 1, 1, 1, 1, 1, 1, 1, 1]
  | .exit 11 => [0, 1, 0, 1, 1, 1, 1, 1, 1, 0, 1, 1, 1, 0, 0, 0, 0, 1, 1, 1, 1, 0, 1, 1, 1, 1, 1, 1, 1, 1, 1, 1, 1, 1, 1, 1, 1, 1, 1, 1, 1, 1, 1, 1, 1, 1, 1, 1, 1, 1, 1, 1, 1, 1, 1, 1, 1, 1, 1, 1, 1, 1, 1, 1, 1, 1, 1, 1, 1, 1, 1, 1, 1, 1, 1, 1, 1, 1, 1, 1, 1, 1, 1, 1, 1, 1, 1, 1, 1, 1, 1, 1, 1, 1, 1, 1, 1, 1, 1, 1, 1, 1, 1, 1, 1, 1, 1, 1, 1, 1, 1, 1, 1, 1, 1, 1, 1, 1, 1, 1, 1, 1, 1, 1, 1, 1, 1, 1, 1, 1, 1, 1, 1, 1, 1, 1, 1, 1, 1, 1, 1, 1, 1, 1, 1, 1, 1, 1, 1, 1, 1, 1, 1, 1, 1, 1, 1, 1, 1, 1, 1, 1, 1, 1, 1, 1, 1, 1, 1, 1, 1, 1, 1, 1, 1, 1, 1, 1, 1, 1, 1, 1, 1, 1, 1, 1, 1, 1, 1, 1, 1, 1, 1, 1, 1, 1, 1, 1, 1, 1, 1, 1, 1, 1, 1, 1, 1, 1, 1, 1, 1, 1, 1, 1, 1, 1, 1, 1, 1, 1, 1, 1, 1, 1, 1, 1]
  | .exit 12 => [0, 1, 0, 1, 1, 1, 1, 1, 1, 0, 1, 1, 1, 0, 0, 0, 0, 1, 1, 1, 1, 0, 1, 1, 1, 1, 1, 1, 1, 1, 1, 1, 1, 1, 1, 1, 1, 1, 1, 1, 1, 1, 1, 1, 1, 1, 1, 1, 1, 1, 1, 1, 1, 1, 1, 1, 1, 1, 1, 1, 1, 1, 1, 1, 1, 1, 1, 1, 1, 1, 1, 1, 1, 1, 1, 1, 1, 1, 1, 1, 1, 1, 1, 1, 1, 1, 1, 1, 1, 1, 1, 1, 1, 1, 1, 1, 1, 1, 1, 1, 1, 1, 1, 1, 1, 1, 1, 1, 1, 1, 1, 1, 1, 1, 1, 1, 1, 1, 1, 1, 1, 1, 1, 1, 1, 1, 1, 1, 1, 1, 1, 1, 1, 1, 1, 1, 1, 1, 1, 1, 1, 1, 1, 1, 1, 1, 1, 1, 1, 1, 1, 1, 1, 1, 1, 1, 1, 1, 1, 1, 1, 1, 1, 1, 1, 1, 1, 1, 1, 1, 1, 1, 1, 1, 1, 1, 1, 1, 1, 1, 1, 1, 1, 1, 1, 1, 1, 1, 1, 1, 1, 1, 1, 1, 1, 1, 1, 1, 1, 1, 1, 1, 1, 1, 1, 1, 1, 1, 1, 1, 1, 1, 1, 1, 1, 1, 1, 1, 1, 1, 1, 1, 1, 1, 1, 1]
  | .ret => [1, 1, 1, 1, 1, 1, 0, 0, 0, 1, 1, 1, 1, 1, 1, 1, 1, 1, 1, 1, 1, 1, 1, 1, 1, 1, 1, 1, 1, 1, 1, 1, 1, 1, 1, 1, 1, 1, 1, 1, 1, 1, 1, 1, 1, 1, 1, 1, 1, 1, 1, 1, 1, 1, 1, 1, 1, 1, 1, 1, 1, 1, 1, 1, 1, 1, 1, 1, 1, 1, 1, 1, 1, 1, 1, 1, 1, 1, 1, 1, 1, 1, 1, 1, 1, 1, 1, 1, 1, 1, 1, 1, 1, 1, 1, 1, 1, 1, 1, 1, 1, 1, 1, 1, 1, 1, 1, 1, 1, 1, 1, 1, 1, 1, 1, 1, 1, 1, 1, 1, 1, 1, 1, 1, 1, 1, 1, 1, 1, 1, 1, 1, 1, 1, 1, 1, 1, 1, 1, 1, 1, 1, 1, 1, 1, 1, 1, 1, 1, 1, 1, 1, 1, 1, 1, 1, 1, 1, 1, 1, 1, 1, 1, 1, 1, 1, 1, 1, 1, 1, 1, 1, 1, 1, 1, 1, 1, 1, 1, 1, 1, 1, 1, 1, 1, 1, 1, 1, 1, 1, 1, 1, 1, 1, 1, 1, 1, 1, 1, 1, 1, 1, 1, 1, 1, 1, 1, 1, 1, 1, 1, 1, 1, 1, 1, 1, 1, 1, 1, 1, 1, 1, 1, 1, 1, 1]
  | _ => []
noncomputable def spec_l06Over_l10_T (v52 : Int) (v53 : Int) (v54 : List Int) (v55 : List Int) (v56 : Int) (v824 : Int) (v825 : Int) (v826 : Int) (v829 : List Nat) (v830 : List Int) (s : Int × (List (List Int))) : Tree ((Int × (List (List Int))) ⊕ ((List (List Int)))) :=
  (.br (decide (s.1 < (((v829).length : Nat) : Int))) (
   (.grd (inb s.1 ((v829).length)) <|
   (.grd (inb v825 ((nget s.2 (nth v829 (Int.toNat s.1))).length)) <|
   (.need (some (spec_l06Over_l12_E v52 v53 v54 v55 v56 v824 v825 v826 s.1 (nth (nget s.2 (nth v829 (Int.toNat s.1))) (Int.toNat v825)) v829 v830 ((0 : Int), s.2)) = some (spec_l06Over_l12_E v52 v53 v54 v55 v56 v824 v825 v826 s.1 (nth (nget s.2 (nth v829 (Int.toNat s.1))) (Int.toNat v825)) v829 v830 ((0 : Int), s.2))) <|
   (.call (spec_l06Over_l12_g v56 v824 v825 v826 s.1 (nth (nget s.2 (nth v829 (Int.toNat s.1))) (Int.toNat v825)) v829 v830 ((0 : Int), s.2)) fun v861 =>
   .leaf (.inl (IntKind.i64.wrap (s.1 + (1 : Int)), v861))))))
  ) (
   .leaf (.inr s.2)
  ))

noncomputable def spec_l06Over_l10_g (v52 : Int) (v53 : Int) (v54 : List Int) (v55 : List Int) (v56 : Int) (v824 : Int) (v825 : Int) (v826 : Int) (v829 : List Nat) (v830 : List Int) (s0 : Int × (List (List Int))) : Option ((List (List Int))) := whileM (fun s => (spec_l06Over_l10_T v52 v53 v54 v55 v56 v824 v825 v826 v829 v830 s).run) s0
def spec_l06Over_l10_E (v52 : Int) (v53 : Int) (v54 : List Int) (v55 : List Int) (v56 : Int) (v824 : Int) (v825 : Int) (v826 : Int) (v829 : List Nat) (v830 : List Int) (s : Int × (List (List Int))) : Sd := ([.bptr (BR.root 0) [.int .i64 v52, .int .i64 v53, .bslc (BR.root 1) (.i64 v54)], .top, .int .i64 v56, .top, .top, .top, .top, .top, .top, .nest 0 0 1 ((v829).length), .top, .top, .top, .own 1 0 ((v830).length), .int .i64 v824, .int .i64 v825, .int .i64 v826, .top, .top, .top, .top, .int .i64 s.1, .top, .top, .top, .top, .top, .top, .top, .top, .top, .top, .top, .top, .top, .top, .top, .top, .top, .top, .top, .top, .top, .top, .top, .top, .top, .top, .top, .top, .top, .top, .top, .top, .top, .top, .top, .top, .top, .top, .top, .top, .top, .top, .top, .top, .top, .top, .top, .top, .top, .top, .top, .top, .top, .top, .top, .top, .top, .top, .top, .top, .top, .top, .top, .top, .top, .top, .top, .top, .top, .top, .top, .top, .top, .top, .top, .top, .top, .top, .top, .top, .top, .top, .top, .top, .top, .top, .top, .top, .top, .top, .top, .top, .top, .top, .top, .top, .top, .top, .top, .top, .top, .top, .top, .top, .top, .top, .top, .top, .top, .top, .top, .top, .top, .top, .top, .top, .top, .top, .top, .top, .top, .top, .top, .top, .top, .top, .top, .top, .top, .top, .top, .top, .top, .top, .top, .top, .top, .top, .top, .top, .top, .top, .top, .top, .top, .top, .top, .top, .top, .top, .top, .top, .top, .top, .top, .top, .top, .top, .top, .top, .top, .top, .top, .top, .top, .top, .top, .top, .top, .top, .top, .top, .top, .top, .top, .top, .top, .top, .top, .top, .top, .top, .top, .top, .top, .top, .top, .top, .top, .top, .top, .top, .top, .top, .top, .top, .top, .top, .top, .top, .top, .top, .top, .top], [.nest [.sl (.i64 s.2) v829] false 0, .row (.i64 v830) 0])
def spec_l06Over_l10_X (v52 : Int) (v53 : Int) (v54 : List Int) (v55 : List Int) (v56 : Int) (v824 : Int) (v825 : Int) (v826 : Int) (v829 : List Nat) (v830 : List Int) (x : (List (List Int))) : Out := (.normal, [.bptr (BR.root 0) [.int .i64 v52, .int .i64 v53, .bslc (BR.root 1) (.i64 v54)], .top, .int .i64 v56, .top, .top, .top, .top, .top, .top, .nest 0 0 1 ((v829).length), .top, .top, .top, .own 1 0 ((v830).length), .int .i64 v824, .int .i64 v825, .top, .top, .top, .top, .top, .top, .top, .top, .top, .top, .top, .top, .top, .top, .top, .top, .top, .top, .top, .top, .top, .top, .top, .top, .top, .top, .top, .top, .top, .top, .top, .top, .top, .top, .top, .top, .top, .top, .top, .top, .top, .top, .top, .top, .top, .top, .top, .top, .top, .top, .top, .top, .top, .top, .top, .top, .top, .top, .top, .top, .top, .top, .top, .top, .top, .top, .top, .top, .top, .top, .top, .top, .top, .top, .top, .top, .top, .top, .top, .top, .top, .top, .top, .top, .top, .top, .top, .top, .top, .top, .top, .top, .top, .top, .top, .top, .top, .top, .top, .top, .top, .top, .top, .top, .top, .top, .top, .top, .top, .top, .top, .top, .top, .top, .top, .top, .top, .top, .top, .top, .top, .top, .top, .top, .top, .top, .top, .top, .top, .top, .top, .top, .top, .top, .top, .top, .top, .top, .top, .top, .top, .top, .top, .top, .top, .top, .top, .top, .top, .top, .top, .top, .top, .top, .top, .top, .top, .top, .top, .top, .top, .top, .top, .top, .top, .top, .top, .top, .top, .top, .top, .top, .top, .top, .top, .top, .top, .top, .top, .top, .top, .top, .top, .top, .top, .top, .top, .top, .top, .top, .top, .top, .top, .top, .top, .top, .top, .top, .top, .top, .top, .top, .top, .top, .top, .top, .top, .top, .top, .top], [.nest [.sl (.i64 x) v829] false 0, .row (.i64 v830) 0])
def spec_l06Over_l10_kill : List Nat := [0, 1, 0, 1, 1, 1, 1, 1, 1, 0, 1, 1, 1, 0, 0, 0, 0, 1, 1, 1, 1, 0, 1, 1, 1, 1, 1, 1, 1, 1, 1, 1, 1, 1, 1, 1, 1, 1, 1, 1, 1, 1, 1, 1, 1, 1, 1, 1, 1, 1, 1, 1, 1, 1, 1, 1, 1, 1, 1, 1, 1, 1, 1, 1, 1, 1, 1, 1, 1, 1, 1, 1, 1, 1, 1, 1, 1, 1, 1, 1, 1, 1, 1, 1, 1, 1, 1, 1, 1, 1, 1, 1, 1, 1, 1, 1, 1, 1, 1, 1, 1, 1, 1, 1, 1, 1, 1, 1, 1, 1, 1, 1, 1, 1, 1, 1, 1, 1, 1, 1, 1, 1, 1, 1, 1, 1, 1, 1, 1, 1, 1, 1, 1, 1, 1, 1, 1, 1, 1, 1, 1, 1, 1, 1, 1, 1, 1, 1, 1, 1, 1, 1, 1, 1, 1, 1, 1, 1, 1, 1, 1, 1, 1, 1, 1, 1, 1, 1, 1, 1, 1, 1, 1, 1, 1, 1, 1, 1, 1, 1, 1, 1, 1, 1, 1, 1, 1, 1, 1, 1, 1, 1, 1, 1, 1, 1, 1, 1, 1, 1, 1, 1, 1, 1, 1, 1, 1, 1, 1, 1, 1, 1, 1, 1, 1, 1, 1, 1, 1, 1, 1, 1, 1, 1, 1, 1]
def spec_l06Over_l10_nx : Exit → List Nat
  | .exit 4 => [1, 1, 1, 1, 1, 1, 1, 1, 1, 0, 1, 1, 1, 0, 0, 1, 1, 1, 1, 1, 1, 1, 1, 1, 1, 1, 1, 1, 1, 1, 1, 1, 1, 1, 1, 1, 1, 1, 1, 1, 1, 1, 1, 1, 1, 1, 1, 1, 1, 1, 1, 1, 1, 1, 1, 1, 1, 1, 1, 1, 1, 1, 1, 1, 1, 1, 1, 1, 1, 1, 1, 1, 1, 1, 1, 1, 1, 1, 1, 1, 1, 1, 1, 1, 1, 1, 1, 1, 1, 1, 1, 1, 1, 1, 1, 1, 1, 1, 1, 1, 1, 1, 1, 1, 1, 1, 1, 1, 1, 1, 1, 1, 1, 1, 1, 1, 1, 1, 1, 1, 1, 1, 1, 1, 1, 1, 1, 1, 1, 1, 1, 1, 1, 1, 1, 1, 1, 1, 1, 1, 1, 1, 1, 1, 1, 1, 1, 1, 1, 1, 1, 1, 1, 1, 1, 1, 1, 1, 1, 1, 1, 1, 1, 1, 1, 1, 1, 1, 1, 1, 1, 1, 1, 1, 1, 1, 1, 1, 1, 1, 1, 1, 1, 1, 1, 1, 1, 1, 1, 1, 1, 1, 1, 1, 1, 1, 1, 1, 1, 1, 1, 1, 1, 1, 1, 1, 1, 1, 1, 1, 1, 1, 1, 1, 1, 1, 1, 1, 1, 1, 1, 1, 1, 1, 1, 1]
  | .exit 5 => [0, 1, 0, 1, 1, 1, 1, 1, 1, 0, 1, 1, 1, 0, 0, 0, 1, 1, 1, 1, 1, 1, 1, 1, 1, 1, 1, 1, 1, 1, 1, 1, 1, 1, 1, 1, 1, 1, 1, 1, 1, 1, 1, 1, 1, 1, 1, 1, 1, 1, 1, 1, 1, 1, 1, 1, 1, 1, 1, 1, 1, 1, 1, 1, 1, 1, 1, 1, 1, 1, 1, 1, 1, 1, 1, 1, 1, 1, 1, 1, 1, 1, 1, 1, 1, 1, 1, 1, 1, 1, 1, 1, 1, 1, 1, 1, 1, 1, 1, 1, 1, 1, 1, 1, 1, 1, 1, 1, 1, 1, 1, 1, 1, 1, 1, 1, 1, 1, 1, 1, 1, 1, 1, 1, 1, 1, 1, 1, 1, 1, 1, 1, 1, 1, 1, 1, 1, 1, 1, 1, 1, 1, 1, 1, 1, 1, 1, 1, 1, 1, 1, 1, 1, 1, 1, 1, 1, 1, 1, 1, 1, 1, 1, 1, 1, 1, 1, 1, 1, 1, 1, 1, 1, 1, 1, 1, 1, 1, 1, 1, 1, 1, 1, 1, 1, 1, 1, 1, 1, 1, 1, 1, 1, 1, 1, 1, 1, 1, 1, 1, 1, 1, 1, 1, 1, 1, 1, 1, 1, 1, 1, 1, 1, 1, 1, 1, 1, 1, 1, 1, 1, 1, 1, 1, 1, 1]
  | .exit 10 => [0, 1, 0, 1, 1, 1, 1, 1, 1, 0, 1, 1, 1, 0, 0, 0, 1, 1, 1, 1, 1, 1, 1, 1, 1, 1, 1, 1, 1, 1, 1, 1, 1, 1, 1, 1, 1, 1, 1, 1, 1, 1, 1, 1, 1, 1, 1, 1, 1, 1, 1, 1, 1, 1, 1, 1, 1, 1, 1, 1, 1, 1, 1, 1, 1, 1, 1, 1, 1, 1, 1, 1, 1, 1, 1, 1, 1, 1, 1, 1, 1, 1, 1, 1, 1, 1, 1, 1, 1, 1, 1, 1, 1, 1, 1, 1, 1, 1, 1, 1, 1, 1, 1, 1, 1, 1, 1, 1, 1, 1, 1, 1, 1, 1, 1, 1, 1, 1, 1, 1, 1, 1, 1, 1, 1, 1, 1, 1, 1, 1, 1, 1, 1, 1, 1, 1, 1, 1, 1, 1, 1, 1, 1, 1, 1, 1, 1, 1, 1, 1, 1, 1, 1, 1, 1, 1, 1, 1, 1, 1, 1, 1, 1, 1, 1, 1, 1, 1, 1, 1, 1, 1, 1, 1, 1, 1, 1, 1, 1, 1, 1, 1, 1, 1, 1, 1, 1, 1, 1, 1, 1, 1, 1, 1, 1, 1, 1, 1, 1, 1, 1, 1, 1, 1, 1, 1, 1, 1, 1, 1, 1, 1, 1, 1, 1, 1, 1, 1, 1, 1, 1, 1, 1, 1, 1, 1]
  | .ret => [1, 1, 1, 1, 1, 1, 0, 0, 0, 1, 1, 1, 1, 1, 1, 1, 1, 1, 1, 1, 1, 1, 1, 1, 1, 1, 1, 1, 1, 1, 1, 1, 1, 1, 1, 1, 1, 1, 1, 1, 1, 1, 1, 1, 1, 1, 1, 1, 1, 1, 1, 1, 1, 1, 1, 1, 1, 1, 1, 1, 1, 1, 1, 1, 1, 1, 1, 1, 1, 1, 1, 1, 1, 1, 1, 1, 1, 1, 1, 1, 1, 1, 1, 1, 1, 1, 1, 1, 1, 1, 1, 1, 1, 1, 1, 1, 1, 1, 1, 1, 1, 1, 1, 1, 1, 1, 1, 1, 1, 1, 1, 1, 1, 1, 1, 1, 1, 1, 1, 1, 1, 1, 1, 1, 1, 1, 1, 1, 1, 1, 1, 1, 1, 1, 1, 1, 1, 1, 1, 1, 1, 1, 1, 1, 1, 1, 1, 1, 1, 1, 1, 1, 1, 1, 1, 1, 1, 1, 1, 1, 1, 1, 1, 1, 1, 1, 1, 1, 1, 1, 1, 1, 1, 1, 1, 1, 1, 1, 1, 1, 1, 1, 1, 1, 1, 1, 1, 1, 1, 1, 1, 1, 1, 1, 1, 1, 1, 1, 1, 1, 1, 1, 1, 1, 1, 1, 1, 1, 1, 1, 1, 1, 1, 1, 1, 1, 1, 1, 1, 1, 1, 1, 1, 1, 1, 1]
  | _ => []
noncomputable def spec_l06Over_l4_T (v52 : Int) (v53 : Int) (v54 : List Int) (v55 : List Int) (v56 : Int) (s : Int × Int × (List (List Int)) × (List Nat) × (List Int)) : Tree ((Int × Int × (List (List Int)) × (List Nat) × (List Int)) ⊕ (Int × (List (List Int)) × (List Nat) × (List Int))) :=
  (.br (decide (s.2.1 < v53)) (
   (.need (some (spec_l06Over_l6_E v52 v53 v54 v55 v56 s.1 s.2.1 (((s.2.2.2.2).length : Nat) : Int) s.2.2.1 s.2.2.2.1 s.2.2.2.2 (((s.2.2.2.2).length : Nat) : Int)) = some (spec_l06Over_l6_E v52 v53 v54 v55 v56 s.1 s.2.1 (((s.2.2.2.2).length : Nat) : Int) s.2.2.1 s.2.2.2.1 s.2.2.2.2 (((s.2.2.2.2).length : Nat) : Int))) <|
   (.call (spec_l06Over_l6_g s.1 s.2.1 (((s.2.2.2.2).length : Nat) : Int) s.2.2.1 s.2.2.2.1 s.2.2.2.2 (((s.2.2.2.2).length : Nat) : Int)) fun v720 =>
   (.br (decide ((((s.2.2.2.1).length : Nat) : Int) ≤ v720)) (
    .leaf (.inl ((0 : Int), IntKind.i64.wrap (s.2.1 + (1 : Int)), s.2.2.1, s.2.2.2.1, s.2.2.2.2))
   ) (
    (.br (!decide (v720 = (((s.2.2.2.2).length : Nat) : Int))) (
     (.grd (inb v720 ((s.2.2.2.1).length)) <|
     (.grd (inb (((s.2.2.2.2).length : Nat) : Int) ((s.2.2.2.1).length)) <|
     (.grd (inb v720 ((s.2.2.2.1).length)) <|
     (.grd (inb (((s.2.2.2.2).length : Nat) : Int) ((s.2.2.2.1).length)) <|
     (.call (spec_l06Mod_g (IntKind.i64.wrap (0 - s.1)) v56) fun v721 =>
     (.grd (inb (((s.2.2.2.2).length : Nat) : Int) ((s.2.2.2.1).length)) <|
     (.grd (inb s.2.1 ((nget s.2.2.1 (nth (List.set (List.set s.2.2.2.1 (Int.toNat v720) (nth s.2.2.2.1 (Int.toNat (((s.2.2.2.2).length : Nat) : Int)))) (Int.toNat (((s.2.2.2.2).length : Nat) : Int)) (nth s.2.2.2.1 (Int.toNat v720))) (Int.toNat (((s.2.2.2.2).length : Nat) : Int)))).length)) <|
     (.grd (!decide (v56 = 0)) <|
     (.grd (inb (((s.2.2.2.2).length : Nat) : Int) ((s.2.2.2.1).length)) <|
     (.grd (inb s.2.1 ((nget s.2.2.1 (nth (List.set (List.set s.2.2.2.1 (Int.toNat v720) (nth s.2.2.2.1 (Int.toNat (((s.2.2.2.2).length : Nat) : Int)))) (Int.toNat (((s.2.2.2.2).length : Nat) : Int)) (nth s.2.2.2.1 (Int.toNat v720))) (Int.toNat (((s.2.2.2.2).length : Nat) : Int)))).length)) <|
     (.call (spec_l06Back_g (nth (nget s.2.2.1 (nth (List.set (List.set s.2.2.2.1 (Int.toNat v720) (nth s.2.2.2.1 (Int.toNat (((s.2.2.2.2).length : Nat) : Int)))) (Int.toNat (((s.2.2.2.2).length : Nat) : Int)) (nth s.2.2.2.1 (Int.toNat v720))) (Int.toNat (((s.2.2.2.2).length : Nat) : Int)))) (Int.toNat s.2.1)) v56) fun v722 =>
     (.need (some (spec_l06Over_l8_E v52 v53 v54 v55 v56 (Int.tmod (IntKind.i64.wrap (v721 * (nth (nget s.2.2.1 (nth (List.set (List.set s.2.2.2.1 (Int.toNat v720) (nth s.2.2.2.1 (Int.toNat (((s.2.2.2.2).length : Nat) : Int)))) (Int.toNat (((s.2.2.2.2).length : Nat) : Int)) (nth s.2.2.2.1 (Int.toNat v720))) (Int.toNat (((s.2.2.2.2).length : Nat) : Int)))) (Int.toNat s.2.1)))) v56) s.2.1 (((s.2.2.2.2).length : Nat) : Int) v722 (List.set (List.set s.2.2.2.1 (Int.toNat v720) (nth s.2.2.2.1 (Int.toNat (((s.2.2.2.2).length : Nat) : Int)))) (Int.toNat (((s.2.2.2.2).length : Nat) : Int)) (nth s.2.2.2.1 (Int.toNat v720))) s.2.2.2.2 ((0 : Int), s.2.2.1)) = some (spec_l06Over_l8_E v52 v53 v54 v55 v56 (Int.tmod (IntKind.i64.wrap (v721 * (nth (nget s.2.2.1 (nth (List.set (List.set s.2.2.2.1 (Int.toNat v720) (nth s.2.2.2.1 (Int.toNat (((s.2.2.2.2).length : Nat) : Int)))) (Int.toNat (((s.2.2.2.2).length : Nat) : Int)) (nth s.2.2.2.1 (Int.toNat v720))) (Int.toNat (((s.2.2.2.2).length : Nat) : Int)))) (Int.toNat s.2.1)))) v56) s.2.1 (((s.2.2.2.2).length : Nat) : Int) v722 (List.set (List.set s.2.2.2.1 (Int.toNat v720) (nth s.2.2.2.1 (Int.toNat (((s.2.2.2.2).length : Nat) : Int)))) (Int.toNat (((s.2.2.2.2).length : Nat) : Int)) (nth s.2.2.2.1 (Int.toNat v720))) s.2.2.2.2 ((0 : Int), s.2.2.1))) <|
     (.call (spec_l06Over_l8_g v56 (Int.tmod (IntKind.i64.wrap (v721 * (nth (nget s.2.2.1 (nth (List.set (List.set s.2.2.2.1 (Int.toNat v720) (nth s.2.2.2.1 (Int.toNat (((s.2.2.2.2).length : Nat) : Int)))) (Int.toNat (((s.2.2.2.2).length : Nat) : Int)) (nth s.2.2.2.1 (Int.toNat v720))) (Int.toNat (((s.2.2.2.2).length : Nat) : Int)))) (Int.toNat s.2.1)))) v56) s.2.1 (((s.2.2.2.2).length : Nat) : Int) v722 (List.set (List.set s.2.2.2.1 (Int.toNat v720) (nth s.2.2.2.1 (Int.toNat (((s.2.2.2.2).length : Nat) : Int)))) (Int.toNat (((s.2.2.2.2).length : Nat) : Int)) (nth s.2.2.2.1 (Int.toNat v720))) s.2.2.2.2 ((0 : Int), s.2.2.1)) fun v747 =>
     (.need (some (spec_l06Over_l10_E v52 v53 v54 v55 v56 (Int.tmod (IntKind.i64.wrap (v721 * (nth (nget s.2.2.1 (nth (List.set (List.set s.2.2.2.1 (Int.toNat v720) (nth s.2.2.2.1 (Int.toNat (((s.2.2.2.2).length : Nat) : Int)))) (Int.toNat (((s.2.2.2.2).length : Nat) : Int)) (nth s.2.2.2.1 (Int.toNat v720))) (Int.toNat (((s.2.2.2.2).length : Nat) : Int)))) (Int.toNat s.2.1)))) v56) s.2.1 (((s.2.2.2.2).length : Nat) : Int) (List.set (List.set s.2.2.2.1 (Int.toNat v720) (nth s.2.2.2.1 (Int.toNat (((s.2.2.2.2).length : Nat) : Int)))) (Int.toNat (((s.2.2.2.2).length : Nat) : Int)) (nth s.2.2.2.1 (Int.toNat v720))) s.2.2.2.2 ((0 : Int), v747)) = some (spec_l06Over_l10_E v52 v53 v54 v55 v56 (Int.tmod (IntKind.i64.wrap (v721 * (nth (nget s.2.2.1 (nth (List.set (List.set s.2.2.2.1 (Int.toNat v720) (nth s.2.2.2.1 (Int.toNat (((s.2.2.2.2).length : Nat) : Int)))) (Int.toNat (((s.2.2.2.2).length : Nat) : Int)) (nth s.2.2.2.1 (Int.toNat v720))) (Int.toNat (((s.2.2.2.2).length : Nat) : Int)))) (Int.toNat s.2.1)))) v56) s.2.1 (((s.2.2.2.2).length : Nat) : Int) (List.set (List.set s.2.2.2.1 (Int.toNat v720) (nth s.2.2.2.1 (Int.toNat (((s.2.2.2.2).length : Nat) : Int)))) (Int.toNat (((s.2.2.2.2).length : Nat) : Int)) (nth s.2.2.2.1 (Int.toNat v720))) s.2.2.2.2 ((0 : Int), v747))) <|
     (.call (spec_l06Over_l10_g v52 v53 v54 v55 v56 (Int.tmod (IntKind.i64.wrap (v721 * (nth (nget s.2.2.1 (nth (List.set (List.set s.2.2.2.1 (Int.toNat v720) (nth s.2.2.2.1 (Int.toNat (((s.2.2.2.2).length : Nat) : Int)))) (Int.toNat (((s.2.2.2.2).length : Nat) : Int)) (nth s.2.2.2.1 (Int.toNat v720))) (Int.toNat (((s.2.2.2.2).length : Nat) : Int)))) (Int.toNat s.2.1)))) v56) s.2.1 (((s.2.2.2.2).length : Nat) : Int) (List.set (List.set s.2.2.2.1 (Int.toNat v720) (nth s.2.2.2.1 (Int.toNat (((s.2.2.2.2).length : Nat) : Int)))) (Int.toNat (((s.2.2.2.2).length : Nat) : Int)) (nth s.2.2.2.1 (Int.toNat v720))) s.2.2.2.2 ((0 : Int), v747)) fun v862 =>
     (.grd (fits (s.2.2.2.2 ++ ([s.2.1] : List Int)).length) <|
     .leaf (.inl ((Int.tmod (IntKind.i64.wrap (v721 * (nth (nget s.2.2.1 (nth (List.set (List.set s.2.2.2.1 (Int.toNat v720) (nth s.2.2.2.1 (Int.toNat (((s.2.2.2.2).length : Nat) : Int)))) (Int.toNat (((s.2.2.2.2).length : Nat) : Int)) (nth s.2.2.2.1 (Int.toNat v720))) (Int.toNat (((s.2.2.2.2).length : Nat) : Int)))) (Int.toNat s.2.1)))) v56), IntKind.i64.wrap (s.2.1 + (1 : Int)), v862, (List.set (List.set s.2.2.2.1 (Int.toNat v720) (nth s.2.2.2.1 (Int.toNat (((s.2.2.2.2).length : Nat) : Int)))) (Int.toNat (((s.2.2.2.2).length : Nat) : Int)) (nth s.2.2.2.1 (Int.toNat v720))), s.2.2.2.2 ++ ([s.2.1] : List Int)))))))))))))))))))
    ) (
     (.grd (inb (((s.2.2.2.2).length : Nat) : Int) ((s.2.2.2.1).length)) <|
     (.grd (inb s.2.1 ((nget s.2.2.1 (nth s.2.2.2.1 (Int.toNat (((s.2.2.2.2).length : Nat) : Int)))).length)) <|
     (.grd (!decide (v56 = 0)) <|
     (.grd (inb (((s.2.2.2.2).length : Nat) : Int) ((s.2.2.2.1).length)) <|
     (.grd (inb s.2.1 ((nget s.2.2.1 (nth s.2.2.2.1 (Int.toNat (((s.2.2.2.2).length : Nat) : Int)))).length)) <|
     (.call (spec_l06Back_g (nth (nget s.2.2.1 (nth s.2.2.2.1 (Int.toNat (((s.2.2.2.2).length : Nat) : Int)))) (Int.toNat s.2.1)) v56) fun v863 =>
     (.need (some (spec_l06Over_l8_E v52 v53 v54 v55 v56 (Int.tmod (IntKind.i64.wrap (s.1 * (nth (nget s.2.2.1 (nth s.2.2.2.1 (Int.toNat (((s.2.2.2.2).length : Nat) : Int)))) (Int.toNat s.2.1)))) v56) s.2.1 (((s.2.2.2.2).length : Nat) : Int) v863 s.2.2.2.1 s.2.2.2.2 ((0 : Int), s.2.2.1)) = some (spec_l06Over_l8_E v52 v53 v54 v55 v56 (Int.tmod (IntKind.i64.wrap (s.1 * (nth (nget s.2.2.1 (nth s.2.2.2.1 (Int.toNat (((s.2.2.2.2).length : Nat) : Int)))) (Int.toNat s.2.1)))) v56) s.2.1 (((s.2.2.2.2).length : Nat) : Int) v863 s.2.2.2.1 s.2.2.2.2 ((0 : Int), s.2.2.1))) <|
     (.call (spec_l06Over_l8_g v56 (Int.tmod (IntKind.i64.wrap (s.1 * (nth (nget s.2.2.1 (nth s.2.2.2.1 (Int.toNat (((s.2.2.2.2).length : Nat) : Int)))) (Int.toNat s.2.1)))) v56) s.2.1 (((s.2.2.2.2).length : Nat) : Int) v863 s.2.2.2.1 s.2.2.2.2 ((0 : Int), s.2.2.1)) fun v888 =>
     (.need (some (spec_l06Over_l10_E v52 v53 v54 v55 v56 (Int.tmod (IntKind.i64.wrap (s.1 * (nth (nget s.2.2.1 (nth s.2.2.2.1 (Int.toNat (((s.2.2.2.2).length : Nat) : Int)))) (Int.toNat s.2.1)))) v56) s.2.1 (((s.2.2.2.2).length : Nat) : Int) s.2.2.2.1 s.2.2.2.2 ((0 : Int), v888)) = some (spec_l06Over_l10_E v52 v53 v54 v55 v56 (Int.tmod (IntKind.i64.wrap (s.1 * (nth (nget s.2.2.1 (nth s.2.2.2.1 (Int.toNat (((s.2.2.2.2).length : Nat) : Int)))) (Int.toNat s.2.1)))) v56) s.2.1 (((s.2.2.2.2).length : Nat) : Int) s.2.2.2.1 s.2.2.2.2 ((0 : Int), v888))) <|
     (.call (spec_l06Over_l10_g v52 v53 v54 v55 v56 (Int.tmod (IntKind.i64.wrap (s.1 * (nth (nget s.2.2.1 (nth s.2.2.2.1 (Int.toNat (((s.2.2.2.2).length : Nat) : Int)))) (Int.toNat s.2.1)))) v56) s.2.1 (((s.2.2.2.2).length : Nat) : Int) s.2.2.2.1 s.2.2.2.2 ((0 : Int), v888)) fun v1003 =>
     (.grd (fits (s.2.2.2.2 ++ ([s.2.1] : List Int)).length) <|
     .leaf (.inl ((Int.tmod (IntKind.i64.wrap (s.1 * (nth (nget s.2.2.1 (nth s.2.2.2.1 (Int.toNat (((s.2.2.2.2).length : Nat) : Int)))) (Int.toNat s.2.1)))) v56), IntKind.i64.wrap (s.2.1 + (1 : Int)), v1003, s.2.2.2.1, s.2.2.2.2 ++ ([s.2.1] : List Int))))))))))))))
    ))
   ))))
  ) (
   .leaf (.inr (s.1, s.2.2.1, s.2.2.2.1, s.2.2.2.2))
  ))

noncomputable def spec_l06Over_l4_g (v52 : Int) (v53 : Int) (v54 : List Int) (v55 : List Int) (v56 : Int) (s0 : Int × Int × (List (List Int)) × (List Nat) × (List Int)) : Option (Int × (List (List Int)) × (List Nat) × (List Int)) := whileM (fun s => (spec_l06Over_l4_T v52 v53 v54 v55 v56 s).run) s0
def spec_l06Over_l4_E (v52 : Int) (v53 : Int) (v54 : List Int) (v55 : List Int) (v56 : Int) (s : Int × Int × (List (List Int)) × (List Nat) × (List Int)) : Sd := ([.bptr (BR.root 0) [.int .i64 v52, .int .i64 v53, .bslc (BR.root 1) (.i64 v54)], .top, .int .i64 v56, .top, .top, .top, .top, .top, .top, .nest 0 0 1 ((s.2.2.2.1).length), .top, .top, .top, .own 1 0 ((s.2.2.2.2).length), .int .i64 s.1, .int .i64 s.2.1, .top, .top, .top, .top, .top, .top, .top, .top, .top, .top, .top, .top, .top, .top, .top, .top, .top, .top, .top, .top, .top, .top, .top, .top, .top, .top, .top, .top, .top, .top, .top, .top, .top, .top, .top, .top, .top, .top, .top, .top, .top, .top, .top, .top, .top, .top, .top, .top, .top, .top, .top, .top, .top, .top, .top, .top, .top, .top, .top, .top, .top, .top, .top, .top, .top, .top, .top, .top, .top, .top, .top, .top, .top, .top, .top, .top, .top, .top, .top, .top, .top, .top, .top, .top, .top, .top, .top, .top, .top, .top, .top, .top, .top, .top, .top, .top, .top, .top, .top, .top, .top, .top, .top, .top, .top, .top, .top, .top, .top, .top, .top, .top, .top, .top, .top, .top, .top, .top, .top, .top, .top, .top, .top, .top, .top, .top, .top, .top, .top, .top, .top, .top, .top, .top, .top, .top, .top, .top, .top, .top, .top, .top, .top, .top, .top, .top, .top, .top, .top, .top, .top, .top, .top, .top, .top, .top, .top, .top, .top, .top, .top, .top, .top, .top, .top, .top, .top, .top, .top, .top, .top, .top, .top, .top, .top, .top, .top, .top, .top, .top, .top, .top, .top, .top, .top, .top, .top, .top, .top, .top, .top, .top, .top, .top, .top, .top, .top, .top, .top, .top, .top, .top, .top, .top, .top, .top, .top, .top, .top, .top], [.nest [.sl (.i64 s.2.2.1) s.2.2.2.1] false 0, .row (.i64 s.2.2.2.2) 0])
def spec_l06Over_l4_X (v52 : Int) (v53 : Int) (v54 : List Int) (v55 : List Int) (v56 : Int) (x : Int × (List (List Int)) × (List Nat) × (List Int)) : Out := (.normal, [.top, .top, .top, .top, .top, .top, .top, .top, .top, .nest 0 0 1 ((x.2.2.1).length), .top, .top, .top, .own 1 0 ((x.2.2.2).length), .int .i64 x.1, .top, .top, .top, .top, .top, .top, .top, .top, .top, .top, .top, .top, .top, .top, .top, .top, .top, .top, .top, .top, .top, .top, .top, .top, .top, .top, .top, .top, .top, .top, .top, .top, .top, .top, .top, .top, .top, .top, .top, .top, .top, .top, .top, .top, .top, .top, .top, .top, .top, .top, .top, .top, .top, .top, .top, .top, .top, .top, .top, .top, .top, .top, .top, .top, .top, .top, .top, .top, .top, .top, .top, .top, .top, .top, .top, .top, .top, .top, .top, .top, .top, .top, .top, .top, .top, .top, .top, .top, .top, .top, .top, .top, .top, .top, .top, .top, .top, .top, .top, .top, .top, .top, .top, .top, .top, .top, .top, .top, .top, .top, .top, .top, .top, .top, .top, .top, .top, .top, .top, .top, .top, .top, .top, .top, .top, .top, .top, .top, .top, .top, .top, .top, .top, .top, .top, .top, .top, .top, .top, .top, .top, .top, .top, .top, .top, .top, .top, .top, .top, .top, .top, .top, .top, .top, .top, .top, .top, .top, .top, .top, .top, .top, .top, .top, .top, .top, .top, .top, .top, .top, .top, .top, .top, .top, .top, .top, .top, .top, .top, .top, .top, .top, .top, .top, .top, .top, .top, .top, .top, .top, .top, .top, .top, .top, .top, .top, .top, .top, .top, .top, .top, .top, .top, .top, .top, .top, .top, .top, .top, .top, .top], [.nest [.sl (.i64 x.2.1) x.2.2.1] false 0, .row (.i64 x.2.2.2) 0])
def spec_l06Over_l4_kill : List Nat := [0, 1, 0, 1, 1, 1, 1, 1, 1, 0, 1, 1, 1, 0, 0, 0, 1, 1, 1, 1, 1, 1, 1, 1, 1, 1, 1, 1, 1, 1, 1, 1, 1, 1, 1, 1, 1, 1, 1, 1, 1, 1, 1, 1, 1, 1, 1, 1, 1, 1, 1, 1, 1, 1, 1, 1, 1, 1, 1, 1, 1, 1, 1, 1, 1, 1, 1, 1, 1, 1, 1, 1, 1, 1, 1, 1, 1, 1, 1, 1, 1, 1, 1, 1, 1, 1, 1, 1, 1, 1, 1, 1, 1, 1, 1, 1, 1, 1, 1, 1, 1, 1, 1, 1, 1, 1, 1, 1, 1, 1, 1, 1, 1, 1, 1, 1, 1, 1, 1, 1, 1, 1, 1, 1, 1, 1, 1, 1, 1, 1, 1, 1, 1, 1, 1, 1, 1, 1, 1, 1, 1, 1, 1, 1, 1, 1, 1, 1, 1, 1, 1, 1, 1, 1, 1, 1, 1, 1, 1, 1, 1, 1, 1, 1, 1, 1, 1, 1, 1, 1, 1, 1, 1, 1, 1, 1, 1, 1, 1, 1, 1, 1, 1, 1, 1, 1, 1, 1, 1, 1, 1, 1, 1, 1, 1, 1, 1, 1, 1, 1, 1, 1, 1, 1, 1, 1, 1, 1, 1, 1, 1, 1, 1, 1, 1, 1, 1, 1, 1, 1, 1, 1, 1, 1, 1, 1]
def spec_l06Over_l4_nx : Exit → List Nat
  | .exit 4 => [1, 1, 1, 1, 1, 1, 1, 1, 1, 0, 1, 1, 1, 0, 0, 1, 1, 1, 1, 1, 1, 1, 1, 1, 1, 1, 1, 1, 1, 1, 1, 1, 1, 1, 1, 1, 1, 1, 1, 1, 1, 1, 1, 1, 1, 1, 1, 1, 1, 1, 1, 1, 1, 1, 1, 1, 1, 1, 1, 1, 1, 1, 1, 1, 1, 1, 1, 1, 1, 1, 1, 1, 1, 1, 1, 1, 1, 1, 1, 1, 1, 1, 1, 1, 1, 1, 1, 1, 1, 1, 1, 1, 1, 1, 1, 1, 1, 1, 1, 1, 1, 1, 1, 1, 1, 1, 1, 1, 1, 1, 1, 1, 1, 1, 1, 1, 1, 1, 1, 1, 1, 1, 1, 1, 1, 1, 1, 1, 1, 1, 1, 1, 1, 1, 1, 1, 1, 1, 1, 1, 1, 1, 1, 1, 1, 1, 1, 1, 1, 1, 1, 1, 1, 1, 1, 1, 1, 1, 1, 1, 1, 1, 1, 1, 1, 1, 1, 1, 1, 1, 1, 1, 1, 1, 1, 1, 1, 1, 1, 1, 1, 1, 1, 1, 1, 1, 1, 1, 1, 1, 1, 1, 1, 1, 1, 1, 1, 1, 1, 1, 1, 1, 1, 1, 1, 1, 1, 1, 1, 1, 1, 1, 1, 1, 1, 1, 1, 1, 1, 1, 1, 1, 1, 1, 1, 1]
  | .ret => [1, 1, 1, 1, 1, 1, 0, 0, 0, 1, 1, 1, 1, 1, 1, 1, 1, 1, 1, 1, 1, 1, 1, 1, 1, 1, 1, 1, 1, 1, 1, 1, 1, 1, 1, 1, 1, 1, 1, 1, 1, 1, 1, 1, 1, 1, 1, 1, 1, 1, 1, 1, 1, 1, 1, 1, 1, 1, 1, 1, 1, 1, 1, 1, 1, 1, 1, 1, 1, 1, 1, 1, 1, 1, 1, 1, 1, 1, 1, 1, 1, 1, 1, 1, 1, 1, 1, 1, 1, 1, 1, 1, 1, 1, 1, 1, 1, 1, 1, 1, 1, 1, 1, 1, 1, 1, 1, 1, 1, 1, 1, 1, 1, 1, 1, 1, 1, 1, 1, 1, 1, 1, 1, 1, 1, 1, 1, 1, 1, 1, 1, 1, 1, 1, 1, 1, 1, 1, 1, 1, 1, 1, 1, 1, 1, 1, 1, 1, 1, 1, 1, 1, 1, 1, 1, 1, 1, 1, 1, 1, 1, 1, 1, 1, 1, 1, 1, 1, 1, 1, 1, 1, 1, 1, 1, 1, 1, 1, 1, 1, 1, 1, 1, 1, 1, 1, 1, 1, 1, 1, 1, 1, 1, 1, 1, 1, 1, 1, 1, 1, 1, 1, 1, 1, 1, 1, 1, 1, 1, 1, 1, 1, 1, 1, 1, 1, 1, 1, 1, 1, 1, 1, 1, 1, 1, 1]
  | _ => []
noncomputable def spec_l06Over_LO (v52 : Int) (v53 : Int) (v54 : List Int) (v55 : List Int) (v56 : Int) : LOr := fun id e L =>
  match id with
  | 2 => .need (normA 0 spec_l06Over_l2_kill e L = some (spec_l06Over_l2_E v52 v53 v54 v55 v56 (gI (vAt e 10)) (gPI L (vAt e 9) 0) (gX L (vAt e 9) 0) ((gI (vAt e 12)), (gRI L (vAt e 11))))) (.call (spec_l06Over_l2_g v53 v54 v56 (gI (vAt e 10)) (gPI L (vAt e 9) 0) (gX L (vAt e 9) 0) ((gI (vAt e 12)), (gRI L (vAt e 11)))) fun x => .leaf (spec_l06Over_l2_X v52 v53 v54 v55 v56 (gI (vAt e 10)) (gPI L (vAt e 9) 0) (gX L (vAt e 9) 0) x))
  | 0 => .need (normA 0 spec_l06Over_l0_kill e L = some (spec_l06Over_l0_E v52 v53 v54 v55 v56 ((gI (vAt e 10)), (gPI L (vAt e 9) 0), (gX L (vAt e 9) 0)))) (.call (spec_l06Over_l0_g v52 v53 v54 v55 v56 ((gI (vAt e 10)), (gPI L (vAt e 9) 0), (gX L (vAt e 9) 0))) fun x => .leaf (spec_l06Over_l0_X v52 v53 v54 v55 v56 x))
  | 6 => .need (normA 0 spec_l06Over_l6_kill e L = some (spec_l06Over_l6_E v52 v53 v54 v55 v56 (gI (vAt e 14)) (gI (vAt e 15)) (gI (vAt e 16)) (gPI L (vAt e 9) 0) (gX L (vAt e 9) 0) (gRI L (vAt e 13)) (gI (vAt e 17)))) (.call (spec_l06Over_l6_g (gI (vAt e 14)) (gI (vAt e 15)) (gI (vAt e 16)) (gPI L (vAt e 9) 0) (gX L (vAt e 9) 0) (gRI L (vAt e 13)) (gI (vAt e 17))) fun x => .leaf (spec_l06Over_l6_X v52 v53 v54 v55 v56 (gI (vAt e 14)) (gI (vAt e 15)) (gI (vAt e 16)) (gPI L (vAt e 9) 0) (gX L (vAt e 9) 0) (gRI L (vAt e 13)) x))
  | 8 => .need (normA 0 spec_l06Over_l8_kill e L = some (spec_l06Over_l8_E v52 v53 v54 v55 v56 (gI (vAt e 14)) (gI (vAt e 15)) (gI (vAt e 16)) (gI (vAt e 19)) (gX L (vAt e 9) 0) (gRI L (vAt e 13)) ((gI (vAt e 20)), (gPI L (vAt e 9) 0)))) (.call (spec_l06Over_l8_g v56 (gI (vAt e 14)) (gI (vAt e 15)) (gI (vAt e 16)) (gI (vAt e 19)) (gX L (vAt e 9) 0) (gRI L (vAt e 13)) ((gI (vAt e 20)), (gPI L (vAt e 9) 0))) fun x => .leaf (spec_l06Over_l8_X v52 v53 v54 v55 v56 (gI (vAt e 14)) (gI (vAt e 15)) (gI (vAt e 16)) (gI (vAt e 19)) (gX L (vAt e 9) 0) (gRI L (vAt e 13)) x))
  | 12 => .need (normA 0 spec_l06Over_l12_kill e L = some (spec_l06Over_l12_E v52 v53 v54 v55 v56 (gI (vAt e 14)) (gI (vAt e 15)) (gI (vAt e 16)) (gI (vAt e 21)) (gI (vAt e 22)) (gX L (vAt e 9) 0) (gRI L (vAt e 13)) ((gI (vAt e 23)), (gPI L (vAt e 9) 0)))) (.call (spec_l06Over_l12_g v56 (gI (vAt e 14)) (gI (vAt e 15)) (gI (vAt e 16)) (gI (vAt e 21)) (gI (vAt e 22)) (gX L (vAt e 9) 0) (gRI L (vAt e 13)) ((gI (vAt e 23)), (gPI L (vAt e 9) 0))) fun x => .leaf (spec_l06Over_l12_X v52 v53 v54 v55 v56 (gI (vAt e 14)) (gI (vAt e 15)) (gI (vAt e 16)) (gI (vAt e 21)) (gI (vAt e 22)) (gX L (vAt e 9) 0) (gRI L (vAt e 13)) x))
  | 10 => .need (normA 0 spec_l06Over_l10_kill e L = some (spec_l06Over_l10_E v52 v53 v54 v55 v56 (gI (vAt e 14)) (gI (vAt e 15)) (gI (vAt e 16)) (gX L (vAt e 9) 0) (gRI L (vAt e 13)) ((gI (vAt e 21)), (gPI L (vAt e 9) 0)))) (.call (spec_l06Over_l10_g v52 v53 v54 v55 v56 (gI (vAt e 14)) (gI (vAt e 15)) (gI (vAt e 16)) (gX L (vAt e 9) 0) (gRI L (vAt e 13)) ((gI (vAt e 21)), (gPI L (vAt e 9) 0))) fun x => .leaf (spec_l06Over_l10_X v52 v53 v54 v55 v56 (gI (vAt e 14)) (gI (vAt e 15)) (gI (vAt e 16)) (gX L (vAt e 9) 0) (gRI L (vAt e 13)) x))
  | 4 => .need (normA 0 spec_l06Over_l4_kill e L = some (spec_l06Over_l4_E v52 v53 v54 v55 v56 ((gI (vAt e 14)), (gI (vAt e 15)), (gPI L (vAt e 9) 0), (gX L (vAt e 9) 0), (gRI L (vAt e 13))))) (.call (spec_l06Over_l4_g v52 v53 v54 v55 v56 ((gI (vAt e 14)), (gI (vAt e 15)), (gPI L (vAt e 9) 0), (gX L (vAt e 9) 0), (gRI L (vAt e 13)))) fun x => .leaf (spec_l06Over_l4_X v52 v53 v54 v55 v56 x))
  | _ => .fail
noncomputable def spec_l06Over_tab : List (FuncId × DFn × Bool) := [(124, spec_l06At_F, true), (68, spec_l06Mod_F, true), (125, spec_l06Back_F, true)]
theorem spec_l06Over_hO : OrcOk Try.prog (tabD spec_l06Over_tab) (tabM spec_l06Over_tab) := tabD_cons spec_l06At_Fok (tabD_cons spec_l06Mod_Fok (tabD_cons spec_l06Back_Fok (tabD_nil _)))
theorem spec_l06Over_l2_be (v52 : Int) (v53 : Int) (v54 : List Int) (v55 : List Int) (v56 : Int) (v122 : Int) (v124 : List (List Int)) (v125 : List Nat) (s : Int × (List Int)) : bodyT TT (tabD spec_l06Over_tab) (tabM spec_l06Over_tab) (spec_l06Over_LO v52 v53 v54 v55 v56) 0 spec_l06Over_l2_kill spec_l06Over_l2_nx (bodyOf Try.f62 2) 2 (spec_l06Over_l2_E v52 v53 v54 v55 v56 v122 v124 v125 s) = (spec_l06Over_l2_T v53 v54 v56 v122 v124 v125 s).bind fun y => .leaf (outS (spec_l06Over_l2_E v52 v53 v54 v55 v56 v122 v124 v125) (spec_l06Over_l2_X v52 v53 v54 v55 v56 v122 v124 v125) y) := by kernel_rfl
theorem spec_l06Over_l2_ok (v52 : Int) (v53 : Int) (v54 : List Int) (v55 : List Int) (v56 : Int) : LSound Try.prog 0 (spec_l06Over_LO v52 v53 v54 v55 v56) 2 (bodyOf Try.f62 2) := by
  intro e L out h
  exact lo_ok (E := spec_l06Over_l2_E v52 v53 v54 v55 v56 (gI (vAt e 10)) (gPI L (vAt e 9) 0) (gX L (vAt e 9) 0)) (gT := spec_l06Over_l2_T v53 v54 v56 (gI (vAt e 10)) (gPI L (vAt e 9) 0) (gX L (vAt e 9) 0)) (X := spec_l06Over_l2_X v52 v53 v54 v55 v56 (gI (vAt e 10)) (gPI L (vAt e 9) 0) (gX L (vAt e 9) 0)) (s0 := ((gI (vAt e 12)), (gRI L (vAt e 11)))) tok spec_l06Over_hO mixed (LoopsOk_eq (l := []) (by kernel_rfl) trivial) (spec_l06Over_l2_be v52 v53 v54 v55 v56 (gI (vAt e 10)) (gPI L (vAt e 9) 0) (gX L (vAt e 9) 0)) rfl (by intro x; rfl) h
theorem spec_l06Over_l0_be (v52 : Int) (v53 : Int) (v54 : List Int) (v55 : List Int) (v56 : Int) (s : Int × (List (List Int)) × (List Nat)) : bodyT TT (tabD spec_l06Over_tab) (tabM spec_l06Over_tab) (spec_l06Over_LO v52 v53 v54 v55 v56) 0 spec_l06Over_l0_kill spec_l06Over_l0_nx (bodyOf Try.f62 0) 0 (spec_l06Over_l0_E v52 v53 v54 v55 v56 s) = (spec_l06Over_l0_T v52 v53 v54 v55 v56 s).bind fun y => .leaf (outS (spec_l06Over_l0_E v52 v53 v54 v55 v56) (spec_l06Over_l0_X v52 v53 v54 v55 v56) y) := by kernel_rfl
theorem spec_l06Over_l0_ok (v52 : Int) (v53 : Int) (v54 : List Int) (v55 : List Int) (v56 : Int) : LSound Try.prog 0 (spec_l06Over_LO v52 v53 v54 v55 v56) 0 (bodyOf Try.f62 0) := by
  intro e L out h
  exact lo_ok (E := spec_l06Over_l0_E v52 v53 v54 v55 v56) (gT := spec_l06Over_l0_T v52 v53 v54 v55 v56) (X := spec_l06Over_l0_X v52 v53 v54 v55 v56) (s0 := ((gI (vAt e 10)), (gPI L (vAt e 9) 0), (gX L (vAt e 9) 0))) tok spec_l06Over_hO mixed (LoopsOk_eq (l := [(2, bodyOf Try.f62 2)]) (by kernel_rfl) ⟨spec_l06Over_l2_ok v52 v53 v54 v55 v56, trivial⟩) (spec_l06Over_l0_be v52 v53 v54 v55 v56) rfl (by intro x; rfl) h
theorem spec_l06Over_l6_be (v52 : Int) (v53 : Int) (v54 : List Int) (v55 : List Int) (v56 : Int) (v713 : Int) (v714 : Int) (v715 : Int) (v717 : List (List Int)) (v718 : List Nat) (v719 : List Int) (s : Int) : bodyT TT (tabD spec_l06Over_tab) (tabM spec_l06Over_tab) (spec_l06Over_LO v52 v53 v54 v55 v56) 0 spec_l06Over_l6_kill spec_l06Over_l6_nx (bodyOf Try.f62 6) 6 (spec_l06Over_l6_E v52 v53 v54 v55 v56 v713 v714 v715 v717 v718 v719 s) = (spec_l06Over_l6_T v713 v714 v715 v717 v718 v719 s).bind fun y => .leaf (outS (spec_l06Over_l6_E v52 v53 v54 v55 v56 v713 v714 v715 v717 v718 v719) (spec_l06Over_l6_X v52 v53 v54 v55 v56 v713 v714 v715 v717 v718 v719) y) := by kernel_rfl
theorem spec_l06Over_l6_ok (v52 : Int) (v53 : Int) (v54 : List Int) (v55 : List Int) (v56 : Int) : LSound Try.prog 0 (spec_l06Over_LO v52 v53 v54 v55 v56) 6 (bodyOf Try.f62 6) := by
  intro e L out h
  exact lo_ok (E := spec_l06Over_l6_E v52 v53 v54 v55 v56 (gI (vAt e 14)) (gI (vAt e 15)) (gI (vAt e 16)) (gPI L (vAt e 9) 0) (gX L (vAt e 9) 0) (gRI L (vAt e 13))) (gT := spec_l06Over_l6_T (gI (vAt e 14)) (gI (vAt e 15)) (gI (vAt e 16)) (gPI L (vAt e 9) 0) (gX L (vAt e 9) 0) (gRI L (vAt e 13))) (X := spec_l06Over_l6_X v52 v53 v54 v55 v56 (gI (vAt e 14)) (gI (vAt e 15)) (gI (vAt e 16)) (gPI L (vAt e 9) 0) (gX L (vAt e 9) 0) (gRI L (vAt e 13))) (s0 := (gI (vAt e 17))) tok spec_l06Over_hO mixed (LoopsOk_eq (l := []) (by kernel_rfl) trivial) (spec_l06Over_l6_be v52 v53 v54 v55 v56 (gI (vAt e 14)) (gI (vAt e 15)) (gI (vAt e 16)) (gPI L (vAt e 9) 0) (gX L (vAt e 9) 0) (gRI L (vAt e 13))) rfl (by intro x; rfl) h
theorem spec_l06Over_l8_be (v52 : Int) (v53 : Int) (v54 : List Int) (v55 : List Int) (v56 : Int) (v739 : Int) (v740 : Int) (v741 : Int) (v742 : Int) (v745 : List Nat) (v746 : List Int) (s : Int × (List (List Int))) : bodyT TT (tabD spec_l06Over_tab) (tabM spec_l06Over_tab) (spec_l06Over_LO v52 v53 v54 v55 v56) 0 spec_l06Over_l8_kill spec_l06Over_l8_nx (bodyOf Try.f62 8) 8 (spec_l06Over_l8_E v52 v53 v54 v55 v56 v739 v740 v741 v742 v745 v746 s) = (spec_l06Over_l8_T v56 v739 v740 v741 v742 v745 v746 s).bind fun y => .leaf (outS (spec_l06Over_l8_E v52 v53 v54 v55 v56 v739 v740 v741 v742 v745 v746) (spec_l06Over_l8_X v52 v53 v54 v55 v56 v739 v740 v741 v742 v745 v746) y) := by kernel_rfl
theorem spec_l06Over_l8_ok (v52 : Int) (v53 : Int) (v54 : List Int) (v55 : List Int) (v56 : Int) : LSound Try.prog 0 (spec_l06Over_LO v52 v53 v54 v55 v56) 8 (bodyOf Try.f62 8) := by
  intro e L out h
  exact lo_ok (E := spec_l06Over_l8_E v52 v53 v54 v55 v56 (gI (vAt e 14)) (gI (vAt e 15)) (gI (vAt e 16)) (gI (vAt e 19)) (gX L (vAt e 9) 0) (gRI L (vAt e 13))) (gT := spec_l06Over_l8_T v56 (gI (vAt e 14)) (gI (vAt e 15)) (gI (vAt e 16)) (gI (vAt e 19)) (gX L (vAt e 9) 0) (gRI L (vAt e 13))) (X := spec_l06Over_l8_X v52 v53 v54 v55 v56 (gI (vAt e 14)) (gI (vAt e 15)) (gI (vAt e 16)) (gI (vAt e 19)) (gX L (vAt e 9) 0) (gRI L (vAt e 13))) (s0 := ((gI (vAt e 20)), (gPI L (vAt e 9) 0))) tok spec_l06Over_hO mixed (LoopsOk_eq (l := []) (by kernel_rfl) trivial) (spec_l06Over_l8_be v52 v53 v54 v55 v56 (gI (vAt e 14)) (gI (vAt e 15)) (gI (vAt e 16)) (gI (vAt e 19)) (gX L (vAt e 9) 0) (gRI L (vAt e 13))) rfl (by intro x; rfl) h
theorem spec_l06Over_l12_be (v52 : Int) (v53 : Int) (v54 : List Int) (v55 : List Int) (v56 : Int) (v851 : Int) (v852 : Int) (v853 : Int) (v854 : Int) (v855 : Int) (v858 : List Nat) (v859 : List Int) (s : Int × (List (List Int))) : bodyT TT (tabD spec_l06Over_tab) (tabM spec_l06Over_tab) (spec_l06Over_LO v52 v53 v54 v55 v56) 0 spec_l06Over_l12_kill spec_l06Over_l12_nx (bodyOf Try.f62 12) 12 (spec_l06Over_l12_E v52 v53 v54 v55 v56 v851 v852 v853 v854 v855 v858 v859 s) = (spec_l06Over_l12_T v56 v851 v852 v853 v854 v855 v858 v859 s).bind fun y => .leaf (outS (spec_l06Over_l12_E v52 v53 v54 v55 v56 v851 v852 v853 v854 v855 v858 v859) (spec_l06Over_l12_X v52 v53 v54 v55 v56 v851 v852 v853 v854 v855 v858 v859) y) := by kernel_rfl
theorem spec_l06Over_l12_ok (v52 : Int) (v53 : Int) (v54 : List Int) (v55 : List Int) (v56 : Int) : LSound Try.prog 0 (spec_l06Over_LO v52 v53 v54 v55 v56) 12 (bodyOf Try.f62 12) := by
  intro e L out h
  exact lo_ok (E := spec_l06Over_l12_E v52 v53 v54 v55 v56 (gI (vAt e 14)) (gI (vAt e 15)) (gI (vAt e 16)) (gI (vAt e 21)) (gI (vAt e 22)) (gX L (vAt e 9) 0) (gRI L (vAt e 13))) (gT := spec_l06Over_l12_T v56 (gI (vAt e 14)) (gI (vAt e 15)) (gI (vAt e 16)) (gI (vAt e 21)) (gI (vAt e 22)) (gX L (vAt e 9) 0) (gRI L (vAt e 13))) (X := spec_l06Over_l12_X v52 v53 v54 v55 v56 (gI (vAt e 14)) (gI (vAt e 15)) (gI (vAt e 16)) (gI (vAt e 21)) (gI (vAt e 22)) (gX L (vAt e 9) 0) (gRI L (vAt e 13))) (s0 := ((gI (vAt e 23)), (gPI L (vAt e 9) 0))) tok spec_l06Over_hO mixed (LoopsOk_eq (l := []) (by kernel_rfl) trivial) (spec_l06Over_l12_be v52 v53 v54 v55 v56 (gI (vAt e 14)) (gI (vAt e 15)) (gI (vAt e 16)) (gI (vAt e 21)) (gI (vAt e 22)) (gX L (vAt e 9) 0) (gRI L (vAt e 13))) rfl (by intro x; rfl) h
theorem spec_l06Over_l10_be (v52 : Int) (v53 : Int) (v54 : List Int) (v55 : List Int) (v56 : Int) (v824 : Int) (v825 : Int) (v826 : Int) (v829 : List Nat) (v830 : List Int) (s : Int × (List (List Int))) : bodyT TT (tabD spec_l06Over_tab) (tabM spec_l06Over_tab) (spec_l06Over_LO v52 v53 v54 v55 v56) 0 spec_l06Over_l10_kill spec_l06Over_l10_nx (bodyOf Try.f62 10) 10 (spec_l06Over_l10_E v52 v53 v54 v55 v56 v824 v825 v826 v829 v830 s) = (spec_l06Over_l10_T v52 v53 v54 v55 v56 v824 v825 v826 v829 v830 s).bind fun y => .leaf (outS (spec_l06Over_l10_E v52 v53 v54 v55 v56 v824 v825 v826 v829 v830) (spec_l06Over_l10_X v52 v53 v54 v55 v56 v824 v825 v826 v829 v830) y) := by kernel_rfl
theorem spec_l06Over_l10_ok (v52 : Int) (v53 : Int) (v54 : List Int) (v55 : List Int) (v56 : Int) : LSound Try.prog 0 (spec_l06Over_LO v52 v53 v54 v55 v56) 10 (bodyOf Try.f62 10) := by
  intro e L out h
  exact lo_ok (E := spec_l06Over_l10_E v52 v53 v54 v55 v56 (gI (vAt e 14)) (gI (vAt e 15)) (gI (vAt e 16)) (gX L (vAt e 9) 0) (gRI L (vAt e 13))) (gT := spec_l06Over_l10_T v52 v53 v54 v55 v56 (gI (vAt e 14)) (gI (vAt e 15)) (gI (vAt e 16)) (gX L (vAt e 9) 0) (gRI L (vAt e 13))) (X := spec_l06Over_l10_X v52 v53 v54 v55 v56 (gI (vAt e 14)) (gI (vAt e 15)) (gI (vAt e 16)) (gX L (vAt e 9) 0) (gRI L (vAt e 13))) (s0 := ((gI (vAt e 21)), (gPI L (vAt e 9) 0))) tok spec_l06Over_hO mixed (LoopsOk_eq (l := [(12, bodyOf Try.f62 12)]) (by kernel_rfl) ⟨spec_l06Over_l12_ok v52 v53 v54 v55 v56, trivial⟩) (spec_l06Over_l10_be v52 v53 v54 v55 v56 (gI (vAt e 14)) (gI (vAt e 15)) (gI (vAt e 16)) (gX L (vAt e 9) 0) (gRI L (vAt e 13))) rfl (by intro x; rfl) h
theorem spec_l06Over_l4_be (v52 : Int) (v53 : Int) (v54 : List Int) (v55 : List Int) (v56 : Int) (s : Int × Int × (List (List Int)) × (List Nat) × (List Int)) : bodyT TT (tabD spec_l06Over_tab) (tabM spec_l06Over_tab) (spec_l06Over_LO v52 v53 v54 v55 v56) 0 spec_l06Over_l4_kill spec_l06Over_l4_nx (bodyOf Try.f62 4) 4 (spec_l06Over_l4_E v52 v53 v54 v55 v56 s) = (spec_l06Over_l4_T v52 v53 v54 v55 v56 s).bind fun y => .leaf (outS (spec_l06Over_l4_E v52 v53 v54 v55 v56) (spec_l06Over_l4_X v52 v53 v54 v55 v56) y) := by kernel_rfl
theorem spec_l06Over_l4_ok (v52 : Int) (v53 : Int) (v54 : List Int) (v55 : List Int) (v56 : Int) : LSound Try.prog 0 (spec_l06Over_LO v52 v53 v54 v55 v56) 4 (bodyOf Try.f62 4) := by
  intro e L out h
  exact lo_ok (E := spec_l06Over_l4_E v52 v53 v54 v55 v56) (gT := spec_l06Over_l4_T v52 v53 v54 v55 v56) (X := spec_l06Over_l4_X v52 v53 v54 v55 v56) (s0 := ((gI (vAt e 14)), (gI (vAt e 15)), (gPI L (vAt e 9) 0), (gX L (vAt e 9) 0), (gRI L (vAt e 13)))) tok spec_l06Over_hO mixed (LoopsOk_eq (l := [(6, bodyOf Try.f62 6), (8, bodyOf Try.f62 8), (10, bodyOf Try.f62 10)]) (by kernel_rfl) ⟨spec_l06Over_l6_ok v52 v53 v54 v55 v56, spec_l06Over_l8_ok v52 v53 v54 v55 v56, spec_l06Over_l10_ok v52 v53 v54 v55 v56, trivial⟩) (spec_l06Over_l4_be v52 v53 v54 v55 v56) rfl (by intro x; rfl) h
noncomputable def spec_l06Over_T (v52 : Int) (v53 : Int) (v54 : List Int) (v55 : List Int) (v56 : Int) : Tree (Int × (List (List Int)) × (List Nat) × (List Int)) :=
  (.need (some (spec_l06Over_l0_E v52 v53 v54 v55 v56 ((0 : Int), ([] : List (List Int)), ([] : List Nat))) = some (spec_l06Over_l0_E v52 v53 v54 v55 v56 ((0 : Int), ([] : List (List Int)), ([] : List Nat)))) <|
  (.call (spec_l06Over_l0_g v52 v53 v54 v55 v56 ((0 : Int), ([] : List (List Int)), ([] : List Nat))) fun v131 =>
  (.need (some (spec_l06Over_l4_E v52 v53 v54 v55 v56 ((1 : Int), (0 : Int), v131.1, v131.2, ([] : List Int))) = some (spec_l06Over_l4_E v52 v53 v54 v55 v56 ((1 : Int), (0 : Int), v131.1, v131.2, ([] : List Int)))) <|
  (.call (spec_l06Over_l4_g v52 v53 v54 v55 v56 ((1 : Int), (0 : Int), v131.1, v131.2, ([] : List Int))) fun v1004 =>
  .leaf (v1004.1, v1004.2.1, v1004.2.2.1, v1004.2.2.2)))))

noncomputable def spec_l06Over_g (v52 : Int) (v53 : Int) (v54 : List Int) (v55 : List Int) (v56 : Int) : Option (Int × (List (List Int)) × (List Nat) × (List Int)) := (spec_l06Over_T v52 v53 v54 v55 v56).run
def spec_l06Over_enc (v52 : Int) (v53 : Int) (v54 : List Int) (v55 : List Int) (v56 : Int) (y : Int × (List (List Int)) × (List Nat) × (List Int)) : Rs := (.tup [.nest 0 0 1 ((y.2.2.1).length), .own 1 0 ((y.2.2.2).length), .int .i64 y.1], [.nest [.sl (.i64 y.2.1) y.2.2.1] false 0, .row (.i64 y.2.2.2) 0])
theorem spec_l06Over_den (v52 : Int) (v53 : Int) (v54 : List Int) (v55 : List Int) (v56 : Int) : (den TT (tabD spec_l06Over_tab) (tabM spec_l06Over_tab) (spec_l06Over_LO v52 v53 v54 v55 v56) (codeOf Try.f62) ([.bptr (BR.root 0) [.int .i64 v52, .int .i64 v53, .bslc (BR.root 1) (.i64 v54)], .bslc (BR.root 2) (.i64 v55), .int .i64 v56] ++ List.replicate (Try.f62.ntmps - ([.bptr (BR.root 0) [.int .i64 v52, .int .i64 v53, .bslc (BR.root 1) (.i64 v54)], .bslc (BR.root 2) (.i64 v55), .int .i64 v56] : List DV).length) .undef) []).bind (retD TT Try.f62.results.toList 0) = (spec_l06Over_T v52 v53 v54 v55 v56).bind fun y => .leaf (spec_l06Over_enc v52 v53 v54 v55 v56 y) := by kernel_rfl
theorem spec_l06Over_fn (v52 : Int) (v53 : Int) (v54 : List Int) (v55 : List Int) (v56 : Int) (F : Fr) (h0 : St F [] F.H0) (hA : DVs.Ok F [] [.bptr (BR.root 0) [.int .i64 v52, .int .i64 v53, .bslc (BR.root 1) (.i64 v54)], .bslc (BR.root 2) (.i64 v55), .int .i64 v56]) {y : Int × (List (List Int)) × (List Nat) × (List Int)} (hy : spec_l06Over_g v52 v53 v54 v55 v56 = some y) : ∃ F' H', Fwd 0 F F' [] (spec_l06Over_enc v52 v53 v54 v55 v56 y).2 ∧ FnOk Try.prog 62 (DVs.av F [.bptr (BR.root 0) [.int .i64 v52, .int .i64 v53, .bslc (BR.root 1) (.i64 v54)], .bslc (BR.root 2) (.i64 v55), .int .i64 v56]) F.H0 ((spec_l06Over_enc v52 v53 v54 v55 v56 y).1.av F') H' ∧ St F' (spec_l06Over_enc v52 v53 v54 v55 v56 y).2 H' ∧ (spec_l06Over_enc v52 v53 v54 v55 v56 y).1.Ok F' (spec_l06Over_enc v52 v53 v54 v55 v56 y).2 :=
  fn_fin tok spec_l06Over_hO mixed Try.func62 Try.call62 (by kernel_rfl) (LoopsOk_eq (l := [(0, bodyOf Try.f62 0), (4, bodyOf Try.f62 4)]) (by kernel_rfl) ⟨spec_l06Over_l0_ok v52 v53 v54 v55 v56, spec_l06Over_l4_ok v52 v53 v54 v55 v56, trivial⟩) (spec_l06Over_den v52 v53 v54 v55 v56) hy h0 hA
noncomputable def spec_l06Over_F : DFn := fun args L =>
  match args with
  | [a1, a3, .int .i64 v56] =>
    optT (cellsOf L 3 a1) fun cs0 =>
    (match cs0 with
    | [.int .i64 v52, .int .i64 v53, a2] =>
    optT (rowI64 L a2) fun v54 =>
    optT (rowI64 L a3) fun v55 =>
    .call (spec_l06Over_g v52 v53 v54 v55 v56) fun y => .leaf (.tup [.nest (L.length + 0) 0 1 ((y.2.2.1).length), .own (L.length + 1) 0 ((y.2.2.2).length), .int .i64 y.1], L ++ [.nest [.sl (.i64 y.2.1) y.2.2.1] false 0, .row (.i64 y.2.2.2) 0])
    | _ => .fail)
  | _ => .fail
theorem spec_l06Over_Fok : COk Try.prog 62 spec_l06Over_F true := by
  intro F L H args r L' hs ha hr
  unfold spec_l06Over_F at hr
  split at hr
  · rename_i a1 a3 v56
    obtain ⟨cs0, hcp0, hr⟩ := optT_run hr
    split at hr
    · rename_i v52 v53 a2
      obtain ⟨v54, hv54, hr⟩ := optT_run hr
      obtain ⟨v55, hv55, hr⟩ := optT_run hr
      simp only [Tree.run] at hr
      obtain ⟨y, hy, hr⟩ := Option.bind_eq_some_iff.1 hr
      simp only [Tree.run, Option.some.injEq, Prod.mk.injEq] at hr
      obtain ⟨rfl, rfl⟩ := hr
      exact call_ok1 hs (fun k => (([a1.av F, a2.av F, a3.av F] : List AV)[k]?).getD .top) [a1, a3, .int .i64 v56] [.bptr (BR.root 0) [.int .i64 v52, .int .i64 v53, .bslc (BR.root 1) (.i64 v54)], .bslc (BR.root 2) (.i64 v55), .int .i64 v56] (fun F' h0 hi hρ => ⟨by simp [DVs.av, DV.av, BR.av, hρ], spec_l06Over_fn v52 v53 v54 v55 v56 F' (st_nil hi) ⟨bptr_ok hi (by rw [h0]; simpa [DVs.av, DV.av, BR.av, hρ] using (cellsOf_ok hs (DVs.okAt ha 0 rfl) hcp0).1) ⟨trivial, trivial, bslc_ok hi (by rw [h0, hρ]; exact rowI64_ok hs (DVs.okAt (cellsOf_ok hs (DVs.okAt ha 0 rfl) hcp0).2 2 rfl) hv54), trivial⟩, bslc_ok hi (by rw [h0, hρ]; exact rowI64_ok hs (DVs.okAt ha 1 rfl) hv55), trivial, trivial⟩ hy⟩) rfl rfl
    · cases hr
  · cases hr
/-! spec.DetOver -/
noncomputable def spec_DetOver_LO (v23 : Int) (v24 : Int) (v25 : List Int) (v26 : Int) : LOr := fun id e L =>
  match id with
  | _ => .fail
noncomputable def spec_DetOver_tab : List (FuncId × DFn × Bool) := [(60, spec_l06Is_F, true), (61, spec_l06Prime_F, true), (62, spec_l06Over_F, true)]
theorem spec_DetOver_hO : OrcOk Try.prog (tabD spec_DetOver_tab) (tabM spec_DetOver_tab) := tabD_cons spec_l06Is_Fok (tabD_cons spec_l06Prime_Fok (tabD_cons spec_l06Over_Fok (tabD_nil _)))
noncomputable def spec_DetOver_T (v23 : Int) (v24 : Int) (v25 : List Int) (v26 : Int) : Tree ((Unit) ⊕ (Int)) :=
  (.call (spec_l06Is_g v23 v24 v25 (1000000 : Int)) fun v43 =>
  (.br (!v43) (
   .leaf (.inl ())
  ) (
   (.br (!decide (v23 = v24)) (
    .leaf (.inl ())
   ) (
    (.call (spec_l06Prime_g v26) fun v51 =>
    (.br (!v51) (
     .leaf (.inl ())
    ) (
     (.call (spec_l06Over_g v23 v24 v25 ([] : List Int) v26) fun v1005 =>
     .leaf (.inr v1005.1))
    )))
   ))
  )))

noncomputable def spec_DetOver_g (v23 : Int) (v24 : Int) (v25 : List Int) (v26 : Int) : Option ((Unit) ⊕ (Int)) := (spec_DetOver_T v23 v24 v25 v26).run
def spec_DetOver_enc (v23 : Int) (v24 : Int) (v25 : List Int) (v26 : Int) (y : (Unit) ⊕ (Int)) : Rs := (match y with | .inl y => (.tup [.int .i64 (0 : Int), .lit false], []) | .inr y => (.tup [.int .i64 y, .lit true], []))
theorem spec_DetOver_den (v23 : Int) (v24 : Int) (v25 : List Int) (v26 : Int) : (den TT (tabD spec_DetOver_tab) (tabM spec_DetOver_tab) (spec_DetOver_LO v23 v24 v25 v26) (codeOf Try.f13) ([.agg [.int .i64 v23, .int .i64 v24, .bslc (BR.root 0) (.i64 v25)], .int .i64 v26] ++ List.replicate (Try.f13.ntmps - ([.agg [.int .i64 v23, .int .i64 v24, .bslc (BR.root 0) (.i64 v25)], .int .i64 v26] : List DV).length) .undef) []).bind (retD TT Try.f13.results.toList 0) = (spec_DetOver_T v23 v24 v25 v26).bind fun y => .leaf (spec_DetOver_enc v23 v24 v25 v26 y) := by kernel_rfl
theorem spec_DetOver_fn (v23 : Int) (v24 : Int) (v25 : List Int) (v26 : Int) (F : Fr) (h0 : St F [] F.H0) (hA : DVs.Ok F [] [.agg [.int .i64 v23, .int .i64 v24, .bslc (BR.root 0) (.i64 v25)], .int .i64 v26]) {y : (Unit) ⊕ (Int)} (hy : spec_DetOver_g v23 v24 v25 v26 = some y) : ∃ F' H', Fwd 0 F F' [] (spec_DetOver_enc v23 v24 v25 v26 y).2 ∧ FnOk Try.prog 13 (DVs.av F [.agg [.int .i64 v23, .int .i64 v24, .bslc (BR.root 0) (.i64 v25)], .int .i64 v26]) F.H0 ((spec_DetOver_enc v23 v24 v25 v26 y).1.av F') H' ∧ St F' (spec_DetOver_enc v23 v24 v25 v26 y).2 H' ∧ (spec_DetOver_enc v23 v24 v25 v26 y).1.Ok F' (spec_DetOver_enc v23 v24 v25 v26 y).2 :=
  fn_fin tok spec_DetOver_hO mixed Try.func13 Try.call13 (by kernel_rfl) (LoopsOk_eq (l := []) (by kernel_rfl) trivial) (spec_DetOver_den v23 v24 v25 v26) hy h0 hA
noncomputable def spec_DetOver_F : DFn := fun args L =>
  match args with
  | [.agg [.int .i64 v23, .int .i64 v24, a1], .int .i64 v26] =>
    optT (rowI64 L a1) fun v25 =>
    .call (spec_DetOver_g v23 v24 v25 v26) fun y => .sum y (fun y0 => .leaf (.tup [.int .i64 (0 : Int), .lit false], L)) (fun z0 => .leaf (.tup [.int .i64 z0, .lit true], L))
  | _ => .fail
theorem spec_DetOver_Fok : COk Try.prog 13 spec_DetOver_F true := by
  intro F L H args r L' hs ha hr
  unfold spec_DetOver_F at hr
  split at hr
  · rename_i v23 v24 a1 v26
    obtain ⟨v25, hv25, hr⟩ := optT_run hr
    simp only [Tree.run] at hr
    obtain ⟨y, hy, hr⟩ := Option.bind_eq_some_iff.1 hr
    cases y with
    | inl y =>
      simp only [Tree.run, Option.some.injEq, Prod.mk.injEq] at hr
      obtain ⟨rfl, rfl⟩ := hr
      exact call_ok0 hs (fun k => (([a1.av F] : List AV)[k]?).getD .top) [.agg [.int .i64 v23, .int .i64 v24, a1], .int .i64 v26] [.agg [.int .i64 v23, .int .i64 v24, .bslc (BR.root 0) (.i64 v25)], .int .i64 v26] (fun F' h0 hi hρ => ⟨by simp [DVs.av, DV.av, BR.av, hρ], spec_DetOver_fn v23 v24 v25 v26 F' (st_nil hi) ⟨⟨trivial, trivial, bslc_ok hi (by rw [h0, hρ]; exact rowI64_ok hs (DVs.okAt (DVs.okAt ha 0 rfl) 2 rfl) hv25), trivial⟩, trivial, trivial⟩ hy⟩) rfl
    | inr y =>
      simp only [Tree.run, Option.some.injEq, Prod.mk.injEq] at hr
      obtain ⟨rfl, rfl⟩ := hr
      exact call_ok0 hs (fun k => (([a1.av F] : List AV)[k]?).getD .top) [.agg [.int .i64 v23, .int .i64 v24, a1], .int .i64 v26] [.agg [.int .i64 v23, .int .i64 v24, .bslc (BR.root 0) (.i64 v25)], .int .i64 v26] (fun F' h0 hi hρ => ⟨by simp [DVs.av, DV.av, BR.av, hρ], spec_DetOver_fn v23 v24 v25 v26 F' (st_nil hi) ⟨⟨trivial, trivial, bslc_ok hi (by rw [h0, hρ]; exact rowI64_ok hs (DVs.okAt (DVs.okAt ha 0 rfl) 2 rfl) hv25), trivial⟩, trivial, trivial⟩ hy⟩) rfl
  · cases hr
/-! impl.inRange -/
noncomputable def impl_inRange_LO (v1021 : Int) (v1022 : Int) (v1023 : Int) : LOr := fun id e L =>
  match id with
  | _ => .fail
noncomputable def impl_inRange_tab : List (FuncId × DFn × Bool) := []
theorem impl_inRange_hO : OrcOk Try.prog (tabD impl_inRange_tab) (tabM impl_inRange_tab) := tabD_nil _
noncomputable def impl_inRange_T (v1021 : Int) (v1022 : Int) (v1023 : Int) : Tree (Bool) :=
  (.br (decide (v1022 ≤ v1021)) (
   .leaf (decide (v1021 ≤ v1023))
  ) (
   .leaf false
  ))

noncomputable def impl_inRange_g (v1021 : Int) (v1022 : Int) (v1023 : Int) : Option (Bool) := (impl_inRange_T v1021 v1022 v1023).run
def impl_inRange_enc (v1021 : Int) (v1022 : Int) (v1023 : Int) (y : Bool) : Rs := (.bool y, [])
theorem impl_inRange_den (v1021 : Int) (v1022 : Int) (v1023 : Int) : (den TT (tabD impl_inRange_tab) (tabM impl_inRange_tab) (impl_inRange_LO v1021 v1022 v1023) (codeOf Try.f89) ([.int .i64 v1021, .int .i64 v1022, .int .i64 v1023] ++ List.replicate (Try.f89.ntmps - ([.int .i64 v1021, .int .i64 v1022, .int .i64 v1023] : List DV).length) .undef) []).bind (retD TT Try.f89.results.toList 0) = (impl_inRange_T v1021 v1022 v1023).bind fun y => .leaf (impl_inRange_enc v1021 v1022 v1023 y) := by kernel_rfl
theorem impl_inRange_fn (v1021 : Int) (v1022 : Int) (v1023 : Int) (F : Fr) (h0 : St F [] F.H0) (hA : DVs.Ok F [] [.int .i64 v1021, .int .i64 v1022, .int .i64 v1023]) {y : Bool} (hy : impl_inRange_g v1021 v1022 v1023 = some y) : ∃ F' H', Fwd 0 F F' [] (impl_inRange_enc v1021 v1022 v1023 y).2 ∧ FnOk Try.prog 89 (DVs.av F [.int .i64 v1021, .int .i64 v1022, .int .i64 v1023]) F.H0 ((impl_inRange_enc v1021 v1022 v1023 y).1.av F') H' ∧ St F' (impl_inRange_enc v1021 v1022 v1023 y).2 H' ∧ (impl_inRange_enc v1021 v1022 v1023 y).1.Ok F' (impl_inRange_enc v1021 v1022 v1023 y).2 :=
  fn_fin tok impl_inRange_hO mixed Try.func89 Try.call89 (by kernel_rfl) (LoopsOk_eq (l := []) (by kernel_rfl) trivial) (impl_inRange_den v1021 v1022 v1023) hy h0 hA
def impl_inRange_v (v1021 : Int) (v1022 : Int) (v1023 : Int) : Bool :=
  if (decide (v1022 ≤ v1021)) = true then (
   decide (v1021 ≤ v1023)
  ) else (
   false
  )
theorem impl_inRange_tot (v1021 : Int) (v1022 : Int) (v1023 : Int) : impl_inRange_g v1021 v1022 v1023 = some (impl_inRange_v v1021 v1022 v1023) := by
  unfold impl_inRange_g impl_inRange_T impl_inRange_v
  simp only [Tree.run]
  repeat' (first | rfl | split)
noncomputable def impl_inRange_F : DFn := fun args L =>
  match args with
  | [.int .i64 v1021, .int .i64 v1022, .int .i64 v1023] =>
    .leaf (.bool (impl_inRange_v v1021 v1022 v1023), L)
  | _ => .fail
theorem impl_inRange_Fok : COk Try.prog 89 impl_inRange_F true := by
  intro F L H args r L' hs ha hr
  unfold impl_inRange_F at hr
  split at hr
  · rename_i v1021 v1022 v1023
    have hy := impl_inRange_tot v1021 v1022 v1023
    generalize impl_inRange_v v1021 v1022 v1023 = y at hy hr
    simp only [Tree.run, Option.some.injEq, Prod.mk.injEq] at hr
    obtain ⟨rfl, rfl⟩ := hr
    exact call_ok0 hs (fun k => (([] : List AV)[k]?).getD .top) [.int .i64 v1021, .int .i64 v1022, .int .i64 v1023] [.int .i64 v1021, .int .i64 v1022, .int .i64 v1023] (fun F' h0 hi hρ => ⟨by simp [DVs.av, DV.av, BR.av, hρ], impl_inRange_fn v1021 v1022 v1023 F' (st_nil hi) ⟨trivial, trivial, trivial, trivial⟩ hy⟩) rfl
  · cases hr
/-! impl.length[int64] -/
noncomputable def impl_lengthI_LO (v1024 : List Int) : LOr := fun id e L =>
  match id with
  | _ => .fail
noncomputable def impl_lengthI_tab : List (FuncId × DFn × Bool) := []
theorem impl_lengthI_hO : OrcOk Try.prog (tabD impl_lengthI_tab) (tabM impl_lengthI_tab) := tabD_nil _
noncomputable def impl_lengthI_T (v1024 : List Int) : Tree (Int) :=
  .leaf ((v1024.length : Nat) : Int)

noncomputable def impl_lengthI_g (v1024 : List Int) : Option (Int) := (impl_lengthI_T v1024).run
def impl_lengthI_enc (v1024 : List Int) (y : Int) : Rs := (.int .i64 y, [])
theorem impl_lengthI_den (v1024 : List Int) : (den TT (tabD impl_lengthI_tab) (tabM impl_lengthI_tab) (impl_lengthI_LO v1024) (codeOf Try.f65) ([.bslc (BR.root 0) (.i64 v1024)] ++ List.replicate (Try.f65.ntmps - ([.bslc (BR.root 0) (.i64 v1024)] : List DV).length) .undef) []).bind (retD TT Try.f65.results.toList 0) = (impl_lengthI_T v1024).bind fun y => .leaf (impl_lengthI_enc v1024 y) := by kernel_rfl
theorem impl_lengthI_fn (v1024 : List Int) (F : Fr) (h0 : St F [] F.H0) (hA : DVs.Ok F [] [.bslc (BR.root 0) (.i64 v1024)]) {y : Int} (hy : impl_lengthI_g v1024 = some y) : ∃ F' H', Fwd 0 F F' [] (impl_lengthI_enc v1024 y).2 ∧ FnOk Try.prog 65 (DVs.av F [.bslc (BR.root 0) (.i64 v1024)]) F.H0 ((impl_lengthI_enc v1024 y).1.av F') H' ∧ St F' (impl_lengthI_enc v1024 y).2 H' ∧ (impl_lengthI_enc v1024 y).1.Ok F' (impl_lengthI_enc v1024 y).2 :=
  fn_fin tok impl_lengthI_hO mixed Try.func65 Try.call65 (by kernel_rfl) (LoopsOk_eq (l := []) (by kernel_rfl) trivial) (impl_lengthI_den v1024) hy h0 hA
def impl_lengthI_v (v1024 : List Int) : Int :=
  ((v1024.length : Nat) : Int)
theorem impl_lengthI_tot (v1024 : List Int) : impl_lengthI_g v1024 = some (impl_lengthI_v v1024) := by
  unfold impl_lengthI_g impl_lengthI_T impl_lengthI_v
  simp only [Tree.run]
  repeat' (first | rfl | split)
noncomputable def impl_lengthI_F : DFn := fun args L =>
  match args with
  | [a1] =>
    optT (rowI64 L a1) fun v1024 =>
    .leaf (.int .i64 (impl_lengthI_v v1024), L)
  | _ => .fail
theorem impl_lengthI_Fok : COk Try.prog 65 impl_lengthI_F true := by
  intro F L H args r L' hs ha hr
  unfold impl_lengthI_F at hr
  split at hr
  · rename_i a1
    obtain ⟨v1024, hv1024, hr⟩ := optT_run hr
    have hy := impl_lengthI_tot v1024
    generalize impl_lengthI_v v1024 = y at hy hr
    simp only [Tree.run, Option.some.injEq, Prod.mk.injEq] at hr
    obtain ⟨rfl, rfl⟩ := hr
    exact call_ok0 hs (fun k => (([a1.av F] : List AV)[k]?).getD .top) [a1] [.bslc (BR.root 0) (.i64 v1024)] (fun F' h0 hi hρ => ⟨by simp [DVs.av, DV.av, BR.av, hρ], impl_lengthI_fn v1024 F' (st_nil hi) ⟨bslc_ok hi (by rw [h0, hρ]; exact rowI64_ok hs (DVs.okAt ha 0 rfl) hv1024), trivial⟩ hy⟩) rfl
  · cases hr
/-! impl.allIn$1 -/
noncomputable def impl_allIn_1_LO (v1035 : Int) (v1036 : Int) (v1037 : Int) : LOr := fun id e L =>
  match id with
  | _ => .fail
noncomputable def impl_allIn_1_tab : List (FuncId × DFn × Bool) := [(89, impl_inRange_F, true)]
theorem impl_allIn_1_hO : OrcOk Try.prog (tabD impl_allIn_1_tab) (tabM impl_allIn_1_tab) := tabD_cons impl_inRange_Fok (tabD_nil _)
noncomputable def impl_allIn_1_T (v1035 : Int) (v1036 : Int) (v1037 : Int) : Tree (Bool) :=
  .leaf (!(impl_inRange_v v1035 v1036 v1037))

noncomputable def impl_allIn_1_g (v1035 : Int) (v1036 : Int) (v1037 : Int) : Option (Bool) := (impl_allIn_1_T v1035 v1036 v1037).run
def impl_allIn_1_enc (v1035 : Int) (v1036 : Int) (v1037 : Int) (y : Bool) : Rs := (.bool y, [])
theorem impl_allIn_1_den (v1035 : Int) (v1036 : Int) (v1037 : Int) : (den TT (tabD impl_allIn_1_tab) (tabM impl_allIn_1_tab) (impl_allIn_1_LO v1035 v1036 v1037) (codeOf Try.f129) ([.int .i64 v1035, .bptr (BR.root 0) [.int .i64 v1036], .bptr (BR.root 1) [.int .i64 v1037]] ++ List.replicate (Try.f129.ntmps - ([.int .i64 v1035, .bptr (BR.root 0) [.int .i64 v1036], .bptr (BR.root 1) [.int .i64 v1037]] : List DV).length) .undef) []).bind (retD TT Try.f129.results.toList 0) = (impl_allIn_1_T v1035 v1036 v1037).bind fun y => .leaf (impl_allIn_1_enc v1035 v1036 v1037 y) := by kernel_rfl
theorem impl_allIn_1_fn (v1035 : Int) (v1036 : Int) (v1037 : Int) (F : Fr) (h0 : St F [] F.H0) (hA : DVs.Ok F [] [.int .i64 v1035, .bptr (BR.root 0) [.int .i64 v1036], .bptr (BR.root 1) [.int .i64 v1037]]) {y : Bool} (hy : impl_allIn_1_g v1035 v1036 v1037 = some y) : ∃ F' H', Fwd 0 F F' [] (impl_allIn_1_enc v1035 v1036 v1037 y).2 ∧ FnOk Try.prog 129 (DVs.av F [.int .i64 v1035, .bptr (BR.root 0) [.int .i64 v1036], .bptr (BR.root 1) [.int .i64 v1037]]) F.H0 ((impl_allIn_1_enc v1035 v1036 v1037 y).1.av F') H' ∧ St F' (impl_allIn_1_enc v1035 v1036 v1037 y).2 H' ∧ (impl_allIn_1_enc v1035 v1036 v1037 y).1.Ok F' (impl_allIn_1_enc v1035 v1036 v1037 y).2 :=
  fn_fin tok impl_allIn_1_hO mixed Try.func129 Try.call129 (by kernel_rfl) (LoopsOk_eq (l := []) (by kernel_rfl) trivial) (impl_allIn_1_den v1035 v1036 v1037) hy h0 hA
def impl_allIn_1_v (v1035 : Int) (v1036 : Int) (v1037 : Int) : Bool :=
  !(impl_inRange_v v1035 v1036 v1037)
theorem impl_allIn_1_tot (v1035 : Int) (v1036 : Int) (v1037 : Int) : impl_allIn_1_g v1035 v1036 v1037 = some (impl_allIn_1_v v1035 v1036 v1037) := by
  unfold impl_allIn_1_g impl_allIn_1_T impl_allIn_1_v
  simp only [Tree.run]
  repeat' (first | rfl | split)
noncomputable def impl_allIn_1_F : DFn := fun args L =>
  match args with
  | [.int .i64 v1035, a1, a2] =>
    optT (cellsOf L 1 a1) fun cs0 =>
    (match cs0 with
    | [.int .i64 v1036] =>
    optT (cellsOf L 1 a2) fun cs1 =>
    (match cs1 with
    | [.int .i64 v1037] =>
    .leaf (.bool (impl_allIn_1_v v1035 v1036 v1037), L)
    | _ => .fail)
    | _ => .fail)
  | _ => .fail
theorem impl_allIn_1_Fok : COk Try.prog 129 impl_allIn_1_F true := by
  intro F L H args r L' hs ha hr
  unfold impl_allIn_1_F at hr
  split at hr
  · rename_i v1035 a1 a2
    obtain ⟨cs0, hcp0, hr⟩ := optT_run hr
    split at hr
    · rename_i v1036
      obtain ⟨cs1, hcp1, hr⟩ := optT_run hr
      split at hr
      · rename_i v1037
        have hy := impl_allIn_1_tot v1035 v1036 v1037
        generalize impl_allIn_1_v v1035 v1036 v1037 = y at hy hr
        simp only [Tree.run, Option.some.injEq, Prod.mk.injEq] at hr
        obtain ⟨rfl, rfl⟩ := hr
        exact call_ok0 hs (fun k => (([a1.av F, a2.av F] : List AV)[k]?).getD .top) [.int .i64 v1035, a1, a2] [.int .i64 v1035, .bptr (BR.root 0) [.int .i64 v1036], .bptr (BR.root 1) [.int .i64 v1037]] (fun F' h0 hi hρ => ⟨by simp [DVs.av, DV.av, BR.av, hρ], impl_allIn_1_fn v1035 v1036 v1037 F' (st_nil hi) ⟨trivial, bptr_ok hi (by rw [h0]; simpa [DVs.av, DV.av, BR.av, hρ] using (cellsOf_ok hs (DVs.okAt ha 1 rfl) hcp0).1) ⟨trivial, trivial⟩, bptr_ok hi (by rw [h0]; simpa [DVs.av, DV.av, BR.av, hρ] using (cellsOf_ok hs (DVs.okAt ha 2 rfl) hcp1).1) ⟨trivial, trivial⟩, trivial⟩ hy⟩) rfl
      · cases hr
    · cases hr
  · cases hr
/-! slices.IndexFunc[list of int64,int64] -/
noncomputable def slices_IndexFuncI_l0_T (v1031 : List Int) (v1032 : Int) (v1033 : Int) (s : Int) : Tree ((Int) ⊕ ((Int) ⊕ (Unit))) :=
  (.br (decide (s < ((v1031.length : Nat) : Int))) (
   (.grd (inb s v1031.length) <|
   (.br (impl_allIn_1_v (nth v1031 (Int.toNat s)) v1032 v1033) (
    .leaf (.inr (.inl s))
   ) (
    .leaf (.inl (IntKind.i64.wrap (s + (1 : Int))))
   )))
  ) (
   .leaf (.inr (.inr ()))
  ))

noncomputable def slices_IndexFuncI_l0_g (v1031 : List Int) (v1032 : Int) (v1033 : Int) (s0 : Int) : Option ((Int) ⊕ (Unit)) := whileM (fun s => (slices_IndexFuncI_l0_T v1031 v1032 v1033 s).run) s0
def slices_IndexFuncI_l0_E (v1031 : List Int) (v1032 : Int) (v1033 : Int) (s : Int) : Sd := ([.bslc (BR.root 0) (.i64 v1031), .fn 129 [.bptr (BR.root 1) [.int .i64 v1032], .bptr (BR.root 2) [.int .i64 v1033]], .top, .top, .top, .top, .top, .int .i64 ((v1031.length : Nat) : Int), .int .i64 s, .top, .top, .top, .top, .top, .top, .top, .top, .top, .top], [])
def slices_IndexFuncI_l0_X (v1031 : List Int) (v1032 : Int) (v1033 : Int) (x : (Int) ⊕ (Unit)) : Out := (match x with | .inl x => (.ret, [.top, .top, .top, .top, .int .i64 x, .top, .top, .top, .top, .top, .top, .top, .top, .top, .top, .top, .top, .top, .top], []) | .inr x => (.normal, [.top, .top, .top, .top, .top, .top, .top, .top, .top, .top, .top, .top, .top, .top, .top, .top, .top, .top, .top], []))
def slices_IndexFuncI_l0_kill : List Nat := [0, 0, 1, 1, 1, 1, 1, 0, 0, 1, 1, 1, 1, 1, 1, 1, 1, 1, 1]
def slices_IndexFuncI_l0_nx : Exit → List Nat
  | .exit 0 => [1, 1, 1, 1, 1, 1, 1, 1, 1, 1, 1, 1, 1, 1, 1, 1, 1, 1, 1]
  | .ret => [1, 1, 1, 1, 0, 1, 1, 1, 1, 1, 1, 1, 1, 1, 1, 1, 1, 1, 1]
  | _ => []
noncomputable def slices_IndexFuncI_LO (v1031 : List Int) (v1032 : Int) (v1033 : Int) : LOr := fun id e L =>
  match id with
  | 0 => .need (normA 0 slices_IndexFuncI_l0_kill e L = some (slices_IndexFuncI_l0_E v1031 v1032 v1033 (gI (vAt e 8)))) (.call (slices_IndexFuncI_l0_g v1031 v1032 v1033 (gI (vAt e 8))) fun x => .sum x (fun b0 => .leaf (slices_IndexFuncI_l0_X v1031 v1032 v1033 (.inl b0))) (fun c0 => .leaf (slices_IndexFuncI_l0_X v1031 v1032 v1033 (.inr c0))))
  | _ => .fail
noncomputable def slices_IndexFuncI_tab : List (FuncId × DFn × Bool) := [(129, impl_allIn_1_F, true)]
theorem slices_IndexFuncI_hO : OrcOk Try.prog (tabD slices_IndexFuncI_tab) (tabM slices_IndexFuncI_tab) := tabD_cons impl_allIn_1_Fok (tabD_nil _)
theorem slices_IndexFuncI_l0_be (v1031 : List Int) (v1032 : Int) (v1033 : Int) (s : Int) : bodyT TT (tabD slices_IndexFuncI_tab) (tabM slices_IndexFuncI_tab) (slices_IndexFuncI_LO v1031 v1032 v1033) 0 slices_IndexFuncI_l0_kill slices_IndexFuncI_l0_nx (bodyOf Try.f157 0) 0 (slices_IndexFuncI_l0_E v1031 v1032 v1033 s) = (slices_IndexFuncI_l0_T v1031 v1032 v1033 s).bind fun y => .leaf (outS (slices_IndexFuncI_l0_E v1031 v1032 v1033) (slices_IndexFuncI_l0_X v1031 v1032 v1033) y) := by kernel_rfl
theorem slices_IndexFuncI_l0_ok (v1031 : List Int) (v1032 : Int) (v1033 : Int) : LSound Try.prog 0 (slices_IndexFuncI_LO v1031 v1032 v1033) 0 (bodyOf Try.f157 0) := by
  intro e L out h
  exact lo_ok (E := slices_IndexFuncI_l0_E v1031 v1032 v1033) (gT := slices_IndexFuncI_l0_T v1031 v1032 v1033) (X := slices_IndexFuncI_l0_X v1031 v1032 v1033) (s0 := (gI (vAt e 8))) tok slices_IndexFuncI_hO mixed (LoopsOk_eq (l := []) (by kernel_rfl) trivial) (slices_IndexFuncI_l0_be v1031 v1032 v1033) rfl (by intro x; (cases x with | inl b => rfl | inr x => exact rfl)) h
noncomputable def slices_IndexFuncI_T (v1031 : List Int) (v1032 : Int) (v1033 : Int) : Tree (Int) :=
  (.need (some (slices_IndexFuncI_l0_E v1031 v1032 v1033 (0 : Int)) = some (slices_IndexFuncI_l0_E v1031 v1032 v1033 (0 : Int))) <|
  (.call (slices_IndexFuncI_l0_g v1031 v1032 v1033 (0 : Int)) fun v1040 =>
  (.sum v1040 (fun v1041 =>
   .leaf v1041
  ) (fun v1042 =>
   .leaf (-1 : Int)
  ))))

noncomputable def slices_IndexFuncI_g (v1031 : List Int) (v1032 : Int) (v1033 : Int) : Option (Int) := (slices_IndexFuncI_T v1031 v1032 v1033).run
def slices_IndexFuncI_enc (v1031 : List Int) (v1032 : Int) (v1033 : Int) (y : Int) : Rs := (.int .i64 y, [])
theorem slices_IndexFuncI_den (v1031 : List Int) (v1032 : Int) (v1033 : Int) : (den TT (tabD slices_IndexFuncI_tab) (tabM slices_IndexFuncI_tab) (slices_IndexFuncI_LO v1031 v1032 v1033) (codeOf Try.f157) ([.bslc (BR.root 0) (.i64 v1031), .fn 129 [.bptr (BR.root 1) [.int .i64 v1032], .bptr (BR.root 2) [.int .i64 v1033]]] ++ List.replicate (Try.f157.ntmps - ([.bslc (BR.root 0) (.i64 v1031), .fn 129 [.bptr (BR.root 1) [.int .i64 v1032], .bptr (BR.root 2) [.int .i64 v1033]]] : List DV).length) .undef) []).bind (retD TT Try.f157.results.toList 0) = (slices_IndexFuncI_T v1031 v1032 v1033).bind fun y => .leaf (slices_IndexFuncI_enc v1031 v1032 v1033 y) := by kernel_rfl
theorem slices_IndexFuncI_fn (v1031 : List Int) (v1032 : Int) (v1033 : Int) (F : Fr) (h0 : St F [] F.H0) (hA : DVs.Ok F [] [.bslc (BR.root 0) (.i64 v1031), .fn 129 [.bptr (BR.root 1) [.int .i64 v1032], .bptr (BR.root 2) [.int .i64 v1033]]]) {y : Int} (hy : slices_IndexFuncI_g v1031 v1032 v1033 = some y) : ∃ F' H', Fwd 0 F F' [] (slices_IndexFuncI_enc v1031 v1032 v1033 y).2 ∧ FnOk Try.prog 157 (DVs.av F [.bslc (BR.root 0) (.i64 v1031), .fn 129 [.bptr (BR.root 1) [.int .i64 v1032], .bptr (BR.root 2) [.int .i64 v1033]]]) F.H0 ((slices_IndexFuncI_enc v1031 v1032 v1033 y).1.av F') H' ∧ St F' (slices_IndexFuncI_enc v1031 v1032 v1033 y).2 H' ∧ (slices_IndexFuncI_enc v1031 v1032 v1033 y).1.Ok F' (slices_IndexFuncI_enc v1031 v1032 v1033 y).2 :=
  fn_fin tok slices_IndexFuncI_hO mixed Try.func157 Try.call157 (by kernel_rfl) (LoopsOk_eq (l := [(0, bodyOf Try.f157 0)]) (by kernel_rfl) ⟨slices_IndexFuncI_l0_ok v1031 v1032 v1033, trivial⟩) (slices_IndexFuncI_den v1031 v1032 v1033) hy h0 hA
noncomputable def slices_IndexFuncI_F : DFn := fun args L =>
  match args with
  | [a1, .fn 129 [a2, a3]] =>
    optT (rowI64 L a1) fun v1031 =>
    optT (cellsOf L 1 a2) fun cs1 =>
    (match cs1 with
    | [.int .i64 v1032] =>
    optT (cellsOf L 1 a3) fun cs2 =>
    (match cs2 with
    | [.int .i64 v1033] =>
    .call (slices_IndexFuncI_g v1031 v1032 v1033) fun y => .leaf (.int .i64 y, L)
    | _ => .fail)
    | _ => .fail)
  | _ => .fail
theorem slices_IndexFuncI_Fok : COk Try.prog 157 slices_IndexFuncI_F true := by
  intro F L H args r L' hs ha hr
  unfold slices_IndexFuncI_F at hr
  split at hr
  · rename_i a1 a2 a3
    obtain ⟨v1031, hv1031, hr⟩ := optT_run hr
    obtain ⟨cs1, hcp1, hr⟩ := optT_run hr
    split at hr
    · rename_i v1032
      obtain ⟨cs2, hcp2, hr⟩ := optT_run hr
      split at hr
      · rename_i v1033
        simp only [Tree.run] at hr
        obtain ⟨y, hy, hr⟩ := Option.bind_eq_some_iff.1 hr
        simp only [Tree.run, Option.some.injEq, Prod.mk.injEq] at hr
        obtain ⟨rfl, rfl⟩ := hr
        exact call_ok0 hs (fun k => (([a1.av F, a2.av F, a3.av F] : List AV)[k]?).getD .top) [a1, .fn 129 [a2, a3]] [.bslc (BR.root 0) (.i64 v1031), .fn 129 [.bptr (BR.root 1) [.int .i64 v1032], .bptr (BR.root 2) [.int .i64 v1033]]] (fun F' h0 hi hρ => ⟨by simp [DVs.av, DV.av, BR.av, hρ], slices_IndexFuncI_fn v1031 v1032 v1033 F' (st_nil hi) ⟨bslc_ok hi (by rw [h0, hρ]; exact rowI64_ok hs (DVs.okAt ha 0 rfl) hv1031), ⟨bptr_ok hi (by rw [h0]; simpa [DVs.av, DV.av, BR.av, hρ] using (cellsOf_ok hs (DVs.okAt (DVs.okAt ha 1 rfl) 0 rfl) hcp1).1) ⟨trivial, trivial⟩, bptr_ok hi (by rw [h0]; simpa [DVs.av, DV.av, BR.av, hρ] using (cellsOf_ok hs (DVs.okAt (DVs.okAt ha 1 rfl) 1 rfl) hcp2).1) ⟨trivial, trivial⟩, trivial⟩, trivial⟩ hy⟩) rfl
      · cases hr
    · cases hr
  · cases hr
/-! slices.ContainsFunc[list of int64,int64] -/
noncomputable def slices_ContainsFuncI_LO (v1028 : List Int) (v1029 : Int) (v1030 : Int) : LOr := fun id e L =>
  match id with
  | _ => .fail
noncomputable def slices_ContainsFuncI_tab : List (FuncId × DFn × Bool) := [(157, slices_IndexFuncI_F, true)]
theorem slices_ContainsFuncI_hO : OrcOk Try.prog (tabD slices_ContainsFuncI_tab) (tabM slices_ContainsFuncI_tab) := tabD_cons slices_IndexFuncI_Fok (tabD_nil _)
noncomputable def slices_ContainsFuncI_T (v1028 : List Int) (v1029 : Int) (v1030 : Int) : Tree (Bool) :=
  (.call (slices_IndexFuncI_g v1028 v1029 v1030) fun v1043 =>
  .leaf (decide ((0 : Int) ≤ v1043)))

noncomputable def slices_ContainsFuncI_g (v1028 : List Int) (v1029 : Int) (v1030 : Int) : Option (Bool) := (slices_ContainsFuncI_T v1028 v1029 v1030).run
def slices_ContainsFuncI_enc (v1028 : List Int) (v1029 : Int) (v1030 : Int) (y : Bool) : Rs := (.bool y, [])
theorem slices_ContainsFuncI_den (v1028 : List Int) (v1029 : Int) (v1030 : Int) : (den TT (tabD slices_ContainsFuncI_tab) (tabM slices_ContainsFuncI_tab) (slices_ContainsFuncI_LO v1028 v1029 v1030) (codeOf Try.f128) ([.bslc (BR.root 0) (.i64 v1028), .fn 129 [.bptr (BR.root 1) [.int .i64 v1029], .bptr (BR.root 2) [.int .i64 v1030]]] ++ List.replicate (Try.f128.ntmps - ([.bslc (BR.root 0) (.i64 v1028), .fn 129 [.bptr (BR.root 1) [.int .i64 v1029], .bptr (BR.root 2) [.int .i64 v1030]]] : List DV).length) .undef) []).bind (retD TT Try.f128.results.toList 0) = (slices_ContainsFuncI_T v1028 v1029 v1030).bind fun y => .leaf (slices_ContainsFuncI_enc v1028 v1029 v1030 y) := by kernel_rfl
theorem slices_ContainsFuncI_fn (v1028 : List Int) (v1029 : Int) (v1030 : Int) (F : Fr) (h0 : St F [] F.H0) (hA : DVs.Ok F [] [.bslc (BR.root 0) (.i64 v1028), .fn 129 [.bptr (BR.root 1) [.int .i64 v1029], .bptr (BR.root 2) [.int .i64 v1030]]]) {y : Bool} (hy : slices_ContainsFuncI_g v1028 v1029 v1030 = some y) : ∃ F' H', Fwd 0 F F' [] (slices_ContainsFuncI_enc v1028 v1029 v1030 y).2 ∧ FnOk Try.prog 128 (DVs.av F [.bslc (BR.root 0) (.i64 v1028), .fn 129 [.bptr (BR.root 1) [.int .i64 v1029], .bptr (BR.root 2) [.int .i64 v1030]]]) F.H0 ((slices_ContainsFuncI_enc v1028 v1029 v1030 y).1.av F') H' ∧ St F' (slices_ContainsFuncI_enc v1028 v1029 v1030 y).2 H' ∧ (slices_ContainsFuncI_enc v1028 v1029 v1030 y).1.Ok F' (slices_ContainsFuncI_enc v1028 v1029 v1030 y).2 :=
  fn_fin tok slices_ContainsFuncI_hO mixed Try.func128 Try.call128 (by kernel_rfl) (LoopsOk_eq (l := []) (by kernel_rfl) trivial) (slices_ContainsFuncI_den v1028 v1029 v1030) hy h0 hA
noncomputable def slices_ContainsFuncI_F : DFn := fun args L =>
  match args with
  | [a1, .fn 129 [a2, a3]] =>
    optT (rowI64 L a1) fun v1028 =>
    optT (cellsOf L 1 a2) fun cs1 =>
    (match cs1 with
    | [.int .i64 v1029] =>
    optT (cellsOf L 1 a3) fun cs2 =>
    (match cs2 with
    | [.int .i64 v1030] =>
    .call (slices_ContainsFuncI_g v1028 v1029 v1030) fun y => .leaf (.bool y, L)
    | _ => .fail)
    | _ => .fail)
  | _ => .fail
theorem slices_ContainsFuncI_Fok : COk Try.prog 128 slices_ContainsFuncI_F true := by
  intro F L H args r L' hs ha hr
  unfold slices_ContainsFuncI_F at hr
  split at hr
  · rename_i a1 a2 a3
    obtain ⟨v1028, hv1028, hr⟩ := optT_run hr
    obtain ⟨cs1, hcp1, hr⟩ := optT_run hr
    split at hr
    · rename_i v1029
      obtain ⟨cs2, hcp2, hr⟩ := optT_run hr
      split at hr
      · rename_i v1030
        simp only [Tree.run] at hr
        obtain ⟨y, hy, hr⟩ := Option.bind_eq_some_iff.1 hr
        simp only [Tree.run, Option.some.injEq, Prod.mk.injEq] at hr
        obtain ⟨rfl, rfl⟩ := hr
        exact call_ok0 hs (fun k => (([a1.av F, a2.av F, a3.av F] : List AV)[k]?).getD .top) [a1, .fn 129 [a2, a3]] [.bslc (BR.root 0) (.i64 v1028), .fn 129 [.bptr (BR.root 1) [.int .i64 v1029], .bptr (BR.root 2) [.int .i64 v1030]]] (fun F' h0 hi hρ => ⟨by simp [DVs.av, DV.av, BR.av, hρ], slices_ContainsFuncI_fn v1028 v1029 v1030 F' (st_nil hi) ⟨bslc_ok hi (by rw [h0, hρ]; exact rowI64_ok hs (DVs.okAt ha 0 rfl) hv1028), ⟨bptr_ok hi (by rw [h0]; simpa [DVs.av, DV.av, BR.av, hρ] using (cellsOf_ok hs (DVs.okAt (DVs.okAt ha 1 rfl) 0 rfl) hcp1).1) ⟨trivial, trivial⟩, bptr_ok hi (by rw [h0]; simpa [DVs.av, DV.av, BR.av, hρ] using (cellsOf_ok hs (DVs.okAt (DVs.okAt ha 1 rfl) 1 rfl) hcp2).1) ⟨trivial, trivial⟩, trivial⟩, trivial⟩ hy⟩) rfl
      · cases hr
    · cases hr
  · cases hr
/-! impl.allIn -/
noncomputable def impl_allIn_LO (v1025 : List Int) (v1026 : Int) (v1027 : Int) : LOr := fun id e L =>
  match id with
  | _ => .fail
noncomputable def impl_allIn_tab : List (FuncId × DFn × Bool) := [(128, slices_ContainsFuncI_F, true)]
theorem impl_allIn_hO : OrcOk Try.prog (tabD impl_allIn_tab) (tabM impl_allIn_tab) := tabD_cons slices_ContainsFuncI_Fok (tabD_nil _)
noncomputable def impl_allIn_T (v1025 : List Int) (v1026 : Int) (v1027 : Int) : Tree (Bool) :=
  (.call (slices_ContainsFuncI_g v1025 v1026 v1027) fun v1044 =>
  .leaf (!v1044))

noncomputable def impl_allIn_g (v1025 : List Int) (v1026 : Int) (v1027 : Int) : Option (Bool) := (impl_allIn_T v1025 v1026 v1027).run
def impl_allIn_enc (v1025 : List Int) (v1026 : Int) (v1027 : Int) (y : Bool) : Rs := (.bool y, [])
theorem impl_allIn_den (v1025 : List Int) (v1026 : Int) (v1027 : Int) : (den TT (tabD impl_allIn_tab) (tabM impl_allIn_tab) (impl_allIn_LO v1025 v1026 v1027) (codeOf Try.f67) ([.bslc (BR.root 0) (.i64 v1025), .int .i64 v1026, .int .i64 v1027] ++ List.replicate (Try.f67.ntmps - ([.bslc (BR.root 0) (.i64 v1025), .int .i64 v1026, .int .i64 v1027] : List DV).length) .undef) []).bind (retD TT Try.f67.results.toList 0) = (impl_allIn_T v1025 v1026 v1027).bind fun y => .leaf (impl_allIn_enc v1025 v1026 v1027 y) := by kernel_rfl
theorem impl_allIn_fn (v1025 : List Int) (v1026 : Int) (v1027 : Int) (F : Fr) (h0 : St F [] F.H0) (hA : DVs.Ok F [] [.bslc (BR.root 0) (.i64 v1025), .int .i64 v1026, .int .i64 v1027]) {y : Bool} (hy : impl_allIn_g v1025 v1026 v1027 = some y) : ∃ F' H', Fwd 0 F F' [] (impl_allIn_enc v1025 v1026 v1027 y).2 ∧ FnOk Try.prog 67 (DVs.av F [.bslc (BR.root 0) (.i64 v1025), .int .i64 v1026, .int .i64 v1027]) F.H0 ((impl_allIn_enc v1025 v1026 v1027 y).1.av F') H' ∧ St F' (impl_allIn_enc v1025 v1026 v1027 y).2 H' ∧ (impl_allIn_enc v1025 v1026 v1027 y).1.Ok F' (impl_allIn_enc v1025 v1026 v1027 y).2 :=
  fn_fin tok impl_allIn_hO mixed Try.func67 Try.call67 (by kernel_rfl) (LoopsOk_eq (l := []) (by kernel_rfl) trivial) (impl_allIn_den v1025 v1026 v1027) hy h0 hA
noncomputable def impl_allIn_F : DFn := fun args L =>
  match args with
  | [a1, .int .i64 v1026, .int .i64 v1027] =>
    optT (rowI64 L a1) fun v1025 =>
    .call (impl_allIn_g v1025 v1026 v1027) fun y => .leaf (.bool y, L)
  | _ => .fail
theorem impl_allIn_Fok : COk Try.prog 67 impl_allIn_F true := by
  intro F L H args r L' hs ha hr
  unfold impl_allIn_F at hr
  split at hr
  · rename_i a1 v1026 v1027
    obtain ⟨v1025, hv1025, hr⟩ := optT_run hr
    simp only [Tree.run] at hr
    obtain ⟨y, hy, hr⟩ := Option.bind_eq_some_iff.1 hr
    simp only [Tree.run, Option.some.injEq, Prod.mk.injEq] at hr
    obtain ⟨rfl, rfl⟩ := hr
    exact call_ok0 hs (fun k => (([a1.av F] : List AV)[k]?).getD .top) [a1, .int .i64 v1026, .int .i64 v1027] [.bslc (BR.root 0) (.i64 v1025), .int .i64 v1026, .int .i64 v1027] (fun F' h0 hi hρ => ⟨by simp [DVs.av, DV.av, BR.av, hρ], impl_allIn_fn v1025 v1026 v1027 F' (st_nil hi) ⟨bslc_ok hi (by rw [h0, hρ]; exact rowI64_ok hs (DVs.okAt ha 0 rfl) hv1025), trivial, trivial, trivial⟩ hy⟩) rfl
  · cases hr
/-! impl.isWhole -/
noncomputable def impl_isWhole_LO (v1017 : Int) (v1018 : Int) (v1019 : List Int) (v1020 : Int) : LOr := fun id e L =>
  match id with
  | _ => .fail
noncomputable def impl_isWhole_tab : List (FuncId × DFn × Bool) := [(89, impl_inRange_F, true), (65, impl_lengthI_F, true), (67, impl_allIn_F, true)]
theorem impl_isWhole_hO : OrcOk Try.prog (tabD impl_isWhole_tab) (tabM impl_isWhole_tab) := tabD_cons impl_inRange_Fok (tabD_cons impl_lengthI_Fok (tabD_cons impl_allIn_Fok (tabD_nil _)))
noncomputable def impl_isWhole_T (v1017 : Int) (v1018 : Int) (v1019 : List Int) (v1020 : Int) : Tree (Bool) :=
  (.br (impl_inRange_v v1017 (1 : Int) (6 : Int)) (
   (.br (impl_inRange_v v1018 (1 : Int) (6 : Int)) (
    (.br (decide ((impl_lengthI_v v1019) = IntKind.i64.wrap (v1017 * v1018))) (
     (.call (impl_allIn_g v1019 (IntKind.i64.wrap (0 - v1020)) v1020) fun v1045 =>
     .leaf v1045)
    ) (
     .leaf false
    ))
   ) (
    .leaf false
   ))
  ) (
   .leaf false
  ))

noncomputable def impl_isWhole_g (v1017 : Int) (v1018 : Int) (v1019 : List Int) (v1020 : Int) : Option (Bool) := (impl_isWhole_T v1017 v1018 v1019 v1020).run
def impl_isWhole_enc (v1017 : Int) (v1018 : Int) (v1019 : List Int) (v1020 : Int) (y : Bool) : Rs := (.bool y, [])
theorem impl_isWhole_den (v1017 : Int) (v1018 : Int) (v1019 : List Int) (v1020 : Int) : (den TT (tabD impl_isWhole_tab) (tabM impl_isWhole_tab) (impl_isWhole_LO v1017 v1018 v1019 v1020) (codeOf Try.f126) ([.agg [.int .i64 v1017, .int .i64 v1018, .bslc (BR.root 0) (.i64 v1019)], .int .i64 v1020] ++ List.replicate (Try.f126.ntmps - ([.agg [.int .i64 v1017, .int .i64 v1018, .bslc (BR.root 0) (.i64 v1019)], .int .i64 v1020] : List DV).length) .undef) []).bind (retD TT Try.f126.results.toList 0) = (impl_isWhole_T v1017 v1018 v1019 v1020).bind fun y => .leaf (impl_isWhole_enc v1017 v1018 v1019 v1020 y) := by kernel_rfl
theorem impl_isWhole_fn (v1017 : Int) (v1018 : Int) (v1019 : List Int) (v1020 : Int) (F : Fr) (h0 : St F [] F.H0) (hA : DVs.Ok F [] [.agg [.int .i64 v1017, .int .i64 v1018, .bslc (BR.root 0) (.i64 v1019)], .int .i64 v1020]) {y : Bool} (hy : impl_isWhole_g v1017 v1018 v1019 v1020 = some y) : ∃ F' H', Fwd 0 F F' [] (impl_isWhole_enc v1017 v1018 v1019 v1020 y).2 ∧ FnOk Try.prog 126 (DVs.av F [.agg [.int .i64 v1017, .int .i64 v1018, .bslc (BR.root 0) (.i64 v1019)], .int .i64 v1020]) F.H0 ((impl_isWhole_enc v1017 v1018 v1019 v1020 y).1.av F') H' ∧ St F' (impl_isWhole_enc v1017 v1018 v1019 v1020 y).2 H' ∧ (impl_isWhole_enc v1017 v1018 v1019 v1020 y).1.Ok F' (impl_isWhole_enc v1017 v1018 v1019 v1020 y).2 :=
  fn_fin tok impl_isWhole_hO mixed Try.func126 Try.call126 (by kernel_rfl) (LoopsOk_eq (l := []) (by kernel_rfl) trivial) (impl_isWhole_den v1017 v1018 v1019 v1020) hy h0 hA
noncomputable def impl_isWhole_F : DFn := fun args L =>
  match args with
  | [.agg [.int .i64 v1017, .int .i64 v1018, a1], .int .i64 v1020] =>
    optT (rowI64 L a1) fun v1019 =>
    .call (impl_isWhole_g v1017 v1018 v1019 v1020) fun y => .leaf (.bool y, L)
  | _ => .fail
theorem impl_isWhole_Fok : COk Try.prog 126 impl_isWhole_F true := by
  intro F L H args r L' hs ha hr
  unfold impl_isWhole_F at hr
  split at hr
  · rename_i v1017 v1018 a1 v1020
    obtain ⟨v1019, hv1019, hr⟩ := optT_run hr
    simp only [Tree.run] at hr
    obtain ⟨y, hy, hr⟩ := Option.bind_eq_some_iff.1 hr
    simp only [Tree.run, Option.some.injEq, Prod.mk.injEq] at hr
    obtain ⟨rfl, rfl⟩ := hr
    exact call_ok0 hs (fun k => (([a1.av F] : List AV)[k]?).getD .top) [.agg [.int .i64 v1017, .int .i64 v1018, a1], .int .i64 v1020] [.agg [.int .i64 v1017, .int .i64 v1018, .bslc (BR.root 0) (.i64 v1019)], .int .i64 v1020] (fun F' h0 hi hρ => ⟨by simp [DVs.av, DV.av, BR.av, hρ], impl_isWhole_fn v1017 v1018 v1019 v1020 F' (st_nil hi) ⟨⟨trivial, trivial, bslc_ok hi (by rw [h0, hρ]; exact rowI64_ok hs (DVs.okAt (DVs.okAt ha 0 rfl) 2 rfl) hv1019), trivial⟩, trivial, trivial⟩ hy⟩) rfl
  · cases hr
/-! impl.ValidWhole -/
noncomputable def impl_ValidWhole_LO (v1014 : Int) (v1015 : Int) (v1016 : List Int) : LOr := fun id e L =>
  match id with
  | _ => .fail
noncomputable def impl_ValidWhole_tab : List (FuncId × DFn × Bool) := [(126, impl_isWhole_F, true)]
theorem impl_ValidWhole_hO : OrcOk Try.prog (tabD impl_ValidWhole_tab) (tabM impl_ValidWhole_tab) := tabD_cons impl_isWhole_Fok (tabD_nil _)
noncomputable def impl_ValidWhole_T (v1014 : Int) (v1015 : Int) (v1016 : List Int) : Tree (Bool) :=
  (.call (impl_isWhole_g v1014 v1015 v1016 (1000000 : Int)) fun v1046 =>
  .leaf v1046)

noncomputable def impl_ValidWhole_g (v1014 : Int) (v1015 : Int) (v1016 : List Int) : Option (Bool) := (impl_ValidWhole_T v1014 v1015 v1016).run
def impl_ValidWhole_enc (v1014 : Int) (v1015 : Int) (v1016 : List Int) (y : Bool) : Rs := (.bool y, [])
theorem impl_ValidWhole_den (v1014 : Int) (v1015 : Int) (v1016 : List Int) : (den TT (tabD impl_ValidWhole_tab) (tabM impl_ValidWhole_tab) (impl_ValidWhole_LO v1014 v1015 v1016) (codeOf Try.f63) ([.agg [.int .i64 v1014, .int .i64 v1015, .bslc (BR.root 0) (.i64 v1016)]] ++ List.replicate (Try.f63.ntmps - ([.agg [.int .i64 v1014, .int .i64 v1015, .bslc (BR.root 0) (.i64 v1016)]] : List DV).length) .undef) []).bind (retD TT Try.f63.results.toList 0) = (impl_ValidWhole_T v1014 v1015 v1016).bind fun y => .leaf (impl_ValidWhole_enc v1014 v1015 v1016 y) := by kernel_rfl
theorem impl_ValidWhole_fn (v1014 : Int) (v1015 : Int) (v1016 : List Int) (F : Fr) (h0 : St F [] F.H0) (hA : DVs.Ok F [] [.agg [.int .i64 v1014, .int .i64 v1015, .bslc (BR.root 0) (.i64 v1016)]]) {y : Bool} (hy : impl_ValidWhole_g v1014 v1015 v1016 = some y) : ∃ F' H', Fwd 0 F F' [] (impl_ValidWhole_enc v1014 v1015 v1016 y).2 ∧ FnOk Try.prog 63 (DVs.av F [.agg [.int .i64 v1014, .int .i64 v1015, .bslc (BR.root 0) (.i64 v1016)]]) F.H0 ((impl_ValidWhole_enc v1014 v1015 v1016 y).1.av F') H' ∧ St F' (impl_ValidWhole_enc v1014 v1015 v1016 y).2 H' ∧ (impl_ValidWhole_enc v1014 v1015 v1016 y).1.Ok F' (impl_ValidWhole_enc v1014 v1015 v1016 y).2 :=
  fn_fin tok impl_ValidWhole_hO mixed Try.func63 Try.call63 (by kernel_rfl) (LoopsOk_eq (l := []) (by kernel_rfl) trivial) (impl_ValidWhole_den v1014 v1015 v1016) hy h0 hA
noncomputable def impl_ValidWhole_F : DFn := fun args L =>
  match args with
  | [.agg [.int .i64 v1014, .int .i64 v1015, a1]] =>
    optT (rowI64 L a1) fun v1016 =>
    .call (impl_ValidWhole_g v1014 v1015 v1016) fun y => .leaf (.bool y, L)
  | _ => .fail
theorem impl_ValidWhole_Fok : COk Try.prog 63 impl_ValidWhole_F true := by
  intro F L H args r L' hs ha hr
  unfold impl_ValidWhole_F at hr
  split at hr
  · rename_i v1014 v1015 a1
    obtain ⟨v1016, hv1016, hr⟩ := optT_run hr
    simp only [Tree.run] at hr
    obtain ⟨y, hy, hr⟩ := Option.bind_eq_some_iff.1 hr
    simp only [Tree.run, Option.some.injEq, Prod.mk.injEq] at hr
    obtain ⟨rfl, rfl⟩ := hr
    exact call_ok0 hs (fun k => (([a1.av F] : List AV)[k]?).getD .top) [.agg [.int .i64 v1014, .int .i64 v1015, a1]] [.agg [.int .i64 v1014, .int .i64 v1015, .bslc (BR.root 0) (.i64 v1016)]] (fun F' h0 hi hρ => ⟨by simp [DVs.av, DV.av, BR.av, hρ], impl_ValidWhole_fn v1014 v1015 v1016 F' (st_nil hi) ⟨⟨trivial, trivial, bslc_ok hi (by rw [h0, hρ]; exact rowI64_ok hs (DVs.okAt (DVs.okAt ha 0 rfl) 2 rfl) hv1016), trivial⟩, trivial⟩ hy⟩) rfl
  · cases hr
/-! impl.IsPrime -/
noncomputable def impl_IsPrime_l0_T (v1048 : Int) (s : Int) : Tree ((Int) ⊕ ((Unit) ⊕ (Unit))) :=
  (.br (decide (IntKind.i64.wrap (s * s) ≤ v1048)) (
   (.grd (!decide (s = 0)) <|
   (.br (decide (Int.tmod v1048 s = (0 : Int))) (
    .leaf (.inr (.inl ()))
   ) (
    .leaf (.inl (IntKind.i64.wrap (s + (1 : Int))))
   )))
  ) (
   .leaf (.inr (.inr ()))
  ))

noncomputable def impl_IsPrime_l0_g (v1048 : Int) (s0 : Int) : Option ((Unit) ⊕ (Unit)) := whileM (fun s => (impl_IsPrime_l0_T v1048 s).run) s0
def impl_IsPrime_l0_E (v1048 : Int) (s : Int) : Sd := ([.int .i64 v1048, .top, .top, .int .i64 s, .top, .top, .top, .top, .top, .top, .top, .top, .top, .top, .top, .top, .top, .top], [])
def impl_IsPrime_l0_X (v1048 : Int) (x : (Unit) ⊕ (Unit)) : Out := (match x with | .inl x => (.ret, [.top, .top, .lit false, .top, .top, .top, .top, .top, .top, .top, .top, .top, .top, .top, .top, .top, .top, .top], []) | .inr x => (.normal, [.top, .top, .top, .top, .top, .top, .top, .top, .top, .top, .top, .top, .top, .top, .top, .top, .top, .top], []))
def impl_IsPrime_l0_kill : List Nat := [0, 1, 1, 0, 1, 1, 1, 1, 1, 1, 1, 1, 1, 1, 1, 1, 1, 1]
def impl_IsPrime_l0_nx : Exit → List Nat
  | .exit 0 => [1, 1, 1, 1, 1, 1, 1, 1, 1, 1, 1, 1, 1, 1, 1, 1, 1, 1]
  | .ret => [1, 1, 0, 1, 1, 1, 1, 1, 1, 1, 1, 1, 1, 1, 1, 1, 1, 1]
  | _ => []
noncomputable def impl_IsPrime_LO (v1048 : Int) : LOr := fun id e L =>
  match id with
  | 0 => .need (normA 0 impl_IsPrime_l0_kill e L = some (impl_IsPrime_l0_E v1048 (gI (vAt e 3)))) (.call (impl_IsPrime_l0_g v1048 (gI (vAt e 3))) fun x => .sum x (fun b0 => .leaf (impl_IsPrime_l0_X v1048 (.inl b0))) (fun c0 => .leaf (impl_IsPrime_l0_X v1048 (.inr c0))))
  | _ => .fail
noncomputable def impl_IsPrime_tab : List (FuncId × DFn × Bool) := [(89, impl_inRange_F, true)]
theorem impl_IsPrime_hO : OrcOk Try.prog (tabD impl_IsPrime_tab) (tabM impl_IsPrime_tab) := tabD_cons impl_inRange_Fok (tabD_nil _)
theorem impl_IsPrime_l0_be (v1048 : Int) (s : Int) : bodyT TT (tabD impl_IsPrime_tab) (tabM impl_IsPrime_tab) (impl_IsPrime_LO v1048) 0 impl_IsPrime_l0_kill impl_IsPrime_l0_nx (bodyOf Try.f58 0) 0 (impl_IsPrime_l0_E v1048 s) = (impl_IsPrime_l0_T v1048 s).bind fun y => .leaf (outS (impl_IsPrime_l0_E v1048) (impl_IsPrime_l0_X v1048) y) := by kernel_rfl
theorem impl_IsPrime_l0_ok (v1048 : Int) : LSound Try.prog 0 (impl_IsPrime_LO v1048) 0 (bodyOf Try.f58 0) := by
  intro e L out h
  exact lo_ok (E := impl_IsPrime_l0_E v1048) (gT := impl_IsPrime_l0_T v1048) (X := impl_IsPrime_l0_X v1048) (s0 := (gI (vAt e 3))) tok impl_IsPrime_hO mixed (LoopsOk_eq (l := []) (by kernel_rfl) trivial) (impl_IsPrime_l0_be v1048) rfl (by intro x; (cases x with | inl b => rfl | inr x => exact rfl)) h
noncomputable def impl_IsPrime_T (v1048 : Int) : Tree (Bool) :=
  (.br (!(impl_inRange_v v1048 (2 : Int) (997 : Int))) (
   .leaf false
  ) (
   (.need (some (impl_IsPrime_l0_E v1048 (2 : Int)) = some (impl_IsPrime_l0_E v1048 (2 : Int))) <|
   (.call (impl_IsPrime_l0_g v1048 (2 : Int)) fun v1052 =>
   (.sum v1052 (fun v1053 =>
    .leaf false
   ) (fun v1054 =>
    .leaf true
   ))))
  ))

noncomputable def impl_IsPrime_g (v1048 : Int) : Option (Bool) := (impl_IsPrime_T v1048).run
def impl_IsPrime_enc (v1048 : Int) (y : Bool) : Rs := (.bool y, [])
theorem impl_IsPrime_den (v1048 : Int) : (den TT (tabD impl_IsPrime_tab) (tabM impl_IsPrime_tab) (impl_IsPrime_LO v1048) (codeOf Try.f58) ([.int .i64 v1048] ++ List.replicate (Try.f58.ntmps - ([.int .i64 v1048] : List DV).length) .undef) []).bind (retD TT Try.f58.results.toList 0) = (impl_IsPrime_T v1048).bind fun y => .leaf (impl_IsPrime_enc v1048 y) := by kernel_rfl
theorem impl_IsPrime_fn (v1048 : Int) (F : Fr) (h0 : St F [] F.H0) (hA : DVs.Ok F [] [.int .i64 v1048]) {y : Bool} (hy : impl_IsPrime_g v1048 = some y) : ∃ F' H', Fwd 0 F F' [] (impl_IsPrime_enc v1048 y).2 ∧ FnOk Try.prog 58 (DVs.av F [.int .i64 v1048]) F.H0 ((impl_IsPrime_enc v1048 y).1.av F') H' ∧ St F' (impl_IsPrime_enc v1048 y).2 H' ∧ (impl_IsPrime_enc v1048 y).1.Ok F' (impl_IsPrime_enc v1048 y).2 :=
  fn_fin tok impl_IsPrime_hO mixed Try.func58 Try.call58 (by kernel_rfl) (LoopsOk_eq (l := [(0, bodyOf Try.f58 0)]) (by kernel_rfl) ⟨impl_IsPrime_l0_ok v1048, trivial⟩) (impl_IsPrime_den v1048) hy h0 hA
noncomputable def impl_IsPrime_F : DFn := fun args L =>
  match args with
  | [.int .i64 v1048] =>
    .call (impl_IsPrime_g v1048) fun y => .leaf (.bool y, L)
  | _ => .fail
theorem impl_IsPrime_Fok : COk Try.prog 58 impl_IsPrime_F true := by
  intro F L H args r L' hs ha hr
  unfold impl_IsPrime_F at hr
  split at hr
  · rename_i v1048
    simp only [Tree.run] at hr
    obtain ⟨y, hy, hr⟩ := Option.bind_eq_some_iff.1 hr
    simp only [Tree.run, Option.some.injEq, Prod.mk.injEq] at hr
    obtain ⟨rfl, rfl⟩ := hr
    exact call_ok0 hs (fun k => (([] : List AV)[k]?).getD .top) [.int .i64 v1048] [.int .i64 v1048] (fun F' h0 hi hρ => ⟨by simp [DVs.av, DV.av, BR.av, hρ], impl_IsPrime_fn v1048 F' (st_nil hi) ⟨trivial, trivial⟩ hy⟩) rfl
  · cases hr
/-! slices.Clone[list of int64,int64] -/
noncomputable def slices_CloneI_LO (v1066 : List Int) : LOr := fun id e L =>
  match id with
  | _ => .fail
noncomputable def slices_CloneI_tab : List (FuncId × DFn × Bool) := []
theorem slices_CloneI_hO : OrcOk Try.prog (tabD slices_CloneI_tab) (tabM slices_CloneI_tab) := tabD_nil _
noncomputable def slices_CloneI_T (v1066 : List Int) : Tree (Unit) :=
  (.grd (decide (0 < v1066.length)) <|
  (.grd (fits (([] : List Int) ++ v1066).length) <|
  .leaf ()))

noncomputable def slices_CloneI_g (v1066 : List Int) : Option (Unit) := (slices_CloneI_T v1066).run
def slices_CloneI_enc (v1066 : List Int) (y : Unit) : Rs := (.own 0 0 ((([] : List Int) ++ v1066).length), [.row (.i64 (([] : List Int) ++ v1066)) 0])
theorem slices_CloneI_den (v1066 : List Int) : (den TT (tabD slices_CloneI_tab) (tabM slices_CloneI_tab) (slices_CloneI_LO v1066) (codeOf Try.f90) ([.bslc (BR.root 0) (.i64 v1066)] ++ List.replicate (Try.f90.ntmps - ([.bslc (BR.root 0) (.i64 v1066)] : List DV).length) .undef) []).bind (retD TT Try.f90.results.toList 0) = (slices_CloneI_T v1066).bind fun y => .leaf (slices_CloneI_enc v1066 y) := by kernel_rfl
theorem slices_CloneI_fn (v1066 : List Int) (F : Fr) (h0 : St F [] F.H0) (hA : DVs.Ok F [] [.bslc (BR.root 0) (.i64 v1066)]) {y : Unit} (hy : slices_CloneI_g v1066 = some y) : ∃ F' H', Fwd 0 F F' [] (slices_CloneI_enc v1066 y).2 ∧ FnOk Try.prog 90 (DVs.av F [.bslc (BR.root 0) (.i64 v1066)]) F.H0 ((slices_CloneI_enc v1066 y).1.av F') H' ∧ St F' (slices_CloneI_enc v1066 y).2 H' ∧ (slices_CloneI_enc v1066 y).1.Ok F' (slices_CloneI_enc v1066 y).2 :=
  fn_fin tok slices_CloneI_hO mixed Try.func90 Try.call90 (by kernel_rfl) (LoopsOk_eq (l := []) (by kernel_rfl) trivial) (slices_CloneI_den v1066) hy h0 hA
noncomputable def slices_CloneI_F : DFn := fun args L =>
  match args with
  | [a1] =>
    optT (rowI64 L a1) fun v1066 =>
    .call (slices_CloneI_g v1066) fun y => .leaf (.own (L.length + 0) 0 ((([] : List Int) ++ v1066).length), L ++ [.row (.i64 (([] : List Int) ++ v1066)) 0])
  | _ => .fail
theorem slices_CloneI_Fok : COk Try.prog 90 slices_CloneI_F true := by
  intro F L H args r L' hs ha hr
  unfold slices_CloneI_F at hr
  split at hr
  · rename_i a1
    obtain ⟨v1066, hv1066, hr⟩ := optT_run hr
    simp only [Tree.run] at hr
    obtain ⟨y, hy, hr⟩ := Option.bind_eq_some_iff.1 hr
    simp only [Tree.run, Option.some.injEq, Prod.mk.injEq] at hr
    obtain ⟨rfl, rfl⟩ := hr
    exact call_ok1 hs (fun k => (([a1.av F] : List AV)[k]?).getD .top) [a1] [.bslc (BR.root 0) (.i64 v1066)] (fun F' h0 hi hρ => ⟨by simp [DVs.av, DV.av, BR.av, hρ], slices_CloneI_fn v1066 F' (st_nil hi) ⟨bslc_ok hi (by rw [h0, hρ]; exact rowI64_ok hs (DVs.okAt ha 0 rfl) hv1066), trivial⟩ hy⟩) rfl rfl
  · cases hr
/-! (impl.Whole).row -/
noncomputable def impl_Whole_row_LO (v1062 : Int) (v1063 : Int) (v1064 : List Int) (v1065 : Int) : LOr := fun id e L =>
  match id with
  | _ => .fail
noncomputable def impl_Whole_row_tab : List (FuncId × DFn × Bool) := [(90, slices_CloneI_F, true)]
theorem impl_Whole_row_hO : OrcOk Try.prog (tabD impl_Whole_row_tab) (tabM impl_Whole_row_tab) := tabD_cons slices_CloneI_Fok (tabD_nil _)
noncomputable def impl_Whole_row_T (v1063 : Int) (v1064 : List Int) (v1065 : Int) : Tree (Unit) :=
  (.grd (sok (IntKind.i64.wrap (v1065 * v1063)) (IntKind.i64.wrap ((IntKind.i64.wrap (v1065 + (1 : Int))) * v1063)) v1064.length) <|
  (.call (slices_CloneI_g (AM.sub v1064 (IntKind.i64.wrap (v1065 * v1063)) (IntKind.i64.wrap ((IntKind.i64.wrap (v1065 + (1 : Int))) * v1063)))) fun v1067 =>
  .leaf ()))

noncomputable def impl_Whole_row_g (v1063 : Int) (v1064 : List Int) (v1065 : Int) : Option (Unit) := (impl_Whole_row_T v1063 v1064 v1065).run
def impl_Whole_row_enc (v1062 : Int) (v1063 : Int) (v1064 : List Int) (v1065 : Int) (y : Unit) : Rs := (.own 0 0 ((([] : List Int) ++ (AM.sub v1064 (IntKind.i64.wrap (v1065 * v1063)) (IntKind.i64.wrap ((IntKind.i64.wrap (v1065 + (1 : Int))) * v1063)))).length), [.row (.i64 (([] : List Int) ++ (AM.sub v1064 (IntKind.i64.wrap (v1065 * v1063)) (IntKind.i64.wrap ((IntKind.i64.wrap (v1065 + (1 : Int))) * v1063))))) 0])
theorem impl_Whole_row_den (v1062 : Int) (v1063 : Int) (v1064 : List Int) (v1065 : Int) : (den TT (tabD impl_Whole_row_tab) (tabM impl_Whole_row_tab) (impl_Whole_row_LO v1062 v1063 v1064 v1065) (codeOf Try.f127) ([.agg [.int .i64 v1062, .int .i64 v1063, .bslc (BR.root 0) (.i64 v1064)], .int .i64 v1065] ++ List.replicate (Try.f127.ntmps - ([.agg [.int .i64 v1062, .int .i64 v1063, .bslc (BR.root 0) (.i64 v1064)], .int .i64 v1065] : List DV).length) .undef) []).bind (retD TT Try.f127.results.toList 0) = (impl_Whole_row_T v1063 v1064 v1065).bind fun y => .leaf (impl_Whole_row_enc v1062 v1063 v1064 v1065 y) := by kernel_rfl
theorem impl_Whole_row_fn (v1062 : Int) (v1063 : Int) (v1064 : List Int) (v1065 : Int) (F : Fr) (h0 : St F [] F.H0) (hA : DVs.Ok F [] [.agg [.int .i64 v1062, .int .i64 v1063, .bslc (BR.root 0) (.i64 v1064)], .int .i64 v1065]) {y : Unit} (hy : impl_Whole_row_g v1063 v1064 v1065 = some y) : ∃ F' H', Fwd 0 F F' [] (impl_Whole_row_enc v1062 v1063 v1064 v1065 y).2 ∧ FnOk Try.prog 127 (DVs.av F [.agg [.int .i64 v1062, .int .i64 v1063, .bslc (BR.root 0) (.i64 v1064)], .int .i64 v1065]) F.H0 ((impl_Whole_row_enc v1062 v1063 v1064 v1065 y).1.av F') H' ∧ St F' (impl_Whole_row_enc v1062 v1063 v1064 v1065 y).2 H' ∧ (impl_Whole_row_enc v1062 v1063 v1064 v1065 y).1.Ok F' (impl_Whole_row_enc v1062 v1063 v1064 v1065 y).2 :=
  fn_fin tok impl_Whole_row_hO mixed Try.func127 Try.call127 (by kernel_rfl) (LoopsOk_eq (l := []) (by kernel_rfl) trivial) (impl_Whole_row_den v1062 v1063 v1064 v1065) hy h0 hA
noncomputable def impl_Whole_row_F : DFn := fun args L =>
  match args with
  | [.agg [.int .i64 v1062, .int .i64 v1063, a1], .int .i64 v1065] =>
    optT (rowI64 L a1) fun v1064 =>
    .call (impl_Whole_row_g v1063 v1064 v1065) fun y => .leaf (.own (L.length + 0) 0 ((([] : List Int) ++ (AM.sub v1064 (IntKind.i64.wrap (v1065 * v1063)) (IntKind.i64.wrap ((IntKind.i64.wrap (v1065 + (1 : Int))) * v1063)))).length), L ++ [.row (.i64 (([] : List Int) ++ (AM.sub v1064 (IntKind.i64.wrap (v1065 * v1063)) (IntKind.i64.wrap ((IntKind.i64.wrap (v1065 + (1 : Int))) * v1063))))) 0])
  | _ => .fail
theorem impl_Whole_row_Fok : COk Try.prog 127 impl_Whole_row_F true := by
  intro F L H args r L' hs ha hr
  unfold impl_Whole_row_F at hr
  split at hr
  · rename_i v1062 v1063 a1 v1065
    obtain ⟨v1064, hv1064, hr⟩ := optT_run hr
    simp only [Tree.run] at hr
    obtain ⟨y, hy, hr⟩ := Option.bind_eq_some_iff.1 hr
    simp only [Tree.run, Option.some.injEq, Prod.mk.injEq] at hr
    obtain ⟨rfl, rfl⟩ := hr
    exact call_ok1 hs (fun k => (([a1.av F] : List AV)[k]?).getD .top) [.agg [.int .i64 v1062, .int .i64 v1063, a1], .int .i64 v1065] [.agg [.int .i64 v1062, .int .i64 v1063, .bslc (BR.root 0) (.i64 v1064)], .int .i64 v1065] (fun F' h0 hi hρ => ⟨by simp [DVs.av, DV.av, BR.av, hρ], impl_Whole_row_fn v1062 v1063 v1064 v1065 F' (st_nil hi) ⟨⟨trivial, trivial, bslc_ok hi (by rw [h0, hρ]; exact rowI64_ok hs (DVs.okAt (DVs.okAt ha 0 rfl) 2 rfl) hv1064), trivial⟩, trivial, trivial⟩ hy⟩) rfl rfl
  · cases hr
/-! impl.rest -/
noncomputable def impl_rest_LO (v1073 : Int) (v1074 : Int) : LOr := fun id e L =>
  match id with
  | _ => .fail
noncomputable def impl_rest_tab : List (FuncId × DFn × Bool) := []
theorem impl_rest_hO : OrcOk Try.prog (tabD impl_rest_tab) (tabM impl_rest_tab) := tabD_nil _
noncomputable def impl_rest_T (v1073 : Int) (v1074 : Int) : Tree (Int) :=
  (.grd (!decide (v1074 = 0)) <|
  (.grd (!decide (v1074 = 0)) <|
  .leaf (Int.tmod (IntKind.i64.wrap ((Int.tmod v1073 v1074) + v1074)) v1074)))

noncomputable def impl_rest_g (v1073 : Int) (v1074 : Int) : Option (Int) := (impl_rest_T v1073 v1074).run
def impl_rest_enc (v1073 : Int) (v1074 : Int) (y : Int) : Rs := (.int .i64 y, [])
theorem impl_rest_den (v1073 : Int) (v1074 : Int) : (den TT (tabD impl_rest_tab) (tabM impl_rest_tab) (impl_rest_LO v1073 v1074) (codeOf Try.f70) ([.int .i64 v1073, .int .i64 v1074] ++ List.replicate (Try.f70.ntmps - ([.int .i64 v1073, .int .i64 v1074] : List DV).length) .undef) []).bind (retD TT Try.f70.results.toList 0) = (impl_rest_T v1073 v1074).bind fun y => .leaf (impl_rest_enc v1073 v1074 y) := by kernel_rfl
theorem impl_rest_fn (v1073 : Int) (v1074 : Int) (F : Fr) (h0 : St F [] F.H0) (hA : DVs.Ok F [] [.int .i64 v1073, .int .i64 v1074]) {y : Int} (hy : impl_rest_g v1073 v1074 = some y) : ∃ F' H', Fwd 0 F F' [] (impl_rest_enc v1073 v1074 y).2 ∧ FnOk Try.prog 70 (DVs.av F [.int .i64 v1073, .int .i64 v1074]) F.H0 ((impl_rest_enc v1073 v1074 y).1.av F') H' ∧ St F' (impl_rest_enc v1073 v1074 y).2 H' ∧ (impl_rest_enc v1073 v1074 y).1.Ok F' (impl_rest_enc v1073 v1074 y).2 :=
  fn_fin tok impl_rest_hO mixed Try.func70 Try.call70 (by kernel_rfl) (LoopsOk_eq (l := []) (by kernel_rfl) trivial) (impl_rest_den v1073 v1074) hy h0 hA
noncomputable def impl_rest_F : DFn := fun args L =>
  match args with
  | [.int .i64 v1073, .int .i64 v1074] =>
    .call (impl_rest_g v1073 v1074) fun y => .leaf (.int .i64 y, L)
  | _ => .fail
theorem impl_rest_Fok : COk Try.prog 70 impl_rest_F true := by
  intro F L H args r L' hs ha hr
  unfold impl_rest_F at hr
  split at hr
  · rename_i v1073 v1074
    simp only [Tree.run] at hr
    obtain ⟨y, hy, hr⟩ := Option.bind_eq_some_iff.1 hr
    simp only [Tree.run, Option.some.injEq, Prod.mk.injEq] at hr
    obtain ⟨rfl, rfl⟩ := hr
    exact call_ok0 hs (fun k => (([] : List AV)[k]?).getD .top) [.int .i64 v1073, .int .i64 v1074] [.int .i64 v1073, .int .i64 v1074] (fun F' h0 hi hρ => ⟨by simp [DVs.av, DV.av, BR.av, hρ], impl_rest_fn v1073 v1074 F' (st_nil hi) ⟨trivial, trivial, trivial⟩ hy⟩) rfl
  · cases hr
/-! impl.backOver -/
noncomputable def impl_backOver_l0_T (v1162 : Int) (v1168 : Int) (s : Int) : Tree ((Int) ⊕ (Int)) :=
  (.grd (!decide (v1162 = 0)) <|
  (.br (!decide (Int.tmod (IntKind.i64.wrap (v1168 * s)) v1162 = (1 : Int))) (
   .leaf (.inl (IntKind.i64.wrap (s + (1 : Int))))
  ) (
   .leaf (.inr s)
  )))

noncomputable def impl_backOver_l0_g (v1162 : Int) (v1168 : Int) (s0 : Int) : Option (Int) := whileM (fun s => (impl_backOver_l0_T v1162 v1168 s).run) s0
def impl_backOver_l0_E (v1161 : Int) (v1162 : Int) (v1168 : Int) (s : Int) : Sd := ([.int .i64 v1168, .int .i64 v1162, .top, .top, .top, .int .i64 s, .top, .top, .top, .top, .top, .top, .top, .top, .top, .top, .top, .top], [])
def impl_backOver_l0_X (v1161 : Int) (v1162 : Int) (v1168 : Int) (x : Int) : Out := (.normal, [.top, .top, .top, .top, .top, .int .i64 x, .top, .top, .top, .top, .top, .top, .top, .top, .top, .top, .top, .top], [])
def impl_backOver_l0_kill : List Nat := [0, 0, 1, 1, 1, 0, 1, 1, 1, 1, 1, 1, 1, 1, 1, 1, 1, 1]
def impl_backOver_l0_nx : Exit → List Nat
  | .exit 0 => [1, 1, 1, 1, 1, 0, 1, 1, 1, 1, 1, 1, 1, 1, 1, 1, 1, 1]
  | .ret => [1, 1, 1, 1, 0, 1, 1, 1, 1, 1, 1, 1, 1, 1, 1, 1, 1, 1]
  | _ => []
noncomputable def impl_backOver_LO (v1161 : Int) (v1162 : Int) : LOr := fun id e L =>
  match id with
  | 0 => .need (normA 0 impl_backOver_l0_kill e L = some (impl_backOver_l0_E v1161 v1162 (gI (vAt e 0)) (gI (vAt e 5)))) (.call (impl_backOver_l0_g v1162 (gI (vAt e 0)) (gI (vAt e 5))) fun x => .leaf (impl_backOver_l0_X v1161 v1162 (gI (vAt e 0)) x))
  | _ => .fail
noncomputable def impl_backOver_tab : List (FuncId × DFn × Bool) := [(70, impl_rest_F, true)]
theorem impl_backOver_hO : OrcOk Try.prog (tabD impl_backOver_tab) (tabM impl_backOver_tab) := tabD_cons impl_rest_Fok (tabD_nil _)
theorem impl_backOver_l0_be (v1161 : Int) (v1162 : Int) (v1168 : Int) (s : Int) : bodyT TT (tabD impl_backOver_tab) (tabM impl_backOver_tab) (impl_backOver_LO v1161 v1162) 0 impl_backOver_l0_kill impl_backOver_l0_nx (bodyOf Try.f123 0) 0 (impl_backOver_l0_E v1161 v1162 v1168 s) = (impl_backOver_l0_T v1162 v1168 s).bind fun y => .leaf (outS (impl_backOver_l0_E v1161 v1162 v1168) (impl_backOver_l0_X v1161 v1162 v1168) y) := by kernel_rfl
theorem impl_backOver_l0_ok (v1161 : Int) (v1162 : Int) : LSound Try.prog 0 (impl_backOver_LO v1161 v1162) 0 (bodyOf Try.f123 0) := by
  intro e L out h
  exact lo_ok (E := impl_backOver_l0_E v1161 v1162 (gI (vAt e 0))) (gT := impl_backOver_l0_T v1162 (gI (vAt e 0))) (X := impl_backOver_l0_X v1161 v1162 (gI (vAt e 0))) (s0 := (gI (vAt e 5))) tok impl_backOver_hO mixed (LoopsOk_eq (l := []) (by kernel_rfl) trivial) (impl_backOver_l0_be v1161 v1162 (gI (vAt e 0))) rfl (by intro x; rfl) h
noncomputable def impl_backOver_T (v1161 : Int) (v1162 : Int) : Tree (Int) :=
  (.call (impl_rest_g v1161 v1162) fun v1163 =>
  (.need (some (impl_backOver_l0_E v1161 v1162 v1163 (1 : Int)) = some (impl_backOver_l0_E v1161 v1162 v1163 (1 : Int))) <|
  (.call (impl_backOver_l0_g v1162 v1163 (1 : Int)) fun v1170 =>
  .leaf v1170)))

noncomputable def impl_backOver_g (v1161 : Int) (v1162 : Int) : Option (Int) := (impl_backOver_T v1161 v1162).run
def impl_backOver_enc (v1161 : Int) (v1162 : Int) (y : Int) : Rs := (.int .i64 y, [])
theorem impl_backOver_den (v1161 : Int) (v1162 : Int) : (den TT (tabD impl_backOver_tab) (tabM impl_backOver_tab) (impl_backOver_LO v1161 v1162) (codeOf Try.f123) ([.int .i64 v1161, .int .i64 v1162] ++ List.replicate (Try.f123.ntmps - ([.int .i64 v1161, .int .i64 v1162] : List DV).length) .undef) []).bind (retD TT Try.f123.results.toList 0) = (impl_backOver_T v1161 v1162).bind fun y => .leaf (impl_backOver_enc v1161 v1162 y) := by kernel_rfl
theorem impl_backOver_fn (v1161 : Int) (v1162 : Int) (F : Fr) (h0 : St F [] F.H0) (hA : DVs.Ok F [] [.int .i64 v1161, .int .i64 v1162]) {y : Int} (hy : impl_backOver_g v1161 v1162 = some y) : ∃ F' H', Fwd 0 F F' [] (impl_backOver_enc v1161 v1162 y).2 ∧ FnOk Try.prog 123 (DVs.av F [.int .i64 v1161, .int .i64 v1162]) F.H0 ((impl_backOver_enc v1161 v1162 y).1.av F') H' ∧ St F' (impl_backOver_enc v1161 v1162 y).2 H' ∧ (impl_backOver_enc v1161 v1162 y).1.Ok F' (impl_backOver_enc v1161 v1162 y).2 :=
  fn_fin tok impl_backOver_hO mixed Try.func123 Try.call123 (by kernel_rfl) (LoopsOk_eq (l := [(0, bodyOf Try.f123 0)]) (by kernel_rfl) ⟨impl_backOver_l0_ok v1161 v1162, trivial⟩) (impl_backOver_den v1161 v1162) hy h0 hA
noncomputable def impl_backOver_F : DFn := fun args L =>
  match args with
  | [.int .i64 v1161, .int .i64 v1162] =>
    .call (impl_backOver_g v1161 v1162) fun y => .leaf (.int .i64 y, L)
  | _ => .fail
theorem impl_backOver_Fok : COk Try.prog 123 impl_backOver_F true := by
  intro F L H args r L' hs ha hr
  unfold impl_backOver_F at hr
  split at hr
  · rename_i v1161 v1162
    simp only [Tree.run] at hr
    obtain ⟨y, hy, hr⟩ := Option.bind_eq_some_iff.1 hr
    simp only [Tree.run, Option.some.injEq, Prod.mk.injEq] at hr
    obtain ⟨rfl, rfl⟩ := hr
    exact call_ok0 hs (fun k => (([] : List AV)[k]?).getD .top) [.int .i64 v1161, .int .i64 v1162] [.int .i64 v1161, .int .i64 v1162] (fun F' h0 hi hρ => ⟨by simp [DVs.av, DV.av, BR.av, hρ], impl_backOver_fn v1161 v1162 F' (st_nil hi) ⟨trivial, trivial, trivial⟩ hy⟩) rfl
  · cases hr
end Go.Proofs.Ytimlecagkbbnpaa.AM
