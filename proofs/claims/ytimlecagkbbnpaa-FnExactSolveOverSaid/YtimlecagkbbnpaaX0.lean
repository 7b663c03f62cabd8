/- Functions: what they come to. -/
import Derived.Test.YtimlecagkbbnpaaBase
set_option maxRecDepth 100000
set_option maxHeartbeats 4000000
set_option linter.unusedSimpArgs false
set_option linter.unusedVariables false
namespace Go.Proofs.Ytimlecagkbbnpaa.AM
open Go.Proofs
/-! laws.szInt64S -/
noncomputable def laws_szInt64S_LO (v10 : List Int) (v11 : Int) : LOr := fun id e L =>
  match id with
  | _ => .fail
noncomputable def laws_szInt64S_tab : List (FuncId × DFn × Bool) := []
theorem laws_szInt64S_hO : OrcOk Try.prog (tabD laws_szInt64S_tab) (tabM laws_szInt64S_tab) := tabD_nil _
noncomputable def laws_szInt64S_T (v10 : List Int) (v11 : Int) : Tree (Int) :=
  (.br (decide (IntKind.i64.wrap (v11 - ((v10.length : Nat) : Int)) < (0 : Int))) (
   .leaf (-1 : Int)
  ) (
   .leaf (IntKind.i64.wrap (v11 - ((v10.length : Nat) : Int)))
  ))

noncomputable def laws_szInt64S_g (v10 : List Int) (v11 : Int) : Option (Int) := (laws_szInt64S_T v10 v11).run
def laws_szInt64S_enc (v10 : List Int) (v11 : Int) (y : Int) : Rs := (.int .i64 y, [])
theorem laws_szInt64S_den (v10 : List Int) (v11 : Int) : (den TT (tabD laws_szInt64S_tab) (tabM laws_szInt64S_tab) (laws_szInt64S_LO v10 v11) (codeOf Try.f59) ([.bslc (BR.root 0) (.i64 v10), .int .i64 v11] ++ List.replicate (Try.f59.ntmps - ([.bslc (BR.root 0) (.i64 v10), .int .i64 v11] : List DV).length) .undef) []).bind (retD TT Try.f59.results.toList 0) = (laws_szInt64S_T v10 v11).bind fun y => .leaf (laws_szInt64S_enc v10 v11 y) := by kernel_rfl
theorem laws_szInt64S_fn (v10 : List Int) (v11 : Int) (F : Fr) (h0 : St F [] F.H0) (hA : DVs.Ok F [] [.bslc (BR.root 0) (.i64 v10), .int .i64 v11]) {y : Int} (hy : laws_szInt64S_g v10 v11 = some y) : ∃ F' H', Fwd 0 F F' [] (laws_szInt64S_enc v10 v11 y).2 ∧ FnOk Try.prog 59 (DVs.av F [.bslc (BR.root 0) (.i64 v10), .int .i64 v11]) F.H0 ((laws_szInt64S_enc v10 v11 y).1.av F') H' ∧ St F' (laws_szInt64S_enc v10 v11 y).2 H' ∧ (laws_szInt64S_enc v10 v11 y).1.Ok F' (laws_szInt64S_enc v10 v11 y).2 :=
  fn_fin tok laws_szInt64S_hO mixed Try.func59 Try.call59 (by kernel_rfl) (LoopsOk_eq (l := []) (by kernel_rfl) trivial) (laws_szInt64S_den v10 v11) hy h0 hA
def laws_szInt64S_v (v10 : List Int) (v11 : Int) : Int :=
  if (decide (IntKind.i64.wrap (v11 - ((v10.length : Nat) : Int)) < (0 : Int))) = true then (
   (-1 : Int)
  ) else (
   IntKind.i64.wrap (v11 - ((v10.length : Nat) : Int))
  )
theorem laws_szInt64S_tot (v10 : List Int) (v11 : Int) : laws_szInt64S_g v10 v11 = some (laws_szInt64S_v v10 v11) := by
  unfold laws_szInt64S_g laws_szInt64S_T laws_szInt64S_v
  simp only [Tree.run]
  repeat' (first | rfl | split)
noncomputable def laws_szInt64S_F : DFn := fun args L =>
  match args with
  | [a1, .int .i64 v11] =>
    optT (rowI64 L a1) fun v10 =>
    .leaf (.int .i64 (laws_szInt64S_v v10 v11), L)
  | _ => .fail
theorem laws_szInt64S_Fok : COk Try.prog 59 laws_szInt64S_F true := by
  intro F L H args r L' hs ha hr
  unfold laws_szInt64S_F at hr
  split at hr
  · rename_i a1 v11
    obtain ⟨v10, hv10, hr⟩ := optT_run hr
    have hy := laws_szInt64S_tot v10 v11
    generalize laws_szInt64S_v v10 v11 = y at hy hr
    simp only [Tree.run, Option.some.injEq, Prod.mk.injEq] at hr
    obtain ⟨rfl, rfl⟩ := hr
    exact call_ok0 hs (fun k => (([a1.av F] : List AV)[k]?).getD .top) [a1, .int .i64 v11] [.bslc (BR.root 0) (.i64 v10), .int .i64 v11] (fun F' h0 hi hρ => ⟨by simp [DVs.av, DV.av, BR.av, hρ], laws_szInt64S_fn v10 v11 F' (st_nil hi) ⟨bslc_ok hi (by rw [h0, hρ]; exact rowI64_ok hs (DVs.okAt ha 0 rfl) hv10), trivial, trivial⟩ hy⟩) rfl
  · cases hr
/-! laws.szWhole -/
noncomputable def laws_szWhole_LO (v6 : Int) (v7 : Int) (v8 : List Int) (v9 : Int) : LOr := fun id e L =>
  match id with
  | _ => .fail
noncomputable def laws_szWhole_tab : List (FuncId × DFn × Bool) := [(59, laws_szInt64S_F, true)]
theorem laws_szWhole_hO : OrcOk Try.prog (tabD laws_szWhole_tab) (tabM laws_szWhole_tab) := tabD_cons laws_szInt64S_Fok (tabD_nil _)
noncomputable def laws_szWhole_T (v8 : List Int) (v9 : Int) : Tree (Int) :=
  (.br (decide ((laws_szInt64S_v v8 v9) < (0 : Int))) (
   .leaf (-1 : Int)
  ) (
   .leaf (laws_szInt64S_v v8 v9)
  ))

noncomputable def laws_szWhole_g (v8 : List Int) (v9 : Int) : Option (Int) := (laws_szWhole_T v8 v9).run
def laws_szWhole_enc (v6 : Int) (v7 : Int) (v8 : List Int) (v9 : Int) (y : Int) : Rs := (.int .i64 y, [])
theorem laws_szWhole_den (v6 : Int) (v7 : Int) (v8 : List Int) (v9 : Int) : (den TT (tabD laws_szWhole_tab) (tabM laws_szWhole_tab) (laws_szWhole_LO v6 v7 v8 v9) (codeOf Try.f12) ([.agg [.int .i64 v6, .int .i64 v7, .bslc (BR.root 0) (.i64 v8)], .int .i64 v9] ++ List.replicate (Try.f12.ntmps - ([.agg [.int .i64 v6, .int .i64 v7, .bslc (BR.root 0) (.i64 v8)], .int .i64 v9] : List DV).length) .undef) []).bind (retD TT Try.f12.results.toList 0) = (laws_szWhole_T v8 v9).bind fun y => .leaf (laws_szWhole_enc v6 v7 v8 v9 y) := by kernel_rfl
theorem laws_szWhole_fn (v6 : Int) (v7 : Int) (v8 : List Int) (v9 : Int) (F : Fr) (h0 : St F [] F.H0) (hA : DVs.Ok F [] [.agg [.int .i64 v6, .int .i64 v7, .bslc (BR.root 0) (.i64 v8)], .int .i64 v9]) {y : Int} (hy : laws_szWhole_g v8 v9 = some y) : ∃ F' H', Fwd 0 F F' [] (laws_szWhole_enc v6 v7 v8 v9 y).2 ∧ FnOk Try.prog 12 (DVs.av F [.agg [.int .i64 v6, .int .i64 v7, .bslc (BR.root 0) (.i64 v8)], .int .i64 v9]) F.H0 ((laws_szWhole_enc v6 v7 v8 v9 y).1.av F') H' ∧ St F' (laws_szWhole_enc v6 v7 v8 v9 y).2 H' ∧ (laws_szWhole_enc v6 v7 v8 v9 y).1.Ok F' (laws_szWhole_enc v6 v7 v8 v9 y).2 :=
  fn_fin tok laws_szWhole_hO mixed Try.func12 Try.call12 (by kernel_rfl) (LoopsOk_eq (l := []) (by kernel_rfl) trivial) (laws_szWhole_den v6 v7 v8 v9) hy h0 hA
def laws_szWhole_v (v8 : List Int) (v9 : Int) : Int :=
  if (decide ((laws_szInt64S_v v8 v9) < (0 : Int))) = true then (
   (-1 : Int)
  ) else (
   (laws_szInt64S_v v8 v9)
  )
theorem laws_szWhole_tot (v8 : List Int) (v9 : Int) : laws_szWhole_g v8 v9 = some (laws_szWhole_v v8 v9) := by
  unfold laws_szWhole_g laws_szWhole_T laws_szWhole_v
  simp only [Tree.run]
  repeat' (first | rfl | split)
noncomputable def laws_szWhole_F : DFn := fun args L =>
  match args with
  | [.agg [.int .i64 v6, .int .i64 v7, a1], .int .i64 v9] =>
    optT (rowI64 L a1) fun v8 =>
    .leaf (.int .i64 (laws_szWhole_v v8 v9), L)
  | _ => .fail
theorem laws_szWhole_Fok : COk Try.prog 12 laws_szWhole_F true := by
  intro F L H args r L' hs ha hr
  unfold laws_szWhole_F at hr
  split at hr
  · rename_i v6 v7 a1 v9
    obtain ⟨v8, hv8, hr⟩ := optT_run hr
    have hy := laws_szWhole_tot v8 v9
    generalize laws_szWhole_v v8 v9 = y at hy hr
    simp only [Tree.run, Option.some.injEq, Prod.mk.injEq] at hr
    obtain ⟨rfl, rfl⟩ := hr
    exact call_ok0 hs (fun k => (([a1.av F] : List AV)[k]?).getD .top) [.agg [.int .i64 v6, .int .i64 v7, a1], .int .i64 v9] [.agg [.int .i64 v6, .int .i64 v7, .bslc (BR.root 0) (.i64 v8)], .int .i64 v9] (fun F' h0 hi hρ => ⟨by simp [DVs.av, DV.av, BR.av, hρ], laws_szWhole_fn v6 v7 v8 v9 F' (st_nil hi) ⟨⟨trivial, trivial, bslc_ok hi (by rw [h0, hρ]; exact rowI64_ok hs (DVs.okAt (DVs.okAt ha 0 rfl) 2 rfl) hv8), trivial⟩, trivial, trivial⟩ hy⟩) rfl
  · cases hr
/-! laws.toInt64S -/
noncomputable def laws_toInt64S_l0_T (v15 : List Int) (s : Int × (List Int)) : Tree ((Int × (List Int)) ⊕ ((List Int))) :=
  (.br (decide (s.1 < ((v15.length : Nat) : Int))) (
   (.grd (inb s.1 v15.length) <|
   (.grd (inb s.1 ((s.2).length)) <|
   .leaf (.inl (IntKind.i64.wrap (s.1 + (1 : Int)), List.set s.2 (Int.toNat s.1) (nth v15 (Int.toNat s.1))))))
  ) (
   .leaf (.inr s.2)
  ))

noncomputable def laws_toInt64S_l0_g (v15 : List Int) (s0 : Int × (List Int)) : Option ((List Int)) := whileM (fun s => (laws_toInt64S_l0_T v15 s).run) s0
def laws_toInt64S_l0_E (v15 : List Int) (s : Int × (List Int)) : Sd := ([.bslc (BR.root 0) (.i64 v15), .top, .top, .own 0 0 ((s.2).length), .int .i64 s.1, .top, .top, .top, .top, .top, .top, .top, .top, .top, .top, .top, .top, .top, .top, .top, .top, .top], [.row (.i64 s.2) 0])
def laws_toInt64S_l0_X (v15 : List Int) (x : (List Int)) : Out := (.normal, [.top, .top, .top, .own 0 0 ((x).length), .top, .top, .top, .top, .top, .top, .top, .top, .top, .top, .top, .top, .top, .top, .top, .top, .top, .top], [.row (.i64 x) 0])
def laws_toInt64S_l0_kill : List Nat := [0, 1, 1, 0, 0, 1, 1, 1, 1, 1, 1, 1, 1, 1, 1, 1, 1, 1, 1, 1, 1, 1]
def laws_toInt64S_l0_nx : Exit → List Nat
  | .exit 0 => [1, 1, 1, 0, 1, 1, 1, 1, 1, 1, 1, 1, 1, 1, 1, 1, 1, 1, 1, 1, 1, 1]
  | .ret => [1, 1, 0, 1, 1, 1, 1, 1, 1, 1, 1, 1, 1, 1, 1, 1, 1, 1, 1, 1, 1, 1]
  | _ => []
noncomputable def laws_toInt64S_LO (v15 : List Int) : LOr := fun id e L =>
  match id with
  | 0 => .need (normA 0 laws_toInt64S_l0_kill e L = some (laws_toInt64S_l0_E v15 ((gI (vAt e 4)), (gRI L (vAt e 3))))) (.call (laws_toInt64S_l0_g v15 ((gI (vAt e 4)), (gRI L (vAt e 3)))) fun x => .leaf (laws_toInt64S_l0_X v15 x))
  | _ => .fail
noncomputable def laws_toInt64S_tab : List (FuncId × DFn × Bool) := []
theorem laws_toInt64S_hO : OrcOk Try.prog (tabD laws_toInt64S_tab) (tabM laws_toInt64S_tab) := tabD_nil _
theorem laws_toInt64S_l0_be (v15 : List Int) (s : Int × (List Int)) : bodyT TT (tabD laws_toInt64S_tab) (tabM laws_toInt64S_tab) (laws_toInt64S_LO v15) 0 laws_toInt64S_l0_kill laws_toInt64S_l0_nx (bodyOf Try.f20 0) 0 (laws_toInt64S_l0_E v15 s) = (laws_toInt64S_l0_T v15 s).bind fun y => .leaf (outS (laws_toInt64S_l0_E v15) (laws_toInt64S_l0_X v15) y) := by kernel_rfl
theorem laws_toInt64S_l0_ok (v15 : List Int) : LSound Try.prog 0 (laws_toInt64S_LO v15) 0 (bodyOf Try.f20 0) := by
  intro e L out h
  exact lo_ok (E := laws_toInt64S_l0_E v15) (gT := laws_toInt64S_l0_T v15) (X := laws_toInt64S_l0_X v15) (s0 := ((gI (vAt e 4)), (gRI L (vAt e 3)))) tok laws_toInt64S_hO mixed (LoopsOk_eq (l := []) (by kernel_rfl) trivial) (laws_toInt64S_l0_be v15) rfl (by intro x; rfl) h
noncomputable def laws_toInt64S_T (v15 : List Int) : Tree ((List Int)) :=
  (.need (((v15.length : Nat) : Int) = ((v15.length : Nat) : Int)) <|
  (.grd (inb ((v15.length : Nat) : Int) (maxN + 1)) <|
  (.need (some (laws_toInt64S_l0_E v15 ((0 : Int), List.replicate (Int.toNat ((v15.length : Nat) : Int)) (0 : Int))) = some (laws_toInt64S_l0_E v15 ((0 : Int), List.replicate (Int.toNat ((v15.length : Nat) : Int)) (0 : Int)))) <|
  (.call (laws_toInt64S_l0_g v15 ((0 : Int), List.replicate (Int.toNat ((v15.length : Nat) : Int)) (0 : Int))) fun v21 =>
  .leaf v21))))

noncomputable def laws_toInt64S_g (v15 : List Int) : Option ((List Int)) := (laws_toInt64S_T v15).run
def laws_toInt64S_enc (v15 : List Int) (y : (List Int)) : Rs := (.own 0 0 ((y).length), [.row (.i64 y) 0])
theorem laws_toInt64S_den (v15 : List Int) : (den TT (tabD laws_toInt64S_tab) (tabM laws_toInt64S_tab) (laws_toInt64S_LO v15) (codeOf Try.f20) ([.bslc (BR.root 0) (.i64 v15)] ++ List.replicate (Try.f20.ntmps - ([.bslc (BR.root 0) (.i64 v15)] : List DV).length) .undef) []).bind (retD TT Try.f20.results.toList 0) = (laws_toInt64S_T v15).bind fun y => .leaf (laws_toInt64S_enc v15 y) := by kernel_rfl
theorem laws_toInt64S_fn (v15 : List Int) (F : Fr) (h0 : St F [] F.H0) (hA : DVs.Ok F [] [.bslc (BR.root 0) (.i64 v15)]) {y : (List Int)} (hy : laws_toInt64S_g v15 = some y) : ∃ F' H', Fwd 0 F F' [] (laws_toInt64S_enc v15 y).2 ∧ FnOk Try.prog 20 (DVs.av F [.bslc (BR.root 0) (.i64 v15)]) F.H0 ((laws_toInt64S_enc v15 y).1.av F') H' ∧ St F' (laws_toInt64S_enc v15 y).2 H' ∧ (laws_toInt64S_enc v15 y).1.Ok F' (laws_toInt64S_enc v15 y).2 :=
  fn_fin tok laws_toInt64S_hO mixed Try.func20 Try.call20 (by kernel_rfl) (LoopsOk_eq (l := [(0, bodyOf Try.f20 0)]) (by kernel_rfl) ⟨laws_toInt64S_l0_ok v15, trivial⟩) (laws_toInt64S_den v15) hy h0 hA
noncomputable def laws_toInt64S_F : DFn := fun args L =>
  match args with
  | [a1] =>
    optT (rowI64 L a1) fun v15 =>
    .call (laws_toInt64S_g v15) fun y => .leaf (.own (L.length + 0) 0 ((y).length), L ++ [.row (.i64 y) 0])
  | _ => .fail
theorem laws_toInt64S_Fok : COk Try.prog 20 laws_toInt64S_F true := by
  intro F L H args r L' hs ha hr
  unfold laws_toInt64S_F at hr
  split at hr
  · rename_i a1
    obtain ⟨v15, hv15, hr⟩ := optT_run hr
    simp only [Tree.run] at hr
    obtain ⟨y, hy, hr⟩ := Option.bind_eq_some_iff.1 hr
    simp only [Tree.run, Option.some.injEq, Prod.mk.injEq] at hr
    obtain ⟨rfl, rfl⟩ := hr
    exact call_ok1 hs (fun k => (([a1.av F] : List AV)[k]?).getD .top) [a1] [.bslc (BR.root 0) (.i64 v15)] (fun F' h0 hi hρ => ⟨by simp [DVs.av, DV.av, BR.av, hρ], laws_toInt64S_fn v15 F' (st_nil hi) ⟨bslc_ok hi (by rw [h0, hρ]; exact rowI64_ok hs (DVs.okAt ha 0 rfl) hv15), trivial⟩ hy⟩) rfl rfl
  · cases hr
/-! laws.toWhole -/
noncomputable def laws_toWhole_LO (v12 : Int) (v13 : Int) (v14 : List Int) : LOr := fun id e L =>
  match id with
  | _ => .fail
noncomputable def laws_toWhole_tab : List (FuncId × DFn × Bool) := [(20, laws_toInt64S_F, true)]
theorem laws_toWhole_hO : OrcOk Try.prog (tabD laws_toWhole_tab) (tabM laws_toWhole_tab) := tabD_cons laws_toInt64S_Fok (tabD_nil _)
noncomputable def laws_toWhole_T (v12 : Int) (v13 : Int) (v14 : List Int) : Tree (Int × Int × (List Int)) :=
  (.call (laws_toInt64S_g v14) fun v22 =>
  .leaf (v12, v13, v22))

noncomputable def laws_toWhole_g (v12 : Int) (v13 : Int) (v14 : List Int) : Option (Int × Int × (List Int)) := (laws_toWhole_T v12 v13 v14).run
def laws_toWhole_enc (v12 : Int) (v13 : Int) (v14 : List Int) (y : Int × Int × (List Int)) : Rs := (.agg [.int .i64 y.1, .int .i64 y.2.1, .own 0 0 ((y.2.2).length)], [.row (.i64 y.2.2) 0])
theorem laws_toWhole_den (v12 : Int) (v13 : Int) (v14 : List Int) : (den TT (tabD laws_toWhole_tab) (tabM laws_toWhole_tab) (laws_toWhole_LO v12 v13 v14) (codeOf Try.f14) ([.agg [.int .i64 v12, .int .i64 v13, .bslc (BR.root 0) (.i64 v14)]] ++ List.replicate (Try.f14.ntmps - ([.agg [.int .i64 v12, .int .i64 v13, .bslc (BR.root 0) (.i64 v14)]] : List DV).length) .undef) []).bind (retD TT Try.f14.results.toList 0) = (laws_toWhole_T v12 v13 v14).bind fun y => .leaf (laws_toWhole_enc v12 v13 v14 y) := by kernel_rfl
theorem laws_toWhole_fn (v12 : Int) (v13 : Int) (v14 : List Int) (F : Fr) (h0 : St F [] F.H0) (hA : DVs.Ok F [] [.agg [.int .i64 v12, .int .i64 v13, .bslc (BR.root 0) (.i64 v14)]]) {y : Int × Int × (List Int)} (hy : laws_toWhole_g v12 v13 v14 = some y) : ∃ F' H', Fwd 0 F F' [] (laws_toWhole_enc v12 v13 v14 y).2 ∧ FnOk Try.prog 14 (DVs.av F [.agg [.int .i64 v12, .int .i64 v13, .bslc (BR.root 0) (.i64 v14)]]) F.H0 ((laws_toWhole_enc v12 v13 v14 y).1.av F') H' ∧ St F' (laws_toWhole_enc v12 v13 v14 y).2 H' ∧ (laws_toWhole_enc v12 v13 v14 y).1.Ok F' (laws_toWhole_enc v12 v13 v14 y).2 :=
  fn_fin tok laws_toWhole_hO mixed Try.func14 Try.call14 (by kernel_rfl) (LoopsOk_eq (l := []) (by kernel_rfl) trivial) (laws_toWhole_den v12 v13 v14) hy h0 hA
noncomputable def laws_toWhole_F : DFn := fun args L =>
  match args with
  | [.agg [.int .i64 v12, .int .i64 v13, a1]] =>
    optT (rowI64 L a1) fun v14 =>
    .call (laws_toWhole_g v12 v13 v14) fun y => .leaf (.agg [.int .i64 y.1, .int .i64 y.2.1, .own (L.length + 0) 0 ((y.2.2).length)], L ++ [.row (.i64 y.2.2) 0])
  | _ => .fail
theorem laws_toWhole_Fok : COk Try.prog 14 laws_toWhole_F true := by
  intro F L H args r L' hs ha hr
  unfold laws_toWhole_F at hr
  split at hr
  · rename_i v12 v13 a1
    obtain ⟨v14, hv14, hr⟩ := optT_run hr
    simp only [Tree.run] at hr
    obtain ⟨y, hy, hr⟩ := Option.bind_eq_some_iff.1 hr
    simp only [Tree.run, Option.some.injEq, Prod.mk.injEq] at hr
    obtain ⟨rfl, rfl⟩ := hr
    exact call_ok1 hs (fun k => (([a1.av F] : List AV)[k]?).getD .top) [.agg [.int .i64 v12, .int .i64 v13, a1]] [.agg [.int .i64 v12, .int .i64 v13, .bslc (BR.root 0) (.i64 v14)]] (fun F' h0 hi hρ => ⟨by simp [DVs.av, DV.av, BR.av, hρ], laws_toWhole_fn v12 v13 v14 F' (st_nil hi) ⟨⟨trivial, trivial, bslc_ok hi (by rw [h0, hρ]; exact rowI64_ok hs (DVs.okAt (DVs.okAt ha 0 rfl) 2 rfl) hv14), trivial⟩, trivial⟩ hy⟩) rfl rfl
  · cases hr
/-! spec.l00In -/
noncomputable def spec_l00In_LO (v34 : Int) (v35 : Int) (v36 : Int) : LOr := fun id e L =>
  match id with
  | _ => .fail
noncomputable def spec_l00In_tab : List (FuncId × DFn × Bool) := []
theorem spec_l00In_hO : OrcOk Try.prog (tabD spec_l00In_tab) (tabM spec_l00In_tab) := tabD_nil _
noncomputable def spec_l00In_T (v34 : Int) (v35 : Int) (v36 : Int) : Tree (Bool) :=
  (.br (decide (v35 ≤ v34)) (
   .leaf (decide (v34 ≤ v36))
  ) (
   .leaf false
  ))

noncomputable def spec_l00In_g (v34 : Int) (v35 : Int) (v36 : Int) : Option (Bool) := (spec_l00In_T v34 v35 v36).run
def spec_l00In_enc (v34 : Int) (v35 : Int) (v36 : Int) (y : Bool) : Rs := (.bool y, [])
theorem spec_l00In_den (v34 : Int) (v35 : Int) (v36 : Int) : (den TT (tabD spec_l00In_tab) (tabM spec_l00In_tab) (spec_l00In_LO v34 v35 v36) (codeOf Try.f80) ([.int .i64 v34, .int .i64 v35, .int .i64 v36] ++ List.replicate (Try.f80.ntmps - ([.int .i64 v34, .int .i64 v35, .int .i64 v36] : List DV).length) .undef) []).bind (retD TT Try.f80.results.toList 0) = (spec_l00In_T v34 v35 v36).bind fun y => .leaf (spec_l00In_enc v34 v35 v36 y) := by kernel_rfl
theorem spec_l00In_fn (v34 : Int) (v35 : Int) (v36 : Int) (F : Fr) (h0 : St F [] F.H0) (hA : DVs.Ok F [] [.int .i64 v34, .int .i64 v35, .int .i64 v36]) {y : Bool} (hy : spec_l00In_g v34 v35 v36 = some y) : ∃ F' H', Fwd 0 F F' [] (spec_l00In_enc v34 v35 v36 y).2 ∧ FnOk Try.prog 80 (DVs.av F [.int .i64 v34, .int .i64 v35, .int .i64 v36]) F.H0 ((spec_l00In_enc v34 v35 v36 y).1.av F') H' ∧ St F' (spec_l00In_enc v34 v35 v36 y).2 H' ∧ (spec_l00In_enc v34 v35 v36 y).1.Ok F' (spec_l00In_enc v34 v35 v36 y).2 :=
  fn_fin tok spec_l00In_hO mixed Try.func80 Try.call80 (by kernel_rfl) (LoopsOk_eq (l := []) (by kernel_rfl) trivial) (spec_l00In_den v34 v35 v36) hy h0 hA
def spec_l00In_v (v34 : Int) (v35 : Int) (v36 : Int) : Bool :=
  if (decide (v35 ≤ v34)) = true then (
   decide (v34 ≤ v36)
  ) else (
   false
  )
theorem spec_l00In_tot (v34 : Int) (v35 : Int) (v36 : Int) : spec_l00In_g v34 v35 v36 = some (spec_l00In_v v34 v35 v36) := by
  unfold spec_l00In_g spec_l00In_T spec_l00In_v
  simp only [Tree.run]
  repeat' (first | rfl | split)
noncomputable def spec_l00In_F : DFn := fun args L =>
  match args with
  | [.int .i64 v34, .int .i64 v35, .int .i64 v36] =>
    .leaf (.bool (spec_l00In_v v34 v35 v36), L)
  | _ => .fail
theorem spec_l00In_Fok : COk Try.prog 80 spec_l00In_F true := by
  intro F L H args r L' hs ha hr
  unfold spec_l00In_F at hr
  split at hr
  · rename_i v34 v35 v36
    have hy := spec_l00In_tot v34 v35 v36
    generalize spec_l00In_v v34 v35 v36 = y at hy hr
    simp only [Tree.run, Option.some.injEq, Prod.mk.injEq] at hr
    obtain ⟨rfl, rfl⟩ := hr
    exact call_ok0 hs (fun k => (([] : List AV)[k]?).getD .top) [.int .i64 v34, .int .i64 v35, .int .i64 v36] [.int .i64 v34, .int .i64 v35, .int .i64 v36] (fun F' h0 hi hρ => ⟨by simp [DVs.av, DV.av, BR.av, hρ], spec_l00In_fn v34 v35 v36 F' (st_nil hi) ⟨trivial, trivial, trivial, trivial⟩ hy⟩) rfl
  · cases hr
/-! spec.l06Bound -/
noncomputable def spec_l06Bound_l0_T (v37 : List Int) (v38 : Int) (s : Int) : Tree ((Int) ⊕ ((Unit) ⊕ (Unit))) :=
  (.br (decide (s < ((v37.length : Nat) : Int))) (
   (.grd (inb s v37.length) <|
   (.br (!(spec_l00In_v (nth v37 (Int.toNat s)) (IntKind.i64.wrap (0 - v38)) v38)) (
    .leaf (.inr (.inl ()))
   ) (
    .leaf (.inl (IntKind.i64.wrap (s + (1 : Int))))
   )))
  ) (
   .leaf (.inr (.inr ()))
  ))

noncomputable def spec_l06Bound_l0_g (v37 : List Int) (v38 : Int) (s0 : Int) : Option ((Unit) ⊕ (Unit)) := whileM (fun s => (spec_l06Bound_l0_T v37 v38 s).run) s0
def spec_l06Bound_l0_E (v37 : List Int) (v38 : Int) (s : Int) : Sd := ([.bslc (BR.root 0) (.i64 v37), .int .i64 v38, .top, .top, .top, .int .i64 s, .top, .top, .top, .top, .top, .top, .top, .top, .top, .top, .top, .top, .top, .top, .top], [])
def spec_l06Bound_l0_X (v37 : List Int) (v38 : Int) (x : (Unit) ⊕ (Unit)) : Out := (match x with | .inl x => (.ret, [.top, .top, .top, .top, .lit false, .top, .top, .top, .top, .top, .top, .top, .top, .top, .top, .top, .top, .top, .top, .top, .top], []) | .inr x => (.normal, [.top, .top, .top, .top, .top, .top, .top, .top, .top, .top, .top, .top, .top, .top, .top, .top, .top, .top, .top, .top, .top], []))
def spec_l06Bound_l0_kill : List Nat := [0, 0, 1, 1, 1, 0, 1, 1, 1, 1, 1, 1, 1, 1, 1, 1, 1, 1, 1, 1, 1]
def spec_l06Bound_l0_nx : Exit → List Nat
  | .exit 0 => [1, 1, 1, 1, 1, 1, 1, 1, 1, 1, 1, 1, 1, 1, 1, 1, 1, 1, 1, 1, 1]
  | .ret => [1, 1, 1, 1, 0, 1, 1, 1, 1, 1, 1, 1, 1, 1, 1, 1, 1, 1, 1, 1, 1]
  | _ => []
noncomputable def spec_l06Bound_LO (v37 : List Int) (v38 : Int) : LOr := fun id e L =>
  match id with
  | 0 => .need (normA 0 spec_l06Bound_l0_kill e L = some (spec_l06Bound_l0_E v37 v38 (gI (vAt e 5)))) (.call (spec_l06Bound_l0_g v37 v38 (gI (vAt e 5))) fun x => .sum x (fun b0 => .leaf (spec_l06Bound_l0_X v37 v38 (.inl b0))) (fun c0 => .leaf (spec_l06Bound_l0_X v37 v38 (.inr c0))))
  | _ => .fail
noncomputable def spec_l06Bound_tab : List (FuncId × DFn × Bool) := [(80, spec_l00In_F, true)]
theorem spec_l06Bound_hO : OrcOk Try.prog (tabD spec_l06Bound_tab) (tabM spec_l06Bound_tab) := tabD_cons spec_l00In_Fok (tabD_nil _)
theorem spec_l06Bound_l0_be (v37 : List Int) (v38 : Int) (s : Int) : bodyT TT (tabD spec_l06Bound_tab) (tabM spec_l06Bound_tab) (spec_l06Bound_LO v37 v38) 0 spec_l06Bound_l0_kill spec_l06Bound_l0_nx (bodyOf Try.f66 0) 0 (spec_l06Bound_l0_E v37 v38 s) = (spec_l06Bound_l0_T v37 v38 s).bind fun y => .leaf (outS (spec_l06Bound_l0_E v37 v38) (spec_l06Bound_l0_X v37 v38) y) := by kernel_rfl
theorem spec_l06Bound_l0_ok (v37 : List Int) (v38 : Int) : LSound Try.prog 0 (spec_l06Bound_LO v37 v38) 0 (bodyOf Try.f66 0) := by
  intro e L out h
  exact lo_ok (E := spec_l06Bound_l0_E v37 v38) (gT := spec_l06Bound_l0_T v37 v38) (X := spec_l06Bound_l0_X v37 v38) (s0 := (gI (vAt e 5))) tok spec_l06Bound_hO mixed (LoopsOk_eq (l := []) (by kernel_rfl) trivial) (spec_l06Bound_l0_be v37 v38) rfl (by intro x; (cases x with | inl b => rfl | inr x => exact rfl)) h
noncomputable def spec_l06Bound_T (v37 : List Int) (v38 : Int) : Tree (Bool) :=
  (.need (some (spec_l06Bound_l0_E v37 v38 (0 : Int)) = some (spec_l06Bound_l0_E v37 v38 (0 : Int))) <|
  (.call (spec_l06Bound_l0_g v37 v38 (0 : Int)) fun v42 =>
  (.sum v42 (fun v43 =>
   .leaf false
  ) (fun v44 =>
   .leaf true
  ))))

noncomputable def spec_l06Bound_g (v37 : List Int) (v38 : Int) : Option (Bool) := (spec_l06Bound_T v37 v38).run
def spec_l06Bound_enc (v37 : List Int) (v38 : Int) (y : Bool) : Rs := (.bool y, [])
theorem spec_l06Bound_den (v37 : List Int) (v38 : Int) : (den TT (tabD spec_l06Bound_tab) (tabM spec_l06Bound_tab) (spec_l06Bound_LO v37 v38) (codeOf Try.f66) ([.bslc (BR.root 0) (.i64 v37), .int .i64 v38] ++ List.replicate (Try.f66.ntmps - ([.bslc (BR.root 0) (.i64 v37), .int .i64 v38] : List DV).length) .undef) []).bind (retD TT Try.f66.results.toList 0) = (spec_l06Bound_T v37 v38).bind fun y => .leaf (spec_l06Bound_enc v37 v38 y) := by kernel_rfl
theorem spec_l06Bound_fn (v37 : List Int) (v38 : Int) (F : Fr) (h0 : St F [] F.H0) (hA : DVs.Ok F [] [.bslc (BR.root 0) (.i64 v37), .int .i64 v38]) {y : Bool} (hy : spec_l06Bound_g v37 v38 = some y) : ∃ F' H', Fwd 0 F F' [] (spec_l06Bound_enc v37 v38 y).2 ∧ FnOk Try.prog 66 (DVs.av F [.bslc (BR.root 0) (.i64 v37), .int .i64 v38]) F.H0 ((spec_l06Bound_enc v37 v38 y).1.av F') H' ∧ St F' (spec_l06Bound_enc v37 v38 y).2 H' ∧ (spec_l06Bound_enc v37 v38 y).1.Ok F' (spec_l06Bound_enc v37 v38 y).2 :=
  fn_fin tok spec_l06Bound_hO mixed Try.func66 Try.call66 (by kernel_rfl) (LoopsOk_eq (l := [(0, bodyOf Try.f66 0)]) (by kernel_rfl) ⟨spec_l06Bound_l0_ok v37 v38, trivial⟩) (spec_l06Bound_den v37 v38) hy h0 hA
noncomputable def spec_l06Bound_F : DFn := fun args L =>
  match args with
  | [a1, .int .i64 v38] =>
    optT (rowI64 L a1) fun v37 =>
    .call (spec_l06Bound_g v37 v38) fun y => .leaf (.bool y, L)
  | _ => .fail
theorem spec_l06Bound_Fok : COk Try.prog 66 spec_l06Bound_F true := by
  intro F L H args r L' hs ha hr
  unfold spec_l06Bound_F at hr
  split at hr
  · rename_i a1 v38
    obtain ⟨v37, hv37, hr⟩ := optT_run hr
    simp only [Tree.run] at hr
    obtain ⟨y, hy, hr⟩ := Option.bind_eq_some_iff.1 hr
    simp only [Tree.run, Option.some.injEq, Prod.mk.injEq] at hr
    obtain ⟨rfl, rfl⟩ := hr
    exact call_ok0 hs (fun k => (([a1.av F] : List AV)[k]?).getD .top) [a1, .int .i64 v38] [.bslc (BR.root 0) (.i64 v37), .int .i64 v38] (fun F' h0 hi hρ => ⟨by simp [DVs.av, DV.av, BR.av, hρ], spec_l06Bound_fn v37 v38 F' (st_nil hi) ⟨bslc_ok hi (by rw [h0, hρ]; exact rowI64_ok hs (DVs.okAt ha 0 rfl) hv37), trivial, trivial⟩ hy⟩) rfl
  · cases hr
/-! spec.l06Is -/
noncomputable def spec_l06Is_LO (v30 : Int) (v31 : Int) (v32 : List Int) (v33 : Int) : LOr := fun id e L =>
  match id with
  | _ => .fail
noncomputable def spec_l06Is_tab : List (FuncId × DFn × Bool) := [(80, spec_l00In_F, true), (66, spec_l06Bound_F, true)]
theorem spec_l06Is_hO : OrcOk Try.prog (tabD spec_l06Is_tab) (tabM spec_l06Is_tab) := tabD_cons spec_l00In_Fok (tabD_cons spec_l06Bound_Fok (tabD_nil _))
noncomputable def spec_l06Is_T (v30 : Int) (v31 : Int) (v32 : List Int) (v33 : Int) : Tree (Bool) :=
  (.br (spec_l00In_v v30 (1 : Int) (6 : Int)) (
   (.br (spec_l00In_v v31 (1 : Int) (6 : Int)) (
    (.br (decide (((v32.length : Nat) : Int) = IntKind.i64.wrap (v30 * v31))) (
     (.call (spec_l06Bound_g v32 v33) fun v45 =>
     .leaf v45)
    ) (
     .leaf false
    ))
   ) (
    .leaf false
   ))
  ) (
   .leaf false
  ))

noncomputable def spec_l06Is_g (v30 : Int) (v31 : Int) (v32 : List Int) (v33 : Int) : Option (Bool) := (spec_l06Is_T v30 v31 v32 v33).run
def spec_l06Is_enc (v30 : Int) (v31 : Int) (v32 : List Int) (v33 : Int) (y : Bool) : Rs := (.bool y, [])
theorem spec_l06Is_den (v30 : Int) (v31 : Int) (v32 : List Int) (v33 : Int) : (den TT (tabD spec_l06Is_tab) (tabM spec_l06Is_tab) (spec_l06Is_LO v30 v31 v32 v33) (codeOf Try.f60) ([.bptr (BR.root 0) [.int .i64 v30, .int .i64 v31, .bslc (BR.root 1) (.i64 v32)], .int .i64 v33] ++ List.replicate (Try.f60.ntmps - ([.bptr (BR.root 0) [.int .i64 v30, .int .i64 v31, .bslc (BR.root 1) (.i64 v32)], .int .i64 v33] : List DV).length) .undef) []).bind (retD TT Try.f60.results.toList 0) = (spec_l06Is_T v30 v31 v32 v33).bind fun y => .leaf (spec_l06Is_enc v30 v31 v32 v33 y) := by kernel_rfl
theorem spec_l06Is_fn (v30 : Int) (v31 : Int) (v32 : List Int) (v33 : Int) (F : Fr) (h0 : St F [] F.H0) (hA : DVs.Ok F [] [.bptr (BR.root 0) [.int .i64 v30, .int .i64 v31, .bslc (BR.root 1) (.i64 v32)], .int .i64 v33]) {y : Bool} (hy : spec_l06Is_g v30 v31 v32 v33 = some y) : ∃ F' H', Fwd 0 F F' [] (spec_l06Is_enc v30 v31 v32 v33 y).2 ∧ FnOk Try.prog 60 (DVs.av F [.bptr (BR.root 0) [.int .i64 v30, .int .i64 v31, .bslc (BR.root 1) (.i64 v32)], .int .i64 v33]) F.H0 ((spec_l06Is_enc v30 v31 v32 v33 y).1.av F') H' ∧ St F' (spec_l06Is_enc v30 v31 v32 v33 y).2 H' ∧ (spec_l06Is_enc v30 v31 v32 v33 y).1.Ok F' (spec_l06Is_enc v30 v31 v32 v33 y).2 :=
  fn_fin tok spec_l06Is_hO mixed Try.func60 Try.call60 (by kernel_rfl) (LoopsOk_eq (l := []) (by kernel_rfl) trivial) (spec_l06Is_den v30 v31 v32 v33) hy h0 hA
noncomputable def spec_l06Is_F : DFn := fun args L =>
  match args with
  | [a1, .int .i64 v33] =>
    optT (cellsOf L 3 a1) fun cs0 =>
    (match cs0 with
    | [.int .i64 v30, .int .i64 v31, a2] =>
    optT (rowI64 L a2) fun v32 =>
    .call (spec_l06Is_g v30 v31 v32 v33) fun y => .leaf (.bool y, L)
    | _ => .fail)
  | _ => .fail
theorem spec_l06Is_Fok : COk Try.prog 60 spec_l06Is_F true := by
  intro F L H args r L' hs ha hr
  unfold spec_l06Is_F at hr
  split at hr
  · rename_i a1 v33
    obtain ⟨cs0, hcp0, hr⟩ := optT_run hr
    split at hr
    · rename_i v30 v31 a2
      obtain ⟨v32, hv32, hr⟩ := optT_run hr
      simp only [Tree.run] at hr
      obtain ⟨y, hy, hr⟩ := Option.bind_eq_some_iff.1 hr
      simp only [Tree.run, Option.some.injEq, Prod.mk.injEq] at hr
      obtain ⟨rfl, rfl⟩ := hr
      exact call_ok0 hs (fun k => (([a1.av F, a2.av F] : List AV)[k]?).getD .top) [a1, .int .i64 v33] [.bptr (BR.root 0) [.int .i64 v30, .int .i64 v31, .bslc (BR.root 1) (.i64 v32)], .int .i64 v33] (fun F' h0 hi hρ => ⟨by simp [DVs.av, DV.av, BR.av, hρ], spec_l06Is_fn v30 v31 v32 v33 F' (st_nil hi) ⟨bptr_ok hi (by rw [h0]; simpa [DVs.av, DV.av, BR.av, hρ] using (cellsOf_ok hs (DVs.okAt ha 0 rfl) hcp0).1) ⟨trivial, trivial, bslc_ok hi (by rw [h0, hρ]; exact rowI64_ok hs (DVs.okAt (cellsOf_ok hs (DVs.okAt ha 0 rfl) hcp0).2 2 rfl) hv32), trivial⟩, trivial, trivial⟩ hy⟩) rfl
    · cases hr
  · cases hr
/-! spec.l06Prime -/
noncomputable def spec_l06Prime_l0_T (v47 : Int) (s : Int) : Tree ((Int) ⊕ ((Unit) ⊕ (Unit))) :=
  (.br (decide (IntKind.i64.wrap (s * s) ≤ v47)) (
   (.br (decide (v47 ≤ (997 : Int))) (
    (.grd (!decide (s = 0)) <|
    (.br (decide (Int.tmod v47 s = (0 : Int))) (
     .leaf (.inr (.inl ()))
    ) (
     .leaf (.inl (IntKind.i64.wrap (s + (1 : Int))))
    )))
   ) (
    .leaf (.inr (.inr ()))
   ))
  ) (
   .leaf (.inr (.inr ()))
  ))

noncomputable def spec_l06Prime_l0_g (v47 : Int) (s0 : Int) : Option ((Unit) ⊕ (Unit)) := whileM (fun s => (spec_l06Prime_l0_T v47 s).run) s0
def spec_l06Prime_l0_E (v47 : Int) (s : Int) : Sd := ([.int .i64 v47, .top, .top, .int .i64 s, .top, .top, .top, .top, .top, .top, .top, .top, .top, .top, .top, .top, .top, .top, .top, .top, .top, .top, .top, .top, .top], [])
def spec_l06Prime_l0_X (v47 : Int) (x : (Unit) ⊕ (Unit)) : Out := (match x with | .inl x => (.ret, [.top, .top, .lit false, .top, .top, .top, .top, .top, .top, .top, .top, .top, .top, .top, .top, .top, .top, .top, .top, .top, .top, .top, .top, .top, .top], []) | .inr x => (.normal, [.int .i64 v47, .top, .top, .top, .top, .top, .top, .top, .top, .top, .top, .top, .top, .top, .top, .top, .top, .top, .top, .top, .top, .top, .top, .top, .top], []))
def spec_l06Prime_l0_kill : List Nat := [0, 1, 1, 0, 1, 1, 1, 1, 1, 1, 1, 1, 1, 1, 1, 1, 1, 1, 1, 1, 1, 1, 1, 1, 1]
def spec_l06Prime_l0_nx : Exit → List Nat
  | .exit 0 => [0, 1, 1, 1, 1, 1, 1, 1, 1, 1, 1, 1, 1, 1, 1, 1, 1, 1, 1, 1, 1, 1, 1, 1, 1]
  | .ret => [1, 1, 0, 1, 1, 1, 1, 1, 1, 1, 1, 1, 1, 1, 1, 1, 1, 1, 1, 1, 1, 1, 1, 1, 1]
  | _ => []
noncomputable def spec_l06Prime_LO (v47 : Int) : LOr := fun id e L =>
  match id with
  | 0 => .need (normA 0 spec_l06Prime_l0_kill e L = some (spec_l06Prime_l0_E v47 (gI (vAt e 3)))) (.call (spec_l06Prime_l0_g v47 (gI (vAt e 3))) fun x => .sum x (fun b0 => .leaf (spec_l06Prime_l0_X v47 (.inl b0))) (fun c0 => .leaf (spec_l06Prime_l0_X v47 (.inr c0))))
  | _ => .fail
noncomputable def spec_l06Prime_tab : List (FuncId × DFn × Bool) := []
theorem spec_l06Prime_hO : OrcOk Try.prog (tabD spec_l06Prime_tab) (tabM spec_l06Prime_tab) := tabD_nil _
theorem spec_l06Prime_l0_be (v47 : Int) (s : Int) : bodyT TT (tabD spec_l06Prime_tab) (tabM spec_l06Prime_tab) (spec_l06Prime_LO v47) 0 spec_l06Prime_l0_kill spec_l06Prime_l0_nx (bodyOf Try.f61 0) 0 (spec_l06Prime_l0_E v47 s) = (spec_l06Prime_l0_T v47 s).bind fun y => .leaf (outS (spec_l06Prime_l0_E v47) (spec_l06Prime_l0_X v47) y) := by kernel_rfl
theorem spec_l06Prime_l0_ok (v47 : Int) : LSound Try.prog 0 (spec_l06Prime_LO v47) 0 (bodyOf Try.f61 0) := by
  intro e L out h
  exact lo_ok (E := spec_l06Prime_l0_E v47) (gT := spec_l06Prime_l0_T v47) (X := spec_l06Prime_l0_X v47) (s0 := (gI (vAt e 3))) tok spec_l06Prime_hO mixed (LoopsOk_eq (l := []) (by kernel_rfl) trivial) (spec_l06Prime_l0_be v47) rfl (by intro x; (cases x with | inl b => rfl | inr x => exact rfl)) h
noncomputable def spec_l06Prime_T (v47 : Int) : Tree (Bool) :=
  (.need (some (spec_l06Prime_l0_E v47 (2 : Int)) = some (spec_l06Prime_l0_E v47 (2 : Int))) <|
  (.call (spec_l06Prime_l0_g v47 (2 : Int)) fun v51 =>
  (.sum v51 (fun v52 =>
   .leaf false
  ) (fun v53 =>
   (.br (decide ((2 : Int) ≤ v47)) (
    .leaf (decide (v47 ≤ (997 : Int)))
   ) (
    .leaf false
   ))
  ))))

noncomputable def spec_l06Prime_g (v47 : Int) : Option (Bool) := (spec_l06Prime_T v47).run
def spec_l06Prime_enc (v47 : Int) (y : Bool) : Rs := (.bool y, [])
theorem spec_l06Prime_den (v47 : Int) : (den TT (tabD spec_l06Prime_tab) (tabM spec_l06Prime_tab) (spec_l06Prime_LO v47) (codeOf Try.f61) ([.int .i64 v47] ++ List.replicate (Try.f61.ntmps - ([.int .i64 v47] : List DV).length) .undef) []).bind (retD TT Try.f61.results.toList 0) = (spec_l06Prime_T v47).bind fun y => .leaf (spec_l06Prime_enc v47 y) := by kernel_rfl
theorem spec_l06Prime_fn (v47 : Int) (F : Fr) (h0 : St F [] F.H0) (hA : DVs.Ok F [] [.int .i64 v47]) {y : Bool} (hy : spec_l06Prime_g v47 = some y) : ∃ F' H', Fwd 0 F F' [] (spec_l06Prime_enc v47 y).2 ∧ FnOk Try.prog 61 (DVs.av F [.int .i64 v47]) F.H0 ((spec_l06Prime_enc v47 y).1.av F') H' ∧ St F' (spec_l06Prime_enc v47 y).2 H' ∧ (spec_l06Prime_enc v47 y).1.Ok F' (spec_l06Prime_enc v47 y).2 :=
  fn_fin tok spec_l06Prime_hO mixed Try.func61 Try.call61 (by kernel_rfl) (LoopsOk_eq (l := [(0, bodyOf Try.f61 0)]) (by kernel_rfl) ⟨spec_l06Prime_l0_ok v47, trivial⟩) (spec_l06Prime_den v47) hy h0 hA
noncomputable def spec_l06Prime_F : DFn := fun args L =>
  match args with
  | [.int .i64 v47] =>
    .call (spec_l06Prime_g v47) fun y => .leaf (.bool y, L)
  | _ => .fail
theorem spec_l06Prime_Fok : COk Try.prog 61 spec_l06Prime_F true := by
  intro F L H args r L' hs ha hr
  unfold spec_l06Prime_F at hr
  split at hr
  · rename_i v47
    simp only [Tree.run] at hr
    obtain ⟨y, hy, hr⟩ := Option.bind_eq_some_iff.1 hr
    simp only [Tree.run, Option.some.injEq, Prod.mk.injEq] at hr
    obtain ⟨rfl, rfl⟩ := hr
    exact call_ok0 hs (fun k => (([] : List AV)[k]?).getD .top) [.int .i64 v47] [.int .i64 v47] (fun F' h0 hi hρ => ⟨by simp [DVs.av, DV.av, BR.av, hρ], spec_l06Prime_fn v47 F' (st_nil hi) ⟨trivial, trivial⟩ hy⟩) rfl
  · cases hr
/-! spec.l06At -/
noncomputable def spec_l06At_LO (v64 : Int) (v65 : Int) (v66 : List Int) (v67 : Int) (v68 : Int) : LOr := fun id e L =>
  match id with
  | _ => .fail
noncomputable def spec_l06At_tab : List (FuncId × DFn × Bool) := []
theorem spec_l06At_hO : OrcOk Try.prog (tabD spec_l06At_tab) (tabM spec_l06At_tab) := tabD_nil _
noncomputable def spec_l06At_T (v65 : Int) (v66 : List Int) (v67 : Int) (v68 : Int) : Tree (Int) :=
  (.grd (inb (IntKind.i64.wrap ((IntKind.i64.wrap (v67 * v65)) + v68)) v66.length) <|
  .leaf (nth v66 (Int.toNat (IntKind.i64.wrap ((IntKind.i64.wrap (v67 * v65)) + v68)))))

noncomputable def spec_l06At_g (v65 : Int) (v66 : List Int) (v67 : Int) (v68 : Int) : Option (Int) := (spec_l06At_T v65 v66 v67 v68).run
def spec_l06At_enc (v64 : Int) (v65 : Int) (v66 : List Int) (v67 : Int) (v68 : Int) (y : Int) : Rs := (.int .i64 y, [])
theorem spec_l06At_den (v64 : Int) (v65 : Int) (v66 : List Int) (v67 : Int) (v68 : Int) : (den TT (tabD spec_l06At_tab) (tabM spec_l06At_tab) (spec_l06At_LO v64 v65 v66 v67 v68) (codeOf Try.f124) ([.bptr (BR.root 0) [.int .i64 v64, .int .i64 v65, .bslc (BR.root 1) (.i64 v66)], .int .i64 v67, .int .i64 v68] ++ List.replicate (Try.f124.ntmps - ([.bptr (BR.root 0) [.int .i64 v64, .int .i64 v65, .bslc (BR.root 1) (.i64 v66)], .int .i64 v67, .int .i64 v68] : List DV).length) .undef) []).bind (retD TT Try.f124.results.toList 0) = (spec_l06At_T v65 v66 v67 v68).bind fun y => .leaf (spec_l06At_enc v64 v65 v66 v67 v68 y) := by kernel_rfl
theorem spec_l06At_fn (v64 : Int) (v65 : Int) (v66 : List Int) (v67 : Int) (v68 : Int) (F : Fr) (h0 : St F [] F.H0) (hA : DVs.Ok F [] [.bptr (BR.root 0) [.int .i64 v64, .int .i64 v65, .bslc (BR.root 1) (.i64 v66)], .int .i64 v67, .int .i64 v68]) {y : Int} (hy : spec_l06At_g v65 v66 v67 v68 = some y) : ∃ F' H', Fwd 0 F F' [] (spec_l06At_enc v64 v65 v66 v67 v68 y).2 ∧ FnOk Try.prog 124 (DVs.av F [.bptr (BR.root 0) [.int .i64 v64, .int .i64 v65, .bslc (BR.root 1) (.i64 v66)], .int .i64 v67, .int .i64 v68]) F.H0 ((spec_l06At_enc v64 v65 v66 v67 v68 y).1.av F') H' ∧ St F' (spec_l06At_enc v64 v65 v66 v67 v68 y).2 H' ∧ (spec_l06At_enc v64 v65 v66 v67 v68 y).1.Ok F' (spec_l06At_enc v64 v65 v66 v67 v68 y).2 :=
  fn_fin tok spec_l06At_hO mixed Try.func124 Try.call124 (by kernel_rfl) (LoopsOk_eq (l := []) (by kernel_rfl) trivial) (spec_l06At_den v64 v65 v66 v67 v68) hy h0 hA
noncomputable def spec_l06At_F : DFn := fun args L =>
  match args with
  | [a1, .int .i64 v67, .int .i64 v68] =>
    optT (cellsOf L 3 a1) fun cs0 =>
    (match cs0 with
    | [.int .i64 v64, .int .i64 v65, a2] =>
    optT (rowI64 L a2) fun v66 =>
    .call (spec_l06At_g v65 v66 v67 v68) fun y => .leaf (.int .i64 y, L)
    | _ => .fail)
  | _ => .fail
theorem spec_l06At_Fok : COk Try.prog 124 spec_l06At_F true := by
  intro F L H args r L' hs ha hr
  unfold spec_l06At_F at hr
  split at hr
  · rename_i a1 v67 v68
    obtain ⟨cs0, hcp0, hr⟩ := optT_run hr
    split at hr
    · rename_i v64 v65 a2
      obtain ⟨v66, hv66, hr⟩ := optT_run hr
      simp only [Tree.run] at hr
      obtain ⟨y, hy, hr⟩ := Option.bind_eq_some_iff.1 hr
      simp only [Tree.run, Option.some.injEq, Prod.mk.injEq] at hr
      obtain ⟨rfl, rfl⟩ := hr
      exact call_ok0 hs (fun k => (([a1.av F, a2.av F] : List AV)[k]?).getD .top) [a1, .int .i64 v67, .int .i64 v68] [.bptr (BR.root 0) [.int .i64 v64, .int .i64 v65, .bslc (BR.root 1) (.i64 v66)], .int .i64 v67, .int .i64 v68] (fun F' h0 hi hρ => ⟨by simp [DVs.av, DV.av, BR.av, hρ], spec_l06At_fn v64 v65 v66 v67 v68 F' (st_nil hi) ⟨bptr_ok hi (by rw [h0]; simpa [DVs.av, DV.av, BR.av, hρ] using (cellsOf_ok hs (DVs.okAt ha 0 rfl) hcp0).1) ⟨trivial, trivial, bslc_ok hi (by rw [h0, hρ]; exact rowI64_ok hs (DVs.okAt (cellsOf_ok hs (DVs.okAt ha 0 rfl) hcp0).2 2 rfl) hv66), trivial⟩, trivial, trivial, trivial⟩ hy⟩) rfl
    · cases hr
  · cases hr
/-! spec.l06Mod -/
noncomputable def spec_l06Mod_LO (v70 : Int) (v71 : Int) : LOr := fun id e L =>
  match id with
  | _ => .fail
noncomputable def spec_l06Mod_tab : List (FuncId × DFn × Bool) := []
theorem spec_l06Mod_hO : OrcOk Try.prog (tabD spec_l06Mod_tab) (tabM spec_l06Mod_tab) := tabD_nil _
noncomputable def spec_l06Mod_T (v70 : Int) (v71 : Int) : Tree (Int) :=
  (.grd (!decide (v71 = 0)) <|
  (.br (decide (Int.tmod v70 v71 < (0 : Int))) (
   .leaf (IntKind.i64.wrap ((Int.tmod v70 v71) + v71))
  ) (
   .leaf (Int.tmod v70 v71)
  )))

noncomputable def spec_l06Mod_g (v70 : Int) (v71 : Int) : Option (Int) := (spec_l06Mod_T v70 v71).run
def spec_l06Mod_enc (v70 : Int) (v71 : Int) (y : Int) : Rs := (.int .i64 y, [])
theorem spec_l06Mod_den (v70 : Int) (v71 : Int) : (den TT (tabD spec_l06Mod_tab) (tabM spec_l06Mod_tab) (spec_l06Mod_LO v70 v71) (codeOf Try.f68) ([.int .i64 v70, .int .i64 v71] ++ List.replicate (Try.f68.ntmps - ([.int .i64 v70, .int .i64 v71] : List DV).length) .undef) []).bind (retD TT Try.f68.results.toList 0) = (spec_l06Mod_T v70 v71).bind fun y => .leaf (spec_l06Mod_enc v70 v71 y) := by kernel_rfl
theorem spec_l06Mod_fn (v70 : Int) (v71 : Int) (F : Fr) (h0 : St F [] F.H0) (hA : DVs.Ok F [] [.int .i64 v70, .int .i64 v71]) {y : Int} (hy : spec_l06Mod_g v70 v71 = some y) : ∃ F' H', Fwd 0 F F' [] (spec_l06Mod_enc v70 v71 y).2 ∧ FnOk Try.prog 68 (DVs.av F [.int .i64 v70, .int .i64 v71]) F.H0 ((spec_l06Mod_enc v70 v71 y).1.av F') H' ∧ St F' (spec_l06Mod_enc v70 v71 y).2 H' ∧ (spec_l06Mod_enc v70 v71 y).1.Ok F' (spec_l06Mod_enc v70 v71 y).2 :=
  fn_fin tok spec_l06Mod_hO mixed Try.func68 Try.call68 (by kernel_rfl) (LoopsOk_eq (l := []) (by kernel_rfl) trivial) (spec_l06Mod_den v70 v71) hy h0 hA
noncomputable def spec_l06Mod_F : DFn := fun args L =>
  match args with
  | [.int .i64 v70, .int .i64 v71] =>
    .call (spec_l06Mod_g v70 v71) fun y => .leaf (.int .i64 y, L)
  | _ => .fail
theorem spec_l06Mod_Fok : COk Try.prog 68 spec_l06Mod_F true := by
  intro F L H args r L' hs ha hr
  unfold spec_l06Mod_F at hr
  split at hr
  · rename_i v70 v71
    simp only [Tree.run] at hr
    obtain ⟨y, hy, hr⟩ := Option.bind_eq_some_iff.1 hr
    simp only [Tree.run, Option.some.injEq, Prod.mk.injEq] at hr
    obtain ⟨rfl, rfl⟩ := hr
    exact call_ok0 hs (fun k => (([] : List AV)[k]?).getD .top) [.int .i64 v70, .int .i64 v71] [.int .i64 v70, .int .i64 v71] (fun F' h0 hi hρ => ⟨by simp [DVs.av, DV.av, BR.av, hρ], spec_l06Mod_fn v70 v71 F' (st_nil hi) ⟨trivial, trivial, trivial⟩ hy⟩) rfl
  · cases hr
/-! spec.l06Back -/
noncomputable def spec_l06Back_l0_T (v157 : Int) (v158 : Int) (s : Int × Int) : Tree ((Int × Int) ⊕ (Int)) :=
  (.br (decide ((0 : Int) < s.2)) (
   (.grd (!decide (v158 = 0)) <|
   .leaf (.inl (Int.tmod (IntKind.i64.wrap (s.1 * v157)) v158, IntKind.i64.wrap (s.2 - (1 : Int)))))
  ) (
   .leaf (.inr s.1)
  ))

noncomputable def spec_l06Back_l0_g (v157 : Int) (v158 : Int) (s0 : Int × Int) : Option (Int) := whileM (fun s => (spec_l06Back_l0_T v157 v158 s).run) s0
def spec_l06Back_l0_E (v157 : Int) (v158 : Int) (s : Int × Int) : Sd := ([.int .i64 v157, .int .i64 v158, .top, .top, .top, .int .i64 s.1, .int .i64 s.2, .top, .top, .top, .top, .top, .top, .top, .top, .top, .top, .top, .top], [])
def spec_l06Back_l0_X (v157 : Int) (v158 : Int) (x : Int) : Out := (.normal, [.top, .top, .top, .top, .top, .int .i64 x, .top, .top, .top, .top, .top, .top, .top, .top, .top, .top, .top, .top, .top], [])
def spec_l06Back_l0_kill : List Nat := [0, 0, 1, 1, 1, 0, 0, 1, 1, 1, 1, 1, 1, 1, 1, 1, 1, 1, 1]
def spec_l06Back_l0_nx : Exit → List Nat
  | .exit 0 => [1, 1, 1, 1, 1, 0, 1, 1, 1, 1, 1, 1, 1, 1, 1, 1, 1, 1, 1]
  | .ret => [1, 1, 1, 1, 0, 1, 1, 1, 1, 1, 1, 1, 1, 1, 1, 1, 1, 1, 1]
  | _ => []
noncomputable def spec_l06Back_LO (v157 : Int) (v158 : Int) : LOr := fun id e L =>
  match id with
  | 0 => .need (normA 0 spec_l06Back_l0_kill e L = some (spec_l06Back_l0_E v157 v158 ((gI (vAt e 5)), (gI (vAt e 6))))) (.call (spec_l06Back_l0_g v157 v158 ((gI (vAt e 5)), (gI (vAt e 6)))) fun x => .leaf (spec_l06Back_l0_X v157 v158 x))
  | _ => .fail
noncomputable def spec_l06Back_tab : List (FuncId × DFn × Bool) := []
theorem spec_l06Back_hO : OrcOk Try.prog (tabD spec_l06Back_tab) (tabM spec_l06Back_tab) := tabD_nil _
theorem spec_l06Back_l0_be (v157 : Int) (v158 : Int) (s : Int × Int) : bodyT TT (tabD spec_l06Back_tab) (tabM spec_l06Back_tab) (spec_l06Back_LO v157 v158) 0 spec_l06Back_l0_kill spec_l06Back_l0_nx (bodyOf Try.f125 0) 0 (spec_l06Back_l0_E v157 v158 s) = (spec_l06Back_l0_T v157 v158 s).bind fun y => .leaf (outS (spec_l06Back_l0_E v157 v158) (spec_l06Back_l0_X v157 v158) y) := by kernel_rfl
theorem spec_l06Back_l0_ok (v157 : Int) (v158 : Int) : LSound Try.prog 0 (spec_l06Back_LO v157 v158) 0 (bodyOf Try.f125 0) := by
  intro e L out h
  exact lo_ok (E := spec_l06Back_l0_E v157 v158) (gT := spec_l06Back_l0_T v157 v158) (X := spec_l06Back_l0_X v157 v158) (s0 := ((gI (vAt e 5)), (gI (vAt e 6)))) tok spec_l06Back_hO mixed (LoopsOk_eq (l := []) (by kernel_rfl) trivial) (spec_l06Back_l0_be v157 v158) rfl (by intro x; rfl) h
noncomputable def spec_l06Back_T (v157 : Int) (v158 : Int) : Tree (Int) :=
  (.need (some (spec_l06Back_l0_E v157 v158 ((1 : Int), IntKind.i64.wrap (v158 - (2 : Int)))) = some (spec_l06Back_l0_E v157 v158 ((1 : Int), IntKind.i64.wrap (v158 - (2 : Int))))) <|
  (.call (spec_l06Back_l0_g v157 v158 ((1 : Int), IntKind.i64.wrap (v158 - (2 : Int)))) fun v165 =>
  .leaf v165))

noncomputable def spec_l06Back_g (v157 : Int) (v158 : Int) : Option (Int) := (spec_l06Back_T v157 v158).run
def spec_l06Back_enc (v157 : Int) (v158 : Int) (y : Int) : Rs := (.int .i64 y, [])
theorem spec_l06Back_den (v157 : Int) (v158 : Int) : (den TT (tabD spec_l06Back_tab) (tabM spec_l06Back_tab) (spec_l06Back_LO v157 v158) (codeOf Try.f125) ([.int .i64 v157, .int .i64 v158] ++ List.replicate (Try.f125.ntmps - ([.int .i64 v157, .int .i64 v158] : List DV).length) .undef) []).bind (retD TT Try.f125.results.toList 0) = (spec_l06Back_T v157 v158).bind fun y => .leaf (spec_l06Back_enc v157 v158 y) := by kernel_rfl
theorem spec_l06Back_fn (v157 : Int) (v158 : Int) (F : Fr) (h0 : St F [] F.H0) (hA : DVs.Ok F [] [.int .i64 v157, .int .i64 v158]) {y : Int} (hy : spec_l06Back_g v157 v158 = some y) : ∃ F' H', Fwd 0 F F' [] (spec_l06Back_enc v157 v158 y).2 ∧ FnOk Try.prog 125 (DVs.av F [.int .i64 v157, .int .i64 v158]) F.H0 ((spec_l06Back_enc v157 v158 y).1.av F') H' ∧ St F' (spec_l06Back_enc v157 v158 y).2 H' ∧ (spec_l06Back_enc v157 v158 y).1.Ok F' (spec_l06Back_enc v157 v158 y).2 :=
  fn_fin tok spec_l06Back_hO mixed Try.func125 Try.call125 (by kernel_rfl) (LoopsOk_eq (l := [(0, bodyOf Try.f125 0)]) (by kernel_rfl) ⟨spec_l06Back_l0_ok v157 v158, trivial⟩) (spec_l06Back_den v157 v158) hy h0 hA
noncomputable def spec_l06Back_F : DFn := fun args L =>
  match args with
  | [.int .i64 v157, .int .i64 v158] =>
    .call (spec_l06Back_g v157 v158) fun y => .leaf (.int .i64 y, L)
  | _ => .fail
theorem spec_l06Back_Fok : COk Try.prog 125 spec_l06Back_F true := by
  intro F L H args r L' hs ha hr
  unfold spec_l06Back_F at hr
  split at hr
  · rename_i v157 v158
    simp only [Tree.run] at hr
    obtain ⟨y, hy, hr⟩ := Option.bind_eq_some_iff.1 hr
    simp only [Tree.run, Option.some.injEq, Prod.mk.injEq] at hr
    obtain ⟨rfl, rfl⟩ := hr
    exact call_ok0 hs (fun k => (([] : List AV)[k]?).getD .top) [.int .i64 v157, .int .i64 v158] [.int .i64 v157, .int .i64 v158] (fun F' h0 hi hρ => ⟨by simp [DVs.av, DV.av, BR.av, hρ], spec_l06Back_fn v157 v158 F' (st_nil hi) ⟨trivial, trivial, trivial⟩ hy⟩) rfl
  · cases hr
/-! spec.l06Over -/
noncomputable def spec_l06Over_l2_T (v57 : Int) (v58 : List Int) (v60 : Int) (v126 : Int) (v128 : List (List Int)) (v129 : List Nat) (s : Int × (List Int)) : Tree ((Int × (List Int)) ⊕ ((List Int))) :=
  (.br (decide (s.1 < v57)) (
   (.call (spec_l06At_g v57 v58 v126 s.1) fun v131 =>
   (.call (spec_l06Mod_g v131 v60) fun v132 =>
   (.grd (fits (s.2 ++ ([v132] : List Int)).length) <|
   .leaf (.inl (IntKind.i64.wrap (s.1 + (1 : Int)), s.2 ++ ([v132] : List Int))))))
  ) (
   .leaf (.inr s.2)
  ))

noncomputable def spec_l06Over_l2_g (v57 : Int) (v58 : List Int) (v60 : Int) (v126 : Int) (v128 : List (List Int)) (v129 : List Nat) (s0 : Int × (List Int)) : Option ((List Int)) := whileM (fun s => (spec_l06Over_l2_T v57 v58 v60 v126 v128 v129 s).run) s0
def spec_l06Over_l2_E (v56 : Int) (v57 : Int) (v58 : List Int) (v59 : List Int) (v60 : Int) (v126 : Int) (v128 : List (List Int)) (v129 : List Nat) (s : Int × (List Int)) : Sd := ([.bptr (BR.root 0) [.int .i64 v56, .int .i64 v57, .bslc (BR.root 1) (.i64 v58)], .bslc (BR.root 2) (.i64 v59), .int .i64 v60, .top, .top, .top, .top, .top, .top, .nest 0 0 1 ((v129).length), .int .i64 v126, .own 1 0 ((s.2).length), .int .i64 s.1, .top, .top, .top, .top, .top, .top, .top, .top, .top, .top, .top, .top, .top, .top, .top, .top, .top, .top, .top, .top, .top, .top, .top, .top, .top, .top, .top, .top, .top, .top, .top, .top, .top, .top, .top, .top, .top, .top, .top, .top, .top, .top, .top, .top, .top, .top, .top, .top, .top, .top, .top, .top, .top, .top, .top, .top, .top, .top, .top, .top, .top, .top, .top, .top, .top, .top, .top, .top, .top, .top, .top, .top, .top, .top, .top, .top, .top, .top, .top, .top, .top, .top, .top, .top, .top, .top, .top, .top, .top, .top, .top, .top, .top, .top, .top, .top, .top, .top, .top, .top, .top, .top, .top, .top, .top, .top, .top, .top, .top, .top, .top, .top, .top, .top, .top, .top, .top, .top, .top, .top, .top, .top, .top, .top, .top, .top, .top, .top, .top, .top, .top, .top, .top, .top, .top, .top, .top, .top, .top, .top, .top, .top, .top, .top, .top, .top, .top, .top, .top, .top, .top, .top, .top, .top, .top, .top, .top, .top, .top, .top, .top, .top, .top, .top, .top, .top, .top, .top, .top, .top, .top, .top, .top, .top, .top, .top, .top, .top, .top, .top, .top, .top, .top, .top, .top, .top, .top, .top, .top, .top, .top, .top, .top, .top, .top, .top, .top, .top, .top, .top, .top, .top, .top, .top, .top, .top, .top, .top, .top, .top, .top, .top, .top], [.nest [.sl (.i64 v128) v129] false 0, .row (.i64 s.2) 0])
def spec_l06Over_l2_X (v56 : Int) (v57 : Int) (v58 : List Int) (v59 : List Int) (v60 : Int) (v126 : Int) (v128 : List (List Int)) (v129 : List Nat) (x : (List Int)) : Out := (.normal, [.bptr (BR.root 0) [.int .i64 v56, .int .i64 v57, .bslc (BR.root 1) (.i64 v58)], .bslc (BR.root 2) (.i64 v59), .int .i64 v60, .top, .top, .top, .top, .top, .top, .nest 0 0 1 ((v129).length), .int .i64 v126, .own 1 0 ((x).length), .top, .top, .top, .top, .top, .top, .top, .top, .top, .top, .top, .top, .top, .top, .top, .top, .top, .top, .top, .top, .top, .top, .top, .top, .top, .top, .top, .top, .top, .top, .top, .top, .top, .top, .top, .top, .top, .top, .top, .top, .top, .top, .top, .top, .top, .top, .top, .top, .top, .top, .top, .top, .top, .top, .top, .top, .top, .top, .top, .top, .top, .top, .top, .top, .top, .top, .top, .top, .top, .top, .top, .top, .top, .top, .top, .top, .top, .top, .top, .top, .top, .top, .top, .top, .top, .top, .top, .top, .top, .top, .top, .top, .top, .top, .top, .top, .top, .top, .top, .top, .top, .top, .top, .top, .top, .top, .top, .top, .top, .top, .top, .top, .top, .top, .top, .top, .top, .top, .top, .top, .top, .top, .top, .top, .top, .top, .top, .top, .top, .top, .top, .top, .top, .top, .top, .top, .top, .top, .top, .top, .top, .top, .top, .top, .top, .top, .top, .top, .top, .top, .top, .top, .top, .top, .top, .top, .top, .top, .top, .top, .top, .top, .top, .top, .top, .top, .top, .top, .top, .top, .top, .top, .top, .top, .top, .top, .top, .top, .top, .top, .top, .top, .top, .top, .top, .top, .top, .top, .top, .top, .top, .top, .top, .top, .top, .top, .top, .top, .top, .top, .top, .top, .top, .top, .top, .top, .top, .top, .top, .top, .top, .top, .top, .top], [.nest [.sl (.i64 v128) v129] false 0, .row (.i64 x) 0])
def spec_l06Over_l2_kill : List Nat := [0, 0, 0, 1, 1, 1, 1, 1, 1, 0, 0, 0, 0, 1, 1, 1, 1, 1, 1, 1, 1, 1, 1, 1, 1, 1, 1, 1, 1, 1, 1, 1, 1, 1, 1, 1, 1, 1, 1, 1, 1, 1, 1, 1, 1, 1, 1, 1, 1, 1, 1, 1, 1, 1, 1, 1, 1, 1, 1, 1, 1, 1, 1, 1, 1, 1, 1, 1, 1, 1, 1, 1, 1, 1, 1, 1, 1, 1, 1, 1, 1, 1, 1, 1, 1, 1, 1, 1, 1, 1, 1, 1, 1, 1, 1, 1, 1, 1, 1, 1, 1, 1, 1, 1, 1, 1, 1, 1, 1, 1, 1, 1, 1, 1, 1, 1, 1, 1, 1, 1, 1, 1, 1, 1, 1, 1, 1, 1, 1, 1, 1, 1, 1, 1, 1, 1, 1, 1, 1, 1, 1, 1, 1, 1, 1, 1, 1, 1, 1, 1, 1, 1, 1, 1, 1, 1, 1, 1, 1, 1, 1, 1, 1, 1, 1, 1, 1, 1, 1, 1, 1, 1, 1, 1, 1, 1, 1, 1, 1, 1, 1, 1, 1, 1, 1, 1, 1, 1, 1, 1, 1, 1, 1, 1, 1, 1, 1, 1, 1, 1, 1, 1, 1, 1, 1, 1, 1, 1, 1, 1, 1, 1, 1, 1, 1, 1, 1, 1, 1, 1, 1, 1, 1, 1, 1, 1]
def spec_l06Over_l2_nx : Exit → List Nat
  | .exit 0 => [0, 1, 0, 1, 1, 1, 1, 1, 1, 0, 1, 1, 1, 1, 1, 1, 1, 1, 1, 1, 1, 1, 1, 1, 1, 1, 1, 1, 1, 1, 1, 1, 1, 1, 1, 1, 1, 1, 1, 1, 1, 1, 1, 1, 1, 1, 1, 1, 1, 1, 1, 1, 1, 1, 1, 1, 1, 1, 1, 1, 1, 1, 1, 1, 1, 1, 1, 1, 1, 1, 1, 1, 1, 1, 1, 1, 1, 1, 1, 1, 1, 1, 1, 1, 1, 1, 1, 1, 1, 1, 1, 1, 1, 1, 1, 1, 1, 1, 1, 1, 1, 1, 1, 1, 1, 1, 1, 1, 1, 1, 1, 1, 1, 1, 1, 1, 1, 1, 1, 1, 1, 1, 1, 1, 1, 1, 1, 1, 1, 1, 1, 1, 1, 1, 1, 1, 1, 1, 1, 1, 1, 1, 1, 1, 1, 1, 1, 1, 1, 1, 1, 1, 1, 1, 1, 1, 1, 1, 1, 1, 1, 1, 1, 1, 1, 1, 1, 1, 1, 1, 1, 1, 1, 1, 1, 1, 1, 1, 1, 1, 1, 1, 1, 1, 1, 1, 1, 1, 1, 1, 1, 1, 1, 1, 1, 1, 1, 1, 1, 1, 1, 1, 1, 1, 1, 1, 1, 1, 1, 1, 1, 1, 1, 1, 1, 1, 1, 1, 1, 1, 1, 1, 1, 1, 1, 1]
  | .exit 1 => [0, 0, 0, 1, 1, 1, 1, 1, 1, 0, 0, 1, 1, 1, 1, 1, 1, 1, 1, 1, 1, 1, 1, 1, 1, 1, 1, 1, 1, 1, 1, 1, 1, 1, 1, 1, 1, 1, 1, 1, 1, 1, 1, 1, 1, 1, 1, 1, 1, 1, 1, 1, 1, 1, 1, 1, 1, 1, 1, 1, 1, 1, 1, 1, 1, 1, 1, 1, 1, 1, 1, 1, 1, 1, 1, 1, 1, 1, 1, 1, 1, 1, 1, 1, 1, 1, 1, 1, 1, 1, 1, 1, 1, 1, 1, 1, 1, 1, 1, 1, 1, 1, 1, 1, 1, 1, 1, 1, 1, 1, 1, 1, 1, 1, 1, 1, 1, 1, 1, 1, 1, 1, 1, 1, 1, 1, 1, 1, 1, 1, 1, 1, 1, 1, 1, 1, 1, 1, 1, 1, 1, 1, 1, 1, 1, 1, 1, 1, 1, 1, 1, 1, 1, 1, 1, 1, 1, 1, 1, 1, 1, 1, 1, 1, 1, 1, 1, 1, 1, 1, 1, 1, 1, 1, 1, 1, 1, 1, 1, 1, 1, 1, 1, 1, 1, 1, 1, 1, 1, 1, 1, 1, 1, 1, 1, 1, 1, 1, 1, 1, 1, 1, 1, 1, 1, 1, 1, 1, 1, 1, 1, 1, 1, 1, 1, 1, 1, 1, 1, 1, 1, 1, 1, 1, 1, 1]
  | .exit 2 => [0, 0, 0, 1, 1, 1, 1, 1, 1, 0, 0, 0, 1, 1, 1, 1, 1, 1, 1, 1, 1, 1, 1, 1, 1, 1, 1, 1, 1, 1, 1, 1, 1, 1, 1, 1, 1, 1, 1, 1, 1, 1, 1, 1, 1, 1, 1, 1, 1, 1, 1, 1, 1, 1, 1, 1, 1, 1, 1, 1, 1, 1, 1, 1, 1, 1, 1, 1, 1, 1, 1, 1, 1, 1, 1, 1, 1, 1, 1, 1, 1, 1, 1, 1, 1, 1, 1, 1, 1, 1, 1, 1, 1, 1, 1, 1, 1, 1, 1, 1, 1, 1, 1, 1, 1, 1, 1, 1, 1, 1, 1, 1, 1, 1, 1, 1, 1, 1, 1, 1, 1, 1, 1, 1, 1, 1, 1, 1, 1, 1, 1, 1, 1, 1, 1, 1, 1, 1, 1, 1, 1, 1, 1, 1, 1, 1, 1, 1, 1, 1, 1, 1, 1, 1, 1, 1, 1, 1, 1, 1, 1, 1, 1, 1, 1, 1, 1, 1, 1, 1, 1, 1, 1, 1, 1, 1, 1, 1, 1, 1, 1, 1, 1, 1, 1, 1, 1, 1, 1, 1, 1, 1, 1, 1, 1, 1, 1, 1, 1, 1, 1, 1, 1, 1, 1, 1, 1, 1, 1, 1, 1, 1, 1, 1, 1, 1, 1, 1, 1, 1, 1, 1, 1, 1, 1, 1]
  | .ret => [1, 1, 1, 1, 1, 1, 0, 0, 0, 1, 1, 1, 1, 1, 1, 1, 1, 1, 1, 1, 1, 1, 1, 1, 1, 1, 1, 1, 1, 1, 1, 1, 1, 1, 1, 1, 1, 1, 1, 1, 1, 1, 1, 1, 1, 1, 1, 1, 1, 1, 1, 1, 1, 1, 1, 1, 1, 1, 1, 1, 1, 1, 1, 1, 1, 1, 1, 1, 1, 1, 1, 1, 1, 1, 1, 1, 1, 1, 1, 1, 1, 1, 1, 1, 1, 1, 1, 1, 1, 1, 1, 1, 1, 1, 1, 1, 1, 1, 1, 1, 1, 1, 1, 1, 1, 1, 1, 1, 1, 1, 1, 1, 1, 1, 1, 1, 1, 1, 1, 1, 1, 1, 1, 1, 1, 1, 1, 1, 1, 1, 1, 1, 1, 1, 1, 1, 1, 1, 1, 1, 1, 1, 1, 1, 1, 1, 1, 1, 1, 1, 1, 1, 1, 1, 1, 1, 1, 1, 1, 1, 1, 1, 1, 1, 1, 1, 1, 1, 1, 1, 1, 1, 1, 1, 1, 1, 1, 1, 1, 1, 1, 1, 1, 1, 1, 1, 1, 1, 1, 1, 1, 1, 1, 1, 1, 1, 1, 1, 1, 1, 1, 1, 1, 1, 1, 1, 1, 1, 1, 1, 1, 1, 1, 1, 1, 1, 1, 1, 1, 1, 1, 1, 1, 1, 1, 1]
  | _ => []
noncomputable def spec_l06Over_l0_T (v56 : Int) (v57 : Int) (v58 : List Int) (v59 : List Int) (v60 : Int) (s : Int × (List (List Int)) × (List Nat)) : Tree ((Int × (List (List Int)) × (List Nat)) ⊕ ((List (List Int)) × (List Nat))) :=
  (.br (decide (s.1 < v56)) (
   (.need (some (spec_l06Over_l2_E v56 v57 v58 v59 v60 s.1 s.2.1 s.2.2 ((0 : Int), ([] : List Int))) = some (spec_l06Over_l2_E v56 v57 v58 v59 v60 s.1 s.2.1 s.2.2 ((0 : Int), ([] : List Int)))) <|
   (.call (spec_l06Over_l2_g v57 v58 v60 s.1 s.2.1 s.2.2 ((0 : Int), ([] : List Int))) fun v133 =>
   (.br (decide ((0 : Int) < ((v59.length : Nat) : Int))) (
    (.grd (inb s.1 v59.length) <|
    (.call (spec_l06Mod_g (nth v59 (Int.toNat s.1)) v60) fun v134 =>
    (.grd (fits (v133 ++ ([v134] : List Int)).length) <|
    (.grd (fits (((s.2.2).length) + (1 : Nat))) <|
    .leaf (.inl (IntKind.i64.wrap (s.1 + (1 : Int)), s.2.1 ++ ([v133 ++ ([v134] : List Int)] : List (List Int)), s.2.2 ++ [s.2.1.length + 1]))))))
   ) (
    (.grd (fits (((s.2.2).length) + (1 : Nat))) <|
    .leaf (.inl (IntKind.i64.wrap (s.1 + (1 : Int)), s.2.1 ++ ([v133] : List (List Int)), s.2.2 ++ [s.2.1.length + 1])))
   ))))
  ) (
   .leaf (.inr (s.2.1, s.2.2))
  ))

noncomputable def spec_l06Over_l0_g (v56 : Int) (v57 : Int) (v58 : List Int) (v59 : List Int) (v60 : Int) (s0 : Int × (List (List Int)) × (List Nat)) : Option ((List (List Int)) × (List Nat)) := whileM (fun s => (spec_l06Over_l0_T v56 v57 v58 v59 v60 s).run) s0
def spec_l06Over_l0_E (v56 : Int) (v57 : Int) (v58 : List Int) (v59 : List Int) (v60 : Int) (s : Int × (List (List Int)) × (List Nat)) : Sd := ([.bptr (BR.root 0) [.int .i64 v56, .int .i64 v57, .bslc (BR.root 1) (.i64 v58)], .bslc (BR.root 2) (.i64 v59), .int .i64 v60, .top, .top, .top, .top, .top, .top, .nest 0 0 1 ((s.2.2).length), .int .i64 s.1, .top, .top, .top, .top, .top, .top, .top, .top, .top, .top, .top, .top, .top, .top, .top, .top, .top, .top, .top, .top, .top, .top, .top, .top, .top, .top, .top, .top, .top, .top, .top, .top, .top, .top, .top, .top, .top, .top, .top, .top, .top, .top, .top, .top, .top, .top, .top, .top, .top, .top, .top, .top, .top, .top, .top, .top, .top, .top, .top, .top, .top, .top, .top, .top, .top, .top, .top, .top, .top, .top, .top, .top, .top, .top, .top, .top, .top, .top, .top, .top, .top, .top, .top, .top, .top, .top, .top, .top, .top, .top, .top, .top, .top, .top, .top, .top, .top, .top, .top, .top, .top, .top, .top, .top, .top, .top, .top, .top, .top, .top, .top, .top, .top, .top, .top, .top, .top, .top, .top, .top, .top, .top, .top, .top, .top, .top, .top, .top, .top, .top, .top, .top, .top, .top, .top, .top, .top, .top, .top, .top, .top, .top, .top, .top, .top, .top, .top, .top, .top, .top, .top, .top, .top, .top, .top, .top, .top, .top, .top, .top, .top, .top, .top, .top, .top, .top, .top, .top, .top, .top, .top, .top, .top, .top, .top, .top, .top, .top, .top, .top, .top, .top, .top, .top, .top, .top, .top, .top, .top, .top, .top, .top, .top, .top, .top, .top, .top, .top, .top, .top, .top, .top, .top, .top, .top, .top, .top, .top, .top, .top, .top, .top, .top, .top, .top], [.nest [.sl (.i64 s.2.1) s.2.2] false 0])
def spec_l06Over_l0_X (v56 : Int) (v57 : Int) (v58 : List Int) (v59 : List Int) (v60 : Int) (x : (List (List Int)) × (List Nat)) : Out := (.normal, [.bptr (BR.root 0) [.int .i64 v56, .int .i64 v57, .bslc (BR.root 1) (.i64 v58)], .top, .int .i64 v60, .top, .top, .top, .top, .top, .top, .nest 0 0 1 ((x.2).length), .top, .top, .top, .top, .top, .top, .top, .top, .top, .top, .top, .top, .top, .top, .top, .top, .top, .top, .top, .top, .top, .top, .top, .top, .top, .top, .top, .top, .top, .top, .top, .top, .top, .top, .top, .top, .top, .top, .top, .top, .top, .top, .top, .top, .top, .top, .top, .top, .top, .top, .top, .top, .top, .top, .top, .top, .top, .top, .top, .top, .top, .top, .top, .top, .top, .top, .top, .top, .top, .top, .top, .top, .top, .top, .top, .top, .top, .top, .top, .top, .top, .top, .top, .top, .top, .top, .top, .top, .top, .top, .top, .top, .top, .top, .top, .top, .top, .top, .top, .top, .top, .top, .top, .top, .top, .top, .top, .top, .top, .top, .top, .top, .top, .top, .top, .top, .top, .top, .top, .top, .top, .top, .top, .top, .top, .top, .top, .top, .top, .top, .top, .top, .top, .top, .top, .top, .top, .top, .top, .top, .top, .top, .top, .top, .top, .top, .top, .top, .top, .top, .top, .top, .top, .top, .top, .top, .top, .top, .top, .top, .top, .top, .top, .top, .top, .top, .top, .top, .top, .top, .top, .top, .top, .top, .top, .top, .top, .top, .top, .top, .top, .top, .top, .top, .top, .top, .top, .top, .top, .top, .top, .top, .top, .top, .top, .top, .top, .top, .top, .top, .top, .top, .top, .top, .top, .top, .top, .top, .top, .top, .top, .top, .top, .top, .top, .top], [.nest [.sl (.i64 x.1) x.2] false 0])
def spec_l06Over_l0_kill : List Nat := [0, 0, 0, 1, 1, 1, 1, 1, 1, 0, 0, 1, 1, 1, 1, 1, 1, 1, 1, 1, 1, 1, 1, 1, 1, 1, 1, 1, 1, 1, 1, 1, 1, 1, 1, 1, 1, 1, 1, 1, 1, 1, 1, 1, 1, 1, 1, 1, 1, 1, 1, 1, 1, 1, 1, 1, 1, 1, 1, 1, 1, 1, 1, 1, 1, 1, 1, 1, 1, 1, 1, 1, 1, 1, 1, 1, 1, 1, 1, 1, 1, 1, 1, 1, 1, 1, 1, 1, 1, 1, 1, 1, 1, 1, 1, 1, 1, 1, 1, 1, 1, 1, 1, 1, 1, 1, 1, 1, 1, 1, 1, 1, 1, 1, 1, 1, 1, 1, 1, 1, 1, 1, 1, 1, 1, 1, 1, 1, 1, 1, 1, 1, 1, 1, 1, 1, 1, 1, 1, 1, 1, 1, 1, 1, 1, 1, 1, 1, 1, 1, 1, 1, 1, 1, 1, 1, 1, 1, 1, 1, 1, 1, 1, 1, 1, 1, 1, 1, 1, 1, 1, 1, 1, 1, 1, 1, 1, 1, 1, 1, 1, 1, 1, 1, 1, 1, 1, 1, 1, 1, 1, 1, 1, 1, 1, 1, 1, 1, 1, 1, 1, 1, 1, 1, 1, 1, 1, 1, 1, 1, 1, 1, 1, 1, 1, 1, 1, 1, 1, 1, 1, 1, 1, 1, 1, 1]
def spec_l06Over_l0_nx : Exit → List Nat
  | .exit 0 => [0, 1, 0, 1, 1, 1, 1, 1, 1, 0, 1, 1, 1, 1, 1, 1, 1, 1, 1, 1, 1, 1, 1, 1, 1, 1, 1, 1, 1, 1, 1, 1, 1, 1, 1, 1, 1, 1, 1, 1, 1, 1, 1, 1, 1, 1, 1, 1, 1, 1, 1, 1, 1, 1, 1, 1, 1, 1, 1, 1, 1, 1, 1, 1, 1, 1, 1, 1, 1, 1, 1, 1, 1, 1, 1, 1, 1, 1, 1, 1, 1, 1, 1, 1, 1, 1, 1, 1, 1, 1, 1, 1, 1, 1, 1, 1, 1, 1, 1, 1, 1, 1, 1, 1, 1, 1, 1, 1, 1, 1, 1, 1, 1, 1, 1, 1, 1, 1, 1, 1, 1, 1, 1, 1, 1, 1, 1, 1, 1, 1, 1, 1, 1, 1, 1, 1, 1, 1, 1, 1, 1, 1, 1, 1, 1, 1, 1, 1, 1, 1, 1, 1, 1, 1, 1, 1, 1, 1, 1, 1, 1, 1, 1, 1, 1, 1, 1, 1, 1, 1, 1, 1, 1, 1, 1, 1, 1, 1, 1, 1, 1, 1, 1, 1, 1, 1, 1, 1, 1, 1, 1, 1, 1, 1, 1, 1, 1, 1, 1, 1, 1, 1, 1, 1, 1, 1, 1, 1, 1, 1, 1, 1, 1, 1, 1, 1, 1, 1, 1, 1, 1, 1, 1, 1, 1, 1]
  | .ret => [1, 1, 1, 1, 1, 1, 0, 0, 0, 1, 1, 1, 1, 1, 1, 1, 1, 1, 1, 1, 1, 1, 1, 1, 1, 1, 1, 1, 1, 1, 1, 1, 1, 1, 1, 1, 1, 1, 1, 1, 1, 1, 1, 1, 1, 1, 1, 1, 1, 1, 1, 1, 1, 1, 1, 1, 1, 1, 1, 1, 1, 1, 1, 1, 1, 1, 1, 1, 1, 1, 1, 1, 1, 1, 1, 1, 1, 1, 1, 1, 1, 1, 1, 1, 1, 1, 1, 1, 1, 1, 1, 1, 1, 1, 1, 1, 1, 1, 1, 1, 1, 1, 1, 1, 1, 1, 1, 1, 1, 1, 1, 1, 1, 1, 1, 1, 1, 1, 1, 1, 1, 1, 1, 1, 1, 1, 1, 1, 1, 1, 1, 1, 1, 1, 1, 1, 1, 1, 1, 1, 1, 1, 1, 1, 1, 1, 1, 1, 1, 1, 1, 1, 1, 1, 1, 1, 1, 1, 1, 1, 1, 1, 1, 1, 1, 1, 1, 1, 1, 1, 1, 1, 1, 1, 1, 1, 1, 1, 1, 1, 1, 1, 1, 1, 1, 1, 1, 1, 1, 1, 1, 1, 1, 1, 1, 1, 1, 1, 1, 1, 1, 1, 1, 1, 1, 1, 1, 1, 1, 1, 1, 1, 1, 1, 1, 1, 1, 1, 1, 1, 1, 1, 1, 1, 1, 1]
  | _ => []
noncomputable def spec_l06Over_l6_T (v717 : Int) (v718 : Int) (v719 : Int) (v721 : List (List Int)) (v722 : List Nat) (v723 : List Int) (s : Int) : Tree ((Int) ⊕ (Int)) :=
  (.br (decide (s < (((v722).length : Nat) : Int))) (
   (.grd (inb s ((v722).length)) <|
   (.grd (inb v718 ((nget v721 (nth v722 (Int.toNat s))).length)) <|
   (.br (decide (nth (nget v721 (nth v722 (Int.toNat s))) (Int.toNat v718) = (0 : Int))) (
    .leaf (.inl (IntKind.i64.wrap (s + (1 : Int))))
   ) (
    .leaf (.inr s)
   ))))
  ) (
   .leaf (.inr s)
  ))

noncomputable def spec_l06Over_l6_g (v717 : Int) (v718 : Int) (v719 : Int) (v721 : List (List Int)) (v722 : List Nat) (v723 : List Int) (s0 : Int) : Option (Int) := whileM (fun s => (spec_l06Over_l6_T v717 v718 v719 v721 v722 v723 s).run) s0
def spec_l06Over_l6_E (v56 : Int) (v57 : Int) (v58 : List Int) (v59 : List Int) (v60 : Int) (v717 : Int) (v718 : Int) (v719 : Int) (v721 : List (List Int)) (v722 : List Nat) (v723 : List Int) (s : Int) : Sd := ([.bptr (BR.root 0) [.int .i64 v56, .int .i64 v57, .bslc (BR.root 1) (.i64 v58)], .top, .int .i64 v60, .top, .top, .top, .top, .top, .top, .nest 0 0 1 ((v722).length), .top, .top, .top, .own 1 0 ((v723).length), .int .i64 v717, .int .i64 v718, .int .i64 v719, .int .i64 s, .top, .top, .top, .top, .top, .top, .top, .top, .top, .top, .top, .top, .top, .top, .top, .top, .top, .top, .top, .top, .top, .top, .top, .top, .top, .top, .top, .top, .top, .top, .top, .top, .top, .top, .top, .top, .top, .top, .top, .top, .top, .top, .top, .top, .top, .top, .top, .top, .top, .top, .top, .top, .top, .top, .top, .top, .top, .top, .top, .top, .top, .top, .top, .top, .top, .top, .top, .top, .top, .top, .top, .top, .top, .top, .top, .top, .top, .top, .top, .top, .top, .top, .top, .top, .top, .top, .top, .top, .top, .top, .top, .top, .top, .top, .top, .top, .top, .top, .top, .top, .top, .top, .top, .top, .top, .top, .top, .top, .top, .top, .top, .top, .top, .top, .top, .top, .top, .top, .top, .top, .top, .top, .top, .top, .top, .top, .top, .top, .top, .top, .top, .top, .top, .top, .top, .top, .top, .top, .top, .top, .top, .top, .top, .top, .top, .top, .top, .top, .top, .top, .top, .top, .top, .top, .top, .top, .top, .top, .top, .top, .top, .top, .top, .top, .top, .top, .top, .top, .top, .top, .top, .top, .top, .top, .top, .top, .top, .top, .top, .top, .top, .top, .top, .top, .top, .top, .top, .top, .top, .top, .top, .top, .top, .top, .top, .top, .top, .top, .top, .top, .top, .top, .top, .top, .top, .top, .top, .top], [.nest [.sl (.i64 v721) v722] false 0, .row (.i64 v723) 0])
def spec_l06Over_l6_X (v56 : Int) (v57 : Int) (v58 : List Int) (v59 : List Int) (v60 : Int) (v717 : Int) (v718 : Int) (v719 : Int) (v721 : List (List Int)) (v722 : List Nat) (v723 : List Int) (x : Int) : Out := (.normal, [.bptr (BR.root 0) [.int .i64 v56, .int .i64 v57, .bslc (BR.root 1) (.i64 v58)], .top, .int .i64 v60, .top, .top, .top, .top, .top, .top, .nest 0 0 1 ((v722).length), .top, .top, .top, .own 1 0 ((v723).length), .int .i64 v717, .int .i64 v718, .int .i64 v719, .int .i64 x, .top, .top, .top, .top, .top, .top, .top, .top, .top, .top, .top, .top, .top, .top, .top, .top, .top, .top, .top, .top, .top, .top, .top, .top, .top, .top, .top, .top, .top, .top, .top, .top, .top, .top, .top, .top, .top, .top, .top, .top, .top, .top, .top, .top, .top, .top, .top, .top, .top, .top, .top, .top, .top, .top, .top, .top, .top, .top, .top, .top, .top, .top, .top, .top, .top, .top, .top, .top, .top, .top, .top, .top, .top, .top, .top, .top, .top, .top, .top, .top, .top, .top, .top, .top, .top, .top, .top, .top, .top, .top, .top, .top, .top, .top, .top, .top, .top, .top, .top, .top, .top, .top, .top, .top, .top, .top, .top, .top, .top, .top, .top, .top, .top, .top, .top, .top, .top, .top, .top, .top, .top, .top, .top, .top, .top, .top, .top, .top, .top, .top, .top, .top, .top, .top, .top, .top, .top, .top, .top, .top, .top, .top, .top, .top, .top, .top, .top, .top, .top, .top, .top, .top, .top, .top, .top, .top, .top, .top, .top, .top, .top, .top, .top, .top, .top, .top, .top, .top, .top, .top, .top, .top, .top, .top, .top, .top, .top, .top, .top, .top, .top, .top, .top, .top, .top, .top, .top, .top, .top, .top, .top, .top, .top, .top, .top, .top, .top, .top, .top, .top, .top, .top, .top, .top, .top, .top, .top, .top], [.nest [.sl (.i64 v721) v722] false 0, .row (.i64 v723) 0])
def spec_l06Over_l6_kill : List Nat := [0, 1, 0, 1, 1, 1, 1, 1, 1, 0, 1, 1, 1, 0, 0, 0, 0, 0, 1, 1, 1, 1, 1, 1, 1, 1, 1, 1, 1, 1, 1, 1, 1, 1, 1, 1, 1, 1, 1, 1, 1, 1, 1, 1, 1, 1, 1, 1, 1, 1, 1, 1, 1, 1, 1, 1, 1, 1, 1, 1, 1, 1, 1, 1, 1, 1, 1, 1, 1, 1, 1, 1, 1, 1, 1, 1, 1, 1, 1, 1, 1, 1, 1, 1, 1, 1, 1, 1, 1, 1, 1, 1, 1, 1, 1, 1, 1, 1, 1, 1, 1, 1, 1, 1, 1, 1, 1, 1, 1, 1, 1, 1, 1, 1, 1, 1, 1, 1, 1, 1, 1, 1, 1, 1, 1, 1, 1, 1, 1, 1, 1, 1, 1, 1, 1, 1, 1, 1, 1, 1, 1, 1, 1, 1, 1, 1, 1, 1, 1, 1, 1, 1, 1, 1, 1, 1, 1, 1, 1, 1, 1, 1, 1, 1, 1, 1, 1, 1, 1, 1, 1, 1, 1, 1, 1, 1, 1, 1, 1, 1, 1, 1, 1, 1, 1, 1, 1, 1, 1, 1, 1, 1, 1, 1, 1, 1, 1, 1, 1, 1, 1, 1, 1, 1, 1, 1, 1, 1, 1, 1, 1, 1, 1, 1, 1, 1, 1, 1, 1, 1, 1, 1, 1, 1, 1, 1]
def spec_l06Over_l6_nx : Exit → List Nat
  | .exit 4 => [1, 1, 1, 1, 1, 1, 1, 1, 1, 0, 1, 1, 1, 0, 0, 1, 1, 1, 1, 1, 1, 1, 1, 1, 1, 1, 1, 1, 1, 1, 1, 1, 1, 1, 1, 1, 1, 1, 1, 1, 1, 1, 1, 1, 1, 1, 1, 1, 1, 1, 1, 1, 1, 1, 1, 1, 1, 1, 1, 1, 1, 1, 1, 1, 1, 1, 1, 1, 1, 1, 1, 1, 1, 1, 1, 1, 1, 1, 1, 1, 1, 1, 1, 1, 1, 1, 1, 1, 1, 1, 1, 1, 1, 1, 1, 1, 1, 1, 1, 1, 1, 1, 1, 1, 1, 1, 1, 1, 1, 1, 1, 1, 1, 1, 1, 1, 1, 1, 1, 1, 1, 1, 1, 1, 1, 1, 1, 1, 1, 1, 1, 1, 1, 1, 1, 1, 1, 1, 1, 1, 1, 1, 1, 1, 1, 1, 1, 1, 1, 1, 1, 1, 1, 1, 1, 1, 1, 1, 1, 1, 1, 1, 1, 1, 1, 1, 1, 1, 1, 1, 1, 1, 1, 1, 1, 1, 1, 1, 1, 1, 1, 1, 1, 1, 1, 1, 1, 1, 1, 1, 1, 1, 1, 1, 1, 1, 1, 1, 1, 1, 1, 1, 1, 1, 1, 1, 1, 1, 1, 1, 1, 1, 1, 1, 1, 1, 1, 1, 1, 1, 1, 1, 1, 1, 1, 1]
  | .exit 5 => [0, 1, 0, 1, 1, 1, 1, 1, 1, 0, 1, 1, 1, 0, 0, 0, 1, 1, 1, 1, 1, 1, 1, 1, 1, 1, 1, 1, 1, 1, 1, 1, 1, 1, 1, 1, 1, 1, 1, 1, 1, 1, 1, 1, 1, 1, 1, 1, 1, 1, 1, 1, 1, 1, 1, 1, 1, 1, 1, 1, 1, 1, 1, 1, 1, 1, 1, 1, 1, 1, 1, 1, 1, 1, 1, 1, 1, 1, 1, 1, 1, 1, 1, 1, 1, 1, 1, 1, 1, 1, 1, 1, 1, 1, 1, 1, 1, 1, 1, 1, 1, 1, 1, 1, 1, 1, 1, 1, 1, 1, 1, 1, 1, 1, 1, 1, 1, 1, 1, 1, 1, 1, 1, 1, 1, 1, 1, 1, 1, 1, 1, 1, 1, 1, 1, 1, 1, 1, 1, 1, 1, 1, 1, 1, 1, 1, 1, 1, 1, 1, 1, 1, 1, 1, 1, 1, 1, 1, 1, 1, 1, 1, 1, 1, 1, 1, 1, 1, 1, 1, 1, 1, 1, 1, 1, 1, 1, 1, 1, 1, 1, 1, 1, 1, 1, 1, 1, 1, 1, 1, 1, 1, 1, 1, 1, 1, 1, 1, 1, 1, 1, 1, 1, 1, 1, 1, 1, 1, 1, 1, 1, 1, 1, 1, 1, 1, 1, 1, 1, 1, 1, 1, 1, 1, 1, 1]
  | .exit 6 => [0, 1, 0, 1, 1, 1, 1, 1, 1, 0, 1, 1, 1, 0, 0, 0, 0, 0, 1, 1, 1, 1, 1, 1, 1, 1, 1, 1, 1, 1, 1, 1, 1, 1, 1, 1, 1, 1, 1, 1, 1, 1, 1, 1, 1, 1, 1, 1, 1, 1, 1, 1, 1, 1, 1, 1, 1, 1, 1, 1, 1, 1, 1, 1, 1, 1, 1, 1, 1, 1, 1, 1, 1, 1, 1, 1, 1, 1, 1, 1, 1, 1, 1, 1, 1, 1, 1, 1, 1, 1, 1, 1, 1, 1, 1, 1, 1, 1, 1, 1, 1, 1, 1, 1, 1, 1, 1, 1, 1, 1, 1, 1, 1, 1, 1, 1, 1, 1, 1, 1, 1, 1, 1, 1, 1, 1, 1, 1, 1, 1, 1, 1, 1, 1, 1, 1, 1, 1, 1, 1, 1, 1, 1, 1, 1, 1, 1, 1, 1, 1, 1, 1, 1, 1, 1, 1, 1, 1, 1, 1, 1, 1, 1, 1, 1, 1, 1, 1, 1, 1, 1, 1, 1, 1, 1, 1, 1, 1, 1, 1, 1, 1, 1, 1, 1, 1, 1, 1, 1, 1, 1, 1, 1, 1, 1, 1, 1, 1, 1, 1, 1, 1, 1, 1, 1, 1, 1, 1, 1, 1, 1, 1, 1, 1, 1, 1, 1, 1, 1, 1, 1, 1, 1, 1, 1, 1]
  | .ret => [1, 1, 1, 1, 1, 1, 0, 0, 0, 1, 1, 1, 1, 1, 1, 1, 1, 1, 1, 1, 1, 1, 1, 1, 1, 1, 1, 1, 1, 1, 1, 1, 1, 1, 1, 1, 1, 1, 1, 1, 1, 1, 1, 1, 1, 1, 1, 1, 1, 1, 1, 1, 1, 1, 1, 1, 1, 1, 1, 1, 1, 1, 1, 1, 1, 1, 1, 1, 1, 1, 1, 1, 1, 1, 1, 1, 1, 1, 1, 1, 1, 1, 1, 1, 1, 1, 1, 1, 1, 1, 1, 1, 1, 1, 1, 1, 1, 1, 1, 1, 1, 1, 1, 1, 1, 1, 1, 1, 1, 1, 1, 1, 1, 1, 1, 1, 1, 1, 1, 1, 1, 1, 1, 1, 1, 1, 1, 1, 1, 1, 1, 1, 1, 1, 1, 1, 1, 1, 1, 1, 1, 1, 1, 1, 1, 1, 1, 1, 1, 1, 1, 1, 1, 1, 1, 1, 1, 1, 1, 1, 1, 1, 1, 1, 1, 1, 1, 1, 1, 1, 1, 1, 1, 1, 1, 1, 1, 1, 1, 1, 1, 1, 1, 1, 1, 1, 1, 1, 1, 1, 1, 1, 1, 1, 1, 1, 1, 1, 1, 1, 1, 1, 1, 1, 1, 1, 1, 1, 1, 1, 1, 1, 1, 1, 1, 1, 1, 1, 1, 1, 1, 1, 1, 1, 1, 1]
  | _ => []
noncomputable def spec_l06Over_l8_T (v60 : Int) (v743 : Int) (v744 : Int) (v745 : Int) (v746 : Int) (v749 : List Nat) (v750 : List Int) (s : Int × (List (List Int))) : Tree ((Int × (List (List Int))) ⊕ ((List (List Int)))) :=
  (.grd (inb v745 ((v749).length)) <|
  (.br (decide (s.1 < (((nget s.2 (nth v749 (Int.toNat v745))).length : Nat) : Int))) (
   (.grd (inb v745 ((v749).length)) <|
   (.grd (inb v745 ((v749).length)) <|
   (.grd (inb s.1 ((nget s.2 (nth v749 (Int.toNat v745))).length)) <|
   (.grd (!decide (v60 = 0)) <|
   (.grd (inb s.1 ((nget s.2 (nth v749 (Int.toNat v745))).length)) <|
   .leaf (.inl (IntKind.i64.wrap (s.1 + (1 : Int)), List.set s.2 ((nth v749 (Int.toNat v745)) - 1) (List.set (nget s.2 (nth v749 (Int.toNat v745))) (Int.toNat s.1) (Int.tmod (IntKind.i64.wrap ((nth (nget s.2 (nth v749 (Int.toNat v745))) (Int.toNat s.1)) * v746)) v60)))))))))
  ) (
   .leaf (.inr s.2)
  )))

noncomputable def spec_l06Over_l8_g (v60 : Int) (v743 : Int) (v744 : Int) (v745 : Int) (v746 : Int) (v749 : List Nat) (v750 : List Int) (s0 : Int × (List (List Int))) : Option ((List (List Int))) := whileM (fun s => (spec_l06Over_l8_T v60 v743 v744 v745 v746 v749 v750 s).run) s0
def spec_l06Over_l8_E (v56 : Int) (v57 : Int) (v58 : List Int) (v59 : List Int) (v60 : Int) (v743 : Int) (v744 : Int) (v745 : Int) (v746 : Int) (v749 : List Nat) (v750 : List Int) (s : Int × (List (List Int))) : Sd := ([.bptr (BR.root 0) [.int .i64 v56, .int .i64 v57, .bslc (BR.root 1) (.i64 v58)], .top, .int .i64 v60, .top, .top, .top, .top, .top, .top, .nest 0 0 1 ((v749).length), .top, .top, .top, .own 1 0 ((v750).length), .int .i64 v743, .int .i64 v744, .int .i64 v745, .top, .top, .int .i64 v746, .int .i64 s.1, .top, .top, .top, .top, .top, .top, .top, .top, .top, .top, .top, .top, .top, .top, .top, .top, .top, .top, .top, .top, .top, .top, .top, .top, .top, .top, .top, .top, .top, .top, .top, .top, .top, .top, .top, .top, .top, .top, .top, .top, .top, .top, .top, .top, .top, .top, .top, .top, .top, .top, .top, .top, .top, .top, .top, .top, .top, .top, .top, .top, .top, .top, .top, .top, .top, .top, .top, .top, .top, .top, .top, .top, .top, .top, .top, .top, .top, .top, .top, .top, .top, .top, .top, .top, .top, .top, .top, .top, .top, .top, .top, .top, .top, .top, .top, .top, .top, .top, .top, .top, .top, .top, .top, .top, .top, .top, .top, .top, .top, .top, .top, .top, .top, .top, .top, .top, .top, .top, .top, .top, .top, .top, .top, .top, .top, .top, .top, .top, .top, .top, .top, .top, .top, .top, .top, .top, .top, .top, .top, .top, .top, .top, .top, .top, .top, .top, .top, .top, .top, .top, .top, .top, .top, .top, .top, .top, .top, .top, .top, .top, .top, .top, .top, .top, .top, .top, .top, .top, .top, .top, .top, .top, .top, .top, .top, .top, .top, .top, .top, .top, .top, .top, .top, .top, .top, .top, .top, .top, .top, .top, .top, .top, .top, .top, .top, .top, .top, .top, .top, .top, .top, .top, .top, .top, .top], [.nest [.sl (.i64 s.2) v749] false 0, .row (.i64 v750) 0])
def spec_l06Over_l8_X (v56 : Int) (v57 : Int) (v58 : List Int) (v59 : List Int) (v60 : Int) (v743 : Int) (v744 : Int) (v745 : Int) (v746 : Int) (v749 : List Nat) (v750 : List Int) (x : (List (List Int))) : Out := (.normal, [.bptr (BR.root 0) [.int .i64 v56, .int .i64 v57, .bslc (BR.root 1) (.i64 v58)], .top, .int .i64 v60, .top, .top, .top, .top, .top, .top, .nest 0 0 1 ((v749).length), .top, .top, .top, .own 1 0 ((v750).length), .int .i64 v743, .int .i64 v744, .int .i64 v745, .top, .top, .top, .top, .top, .top, .top, .top, .top, .top, .top, .top, .top, .top, .top, .top, .top, .top, .top, .top, .top, .top, .top, .top, .top, .top, .top, .top, .top, .top, .top, .top, .top, .top, .top, .top, .top, .top, .top, .top, .top, .top, .top, .top, .top, .top, .top, .top, .top, .top, .top, .top, .top, .top, .top, .top, .top, .top, .top, .top, .top, .top, .top, .top, .top, .top, .top, .top, .top, .top, .top, .top, .top, .top, .top, .top, .top, .top, .top, .top, .top, .top, .top, .top, .top, .top, .top, .top, .top, .top, .top, .top, .top, .top, .top, .top, .top, .top, .top, .top, .top, .top, .top, .top, .top, .top, .top, .top, .top, .top, .top, .top, .top, .top, .top, .top, .top, .top, .top, .top, .top, .top, .top, .top, .top, .top, .top, .top, .top, .top, .top, .top, .top, .top, .top, .top, .top, .top, .top, .top, .top, .top, .top, .top, .top, .top, .top, .top, .top, .top, .top, .top, .top, .top, .top, .top, .top, .top, .top, .top, .top, .top, .top, .top, .top, .top, .top, .top, .top, .top, .top, .top, .top, .top, .top, .top, .top, .top, .top, .top, .top, .top, .top, .top, .top, .top, .top, .top, .top, .top, .top, .top, .top, .top, .top, .top, .top, .top, .top, .top, .top, .top, .top, .top, .top, .top, .top, .top, .top], [.nest [.sl (.i64 x) v749] false 0, .row (.i64 v750) 0])
def spec_l06Over_l8_kill : List Nat := [0, 1, 0, 1, 1, 1, 1, 1, 1, 0, 1, 1, 1, 0, 0, 0, 0, 1, 1, 0, 0, 1, 1, 1, 1, 1, 1, 1, 1, 1, 1, 1, 1, 1, 1, 1, 1, 1, 1, 1, 1, 1, 1, 1, 1, 1, 1, 1, 1, 1, 1, 1, 1, 1, 1, 1, 1, 1, 1, 1, 1, 1, 1, 1, 1, 1, 1, 1, 1, 1, 1, 1, 1, 1, 1, 1, 1, 1, 1, 1, 1, 1, 1, 1, 1, 1, 1, 1, 1, 1, 1, 1, 1, 1, 1, 1, 1, 1, 1, 1, 1, 1, 1, 1, 1, 1, 1, 1, 1, 1, 1, 1, 1, 1, 1, 1, 1, 1, 1, 1, 1, 1, 1, 1, 1, 1, 1, 1, 1, 1, 1, 1, 1, 1, 1, 1, 1, 1, 1, 1, 1, 1, 1, 1, 1, 1, 1, 1, 1, 1, 1, 1, 1, 1, 1, 1, 1, 1, 1, 1, 1, 1, 1, 1, 1, 1, 1, 1, 1, 1, 1, 1, 1, 1, 1, 1, 1, 1, 1, 1, 1, 1, 1, 1, 1, 1, 1, 1, 1, 1, 1, 1, 1, 1, 1, 1, 1, 1, 1, 1, 1, 1, 1, 1, 1, 1, 1, 1, 1, 1, 1, 1, 1, 1, 1, 1, 1, 1, 1, 1, 1, 1, 1, 1, 1, 1]
def spec_l06Over_l8_nx : Exit → List Nat
  | .exit 4 => [1, 1, 1, 1, 1, 1, 1, 1, 1, 0, 1, 1, 1, 0, 0, 1, 1, 1, 1, 1, 1, 1, 1, 1, 1, 1, 1, 1, 1, 1, 1, 1, 1, 1, 1, 1, 1, 1, 1, 1, 1, 1, 1, 1, 1, 1, 1, 1, 1, 1, 1, 1, 1, 1, 1, 1, 1, 1, 1, 1, 1, 1, 1, 1, 1, 1, 1, 1, 1, 1, 1, 1, 1, 1, 1, 1, 1, 1, 1, 1, 1, 1, 1, 1, 1, 1, 1, 1, 1, 1, 1, 1, 1, 1, 1, 1, 1, 1, 1, 1, 1, 1, 1, 1, 1, 1, 1, 1, 1, 1, 1, 1, 1, 1, 1, 1, 1, 1, 1, 1, 1, 1, 1, 1, 1, 1, 1, 1, 1, 1, 1, 1, 1, 1, 1, 1, 1, 1, 1, 1, 1, 1, 1, 1, 1, 1, 1, 1, 1, 1, 1, 1, 1, 1, 1, 1, 1, 1, 1, 1, 1, 1, 1, 1, 1, 1, 1, 1, 1, 1, 1, 1, 1, 1, 1, 1, 1, 1, 1, 1, 1, 1, 1, 1, 1, 1, 1, 1, 1, 1, 1, 1, 1, 1, 1, 1, 1, 1, 1, 1, 1, 1, 1, 1, 1, 1, 1, 1, 1, 1, 1, 1, 1, 1, 1, 1, 1, 1, 1, 1, 1, 1, 1, 1, 1, 1]
  | .exit 5 => [0, 1, 0, 1, 1, 1, 1, 1, 1, 0, 1, 1, 1, 0, 0, 0, 1, 1, 1, 1, 1, 1, 1, 1, 1, 1, 1, 1, 1, 1, 1, 1, 1, 1, 1, 1, 1, 1, 1, 1, 1, 1, 1, 1, 1, 1, 1, 1, 1, 1, 1, 1, 1, 1, 1, 1, 1, 1, 1, 1, 1, 1, 1, 1, 1, 1, 1, 1, 1, 1, 1, 1, 1, 1, 1, 1, 1, 1, 1, 1, 1, 1, 1, 1, 1, 1, 1, 1, 1, 1, 1, 1, 1, 1, 1, 1, 1, 1, 1, 1, 1, 1, 1, 1, 1, 1, 1, 1, 1, 1, 1, 1, 1, 1, 1, 1, 1, 1, 1, 1, 1, 1, 1, 1, 1, 1, 1, 1, 1, 1, 1, 1, 1, 1, 1, 1, 1, 1, 1, 1, 1, 1, 1, 1, 1, 1, 1, 1, 1, 1, 1, 1, 1, 1, 1, 1, 1, 1, 1, 1, 1, 1, 1, 1, 1, 1, 1, 1, 1, 1, 1, 1, 1, 1, 1, 1, 1, 1, 1, 1, 1, 1, 1, 1, 1, 1, 1, 1, 1, 1, 1, 1, 1, 1, 1, 1, 1, 1, 1, 1, 1, 1, 1, 1, 1, 1, 1, 1, 1, 1, 1, 1, 1, 1, 1, 1, 1, 1, 1, 1, 1, 1, 1, 1, 1, 1]
  | .exit 8 => [0, 1, 0, 1, 1, 1, 1, 1, 1, 0, 1, 1, 1, 0, 0, 0, 0, 1, 1, 1, 1, 1, 1, 1, 1, 1, 1, 1, 1, 1, 1, 1, 1, 1, 1, 1, 1, 1, 1, 1, 1, 1, 1, 1, 1, 1, 1, 1, 1, 1, 1, 1, 1, 1, 1, 1, 1, 1, 1, 1, 1, 1, 1, 1, 1, 1, 1, 1, 1, 1, 1, 1, 1, 1, 1, 1, 1, 1, 1, 1, 1, 1, 1, 1, 1, 1, 1, 1, 1, 1, 1, 1, 1, 1, 1, 1, 1, 1, 1, 1, 1, 1, 1, 1, 1, 1, 1, 1, 1, 1, 1, 1, 1, 1, 1, 1, 1, 1, 1, 1, 1, 1, 1, 1, 1, 1, 1, 1, 1, 1, 1, 1, 1, 1, 1, 1, 1, 1, 1, 1, 1, 1, 1, 1, 1, 1, 1, 1, 1, 1, 1, 1, 1, 1, 1, 1, 1, 1, 1, 1, 1, 1, 1, 1, 1, 1, 1, 1, 1, 1, 1, 1, 1, 1, 1, 1, 1, 1, 1, 1, 1, 1, 1, 1, 1, 1, 1, 1, 1, 1, 1, 1, 1, 1, 1, 1, 1, 1, 1, 1, 1, 1, 1, 1, 1, 1, 1, 1, 1, 1, 1, 1, 1, 1, 1, 1, 1, 1, 1, 1, 1, 1, 1, 1, 1, 1]
  | .ret => [1, 1, 1, 1, 1, 1, 0, 0, 0, 1, 1, 1, 1, 1, 1, 1, 1, 1, 1, 1, 1, 1, 1, 1, 1, 1, 1, 1, 1, 1, 1, 1, 1, 1, 1, 1, 1, 1, 1, 1, 1, 1, 1, 1, 1, 1, 1, 1, 1, 1, 1, 1, 1, 1, 1, 1, 1, 1, 1, 1, 1, 1, 1, 1, 1, 1, 1, 1, 1, 1, 1, 1, 1, 1, 1, 1, 1, 1, 1, 1, 1, 1, 1, 1, 1, 1, 1, 1, 1, 1, 1, 1, 1, 1, 1, 1, 1, 1, 1, 1, 1, 1, 1, 1, 1, 1, 1, 1, 1, 1, 1, 1, 1, 1, 1, 1, 1, 1, 1, 1, 1, 1, 1, 1, 1, 1, 1, 1, 1, 1, 1, 1, 1, 1, 1, 1, 1, 1, 1, 1, 1, 1, 1, 1, 1, 1, 1, 1, 1, 1, 1, 1, 1, 1, 1, 1, 1, 1, 1, 1, 1, 1, 1, 1, 1, 1, 1, 1, 1, 1, 1, 1, 1, 1, 1, 1, 1, 1, 1, 1, 1, 1, 1, 1, 1, 1, 1, 1, 1, 1, 1, 1, 1, 1, 1, 1, 1, 1, 1, 1, 1, 1, 1, 1, 1, 1, 1, 1, 1, 1, 1, 1, 1, 1, 1, 1, 1, 1, 1, 1, 1, 1, 1, 1, 1, 1]
  | _ => []
noncomputable def spec_l06Over_l12_T (v60 : Int) (v855 : Int) (v856 : Int) (v857 : Int) (v858 : Int) (v859 : Int) (v862 : List Nat) (v863 : List Int) (s : Int × (List (List Int))) : Tree ((Int × (List (List Int))) ⊕ ((List (List Int)))) :=
  (.grd (inb v858 ((v862).length)) <|
  (.br (decide (s.1 < (((nget s.2 (nth v862 (Int.toNat v858))).length : Nat) : Int))) (
   (.br (!decide (v858 = v857)) (
    (.grd (inb v858 ((v862).length)) <|
    (.grd (inb v858 ((v862).length)) <|
    (.grd (inb s.1 ((nget s.2 (nth v862 (Int.toNat v858))).length)) <|
    (.grd (inb v857 ((v862).length)) <|
    (.grd (inb s.1 ((nget s.2 (nth v862 (Int.toNat v857))).length)) <|
    (.call (spec_l06Mod_g (IntKind.i64.wrap ((nth (nget s.2 (nth v862 (Int.toNat v858))) (Int.toNat s.1)) - (IntKind.i64.wrap (v859 * (nth (nget s.2 (nth v862 (Int.toNat v857))) (Int.toNat s.1)))))) v60) fun v864 =>
    (.grd (inb s.1 ((nget s.2 (nth v862 (Int.toNat v858))).length)) <|
    .leaf (.inl (IntKind.i64.wrap (s.1 + (1 : Int)), List.set s.2 ((nth v862 (Int.toNat v858)) - 1) (List.set (nget s.2 (nth v862 (Int.toNat v858))) (Int.toNat s.1) v864))))))))))
   ) (
    .leaf (.inr s.2)
   ))
  ) (
   .leaf (.inr s.2)
  )))

noncomputable def spec_l06Over_l12_g (v60 : Int) (v855 : Int) (v856 : Int) (v857 : Int) (v858 : Int) (v859 : Int) (v862 : List Nat) (v863 : List Int) (s0 : Int × (List (List Int))) : Option ((List (List Int))) := whileM (fun s => (spec_l06Over_l12_T v60 v855 v856 v857 v858 v859 v862 v863 s).run) s0
def spec_l06Over_l12_E (v56 : Int) (v57 : Int) (v58 : List Int) (v59 : List Int) (v60 : Int) (v855 : Int) (v856 : Int) (v857 : Int) (v858 : Int) (v859 : Int) (v862 : List Nat) (v863 : List Int) (s : Int × (List (List Int))) : Sd := ([.bptr (BR.root 0) [.int .i64 v56, .int .i64 v57, .bslc (BR.root 1) (.i64 v58)], .top, .int .i64 v60, .top, .top, .top, .top, .top, .top, .nest 0 0 1 ((v862).length), .top, .top, .top, .own 1 0 ((v863).length), .int .i64 v855, .int .i64 v856, .int .i64 v857, .top, .top, .top, .top, .int .i64 v858, .int .i64 v859, .int .i64 s.1, .top, .top, .top, .top, .top, .top, .top, .top, .top, .top, .top, .top, .top, .top, .top, .top, .top, .top, .top, .top, .top, .top, .top, .top, .top, .top, .top, .top, .top, .top, .top, .top, .top, .top, .top, .top, .top, .top, .top, .top, .top, .top, .top, .top, .top, .top, .top, .top, .top, .top, .top, .top, .top, .top, .top, .top, .top, .top, .top, .top, .top, .top, .top, .top, .top, .top, .top, .top, .top, .top, .top, .top, .top, .top, .top, .top, .top, .top, .top, .top, .top, .top, .top, .top, .top, .top, .top, .top, .top, .top, .top, .top, .top, .top, .top, .top, .top, .top, .top, .top, .top, .top, .top, .top, .top, .top, .top, .top, .top, .top, .top, .top, .top, .top, .top, .top, .top, .top, .top, .top, .top, .top, .top, .top, .top, .top, .top, .top, .top, .top, .top, .top, .top, .top, .top, .top, .top, .top, .top, .top, .top, .top, .top, .top, .top, .top, .top, .top, .top, .top, .top, .top, .top, .top, .top, .top, .top, .top, .top, .top, .top, .top, .top, .top, .top, .top, .top, .top, .top, .top, .top, .top, .top, .top, .top, .top, .top, .top, .top, .top, .top, .top, .top, .top, .top, .top, .top, .top, .top, .top, .top, .top, .top, .top, .top, .top, .top, .top, .top, .top, .top, .top], [.nest [.sl (.i64 s.2) v862] false 0, .row (.i64 v863) 0])
def spec_l06Over_l12_X (v56 : Int) (v57 : Int) (v58 : List Int) (v59 : List Int) (v60 : Int) (v855 : Int) (v856 : Int) (v857 : Int) (v858 : Int) (v859 : Int) (v862 : List Nat) (v863 : List Int) (x : (List (List Int))) : Out := (.normal, [.bptr (BR.root 0) [.int .i64 v56, .int .i64 v57, .bslc (BR.root 1) (.i64 v58)], .top, .int .i64 v60, .top, .top, .top, .top, .top, .top, .nest 0 0 1 ((v862).length), .top, .top, .top, .own 1 0 ((v863).length), .int .i64 v855, .int .i64 v856, .int .i64 v857, .top, .top, .top, .top, .int .i64 v858, .top, .top, .top, .top, .top, .top, .top, .top, .top, .top, .top, .top, .top, .top, .top, .top, .top, .top, .top, .top, .top, .top, .top, .top, .top, .top, .top, .top, .top, .top, .top, .top, .top, .top, .top, .top, .top, .top, .top, .top, .top, .top, .top, .top, .top, .top, .top, .top, .top, .top, .top, .top, .top, .top, .top, .top, .top, .top, .top, .top, .top, .top, .top, .top, .top, .top, .top, .top, .top, .top, .top, .top, .top, .top, .top, .top, .top, .top, .top, .top, .top, .top, .top, .top, .top, .top, .top, .top, .top, .top, .top, .top, .top, .top, .top, .top, .top, .top, .top, .top, .top, .top, .top, .top, .top, .top, .top, .top, .top, .top, .top, .top, .top, .top, .top, .top, .top, .top, .top, .top, .top, .top, .top, .top, .top, .top, .top, .top, .top, .top, .top, .top, .top, .top, .top, .top, .top, .top, .top, .top, .top, .top, .top, .top, .top, .top, .top, .top, .top, .top, .top, .top, .top, .top, .top, .top, .top, .top, .top, .top, .top, .top, .top, .top, .top, .top, .top, .top, .top, .top, .top, .top, .top, .top, .top, .top, .top, .top, .top, .top, .top, .top, .top, .top, .top, .top, .top, .top, .top, .top, .top, .top, .top, .top, .top, .top, .top, .top, .top, .top, .top, .top, .top, .top], [.nest [.sl (.i64 x) v862] false 0, .row (.i64 v863) 0])
def spec_l06Over_l12_kill : List Nat := [0, 1, 0, 1, 1, 1, 1, 1, 1, 0, 1, 1, 1, 0, 0, 0, 0, 1, 1, 1, 1, 0, 0, 0, 1, 1, 1, 1, 1, 1, 1, 1, 1, 1, 1, 1, 1, 1, 1, 1, 1, 1, 1, 1, 1, 1, 1, 1, 1, 1, 1, 1, 1, 1, 1, 1, 1, 1, 1, 1, 1, 1, 1, 1, 1, 1, 1, 1, 1, 1, 1, 1, 1, 1, 1, 1, 1, 1, 1, 1, 1, 1, 1, 1, 1, 1, 1, 1, 1, 1, 1, 1, 1, 1, 1, 1, 1, 1, 1, 1, 1, 1, 1, 1, 1, 1, 1, 1, 1, 1, 1, 1, 1, 1, 1, 1, 1, 1, 1, 1, 1, 1, 1, 1, 1, 1, 1, 1, 1, 1, 1, 1, 1, 1, 1, 1, 1, 1, 1, 1, 1, 1, 1, 1, 1, 1, 1, 1, 1, 1, 1, 1, 1, 1, 1, 1, 1, 1, 1, 1, 1, 1, 1, 1, 1, 1, 1, 1, 1, 1, 1, 1, 1, 1, 1, 1, 1, 1, 1, 1, 1, 1, 1, 1, 1, 1, 1, 1, 1, 1, 1, 1, 1, 1, 1, 1, 1, 1, 1, 1, 1, 1, 1, 1, 1, 1, 1, 1, 1, 1, 1, 1, 1, 1, 1, 1, 1, 1, 1, 1, 1, 1, 1, 1, 1, 1]
def spec_l06Over_l12_nx : Exit → List Nat
  | .exit 4 => [1, 1, 1, 1, 1, 1, 1, 1, 1, 0, 1, 1, 1, 0, 0, 1, 1, 1, 1, 1, 1, 1, 1, 1, 1, 1, 1, 1, 1, 1, 1, 1, 1, 1, 1, 1, 1, 1, 1, 1, 1, 1, 1, 1, 1, 1, 1, 1, 1, 1, 1, 1, 1, 1, 1, 1, 1, 1, 1, 1, 1, 1, 1, 1, 1, 1, 1, 1, 1, 1, 1, 1, 1, 1, 1, 1, 1, 1, 1, 1, 1, 1, 1, 1, 1, 1, 1, 1, 1, 1, 1, 1, 1, 1, 1, 1, 1, 1, 1, 1, 1, 1, 1, 1, 1, 1, 1, 1, 1, 1, 1, 1, 1, 1, 1, 1, 1, 1, 1, 1, 1, 1, 1, 1, 1, 1, 1, 1, 1, 1, 1, 1, 1, 1, 1, 1, 1, 1, 1, 1, 1, 1, 1, 1, 1, 1, 1, 1, 1, 1, 1, 1, 1, 1, 1, 1, 1, 1, 1, 1, 1, 1, 1, 1, 1, 1, 1, 1, 1, 1, 1, 1, 1, 1, 1, 1, 1, 1, 1, 1, 1, 1, 1, 1, 1, 1, 1, 1, 1, 1, 1, 1, 1, 1, 1, 1, 1, 1, 1, 1, 1, 1, 1, 1, 1, 1, 1, 1, 1, 1, 1, 1, 1, 1, 1, 1, 1, 1, 1, 1, 1, 1, 1, 1, 1, 1]
  | .exit 5 => [0, 1, 0, 1, 1, 1, 1, 1, 1, 0, 1, 1, 1, 0, 0, 0, 1, 1, 1, 1, 1, 1, 1, 1, 1, 1, 1, 1, 1, 1, 1, 1, 1, 1, 1, 1, 1, 1, 1, 1, 1, 1, 1, 1, 1, 1, 1, 1, 1, 1, 1, 1, 1, 1, 1, 1, 1, 1, 1, 1, 1, 1, 1, 1, 1, 1, 1, 1, 1, 1, 1, 1, 1, 1, 1, 1, 1, 1, 1, 1, 1, 1, 1, 1, 1, 1, 1, 1, 1, 1, 1, 1, 1, 1, 1, 1, 1, 1, 1, 1, 1, 1, 1, 1, 1, 1, 1, 1, 1, 1, 1, 1, 1, 1, 1, 1, 1, 1, 1, 1, 1, 1, 1, 1, 1, 1, 1, 1, 1, 1, 1, 1, 1, 1, 1, 1, 1, 1, 1, 1, 1, 1, 1, 1, 1, 1, 1, 1, 1, 1, 1, 1, 1, 1, 1, 1, 1, 1, 1, 1, 1, 1, 1, 1, 1, 1, 1, 1, 1, 1, 1, 1, 1, 1, 1, 1, 1, 1, 1, 1, 1, 1, 1, 1, 1, 1, 1, 1, 1, 1, 1, 1, 1, 1, 1, 1, 1, 1, 1, 1, 1, 1, 1, 1, 1, 1, 1, 1, 1, 1, 1, 1, 1, 1, 1, 1, 1, 1, 1, 1, 1, 1, 1, 1, 1, 1]
  | .exit 10 => [0, 1, 0, 1, 1, 1, 1, 1, 1, 0, 1, 1, 1, 0, 0, 0, 1, 1, 1, 1, 1, 1, 1, 1, 1, 1, 1, 1, 1, 1, 1, 1, 1, 1, 1, 1, 1, 1, 1, 1, 1, 1, 1, 1, 1, 1, 1, 1, 1, 1, 1, 1, 1, 1, 1, 1, 1, 1, 1, 1, 1, 1, 1, 1, 1, 1, 1, 1, 1, 1, 1, 1, 1, 1, 1, 1, 1, 1, 1, 1, 1, 1, 1, 1, 1, 1, 1, 1, 1, 1, 1, 1, 1, 1, 1, 1, 1, 1, 1, 1, 1, 1, 1, 1, 1, 1, 1, 1, 1, 1, 1, 1, 1, 1, 1, 1, 1, 1, 1, 1, 1, 1, 1, 1, 1, 1, 1, 1, 1, 1, 1, 1, 1, 1, 1, 1, 1, 1, 1, 1, 1, 1, 1, 1, 1, 1, 1, 1, 1, 1, 1, 1, 1, 1, 1, 1, 1, 1, 1, 1, 1, 1, 1, 1, 1, 1, 1, 1, 1, 1, 1, 1, 1, 1, 1, 1, 1, 1, 1, 1, 1, 1, 1, 1, 1, 1, 1, 1, 1, 1, 1, 1, 1, 1, 1, 1, 1, 1, 1, 1, 1, 1, 1, 1, 1, 1, 1, 1, 1, 1, 1, 1, 1, 1, 1, 1, 1, 1, 1, 1, 1, 1, 1, 1, 1, 1]
  | .exit 11 => [0, 1, 0, 1, 1, 1, 1, 1, 1, 0, 1, 1, 1, 0, 0, 0, 0, 1, 1, 1, 1, 0, 1, 1, 1, 1, 1, 1, 1, 1, 1, 1, 1, 1, 1, 1, 1, 1, 1, 1, 1, 1, 1, 1, 1, 1, 1, 1, 1, 1, 1, 1, 1, 1, 1, 1, 1, 1, 1, 1, 1, 1, 1, 1, 1, 1, 1, 1, 1, 1, 1, 1, 1, 1, 1, 1, 1, 1, 1, 1, 1, 1, 1, 1, 1, 1, 1, 1, 1, 1, 1, 1, 1, 1, 1, 1, 1, 1, 1, 1, 1, 1, 1, 1, 1, 1, 1, 1, 1, 1, 1, 1, 1, 1, 1, 1, 1, 1, 1, 1, 1, 1, 1, 1, 1, 1, 1, 1, 1, 1, 1, 1, 1, 1, 1, 1, 1, 1, 1, 1, 1, 1, 1, 1, 1, 1, 1, 1, 1, 1, 1, 1, 1, 1, 1, 1, 1, 1, 1, 1, 1, 1, 1, 1, 1, 1, 1, 1, 1, 1, 1, 1, 1, 1, 1, 1, 1, 1, 1, 1, 1, 1, 1, 1, 1, 1, 1, 1, 1, 1, 1, 1, 1, 1, 1, 1, 1, 1, 1, 1, 1, 1, 1, 1, 1, 1, 1, 1, 1, 1, 1, 1, 1, 1, 1, 1, 1, 1, 1, 1, 1, 1, 1, 1, 1, 1]
  | .exit 12 => [0, 1, 0, 1, 1, 1, 1, 1, 1, 0, 1, 1, 1, 0, 0, 0, 0, 1, 1, 1, 1, 0, 1, 1, 1, 1, 1, 1, 1, 1, 1, 1, 1, 1, 1, 1, 1, 1, 1, 1, 1, 1, 1, 1, 1, 1, 1, 1, 1, 1, 1, 1, 1, 1, 1, 1, 1, 1, 1, 1, 1, 1, 1, 1, 1, 1, 1, 1, 1, 1, 1, 1, 1, 1, 1, 1, 1, 1, 1, 1, 1, 1, 1, 1, 1, 1, 1, 1, 1, 1, 1, 1, 1, 1, 1, 1, 1, 1, 1, 1, 1, 1, 1, 1, 1, 1, 1, 1, 1, 1, 1, 1, 1, 1, 1, 1, 1, 1, 1, 1, 1, 1, 1, 1, 1, 1, 1, 1, 1, 1, 1, 1, 1, 1, 1, 1, 1, 1, 1, 1, 1, 1, 1, 1, 1, 1, 1, 1, 1, 1, 1, 1, 1, 1, 1, 1, 1, 1, 1, 1, 1, 1, 1, 1, 1, 1, 1, 1, 1, 1, 1, 1, 1, 1, 1, 1, 1, 1, 1, 1, 1, 1, 1, 1, 1, 1, 1, 1, 1, 1, 1, 1, 1, 1, 1, 1, 1, 1, 1, 1, 1, 1, 1, 1, 1, 1, 1, 1, 1, 1, 1, 1, 1, 1, 1, 1, 1, 1, 1, 1, 1, 1, 1, 1, 1, 1]
  | .ret => [1, 1, 1, 1, 1, 1, 0, 0, 0, 1, 1, 1, 1, 1, 1, 1, 1, 1, 1, 1, 1, 1, 1, 1, 1, 1, 1, 1, 1, 1, 1, 1, 1, 1, 1, 1, 1, 1, 1, 1, 1, 1, 1, 1, 1, 1, 1, 1, 1, 1, 1, 1, 1, 1, 1, 1, 1, 1, 1, 1, 1, 1, 1, 1, 1, 1, 1, 1, 1, 1, 1, 1, 1, 1, 1, 1, 1, 1, 1, 1, 1, 1, 1, 1, 1, 1, 1, 1, 1, 1, 1, 1, 1, 1, 1, 1, 1, 1, 1, 1, 1, 1, 1, 1, 1, 1, 1, 1, 1, 1, 1, 1, 1, 1, 1, 1, 1, 1, 1, 1, 1, 1, 1, 1, 1, 1, 1, 1, 1, 1, 1, 1, 1, 1, 1, 1, 1, 1, 1, 1, 1, 1, 1, 1, 1, 1, 1, 1, 1, 1, 1, 1, 1, 1, 1, 1, 1, 1, 1, 1, 1, 1, 1, 1, 1, 1, 1, 1, 1, 1, 1, 1, 1, 1, 1, 1, 1, 1, 1, 1, 1, 1, 1, 1, 1, 1, 1, 1, 1, 1, 1, 1, 1, 1, 1, 1, 1, 1, 1, 1, 1, 1, 1, 1, 1, 1, 1, 1, 1, 1, 1, 1, 1, 1, 1, 1, 1, 1, 1, 1, 1, 1, 1, 1, 1, 1]
  | _ => []
noncomputable def spec_l06Over_l10_T (v56 : Int) (v57 : Int) (v58 : List Int) (v59 : List Int) (v60 : Int) (v828 : Int) (v829 : Int) (v830 : Int) (v833 : List Nat) (v834 : List Int) (s : Int × (List (List Int))) : Tree ((Int × (List (List Int))) ⊕ ((List (List Int)))) :=
  (.br (decide (s.1 < (((v833).length : Nat) : Int))) (
   (.grd (inb s.1 ((v833).length)) <|
   (.grd (inb v829 ((nget s.2 (nth v833 (Int.toNat s.1))).length)) <|
   (.need (some (spec_l06Over_l12_E v56 v57 v58 v59 v60 v828 v829 v830 s.1 (nth (nget s.2 (nth v833 (Int.toNat s.1))) (Int.toNat v829)) v833 v834 ((0 : Int), s.2)) = some (spec_l06Over_l12_E v56 v57 v58 v59 v60 v828 v829 v830 s.1 (nth (nget s.2 (nth v833 (Int.toNat s.1))) (Int.toNat v829)) v833 v834 ((0 : Int), s.2))) <|
   (.call (spec_l06Over_l12_g v60 v828 v829 v830 s.1 (nth (nget s.2 (nth v833 (Int.toNat s.1))) (Int.toNat v829)) v833 v834 ((0 : Int), s.2)) fun v865 =>
   .leaf (.inl (IntKind.i64.wrap (s.1 + (1 : Int)), v865))))))
  ) (
   .leaf (.inr s.2)
  ))

noncomputable def spec_l06Over_l10_g (v56 : Int) (v57 : Int) (v58 : List Int) (v59 : List Int) (v60 : Int) (v828 : Int) (v829 : Int) (v830 : Int) (v833 : List Nat) (v834 : List Int) (s0 : Int × (List (List Int))) : Option ((List (List Int))) := whileM (fun s => (spec_l06Over_l10_T v56 v57 v58 v59 v60 v828 v829 v830 v833 v834 s).run) s0
def spec_l06Over_l10_E (v56 : Int) (v57 : Int) (v58 : List Int) (v59 : List Int) (v60 : Int) (v828 : Int) (v829 : Int) (v830 : Int) (v833 : List Nat) (v834 : List Int) (s : Int × (List (List Int))) : Sd := ([.bptr (BR.root 0) [.int .i64 v56, .int .i64 v57, .bslc (BR.root 1) (.i64 v58)], .top, .int .i64 v60, .top, .top, .top, .top, .top, .top, .nest 0 0 1 ((v833).length), .top, .top, .top, .own 1 0 ((v834).length), .int .i64 v828, .int .i64 v829, .int .i64 v830, .top, .top, .top, .top, .int .i64 s.1, .top, .top, .top, .top, .top, .top, .top, .top, .top, .top, .top, .top, .top, .top, .top, .top, .top, .top, .top, .top, .top, .top, .top, .top, .top, .top, .top, .top, .top, .top, .top, .top, .top, .top, .top, .top, .top, .top, .top, .top, .top, .top, .top, .top, .top, .top, .top, .top, .top, .top, .top, .top, .top, .top, .top, .top, .top, .top, .top, .top, .top, .top, .top, .top, .top, .top, .top, .top, .top, .top, .top, .top, .top, .top, .top, .top, .top, .top, .top, .top, .top, .top, .top, .top, .top, .top, .top, .top, .top, .top, .top, .top, .top, .top, .top, .top, .top, .top, .top, .top, .top, .top, .top, .top, .top, .top, .top, .top, .top, .top, .top, .top, .top, .top, .top, .top, .top, .top, .top, .top, .top, .top, .top, .top, .top, .top, .top, .top, .top, .top, .top, .top, .top, .top, .top, .top, .top, .top, .top, .top, .top, .top, .top, .top, .top, .top, .top, .top, .top, .top, .top, .top, .top, .top, .top, .top, .top, .top, .top, .top, .top, .top, .top, .top, .top, .top, .top, .top, .top, .top, .top, .top, .top, .top, .top, .top, .top, .top, .top, .top, .top, .top, .top, .top, .top, .top, .top, .top, .top, .top, .top, .top, .top, .top, .top, .top, .top, .top, .top, .top, .top, .top, .top, .top], [.nest [.sl (.i64 s.2) v833] false 0, .row (.i64 v834) 0])
def spec_l06Over_l10_X (v56 : Int) (v57 : Int) (v58 : List Int) (v59 : List Int) (v60 : Int) (v828 : Int) (v829 : Int) (v830 : Int) (v833 : List Nat) (v834 : List Int) (x : (List (List Int))) : Out := (.normal, [.bptr (BR.root 0) [.int .i64 v56, .int .i64 v57, .bslc (BR.root 1) (.i64 v58)], .top, .int .i64 v60, .top, .top, .top, .top, .top, .top, .nest 0 0 1 ((v833).length), .top, .top, .top, .own 1 0 ((v834).length), .int .i64 v828, .int .i64 v829, .top, .top, .top, .top, .top, .top, .top, .top, .top, .top, .top, .top, .top, .top, .top, .top, .top, .top, .top, .top, .top, .top, .top, .top, .top, .top, .top, .top, .top, .top, .top, .top, .top, .top, .top, .top, .top, .top, .top, .top, .top, .top, .top, .top, .top, .top, .top, .top, .top, .top, .top, .top, .top, .top, .top, .top, .top, .top, .top, .top, .top, .top, .top, .top, .top, .top, .top, .top, .top, .top, .top, .top, .top, .top, .top, .top, .top, .top, .top, .top, .top, .top, .top, .top, .top, .top, .top, .top, .top, .top, .top, .top, .top, .top, .top, .top, .top, .top, .top, .top, .top, .top, .top, .top, .top, .top, .top, .top, .top, .top, .top, .top, .top, .top, .top, .top, .top, .top, .top, .top, .top, .top, .top, .top, .top, .top, .top, .top, .top, .top, .top, .top, .top, .top, .top, .top, .top, .top, .top, .top, .top, .top, .top, .top, .top, .top, .top, .top, .top, .top, .top, .top, .top, .top, .top, .top, .top, .top, .top, .top, .top, .top, .top, .top, .top, .top, .top, .top, .top, .top, .top, .top, .top, .top, .top, .top, .top, .top, .top, .top, .top, .top, .top, .top, .top, .top, .top, .top, .top, .top, .top, .top, .top, .top, .top, .top, .top, .top, .top, .top, .top, .top, .top, .top, .top, .top, .top, .top, .top, .top], [.nest [.sl (.i64 x) v833] false 0, .row (.i64 v834) 0])
def spec_l06Over_l10_kill : List Nat := [0, 1, 0, 1, 1, 1, 1, 1, 1, 0, 1, 1, 1, 0, 0, 0, 0, 1, 1, 1, 1, 0, 1, 1, 1, 1, 1, 1, 1, 1, 1, 1, 1, 1, 1, 1, 1, 1, 1, 1, 1, 1, 1, 1, 1, 1, 1, 1, 1, 1, 1, 1, 1, 1, 1, 1, 1, 1, 1, 1, 1, 1, 1, 1, 1, 1, 1, 1, 1, 1, 1, 1, 1, 1, 1, 1, 1, 1, 1, 1, 1, 1, 1, 1, 1, 1, 1, 1, 1, 1, 1, 1, 1, 1, 1, 1, 1, 1, 1, 1, 1, 1, 1, 1, 1, 1, 1, 1, 1, 1, 1, 1, 1, 1, 1, 1, 1, 1, 1, 1, 1, 1, 1, 1, 1, 1, 1, 1, 1, 1, 1, 1, 1, 1, 1, 1, 1, 1, 1, 1, 1, 1, 1, 1, 1, 1, 1, 1, 1, 1, 1, 1, 1, 1, 1, 1, 1, 1, 1, 1, 1, 1, 1, 1, 1, 1, 1, 1, 1, 1, 1, 1, 1, 1, 1, 1, 1, 1, 1, 1, 1, 1, 1, 1, 1, 1, 1, 1, 1, 1, 1, 1, 1, 1, 1, 1, 1, 1, 1, 1, 1, 1, 1, 1, 1, 1, 1, 1, 1, 1, 1, 1, 1, 1, 1, 1, 1, 1, 1, 1, 1, 1, 1, 1, 1, 1]
def spec_l06Over_l10_nx : Exit → List Nat
  | .exit 4 => [1, 1, 1, 1, 1, 1, 1, 1, 1, 0, 1, 1, 1, 0, 0, 1, 1, 1, 1, 1, 1, 1, 1, 1, 1, 1, 1, 1, 1, 1, 1, 1, 1, 1, 1, 1, 1, 1, 1, 1, 1, 1, 1, 1, 1, 1, 1, 1, 1, 1, 1, 1, 1, 1, 1, 1, 1, 1, 1, 1, 1, 1, 1, 1, 1, 1, 1, 1, 1, 1, 1, 1, 1, 1, 1, 1, 1, 1, 1, 1, 1, 1, 1, 1, 1, 1, 1, 1, 1, 1, 1, 1, 1, 1, 1, 1, 1, 1, 1, 1, 1, 1, 1, 1, 1, 1, 1, 1, 1, 1, 1, 1, 1, 1, 1, 1, 1, 1, 1, 1, 1, 1, 1, 1, 1, 1, 1, 1, 1, 1, 1, 1, 1, 1, 1, 1, 1, 1, 1, 1, 1, 1, 1, 1, 1, 1, 1, 1, 1, 1, 1, 1, 1, 1, 1, 1, 1, 1, 1, 1, 1, 1, 1, 1, 1, 1, 1, 1, 1, 1, 1, 1, 1, 1, 1, 1, 1, 1, 1, 1, 1, 1, 1, 1, 1, 1, 1, 1, 1, 1, 1, 1, 1, 1, 1, 1, 1, 1, 1, 1, 1, 1, 1, 1, 1, 1, 1, 1, 1, 1, 1, 1, 1, 1, 1, 1, 1, 1, 1, 1, 1, 1, 1, 1, 1, 1]
  | .exit 5 => [0, 1, 0, 1, 1, 1, 1, 1, 1, 0, 1, 1, 1, 0, 0, 0, 1, 1, 1, 1, 1, 1, 1, 1, 1, 1, 1, 1, 1, 1, 1, 1, 1, 1, 1, 1, 1, 1, 1, 1, 1, 1, 1, 1, 1, 1, 1, 1, 1, 1, 1, 1, 1, 1, 1, 1, 1, 1, 1, 1, 1, 1, 1, 1, 1, 1, 1, 1, 1, 1, 1, 1, 1, 1, 1, 1, 1, 1, 1, 1, 1, 1, 1, 1, 1, 1, 1, 1, 1, 1, 1, 1, 1, 1, 1, 1, 1, 1, 1, 1, 1, 1, 1, 1, 1, 1, 1, 1, 1, 1, 1, 1, 1, 1, 1, 1, 1, 1, 1, 1, 1, 1, 1, 1, 1, 1, 1, 1, 1, 1, 1, 1, 1, 1, 1, 1, 1, 1, 1, 1, 1, 1, 1, 1, 1, 1, 1, 1, 1, 1, 1, 1, 1, 1, 1, 1, 1, 1, 1, 1, 1, 1, 1, 1, 1, 1, 1, 1, 1, 1, 1, 1, 1, 1, 1, 1, 1, 1, 1, 1, 1, 1, 1, 1, 1, 1, 1, 1, 1, 1, 1, 1, 1, 1, 1, 1, 1, 1, 1, 1, 1, 1, 1, 1, 1, 1, 1, 1, 1, 1, 1, 1, 1, 1, 1, 1, 1, 1, 1, 1, 1, 1, 1, 1, 1, 1]
  | .exit 10 => [0, 1, 0, 1, 1, 1, 1, 1, 1, 0, 1, 1, 1, 0, 0, 0, 1, 1, 1, 1, 1, 1, 1, 1, 1, 1, 1, 1, 1, 1, 1, 1, 1, 1, 1, 1, 1, 1, 1, 1, 1, 1, 1, 1, 1, 1, 1, 1, 1, 1, 1, 1, 1, 1, 1, 1, 1, 1, 1, 1, 1, 1, 1, 1, 1, 1, 1, 1, 1, 1, 1, 1, 1, 1, 1, 1, 1, 1, 1, 1, 1, 1, 1, 1, 1, 1, 1, 1, 1, 1, 1, 1, 1, 1, 1, 1, 1, 1, 1, 1, 1, 1, 1, 1, 1, 1, 1, 1, 1, 1, 1, 1, 1, 1, 1, 1, 1, 1, 1, 1, 1, 1, 1, 1, 1, 1, 1, 1, 1, 1, 1, 1, 1, 1, 1, 1, 1, 1, 1, 1, 1, 1, 1, 1, 1, 1, 1, 1, 1, 1, 1, 1, 1, 1, 1, 1, 1, 1, 1, 1, 1, 1, 1, 1, 1, 1, 1, 1, 1, 1, 1, 1, 1, 1, 1, 1, 1, 1, 1, 1, 1, 1, 1, 1, 1, 1, 1, 1, 1, 1, 1, 1, 1, 1, 1, 1, 1, 1, 1, 1, 1, 1, 1, 1, 1, 1, 1, 1, 1, 1, 1, 1, 1, 1, 1, 1, 1, 1, 1, 1, 1, 1, 1, 1, 1, 1]
  | .ret => [1, 1, 1, 1, 1, 1, 0, 0, 0, 1, 1, 1, 1, 1, 1, 1, 1, 1, 1, 1, 1, 1, 1, 1, 1, 1, 1, 1, 1, 1, 1, 1, 1, 1, 1, 1, 1, 1, 1, 1, 1, 1, 1, 1, 1, 1, 1, 1, 1, 1, 1, 1, 1, 1, 1, 1, 1, 1, 1, 1, 1, 1, 1, 1, 1, 1, 1, 1, 1, 1, 1, 1, 1, 1, 1, 1, 1, 1, 1, 1, 1, 1, 1, 1, 1, 1, 1, 1, 1, 1, 1, 1, 1, 1, 1, 1, 1, 1, 1, 1, 1, 1, 1, 1, 1, 1, 1, 1, 1, 1, 1, 1, 1, 1, 1, 1, 1, 1, 1, 1, 1, 1, 1, 1, 1, 1, 1, 1, 1, 1, 1, 1, 1, 1, 1, 1, 1, 1, 1, 1, 1, 1, 1, 1, 1, 1, 1, 1, 1, 1, 1, 1, 1, 1, 1, 1, 1, 1, 1, 1, 1, 1, 1, 1, 1, 1, 1, 1, 1, 1, 1, 1, 1, 1, 1, 1, 1, 1, 1, 1, 1, 1, 1, 1, 1, 1, 1, 1, 1, 1, 1, 1, 1, 1, 1, 1, 1, 1, 1, 1, 1, 1, 1, 1, 1, 1, 1, 1, 1, 1, 1, 1, 1, 1, 1, 1, 1, 1, 1, 1, 1, 1, 1, 1, 1, 1]
  | _ => []
noncomputable def spec_l06Over_l4_T (v56 : Int) (v57 : Int) (v58 : List Int) (v59 : List Int) (v60 : Int) (s : Int × Int × (List (List Int)) × (List Nat) × (List Int)) : Tree ((Int × Int × (List (List Int)) × (List Nat) × (List Int)) ⊕ (Int × (List (List Int)) × (List Nat) × (List Int))) :=
  (.br (decide (s.2.1 < v57)) (
   (.need (some (spec_l06Over_l6_E v56 v57 v58 v59 v60 s.1 s.2.1 (((s.2.2.2.2).length : Nat) : Int) s.2.2.1 s.2.2.2.1 s.2.2.2.2 (((s.2.2.2.2).length : Nat) : Int)) = some (spec_l06Over_l6_E v56 v57 v58 v59 v60 s.1 s.2.1 (((s.2.2.2.2).length : Nat) : Int) s.2.2.1 s.2.2.2.1 s.2.2.2.2 (((s.2.2.2.2).length : Nat) : Int))) <|
   (.call (spec_l06Over_l6_g s.1 s.2.1 (((s.2.2.2.2).length : Nat) : Int) s.2.2.1 s.2.2.2.1 s.2.2.2.2 (((s.2.2.2.2).length : Nat) : Int)) fun v724 =>
   (.br (decide ((((s.2.2.2.1).length : Nat) : Int) ≤ v724)) (
    .leaf (.inl ((0 : Int), IntKind.i64.wrap (s.2.1 + (1 : Int)), s.2.2.1, s.2.2.2.1, s.2.2.2.2))
   ) (
    (.br (!decide (v724 = (((s.2.2.2.2).length : Nat) : Int))) (
     (.grd (inb v724 ((s.2.2.2.1).length)) <|
     (.grd (inb (((s.2.2.2.2).length : Nat) : Int) ((s.2.2.2.1).length)) <|
     (.grd (inb v724 ((s.2.2.2.1).length)) <|
     (.grd (inb (((s.2.2.2.2).length : Nat) : Int) ((s.2.2.2.1).length)) <|
     (.call (spec_l06Mod_g (IntKind.i64.wrap (0 - s.1)) v60) fun v725 =>
     (.grd (inb (((s.2.2.2.2).length : Nat) : Int) ((s.2.2.2.1).length)) <|
     (.grd (inb s.2.1 ((nget s.2.2.1 (nth (List.set (List.set s.2.2.2.1 (Int.toNat v724) (nth s.2.2.2.1 (Int.toNat (((s.2.2.2.2).length : Nat) : Int)))) (Int.toNat (((s.2.2.2.2).length : Nat) : Int)) (nth s.2.2.2.1 (Int.toNat v724))) (Int.toNat (((s.2.2.2.2).length : Nat) : Int)))).length)) <|
     (.grd (!decide (v60 = 0)) <|
     (.grd (inb (((s.2.2.2.2).length : Nat) : Int) ((s.2.2.2.1).length)) <|
     (.grd (inb s.2.1 ((nget s.2.2.1 (nth (List.set (List.set s.2.2.2.1 (Int.toNat v724) (nth s.2.2.2.1 (Int.toNat (((s.2.2.2.2).length : Nat) : Int)))) (Int.toNat (((s.2.2.2.2).length : Nat) : Int)) (nth s.2.2.2.1 (Int.toNat v724))) (Int.toNat (((s.2.2.2.2).length : Nat) : Int)))).length)) <|
     (.call (spec_l06Back_g (nth (nget s.2.2.1 (nth (List.set (List.set s.2.2.2.1 (Int.toNat v724) (nth s.2.2.2.1 (Int.toNat (((s.2.2.2.2).length : Nat) : Int)))) (Int.toNat (((s.2.2.2.2).length : Nat) : Int)) (nth s.2.2.2.1 (Int.toNat v724))) (Int.toNat (((s.2.2.2.2).length : Nat) : Int)))) (Int.toNat s.2.1)) v60) fun v726 =>
     (.need (some (spec_l06Over_l8_E v56 v57 v58 v59 v60 (Int.tmod (IntKind.i64.wrap (v725 * (nth (nget s.2.2.1 (nth (List.set (List.set s.2.2.2.1 (Int.toNat v724) (nth s.2.2.2.1 (Int.toNat (((s.2.2.2.2).length : Nat) : Int)))) (Int.toNat (((s.2.2.2.2).length : Nat) : Int)) (nth s.2.2.2.1 (Int.toNat v724))) (Int.toNat (((s.2.2.2.2).length : Nat) : Int)))) (Int.toNat s.2.1)))) v60) s.2.1 (((s.2.2.2.2).length : Nat) : Int) v726 (List.set (List.set s.2.2.2.1 (Int.toNat v724) (nth s.2.2.2.1 (Int.toNat (((s.2.2.2.2).length : Nat) : Int)))) (Int.toNat (((s.2.2.2.2).length : Nat) : Int)) (nth s.2.2.2.1 (Int.toNat v724))) s.2.2.2.2 ((0 : Int), s.2.2.1)) = some (spec_l06Over_l8_E v56 v57 v58 v59 v60 (Int.tmod (IntKind.i64.wrap (v725 * (nth (nget s.2.2.1 (nth (List.set (List.set s.2.2.2.1 (Int.toNat v724) (nth s.2.2.2.1 (Int.toNat (((s.2.2.2.2).length : Nat) : Int)))) (Int.toNat (((s.2.2.2.2).length : Nat) : Int)) (nth s.2.2.2.1 (Int.toNat v724))) (Int.toNat (((s.2.2.2.2).length : Nat) : Int)))) (Int.toNat s.2.1)))) v60) s.2.1 (((s.2.2.2.2).length : Nat) : Int) v726 (List.set (List.set s.2.2.2.1 (Int.toNat v724) (nth s.2.2.2.1 (Int.toNat (((s.2.2.2.2).length : Nat) : Int)))) (Int.toNat (((s.2.2.2.2).length : Nat) : Int)) (nth s.2.2.2.1 (Int.toNat v724))) s.2.2.2.2 ((0 : Int), s.2.2.1))) <|
     (.call (spec_l06Over_l8_g v60 (Int.tmod (IntKind.i64.wrap (v725 * (nth (nget s.2.2.1 (nth (List.set (List.set s.2.2.2.1 (Int.toNat v724) (nth s.2.2.2.1 (Int.toNat (((s.2.2.2.2).length : Nat) : Int)))) (Int.toNat (((s.2.2.2.2).length : Nat) : Int)) (nth s.2.2.2.1 (Int.toNat v724))) (Int.toNat (((s.2.2.2.2).length : Nat) : Int)))) (Int.toNat s.2.1)))) v60) s.2.1 (((s.2.2.2.2).length : Nat) : Int) v726 (List.set (List.set s.2.2.2.1 (Int.toNat v724) (nth s.2.2.2.1 (Int.toNat (((s.2.2.2.2).length : Nat) : Int)))) (Int.toNat (((s.2.2.2.2).length : Nat) : Int)) (nth s.2.2.2.1 (Int.toNat v724))) s.2.2.2.2 ((0 : Int), s.2.2.1)) fun v751 =>
     (.need (some (spec_l06Over_l10_E v56 v57 v58 v59 v60 (Int.tmod (IntKind.i64.wrap (v725 * (nth (nget s.2.2.1 (nth (List.set (List.set s.2.2.2.1 (Int.toNat v724) (nth s.2.2.2.1 (Int.toNat (((s.2.2.2.2).length : Nat) : Int)))) (Int.toNat (((s.2.2.2.2).length : Nat) : Int)) (nth s.2.2.2.1 (Int.toNat v724))) (Int.toNat (((s.2.2.2.2).length : Nat) : Int)))) (Int.toNat s.2.1)))) v60) s.2.1 (((s.2.2.2.2).length : Nat) : Int) (List.set (List.set s.2.2.2.1 (Int.toNat v724) (nth s.2.2.2.1 (Int.toNat (((s.2.2.2.2).length : Nat) : Int)))) (Int.toNat (((s.2.2.2.2).length : Nat) : Int)) (nth s.2.2.2.1 (Int.toNat v724))) s.2.2.2.2 ((0 : Int), v751)) = some (spec_l06Over_l10_E v56 v57 v58 v59 v60 (Int.tmod (IntKind.i64.wrap (v725 * (nth (nget s.2.2.1 (nth (List.set (List.set s.2.2.2.1 (Int.toNat v724) (nth s.2.2.2.1 (Int.toNat (((s.2.2.2.2).length : Nat) : Int)))) (Int.toNat (((s.2.2.2.2).length : Nat) : Int)) (nth s.2.2.2.1 (Int.toNat v724))) (Int.toNat (((s.2.2.2.2).length : Nat) : Int)))) (Int.toNat s.2.1)))) v60) s.2.1 (((s.2.2.2.2).length : Nat) : Int) (List.set (List.set s.2.2.2.1 (Int.toNat v724) (nth s.2.2.2.1 (Int.toNat (((s.2.2.2.2).length : Nat) : Int)))) (Int.toNat (((s.2.2.2.2).length : Nat) : Int)) (nth s.2.2.2.1 (Int.toNat v724))) s.2.2.2.2 ((0 : Int), v751))) <|
     (.call (spec_l06Over_l10_g v56 v57 v58 v59 v60 (Int.tmod (IntKind.i64.wrap (v725 * (nth (nget s.2.2.1 (nth (List.set (List.set s.2.2.2.1 (Int.toNat v724) (nth s.2.2.2.1 (Int.toNat (((s.2.2.2.2).length : Nat) : Int)))) (Int.toNat (((s.2.2.2.2).length : Nat) : Int)) (nth s.2.2.2.1 (Int.toNat v724))) (Int.toNat (((s.2.2.2.2).length : Nat) : Int)))) (Int.toNat s.2.1)))) v60) s.2.1 (((s.2.2.2.2).length : Nat) : Int) (List.set (List.set s.2.2.2.1 (Int.toNat v724) (nth s.2.2.2.1 (Int.toNat (((s.2.2.2.2).length : Nat) : Int)))) (Int.toNat (((s.2.2.2.2).length : Nat) : Int)) (nth s.2.2.2.1 (Int.toNat v724))) s.2.2.2.2 ((0 : Int), v751)) fun v866 =>
     (.grd (fits (s.2.2.2.2 ++ ([s.2.1] : List Int)).length) <|
     .leaf (.inl ((Int.tmod (IntKind.i64.wrap (v725 * (nth (nget s.2.2.1 (nth (List.set (List.set s.2.2.2.1 (Int.toNat v724) (nth s.2.2.2.1 (Int.toNat (((s.2.2.2.2).length : Nat) : Int)))) (Int.toNat (((s.2.2.2.2).length : Nat) : Int)) (nth s.2.2.2.1 (Int.toNat v724))) (Int.toNat (((s.2.2.2.2).length : Nat) : Int)))) (Int.toNat s.2.1)))) v60), IntKind.i64.wrap (s.2.1 + (1 : Int)), v866, (List.set (List.set s.2.2.2.1 (Int.toNat v724) (nth s.2.2.2.1 (Int.toNat (((s.2.2.2.2).length : Nat) : Int)))) (Int.toNat (((s.2.2.2.2).length : Nat) : Int)) (nth s.2.2.2.1 (Int.toNat v724))), s.2.2.2.2 ++ ([s.2.1] : List Int)))))))))))))))))))
    ) (
     (.grd (inb (((s.2.2.2.2).length : Nat) : Int) ((s.2.2.2.1).length)) <|
     (.grd (inb s.2.1 ((nget s.2.2.1 (nth s.2.2.2.1 (Int.toNat (((s.2.2.2.2).length : Nat) : Int)))).length)) <|
     (.grd (!decide (v60 = 0)) <|
     (.grd (inb (((s.2.2.2.2).length : Nat) : Int) ((s.2.2.2.1).length)) <|
     (.grd (inb s.2.1 ((nget s.2.2.1 (nth s.2.2.2.1 (Int.toNat (((s.2.2.2.2).length : Nat) : Int)))).length)) <|
     (.call (spec_l06Back_g (nth (nget s.2.2.1 (nth s.2.2.2.1 (Int.toNat (((s.2.2.2.2).length : Nat) : Int)))) (Int.toNat s.2.1)) v60) fun v867 =>
     (.need (some (spec_l06Over_l8_E v56 v57 v58 v59 v60 (Int.tmod (IntKind.i64.wrap (s.1 * (nth (nget s.2.2.1 (nth s.2.2.2.1 (Int.toNat (((s.2.2.2.2).length : Nat) : Int)))) (Int.toNat s.2.1)))) v60) s.2.1 (((s.2.2.2.2).length : Nat) : Int) v867 s.2.2.2.1 s.2.2.2.2 ((0 : Int), s.2.2.1)) = some (spec_l06Over_l8_E v56 v57 v58 v59 v60 (Int.tmod (IntKind.i64.wrap (s.1 * (nth (nget s.2.2.1 (nth s.2.2.2.1 (Int.toNat (((s.2.2.2.2).length : Nat) : Int)))) (Int.toNat s.2.1)))) v60) s.2.1 (((s.2.2.2.2).length : Nat) : Int) v867 s.2.2.2.1 s.2.2.2.2 ((0 : Int), s.2.2.1))) <|
     (.call (spec_l06Over_l8_g v60 (Int.tmod (IntKind.i64.wrap (s.1 * (nth (nget s.2.2.1 (nth s.2.2.2.1 (Int.toNat (((s.2.2.2.2).length : Nat) : Int)))) (Int.toNat s.2.1)))) v60) s.2.1 (((s.2.2.2.2).length : Nat) : Int) v867 s.2.2.2.1 s.2.2.2.2 ((0 : Int), s.2.2.1)) fun v892 =>
     (.need (some (spec_l06Over_l10_E v56 v57 v58 v59 v60 (Int.tmod (IntKind.i64.wrap (s.1 * (nth (nget s.2.2.1 (nth s.2.2.2.1 (Int.toNat (((s.2.2.2.2).length : Nat) : Int)))) (Int.toNat s.2.1)))) v60) s.2.1 (((s.2.2.2.2).length : Nat) : Int) s.2.2.2.1 s.2.2.2.2 ((0 : Int), v892)) = some (spec_l06Over_l10_E v56 v57 v58 v59 v60 (Int.tmod (IntKind.i64.wrap (s.1 * (nth (nget s.2.2.1 (nth s.2.2.2.1 (Int.toNat (((s.2.2.2.2).length : Nat) : Int)))) (Int.toNat s.2.1)))) v60) s.2.1 (((s.2.2.2.2).length : Nat) : Int) s.2.2.2.1 s.2.2.2.2 ((0 : Int), v892))) <|
     (.call (spec_l06Over_l10_g v56 v57 v58 v59 v60 (Int.tmod (IntKind.i64.wrap (s.1 * (nth (nget s.2.2.1 (nth s.2.2.2.1 (Int.toNat (((s.2.2.2.2).length : Nat) : Int)))) (Int.toNat s.2.1)))) v60) s.2.1 (((s.2.2.2.2).length : Nat) : Int) s.2.2.2.1 s.2.2.2.2 ((0 : Int), v892)) fun v1007 =>
     (.grd (fits (s.2.2.2.2 ++ ([s.2.1] : List Int)).length) <|
     .leaf (.inl ((Int.tmod (IntKind.i64.wrap (s.1 * (nth (nget s.2.2.1 (nth s.2.2.2.1 (Int.toNat (((s.2.2.2.2).length : Nat) : Int)))) (Int.toNat s.2.1)))) v60), IntKind.i64.wrap (s.2.1 + (1 : Int)), v1007, s.2.2.2.1, s.2.2.2.2 ++ ([s.2.1] : List Int))))))))))))))
    ))
   ))))
  ) (
   .leaf (.inr (s.1, s.2.2.1, s.2.2.2.1, s.2.2.2.2))
  ))

noncomputable def spec_l06Over_l4_g (v56 : Int) (v57 : Int) (v58 : List Int) (v59 : List Int) (v60 : Int) (s0 : Int × Int × (List (List Int)) × (List Nat) × (List Int)) : Option (Int × (List (List Int)) × (List Nat) × (List Int)) := whileM (fun s => (spec_l06Over_l4_T v56 v57 v58 v59 v60 s).run) s0
def spec_l06Over_l4_E (v56 : Int) (v57 : Int) (v58 : List Int) (v59 : List Int) (v60 : Int) (s : Int × Int × (List (List Int)) × (List Nat) × (List Int)) : Sd := ([.bptr (BR.root 0) [.int .i64 v56, .int .i64 v57, .bslc (BR.root 1) (.i64 v58)], .top, .int .i64 v60, .top, .top, .top, .top, .top, .top, .nest 0 0 1 ((s.2.2.2.1).length), .top, .top, .top, .own 1 0 ((s.2.2.2.2).length), .int .i64 s.1, .int .i64 s.2.1, .top, .top, .top, .top, .top, .top, .top, .top, .top, .top, .top, .top, .top, .top, .top, .top, .top, .top, .top, .top, .top, .top, .top, .top, .top, .top, .top, .top, .top, .top, .top, .top, .top, .top, .top, .top, .top, .top, .top, .top, .top, .top, .top, .top, .top, .top, .top, .top, .top, .top, .top, .top, .top, .top, .top, .top, .top, .top, .top, .top, .top, .top, .top, .top, .top, .top, .top, .top, .top, .top, .top, .top, .top, .top, .top, .top, .top, .top, .top, .top, .top, .top, .top, .top, .top, .top, .top, .top, .top, .top, .top, .top, .top, .top, .top, .top, .top, .top, .top, .top, .top, .top, .top, .top, .top, .top, .top, .top, .top, .top, .top, .top, .top, .top, .top, .top, .top, .top, .top, .top, .top, .top, .top, .top, .top, .top, .top, .top, .top, .top, .top, .top, .top, .top, .top, .top, .top, .top, .top, .top, .top, .top, .top, .top, .top, .top, .top, .top, .top, .top, .top, .top, .top, .top, .top, .top, .top, .top, .top, .top, .top, .top, .top, .top, .top, .top, .top, .top, .top, .top, .top, .top, .top, .top, .top, .top, .top, .top, .top, .top, .top, .top, .top, .top, .top, .top, .top, .top, .top, .top, .top, .top, .top, .top, .top, .top, .top, .top, .top, .top, .top, .top, .top, .top, .top, .top, .top, .top, .top, .top], [.nest [.sl (.i64 s.2.2.1) s.2.2.2.1] false 0, .row (.i64 s.2.2.2.2) 0])
def spec_l06Over_l4_X (v56 : Int) (v57 : Int) (v58 : List Int) (v59 : List Int) (v60 : Int) (x : Int × (List (List Int)) × (List Nat) × (List Int)) : Out := (.normal, [.top, .top, .top, .top, .top, .top, .top, .top, .top, .nest 0 0 1 ((x.2.2.1).length), .top, .top, .top, .own 1 0 ((x.2.2.2).length), .int .i64 x.1, .top, .top, .top, .top, .top, .top, .top, .top, .top, .top, .top, .top, .top, .top, .top, .top, .top, .top, .top, .top, .top, .top, .top, .top, .top, .top, .top, .top, .top, .top, .top, .top, .top, .top, .top, .top, .top, .top, .top, .top, .top, .top, .top, .top, .top, .top, .top, .top, .top, .top, .top, .top, .top, .top, .top, .top, .top, .top, .top, .top, .top, .top, .top, .top, .top, .top, .top, .top, .top, .top, .top, .top, .top, .top, .top, .top, .top, .top, .top, .top, .top, .top, .top, .top, .top, .top, .top, .top, .top, .top, .top, .top, .top, .top, .top, .top, .top, .top, .top, .top, .top, .top, .top, .top, .top, .top, .top, .top, .top, .top, .top, .top, .top, .top, .top, .top, .top, .top, .top, .top, .top, .top, .top, .top, .top, .top, .top, .top, .top, .top, .top, .top, .top, .top, .top, .top, .top, .top, .top, .top, .top, .top, .top, .top, .top, .top, .top, .top, .top, .top, .top, .top, .top, .top, .top, .top, .top, .top, .top, .top, .top, .top, .top, .top, .top, .top, .top, .top, .top, .top, .top, .top, .top, .top, .top, .top, .top, .top, .top, .top, .top, .top, .top, .top, .top, .top, .top, .top, .top, .top, .top, .top, .top, .top, .top, .top, .top, .top, .top, .top, .top, .top, .top, .top, .top, .top, .top, .top, .top, .top, .top], [.nest [.sl (.i64 x.2.1) x.2.2.1] false 0, .row (.i64 x.2.2.2) 0])
def spec_l06Over_l4_kill : List Nat := [0, 1, 0, 1, 1, 1, 1, 1, 1, 0, 1, 1, 1, 0, 0, 0, 1, 1, 1, 1, 1, 1, 1, 1, 1, 1, 1, 1, 1, 1, 1, 1, 1, 1, 1, 1, 1, 1, 1, 1, 1, 1, 1, 1, 1, 1, 1, 1, 1, 1, 1, 1, 1, 1, 1, 1, 1, 1, 1, 1, 1, 1, 1, 1, 1, 1, 1, 1, 1, 1, 1, 1, 1, 1, 1, 1, 1, 1, 1, 1, 1, 1, 1, 1, 1, 1, 1, 1, 1, 1, 1, 1, 1, 1, 1, 1, 1, 1, 1, 1, 1, 1, 1, 1, 1, 1, 1, 1, 1, 1, 1, 1, 1, 1, 1, 1, 1, 1, 1, 1, 1, 1, 1, 1, 1, 1, 1, 1, 1, 1, 1, 1, 1, 1, 1, 1, 1, 1, 1, 1, 1, 1, 1, 1, 1, 1, 1, 1, 1, 1, 1, 1, 1, 1, 1, 1, 1, 1, 1, 1, 1, 1, 1, 1, 1, 1, 1, 1, 1, 1, 1, 1, 1, 1, 1, 1, 1, 1, 1, 1, 1, 1, 1, 1, 1, 1, 1, 1, 1, 1, 1, 1, 1, 1, 1, 1, 1, 1, 1, 1, 1, 1, 1, 1, 1, 1, 1, 1, 1, 1, 1, 1, 1, 1, 1, 1, 1, 1, 1, 1, 1, 1, 1, 1, 1, 1]
def spec_l06Over_l4_nx : Exit → List Nat
  | .exit 4 => [1, 1, 1, 1, 1, 1, 1, 1, 1, 0, 1, 1, 1, 0, 0, 1, 1, 1, 1, 1, 1, 1, 1, 1, 1, 1, 1, 1, 1, 1, 1, 1, 1, 1, 1, 1, 1, 1, 1, 1, 1, 1, 1, 1, 1, 1, 1, 1, 1, 1, 1, 1, 1, 1, 1, 1, 1, 1, 1, 1, 1, 1, 1, 1, 1, 1, 1, 1, 1, 1, 1, 1, 1, 1, 1, 1, 1, 1, 1, 1, 1, 1, 1, 1, 1, 1, 1, 1, 1, 1, 1, 1, 1, 1, 1, 1, 1, 1, 1, 1, 1, 1, 1, 1, 1, 1, 1, 1, 1, 1, 1, 1, 1, 1, 1, 1, 1, 1, 1, 1, 1, 1, 1, 1, 1, 1, 1, 1, 1, 1, 1, 1, 1, 1, 1, 1, 1, 1, 1, 1, 1, 1, 1, 1, 1, 1, 1, 1, 1, 1, 1, 1, 1, 1, 1, 1, 1, 1, 1, 1, 1, 1, 1, 1, 1, 1, 1, 1, 1, 1, 1, 1, 1, 1, 1, 1, 1, 1, 1, 1, 1, 1, 1, 1, 1, 1, 1, 1, 1, 1, 1, 1, 1, 1, 1, 1, 1, 1, 1, 1, 1, 1, 1, 1, 1, 1, 1, 1, 1, 1, 1, 1, 1, 1, 1, 1, 1, 1, 1, 1, 1, 1, 1, 1, 1, 1]
  | .ret => [1, 1, 1, 1, 1, 1, 0, 0, 0, 1, 1, 1, 1, 1, 1, 1, 1, 1, 1, 1, 1, 1, 1, 1, 1, 1, 1, 1, 1, 1, 1, 1, 1, 1, 1, 1, 1, 1, 1, 1, 1, 1, 1, 1, 1, 1, 1, 1, 1, 1, 1, 1, 1, 1, 1, 1, 1, 1, 1, 1, 1, 1, 1, 1, 1, 1, 1, 1, 1, 1, 1, 1, 1, 1, 1, 1, 1, 1, 1, 1, 1, 1, 1, 1, 1, 1, 1, 1, 1, 1, 1, 1, 1, 1, 1, 1, 1, 1, 1, 1, 1, 1, 1, 1, 1, 1, 1, 1, 1, 1, 1, 1, 1, 1, 1, 1, 1, 1, 1, 1, 1, 1, 1, 1, 1, 1, 1, 1, 1, 1, 1, 1, 1, 1, 1, 1, 1, 1, 1, 1, 1, 1, 1, 1, 1, 1, 1, 1, 1, 1, 1, 1, 1, 1, 1, 1, 1, 1, 1, 1, 1, 1, 1, 1, 1, 1, 1, 1, 1, 1, 1, 1, 1, 1, 1, 1, 1, 1, 1, 1, 1, 1, 1, 1, 1, 1, 1, 1, 1, 1, 1, 1, 1, 1, 1, 1, 1, 1, 1, 1, 1, 1, 1, 1, 1, 1, 1, 1, 1, 1, 1, 1, 1, 1, 1, 1, 1, 1, 1, 1, 1, 1, 1, 1, 1, 1]
  | _ => []
noncomputable def spec_l06Over_LO (v56 : Int) (v57 : Int) (v58 : List Int) (v59 : List Int) (v60 : Int) : LOr := fun id e L =>
  match id with
  | 2 => .need (normA 0 spec_l06Over_l2_kill e L = some (spec_l06Over_l2_E v56 v57 v58 v59 v60 (gI (vAt e 10)) (gPI L (vAt e 9) 0) (gX L (vAt e 9) 0) ((gI (vAt e 12)), (gRI L (vAt e 11))))) (.call (spec_l06Over_l2_g v57 v58 v60 (gI (vAt e 10)) (gPI L (vAt e 9) 0) (gX L (vAt e 9) 0) ((gI (vAt e 12)), (gRI L (vAt e 11)))) fun x => .leaf (spec_l06Over_l2_X v56 v57 v58 v59 v60 (gI (vAt e 10)) (gPI L (vAt e 9) 0) (gX L (vAt e 9) 0) x))
  | 0 => .need (normA 0 spec_l06Over_l0_kill e L = some (spec_l06Over_l0_E v56 v57 v58 v59 v60 ((gI (vAt e 10)), (gPI L (vAt e 9) 0), (gX L (vAt e 9) 0)))) (.call (spec_l06Over_l0_g v56 v57 v58 v59 v60 ((gI (vAt e 10)), (gPI L (vAt e 9) 0), (gX L (vAt e 9) 0))) fun x => .leaf (spec_l06Over_l0_X v56 v57 v58 v59 v60 x))
  | 6 => .need (normA 0 spec_l06Over_l6_kill e L = some (spec_l06Over_l6_E v56 v57 v58 v59 v60 (gI (vAt e 14)) (gI (vAt e 15)) (gI (vAt e 16)) (gPI L (vAt e 9) 0) (gX L (vAt e 9) 0) (gRI L (vAt e 13)) (gI (vAt e 17)))) (.call (spec_l06Over_l6_g (gI (vAt e 14)) (gI (vAt e 15)) (gI (vAt e 16)) (gPI L (vAt e 9) 0) (gX L (vAt e 9) 0) (gRI L (vAt e 13)) (gI (vAt e 17))) fun x => .leaf (spec_l06Over_l6_X v56 v57 v58 v59 v60 (gI (vAt e 14)) (gI (vAt e 15)) (gI (vAt e 16)) (gPI L (vAt e 9) 0) (gX L (vAt e 9) 0) (gRI L (vAt e 13)) x))
  | 8 => .need (normA 0 spec_l06Over_l8_kill e L = some (spec_l06Over_l8_E v56 v57 v58 v59 v60 (gI (vAt e 14)) (gI (vAt e 15)) (gI (vAt e 16)) (gI (vAt e 19)) (gX L (vAt e 9) 0) (gRI L (vAt e 13)) ((gI (vAt e 20)), (gPI L (vAt e 9) 0)))) (.call (spec_l06Over_l8_g v60 (gI (vAt e 14)) (gI (vAt e 15)) (gI (vAt e 16)) (gI (vAt e 19)) (gX L (vAt e 9) 0) (gRI L (vAt e 13)) ((gI (vAt e 20)), (gPI L (vAt e 9) 0))) fun x => .leaf (spec_l06Over_l8_X v56 v57 v58 v59 v60 (gI (vAt e 14)) (gI (vAt e 15)) (gI (vAt e 16)) (gI (vAt e 19)) (gX L (vAt e 9) 0) (gRI L (vAt e 13)) x))
  | 12 => .need (normA 0 spec_l06Over_l12_kill e L = some (spec_l06Over_l12_E v56 v57 v58 v59 v60 (gI (vAt e 14)) (gI (vAt e 15)) (gI (vAt e 16)) (gI (vAt e 21)) (gI (vAt e 22)) (gX L (vAt e 9) 0) (gRI L (vAt e 13)) ((gI (vAt e 23)), (gPI L (vAt e 9) 0)))) (.call (spec_l06Over_l12_g v60 (gI (vAt e 14)) (gI (vAt e 15)) (gI (vAt e 16)) (gI (vAt e 21)) (gI (vAt e 22)) (gX L (vAt e 9) 0) (gRI L (vAt e 13)) ((gI (vAt e 23)), (gPI L (vAt e 9) 0))) fun x => .leaf (spec_l06Over_l12_X v56 v57 v58 v59 v60 (gI (vAt e 14)) (gI (vAt e 15)) (gI (vAt e 16)) (gI (vAt e 21)) (gI (vAt e 22)) (gX L (vAt e 9) 0) (gRI L (vAt e 13)) x))
  | 10 => .need (normA 0 spec_l06Over_l10_kill e L = some (spec_l06Over_l10_E v56 v57 v58 v59 v60 (gI (vAt e 14)) (gI (vAt e 15)) (gI (vAt e 16)) (gX L (vAt e 9) 0) (gRI L (vAt e 13)) ((gI (vAt e 21)), (gPI L (vAt e 9) 0)))) (.call (spec_l06Over_l10_g v56 v57 v58 v59 v60 (gI (vAt e 14)) (gI (vAt e 15)) (gI (vAt e 16)) (gX L (vAt e 9) 0) (gRI L (vAt e 13)) ((gI (vAt e 21)), (gPI L (vAt e 9) 0))) fun x => .leaf (spec_l06Over_l10_X v56 v57 v58 v59 v60 (gI (vAt e 14)) (gI (vAt e 15)) (gI (vAt e 16)) (gX L (vAt e 9) 0) (gRI L (vAt e 13)) x))
  | 4 => .need (normA 0 spec_l06Over_l4_kill e L = some (spec_l06Over_l4_E v56 v57 v58 v59 v60 ((gI (vAt e 14)), (gI (vAt e 15)), (gPI L (vAt e 9) 0), (gX L (vAt e 9) 0), (gRI L (vAt e 13))))) (.call (spec_l06Over_l4_g v56 v57 v58 v59 v60 ((gI (vAt e 14)), (gI (vAt e 15)), (gPI L (vAt e 9) 0), (gX L (vAt e 9) 0), (gRI L (vAt e 13)))) fun x => .leaf (spec_l06Over_l4_X v56 v57 v58 v59 v60 x))
  | _ => .fail
noncomputable def spec_l06Over_tab : List (FuncId × DFn × Bool) := [(124, spec_l06At_F, true), (68, spec_l06Mod_F, true), (125, spec_l06Back_F, true)]
theorem spec_l06Over_hO : OrcOk Try.prog (tabD spec_l06Over_tab) (tabM spec_l06Over_tab) := tabD_cons spec_l06At_Fok (tabD_cons spec_l06Mod_Fok (tabD_cons spec_l06Back_Fok (tabD_nil _)))
theorem spec_l06Over_l2_be (v56 : Int) (v57 : Int) (v58 : List Int) (v59 : List Int) (v60 : Int) (v126 : Int) (v128 : List (List Int)) (v129 : List Nat) (s : Int × (List Int)) : bodyT TT (tabD spec_l06Over_tab) (tabM spec_l06Over_tab) (spec_l06Over_LO v56 v57 v58 v59 v60) 0 spec_l06Over_l2_kill spec_l06Over_l2_nx (bodyOf Try.f62 2) 2 (spec_l06Over_l2_E v56 v57 v58 v59 v60 v126 v128 v129 s) = (spec_l06Over_l2_T v57 v58 v60 v126 v128 v129 s).bind fun y => .leaf (outS (spec_l06Over_l2_E v56 v57 v58 v59 v60 v126 v128 v129) (spec_l06Over_l2_X v56 v57 v58 v59 v60 v126 v128 v129) y) := by kernel_rfl
theorem spec_l06Over_l2_ok (v56 : Int) (v57 : Int) (v58 : List Int) (v59 : List Int) (v60 : Int) : LSound Try.prog 0 (spec_l06Over_LO v56 v57 v58 v59 v60) 2 (bodyOf Try.f62 2) := by
  intro e L out h
  exact lo_ok (E := spec_l06Over_l2_E v56 v57 v58 v59 v60 (gI (vAt e 10)) (gPI L (vAt e 9) 0) (gX L (vAt e 9) 0)) (gT := spec_l06Over_l2_T v57 v58 v60 (gI (vAt e 10)) (gPI L (vAt e 9) 0) (gX L (vAt e 9) 0)) (X := spec_l06Over_l2_X v56 v57 v58 v59 v60 (gI (vAt e 10)) (gPI L (vAt e 9) 0) (gX L (vAt e 9) 0)) (s0 := ((gI (vAt e 12)), (gRI L (vAt e 11)))) tok spec_l06Over_hO mixed (LoopsOk_eq (l := []) (by kernel_rfl) trivial) (spec_l06Over_l2_be v56 v57 v58 v59 v60 (gI (vAt e 10)) (gPI L (vAt e 9) 0) (gX L (vAt e 9) 0)) rfl (by intro x; rfl) h
theorem spec_l06Over_l0_be (v56 : Int) (v57 : Int) (v58 : List Int) (v59 : List Int) (v60 : Int) (s : Int × (List (List Int)) × (List Nat)) : bodyT TT (tabD spec_l06Over_tab) (tabM spec_l06Over_tab) (spec_l06Over_LO v56 v57 v58 v59 v60) 0 spec_l06Over_l0_kill spec_l06Over_l0_nx (bodyOf Try.f62 0) 0 (spec_l06Over_l0_E v56 v57 v58 v59 v60 s) = (spec_l06Over_l0_T v56 v57 v58 v59 v60 s).bind fun y => .leaf (outS (spec_l06Over_l0_E v56 v57 v58 v59 v60) (spec_l06Over_l0_X v56 v57 v58 v59 v60) y) := by kernel_rfl
theorem spec_l06Over_l0_ok (v56 : Int) (v57 : Int) (v58 : List Int) (v59 : List Int) (v60 : Int) : LSound Try.prog 0 (spec_l06Over_LO v56 v57 v58 v59 v60) 0 (bodyOf Try.f62 0) := by
  intro e L out h
  exact lo_ok (E := spec_l06Over_l0_E v56 v57 v58 v59 v60) (gT := spec_l06Over_l0_T v56 v57 v58 v59 v60) (X := spec_l06Over_l0_X v56 v57 v58 v59 v60) (s0 := ((gI (vAt e 10)), (gPI L (vAt e 9) 0), (gX L (vAt e 9) 0))) tok spec_l06Over_hO mixed (LoopsOk_eq (l := [(2, bodyOf Try.f62 2)]) (by kernel_rfl) ⟨spec_l06Over_l2_ok v56 v57 v58 v59 v60, trivial⟩) (spec_l06Over_l0_be v56 v57 v58 v59 v60) rfl (by intro x; rfl) h
theorem spec_l06Over_l6_be (v56 : Int) (v57 : Int) (v58 : List Int) (v59 : List Int) (v60 : Int) (v717 : Int) (v718 : Int) (v719 : Int) (v721 : List (List Int)) (v722 : List Nat) (v723 : List Int) (s : Int) : bodyT TT (tabD spec_l06Over_tab) (tabM spec_l06Over_tab) (spec_l06Over_LO v56 v57 v58 v59 v60) 0 spec_l06Over_l6_kill spec_l06Over_l6_nx (bodyOf Try.f62 6) 6 (spec_l06Over_l6_E v56 v57 v58 v59 v60 v717 v718 v719 v721 v722 v723 s) = (spec_l06Over_l6_T v717 v718 v719 v721 v722 v723 s).bind fun y => .leaf (outS (spec_l06Over_l6_E v56 v57 v58 v59 v60 v717 v718 v719 v721 v722 v723) (spec_l06Over_l6_X v56 v57 v58 v59 v60 v717 v718 v719 v721 v722 v723) y) := by kernel_rfl
theorem spec_l06Over_l6_ok (v56 : Int) (v57 : Int) (v58 : List Int) (v59 : List Int) (v60 : Int) : LSound Try.prog 0 (spec_l06Over_LO v56 v57 v58 v59 v60) 6 (bodyOf Try.f62 6) := by
  intro e L out h
  exact lo_ok (E := spec_l06Over_l6_E v56 v57 v58 v59 v60 (gI (vAt e 14)) (gI (vAt e 15)) (gI (vAt e 16)) (gPI L (vAt e 9) 0) (gX L (vAt e 9) 0) (gRI L (vAt e 13))) (gT := spec_l06Over_l6_T (gI (vAt e 14)) (gI (vAt e 15)) (gI (vAt e 16)) (gPI L (vAt e 9) 0) (gX L (vAt e 9) 0) (gRI L (vAt e 13))) (X := spec_l06Over_l6_X v56 v57 v58 v59 v60 (gI (vAt e 14)) (gI (vAt e 15)) (gI (vAt e 16)) (gPI L (vAt e 9) 0) (gX L (vAt e 9) 0) (gRI L (vAt e 13))) (s0 := (gI (vAt e 17))) tok spec_l06Over_hO mixed (LoopsOk_eq (l := []) (by kernel_rfl) trivial) (spec_l06Over_l6_be v56 v57 v58 v59 v60 (gI (vAt e 14)) (gI (vAt e 15)) (gI (vAt e 16)) (gPI L (vAt e 9) 0) (gX L (vAt e 9) 0) (gRI L (vAt e 13))) rfl (by intro x; rfl) h
theorem spec_l06Over_l8_be (v56 : Int) (v57 : Int) (v58 : List Int) (v59 : List Int) (v60 : Int) (v743 : Int) (v744 : Int) (v745 : Int) (v746 : Int) (v749 : List Nat) (v750 : List Int) (s : Int × (List (List Int))) : bodyT TT (tabD spec_l06Over_tab) (tabM spec_l06Over_tab) (spec_l06Over_LO v56 v57 v58 v59 v60) 0 spec_l06Over_l8_kill spec_l06Over_l8_nx (bodyOf Try.f62 8) 8 (spec_l06Over_l8_E v56 v57 v58 v59 v60 v743 v744 v745 v746 v749 v750 s) = (spec_l06Over_l8_T v60 v743 v744 v745 v746 v749 v750 s).bind fun y => .leaf (outS (spec_l06Over_l8_E v56 v57 v58 v59 v60 v743 v744 v745 v746 v749 v750) (spec_l06Over_l8_X v56 v57 v58 v59 v60 v743 v744 v745 v746 v749 v750) y) := by kernel_rfl
theorem spec_l06Over_l8_ok (v56 : Int) (v57 : Int) (v58 : List Int) (v59 : List Int) (v60 : Int) : LSound Try.prog 0 (spec_l06Over_LO v56 v57 v58 v59 v60) 8 (bodyOf Try.f62 8) := by
  intro e L out h
  exact lo_ok (E := spec_l06Over_l8_E v56 v57 v58 v59 v60 (gI (vAt e 14)) (gI (vAt e 15)) (gI (vAt e 16)) (gI (vAt e 19)) (gX L (vAt e 9) 0) (gRI L (vAt e 13))) (gT := spec_l06Over_l8_T v60 (gI (vAt e 14)) (gI (vAt e 15)) (gI (vAt e 16)) (gI (vAt e 19)) (gX L (vAt e 9) 0) (gRI L (vAt e 13))) (X := spec_l06Over_l8_X v56 v57 v58 v59 v60 (gI (vAt e 14)) (gI (vAt e 15)) (gI (vAt e 16)) (gI (vAt e 19)) (gX L (vAt e 9) 0) (gRI L (vAt e 13))) (s0 := ((gI (vAt e 20)), (gPI L (vAt e 9) 0))) tok spec_l06Over_hO mixed (LoopsOk_eq (l := []) (by kernel_rfl) trivial) (spec_l06Over_l8_be v56 v57 v58 v59 v60 (gI (vAt e 14)) (gI (vAt e 15)) (gI (vAt e 16)) (gI (vAt e 19)) (gX L (vAt e 9) 0) (gRI L (vAt e 13))) rfl (by intro x; rfl) h
theorem spec_l06Over_l12_be (v56 : Int) (v57 : Int) (v58 : List Int) (v59 : List Int) (v60 : Int) (v855 : Int) (v856 : Int) (v857 : Int) (v858 : Int) (v859 : Int) (v862 : List Nat) (v863 : List Int) (s : Int × (List (List Int))) : bodyT TT (tabD spec_l06Over_tab) (tabM spec_l06Over_tab) (spec_l06Over_LO v56 v57 v58 v59 v60) 0 spec_l06Over_l12_kill spec_l06Over_l12_nx (bodyOf Try.f62 12) 12 (spec_l06Over_l12_E v56 v57 v58 v59 v60 v855 v856 v857 v858 v859 v862 v863 s) = (spec_l06Over_l12_T v60 v855 v856 v857 v858 v859 v862 v863 s).bind fun y => .leaf (outS (spec_l06Over_l12_E v56 v57 v58 v59 v60 v855 v856 v857 v858 v859 v862 v863) (spec_l06Over_l12_X v56 v57 v58 v59 v60 v855 v856 v857 v858 v859 v862 v863) y) := by kernel_rfl
theorem spec_l06Over_l12_ok (v56 : Int) (v57 : Int) (v58 : List Int) (v59 : List Int) (v60 : Int) : LSound Try.prog 0 (spec_l06Over_LO v56 v57 v58 v59 v60) 12 (bodyOf Try.f62 12) := by
  intro e L out h
  exact lo_ok (E := spec_l06Over_l12_E v56 v57 v58 v59 v60 (gI (vAt e 14)) (gI (vAt e 15)) (gI (vAt e 16)) (gI (vAt e 21)) (gI (vAt e 22)) (gX L (vAt e 9) 0) (gRI L (vAt e 13))) (gT := spec_l06Over_l12_T v60 (gI (vAt e 14)) (gI (vAt e 15)) (gI (vAt e 16)) (gI (vAt e 21)) (gI (vAt e 22)) (gX L (vAt e 9) 0) (gRI L (vAt e 13))) (X := spec_l06Over_l12_X v56 v57 v58 v59 v60 (gI (vAt e 14)) (gI (vAt e 15)) (gI (vAt e 16)) (gI (vAt e 21)) (gI (vAt e 22)) (gX L (vAt e 9) 0) (gRI L (vAt e 13))) (s0 := ((gI (vAt e 23)), (gPI L (vAt e 9) 0))) tok spec_l06Over_hO mixed (LoopsOk_eq (l := []) (by kernel_rfl) trivial) (spec_l06Over_l12_be v56 v57 v58 v59 v60 (gI (vAt e 14)) (gI (vAt e 15)) (gI (vAt e 16)) (gI (vAt e 21)) (gI (vAt e 22)) (gX L (vAt e 9) 0) (gRI L (vAt e 13))) rfl (by intro x; rfl) h
theorem spec_l06Over_l10_be (v56 : Int) (v57 : Int) (v58 : List Int) (v59 : List Int) (v60 : Int) (v828 : Int) (v829 : Int) (v830 : Int) (v833 : List Nat) (v834 : List Int) (s : Int × (List (List Int))) : bodyT TT (tabD spec_l06Over_tab) (tabM spec_l06Over_tab) (spec_l06Over_LO v56 v57 v58 v59 v60) 0 spec_l06Over_l10_kill spec_l06Over_l10_nx (bodyOf Try.f62 10) 10 (spec_l06Over_l10_E v56 v57 v58 v59 v60 v828 v829 v830 v833 v834 s) = (spec_l06Over_l10_T v56 v57 v58 v59 v60 v828 v829 v830 v833 v834 s).bind fun y => .leaf (outS (spec_l06Over_l10_E v56 v57 v58 v59 v60 v828 v829 v830 v833 v834) (spec_l06Over_l10_X v56 v57 v58 v59 v60 v828 v829 v830 v833 v834) y) := by kernel_rfl
theorem spec_l06Over_l10_ok (v56 : Int) (v57 : Int) (v58 : List Int) (v59 : List Int) (v60 : Int) : LSound Try.prog 0 (spec_l06Over_LO v56 v57 v58 v59 v60) 10 (bodyOf Try.f62 10) := by
  intro e L out h
  exact lo_ok (E := spec_l06Over_l10_E v56 v57 v58 v59 v60 (gI (vAt e 14)) (gI (vAt e 15)) (gI (vAt e 16)) (gX L (vAt e 9) 0) (gRI L (vAt e 13))) (gT := spec_l06Over_l10_T v56 v57 v58 v59 v60 (gI (vAt e 14)) (gI (vAt e 15)) (gI (vAt e 16)) (gX L (vAt e 9) 0) (gRI L (vAt e 13))) (X := spec_l06Over_l10_X v56 v57 v58 v59 v60 (gI (vAt e 14)) (gI (vAt e 15)) (gI (vAt e 16)) (gX L (vAt e 9) 0) (gRI L (vAt e 13))) (s0 := ((gI (vAt e 21)), (gPI L (vAt e 9) 0))) tok spec_l06Over_hO mixed (LoopsOk_eq (l := [(12, bodyOf Try.f62 12)]) (by kernel_rfl) ⟨spec_l06Over_l12_ok v56 v57 v58 v59 v60, trivial⟩) (spec_l06Over_l10_be v56 v57 v58 v59 v60 (gI (vAt e 14)) (gI (vAt e 15)) (gI (vAt e 16)) (gX L (vAt e 9) 0) (gRI L (vAt e 13))) rfl (by intro x; rfl) h
theorem spec_l06Over_l4_be (v56 : Int) (v57 : Int) (v58 : List Int) (v59 : List Int) (v60 : Int) (s : Int × Int × (List (List Int)) × (List Nat) × (List Int)) : bodyT TT (tabD spec_l06Over_tab) (tabM spec_l06Over_tab) (spec_l06Over_LO v56 v57 v58 v59 v60) 0 spec_l06Over_l4_kill spec_l06Over_l4_nx (bodyOf Try.f62 4) 4 (spec_l06Over_l4_E v56 v57 v58 v59 v60 s) = (spec_l06Over_l4_T v56 v57 v58 v59 v60 s).bind fun y => .leaf (outS (spec_l06Over_l4_E v56 v57 v58 v59 v60) (spec_l06Over_l4_X v56 v57 v58 v59 v60) y) := by kernel_rfl
theorem spec_l06Over_l4_ok (v56 : Int) (v57 : Int) (v58 : List Int) (v59 : List Int) (v60 : Int) : LSound Try.prog 0 (spec_l06Over_LO v56 v57 v58 v59 v60) 4 (bodyOf Try.f62 4) := by
  intro e L out h
  exact lo_ok (E := spec_l06Over_l4_E v56 v57 v58 v59 v60) (gT := spec_l06Over_l4_T v56 v57 v58 v59 v60) (X := spec_l06Over_l4_X v56 v57 v58 v59 v60) (s0 := ((gI (vAt e 14)), (gI (vAt e 15)), (gPI L (vAt e 9) 0), (gX L (vAt e 9) 0), (gRI L (vAt e 13)))) tok spec_l06Over_hO mixed (LoopsOk_eq (l := [(6, bodyOf Try.f62 6), (8, bodyOf Try.f62 8), (10, bodyOf Try.f62 10)]) (by kernel_rfl) ⟨spec_l06Over_l6_ok v56 v57 v58 v59 v60, spec_l06Over_l8_ok v56 v57 v58 v59 v60, spec_l06Over_l10_ok v56 v57 v58 v59 v60, trivial⟩) (spec_l06Over_l4_be v56 v57 v58 v59 v60) rfl (by intro x; rfl) h
noncomputable def spec_l06Over_T (v56 : Int) (v57 : Int) (v58 : List Int) (v59 : List Int) (v60 : Int) : Tree (Int × (List (List Int)) × (List Nat) × (List Int)) :=
  (.need (some (spec_l06Over_l0_E v56 v57 v58 v59 v60 ((0 : Int), ([] : List (List Int)), ([] : List Nat))) = some (spec_l06Over_l0_E v56 v57 v58 v59 v60 ((0 : Int), ([] : List (List Int)), ([] : List Nat)))) <|
  (.call (spec_l06Over_l0_g v56 v57 v58 v59 v60 ((0 : Int), ([] : List (List Int)), ([] : List Nat))) fun v135 =>
  (.need (some (spec_l06Over_l4_E v56 v57 v58 v59 v60 ((1 : Int), (0 : Int), v135.1, v135.2, ([] : List Int))) = some (spec_l06Over_l4_E v56 v57 v58 v59 v60 ((1 : Int), (0 : Int), v135.1, v135.2, ([] : List Int)))) <|
  (.call (spec_l06Over_l4_g v56 v57 v58 v59 v60 ((1 : Int), (0 : Int), v135.1, v135.2, ([] : List Int))) fun v1008 =>
  .leaf (v1008.1, v1008.2.1, v1008.2.2.1, v1008.2.2.2)))))

noncomputable def spec_l06Over_g (v56 : Int) (v57 : Int) (v58 : List Int) (v59 : List Int) (v60 : Int) : Option (Int × (List (List Int)) × (List Nat) × (List Int)) := (spec_l06Over_T v56 v57 v58 v59 v60).run
def spec_l06Over_enc (v56 : Int) (v57 : Int) (v58 : List Int) (v59 : List Int) (v60 : Int) (y : Int × (List (List Int)) × (List Nat) × (List Int)) : Rs := (.tup [.nest 0 0 1 ((y.2.2.1).length), .own 1 0 ((y.2.2.2).length), .int .i64 y.1], [.nest [.sl (.i64 y.2.1) y.2.2.1] false 0, .row (.i64 y.2.2.2) 0])
theorem spec_l06Over_den (v56 : Int) (v57 : Int) (v58 : List Int) (v59 : List Int) (v60 : Int) : (den TT (tabD spec_l06Over_tab) (tabM spec_l06Over_tab) (spec_l06Over_LO v56 v57 v58 v59 v60) (codeOf Try.f62) ([.bptr (BR.root 0) [.int .i64 v56, .int .i64 v57, .bslc (BR.root 1) (.i64 v58)], .bslc (BR.root 2) (.i64 v59), .int .i64 v60] ++ List.replicate (Try.f62.ntmps - ([.bptr (BR.root 0) [.int .i64 v56, .int .i64 v57, .bslc (BR.root 1) (.i64 v58)], .bslc (BR.root 2) (.i64 v59), .int .i64 v60] : List DV).length) .undef) []).bind (retD TT Try.f62.results.toList 0) = (spec_l06Over_T v56 v57 v58 v59 v60).bind fun y => .leaf (spec_l06Over_enc v56 v57 v58 v59 v60 y) := by kernel_rfl
theorem spec_l06Over_fn (v56 : Int) (v57 : Int) (v58 : List Int) (v59 : List Int) (v60 : Int) (F : Fr) (h0 : St F [] F.H0) (hA : DVs.Ok F [] [.bptr (BR.root 0) [.int .i64 v56, .int .i64 v57, .bslc (BR.root 1) (.i64 v58)], .bslc (BR.root 2) (.i64 v59), .int .i64 v60]) {y : Int × (List (List Int)) × (List Nat) × (List Int)} (hy : spec_l06Over_g v56 v57 v58 v59 v60 = some y) : ∃ F' H', Fwd 0 F F' [] (spec_l06Over_enc v56 v57 v58 v59 v60 y).2 ∧ FnOk Try.prog 62 (DVs.av F [.bptr (BR.root 0) [.int .i64 v56, .int .i64 v57, .bslc (BR.root 1) (.i64 v58)], .bslc (BR.root 2) (.i64 v59), .int .i64 v60]) F.H0 ((spec_l06Over_enc v56 v57 v58 v59 v60 y).1.av F') H' ∧ St F' (spec_l06Over_enc v56 v57 v58 v59 v60 y).2 H' ∧ (spec_l06Over_enc v56 v57 v58 v59 v60 y).1.Ok F' (spec_l06Over_enc v56 v57 v58 v59 v60 y).2 :=
  fn_fin tok spec_l06Over_hO mixed Try.func62 Try.call62 (by kernel_rfl) (LoopsOk_eq (l := [(0, bodyOf Try.f62 0), (4, bodyOf Try.f62 4)]) (by kernel_rfl) ⟨spec_l06Over_l0_ok v56 v57 v58 v59 v60, spec_l06Over_l4_ok v56 v57 v58 v59 v60, trivial⟩) (spec_l06Over_den v56 v57 v58 v59 v60) hy h0 hA
noncomputable def spec_l06Over_F : DFn := fun args L =>
  match args with
  | [a1, a3, .int .i64 v60] =>
    optT (cellsOf L 3 a1) fun cs0 =>
    (match cs0 with
    | [.int .i64 v56, .int .i64 v57, a2] =>
    optT (rowI64 L a2) fun v58 =>
    optT (rowI64 L a3) fun v59 =>
    .call (spec_l06Over_g v56 v57 v58 v59 v60) fun y => .leaf (.tup [.nest (L.length + 0) 0 1 ((y.2.2.1).length), .own (L.length + 1) 0 ((y.2.2.2).length), .int .i64 y.1], L ++ [.nest [.sl (.i64 y.2.1) y.2.2.1] false 0, .row (.i64 y.2.2.2) 0])
    | _ => .fail)
  | _ => .fail
theorem spec_l06Over_Fok : COk Try.prog 62 spec_l06Over_F true := by
  intro F L H args r L' hs ha hr
  unfold spec_l06Over_F at hr
  split at hr
  · rename_i a1 a3 v60
    obtain ⟨cs0, hcp0, hr⟩ := optT_run hr
    split at hr
    · rename_i v56 v57 a2
      obtain ⟨v58, hv58, hr⟩ := optT_run hr
      obtain ⟨v59, hv59, hr⟩ := optT_run hr
      simp only [Tree.run] at hr
      obtain ⟨y, hy, hr⟩ := Option.bind_eq_some_iff.1 hr
      simp only [Tree.run, Option.some.injEq, Prod.mk.injEq] at hr
      obtain ⟨rfl, rfl⟩ := hr
      exact call_ok1 hs (fun k => (([a1.av F, a2.av F, a3.av F] : List AV)[k]?).getD .top) [a1, a3, .int .i64 v60] [.bptr (BR.root 0) [.int .i64 v56, .int .i64 v57, .bslc (BR.root 1) (.i64 v58)], .bslc (BR.root 2) (.i64 v59), .int .i64 v60] (fun F' h0 hi hρ => ⟨by simp [DVs.av, DV.av, BR.av, hρ], spec_l06Over_fn v56 v57 v58 v59 v60 F' (st_nil hi) ⟨bptr_ok hi (by rw [h0]; simpa [DVs.av, DV.av, BR.av, hρ] using (cellsOf_ok hs (DVs.okAt ha 0 rfl) hcp0).1) ⟨trivial, trivial, bslc_ok hi (by rw [h0, hρ]; exact rowI64_ok hs (DVs.okAt (cellsOf_ok hs (DVs.okAt ha 0 rfl) hcp0).2 2 rfl) hv58), trivial⟩, bslc_ok hi (by rw [h0, hρ]; exact rowI64_ok hs (DVs.okAt ha 1 rfl) hv59), trivial, trivial⟩ hy⟩) rfl rfl
    · cases hr
  · cases hr
/-! spec.SolveOver -/
noncomputable def spec_SolveOver_l0_T (v26 : Int) (v1020 : List (List Int)) (v1021 : List Nat) (v1022 : List Int) (s : Int × (List Int)) : Tree ((Int × (List Int)) ⊕ ((Unit) ⊕ ((List Int)))) :=
  (.br (decide (s.1 < (((v1021).length : Nat) : Int))) (
   (.grd (inb s.1 ((v1021).length)) <|
   (.grd (inb v26 ((nget v1020 (nth v1021 (Int.toNat s.1))).length)) <|
   (.br (decide (s.1 < (((v1022).length : Nat) : Int))) (
    (.grd (inb s.1 ((v1022).length)) <|
    (.grd (inb (nth v1022 (Int.toNat s.1)) ((s.2).length)) <|
    .leaf (.inl (IntKind.i64.wrap (s.1 + (1 : Int)), List.set s.2 (Int.toNat (nth v1022 (Int.toNat s.1))) (nth (nget v1020 (nth v1021 (Int.toNat s.1))) (Int.toNat v26))))))
   ) (
    (.br (!decide (nth (nget v1020 (nth v1021 (Int.toNat s.1))) (Int.toNat v26) = (0 : Int))) (
     .leaf (.inr (.inl ()))
    ) (
     .leaf (.inl (IntKind.i64.wrap (s.1 + (1 : Int)), s.2))
    ))
   ))))
  ) (
   .leaf (.inr (.inr s.2))
  ))

noncomputable def spec_SolveOver_l0_g (v26 : Int) (v1020 : List (List Int)) (v1021 : List Nat) (v1022 : List Int) (s0 : Int × (List Int)) : Option ((Unit) ⊕ ((List Int))) := whileM (fun s => (spec_SolveOver_l0_T v26 v1020 v1021 v1022 s).run) s0
def spec_SolveOver_l0_E (v25 : Int) (v26 : Int) (v27 : List Int) (v28 : List Int) (v29 : Int) (v1020 : List (List Int)) (v1021 : List Nat) (v1022 : List Int) (s : Int × (List Int)) : Sd := ([.top, .top, .top, .ptr 0 (0 : Nat) 0 (3 : Nat), .top, .top, .top, .top, .nest 1 0 1 ((v1021).length), .own 2 0 ((v1022).length), .top, .own 3 0 ((s.2).length), .int .i64 s.1, .top, .top, .top, .top, .top, .top, .top, .top, .top, .top, .top, .top, .top, .top, .top, .top, .top, .top, .top, .top, .top, .top, .top, .top, .top, .top, .top, .top, .top, .top, .top, .top, .top, .top, .top, .top, .top, .top, .top, .top, .top, .top, .top, .top, .top, .top, .top, .top, .top, .top, .top, .top, .top, .top, .top, .top, .top, .top], [.gen [.int .i64 v25, .int .i64 v26, .bslc (BR.root 0) (.i64 v27)] false 0, .nest [.sl (.i64 v1020) v1021] false 0, .row (.i64 v1022) 0, .row (.i64 s.2) 0])
def spec_SolveOver_l0_X (v25 : Int) (v26 : Int) (v27 : List Int) (v28 : List Int) (v29 : Int) (v1020 : List (List Int)) (v1021 : List Nat) (v1022 : List Int) (x : (Unit) ⊕ ((List Int))) : Out := (match x with | .inl x => (.ret, [.top, .top, .top, .top, .top, .top, .nilslc, .lit false, .top, .top, .top, .top, .top, .top, .top, .top, .top, .top, .top, .top, .top, .top, .top, .top, .top, .top, .top, .top, .top, .top, .top, .top, .top, .top, .top, .top, .top, .top, .top, .top, .top, .top, .top, .top, .top, .top, .top, .top, .top, .top, .top, .top, .top, .top, .top, .top, .top, .top, .top, .top, .top, .top, .top, .top, .top, .top, .top, .top, .top, .top, .top], []) | .inr x => (.normal, [.top, .top, .top, .top, .top, .top, .top, .top, .top, .top, .top, .own 0 0 ((x).length), .top, .top, .top, .top, .top, .top, .top, .top, .top, .top, .top, .top, .top, .top, .top, .top, .top, .top, .top, .top, .top, .top, .top, .top, .top, .top, .top, .top, .top, .top, .top, .top, .top, .top, .top, .top, .top, .top, .top, .top, .top, .top, .top, .top, .top, .top, .top, .top, .top, .top, .top, .top, .top, .top, .top, .top, .top, .top, .top], [.row (.i64 x) 0]))
def spec_SolveOver_l0_kill : List Nat := [1, 1, 1, 0, 1, 1, 1, 1, 0, 0, 1, 0, 0, 1, 1, 1, 1, 1, 1, 1, 1, 1, 1, 1, 1, 1, 1, 1, 1, 1, 1, 1, 1, 1, 1, 1, 1, 1, 1, 1, 1, 1, 1, 1, 1, 1, 1, 1, 1, 1, 1, 1, 1, 1, 1, 1, 1, 1, 1, 1, 1, 1, 1, 1, 1, 1, 1, 1, 1, 1, 1]
def spec_SolveOver_l0_nx : Exit → List Nat
  | .exit 0 => [1, 1, 1, 1, 1, 1, 1, 1, 1, 1, 1, 0, 1, 1, 1, 1, 1, 1, 1, 1, 1, 1, 1, 1, 1, 1, 1, 1, 1, 1, 1, 1, 1, 1, 1, 1, 1, 1, 1, 1, 1, 1, 1, 1, 1, 1, 1, 1, 1, 1, 1, 1, 1, 1, 1, 1, 1, 1, 1, 1, 1, 1, 1, 1, 1, 1, 1, 1, 1, 1, 1]
  | .ret => [1, 1, 1, 1, 1, 1, 0, 0, 1, 1, 1, 1, 1, 1, 1, 1, 1, 1, 1, 1, 1, 1, 1, 1, 1, 1, 1, 1, 1, 1, 1, 1, 1, 1, 1, 1, 1, 1, 1, 1, 1, 1, 1, 1, 1, 1, 1, 1, 1, 1, 1, 1, 1, 1, 1, 1, 1, 1, 1, 1, 1, 1, 1, 1, 1, 1, 1, 1, 1, 1, 1]
  | _ => []
noncomputable def spec_SolveOver_LO (v25 : Int) (v26 : Int) (v27 : List Int) (v28 : List Int) (v29 : Int) : LOr := fun id e L =>
  match id with
  | 0 => .need (normA 0 spec_SolveOver_l0_kill e L = some (spec_SolveOver_l0_E v25 v26 v27 v28 v29 (gPI L (vAt e 8) 0) (gX L (vAt e 8) 0) (gRI L (vAt e 9)) ((gI (vAt e 12)), (gRI L (vAt e 11))))) (.call (spec_SolveOver_l0_g v26 (gPI L (vAt e 8) 0) (gX L (vAt e 8) 0) (gRI L (vAt e 9)) ((gI (vAt e 12)), (gRI L (vAt e 11)))) fun x => .sum x (fun b0 => .leaf (spec_SolveOver_l0_X v25 v26 v27 v28 v29 (gPI L (vAt e 8) 0) (gX L (vAt e 8) 0) (gRI L (vAt e 9)) (.inl b0))) (fun c0 => .leaf (spec_SolveOver_l0_X v25 v26 v27 v28 v29 (gPI L (vAt e 8) 0) (gX L (vAt e 8) 0) (gRI L (vAt e 9)) (.inr c0))))
  | _ => .fail
noncomputable def spec_SolveOver_tab : List (FuncId × DFn × Bool) := [(60, spec_l06Is_F, true), (61, spec_l06Prime_F, true), (66, spec_l06Bound_F, true), (62, spec_l06Over_F, true)]
theorem spec_SolveOver_hO : OrcOk Try.prog (tabD spec_SolveOver_tab) (tabM spec_SolveOver_tab) := tabD_cons spec_l06Is_Fok (tabD_cons spec_l06Prime_Fok (tabD_cons spec_l06Bound_Fok (tabD_cons spec_l06Over_Fok (tabD_nil _))))
theorem spec_SolveOver_l0_be (v25 : Int) (v26 : Int) (v27 : List Int) (v28 : List Int) (v29 : Int) (v1020 : List (List Int)) (v1021 : List Nat) (v1022 : List Int) (s : Int × (List Int)) : bodyT TT (tabD spec_SolveOver_tab) (tabM spec_SolveOver_tab) (spec_SolveOver_LO v25 v26 v27 v28 v29) 0 spec_SolveOver_l0_kill spec_SolveOver_l0_nx (bodyOf Try.f19 0) 0 (spec_SolveOver_l0_E v25 v26 v27 v28 v29 v1020 v1021 v1022 s) = (spec_SolveOver_l0_T v26 v1020 v1021 v1022 s).bind fun y => .leaf (outS (spec_SolveOver_l0_E v25 v26 v27 v28 v29 v1020 v1021 v1022) (spec_SolveOver_l0_X v25 v26 v27 v28 v29 v1020 v1021 v1022) y) := by kernel_rfl
theorem spec_SolveOver_l0_ok (v25 : Int) (v26 : Int) (v27 : List Int) (v28 : List Int) (v29 : Int) : LSound Try.prog 0 (spec_SolveOver_LO v25 v26 v27 v28 v29) 0 (bodyOf Try.f19 0) := by
  intro e L out h
  exact lo_ok (E := spec_SolveOver_l0_E v25 v26 v27 v28 v29 (gPI L (vAt e 8) 0) (gX L (vAt e 8) 0) (gRI L (vAt e 9))) (gT := spec_SolveOver_l0_T v26 (gPI L (vAt e 8) 0) (gX L (vAt e 8) 0) (gRI L (vAt e 9))) (X := spec_SolveOver_l0_X v25 v26 v27 v28 v29 (gPI L (vAt e 8) 0) (gX L (vAt e 8) 0) (gRI L (vAt e 9))) (s0 := ((gI (vAt e 12)), (gRI L (vAt e 11)))) tok spec_SolveOver_hO mixed (LoopsOk_eq (l := []) (by kernel_rfl) trivial) (spec_SolveOver_l0_be v25 v26 v27 v28 v29 (gPI L (vAt e 8) 0) (gX L (vAt e 8) 0) (gRI L (vAt e 9))) rfl (by intro x; (cases x with | inl b => rfl | inr x => exact rfl)) h
noncomputable def spec_SolveOver_T (v25 : Int) (v26 : Int) (v27 : List Int) (v28 : List Int) (v29 : Int) : Tree ((Unit) ⊕ ((List Int))) :=
  (.call (spec_l06Is_g v25 v26 v27 (1000000 : Int)) fun v46 =>
  (.br (!v46) (
   .leaf (.inl ())
  ) (
   (.call (spec_l06Prime_g v29) fun v54 =>
   (.br (!v54) (
    .leaf (.inl ())
   ) (
    (.br (!decide (((v28.length : Nat) : Int) = v25)) (
     .leaf (.inl ())
    ) (
     (.call (spec_l06Bound_g v28 (1000000 : Int)) fun v55 =>
     (.br (!v55) (
      .leaf (.inl ())
     ) (
      (.call (spec_l06Over_g v25 v26 v27 v28 v29) fun v1009 =>
      (.need (v26 = v26) <|
      (.grd (inb v26 (maxN + 1)) <|
      (.need (some (spec_SolveOver_l0_E v25 v26 v27 v28 v29 v1009.2.1 v1009.2.2.1 v1009.2.2.2 ((0 : Int), List.replicate (Int.toNat v26) (0 : Int))) = some (spec_SolveOver_l0_E v25 v26 v27 v28 v29 v1009.2.1 v1009.2.2.1 v1009.2.2.2 ((0 : Int), List.replicate (Int.toNat v26) (0 : Int)))) <|
      (.call (spec_SolveOver_l0_g v26 v1009.2.1 v1009.2.2.1 v1009.2.2.2 ((0 : Int), List.replicate (Int.toNat v26) (0 : Int))) fun v1024 =>
      (.sum v1024 (fun v1025 =>
       .leaf (.inl ())
      ) (fun v1026 =>
       .leaf (.inr v1026)
      )))))))
     )))
    ))
   )))
  )))

noncomputable def spec_SolveOver_g (v25 : Int) (v26 : Int) (v27 : List Int) (v28 : List Int) (v29 : Int) : Option ((Unit) ⊕ ((List Int))) := (spec_SolveOver_T v25 v26 v27 v28 v29).run
def spec_SolveOver_enc (v25 : Int) (v26 : Int) (v27 : List Int) (v28 : List Int) (v29 : Int) (y : (Unit) ⊕ ((List Int))) : Rs := (match y with | .inl y => (.tup [.nilslc, .lit false], []) | .inr y => (.tup [.own 0 0 ((y).length), .lit true], [.row (.i64 y) 0]))
theorem spec_SolveOver_den (v25 : Int) (v26 : Int) (v27 : List Int) (v28 : List Int) (v29 : Int) : (den TT (tabD spec_SolveOver_tab) (tabM spec_SolveOver_tab) (spec_SolveOver_LO v25 v26 v27 v28 v29) (codeOf Try.f19) ([.agg [.int .i64 v25, .int .i64 v26, .bslc (BR.root 0) (.i64 v27)], .bslc (BR.root 1) (.i64 v28), .int .i64 v29] ++ List.replicate (Try.f19.ntmps - ([.agg [.int .i64 v25, .int .i64 v26, .bslc (BR.root 0) (.i64 v27)], .bslc (BR.root 1) (.i64 v28), .int .i64 v29] : List DV).length) .undef) []).bind (retD TT Try.f19.results.toList 0) = (spec_SolveOver_T v25 v26 v27 v28 v29).bind fun y => .leaf (spec_SolveOver_enc v25 v26 v27 v28 v29 y) := by kernel_rfl
theorem spec_SolveOver_fn (v25 : Int) (v26 : Int) (v27 : List Int) (v28 : List Int) (v29 : Int) (F : Fr) (h0 : St F [] F.H0) (hA : DVs.Ok F [] [.agg [.int .i64 v25, .int .i64 v26, .bslc (BR.root 0) (.i64 v27)], .bslc (BR.root 1) (.i64 v28), .int .i64 v29]) {y : (Unit) ⊕ ((List Int))} (hy : spec_SolveOver_g v25 v26 v27 v28 v29 = some y) : ∃ F' H', Fwd 0 F F' [] (spec_SolveOver_enc v25 v26 v27 v28 v29 y).2 ∧ FnOk Try.prog 19 (DVs.av F [.agg [.int .i64 v25, .int .i64 v26, .bslc (BR.root 0) (.i64 v27)], .bslc (BR.root 1) (.i64 v28), .int .i64 v29]) F.H0 ((spec_SolveOver_enc v25 v26 v27 v28 v29 y).1.av F') H' ∧ St F' (spec_SolveOver_enc v25 v26 v27 v28 v29 y).2 H' ∧ (spec_SolveOver_enc v25 v26 v27 v28 v29 y).1.Ok F' (spec_SolveOver_enc v25 v26 v27 v28 v29 y).2 :=
  fn_fin tok spec_SolveOver_hO mixed Try.func19 Try.call19 (by kernel_rfl) (LoopsOk_eq (l := [(0, bodyOf Try.f19 0)]) (by kernel_rfl) ⟨spec_SolveOver_l0_ok v25 v26 v27 v28 v29, trivial⟩) (spec_SolveOver_den v25 v26 v27 v28 v29) hy h0 hA
noncomputable def spec_SolveOver_F : DFn := fun args L =>
  match args with
  | [.agg [.int .i64 v25, .int .i64 v26, a1], a2, .int .i64 v29] =>
    optT (rowI64 L a1) fun v27 =>
    optT (rowI64 L a2) fun v28 =>
    .call (spec_SolveOver_g v25 v26 v27 v28 v29) fun y => .sum y (fun y0 => .leaf (.tup [.nilslc, .lit false], L)) (fun z0 => .leaf (.tup [.own (L.length + 0) 0 ((z0).length), .lit true], L ++ [.row (.i64 z0) 0]))
  | _ => .fail
theorem spec_SolveOver_Fok : COk Try.prog 19 spec_SolveOver_F true := by
  intro F L H args r L' hs ha hr
  unfold spec_SolveOver_F at hr
  split at hr
  · rename_i v25 v26 a1 a2 v29
    obtain ⟨v27, hv27, hr⟩ := optT_run hr
    obtain ⟨v28, hv28, hr⟩ := optT_run hr
    simp only [Tree.run] at hr
    obtain ⟨y, hy, hr⟩ := Option.bind_eq_some_iff.1 hr
    cases y with
    | inl y =>
      simp only [Tree.run, Option.some.injEq, Prod.mk.injEq] at hr
      obtain ⟨rfl, rfl⟩ := hr
      exact call_ok0 hs (fun k => (([a1.av F, a2.av F] : List AV)[k]?).getD .top) [.agg [.int .i64 v25, .int .i64 v26, a1], a2, .int .i64 v29] [.agg [.int .i64 v25, .int .i64 v26, .bslc (BR.root 0) (.i64 v27)], .bslc (BR.root 1) (.i64 v28), .int .i64 v29] (fun F' h0 hi hρ => ⟨by simp [DVs.av, DV.av, BR.av, hρ], spec_SolveOver_fn v25 v26 v27 v28 v29 F' (st_nil hi) ⟨⟨trivial, trivial, bslc_ok hi (by rw [h0, hρ]; exact rowI64_ok hs (DVs.okAt (DVs.okAt ha 0 rfl) 2 rfl) hv27), trivial⟩, bslc_ok hi (by rw [h0, hρ]; exact rowI64_ok hs (DVs.okAt ha 1 rfl) hv28), trivial, trivial⟩ hy⟩) rfl
    | inr y =>
      simp only [Tree.run, Option.some.injEq, Prod.mk.injEq] at hr
      obtain ⟨rfl, rfl⟩ := hr
      exact call_ok1 hs (fun k => (([a1.av F, a2.av F] : List AV)[k]?).getD .top) [.agg [.int .i64 v25, .int .i64 v26, a1], a2, .int .i64 v29] [.agg [.int .i64 v25, .int .i64 v26, .bslc (BR.root 0) (.i64 v27)], .bslc (BR.root 1) (.i64 v28), .int .i64 v29] (fun F' h0 hi hρ => ⟨by simp [DVs.av, DV.av, BR.av, hρ], spec_SolveOver_fn v25 v26 v27 v28 v29 F' (st_nil hi) ⟨⟨trivial, trivial, bslc_ok hi (by rw [h0, hρ]; exact rowI64_ok hs (DVs.okAt (DVs.okAt ha 0 rfl) 2 rfl) hv27), trivial⟩, bslc_ok hi (by rw [h0, hρ]; exact rowI64_ok hs (DVs.okAt ha 1 rfl) hv28), trivial, trivial⟩ hy⟩) rfl rfl
  · cases hr
/-! impl.inRange -/
noncomputable def impl_inRange_LO (v1044 : Int) (v1045 : Int) (v1046 : Int) : LOr := fun id e L =>
  match id with
  | _ => .fail
noncomputable def impl_inRange_tab : List (FuncId × DFn × Bool) := []
theorem impl_inRange_hO : OrcOk Try.prog (tabD impl_inRange_tab) (tabM impl_inRange_tab) := tabD_nil _
noncomputable def impl_inRange_T (v1044 : Int) (v1045 : Int) (v1046 : Int) : Tree (Bool) :=
  (.br (decide (v1045 ≤ v1044)) (
   .leaf (decide (v1044 ≤ v1046))
  ) (
   .leaf false
  ))

noncomputable def impl_inRange_g (v1044 : Int) (v1045 : Int) (v1046 : Int) : Option (Bool) := (impl_inRange_T v1044 v1045 v1046).run
def impl_inRange_enc (v1044 : Int) (v1045 : Int) (v1046 : Int) (y : Bool) : Rs := (.bool y, [])
theorem impl_inRange_den (v1044 : Int) (v1045 : Int) (v1046 : Int) : (den TT (tabD impl_inRange_tab) (tabM impl_inRange_tab) (impl_inRange_LO v1044 v1045 v1046) (codeOf Try.f89) ([.int .i64 v1044, .int .i64 v1045, .int .i64 v1046] ++ List.replicate (Try.f89.ntmps - ([.int .i64 v1044, .int .i64 v1045, .int .i64 v1046] : List DV).length) .undef) []).bind (retD TT Try.f89.results.toList 0) = (impl_inRange_T v1044 v1045 v1046).bind fun y => .leaf (impl_inRange_enc v1044 v1045 v1046 y) := by kernel_rfl
theorem impl_inRange_fn (v1044 : Int) (v1045 : Int) (v1046 : Int) (F : Fr) (h0 : St F [] F.H0) (hA : DVs.Ok F [] [.int .i64 v1044, .int .i64 v1045, .int .i64 v1046]) {y : Bool} (hy : impl_inRange_g v1044 v1045 v1046 = some y) : ∃ F' H', Fwd 0 F F' [] (impl_inRange_enc v1044 v1045 v1046 y).2 ∧ FnOk Try.prog 89 (DVs.av F [.int .i64 v1044, .int .i64 v1045, .int .i64 v1046]) F.H0 ((impl_inRange_enc v1044 v1045 v1046 y).1.av F') H' ∧ St F' (impl_inRange_enc v1044 v1045 v1046 y).2 H' ∧ (impl_inRange_enc v1044 v1045 v1046 y).1.Ok F' (impl_inRange_enc v1044 v1045 v1046 y).2 :=
  fn_fin tok impl_inRange_hO mixed Try.func89 Try.call89 (by kernel_rfl) (LoopsOk_eq (l := []) (by kernel_rfl) trivial) (impl_inRange_den v1044 v1045 v1046) hy h0 hA
def impl_inRange_v (v1044 : Int) (v1045 : Int) (v1046 : Int) : Bool :=
  if (decide (v1045 ≤ v1044)) = true then (
   decide (v1044 ≤ v1046)
  ) else (
   false
  )
theorem impl_inRange_tot (v1044 : Int) (v1045 : Int) (v1046 : Int) : impl_inRange_g v1044 v1045 v1046 = some (impl_inRange_v v1044 v1045 v1046) := by
  unfold impl_inRange_g impl_inRange_T impl_inRange_v
  simp only [Tree.run]
  repeat' (first | rfl | split)
noncomputable def impl_inRange_F : DFn := fun args L =>
  match args with
  | [.int .i64 v1044, .int .i64 v1045, .int .i64 v1046] =>
    .leaf (.bool (impl_inRange_v v1044 v1045 v1046), L)
  | _ => .fail
theorem impl_inRange_Fok : COk Try.prog 89 impl_inRange_F true := by
  intro F L H args r L' hs ha hr
  unfold impl_inRange_F at hr
  split at hr
  · rename_i v1044 v1045 v1046
    have hy := impl_inRange_tot v1044 v1045 v1046
    generalize impl_inRange_v v1044 v1045 v1046 = y at hy hr
    simp only [Tree.run, Option.some.injEq, Prod.mk.injEq] at hr
    obtain ⟨rfl, rfl⟩ := hr
    exact call_ok0 hs (fun k => (([] : List AV)[k]?).getD .top) [.int .i64 v1044, .int .i64 v1045, .int .i64 v1046] [.int .i64 v1044, .int .i64 v1045, .int .i64 v1046] (fun F' h0 hi hρ => ⟨by simp [DVs.av, DV.av, BR.av, hρ], impl_inRange_fn v1044 v1045 v1046 F' (st_nil hi) ⟨trivial, trivial, trivial, trivial⟩ hy⟩) rfl
  · cases hr
/-! impl.length[int64] -/
noncomputable def impl_lengthI_LO (v1047 : List Int) : LOr := fun id e L =>
  match id with
  | _ => .fail
noncomputable def impl_lengthI_tab : List (FuncId × DFn × Bool) := []
theorem impl_lengthI_hO : OrcOk Try.prog (tabD impl_lengthI_tab) (tabM impl_lengthI_tab) := tabD_nil _
noncomputable def impl_lengthI_T (v1047 : List Int) : Tree (Int) :=
  .leaf ((v1047.length : Nat) : Int)

noncomputable def impl_lengthI_g (v1047 : List Int) : Option (Int) := (impl_lengthI_T v1047).run
def impl_lengthI_enc (v1047 : List Int) (y : Int) : Rs := (.int .i64 y, [])
theorem impl_lengthI_den (v1047 : List Int) : (den TT (tabD impl_lengthI_tab) (tabM impl_lengthI_tab) (impl_lengthI_LO v1047) (codeOf Try.f65) ([.bslc (BR.root 0) (.i64 v1047)] ++ List.replicate (Try.f65.ntmps - ([.bslc (BR.root 0) (.i64 v1047)] : List DV).length) .undef) []).bind (retD TT Try.f65.results.toList 0) = (impl_lengthI_T v1047).bind fun y => .leaf (impl_lengthI_enc v1047 y) := by kernel_rfl
theorem impl_lengthI_fn (v1047 : List Int) (F : Fr) (h0 : St F [] F.H0) (hA : DVs.Ok F [] [.bslc (BR.root 0) (.i64 v1047)]) {y : Int} (hy : impl_lengthI_g v1047 = some y) : ∃ F' H', Fwd 0 F F' [] (impl_lengthI_enc v1047 y).2 ∧ FnOk Try.prog 65 (DVs.av F [.bslc (BR.root 0) (.i64 v1047)]) F.H0 ((impl_lengthI_enc v1047 y).1.av F') H' ∧ St F' (impl_lengthI_enc v1047 y).2 H' ∧ (impl_lengthI_enc v1047 y).1.Ok F' (impl_lengthI_enc v1047 y).2 :=
  fn_fin tok impl_lengthI_hO mixed Try.func65 Try.call65 (by kernel_rfl) (LoopsOk_eq (l := []) (by kernel_rfl) trivial) (impl_lengthI_den v1047) hy h0 hA
def impl_lengthI_v (v1047 : List Int) : Int :=
  ((v1047.length : Nat) : Int)
theorem impl_lengthI_tot (v1047 : List Int) : impl_lengthI_g v1047 = some (impl_lengthI_v v1047) := by
  unfold impl_lengthI_g impl_lengthI_T impl_lengthI_v
  simp only [Tree.run]
  repeat' (first | rfl | split)
noncomputable def impl_lengthI_F : DFn := fun args L =>
  match args with
  | [a1] =>
    optT (rowI64 L a1) fun v1047 =>
    .leaf (.int .i64 (impl_lengthI_v v1047), L)
  | _ => .fail
theorem impl_lengthI_Fok : COk Try.prog 65 impl_lengthI_F true := by
  intro F L H args r L' hs ha hr
  unfold impl_lengthI_F at hr
  split at hr
  · rename_i a1
    obtain ⟨v1047, hv1047, hr⟩ := optT_run hr
    have hy := impl_lengthI_tot v1047
    generalize impl_lengthI_v v1047 = y at hy hr
    simp only [Tree.run, Option.some.injEq, Prod.mk.injEq] at hr
    obtain ⟨rfl, rfl⟩ := hr
    exact call_ok0 hs (fun k => (([a1.av F] : List AV)[k]?).getD .top) [a1] [.bslc (BR.root 0) (.i64 v1047)] (fun F' h0 hi hρ => ⟨by simp [DVs.av, DV.av, BR.av, hρ], impl_lengthI_fn v1047 F' (st_nil hi) ⟨bslc_ok hi (by rw [h0, hρ]; exact rowI64_ok hs (DVs.okAt ha 0 rfl) hv1047), trivial⟩ hy⟩) rfl
  · cases hr
/-! impl.allIn$1 -/
noncomputable def impl_allIn_1_LO (v1058 : Int) (v1059 : Int) (v1060 : Int) : LOr := fun id e L =>
  match id with
  | _ => .fail
noncomputable def impl_allIn_1_tab : List (FuncId × DFn × Bool) := [(89, impl_inRange_F, true)]
theorem impl_allIn_1_hO : OrcOk Try.prog (tabD impl_allIn_1_tab) (tabM impl_allIn_1_tab) := tabD_cons impl_inRange_Fok (tabD_nil _)
noncomputable def impl_allIn_1_T (v1058 : Int) (v1059 : Int) (v1060 : Int) : Tree (Bool) :=
  .leaf (!(impl_inRange_v v1058 v1059 v1060))

noncomputable def impl_allIn_1_g (v1058 : Int) (v1059 : Int) (v1060 : Int) : Option (Bool) := (impl_allIn_1_T v1058 v1059 v1060).run
def impl_allIn_1_enc (v1058 : Int) (v1059 : Int) (v1060 : Int) (y : Bool) : Rs := (.bool y, [])
theorem impl_allIn_1_den (v1058 : Int) (v1059 : Int) (v1060 : Int) : (den TT (tabD impl_allIn_1_tab) (tabM impl_allIn_1_tab) (impl_allIn_1_LO v1058 v1059 v1060) (codeOf Try.f129) ([.int .i64 v1058, .bptr (BR.root 0) [.int .i64 v1059], .bptr (BR.root 1) [.int .i64 v1060]] ++ List.replicate (Try.f129.ntmps - ([.int .i64 v1058, .bptr (BR.root 0) [.int .i64 v1059], .bptr (BR.root 1) [.int .i64 v1060]] : List DV).length) .undef) []).bind (retD TT Try.f129.results.toList 0) = (impl_allIn_1_T v1058 v1059 v1060).bind fun y => .leaf (impl_allIn_1_enc v1058 v1059 v1060 y) := by kernel_rfl
theorem impl_allIn_1_fn (v1058 : Int) (v1059 : Int) (v1060 : Int) (F : Fr) (h0 : St F [] F.H0) (hA : DVs.Ok F [] [.int .i64 v1058, .bptr (BR.root 0) [.int .i64 v1059], .bptr (BR.root 1) [.int .i64 v1060]]) {y : Bool} (hy : impl_allIn_1_g v1058 v1059 v1060 = some y) : ∃ F' H', Fwd 0 F F' [] (impl_allIn_1_enc v1058 v1059 v1060 y).2 ∧ FnOk Try.prog 129 (DVs.av F [.int .i64 v1058, .bptr (BR.root 0) [.int .i64 v1059], .bptr (BR.root 1) [.int .i64 v1060]]) F.H0 ((impl_allIn_1_enc v1058 v1059 v1060 y).1.av F') H' ∧ St F' (impl_allIn_1_enc v1058 v1059 v1060 y).2 H' ∧ (impl_allIn_1_enc v1058 v1059 v1060 y).1.Ok F' (impl_allIn_1_enc v1058 v1059 v1060 y).2 :=
  fn_fin tok impl_allIn_1_hO mixed Try.func129 Try.call129 (by kernel_rfl) (LoopsOk_eq (l := []) (by kernel_rfl) trivial) (impl_allIn_1_den v1058 v1059 v1060) hy h0 hA
def impl_allIn_1_v (v1058 : Int) (v1059 : Int) (v1060 : Int) : Bool :=
  !(impl_inRange_v v1058 v1059 v1060)
theorem impl_allIn_1_tot (v1058 : Int) (v1059 : Int) (v1060 : Int) : impl_allIn_1_g v1058 v1059 v1060 = some (impl_allIn_1_v v1058 v1059 v1060) := by
  unfold impl_allIn_1_g impl_allIn_1_T impl_allIn_1_v
  simp only [Tree.run]
  repeat' (first | rfl | split)
noncomputable def impl_allIn_1_F : DFn := fun args L =>
  match args with
  | [.int .i64 v1058, a1, a2] =>
    optT (cellsOf L 1 a1) fun cs0 =>
    (match cs0 with
    | [.int .i64 v1059] =>
    optT (cellsOf L 1 a2) fun cs1 =>
    (match cs1 with
    | [.int .i64 v1060] =>
    .leaf (.bool (impl_allIn_1_v v1058 v1059 v1060), L)
    | _ => .fail)
    | _ => .fail)
  | _ => .fail
theorem impl_allIn_1_Fok : COk Try.prog 129 impl_allIn_1_F true := by
  intro F L H args r L' hs ha hr
  unfold impl_allIn_1_F at hr
  split at hr
  · rename_i v1058 a1 a2
    obtain ⟨cs0, hcp0, hr⟩ := optT_run hr
    split at hr
    · rename_i v1059
      obtain ⟨cs1, hcp1, hr⟩ := optT_run hr
      split at hr
      · rename_i v1060
        have hy := impl_allIn_1_tot v1058 v1059 v1060
        generalize impl_allIn_1_v v1058 v1059 v1060 = y at hy hr
        simp only [Tree.run, Option.some.injEq, Prod.mk.injEq] at hr
        obtain ⟨rfl, rfl⟩ := hr
        exact call_ok0 hs (fun k => (([a1.av F, a2.av F] : List AV)[k]?).getD .top) [.int .i64 v1058, a1, a2] [.int .i64 v1058, .bptr (BR.root 0) [.int .i64 v1059], .bptr (BR.root 1) [.int .i64 v1060]] (fun F' h0 hi hρ => ⟨by simp [DVs.av, DV.av, BR.av, hρ], impl_allIn_1_fn v1058 v1059 v1060 F' (st_nil hi) ⟨trivial, bptr_ok hi (by rw [h0]; simpa [DVs.av, DV.av, BR.av, hρ] using (cellsOf_ok hs (DVs.okAt ha 1 rfl) hcp0).1) ⟨trivial, trivial⟩, bptr_ok hi (by rw [h0]; simpa [DVs.av, DV.av, BR.av, hρ] using (cellsOf_ok hs (DVs.okAt ha 2 rfl) hcp1).1) ⟨trivial, trivial⟩, trivial⟩ hy⟩) rfl
      · cases hr
    · cases hr
  · cases hr
/-! slices.IndexFunc[list of int64,int64] -/
noncomputable def slices_IndexFuncI_l0_T (v1054 : List Int) (v1055 : Int) (v1056 : Int) (s : Int) : Tree ((Int) ⊕ ((Int) ⊕ (Unit))) :=
  (.br (decide (s < ((v1054.length : Nat) : Int))) (
   (.grd (inb s v1054.length) <|
   (.br (impl_allIn_1_v (nth v1054 (Int.toNat s)) v1055 v1056) (
    .leaf (.inr (.inl s))
   ) (
    .leaf (.inl (IntKind.i64.wrap (s + (1 : Int))))
   )))
  ) (
   .leaf (.inr (.inr ()))
  ))

noncomputable def slices_IndexFuncI_l0_g (v1054 : List Int) (v1055 : Int) (v1056 : Int) (s0 : Int) : Option ((Int) ⊕ (Unit)) := whileM (fun s => (slices_IndexFuncI_l0_T v1054 v1055 v1056 s).run) s0
def slices_IndexFuncI_l0_E (v1054 : List Int) (v1055 : Int) (v1056 : Int) (s : Int) : Sd := ([.bslc (BR.root 0) (.i64 v1054), .fn 129 [.bptr (BR.root 1) [.int .i64 v1055], .bptr (BR.root 2) [.int .i64 v1056]], .top, .top, .top, .top, .top, .int .i64 ((v1054.length : Nat) : Int), .int .i64 s, .top, .top, .top, .top, .top, .top, .top, .top, .top, .top], [])
def slices_IndexFuncI_l0_X (v1054 : List Int) (v1055 : Int) (v1056 : Int) (x : (Int) ⊕ (Unit)) : Out := (match x with | .inl x => (.ret, [.top, .top, .top, .top, .int .i64 x, .top, .top, .top, .top, .top, .top, .top, .top, .top, .top, .top, .top, .top, .top], []) | .inr x => (.normal, [.top, .top, .top, .top, .top, .top, .top, .top, .top, .top, .top, .top, .top, .top, .top, .top, .top, .top, .top], []))
def slices_IndexFuncI_l0_kill : List Nat := [0, 0, 1, 1, 1, 1, 1, 0, 0, 1, 1, 1, 1, 1, 1, 1, 1, 1, 1]
def slices_IndexFuncI_l0_nx : Exit → List Nat
  | .exit 0 => [1, 1, 1, 1, 1, 1, 1, 1, 1, 1, 1, 1, 1, 1, 1, 1, 1, 1, 1]
  | .ret => [1, 1, 1, 1, 0, 1, 1, 1, 1, 1, 1, 1, 1, 1, 1, 1, 1, 1, 1]
  | _ => []
noncomputable def slices_IndexFuncI_LO (v1054 : List Int) (v1055 : Int) (v1056 : Int) : LOr := fun id e L =>
  match id with
  | 0 => .need (normA 0 slices_IndexFuncI_l0_kill e L = some (slices_IndexFuncI_l0_E v1054 v1055 v1056 (gI (vAt e 8)))) (.call (slices_IndexFuncI_l0_g v1054 v1055 v1056 (gI (vAt e 8))) fun x => .sum x (fun b0 => .leaf (slices_IndexFuncI_l0_X v1054 v1055 v1056 (.inl b0))) (fun c0 => .leaf (slices_IndexFuncI_l0_X v1054 v1055 v1056 (.inr c0))))
  | _ => .fail
noncomputable def slices_IndexFuncI_tab : List (FuncId × DFn × Bool) := [(129, impl_allIn_1_F, true)]
theorem slices_IndexFuncI_hO : OrcOk Try.prog (tabD slices_IndexFuncI_tab) (tabM slices_IndexFuncI_tab) := tabD_cons impl_allIn_1_Fok (tabD_nil _)
theorem slices_IndexFuncI_l0_be (v1054 : List Int) (v1055 : Int) (v1056 : Int) (s : Int) : bodyT TT (tabD slices_IndexFuncI_tab) (tabM slices_IndexFuncI_tab) (slices_IndexFuncI_LO v1054 v1055 v1056) 0 slices_IndexFuncI_l0_kill slices_IndexFuncI_l0_nx (bodyOf Try.f157 0) 0 (slices_IndexFuncI_l0_E v1054 v1055 v1056 s) = (slices_IndexFuncI_l0_T v1054 v1055 v1056 s).bind fun y => .leaf (outS (slices_IndexFuncI_l0_E v1054 v1055 v1056) (slices_IndexFuncI_l0_X v1054 v1055 v1056) y) := by kernel_rfl
theorem slices_IndexFuncI_l0_ok (v1054 : List Int) (v1055 : Int) (v1056 : Int) : LSound Try.prog 0 (slices_IndexFuncI_LO v1054 v1055 v1056) 0 (bodyOf Try.f157 0) := by
  intro e L out h
  exact lo_ok (E := slices_IndexFuncI_l0_E v1054 v1055 v1056) (gT := slices_IndexFuncI_l0_T v1054 v1055 v1056) (X := slices_IndexFuncI_l0_X v1054 v1055 v1056) (s0 := (gI (vAt e 8))) tok slices_IndexFuncI_hO mixed (LoopsOk_eq (l := []) (by kernel_rfl) trivial) (slices_IndexFuncI_l0_be v1054 v1055 v1056) rfl (by intro x; (cases x with | inl b => rfl | inr x => exact rfl)) h
noncomputable def slices_IndexFuncI_T (v1054 : List Int) (v1055 : Int) (v1056 : Int) : Tree (Int) :=
  (.need (some (slices_IndexFuncI_l0_E v1054 v1055 v1056 (0 : Int)) = some (slices_IndexFuncI_l0_E v1054 v1055 v1056 (0 : Int))) <|
  (.call (slices_IndexFuncI_l0_g v1054 v1055 v1056 (0 : Int)) fun v1063 =>
  (.sum v1063 (fun v1064 =>
   .leaf v1064
  ) (fun v1065 =>
   .leaf (-1 : Int)
  ))))

noncomputable def slices_IndexFuncI_g (v1054 : List Int) (v1055 : Int) (v1056 : Int) : Option (Int) := (slices_IndexFuncI_T v1054 v1055 v1056).run
def slices_IndexFuncI_enc (v1054 : List Int) (v1055 : Int) (v1056 : Int) (y : Int) : Rs := (.int .i64 y, [])
theorem slices_IndexFuncI_den (v1054 : List Int) (v1055 : Int) (v1056 : Int) : (den TT (tabD slices_IndexFuncI_tab) (tabM slices_IndexFuncI_tab) (slices_IndexFuncI_LO v1054 v1055 v1056) (codeOf Try.f157) ([.bslc (BR.root 0) (.i64 v1054), .fn 129 [.bptr (BR.root 1) [.int .i64 v1055], .bptr (BR.root 2) [.int .i64 v1056]]] ++ List.replicate (Try.f157.ntmps - ([.bslc (BR.root 0) (.i64 v1054), .fn 129 [.bptr (BR.root 1) [.int .i64 v1055], .bptr (BR.root 2) [.int .i64 v1056]]] : List DV).length) .undef) []).bind (retD TT Try.f157.results.toList 0) = (slices_IndexFuncI_T v1054 v1055 v1056).bind fun y => .leaf (slices_IndexFuncI_enc v1054 v1055 v1056 y) := by kernel_rfl
theorem slices_IndexFuncI_fn (v1054 : List Int) (v1055 : Int) (v1056 : Int) (F : Fr) (h0 : St F [] F.H0) (hA : DVs.Ok F [] [.bslc (BR.root 0) (.i64 v1054), .fn 129 [.bptr (BR.root 1) [.int .i64 v1055], .bptr (BR.root 2) [.int .i64 v1056]]]) {y : Int} (hy : slices_IndexFuncI_g v1054 v1055 v1056 = some y) : ∃ F' H', Fwd 0 F F' [] (slices_IndexFuncI_enc v1054 v1055 v1056 y).2 ∧ FnOk Try.prog 157 (DVs.av F [.bslc (BR.root 0) (.i64 v1054), .fn 129 [.bptr (BR.root 1) [.int .i64 v1055], .bptr (BR.root 2) [.int .i64 v1056]]]) F.H0 ((slices_IndexFuncI_enc v1054 v1055 v1056 y).1.av F') H' ∧ St F' (slices_IndexFuncI_enc v1054 v1055 v1056 y).2 H' ∧ (slices_IndexFuncI_enc v1054 v1055 v1056 y).1.Ok F' (slices_IndexFuncI_enc v1054 v1055 v1056 y).2 :=
  fn_fin tok slices_IndexFuncI_hO mixed Try.func157 Try.call157 (by kernel_rfl) (LoopsOk_eq (l := [(0, bodyOf Try.f157 0)]) (by kernel_rfl) ⟨slices_IndexFuncI_l0_ok v1054 v1055 v1056, trivial⟩) (slices_IndexFuncI_den v1054 v1055 v1056) hy h0 hA
noncomputable def slices_IndexFuncI_F : DFn := fun args L =>
  match args with
  | [a1, .fn 129 [a2, a3]] =>
    optT (rowI64 L a1) fun v1054 =>
    optT (cellsOf L 1 a2) fun cs1 =>
    (match cs1 with
    | [.int .i64 v1055] =>
    optT (cellsOf L 1 a3) fun cs2 =>
    (match cs2 with
    | [.int .i64 v1056] =>
    .call (slices_IndexFuncI_g v1054 v1055 v1056) fun y => .leaf (.int .i64 y, L)
    | _ => .fail)
    | _ => .fail)
  | _ => .fail
theorem slices_IndexFuncI_Fok : COk Try.prog 157 slices_IndexFuncI_F true := by
  intro F L H args r L' hs ha hr
  unfold slices_IndexFuncI_F at hr
  split at hr
  · rename_i a1 a2 a3
    obtain ⟨v1054, hv1054, hr⟩ := optT_run hr
    obtain ⟨cs1, hcp1, hr⟩ := optT_run hr
    split at hr
    · rename_i v1055
      obtain ⟨cs2, hcp2, hr⟩ := optT_run hr
      split at hr
      · rename_i v1056
        simp only [Tree.run] at hr
        obtain ⟨y, hy, hr⟩ := Option.bind_eq_some_iff.1 hr
        simp only [Tree.run, Option.some.injEq, Prod.mk.injEq] at hr
        obtain ⟨rfl, rfl⟩ := hr
        exact call_ok0 hs (fun k => (([a1.av F, a2.av F, a3.av F] : List AV)[k]?).getD .top) [a1, .fn 129 [a2, a3]] [.bslc (BR.root 0) (.i64 v1054), .fn 129 [.bptr (BR.root 1) [.int .i64 v1055], .bptr (BR.root 2) [.int .i64 v1056]]] (fun F' h0 hi hρ => ⟨by simp [DVs.av, DV.av, BR.av, hρ], slices_IndexFuncI_fn v1054 v1055 v1056 F' (st_nil hi) ⟨bslc_ok hi (by rw [h0, hρ]; exact rowI64_ok hs (DVs.okAt ha 0 rfl) hv1054), ⟨bptr_ok hi (by rw [h0]; simpa [DVs.av, DV.av, BR.av, hρ] using (cellsOf_ok hs (DVs.okAt (DVs.okAt ha 1 rfl) 0 rfl) hcp1).1) ⟨trivial, trivial⟩, bptr_ok hi (by rw [h0]; simpa [DVs.av, DV.av, BR.av, hρ] using (cellsOf_ok hs (DVs.okAt (DVs.okAt ha 1 rfl) 1 rfl) hcp2).1) ⟨trivial, trivial⟩, trivial⟩, trivial⟩ hy⟩) rfl
      · cases hr
    · cases hr
  · cases hr
/-! slices.ContainsFunc[list of int64,int64] -/
noncomputable def slices_ContainsFuncI_LO (v1051 : List Int) (v1052 : Int) (v1053 : Int) : LOr := fun id e L =>
  match id with
  | _ => .fail
noncomputable def slices_ContainsFuncI_tab : List (FuncId × DFn × Bool) := [(157, slices_IndexFuncI_F, true)]
theorem slices_ContainsFuncI_hO : OrcOk Try.prog (tabD slices_ContainsFuncI_tab) (tabM slices_ContainsFuncI_tab) := tabD_cons slices_IndexFuncI_Fok (tabD_nil _)
noncomputable def slices_ContainsFuncI_T (v1051 : List Int) (v1052 : Int) (v1053 : Int) : Tree (Bool) :=
  (.call (slices_IndexFuncI_g v1051 v1052 v1053) fun v1066 =>
  .leaf (decide ((0 : Int) ≤ v1066)))

noncomputable def slices_ContainsFuncI_g (v1051 : List Int) (v1052 : Int) (v1053 : Int) : Option (Bool) := (slices_ContainsFuncI_T v1051 v1052 v1053).run
def slices_ContainsFuncI_enc (v1051 : List Int) (v1052 : Int) (v1053 : Int) (y : Bool) : Rs := (.bool y, [])
theorem slices_ContainsFuncI_den (v1051 : List Int) (v1052 : Int) (v1053 : Int) : (den TT (tabD slices_ContainsFuncI_tab) (tabM slices_ContainsFuncI_tab) (slices_ContainsFuncI_LO v1051 v1052 v1053) (codeOf Try.f128) ([.bslc (BR.root 0) (.i64 v1051), .fn 129 [.bptr (BR.root 1) [.int .i64 v1052], .bptr (BR.root 2) [.int .i64 v1053]]] ++ List.replicate (Try.f128.ntmps - ([.bslc (BR.root 0) (.i64 v1051), .fn 129 [.bptr (BR.root 1) [.int .i64 v1052], .bptr (BR.root 2) [.int .i64 v1053]]] : List DV).length) .undef) []).bind (retD TT Try.f128.results.toList 0) = (slices_ContainsFuncI_T v1051 v1052 v1053).bind fun y => .leaf (slices_ContainsFuncI_enc v1051 v1052 v1053 y) := by kernel_rfl
theorem slices_ContainsFuncI_fn (v1051 : List Int) (v1052 : Int) (v1053 : Int) (F : Fr) (h0 : St F [] F.H0) (hA : DVs.Ok F [] [.bslc (BR.root 0) (.i64 v1051), .fn 129 [.bptr (BR.root 1) [.int .i64 v1052], .bptr (BR.root 2) [.int .i64 v1053]]]) {y : Bool} (hy : slices_ContainsFuncI_g v1051 v1052 v1053 = some y) : ∃ F' H', Fwd 0 F F' [] (slices_ContainsFuncI_enc v1051 v1052 v1053 y).2 ∧ FnOk Try.prog 128 (DVs.av F [.bslc (BR.root 0) (.i64 v1051), .fn 129 [.bptr (BR.root 1) [.int .i64 v1052], .bptr (BR.root 2) [.int .i64 v1053]]]) F.H0 ((slices_ContainsFuncI_enc v1051 v1052 v1053 y).1.av F') H' ∧ St F' (slices_ContainsFuncI_enc v1051 v1052 v1053 y).2 H' ∧ (slices_ContainsFuncI_enc v1051 v1052 v1053 y).1.Ok F' (slices_ContainsFuncI_enc v1051 v1052 v1053 y).2 :=
  fn_fin tok slices_ContainsFuncI_hO mixed Try.func128 Try.call128 (by kernel_rfl) (LoopsOk_eq (l := []) (by kernel_rfl) trivial) (slices_ContainsFuncI_den v1051 v1052 v1053) hy h0 hA
noncomputable def slices_ContainsFuncI_F : DFn := fun args L =>
  match args with
  | [a1, .fn 129 [a2, a3]] =>
    optT (rowI64 L a1) fun v1051 =>
    optT (cellsOf L 1 a2) fun cs1 =>
    (match cs1 with
    | [.int .i64 v1052] =>
    optT (cellsOf L 1 a3) fun cs2 =>
    (match cs2 with
    | [.int .i64 v1053] =>
    .call (slices_ContainsFuncI_g v1051 v1052 v1053) fun y => .leaf (.bool y, L)
    | _ => .fail)
    | _ => .fail)
  | _ => .fail
theorem slices_ContainsFuncI_Fok : COk Try.prog 128 slices_ContainsFuncI_F true := by
  intro F L H args r L' hs ha hr
  unfold slices_ContainsFuncI_F at hr
  split at hr
  · rename_i a1 a2 a3
    obtain ⟨v1051, hv1051, hr⟩ := optT_run hr
    obtain ⟨cs1, hcp1, hr⟩ := optT_run hr
    split at hr
    · rename_i v1052
      obtain ⟨cs2, hcp2, hr⟩ := optT_run hr
      split at hr
      · rename_i v1053
        simp only [Tree.run] at hr
        obtain ⟨y, hy, hr⟩ := Option.bind_eq_some_iff.1 hr
        simp only [Tree.run, Option.some.injEq, Prod.mk.injEq] at hr
        obtain ⟨rfl, rfl⟩ := hr
        exact call_ok0 hs (fun k => (([a1.av F, a2.av F, a3.av F] : List AV)[k]?).getD .top) [a1, .fn 129 [a2, a3]] [.bslc (BR.root 0) (.i64 v1051), .fn 129 [.bptr (BR.root 1) [.int .i64 v1052], .bptr (BR.root 2) [.int .i64 v1053]]] (fun F' h0 hi hρ => ⟨by simp [DVs.av, DV.av, BR.av, hρ], slices_ContainsFuncI_fn v1051 v1052 v1053 F' (st_nil hi) ⟨bslc_ok hi (by rw [h0, hρ]; exact rowI64_ok hs (DVs.okAt ha 0 rfl) hv1051), ⟨bptr_ok hi (by rw [h0]; simpa [DVs.av, DV.av, BR.av, hρ] using (cellsOf_ok hs (DVs.okAt (DVs.okAt ha 1 rfl) 0 rfl) hcp1).1) ⟨trivial, trivial⟩, bptr_ok hi (by rw [h0]; simpa [DVs.av, DV.av, BR.av, hρ] using (cellsOf_ok hs (DVs.okAt (DVs.okAt ha 1 rfl) 1 rfl) hcp2).1) ⟨trivial, trivial⟩, trivial⟩, trivial⟩ hy⟩) rfl
      · cases hr
    · cases hr
  · cases hr
/-! impl.allIn -/
noncomputable def impl_allIn_LO (v1048 : List Int) (v1049 : Int) (v1050 : Int) : LOr := fun id e L =>
  match id with
  | _ => .fail
noncomputable def impl_allIn_tab : List (FuncId × DFn × Bool) := [(128, slices_ContainsFuncI_F, true)]
theorem impl_allIn_hO : OrcOk Try.prog (tabD impl_allIn_tab) (tabM impl_allIn_tab) := tabD_cons slices_ContainsFuncI_Fok (tabD_nil _)
noncomputable def impl_allIn_T (v1048 : List Int) (v1049 : Int) (v1050 : Int) : Tree (Bool) :=
  (.call (slices_ContainsFuncI_g v1048 v1049 v1050) fun v1067 =>
  .leaf (!v1067))

noncomputable def impl_allIn_g (v1048 : List Int) (v1049 : Int) (v1050 : Int) : Option (Bool) := (impl_allIn_T v1048 v1049 v1050).run
def impl_allIn_enc (v1048 : List Int) (v1049 : Int) (v1050 : Int) (y : Bool) : Rs := (.bool y, [])
theorem impl_allIn_den (v1048 : List Int) (v1049 : Int) (v1050 : Int) : (den TT (tabD impl_allIn_tab) (tabM impl_allIn_tab) (impl_allIn_LO v1048 v1049 v1050) (codeOf Try.f67) ([.bslc (BR.root 0) (.i64 v1048), .int .i64 v1049, .int .i64 v1050] ++ List.replicate (Try.f67.ntmps - ([.bslc (BR.root 0) (.i64 v1048), .int .i64 v1049, .int .i64 v1050] : List DV).length) .undef) []).bind (retD TT Try.f67.results.toList 0) = (impl_allIn_T v1048 v1049 v1050).bind fun y => .leaf (impl_allIn_enc v1048 v1049 v1050 y) := by kernel_rfl
theorem impl_allIn_fn (v1048 : List Int) (v1049 : Int) (v1050 : Int) (F : Fr) (h0 : St F [] F.H0) (hA : DVs.Ok F [] [.bslc (BR.root 0) (.i64 v1048), .int .i64 v1049, .int .i64 v1050]) {y : Bool} (hy : impl_allIn_g v1048 v1049 v1050 = some y) : ∃ F' H', Fwd 0 F F' [] (impl_allIn_enc v1048 v1049 v1050 y).2 ∧ FnOk Try.prog 67 (DVs.av F [.bslc (BR.root 0) (.i64 v1048), .int .i64 v1049, .int .i64 v1050]) F.H0 ((impl_allIn_enc v1048 v1049 v1050 y).1.av F') H' ∧ St F' (impl_allIn_enc v1048 v1049 v1050 y).2 H' ∧ (impl_allIn_enc v1048 v1049 v1050 y).1.Ok F' (impl_allIn_enc v1048 v1049 v1050 y).2 :=
  fn_fin tok impl_allIn_hO mixed Try.func67 Try.call67 (by kernel_rfl) (LoopsOk_eq (l := []) (by kernel_rfl) trivial) (impl_allIn_den v1048 v1049 v1050) hy h0 hA
noncomputable def impl_allIn_F : DFn := fun args L =>
  match args with
  | [a1, .int .i64 v1049, .int .i64 v1050] =>
    optT (rowI64 L a1) fun v1048 =>
    .call (impl_allIn_g v1048 v1049 v1050) fun y => .leaf (.bool y, L)
  | _ => .fail
theorem impl_allIn_Fok : COk Try.prog 67 impl_allIn_F true := by
  intro F L H args r L' hs ha hr
  unfold impl_allIn_F at hr
  split at hr
  · rename_i a1 v1049 v1050
    obtain ⟨v1048, hv1048, hr⟩ := optT_run hr
    simp only [Tree.run] at hr
    obtain ⟨y, hy, hr⟩ := Option.bind_eq_some_iff.1 hr
    simp only [Tree.run, Option.some.injEq, Prod.mk.injEq] at hr
    obtain ⟨rfl, rfl⟩ := hr
    exact call_ok0 hs (fun k => (([a1.av F] : List AV)[k]?).getD .top) [a1, .int .i64 v1049, .int .i64 v1050] [.bslc (BR.root 0) (.i64 v1048), .int .i64 v1049, .int .i64 v1050] (fun F' h0 hi hρ => ⟨by simp [DVs.av, DV.av, BR.av, hρ], impl_allIn_fn v1048 v1049 v1050 F' (st_nil hi) ⟨bslc_ok hi (by rw [h0, hρ]; exact rowI64_ok hs (DVs.okAt ha 0 rfl) hv1048), trivial, trivial, trivial⟩ hy⟩) rfl
  · cases hr
/-! impl.isWhole -/
noncomputable def impl_isWhole_LO (v1040 : Int) (v1041 : Int) (v1042 : List Int) (v1043 : Int) : LOr := fun id e L =>
  match id with
  | _ => .fail
noncomputable def impl_isWhole_tab : List (FuncId × DFn × Bool) := [(89, impl_inRange_F, true), (65, impl_lengthI_F, true), (67, impl_allIn_F, true)]
theorem impl_isWhole_hO : OrcOk Try.prog (tabD impl_isWhole_tab) (tabM impl_isWhole_tab) := tabD_cons impl_inRange_Fok (tabD_cons impl_lengthI_Fok (tabD_cons impl_allIn_Fok (tabD_nil _)))
noncomputable def impl_isWhole_T (v1040 : Int) (v1041 : Int) (v1042 : List Int) (v1043 : Int) : Tree (Bool) :=
  (.br (impl_inRange_v v1040 (1 : Int) (6 : Int)) (
   (.br (impl_inRange_v v1041 (1 : Int) (6 : Int)) (
    (.br (decide ((impl_lengthI_v v1042) = IntKind.i64.wrap (v1040 * v1041))) (
     (.call (impl_allIn_g v1042 (IntKind.i64.wrap (0 - v1043)) v1043) fun v1068 =>
     .leaf v1068)
    ) (
     .leaf false
    ))
   ) (
    .leaf false
   ))
  ) (
   .leaf false
  ))

noncomputable def impl_isWhole_g (v1040 : Int) (v1041 : Int) (v1042 : List Int) (v1043 : Int) : Option (Bool) := (impl_isWhole_T v1040 v1041 v1042 v1043).run
def impl_isWhole_enc (v1040 : Int) (v1041 : Int) (v1042 : List Int) (v1043 : Int) (y : Bool) : Rs := (.bool y, [])
theorem impl_isWhole_den (v1040 : Int) (v1041 : Int) (v1042 : List Int) (v1043 : Int) : (den TT (tabD impl_isWhole_tab) (tabM impl_isWhole_tab) (impl_isWhole_LO v1040 v1041 v1042 v1043) (codeOf Try.f126) ([.agg [.int .i64 v1040, .int .i64 v1041, .bslc (BR.root 0) (.i64 v1042)], .int .i64 v1043] ++ List.replicate (Try.f126.ntmps - ([.agg [.int .i64 v1040, .int .i64 v1041, .bslc (BR.root 0) (.i64 v1042)], .int .i64 v1043] : List DV).length) .undef) []).bind (retD TT Try.f126.results.toList 0) = (impl_isWhole_T v1040 v1041 v1042 v1043).bind fun y => .leaf (impl_isWhole_enc v1040 v1041 v1042 v1043 y) := by kernel_rfl
theorem impl_isWhole_fn (v1040 : Int) (v1041 : Int) (v1042 : List Int) (v1043 : Int) (F : Fr) (h0 : St F [] F.H0) (hA : DVs.Ok F [] [.agg [.int .i64 v1040, .int .i64 v1041, .bslc (BR.root 0) (.i64 v1042)], .int .i64 v1043]) {y : Bool} (hy : impl_isWhole_g v1040 v1041 v1042 v1043 = some y) : ∃ F' H', Fwd 0 F F' [] (impl_isWhole_enc v1040 v1041 v1042 v1043 y).2 ∧ FnOk Try.prog 126 (DVs.av F [.agg [.int .i64 v1040, .int .i64 v1041, .bslc (BR.root 0) (.i64 v1042)], .int .i64 v1043]) F.H0 ((impl_isWhole_enc v1040 v1041 v1042 v1043 y).1.av F') H' ∧ St F' (impl_isWhole_enc v1040 v1041 v1042 v1043 y).2 H' ∧ (impl_isWhole_enc v1040 v1041 v1042 v1043 y).1.Ok F' (impl_isWhole_enc v1040 v1041 v1042 v1043 y).2 :=
  fn_fin tok impl_isWhole_hO mixed Try.func126 Try.call126 (by kernel_rfl) (LoopsOk_eq (l := []) (by kernel_rfl) trivial) (impl_isWhole_den v1040 v1041 v1042 v1043) hy h0 hA
noncomputable def impl_isWhole_F : DFn := fun args L =>
  match args with
  | [.agg [.int .i64 v1040, .int .i64 v1041, a1], .int .i64 v1043] =>
    optT (rowI64 L a1) fun v1042 =>
    .call (impl_isWhole_g v1040 v1041 v1042 v1043) fun y => .leaf (.bool y, L)
  | _ => .fail
theorem impl_isWhole_Fok : COk Try.prog 126 impl_isWhole_F true := by
  intro F L H args r L' hs ha hr
  unfold impl_isWhole_F at hr
  split at hr
  · rename_i v1040 v1041 a1 v1043
    obtain ⟨v1042, hv1042, hr⟩ := optT_run hr
    simp only [Tree.run] at hr
    obtain ⟨y, hy, hr⟩ := Option.bind_eq_some_iff.1 hr
    simp only [Tree.run, Option.some.injEq, Prod.mk.injEq] at hr
    obtain ⟨rfl, rfl⟩ := hr
    exact call_ok0 hs (fun k => (([a1.av F] : List AV)[k]?).getD .top) [.agg [.int .i64 v1040, .int .i64 v1041, a1], .int .i64 v1043] [.agg [.int .i64 v1040, .int .i64 v1041, .bslc (BR.root 0) (.i64 v1042)], .int .i64 v1043] (fun F' h0 hi hρ => ⟨by simp [DVs.av, DV.av, BR.av, hρ], impl_isWhole_fn v1040 v1041 v1042 v1043 F' (st_nil hi) ⟨⟨trivial, trivial, bslc_ok hi (by rw [h0, hρ]; exact rowI64_ok hs (DVs.okAt (DVs.okAt ha 0 rfl) 2 rfl) hv1042), trivial⟩, trivial, trivial⟩ hy⟩) rfl
  · cases hr
/-! impl.ValidWhole -/
noncomputable def impl_ValidWhole_LO (v1037 : Int) (v1038 : Int) (v1039 : List Int) : LOr := fun id e L =>
  match id with
  | _ => .fail
noncomputable def impl_ValidWhole_tab : List (FuncId × DFn × Bool) := [(126, impl_isWhole_F, true)]
theorem impl_ValidWhole_hO : OrcOk Try.prog (tabD impl_ValidWhole_tab) (tabM impl_ValidWhole_tab) := tabD_cons impl_isWhole_Fok (tabD_nil _)
noncomputable def impl_ValidWhole_T (v1037 : Int) (v1038 : Int) (v1039 : List Int) : Tree (Bool) :=
  (.call (impl_isWhole_g v1037 v1038 v1039 (1000000 : Int)) fun v1069 =>
  .leaf v1069)

noncomputable def impl_ValidWhole_g (v1037 : Int) (v1038 : Int) (v1039 : List Int) : Option (Bool) := (impl_ValidWhole_T v1037 v1038 v1039).run
def impl_ValidWhole_enc (v1037 : Int) (v1038 : Int) (v1039 : List Int) (y : Bool) : Rs := (.bool y, [])
theorem impl_ValidWhole_den (v1037 : Int) (v1038 : Int) (v1039 : List Int) : (den TT (tabD impl_ValidWhole_tab) (tabM impl_ValidWhole_tab) (impl_ValidWhole_LO v1037 v1038 v1039) (codeOf Try.f63) ([.agg [.int .i64 v1037, .int .i64 v1038, .bslc (BR.root 0) (.i64 v1039)]] ++ List.replicate (Try.f63.ntmps - ([.agg [.int .i64 v1037, .int .i64 v1038, .bslc (BR.root 0) (.i64 v1039)]] : List DV).length) .undef) []).bind (retD TT Try.f63.results.toList 0) = (impl_ValidWhole_T v1037 v1038 v1039).bind fun y => .leaf (impl_ValidWhole_enc v1037 v1038 v1039 y) := by kernel_rfl
theorem impl_ValidWhole_fn (v1037 : Int) (v1038 : Int) (v1039 : List Int) (F : Fr) (h0 : St F [] F.H0) (hA : DVs.Ok F [] [.agg [.int .i64 v1037, .int .i64 v1038, .bslc (BR.root 0) (.i64 v1039)]]) {y : Bool} (hy : impl_ValidWhole_g v1037 v1038 v1039 = some y) : ∃ F' H', Fwd 0 F F' [] (impl_ValidWhole_enc v1037 v1038 v1039 y).2 ∧ FnOk Try.prog 63 (DVs.av F [.agg [.int .i64 v1037, .int .i64 v1038, .bslc (BR.root 0) (.i64 v1039)]]) F.H0 ((impl_ValidWhole_enc v1037 v1038 v1039 y).1.av F') H' ∧ St F' (impl_ValidWhole_enc v1037 v1038 v1039 y).2 H' ∧ (impl_ValidWhole_enc v1037 v1038 v1039 y).1.Ok F' (impl_ValidWhole_enc v1037 v1038 v1039 y).2 :=
  fn_fin tok impl_ValidWhole_hO mixed Try.func63 Try.call63 (by kernel_rfl) (LoopsOk_eq (l := []) (by kernel_rfl) trivial) (impl_ValidWhole_den v1037 v1038 v1039) hy h0 hA
noncomputable def impl_ValidWhole_F : DFn := fun args L =>
  match args with
  | [.agg [.int .i64 v1037, .int .i64 v1038, a1]] =>
    optT (rowI64 L a1) fun v1039 =>
    .call (impl_ValidWhole_g v1037 v1038 v1039) fun y => .leaf (.bool y, L)
  | _ => .fail
theorem impl_ValidWhole_Fok : COk Try.prog 63 impl_ValidWhole_F true := by
  intro F L H args r L' hs ha hr
  unfold impl_ValidWhole_F at hr
  split at hr
  · rename_i v1037 v1038 a1
    obtain ⟨v1039, hv1039, hr⟩ := optT_run hr
    simp only [Tree.run] at hr
    obtain ⟨y, hy, hr⟩ := Option.bind_eq_some_iff.1 hr
    simp only [Tree.run, Option.some.injEq, Prod.mk.injEq] at hr
    obtain ⟨rfl, rfl⟩ := hr
    exact call_ok0 hs (fun k => (([a1.av F] : List AV)[k]?).getD .top) [.agg [.int .i64 v1037, .int .i64 v1038, a1]] [.agg [.int .i64 v1037, .int .i64 v1038, .bslc (BR.root 0) (.i64 v1039)]] (fun F' h0 hi hρ => ⟨by simp [DVs.av, DV.av, BR.av, hρ], impl_ValidWhole_fn v1037 v1038 v1039 F' (st_nil hi) ⟨⟨trivial, trivial, bslc_ok hi (by rw [h0, hρ]; exact rowI64_ok hs (DVs.okAt (DVs.okAt ha 0 rfl) 2 rfl) hv1039), trivial⟩, trivial⟩ hy⟩) rfl
  · cases hr
/-! impl.IsPrime -/
noncomputable def impl_IsPrime_l0_T (v1071 : Int) (s : Int) : Tree ((Int) ⊕ ((Unit) ⊕ (Unit))) :=
  (.br (decide (IntKind.i64.wrap (s * s) ≤ v1071)) (
   (.grd (!decide (s = 0)) <|
   (.br (decide (Int.tmod v1071 s = (0 : Int))) (
    .leaf (.inr (.inl ()))
   ) (
    .leaf (.inl (IntKind.i64.wrap (s + (1 : Int))))
   )))
  ) (
   .leaf (.inr (.inr ()))
  ))

noncomputable def impl_IsPrime_l0_g (v1071 : Int) (s0 : Int) : Option ((Unit) ⊕ (Unit)) := whileM (fun s => (impl_IsPrime_l0_T v1071 s).run) s0
def impl_IsPrime_l0_E (v1071 : Int) (s : Int) : Sd := ([.int .i64 v1071, .top, .top, .int .i64 s, .top, .top, .top, .top, .top, .top, .top, .top, .top, .top, .top, .top, .top, .top], [])
def impl_IsPrime_l0_X (v1071 : Int) (x : (Unit) ⊕ (Unit)) : Out := (match x with | .inl x => (.ret, [.top, .top, .lit false, .top, .top, .top, .top, .top, .top, .top, .top, .top, .top, .top, .top, .top, .top, .top], []) | .inr x => (.normal, [.top, .top, .top, .top, .top, .top, .top, .top, .top, .top, .top, .top, .top, .top, .top, .top, .top, .top], []))
def impl_IsPrime_l0_kill : List Nat := [0, 1, 1, 0, 1, 1, 1, 1, 1, 1, 1, 1, 1, 1, 1, 1, 1, 1]
def impl_IsPrime_l0_nx : Exit → List Nat
  | .exit 0 => [1, 1, 1, 1, 1, 1, 1, 1, 1, 1, 1, 1, 1, 1, 1, 1, 1, 1]
  | .ret => [1, 1, 0, 1, 1, 1, 1, 1, 1, 1, 1, 1, 1, 1, 1, 1, 1, 1]
  | _ => []
noncomputable def impl_IsPrime_LO (v1071 : Int) : LOr := fun id e L =>
  match id with
  | 0 => .need (normA 0 impl_IsPrime_l0_kill e L = some (impl_IsPrime_l0_E v1071 (gI (vAt e 3)))) (.call (impl_IsPrime_l0_g v1071 (gI (vAt e 3))) fun x => .sum x (fun b0 => .leaf (impl_IsPrime_l0_X v1071 (.inl b0))) (fun c0 => .leaf (impl_IsPrime_l0_X v1071 (.inr c0))))
  | _ => .fail
noncomputable def impl_IsPrime_tab : List (FuncId × DFn × Bool) := [(89, impl_inRange_F, true)]
theorem impl_IsPrime_hO : OrcOk Try.prog (tabD impl_IsPrime_tab) (tabM impl_IsPrime_tab) := tabD_cons impl_inRange_Fok (tabD_nil _)
theorem impl_IsPrime_l0_be (v1071 : Int) (s : Int) : bodyT TT (tabD impl_IsPrime_tab) (tabM impl_IsPrime_tab) (impl_IsPrime_LO v1071) 0 impl_IsPrime_l0_kill impl_IsPrime_l0_nx (bodyOf Try.f58 0) 0 (impl_IsPrime_l0_E v1071 s) = (impl_IsPrime_l0_T v1071 s).bind fun y => .leaf (outS (impl_IsPrime_l0_E v1071) (impl_IsPrime_l0_X v1071) y) := by kernel_rfl
theorem impl_IsPrime_l0_ok (v1071 : Int) : LSound Try.prog 0 (impl_IsPrime_LO v1071) 0 (bodyOf Try.f58 0) := by
  intro e L out h
  exact lo_ok (E := impl_IsPrime_l0_E v1071) (gT := impl_IsPrime_l0_T v1071) (X := impl_IsPrime_l0_X v1071) (s0 := (gI (vAt e 3))) tok impl_IsPrime_hO mixed (LoopsOk_eq (l := []) (by kernel_rfl) trivial) (impl_IsPrime_l0_be v1071) rfl (by intro x; (cases x with | inl b => rfl | inr x => exact rfl)) h
noncomputable def impl_IsPrime_T (v1071 : Int) : Tree (Bool) :=
  (.br (!(impl_inRange_v v1071 (2 : Int) (997 : Int))) (
   .leaf false
  ) (
   (.need (some (impl_IsPrime_l0_E v1071 (2 : Int)) = some (impl_IsPrime_l0_E v1071 (2 : Int))) <|
   (.call (impl_IsPrime_l0_g v1071 (2 : Int)) fun v1075 =>
   (.sum v1075 (fun v1076 =>
    .leaf false
   ) (fun v1077 =>
    .leaf true
   ))))
  ))

noncomputable def impl_IsPrime_g (v1071 : Int) : Option (Bool) := (impl_IsPrime_T v1071).run
def impl_IsPrime_enc (v1071 : Int) (y : Bool) : Rs := (.bool y, [])
theorem impl_IsPrime_den (v1071 : Int) : (den TT (tabD impl_IsPrime_tab) (tabM impl_IsPrime_tab) (impl_IsPrime_LO v1071) (codeOf Try.f58) ([.int .i64 v1071] ++ List.replicate (Try.f58.ntmps - ([.int .i64 v1071] : List DV).length) .undef) []).bind (retD TT Try.f58.results.toList 0) = (impl_IsPrime_T v1071).bind fun y => .leaf (impl_IsPrime_enc v1071 y) := by kernel_rfl
theorem impl_IsPrime_fn (v1071 : Int) (F : Fr) (h0 : St F [] F.H0) (hA : DVs.Ok F [] [.int .i64 v1071]) {y : Bool} (hy : impl_IsPrime_g v1071 = some y) : ∃ F' H', Fwd 0 F F' [] (impl_IsPrime_enc v1071 y).2 ∧ FnOk Try.prog 58 (DVs.av F [.int .i64 v1071]) F.H0 ((impl_IsPrime_enc v1071 y).1.av F') H' ∧ St F' (impl_IsPrime_enc v1071 y).2 H' ∧ (impl_IsPrime_enc v1071 y).1.Ok F' (impl_IsPrime_enc v1071 y).2 :=
  fn_fin tok impl_IsPrime_hO mixed Try.func58 Try.call58 (by kernel_rfl) (LoopsOk_eq (l := [(0, bodyOf Try.f58 0)]) (by kernel_rfl) ⟨impl_IsPrime_l0_ok v1071, trivial⟩) (impl_IsPrime_den v1071) hy h0 hA
noncomputable def impl_IsPrime_F : DFn := fun args L =>
  match args with
  | [.int .i64 v1071] =>
    .call (impl_IsPrime_g v1071) fun y => .leaf (.bool y, L)
  | _ => .fail
theorem impl_IsPrime_Fok : COk Try.prog 58 impl_IsPrime_F true := by
  intro F L H args r L' hs ha hr
  unfold impl_IsPrime_F at hr
  split at hr
  · rename_i v1071
    simp only [Tree.run] at hr
    obtain ⟨y, hy, hr⟩ := Option.bind_eq_some_iff.1 hr
    simp only [Tree.run, Option.some.injEq, Prod.mk.injEq] at hr
    obtain ⟨rfl, rfl⟩ := hr
    exact call_ok0 hs (fun k => (([] : List AV)[k]?).getD .top) [.int .i64 v1071] [.int .i64 v1071] (fun F' h0 hi hρ => ⟨by simp [DVs.av, DV.av, BR.av, hρ], impl_IsPrime_fn v1071 F' (st_nil hi) ⟨trivial, trivial⟩ hy⟩) rfl
  · cases hr
/-! slices.Clone[list of int64,int64] -/
noncomputable def slices_CloneI_LO (v1090 : List Int) : LOr := fun id e L =>
  match id with
  | _ => .fail
noncomputable def slices_CloneI_tab : List (FuncId × DFn × Bool) := []
theorem slices_CloneI_hO : OrcOk Try.prog (tabD slices_CloneI_tab) (tabM slices_CloneI_tab) := tabD_nil _
noncomputable def slices_CloneI_T (v1090 : List Int) : Tree (Unit) :=
  (.grd (decide (0 < v1090.length)) <|
  (.grd (fits (([] : List Int) ++ v1090).length) <|
  .leaf ()))

noncomputable def slices_CloneI_g (v1090 : List Int) : Option (Unit) := (slices_CloneI_T v1090).run
def slices_CloneI_enc (v1090 : List Int) (y : Unit) : Rs := (.own 0 0 ((([] : List Int) ++ v1090).length), [.row (.i64 (([] : List Int) ++ v1090)) 0])
theorem slices_CloneI_den (v1090 : List Int) : (den TT (tabD slices_CloneI_tab) (tabM slices_CloneI_tab) (slices_CloneI_LO v1090) (codeOf Try.f90) ([.bslc (BR.root 0) (.i64 v1090)] ++ List.replicate (Try.f90.ntmps - ([.bslc (BR.root 0) (.i64 v1090)] : List DV).length) .undef) []).bind (retD TT Try.f90.results.toList 0) = (slices_CloneI_T v1090).bind fun y => .leaf (slices_CloneI_enc v1090 y) := by kernel_rfl
theorem slices_CloneI_fn (v1090 : List Int) (F : Fr) (h0 : St F [] F.H0) (hA : DVs.Ok F [] [.bslc (BR.root 0) (.i64 v1090)]) {y : Unit} (hy : slices_CloneI_g v1090 = some y) : ∃ F' H', Fwd 0 F F' [] (slices_CloneI_enc v1090 y).2 ∧ FnOk Try.prog 90 (DVs.av F [.bslc (BR.root 0) (.i64 v1090)]) F.H0 ((slices_CloneI_enc v1090 y).1.av F') H' ∧ St F' (slices_CloneI_enc v1090 y).2 H' ∧ (slices_CloneI_enc v1090 y).1.Ok F' (slices_CloneI_enc v1090 y).2 :=
  fn_fin tok slices_CloneI_hO mixed Try.func90 Try.call90 (by kernel_rfl) (LoopsOk_eq (l := []) (by kernel_rfl) trivial) (slices_CloneI_den v1090) hy h0 hA
noncomputable def slices_CloneI_F : DFn := fun args L =>
  match args with
  | [a1] =>
    optT (rowI64 L a1) fun v1090 =>
    .call (slices_CloneI_g v1090) fun y => .leaf (.own (L.length + 0) 0 ((([] : List Int) ++ v1090).length), L ++ [.row (.i64 (([] : List Int) ++ v1090)) 0])
  | _ => .fail
theorem slices_CloneI_Fok : COk Try.prog 90 slices_CloneI_F true := by
  intro F L H args r L' hs ha hr
  unfold slices_CloneI_F at hr
  split at hr
  · rename_i a1
    obtain ⟨v1090, hv1090, hr⟩ := optT_run hr
    simp only [Tree.run] at hr
    obtain ⟨y, hy, hr⟩ := Option.bind_eq_some_iff.1 hr
    simp only [Tree.run, Option.some.injEq, Prod.mk.injEq] at hr
    obtain ⟨rfl, rfl⟩ := hr
    exact call_ok1 hs (fun k => (([a1.av F] : List AV)[k]?).getD .top) [a1] [.bslc (BR.root 0) (.i64 v1090)] (fun F' h0 hi hρ => ⟨by simp [DVs.av, DV.av, BR.av, hρ], slices_CloneI_fn v1090 F' (st_nil hi) ⟨bslc_ok hi (by rw [h0, hρ]; exact rowI64_ok hs (DVs.okAt ha 0 rfl) hv1090), trivial⟩ hy⟩) rfl rfl
  · cases hr
/-! (impl.Whole).row -/
noncomputable def impl_Whole_row_LO (v1086 : Int) (v1087 : Int) (v1088 : List Int) (v1089 : Int) : LOr := fun id e L =>
  match id with
  | _ => .fail
noncomputable def impl_Whole_row_tab : List (FuncId × DFn × Bool) := [(90, slices_CloneI_F, true)]
theorem impl_Whole_row_hO : OrcOk Try.prog (tabD impl_Whole_row_tab) (tabM impl_Whole_row_tab) := tabD_cons slices_CloneI_Fok (tabD_nil _)
noncomputable def impl_Whole_row_T (v1087 : Int) (v1088 : List Int) (v1089 : Int) : Tree (Unit) :=
  (.grd (sok (IntKind.i64.wrap (v1089 * v1087)) (IntKind.i64.wrap ((IntKind.i64.wrap (v1089 + (1 : Int))) * v1087)) v1088.length) <|
  (.call (slices_CloneI_g (AM.sub v1088 (IntKind.i64.wrap (v1089 * v1087)) (IntKind.i64.wrap ((IntKind.i64.wrap (v1089 + (1 : Int))) * v1087)))) fun v1091 =>
  .leaf ()))

noncomputable def impl_Whole_row_g (v1087 : Int) (v1088 : List Int) (v1089 : Int) : Option (Unit) := (impl_Whole_row_T v1087 v1088 v1089).run
def impl_Whole_row_enc (v1086 : Int) (v1087 : Int) (v1088 : List Int) (v1089 : Int) (y : Unit) : Rs := (.own 0 0 ((([] : List Int) ++ (AM.sub v1088 (IntKind.i64.wrap (v1089 * v1087)) (IntKind.i64.wrap ((IntKind.i64.wrap (v1089 + (1 : Int))) * v1087)))).length), [.row (.i64 (([] : List Int) ++ (AM.sub v1088 (IntKind.i64.wrap (v1089 * v1087)) (IntKind.i64.wrap ((IntKind.i64.wrap (v1089 + (1 : Int))) * v1087))))) 0])
theorem impl_Whole_row_den (v1086 : Int) (v1087 : Int) (v1088 : List Int) (v1089 : Int) : (den TT (tabD impl_Whole_row_tab) (tabM impl_Whole_row_tab) (impl_Whole_row_LO v1086 v1087 v1088 v1089) (codeOf Try.f127) ([.agg [.int .i64 v1086, .int .i64 v1087, .bslc (BR.root 0) (.i64 v1088)], .int .i64 v1089] ++ List.replicate (Try.f127.ntmps - ([.agg [.int .i64 v1086, .int .i64 v1087, .bslc (BR.root 0) (.i64 v1088)], .int .i64 v1089] : List DV).length) .undef) []).bind (retD TT Try.f127.results.toList 0) = (impl_Whole_row_T v1087 v1088 v1089).bind fun y => .leaf (impl_Whole_row_enc v1086 v1087 v1088 v1089 y) := by kernel_rfl
theorem impl_Whole_row_fn (v1086 : Int) (v1087 : Int) (v1088 : List Int) (v1089 : Int) (F : Fr) (h0 : St F [] F.H0) (hA : DVs.Ok F [] [.agg [.int .i64 v1086, .int .i64 v1087, .bslc (BR.root 0) (.i64 v1088)], .int .i64 v1089]) {y : Unit} (hy : impl_Whole_row_g v1087 v1088 v1089 = some y) : ∃ F' H', Fwd 0 F F' [] (impl_Whole_row_enc v1086 v1087 v1088 v1089 y).2 ∧ FnOk Try.prog 127 (DVs.av F [.agg [.int .i64 v1086, .int .i64 v1087, .bslc (BR.root 0) (.i64 v1088)], .int .i64 v1089]) F.H0 ((impl_Whole_row_enc v1086 v1087 v1088 v1089 y).1.av F') H' ∧ St F' (impl_Whole_row_enc v1086 v1087 v1088 v1089 y).2 H' ∧ (impl_Whole_row_enc v1086 v1087 v1088 v1089 y).1.Ok F' (impl_Whole_row_enc v1086 v1087 v1088 v1089 y).2 :=
  fn_fin tok impl_Whole_row_hO mixed Try.func127 Try.call127 (by kernel_rfl) (LoopsOk_eq (l := []) (by kernel_rfl) trivial) (impl_Whole_row_den v1086 v1087 v1088 v1089) hy h0 hA
noncomputable def impl_Whole_row_F : DFn := fun args L =>
  match args with
  | [.agg [.int .i64 v1086, .int .i64 v1087, a1], .int .i64 v1089] =>
    optT (rowI64 L a1) fun v1088 =>
    .call (impl_Whole_row_g v1087 v1088 v1089) fun y => .leaf (.own (L.length + 0) 0 ((([] : List Int) ++ (AM.sub v1088 (IntKind.i64.wrap (v1089 * v1087)) (IntKind.i64.wrap ((IntKind.i64.wrap (v1089 + (1 : Int))) * v1087)))).length), L ++ [.row (.i64 (([] : List Int) ++ (AM.sub v1088 (IntKind.i64.wrap (v1089 * v1087)) (IntKind.i64.wrap ((IntKind.i64.wrap (v1089 + (1 : Int))) * v1087))))) 0])
  | _ => .fail
theorem impl_Whole_row_Fok : COk Try.prog 127 impl_Whole_row_F true := by
  intro F L H args r L' hs ha hr
  unfold impl_Whole_row_F at hr
  split at hr
  · rename_i v1086 v1087 a1 v1089
    obtain ⟨v1088, hv1088, hr⟩ := optT_run hr
    simp only [Tree.run] at hr
    obtain ⟨y, hy, hr⟩ := Option.bind_eq_some_iff.1 hr
    simp only [Tree.run, Option.some.injEq, Prod.mk.injEq] at hr
    obtain ⟨rfl, rfl⟩ := hr
    exact call_ok1 hs (fun k => (([a1.av F] : List AV)[k]?).getD .top) [.agg [.int .i64 v1086, .int .i64 v1087, a1], .int .i64 v1089] [.agg [.int .i64 v1086, .int .i64 v1087, .bslc (BR.root 0) (.i64 v1088)], .int .i64 v1089] (fun F' h0 hi hρ => ⟨by simp [DVs.av, DV.av, BR.av, hρ], impl_Whole_row_fn v1086 v1087 v1088 v1089 F' (st_nil hi) ⟨⟨trivial, trivial, bslc_ok hi (by rw [h0, hρ]; exact rowI64_ok hs (DVs.okAt (DVs.okAt ha 0 rfl) 2 rfl) hv1088), trivial⟩, trivial, trivial⟩ hy⟩) rfl rfl
  · cases hr
/-! impl.rest -/
noncomputable def impl_rest_LO (v1097 : Int) (v1098 : Int) : LOr := fun id e L =>
  match id with
  | _ => .fail
noncomputable def impl_rest_tab : List (FuncId × DFn × Bool) := []
theorem impl_rest_hO : OrcOk Try.prog (tabD impl_rest_tab) (tabM impl_rest_tab) := tabD_nil _
noncomputable def impl_rest_T (v1097 : Int) (v1098 : Int) : Tree (Int) :=
  (.grd (!decide (v1098 = 0)) <|
  (.grd (!decide (v1098 = 0)) <|
  .leaf (Int.tmod (IntKind.i64.wrap ((Int.tmod v1097 v1098) + v1098)) v1098)))

noncomputable def impl_rest_g (v1097 : Int) (v1098 : Int) : Option (Int) := (impl_rest_T v1097 v1098).run
def impl_rest_enc (v1097 : Int) (v1098 : Int) (y : Int) : Rs := (.int .i64 y, [])
theorem impl_rest_den (v1097 : Int) (v1098 : Int) : (den TT (tabD impl_rest_tab) (tabM impl_rest_tab) (impl_rest_LO v1097 v1098) (codeOf Try.f70) ([.int .i64 v1097, .int .i64 v1098] ++ List.replicate (Try.f70.ntmps - ([.int .i64 v1097, .int .i64 v1098] : List DV).length) .undef) []).bind (retD TT Try.f70.results.toList 0) = (impl_rest_T v1097 v1098).bind fun y => .leaf (impl_rest_enc v1097 v1098 y) := by kernel_rfl
theorem impl_rest_fn (v1097 : Int) (v1098 : Int) (F : Fr) (h0 : St F [] F.H0) (hA : DVs.Ok F [] [.int .i64 v1097, .int .i64 v1098]) {y : Int} (hy : impl_rest_g v1097 v1098 = some y) : ∃ F' H', Fwd 0 F F' [] (impl_rest_enc v1097 v1098 y).2 ∧ FnOk Try.prog 70 (DVs.av F [.int .i64 v1097, .int .i64 v1098]) F.H0 ((impl_rest_enc v1097 v1098 y).1.av F') H' ∧ St F' (impl_rest_enc v1097 v1098 y).2 H' ∧ (impl_rest_enc v1097 v1098 y).1.Ok F' (impl_rest_enc v1097 v1098 y).2 :=
  fn_fin tok impl_rest_hO mixed Try.func70 Try.call70 (by kernel_rfl) (LoopsOk_eq (l := []) (by kernel_rfl) trivial) (impl_rest_den v1097 v1098) hy h0 hA
noncomputable def impl_rest_F : DFn := fun args L =>
  match args with
  | [.int .i64 v1097, .int .i64 v1098] =>
    .call (impl_rest_g v1097 v1098) fun y => .leaf (.int .i64 y, L)
  | _ => .fail
theorem impl_rest_Fok : COk Try.prog 70 impl_rest_F true := by
  intro F L H args r L' hs ha hr
  unfold impl_rest_F at hr
  split at hr
  · rename_i v1097 v1098
    simp only [Tree.run] at hr
    obtain ⟨y, hy, hr⟩ := Option.bind_eq_some_iff.1 hr
    simp only [Tree.run, Option.some.injEq, Prod.mk.injEq] at hr
    obtain ⟨rfl, rfl⟩ := hr
    exact call_ok0 hs (fun k => (([] : List AV)[k]?).getD .top) [.int .i64 v1097, .int .i64 v1098] [.int .i64 v1097, .int .i64 v1098] (fun F' h0 hi hρ => ⟨by simp [DVs.av, DV.av, BR.av, hρ], impl_rest_fn v1097 v1098 F' (st_nil hi) ⟨trivial, trivial, trivial⟩ hy⟩) rfl
  · cases hr
/-! impl.backOver -/
noncomputable def impl_backOver_l0_T (v1186 : Int) (v1192 : Int) (s : Int) : Tree ((Int) ⊕ (Int)) :=
  (.grd (!decide (v1186 = 0)) <|
  (.br (!decide (Int.tmod (IntKind.i64.wrap (v1192 * s)) v1186 = (1 : Int))) (
   .leaf (.inl (IntKind.i64.wrap (s + (1 : Int))))
  ) (
   .leaf (.inr s)
  )))

noncomputable def impl_backOver_l0_g (v1186 : Int) (v1192 : Int) (s0 : Int) : Option (Int) := whileM (fun s => (impl_backOver_l0_T v1186 v1192 s).run) s0
def impl_backOver_l0_E (v1185 : Int) (v1186 : Int) (v1192 : Int) (s : Int) : Sd := ([.int .i64 v1192, .int .i64 v1186, .top, .top, .top, .int .i64 s, .top, .top, .top, .top, .top, .top, .top, .top, .top, .top, .top, .top], [])
def impl_backOver_l0_X (v1185 : Int) (v1186 : Int) (v1192 : Int) (x : Int) : Out := (.normal, [.top, .top, .top, .top, .top, .int .i64 x, .top, .top, .top, .top, .top, .top, .top, .top, .top, .top, .top, .top], [])
def impl_backOver_l0_kill : List Nat := [0, 0, 1, 1, 1, 0, 1, 1, 1, 1, 1, 1, 1, 1, 1, 1, 1, 1]
def impl_backOver_l0_nx : Exit → List Nat
  | .exit 0 => [1, 1, 1, 1, 1, 0, 1, 1, 1, 1, 1, 1, 1, 1, 1, 1, 1, 1]
  | .ret => [1, 1, 1, 1, 0, 1, 1, 1, 1, 1, 1, 1, 1, 1, 1, 1, 1, 1]
  | _ => []
noncomputable def impl_backOver_LO (v1185 : Int) (v1186 : Int) : LOr := fun id e L =>
  match id with
  | 0 => .need (normA 0 impl_backOver_l0_kill e L = some (impl_backOver_l0_E v1185 v1186 (gI (vAt e 0)) (gI (vAt e 5)))) (.call (impl_backOver_l0_g v1186 (gI (vAt e 0)) (gI (vAt e 5))) fun x => .leaf (impl_backOver_l0_X v1185 v1186 (gI (vAt e 0)) x))
  | _ => .fail
noncomputable def impl_backOver_tab : List (FuncId × DFn × Bool) := [(70, impl_rest_F, true)]
theorem impl_backOver_hO : OrcOk Try.prog (tabD impl_backOver_tab) (tabM impl_backOver_tab) := tabD_cons impl_rest_Fok (tabD_nil _)
theorem impl_backOver_l0_be (v1185 : Int) (v1186 : Int) (v1192 : Int) (s : Int) : bodyT TT (tabD impl_backOver_tab) (tabM impl_backOver_tab) (impl_backOver_LO v1185 v1186) 0 impl_backOver_l0_kill impl_backOver_l0_nx (bodyOf Try.f123 0) 0 (impl_backOver_l0_E v1185 v1186 v1192 s) = (impl_backOver_l0_T v1186 v1192 s).bind fun y => .leaf (outS (impl_backOver_l0_E v1185 v1186 v1192) (impl_backOver_l0_X v1185 v1186 v1192) y) := by kernel_rfl
theorem impl_backOver_l0_ok (v1185 : Int) (v1186 : Int) : LSound Try.prog 0 (impl_backOver_LO v1185 v1186) 0 (bodyOf Try.f123 0) := by
  intro e L out h
  exact lo_ok (E := impl_backOver_l0_E v1185 v1186 (gI (vAt e 0))) (gT := impl_backOver_l0_T v1186 (gI (vAt e 0))) (X := impl_backOver_l0_X v1185 v1186 (gI (vAt e 0))) (s0 := (gI (vAt e 5))) tok impl_backOver_hO mixed (LoopsOk_eq (l := []) (by kernel_rfl) trivial) (impl_backOver_l0_be v1185 v1186 (gI (vAt e 0))) rfl (by intro x; rfl) h
noncomputable def impl_backOver_T (v1185 : Int) (v1186 : Int) : Tree (Int) :=
  (.call (impl_rest_g v1185 v1186) fun v1187 =>
  (.need (some (impl_backOver_l0_E v1185 v1186 v1187 (1 : Int)) = some (impl_backOver_l0_E v1185 v1186 v1187 (1 : Int))) <|
  (.call (impl_backOver_l0_g v1186 v1187 (1 : Int)) fun v1194 =>
  .leaf v1194)))

noncomputable def impl_backOver_g (v1185 : Int) (v1186 : Int) : Option (Int) := (impl_backOver_T v1185 v1186).run
def impl_backOver_enc (v1185 : Int) (v1186 : Int) (y : Int) : Rs := (.int .i64 y, [])
theorem impl_backOver_den (v1185 : Int) (v1186 : Int) : (den TT (tabD impl_backOver_tab) (tabM impl_backOver_tab) (impl_backOver_LO v1185 v1186) (codeOf Try.f123) ([.int .i64 v1185, .int .i64 v1186] ++ List.replicate (Try.f123.ntmps - ([.int .i64 v1185, .int .i64 v1186] : List DV).length) .undef) []).bind (retD TT Try.f123.results.toList 0) = (impl_backOver_T v1185 v1186).bind fun y => .leaf (impl_backOver_enc v1185 v1186 y) := by kernel_rfl
theorem impl_backOver_fn (v1185 : Int) (v1186 : Int) (F : Fr) (h0 : St F [] F.H0) (hA : DVs.Ok F [] [.int .i64 v1185, .int .i64 v1186]) {y : Int} (hy : impl_backOver_g v1185 v1186 = some y) : ∃ F' H', Fwd 0 F F' [] (impl_backOver_enc v1185 v1186 y).2 ∧ FnOk Try.prog 123 (DVs.av F [.int .i64 v1185, .int .i64 v1186]) F.H0 ((impl_backOver_enc v1185 v1186 y).1.av F') H' ∧ St F' (impl_backOver_enc v1185 v1186 y).2 H' ∧ (impl_backOver_enc v1185 v1186 y).1.Ok F' (impl_backOver_enc v1185 v1186 y).2 :=
  fn_fin tok impl_backOver_hO mixed Try.func123 Try.call123 (by kernel_rfl) (LoopsOk_eq (l := [(0, bodyOf Try.f123 0)]) (by kernel_rfl) ⟨impl_backOver_l0_ok v1185 v1186, trivial⟩) (impl_backOver_den v1185 v1186) hy h0 hA
noncomputable def impl_backOver_F : DFn := fun args L =>
  match args with
  | [.int .i64 v1185, .int .i64 v1186] =>
    .call (impl_backOver_g v1185 v1186) fun y => .leaf (.int .i64 y, L)
  | _ => .fail
theorem impl_backOver_Fok : COk Try.prog 123 impl_backOver_F true := by
  intro F L H args r L' hs ha hr
  unfold impl_backOver_F at hr
  split at hr
  · rename_i v1185 v1186
    simp only [Tree.run] at hr
    obtain ⟨y, hy, hr⟩ := Option.bind_eq_some_iff.1 hr
    simp only [Tree.run, Option.some.injEq, Prod.mk.injEq] at hr
    obtain ⟨rfl, rfl⟩ := hr
    exact call_ok0 hs (fun k => (([] : List AV)[k]?).getD .top) [.int .i64 v1185, .int .i64 v1186] [.int .i64 v1185, .int .i64 v1186] (fun F' h0 hi hρ => ⟨by simp [DVs.av, DV.av, BR.av, hρ], impl_backOver_fn v1185 v1186 F' (st_nil hi) ⟨trivial, trivial, trivial⟩ hy⟩) rfl
  · cases hr
end Go.Proofs.Ytimlecagkbbnpaa.AM
