/- Functions: what they come to. -/
import Derived.Test.YtimlecagkbbnpaaBase
set_option maxRecDepth 100000
set_option maxHeartbeats 4000000
set_option linter.unusedSimpArgs false
set_option linter.unusedVariables false
namespace Go.Proofs.Ytimlecagkbbnpaa.AM
open Go.Proofs
/-! laws.szInt64S -/
noncomputable def laws_szInt64S_LO (v8 : List Int) (v9 : Int) : LOr := fun id e L =>
  match id with
  | _ => .fail
noncomputable def laws_szInt64S_tab : List (FuncId × DFn × Bool) := []
theorem laws_szInt64S_hO : OrcOk Try.prog (tabD laws_szInt64S_tab) (tabM laws_szInt64S_tab) := tabD_nil _
noncomputable def laws_szInt64S_T (v8 : List Int) (v9 : Int) : Tree (Int) :=
  (.br (decide (IntKind.i64.wrap (v9 - ((v8.length : Nat) : Int)) < (0 : Int))) (
   .leaf (-1 : Int)
  ) (
   .leaf (IntKind.i64.wrap (v9 - ((v8.length : Nat) : Int)))
  ))

noncomputable def laws_szInt64S_g (v8 : List Int) (v9 : Int) : Option (Int) := (laws_szInt64S_T v8 v9).run
def laws_szInt64S_enc (v8 : List Int) (v9 : Int) (y : Int) : Rs := (.int .i64 y, [])
theorem laws_szInt64S_den (v8 : List Int) (v9 : Int) : (den TT (tabD laws_szInt64S_tab) (tabM laws_szInt64S_tab) (laws_szInt64S_LO v8 v9) (codeOf Try.f59) ([.bslc (BR.root 0) (.i64 v8), .int .i64 v9] ++ List.replicate (Try.f59.ntmps - ([.bslc (BR.root 0) (.i64 v8), .int .i64 v9] : List DV).length) .undef) []).bind (retD TT Try.f59.results.toList 0) = (laws_szInt64S_T v8 v9).bind fun y => .leaf (laws_szInt64S_enc v8 v9 y) := by kernel_rfl
theorem laws_szInt64S_fn (v8 : List Int) (v9 : Int) (F : Fr) (h0 : St F [] F.H0) (hA : DVs.Ok F [] [.bslc (BR.root 0) (.i64 v8), .int .i64 v9]) {y : Int} (hy : laws_szInt64S_g v8 v9 = some y) : ∃ F' H', Fwd 0 F F' [] (laws_szInt64S_enc v8 v9 y).2 ∧ FnOk Try.prog 59 (DVs.av F [.bslc (BR.root 0) (.i64 v8), .int .i64 v9]) F.H0 ((laws_szInt64S_enc v8 v9 y).1.av F') H' ∧ St F' (laws_szInt64S_enc v8 v9 y).2 H' ∧ (laws_szInt64S_enc v8 v9 y).1.Ok F' (laws_szInt64S_enc v8 v9 y).2 :=
  fn_fin tok laws_szInt64S_hO mixed Try.func59 Try.call59 (by kernel_rfl) (LoopsOk_eq (l := []) (by kernel_rfl) trivial) (laws_szInt64S_den v8 v9) hy h0 hA
def laws_szInt64S_v (v8 : List Int) (v9 : Int) : Int :=
  if (decide (IntKind.i64.wrap (v9 - ((v8.length : Nat) : Int)) < (0 : Int))) = true then (
   (-1 : Int)
  ) else (
   IntKind.i64.wrap (v9 - ((v8.length : Nat) : Int))
  )
theorem laws_szInt64S_tot (v8 : List Int) (v9 : Int) : laws_szInt64S_g v8 v9 = some (laws_szInt64S_v v8 v9) := by
  unfold laws_szInt64S_g laws_szInt64S_T laws_szInt64S_v
  simp only [Tree.run]
  repeat' (first | rfl | split)
noncomputable def laws_szInt64S_F : DFn := fun args L =>
  match args with
  | [a1, .int .i64 v9] =>
    optT (rowI64 L a1) fun v8 =>
    .leaf (.int .i64 (laws_szInt64S_v v8 v9), L)
  | _ => .fail
theorem laws_szInt64S_Fok : COk Try.prog 59 laws_szInt64S_F true := by
  intro F L H args r L' hs ha hr
  unfold laws_szInt64S_F at hr
  split at hr
  · rename_i a1 v9
    obtain ⟨v8, hv8, hr⟩ := optT_run hr
    have hy := laws_szInt64S_tot v8 v9
    generalize laws_szInt64S_v v8 v9 = y at hy hr
    simp only [Tree.run, Option.some.injEq, Prod.mk.injEq] at hr
    obtain ⟨rfl, rfl⟩ := hr
    exact call_ok0 hs (fun k => (([a1.av F] : List AV)[k]?).getD .top) [a1, .int .i64 v9] [.bslc (BR.root 0) (.i64 v8), .int .i64 v9] (fun F' h0 hi hρ => ⟨by simp [DVs.av, DV.av, BR.av, hρ], laws_szInt64S_fn v8 v9 F' (st_nil hi) ⟨bslc_ok hi (by rw [h0, hρ]; exact rowI64_ok hs (DVs.okAt ha 0 rfl) hv8), trivial, trivial⟩ hy⟩) rfl
  · cases hr
/-! laws.szWhole -/
noncomputable def laws_szWhole_LO (v4 : Int) (v5 : Int) (v6 : List Int) (v7 : Int) : LOr := fun id e L =>
  match id with
  | _ => .fail
noncomputable def laws_szWhole_tab : List (FuncId × DFn × Bool) := [(59, laws_szInt64S_F, true)]
theorem laws_szWhole_hO : OrcOk Try.prog (tabD laws_szWhole_tab) (tabM laws_szWhole_tab) := tabD_cons laws_szInt64S_Fok (tabD_nil _)
noncomputable def laws_szWhole_T (v6 : List Int) (v7 : Int) : Tree (Int) :=
  (.br (decide ((laws_szInt64S_v v6 v7) < (0 : Int))) (
   .leaf (-1 : Int)
  ) (
   .leaf (laws_szInt64S_v v6 v7)
  ))

noncomputable def laws_szWhole_g (v6 : List Int) (v7 : Int) : Option (Int) := (laws_szWhole_T v6 v7).run
def laws_szWhole_enc (v4 : Int) (v5 : Int) (v6 : List Int) (v7 : Int) (y : Int) : Rs := (.int .i64 y, [])
theorem laws_szWhole_den (v4 : Int) (v5 : Int) (v6 : List Int) (v7 : Int) : (den TT (tabD laws_szWhole_tab) (tabM laws_szWhole_tab) (laws_szWhole_LO v4 v5 v6 v7) (codeOf Try.f12) ([.agg [.int .i64 v4, .int .i64 v5, .bslc (BR.root 0) (.i64 v6)], .int .i64 v7] ++ List.replicate (Try.f12.ntmps - ([.agg [.int .i64 v4, .int .i64 v5, .bslc (BR.root 0) (.i64 v6)], .int .i64 v7] : List DV).length) .undef) []).bind (retD TT Try.f12.results.toList 0) = (laws_szWhole_T v6 v7).bind fun y => .leaf (laws_szWhole_enc v4 v5 v6 v7 y) := by kernel_rfl
theorem laws_szWhole_fn (v4 : Int) (v5 : Int) (v6 : List Int) (v7 : Int) (F : Fr) (h0 : St F [] F.H0) (hA : DVs.Ok F [] [.agg [.int .i64 v4, .int .i64 v5, .bslc (BR.root 0) (.i64 v6)], .int .i64 v7]) {y : Int} (hy : laws_szWhole_g v6 v7 = some y) : ∃ F' H', Fwd 0 F F' [] (laws_szWhole_enc v4 v5 v6 v7 y).2 ∧ FnOk Try.prog 12 (DVs.av F [.agg [.int .i64 v4, .int .i64 v5, .bslc (BR.root 0) (.i64 v6)], .int .i64 v7]) F.H0 ((laws_szWhole_enc v4 v5 v6 v7 y).1.av F') H' ∧ St F' (laws_szWhole_enc v4 v5 v6 v7 y).2 H' ∧ (laws_szWhole_enc v4 v5 v6 v7 y).1.Ok F' (laws_szWhole_enc v4 v5 v6 v7 y).2 :=
  fn_fin tok laws_szWhole_hO mixed Try.func12 Try.call12 (by kernel_rfl) (LoopsOk_eq (l := []) (by kernel_rfl) trivial) (laws_szWhole_den v4 v5 v6 v7) hy h0 hA
def laws_szWhole_v (v6 : List Int) (v7 : Int) : Int :=
  if (decide ((laws_szInt64S_v v6 v7) < (0 : Int))) = true then (
   (-1 : Int)
  ) else (
   (laws_szInt64S_v v6 v7)
  )
theorem laws_szWhole_tot (v6 : List Int) (v7 : Int) : laws_szWhole_g v6 v7 = some (laws_szWhole_v v6 v7) := by
  unfold laws_szWhole_g laws_szWhole_T laws_szWhole_v
  simp only [Tree.run]
  repeat' (first | rfl | split)
noncomputable def laws_szWhole_F : DFn := fun args L =>
  match args with
  | [.agg [.int .i64 v4, .int .i64 v5, a1], .int .i64 v7] =>
    optT (rowI64 L a1) fun v6 =>
    .leaf (.int .i64 (laws_szWhole_v v6 v7), L)
  | _ => .fail
theorem laws_szWhole_Fok : COk Try.prog 12 laws_szWhole_F true := by
  intro F L H args r L' hs ha hr
  unfold laws_szWhole_F at hr
  split at hr
  · rename_i v4 v5 a1 v7
    obtain ⟨v6, hv6, hr⟩ := optT_run hr
    have hy := laws_szWhole_tot v6 v7
    generalize laws_szWhole_v v6 v7 = y at hy hr
    simp only [Tree.run, Option.some.injEq, Prod.mk.injEq] at hr
    obtain ⟨rfl, rfl⟩ := hr
    exact call_ok0 hs (fun k => (([a1.av F] : List AV)[k]?).getD .top) [.agg [.int .i64 v4, .int .i64 v5, a1], .int .i64 v7] [.agg [.int .i64 v4, .int .i64 v5, .bslc (BR.root 0) (.i64 v6)], .int .i64 v7] (fun F' h0 hi hρ => ⟨by simp [DVs.av, DV.av, BR.av, hρ], laws_szWhole_fn v4 v5 v6 v7 F' (st_nil hi) ⟨⟨trivial, trivial, bslc_ok hi (by rw [h0, hρ]; exact rowI64_ok hs (DVs.okAt (DVs.okAt ha 0 rfl) 2 rfl) hv6), trivial⟩, trivial, trivial⟩ hy⟩) rfl
  · cases hr
/-! laws.toInt64S -/
noncomputable def laws_toInt64S_l0_T (v13 : List Int) (s : Int × (List Int)) : Tree ((Int × (List Int)) ⊕ ((List Int))) :=
  (.br (decide (s.1 < ((v13.length : Nat) : Int))) (
   (.grd (inb s.1 v13.length) <|
   (.grd (inb s.1 ((s.2).length)) <|
   .leaf (.inl (IntKind.i64.wrap (s.1 + (1 : Int)), List.set s.2 (Int.toNat s.1) (nth v13 (Int.toNat s.1))))))
  ) (
   .leaf (.inr s.2)
  ))

noncomputable def laws_toInt64S_l0_g (v13 : List Int) (s0 : Int × (List Int)) : Option ((List Int)) := whileM (fun s => (laws_toInt64S_l0_T v13 s).run) s0
def laws_toInt64S_l0_E (v13 : List Int) (s : Int × (List Int)) : Sd := ([.bslc (BR.root 0) (.i64 v13),tp,tp,.own 0 0 ((s.2).length),.int .i64 s.1,tp,tp,tp,tp,tp,tp,tp,tp,tp,tp,tp,tp,tp,tp,tp,tp,tp], [.row (.i64 s.2) 0])
def laws_toInt64S_l0_X (v13 : List Int) (x : (List Int)) : Out := (.normal, [tp,tp,tp,.own 0 0 ((x).length),tp,tp,tp,tp,tp,tp,tp,tp,tp,tp,tp,tp,tp,tp,tp,tp,tp,tp], [.row (.i64 x) 0])
def laws_toInt64S_l0_kill : List Nat := KL true [0,1,2,2,17]
def laws_toInt64S_l0_nx : Exit → List Nat
  | .exit 0 => KL true [3,1,18]
  | .ret => KL true [2,1,19]
  | _ => []
noncomputable def laws_toInt64S_LO (v13 : List Int) : LOr := fun id e L =>
  match id with
  | 0 => .need (normA 0 laws_toInt64S_l0_kill e L = some (laws_toInt64S_l0_E v13 ((gI (vAt e 4)), (gRI L (vAt e 3))))) (.call (laws_toInt64S_l0_g v13 ((gI (vAt e 4)), (gRI L (vAt e 3)))) fun x => .leaf (laws_toInt64S_l0_X v13 x))
  | _ => .fail
noncomputable def laws_toInt64S_tab : List (FuncId × DFn × Bool) := []
theorem laws_toInt64S_hO : OrcOk Try.prog (tabD laws_toInt64S_tab) (tabM laws_toInt64S_tab) := tabD_nil _
theorem laws_toInt64S_l0_be (v13 : List Int) (s : Int × (List Int)) : bodyT TT (tabD laws_toInt64S_tab) (tabM laws_toInt64S_tab) (laws_toInt64S_LO v13) 0 laws_toInt64S_l0_kill laws_toInt64S_l0_nx (bodyOf Try.f20 0) 0 (laws_toInt64S_l0_E v13 s) = (laws_toInt64S_l0_T v13 s).bind fun y => .leaf (outS (laws_toInt64S_l0_E v13) (laws_toInt64S_l0_X v13) y) := by kernel_rfl
theorem laws_toInt64S_l0_ok (v13 : List Int) : LSound Try.prog 0 (laws_toInt64S_LO v13) 0 (bodyOf Try.f20 0) := by
  intro e L out h
  exact lo_ok (E := laws_toInt64S_l0_E v13) (gT := laws_toInt64S_l0_T v13) (X := laws_toInt64S_l0_X v13) (s0 := ((gI (vAt e 4)), (gRI L (vAt e 3)))) tok laws_toInt64S_hO mixed (LoopsOk_eq (l := []) (by kernel_rfl) trivial) (laws_toInt64S_l0_be v13) rfl (by intro x; rfl) h
noncomputable def laws_toInt64S_T (v13 : List Int) : Tree ((List Int)) :=
  (.need (((v13.length : Nat) : Int) = ((v13.length : Nat) : Int)) <|
  (.grd (inb ((v13.length : Nat) : Int) (maxN + 1)) <|
  (.need (some (laws_toInt64S_l0_E v13 ((0 : Int), List.replicate (Int.toNat ((v13.length : Nat) : Int)) (0 : Int))) = some (laws_toInt64S_l0_E v13 ((0 : Int), List.replicate (Int.toNat ((v13.length : Nat) : Int)) (0 : Int)))) <|
  (.call (laws_toInt64S_l0_g v13 ((0 : Int), List.replicate (Int.toNat ((v13.length : Nat) : Int)) (0 : Int))) fun v19 =>
  .leaf v19))))

noncomputable def laws_toInt64S_g (v13 : List Int) : Option ((List Int)) := (laws_toInt64S_T v13).run
def laws_toInt64S_enc (v13 : List Int) (y : (List Int)) : Rs := (.own 0 0 ((y).length), [.row (.i64 y) 0])
theorem laws_toInt64S_den (v13 : List Int) : (den TT (tabD laws_toInt64S_tab) (tabM laws_toInt64S_tab) (laws_toInt64S_LO v13) (codeOf Try.f20) ([.bslc (BR.root 0) (.i64 v13)] ++ List.replicate (Try.f20.ntmps - ([.bslc (BR.root 0) (.i64 v13)] : List DV).length) .undef) []).bind (retD TT Try.f20.results.toList 0) = (laws_toInt64S_T v13).bind fun y => .leaf (laws_toInt64S_enc v13 y) := by kernel_rfl
theorem laws_toInt64S_fn (v13 : List Int) (F : Fr) (h0 : St F [] F.H0) (hA : DVs.Ok F [] [.bslc (BR.root 0) (.i64 v13)]) {y : (List Int)} (hy : laws_toInt64S_g v13 = some y) : ∃ F' H', Fwd 0 F F' [] (laws_toInt64S_enc v13 y).2 ∧ FnOk Try.prog 20 (DVs.av F [.bslc (BR.root 0) (.i64 v13)]) F.H0 ((laws_toInt64S_enc v13 y).1.av F') H' ∧ St F' (laws_toInt64S_enc v13 y).2 H' ∧ (laws_toInt64S_enc v13 y).1.Ok F' (laws_toInt64S_enc v13 y).2 :=
  fn_fin tok laws_toInt64S_hO mixed Try.func20 Try.call20 (by kernel_rfl) (LoopsOk_eq (l := [(0, bodyOf Try.f20 0)]) (by kernel_rfl) ⟨laws_toInt64S_l0_ok v13, trivial⟩) (laws_toInt64S_den v13) hy h0 hA
noncomputable def laws_toInt64S_F : DFn := fun args L =>
  match args with
  | [a1] =>
    optT (rowI64 L a1) fun v13 =>
    .call (laws_toInt64S_g v13) fun y => .leaf (.own (L.length + 0) 0 ((y).length), L ++ [.row (.i64 y) 0])
  | _ => .fail
theorem laws_toInt64S_Fok : COk Try.prog 20 laws_toInt64S_F true := by
  intro F L H args r L' hs ha hr
  unfold laws_toInt64S_F at hr
  split at hr
  · rename_i a1
    obtain ⟨v13, hv13, hr⟩ := optT_run hr
    simp only [Tree.run] at hr
    obtain ⟨y, hy, hr⟩ := Option.bind_eq_some_iff.1 hr
    simp only [Tree.run, Option.some.injEq, Prod.mk.injEq] at hr
    obtain ⟨rfl, rfl⟩ := hr
    exact call_ok1 hs (fun k => (([a1.av F] : List AV)[k]?).getD .top) [a1] [.bslc (BR.root 0) (.i64 v13)] (fun F' h0 hi hρ => ⟨by simp [DVs.av, DV.av, BR.av, hρ], laws_toInt64S_fn v13 F' (st_nil hi) ⟨bslc_ok hi (by rw [h0, hρ]; exact rowI64_ok hs (DVs.okAt ha 0 rfl) hv13), trivial⟩ hy⟩) rfl rfl
  · cases hr
/-! laws.toWhole -/
noncomputable def laws_toWhole_LO (v10 : Int) (v11 : Int) (v12 : List Int) : LOr := fun id e L =>
  match id with
  | _ => .fail
noncomputable def laws_toWhole_tab : List (FuncId × DFn × Bool) := [(20, laws_toInt64S_F, true)]
theorem laws_toWhole_hO : OrcOk Try.prog (tabD laws_toWhole_tab) (tabM laws_toWhole_tab) := tabD_cons laws_toInt64S_Fok (tabD_nil _)
noncomputable def laws_toWhole_T (v10 : Int) (v11 : Int) (v12 : List Int) : Tree (Int × Int × (List Int)) :=
  (.call (laws_toInt64S_g v12) fun v20 =>
  .leaf (v10, v11, v20))

noncomputable def laws_toWhole_g (v10 : Int) (v11 : Int) (v12 : List Int) : Option (Int × Int × (List Int)) := (laws_toWhole_T v10 v11 v12).run
def laws_toWhole_enc (v10 : Int) (v11 : Int) (v12 : List Int) (y : Int × Int × (List Int)) : Rs := (.agg [.int .i64 y.1, .int .i64 y.2.1, .own 0 0 ((y.2.2).length)], [.row (.i64 y.2.2) 0])
theorem laws_toWhole_den (v10 : Int) (v11 : Int) (v12 : List Int) : (den TT (tabD laws_toWhole_tab) (tabM laws_toWhole_tab) (laws_toWhole_LO v10 v11 v12) (codeOf Try.f14) ([.agg [.int .i64 v10, .int .i64 v11, .bslc (BR.root 0) (.i64 v12)]] ++ List.replicate (Try.f14.ntmps - ([.agg [.int .i64 v10, .int .i64 v11, .bslc (BR.root 0) (.i64 v12)]] : List DV).length) .undef) []).bind (retD TT Try.f14.results.toList 0) = (laws_toWhole_T v10 v11 v12).bind fun y => .leaf (laws_toWhole_enc v10 v11 v12 y) := by kernel_rfl
theorem laws_toWhole_fn (v10 : Int) (v11 : Int) (v12 : List Int) (F : Fr) (h0 : St F [] F.H0) (hA : DVs.Ok F [] [.agg [.int .i64 v10, .int .i64 v11, .bslc (BR.root 0) (.i64 v12)]]) {y : Int × Int × (List Int)} (hy : laws_toWhole_g v10 v11 v12 = some y) : ∃ F' H', Fwd 0 F F' [] (laws_toWhole_enc v10 v11 v12 y).2 ∧ FnOk Try.prog 14 (DVs.av F [.agg [.int .i64 v10, .int .i64 v11, .bslc (BR.root 0) (.i64 v12)]]) F.H0 ((laws_toWhole_enc v10 v11 v12 y).1.av F') H' ∧ St F' (laws_toWhole_enc v10 v11 v12 y).2 H' ∧ (laws_toWhole_enc v10 v11 v12 y).1.Ok F' (laws_toWhole_enc v10 v11 v12 y).2 :=
  fn_fin tok laws_toWhole_hO mixed Try.func14 Try.call14 (by kernel_rfl) (LoopsOk_eq (l := []) (by kernel_rfl) trivial) (laws_toWhole_den v10 v11 v12) hy h0 hA
noncomputable def laws_toWhole_F : DFn := fun args L =>
  match args with
  | [.agg [.int .i64 v10, .int .i64 v11, a1]] =>
    optT (rowI64 L a1) fun v12 =>
    .call (laws_toWhole_g v10 v11 v12) fun y => .leaf (.agg [.int .i64 y.1, .int .i64 y.2.1, .own (L.length + 0) 0 ((y.2.2).length)], L ++ [.row (.i64 y.2.2) 0])
  | _ => .fail
theorem laws_toWhole_Fok : COk Try.prog 14 laws_toWhole_F true := by
  intro F L H args r L' hs ha hr
  unfold laws_toWhole_F at hr
  split at hr
  · rename_i v10 v11 a1
    obtain ⟨v12, hv12, hr⟩ := optT_run hr
    simp only [Tree.run] at hr
    obtain ⟨y, hy, hr⟩ := Option.bind_eq_some_iff.1 hr
    simp only [Tree.run, Option.some.injEq, Prod.mk.injEq] at hr
    obtain ⟨rfl, rfl⟩ := hr
    exact call_ok1 hs (fun k => (([a1.av F] : List AV)[k]?).getD .top) [.agg [.int .i64 v10, .int .i64 v11, a1]] [.agg [.int .i64 v10, .int .i64 v11, .bslc (BR.root 0) (.i64 v12)]] (fun F' h0 hi hρ => ⟨by simp [DVs.av, DV.av, BR.av, hρ], laws_toWhole_fn v10 v11 v12 F' (st_nil hi) ⟨⟨trivial, trivial, bslc_ok hi (by rw [h0, hρ]; exact rowI64_ok hs (DVs.okAt (DVs.okAt ha 0 rfl) 2 rfl) hv12), trivial⟩, trivial⟩ hy⟩) rfl rfl
  · cases hr
/-! spec.l00In -/
noncomputable def spec_l00In_LO (v32 : Int) (v33 : Int) (v34 : Int) : LOr := fun id e L =>
  match id with
  | _ => .fail
noncomputable def spec_l00In_tab : List (FuncId × DFn × Bool) := []
theorem spec_l00In_hO : OrcOk Try.prog (tabD spec_l00In_tab) (tabM spec_l00In_tab) := tabD_nil _
noncomputable def spec_l00In_T (v32 : Int) (v33 : Int) (v34 : Int) : Tree (Bool) :=
  (.br (decide (v33 ≤ v32)) (
   .leaf (decide (v32 ≤ v34))
  ) (
   .leaf false
  ))

noncomputable def spec_l00In_g (v32 : Int) (v33 : Int) (v34 : Int) : Option (Bool) := (spec_l00In_T v32 v33 v34).run
def spec_l00In_enc (v32 : Int) (v33 : Int) (v34 : Int) (y : Bool) : Rs := (.bool y, [])
theorem spec_l00In_den (v32 : Int) (v33 : Int) (v34 : Int) : (den TT (tabD spec_l00In_tab) (tabM spec_l00In_tab) (spec_l00In_LO v32 v33 v34) (codeOf Try.f80) ([.int .i64 v32, .int .i64 v33, .int .i64 v34] ++ List.replicate (Try.f80.ntmps - ([.int .i64 v32, .int .i64 v33, .int .i64 v34] : List DV).length) .undef) []).bind (retD TT Try.f80.results.toList 0) = (spec_l00In_T v32 v33 v34).bind fun y => .leaf (spec_l00In_enc v32 v33 v34 y) := by kernel_rfl
theorem spec_l00In_fn (v32 : Int) (v33 : Int) (v34 : Int) (F : Fr) (h0 : St F [] F.H0) (hA : DVs.Ok F [] [.int .i64 v32, .int .i64 v33, .int .i64 v34]) {y : Bool} (hy : spec_l00In_g v32 v33 v34 = some y) : ∃ F' H', Fwd 0 F F' [] (spec_l00In_enc v32 v33 v34 y).2 ∧ FnOk Try.prog 80 (DVs.av F [.int .i64 v32, .int .i64 v33, .int .i64 v34]) F.H0 ((spec_l00In_enc v32 v33 v34 y).1.av F') H' ∧ St F' (spec_l00In_enc v32 v33 v34 y).2 H' ∧ (spec_l00In_enc v32 v33 v34 y).1.Ok F' (spec_l00In_enc v32 v33 v34 y).2 :=
  fn_fin tok spec_l00In_hO mixed Try.func80 Try.call80 (by kernel_rfl) (LoopsOk_eq (l := []) (by kernel_rfl) trivial) (spec_l00In_den v32 v33 v34) hy h0 hA
def spec_l00In_v (v32 : Int) (v33 : Int) (v34 : Int) : Bool :=
  if (decide (v33 ≤ v32)) = true then (
   decide (v32 ≤ v34)
  ) else (
   false
  )
theorem spec_l00In_tot (v32 : Int) (v33 : Int) (v34 : Int) : spec_l00In_g v32 v33 v34 = some (spec_l00In_v v32 v33 v34) := by
  unfold spec_l00In_g spec_l00In_T spec_l00In_v
  simp only [Tree.run]
  repeat' (first | rfl | split)
noncomputable def spec_l00In_F : DFn := fun args L =>
  match args with
  | [.int .i64 v32, .int .i64 v33, .int .i64 v34] =>
    .leaf (.bool (spec_l00In_v v32 v33 v34), L)
  | _ => .fail
theorem spec_l00In_Fok : COk Try.prog 80 spec_l00In_F true := by
  intro F L H args r L' hs ha hr
  unfold spec_l00In_F at hr
  split at hr
  · rename_i v32 v33 v34
    have hy := spec_l00In_tot v32 v33 v34
    generalize spec_l00In_v v32 v33 v34 = y at hy hr
    simp only [Tree.run, Option.some.injEq, Prod.mk.injEq] at hr
    obtain ⟨rfl, rfl⟩ := hr
    exact call_ok0 hs (fun k => (([] : List AV)[k]?).getD .top) [.int .i64 v32, .int .i64 v33, .int .i64 v34] [.int .i64 v32, .int .i64 v33, .int .i64 v34] (fun F' h0 hi hρ => ⟨by simp [DVs.av, DV.av, BR.av, hρ], spec_l00In_fn v32 v33 v34 F' (st_nil hi) ⟨trivial, trivial, trivial, trivial⟩ hy⟩) rfl
  · cases hr
/-! spec.l06Bound -/
noncomputable def spec_l06Bound_l0_T (v35 : List Int) (v36 : Int) (s : Int) : Tree ((Int) ⊕ ((Unit) ⊕ (Unit))) :=
  (.br (decide (s < ((v35.length : Nat) : Int))) (
   (.grd (inb s v35.length) <|
   (.br (!(spec_l00In_v (nth v35 (Int.toNat s)) (IntKind.i64.wrap (0 - v36)) v36)) (
    .leaf (.inr (.inl ()))
   ) (
    .leaf (.inl (IntKind.i64.wrap (s + (1 : Int))))
   )))
  ) (
   .leaf (.inr (.inr ()))
  ))

noncomputable def spec_l06Bound_l0_g (v35 : List Int) (v36 : Int) (s0 : Int) : Option ((Unit) ⊕ (Unit)) := whileM (fun s => (spec_l06Bound_l0_T v35 v36 s).run) s0
def spec_l06Bound_l0_E (v35 : List Int) (v36 : Int) (s : Int) : Sd := ([.bslc (BR.root 0) (.i64 v35),.int .i64 v36,tp,tp,tp,.int .i64 s,tp,tp,tp,tp,tp,tp,tp,tp,tp,tp,tp,tp,tp,tp,tp], [])
def spec_l06Bound_l0_X (v35 : List Int) (v36 : Int) (x : (Unit) ⊕ (Unit)) : Out := (match x with | .inl x => (.ret, [tp,tp,tp,tp,.lit false,tp,tp,tp,tp,tp,tp,tp,tp,tp,tp,tp,tp,tp,tp,tp,tp], []) | .inr x => (.normal, [tp,tp,tp,tp,tp,tp,tp,tp,tp,tp,tp,tp,tp,tp,tp,tp,tp,tp,tp,tp,tp], []))
def spec_l06Bound_l0_kill : List Nat := KL true [0,2,3,1,15]
def spec_l06Bound_l0_nx : Exit → List Nat
  | .exit 0 => KL true [21]
  | .ret => KL true [4,1,16]
  | _ => []
noncomputable def spec_l06Bound_LO (v35 : List Int) (v36 : Int) : LOr := fun id e L =>
  match id with
  | 0 => .need (normA 0 spec_l06Bound_l0_kill e L = some (spec_l06Bound_l0_E v35 v36 (gI (vAt e 5)))) (.call (spec_l06Bound_l0_g v35 v36 (gI (vAt e 5))) fun x => .sum x (fun b0 => .leaf (spec_l06Bound_l0_X v35 v36 (.inl b0))) (fun c0 => .leaf (spec_l06Bound_l0_X v35 v36 (.inr c0))))
  | _ => .fail
noncomputable def spec_l06Bound_tab : List (FuncId × DFn × Bool) := [(80, spec_l00In_F, true)]
theorem spec_l06Bound_hO : OrcOk Try.prog (tabD spec_l06Bound_tab) (tabM spec_l06Bound_tab) := tabD_cons spec_l00In_Fok (tabD_nil _)
theorem spec_l06Bound_l0_be (v35 : List Int) (v36 : Int) (s : Int) : bodyT TT (tabD spec_l06Bound_tab) (tabM spec_l06Bound_tab) (spec_l06Bound_LO v35 v36) 0 spec_l06Bound_l0_kill spec_l06Bound_l0_nx (bodyOf Try.f66 0) 0 (spec_l06Bound_l0_E v35 v36 s) = (spec_l06Bound_l0_T v35 v36 s).bind fun y => .leaf (outS (spec_l06Bound_l0_E v35 v36) (spec_l06Bound_l0_X v35 v36) y) := by kernel_rfl
theorem spec_l06Bound_l0_ok (v35 : List Int) (v36 : Int) : LSound Try.prog 0 (spec_l06Bound_LO v35 v36) 0 (bodyOf Try.f66 0) := by
  intro e L out h
  exact lo_ok (E := spec_l06Bound_l0_E v35 v36) (gT := spec_l06Bound_l0_T v35 v36) (X := spec_l06Bound_l0_X v35 v36) (s0 := (gI (vAt e 5))) tok spec_l06Bound_hO mixed (LoopsOk_eq (l := []) (by kernel_rfl) trivial) (spec_l06Bound_l0_be v35 v36) rfl (by intro x; (cases x with | inl b => rfl | inr x => exact rfl)) h
noncomputable def spec_l06Bound_T (v35 : List Int) (v36 : Int) : Tree (Bool) :=
  (.need (some (spec_l06Bound_l0_E v35 v36 (0 : Int)) = some (spec_l06Bound_l0_E v35 v36 (0 : Int))) <|
  (.call (spec_l06Bound_l0_g v35 v36 (0 : Int)) fun v40 =>
  (.sum v40 (fun v41 =>
   .leaf false
  ) (fun v42 =>
   .leaf true
  ))))

noncomputable def spec_l06Bound_g (v35 : List Int) (v36 : Int) : Option (Bool) := (spec_l06Bound_T v35 v36).run
def spec_l06Bound_enc (v35 : List Int) (v36 : Int) (y : Bool) : Rs := (.bool y, [])
theorem spec_l06Bound_den (v35 : List Int) (v36 : Int) : (den TT (tabD spec_l06Bound_tab) (tabM spec_l06Bound_tab) (spec_l06Bound_LO v35 v36) (codeOf Try.f66) ([.bslc (BR.root 0) (.i64 v35), .int .i64 v36] ++ List.replicate (Try.f66.ntmps - ([.bslc (BR.root 0) (.i64 v35), .int .i64 v36] : List DV).length) .undef) []).bind (retD TT Try.f66.results.toList 0) = (spec_l06Bound_T v35 v36).bind fun y => .leaf (spec_l06Bound_enc v35 v36 y) := by kernel_rfl
theorem spec_l06Bound_fn (v35 : List Int) (v36 : Int) (F : Fr) (h0 : St F [] F.H0) (hA : DVs.Ok F [] [.bslc (BR.root 0) (.i64 v35), .int .i64 v36]) {y : Bool} (hy : spec_l06Bound_g v35 v36 = some y) : ∃ F' H', Fwd 0 F F' [] (spec_l06Bound_enc v35 v36 y).2 ∧ FnOk Try.prog 66 (DVs.av F [.bslc (BR.root 0) (.i64 v35), .int .i64 v36]) F.H0 ((spec_l06Bound_enc v35 v36 y).1.av F') H' ∧ St F' (spec_l06Bound_enc v35 v36 y).2 H' ∧ (spec_l06Bound_enc v35 v36 y).1.Ok F' (spec_l06Bound_enc v35 v36 y).2 :=
  fn_fin tok spec_l06Bound_hO mixed Try.func66 Try.call66 (by kernel_rfl) (LoopsOk_eq (l := [(0, bodyOf Try.f66 0)]) (by kernel_rfl) ⟨spec_l06Bound_l0_ok v35 v36, trivial⟩) (spec_l06Bound_den v35 v36) hy h0 hA
noncomputable def spec_l06Bound_F : DFn := fun args L =>
  match args with
  | [a1, .int .i64 v36] =>
    optT (rowI64 L a1) fun v35 =>
    .call (spec_l06Bound_g v35 v36) fun y => .leaf (.bool y, L)
  | _ => .fail
theorem spec_l06Bound_Fok : COk Try.prog 66 spec_l06Bound_F true := by
  intro F L H args r L' hs ha hr
  unfold spec_l06Bound_F at hr
  split at hr
  · rename_i a1 v36
    obtain ⟨v35, hv35, hr⟩ := optT_run hr
    simp only [Tree.run] at hr
    obtain ⟨y, hy, hr⟩ := Option.bind_eq_some_iff.1 hr
    simp only [Tree.run, Option.some.injEq, Prod.mk.injEq] at hr
    obtain ⟨rfl, rfl⟩ := hr
    exact call_ok0 hs (fun k => (([a1.av F] : List AV)[k]?).getD .top) [a1, .int .i64 v36] [.bslc (BR.root 0) (.i64 v35), .int .i64 v36] (fun F' h0 hi hρ => ⟨by simp [DVs.av, DV.av, BR.av, hρ], spec_l06Bound_fn v35 v36 F' (st_nil hi) ⟨bslc_ok hi (by rw [h0, hρ]; exact rowI64_ok hs (DVs.okAt ha 0 rfl) hv35), trivial, trivial⟩ hy⟩) rfl
  · cases hr
/-! spec.l06Is -/
noncomputable def spec_l06Is_LO (v28 : Int) (v29 : Int) (v30 : List Int) (v31 : Int) : LOr := fun id e L =>
  match id with
  | _ => .fail
noncomputable def spec_l06Is_tab : List (FuncId × DFn × Bool) := [(80, spec_l00In_F, true), (66, spec_l06Bound_F, true)]
theorem spec_l06Is_hO : OrcOk Try.prog (tabD spec_l06Is_tab) (tabM spec_l06Is_tab) := tabD_cons spec_l00In_Fok (tabD_cons spec_l06Bound_Fok (tabD_nil _))
noncomputable def spec_l06Is_T (v28 : Int) (v29 : Int) (v30 : List Int) (v31 : Int) : Tree (Bool) :=
  (.br (spec_l00In_v v28 (1 : Int) (6 : Int)) (
   (.br (spec_l00In_v v29 (1 : Int) (6 : Int)) (
    (.br (decide (((v30.length : Nat) : Int) = IntKind.i64.wrap (v28 * v29))) (
     (.call (spec_l06Bound_g v30 v31) fun v43 =>
     .leaf v43)
    ) (
     .leaf false
    ))
   ) (
    .leaf false
   ))
  ) (
   .leaf false
  ))

noncomputable def spec_l06Is_g (v28 : Int) (v29 : Int) (v30 : List Int) (v31 : Int) : Option (Bool) := (spec_l06Is_T v28 v29 v30 v31).run
def spec_l06Is_enc (v28 : Int) (v29 : Int) (v30 : List Int) (v31 : Int) (y : Bool) : Rs := (.bool y, [])
theorem spec_l06Is_den (v28 : Int) (v29 : Int) (v30 : List Int) (v31 : Int) : (den TT (tabD spec_l06Is_tab) (tabM spec_l06Is_tab) (spec_l06Is_LO v28 v29 v30 v31) (codeOf Try.f60) ([.bptr (BR.root 0) [.int .i64 v28, .int .i64 v29, .bslc (BR.root 1) (.i64 v30)], .int .i64 v31] ++ List.replicate (Try.f60.ntmps - ([.bptr (BR.root 0) [.int .i64 v28, .int .i64 v29, .bslc (BR.root 1) (.i64 v30)], .int .i64 v31] : List DV).length) .undef) []).bind (retD TT Try.f60.results.toList 0) = (spec_l06Is_T v28 v29 v30 v31).bind fun y => .leaf (spec_l06Is_enc v28 v29 v30 v31 y) := by kernel_rfl
theorem spec_l06Is_fn (v28 : Int) (v29 : Int) (v30 : List Int) (v31 : Int) (F : Fr) (h0 : St F [] F.H0) (hA : DVs.Ok F [] [.bptr (BR.root 0) [.int .i64 v28, .int .i64 v29, .bslc (BR.root 1) (.i64 v30)], .int .i64 v31]) {y : Bool} (hy : spec_l06Is_g v28 v29 v30 v31 = some y) : ∃ F' H', Fwd 0 F F' [] (spec_l06Is_enc v28 v29 v30 v31 y).2 ∧ FnOk Try.prog 60 (DVs.av F [.bptr (BR.root 0) [.int .i64 v28, .int .i64 v29, .bslc (BR.root 1) (.i64 v30)], .int .i64 v31]) F.H0 ((spec_l06Is_enc v28 v29 v30 v31 y).1.av F') H' ∧ St F' (spec_l06Is_enc v28 v29 v30 v31 y).2 H' ∧ (spec_l06Is_enc v28 v29 v30 v31 y).1.Ok F' (spec_l06Is_enc v28 v29 v30 v31 y).2 :=
  fn_fin tok spec_l06Is_hO mixed Try.func60 Try.call60 (by kernel_rfl) (LoopsOk_eq (l := []) (by kernel_rfl) trivial) (spec_l06Is_den v28 v29 v30 v31) hy h0 hA
noncomputable def spec_l06Is_F : DFn := fun args L =>
  match args with
  | [a1, .int .i64 v31] =>
    optT (cellsOf L 3 a1) fun cs0 =>
    (match cs0 with
    | [.int .i64 v28, .int .i64 v29, a2] =>
    optT (rowI64 L a2) fun v30 =>
    .call (spec_l06Is_g v28 v29 v30 v31) fun y => .leaf (.bool y, L)
    | _ => .fail)
  | _ => .fail
theorem spec_l06Is_Fok : COk Try.prog 60 spec_l06Is_F true := by
  intro F L H args r L' hs ha hr
  unfold spec_l06Is_F at hr
  split at hr
  · rename_i a1 v31
    obtain ⟨cs0, hcp0, hr⟩ := optT_run hr
    split at hr
    · rename_i v28 v29 a2
      obtain ⟨v30, hv30, hr⟩ := optT_run hr
      simp only [Tree.run] at hr
      obtain ⟨y, hy, hr⟩ := Option.bind_eq_some_iff.1 hr
      simp only [Tree.run, Option.some.injEq, Prod.mk.injEq] at hr
      obtain ⟨rfl, rfl⟩ := hr
      exact call_ok0 hs (fun k => (([a1.av F, a2.av F] : List AV)[k]?).getD .top) [a1, .int .i64 v31] [.bptr (BR.root 0) [.int .i64 v28, .int .i64 v29, .bslc (BR.root 1) (.i64 v30)], .int .i64 v31] (fun F' h0 hi hρ => ⟨by simp [DVs.av, DV.av, BR.av, hρ], spec_l06Is_fn v28 v29 v30 v31 F' (st_nil hi) ⟨bptr_ok hi (by rw [h0]; simpa [DVs.av, DV.av, BR.av, hρ] using (cellsOf_ok hs (DVs.okAt ha 0 rfl) hcp0).1) ⟨trivial, trivial, bslc_ok hi (by rw [h0, hρ]; exact rowI64_ok hs (DVs.okAt (cellsOf_ok hs (DVs.okAt ha 0 rfl) hcp0).2 2 rfl) hv30), trivial⟩, trivial, trivial⟩ hy⟩) rfl
    · cases hr
  · cases hr
/-! spec.l06Low -/
noncomputable def spec_l06Low_LO (v25 : Int) (v26 : Int) (v27 : List Int) : LOr := fun id e L =>
  match id with
  | _ => .fail
noncomputable def spec_l06Low_tab : List (FuncId × DFn × Bool) := [(60, spec_l06Is_F, true)]
theorem spec_l06Low_hO : OrcOk Try.prog (tabD spec_l06Low_tab) (tabM spec_l06Low_tab) := tabD_cons spec_l06Is_Fok (tabD_nil _)
noncomputable def spec_l06Low_T (v25 : Int) (v26 : Int) (v27 : List Int) : Tree (Bool) :=
  (.call (spec_l06Is_g v25 v26 v27 (100 : Int)) fun v44 =>
  .leaf v44)

noncomputable def spec_l06Low_g (v25 : Int) (v26 : Int) (v27 : List Int) : Option (Bool) := (spec_l06Low_T v25 v26 v27).run
def spec_l06Low_enc (v25 : Int) (v26 : Int) (v27 : List Int) (y : Bool) : Rs := (.bool y, [])
theorem spec_l06Low_den (v25 : Int) (v26 : Int) (v27 : List Int) : (den TT (tabD spec_l06Low_tab) (tabM spec_l06Low_tab) (spec_l06Low_LO v25 v26 v27) (codeOf Try.f71) ([.bptr (BR.root 0) [.int .i64 v25, .int .i64 v26, .bslc (BR.root 1) (.i64 v27)]] ++ List.replicate (Try.f71.ntmps - ([.bptr (BR.root 0) [.int .i64 v25, .int .i64 v26, .bslc (BR.root 1) (.i64 v27)]] : List DV).length) .undef) []).bind (retD TT Try.f71.results.toList 0) = (spec_l06Low_T v25 v26 v27).bind fun y => .leaf (spec_l06Low_enc v25 v26 v27 y) := by kernel_rfl
theorem spec_l06Low_fn (v25 : Int) (v26 : Int) (v27 : List Int) (F : Fr) (h0 : St F [] F.H0) (hA : DVs.Ok F [] [.bptr (BR.root 0) [.int .i64 v25, .int .i64 v26, .bslc (BR.root 1) (.i64 v27)]]) {y : Bool} (hy : spec_l06Low_g v25 v26 v27 = some y) : ∃ F' H', Fwd 0 F F' [] (spec_l06Low_enc v25 v26 v27 y).2 ∧ FnOk Try.prog 71 (DVs.av F [.bptr (BR.root 0) [.int .i64 v25, .int .i64 v26, .bslc (BR.root 1) (.i64 v27)]]) F.H0 ((spec_l06Low_enc v25 v26 v27 y).1.av F') H' ∧ St F' (spec_l06Low_enc v25 v26 v27 y).2 H' ∧ (spec_l06Low_enc v25 v26 v27 y).1.Ok F' (spec_l06Low_enc v25 v26 v27 y).2 :=
  fn_fin tok spec_l06Low_hO mixed Try.func71 Try.call71 (by kernel_rfl) (LoopsOk_eq (l := []) (by kernel_rfl) trivial) (spec_l06Low_den v25 v26 v27) hy h0 hA
noncomputable def spec_l06Low_F : DFn := fun args L =>
  match args with
  | [a1] =>
    optT (cellsOf L 3 a1) fun cs0 =>
    (match cs0 with
    | [.int .i64 v25, .int .i64 v26, a2] =>
    optT (rowI64 L a2) fun v27 =>
    .call (spec_l06Low_g v25 v26 v27) fun y => .leaf (.bool y, L)
    | _ => .fail)
  | _ => .fail
theorem spec_l06Low_Fok : COk Try.prog 71 spec_l06Low_F true := by
  intro F L H args r L' hs ha hr
  unfold spec_l06Low_F at hr
  split at hr
  · rename_i a1
    obtain ⟨cs0, hcp0, hr⟩ := optT_run hr
    split at hr
    · rename_i v25 v26 a2
      obtain ⟨v27, hv27, hr⟩ := optT_run hr
      simp only [Tree.run] at hr
      obtain ⟨y, hy, hr⟩ := Option.bind_eq_some_iff.1 hr
      simp only [Tree.run, Option.some.injEq, Prod.mk.injEq] at hr
      obtain ⟨rfl, rfl⟩ := hr
      exact call_ok0 hs (fun k => (([a1.av F, a2.av F] : List AV)[k]?).getD .top) [a1] [.bptr (BR.root 0) [.int .i64 v25, .int .i64 v26, .bslc (BR.root 1) (.i64 v27)]] (fun F' h0 hi hρ => ⟨by simp [DVs.av, DV.av, BR.av, hρ], spec_l06Low_fn v25 v26 v27 F' (st_nil hi) ⟨bptr_ok hi (by rw [h0]; simpa [DVs.av, DV.av, BR.av, hρ] using (cellsOf_ok hs (DVs.okAt ha 0 rfl) hcp0).1) ⟨trivial, trivial, bslc_ok hi (by rw [h0, hρ]; exact rowI64_ok hs (DVs.okAt (cellsOf_ok hs (DVs.okAt ha 0 rfl) hcp0).2 2 rfl) hv27), trivial⟩, trivial⟩ hy⟩) rfl
    · cases hr
  · cases hr
/-! spec.l00Min -/
noncomputable def spec_l00Min_LO (v48 : Int) (v49 : Int) : LOr := fun id e L =>
  match id with
  | _ => .fail
noncomputable def spec_l00Min_tab : List (FuncId × DFn × Bool) := []
theorem spec_l00Min_hO : OrcOk Try.prog (tabD spec_l00Min_tab) (tabM spec_l00Min_tab) := tabD_nil _
noncomputable def spec_l00Min_T (v48 : Int) (v49 : Int) : Tree (Int) :=
  (.br (decide (v48 < v49)) (
   .leaf v48
  ) (
   .leaf v49
  ))

noncomputable def spec_l00Min_g (v48 : Int) (v49 : Int) : Option (Int) := (spec_l00Min_T v48 v49).run
def spec_l00Min_enc (v48 : Int) (v49 : Int) (y : Int) : Rs := (.int .i64 y, [])
theorem spec_l00Min_den (v48 : Int) (v49 : Int) : (den TT (tabD spec_l00Min_tab) (tabM spec_l00Min_tab) (spec_l00Min_LO v48 v49) (codeOf Try.f72) ([.int .i64 v48, .int .i64 v49] ++ List.replicate (Try.f72.ntmps - ([.int .i64 v48, .int .i64 v49] : List DV).length) .undef) []).bind (retD TT Try.f72.results.toList 0) = (spec_l00Min_T v48 v49).bind fun y => .leaf (spec_l00Min_enc v48 v49 y) := by kernel_rfl
theorem spec_l00Min_fn (v48 : Int) (v49 : Int) (F : Fr) (h0 : St F [] F.H0) (hA : DVs.Ok F [] [.int .i64 v48, .int .i64 v49]) {y : Int} (hy : spec_l00Min_g v48 v49 = some y) : ∃ F' H', Fwd 0 F F' [] (spec_l00Min_enc v48 v49 y).2 ∧ FnOk Try.prog 72 (DVs.av F [.int .i64 v48, .int .i64 v49]) F.H0 ((spec_l00Min_enc v48 v49 y).1.av F') H' ∧ St F' (spec_l00Min_enc v48 v49 y).2 H' ∧ (spec_l00Min_enc v48 v49 y).1.Ok F' (spec_l00Min_enc v48 v49 y).2 :=
  fn_fin tok spec_l00Min_hO mixed Try.func72 Try.call72 (by kernel_rfl) (LoopsOk_eq (l := []) (by kernel_rfl) trivial) (spec_l00Min_den v48 v49) hy h0 hA
def spec_l00Min_v (v48 : Int) (v49 : Int) : Int :=
  if (decide (v48 < v49)) = true then (
   v48
  ) else (
   v49
  )
theorem spec_l00Min_tot (v48 : Int) (v49 : Int) : spec_l00Min_g v48 v49 = some (spec_l00Min_v v48 v49) := by
  unfold spec_l00Min_g spec_l00Min_T spec_l00Min_v
  simp only [Tree.run]
  repeat' (first | rfl | split)
noncomputable def spec_l00Min_F : DFn := fun args L =>
  match args with
  | [.int .i64 v48, .int .i64 v49] =>
    .leaf (.int .i64 (spec_l00Min_v v48 v49), L)
  | _ => .fail
theorem spec_l00Min_Fok : COk Try.prog 72 spec_l00Min_F true := by
  intro F L H args r L' hs ha hr
  unfold spec_l00Min_F at hr
  split at hr
  · rename_i v48 v49
    have hy := spec_l00Min_tot v48 v49
    generalize spec_l00Min_v v48 v49 = y at hy hr
    simp only [Tree.run, Option.some.injEq, Prod.mk.injEq] at hr
    obtain ⟨rfl, rfl⟩ := hr
    exact call_ok0 hs (fun k => (([] : List AV)[k]?).getD .top) [.int .i64 v48, .int .i64 v49] [.int .i64 v48, .int .i64 v49] (fun F' h0 hi hρ => ⟨by simp [DVs.av, DV.av, BR.av, hρ], spec_l00Min_fn v48 v49 F' (st_nil hi) ⟨trivial, trivial, trivial⟩ hy⟩) rfl
  · cases hr
end Go.Proofs.Ytimlecagkbbnpaa.AM
