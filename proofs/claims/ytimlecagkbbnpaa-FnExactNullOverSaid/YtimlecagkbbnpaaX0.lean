/- Functions: what they come to. -/
import Derived.Test.YtimlecagkbbnpaaBase
set_option maxRecDepth 100000
set_option maxHeartbeats 4000000
set_option linter.unusedSimpArgs false
set_option linter.unusedVariables false
namespace Go.Proofs.Ytimlecagkbbnpaa.AM
open Go.Proofs
/-! laws.szInt64S -/
noncomputable def laws_szInt64S_LO (v9 : List Int) (v10 : Int) : LOr := fun id e L =>
  match id with
  | _ => .fail
noncomputable def laws_szInt64S_tab : List (FuncId × DFn × Bool) := []
theorem laws_szInt64S_hO : OrcOk Try.prog (tabD laws_szInt64S_tab) (tabM laws_szInt64S_tab) := tabD_nil _
noncomputable def laws_szInt64S_T (v9 : List Int) (v10 : Int) : Tree (Int) :=
  (.br (decide (IntKind.i64.wrap (v10 - ((v9.length : Nat) : Int)) < (0 : Int))) (
   .leaf (-1 : Int)
  ) (
   .leaf (IntKind.i64.wrap (v10 - ((v9.length : Nat) : Int)))
  ))

noncomputable def laws_szInt64S_g (v9 : List Int) (v10 : Int) : Option (Int) := (laws_szInt64S_T v9 v10).run
def laws_szInt64S_enc (v9 : List Int) (v10 : Int) (y : Int) : Rs := (.int .i64 y, [])
theorem laws_szInt64S_den (v9 : List Int) (v10 : Int) : (den TT (tabD laws_szInt64S_tab) (tabM laws_szInt64S_tab) (laws_szInt64S_LO v9 v10) (codeOf Try.f59) ([.bslc (BR.root 0) (.i64 v9), .int .i64 v10] ++ List.replicate (Try.f59.ntmps - ([.bslc (BR.root 0) (.i64 v9), .int .i64 v10] : List DV).length) .undef) []).bind (retD TT Try.f59.results.toList 0) = (laws_szInt64S_T v9 v10).bind fun y => .leaf (laws_szInt64S_enc v9 v10 y) := by kernel_rfl
theorem laws_szInt64S_fn (v9 : List Int) (v10 : Int) (F : Fr) (h0 : St F [] F.H0) (hA : DVs.Ok F [] [.bslc (BR.root 0) (.i64 v9), .int .i64 v10]) {y : Int} (hy : laws_szInt64S_g v9 v10 = some y) : ∃ F' H', Fwd 0 F F' [] (laws_szInt64S_enc v9 v10 y).2 ∧ FnOk Try.prog 59 (DVs.av F [.bslc (BR.root 0) (.i64 v9), .int .i64 v10]) F.H0 ((laws_szInt64S_enc v9 v10 y).1.av F') H' ∧ St F' (laws_szInt64S_enc v9 v10 y).2 H' ∧ (laws_szInt64S_enc v9 v10 y).1.Ok F' (laws_szInt64S_enc v9 v10 y).2 :=
  fn_fin tok laws_szInt64S_hO mixed Try.func59 Try.call59 (by kernel_rfl) (LoopsOk_eq (l := []) (by kernel_rfl) trivial) (laws_szInt64S_den v9 v10) hy h0 hA
def laws_szInt64S_v (v9 : List Int) (v10 : Int) : Int :=
  if (decide (IntKind.i64.wrap (v10 - ((v9.length : Nat) : Int)) < (0 : Int))) = true then (
   (-1 : Int)
  ) else (
   IntKind.i64.wrap (v10 - ((v9.length : Nat) : Int))
  )
theorem laws_szInt64S_tot (v9 : List Int) (v10 : Int) : laws_szInt64S_g v9 v10 = some (laws_szInt64S_v v9 v10) := by
  unfold laws_szInt64S_g laws_szInt64S_T laws_szInt64S_v
  simp only [Tree.run]
  repeat' (first | rfl | split)
noncomputable def laws_szInt64S_F : DFn := fun args L =>
  match args with
  | [a1, .int .i64 v10] =>
    optT (rowI64 L a1) fun v9 =>
    .leaf (.int .i64 (laws_szInt64S_v v9 v10), L)
  | _ => .fail
theorem laws_szInt64S_Fok : COk Try.prog 59 laws_szInt64S_F true := by
  intro F L H args r L' hs ha hr
  unfold laws_szInt64S_F at hr
  split at hr
  · rename_i a1 v10
    obtain ⟨v9, hv9, hr⟩ := optT_run hr
    have hy := laws_szInt64S_tot v9 v10
    generalize laws_szInt64S_v v9 v10 = y at hy hr
    simp only [Tree.run, Option.some.injEq, Prod.mk.injEq] at hr
    obtain ⟨rfl, rfl⟩ := hr
    exact call_ok0 hs (fun k => (([a1.av F] : List AV)[k]?).getD .top) [a1, .int .i64 v10] [.bslc (BR.root 0) (.i64 v9), .int .i64 v10] (fun F' h0 hi hρ => ⟨by simp [DVs.av, DV.av, BR.av, hρ], laws_szInt64S_fn v9 v10 F' (st_nil hi) ⟨bslc_ok hi (by rw [h0, hρ]; exact rowI64_ok hs (DVs.okAt ha 0 rfl) hv9), trivial, trivial⟩ hy⟩) rfl
  · cases hr
/-! laws.szWhole -/
noncomputable def laws_szWhole_LO (v5 : Int) (v6 : Int) (v7 : List Int) (v8 : Int) : LOr := fun id e L =>
  match id with
  | _ => .fail
noncomputable def laws_szWhole_tab : List (FuncId × DFn × Bool) := [(59, laws_szInt64S_F, true)]
theorem laws_szWhole_hO : OrcOk Try.prog (tabD laws_szWhole_tab) (tabM laws_szWhole_tab) := tabD_cons laws_szInt64S_Fok (tabD_nil _)
noncomputable def laws_szWhole_T (v7 : List Int) (v8 : Int) : Tree (Int) :=
  (.br (decide ((laws_szInt64S_v v7 v8) < (0 : Int))) (
   .leaf (-1 : Int)
  ) (
   .leaf (laws_szInt64S_v v7 v8)
  ))

noncomputable def laws_szWhole_g (v7 : List Int) (v8 : Int) : Option (Int) := (laws_szWhole_T v7 v8).run
def laws_szWhole_enc (v5 : Int) (v6 : Int) (v7 : List Int) (v8 : Int) (y : Int) : Rs := (.int .i64 y, [])
theorem laws_szWhole_den (v5 : Int) (v6 : Int) (v7 : List Int) (v8 : Int) : (den TT (tabD laws_szWhole_tab) (tabM laws_szWhole_tab) (laws_szWhole_LO v5 v6 v7 v8) (codeOf Try.f12) ([.agg [.int .i64 v5, .int .i64 v6, .bslc (BR.root 0) (.i64 v7)], .int .i64 v8] ++ List.replicate (Try.f12.ntmps - ([.agg [.int .i64 v5, .int .i64 v6, .bslc (BR.root 0) (.i64 v7)], .int .i64 v8] : List DV).length) .undef) []).bind (retD TT Try.f12.results.toList 0) = (laws_szWhole_T v7 v8).bind fun y => .leaf (laws_szWhole_enc v5 v6 v7 v8 y) := by kernel_rfl
theorem laws_szWhole_fn (v5 : Int) (v6 : Int) (v7 : List Int) (v8 : Int) (F : Fr) (h0 : St F [] F.H0) (hA : DVs.Ok F [] [.agg [.int .i64 v5, .int .i64 v6, .bslc (BR.root 0) (.i64 v7)], .int .i64 v8]) {y : Int} (hy : laws_szWhole_g v7 v8 = some y) : ∃ F' H', Fwd 0 F F' [] (laws_szWhole_enc v5 v6 v7 v8 y).2 ∧ FnOk Try.prog 12 (DVs.av F [.agg [.int .i64 v5, .int .i64 v6, .bslc (BR.root 0) (.i64 v7)], .int .i64 v8]) F.H0 ((laws_szWhole_enc v5 v6 v7 v8 y).1.av F') H' ∧ St F' (laws_szWhole_enc v5 v6 v7 v8 y).2 H' ∧ (laws_szWhole_enc v5 v6 v7 v8 y).1.Ok F' (laws_szWhole_enc v5 v6 v7 v8 y).2 :=
  fn_fin tok laws_szWhole_hO mixed Try.func12 Try.call12 (by kernel_rfl) (LoopsOk_eq (l := []) (by kernel_rfl) trivial) (laws_szWhole_den v5 v6 v7 v8) hy h0 hA
def laws_szWhole_v (v7 : List Int) (v8 : Int) : Int :=
  if (decide ((laws_szInt64S_v v7 v8) < (0 : Int))) = true then (
   (-1 : Int)
  ) else (
   (laws_szInt64S_v v7 v8)
  )
theorem laws_szWhole_tot (v7 : List Int) (v8 : Int) : laws_szWhole_g v7 v8 = some (laws_szWhole_v v7 v8) := by
  unfold laws_szWhole_g laws_szWhole_T laws_szWhole_v
  simp only [Tree.run]
  repeat' (first | rfl | split)
noncomputable def laws_szWhole_F : DFn := fun args L =>
  match args with
  | [.agg [.int .i64 v5, .int .i64 v6, a1], .int .i64 v8] =>
    optT (rowI64 L a1) fun v7 =>
    .leaf (.int .i64 (laws_szWhole_v v7 v8), L)
  | _ => .fail
theorem laws_szWhole_Fok : COk Try.prog 12 laws_szWhole_F true := by
  intro F L H args r L' hs ha hr
  unfold laws_szWhole_F at hr
  split at hr
  · rename_i v5 v6 a1 v8
    obtain ⟨v7, hv7, hr⟩ := optT_run hr
    have hy := laws_szWhole_tot v7 v8
    generalize laws_szWhole_v v7 v8 = y at hy hr
    simp only [Tree.run, Option.some.injEq, Prod.mk.injEq] at hr
    obtain ⟨rfl, rfl⟩ := hr
    exact call_ok0 hs (fun k => (([a1.av F] : List AV)[k]?).getD .top) [.agg [.int .i64 v5, .int .i64 v6, a1], .int .i64 v8] [.agg [.int .i64 v5, .int .i64 v6, .bslc (BR.root 0) (.i64 v7)], .int .i64 v8] (fun F' h0 hi hρ => ⟨by simp [DVs.av, DV.av, BR.av, hρ], laws_szWhole_fn v5 v6 v7 v8 F' (st_nil hi) ⟨⟨trivial, trivial, bslc_ok hi (by rw [h0, hρ]; exact rowI64_ok hs (DVs.okAt (DVs.okAt ha 0 rfl) 2 rfl) hv7), trivial⟩, trivial, trivial⟩ hy⟩) rfl
  · cases hr
/-! laws.toInt64S -/
noncomputable def laws_toInt64S_l0_T (v14 : List Int) (s : Int × (List Int)) : Tree ((Int × (List Int)) ⊕ ((List Int))) :=
  (.br (decide (s.1 < ((v14.length : Nat) : Int))) (
   (.grd (inb s.1 v14.length) <|
   (.grd (inb s.1 ((s.2).length)) <|
   .leaf (.inl (IntKind.i64.wrap (s.1 + (1 : Int)), List.set s.2 (Int.toNat s.1) (nth v14 (Int.toNat s.1))))))
  ) (
   .leaf (.inr s.2)
  ))

noncomputable def laws_toInt64S_l0_g (v14 : List Int) (s0 : Int × (List Int)) : Option ((List Int)) := whileM (fun s => (laws_toInt64S_l0_T v14 s).run) s0
def laws_toInt64S_l0_E (v14 : List Int) (s : Int × (List Int)) : Sd := ([.bslc (BR.root 0) (.i64 v14),tp,tp,.own 0 0 ((s.2).length),.int .i64 s.1,tp,tp,tp,tp,tp,tp,tp,tp,tp,tp,tp,tp,tp,tp,tp,tp,tp], [.row (.i64 s.2) 0])
def laws_toInt64S_l0_X (v14 : List Int) (x : (List Int)) : Out := (.normal, [tp,tp,tp,.own 0 0 ((x).length),tp,tp,tp,tp,tp,tp,tp,tp,tp,tp,tp,tp,tp,tp,tp,tp,tp,tp], [.row (.i64 x) 0])
def laws_toInt64S_l0_kill : List Nat := KL true [0,1,2,2,17]
def laws_toInt64S_l0_nx : Exit → List Nat
  | .exit 0 => KL true [3,1,18]
  | .ret => KL true [2,1,19]
  | _ => []
noncomputable def laws_toInt64S_LO (v14 : List Int) : LOr := fun id e L =>
  match id with
  | 0 => .need (normA 0 laws_toInt64S_l0_kill e L = some (laws_toInt64S_l0_E v14 ((gI (vAt e 4)), (gRI L (vAt e 3))))) (.call (laws_toInt64S_l0_g v14 ((gI (vAt e 4)), (gRI L (vAt e 3)))) fun x => .leaf (laws_toInt64S_l0_X v14 x))
  | _ => .fail
noncomputable def laws_toInt64S_tab : List (FuncId × DFn × Bool) := []
theorem laws_toInt64S_hO : OrcOk Try.prog (tabD laws_toInt64S_tab) (tabM laws_toInt64S_tab) := tabD_nil _
theorem laws_toInt64S_l0_be (v14 : List Int) (s : Int × (List Int)) : bodyT TT (tabD laws_toInt64S_tab) (tabM laws_toInt64S_tab) (laws_toInt64S_LO v14) 0 laws_toInt64S_l0_kill laws_toInt64S_l0_nx (bodyOf Try.f20 0) 0 (laws_toInt64S_l0_E v14 s) = (laws_toInt64S_l0_T v14 s).bind fun y => .leaf (outS (laws_toInt64S_l0_E v14) (laws_toInt64S_l0_X v14) y) := by kernel_rfl
theorem laws_toInt64S_l0_ok (v14 : List Int) : LSound Try.prog 0 (laws_toInt64S_LO v14) 0 (bodyOf Try.f20 0) := by
  intro e L out h
  exact lo_ok (E := laws_toInt64S_l0_E v14) (gT := laws_toInt64S_l0_T v14) (X := laws_toInt64S_l0_X v14) (s0 := ((gI (vAt e 4)), (gRI L (vAt e 3)))) tok laws_toInt64S_hO mixed (LoopsOk_eq (l := []) (by kernel_rfl) trivial) (laws_toInt64S_l0_be v14) rfl (by intro x; rfl) h
noncomputable def laws_toInt64S_T (v14 : List Int) : Tree ((List Int)) :=
  (.need (((v14.length : Nat) : Int) = ((v14.length : Nat) : Int)) <|
  (.grd (inb ((v14.length : Nat) : Int) (maxN + 1)) <|
  (.need (some (laws_toInt64S_l0_E v14 ((0 : Int), List.replicate (Int.toNat ((v14.length : Nat) : Int)) (0 : Int))) = some (laws_toInt64S_l0_E v14 ((0 : Int), List.replicate (Int.toNat ((v14.length : Nat) : Int)) (0 : Int)))) <|
  (.call (laws_toInt64S_l0_g v14 ((0 : Int), List.replicate (Int.toNat ((v14.length : Nat) : Int)) (0 : Int))) fun v20 =>
  .leaf v20))))

noncomputable def laws_toInt64S_g (v14 : List Int) : Option ((List Int)) := (laws_toInt64S_T v14).run
def laws_toInt64S_enc (v14 : List Int) (y : (List Int)) : Rs := (.own 0 0 ((y).length), [.row (.i64 y) 0])
theorem laws_toInt64S_den (v14 : List Int) : (den TT (tabD laws_toInt64S_tab) (tabM laws_toInt64S_tab) (laws_toInt64S_LO v14) (codeOf Try.f20) ([.bslc (BR.root 0) (.i64 v14)] ++ List.replicate (Try.f20.ntmps - ([.bslc (BR.root 0) (.i64 v14)] : List DV).length) .undef) []).bind (retD TT Try.f20.results.toList 0) = (laws_toInt64S_T v14).bind fun y => .leaf (laws_toInt64S_enc v14 y) := by kernel_rfl
theorem laws_toInt64S_fn (v14 : List Int) (F : Fr) (h0 : St F [] F.H0) (hA : DVs.Ok F [] [.bslc (BR.root 0) (.i64 v14)]) {y : (List Int)} (hy : laws_toInt64S_g v14 = some y) : ∃ F' H', Fwd 0 F F' [] (laws_toInt64S_enc v14 y).2 ∧ FnOk Try.prog 20 (DVs.av F [.bslc (BR.root 0) (.i64 v14)]) F.H0 ((laws_toInt64S_enc v14 y).1.av F') H' ∧ St F' (laws_toInt64S_enc v14 y).2 H' ∧ (laws_toInt64S_enc v14 y).1.Ok F' (laws_toInt64S_enc v14 y).2 :=
  fn_fin tok laws_toInt64S_hO mixed Try.func20 Try.call20 (by kernel_rfl) (LoopsOk_eq (l := [(0, bodyOf Try.f20 0)]) (by kernel_rfl) ⟨laws_toInt64S_l0_ok v14, trivial⟩) (laws_toInt64S_den v14) hy h0 hA
noncomputable def laws_toInt64S_F : DFn := fun args L =>
  match args with
  | [a1] =>
    optT (rowI64 L a1) fun v14 =>
    .call (laws_toInt64S_g v14) fun y => .leaf (.own (L.length + 0) 0 ((y).length), L ++ [.row (.i64 y) 0])
  | _ => .fail
theorem laws_toInt64S_Fok : COk Try.prog 20 laws_toInt64S_F true := by
  intro F L H args r L' hs ha hr
  unfold laws_toInt64S_F at hr
  split at hr
  · rename_i a1
    obtain ⟨v14, hv14, hr⟩ := optT_run hr
    simp only [Tree.run] at hr
    obtain ⟨y, hy, hr⟩ := Option.bind_eq_some_iff.1 hr
    simp only [Tree.run, Option.some.injEq, Prod.mk.injEq] at hr
    obtain ⟨rfl, rfl⟩ := hr
    exact call_ok1 hs (fun k => (([a1.av F] : List AV)[k]?).getD .top) [a1] [.bslc (BR.root 0) (.i64 v14)] (fun F' h0 hi hρ => ⟨by simp [DVs.av, DV.av, BR.av, hρ], laws_toInt64S_fn v14 F' (st_nil hi) ⟨bslc_ok hi (by rw [h0, hρ]; exact rowI64_ok hs (DVs.okAt ha 0 rfl) hv14), trivial⟩ hy⟩) rfl rfl
  · cases hr
/-! laws.toWhole -/
noncomputable def laws_toWhole_LO (v11 : Int) (v12 : Int) (v13 : List Int) : LOr := fun id e L =>
  match id with
  | _ => .fail
noncomputable def laws_toWhole_tab : List (FuncId × DFn × Bool) := [(20, laws_toInt64S_F, true)]
theorem laws_toWhole_hO : OrcOk Try.prog (tabD laws_toWhole_tab) (tabM laws_toWhole_tab) := tabD_cons laws_toInt64S_Fok (tabD_nil _)
noncomputable def laws_toWhole_T (v11 : Int) (v12 : Int) (v13 : List Int) : Tree (Int × Int × (List Int)) :=
  (.call (laws_toInt64S_g v13) fun v21 =>
  .leaf (v11, v12, v21))

noncomputable def laws_toWhole_g (v11 : Int) (v12 : Int) (v13 : List Int) : Option (Int × Int × (List Int)) := (laws_toWhole_T v11 v12 v13).run
def laws_toWhole_enc (v11 : Int) (v12 : Int) (v13 : List Int) (y : Int × Int × (List Int)) : Rs := (.agg [.int .i64 y.1, .int .i64 y.2.1, .own 0 0 ((y.2.2).length)], [.row (.i64 y.2.2) 0])
theorem laws_toWhole_den (v11 : Int) (v12 : Int) (v13 : List Int) : (den TT (tabD laws_toWhole_tab) (tabM laws_toWhole_tab) (laws_toWhole_LO v11 v12 v13) (codeOf Try.f14) ([.agg [.int .i64 v11, .int .i64 v12, .bslc (BR.root 0) (.i64 v13)]] ++ List.replicate (Try.f14.ntmps - ([.agg [.int .i64 v11, .int .i64 v12, .bslc (BR.root 0) (.i64 v13)]] : List DV).length) .undef) []).bind (retD TT Try.f14.results.toList 0) = (laws_toWhole_T v11 v12 v13).bind fun y => .leaf (laws_toWhole_enc v11 v12 v13 y) := by kernel_rfl
theorem laws_toWhole_fn (v11 : Int) (v12 : Int) (v13 : List Int) (F : Fr) (h0 : St F [] F.H0) (hA : DVs.Ok F [] [.agg [.int .i64 v11, .int .i64 v12, .bslc (BR.root 0) (.i64 v13)]]) {y : Int × Int × (List Int)} (hy : laws_toWhole_g v11 v12 v13 = some y) : ∃ F' H', Fwd 0 F F' [] (laws_toWhole_enc v11 v12 v13 y).2 ∧ FnOk Try.prog 14 (DVs.av F [.agg [.int .i64 v11, .int .i64 v12, .bslc (BR.root 0) (.i64 v13)]]) F.H0 ((laws_toWhole_enc v11 v12 v13 y).1.av F') H' ∧ St F' (laws_toWhole_enc v11 v12 v13 y).2 H' ∧ (laws_toWhole_enc v11 v12 v13 y).1.Ok F' (laws_toWhole_enc v11 v12 v13 y).2 :=
  fn_fin tok laws_toWhole_hO mixed Try.func14 Try.call14 (by kernel_rfl) (LoopsOk_eq (l := []) (by kernel_rfl) trivial) (laws_toWhole_den v11 v12 v13) hy h0 hA
noncomputable def laws_toWhole_F : DFn := fun args L =>
  match args with
  | [.agg [.int .i64 v11, .int .i64 v12, a1]] =>
    optT (rowI64 L a1) fun v13 =>
    .call (laws_toWhole_g v11 v12 v13) fun y => .leaf (.agg [.int .i64 y.1, .int .i64 y.2.1, .own (L.length + 0) 0 ((y.2.2).length)], L ++ [.row (.i64 y.2.2) 0])
  | _ => .fail
theorem laws_toWhole_Fok : COk Try.prog 14 laws_toWhole_F true := by
  intro F L H args r L' hs ha hr
  unfold laws_toWhole_F at hr
  split at hr
  · rename_i v11 v12 a1
    obtain ⟨v13, hv13, hr⟩ := optT_run hr
    simp only [Tree.run] at hr
    obtain ⟨y, hy, hr⟩ := Option.bind_eq_some_iff.1 hr
    simp only [Tree.run, Option.some.injEq, Prod.mk.injEq] at hr
    obtain ⟨rfl, rfl⟩ := hr
    exact call_ok1 hs (fun k => (([a1.av F] : List AV)[k]?).getD .top) [.agg [.int .i64 v11, .int .i64 v12, a1]] [.agg [.int .i64 v11, .int .i64 v12, .bslc (BR.root 0) (.i64 v13)]] (fun F' h0 hi hρ => ⟨by simp [DVs.av, DV.av, BR.av, hρ], laws_toWhole_fn v11 v12 v13 F' (st_nil hi) ⟨⟨trivial, trivial, bslc_ok hi (by rw [h0, hρ]; exact rowI64_ok hs (DVs.okAt (DVs.okAt ha 0 rfl) 2 rfl) hv13), trivial⟩, trivial⟩ hy⟩) rfl rfl
  · cases hr
/-! spec.l00In -/
noncomputable def spec_l00In_LO (v31 : Int) (v32 : Int) (v33 : Int) : LOr := fun id e L =>
  match id with
  | _ => .fail
noncomputable def spec_l00In_tab : List (FuncId × DFn × Bool) := []
theorem spec_l00In_hO : OrcOk Try.prog (tabD spec_l00In_tab) (tabM spec_l00In_tab) := tabD_nil _
noncomputable def spec_l00In_T (v31 : Int) (v32 : Int) (v33 : Int) : Tree (Bool) :=
  (.br (decide (v32 ≤ v31)) (
   .leaf (decide (v31 ≤ v33))
  ) (
   .leaf false
  ))

noncomputable def spec_l00In_g (v31 : Int) (v32 : Int) (v33 : Int) : Option (Bool) := (spec_l00In_T v31 v32 v33).run
def spec_l00In_enc (v31 : Int) (v32 : Int) (v33 : Int) (y : Bool) : Rs := (.bool y, [])
theorem spec_l00In_den (v31 : Int) (v32 : Int) (v33 : Int) : (den TT (tabD spec_l00In_tab) (tabM spec_l00In_tab) (spec_l00In_LO v31 v32 v33) (codeOf Try.f80) ([.int .i64 v31, .int .i64 v32, .int .i64 v33] ++ List.replicate (Try.f80.ntmps - ([.int .i64 v31, .int .i64 v32, .int .i64 v33] : List DV).length) .undef) []).bind (retD TT Try.f80.results.toList 0) = (spec_l00In_T v31 v32 v33).bind fun y => .leaf (spec_l00In_enc v31 v32 v33 y) := by kernel_rfl
theorem spec_l00In_fn (v31 : Int) (v32 : Int) (v33 : Int) (F : Fr) (h0 : St F [] F.H0) (hA : DVs.Ok F [] [.int .i64 v31, .int .i64 v32, .int .i64 v33]) {y : Bool} (hy : spec_l00In_g v31 v32 v33 = some y) : ∃ F' H', Fwd 0 F F' [] (spec_l00In_enc v31 v32 v33 y).2 ∧ FnOk Try.prog 80 (DVs.av F [.int .i64 v31, .int .i64 v32, .int .i64 v33]) F.H0 ((spec_l00In_enc v31 v32 v33 y).1.av F') H' ∧ St F' (spec_l00In_enc v31 v32 v33 y).2 H' ∧ (spec_l00In_enc v31 v32 v33 y).1.Ok F' (spec_l00In_enc v31 v32 v33 y).2 :=
  fn_fin tok spec_l00In_hO mixed Try.func80 Try.call80 (by kernel_rfl) (LoopsOk_eq (l := []) (by kernel_rfl) trivial) (spec_l00In_den v31 v32 v33) hy h0 hA
def spec_l00In_v (v31 : Int) (v32 : Int) (v33 : Int) : Bool :=
  if (decide (v32 ≤ v31)) = true then (
   decide (v31 ≤ v33)
  ) else (
   false
  )
theorem spec_l00In_tot (v31 : Int) (v32 : Int) (v33 : Int) : spec_l00In_g v31 v32 v33 = some (spec_l00In_v v31 v32 v33) := by
  unfold spec_l00In_g spec_l00In_T spec_l00In_v
  simp only [Tree.run]
  repeat' (first | rfl | split)
noncomputable def spec_l00In_F : DFn := fun args L =>
  match args with
  | [.int .i64 v31, .int .i64 v32, .int .i64 v33] =>
    .leaf (.bool (spec_l00In_v v31 v32 v33), L)
  | _ => .fail
theorem spec_l00In_Fok : COk Try.prog 80 spec_l00In_F true := by
  intro F L H args r L' hs ha hr
  unfold spec_l00In_F at hr
  split at hr
  · rename_i v31 v32 v33
    have hy := spec_l00In_tot v31 v32 v33
    generalize spec_l00In_v v31 v32 v33 = y at hy hr
    simp only [Tree.run, Option.some.injEq, Prod.mk.injEq] at hr
    obtain ⟨rfl, rfl⟩ := hr
    exact call_ok0 hs (fun k => (([] : List AV)[k]?).getD .top) [.int .i64 v31, .int .i64 v32, .int .i64 v33] [.int .i64 v31, .int .i64 v32, .int .i64 v33] (fun F' h0 hi hρ => ⟨by simp [DVs.av, DV.av, BR.av, hρ], spec_l00In_fn v31 v32 v33 F' (st_nil hi) ⟨trivial, trivial, trivial, trivial⟩ hy⟩) rfl
  · cases hr
/-! spec.l06Bound -/
noncomputable def spec_l06Bound_l0_T (v34 : List Int) (v35 : Int) (s : Int) : Tree ((Int) ⊕ ((Unit) ⊕ (Unit))) :=
  (.br (decide (s < ((v34.length : Nat) : Int))) (
   (.grd (inb s v34.length) <|
   (.br (!(spec_l00In_v (nth v34 (Int.toNat s)) (IntKind.i64.wrap (0 - v35)) v35)) (
    .leaf (.inr (.inl ()))
   ) (
    .leaf (.inl (IntKind.i64.wrap (s + (1 : Int))))
   )))
  ) (
   .leaf (.inr (.inr ()))
  ))

noncomputable def spec_l06Bound_l0_g (v34 : List Int) (v35 : Int) (s0 : Int) : Option ((Unit) ⊕ (Unit)) := whileM (fun s => (spec_l06Bound_l0_T v34 v35 s).run) s0
def spec_l06Bound_l0_E (v34 : List Int) (v35 : Int) (s : Int) : Sd := ([.bslc (BR.root 0) (.i64 v34),.int .i64 v35,tp,tp,tp,.int .i64 s,tp,tp,tp,tp,tp,tp,tp,tp,tp,tp,tp,tp,tp,tp,tp], [])
def spec_l06Bound_l0_X (v34 : List Int) (v35 : Int) (x : (Unit) ⊕ (Unit)) : Out := (match x with | .inl x => (.ret, [tp,tp,tp,tp,.lit false,tp,tp,tp,tp,tp,tp,tp,tp,tp,tp,tp,tp,tp,tp,tp,tp], []) | .inr x => (.normal, [tp,tp,tp,tp,tp,tp,tp,tp,tp,tp,tp,tp,tp,tp,tp,tp,tp,tp,tp,tp,tp], []))
def spec_l06Bound_l0_kill : List Nat := KL true [0,2,3,1,15]
def spec_l06Bound_l0_nx : Exit → List Nat
  | .exit 0 => KL true [21]
  | .ret => KL true [4,1,16]
  | _ => []
noncomputable def spec_l06Bound_LO (v34 : List Int) (v35 : Int) : LOr := fun id e L =>
  match id with
  | 0 => .need (normA 0 spec_l06Bound_l0_kill e L = some (spec_l06Bound_l0_E v34 v35 (gI (vAt e 5)))) (.call (spec_l06Bound_l0_g v34 v35 (gI (vAt e 5))) fun x => .sum x (fun b0 => .leaf (spec_l06Bound_l0_X v34 v35 (.inl b0))) (fun c0 => .leaf (spec_l06Bound_l0_X v34 v35 (.inr c0))))
  | _ => .fail
noncomputable def spec_l06Bound_tab : List (FuncId × DFn × Bool) := [(80, spec_l00In_F, true)]
theorem spec_l06Bound_hO : OrcOk Try.prog (tabD spec_l06Bound_tab) (tabM spec_l06Bound_tab) := tabD_cons spec_l00In_Fok (tabD_nil _)
theorem spec_l06Bound_l0_be (v34 : List Int) (v35 : Int) (s : Int) : bodyT TT (tabD spec_l06Bound_tab) (tabM spec_l06Bound_tab) (spec_l06Bound_LO v34 v35) 0 spec_l06Bound_l0_kill spec_l06Bound_l0_nx (bodyOf Try.f66 0) 0 (spec_l06Bound_l0_E v34 v35 s) = (spec_l06Bound_l0_T v34 v35 s).bind fun y => .leaf (outS (spec_l06Bound_l0_E v34 v35) (spec_l06Bound_l0_X v34 v35) y) := by kernel_rfl
theorem spec_l06Bound_l0_ok (v34 : List Int) (v35 : Int) : LSound Try.prog 0 (spec_l06Bound_LO v34 v35) 0 (bodyOf Try.f66 0) := by
  intro e L out h
  exact lo_ok (E := spec_l06Bound_l0_E v34 v35) (gT := spec_l06Bound_l0_T v34 v35) (X := spec_l06Bound_l0_X v34 v35) (s0 := (gI (vAt e 5))) tok spec_l06Bound_hO mixed (LoopsOk_eq (l := []) (by kernel_rfl) trivial) (spec_l06Bound_l0_be v34 v35) rfl (by intro x; (cases x with | inl b => rfl | inr x => exact rfl)) h
noncomputable def spec_l06Bound_T (v34 : List Int) (v35 : Int) : Tree (Bool) :=
  (.need (some (spec_l06Bound_l0_E v34 v35 (0 : Int)) = some (spec_l06Bound_l0_E v34 v35 (0 : Int))) <|
  (.call (spec_l06Bound_l0_g v34 v35 (0 : Int)) fun v39 =>
  (.sum v39 (fun v40 =>
   .leaf false
  ) (fun v41 =>
   .leaf true
  ))))

noncomputable def spec_l06Bound_g (v34 : List Int) (v35 : Int) : Option (Bool) := (spec_l06Bound_T v34 v35).run
def spec_l06Bound_enc (v34 : List Int) (v35 : Int) (y : Bool) : Rs := (.bool y, [])
theorem spec_l06Bound_den (v34 : List Int) (v35 : Int) : (den TT (tabD spec_l06Bound_tab) (tabM spec_l06Bound_tab) (spec_l06Bound_LO v34 v35) (codeOf Try.f66) ([.bslc (BR.root 0) (.i64 v34), .int .i64 v35] ++ List.replicate (Try.f66.ntmps - ([.bslc (BR.root 0) (.i64 v34), .int .i64 v35] : List DV).length) .undef) []).bind (retD TT Try.f66.results.toList 0) = (spec_l06Bound_T v34 v35).bind fun y => .leaf (spec_l06Bound_enc v34 v35 y) := by kernel_rfl
theorem spec_l06Bound_fn (v34 : List Int) (v35 : Int) (F : Fr) (h0 : St F [] F.H0) (hA : DVs.Ok F [] [.bslc (BR.root 0) (.i64 v34), .int .i64 v35]) {y : Bool} (hy : spec_l06Bound_g v34 v35 = some y) : ∃ F' H', Fwd 0 F F' [] (spec_l06Bound_enc v34 v35 y).2 ∧ FnOk Try.prog 66 (DVs.av F [.bslc (BR.root 0) (.i64 v34), .int .i64 v35]) F.H0 ((spec_l06Bound_enc v34 v35 y).1.av F') H' ∧ St F' (spec_l06Bound_enc v34 v35 y).2 H' ∧ (spec_l06Bound_enc v34 v35 y).1.Ok F' (spec_l06Bound_enc v34 v35 y).2 :=
  fn_fin tok spec_l06Bound_hO mixed Try.func66 Try.call66 (by kernel_rfl) (LoopsOk_eq (l := [(0, bodyOf Try.f66 0)]) (by kernel_rfl) ⟨spec_l06Bound_l0_ok v34 v35, trivial⟩) (spec_l06Bound_den v34 v35) hy h0 hA
noncomputable def spec_l06Bound_F : DFn := fun args L =>
  match args with
  | [a1, .int .i64 v35] =>
    optT (rowI64 L a1) fun v34 =>
    .call (spec_l06Bound_g v34 v35) fun y => .leaf (.bool y, L)
  | _ => .fail
theorem spec_l06Bound_Fok : COk Try.prog 66 spec_l06Bound_F true := by
  intro F L H args r L' hs ha hr
  unfold spec_l06Bound_F at hr
  split at hr
  · rename_i a1 v35
    obtain ⟨v34, hv34, hr⟩ := optT_run hr
    simp only [Tree.run] at hr
    obtain ⟨y, hy, hr⟩ := Option.bind_eq_some_iff.1 hr
    simp only [Tree.run, Option.some.injEq, Prod.mk.injEq] at hr
    obtain ⟨rfl, rfl⟩ := hr
    exact call_ok0 hs (fun k => (([a1.av F] : List AV)[k]?).getD .top) [a1, .int .i64 v35] [.bslc (BR.root 0) (.i64 v34), .int .i64 v35] (fun F' h0 hi hρ => ⟨by simp [DVs.av, DV.av, BR.av, hρ], spec_l06Bound_fn v34 v35 F' (st_nil hi) ⟨bslc_ok hi (by rw [h0, hρ]; exact rowI64_ok hs (DVs.okAt ha 0 rfl) hv34), trivial, trivial⟩ hy⟩) rfl
  · cases hr
/-! spec.l06Is -/
noncomputable def spec_l06Is_LO (v27 : Int) (v28 : Int) (v29 : List Int) (v30 : Int) : LOr := fun id e L =>
  match id with
  | _ => .fail
noncomputable def spec_l06Is_tab : List (FuncId × DFn × Bool) := [(80, spec_l00In_F, true), (66, spec_l06Bound_F, true)]
theorem spec_l06Is_hO : OrcOk Try.prog (tabD spec_l06Is_tab) (tabM spec_l06Is_tab) := tabD_cons spec_l00In_Fok (tabD_cons spec_l06Bound_Fok (tabD_nil _))
noncomputable def spec_l06Is_T (v27 : Int) (v28 : Int) (v29 : List Int) (v30 : Int) : Tree (Bool) :=
  (.br (spec_l00In_v v27 (1 : Int) (6 : Int)) (
   (.br (spec_l00In_v v28 (1 : Int) (6 : Int)) (
    (.br (decide (((v29.length : Nat) : Int) = IntKind.i64.wrap (v27 * v28))) (
     (.call (spec_l06Bound_g v29 v30) fun v42 =>
     .leaf v42)
    ) (
     .leaf false
    ))
   ) (
    .leaf false
   ))
  ) (
   .leaf false
  ))

noncomputable def spec_l06Is_g (v27 : Int) (v28 : Int) (v29 : List Int) (v30 : Int) : Option (Bool) := (spec_l06Is_T v27 v28 v29 v30).run
def spec_l06Is_enc (v27 : Int) (v28 : Int) (v29 : List Int) (v30 : Int) (y : Bool) : Rs := (.bool y, [])
theorem spec_l06Is_den (v27 : Int) (v28 : Int) (v29 : List Int) (v30 : Int) : (den TT (tabD spec_l06Is_tab) (tabM spec_l06Is_tab) (spec_l06Is_LO v27 v28 v29 v30) (codeOf Try.f60) ([.bptr (BR.root 0) [.int .i64 v27, .int .i64 v28, .bslc (BR.root 1) (.i64 v29)], .int .i64 v30] ++ List.replicate (Try.f60.ntmps - ([.bptr (BR.root 0) [.int .i64 v27, .int .i64 v28, .bslc (BR.root 1) (.i64 v29)], .int .i64 v30] : List DV).length) .undef) []).bind (retD TT Try.f60.results.toList 0) = (spec_l06Is_T v27 v28 v29 v30).bind fun y => .leaf (spec_l06Is_enc v27 v28 v29 v30 y) := by kernel_rfl
theorem spec_l06Is_fn (v27 : Int) (v28 : Int) (v29 : List Int) (v30 : Int) (F : Fr) (h0 : St F [] F.H0) (hA : DVs.Ok F [] [.bptr (BR.root 0) [.int .i64 v27, .int .i64 v28, .bslc (BR.root 1) (.i64 v29)], .int .i64 v30]) {y : Bool} (hy : spec_l06Is_g v27 v28 v29 v30 = some y) : ∃ F' H', Fwd 0 F F' [] (spec_l06Is_enc v27 v28 v29 v30 y).2 ∧ FnOk Try.prog 60 (DVs.av F [.bptr (BR.root 0) [.int .i64 v27, .int .i64 v28, .bslc (BR.root 1) (.i64 v29)], .int .i64 v30]) F.H0 ((spec_l06Is_enc v27 v28 v29 v30 y).1.av F') H' ∧ St F' (spec_l06Is_enc v27 v28 v29 v30 y).2 H' ∧ (spec_l06Is_enc v27 v28 v29 v30 y).1.Ok F' (spec_l06Is_enc v27 v28 v29 v30 y).2 :=
  fn_fin tok spec_l06Is_hO mixed Try.func60 Try.call60 (by kernel_rfl) (LoopsOk_eq (l := []) (by kernel_rfl) trivial) (spec_l06Is_den v27 v28 v29 v30) hy h0 hA
noncomputable def spec_l06Is_F : DFn := fun args L =>
  match args with
  | [a1, .int .i64 v30] =>
    optT (cellsOf L 3 a1) fun cs0 =>
    (match cs0 with
    | [.int .i64 v27, .int .i64 v28, a2] =>
    optT (rowI64 L a2) fun v29 =>
    .call (spec_l06Is_g v27 v28 v29 v30) fun y => .leaf (.bool y, L)
    | _ => .fail)
  | _ => .fail
theorem spec_l06Is_Fok : COk Try.prog 60 spec_l06Is_F true := by
  intro F L H args r L' hs ha hr
  unfold spec_l06Is_F at hr
  split at hr
  · rename_i a1 v30
    obtain ⟨cs0, hcp0, hr⟩ := optT_run hr
    split at hr
    · rename_i v27 v28 a2
      obtain ⟨v29, hv29, hr⟩ := optT_run hr
      simp only [Tree.run] at hr
      obtain ⟨y, hy, hr⟩ := Option.bind_eq_some_iff.1 hr
      simp only [Tree.run, Option.some.injEq, Prod.mk.injEq] at hr
      obtain ⟨rfl, rfl⟩ := hr
      exact call_ok0 hs (fun k => (([a1.av F, a2.av F] : List AV)[k]?).getD .top) [a1, .int .i64 v30] [.bptr (BR.root 0) [.int .i64 v27, .int .i64 v28, .bslc (BR.root 1) (.i64 v29)], .int .i64 v30] (fun F' h0 hi hρ => ⟨by simp [DVs.av, DV.av, BR.av, hρ], spec_l06Is_fn v27 v28 v29 v30 F' (st_nil hi) ⟨bptr_ok hi (by rw [h0]; simpa [DVs.av, DV.av, BR.av, hρ] using (cellsOf_ok hs (DVs.okAt ha 0 rfl) hcp0).1) ⟨trivial, trivial, bslc_ok hi (by rw [h0, hρ]; exact rowI64_ok hs (DVs.okAt (cellsOf_ok hs (DVs.okAt ha 0 rfl) hcp0).2 2 rfl) hv29), trivial⟩, trivial, trivial⟩ hy⟩) rfl
    · cases hr
  · cases hr
/-! spec.l06Prime -/
noncomputable def spec_l06Prime_l0_T (v44 : Int) (s : Int) : Tree ((Int) ⊕ ((Unit) ⊕ (Unit))) :=
  (.br (decide (IntKind.i64.wrap (s * s) ≤ v44)) (
   (.br (decide (v44 ≤ (997 : Int))) (
    (.grd (!decide (s = 0)) <|
    (.br (decide (Int.tmod v44 s = (0 : Int))) (
     .leaf (.inr (.inl ()))
    ) (
     .leaf (.inl (IntKind.i64.wrap (s + (1 : Int))))
    )))
   ) (
    .leaf (.inr (.inr ()))
   ))
  ) (
   .leaf (.inr (.inr ()))
  ))

noncomputable def spec_l06Prime_l0_g (v44 : Int) (s0 : Int) : Option ((Unit) ⊕ (Unit)) := whileM (fun s => (spec_l06Prime_l0_T v44 s).run) s0
def spec_l06Prime_l0_E (v44 : Int) (s : Int) : Sd := ([.int .i64 v44,tp,tp,.int .i64 s,tp,tp,tp,tp,tp,tp,tp,tp,tp,tp,tp,tp,tp,tp,tp,tp,tp,tp,tp,tp,tp], [])
def spec_l06Prime_l0_X (v44 : Int) (x : (Unit) ⊕ (Unit)) : Out := (match x with | .inl x => (.ret, [tp,tp,.lit false,tp,tp,tp,tp,tp,tp,tp,tp,tp,tp,tp,tp,tp,tp,tp,tp,tp,tp,tp,tp,tp,tp], []) | .inr x => (.normal, [.int .i64 v44,tp,tp,tp,tp,tp,tp,tp,tp,tp,tp,tp,tp,tp,tp,tp,tp,tp,tp,tp,tp,tp,tp,tp,tp], []))
def spec_l06Prime_l0_kill : List Nat := KL true [0,1,2,1,21]
def spec_l06Prime_l0_nx : Exit → List Nat
  | .exit 0 => KL true [0,1,24]
  | .ret => KL true [2,1,22]
  | _ => []
noncomputable def spec_l06Prime_LO (v44 : Int) : LOr := fun id e L =>
  match id with
  | 0 => .need (normA 0 spec_l06Prime_l0_kill e L = some (spec_l06Prime_l0_E v44 (gI (vAt e 3)))) (.call (spec_l06Prime_l0_g v44 (gI (vAt e 3))) fun x => .sum x (fun b0 => .leaf (spec_l06Prime_l0_X v44 (.inl b0))) (fun c0 => .leaf (spec_l06Prime_l0_X v44 (.inr c0))))
  | _ => .fail
noncomputable def spec_l06Prime_tab : List (FuncId × DFn × Bool) := []
theorem spec_l06Prime_hO : OrcOk Try.prog (tabD spec_l06Prime_tab) (tabM spec_l06Prime_tab) := tabD_nil _
theorem spec_l06Prime_l0_be (v44 : Int) (s : Int) : bodyT TT (tabD spec_l06Prime_tab) (tabM spec_l06Prime_tab) (spec_l06Prime_LO v44) 0 spec_l06Prime_l0_kill spec_l06Prime_l0_nx (bodyOf Try.f61 0) 0 (spec_l06Prime_l0_E v44 s) = (spec_l06Prime_l0_T v44 s).bind fun y => .leaf (outS (spec_l06Prime_l0_E v44) (spec_l06Prime_l0_X v44) y) := by kernel_rfl
theorem spec_l06Prime_l0_ok (v44 : Int) : LSound Try.prog 0 (spec_l06Prime_LO v44) 0 (bodyOf Try.f61 0) := by
  intro e L out h
  exact lo_ok (E := spec_l06Prime_l0_E v44) (gT := spec_l06Prime_l0_T v44) (X := spec_l06Prime_l0_X v44) (s0 := (gI (vAt e 3))) tok spec_l06Prime_hO mixed (LoopsOk_eq (l := []) (by kernel_rfl) trivial) (spec_l06Prime_l0_be v44) rfl (by intro x; (cases x with | inl b => rfl | inr x => exact rfl)) h
noncomputable def spec_l06Prime_T (v44 : Int) : Tree (Bool) :=
  (.need (some (spec_l06Prime_l0_E v44 (2 : Int)) = some (spec_l06Prime_l0_E v44 (2 : Int))) <|
  (.call (spec_l06Prime_l0_g v44 (2 : Int)) fun v48 =>
  (.sum v48 (fun v49 =>
   .leaf false
  ) (fun v50 =>
   (.br (decide ((2 : Int) ≤ v44)) (
    .leaf (decide (v44 ≤ (997 : Int)))
   ) (
    .leaf false
   ))
  ))))

noncomputable def spec_l06Prime_g (v44 : Int) : Option (Bool) := (spec_l06Prime_T v44).run
def spec_l06Prime_enc (v44 : Int) (y : Bool) : Rs := (.bool y, [])
theorem spec_l06Prime_den (v44 : Int) : (den TT (tabD spec_l06Prime_tab) (tabM spec_l06Prime_tab) (spec_l06Prime_LO v44) (codeOf Try.f61) ([.int .i64 v44] ++ List.replicate (Try.f61.ntmps - ([.int .i64 v44] : List DV).length) .undef) []).bind (retD TT Try.f61.results.toList 0) = (spec_l06Prime_T v44).bind fun y => .leaf (spec_l06Prime_enc v44 y) := by kernel_rfl
theorem spec_l06Prime_fn (v44 : Int) (F : Fr) (h0 : St F [] F.H0) (hA : DVs.Ok F [] [.int .i64 v44]) {y : Bool} (hy : spec_l06Prime_g v44 = some y) : ∃ F' H', Fwd 0 F F' [] (spec_l06Prime_enc v44 y).2 ∧ FnOk Try.prog 61 (DVs.av F [.int .i64 v44]) F.H0 ((spec_l06Prime_enc v44 y).1.av F') H' ∧ St F' (spec_l06Prime_enc v44 y).2 H' ∧ (spec_l06Prime_enc v44 y).1.Ok F' (spec_l06Prime_enc v44 y).2 :=
  fn_fin tok spec_l06Prime_hO mixed Try.func61 Try.call61 (by kernel_rfl) (LoopsOk_eq (l := [(0, bodyOf Try.f61 0)]) (by kernel_rfl) ⟨spec_l06Prime_l0_ok v44, trivial⟩) (spec_l06Prime_den v44) hy h0 hA
noncomputable def spec_l06Prime_F : DFn := fun args L =>
  match args with
  | [.int .i64 v44] =>
    .call (spec_l06Prime_g v44) fun y => .leaf (.bool y, L)
  | _ => .fail
theorem spec_l06Prime_Fok : COk Try.prog 61 spec_l06Prime_F true := by
  intro F L H args r L' hs ha hr
  unfold spec_l06Prime_F at hr
  split at hr
  · rename_i v44
    simp only [Tree.run] at hr
    obtain ⟨y, hy, hr⟩ := Option.bind_eq_some_iff.1 hr
    simp only [Tree.run, Option.some.injEq, Prod.mk.injEq] at hr
    obtain ⟨rfl, rfl⟩ := hr
    exact call_ok0 hs (fun k => (([] : List AV)[k]?).getD .top) [.int .i64 v44] [.int .i64 v44] (fun F' h0 hi hρ => ⟨by simp [DVs.av, DV.av, BR.av, hρ], spec_l06Prime_fn v44 F' (st_nil hi) ⟨trivial, trivial⟩ hy⟩) rfl
  · cases hr
/-! spec.l06At -/
noncomputable def spec_l06At_LO (v60 : Int) (v61 : Int) (v62 : List Int) (v63 : Int) (v64 : Int) : LOr := fun id e L =>
  match id with
  | _ => .fail
noncomputable def spec_l06At_tab : List (FuncId × DFn × Bool) := []
theorem spec_l06At_hO : OrcOk Try.prog (tabD spec_l06At_tab) (tabM spec_l06At_tab) := tabD_nil _
noncomputable def spec_l06At_T (v61 : Int) (v62 : List Int) (v63 : Int) (v64 : Int) : Tree (Int) :=
  (.grd (inb (IntKind.i64.wrap ((IntKind.i64.wrap (v63 * v61)) + v64)) v62.length) <|
  .leaf (nth v62 (Int.toNat (IntKind.i64.wrap ((IntKind.i64.wrap (v63 * v61)) + v64)))))

noncomputable def spec_l06At_g (v61 : Int) (v62 : List Int) (v63 : Int) (v64 : Int) : Option (Int) := (spec_l06At_T v61 v62 v63 v64).run
def spec_l06At_enc (v60 : Int) (v61 : Int) (v62 : List Int) (v63 : Int) (v64 : Int) (y : Int) : Rs := (.int .i64 y, [])
theorem spec_l06At_den (v60 : Int) (v61 : Int) (v62 : List Int) (v63 : Int) (v64 : Int) : (den TT (tabD spec_l06At_tab) (tabM spec_l06At_tab) (spec_l06At_LO v60 v61 v62 v63 v64) (codeOf Try.f124) ([.bptr (BR.root 0) [.int .i64 v60, .int .i64 v61, .bslc (BR.root 1) (.i64 v62)], .int .i64 v63, .int .i64 v64] ++ List.replicate (Try.f124.ntmps - ([.bptr (BR.root 0) [.int .i64 v60, .int .i64 v61, .bslc (BR.root 1) (.i64 v62)], .int .i64 v63, .int .i64 v64] : List DV).length) .undef) []).bind (retD TT Try.f124.results.toList 0) = (spec_l06At_T v61 v62 v63 v64).bind fun y => .leaf (spec_l06At_enc v60 v61 v62 v63 v64 y) := by kernel_rfl
theorem spec_l06At_fn (v60 : Int) (v61 : Int) (v62 : List Int) (v63 : Int) (v64 : Int) (F : Fr) (h0 : St F [] F.H0) (hA : DVs.Ok F [] [.bptr (BR.root 0) [.int .i64 v60, .int .i64 v61, .bslc (BR.root 1) (.i64 v62)], .int .i64 v63, .int .i64 v64]) {y : Int} (hy : spec_l06At_g v61 v62 v63 v64 = some y) : ∃ F' H', Fwd 0 F F' [] (spec_l06At_enc v60 v61 v62 v63 v64 y).2 ∧ FnOk Try.prog 124 (DVs.av F [.bptr (BR.root 0) [.int .i64 v60, .int .i64 v61, .bslc (BR.root 1) (.i64 v62)], .int .i64 v63, .int .i64 v64]) F.H0 ((spec_l06At_enc v60 v61 v62 v63 v64 y).1.av F') H' ∧ St F' (spec_l06At_enc v60 v61 v62 v63 v64 y).2 H' ∧ (spec_l06At_enc v60 v61 v62 v63 v64 y).1.Ok F' (spec_l06At_enc v60 v61 v62 v63 v64 y).2 :=
  fn_fin tok spec_l06At_hO mixed Try.func124 Try.call124 (by kernel_rfl) (LoopsOk_eq (l := []) (by kernel_rfl) trivial) (spec_l06At_den v60 v61 v62 v63 v64) hy h0 hA
noncomputable def spec_l06At_F : DFn := fun args L =>
  match args with
  | [a1, .int .i64 v63, .int .i64 v64] =>
    optT (cellsOf L 3 a1) fun cs0 =>
    (match cs0 with
    | [.int .i64 v60, .int .i64 v61, a2] =>
    optT (rowI64 L a2) fun v62 =>
    .call (spec_l06At_g v61 v62 v63 v64) fun y => .leaf (.int .i64 y, L)
    | _ => .fail)
  | _ => .fail
theorem spec_l06At_Fok : COk Try.prog 124 spec_l06At_F true := by
  intro F L H args r L' hs ha hr
  unfold spec_l06At_F at hr
  split at hr
  · rename_i a1 v63 v64
    obtain ⟨cs0, hcp0, hr⟩ := optT_run hr
    split at hr
    · rename_i v60 v61 a2
      obtain ⟨v62, hv62, hr⟩ := optT_run hr
      simp only [Tree.run] at hr
      obtain ⟨y, hy, hr⟩ := Option.bind_eq_some_iff.1 hr
      simp only [Tree.run, Option.some.injEq, Prod.mk.injEq] at hr
      obtain ⟨rfl, rfl⟩ := hr
      exact call_ok0 hs (fun k => (([a1.av F, a2.av F] : List AV)[k]?).getD .top) [a1, .int .i64 v63, .int .i64 v64] [.bptr (BR.root 0) [.int .i64 v60, .int .i64 v61, .bslc (BR.root 1) (.i64 v62)], .int .i64 v63, .int .i64 v64] (fun F' h0 hi hρ => ⟨by simp [DVs.av, DV.av, BR.av, hρ], spec_l06At_fn v60 v61 v62 v63 v64 F' (st_nil hi) ⟨bptr_ok hi (by rw [h0]; simpa [DVs.av, DV.av, BR.av, hρ] using (cellsOf_ok hs (DVs.okAt ha 0 rfl) hcp0).1) ⟨trivial, trivial, bslc_ok hi (by rw [h0, hρ]; exact rowI64_ok hs (DVs.okAt (cellsOf_ok hs (DVs.okAt ha 0 rfl) hcp0).2 2 rfl) hv62), trivial⟩, trivial, trivial, trivial⟩ hy⟩) rfl
    · cases hr
  · cases hr
/-! spec.l06Mod -/
noncomputable def spec_l06Mod_LO (v66 : Int) (v67 : Int) : LOr := fun id e L =>
  match id with
  | _ => .fail
noncomputable def spec_l06Mod_tab : List (FuncId × DFn × Bool) := []
theorem spec_l06Mod_hO : OrcOk Try.prog (tabD spec_l06Mod_tab) (tabM spec_l06Mod_tab) := tabD_nil _
noncomputable def spec_l06Mod_T (v66 : Int) (v67 : Int) : Tree (Int) :=
  (.grd (!decide (v67 = 0)) <|
  (.br (decide (Int.tmod v66 v67 < (0 : Int))) (
   .leaf (IntKind.i64.wrap ((Int.tmod v66 v67) + v67))
  ) (
   .leaf (Int.tmod v66 v67)
  )))

noncomputable def spec_l06Mod_g (v66 : Int) (v67 : Int) : Option (Int) := (spec_l06Mod_T v66 v67).run
def spec_l06Mod_enc (v66 : Int) (v67 : Int) (y : Int) : Rs := (.int .i64 y, [])
theorem spec_l06Mod_den (v66 : Int) (v67 : Int) : (den TT (tabD spec_l06Mod_tab) (tabM spec_l06Mod_tab) (spec_l06Mod_LO v66 v67) (codeOf Try.f68) ([.int .i64 v66, .int .i64 v67] ++ List.replicate (Try.f68.ntmps - ([.int .i64 v66, .int .i64 v67] : List DV).length) .undef) []).bind (retD TT Try.f68.results.toList 0) = (spec_l06Mod_T v66 v67).bind fun y => .leaf (spec_l06Mod_enc v66 v67 y) := by kernel_rfl
theorem spec_l06Mod_fn (v66 : Int) (v67 : Int) (F : Fr) (h0 : St F [] F.H0) (hA : DVs.Ok F [] [.int .i64 v66, .int .i64 v67]) {y : Int} (hy : spec_l06Mod_g v66 v67 = some y) : ∃ F' H', Fwd 0 F F' [] (spec_l06Mod_enc v66 v67 y).2 ∧ FnOk Try.prog 68 (DVs.av F [.int .i64 v66, .int .i64 v67]) F.H0 ((spec_l06Mod_enc v66 v67 y).1.av F') H' ∧ St F' (spec_l06Mod_enc v66 v67 y).2 H' ∧ (spec_l06Mod_enc v66 v67 y).1.Ok F' (spec_l06Mod_enc v66 v67 y).2 :=
  fn_fin tok spec_l06Mod_hO mixed Try.func68 Try.call68 (by kernel_rfl) (LoopsOk_eq (l := []) (by kernel_rfl) trivial) (spec_l06Mod_den v66 v67) hy h0 hA
noncomputable def spec_l06Mod_F : DFn := fun args L =>
  match args with
  | [.int .i64 v66, .int .i64 v67] =>
    .call (spec_l06Mod_g v66 v67) fun y => .leaf (.int .i64 y, L)
  | _ => .fail
theorem spec_l06Mod_Fok : COk Try.prog 68 spec_l06Mod_F true := by
  intro F L H args r L' hs ha hr
  unfold spec_l06Mod_F at hr
  split at hr
  · rename_i v66 v67
    simp only [Tree.run] at hr
    obtain ⟨y, hy, hr⟩ := Option.bind_eq_some_iff.1 hr
    simp only [Tree.run, Option.some.injEq, Prod.mk.injEq] at hr
    obtain ⟨rfl, rfl⟩ := hr
    exact call_ok0 hs (fun k => (([] : List AV)[k]?).getD .top) [.int .i64 v66, .int .i64 v67] [.int .i64 v66, .int .i64 v67] (fun F' h0 hi hρ => ⟨by simp [DVs.av, DV.av, BR.av, hρ], spec_l06Mod_fn v66 v67 F' (st_nil hi) ⟨trivial, trivial, trivial⟩ hy⟩) rfl
  · cases hr
/-! spec.l06Back -/
noncomputable def spec_l06Back_l0_T (v153 : Int) (v154 : Int) (s : Int × Int) : Tree ((Int × Int) ⊕ (Int)) :=
  (.br (decide ((0 : Int) < s.2)) (
   (.grd (!decide (v154 = 0)) <|
   .leaf (.inl (Int.tmod (IntKind.i64.wrap (s.1 * v153)) v154, IntKind.i64.wrap (s.2 - (1 : Int)))))
  ) (
   .leaf (.inr s.1)
  ))

noncomputable def spec_l06Back_l0_g (v153 : Int) (v154 : Int) (s0 : Int × Int) : Option (Int) := whileM (fun s => (spec_l06Back_l0_T v153 v154 s).run) s0
def spec_l06Back_l0_E (v153 : Int) (v154 : Int) (s : Int × Int) : Sd := ([.int .i64 v153,.int .i64 v154,tp,tp,tp,.int .i64 s.1,.int .i64 s.2,tp,tp,tp,tp,tp,tp,tp,tp,tp,tp,tp,tp], [])
def spec_l06Back_l0_X (v153 : Int) (v154 : Int) (x : Int) : Out := (.normal, [tp,tp,tp,tp,tp,.int .i64 x,tp,tp,tp,tp,tp,tp,tp,tp,tp,tp,tp,tp,tp], [])
def spec_l06Back_l0_kill : List Nat := KL true [0,2,3,2,12]
def spec_l06Back_l0_nx : Exit → List Nat
  | .exit 0 => KL true [5,1,13]
  | .ret => KL true [4,1,14]
  | _ => []
noncomputable def spec_l06Back_LO (v153 : Int) (v154 : Int) : LOr := fun id e L =>
  match id with
  | 0 => .need (normA 0 spec_l06Back_l0_kill e L = some (spec_l06Back_l0_E v153 v154 ((gI (vAt e 5)), (gI (vAt e 6))))) (.call (spec_l06Back_l0_g v153 v154 ((gI (vAt e 5)), (gI (vAt e 6)))) fun x => .leaf (spec_l06Back_l0_X v153 v154 x))
  | _ => .fail
noncomputable def spec_l06Back_tab : List (FuncId × DFn × Bool) := []
theorem spec_l06Back_hO : OrcOk Try.prog (tabD spec_l06Back_tab) (tabM spec_l06Back_tab) := tabD_nil _
theorem spec_l06Back_l0_be (v153 : Int) (v154 : Int) (s : Int × Int) : bodyT TT (tabD spec_l06Back_tab) (tabM spec_l06Back_tab) (spec_l06Back_LO v153 v154) 0 spec_l06Back_l0_kill spec_l06Back_l0_nx (bodyOf Try.f125 0) 0 (spec_l06Back_l0_E v153 v154 s) = (spec_l06Back_l0_T v153 v154 s).bind fun y => .leaf (outS (spec_l06Back_l0_E v153 v154) (spec_l06Back_l0_X v153 v154) y) := by kernel_rfl
theorem spec_l06Back_l0_ok (v153 : Int) (v154 : Int) : LSound Try.prog 0 (spec_l06Back_LO v153 v154) 0 (bodyOf Try.f125 0) := by
  intro e L out h
  exact lo_ok (E := spec_l06Back_l0_E v153 v154) (gT := spec_l06Back_l0_T v153 v154) (X := spec_l06Back_l0_X v153 v154) (s0 := ((gI (vAt e 5)), (gI (vAt e 6)))) tok spec_l06Back_hO mixed (LoopsOk_eq (l := []) (by kernel_rfl) trivial) (spec_l06Back_l0_be v153 v154) rfl (by intro x; rfl) h
noncomputable def spec_l06Back_T (v153 : Int) (v154 : Int) : Tree (Int) :=
  (.need (some (spec_l06Back_l0_E v153 v154 ((1 : Int), IntKind.i64.wrap (v154 - (2 : Int)))) = some (spec_l06Back_l0_E v153 v154 ((1 : Int), IntKind.i64.wrap (v154 - (2 : Int))))) <|
  (.call (spec_l06Back_l0_g v153 v154 ((1 : Int), IntKind.i64.wrap (v154 - (2 : Int)))) fun v161 =>
  .leaf v161))

noncomputable def spec_l06Back_g (v153 : Int) (v154 : Int) : Option (Int) := (spec_l06Back_T v153 v154).run
def spec_l06Back_enc (v153 : Int) (v154 : Int) (y : Int) : Rs := (.int .i64 y, [])
theorem spec_l06Back_den (v153 : Int) (v154 : Int) : (den TT (tabD spec_l06Back_tab) (tabM spec_l06Back_tab) (spec_l06Back_LO v153 v154) (codeOf Try.f125) ([.int .i64 v153, .int .i64 v154] ++ List.replicate (Try.f125.ntmps - ([.int .i64 v153, .int .i64 v154] : List DV).length) .undef) []).bind (retD TT Try.f125.results.toList 0) = (spec_l06Back_T v153 v154).bind fun y => .leaf (spec_l06Back_enc v153 v154 y) := by kernel_rfl
theorem spec_l06Back_fn (v153 : Int) (v154 : Int) (F : Fr) (h0 : St F [] F.H0) (hA : DVs.Ok F [] [.int .i64 v153, .int .i64 v154]) {y : Int} (hy : spec_l06Back_g v153 v154 = some y) : ∃ F' H', Fwd 0 F F' [] (spec_l06Back_enc v153 v154 y).2 ∧ FnOk Try.prog 125 (DVs.av F [.int .i64 v153, .int .i64 v154]) F.H0 ((spec_l06Back_enc v153 v154 y).1.av F') H' ∧ St F' (spec_l06Back_enc v153 v154 y).2 H' ∧ (spec_l06Back_enc v153 v154 y).1.Ok F' (spec_l06Back_enc v153 v154 y).2 :=
  fn_fin tok spec_l06Back_hO mixed Try.func125 Try.call125 (by kernel_rfl) (LoopsOk_eq (l := [(0, bodyOf Try.f125 0)]) (by kernel_rfl) ⟨spec_l06Back_l0_ok v153 v154, trivial⟩) (spec_l06Back_den v153 v154) hy h0 hA
noncomputable def spec_l06Back_F : DFn := fun args L =>
  match args with
  | [.int .i64 v153, .int .i64 v154] =>
    .call (spec_l06Back_g v153 v154) fun y => .leaf (.int .i64 y, L)
  | _ => .fail
theorem spec_l06Back_Fok : COk Try.prog 125 spec_l06Back_F true := by
  intro F L H args r L' hs ha hr
  unfold spec_l06Back_F at hr
  split at hr
  · rename_i v153 v154
    simp only [Tree.run] at hr
    obtain ⟨y, hy, hr⟩ := Option.bind_eq_some_iff.1 hr
    simp only [Tree.run, Option.some.injEq, Prod.mk.injEq] at hr
    obtain ⟨rfl, rfl⟩ := hr
    exact call_ok0 hs (fun k => (([] : List AV)[k]?).getD .top) [.int .i64 v153, .int .i64 v154] [.int .i64 v153, .int .i64 v154] (fun F' h0 hi hρ => ⟨by simp [DVs.av, DV.av, BR.av, hρ], spec_l06Back_fn v153 v154 F' (st_nil hi) ⟨trivial, trivial, trivial⟩ hy⟩) rfl
  · cases hr
/-! spec.l06Over -/
noncomputable def spec_l06Over_l2_T (v53 : Int) (v54 : List Int) (v56 : Int) (v122 : Int) (v124 : List (List Int)) (v125 : List Nat) (s : Int × (List Int)) : Tree ((Int × (List Int)) ⊕ ((List Int))) :=
  (.br (decide (s.1 < v53)) (
   (.call (spec_l06At_g v53 v54 v122 s.1) fun v127 =>
   (.call (spec_l06Mod_g v127 v56) fun v128 =>
   (.grd (fits (s.2 ++ ([v128] : List Int)).length) <|
   .leaf (.inl (IntKind.i64.wrap (s.1 + (1 : Int)), s.2 ++ ([v128] : List Int))))))
  ) (
   .leaf (.inr s.2)
  ))

noncomputable def spec_l06Over_l2_g (v53 : Int) (v54 : List Int) (v56 : Int) (v122 : Int) (v124 : List (List Int)) (v125 : List Nat) (s0 : Int × (List Int)) : Option ((List Int)) := whileM (fun s => (spec_l06Over_l2_T v53 v54 v56 v122 v124 v125 s).run) s0
def spec_l06Over_l2_E (v52 : Int) (v53 : Int) (v54 : List Int) (v55 : List Int) (v56 : Int) (v122 : Int) (v124 : List (List Int)) (v125 : List Nat) (s : Int × (List Int)) : Sd := ([.bptr (BR.root 0) [.int .i64 v52, .int .i64 v53, .bslc (BR.root 1) (.i64 v54)],.bslc (BR.root 2) (.i64 v55),.int .i64 v56,tp,tp,tp,tp,tp,tp,.nest 0 0 1 ((v125).length),.int .i64 v122,.own 1 0 ((s.2).length),.int .i64 s.1,tp,tp,tp,tp,tp,tp,tp,tp,tp,tp,tp,tp,tp,tp,tp,tp,tp,tp,tp,tp,tp,tp,tp,tp,tp,tp,tp,tp,tp,tp,tp,tp,tp,tp,tp,tp,tp,tp,tp,tp,tp,tp,tp,tp,tp,tp,tp,tp,tp,tp,tp,tp,tp,tp,tp,tp,tp,tp,tp,tp,tp,tp,tp,tp,tp,tp,tp,tp,tp,tp,tp,tp,tp,tp,tp,tp,tp,tp,tp,tp,tp,tp,tp,tp,tp,tp,tp,tp,tp,tp,tp,tp,tp,tp,tp,tp,tp,tp,tp,tp,tp,tp,tp,tp,tp,tp,tp,tp,tp,tp,tp,tp,tp,tp,tp,tp,tp,tp,tp,tp,tp,tp,tp,tp,tp,tp,tp,tp,tp,tp,tp,tp,tp,tp,tp,tp,tp,tp,tp,tp,tp,tp,tp,tp,tp,tp,tp,tp,tp,tp,tp,tp,tp,tp,tp,tp,tp,tp,tp,tp,tp,tp,tp,tp,tp,tp,tp,tp,tp,tp,tp,tp,tp,tp,tp,tp,tp,tp,tp,tp,tp,tp,tp,tp,tp,tp,tp,tp,tp,tp,tp,tp,tp,tp,tp,tp,tp,tp,tp,tp,tp,tp,tp,tp,tp,tp,tp,tp,tp,tp,tp,tp,tp], [.nest [.sl (.i64 v124) v125] false 0, .row (.i64 s.2) 0])
def spec_l06Over_l2_X (v52 : Int) (v53 : Int) (v54 : List Int) (v55 : List Int) (v56 : Int) (v122 : Int) (v124 : List (List Int)) (v125 : List Nat) (x : (List Int)) : Out := (.normal, [.bptr (BR.root 0) [.int .i64 v52, .int .i64 v53, .bslc (BR.root 1) (.i64 v54)],.bslc (BR.root 2) (.i64 v55),.int .i64 v56,tp,tp,tp,tp,tp,tp,.nest 0 0 1 ((v125).length),.int .i64 v122,.own 1 0 ((x).length),tp,tp,tp,tp,tp,tp,tp,tp,tp,tp,tp,tp,tp,tp,tp,tp,tp,tp,tp,tp,tp,tp,tp,tp,tp,tp,tp,tp,tp,tp,tp,tp,tp,tp,tp,tp,tp,tp,tp,tp,tp,tp,tp,tp,tp,tp,tp,tp,tp,tp,tp,tp,tp,tp,tp,tp,tp,tp,tp,tp,tp,tp,tp,tp,tp,tp,tp,tp,tp,tp,tp,tp,tp,tp,tp,tp,tp,tp,tp,tp,tp,tp,tp,tp,tp,tp,tp,tp,tp,tp,tp,tp,tp,tp,tp,tp,tp,tp,tp,tp,tp,tp,tp,tp,tp,tp,tp,tp,tp,tp,tp,tp,tp,tp,tp,tp,tp,tp,tp,tp,tp,tp,tp,tp,tp,tp,tp,tp,tp,tp,tp,tp,tp,tp,tp,tp,tp,tp,tp,tp,tp,tp,tp,tp,tp,tp,tp,tp,tp,tp,tp,tp,tp,tp,tp,tp,tp,tp,tp,tp,tp,tp,tp,tp,tp,tp,tp,tp,tp,tp,tp,tp,tp,tp,tp,tp,tp,tp,tp,tp,tp,tp,tp,tp,tp,tp,tp,tp,tp,tp,tp,tp,tp,tp,tp,tp,tp,tp,tp,tp,tp,tp,tp,tp,tp,tp,tp,tp,tp,tp,tp,tp,tp,tp], [.nest [.sl (.i64 v124) v125] false 0, .row (.i64 x) 0])
def spec_l06Over_l2_kill : List Nat := KL true [0,3,6,4,213]
def spec_l06Over_l2_nx : Exit → List Nat
  | .exit 0 => KL true [0,1,1,1,6,1,216]
  | .exit 1 => KL true [0,3,6,2,215]
  | .exit 2 => KL true [0,3,6,3,214]
  | .ret => KL true [6,3,217]
  | _ => []
noncomputable def spec_l06Over_l0_T (v52 : Int) (v53 : Int) (v54 : List Int) (v55 : List Int) (v56 : Int) (s : Int × (List (List Int)) × (List Nat)) : Tree ((Int × (List (List Int)) × (List Nat)) ⊕ ((List (List Int)) × (List Nat))) :=
  (.br (decide (s.1 < v52)) (
   (.need (some (spec_l06Over_l2_E v52 v53 v54 v55 v56 s.1 s.2.1 s.2.2 ((0 : Int), ([] : List Int))) = some (spec_l06Over_l2_E v52 v53 v54 v55 v56 s.1 s.2.1 s.2.2 ((0 : Int), ([] : List Int)))) <|
   (.call (spec_l06Over_l2_g v53 v54 v56 s.1 s.2.1 s.2.2 ((0 : Int), ([] : List Int))) fun v129 =>
   (.br (decide ((0 : Int) < ((v55.length : Nat) : Int))) (
    (.grd (inb s.1 v55.length) <|
    (.call (spec_l06Mod_g (nth v55 (Int.toNat s.1)) v56) fun v130 =>
    (.grd (fits (v129 ++ ([v130] : List Int)).length) <|
    (.grd (fits (((s.2.2).length) + (1 : Nat))) <|
    .leaf (.inl (IntKind.i64.wrap (s.1 + (1 : Int)), s.2.1 ++ ([v129 ++ ([v130] : List Int)] : List (List Int)), s.2.2 ++ [s.2.1.length + 1]))))))
   ) (
    (.grd (fits (((s.2.2).length) + (1 : Nat))) <|
    .leaf (.inl (IntKind.i64.wrap (s.1 + (1 : Int)), s.2.1 ++ ([v129] : List (List Int)), s.2.2 ++ [s.2.1.length + 1])))
   ))))
  ) (
   .leaf (.inr (s.2.1, s.2.2))
  ))

noncomputable def spec_l06Over_l0_g (v52 : Int) (v53 : Int) (v54 : List Int) (v55 : List Int) (v56 : Int) (s0 : Int × (List (List Int)) × (List Nat)) : Option ((List (List Int)) × (List Nat)) := whileM (fun s => (spec_l06Over_l0_T v52 v53 v54 v55 v56 s).run) s0
def spec_l06Over_l0_E (v52 : Int) (v53 : Int) (v54 : List Int) (v55 : List Int) (v56 : Int) (s : Int × (List (List Int)) × (List Nat)) : Sd := ([.bptr (BR.root 0) [.int .i64 v52, .int .i64 v53, .bslc (BR.root 1) (.i64 v54)],.bslc (BR.root 2) (.i64 v55),.int .i64 v56,tp,tp,tp,tp,tp,tp,.nest 0 0 1 ((s.2.2).length),.int .i64 s.1,tp,tp,tp,tp,tp,tp,tp,tp,tp,tp,tp,tp,tp,tp,tp,tp,tp,tp,tp,tp,tp,tp,tp,tp,tp,tp,tp,tp,tp,tp,tp,tp,tp,tp,tp,tp,tp,tp,tp,tp,tp,tp,tp,tp,tp,tp,tp,tp,tp,tp,tp,tp,tp,tp,tp,tp,tp,tp,tp,tp,tp,tp,tp,tp,tp,tp,tp,tp,tp,tp,tp,tp,tp,tp,tp,tp,tp,tp,tp,tp,tp,tp,tp,tp,tp,tp,tp,tp,tp,tp,tp,tp,tp,tp,tp,tp,tp,tp,tp,tp,tp,tp,tp,tp,tp,tp,tp,tp,tp,tp,tp,tp,tp,tp,tp,tp,tp,tp,tp,tp,tp,tp,tp,tp,tp,tp,tp,tp,tp,tp,tp,tp,tp,tp,tp,tp,tp,tp,tp,tp,tp,tp,tp,tp,tp,tp,tp,tp,tp,tp,tp,tp,tp,tp,tp,tp,tp,tp,tp,tp,tp,tp,tp,tp,tp,tp,tp,tp,tp,tp,tp,tp,tp,tp,tp,tp,tp,tp,tp,tp,tp,tp,tp,tp,tp,tp,tp,tp,tp,tp,tp,tp,tp,tp,tp,tp,tp,tp,tp,tp,tp,tp,tp,tp,tp,tp,tp,tp,tp,tp,tp,tp,tp,tp,tp], [.nest [.sl (.i64 s.2.1) s.2.2] false 0])
def spec_l06Over_l0_X (v52 : Int) (v53 : Int) (v54 : List Int) (v55 : List Int) (v56 : Int) (x : (List (List Int)) × (List Nat)) : Out := (.normal, [.bptr (BR.root 0) [.int .i64 v52, .int .i64 v53, .bslc (BR.root 1) (.i64 v54)],tp,.int .i64 v56,tp,tp,tp,tp,tp,tp,.nest 0 0 1 ((x.2).length),tp,tp,tp,tp,tp,tp,tp,tp,tp,tp,tp,tp,tp,tp,tp,tp,tp,tp,tp,tp,tp,tp,tp,tp,tp,tp,tp,tp,tp,tp,tp,tp,tp,tp,tp,tp,tp,tp,tp,tp,tp,tp,tp,tp,tp,tp,tp,tp,tp,tp,tp,tp,tp,tp,tp,tp,tp,tp,tp,tp,tp,tp,tp,tp,tp,tp,tp,tp,tp,tp,tp,tp,tp,tp,tp,tp,tp,tp,tp,tp,tp,tp,tp,tp,tp,tp,tp,tp,tp,tp,tp,tp,tp,tp,tp,tp,tp,tp,tp,tp,tp,tp,tp,tp,tp,tp,tp,tp,tp,tp,tp,tp,tp,tp,tp,tp,tp,tp,tp,tp,tp,tp,tp,tp,tp,tp,tp,tp,tp,tp,tp,tp,tp,tp,tp,tp,tp,tp,tp,tp,tp,tp,tp,tp,tp,tp,tp,tp,tp,tp,tp,tp,tp,tp,tp,tp,tp,tp,tp,tp,tp,tp,tp,tp,tp,tp,tp,tp,tp,tp,tp,tp,tp,tp,tp,tp,tp,tp,tp,tp,tp,tp,tp,tp,tp,tp,tp,tp,tp,tp,tp,tp,tp,tp,tp,tp,tp,tp,tp,tp,tp,tp,tp,tp,tp,tp,tp,tp,tp,tp,tp,tp,tp,tp,tp,tp], [.nest [.sl (.i64 x.1) x.2] false 0])
def spec_l06Over_l0_kill : List Nat := KL true [0,3,6,2,215]
def spec_l06Over_l0_nx : Exit → List Nat
  | .exit 0 => KL true [0,1,1,1,6,1,216]
  | .ret => KL true [6,3,217]
  | _ => []
noncomputable def spec_l06Over_l6_T (v713 : Int) (v714 : Int) (v715 : Int) (v717 : List (List Int)) (v718 : List Nat) (v719 : List Int) (s : Int) : Tree ((Int) ⊕ (Int)) :=
  (.br (decide (s < (((v718).length : Nat) : Int))) (
   (.grd (inb s ((v718).length)) <|
   (.grd (inb v714 ((nget v717 (nth v718 (Int.toNat s))).length)) <|
   (.br (decide (nth (nget v717 (nth v718 (Int.toNat s))) (Int.toNat v714) = (0 : Int))) (
    .leaf (.inl (IntKind.i64.wrap (s + (1 : Int))))
   ) (
    .leaf (.inr s)
   ))))
  ) (
   .leaf (.inr s)
  ))

noncomputable def spec_l06Over_l6_g (v713 : Int) (v714 : Int) (v715 : Int) (v717 : List (List Int)) (v718 : List Nat) (v719 : List Int) (s0 : Int) : Option (Int) := whileM (fun s => (spec_l06Over_l6_T v713 v714 v715 v717 v718 v719 s).run) s0
def spec_l06Over_l6_E (v52 : Int) (v53 : Int) (v54 : List Int) (v55 : List Int) (v56 : Int) (v713 : Int) (v714 : Int) (v715 : Int) (v717 : List (List Int)) (v718 : List Nat) (v719 : List Int) (s : Int) : Sd := ([.bptr (BR.root 0) [.int .i64 v52, .int .i64 v53, .bslc (BR.root 1) (.i64 v54)],tp,.int .i64 v56,tp,tp,tp,tp,tp,tp,.nest 0 0 1 ((v718).length),tp,tp,tp,.own 1 0 ((v719).length),.int .i64 v713,.int .i64 v714,.int .i64 v715,.int .i64 s,tp,tp,tp,tp,tp,tp,tp,tp,tp,tp,tp,tp,tp,tp,tp,tp,tp,tp,tp,tp,tp,tp,tp,tp,tp,tp,tp,tp,tp,tp,tp,tp,tp,tp,tp,tp,tp,tp,tp,tp,tp,tp,tp,tp,tp,tp,tp,tp,tp,tp,tp,tp,tp,tp,tp,tp,tp,tp,tp,tp,tp,tp,tp,tp,tp,tp,tp,tp,tp,tp,tp,tp,tp,tp,tp,tp,tp,tp,tp,tp,tp,tp,tp,tp,tp,tp,tp,tp,tp,tp,tp,tp,tp,tp,tp,tp,tp,tp,tp,tp,tp,tp,tp,tp,tp,tp,tp,tp,tp,tp,tp,tp,tp,tp,tp,tp,tp,tp,tp,tp,tp,tp,tp,tp,tp,tp,tp,tp,tp,tp,tp,tp,tp,tp,tp,tp,tp,tp,tp,tp,tp,tp,tp,tp,tp,tp,tp,tp,tp,tp,tp,tp,tp,tp,tp,tp,tp,tp,tp,tp,tp,tp,tp,tp,tp,tp,tp,tp,tp,tp,tp,tp,tp,tp,tp,tp,tp,tp,tp,tp,tp,tp,tp,tp,tp,tp,tp,tp,tp,tp,tp,tp,tp,tp,tp,tp,tp,tp,tp,tp,tp,tp,tp,tp,tp,tp,tp,tp], [.nest [.sl (.i64 v717) v718] false 0, .row (.i64 v719) 0])
def spec_l06Over_l6_X (v52 : Int) (v53 : Int) (v54 : List Int) (v55 : List Int) (v56 : Int) (v713 : Int) (v714 : Int) (v715 : Int) (v717 : List (List Int)) (v718 : List Nat) (v719 : List Int) (x : Int) : Out := (.normal, [.bptr (BR.root 0) [.int .i64 v52, .int .i64 v53, .bslc (BR.root 1) (.i64 v54)],tp,.int .i64 v56,tp,tp,tp,tp,tp,tp,.nest 0 0 1 ((v718).length),tp,tp,tp,.own 1 0 ((v719).length),.int .i64 v713,.int .i64 v714,.int .i64 v715,.int .i64 x,tp,tp,tp,tp,tp,tp,tp,tp,tp,tp,tp,tp,tp,tp,tp,tp,tp,tp,tp,tp,tp,tp,tp,tp,tp,tp,tp,tp,tp,tp,tp,tp,tp,tp,tp,tp,tp,tp,tp,tp,tp,tp,tp,tp,tp,tp,tp,tp,tp,tp,tp,tp,tp,tp,tp,tp,tp,tp,tp,tp,tp,tp,tp,tp,tp,tp,tp,tp,tp,tp,tp,tp,tp,tp,tp,tp,tp,tp,tp,tp,tp,tp,tp,tp,tp,tp,tp,tp,tp,tp,tp,tp,tp,tp,tp,tp,tp,tp,tp,tp,tp,tp,tp,tp,tp,tp,tp,tp,tp,tp,tp,tp,tp,tp,tp,tp,tp,tp,tp,tp,tp,tp,tp,tp,tp,tp,tp,tp,tp,tp,tp,tp,tp,tp,tp,tp,tp,tp,tp,tp,tp,tp,tp,tp,tp,tp,tp,tp,tp,tp,tp,tp,tp,tp,tp,tp,tp,tp,tp,tp,tp,tp,tp,tp,tp,tp,tp,tp,tp,tp,tp,tp,tp,tp,tp,tp,tp,tp,tp,tp,tp,tp,tp,tp,tp,tp,tp,tp,tp,tp,tp,tp,tp,tp,tp,tp,tp,tp,tp,tp,tp,tp,tp,tp,tp,tp,tp,tp], [.nest [.sl (.i64 v717) v718] false 0, .row (.i64 v719) 0])
def spec_l06Over_l6_kill : List Nat := KL true [0,1,1,1,6,1,3,5,208]
def spec_l06Over_l6_nx : Exit → List Nat
  | .exit 4 => KL true [9,1,3,2,211]
  | .exit 5 => KL true [0,1,1,1,6,1,3,3,210]
  | .exit 6 => KL true [0,1,1,1,6,1,3,5,208]
  | .ret => KL true [6,3,217]
  | _ => []
noncomputable def spec_l06Over_l8_T (v56 : Int) (v739 : Int) (v740 : Int) (v741 : Int) (v742 : Int) (v745 : List Nat) (v746 : List Int) (s : Int × (List (List Int))) : Tree ((Int × (List (List Int))) ⊕ ((List (List Int)))) :=
  (.grd (inb v741 ((v745).length)) <|
  (.br (decide (s.1 < (((nget s.2 (nth v745 (Int.toNat v741))).length : Nat) : Int))) (
   (.grd (inb v741 ((v745).length)) <|
   (.grd (inb v741 ((v745).length)) <|
   (.grd (inb s.1 ((nget s.2 (nth v745 (Int.toNat v741))).length)) <|
   (.grd (!decide (v56 = 0)) <|
   (.grd (inb s.1 ((nget s.2 (nth v745 (Int.toNat v741))).length)) <|
   .leaf (.inl (IntKind.i64.wrap (s.1 + (1 : Int)), List.set s.2 ((nth v745 (Int.toNat v741)) - 1) (List.set (nget s.2 (nth v745 (Int.toNat v741))) (Int.toNat s.1) (Int.tmod (IntKind.i64.wrap ((nth (nget s.2 (nth v745 (Int.toNat v741))) (Int.toNat s.1)) * v742)) v56)))))))))
  ) (
   .leaf (.inr s.2)
  )))

noncomputable def spec_l06Over_l8_g (v56 : Int) (v739 : Int) (v740 : Int) (v741 : Int) (v742 : Int) (v745 : List Nat) (v746 : List Int) (s0 : Int × (List (List Int))) : Option ((List (List Int))) := whileM (fun s => (spec_l06Over_l8_T v56 v739 v740 v741 v742 v745 v746 s).run) s0
def spec_l06Over_l8_E (v52 : Int) (v53 : Int) (v54 : List Int) (v55 : List Int) (v56 : Int) (v739 : Int) (v740 : Int) (v741 : Int) (v742 : Int) (v745 : List Nat) (v746 : List Int) (s : Int × (List (List Int))) : Sd := ([.bptr (BR.root 0) [.int .i64 v52, .int .i64 v53, .bslc (BR.root 1) (.i64 v54)],tp,.int .i64 v56,tp,tp,tp,tp,tp,tp,.nest 0 0 1 ((v745).length),tp,tp,tp,.own 1 0 ((v746).length),.int .i64 v739,.int .i64 v740,.int .i64 v741,tp,tp,.int .i64 v742,.int .i64 s.1,tp,tp,tp,tp,tp,tp,tp,tp,tp,tp,tp,tp,tp,tp,tp,tp,tp,tp,tp,tp,tp,tp,tp,tp,tp,tp,tp,tp,tp,tp,tp,tp,tp,tp,tp,tp,tp,tp,tp,tp,tp,tp,tp,tp,tp,tp,tp,tp,tp,tp,tp,tp,tp,tp,tp,tp,tp,tp,tp,tp,tp,tp,tp,tp,tp,tp,tp,tp,tp,tp,tp,tp,tp,tp,tp,tp,tp,tp,tp,tp,tp,tp,tp,tp,tp,tp,tp,tp,tp,tp,tp,tp,tp,tp,tp,tp,tp,tp,tp,tp,tp,tp,tp,tp,tp,tp,tp,tp,tp,tp,tp,tp,tp,tp,tp,tp,tp,tp,tp,tp,tp,tp,tp,tp,tp,tp,tp,tp,tp,tp,tp,tp,tp,tp,tp,tp,tp,tp,tp,tp,tp,tp,tp,tp,tp,tp,tp,tp,tp,tp,tp,tp,tp,tp,tp,tp,tp,tp,tp,tp,tp,tp,tp,tp,tp,tp,tp,tp,tp,tp,tp,tp,tp,tp,tp,tp,tp,tp,tp,tp,tp,tp,tp,tp,tp,tp,tp,tp,tp,tp,tp,tp,tp,tp,tp,tp,tp,tp,tp,tp,tp,tp,tp,tp,tp], [.nest [.sl (.i64 s.2) v745] false 0, .row (.i64 v746) 0])
def spec_l06Over_l8_X (v52 : Int) (v53 : Int) (v54 : List Int) (v55 : List Int) (v56 : Int) (v739 : Int) (v740 : Int) (v741 : Int) (v742 : Int) (v745 : List Nat) (v746 : List Int) (x : (List (List Int))) : Out := (.normal, [.bptr (BR.root 0) [.int .i64 v52, .int .i64 v53, .bslc (BR.root 1) (.i64 v54)],tp,.int .i64 v56,tp,tp,tp,tp,tp,tp,.nest 0 0 1 ((v745).length),tp,tp,tp,.own 1 0 ((v746).length),.int .i64 v739,.int .i64 v740,.int .i64 v741,tp,tp,tp,tp,tp,tp,tp,tp,tp,tp,tp,tp,tp,tp,tp,tp,tp,tp,tp,tp,tp,tp,tp,tp,tp,tp,tp,tp,tp,tp,tp,tp,tp,tp,tp,tp,tp,tp,tp,tp,tp,tp,tp,tp,tp,tp,tp,tp,tp,tp,tp,tp,tp,tp,tp,tp,tp,tp,tp,tp,tp,tp,tp,tp,tp,tp,tp,tp,tp,tp,tp,tp,tp,tp,tp,tp,tp,tp,tp,tp,tp,tp,tp,tp,tp,tp,tp,tp,tp,tp,tp,tp,tp,tp,tp,tp,tp,tp,tp,tp,tp,tp,tp,tp,tp,tp,tp,tp,tp,tp,tp,tp,tp,tp,tp,tp,tp,tp,tp,tp,tp,tp,tp,tp,tp,tp,tp,tp,tp,tp,tp,tp,tp,tp,tp,tp,tp,tp,tp,tp,tp,tp,tp,tp,tp,tp,tp,tp,tp,tp,tp,tp,tp,tp,tp,tp,tp,tp,tp,tp,tp,tp,tp,tp,tp,tp,tp,tp,tp,tp,tp,tp,tp,tp,tp,tp,tp,tp,tp,tp,tp,tp,tp,tp,tp,tp,tp,tp,tp,tp,tp,tp,tp,tp,tp,tp,tp,tp,tp,tp,tp,tp,tp,tp,tp,tp,tp,tp,tp], [.nest [.sl (.i64 x) v745] false 0, .row (.i64 v746) 0])
def spec_l06Over_l8_kill : List Nat := KL true [0,1,1,1,6,1,3,4,2,2,205]
def spec_l06Over_l8_nx : Exit → List Nat
  | .exit 4 => KL true [9,1,3,2,211]
  | .exit 5 => KL true [0,1,1,1,6,1,3,3,210]
  | .exit 8 => KL true [0,1,1,1,6,1,3,4,209]
  | .ret => KL true [6,3,217]
  | _ => []
noncomputable def spec_l06Over_l12_T (v56 : Int) (v851 : Int) (v852 : Int) (v853 : Int) (v854 : Int) (v855 : Int) (v858 : List Nat) (v859 : List Int) (s : Int × (List (List Int))) : Tree ((Int × (List (List Int))) ⊕ ((List (List Int)))) :=
  (.grd (inb v854 ((v858).length)) <|
  (.br (decide (s.1 < (((nget s.2 (nth v858 (Int.toNat v854))).length : Nat) : Int))) (
   (.br (!decide (v854 = v853)) (
    (.grd (inb v854 ((v858).length)) <|
    (.grd (inb v854 ((v858).length)) <|
    (.grd (inb s.1 ((nget s.2 (nth v858 (Int.toNat v854))).length)) <|
    (.grd (inb v853 ((v858).length)) <|
    (.grd (inb s.1 ((nget s.2 (nth v858 (Int.toNat v853))).length)) <|
    (.call (spec_l06Mod_g (IntKind.i64.wrap ((nth (nget s.2 (nth v858 (Int.toNat v854))) (Int.toNat s.1)) - (IntKind.i64.wrap (v855 * (nth (nget s.2 (nth v858 (Int.toNat v853))) (Int.toNat s.1)))))) v56) fun v860 =>
    (.grd (inb s.1 ((nget s.2 (nth v858 (Int.toNat v854))).length)) <|
    .leaf (.inl (IntKind.i64.wrap (s.1 + (1 : Int)), List.set s.2 ((nth v858 (Int.toNat v854)) - 1) (List.set (nget s.2 (nth v858 (Int.toNat v854))) (Int.toNat s.1) v860))))))))))
   ) (
    .leaf (.inr s.2)
   ))
  ) (
   .leaf (.inr s.2)
  )))

noncomputable def spec_l06Over_l12_g (v56 : Int) (v851 : Int) (v852 : Int) (v853 : Int) (v854 : Int) (v855 : Int) (v858 : List Nat) (v859 : List Int) (s0 : Int × (List (List Int))) : Option ((List (List Int))) := whileM (fun s => (spec_l06Over_l12_T v56 v851 v852 v853 v854 v855 v858 v859 s).run) s0
def spec_l06Over_l12_E (v52 : Int) (v53 : Int) (v54 : List Int) (v55 : List Int) (v56 : Int) (v851 : Int) (v852 : Int) (v853 : Int) (v854 : Int) (v855 : Int) (v858 : List Nat) (v859 : List Int) (s : Int × (List (List Int))) : Sd := ([.bptr (BR.root 0) [.int .i64 v52, .int .i64 v53, .bslc (BR.root 1) (.i64 v54)],tp,.int .i64 v56,tp,tp,tp,tp,tp,tp,.nest 0 0 1 ((v858).length),tp,tp,tp,.own 1 0 ((v859).length),.int .i64 v851,.int .i64 v852,.int .i64 v853,tp,tp,tp,tp,.int .i64 v854,.int .i64 v855,.int .i64 s.1,tp,tp,tp,tp,tp,tp,tp,tp,tp,tp,tp,tp,tp,tp,tp,tp,tp,tp,tp,tp,tp,tp,tp,tp,tp,tp,tp,tp,tp,tp,tp,tp,tp,tp,tp,tp,tp,tp,tp,tp,tp,tp,tp,tp,tp,tp,tp,tp,tp,tp,tp,tp,tp,tp,tp,tp,tp,tp,tp,tp,tp,tp,tp,tp,tp,tp,tp,tp,tp,tp,tp,tp,tp,tp,tp,tp,tp,tp,tp,tp,tp,tp,tp,tp,tp,tp,tp,tp,tp,tp,tp,tp,tp,tp,tp,tp,tp,tp,tp,tp,tp,tp,tp,tp,tp,tp,tp,tp,tp,tp,tp,tp,tp,tp,tp,tp,tp,tp,tp,tp,tp,tp,tp,tp,tp,tp,tp,tp,tp,tp,tp,tp,tp,tp,tp,tp,tp,tp,tp,tp,tp,tp,tp,tp,tp,tp,tp,tp,tp,tp,tp,tp,tp,tp,tp,tp,tp,tp,tp,tp,tp,tp,tp,tp,tp,tp,tp,tp,tp,tp,tp,tp,tp,tp,tp,tp,tp,tp,tp,tp,tp,tp,tp,tp,tp,tp,tp,tp,tp,tp,tp,tp,tp,tp,tp,tp,tp,tp,tp,tp,tp,tp], [.nest [.sl (.i64 s.2) v858] false 0, .row (.i64 v859) 0])
def spec_l06Over_l12_X (v52 : Int) (v53 : Int) (v54 : List Int) (v55 : List Int) (v56 : Int) (v851 : Int) (v852 : Int) (v853 : Int) (v854 : Int) (v855 : Int) (v858 : List Nat) (v859 : List Int) (x : (List (List Int))) : Out := (.normal, [.bptr (BR.root 0) [.int .i64 v52, .int .i64 v53, .bslc (BR.root 1) (.i64 v54)],tp,.int .i64 v56,tp,tp,tp,tp,tp,tp,.nest 0 0 1 ((v858).length),tp,tp,tp,.own 1 0 ((v859).length),.int .i64 v851,.int .i64 v852,.int .i64 v853,tp,tp,tp,tp,.int .i64 v854,tp,tp,tp,tp,tp,tp,tp,tp,tp,tp,tp,tp,tp,tp,tp,tp,tp,tp,tp,tp,tp,tp,tp,tp,tp,tp,tp,tp,tp,tp,tp,tp,tp,tp,tp,tp,tp,tp,tp,tp,tp,tp,tp,tp,tp,tp,tp,tp,tp,tp,tp,tp,tp,tp,tp,tp,tp,tp,tp,tp,tp,tp,tp,tp,tp,tp,tp,tp,tp,tp,tp,tp,tp,tp,tp,tp,tp,tp,tp,tp,tp,tp,tp,tp,tp,tp,tp,tp,tp,tp,tp,tp,tp,tp,tp,tp,tp,tp,tp,tp,tp,tp,tp,tp,tp,tp,tp,tp,tp,tp,tp,tp,tp,tp,tp,tp,tp,tp,tp,tp,tp,tp,tp,tp,tp,tp,tp,tp,tp,tp,tp,tp,tp,tp,tp,tp,tp,tp,tp,tp,tp,tp,tp,tp,tp,tp,tp,tp,tp,tp,tp,tp,tp,tp,tp,tp,tp,tp,tp,tp,tp,tp,tp,tp,tp,tp,tp,tp,tp,tp,tp,tp,tp,tp,tp,tp,tp,tp,tp,tp,tp,tp,tp,tp,tp,tp,tp,tp,tp,tp,tp,tp,tp,tp,tp,tp,tp,tp,tp,tp,tp,tp,tp,tp], [.nest [.sl (.i64 x) v858] false 0, .row (.i64 v859) 0])
def spec_l06Over_l12_kill : List Nat := KL true [0,1,1,1,6,1,3,4,4,3,202]
def spec_l06Over_l12_nx : Exit → List Nat
  | .exit 4 => KL true [9,1,3,2,211]
  | .exit 5 => KL true [0,1,1,1,6,1,3,3,210]
  | .exit 10 => KL true [0,1,1,1,6,1,3,3,210]
  | .exit 11 => KL true [0,1,1,1,6,1,3,4,4,1,204]
  | .exit 12 => KL true [0,1,1,1,6,1,3,4,4,1,204]
  | .ret => KL true [6,3,217]
  | _ => []
noncomputable def spec_l06Over_l10_T (v52 : Int) (v53 : Int) (v54 : List Int) (v55 : List Int) (v56 : Int) (v824 : Int) (v825 : Int) (v826 : Int) (v829 : List Nat) (v830 : List Int) (s : Int × (List (List Int))) : Tree ((Int × (List (List Int))) ⊕ ((List (List Int)))) :=
  (.br (decide (s.1 < (((v829).length : Nat) : Int))) (
   (.grd (inb s.1 ((v829).length)) <|
   (.grd (inb v825 ((nget s.2 (nth v829 (Int.toNat s.1))).length)) <|
   (.need (some (spec_l06Over_l12_E v52 v53 v54 v55 v56 v824 v825 v826 s.1 (nth (nget s.2 (nth v829 (Int.toNat s.1))) (Int.toNat v825)) v829 v830 ((0 : Int), s.2)) = some (spec_l06Over_l12_E v52 v53 v54 v55 v56 v824 v825 v826 s.1 (nth (nget s.2 (nth v829 (Int.toNat s.1))) (Int.toNat v825)) v829 v830 ((0 : Int), s.2))) <|
   (.call (spec_l06Over_l12_g v56 v824 v825 v826 s.1 (nth (nget s.2 (nth v829 (Int.toNat s.1))) (Int.toNat v825)) v829 v830 ((0 : Int), s.2)) fun v861 =>
   .leaf (.inl (IntKind.i64.wrap (s.1 + (1 : Int)), v861))))))
  ) (
   .leaf (.inr s.2)
  ))

noncomputable def spec_l06Over_l10_g (v52 : Int) (v53 : Int) (v54 : List Int) (v55 : List Int) (v56 : Int) (v824 : Int) (v825 : Int) (v826 : Int) (v829 : List Nat) (v830 : List Int) (s0 : Int × (List (List Int))) : Option ((List (List Int))) := whileM (fun s => (spec_l06Over_l10_T v52 v53 v54 v55 v56 v824 v825 v826 v829 v830 s).run) s0
def spec_l06Over_l10_E (v52 : Int) (v53 : Int) (v54 : List Int) (v55 : List Int) (v56 : Int) (v824 : Int) (v825 : Int) (v826 : Int) (v829 : List Nat) (v830 : List Int) (s : Int × (List (List Int))) : Sd := ([.bptr (BR.root 0) [.int .i64 v52, .int .i64 v53, .bslc (BR.root 1) (.i64 v54)],tp,.int .i64 v56,tp,tp,tp,tp,tp,tp,.nest 0 0 1 ((v829).length),tp,tp,tp,.own 1 0 ((v830).length),.int .i64 v824,.int .i64 v825,.int .i64 v826,tp,tp,tp,tp,.int .i64 s.1,tp,tp,tp,tp,tp,tp,tp,tp,tp,tp,tp,tp,tp,tp,tp,tp,tp,tp,tp,tp,tp,tp,tp,tp,tp,tp,tp,tp,tp,tp,tp,tp,tp,tp,tp,tp,tp,tp,tp,tp,tp,tp,tp,tp,tp,tp,tp,tp,tp,tp,tp,tp,tp,tp,tp,tp,tp,tp,tp,tp,tp,tp,tp,tp,tp,tp,tp,tp,tp,tp,tp,tp,tp,tp,tp,tp,tp,tp,tp,tp,tp,tp,tp,tp,tp,tp,tp,tp,tp,tp,tp,tp,tp,tp,tp,tp,tp,tp,tp,tp,tp,tp,tp,tp,tp,tp,tp,tp,tp,tp,tp,tp,tp,tp,tp,tp,tp,tp,tp,tp,tp,tp,tp,tp,tp,tp,tp,tp,tp,tp,tp,tp,tp,tp,tp,tp,tp,tp,tp,tp,tp,tp,tp,tp,tp,tp,tp,tp,tp,tp,tp,tp,tp,tp,tp,tp,tp,tp,tp,tp,tp,tp,tp,tp,tp,tp,tp,tp,tp,tp,tp,tp,tp,tp,tp,tp,tp,tp,tp,tp,tp,tp,tp,tp,tp,tp,tp,tp,tp,tp,tp,tp,tp,tp,tp,tp,tp,tp,tp,tp,tp,tp,tp,tp], [.nest [.sl (.i64 s.2) v829] false 0, .row (.i64 v830) 0])
def spec_l06Over_l10_X (v52 : Int) (v53 : Int) (v54 : List Int) (v55 : List Int) (v56 : Int) (v824 : Int) (v825 : Int) (v826 : Int) (v829 : List Nat) (v830 : List Int) (x : (List (List Int))) : Out := (.normal, [.bptr (BR.root 0) [.int .i64 v52, .int .i64 v53, .bslc (BR.root 1) (.i64 v54)],tp,.int .i64 v56,tp,tp,tp,tp,tp,tp,.nest 0 0 1 ((v829).length),tp,tp,tp,.own 1 0 ((v830).length),.int .i64 v824,.int .i64 v825,tp,tp,tp,tp,tp,tp,tp,tp,tp,tp,tp,tp,tp,tp,tp,tp,tp,tp,tp,tp,tp,tp,tp,tp,tp,tp,tp,tp,tp,tp,tp,tp,tp,tp,tp,tp,tp,tp,tp,tp,tp,tp,tp,tp,tp,tp,tp,tp,tp,tp,tp,tp,tp,tp,tp,tp,tp,tp,tp,tp,tp,tp,tp,tp,tp,tp,tp,tp,tp,tp,tp,tp,tp,tp,tp,tp,tp,tp,tp,tp,tp,tp,tp,tp,tp,tp,tp,tp,tp,tp,tp,tp,tp,tp,tp,tp,tp,tp,tp,tp,tp,tp,tp,tp,tp,tp,tp,tp,tp,tp,tp,tp,tp,tp,tp,tp,tp,tp,tp,tp,tp,tp,tp,tp,tp,tp,tp,tp,tp,tp,tp,tp,tp,tp,tp,tp,tp,tp,tp,tp,tp,tp,tp,tp,tp,tp,tp,tp,tp,tp,tp,tp,tp,tp,tp,tp,tp,tp,tp,tp,tp,tp,tp,tp,tp,tp,tp,tp,tp,tp,tp,tp,tp,tp,tp,tp,tp,tp,tp,tp,tp,tp,tp,tp,tp,tp,tp,tp,tp,tp,tp,tp,tp,tp,tp,tp,tp,tp,tp,tp,tp,tp,tp,tp,tp,tp,tp,tp,tp,tp], [.nest [.sl (.i64 x) v829] false 0, .row (.i64 v830) 0])
def spec_l06Over_l10_kill : List Nat := KL true [0,1,1,1,6,1,3,4,4,1,204]
def spec_l06Over_l10_nx : Exit → List Nat
  | .exit 4 => KL true [9,1,3,2,211]
  | .exit 5 => KL true [0,1,1,1,6,1,3,3,210]
  | .exit 10 => KL true [0,1,1,1,6,1,3,3,210]
  | .ret => KL true [6,3,217]
  | _ => []
noncomputable def spec_l06Over_l4_T (v52 : Int) (v53 : Int) (v54 : List Int) (v55 : List Int) (v56 : Int) (s : Int × Int × (List (List Int)) × (List Nat) × (List Int)) : Tree ((Int × Int × (List (List Int)) × (List Nat) × (List Int)) ⊕ (Int × (List (List Int)) × (List Nat) × (List Int))) :=
  (.br (decide (s.2.1 < v53)) (
   (.need (some (spec_l06Over_l6_E v52 v53 v54 v55 v56 s.1 s.2.1 (((s.2.2.2.2).length : Nat) : Int) s.2.2.1 s.2.2.2.1 s.2.2.2.2 (((s.2.2.2.2).length : Nat) : Int)) = some (spec_l06Over_l6_E v52 v53 v54 v55 v56 s.1 s.2.1 (((s.2.2.2.2).length : Nat) : Int) s.2.2.1 s.2.2.2.1 s.2.2.2.2 (((s.2.2.2.2).length : Nat) : Int))) <|
   (.call (spec_l06Over_l6_g s.1 s.2.1 (((s.2.2.2.2).length : Nat) : Int) s.2.2.1 s.2.2.2.1 s.2.2.2.2 (((s.2.2.2.2).length : Nat) : Int)) fun v720 =>
   (.br (decide ((((s.2.2.2.1).length : Nat) : Int) ≤ v720)) (
    .leaf (.inl ((0 : Int), IntKind.i64.wrap (s.2.1 + (1 : Int)), s.2.2.1, s.2.2.2.1, s.2.2.2.2))
   ) (
    (.br (!decide (v720 = (((s.2.2.2.2).length : Nat) : Int))) (
     (.grd (inb v720 ((s.2.2.2.1).length)) <|
     (.grd (inb (((s.2.2.2.2).length : Nat) : Int) ((s.2.2.2.1).length)) <|
     (.grd (inb v720 ((s.2.2.2.1).length)) <|
     (.grd (inb (((s.2.2.2.2).length : Nat) : Int) ((s.2.2.2.1).length)) <|
     (.call (spec_l06Mod_g (IntKind.i64.wrap (0 - s.1)) v56) fun v721 =>
     (.grd (inb (((s.2.2.2.2).length : Nat) : Int) ((s.2.2.2.1).length)) <|
     (.grd (inb s.2.1 ((nget s.2.2.1 (nth (List.set (List.set s.2.2.2.1 (Int.toNat v720) (nth s.2.2.2.1 (Int.toNat (((s.2.2.2.2).length : Nat) : Int)))) (Int.toNat (((s.2.2.2.2).length : Nat) : Int)) (nth s.2.2.2.1 (Int.toNat v720))) (Int.toNat (((s.2.2.2.2).length : Nat) : Int)))).length)) <|
     (.grd (!decide (v56 = 0)) <|
     (.grd (inb (((s.2.2.2.2).length : Nat) : Int) ((s.2.2.2.1).length)) <|
     (.grd (inb s.2.1 ((nget s.2.2.1 (nth (List.set (List.set s.2.2.2.1 (Int.toNat v720) (nth s.2.2.2.1 (Int.toNat (((s.2.2.2.2).length : Nat) : Int)))) (Int.toNat (((s.2.2.2.2).length : Nat) : Int)) (nth s.2.2.2.1 (Int.toNat v720))) (Int.toNat (((s.2.2.2.2).length : Nat) : Int)))).length)) <|
     (.call (spec_l06Back_g (nth (nget s.2.2.1 (nth (List.set (List.set s.2.2.2.1 (Int.toNat v720) (nth s.2.2.2.1 (Int.toNat (((s.2.2.2.2).length : Nat) : Int)))) (Int.toNat (((s.2.2.2.2).length : Nat) : Int)) (nth s.2.2.2.1 (Int.toNat v720))) (Int.toNat (((s.2.2.2.2).length : Nat) : Int)))) (Int.toNat s.2.1)) v56) fun v722 =>
     (.need (some (spec_l06Over_l8_E v52 v53 v54 v55 v56 (Int.tmod (IntKind.i64.wrap (v721 * (nth (nget s.2.2.1 (nth (List.set (List.set s.2.2.2.1 (Int.toNat v720) (nth s.2.2.2.1 (Int.toNat (((s.2.2.2.2).length : Nat) : Int)))) (Int.toNat (((s.2.2.2.2).length : Nat) : Int)) (nth s.2.2.2.1 (Int.toNat v720))) (Int.toNat (((s.2.2.2.2).length : Nat) : Int)))) (Int.toNat s.2.1)))) v56) s.2.1 (((s.2.2.2.2).length : Nat) : Int) v722 (List.set (List.set s.2.2.2.1 (Int.toNat v720) (nth s.2.2.2.1 (Int.toNat (((s.2.2.2.2).length : Nat) : Int)))) (Int.toNat (((s.2.2.2.2).length : Nat) : Int)) (nth s.2.2.2.1 (Int.toNat v720))) s.2.2.2.2 ((0 : Int), s.2.2.1)) = some (spec_l06Over_l8_E v52 v53 v54 v55 v56 (Int.tmod (IntKind.i64.wrap (v721 * (nth (nget s.2.2.1 (nth (List.set (List.set s.2.2.2.1 (Int.toNat v720) (nth s.2.2.2.1 (Int.toNat (((s.2.2.2.2).length : Nat) : Int)))) (Int.toNat (((s.2.2.2.2).length : Nat) : Int)) (nth s.2.2.2.1 (Int.toNat v720))) (Int.toNat (((s.2.2.2.2).length : Nat) : Int)))) (Int.toNat s.2.1)))) v56) s.2.1 (((s.2.2.2.2).length : Nat) : Int) v722 (List.set (List.set s.2.2.2.1 (Int.toNat v720) (nth s.2.2.2.1 (Int.toNat (((s.2.2.2.2).length : Nat) : Int)))) (Int.toNat (((s.2.2.2.2).length : Nat) : Int)) (nth s.2.2.2.1 (Int.toNat v720))) s.2.2.2.2 ((0 : Int), s.2.2.1))) <|
     (.call (spec_l06Over_l8_g v56 (Int.tmod (IntKind.i64.wrap (v721 * (nth (nget s.2.2.1 (nth (List.set (List.set s.2.2.2.1 (Int.toNat v720) (nth s.2.2.2.1 (Int.toNat (((s.2.2.2.2).length : Nat) : Int)))) (Int.toNat (((s.2.2.2.2).length : Nat) : Int)) (nth s.2.2.2.1 (Int.toNat v720))) (Int.toNat (((s.2.2.2.2).length : Nat) : Int)))) (Int.toNat s.2.1)))) v56) s.2.1 (((s.2.2.2.2).length : Nat) : Int) v722 (List.set (List.set s.2.2.2.1 (Int.toNat v720) (nth s.2.2.2.1 (Int.toNat (((s.2.2.2.2).length : Nat) : Int)))) (Int.toNat (((s.2.2.2.2).length : Nat) : Int)) (nth s.2.2.2.1 (Int.toNat v720))) s.2.2.2.2 ((0 : Int), s.2.2.1)) fun v747 =>
     (.need (some (spec_l06Over_l10_E v52 v53 v54 v55 v56 (Int.tmod (IntKind.i64.wrap (v721 * (nth (nget s.2.2.1 (nth (List.set (List.set s.2.2.2.1 (Int.toNat v720) (nth s.2.2.2.1 (Int.toNat (((s.2.2.2.2).length : Nat) : Int)))) (Int.toNat (((s.2.2.2.2).length : Nat) : Int)) (nth s.2.2.2.1 (Int.toNat v720))) (Int.toNat (((s.2.2.2.2).length : Nat) : Int)))) (Int.toNat s.2.1)))) v56) s.2.1 (((s.2.2.2.2).length : Nat) : Int) (List.set (List.set s.2.2.2.1 (Int.toNat v720) (nth s.2.2.2.1 (Int.toNat (((s.2.2.2.2).length : Nat) : Int)))) (Int.toNat (((s.2.2.2.2).length : Nat) : Int)) (nth s.2.2.2.1 (Int.toNat v720))) s.2.2.2.2 ((0 : Int), v747)) = some (spec_l06Over_l10_E v52 v53 v54 v55 v56 (Int.tmod (IntKind.i64.wrap (v721 * (nth (nget s.2.2.1 (nth (List.set (List.set s.2.2.2.1 (Int.toNat v720) (nth s.2.2.2.1 (Int.toNat (((s.2.2.2.2).length : Nat) : Int)))) (Int.toNat (((s.2.2.2.2).length : Nat) : Int)) (nth s.2.2.2.1 (Int.toNat v720))) (Int.toNat (((s.2.2.2.2).length : Nat) : Int)))) (Int.toNat s.2.1)))) v56) s.2.1 (((s.2.2.2.2).length : Nat) : Int) (List.set (List.set s.2.2.2.1 (Int.toNat v720) (nth s.2.2.2.1 (Int.toNat (((s.2.2.2.2).length : Nat) : Int)))) (Int.toNat (((s.2.2.2.2).length : Nat) : Int)) (nth s.2.2.2.1 (Int.toNat v720))) s.2.2.2.2 ((0 : Int), v747))) <|
     (.call (spec_l06Over_l10_g v52 v53 v54 v55 v56 (Int.tmod (IntKind.i64.wrap (v721 * (nth (nget s.2.2.1 (nth (List.set (List.set s.2.2.2.1 (Int.toNat v720) (nth s.2.2.2.1 (Int.toNat (((s.2.2.2.2).length : Nat) : Int)))) (Int.toNat (((s.2.2.2.2).length : Nat) : Int)) (nth s.2.2.2.1 (Int.toNat v720))) (Int.toNat (((s.2.2.2.2).length : Nat) : Int)))) (Int.toNat s.2.1)))) v56) s.2.1 (((s.2.2.2.2).length : Nat) : Int) (List.set (List.set s.2.2.2.1 (Int.toNat v720) (nth s.2.2.2.1 (Int.toNat (((s.2.2.2.2).length : Nat) : Int)))) (Int.toNat (((s.2.2.2.2).length : Nat) : Int)) (nth s.2.2.2.1 (Int.toNat v720))) s.2.2.2.2 ((0 : Int), v747)) fun v862 =>
     (.grd (fits (s.2.2.2.2 ++ ([s.2.1] : List Int)).length) <|
     .leaf (.inl ((Int.tmod (IntKind.i64.wrap (v721 * (nth (nget s.2.2.1 (nth (List.set (List.set s.2.2.2.1 (Int.toNat v720) (nth s.2.2.2.1 (Int.toNat (((s.2.2.2.2).length : Nat) : Int)))) (Int.toNat (((s.2.2.2.2).length : Nat) : Int)) (nth s.2.2.2.1 (Int.toNat v720))) (Int.toNat (((s.2.2.2.2).length : Nat) : Int)))) (Int.toNat s.2.1)))) v56), IntKind.i64.wrap (s.2.1 + (1 : Int)), v862, (List.set (List.set s.2.2.2.1 (Int.toNat v720) (nth s.2.2.2.1 (Int.toNat (((s.2.2.2.2).length : Nat) : Int)))) (Int.toNat (((s.2.2.2.2).length : Nat) : Int)) (nth s.2.2.2.1 (Int.toNat v720))), s.2.2.2.2 ++ ([s.2.1] : List Int)))))))))))))))))))
    ) (
     (.grd (inb (((s.2.2.2.2).length : Nat) : Int) ((s.2.2.2.1).length)) <|
     (.grd (inb s.2.1 ((nget s.2.2.1 (nth s.2.2.2.1 (Int.toNat (((s.2.2.2.2).length : Nat) : Int)))).length)) <|
     (.grd (!decide (v56 = 0)) <|
     (.grd (inb (((s.2.2.2.2).length : Nat) : Int) ((s.2.2.2.1).length)) <|
     (.grd (inb s.2.1 ((nget s.2.2.1 (nth s.2.2.2.1 (Int.toNat (((s.2.2.2.2).length : Nat) : Int)))).length)) <|
     (.call (spec_l06Back_g (nth (nget s.2.2.1 (nth s.2.2.2.1 (Int.toNat (((s.2.2.2.2).length : Nat) : Int)))) (Int.toNat s.2.1)) v56) fun v863 =>
     (.need (some (spec_l06Over_l8_E v52 v53 v54 v55 v56 (Int.tmod (IntKind.i64.wrap (s.1 * (nth (nget s.2.2.1 (nth s.2.2.2.1 (Int.toNat (((s.2.2.2.2).length : Nat) : Int)))) (Int.toNat s.2.1)))) v56) s.2.1 (((s.2.2.2.2).length : Nat) : Int) v863 s.2.2.2.1 s.2.2.2.2 ((0 : Int), s.2.2.1)) = some (spec_l06Over_l8_E v52 v53 v54 v55 v56 (Int.tmod (IntKind.i64.wrap (s.1 * (nth (nget s.2.2.1 (nth s.2.2.2.1 (Int.toNat (((s.2.2.2.2).length : Nat) : Int)))) (Int.toNat s.2.1)))) v56) s.2.1 (((s.2.2.2.2).length : Nat) : Int) v863 s.2.2.2.1 s.2.2.2.2 ((0 : Int), s.2.2.1))) <|
     (.call (spec_l06Over_l8_g v56 (Int.tmod (IntKind.i64.wrap (s.1 * (nth (nget s.2.2.1 (nth s.2.2.2.1 (Int.toNat (((s.2.2.2.2).length : Nat) : Int)))) (Int.toNat s.2.1)))) v56) s.2.1 (((s.2.2.2.2).length : Nat) : Int) v863 s.2.2.2.1 s.2.2.2.2 ((0 : Int), s.2.2.1)) fun v888 =>
     (.need (some (spec_l06Over_l10_E v52 v53 v54 v55 v56 (Int.tmod (IntKind.i64.wrap (s.1 * (nth (nget s.2.2.1 (nth s.2.2.2.1 (Int.toNat (((s.2.2.2.2).length : Nat) : Int)))) (Int.toNat s.2.1)))) v56) s.2.1 (((s.2.2.2.2).length : Nat) : Int) s.2.2.2.1 s.2.2.2.2 ((0 : Int), v888)) = some (spec_l06Over_l10_E v52 v53 v54 v55 v56 (Int.tmod (IntKind.i64.wrap (s.1 * (nth (nget s.2.2.1 (nth s.2.2.2.1 (Int.toNat (((s.2.2.2.2).length : Nat) : Int)))) (Int.toNat s.2.1)))) v56) s.2.1 (((s.2.2.2.2).length : Nat) : Int) s.2.2.2.1 s.2.2.2.2 ((0 : Int), v888))) <|
     (.call (spec_l06Over_l10_g v52 v53 v54 v55 v56 (Int.tmod (IntKind.i64.wrap (s.1 * (nth (nget s.2.2.1 (nth s.2.2.2.1 (Int.toNat (((s.2.2.2.2).length : Nat) : Int)))) (Int.toNat s.2.1)))) v56) s.2.1 (((s.2.2.2.2).length : Nat) : Int) s.2.2.2.1 s.2.2.2.2 ((0 : Int), v888)) fun v1003 =>
     (.grd (fits (s.2.2.2.2 ++ ([s.2.1] : List Int)).length) <|
     .leaf (.inl ((Int.tmod (IntKind.i64.wrap (s.1 * (nth (nget s.2.2.1 (nth s.2.2.2.1 (Int.toNat (((s.2.2.2.2).length : Nat) : Int)))) (Int.toNat s.2.1)))) v56), IntKind.i64.wrap (s.2.1 + (1 : Int)), v1003, s.2.2.2.1, s.2.2.2.2 ++ ([s.2.1] : List Int))))))))))))))
    ))
   ))))
  ) (
   .leaf (.inr (s.1, s.2.2.1, s.2.2.2.1, s.2.2.2.2))
  ))

noncomputable def spec_l06Over_l4_g (v52 : Int) (v53 : Int) (v54 : List Int) (v55 : List Int) (v56 : Int) (s0 : Int × Int × (List (List Int)) × (List Nat) × (List Int)) : Option (Int × (List (List Int)) × (List Nat) × (List Int)) := whileM (fun s => (spec_l06Over_l4_T v52 v53 v54 v55 v56 s).run) s0
def spec_l06Over_l4_E (v52 : Int) (v53 : Int) (v54 : List Int) (v55 : List Int) (v56 : Int) (s : Int × Int × (List (List Int)) × (List Nat) × (List Int)) : Sd := ([.bptr (BR.root 0) [.int .i64 v52, .int .i64 v53, .bslc (BR.root 1) (.i64 v54)],tp,.int .i64 v56,tp,tp,tp,tp,tp,tp,.nest 0 0 1 ((s.2.2.2.1).length),tp,tp,tp,.own 1 0 ((s.2.2.2.2).length),.int .i64 s.1,.int .i64 s.2.1,tp,tp,tp,tp,tp,tp,tp,tp,tp,tp,tp,tp,tp,tp,tp,tp,tp,tp,tp,tp,tp,tp,tp,tp,tp,tp,tp,tp,tp,tp,tp,tp,tp,tp,tp,tp,tp,tp,tp,tp,tp,tp,tp,tp,tp,tp,tp,tp,tp,tp,tp,tp,tp,tp,tp,tp,tp,tp,tp,tp,tp,tp,tp,tp,tp,tp,tp,tp,tp,tp,tp,tp,tp,tp,tp,tp,tp,tp,tp,tp,tp,tp,tp,tp,tp,tp,tp,tp,tp,tp,tp,tp,tp,tp,tp,tp,tp,tp,tp,tp,tp,tp,tp,tp,tp,tp,tp,tp,tp,tp,tp,tp,tp,tp,tp,tp,tp,tp,tp,tp,tp,tp,tp,tp,tp,tp,tp,tp,tp,tp,tp,tp,tp,tp,tp,tp,tp,tp,tp,tp,tp,tp,tp,tp,tp,tp,tp,tp,tp,tp,tp,tp,tp,tp,tp,tp,tp,tp,tp,tp,tp,tp,tp,tp,tp,tp,tp,tp,tp,tp,tp,tp,tp,tp,tp,tp,tp,tp,tp,tp,tp,tp,tp,tp,tp,tp,tp,tp,tp,tp,tp,tp,tp,tp,tp,tp,tp,tp,tp,tp,tp,tp,tp,tp,tp,tp,tp,tp,tp,tp], [.nest [.sl (.i64 s.2.2.1) s.2.2.2.1] false 0, .row (.i64 s.2.2.2.2) 0])
def spec_l06Over_l4_X (v52 : Int) (v53 : Int) (v54 : List Int) (v55 : List Int) (v56 : Int) (x : Int × (List (List Int)) × (List Nat) × (List Int)) : Out := (.normal, [tp,tp,tp,tp,tp,tp,tp,tp,tp,.nest 0 0 1 ((x.2.2.1).length),tp,tp,tp,.own 1 0 ((x.2.2.2).length),.int .i64 x.1,tp,tp,tp,tp,tp,tp,tp,tp,tp,tp,tp,tp,tp,tp,tp,tp,tp,tp,tp,tp,tp,tp,tp,tp,tp,tp,tp,tp,tp,tp,tp,tp,tp,tp,tp,tp,tp,tp,tp,tp,tp,tp,tp,tp,tp,tp,tp,tp,tp,tp,tp,tp,tp,tp,tp,tp,tp,tp,tp,tp,tp,tp,tp,tp,tp,tp,tp,tp,tp,tp,tp,tp,tp,tp,tp,tp,tp,tp,tp,tp,tp,tp,tp,tp,tp,tp,tp,tp,tp,tp,tp,tp,tp,tp,tp,tp,tp,tp,tp,tp,tp,tp,tp,tp,tp,tp,tp,tp,tp,tp,tp,tp,tp,tp,tp,tp,tp,tp,tp,tp,tp,tp,tp,tp,tp,tp,tp,tp,tp,tp,tp,tp,tp,tp,tp,tp,tp,tp,tp,tp,tp,tp,tp,tp,tp,tp,tp,tp,tp,tp,tp,tp,tp,tp,tp,tp,tp,tp,tp,tp,tp,tp,tp,tp,tp,tp,tp,tp,tp,tp,tp,tp,tp,tp,tp,tp,tp,tp,tp,tp,tp,tp,tp,tp,tp,tp,tp,tp,tp,tp,tp,tp,tp,tp,tp,tp,tp,tp,tp,tp,tp,tp,tp,tp,tp,tp,tp,tp,tp,tp,tp], [.nest [.sl (.i64 x.2.1) x.2.2.1] false 0, .row (.i64 x.2.2.2) 0])
def spec_l06Over_l4_kill : List Nat := KL true [0,1,1,1,6,1,3,3,210]
def spec_l06Over_l4_nx : Exit → List Nat
  | .exit 4 => KL true [9,1,3,2,211]
  | .ret => KL true [6,3,217]
  | _ => []
noncomputable def spec_l06Over_LO (v52 : Int) (v53 : Int) (v54 : List Int) (v55 : List Int) (v56 : Int) : LOr := fun id e L =>
  match id with
  | 2 => .need (normA 0 spec_l06Over_l2_kill e L = some (spec_l06Over_l2_E v52 v53 v54 v55 v56 (gI (vAt e 10)) (gPI L (vAt e 9) 0) (gX L (vAt e 9) 0) ((gI (vAt e 12)), (gRI L (vAt e 11))))) (.call (spec_l06Over_l2_g v53 v54 v56 (gI (vAt e 10)) (gPI L (vAt e 9) 0) (gX L (vAt e 9) 0) ((gI (vAt e 12)), (gRI L (vAt e 11)))) fun x => .leaf (spec_l06Over_l2_X v52 v53 v54 v55 v56 (gI (vAt e 10)) (gPI L (vAt e 9) 0) (gX L (vAt e 9) 0) x))
  | 0 => .need (normA 0 spec_l06Over_l0_kill e L = some (spec_l06Over_l0_E v52 v53 v54 v55 v56 ((gI (vAt e 10)), (gPI L (vAt e 9) 0), (gX L (vAt e 9) 0)))) (.call (spec_l06Over_l0_g v52 v53 v54 v55 v56 ((gI (vAt e 10)), (gPI L (vAt e 9) 0), (gX L (vAt e 9) 0))) fun x => .leaf (spec_l06Over_l0_X v52 v53 v54 v55 v56 x))
  | 6 => .need (normA 0 spec_l06Over_l6_kill e L = some (spec_l06Over_l6_E v52 v53 v54 v55 v56 (gI (vAt e 14)) (gI (vAt e 15)) (gI (vAt e 16)) (gPI L (vAt e 9) 0) (gX L (vAt e 9) 0) (gRI L (vAt e 13)) (gI (vAt e 17)))) (.call (spec_l06Over_l6_g (gI (vAt e 14)) (gI (vAt e 15)) (gI (vAt e 16)) (gPI L (vAt e 9) 0) (gX L (vAt e 9) 0) (gRI L (vAt e 13)) (gI (vAt e 17))) fun x => .leaf (spec_l06Over_l6_X v52 v53 v54 v55 v56 (gI (vAt e 14)) (gI (vAt e 15)) (gI (vAt e 16)) (gPI L (vAt e 9) 0) (gX L (vAt e 9) 0) (gRI L (vAt e 13)) x))
  | 8 => .need (normA 0 spec_l06Over_l8_kill e L = some (spec_l06Over_l8_E v52 v53 v54 v55 v56 (gI (vAt e 14)) (gI (vAt e 15)) (gI (vAt e 16)) (gI (vAt e 19)) (gX L (vAt e 9) 0) (gRI L (vAt e 13)) ((gI (vAt e 20)), (gPI L (vAt e 9) 0)))) (.call (spec_l06Over_l8_g v56 (gI (vAt e 14)) (gI (vAt e 15)) (gI (vAt e 16)) (gI (vAt e 19)) (gX L (vAt e 9) 0) (gRI L (vAt e 13)) ((gI (vAt e 20)), (gPI L (vAt e 9) 0))) fun x => .leaf (spec_l06Over_l8_X v52 v53 v54 v55 v56 (gI (vAt e 14)) (gI (vAt e 15)) (gI (vAt e 16)) (gI (vAt e 19)) (gX L (vAt e 9) 0) (gRI L (vAt e 13)) x))
  | 12 => .need (normA 0 spec_l06Over_l12_kill e L = some (spec_l06Over_l12_E v52 v53 v54 v55 v56 (gI (vAt e 14)) (gI (vAt e 15)) (gI (vAt e 16)) (gI (vAt e 21)) (gI (vAt e 22)) (gX L (vAt e 9) 0) (gRI L (vAt e 13)) ((gI (vAt e 23)), (gPI L (vAt e 9) 0)))) (.call (spec_l06Over_l12_g v56 (gI (vAt e 14)) (gI (vAt e 15)) (gI (vAt e 16)) (gI (vAt e 21)) (gI (vAt e 22)) (gX L (vAt e 9) 0) (gRI L (vAt e 13)) ((gI (vAt e 23)), (gPI L (vAt e 9) 0))) fun x => .leaf (spec_l06Over_l12_X v52 v53 v54 v55 v56 (gI (vAt e 14)) (gI (vAt e 15)) (gI (vAt e 16)) (gI (vAt e 21)) (gI (vAt e 22)) (gX L (vAt e 9) 0) (gRI L (vAt e 13)) x))
  | 10 => .need (normA 0 spec_l06Over_l10_kill e L = some (spec_l06Over_l10_E v52 v53 v54 v55 v56 (gI (vAt e 14)) (gI (vAt e 15)) (gI (vAt e 16)) (gX L (vAt e 9) 0) (gRI L (vAt e 13)) ((gI (vAt e 21)), (gPI L (vAt e 9) 0)))) (.call (spec_l06Over_l10_g v52 v53 v54 v55 v56 (gI (vAt e 14)) (gI (vAt e 15)) (gI (vAt e 16)) (gX L (vAt e 9) 0) (gRI L (vAt e 13)) ((gI (vAt e 21)), (gPI L (vAt e 9) 0))) fun x => .leaf (spec_l06Over_l10_X v52 v53 v54 v55 v56 (gI (vAt e 14)) (gI (vAt e 15)) (gI (vAt e 16)) (gX L (vAt e 9) 0) (gRI L (vAt e 13)) x))
  | 4 => .need (normA 0 spec_l06Over_l4_kill e L = some (spec_l06Over_l4_E v52 v53 v54 v55 v56 ((gI (vAt e 14)), (gI (vAt e 15)), (gPI L (vAt e 9) 0), (gX L (vAt e 9) 0), (gRI L (vAt e 13))))) (.call (spec_l06Over_l4_g v52 v53 v54 v55 v56 ((gI (vAt e 14)), (gI (vAt e 15)), (gPI L (vAt e 9) 0), (gX L (vAt e 9) 0), (gRI L (vAt e 13)))) fun x => .leaf (spec_l06Over_l4_X v52 v53 v54 v55 v56 x))
  | _ => .fail
noncomputable def spec_l06Over_tab : List (FuncId × DFn × Bool) := [(124, spec_l06At_F, true), (68, spec_l06Mod_F, true), (125, spec_l06Back_F, true)]
theorem spec_l06Over_hO : OrcOk Try.prog (tabD spec_l06Over_tab) (tabM spec_l06Over_tab) := tabD_cons spec_l06At_Fok (tabD_cons spec_l06Mod_Fok (tabD_cons spec_l06Back_Fok (tabD_nil _)))
theorem spec_l06Over_l2_be (v52 : Int) (v53 : Int) (v54 : List Int) (v55 : List Int) (v56 : Int) (v122 : Int) (v124 : List (List Int)) (v125 : List Nat) (s : Int × (List Int)) : bodyT TT (tabD spec_l06Over_tab) (tabM spec_l06Over_tab) (spec_l06Over_LO v52 v53 v54 v55 v56) 0 spec_l06Over_l2_kill spec_l06Over_l2_nx (bodyOf Try.f62 2) 2 (spec_l06Over_l2_E v52 v53 v54 v55 v56 v122 v124 v125 s) = (spec_l06Over_l2_T v53 v54 v56 v122 v124 v125 s).bind fun y => .leaf (outS (spec_l06Over_l2_E v52 v53 v54 v55 v56 v122 v124 v125) (spec_l06Over_l2_X v52 v53 v54 v55 v56 v122 v124 v125) y) := by kernel_rfl
theorem spec_l06Over_l2_ok (v52 : Int) (v53 : Int) (v54 : List Int) (v55 : List Int) (v56 : Int) : LSound Try.prog 0 (spec_l06Over_LO v52 v53 v54 v55 v56) 2 (bodyOf Try.f62 2) := by
  intro e L out h
  exact lo_ok (E := spec_l06Over_l2_E v52 v53 v54 v55 v56 (gI (vAt e 10)) (gPI L (vAt e 9) 0) (gX L (vAt e 9) 0)) (gT := spec_l06Over_l2_T v53 v54 v56 (gI (vAt e 10)) (gPI L (vAt e 9) 0) (gX L (vAt e 9) 0)) (X := spec_l06Over_l2_X v52 v53 v54 v55 v56 (gI (vAt e 10)) (gPI L (vAt e 9) 0) (gX L (vAt e 9) 0)) (s0 := ((gI (vAt e 12)), (gRI L (vAt e 11)))) tok spec_l06Over_hO mixed (LoopsOk_eq (l := []) (by kernel_rfl) trivial) (spec_l06Over_l2_be v52 v53 v54 v55 v56 (gI (vAt e 10)) (gPI L (vAt e 9) 0) (gX L (vAt e 9) 0)) rfl (by intro x; rfl) h
theorem spec_l06Over_l0_be (v52 : Int) (v53 : Int) (v54 : List Int) (v55 : List Int) (v56 : Int) (s : Int × (List (List Int)) × (List Nat)) : bodyT TT (tabD spec_l06Over_tab) (tabM spec_l06Over_tab) (spec_l06Over_LO v52 v53 v54 v55 v56) 0 spec_l06Over_l0_kill spec_l06Over_l0_nx (bodyOf Try.f62 0) 0 (spec_l06Over_l0_E v52 v53 v54 v55 v56 s) = (spec_l06Over_l0_T v52 v53 v54 v55 v56 s).bind fun y => .leaf (outS (spec_l06Over_l0_E v52 v53 v54 v55 v56) (spec_l06Over_l0_X v52 v53 v54 v55 v56) y) := by kernel_rfl
theorem spec_l06Over_l0_ok (v52 : Int) (v53 : Int) (v54 : List Int) (v55 : List Int) (v56 : Int) : LSound Try.prog 0 (spec_l06Over_LO v52 v53 v54 v55 v56) 0 (bodyOf Try.f62 0) := by
  intro e L out h
  exact lo_ok (E := spec_l06Over_l0_E v52 v53 v54 v55 v56) (gT := spec_l06Over_l0_T v52 v53 v54 v55 v56) (X := spec_l06Over_l0_X v52 v53 v54 v55 v56) (s0 := ((gI (vAt e 10)), (gPI L (vAt e 9) 0), (gX L (vAt e 9) 0))) tok spec_l06Over_hO mixed (LoopsOk_eq (l := [(2, bodyOf Try.f62 2)]) (by kernel_rfl) ⟨spec_l06Over_l2_ok v52 v53 v54 v55 v56, trivial⟩) (spec_l06Over_l0_be v52 v53 v54 v55 v56) rfl (by intro x; rfl) h
theorem spec_l06Over_l6_be (v52 : Int) (v53 : Int) (v54 : List Int) (v55 : List Int) (v56 : Int) (v713 : Int) (v714 : Int) (v715 : Int) (v717 : List (List Int)) (v718 : List Nat) (v719 : List Int) (s : Int) : bodyT TT (tabD spec_l06Over_tab) (tabM spec_l06Over_tab) (spec_l06Over_LO v52 v53 v54 v55 v56) 0 spec_l06Over_l6_kill spec_l06Over_l6_nx (bodyOf Try.f62 6) 6 (spec_l06Over_l6_E v52 v53 v54 v55 v56 v713 v714 v715 v717 v718 v719 s) = (spec_l06Over_l6_T v713 v714 v715 v717 v718 v719 s).bind fun y => .leaf (outS (spec_l06Over_l6_E v52 v53 v54 v55 v56 v713 v714 v715 v717 v718 v719) (spec_l06Over_l6_X v52 v53 v54 v55 v56 v713 v714 v715 v717 v718 v719) y) := by kernel_rfl
theorem spec_l06Over_l6_ok (v52 : Int) (v53 : Int) (v54 : List Int) (v55 : List Int) (v56 : Int) : LSound Try.prog 0 (spec_l06Over_LO v52 v53 v54 v55 v56) 6 (bodyOf Try.f62 6) := by
  intro e L out h
  exact lo_ok (E := spec_l06Over_l6_E v52 v53 v54 v55 v56 (gI (vAt e 14)) (gI (vAt e 15)) (gI (vAt e 16)) (gPI L (vAt e 9) 0) (gX L (vAt e 9) 0) (gRI L (vAt e 13))) (gT := spec_l06Over_l6_T (gI (vAt e 14)) (gI (vAt e 15)) (gI (vAt e 16)) (gPI L (vAt e 9) 0) (gX L (vAt e 9) 0) (gRI L (vAt e 13))) (X := spec_l06Over_l6_X v52 v53 v54 v55 v56 (gI (vAt e 14)) (gI (vAt e 15)) (gI (vAt e 16)) (gPI L (vAt e 9) 0) (gX L (vAt e 9) 0) (gRI L (vAt e 13))) (s0 := (gI (vAt e 17))) tok spec_l06Over_hO mixed (LoopsOk_eq (l := []) (by kernel_rfl) trivial) (spec_l06Over_l6_be v52 v53 v54 v55 v56 (gI (vAt e 14)) (gI (vAt e 15)) (gI (vAt e 16)) (gPI L (vAt e 9) 0) (gX L (vAt e 9) 0) (gRI L (vAt e 13))) rfl (by intro x; rfl) h
theorem spec_l06Over_l8_be (v52 : Int) (v53 : Int) (v54 : List Int) (v55 : List Int) (v56 : Int) (v739 : Int) (v740 : Int) (v741 : Int) (v742 : Int) (v745 : List Nat) (v746 : List Int) (s : Int × (List (List Int))) : bodyT TT (tabD spec_l06Over_tab) (tabM spec_l06Over_tab) (spec_l06Over_LO v52 v53 v54 v55 v56) 0 spec_l06Over_l8_kill spec_l06Over_l8_nx (bodyOf Try.f62 8) 8 (spec_l06Over_l8_E v52 v53 v54 v55 v56 v739 v740 v741 v742 v745 v746 s) = (spec_l06Over_l8_T v56 v739 v740 v741 v742 v745 v746 s).bind fun y => .leaf (outS (spec_l06Over_l8_E v52 v53 v54 v55 v56 v739 v740 v741 v742 v745 v746) (spec_l06Over_l8_X v52 v53 v54 v55 v56 v739 v740 v741 v742 v745 v746) y) := by kernel_rfl
theorem spec_l06Over_l8_ok (v52 : Int) (v53 : Int) (v54 : List Int) (v55 : List Int) (v56 : Int) : LSound Try.prog 0 (spec_l06Over_LO v52 v53 v54 v55 v56) 8 (bodyOf Try.f62 8) := by
  intro e L out h
  exact lo_ok (E := spec_l06Over_l8_E v52 v53 v54 v55 v56 (gI (vAt e 14)) (gI (vAt e 15)) (gI (vAt e 16)) (gI (vAt e 19)) (gX L (vAt e 9) 0) (gRI L (vAt e 13))) (gT := spec_l06Over_l8_T v56 (gI (vAt e 14)) (gI (vAt e 15)) (gI (vAt e 16)) (gI (vAt e 19)) (gX L (vAt e 9) 0) (gRI L (vAt e 13))) (X := spec_l06Over_l8_X v52 v53 v54 v55 v56 (gI (vAt e 14)) (gI (vAt e 15)) (gI (vAt e 16)) (gI (vAt e 19)) (gX L (vAt e 9) 0) (gRI L (vAt e 13))) (s0 := ((gI (vAt e 20)), (gPI L (vAt e 9) 0))) tok spec_l06Over_hO mixed (LoopsOk_eq (l := []) (by kernel_rfl) trivial) (spec_l06Over_l8_be v52 v53 v54 v55 v56 (gI (vAt e 14)) (gI (vAt e 15)) (gI (vAt e 16)) (gI (vAt e 19)) (gX L (vAt e 9) 0) (gRI L (vAt e 13))) rfl (by intro x; rfl) h
theorem spec_l06Over_l12_be (v52 : Int) (v53 : Int) (v54 : List Int) (v55 : List Int) (v56 : Int) (v851 : Int) (v852 : Int) (v853 : Int) (v854 : Int) (v855 : Int) (v858 : List Nat) (v859 : List Int) (s : Int × (List (List Int))) : bodyT TT (tabD spec_l06Over_tab) (tabM spec_l06Over_tab) (spec_l06Over_LO v52 v53 v54 v55 v56) 0 spec_l06Over_l12_kill spec_l06Over_l12_nx (bodyOf Try.f62 12) 12 (spec_l06Over_l12_E v52 v53 v54 v55 v56 v851 v852 v853 v854 v855 v858 v859 s) = (spec_l06Over_l12_T v56 v851 v852 v853 v854 v855 v858 v859 s).bind fun y => .leaf (outS (spec_l06Over_l12_E v52 v53 v54 v55 v56 v851 v852 v853 v854 v855 v858 v859) (spec_l06Over_l12_X v52 v53 v54 v55 v56 v851 v852 v853 v854 v855 v858 v859) y) := by kernel_rfl
theorem spec_l06Over_l12_ok (v52 : Int) (v53 : Int) (v54 : List Int) (v55 : List Int) (v56 : Int) : LSound Try.prog 0 (spec_l06Over_LO v52 v53 v54 v55 v56) 12 (bodyOf Try.f62 12) := by
  intro e L out h
  exact lo_ok (E := spec_l06Over_l12_E v52 v53 v54 v55 v56 (gI (vAt e 14)) (gI (vAt e 15)) (gI (vAt e 16)) (gI (vAt e 21)) (gI (vAt e 22)) (gX L (vAt e 9) 0) (gRI L (vAt e 13))) (gT := spec_l06Over_l12_T v56 (gI (vAt e 14)) (gI (vAt e 15)) (gI (vAt e 16)) (gI (vAt e 21)) (gI (vAt e 22)) (gX L (vAt e 9) 0) (gRI L (vAt e 13))) (X := spec_l06Over_l12_X v52 v53 v54 v55 v56 (gI (vAt e 14)) (gI (vAt e 15)) (gI (vAt e 16)) (gI (vAt e 21)) (gI (vAt e 22)) (gX L (vAt e 9) 0) (gRI L (vAt e 13))) (s0 := ((gI (vAt e 23)), (gPI L (vAt e 9) 0))) tok spec_l06Over_hO mixed (LoopsOk_eq (l := []) (by kernel_rfl) trivial) (spec_l06Over_l12_be v52 v53 v54 v55 v56 (gI (vAt e 14)) (gI (vAt e 15)) (gI (vAt e 16)) (gI (vAt e 21)) (gI (vAt e 22)) (gX L (vAt e 9) 0) (gRI L (vAt e 13))) rfl (by intro x; rfl) h
theorem spec_l06Over_l10_be (v52 : Int) (v53 : Int) (v54 : List Int) (v55 : List Int) (v56 : Int) (v824 : Int) (v825 : Int) (v826 : Int) (v829 : List Nat) (v830 : List Int) (s : Int × (List (List Int))) : bodyT TT (tabD spec_l06Over_tab) (tabM spec_l06Over_tab) (spec_l06Over_LO v52 v53 v54 v55 v56) 0 spec_l06Over_l10_kill spec_l06Over_l10_nx (bodyOf Try.f62 10) 10 (spec_l06Over_l10_E v52 v53 v54 v55 v56 v824 v825 v826 v829 v830 s) = (spec_l06Over_l10_T v52 v53 v54 v55 v56 v824 v825 v826 v829 v830 s).bind fun y => .leaf (outS (spec_l06Over_l10_E v52 v53 v54 v55 v56 v824 v825 v826 v829 v830) (spec_l06Over_l10_X v52 v53 v54 v55 v56 v824 v825 v826 v829 v830) y) := by kernel_rfl
theorem spec_l06Over_l10_ok (v52 : Int) (v53 : Int) (v54 : List Int) (v55 : List Int) (v56 : Int) : LSound Try.prog 0 (spec_l06Over_LO v52 v53 v54 v55 v56) 10 (bodyOf Try.f62 10) := by
  intro e L out h
  exact lo_ok (E := spec_l06Over_l10_E v52 v53 v54 v55 v56 (gI (vAt e 14)) (gI (vAt e 15)) (gI (vAt e 16)) (gX L (vAt e 9) 0) (gRI L (vAt e 13))) (gT := spec_l06Over_l10_T v52 v53 v54 v55 v56 (gI (vAt e 14)) (gI (vAt e 15)) (gI (vAt e 16)) (gX L (vAt e 9) 0) (gRI L (vAt e 13))) (X := spec_l06Over_l10_X v52 v53 v54 v55 v56 (gI (vAt e 14)) (gI (vAt e 15)) (gI (vAt e 16)) (gX L (vAt e 9) 0) (gRI L (vAt e 13))) (s0 := ((gI (vAt e 21)), (gPI L (vAt e 9) 0))) tok spec_l06Over_hO mixed (LoopsOk_eq (l := [(12, bodyOf Try.f62 12)]) (by kernel_rfl) ⟨spec_l06Over_l12_ok v52 v53 v54 v55 v56, trivial⟩) (spec_l06Over_l10_be v52 v53 v54 v55 v56 (gI (vAt e 14)) (gI (vAt e 15)) (gI (vAt e 16)) (gX L (vAt e 9) 0) (gRI L (vAt e 13))) rfl (by intro x; rfl) h
theorem spec_l06Over_l4_be (v52 : Int) (v53 : Int) (v54 : List Int) (v55 : List Int) (v56 : Int) (s : Int × Int × (List (List Int)) × (List Nat) × (List Int)) : bodyT TT (tabD spec_l06Over_tab) (tabM spec_l06Over_tab) (spec_l06Over_LO v52 v53 v54 v55 v56) 0 spec_l06Over_l4_kill spec_l06Over_l4_nx (bodyOf Try.f62 4) 4 (spec_l06Over_l4_E v52 v53 v54 v55 v56 s) = (spec_l06Over_l4_T v52 v53 v54 v55 v56 s).bind fun y => .leaf (outS (spec_l06Over_l4_E v52 v53 v54 v55 v56) (spec_l06Over_l4_X v52 v53 v54 v55 v56) y) := by kernel_rfl
theorem spec_l06Over_l4_ok (v52 : Int) (v53 : Int) (v54 : List Int) (v55 : List Int) (v56 : Int) : LSound Try.prog 0 (spec_l06Over_LO v52 v53 v54 v55 v56) 4 (bodyOf Try.f62 4) := by
  intro e L out h
  exact lo_ok (E := spec_l06Over_l4_E v52 v53 v54 v55 v56) (gT := spec_l06Over_l4_T v52 v53 v54 v55 v56) (X := spec_l06Over_l4_X v52 v53 v54 v55 v56) (s0 := ((gI (vAt e 14)), (gI (vAt e 15)), (gPI L (vAt e 9) 0), (gX L (vAt e 9) 0), (gRI L (vAt e 13)))) tok spec_l06Over_hO mixed (LoopsOk_eq (l := [(6, bodyOf Try.f62 6), (8, bodyOf Try.f62 8), (10, bodyOf Try.f62 10)]) (by kernel_rfl) ⟨spec_l06Over_l6_ok v52 v53 v54 v55 v56, spec_l06Over_l8_ok v52 v53 v54 v55 v56, spec_l06Over_l10_ok v52 v53 v54 v55 v56, trivial⟩) (spec_l06Over_l4_be v52 v53 v54 v55 v56) rfl (by intro x; rfl) h
noncomputable def spec_l06Over_T (v52 : Int) (v53 : Int) (v54 : List Int) (v55 : List Int) (v56 : Int) : Tree (Int × (List (List Int)) × (List Nat) × (List Int)) :=
  (.need (some (spec_l06Over_l0_E v52 v53 v54 v55 v56 ((0 : Int), ([] : List (List Int)), ([] : List Nat))) = some (spec_l06Over_l0_E v52 v53 v54 v55 v56 ((0 : Int), ([] : List (List Int)), ([] : List Nat)))) <|
  (.call (spec_l06Over_l0_g v52 v53 v54 v55 v56 ((0 : Int), ([] : List (List Int)), ([] : List Nat))) fun v131 =>
  (.need (some (spec_l06Over_l4_E v52 v53 v54 v55 v56 ((1 : Int), (0 : Int), v131.1, v131.2, ([] : List Int))) = some (spec_l06Over_l4_E v52 v53 v54 v55 v56 ((1 : Int), (0 : Int), v131.1, v131.2, ([] : List Int)))) <|
  (.call (spec_l06Over_l4_g v52 v53 v54 v55 v56 ((1 : Int), (0 : Int), v131.1, v131.2, ([] : List Int))) fun v1004 =>
  .leaf (v1004.1, v1004.2.1, v1004.2.2.1, v1004.2.2.2)))))

noncomputable def spec_l06Over_g (v52 : Int) (v53 : Int) (v54 : List Int) (v55 : List Int) (v56 : Int) : Option (Int × (List (List Int)) × (List Nat) × (List Int)) := (spec_l06Over_T v52 v53 v54 v55 v56).run
def spec_l06Over_enc (v52 : Int) (v53 : Int) (v54 : List Int) (v55 : List Int) (v56 : Int) (y : Int × (List (List Int)) × (List Nat) × (List Int)) : Rs := (.tup [.nest 0 0 1 ((y.2.2.1).length), .own 1 0 ((y.2.2.2).length), .int .i64 y.1], [.nest [.sl (.i64 y.2.1) y.2.2.1] false 0, .row (.i64 y.2.2.2) 0])
theorem spec_l06Over_den (v52 : Int) (v53 : Int) (v54 : List Int) (v55 : List Int) (v56 : Int) : (den TT (tabD spec_l06Over_tab) (tabM spec_l06Over_tab) (spec_l06Over_LO v52 v53 v54 v55 v56) (codeOf Try.f62) ([.bptr (BR.root 0) [.int .i64 v52, .int .i64 v53, .bslc (BR.root 1) (.i64 v54)], .bslc (BR.root 2) (.i64 v55), .int .i64 v56] ++ List.replicate (Try.f62.ntmps - ([.bptr (BR.root 0) [.int .i64 v52, .int .i64 v53, .bslc (BR.root 1) (.i64 v54)], .bslc (BR.root 2) (.i64 v55), .int .i64 v56] : List DV).length) .undef) []).bind (retD TT Try.f62.results.toList 0) = (spec_l06Over_T v52 v53 v54 v55 v56).bind fun y => .leaf (spec_l06Over_enc v52 v53 v54 v55 v56 y) := by kernel_rfl
theorem spec_l06Over_fn (v52 : Int) (v53 : Int) (v54 : List Int) (v55 : List Int) (v56 : Int) (F : Fr) (h0 : St F [] F.H0) (hA : DVs.Ok F [] [.bptr (BR.root 0) [.int .i64 v52, .int .i64 v53, .bslc (BR.root 1) (.i64 v54)], .bslc (BR.root 2) (.i64 v55), .int .i64 v56]) {y : Int × (List (List Int)) × (List Nat) × (List Int)} (hy : spec_l06Over_g v52 v53 v54 v55 v56 = some y) : ∃ F' H', Fwd 0 F F' [] (spec_l06Over_enc v52 v53 v54 v55 v56 y).2 ∧ FnOk Try.prog 62 (DVs.av F [.bptr (BR.root 0) [.int .i64 v52, .int .i64 v53, .bslc (BR.root 1) (.i64 v54)], .bslc (BR.root 2) (.i64 v55), .int .i64 v56]) F.H0 ((spec_l06Over_enc v52 v53 v54 v55 v56 y).1.av F') H' ∧ St F' (spec_l06Over_enc v52 v53 v54 v55 v56 y).2 H' ∧ (spec_l06Over_enc v52 v53 v54 v55 v56 y).1.Ok F' (spec_l06Over_enc v52 v53 v54 v55 v56 y).2 :=
  fn_fin tok spec_l06Over_hO mixed Try.func62 Try.call62 (by kernel_rfl) (LoopsOk_eq (l := [(0, bodyOf Try.f62 0), (4, bodyOf Try.f62 4)]) (by kernel_rfl) ⟨spec_l06Over_l0_ok v52 v53 v54 v55 v56, spec_l06Over_l4_ok v52 v53 v54 v55 v56, trivial⟩) (spec_l06Over_den v52 v53 v54 v55 v56) hy h0 hA
noncomputable def spec_l06Over_F : DFn := fun args L =>
  match args with
  | [a1, a3, .int .i64 v56] =>
    optT (cellsOf L 3 a1) fun cs0 =>
    (match cs0 with
    | [.int .i64 v52, .int .i64 v53, a2] =>
    optT (rowI64 L a2) fun v54 =>
    optT (rowI64 L a3) fun v55 =>
    .call (spec_l06Over_g v52 v53 v54 v55 v56) fun y => .leaf (.tup [.nest (L.length + 0) 0 1 ((y.2.2.1).length), .own (L.length + 1) 0 ((y.2.2.2).length), .int .i64 y.1], L ++ [.nest [.sl (.i64 y.2.1) y.2.2.1] false 0, .row (.i64 y.2.2.2) 0])
    | _ => .fail)
  | _ => .fail
theorem spec_l06Over_Fok : COk Try.prog 62 spec_l06Over_F true := by
  intro F L H args r L' hs ha hr
  unfold spec_l06Over_F at hr
  split at hr
  · rename_i a1 a3 v56
    obtain ⟨cs0, hcp0, hr⟩ := optT_run hr
    split at hr
    · rename_i v52 v53 a2
      obtain ⟨v54, hv54, hr⟩ := optT_run hr
      obtain ⟨v55, hv55, hr⟩ := optT_run hr
      simp only [Tree.run] at hr
      obtain ⟨y, hy, hr⟩ := Option.bind_eq_some_iff.1 hr
      simp only [Tree.run, Option.some.injEq, Prod.mk.injEq] at hr
      obtain ⟨rfl, rfl⟩ := hr
      exact call_ok1 hs (fun k => (([a1.av F, a2.av F, a3.av F] : List AV)[k]?).getD .top) [a1, a3, .int .i64 v56] [.bptr (BR.root 0) [.int .i64 v52, .int .i64 v53, .bslc (BR.root 1) (.i64 v54)], .bslc (BR.root 2) (.i64 v55), .int .i64 v56] (fun F' h0 hi hρ => ⟨by simp [DVs.av, DV.av, BR.av, hρ], spec_l06Over_fn v52 v53 v54 v55 v56 F' (st_nil hi) ⟨bptr_ok hi (by rw [h0]; simpa [DVs.av, DV.av, BR.av, hρ] using (cellsOf_ok hs (DVs.okAt ha 0 rfl) hcp0).1) ⟨trivial, trivial, bslc_ok hi (by rw [h0, hρ]; exact rowI64_ok hs (DVs.okAt (cellsOf_ok hs (DVs.okAt ha 0 rfl) hcp0).2 2 rfl) hv54), trivial⟩, bslc_ok hi (by rw [h0, hρ]; exact rowI64_ok hs (DVs.okAt ha 1 rfl) hv55), trivial, trivial⟩ hy⟩) rfl rfl
    · cases hr
  · cases hr
end Go.Proofs.Ytimlecagkbbnpaa.AM
