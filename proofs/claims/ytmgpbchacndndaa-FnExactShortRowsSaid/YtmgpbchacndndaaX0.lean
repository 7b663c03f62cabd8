/- Functions: what they come to. -/
import Derived.Test.YtmgpbchacndndaaBase
set_option maxRecDepth 100000
set_option maxHeartbeats 4000000
set_option linter.unusedSimpArgs false
set_option linter.unusedVariables false
namespace Go.Proofs.Ytmgpbchacndndaa.AM
open Go.Proofs
abbrev Z : DV := DV.top
/-! laws.szInt64S -/
noncomputable def laws_szInt64S_LO (v9 : List Int) (v10 : Int) : LOr := fun id e L =>
  match id with
  | _ => .fail
noncomputable def laws_szInt64S_tab : List (FuncId × DFn × Bool) := []
theorem laws_szInt64S_hO : OrcOk Try.prog (tabD laws_szInt64S_tab) (tabM laws_szInt64S_tab) := tabD_nil _
noncomputable def laws_szInt64S_T (v9 : List Int) (v10 : Int) : Tree (Int) :=
  (.br (decide (IntKind.i64.wrap (v10 - ((v9.length : Nat) : Int)) < (0 : Int))) (
  .leaf (-1 : Int)
  ) (
  .leaf (IntKind.i64.wrap (v10 - ((v9.length : Nat) : Int)))
  ))

noncomputable def laws_szInt64S_g (v9 : List Int) (v10 : Int) : Option (Int) := (laws_szInt64S_T v9 v10).run
def laws_szInt64S_enc (v9 : List Int) (v10 y : Int) : Rs := (.int .i64 y, [])
theorem laws_szInt64S_den (v9 : List Int) (v10 : Int) : (den TT (tabD laws_szInt64S_tab) (tabM laws_szInt64S_tab) (laws_szInt64S_LO v9 v10) (codeOf Try.f35) ([.bslc (BR.root 0) (.i64 v9), .int .i64 v10] ++ List.replicate (Try.f35.ntmps - ([.bslc (BR.root 0) (.i64 v9), .int .i64 v10] : List DV).length) .undef) []).bind (retD TT Try.f35.results.toList 0) = (laws_szInt64S_T v9 v10).bind fun y => .leaf (laws_szInt64S_enc v9 v10 y) := by kernel_rfl
theorem laws_szInt64S_fn (v9 : List Int) (v10 : Int) (F : Fr) (h0 : St F [] F.H0) (hA : DVs.Ok F [] [.bslc (BR.root 0) (.i64 v9), .int .i64 v10]) {y : Int} (hy : laws_szInt64S_g v9 v10 = some y) : ∃ F' H', Fwd 0 F F' [] (laws_szInt64S_enc v9 v10 y).2 ∧ FnOk Try.prog 35 (DVs.av F [.bslc (BR.root 0) (.i64 v9), .int .i64 v10]) F.H0 ((laws_szInt64S_enc v9 v10 y).1.av F') H' ∧ St F' (laws_szInt64S_enc v9 v10 y).2 H' ∧ (laws_szInt64S_enc v9 v10 y).1.Ok F' (laws_szInt64S_enc v9 v10 y).2 :=
  fn_fin tok laws_szInt64S_hO mixed Try.func35 Try.call35 (by kernel_rfl) (LoopsOk_eq (l := []) (by kernel_rfl) trivial) (laws_szInt64S_den v9 v10) hy h0 hA
def laws_szInt64S_v (v9 : List Int) (v10 : Int) : Int :=
  if (decide (IntKind.i64.wrap (v10 - ((v9.length : Nat) : Int)) < (0 : Int))) = true then (
  (-1 : Int)
  ) else (
  IntKind.i64.wrap (v10 - ((v9.length : Nat) : Int))
  )
theorem laws_szInt64S_tot (v9 : List Int) (v10 : Int) : laws_szInt64S_g v9 v10 = some (laws_szInt64S_v v9 v10) := by
  unfold laws_szInt64S_g laws_szInt64S_T laws_szInt64S_v
  simp only [Tree.run]
  repeat' (first | rfl | split)
noncomputable def laws_szInt64S_F : DFn := fun args L =>
  match args with
  | [a1, .int .i64 v10] =>
    optT (rowI64 L a1) fun v9 =>
    .leaf (.int .i64 (laws_szInt64S_v v9 v10), L)
  | _ => .fail
theorem laws_szInt64S_Fok : COk Try.prog 35 laws_szInt64S_F true := by
  intro F L H args r L' hs ha hr
  unfold laws_szInt64S_F at hr
  split at hr
  · rename_i a1 v10
    obtain ⟨v9, hv9, hr⟩ := optT_run hr
    have hy := laws_szInt64S_tot v9 v10
    generalize laws_szInt64S_v v9 v10 = y at hy hr
    simp only [Tree.run, Option.some.injEq, Prod.mk.injEq] at hr
    obtain ⟨rfl, rfl⟩ := hr
    exact call_ok0 hs (fun k => (([a1.av F] : List AV)[k]?).getD .top) [a1, .int .i64 v10] [.bslc (BR.root 0) (.i64 v9), .int .i64 v10] (fun F' h0 hi hρ => ⟨by simp [DVs.av, DV.av, BR.av, hρ], laws_szInt64S_fn v9 v10 F' (st_nil hi) ⟨bslc_ok hi (by rw [h0, hρ]; exact rowI64_ok hs (DVs.okAt ha 0 rfl) hv9), trivial, trivial⟩ hy⟩) rfl
  · cases hr
/-! laws.szWhole -/
noncomputable def laws_szWhole_LO (v5 v6 : Int) (v7 : List Int) (v8 : Int) : LOr := fun id e L =>
  match id with
  | _ => .fail
noncomputable def laws_szWhole_tab : List (FuncId × DFn × Bool) := [(35, laws_szInt64S_F, true)]
theorem laws_szWhole_hO : OrcOk Try.prog (tabD laws_szWhole_tab) (tabM laws_szWhole_tab) := tabD_cons laws_szInt64S_Fok (tabD_nil _)
noncomputable def laws_szWhole_T (v7 : List Int) (v8 : Int) : Tree (Int) :=
  (.br (decide ((laws_szInt64S_v v7 v8) < (0 : Int))) (
  .leaf (-1 : Int)
  ) (
  .leaf (laws_szInt64S_v v7 v8)
  ))

noncomputable def laws_szWhole_g (v7 : List Int) (v8 : Int) : Option (Int) := (laws_szWhole_T v7 v8).run
def laws_szWhole_enc (v5 v6 : Int) (v7 : List Int) (v8 y : Int) : Rs := (.int .i64 y, [])
theorem laws_szWhole_den (v5 v6 : Int) (v7 : List Int) (v8 : Int) : (den TT (tabD laws_szWhole_tab) (tabM laws_szWhole_tab) (laws_szWhole_LO v5 v6 v7 v8) (codeOf Try.f12) ([.agg [.int .i64 v5, .int .i64 v6, .bslc (BR.root 0) (.i64 v7)], .int .i64 v8] ++ List.replicate (Try.f12.ntmps - ([.agg [.int .i64 v5, .int .i64 v6, .bslc (BR.root 0) (.i64 v7)], .int .i64 v8] : List DV).length) .undef) []).bind (retD TT Try.f12.results.toList 0) = (laws_szWhole_T v7 v8).bind fun y => .leaf (laws_szWhole_enc v5 v6 v7 v8 y) := by kernel_rfl
theorem laws_szWhole_fn (v5 v6 : Int) (v7 : List Int) (v8 : Int) (F : Fr) (h0 : St F [] F.H0) (hA : DVs.Ok F [] [.agg [.int .i64 v5, .int .i64 v6, .bslc (BR.root 0) (.i64 v7)], .int .i64 v8]) {y : Int} (hy : laws_szWhole_g v7 v8 = some y) : ∃ F' H', Fwd 0 F F' [] (laws_szWhole_enc v5 v6 v7 v8 y).2 ∧ FnOk Try.prog 12 (DVs.av F [.agg [.int .i64 v5, .int .i64 v6, .bslc (BR.root 0) (.i64 v7)], .int .i64 v8]) F.H0 ((laws_szWhole_enc v5 v6 v7 v8 y).1.av F') H' ∧ St F' (laws_szWhole_enc v5 v6 v7 v8 y).2 H' ∧ (laws_szWhole_enc v5 v6 v7 v8 y).1.Ok F' (laws_szWhole_enc v5 v6 v7 v8 y).2 :=
  fn_fin tok laws_szWhole_hO mixed Try.func12 Try.call12 (by kernel_rfl) (LoopsOk_eq (l := []) (by kernel_rfl) trivial) (laws_szWhole_den v5 v6 v7 v8) hy h0 hA
def laws_szWhole_v (v7 : List Int) (v8 : Int) : Int :=
  if (decide ((laws_szInt64S_v v7 v8) < (0 : Int))) = true then (
  (-1 : Int)
  ) else (
  (laws_szInt64S_v v7 v8)
  )
theorem laws_szWhole_tot (v7 : List Int) (v8 : Int) : laws_szWhole_g v7 v8 = some (laws_szWhole_v v7 v8) := by
  unfold laws_szWhole_g laws_szWhole_T laws_szWhole_v
  simp only [Tree.run]
  repeat' (first | rfl | split)
noncomputable def laws_szWhole_F : DFn := fun args L =>
  match args with
  | [.agg [.int .i64 v5, .int .i64 v6, a1], .int .i64 v8] =>
    optT (rowI64 L a1) fun v7 =>
    .leaf (.int .i64 (laws_szWhole_v v7 v8), L)
  | _ => .fail
theorem laws_szWhole_Fok : COk Try.prog 12 laws_szWhole_F true := by
  intro F L H args r L' hs ha hr
  unfold laws_szWhole_F at hr
  split at hr
  · rename_i v5 v6 a1 v8
    obtain ⟨v7, hv7, hr⟩ := optT_run hr
    have hy := laws_szWhole_tot v7 v8
    generalize laws_szWhole_v v7 v8 = y at hy hr
    simp only [Tree.run, Option.some.injEq, Prod.mk.injEq] at hr
    obtain ⟨rfl, rfl⟩ := hr
    exact call_ok0 hs (fun k => (([a1.av F] : List AV)[k]?).getD .top) [.agg [.int .i64 v5, .int .i64 v6, a1], .int .i64 v8] [.agg [.int .i64 v5, .int .i64 v6, .bslc (BR.root 0) (.i64 v7)], .int .i64 v8] (fun F' h0 hi hρ => ⟨by simp [DVs.av, DV.av, BR.av, hρ], laws_szWhole_fn v5 v6 v7 v8 F' (st_nil hi) ⟨⟨trivial, trivial, bslc_ok hi (by rw [h0, hρ]; exact rowI64_ok hs (DVs.okAt (DVs.okAt ha 0 rfl) 2 rfl) hv7), trivial⟩, trivial, trivial⟩ hy⟩) rfl
  · cases hr
/-! laws.toInt64S -/
noncomputable def laws_toInt64S_l0_T (v14 : List Int) (s : Int × (List Int)) : Tree ((Int × (List Int)) ⊕ ((List Int))) :=
  (.br (decide (s.1 < ((v14.length : Nat) : Int))) (
  (.grd (inb s.1 v14.length) <|
  (.grd (inb s.1 ((s.2).length)) <|
  .leaf (.inl (IntKind.i64.wrap (s.1 + (1 : Int)), List.set s.2 (Int.toNat s.1) (nth v14 (Int.toNat s.1))))))
  ) (
  .leaf (.inr s.2)
  ))

noncomputable def laws_toInt64S_l0_g (v14 : List Int) (s0 : Int × (List Int)) : Option ((List Int)) := whileM (fun s => (laws_toInt64S_l0_T v14 s).run) s0
def laws_toInt64S_l0_E (v14 : List Int) (s : Int × (List Int)) : Sd := ([.bslc (BR.root 0) (.i64 v14),Z,Z,.own 0 0 ((s.2).length),.int .i64 s.1,Z,Z,Z,Z,Z,Z,Z,Z,Z,Z,Z,Z,Z,Z,Z,Z,Z], [.row (.i64 s.2) 0])
def laws_toInt64S_l0_X (v14 : List Int) (x : (List Int)) : Out := (.normal, [Z,Z,Z,.own 0 0 ((x).length),Z,Z,Z,Z,Z,Z,Z,Z,Z,Z,Z,Z,Z,Z,Z,Z,Z,Z], [.row (.i64 x) 0])
def laws_toInt64S_l0_kill : List Nat := KL true [0,1,2,2,17]
def laws_toInt64S_l0_nx : Exit → List Nat
  | .exit 0 => KL true [3,1,18]
  | .ret => KL true [2,1,19]
  | _ => []
noncomputable def laws_toInt64S_LO (v14 : List Int) : LOr := fun id e L =>
  match id with
  | 0 => .need (normA 0 laws_toInt64S_l0_kill e L = some (laws_toInt64S_l0_E v14 ((gI (vAt e 4)), (gRI L (vAt e 3))))) (.call (laws_toInt64S_l0_g v14 ((gI (vAt e 4)), (gRI L (vAt e 3)))) fun x => .leaf (laws_toInt64S_l0_X v14 x))
  | _ => .fail
noncomputable def laws_toInt64S_tab : List (FuncId × DFn × Bool) := []
theorem laws_toInt64S_hO : OrcOk Try.prog (tabD laws_toInt64S_tab) (tabM laws_toInt64S_tab) := tabD_nil _
theorem laws_toInt64S_l0_be (v14 : List Int) (s : Int × (List Int)) : bodyT TT (tabD laws_toInt64S_tab) (tabM laws_toInt64S_tab) (laws_toInt64S_LO v14) 0 laws_toInt64S_l0_kill laws_toInt64S_l0_nx (bodyOf Try.f45 0) 0 (laws_toInt64S_l0_E v14 s) = (laws_toInt64S_l0_T v14 s).bind fun y => .leaf (outS (laws_toInt64S_l0_E v14) (laws_toInt64S_l0_X v14) y) := by kernel_rfl
theorem laws_toInt64S_l0_ok (v14 : List Int) : LSound Try.prog 0 (laws_toInt64S_LO v14) 0 (bodyOf Try.f45 0) := by
  intro e L out h
  exact lo_ok (E := laws_toInt64S_l0_E v14) (gT := laws_toInt64S_l0_T v14) (X := laws_toInt64S_l0_X v14) (s0 := ((gI (vAt e 4)), (gRI L (vAt e 3)))) tok laws_toInt64S_hO mixed (LoopsOk_eq (l := []) (by kernel_rfl) trivial) (laws_toInt64S_l0_be v14) rfl (by intro x; rfl) h
noncomputable def laws_toInt64S_T (v14 : List Int) : Tree ((List Int)) :=
  (.need (((v14.length : Nat) : Int) = ((v14.length : Nat) : Int)) <|
  (.grd (inb ((v14.length : Nat) : Int) (maxN + 1)) <|
  (.need (some (laws_toInt64S_l0_E v14 ((0 : Int), List.replicate (Int.toNat ((v14.length : Nat) : Int)) (0 : Int))) = some (laws_toInt64S_l0_E v14 ((0 : Int), List.replicate (Int.toNat ((v14.length : Nat) : Int)) (0 : Int)))) <|
  (.call (laws_toInt64S_l0_g v14 ((0 : Int), List.replicate (Int.toNat ((v14.length : Nat) : Int)) (0 : Int))) fun v20 =>
  .leaf v20))))

noncomputable def laws_toInt64S_g (v14 : List Int) : Option ((List Int)) := (laws_toInt64S_T v14).run
def laws_toInt64S_enc (v14 : List Int) (y : (List Int)) : Rs := (.own 0 0 ((y).length), [.row (.i64 y) 0])
theorem laws_toInt64S_den (v14 : List Int) : (den TT (tabD laws_toInt64S_tab) (tabM laws_toInt64S_tab) (laws_toInt64S_LO v14) (codeOf Try.f45) ([.bslc (BR.root 0) (.i64 v14)] ++ List.replicate (Try.f45.ntmps - ([.bslc (BR.root 0) (.i64 v14)] : List DV).length) .undef) []).bind (retD TT Try.f45.results.toList 0) = (laws_toInt64S_T v14).bind fun y => .leaf (laws_toInt64S_enc v14 y) := by kernel_rfl
theorem laws_toInt64S_fn (v14 : List Int) (F : Fr) (h0 : St F [] F.H0) (hA : DVs.Ok F [] [.bslc (BR.root 0) (.i64 v14)]) {y : (List Int)} (hy : laws_toInt64S_g v14 = some y) : ∃ F' H', Fwd 0 F F' [] (laws_toInt64S_enc v14 y).2 ∧ FnOk Try.prog 45 (DVs.av F [.bslc (BR.root 0) (.i64 v14)]) F.H0 ((laws_toInt64S_enc v14 y).1.av F') H' ∧ St F' (laws_toInt64S_enc v14 y).2 H' ∧ (laws_toInt64S_enc v14 y).1.Ok F' (laws_toInt64S_enc v14 y).2 :=
  fn_fin tok laws_toInt64S_hO mixed Try.func45 Try.call45 (by kernel_rfl) (LoopsOk_eq (l := [(0, bodyOf Try.f45 0)]) (by kernel_rfl) ⟨laws_toInt64S_l0_ok v14, trivial⟩) (laws_toInt64S_den v14) hy h0 hA
noncomputable def laws_toInt64S_F : DFn := fun args L =>
  match args with
  | [a1] =>
    optT (rowI64 L a1) fun v14 =>
    .call (laws_toInt64S_g v14) fun y => .leaf (.own (L.length + 0) 0 ((y).length), L ++ [.row (.i64 y) 0])
  | _ => .fail
theorem laws_toInt64S_Fok : COk Try.prog 45 laws_toInt64S_F true := by
  intro F L H args r L' hs ha hr
  unfold laws_toInt64S_F at hr
  split at hr
  · rename_i a1
    obtain ⟨v14, hv14, hr⟩ := optT_run hr
    simp only [Tree.run] at hr
    obtain ⟨y, hy, hr⟩ := Option.bind_eq_some_iff.1 hr
    simp only [Tree.run, Option.some.injEq, Prod.mk.injEq] at hr
    obtain ⟨rfl, rfl⟩ := hr
    exact call_ok1 hs (fun k => (([a1.av F] : List AV)[k]?).getD .top) [a1] [.bslc (BR.root 0) (.i64 v14)] (fun F' h0 hi hρ => ⟨by simp [DVs.av, DV.av, BR.av, hρ], laws_toInt64S_fn v14 F' (st_nil hi) ⟨bslc_ok hi (by rw [h0, hρ]; exact rowI64_ok hs (DVs.okAt ha 0 rfl) hv14), trivial⟩ hy⟩) rfl rfl
  · cases hr
/-! laws.toWhole -/
noncomputable def laws_toWhole_LO (v11 v12 : Int) (v13 : List Int) : LOr := fun id e L =>
  match id with
  | _ => .fail
noncomputable def laws_toWhole_tab : List (FuncId × DFn × Bool) := [(45, laws_toInt64S_F, true)]
theorem laws_toWhole_hO : OrcOk Try.prog (tabD laws_toWhole_tab) (tabM laws_toWhole_tab) := tabD_cons laws_toInt64S_Fok (tabD_nil _)
noncomputable def laws_toWhole_T (v11 v12 : Int) (v13 : List Int) : Tree (Int × Int × (List Int)) :=
  (.call (laws_toInt64S_g v13) fun v21 =>
  .leaf (v11, v12, v21))

noncomputable def laws_toWhole_g (v11 v12 : Int) (v13 : List Int) : Option (Int × Int × (List Int)) := (laws_toWhole_T v11 v12 v13).run
def laws_toWhole_enc (v11 v12 : Int) (v13 : List Int) (y : Int × Int × (List Int)) : Rs := (.agg [.int .i64 y.1, .int .i64 y.2.1, .own 0 0 ((y.2.2).length)], [.row (.i64 y.2.2) 0])
theorem laws_toWhole_den (v11 v12 : Int) (v13 : List Int) : (den TT (tabD laws_toWhole_tab) (tabM laws_toWhole_tab) (laws_toWhole_LO v11 v12 v13) (codeOf Try.f14) ([.agg [.int .i64 v11, .int .i64 v12, .bslc (BR.root 0) (.i64 v13)]] ++ List.replicate (Try.f14.ntmps - ([.agg [.int .i64 v11, .int .i64 v12, .bslc (BR.root 0) (.i64 v13)]] : List DV).length) .undef) []).bind (retD TT Try.f14.results.toList 0) = (laws_toWhole_T v11 v12 v13).bind fun y => .leaf (laws_toWhole_enc v11 v12 v13 y) := by kernel_rfl
theorem laws_toWhole_fn (v11 v12 : Int) (v13 : List Int) (F : Fr) (h0 : St F [] F.H0) (hA : DVs.Ok F [] [.agg [.int .i64 v11, .int .i64 v12, .bslc (BR.root 0) (.i64 v13)]]) {y : Int × Int × (List Int)} (hy : laws_toWhole_g v11 v12 v13 = some y) : ∃ F' H', Fwd 0 F F' [] (laws_toWhole_enc v11 v12 v13 y).2 ∧ FnOk Try.prog 14 (DVs.av F [.agg [.int .i64 v11, .int .i64 v12, .bslc (BR.root 0) (.i64 v13)]]) F.H0 ((laws_toWhole_enc v11 v12 v13 y).1.av F') H' ∧ St F' (laws_toWhole_enc v11 v12 v13 y).2 H' ∧ (laws_toWhole_enc v11 v12 v13 y).1.Ok F' (laws_toWhole_enc v11 v12 v13 y).2 :=
  fn_fin tok laws_toWhole_hO mixed Try.func14 Try.call14 (by kernel_rfl) (LoopsOk_eq (l := []) (by kernel_rfl) trivial) (laws_toWhole_den v11 v12 v13) hy h0 hA
noncomputable def laws_toWhole_F : DFn := fun args L =>
  match args with
  | [.agg [.int .i64 v11, .int .i64 v12, a1]] =>
    optT (rowI64 L a1) fun v13 =>
    .call (laws_toWhole_g v11 v12 v13) fun y => .leaf (.agg [.int .i64 y.1, .int .i64 y.2.1, .own (L.length + 0) 0 ((y.2.2).length)], L ++ [.row (.i64 y.2.2) 0])
  | _ => .fail
theorem laws_toWhole_Fok : COk Try.prog 14 laws_toWhole_F true := by
  intro F L H args r L' hs ha hr
  unfold laws_toWhole_F at hr
  split at hr
  · rename_i v11 v12 a1
    obtain ⟨v13, hv13, hr⟩ := optT_run hr
    simp only [Tree.run] at hr
    obtain ⟨y, hy, hr⟩ := Option.bind_eq_some_iff.1 hr
    simp only [Tree.run, Option.some.injEq, Prod.mk.injEq] at hr
    obtain ⟨rfl, rfl⟩ := hr
    exact call_ok1 hs (fun k => (([a1.av F] : List AV)[k]?).getD .top) [.agg [.int .i64 v11, .int .i64 v12, a1]] [.agg [.int .i64 v11, .int .i64 v12, .bslc (BR.root 0) (.i64 v13)]] (fun F' h0 hi hρ => ⟨by simp [DVs.av, DV.av, BR.av, hρ], laws_toWhole_fn v11 v12 v13 F' (st_nil hi) ⟨⟨trivial, trivial, bslc_ok hi (by rw [h0, hρ]; exact rowI64_ok hs (DVs.okAt (DVs.okAt ha 0 rfl) 2 rfl) hv13), trivial⟩, trivial⟩ hy⟩) rfl rfl
  · cases hr
/-! spec.l00In -/
noncomputable def spec_l00In_LO (v34 v35 v36 : Int) : LOr := fun id e L =>
  match id with
  | _ => .fail
noncomputable def spec_l00In_tab : List (FuncId × DFn × Bool) := []
theorem spec_l00In_hO : OrcOk Try.prog (tabD spec_l00In_tab) (tabM spec_l00In_tab) := tabD_nil _
noncomputable def spec_l00In_T (v34 v35 v36 : Int) : Tree (Bool) :=
  (.br (decide (v35 ≤ v34)) (
  .leaf (decide (v34 ≤ v36))
  ) (
  .leaf false
  ))

noncomputable def spec_l00In_g (v34 v35 v36 : Int) : Option (Bool) := (spec_l00In_T v34 v35 v36).run
def spec_l00In_enc (v34 v35 v36 : Int) (y : Bool) : Rs := (.bool y, [])
theorem spec_l00In_den (v34 v35 v36 : Int) : (den TT (tabD spec_l00In_tab) (tabM spec_l00In_tab) (spec_l00In_LO v34 v35 v36) (codeOf Try.f37) ([.int .i64 v34, .int .i64 v35, .int .i64 v36] ++ List.replicate (Try.f37.ntmps - ([.int .i64 v34, .int .i64 v35, .int .i64 v36] : List DV).length) .undef) []).bind (retD TT Try.f37.results.toList 0) = (spec_l00In_T v34 v35 v36).bind fun y => .leaf (spec_l00In_enc v34 v35 v36 y) := by kernel_rfl
theorem spec_l00In_fn (v34 v35 v36 : Int) (F : Fr) (h0 : St F [] F.H0) (hA : DVs.Ok F [] [.int .i64 v34, .int .i64 v35, .int .i64 v36]) {y : Bool} (hy : spec_l00In_g v34 v35 v36 = some y) : ∃ F' H', Fwd 0 F F' [] (spec_l00In_enc v34 v35 v36 y).2 ∧ FnOk Try.prog 37 (DVs.av F [.int .i64 v34, .int .i64 v35, .int .i64 v36]) F.H0 ((spec_l00In_enc v34 v35 v36 y).1.av F') H' ∧ St F' (spec_l00In_enc v34 v35 v36 y).2 H' ∧ (spec_l00In_enc v34 v35 v36 y).1.Ok F' (spec_l00In_enc v34 v35 v36 y).2 :=
  fn_fin tok spec_l00In_hO mixed Try.func37 Try.call37 (by kernel_rfl) (LoopsOk_eq (l := []) (by kernel_rfl) trivial) (spec_l00In_den v34 v35 v36) hy h0 hA
def spec_l00In_v (v34 v35 v36 : Int) : Bool :=
  if (decide (v35 ≤ v34)) = true then (
  decide (v34 ≤ v36)
  ) else (
  false
  )
theorem spec_l00In_tot (v34 v35 v36 : Int) : spec_l00In_g v34 v35 v36 = some (spec_l00In_v v34 v35 v36) := by
  unfold spec_l00In_g spec_l00In_T spec_l00In_v
  simp only [Tree.run]
  repeat' (first | rfl | split)
noncomputable def spec_l00In_F : DFn := fun args L =>
  match args with
  | [.int .i64 v34, .int .i64 v35, .int .i64 v36] =>
    .leaf (.bool (spec_l00In_v v34 v35 v36), L)
  | _ => .fail
theorem spec_l00In_Fok : COk Try.prog 37 spec_l00In_F true := by
  intro F L H args r L' hs ha hr
  unfold spec_l00In_F at hr
  split at hr
  · rename_i v34 v35 v36
    have hy := spec_l00In_tot v34 v35 v36
    generalize spec_l00In_v v34 v35 v36 = y at hy hr
    simp only [Tree.run, Option.some.injEq, Prod.mk.injEq] at hr
    obtain ⟨rfl, rfl⟩ := hr
    exact call_ok0 hs (fun k => (([] : List AV)[k]?).getD .top) [.int .i64 v34, .int .i64 v35, .int .i64 v36] [.int .i64 v34, .int .i64 v35, .int .i64 v36] (fun F' h0 hi hρ => ⟨by simp [DVs.av, DV.av, BR.av, hρ], spec_l00In_fn v34 v35 v36 F' (st_nil hi) ⟨trivial, trivial, trivial, trivial⟩ hy⟩) rfl
  · cases hr
/-! spec.l06Bound -/
noncomputable def spec_l06Bound_l0_T (v37 : List Int) (v38 s : Int) : Tree ((Int) ⊕ ((Unit) ⊕ (Unit))) :=
  (.br (decide (s < ((v37.length : Nat) : Int))) (
  (.grd (inb s v37.length) <|
  (.br (!(spec_l00In_v (nth v37 (Int.toNat s)) (IntKind.i64.wrap (0 - v38)) v38)) (
  .leaf (.inr (.inl ()))
  ) (
  .leaf (.inl (IntKind.i64.wrap (s + (1 : Int))))
  )))
  ) (
  .leaf (.inr (.inr ()))
  ))

noncomputable def spec_l06Bound_l0_g (v37 : List Int) (v38 s0 : Int) : Option ((Unit) ⊕ (Unit)) := whileM (fun s => (spec_l06Bound_l0_T v37 v38 s).run) s0
def spec_l06Bound_l0_E (v37 : List Int) (v38 s : Int) : Sd := ([.bslc (BR.root 0) (.i64 v37),.int .i64 v38,Z,Z,Z,.int .i64 s,Z,Z,Z,Z,Z,Z,Z,Z,Z,Z,Z,Z,Z,Z,Z], [])
def spec_l06Bound_l0_X (v37 : List Int) (v38 : Int) (x : (Unit) ⊕ (Unit)) : Out := (match x with | .inl x => (.ret, [Z,Z,Z,Z,.lit false,Z,Z,Z,Z,Z,Z,Z,Z,Z,Z,Z,Z,Z,Z,Z,Z], []) | .inr x => (.normal, [Z,Z,Z,Z,Z,Z,Z,Z,Z,Z,Z,Z,Z,Z,Z,Z,Z,Z,Z,Z,Z], []))
def spec_l06Bound_l0_kill : List Nat := KL true [0,2,3,1,15]
def spec_l06Bound_l0_nx : Exit → List Nat
  | .exit 0 => KL true [21]
  | .ret => KL true [4,1,16]
  | _ => []
noncomputable def spec_l06Bound_LO (v37 : List Int) (v38 : Int) : LOr := fun id e L =>
  match id with
  | 0 => .need (normA 0 spec_l06Bound_l0_kill e L = some (spec_l06Bound_l0_E v37 v38 (gI (vAt e 5)))) (.call (spec_l06Bound_l0_g v37 v38 (gI (vAt e 5))) fun x => .sum x (fun b0 => .leaf (spec_l06Bound_l0_X v37 v38 (.inl b0))) (fun c0 => .leaf (spec_l06Bound_l0_X v37 v38 (.inr c0))))
  | _ => .fail
noncomputable def spec_l06Bound_tab : List (FuncId × DFn × Bool) := [(37, spec_l00In_F, true)]
theorem spec_l06Bound_hO : OrcOk Try.prog (tabD spec_l06Bound_tab) (tabM spec_l06Bound_tab) := tabD_cons spec_l00In_Fok (tabD_nil _)
theorem spec_l06Bound_l0_be (v37 : List Int) (v38 s : Int) : bodyT TT (tabD spec_l06Bound_tab) (tabM spec_l06Bound_tab) (spec_l06Bound_LO v37 v38) 0 spec_l06Bound_l0_kill spec_l06Bound_l0_nx (bodyOf Try.f67 0) 0 (spec_l06Bound_l0_E v37 v38 s) = (spec_l06Bound_l0_T v37 v38 s).bind fun y => .leaf (outS (spec_l06Bound_l0_E v37 v38) (spec_l06Bound_l0_X v37 v38) y) := by kernel_rfl
theorem spec_l06Bound_l0_ok (v37 : List Int) (v38 : Int) : LSound Try.prog 0 (spec_l06Bound_LO v37 v38) 0 (bodyOf Try.f67 0) := by
  intro e L out h
  exact lo_ok (E := spec_l06Bound_l0_E v37 v38) (gT := spec_l06Bound_l0_T v37 v38) (X := spec_l06Bound_l0_X v37 v38) (s0 := (gI (vAt e 5))) tok spec_l06Bound_hO mixed (LoopsOk_eq (l := []) (by kernel_rfl) trivial) (spec_l06Bound_l0_be v37 v38) rfl (by intro x; (cases x with | inl b => rfl | inr x => exact rfl)) h
noncomputable def spec_l06Bound_T (v37 : List Int) (v38 : Int) : Tree (Bool) :=
  (.need (some (spec_l06Bound_l0_E v37 v38 (0 : Int)) = some (spec_l06Bound_l0_E v37 v38 (0 : Int))) <|
  (.call (spec_l06Bound_l0_g v37 v38 (0 : Int)) fun v42 =>
  (.sum v42 (fun v43 =>
  .leaf false
  ) (fun v44 =>
  .leaf true
  ))))

noncomputable def spec_l06Bound_g (v37 : List Int) (v38 : Int) : Option (Bool) := (spec_l06Bound_T v37 v38).run
def spec_l06Bound_enc (v37 : List Int) (v38 : Int) (y : Bool) : Rs := (.bool y, [])
theorem spec_l06Bound_den (v37 : List Int) (v38 : Int) : (den TT (tabD spec_l06Bound_tab) (tabM spec_l06Bound_tab) (spec_l06Bound_LO v37 v38) (codeOf Try.f67) ([.bslc (BR.root 0) (.i64 v37), .int .i64 v38] ++ List.replicate (Try.f67.ntmps - ([.bslc (BR.root 0) (.i64 v37), .int .i64 v38] : List DV).length) .undef) []).bind (retD TT Try.f67.results.toList 0) = (spec_l06Bound_T v37 v38).bind fun y => .leaf (spec_l06Bound_enc v37 v38 y) := by kernel_rfl
theorem spec_l06Bound_fn (v37 : List Int) (v38 : Int) (F : Fr) (h0 : St F [] F.H0) (hA : DVs.Ok F [] [.bslc (BR.root 0) (.i64 v37), .int .i64 v38]) {y : Bool} (hy : spec_l06Bound_g v37 v38 = some y) : ∃ F' H', Fwd 0 F F' [] (spec_l06Bound_enc v37 v38 y).2 ∧ FnOk Try.prog 67 (DVs.av F [.bslc (BR.root 0) (.i64 v37), .int .i64 v38]) F.H0 ((spec_l06Bound_enc v37 v38 y).1.av F') H' ∧ St F' (spec_l06Bound_enc v37 v38 y).2 H' ∧ (spec_l06Bound_enc v37 v38 y).1.Ok F' (spec_l06Bound_enc v37 v38 y).2 :=
  fn_fin tok spec_l06Bound_hO mixed Try.func67 Try.call67 (by kernel_rfl) (LoopsOk_eq (l := [(0, bodyOf Try.f67 0)]) (by kernel_rfl) ⟨spec_l06Bound_l0_ok v37 v38, trivial⟩) (spec_l06Bound_den v37 v38) hy h0 hA
noncomputable def spec_l06Bound_F : DFn := fun args L =>
  match args with
  | [a1, .int .i64 v38] =>
    optT (rowI64 L a1) fun v37 =>
    .call (spec_l06Bound_g v37 v38) fun y => .leaf (.bool y, L)
  | _ => .fail
theorem spec_l06Bound_Fok : COk Try.prog 67 spec_l06Bound_F true := by
  intro F L H args r L' hs ha hr
  unfold spec_l06Bound_F at hr
  split at hr
  · rename_i a1 v38
    obtain ⟨v37, hv37, hr⟩ := optT_run hr
    simp only [Tree.run] at hr
    obtain ⟨y, hy, hr⟩ := Option.bind_eq_some_iff.1 hr
    simp only [Tree.run, Option.some.injEq, Prod.mk.injEq] at hr
    obtain ⟨rfl, rfl⟩ := hr
    exact call_ok0 hs (fun k => (([a1.av F] : List AV)[k]?).getD .top) [a1, .int .i64 v38] [.bslc (BR.root 0) (.i64 v37), .int .i64 v38] (fun F' h0 hi hρ => ⟨by simp [DVs.av, DV.av, BR.av, hρ], spec_l06Bound_fn v37 v38 F' (st_nil hi) ⟨bslc_ok hi (by rw [h0, hρ]; exact rowI64_ok hs (DVs.okAt ha 0 rfl) hv37), trivial, trivial⟩ hy⟩) rfl
  · cases hr
end Go.Proofs.Ytmgpbchacndndaa.AM
