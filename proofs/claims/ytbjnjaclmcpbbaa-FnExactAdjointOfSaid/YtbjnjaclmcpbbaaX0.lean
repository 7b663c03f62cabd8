/- Functions: what they come to. -/
import Derived.Test.YtbjnjaclmcpbbaaBase
set_option maxRecDepth 100000
set_option maxHeartbeats 4000000
set_option linter.unusedSimpArgs false
set_option linter.unusedVariables false
namespace Go.Proofs.Ytbjnjaclmcpbbaa.AM
open Go.Proofs
/-! laws.szInt64S -/
noncomputable def laws_szInt64S_LO (v8 : List Int) (v9 : Int) : LOr := fun id e L =>
  match id with
  | _ => .fail
noncomputable def laws_szInt64S_tab : List (FuncId × DFn × Bool) := []
theorem laws_szInt64S_hO : OrcOk Try.prog (tabD laws_szInt64S_tab) (tabM laws_szInt64S_tab) := tabD_nil _
noncomputable def laws_szInt64S_T (v8 : List Int) (v9 : Int) : Tree (Int) :=
  (.br (decide (IntKind.i64.wrap (v9 - ((v8.length : Nat) : Int)) < (0 : Int))) (
   .leaf (-1 : Int)
  ) (
   .leaf (IntKind.i64.wrap (v9 - ((v8.length : Nat) : Int)))
  ))

noncomputable def laws_szInt64S_g (v8 : List Int) (v9 : Int) : Option (Int) := (laws_szInt64S_T v8 v9).run
def laws_szInt64S_enc (v8 : List Int) (v9 : Int) (y : Int) : Rs := (.int .i64 y, [])
theorem laws_szInt64S_den (v8 : List Int) (v9 : Int) : (den TT (tabD laws_szInt64S_tab) (tabM laws_szInt64S_tab) (laws_szInt64S_LO v8 v9) (codeOf Try.f61) ([.bslc (BR.root 0) (.i64 v8), .int .i64 v9] ++ List.replicate (Try.f61.ntmps - ([.bslc (BR.root 0) (.i64 v8), .int .i64 v9] : List DV).length) .undef) []).bind (retD TT Try.f61.results.toList 0) = (laws_szInt64S_T v8 v9).bind fun y => .leaf (laws_szInt64S_enc v8 v9 y) := by kernel_rfl
theorem laws_szInt64S_fn (v8 : List Int) (v9 : Int) (F : Fr) (hm : F.ids.length = 0) (h0 : St F [] F.H0) (hA : DVs.Ok F [] [.bslc (BR.root 0) (.i64 v8), .int .i64 v9]) {y : Int} (hy : laws_szInt64S_g v8 v9 = some y) : ∃ H', FnOk Try.prog 61 (DVs.av F [.bslc (BR.root 0) (.i64 v8), .int .i64 v9]) F.H0 ((laws_szInt64S_enc v8 v9 y).1.av F) H' ∧ St F (laws_szInt64S_enc v8 v9 y).2 H' ∧ (laws_szInt64S_enc v8 v9 y).1.Ok F (laws_szInt64S_enc v8 v9 y).2 :=
  fn_fin tok laws_szInt64S_hO mixed Try.func61 Try.call61 (by kernel_rfl) (LoopsOk_eq (l := []) (by kernel_rfl) trivial) (laws_szInt64S_den v8 v9) hy hm h0 hA
def laws_szInt64S_v (v8 : List Int) (v9 : Int) : Int :=
  if (decide (IntKind.i64.wrap (v9 - ((v8.length : Nat) : Int)) < (0 : Int))) = true then (
   (-1 : Int)
  ) else (
   IntKind.i64.wrap (v9 - ((v8.length : Nat) : Int))
  )
theorem laws_szInt64S_tot (v8 : List Int) (v9 : Int) : laws_szInt64S_g v8 v9 = some (laws_szInt64S_v v8 v9) := by
  unfold laws_szInt64S_g laws_szInt64S_T laws_szInt64S_v
  simp only [Tree.run]
  repeat' (first | rfl | split)
noncomputable def laws_szInt64S_F : DFn := fun args L =>
  match args with
  | [a1, .int .i64 v9] =>
    optT (rowI64 L a1) fun v8 =>
    .leaf (.int .i64 (laws_szInt64S_v v8 v9), L)
  | _ => .fail
theorem laws_szInt64S_Fok : COk Try.prog 61 laws_szInt64S_F true := by
  intro F L H args r L' hs ha hr
  unfold laws_szInt64S_F at hr
  split at hr
  · rename_i a1 v9
    obtain ⟨v8, hv8, hr⟩ := optT_run hr
    have hy := laws_szInt64S_tot v8 v9
    generalize laws_szInt64S_v v8 v9 = y at hy hr
    simp only [Tree.run, Option.some.injEq, Prod.mk.injEq] at hr
    obtain ⟨rfl, rfl⟩ := hr
    exact call_ok0 hs (fun k => (([a1.av F] : List AV)[k]?).getD .top) [a1, .int .i64 v9] [.bslc (BR.root 0) (.i64 v8), .int .i64 v9] (fun F' h0 hi hρ => ⟨by simp [DVs.av, DV.av, BR.av, hρ], laws_szInt64S_fn v8 v9 F' (by rw [hi]; rfl) (st_nil hi) ⟨bslc_ok hi (by rw [h0, hρ]; exact rowI64_ok hs (DVs.okAt ha 0 rfl) hv8), trivial, trivial⟩ hy⟩) rfl
  · cases hr
/-! laws.szWhole -/
noncomputable def laws_szWhole_LO (v4 : Int) (v5 : Int) (v6 : List Int) (v7 : Int) : LOr := fun id e L =>
  match id with
  | _ => .fail
noncomputable def laws_szWhole_tab : List (FuncId × DFn × Bool) := [(61, laws_szInt64S_F, true)]
theorem laws_szWhole_hO : OrcOk Try.prog (tabD laws_szWhole_tab) (tabM laws_szWhole_tab) := tabD_cons laws_szInt64S_Fok (tabD_nil _)
noncomputable def laws_szWhole_T (v6 : List Int) (v7 : Int) : Tree (Int) :=
  (.br (decide ((laws_szInt64S_v v6 v7) < (0 : Int))) (
   .leaf (-1 : Int)
  ) (
   .leaf (laws_szInt64S_v v6 v7)
  ))

noncomputable def laws_szWhole_g (v6 : List Int) (v7 : Int) : Option (Int) := (laws_szWhole_T v6 v7).run
def laws_szWhole_enc (v4 : Int) (v5 : Int) (v6 : List Int) (v7 : Int) (y : Int) : Rs := (.int .i64 y, [])
theorem laws_szWhole_den (v4 : Int) (v5 : Int) (v6 : List Int) (v7 : Int) : (den TT (tabD laws_szWhole_tab) (tabM laws_szWhole_tab) (laws_szWhole_LO v4 v5 v6 v7) (codeOf Try.f15) ([.agg [.int .i64 v4, .int .i64 v5, .bslc (BR.root 0) (.i64 v6)], .int .i64 v7] ++ List.replicate (Try.f15.ntmps - ([.agg [.int .i64 v4, .int .i64 v5, .bslc (BR.root 0) (.i64 v6)], .int .i64 v7] : List DV).length) .undef) []).bind (retD TT Try.f15.results.toList 0) = (laws_szWhole_T v6 v7).bind fun y => .leaf (laws_szWhole_enc v4 v5 v6 v7 y) := by kernel_rfl
theorem laws_szWhole_fn (v4 : Int) (v5 : Int) (v6 : List Int) (v7 : Int) (F : Fr) (hm : F.ids.length = 0) (h0 : St F [] F.H0) (hA : DVs.Ok F [] [.agg [.int .i64 v4, .int .i64 v5, .bslc (BR.root 0) (.i64 v6)], .int .i64 v7]) {y : Int} (hy : laws_szWhole_g v6 v7 = some y) : ∃ H', FnOk Try.prog 15 (DVs.av F [.agg [.int .i64 v4, .int .i64 v5, .bslc (BR.root 0) (.i64 v6)], .int .i64 v7]) F.H0 ((laws_szWhole_enc v4 v5 v6 v7 y).1.av F) H' ∧ St F (laws_szWhole_enc v4 v5 v6 v7 y).2 H' ∧ (laws_szWhole_enc v4 v5 v6 v7 y).1.Ok F (laws_szWhole_enc v4 v5 v6 v7 y).2 :=
  fn_fin tok laws_szWhole_hO mixed Try.func15 Try.call15 (by kernel_rfl) (LoopsOk_eq (l := []) (by kernel_rfl) trivial) (laws_szWhole_den v4 v5 v6 v7) hy hm h0 hA
def laws_szWhole_v (v6 : List Int) (v7 : Int) : Int :=
  if (decide ((laws_szInt64S_v v6 v7) < (0 : Int))) = true then (
   (-1 : Int)
  ) else (
   (laws_szInt64S_v v6 v7)
  )
theorem laws_szWhole_tot (v6 : List Int) (v7 : Int) : laws_szWhole_g v6 v7 = some (laws_szWhole_v v6 v7) := by
  unfold laws_szWhole_g laws_szWhole_T laws_szWhole_v
  simp only [Tree.run]
  repeat' (first | rfl | split)
noncomputable def laws_szWhole_F : DFn := fun args L =>
  match args with
  | [.agg [.int .i64 v4, .int .i64 v5, a1], .int .i64 v7] =>
    optT (rowI64 L a1) fun v6 =>
    .leaf (.int .i64 (laws_szWhole_v v6 v7), L)
  | _ => .fail
theorem laws_szWhole_Fok : COk Try.prog 15 laws_szWhole_F true := by
  intro F L H args r L' hs ha hr
  unfold laws_szWhole_F at hr
  split at hr
  · rename_i v4 v5 a1 v7
    obtain ⟨v6, hv6, hr⟩ := optT_run hr
    have hy := laws_szWhole_tot v6 v7
    generalize laws_szWhole_v v6 v7 = y at hy hr
    simp only [Tree.run, Option.some.injEq, Prod.mk.injEq] at hr
    obtain ⟨rfl, rfl⟩ := hr
    exact call_ok0 hs (fun k => (([a1.av F] : List AV)[k]?).getD .top) [.agg [.int .i64 v4, .int .i64 v5, a1], .int .i64 v7] [.agg [.int .i64 v4, .int .i64 v5, .bslc (BR.root 0) (.i64 v6)], .int .i64 v7] (fun F' h0 hi hρ => ⟨by simp [DVs.av, DV.av, BR.av, hρ], laws_szWhole_fn v4 v5 v6 v7 F' (by rw [hi]; rfl) (st_nil hi) ⟨⟨trivial, trivial, bslc_ok hi (by rw [h0, hρ]; exact rowI64_ok hs (DVs.okAt (DVs.okAt ha 0 rfl) 2 rfl) hv6), trivial⟩, trivial, trivial⟩ hy⟩) rfl
  · cases hr
/-! laws.toInt64S -/
noncomputable def laws_toInt64S_l0_T (v13 : List Int) (s : Int × (List Int)) : Tree ((Int × (List Int)) ⊕ ((List Int))) :=
  (.br (decide (s.1 < ((v13.length : Nat) : Int))) (
   (.grd (inb s.1 v13.length) <|
   (.grd (inb s.1 ((s.2).length)) <|
   .leaf (.inl (IntKind.i64.wrap (s.1 + (1 : Int)), List.set s.2 (Int.toNat s.1) (nth v13 (Int.toNat s.1))))))
  ) (
   .leaf (.inr s.2)
  ))

noncomputable def laws_toInt64S_l0_g (v13 : List Int) (s0 : Int × (List Int)) : Option ((List Int)) := whileM (fun s => (laws_toInt64S_l0_T v13 s).run) s0
def laws_toInt64S_l0_E (v13 : List Int) (s : Int × (List Int)) : Sd := ([.bslc (BR.root 0) (.i64 v13), .top, .top, .own 0 0 ((s.2).length), .int .i64 s.1, .top, .top, .top, .top, .top, .top, .top, .top, .top, .top, .top, .top, .top, .top, .top, .top, .top], [.row (.i64 s.2) 0])
def laws_toInt64S_l0_X (v13 : List Int) (x : (List Int)) : Out := (.normal, [.top, .top, .top, .own 0 0 ((x).length), .top, .top, .top, .top, .top, .top, .top, .top, .top, .top, .top, .top, .top, .top, .top, .top, .top, .top], [.row (.i64 x) 0])
def laws_toInt64S_l0_kill : List Nat := [0, 1, 1, 0, 0, 1, 1, 1, 1, 1, 1, 1, 1, 1, 1, 1, 1, 1, 1, 1, 1, 1]
def laws_toInt64S_l0_nx : Exit → List Nat
  | .exit 0 => [1, 1, 1, 0, 1, 1, 1, 1, 1, 1, 1, 1, 1, 1, 1, 1, 1, 1, 1, 1, 1, 1]
  | .ret => [1, 1, 0, 1, 1, 1, 1, 1, 1, 1, 1, 1, 1, 1, 1, 1, 1, 1, 1, 1, 1, 1]
  | _ => []
noncomputable def laws_toInt64S_LO (v13 : List Int) : LOr := fun id e L =>
  match id with
  | 0 => .need (normA 0 laws_toInt64S_l0_kill e L = some (laws_toInt64S_l0_E v13 ((gI (vAt e 4)), (gRI L (vAt e 3))))) (.call (laws_toInt64S_l0_g v13 ((gI (vAt e 4)), (gRI L (vAt e 3)))) fun x => .leaf (laws_toInt64S_l0_X v13 x))
  | _ => .fail
noncomputable def laws_toInt64S_tab : List (FuncId × DFn × Bool) := []
theorem laws_toInt64S_hO : OrcOk Try.prog (tabD laws_toInt64S_tab) (tabM laws_toInt64S_tab) := tabD_nil _
theorem laws_toInt64S_l0_be (v13 : List Int) (s : Int × (List Int)) : bodyT TT (tabD laws_toInt64S_tab) (tabM laws_toInt64S_tab) (laws_toInt64S_LO v13) 0 laws_toInt64S_l0_kill laws_toInt64S_l0_nx (bodyOf Try.f23 0) 0 (laws_toInt64S_l0_E v13 s) = (laws_toInt64S_l0_T v13 s).bind fun y => .leaf (outS (laws_toInt64S_l0_E v13) (laws_toInt64S_l0_X v13) y) := by kernel_rfl
theorem laws_toInt64S_l0_ok (v13 : List Int) : LSound Try.prog 0 (laws_toInt64S_LO v13) 0 (bodyOf Try.f23 0) := by
  intro e L out h
  exact lo_ok (E := laws_toInt64S_l0_E v13) (gT := laws_toInt64S_l0_T v13) (X := laws_toInt64S_l0_X v13) (s0 := ((gI (vAt e 4)), (gRI L (vAt e 3)))) tok laws_toInt64S_hO mixed (LoopsOk_eq (l := []) (by kernel_rfl) trivial) (laws_toInt64S_l0_be v13) rfl (by intro x; rfl) h
noncomputable def laws_toInt64S_T (v13 : List Int) : Tree ((List Int)) :=
  (.need (((v13.length : Nat) : Int) = ((v13.length : Nat) : Int)) <|
  (.grd (inb ((v13.length : Nat) : Int) (maxN + 1)) <|
  (.need (some (laws_toInt64S_l0_E v13 ((0 : Int), List.replicate (Int.toNat ((v13.length : Nat) : Int)) (0 : Int))) = some (laws_toInt64S_l0_E v13 ((0 : Int), List.replicate (Int.toNat ((v13.length : Nat) : Int)) (0 : Int)))) <|
  (.call (laws_toInt64S_l0_g v13 ((0 : Int), List.replicate (Int.toNat ((v13.length : Nat) : Int)) (0 : Int))) fun v19 =>
  .leaf v19))))

noncomputable def laws_toInt64S_g (v13 : List Int) : Option ((List Int)) := (laws_toInt64S_T v13).run
def laws_toInt64S_enc (v13 : List Int) (y : (List Int)) : Rs := (.own 0 0 ((y).length), [.row (.i64 y) 0])
theorem laws_toInt64S_den (v13 : List Int) : (den TT (tabD laws_toInt64S_tab) (tabM laws_toInt64S_tab) (laws_toInt64S_LO v13) (codeOf Try.f23) ([.bslc (BR.root 0) (.i64 v13)] ++ List.replicate (Try.f23.ntmps - ([.bslc (BR.root 0) (.i64 v13)] : List DV).length) .undef) []).bind (retD TT Try.f23.results.toList 0) = (laws_toInt64S_T v13).bind fun y => .leaf (laws_toInt64S_enc v13 y) := by kernel_rfl
theorem laws_toInt64S_fn (v13 : List Int) (F : Fr) (hm : F.ids.length = 0) (h0 : St F [] F.H0) (hA : DVs.Ok F [] [.bslc (BR.root 0) (.i64 v13)]) {y : (List Int)} (hy : laws_toInt64S_g v13 = some y) : ∃ H', FnOk Try.prog 23 (DVs.av F [.bslc (BR.root 0) (.i64 v13)]) F.H0 ((laws_toInt64S_enc v13 y).1.av F) H' ∧ St F (laws_toInt64S_enc v13 y).2 H' ∧ (laws_toInt64S_enc v13 y).1.Ok F (laws_toInt64S_enc v13 y).2 :=
  fn_fin tok laws_toInt64S_hO mixed Try.func23 Try.call23 (by kernel_rfl) (LoopsOk_eq (l := [(0, bodyOf Try.f23 0)]) (by kernel_rfl) ⟨laws_toInt64S_l0_ok v13, trivial⟩) (laws_toInt64S_den v13) hy hm h0 hA
noncomputable def laws_toInt64S_F : DFn := fun args L =>
  match args with
  | [a1] =>
    optT (rowI64 L a1) fun v13 =>
    .call (laws_toInt64S_g v13) fun y => .leaf (.own (L.length + 0) 0 ((y).length), L ++ [.row (.i64 y) 0])
  | _ => .fail
theorem laws_toInt64S_Fok : COk Try.prog 23 laws_toInt64S_F true := by
  intro F L H args r L' hs ha hr
  unfold laws_toInt64S_F at hr
  split at hr
  · rename_i a1
    obtain ⟨v13, hv13, hr⟩ := optT_run hr
    simp only [Tree.run] at hr
    obtain ⟨y, hy, hr⟩ := Option.bind_eq_some_iff.1 hr
    simp only [Tree.run, Option.some.injEq, Prod.mk.injEq] at hr
    obtain ⟨rfl, rfl⟩ := hr
    exact call_ok1 hs (fun k => (([a1.av F] : List AV)[k]?).getD .top) [a1] [.bslc (BR.root 0) (.i64 v13)] (fun F' h0 hi hρ => ⟨by simp [DVs.av, DV.av, BR.av, hρ], laws_toInt64S_fn v13 F' (by rw [hi]; rfl) (st_nil hi) ⟨bslc_ok hi (by rw [h0, hρ]; exact rowI64_ok hs (DVs.okAt ha 0 rfl) hv13), trivial⟩ hy⟩) rfl rfl
  · cases hr
/-! laws.toWhole -/
noncomputable def laws_toWhole_LO (v10 : Int) (v11 : Int) (v12 : List Int) : LOr := fun id e L =>
  match id with
  | _ => .fail
noncomputable def laws_toWhole_tab : List (FuncId × DFn × Bool) := [(23, laws_toInt64S_F, true)]
theorem laws_toWhole_hO : OrcOk Try.prog (tabD laws_toWhole_tab) (tabM laws_toWhole_tab) := tabD_cons laws_toInt64S_Fok (tabD_nil _)
noncomputable def laws_toWhole_T (v10 : Int) (v11 : Int) (v12 : List Int) : Tree (Int × Int × (List Int)) :=
  (.call (laws_toInt64S_g v12) fun v20 =>
  .leaf (v10, v11, v20))

noncomputable def laws_toWhole_g (v10 : Int) (v11 : Int) (v12 : List Int) : Option (Int × Int × (List Int)) := (laws_toWhole_T v10 v11 v12).run
def laws_toWhole_enc (v10 : Int) (v11 : Int) (v12 : List Int) (y : Int × Int × (List Int)) : Rs := (.agg [.int .i64 y.1, .int .i64 y.2.1, .own 0 0 ((y.2.2).length)], [.row (.i64 y.2.2) 0])
theorem laws_toWhole_den (v10 : Int) (v11 : Int) (v12 : List Int) : (den TT (tabD laws_toWhole_tab) (tabM laws_toWhole_tab) (laws_toWhole_LO v10 v11 v12) (codeOf Try.f17) ([.agg [.int .i64 v10, .int .i64 v11, .bslc (BR.root 0) (.i64 v12)]] ++ List.replicate (Try.f17.ntmps - ([.agg [.int .i64 v10, .int .i64 v11, .bslc (BR.root 0) (.i64 v12)]] : List DV).length) .undef) []).bind (retD TT Try.f17.results.toList 0) = (laws_toWhole_T v10 v11 v12).bind fun y => .leaf (laws_toWhole_enc v10 v11 v12 y) := by kernel_rfl
theorem laws_toWhole_fn (v10 : Int) (v11 : Int) (v12 : List Int) (F : Fr) (hm : F.ids.length = 0) (h0 : St F [] F.H0) (hA : DVs.Ok F [] [.agg [.int .i64 v10, .int .i64 v11, .bslc (BR.root 0) (.i64 v12)]]) {y : Int × Int × (List Int)} (hy : laws_toWhole_g v10 v11 v12 = some y) : ∃ H', FnOk Try.prog 17 (DVs.av F [.agg [.int .i64 v10, .int .i64 v11, .bslc (BR.root 0) (.i64 v12)]]) F.H0 ((laws_toWhole_enc v10 v11 v12 y).1.av F) H' ∧ St F (laws_toWhole_enc v10 v11 v12 y).2 H' ∧ (laws_toWhole_enc v10 v11 v12 y).1.Ok F (laws_toWhole_enc v10 v11 v12 y).2 :=
  fn_fin tok laws_toWhole_hO mixed Try.func17 Try.call17 (by kernel_rfl) (LoopsOk_eq (l := []) (by kernel_rfl) trivial) (laws_toWhole_den v10 v11 v12) hy hm h0 hA
noncomputable def laws_toWhole_F : DFn := fun args L =>
  match args with
  | [.agg [.int .i64 v10, .int .i64 v11, a1]] =>
    optT (rowI64 L a1) fun v12 =>
    .call (laws_toWhole_g v10 v11 v12) fun y => .leaf (.agg [.int .i64 y.1, .int .i64 y.2.1, .own (L.length + 0) 0 ((y.2.2).length)], L ++ [.row (.i64 y.2.2) 0])
  | _ => .fail
theorem laws_toWhole_Fok : COk Try.prog 17 laws_toWhole_F true := by
  intro F L H args r L' hs ha hr
  unfold laws_toWhole_F at hr
  split at hr
  · rename_i v10 v11 a1
    obtain ⟨v12, hv12, hr⟩ := optT_run hr
    simp only [Tree.run] at hr
    obtain ⟨y, hy, hr⟩ := Option.bind_eq_some_iff.1 hr
    simp only [Tree.run, Option.some.injEq, Prod.mk.injEq] at hr
    obtain ⟨rfl, rfl⟩ := hr
    exact call_ok1 hs (fun k => (([a1.av F] : List AV)[k]?).getD .top) [.agg [.int .i64 v10, .int .i64 v11, a1]] [.agg [.int .i64 v10, .int .i64 v11, .bslc (BR.root 0) (.i64 v12)]] (fun F' h0 hi hρ => ⟨by simp [DVs.av, DV.av, BR.av, hρ], laws_toWhole_fn v10 v11 v12 F' (by rw [hi]; rfl) (st_nil hi) ⟨⟨trivial, trivial, bslc_ok hi (by rw [h0, hρ]; exact rowI64_ok hs (DVs.okAt (DVs.okAt ha 0 rfl) 2 rfl) hv12), trivial⟩, trivial⟩ hy⟩) rfl rfl
  · cases hr
/-! spec.l00In -/
noncomputable def spec_l00In_LO (v32 : Int) (v33 : Int) (v34 : Int) : LOr := fun id e L =>
  match id with
  | _ => .fail
noncomputable def spec_l00In_tab : List (FuncId × DFn × Bool) := []
theorem spec_l00In_hO : OrcOk Try.prog (tabD spec_l00In_tab) (tabM spec_l00In_tab) := tabD_nil _
noncomputable def spec_l00In_T (v32 : Int) (v33 : Int) (v34 : Int) : Tree (Bool) :=
  (.br (decide (v33 ≤ v32)) (
   .leaf (decide (v32 ≤ v34))
  ) (
   .leaf false
  ))

noncomputable def spec_l00In_g (v32 : Int) (v33 : Int) (v34 : Int) : Option (Bool) := (spec_l00In_T v32 v33 v34).run
def spec_l00In_enc (v32 : Int) (v33 : Int) (v34 : Int) (y : Bool) : Rs := (.bool y, [])
theorem spec_l00In_den (v32 : Int) (v33 : Int) (v34 : Int) : (den TT (tabD spec_l00In_tab) (tabM spec_l00In_tab) (spec_l00In_LO v32 v33 v34) (codeOf Try.f90) ([.int .i64 v32, .int .i64 v33, .int .i64 v34] ++ List.replicate (Try.f90.ntmps - ([.int .i64 v32, .int .i64 v33, .int .i64 v34] : List DV).length) .undef) []).bind (retD TT Try.f90.results.toList 0) = (spec_l00In_T v32 v33 v34).bind fun y => .leaf (spec_l00In_enc v32 v33 v34 y) := by kernel_rfl
theorem spec_l00In_fn (v32 : Int) (v33 : Int) (v34 : Int) (F : Fr) (hm : F.ids.length = 0) (h0 : St F [] F.H0) (hA : DVs.Ok F [] [.int .i64 v32, .int .i64 v33, .int .i64 v34]) {y : Bool} (hy : spec_l00In_g v32 v33 v34 = some y) : ∃ H', FnOk Try.prog 90 (DVs.av F [.int .i64 v32, .int .i64 v33, .int .i64 v34]) F.H0 ((spec_l00In_enc v32 v33 v34 y).1.av F) H' ∧ St F (spec_l00In_enc v32 v33 v34 y).2 H' ∧ (spec_l00In_enc v32 v33 v34 y).1.Ok F (spec_l00In_enc v32 v33 v34 y).2 :=
  fn_fin tok spec_l00In_hO mixed Try.func90 Try.call90 (by kernel_rfl) (LoopsOk_eq (l := []) (by kernel_rfl) trivial) (spec_l00In_den v32 v33 v34) hy hm h0 hA
def spec_l00In_v (v32 : Int) (v33 : Int) (v34 : Int) : Bool :=
  if (decide (v33 ≤ v32)) = true then (
   decide (v32 ≤ v34)
  ) else (
   false
  )
theorem spec_l00In_tot (v32 : Int) (v33 : Int) (v34 : Int) : spec_l00In_g v32 v33 v34 = some (spec_l00In_v v32 v33 v34) := by
  unfold spec_l00In_g spec_l00In_T spec_l00In_v
  simp only [Tree.run]
  repeat' (first | rfl | split)
noncomputable def spec_l00In_F : DFn := fun args L =>
  match args with
  | [.int .i64 v32, .int .i64 v33, .int .i64 v34] =>
    .leaf (.bool (spec_l00In_v v32 v33 v34), L)
  | _ => .fail
theorem spec_l00In_Fok : COk Try.prog 90 spec_l00In_F true := by
  intro F L H args r L' hs ha hr
  unfold spec_l00In_F at hr
  split at hr
  · rename_i v32 v33 v34
    have hy := spec_l00In_tot v32 v33 v34
    generalize spec_l00In_v v32 v33 v34 = y at hy hr
    simp only [Tree.run, Option.some.injEq, Prod.mk.injEq] at hr
    obtain ⟨rfl, rfl⟩ := hr
    exact call_ok0 hs (fun k => (([] : List AV)[k]?).getD .top) [.int .i64 v32, .int .i64 v33, .int .i64 v34] [.int .i64 v32, .int .i64 v33, .int .i64 v34] (fun F' h0 hi hρ => ⟨by simp [DVs.av, DV.av, BR.av, hρ], spec_l00In_fn v32 v33 v34 F' (by rw [hi]; rfl) (st_nil hi) ⟨trivial, trivial, trivial, trivial⟩ hy⟩) rfl
  · cases hr
/-! spec.l06Bound -/
noncomputable def spec_l06Bound_l0_T (v35 : List Int) (v36 : Int) (s : Int) : Tree ((Int) ⊕ ((Unit) ⊕ (Unit))) :=
  (.br (decide (s < ((v35.length : Nat) : Int))) (
   (.grd (inb s v35.length) <|
   (.br (!(spec_l00In_v (nth v35 (Int.toNat s)) (IntKind.i64.wrap (0 - v36)) v36)) (
    .leaf (.inr (.inl ()))
   ) (
    .leaf (.inl (IntKind.i64.wrap (s + (1 : Int))))
   )))
  ) (
   .leaf (.inr (.inr ()))
  ))

noncomputable def spec_l06Bound_l0_g (v35 : List Int) (v36 : Int) (s0 : Int) : Option ((Unit) ⊕ (Unit)) := whileM (fun s => (spec_l06Bound_l0_T v35 v36 s).run) s0
def spec_l06Bound_l0_E (v35 : List Int) (v36 : Int) (s : Int) : Sd := ([.bslc (BR.root 0) (.i64 v35), .int .i64 v36, .top, .top, .top, .int .i64 s, .top, .top, .top, .top, .top, .top, .top, .top, .top, .top, .top, .top, .top, .top, .top], [])
def spec_l06Bound_l0_X (v35 : List Int) (v36 : Int) (x : (Unit) ⊕ (Unit)) : Out := (match x with | .inl x => (.ret, [.top, .top, .top, .top, .lit false, .top, .top, .top, .top, .top, .top, .top, .top, .top, .top, .top, .top, .top, .top, .top, .top], []) | .inr x => (.normal, [.top, .top, .top, .top, .top, .top, .top, .top, .top, .top, .top, .top, .top, .top, .top, .top, .top, .top, .top, .top, .top], []))
def spec_l06Bound_l0_kill : List Nat := [0, 0, 1, 1, 1, 0, 1, 1, 1, 1, 1, 1, 1, 1, 1, 1, 1, 1, 1, 1, 1]
def spec_l06Bound_l0_nx : Exit → List Nat
  | .exit 0 => [1, 1, 1, 1, 1, 1, 1, 1, 1, 1, 1, 1, 1, 1, 1, 1, 1, 1, 1, 1, 1]
  | .ret => [1, 1, 1, 1, 0, 1, 1, 1, 1, 1, 1, 1, 1, 1, 1, 1, 1, 1, 1, 1, 1]
  | _ => []
noncomputable def spec_l06Bound_LO (v35 : List Int) (v36 : Int) : LOr := fun id e L =>
  match id with
  | 0 => .need (normA 0 spec_l06Bound_l0_kill e L = some (spec_l06Bound_l0_E v35 v36 (gI (vAt e 5)))) (.call (spec_l06Bound_l0_g v35 v36 (gI (vAt e 5))) fun x => .sum x (fun b0 => .leaf (spec_l06Bound_l0_X v35 v36 (.inl b0))) (fun c0 => .leaf (spec_l06Bound_l0_X v35 v36 (.inr c0))))
  | _ => .fail
noncomputable def spec_l06Bound_tab : List (FuncId × DFn × Bool) := [(90, spec_l00In_F, true)]
theorem spec_l06Bound_hO : OrcOk Try.prog (tabD spec_l06Bound_tab) (tabM spec_l06Bound_tab) := tabD_cons spec_l00In_Fok (tabD_nil _)
theorem spec_l06Bound_l0_be (v35 : List Int) (v36 : Int) (s : Int) : bodyT TT (tabD spec_l06Bound_tab) (tabM spec_l06Bound_tab) (spec_l06Bound_LO v35 v36) 0 spec_l06Bound_l0_kill spec_l06Bound_l0_nx (bodyOf Try.f68 0) 0 (spec_l06Bound_l0_E v35 v36 s) = (spec_l06Bound_l0_T v35 v36 s).bind fun y => .leaf (outS (spec_l06Bound_l0_E v35 v36) (spec_l06Bound_l0_X v35 v36) y) := by kernel_rfl
theorem spec_l06Bound_l0_ok (v35 : List Int) (v36 : Int) : LSound Try.prog 0 (spec_l06Bound_LO v35 v36) 0 (bodyOf Try.f68 0) := by
  intro e L out h
  exact lo_ok (E := spec_l06Bound_l0_E v35 v36) (gT := spec_l06Bound_l0_T v35 v36) (X := spec_l06Bound_l0_X v35 v36) (s0 := (gI (vAt e 5))) tok spec_l06Bound_hO mixed (LoopsOk_eq (l := []) (by kernel_rfl) trivial) (spec_l06Bound_l0_be v35 v36) rfl (by intro x; (cases x with | inl b => rfl | inr x => exact rfl)) h
noncomputable def spec_l06Bound_T (v35 : List Int) (v36 : Int) : Tree (Bool) :=
  (.need (some (spec_l06Bound_l0_E v35 v36 (0 : Int)) = some (spec_l06Bound_l0_E v35 v36 (0 : Int))) <|
  (.call (spec_l06Bound_l0_g v35 v36 (0 : Int)) fun v40 =>
  (.sum v40 (fun v41 =>
   .leaf false
  ) (fun v42 =>
   .leaf true
  ))))

noncomputable def spec_l06Bound_g (v35 : List Int) (v36 : Int) : Option (Bool) := (spec_l06Bound_T v35 v36).run
def spec_l06Bound_enc (v35 : List Int) (v36 : Int) (y : Bool) : Rs := (.bool y, [])
theorem spec_l06Bound_den (v35 : List Int) (v36 : Int) : (den TT (tabD spec_l06Bound_tab) (tabM spec_l06Bound_tab) (spec_l06Bound_LO v35 v36) (codeOf Try.f68) ([.bslc (BR.root 0) (.i64 v35), .int .i64 v36] ++ List.replicate (Try.f68.ntmps - ([.bslc (BR.root 0) (.i64 v35), .int .i64 v36] : List DV).length) .undef) []).bind (retD TT Try.f68.results.toList 0) = (spec_l06Bound_T v35 v36).bind fun y => .leaf (spec_l06Bound_enc v35 v36 y) := by kernel_rfl
theorem spec_l06Bound_fn (v35 : List Int) (v36 : Int) (F : Fr) (hm : F.ids.length = 0) (h0 : St F [] F.H0) (hA : DVs.Ok F [] [.bslc (BR.root 0) (.i64 v35), .int .i64 v36]) {y : Bool} (hy : spec_l06Bound_g v35 v36 = some y) : ∃ H', FnOk Try.prog 68 (DVs.av F [.bslc (BR.root 0) (.i64 v35), .int .i64 v36]) F.H0 ((spec_l06Bound_enc v35 v36 y).1.av F) H' ∧ St F (spec_l06Bound_enc v35 v36 y).2 H' ∧ (spec_l06Bound_enc v35 v36 y).1.Ok F (spec_l06Bound_enc v35 v36 y).2 :=
  fn_fin tok spec_l06Bound_hO mixed Try.func68 Try.call68 (by kernel_rfl) (LoopsOk_eq (l := [(0, bodyOf Try.f68 0)]) (by kernel_rfl) ⟨spec_l06Bound_l0_ok v35 v36, trivial⟩) (spec_l06Bound_den v35 v36) hy hm h0 hA
noncomputable def spec_l06Bound_F : DFn := fun args L =>
  match args with
  | [a1, .int .i64 v36] =>
    optT (rowI64 L a1) fun v35 =>
    .call (spec_l06Bound_g v35 v36) fun y => .leaf (.bool y, L)
  | _ => .fail
theorem spec_l06Bound_Fok : COk Try.prog 68 spec_l06Bound_F true := by
  intro F L H args r L' hs ha hr
  unfold spec_l06Bound_F at hr
  split at hr
  · rename_i a1 v36
    obtain ⟨v35, hv35, hr⟩ := optT_run hr
    simp only [Tree.run] at hr
    obtain ⟨y, hy, hr⟩ := Option.bind_eq_some_iff.1 hr
    simp only [Tree.run, Option.some.injEq, Prod.mk.injEq] at hr
    obtain ⟨rfl, rfl⟩ := hr
    exact call_ok0 hs (fun k => (([a1.av F] : List AV)[k]?).getD .top) [a1, .int .i64 v36] [.bslc (BR.root 0) (.i64 v35), .int .i64 v36] (fun F' h0 hi hρ => ⟨by simp [DVs.av, DV.av, BR.av, hρ], spec_l06Bound_fn v35 v36 F' (by rw [hi]; rfl) (st_nil hi) ⟨bslc_ok hi (by rw [h0, hρ]; exact rowI64_ok hs (DVs.okAt ha 0 rfl) hv35), trivial, trivial⟩ hy⟩) rfl
  · cases hr
/-! spec.l06Is -/
noncomputable def spec_l06Is_LO (v28 : Int) (v29 : Int) (v30 : List Int) (v31 : Int) : LOr := fun id e L =>
  match id with
  | _ => .fail
noncomputable def spec_l06Is_tab : List (FuncId × DFn × Bool) := [(90, spec_l00In_F, true), (68, spec_l06Bound_F, true)]
theorem spec_l06Is_hO : OrcOk Try.prog (tabD spec_l06Is_tab) (tabM spec_l06Is_tab) := tabD_cons spec_l00In_Fok (tabD_cons spec_l06Bound_Fok (tabD_nil _))
noncomputable def spec_l06Is_T (v28 : Int) (v29 : Int) (v30 : List Int) (v31 : Int) : Tree (Bool) :=
  (.br (spec_l00In_v v28 (1 : Int) (6 : Int)) (
   (.br (spec_l00In_v v29 (1 : Int) (6 : Int)) (
    (.br (decide (((v30.length : Nat) : Int) = IntKind.i64.wrap (v28 * v29))) (
     (.call (spec_l06Bound_g v30 v31) fun v43 =>
     .leaf v43)
    ) (
     .leaf false
    ))
   ) (
    .leaf false
   ))
  ) (
   .leaf false
  ))

noncomputable def spec_l06Is_g (v28 : Int) (v29 : Int) (v30 : List Int) (v31 : Int) : Option (Bool) := (spec_l06Is_T v28 v29 v30 v31).run
def spec_l06Is_enc (v28 : Int) (v29 : Int) (v30 : List Int) (v31 : Int) (y : Bool) : Rs := (.bool y, [])
theorem spec_l06Is_den (v28 : Int) (v29 : Int) (v30 : List Int) (v31 : Int) : (den TT (tabD spec_l06Is_tab) (tabM spec_l06Is_tab) (spec_l06Is_LO v28 v29 v30 v31) (codeOf Try.f62) ([.bptr (BR.root 0) [.int .i64 v28, .int .i64 v29, .bslc (BR.root 1) (.i64 v30)], .int .i64 v31] ++ List.replicate (Try.f62.ntmps - ([.bptr (BR.root 0) [.int .i64 v28, .int .i64 v29, .bslc (BR.root 1) (.i64 v30)], .int .i64 v31] : List DV).length) .undef) []).bind (retD TT Try.f62.results.toList 0) = (spec_l06Is_T v28 v29 v30 v31).bind fun y => .leaf (spec_l06Is_enc v28 v29 v30 v31 y) := by kernel_rfl
theorem spec_l06Is_fn (v28 : Int) (v29 : Int) (v30 : List Int) (v31 : Int) (F : Fr) (hm : F.ids.length = 0) (h0 : St F [] F.H0) (hA : DVs.Ok F [] [.bptr (BR.root 0) [.int .i64 v28, .int .i64 v29, .bslc (BR.root 1) (.i64 v30)], .int .i64 v31]) {y : Bool} (hy : spec_l06Is_g v28 v29 v30 v31 = some y) : ∃ H', FnOk Try.prog 62 (DVs.av F [.bptr (BR.root 0) [.int .i64 v28, .int .i64 v29, .bslc (BR.root 1) (.i64 v30)], .int .i64 v31]) F.H0 ((spec_l06Is_enc v28 v29 v30 v31 y).1.av F) H' ∧ St F (spec_l06Is_enc v28 v29 v30 v31 y).2 H' ∧ (spec_l06Is_enc v28 v29 v30 v31 y).1.Ok F (spec_l06Is_enc v28 v29 v30 v31 y).2 :=
  fn_fin tok spec_l06Is_hO mixed Try.func62 Try.call62 (by kernel_rfl) (LoopsOk_eq (l := []) (by kernel_rfl) trivial) (spec_l06Is_den v28 v29 v30 v31) hy hm h0 hA
noncomputable def spec_l06Is_F : DFn := fun args L =>
  match args with
  | [a1, .int .i64 v31] =>
    optT (cellsOf L 3 a1) fun cs0 =>
    (match cs0 with
    | [.int .i64 v28, .int .i64 v29, a2] =>
    optT (rowI64 L a2) fun v30 =>
    .call (spec_l06Is_g v28 v29 v30 v31) fun y => .leaf (.bool y, L)
    | _ => .fail)
  | _ => .fail
theorem spec_l06Is_Fok : COk Try.prog 62 spec_l06Is_F true := by
  intro F L H args r L' hs ha hr
  unfold spec_l06Is_F at hr
  split at hr
  · rename_i a1 v31
    obtain ⟨cs0, hcp0, hr⟩ := optT_run hr
    split at hr
    · rename_i v28 v29 a2
      obtain ⟨v30, hv30, hr⟩ := optT_run hr
      simp only [Tree.run] at hr
      obtain ⟨y, hy, hr⟩ := Option.bind_eq_some_iff.1 hr
      simp only [Tree.run, Option.some.injEq, Prod.mk.injEq] at hr
      obtain ⟨rfl, rfl⟩ := hr
      exact call_ok0 hs (fun k => (([a1.av F, a2.av F] : List AV)[k]?).getD .top) [a1, .int .i64 v31] [.bptr (BR.root 0) [.int .i64 v28, .int .i64 v29, .bslc (BR.root 1) (.i64 v30)], .int .i64 v31] (fun F' h0 hi hρ => ⟨by simp [DVs.av, DV.av, BR.av, hρ], spec_l06Is_fn v28 v29 v30 v31 F' (by rw [hi]; rfl) (st_nil hi) ⟨bptr_ok hi (by rw [h0]; simpa [DVs.av, DV.av, BR.av, hρ] using (cellsOf_ok hs (DVs.okAt ha 0 rfl) hcp0).1) ⟨trivial, trivial, bslc_ok hi (by rw [h0, hρ]; exact rowI64_ok hs (DVs.okAt (cellsOf_ok hs (DVs.okAt ha 0 rfl) hcp0).2 2 rfl) hv30), trivial⟩, trivial, trivial⟩ hy⟩) rfl
    · cases hr
  · cases hr
/-! spec.l06Low -/
noncomputable def spec_l06Low_LO (v25 : Int) (v26 : Int) (v27 : List Int) : LOr := fun id e L =>
  match id with
  | _ => .fail
noncomputable def spec_l06Low_tab : List (FuncId × DFn × Bool) := [(62, spec_l06Is_F, true)]
theorem spec_l06Low_hO : OrcOk Try.prog (tabD spec_l06Low_tab) (tabM spec_l06Low_tab) := tabD_cons spec_l06Is_Fok (tabD_nil _)
noncomputable def spec_l06Low_T (v25 : Int) (v26 : Int) (v27 : List Int) : Tree (Bool) :=
  (.call (spec_l06Is_g v25 v26 v27 (100 : Int)) fun v44 =>
  .leaf v44)

noncomputable def spec_l06Low_g (v25 : Int) (v26 : Int) (v27 : List Int) : Option (Bool) := (spec_l06Low_T v25 v26 v27).run
def spec_l06Low_enc (v25 : Int) (v26 : Int) (v27 : List Int) (y : Bool) : Rs := (.bool y, [])
theorem spec_l06Low_den (v25 : Int) (v26 : Int) (v27 : List Int) : (den TT (tabD spec_l06Low_tab) (tabM spec_l06Low_tab) (spec_l06Low_LO v25 v26 v27) (codeOf Try.f73) ([.bptr (BR.root 0) [.int .i64 v25, .int .i64 v26, .bslc (BR.root 1) (.i64 v27)]] ++ List.replicate (Try.f73.ntmps - ([.bptr (BR.root 0) [.int .i64 v25, .int .i64 v26, .bslc (BR.root 1) (.i64 v27)]] : List DV).length) .undef) []).bind (retD TT Try.f73.results.toList 0) = (spec_l06Low_T v25 v26 v27).bind fun y => .leaf (spec_l06Low_enc v25 v26 v27 y) := by kernel_rfl
theorem spec_l06Low_fn (v25 : Int) (v26 : Int) (v27 : List Int) (F : Fr) (hm : F.ids.length = 0) (h0 : St F [] F.H0) (hA : DVs.Ok F [] [.bptr (BR.root 0) [.int .i64 v25, .int .i64 v26, .bslc (BR.root 1) (.i64 v27)]]) {y : Bool} (hy : spec_l06Low_g v25 v26 v27 = some y) : ∃ H', FnOk Try.prog 73 (DVs.av F [.bptr (BR.root 0) [.int .i64 v25, .int .i64 v26, .bslc (BR.root 1) (.i64 v27)]]) F.H0 ((spec_l06Low_enc v25 v26 v27 y).1.av F) H' ∧ St F (spec_l06Low_enc v25 v26 v27 y).2 H' ∧ (spec_l06Low_enc v25 v26 v27 y).1.Ok F (spec_l06Low_enc v25 v26 v27 y).2 :=
  fn_fin tok spec_l06Low_hO mixed Try.func73 Try.call73 (by kernel_rfl) (LoopsOk_eq (l := []) (by kernel_rfl) trivial) (spec_l06Low_den v25 v26 v27) hy hm h0 hA
noncomputable def spec_l06Low_F : DFn := fun args L =>
  match args with
  | [a1] =>
    optT (cellsOf L 3 a1) fun cs0 =>
    (match cs0 with
    | [.int .i64 v25, .int .i64 v26, a2] =>
    optT (rowI64 L a2) fun v27 =>
    .call (spec_l06Low_g v25 v26 v27) fun y => .leaf (.bool y, L)
    | _ => .fail)
  | _ => .fail
theorem spec_l06Low_Fok : COk Try.prog 73 spec_l06Low_F true := by
  intro F L H args r L' hs ha hr
  unfold spec_l06Low_F at hr
  split at hr
  · rename_i a1
    obtain ⟨cs0, hcp0, hr⟩ := optT_run hr
    split at hr
    · rename_i v25 v26 a2
      obtain ⟨v27, hv27, hr⟩ := optT_run hr
      simp only [Tree.run] at hr
      obtain ⟨y, hy, hr⟩ := Option.bind_eq_some_iff.1 hr
      simp only [Tree.run, Option.some.injEq, Prod.mk.injEq] at hr
      obtain ⟨rfl, rfl⟩ := hr
      exact call_ok0 hs (fun k => (([a1.av F, a2.av F] : List AV)[k]?).getD .top) [a1] [.bptr (BR.root 0) [.int .i64 v25, .int .i64 v26, .bslc (BR.root 1) (.i64 v27)]] (fun F' h0 hi hρ => ⟨by simp [DVs.av, DV.av, BR.av, hρ], spec_l06Low_fn v25 v26 v27 F' (by rw [hi]; rfl) (st_nil hi) ⟨bptr_ok hi (by rw [h0]; simpa [DVs.av, DV.av, BR.av, hρ] using (cellsOf_ok hs (DVs.okAt ha 0 rfl) hcp0).1) ⟨trivial, trivial, bslc_ok hi (by rw [h0, hρ]; exact rowI64_ok hs (DVs.okAt (cellsOf_ok hs (DVs.okAt ha 0 rfl) hcp0).2 2 rfl) hv27), trivial⟩, trivial⟩ hy⟩) rfl
    · cases hr
  · cases hr
/-! spec.l06Zero -/
noncomputable def spec_l06Zero_LO (v46 : Int) (v47 : Int) : LOr := fun id e L =>
  match id with
  | _ => .fail
noncomputable def spec_l06Zero_tab : List (FuncId × DFn × Bool) := []
theorem spec_l06Zero_hO : OrcOk Try.prog (tabD spec_l06Zero_tab) (tabM spec_l06Zero_tab) := tabD_nil _
noncomputable def spec_l06Zero_T (v46 : Int) (v47 : Int) : Tree (Int × Int) :=
  (.need (IntKind.i64.wrap (v46 * v47) = IntKind.i64.wrap (v46 * v47)) <|
  (.grd (inb (IntKind.i64.wrap (v46 * v47)) (maxN + 1)) <|
  .leaf (v46, v47)))

noncomputable def spec_l06Zero_g (v46 : Int) (v47 : Int) : Option (Int × Int) := (spec_l06Zero_T v46 v47).run
def spec_l06Zero_enc (v46 : Int) (v47 : Int) (y : Int × Int) : Rs := (.agg [.int .i64 y.1, .int .i64 y.2, .own 0 0 ((List.replicate (Int.toNat (IntKind.i64.wrap (v46 * v47))) (0 : Int)).length)], [.row (.i64 (List.replicate (Int.toNat (IntKind.i64.wrap (v46 * v47))) (0 : Int))) 0])
theorem spec_l06Zero_den (v46 : Int) (v47 : Int) : (den TT (tabD spec_l06Zero_tab) (tabM spec_l06Zero_tab) (spec_l06Zero_LO v46 v47) (codeOf Try.f82) ([.int .i64 v46, .int .i64 v47] ++ List.replicate (Try.f82.ntmps - ([.int .i64 v46, .int .i64 v47] : List DV).length) .undef) []).bind (retD TT Try.f82.results.toList 0) = (spec_l06Zero_T v46 v47).bind fun y => .leaf (spec_l06Zero_enc v46 v47 y) := by kernel_rfl
theorem spec_l06Zero_fn (v46 : Int) (v47 : Int) (F : Fr) (hm : F.ids.length = 0) (h0 : St F [] F.H0) (hA : DVs.Ok F [] [.int .i64 v46, .int .i64 v47]) {y : Int × Int} (hy : spec_l06Zero_g v46 v47 = some y) : ∃ H', FnOk Try.prog 82 (DVs.av F [.int .i64 v46, .int .i64 v47]) F.H0 ((spec_l06Zero_enc v46 v47 y).1.av F) H' ∧ St F (spec_l06Zero_enc v46 v47 y).2 H' ∧ (spec_l06Zero_enc v46 v47 y).1.Ok F (spec_l06Zero_enc v46 v47 y).2 :=
  fn_fin tok spec_l06Zero_hO mixed Try.func82 Try.call82 (by kernel_rfl) (LoopsOk_eq (l := []) (by kernel_rfl) trivial) (spec_l06Zero_den v46 v47) hy hm h0 hA
noncomputable def spec_l06Zero_F : DFn := fun args L =>
  match args with
  | [.int .i64 v46, .int .i64 v47] =>
    .call (spec_l06Zero_g v46 v47) fun y => .leaf (.agg [.int .i64 y.1, .int .i64 y.2, .own (L.length + 0) 0 ((List.replicate (Int.toNat (IntKind.i64.wrap (v46 * v47))) (0 : Int)).length)], L ++ [.row (.i64 (List.replicate (Int.toNat (IntKind.i64.wrap (v46 * v47))) (0 : Int))) 0])
  | _ => .fail
theorem spec_l06Zero_Fok : COk Try.prog 82 spec_l06Zero_F true := by
  intro F L H args r L' hs ha hr
  unfold spec_l06Zero_F at hr
  split at hr
  · rename_i v46 v47
    simp only [Tree.run] at hr
    obtain ⟨y, hy, hr⟩ := Option.bind_eq_some_iff.1 hr
    simp only [Tree.run, Option.some.injEq, Prod.mk.injEq] at hr
    obtain ⟨rfl, rfl⟩ := hr
    exact call_ok1 hs (fun k => (([] : List AV)[k]?).getD .top) [.int .i64 v46, .int .i64 v47] [.int .i64 v46, .int .i64 v47] (fun F' h0 hi hρ => ⟨by simp [DVs.av, DV.av, BR.av, hρ], spec_l06Zero_fn v46 v47 F' (by rw [hi]; rfl) (st_nil hi) ⟨trivial, trivial, trivial⟩ hy⟩) rfl rfl
  · cases hr
/-! spec.l06All -/
noncomputable def spec_l06All_l0_T (v56 : Int) (s : Int × (List Int)) : Tree ((Int × (List Int)) ⊕ ((List Int))) :=
  (.br (decide (s.1 < v56)) (
   (.grd (fits (s.2 ++ ([s.1] : List Int)).length) <|
   .leaf (.inl (IntKind.i64.wrap (s.1 + (1 : Int)), s.2 ++ ([s.1] : List Int))))
  ) (
   .leaf (.inr s.2)
  ))

noncomputable def spec_l06All_l0_g (v56 : Int) (s0 : Int × (List Int)) : Option ((List Int)) := whileM (fun s => (spec_l06All_l0_T v56 s).run) s0
def spec_l06All_l0_E (v56 : Int) (s : Int × (List Int)) : Sd := ([.int .i64 v56, .top, .top, .own 0 0 ((s.2).length), .int .i64 s.1, .top, .top, .top, .top, .top, .top, .top, .top, .top, .top, .top], [.row (.i64 s.2) 0])
def spec_l06All_l0_X (v56 : Int) (x : (List Int)) : Out := (.normal, [.top, .top, .top, .own 0 0 ((x).length), .top, .top, .top, .top, .top, .top, .top, .top, .top, .top, .top, .top], [.row (.i64 x) 0])
def spec_l06All_l0_kill : List Nat := [0, 1, 1, 0, 0, 1, 1, 1, 1, 1, 1, 1, 1, 1, 1, 1]
def spec_l06All_l0_nx : Exit → List Nat
  | .exit 0 => [1, 1, 1, 0, 1, 1, 1, 1, 1, 1, 1, 1, 1, 1, 1, 1]
  | .ret => [1, 1, 0, 1, 1, 1, 1, 1, 1, 1, 1, 1, 1, 1, 1, 1]
  | _ => []
noncomputable def spec_l06All_LO (v56 : Int) : LOr := fun id e L =>
  match id with
  | 0 => .need (normA 0 spec_l06All_l0_kill e L = some (spec_l06All_l0_E v56 ((gI (vAt e 4)), (gRI L (vAt e 3))))) (.call (spec_l06All_l0_g v56 ((gI (vAt e 4)), (gRI L (vAt e 3)))) fun x => .leaf (spec_l06All_l0_X v56 x))
  | _ => .fail
noncomputable def spec_l06All_tab : List (FuncId × DFn × Bool) := []
theorem spec_l06All_hO : OrcOk Try.prog (tabD spec_l06All_tab) (tabM spec_l06All_tab) := tabD_nil _
theorem spec_l06All_l0_be (v56 : Int) (s : Int × (List Int)) : bodyT TT (tabD spec_l06All_tab) (tabM spec_l06All_tab) (spec_l06All_LO v56) 0 spec_l06All_l0_kill spec_l06All_l0_nx (bodyOf Try.f84 0) 0 (spec_l06All_l0_E v56 s) = (spec_l06All_l0_T v56 s).bind fun y => .leaf (outS (spec_l06All_l0_E v56) (spec_l06All_l0_X v56) y) := by kernel_rfl
theorem spec_l06All_l0_ok (v56 : Int) : LSound Try.prog 0 (spec_l06All_LO v56) 0 (bodyOf Try.f84 0) := by
  intro e L out h
  exact lo_ok (E := spec_l06All_l0_E v56) (gT := spec_l06All_l0_T v56) (X := spec_l06All_l0_X v56) (s0 := ((gI (vAt e 4)), (gRI L (vAt e 3)))) tok spec_l06All_hO mixed (LoopsOk_eq (l := []) (by kernel_rfl) trivial) (spec_l06All_l0_be v56) rfl (by intro x; rfl) h
noncomputable def spec_l06All_T (v56 : Int) : Tree ((List Int)) :=
  (.need (some (spec_l06All_l0_E v56 ((0 : Int), ([] : List Int))) = some (spec_l06All_l0_E v56 ((0 : Int), ([] : List Int)))) <|
  (.call (spec_l06All_l0_g v56 ((0 : Int), ([] : List Int))) fun v62 =>
  .leaf v62))

noncomputable def spec_l06All_g (v56 : Int) : Option ((List Int)) := (spec_l06All_T v56).run
def spec_l06All_enc (v56 : Int) (y : (List Int)) : Rs := (.own 0 0 ((y).length), [.row (.i64 y) 0])
theorem spec_l06All_den (v56 : Int) : (den TT (tabD spec_l06All_tab) (tabM spec_l06All_tab) (spec_l06All_LO v56) (codeOf Try.f84) ([.int .i64 v56] ++ List.replicate (Try.f84.ntmps - ([.int .i64 v56] : List DV).length) .undef) []).bind (retD TT Try.f84.results.toList 0) = (spec_l06All_T v56).bind fun y => .leaf (spec_l06All_enc v56 y) := by kernel_rfl
theorem spec_l06All_fn (v56 : Int) (F : Fr) (hm : F.ids.length = 0) (h0 : St F [] F.H0) (hA : DVs.Ok F [] [.int .i64 v56]) {y : (List Int)} (hy : spec_l06All_g v56 = some y) : ∃ H', FnOk Try.prog 84 (DVs.av F [.int .i64 v56]) F.H0 ((spec_l06All_enc v56 y).1.av F) H' ∧ St F (spec_l06All_enc v56 y).2 H' ∧ (spec_l06All_enc v56 y).1.Ok F (spec_l06All_enc v56 y).2 :=
  fn_fin tok spec_l06All_hO mixed Try.func84 Try.call84 (by kernel_rfl) (LoopsOk_eq (l := [(0, bodyOf Try.f84 0)]) (by kernel_rfl) ⟨spec_l06All_l0_ok v56, trivial⟩) (spec_l06All_den v56) hy hm h0 hA
noncomputable def spec_l06All_F : DFn := fun args L =>
  match args with
  | [.int .i64 v56] =>
    .call (spec_l06All_g v56) fun y => .leaf (.own (L.length + 0) 0 ((y).length), L ++ [.row (.i64 y) 0])
  | _ => .fail
theorem spec_l06All_Fok : COk Try.prog 84 spec_l06All_F true := by
  intro F L H args r L' hs ha hr
  unfold spec_l06All_F at hr
  split at hr
  · rename_i v56
    simp only [Tree.run] at hr
    obtain ⟨y, hy, hr⟩ := Option.bind_eq_some_iff.1 hr
    simp only [Tree.run, Option.some.injEq, Prod.mk.injEq] at hr
    obtain ⟨rfl, rfl⟩ := hr
    exact call_ok1 hs (fun k => (([] : List AV)[k]?).getD .top) [.int .i64 v56] [.int .i64 v56] (fun F' h0 hi hρ => ⟨by simp [DVs.av, DV.av, BR.av, hρ], spec_l06All_fn v56 F' (by rw [hi]; rfl) (st_nil hi) ⟨trivial, trivial⟩ hy⟩) rfl rfl
  · cases hr
/-! spec.l06Without -/
noncomputable def spec_l06Without_LO (v64 : List Int) (v65 : Int) : LOr := fun id e L =>
  match id with
  | _ => .fail
noncomputable def spec_l06Without_tab : List (FuncId × DFn × Bool) := []
theorem spec_l06Without_hO : OrcOk Try.prog (tabD spec_l06Without_tab) (tabM spec_l06Without_tab) := tabD_nil _
noncomputable def spec_l06Without_T (v64 : List Int) (v65 : Int) : Tree (Unit) :=
  (.grd (sok (0 : Int) v65 v64.length) <|
  (.grd (fits (([] : List Int) ++ (AM.sub v64 (0 : Int) v65)).length) <|
  (.grd (sok (IntKind.i64.wrap (v65 + (1 : Int))) ((v64.length : Nat) : Int) v64.length) <|
  (.grd (fits ((([] : List Int) ++ (AM.sub v64 (0 : Int) v65)) ++ (AM.sub v64 (IntKind.i64.wrap (v65 + (1 : Int))) ((v64.length : Nat) : Int))).length) <|
  .leaf ()))))

noncomputable def spec_l06Without_g (v64 : List Int) (v65 : Int) : Option (Unit) := (spec_l06Without_T v64 v65).run
def spec_l06Without_enc (v64 : List Int) (v65 : Int) (y : Unit) : Rs := (.own 0 0 (((([] : List Int) ++ (AM.sub v64 (0 : Int) v65)) ++ (AM.sub v64 (IntKind.i64.wrap (v65 + (1 : Int))) ((v64.length : Nat) : Int))).length), [.row (.i64 ((([] : List Int) ++ (AM.sub v64 (0 : Int) v65)) ++ (AM.sub v64 (IntKind.i64.wrap (v65 + (1 : Int))) ((v64.length : Nat) : Int)))) 0])
theorem spec_l06Without_den (v64 : List Int) (v65 : Int) : (den TT (tabD spec_l06Without_tab) (tabM spec_l06Without_tab) (spec_l06Without_LO v64 v65) (codeOf Try.f83) ([.bslc (BR.root 0) (.i64 v64), .int .i64 v65] ++ List.replicate (Try.f83.ntmps - ([.bslc (BR.root 0) (.i64 v64), .int .i64 v65] : List DV).length) .undef) []).bind (retD TT Try.f83.results.toList 0) = (spec_l06Without_T v64 v65).bind fun y => .leaf (spec_l06Without_enc v64 v65 y) := by kernel_rfl
theorem spec_l06Without_fn (v64 : List Int) (v65 : Int) (F : Fr) (hm : F.ids.length = 0) (h0 : St F [] F.H0) (hA : DVs.Ok F [] [.bslc (BR.root 0) (.i64 v64), .int .i64 v65]) {y : Unit} (hy : spec_l06Without_g v64 v65 = some y) : ∃ H', FnOk Try.prog 83 (DVs.av F [.bslc (BR.root 0) (.i64 v64), .int .i64 v65]) F.H0 ((spec_l06Without_enc v64 v65 y).1.av F) H' ∧ St F (spec_l06Without_enc v64 v65 y).2 H' ∧ (spec_l06Without_enc v64 v65 y).1.Ok F (spec_l06Without_enc v64 v65 y).2 :=
  fn_fin tok spec_l06Without_hO mixed Try.func83 Try.call83 (by kernel_rfl) (LoopsOk_eq (l := []) (by kernel_rfl) trivial) (spec_l06Without_den v64 v65) hy hm h0 hA
noncomputable def spec_l06Without_F : DFn := fun args L =>
  match args with
  | [a1, .int .i64 v65] =>
    optT (rowI64 L a1) fun v64 =>
    .call (spec_l06Without_g v64 v65) fun y => .leaf (.own (L.length + 0) 0 (((([] : List Int) ++ (AM.sub v64 (0 : Int) v65)) ++ (AM.sub v64 (IntKind.i64.wrap (v65 + (1 : Int))) ((v64.length : Nat) : Int))).length), L ++ [.row (.i64 ((([] : List Int) ++ (AM.sub v64 (0 : Int) v65)) ++ (AM.sub v64 (IntKind.i64.wrap (v65 + (1 : Int))) ((v64.length : Nat) : Int)))) 0])
  | _ => .fail
theorem spec_l06Without_Fok : COk Try.prog 83 spec_l06Without_F true := by
  intro F L H args r L' hs ha hr
  unfold spec_l06Without_F at hr
  split at hr
  · rename_i a1 v65
    obtain ⟨v64, hv64, hr⟩ := optT_run hr
    simp only [Tree.run] at hr
    obtain ⟨y, hy, hr⟩ := Option.bind_eq_some_iff.1 hr
    simp only [Tree.run, Option.some.injEq, Prod.mk.injEq] at hr
    obtain ⟨rfl, rfl⟩ := hr
    exact call_ok1 hs (fun k => (([a1.av F] : List AV)[k]?).getD .top) [a1, .int .i64 v65] [.bslc (BR.root 0) (.i64 v64), .int .i64 v65] (fun F' h0 hi hρ => ⟨by simp [DVs.av, DV.av, BR.av, hρ], spec_l06Without_fn v64 v65 F' (by rw [hi]; rfl) (st_nil hi) ⟨bslc_ok hi (by rw [h0, hρ]; exact rowI64_ok hs (DVs.okAt ha 0 rfl) hv64), trivial, trivial⟩ hy⟩) rfl rfl
  · cases hr
/-! spec.l06At -/
noncomputable def spec_l06At_LO (v77 : Int) (v78 : Int) (v79 : List Int) (v80 : Int) (v81 : Int) : LOr := fun id e L =>
  match id with
  | _ => .fail
noncomputable def spec_l06At_tab : List (FuncId × DFn × Bool) := []
theorem spec_l06At_hO : OrcOk Try.prog (tabD spec_l06At_tab) (tabM spec_l06At_tab) := tabD_nil _
noncomputable def spec_l06At_T (v78 : Int) (v79 : List Int) (v80 : Int) (v81 : Int) : Tree (Int) :=
  (.grd (inb (IntKind.i64.wrap ((IntKind.i64.wrap (v80 * v78)) + v81)) v79.length) <|
  .leaf (nth v79 (Int.toNat (IntKind.i64.wrap ((IntKind.i64.wrap (v80 * v78)) + v81)))))

noncomputable def spec_l06At_g (v78 : Int) (v79 : List Int) (v80 : Int) (v81 : Int) : Option (Int) := (spec_l06At_T v78 v79 v80 v81).run
def spec_l06At_enc (v77 : Int) (v78 : Int) (v79 : List Int) (v80 : Int) (v81 : Int) (y : Int) : Rs := (.int .i64 y, [])
theorem spec_l06At_den (v77 : Int) (v78 : Int) (v79 : List Int) (v80 : Int) (v81 : Int) : (den TT (tabD spec_l06At_tab) (tabM spec_l06At_tab) (spec_l06At_LO v77 v78 v79 v80 v81) (codeOf Try.f107) ([.bptr (BR.root 0) [.int .i64 v77, .int .i64 v78, .bslc (BR.root 1) (.i64 v79)], .int .i64 v80, .int .i64 v81] ++ List.replicate (Try.f107.ntmps - ([.bptr (BR.root 0) [.int .i64 v77, .int .i64 v78, .bslc (BR.root 1) (.i64 v79)], .int .i64 v80, .int .i64 v81] : List DV).length) .undef) []).bind (retD TT Try.f107.results.toList 0) = (spec_l06At_T v78 v79 v80 v81).bind fun y => .leaf (spec_l06At_enc v77 v78 v79 v80 v81 y) := by kernel_rfl
theorem spec_l06At_fn (v77 : Int) (v78 : Int) (v79 : List Int) (v80 : Int) (v81 : Int) (F : Fr) (hm : F.ids.length = 0) (h0 : St F [] F.H0) (hA : DVs.Ok F [] [.bptr (BR.root 0) [.int .i64 v77, .int .i64 v78, .bslc (BR.root 1) (.i64 v79)], .int .i64 v80, .int .i64 v81]) {y : Int} (hy : spec_l06At_g v78 v79 v80 v81 = some y) : ∃ H', FnOk Try.prog 107 (DVs.av F [.bptr (BR.root 0) [.int .i64 v77, .int .i64 v78, .bslc (BR.root 1) (.i64 v79)], .int .i64 v80, .int .i64 v81]) F.H0 ((spec_l06At_enc v77 v78 v79 v80 v81 y).1.av F) H' ∧ St F (spec_l06At_enc v77 v78 v79 v80 v81 y).2 H' ∧ (spec_l06At_enc v77 v78 v79 v80 v81 y).1.Ok F (spec_l06At_enc v77 v78 v79 v80 v81 y).2 :=
  fn_fin tok spec_l06At_hO mixed Try.func107 Try.call107 (by kernel_rfl) (LoopsOk_eq (l := []) (by kernel_rfl) trivial) (spec_l06At_den v77 v78 v79 v80 v81) hy hm h0 hA
noncomputable def spec_l06At_F : DFn := fun args L =>
  match args with
  | [a1, .int .i64 v80, .int .i64 v81] =>
    optT (cellsOf L 3 a1) fun cs0 =>
    (match cs0 with
    | [.int .i64 v77, .int .i64 v78, a2] =>
    optT (rowI64 L a2) fun v79 =>
    .call (spec_l06At_g v78 v79 v80 v81) fun y => .leaf (.int .i64 y, L)
    | _ => .fail)
  | _ => .fail
theorem spec_l06At_Fok : COk Try.prog 107 spec_l06At_F true := by
  intro F L H args r L' hs ha hr
  unfold spec_l06At_F at hr
  split at hr
  · rename_i a1 v80 v81
    obtain ⟨cs0, hcp0, hr⟩ := optT_run hr
    split at hr
    · rename_i v77 v78 a2
      obtain ⟨v79, hv79, hr⟩ := optT_run hr
      simp only [Tree.run] at hr
      obtain ⟨y, hy, hr⟩ := Option.bind_eq_some_iff.1 hr
      simp only [Tree.run, Option.some.injEq, Prod.mk.injEq] at hr
      obtain ⟨rfl, rfl⟩ := hr
      exact call_ok0 hs (fun k => (([a1.av F, a2.av F] : List AV)[k]?).getD .top) [a1, .int .i64 v80, .int .i64 v81] [.bptr (BR.root 0) [.int .i64 v77, .int .i64 v78, .bslc (BR.root 1) (.i64 v79)], .int .i64 v80, .int .i64 v81] (fun F' h0 hi hρ => ⟨by simp [DVs.av, DV.av, BR.av, hρ], spec_l06At_fn v77 v78 v79 v80 v81 F' (by rw [hi]; rfl) (st_nil hi) ⟨bptr_ok hi (by rw [h0]; simpa [DVs.av, DV.av, BR.av, hρ] using (cellsOf_ok hs (DVs.okAt ha 0 rfl) hcp0).1) ⟨trivial, trivial, bslc_ok hi (by rw [h0, hρ]; exact rowI64_ok hs (DVs.okAt (cellsOf_ok hs (DVs.okAt ha 0 rfl) hcp0).2 2 rfl) hv79), trivial⟩, trivial, trivial, trivial⟩ hy⟩) rfl
    · cases hr
  · cases hr
/-! spec.l06Minor -/
noncomputable def spec_l06Minor_i3_l0_T (v105 : Int) (v106 : List Int) (v107 : List Int) (v108 : List Int) (s : Int × Int) : Tree ((Int × Int) ⊕ (Unit)) :=
  (.br (decide (s.2 < ((v108.length : Nat) : Int))) (
   (.grd (inb (0 : Int) v107.length) <|
   (.grd (inb s.2 v108.length) <|
   (.call (spec_l06At_g v105 v106 (nth v107 (Int.toNat (0 : Int))) (nth v108 (Int.toNat s.2))) fun v120 =>
   (.br (!decide (v120 = (0 : Int))) (
    (.grd (sok (1 : Int) ((v107.length : Nat) : Int) v107.length) <|
    (.call (spec_l06Without_g v108 s.2) fun v121 =>
    .fail))
   ) (
    .leaf (.inl (IntKind.i64.wrap (0 - s.1), IntKind.i64.wrap (s.2 + (1 : Int))))
   )))))
  ) (
   .leaf (.inr ())
  ))

noncomputable def spec_l06Minor_i3_l0_g (v105 : Int) (v106 : List Int) (v107 : List Int) (v108 : List Int) (s0 : Int × Int) : Option (Unit) := whileM (fun s => (spec_l06Minor_i3_l0_T v105 v106 v107 v108 s).run) s0
def spec_l06Minor_i3_l0_E (v104 : Int) (v105 : Int) (v106 : List Int) (v107 : List Int) (v108 : List Int) (s : Int × Int) : Sd := ([.bptr (BR.root 0) [.int .i64 v104, .int .i64 v105, .bslc (BR.root 1) (.i64 v106)], .bslc (BR.root 2) (.i64 v107), .bslc (BR.root 3) (.i64 v108), .top, .top, .top, .top, .int .i64 (0 : Int), .int .i64 s.1, .int .i64 s.2, .top, .top, .top, .top, .top, .top, .top, .top, .top, .top, .top, .top, .top, .top, .top, .top, .top, .top, .top, .top, .top, .top, .top, .top, .top, .top, .top, .top, .top, .top, .top, .top, .top, .top, .top, .top, .top], [])
def spec_l06Minor_i3_l0_X (v104 : Int) (v105 : Int) (v106 : List Int) (v107 : List Int) (v108 : List Int) (x : Unit) : Out := (.normal, [.top, .top, .top, .top, .top, .top, .top, .int .i64 (0 : Int), .top, .top, .top, .top, .top, .top, .top, .top, .top, .top, .top, .top, .top, .top, .top, .top, .top, .top, .top, .top, .top, .top, .top, .top, .top, .top, .top, .top, .top, .top, .top, .top, .top, .top, .top, .top, .top, .top, .top], [])
def spec_l06Minor_i3_l0_kill : List Nat := [0, 0, 0, 1, 1, 1, 1, 0, 0, 0, 1, 1, 1, 1, 1, 1, 1, 1, 1, 1, 1, 1, 1, 1, 1, 1, 1, 1, 1, 1, 1, 1, 1, 1, 1, 1, 1, 1, 1, 1, 1, 1, 1, 1, 1, 1, 1]
def spec_l06Minor_i3_l0_nx : Exit → List Nat
  | .exit 0 => [1, 1, 1, 1, 1, 1, 1, 0, 1, 1, 1, 1, 1, 1, 1, 1, 1, 1, 1, 1, 1, 1, 1, 1, 1, 1, 1, 1, 1, 1, 1, 1, 1, 1, 1, 1, 1, 1, 1, 1, 1, 1, 1, 1, 1, 1, 1]
  | .ret => [1, 1, 1, 1, 1, 1, 0, 1, 1, 1, 1, 1, 1, 1, 1, 1, 1, 1, 1, 1, 1, 1, 1, 1, 1, 1, 1, 1, 1, 1, 1, 1, 1, 1, 1, 1, 1, 1, 1, 1, 1, 1, 1, 1, 1, 1, 1]
  | _ => []
noncomputable def spec_l06Minor_i3_LO (v104 : Int) (v105 : Int) (v106 : List Int) (v107 : List Int) (v108 : List Int) : LOr := fun id e L =>
  match id with
  | 0 => .need (normA 0 spec_l06Minor_i3_l0_kill e L = some (spec_l06Minor_i3_l0_E v104 v105 v106 v107 v108 ((gI (vAt e 8)), (gI (vAt e 9))))) (.call (spec_l06Minor_i3_l0_g v105 v106 v107 v108 ((gI (vAt e 8)), (gI (vAt e 9)))) fun x => .leaf (spec_l06Minor_i3_l0_X v104 v105 v106 v107 v108 x))
  | _ => .fail
noncomputable def spec_l06Minor_i3_tab : List (FuncId × DFn × Bool) := [(107, spec_l06At_F, true), (83, spec_l06Without_F, true)]
theorem spec_l06Minor_i3_hO : OrcOk Try.prog (tabD spec_l06Minor_i3_tab) (tabM spec_l06Minor_i3_tab) := tabD_cons spec_l06At_Fok (tabD_cons spec_l06Without_Fok (tabD_nil _))
theorem spec_l06Minor_i3_l0_be (v104 : Int) (v105 : Int) (v106 : List Int) (v107 : List Int) (v108 : List Int) (s : Int × Int) : bodyT TT (tabD spec_l06Minor_i3_tab) (tabM spec_l06Minor_i3_tab) (spec_l06Minor_i3_LO v104 v105 v106 v107 v108) 0 spec_l06Minor_i3_l0_kill spec_l06Minor_i3_l0_nx (bodyOf Try.f77 0) 0 (spec_l06Minor_i3_l0_E v104 v105 v106 v107 v108 s) = (spec_l06Minor_i3_l0_T v105 v106 v107 v108 s).bind fun y => .leaf (outS (spec_l06Minor_i3_l0_E v104 v105 v106 v107 v108) (spec_l06Minor_i3_l0_X v104 v105 v106 v107 v108) y) := by kernel_rfl
theorem spec_l06Minor_i3_l0_ok (v104 : Int) (v105 : Int) (v106 : List Int) (v107 : List Int) (v108 : List Int) : LSound Try.prog 0 (spec_l06Minor_i3_LO v104 v105 v106 v107 v108) 0 (bodyOf Try.f77 0) := by
  intro e L out h
  exact lo_ok (E := spec_l06Minor_i3_l0_E v104 v105 v106 v107 v108) (gT := spec_l06Minor_i3_l0_T v105 v106 v107 v108) (X := spec_l06Minor_i3_l0_X v104 v105 v106 v107 v108) (s0 := ((gI (vAt e 8)), (gI (vAt e 9)))) tok spec_l06Minor_i3_hO mixed (LoopsOk_eq (l := []) (by kernel_rfl) trivial) (spec_l06Minor_i3_l0_be v104 v105 v106 v107 v108) rfl (by intro x; rfl) h
noncomputable def spec_l06Minor_i3_T (v104 : Int) (v105 : Int) (v106 : List Int) (v107 : List Int) (v108 : List Int) : Tree (Int) :=
  (.br (decide (((v107.length : Nat) : Int) = (0 : Int))) (
   .leaf (1 : Int)
  ) (
   (.need (some (spec_l06Minor_i3_l0_E v104 v105 v106 v107 v108 ((1 : Int), (0 : Int))) = some (spec_l06Minor_i3_l0_E v104 v105 v106 v107 v108 ((1 : Int), (0 : Int)))) <|
   (.call (spec_l06Minor_i3_l0_g v105 v106 v107 v108 ((1 : Int), (0 : Int))) fun v122 =>
   .leaf (0 : Int)))
  ))

noncomputable def spec_l06Minor_i3_g (v104 : Int) (v105 : Int) (v106 : List Int) (v107 : List Int) (v108 : List Int) : Option (Int) := (spec_l06Minor_i3_T v104 v105 v106 v107 v108).run
def spec_l06Minor_i3_enc (v104 : Int) (v105 : Int) (v106 : List Int) (v107 : List Int) (v108 : List Int) (y : Int) : Rs := (.int .i64 y, [])
theorem spec_l06Minor_i3_den (v104 : Int) (v105 : Int) (v106 : List Int) (v107 : List Int) (v108 : List Int) : (den TT (tabD spec_l06Minor_i3_tab) (tabM spec_l06Minor_i3_tab) (spec_l06Minor_i3_LO v104 v105 v106 v107 v108) (codeOf Try.f77) ([.bptr (BR.root 0) [.int .i64 v104, .int .i64 v105, .bslc (BR.root 1) (.i64 v106)], .bslc (BR.root 2) (.i64 v107), .bslc (BR.root 3) (.i64 v108)] ++ List.replicate (Try.f77.ntmps - ([.bptr (BR.root 0) [.int .i64 v104, .int .i64 v105, .bslc (BR.root 1) (.i64 v106)], .bslc (BR.root 2) (.i64 v107), .bslc (BR.root 3) (.i64 v108)] : List DV).length) .undef) []).bind (retD TT Try.f77.results.toList 0) = (spec_l06Minor_i3_T v104 v105 v106 v107 v108).bind fun y => .leaf (spec_l06Minor_i3_enc v104 v105 v106 v107 v108 y) := by kernel_rfl
theorem spec_l06Minor_i3_fn (v104 : Int) (v105 : Int) (v106 : List Int) (v107 : List Int) (v108 : List Int) (F : Fr) (hm : F.ids.length = 0) (h0 : St F [] F.H0) (hA : DVs.Ok F [] [.bptr (BR.root 0) [.int .i64 v104, .int .i64 v105, .bslc (BR.root 1) (.i64 v106)], .bslc (BR.root 2) (.i64 v107), .bslc (BR.root 3) (.i64 v108)]) {y : Int} (hy : spec_l06Minor_i3_g v104 v105 v106 v107 v108 = some y) : ∃ H', FnOk Try.prog 77 (DVs.av F [.bptr (BR.root 0) [.int .i64 v104, .int .i64 v105, .bslc (BR.root 1) (.i64 v106)], .bslc (BR.root 2) (.i64 v107), .bslc (BR.root 3) (.i64 v108)]) F.H0 ((spec_l06Minor_i3_enc v104 v105 v106 v107 v108 y).1.av F) H' ∧ St F (spec_l06Minor_i3_enc v104 v105 v106 v107 v108 y).2 H' ∧ (spec_l06Minor_i3_enc v104 v105 v106 v107 v108 y).1.Ok F (spec_l06Minor_i3_enc v104 v105 v106 v107 v108 y).2 :=
  fn_fin tok spec_l06Minor_i3_hO mixed Try.func77 Try.call77 (by kernel_rfl) (LoopsOk_eq (l := [(0, bodyOf Try.f77 0)]) (by kernel_rfl) ⟨spec_l06Minor_i3_l0_ok v104 v105 v106 v107 v108, trivial⟩) (spec_l06Minor_i3_den v104 v105 v106 v107 v108) hy hm h0 hA
noncomputable def spec_l06Minor_i3_F : DFn := fun args L =>
  match args with
  | [a1, a3, a4] =>
    optT (cellsOf L 3 a1) fun cs0 =>
    (match cs0 with
    | [.int .i64 v104, .int .i64 v105, a2] =>
    optT (rowI64 L a2) fun v106 =>
    optT (rowI64 L a3) fun v107 =>
    optT (rowI64 L a4) fun v108 =>
    .call (spec_l06Minor_i3_g v104 v105 v106 v107 v108) fun y => .leaf (.int .i64 y, L)
    | _ => .fail)
  | _ => .fail
theorem spec_l06Minor_i3_Fok : COk Try.prog 77 spec_l06Minor_i3_F true := by
  intro F L H args r L' hs ha hr
  unfold spec_l06Minor_i3_F at hr
  split at hr
  · rename_i a1 a3 a4
    obtain ⟨cs0, hcp0, hr⟩ := optT_run hr
    split at hr
    · rename_i v104 v105 a2
      obtain ⟨v106, hv106, hr⟩ := optT_run hr
      obtain ⟨v107, hv107, hr⟩ := optT_run hr
      obtain ⟨v108, hv108, hr⟩ := optT_run hr
      simp only [Tree.run] at hr
      obtain ⟨y, hy, hr⟩ := Option.bind_eq_some_iff.1 hr
      simp only [Tree.run, Option.some.injEq, Prod.mk.injEq] at hr
      obtain ⟨rfl, rfl⟩ := hr
      exact call_ok0 hs (fun k => (([a1.av F, a2.av F, a3.av F, a4.av F] : List AV)[k]?).getD .top) [a1, a3, a4] [.bptr (BR.root 0) [.int .i64 v104, .int .i64 v105, .bslc (BR.root 1) (.i64 v106)], .bslc (BR.root 2) (.i64 v107), .bslc (BR.root 3) (.i64 v108)] (fun F' h0 hi hρ => ⟨by simp [DVs.av, DV.av, BR.av, hρ], spec_l06Minor_i3_fn v104 v105 v106 v107 v108 F' (by rw [hi]; rfl) (st_nil hi) ⟨bptr_ok hi (by rw [h0]; simpa [DVs.av, DV.av, BR.av, hρ] using (cellsOf_ok hs (DVs.okAt ha 0 rfl) hcp0).1) ⟨trivial, trivial, bslc_ok hi (by rw [h0, hρ]; exact rowI64_ok hs (DVs.okAt (cellsOf_ok hs (DVs.okAt ha 0 rfl) hcp0).2 2 rfl) hv106), trivial⟩, bslc_ok hi (by rw [h0, hρ]; exact rowI64_ok hs (DVs.okAt ha 1 rfl) hv107), bslc_ok hi (by rw [h0, hρ]; exact rowI64_ok hs (DVs.okAt ha 2 rfl) hv108), trivial⟩ hy⟩) rfl
    · cases hr
  · cases hr
/-! spec.l06Minor -/
noncomputable def spec_l06Minor_i2_l0_T (v94 : Int) (v95 : Int) (v96 : List Int) (v97 : List Int) (v98 : List Int) (s : Int × Int × Int) : Tree ((Int × Int × Int) ⊕ (Int)) :=
  (.br (decide (s.2.2 < ((v98.length : Nat) : Int))) (
   (.grd (inb (0 : Int) v97.length) <|
   (.grd (inb s.2.2 v98.length) <|
   (.call (spec_l06At_g v95 v96 (nth v97 (Int.toNat (0 : Int))) (nth v98 (Int.toNat s.2.2))) fun v133 =>
   (.br (!decide (v133 = (0 : Int))) (
    (.grd (sok (1 : Int) ((v97.length : Nat) : Int) v97.length) <|
    (.call (spec_l06Without_g v98 s.2.2) fun v134 =>
    (.call (spec_l06Minor_i3_g v94 v95 v96 (AM.sub v97 (1 : Int) ((v97.length : Nat) : Int)) ((([] : List Int) ++ (AM.sub v98 (0 : Int) s.2.2)) ++ (AM.sub v98 (IntKind.i64.wrap (s.2.2 + (1 : Int))) ((v98.length : Nat) : Int)))) fun v135 =>
    .leaf (.inl (IntKind.i64.wrap (s.1 + (IntKind.i64.wrap ((IntKind.i64.wrap (s.2.1 * v133)) * v135))), IntKind.i64.wrap (0 - s.2.1), IntKind.i64.wrap (s.2.2 + (1 : Int)))))))
   ) (
    .leaf (.inl (s.1, IntKind.i64.wrap (0 - s.2.1), IntKind.i64.wrap (s.2.2 + (1 : Int))))
   )))))
  ) (
   .leaf (.inr s.1)
  ))

noncomputable def spec_l06Minor_i2_l0_g (v94 : Int) (v95 : Int) (v96 : List Int) (v97 : List Int) (v98 : List Int) (s0 : Int × Int × Int) : Option (Int) := whileM (fun s => (spec_l06Minor_i2_l0_T v94 v95 v96 v97 v98 s).run) s0
def spec_l06Minor_i2_l0_E (v94 : Int) (v95 : Int) (v96 : List Int) (v97 : List Int) (v98 : List Int) (s : Int × Int × Int) : Sd := ([.bptr (BR.root 0) [.int .i64 v94, .int .i64 v95, .bslc (BR.root 1) (.i64 v96)], .bslc (BR.root 2) (.i64 v97), .bslc (BR.root 3) (.i64 v98), .top, .top, .top, .top, .int .i64 s.1, .int .i64 s.2.1, .int .i64 s.2.2, .top, .top, .top, .top, .top, .top, .top, .top, .top, .top, .top, .top, .top, .top, .top, .top, .top, .top, .top, .top, .top, .top, .top, .top, .top, .top, .top, .top, .top, .top, .top, .top, .top, .top, .top, .top, .top], [])
def spec_l06Minor_i2_l0_X (v94 : Int) (v95 : Int) (v96 : List Int) (v97 : List Int) (v98 : List Int) (x : Int) : Out := (.normal, [.top, .top, .top, .top, .top, .top, .top, .int .i64 x, .top, .top, .top, .top, .top, .top, .top, .top, .top, .top, .top, .top, .top, .top, .top, .top, .top, .top, .top, .top, .top, .top, .top, .top, .top, .top, .top, .top, .top, .top, .top, .top, .top, .top, .top, .top, .top, .top, .top], [])
def spec_l06Minor_i2_l0_kill : List Nat := [0, 0, 0, 1, 1, 1, 1, 0, 0, 0, 1, 1, 1, 1, 1, 1, 1, 1, 1, 1, 1, 1, 1, 1, 1, 1, 1, 1, 1, 1, 1, 1, 1, 1, 1, 1, 1, 1, 1, 1, 1, 1, 1, 1, 1, 1, 1]
def spec_l06Minor_i2_l0_nx : Exit → List Nat
  | .exit 0 => [1, 1, 1, 1, 1, 1, 1, 0, 1, 1, 1, 1, 1, 1, 1, 1, 1, 1, 1, 1, 1, 1, 1, 1, 1, 1, 1, 1, 1, 1, 1, 1, 1, 1, 1, 1, 1, 1, 1, 1, 1, 1, 1, 1, 1, 1, 1]
  | .ret => [1, 1, 1, 1, 1, 1, 0, 1, 1, 1, 1, 1, 1, 1, 1, 1, 1, 1, 1, 1, 1, 1, 1, 1, 1, 1, 1, 1, 1, 1, 1, 1, 1, 1, 1, 1, 1, 1, 1, 1, 1, 1, 1, 1, 1, 1, 1]
  | _ => []
noncomputable def spec_l06Minor_i2_LO (v94 : Int) (v95 : Int) (v96 : List Int) (v97 : List Int) (v98 : List Int) : LOr := fun id e L =>
  match id with
  | 0 => .need (normA 0 spec_l06Minor_i2_l0_kill e L = some (spec_l06Minor_i2_l0_E v94 v95 v96 v97 v98 ((gI (vAt e 7)), (gI (vAt e 8)), (gI (vAt e 9))))) (.call (spec_l06Minor_i2_l0_g v94 v95 v96 v97 v98 ((gI (vAt e 7)), (gI (vAt e 8)), (gI (vAt e 9)))) fun x => .leaf (spec_l06Minor_i2_l0_X v94 v95 v96 v97 v98 x))
  | _ => .fail
noncomputable def spec_l06Minor_i2_tab : List (FuncId × DFn × Bool) := [(107, spec_l06At_F, true), (83, spec_l06Without_F, true), (77, spec_l06Minor_i3_F, true)]
theorem spec_l06Minor_i2_hO : OrcOk Try.prog (tabD spec_l06Minor_i2_tab) (tabM spec_l06Minor_i2_tab) := tabD_cons spec_l06At_Fok (tabD_cons spec_l06Without_Fok (tabD_cons spec_l06Minor_i3_Fok (tabD_nil _)))
theorem spec_l06Minor_i2_l0_be (v94 : Int) (v95 : Int) (v96 : List Int) (v97 : List Int) (v98 : List Int) (s : Int × Int × Int) : bodyT TT (tabD spec_l06Minor_i2_tab) (tabM spec_l06Minor_i2_tab) (spec_l06Minor_i2_LO v94 v95 v96 v97 v98) 0 spec_l06Minor_i2_l0_kill spec_l06Minor_i2_l0_nx (bodyOf Try.f77 0) 0 (spec_l06Minor_i2_l0_E v94 v95 v96 v97 v98 s) = (spec_l06Minor_i2_l0_T v94 v95 v96 v97 v98 s).bind fun y => .leaf (outS (spec_l06Minor_i2_l0_E v94 v95 v96 v97 v98) (spec_l06Minor_i2_l0_X v94 v95 v96 v97 v98) y) := by kernel_rfl
theorem spec_l06Minor_i2_l0_ok (v94 : Int) (v95 : Int) (v96 : List Int) (v97 : List Int) (v98 : List Int) : LSound Try.prog 0 (spec_l06Minor_i2_LO v94 v95 v96 v97 v98) 0 (bodyOf Try.f77 0) := by
  intro e L out h
  exact lo_ok (E := spec_l06Minor_i2_l0_E v94 v95 v96 v97 v98) (gT := spec_l06Minor_i2_l0_T v94 v95 v96 v97 v98) (X := spec_l06Minor_i2_l0_X v94 v95 v96 v97 v98) (s0 := ((gI (vAt e 7)), (gI (vAt e 8)), (gI (vAt e 9)))) tok spec_l06Minor_i2_hO mixed (LoopsOk_eq (l := []) (by kernel_rfl) trivial) (spec_l06Minor_i2_l0_be v94 v95 v96 v97 v98) rfl (by intro x; rfl) h
noncomputable def spec_l06Minor_i2_T (v94 : Int) (v95 : Int) (v96 : List Int) (v97 : List Int) (v98 : List Int) : Tree (Int) :=
  (.br (decide (((v97.length : Nat) : Int) = (0 : Int))) (
   .leaf (1 : Int)
  ) (
   (.need (some (spec_l06Minor_i2_l0_E v94 v95 v96 v97 v98 ((0 : Int), (1 : Int), (0 : Int))) = some (spec_l06Minor_i2_l0_E v94 v95 v96 v97 v98 ((0 : Int), (1 : Int), (0 : Int)))) <|
   (.call (spec_l06Minor_i2_l0_g v94 v95 v96 v97 v98 ((0 : Int), (1 : Int), (0 : Int))) fun v136 =>
   .leaf v136))
  ))

noncomputable def spec_l06Minor_i2_g (v94 : Int) (v95 : Int) (v96 : List Int) (v97 : List Int) (v98 : List Int) : Option (Int) := (spec_l06Minor_i2_T v94 v95 v96 v97 v98).run
def spec_l06Minor_i2_enc (v94 : Int) (v95 : Int) (v96 : List Int) (v97 : List Int) (v98 : List Int) (y : Int) : Rs := (.int .i64 y, [])
theorem spec_l06Minor_i2_den (v94 : Int) (v95 : Int) (v96 : List Int) (v97 : List Int) (v98 : List Int) : (den TT (tabD spec_l06Minor_i2_tab) (tabM spec_l06Minor_i2_tab) (spec_l06Minor_i2_LO v94 v95 v96 v97 v98) (codeOf Try.f77) ([.bptr (BR.root 0) [.int .i64 v94, .int .i64 v95, .bslc (BR.root 1) (.i64 v96)], .bslc (BR.root 2) (.i64 v97), .bslc (BR.root 3) (.i64 v98)] ++ List.replicate (Try.f77.ntmps - ([.bptr (BR.root 0) [.int .i64 v94, .int .i64 v95, .bslc (BR.root 1) (.i64 v96)], .bslc (BR.root 2) (.i64 v97), .bslc (BR.root 3) (.i64 v98)] : List DV).length) .undef) []).bind (retD TT Try.f77.results.toList 0) = (spec_l06Minor_i2_T v94 v95 v96 v97 v98).bind fun y => .leaf (spec_l06Minor_i2_enc v94 v95 v96 v97 v98 y) := by kernel_rfl
theorem spec_l06Minor_i2_fn (v94 : Int) (v95 : Int) (v96 : List Int) (v97 : List Int) (v98 : List Int) (F : Fr) (hm : F.ids.length = 0) (h0 : St F [] F.H0) (hA : DVs.Ok F [] [.bptr (BR.root 0) [.int .i64 v94, .int .i64 v95, .bslc (BR.root 1) (.i64 v96)], .bslc (BR.root 2) (.i64 v97), .bslc (BR.root 3) (.i64 v98)]) {y : Int} (hy : spec_l06Minor_i2_g v94 v95 v96 v97 v98 = some y) : ∃ H', FnOk Try.prog 77 (DVs.av F [.bptr (BR.root 0) [.int .i64 v94, .int .i64 v95, .bslc (BR.root 1) (.i64 v96)], .bslc (BR.root 2) (.i64 v97), .bslc (BR.root 3) (.i64 v98)]) F.H0 ((spec_l06Minor_i2_enc v94 v95 v96 v97 v98 y).1.av F) H' ∧ St F (spec_l06Minor_i2_enc v94 v95 v96 v97 v98 y).2 H' ∧ (spec_l06Minor_i2_enc v94 v95 v96 v97 v98 y).1.Ok F (spec_l06Minor_i2_enc v94 v95 v96 v97 v98 y).2 :=
  fn_fin tok spec_l06Minor_i2_hO mixed Try.func77 Try.call77 (by kernel_rfl) (LoopsOk_eq (l := [(0, bodyOf Try.f77 0)]) (by kernel_rfl) ⟨spec_l06Minor_i2_l0_ok v94 v95 v96 v97 v98, trivial⟩) (spec_l06Minor_i2_den v94 v95 v96 v97 v98) hy hm h0 hA
noncomputable def spec_l06Minor_i2_F : DFn := fun args L =>
  match args with
  | [a1, a3, a4] =>
    optT (cellsOf L 3 a1) fun cs0 =>
    (match cs0 with
    | [.int .i64 v94, .int .i64 v95, a2] =>
    optT (rowI64 L a2) fun v96 =>
    optT (rowI64 L a3) fun v97 =>
    optT (rowI64 L a4) fun v98 =>
    .call (spec_l06Minor_i2_g v94 v95 v96 v97 v98) fun y => .leaf (.int .i64 y, L)
    | _ => .fail)
  | _ => .fail
theorem spec_l06Minor_i2_Fok : COk Try.prog 77 spec_l06Minor_i2_F true := by
  intro F L H args r L' hs ha hr
  unfold spec_l06Minor_i2_F at hr
  split at hr
  · rename_i a1 a3 a4
    obtain ⟨cs0, hcp0, hr⟩ := optT_run hr
    split at hr
    · rename_i v94 v95 a2
      obtain ⟨v96, hv96, hr⟩ := optT_run hr
      obtain ⟨v97, hv97, hr⟩ := optT_run hr
      obtain ⟨v98, hv98, hr⟩ := optT_run hr
      simp only [Tree.run] at hr
      obtain ⟨y, hy, hr⟩ := Option.bind_eq_some_iff.1 hr
      simp only [Tree.run, Option.some.injEq, Prod.mk.injEq] at hr
      obtain ⟨rfl, rfl⟩ := hr
      exact call_ok0 hs (fun k => (([a1.av F, a2.av F, a3.av F, a4.av F] : List AV)[k]?).getD .top) [a1, a3, a4] [.bptr (BR.root 0) [.int .i64 v94, .int .i64 v95, .bslc (BR.root 1) (.i64 v96)], .bslc (BR.root 2) (.i64 v97), .bslc (BR.root 3) (.i64 v98)] (fun F' h0 hi hρ => ⟨by simp [DVs.av, DV.av, BR.av, hρ], spec_l06Minor_i2_fn v94 v95 v96 v97 v98 F' (by rw [hi]; rfl) (st_nil hi) ⟨bptr_ok hi (by rw [h0]; simpa [DVs.av, DV.av, BR.av, hρ] using (cellsOf_ok hs (DVs.okAt ha 0 rfl) hcp0).1) ⟨trivial, trivial, bslc_ok hi (by rw [h0, hρ]; exact rowI64_ok hs (DVs.okAt (cellsOf_ok hs (DVs.okAt ha 0 rfl) hcp0).2 2 rfl) hv96), trivial⟩, bslc_ok hi (by rw [h0, hρ]; exact rowI64_ok hs (DVs.okAt ha 1 rfl) hv97), bslc_ok hi (by rw [h0, hρ]; exact rowI64_ok hs (DVs.okAt ha 2 rfl) hv98), trivial⟩ hy⟩) rfl
    · cases hr
  · cases hr
/-! spec.l06Minor -/
noncomputable def spec_l06Minor_i1_l0_T (v84 : Int) (v85 : Int) (v86 : List Int) (v87 : List Int) (v88 : List Int) (s : Int × Int × Int) : Tree ((Int × Int × Int) ⊕ (Int)) :=
  (.br (decide (s.2.2 < ((v88.length : Nat) : Int))) (
   (.grd (inb (0 : Int) v87.length) <|
   (.grd (inb s.2.2 v88.length) <|
   (.call (spec_l06At_g v85 v86 (nth v87 (Int.toNat (0 : Int))) (nth v88 (Int.toNat s.2.2))) fun v147 =>
   (.br (!decide (v147 = (0 : Int))) (
    (.grd (sok (1 : Int) ((v87.length : Nat) : Int) v87.length) <|
    (.call (spec_l06Without_g v88 s.2.2) fun v148 =>
    (.call (spec_l06Minor_i2_g v84 v85 v86 (AM.sub v87 (1 : Int) ((v87.length : Nat) : Int)) ((([] : List Int) ++ (AM.sub v88 (0 : Int) s.2.2)) ++ (AM.sub v88 (IntKind.i64.wrap (s.2.2 + (1 : Int))) ((v88.length : Nat) : Int)))) fun v149 =>
    .leaf (.inl (IntKind.i64.wrap (s.1 + (IntKind.i64.wrap ((IntKind.i64.wrap (s.2.1 * v147)) * v149))), IntKind.i64.wrap (0 - s.2.1), IntKind.i64.wrap (s.2.2 + (1 : Int)))))))
   ) (
    .leaf (.inl (s.1, IntKind.i64.wrap (0 - s.2.1), IntKind.i64.wrap (s.2.2 + (1 : Int))))
   )))))
  ) (
   .leaf (.inr s.1)
  ))

noncomputable def spec_l06Minor_i1_l0_g (v84 : Int) (v85 : Int) (v86 : List Int) (v87 : List Int) (v88 : List Int) (s0 : Int × Int × Int) : Option (Int) := whileM (fun s => (spec_l06Minor_i1_l0_T v84 v85 v86 v87 v88 s).run) s0
def spec_l06Minor_i1_l0_E (v84 : Int) (v85 : Int) (v86 : List Int) (v87 : List Int) (v88 : List Int) (s : Int × Int × Int) : Sd := ([.bptr (BR.root 0) [.int .i64 v84, .int .i64 v85, .bslc (BR.root 1) (.i64 v86)], .bslc (BR.root 2) (.i64 v87), .bslc (BR.root 3) (.i64 v88), .top, .top, .top, .top, .int .i64 s.1, .int .i64 s.2.1, .int .i64 s.2.2, .top, .top, .top, .top, .top, .top, .top, .top, .top, .top, .top, .top, .top, .top, .top, .top, .top, .top, .top, .top, .top, .top, .top, .top, .top, .top, .top, .top, .top, .top, .top, .top, .top, .top, .top, .top, .top], [])
def spec_l06Minor_i1_l0_X (v84 : Int) (v85 : Int) (v86 : List Int) (v87 : List Int) (v88 : List Int) (x : Int) : Out := (.normal, [.top, .top, .top, .top, .top, .top, .top, .int .i64 x, .top, .top, .top, .top, .top, .top, .top, .top, .top, .top, .top, .top, .top, .top, .top, .top, .top, .top, .top, .top, .top, .top, .top, .top, .top, .top, .top, .top, .top, .top, .top, .top, .top, .top, .top, .top, .top, .top, .top], [])
def spec_l06Minor_i1_l0_kill : List Nat := [0, 0, 0, 1, 1, 1, 1, 0, 0, 0, 1, 1, 1, 1, 1, 1, 1, 1, 1, 1, 1, 1, 1, 1, 1, 1, 1, 1, 1, 1, 1, 1, 1, 1, 1, 1, 1, 1, 1, 1, 1, 1, 1, 1, 1, 1, 1]
def spec_l06Minor_i1_l0_nx : Exit → List Nat
  | .exit 0 => [1, 1, 1, 1, 1, 1, 1, 0, 1, 1, 1, 1, 1, 1, 1, 1, 1, 1, 1, 1, 1, 1, 1, 1, 1, 1, 1, 1, 1, 1, 1, 1, 1, 1, 1, 1, 1, 1, 1, 1, 1, 1, 1, 1, 1, 1, 1]
  | .ret => [1, 1, 1, 1, 1, 1, 0, 1, 1, 1, 1, 1, 1, 1, 1, 1, 1, 1, 1, 1, 1, 1, 1, 1, 1, 1, 1, 1, 1, 1, 1, 1, 1, 1, 1, 1, 1, 1, 1, 1, 1, 1, 1, 1, 1, 1, 1]
  | _ => []
noncomputable def spec_l06Minor_i1_LO (v84 : Int) (v85 : Int) (v86 : List Int) (v87 : List Int) (v88 : List Int) : LOr := fun id e L =>
  match id with
  | 0 => .need (normA 0 spec_l06Minor_i1_l0_kill e L = some (spec_l06Minor_i1_l0_E v84 v85 v86 v87 v88 ((gI (vAt e 7)), (gI (vAt e 8)), (gI (vAt e 9))))) (.call (spec_l06Minor_i1_l0_g v84 v85 v86 v87 v88 ((gI (vAt e 7)), (gI (vAt e 8)), (gI (vAt e 9)))) fun x => .leaf (spec_l06Minor_i1_l0_X v84 v85 v86 v87 v88 x))
  | _ => .fail
noncomputable def spec_l06Minor_i1_tab : List (FuncId × DFn × Bool) := [(107, spec_l06At_F, true), (83, spec_l06Without_F, true), (77, spec_l06Minor_i2_F, true)]
theorem spec_l06Minor_i1_hO : OrcOk Try.prog (tabD spec_l06Minor_i1_tab) (tabM spec_l06Minor_i1_tab) := tabD_cons spec_l06At_Fok (tabD_cons spec_l06Without_Fok (tabD_cons spec_l06Minor_i2_Fok (tabD_nil _)))
theorem spec_l06Minor_i1_l0_be (v84 : Int) (v85 : Int) (v86 : List Int) (v87 : List Int) (v88 : List Int) (s : Int × Int × Int) : bodyT TT (tabD spec_l06Minor_i1_tab) (tabM spec_l06Minor_i1_tab) (spec_l06Minor_i1_LO v84 v85 v86 v87 v88) 0 spec_l06Minor_i1_l0_kill spec_l06Minor_i1_l0_nx (bodyOf Try.f77 0) 0 (spec_l06Minor_i1_l0_E v84 v85 v86 v87 v88 s) = (spec_l06Minor_i1_l0_T v84 v85 v86 v87 v88 s).bind fun y => .leaf (outS (spec_l06Minor_i1_l0_E v84 v85 v86 v87 v88) (spec_l06Minor_i1_l0_X v84 v85 v86 v87 v88) y) := by kernel_rfl
theorem spec_l06Minor_i1_l0_ok (v84 : Int) (v85 : Int) (v86 : List Int) (v87 : List Int) (v88 : List Int) : LSound Try.prog 0 (spec_l06Minor_i1_LO v84 v85 v86 v87 v88) 0 (bodyOf Try.f77 0) := by
  intro e L out h
  exact lo_ok (E := spec_l06Minor_i1_l0_E v84 v85 v86 v87 v88) (gT := spec_l06Minor_i1_l0_T v84 v85 v86 v87 v88) (X := spec_l06Minor_i1_l0_X v84 v85 v86 v87 v88) (s0 := ((gI (vAt e 7)), (gI (vAt e 8)), (gI (vAt e 9)))) tok spec_l06Minor_i1_hO mixed (LoopsOk_eq (l := []) (by kernel_rfl) trivial) (spec_l06Minor_i1_l0_be v84 v85 v86 v87 v88) rfl (by intro x; rfl) h
noncomputable def spec_l06Minor_i1_T (v84 : Int) (v85 : Int) (v86 : List Int) (v87 : List Int) (v88 : List Int) : Tree (Int) :=
  (.br (decide (((v87.length : Nat) : Int) = (0 : Int))) (
   .leaf (1 : Int)
  ) (
   (.need (some (spec_l06Minor_i1_l0_E v84 v85 v86 v87 v88 ((0 : Int), (1 : Int), (0 : Int))) = some (spec_l06Minor_i1_l0_E v84 v85 v86 v87 v88 ((0 : Int), (1 : Int), (0 : Int)))) <|
   (.call (spec_l06Minor_i1_l0_g v84 v85 v86 v87 v88 ((0 : Int), (1 : Int), (0 : Int))) fun v150 =>
   .leaf v150))
  ))

noncomputable def spec_l06Minor_i1_g (v84 : Int) (v85 : Int) (v86 : List Int) (v87 : List Int) (v88 : List Int) : Option (Int) := (spec_l06Minor_i1_T v84 v85 v86 v87 v88).run
def spec_l06Minor_i1_enc (v84 : Int) (v85 : Int) (v86 : List Int) (v87 : List Int) (v88 : List Int) (y : Int) : Rs := (.int .i64 y, [])
theorem spec_l06Minor_i1_den (v84 : Int) (v85 : Int) (v86 : List Int) (v87 : List Int) (v88 : List Int) : (den TT (tabD spec_l06Minor_i1_tab) (tabM spec_l06Minor_i1_tab) (spec_l06Minor_i1_LO v84 v85 v86 v87 v88) (codeOf Try.f77) ([.bptr (BR.root 0) [.int .i64 v84, .int .i64 v85, .bslc (BR.root 1) (.i64 v86)], .bslc (BR.root 2) (.i64 v87), .bslc (BR.root 3) (.i64 v88)] ++ List.replicate (Try.f77.ntmps - ([.bptr (BR.root 0) [.int .i64 v84, .int .i64 v85, .bslc (BR.root 1) (.i64 v86)], .bslc (BR.root 2) (.i64 v87), .bslc (BR.root 3) (.i64 v88)] : List DV).length) .undef) []).bind (retD TT Try.f77.results.toList 0) = (spec_l06Minor_i1_T v84 v85 v86 v87 v88).bind fun y => .leaf (spec_l06Minor_i1_enc v84 v85 v86 v87 v88 y) := by kernel_rfl
theorem spec_l06Minor_i1_fn (v84 : Int) (v85 : Int) (v86 : List Int) (v87 : List Int) (v88 : List Int) (F : Fr) (hm : F.ids.length = 0) (h0 : St F [] F.H0) (hA : DVs.Ok F [] [.bptr (BR.root 0) [.int .i64 v84, .int .i64 v85, .bslc (BR.root 1) (.i64 v86)], .bslc (BR.root 2) (.i64 v87), .bslc (BR.root 3) (.i64 v88)]) {y : Int} (hy : spec_l06Minor_i1_g v84 v85 v86 v87 v88 = some y) : ∃ H', FnOk Try.prog 77 (DVs.av F [.bptr (BR.root 0) [.int .i64 v84, .int .i64 v85, .bslc (BR.root 1) (.i64 v86)], .bslc (BR.root 2) (.i64 v87), .bslc (BR.root 3) (.i64 v88)]) F.H0 ((spec_l06Minor_i1_enc v84 v85 v86 v87 v88 y).1.av F) H' ∧ St F (spec_l06Minor_i1_enc v84 v85 v86 v87 v88 y).2 H' ∧ (spec_l06Minor_i1_enc v84 v85 v86 v87 v88 y).1.Ok F (spec_l06Minor_i1_enc v84 v85 v86 v87 v88 y).2 :=
  fn_fin tok spec_l06Minor_i1_hO mixed Try.func77 Try.call77 (by kernel_rfl) (LoopsOk_eq (l := [(0, bodyOf Try.f77 0)]) (by kernel_rfl) ⟨spec_l06Minor_i1_l0_ok v84 v85 v86 v87 v88, trivial⟩) (spec_l06Minor_i1_den v84 v85 v86 v87 v88) hy hm h0 hA
noncomputable def spec_l06Minor_i1_F : DFn := fun args L =>
  match args with
  | [a1, a3, a4] =>
    optT (cellsOf L 3 a1) fun cs0 =>
    (match cs0 with
    | [.int .i64 v84, .int .i64 v85, a2] =>
    optT (rowI64 L a2) fun v86 =>
    optT (rowI64 L a3) fun v87 =>
    optT (rowI64 L a4) fun v88 =>
    .call (spec_l06Minor_i1_g v84 v85 v86 v87 v88) fun y => .leaf (.int .i64 y, L)
    | _ => .fail)
  | _ => .fail
theorem spec_l06Minor_i1_Fok : COk Try.prog 77 spec_l06Minor_i1_F true := by
  intro F L H args r L' hs ha hr
  unfold spec_l06Minor_i1_F at hr
  split at hr
  · rename_i a1 a3 a4
    obtain ⟨cs0, hcp0, hr⟩ := optT_run hr
    split at hr
    · rename_i v84 v85 a2
      obtain ⟨v86, hv86, hr⟩ := optT_run hr
      obtain ⟨v87, hv87, hr⟩ := optT_run hr
      obtain ⟨v88, hv88, hr⟩ := optT_run hr
      simp only [Tree.run] at hr
      obtain ⟨y, hy, hr⟩ := Option.bind_eq_some_iff.1 hr
      simp only [Tree.run, Option.some.injEq, Prod.mk.injEq] at hr
      obtain ⟨rfl, rfl⟩ := hr
      exact call_ok0 hs (fun k => (([a1.av F, a2.av F, a3.av F, a4.av F] : List AV)[k]?).getD .top) [a1, a3, a4] [.bptr (BR.root 0) [.int .i64 v84, .int .i64 v85, .bslc (BR.root 1) (.i64 v86)], .bslc (BR.root 2) (.i64 v87), .bslc (BR.root 3) (.i64 v88)] (fun F' h0 hi hρ => ⟨by simp [DVs.av, DV.av, BR.av, hρ], spec_l06Minor_i1_fn v84 v85 v86 v87 v88 F' (by rw [hi]; rfl) (st_nil hi) ⟨bptr_ok hi (by rw [h0]; simpa [DVs.av, DV.av, BR.av, hρ] using (cellsOf_ok hs (DVs.okAt ha 0 rfl) hcp0).1) ⟨trivial, trivial, bslc_ok hi (by rw [h0, hρ]; exact rowI64_ok hs (DVs.okAt (cellsOf_ok hs (DVs.okAt ha 0 rfl) hcp0).2 2 rfl) hv86), trivial⟩, bslc_ok hi (by rw [h0, hρ]; exact rowI64_ok hs (DVs.okAt ha 1 rfl) hv87), bslc_ok hi (by rw [h0, hρ]; exact rowI64_ok hs (DVs.okAt ha 2 rfl) hv88), trivial⟩ hy⟩) rfl
    · cases hr
  · cases hr
/-! spec.l06Minor -/
noncomputable def spec_l06Minor_l0_T (v69 : Int) (v70 : Int) (v71 : List Int) (v72 : List Int) (v73 : List Int) (s : Int × Int × Int) : Tree ((Int × Int × Int) ⊕ (Int)) :=
  (.br (decide (s.2.2 < ((v73.length : Nat) : Int))) (
   (.grd (inb (0 : Int) v72.length) <|
   (.grd (inb s.2.2 v73.length) <|
   (.call (spec_l06At_g v70 v71 (nth v72 (Int.toNat (0 : Int))) (nth v73 (Int.toNat s.2.2))) fun v161 =>
   (.br (!decide (v161 = (0 : Int))) (
    (.grd (sok (1 : Int) ((v72.length : Nat) : Int) v72.length) <|
    (.call (spec_l06Without_g v73 s.2.2) fun v162 =>
    (.call (spec_l06Minor_i1_g v69 v70 v71 (AM.sub v72 (1 : Int) ((v72.length : Nat) : Int)) ((([] : List Int) ++ (AM.sub v73 (0 : Int) s.2.2)) ++ (AM.sub v73 (IntKind.i64.wrap (s.2.2 + (1 : Int))) ((v73.length : Nat) : Int)))) fun v163 =>
    .leaf (.inl (IntKind.i64.wrap (s.1 + (IntKind.i64.wrap ((IntKind.i64.wrap (s.2.1 * v161)) * v163))), IntKind.i64.wrap (0 - s.2.1), IntKind.i64.wrap (s.2.2 + (1 : Int)))))))
   ) (
    .leaf (.inl (s.1, IntKind.i64.wrap (0 - s.2.1), IntKind.i64.wrap (s.2.2 + (1 : Int))))
   )))))
  ) (
   .leaf (.inr s.1)
  ))

noncomputable def spec_l06Minor_l0_g (v69 : Int) (v70 : Int) (v71 : List Int) (v72 : List Int) (v73 : List Int) (s0 : Int × Int × Int) : Option (Int) := whileM (fun s => (spec_l06Minor_l0_T v69 v70 v71 v72 v73 s).run) s0
def spec_l06Minor_l0_E (v69 : Int) (v70 : Int) (v71 : List Int) (v72 : List Int) (v73 : List Int) (s : Int × Int × Int) : Sd := ([.bptr (BR.root 0) [.int .i64 v69, .int .i64 v70, .bslc (BR.root 1) (.i64 v71)], .bslc (BR.root 2) (.i64 v72), .bslc (BR.root 3) (.i64 v73), .top, .top, .top, .top, .int .i64 s.1, .int .i64 s.2.1, .int .i64 s.2.2, .top, .top, .top, .top, .top, .top, .top, .top, .top, .top, .top, .top, .top, .top, .top, .top, .top, .top, .top, .top, .top, .top, .top, .top, .top, .top, .top, .top, .top, .top, .top, .top, .top, .top, .top, .top, .top], [])
def spec_l06Minor_l0_X (v69 : Int) (v70 : Int) (v71 : List Int) (v72 : List Int) (v73 : List Int) (x : Int) : Out := (.normal, [.top, .top, .top, .top, .top, .top, .top, .int .i64 x, .top, .top, .top, .top, .top, .top, .top, .top, .top, .top, .top, .top, .top, .top, .top, .top, .top, .top, .top, .top, .top, .top, .top, .top, .top, .top, .top, .top, .top, .top, .top, .top, .top, .top, .top, .top, .top, .top, .top], [])
def spec_l06Minor_l0_kill : List Nat := [0, 0, 0, 1, 1, 1, 1, 0, 0, 0, 1, 1, 1, 1, 1, 1, 1, 1, 1, 1, 1, 1, 1, 1, 1, 1, 1, 1, 1, 1, 1, 1, 1, 1, 1, 1, 1, 1, 1, 1, 1, 1, 1, 1, 1, 1, 1]
def spec_l06Minor_l0_nx : Exit → List Nat
  | .exit 0 => [1, 1, 1, 1, 1, 1, 1, 0, 1, 1, 1, 1, 1, 1, 1, 1, 1, 1, 1, 1, 1, 1, 1, 1, 1, 1, 1, 1, 1, 1, 1, 1, 1, 1, 1, 1, 1, 1, 1, 1, 1, 1, 1, 1, 1, 1, 1]
  | .ret => [1, 1, 1, 1, 1, 1, 0, 1, 1, 1, 1, 1, 1, 1, 1, 1, 1, 1, 1, 1, 1, 1, 1, 1, 1, 1, 1, 1, 1, 1, 1, 1, 1, 1, 1, 1, 1, 1, 1, 1, 1, 1, 1, 1, 1, 1, 1]
  | _ => []
noncomputable def spec_l06Minor_LO (v69 : Int) (v70 : Int) (v71 : List Int) (v72 : List Int) (v73 : List Int) : LOr := fun id e L =>
  match id with
  | 0 => .need (normA 0 spec_l06Minor_l0_kill e L = some (spec_l06Minor_l0_E v69 v70 v71 v72 v73 ((gI (vAt e 7)), (gI (vAt e 8)), (gI (vAt e 9))))) (.call (spec_l06Minor_l0_g v69 v70 v71 v72 v73 ((gI (vAt e 7)), (gI (vAt e 8)), (gI (vAt e 9)))) fun x => .leaf (spec_l06Minor_l0_X v69 v70 v71 v72 v73 x))
  | _ => .fail
noncomputable def spec_l06Minor_tab : List (FuncId × DFn × Bool) := [(107, spec_l06At_F, true), (83, spec_l06Without_F, true), (77, spec_l06Minor_i1_F, true)]
theorem spec_l06Minor_hO : OrcOk Try.prog (tabD spec_l06Minor_tab) (tabM spec_l06Minor_tab) := tabD_cons spec_l06At_Fok (tabD_cons spec_l06Without_Fok (tabD_cons spec_l06Minor_i1_Fok (tabD_nil _)))
theorem spec_l06Minor_l0_be (v69 : Int) (v70 : Int) (v71 : List Int) (v72 : List Int) (v73 : List Int) (s : Int × Int × Int) : bodyT TT (tabD spec_l06Minor_tab) (tabM spec_l06Minor_tab) (spec_l06Minor_LO v69 v70 v71 v72 v73) 0 spec_l06Minor_l0_kill spec_l06Minor_l0_nx (bodyOf Try.f77 0) 0 (spec_l06Minor_l0_E v69 v70 v71 v72 v73 s) = (spec_l06Minor_l0_T v69 v70 v71 v72 v73 s).bind fun y => .leaf (outS (spec_l06Minor_l0_E v69 v70 v71 v72 v73) (spec_l06Minor_l0_X v69 v70 v71 v72 v73) y) := by kernel_rfl
theorem spec_l06Minor_l0_ok (v69 : Int) (v70 : Int) (v71 : List Int) (v72 : List Int) (v73 : List Int) : LSound Try.prog 0 (spec_l06Minor_LO v69 v70 v71 v72 v73) 0 (bodyOf Try.f77 0) := by
  intro e L out h
  exact lo_ok (E := spec_l06Minor_l0_E v69 v70 v71 v72 v73) (gT := spec_l06Minor_l0_T v69 v70 v71 v72 v73) (X := spec_l06Minor_l0_X v69 v70 v71 v72 v73) (s0 := ((gI (vAt e 7)), (gI (vAt e 8)), (gI (vAt e 9)))) tok spec_l06Minor_hO mixed (LoopsOk_eq (l := []) (by kernel_rfl) trivial) (spec_l06Minor_l0_be v69 v70 v71 v72 v73) rfl (by intro x; rfl) h
noncomputable def spec_l06Minor_T (v69 : Int) (v70 : Int) (v71 : List Int) (v72 : List Int) (v73 : List Int) : Tree (Int) :=
  (.br (decide (((v72.length : Nat) : Int) = (0 : Int))) (
   .leaf (1 : Int)
  ) (
   (.need (some (spec_l06Minor_l0_E v69 v70 v71 v72 v73 ((0 : Int), (1 : Int), (0 : Int))) = some (spec_l06Minor_l0_E v69 v70 v71 v72 v73 ((0 : Int), (1 : Int), (0 : Int)))) <|
   (.call (spec_l06Minor_l0_g v69 v70 v71 v72 v73 ((0 : Int), (1 : Int), (0 : Int))) fun v164 =>
   .leaf v164))
  ))

noncomputable def spec_l06Minor_g (v69 : Int) (v70 : Int) (v71 : List Int) (v72 : List Int) (v73 : List Int) : Option (Int) := (spec_l06Minor_T v69 v70 v71 v72 v73).run
def spec_l06Minor_enc (v69 : Int) (v70 : Int) (v71 : List Int) (v72 : List Int) (v73 : List Int) (y : Int) : Rs := (.int .i64 y, [])
theorem spec_l06Minor_den (v69 : Int) (v70 : Int) (v71 : List Int) (v72 : List Int) (v73 : List Int) : (den TT (tabD spec_l06Minor_tab) (tabM spec_l06Minor_tab) (spec_l06Minor_LO v69 v70 v71 v72 v73) (codeOf Try.f77) ([.bptr (BR.root 0) [.int .i64 v69, .int .i64 v70, .bslc (BR.root 1) (.i64 v71)], .bslc (BR.root 2) (.i64 v72), .bslc (BR.root 3) (.i64 v73)] ++ List.replicate (Try.f77.ntmps - ([.bptr (BR.root 0) [.int .i64 v69, .int .i64 v70, .bslc (BR.root 1) (.i64 v71)], .bslc (BR.root 2) (.i64 v72), .bslc (BR.root 3) (.i64 v73)] : List DV).length) .undef) []).bind (retD TT Try.f77.results.toList 0) = (spec_l06Minor_T v69 v70 v71 v72 v73).bind fun y => .leaf (spec_l06Minor_enc v69 v70 v71 v72 v73 y) := by kernel_rfl
theorem spec_l06Minor_fn (v69 : Int) (v70 : Int) (v71 : List Int) (v72 : List Int) (v73 : List Int) (F : Fr) (hm : F.ids.length = 0) (h0 : St F [] F.H0) (hA : DVs.Ok F [] [.bptr (BR.root 0) [.int .i64 v69, .int .i64 v70, .bslc (BR.root 1) (.i64 v71)], .bslc (BR.root 2) (.i64 v72), .bslc (BR.root 3) (.i64 v73)]) {y : Int} (hy : spec_l06Minor_g v69 v70 v71 v72 v73 = some y) : ∃ H', FnOk Try.prog 77 (DVs.av F [.bptr (BR.root 0) [.int .i64 v69, .int .i64 v70, .bslc (BR.root 1) (.i64 v71)], .bslc (BR.root 2) (.i64 v72), .bslc (BR.root 3) (.i64 v73)]) F.H0 ((spec_l06Minor_enc v69 v70 v71 v72 v73 y).1.av F) H' ∧ St F (spec_l06Minor_enc v69 v70 v71 v72 v73 y).2 H' ∧ (spec_l06Minor_enc v69 v70 v71 v72 v73 y).1.Ok F (spec_l06Minor_enc v69 v70 v71 v72 v73 y).2 :=
  fn_fin tok spec_l06Minor_hO mixed Try.func77 Try.call77 (by kernel_rfl) (LoopsOk_eq (l := [(0, bodyOf Try.f77 0)]) (by kernel_rfl) ⟨spec_l06Minor_l0_ok v69 v70 v71 v72 v73, trivial⟩) (spec_l06Minor_den v69 v70 v71 v72 v73) hy hm h0 hA
noncomputable def spec_l06Minor_F : DFn := fun args L =>
  match args with
  | [a1, a3, a4] =>
    optT (cellsOf L 3 a1) fun cs0 =>
    (match cs0 with
    | [.int .i64 v69, .int .i64 v70, a2] =>
    optT (rowI64 L a2) fun v71 =>
    optT (rowI64 L a3) fun v72 =>
    optT (rowI64 L a4) fun v73 =>
    .call (spec_l06Minor_g v69 v70 v71 v72 v73) fun y => .leaf (.int .i64 y, L)
    | _ => .fail)
  | _ => .fail
theorem spec_l06Minor_Fok : COk Try.prog 77 spec_l06Minor_F true := by
  intro F L H args r L' hs ha hr
  unfold spec_l06Minor_F at hr
  split at hr
  · rename_i a1 a3 a4
    obtain ⟨cs0, hcp0, hr⟩ := optT_run hr
    split at hr
    · rename_i v69 v70 a2
      obtain ⟨v71, hv71, hr⟩ := optT_run hr
      obtain ⟨v72, hv72, hr⟩ := optT_run hr
      obtain ⟨v73, hv73, hr⟩ := optT_run hr
      simp only [Tree.run] at hr
      obtain ⟨y, hy, hr⟩ := Option.bind_eq_some_iff.1 hr
      simp only [Tree.run, Option.some.injEq, Prod.mk.injEq] at hr
      obtain ⟨rfl, rfl⟩ := hr
      exact call_ok0 hs (fun k => (([a1.av F, a2.av F, a3.av F, a4.av F] : List AV)[k]?).getD .top) [a1, a3, a4] [.bptr (BR.root 0) [.int .i64 v69, .int .i64 v70, .bslc (BR.root 1) (.i64 v71)], .bslc (BR.root 2) (.i64 v72), .bslc (BR.root 3) (.i64 v73)] (fun F' h0 hi hρ => ⟨by simp [DVs.av, DV.av, BR.av, hρ], spec_l06Minor_fn v69 v70 v71 v72 v73 F' (by rw [hi]; rfl) (st_nil hi) ⟨bptr_ok hi (by rw [h0]; simpa [DVs.av, DV.av, BR.av, hρ] using (cellsOf_ok hs (DVs.okAt ha 0 rfl) hcp0).1) ⟨trivial, trivial, bslc_ok hi (by rw [h0, hρ]; exact rowI64_ok hs (DVs.okAt (cellsOf_ok hs (DVs.okAt ha 0 rfl) hcp0).2 2 rfl) hv71), trivial⟩, bslc_ok hi (by rw [h0, hρ]; exact rowI64_ok hs (DVs.okAt ha 1 rfl) hv72), bslc_ok hi (by rw [h0, hρ]; exact rowI64_ok hs (DVs.okAt ha 2 rfl) hv73), trivial⟩ hy⟩) rfl
    · cases hr
  · cases hr
/-! spec.l06Give -/
noncomputable def spec_l06Give_LO (v258 : Int) (v259 : Int) (v260 : List Int) : LOr := fun id e L =>
  match id with
  | _ => .fail
noncomputable def spec_l06Give_tab : List (FuncId × DFn × Bool) := [(62, spec_l06Is_F, true)]
theorem spec_l06Give_hO : OrcOk Try.prog (tabD spec_l06Give_tab) (tabM spec_l06Give_tab) := tabD_cons spec_l06Is_Fok (tabD_nil _)
noncomputable def spec_l06Give_T (v258 : Int) (v259 : Int) (v260 : List Int) : Tree ((Unit) ⊕ (Int × Int)) :=
  (.call (spec_l06Is_g v258 v259 v260 (1000000 : Int)) fun v261 =>
  (.br (!v261) (
   .leaf (.inl ())
  ) (
   .leaf (.inr (v258, v259))
  )))

noncomputable def spec_l06Give_g (v258 : Int) (v259 : Int) (v260 : List Int) : Option ((Unit) ⊕ (Int × Int)) := (spec_l06Give_T v258 v259 v260).run
def spec_l06Give_enc (v258 : Int) (v259 : Int) (v260 : List Int) (y : (Unit) ⊕ (Int × Int)) : Rs := (match y with | .inl y => (.tup [.agg [.int .i64 (0 : Int), .int .i64 (0 : Int), .nilslc], .lit false], []) | .inr y => (.tup [.agg [.int .i64 y.1, .int .i64 y.2, .bslc (BR.root 0) (.i64 v260)], .lit true], []))
theorem spec_l06Give_den (v258 : Int) (v259 : Int) (v260 : List Int) : (den TT (tabD spec_l06Give_tab) (tabM spec_l06Give_tab) (spec_l06Give_LO v258 v259 v260) (codeOf Try.f85) ([.agg [.int .i64 v258, .int .i64 v259, .bslc (BR.root 0) (.i64 v260)]] ++ List.replicate (Try.f85.ntmps - ([.agg [.int .i64 v258, .int .i64 v259, .bslc (BR.root 0) (.i64 v260)]] : List DV).length) .undef) []).bind (retD TT Try.f85.results.toList 0) = (spec_l06Give_T v258 v259 v260).bind fun y => .leaf (spec_l06Give_enc v258 v259 v260 y) := by kernel_rfl
theorem spec_l06Give_fn (v258 : Int) (v259 : Int) (v260 : List Int) (F : Fr) (hm : F.ids.length = 0) (h0 : St F [] F.H0) (hA : DVs.Ok F [] [.agg [.int .i64 v258, .int .i64 v259, .bslc (BR.root 0) (.i64 v260)]]) {y : (Unit) ⊕ (Int × Int)} (hy : spec_l06Give_g v258 v259 v260 = some y) : ∃ H', FnOk Try.prog 85 (DVs.av F [.agg [.int .i64 v258, .int .i64 v259, .bslc (BR.root 0) (.i64 v260)]]) F.H0 ((spec_l06Give_enc v258 v259 v260 y).1.av F) H' ∧ St F (spec_l06Give_enc v258 v259 v260 y).2 H' ∧ (spec_l06Give_enc v258 v259 v260 y).1.Ok F (spec_l06Give_enc v258 v259 v260 y).2 :=
  fn_fin tok spec_l06Give_hO mixed Try.func85 Try.call85 (by kernel_rfl) (LoopsOk_eq (l := []) (by kernel_rfl) trivial) (spec_l06Give_den v258 v259 v260) hy hm h0 hA
noncomputable def spec_l06Give_F : DFn := fun args L =>
  match args with
  | [.agg [.int .i64 v258, .int .i64 v259, a1]] =>
    optT (rowI64 L a1) fun v260 =>
    .call (spec_l06Give_g v258 v259 v260) fun y => .sum y (fun y0 => .leaf (.tup [.agg [.int .i64 (0 : Int), .int .i64 (0 : Int), .nilslc], .lit false], L)) (fun z0 => .leaf (.tup [.agg [.int .i64 z0.1, .int .i64 z0.2, a1], .lit true], L))
  | _ => .fail
theorem spec_l06Give_Fok : COk Try.prog 85 spec_l06Give_F true := by
  intro F L H args r L' hs ha hr
  unfold spec_l06Give_F at hr
  split at hr
  · rename_i v258 v259 a1
    obtain ⟨v260, hv260, hr⟩ := optT_run hr
    simp only [Tree.run] at hr
    obtain ⟨y, hy, hr⟩ := Option.bind_eq_some_iff.1 hr
    cases y with
    | inl y =>
      simp only [Tree.run, Option.some.injEq, Prod.mk.injEq] at hr
      obtain ⟨rfl, rfl⟩ := hr
      exact call_ok0 hs (fun k => (([a1.av F] : List AV)[k]?).getD .top) [.agg [.int .i64 v258, .int .i64 v259, a1]] [.agg [.int .i64 v258, .int .i64 v259, .bslc (BR.root 0) (.i64 v260)]] (fun F' h0 hi hρ => ⟨by simp [DVs.av, DV.av, BR.av, hρ], spec_l06Give_fn v258 v259 v260 F' (by rw [hi]; rfl) (st_nil hi) ⟨⟨trivial, trivial, bslc_ok hi (by rw [h0, hρ]; exact rowI64_ok hs (DVs.okAt (DVs.okAt ha 0 rfl) 2 rfl) hv260), trivial⟩, trivial⟩ hy⟩) rfl
    | inr y =>
      simp only [Tree.run, Option.some.injEq, Prod.mk.injEq] at hr
      obtain ⟨rfl, rfl⟩ := hr
      exact call_al0 hs (fun k => (([a1.av F] : List AV)[k]?).getD .top) [.agg [.int .i64 v258, .int .i64 v259, a1]] [.agg [.int .i64 v258, .int .i64 v259, .bslc (BR.root 0) (.i64 v260)]] (fun F' h0 hi hρ => ⟨by simp [DVs.av, DV.av, BR.av, hρ], spec_l06Give_fn v258 v259 v260 F' (by rw [hi]; rfl) (st_nil hi) ⟨⟨trivial, trivial, bslc_ok hi (by rw [h0, hρ]; exact rowI64_ok hs (DVs.okAt (DVs.okAt ha 0 rfl) 2 rfl) hv260), trivial⟩, trivial⟩ hy⟩) (fun F' h0 hi hρ => by simp [spec_l06Give_enc, DVs.av, DV.av, BR.av, hρ]) ⟨⟨trivial, trivial, (DVs.okAt (DVs.okAt ha 0 rfl) 2 rfl), trivial⟩, trivial, trivial⟩
  · cases hr
/-! spec.AdjointOf -/
noncomputable def spec_AdjointOf_l2_T (v22 : Int) (v23 : Int) (v24 : List Int) (v246 : Int) (v248 : Int) (v249 : Int) (s : Int × (List Int)) : Tree ((Int × (List Int)) ⊕ ((List Int))) :=
  (.br (decide (s.1 < v22)) (
   (.call (spec_l06All_g v22) fun v251 =>
   (.call (spec_l06Without_g v251 s.1) fun v252 =>
   (.call (spec_l06All_g v22) fun v253 =>
   (.call (spec_l06Without_g v253 v246) fun v254 =>
   (.call (spec_l06Minor_g v22 v23 v24 ((([] : List Int) ++ (AM.sub v251 (0 : Int) s.1)) ++ (AM.sub v251 (IntKind.i64.wrap (s.1 + (1 : Int))) ((v251.length : Nat) : Int))) ((([] : List Int) ++ (AM.sub v253 (0 : Int) v246)) ++ (AM.sub v253 (IntKind.i64.wrap (v246 + (1 : Int))) ((v253.length : Nat) : Int)))) fun v255 =>
   (.grd (!decide ((2 : Int) = 0)) <|
   (.br (decide (Int.tmod (IntKind.i64.wrap (v246 + s.1)) (2 : Int) = (1 : Int))) (
    (.grd (inb (IntKind.i64.wrap ((IntKind.i64.wrap (v246 * v22)) + s.1)) ((s.2).length)) <|
    .leaf (.inl (IntKind.i64.wrap (s.1 + (1 : Int)), List.set s.2 (Int.toNat (IntKind.i64.wrap ((IntKind.i64.wrap (v246 * v22)) + s.1))) (IntKind.i64.wrap (0 - v255)))))
   ) (
    (.grd (inb (IntKind.i64.wrap ((IntKind.i64.wrap (v246 * v22)) + s.1)) ((s.2).length)) <|
    .leaf (.inl (IntKind.i64.wrap (s.1 + (1 : Int)), List.set s.2 (Int.toNat (IntKind.i64.wrap ((IntKind.i64.wrap (v246 * v22)) + s.1))) v255)))
   ))))))))
  ) (
   .leaf (.inr s.2)
  ))

noncomputable def spec_AdjointOf_l2_g (v22 : Int) (v23 : Int) (v24 : List Int) (v246 : Int) (v248 : Int) (v249 : Int) (s0 : Int × (List Int)) : Option ((List Int)) := whileM (fun s => (spec_AdjointOf_l2_T v22 v23 v24 v246 v248 v249 s).run) s0
def spec_AdjointOf_l2_E (v22 : Int) (v23 : Int) (v24 : List Int) (v246 : Int) (v248 : Int) (v249 : Int) (s : Int × (List Int)) : Sd := ([.top, .ptr 0 (0 : Nat) 0 (3 : Nat), .ptr 1 (0 : Nat) 0 (3 : Nat), .top, .int .i64 v22, .ptr 2 (0 : Nat) 0 (3 : Nat), .int .i64 v246, .int .i64 s.1, .top, .top, .top, .top, .top, .top, .top, .top, .top, .top, .top, .top, .top, .top, .top, .top, .top, .top, .top, .top, .top, .top, .top, .top, .top, .top, .top, .top, .top, .top, .top, .top, .top, .top, .top, .top, .top, .top, .top, .top, .top, .top, .top, .top, .top, .top, .top, .top, .top, .top, .top, .top, .top, .top, .top, .top, .top, .top, .top, .top], [.gen [.int .i64 v22, .int .i64 v23, .bslc (BR.root 0) (.i64 v24)] false 0, .gen [.int .i64 (0 : Int), .int .i64 (0 : Int), .nilslc] false 0, .gen [.int .i64 v248, .int .i64 v249, .own 3 0 ((s.2).length)] false 0, .row (.i64 s.2) 0])
def spec_AdjointOf_l2_X (v22 : Int) (v23 : Int) (v24 : List Int) (v246 : Int) (v248 : Int) (v249 : Int) (x : (List Int)) : Out := (.normal, [.top, .ptr 0 (0 : Nat) 0 (3 : Nat), .ptr 1 (0 : Nat) 0 (3 : Nat), .top, .int .i64 v22, .ptr 2 (0 : Nat) 0 (3 : Nat), .int .i64 v246, .top, .top, .top, .top, .top, .top, .top, .top, .top, .top, .top, .top, .top, .top, .top, .top, .top, .top, .top, .top, .top, .top, .top, .top, .top, .top, .top, .top, .top, .top, .top, .top, .top, .top, .top, .top, .top, .top, .top, .top, .top, .top, .top, .top, .top, .top, .top, .top, .top, .top, .top, .top, .top, .top, .top, .top, .top, .top, .top, .top, .top], [.gen [.int .i64 v22, .int .i64 v23, .bslc (BR.root 0) (.i64 v24)] false 0, .gen [.int .i64 (0 : Int), .int .i64 (0 : Int), .nilslc] false 0, .gen [.int .i64 v248, .int .i64 v249, .own 3 0 ((x).length)] false 0, .row (.i64 x) 0])
def spec_AdjointOf_l2_kill : List Nat := [1, 0, 0, 1, 0, 0, 0, 0, 1, 1, 1, 1, 1, 1, 1, 1, 1, 1, 1, 1, 1, 1, 1, 1, 1, 1, 1, 1, 1, 1, 1, 1, 1, 1, 1, 1, 1, 1, 1, 1, 1, 1, 1, 1, 1, 1, 1, 1, 1, 1, 1, 1, 1, 1, 1, 1, 1, 1, 1, 1, 1, 1, 1, 1, 1, 1, 1, 1]
def spec_AdjointOf_l2_nx : Exit → List Nat
  | .exit 0 => [1, 1, 0, 1, 1, 0, 1, 1, 1, 1, 1, 1, 1, 1, 1, 1, 1, 1, 1, 1, 1, 1, 1, 1, 1, 1, 1, 1, 1, 1, 1, 1, 1, 1, 1, 1, 1, 1, 1, 1, 1, 1, 1, 1, 1, 1, 1, 1, 1, 1, 1, 1, 1, 1, 1, 1, 1, 1, 1, 1, 1, 1, 1, 1, 1, 1, 1, 1]
  | .exit 1 => [1, 0, 0, 1, 0, 0, 0, 1, 1, 1, 1, 1, 1, 1, 1, 1, 1, 1, 1, 1, 1, 1, 1, 1, 1, 1, 1, 1, 1, 1, 1, 1, 1, 1, 1, 1, 1, 1, 1, 1, 1, 1, 1, 1, 1, 1, 1, 1, 1, 1, 1, 1, 1, 1, 1, 1, 1, 1, 1, 1, 1, 1, 1, 1, 1, 1, 1, 1]
  | .exit 2 => [1, 0, 0, 1, 0, 0, 0, 1, 1, 1, 1, 1, 1, 1, 1, 1, 1, 1, 1, 1, 1, 1, 1, 1, 1, 1, 1, 1, 1, 1, 1, 1, 1, 1, 1, 1, 1, 1, 1, 1, 1, 1, 1, 1, 1, 1, 1, 1, 1, 1, 1, 1, 1, 1, 1, 1, 1, 1, 1, 1, 1, 1, 1, 1, 1, 1, 1, 1]
  | .ret => [1, 1, 0, 0, 1, 1, 1, 1, 1, 1, 1, 1, 1, 1, 1, 1, 1, 1, 1, 1, 1, 1, 1, 1, 1, 1, 1, 1, 1, 1, 1, 1, 1, 1, 1, 1, 1, 1, 1, 1, 1, 1, 1, 1, 1, 1, 1, 1, 1, 1, 1, 1, 1, 1, 1, 1, 1, 1, 1, 1, 1, 1, 1, 1, 1, 1, 1, 1]
  | _ => []
noncomputable def spec_AdjointOf_l0_T (v22 : Int) (v23 : Int) (v24 : List Int) (v223 : Int) (v224 : Int) (s : Int × (List Int)) : Tree ((Int × (List Int)) ⊕ ((List Int))) :=
  (.br (decide (s.1 < v22)) (
   (.need (some (spec_AdjointOf_l2_E v22 v23 v24 s.1 v223 v224 ((0 : Int), s.2)) = some (spec_AdjointOf_l2_E v22 v23 v24 s.1 v223 v224 ((0 : Int), s.2))) <|
   (.call (spec_AdjointOf_l2_g v22 v23 v24 s.1 v223 v224 ((0 : Int), s.2)) fun v256 =>
   .leaf (.inl (IntKind.i64.wrap (s.1 + (1 : Int)), v256))))
  ) (
   .leaf (.inr s.2)
  ))

noncomputable def spec_AdjointOf_l0_g (v22 : Int) (v23 : Int) (v24 : List Int) (v223 : Int) (v224 : Int) (s0 : Int × (List Int)) : Option ((List Int)) := whileM (fun s => (spec_AdjointOf_l0_T v22 v23 v24 v223 v224 s).run) s0
def spec_AdjointOf_l0_E (v22 : Int) (v23 : Int) (v24 : List Int) (v223 : Int) (v224 : Int) (s : Int × (List Int)) : Sd := ([.top, .ptr 0 (0 : Nat) 0 (3 : Nat), .ptr 1 (0 : Nat) 0 (3 : Nat), .top, .int .i64 v22, .ptr 2 (0 : Nat) 0 (3 : Nat), .int .i64 s.1, .top, .top, .top, .top, .top, .top, .top, .top, .top, .top, .top, .top, .top, .top, .top, .top, .top, .top, .top, .top, .top, .top, .top, .top, .top, .top, .top, .top, .top, .top, .top, .top, .top, .top, .top, .top, .top, .top, .top, .top, .top, .top, .top, .top, .top, .top, .top, .top, .top, .top, .top, .top, .top, .top, .top, .top, .top, .top, .top, .top, .top], [.gen [.int .i64 v22, .int .i64 v23, .bslc (BR.root 0) (.i64 v24)] false 0, .gen [.int .i64 (0 : Int), .int .i64 (0 : Int), .nilslc] false 0, .gen [.int .i64 v223, .int .i64 v224, .own 3 0 ((s.2).length)] false 0, .row (.i64 s.2) 0])
def spec_AdjointOf_l0_X (v22 : Int) (v23 : Int) (v24 : List Int) (v223 : Int) (v224 : Int) (x : (List Int)) : Out := (.normal, [.top, .top, .ptr 0 (0 : Nat) 0 (3 : Nat), .top, .top, .ptr 1 (0 : Nat) 0 (3 : Nat), .top, .top, .top, .top, .top, .top, .top, .top, .top, .top, .top, .top, .top, .top, .top, .top, .top, .top, .top, .top, .top, .top, .top, .top, .top, .top, .top, .top, .top, .top, .top, .top, .top, .top, .top, .top, .top, .top, .top, .top, .top, .top, .top, .top, .top, .top, .top, .top, .top, .top, .top, .top, .top, .top, .top, .top, .top, .top, .top, .top, .top, .top], [.gen [.int .i64 (0 : Int), .int .i64 (0 : Int), .nilslc] false 0, .gen [.int .i64 v223, .int .i64 v224, .own 2 0 ((x).length)] false 0, .row (.i64 x) 0])
def spec_AdjointOf_l0_kill : List Nat := [1, 0, 0, 1, 0, 0, 0, 1, 1, 1, 1, 1, 1, 1, 1, 1, 1, 1, 1, 1, 1, 1, 1, 1, 1, 1, 1, 1, 1, 1, 1, 1, 1, 1, 1, 1, 1, 1, 1, 1, 1, 1, 1, 1, 1, 1, 1, 1, 1, 1, 1, 1, 1, 1, 1, 1, 1, 1, 1, 1, 1, 1, 1, 1, 1, 1, 1, 1]
def spec_AdjointOf_l0_nx : Exit → List Nat
  | .exit 0 => [1, 1, 0, 1, 1, 0, 1, 1, 1, 1, 1, 1, 1, 1, 1, 1, 1, 1, 1, 1, 1, 1, 1, 1, 1, 1, 1, 1, 1, 1, 1, 1, 1, 1, 1, 1, 1, 1, 1, 1, 1, 1, 1, 1, 1, 1, 1, 1, 1, 1, 1, 1, 1, 1, 1, 1, 1, 1, 1, 1, 1, 1, 1, 1, 1, 1, 1, 1]
  | .ret => [1, 1, 0, 0, 1, 1, 1, 1, 1, 1, 1, 1, 1, 1, 1, 1, 1, 1, 1, 1, 1, 1, 1, 1, 1, 1, 1, 1, 1, 1, 1, 1, 1, 1, 1, 1, 1, 1, 1, 1, 1, 1, 1, 1, 1, 1, 1, 1, 1, 1, 1, 1, 1, 1, 1, 1, 1, 1, 1, 1, 1, 1, 1, 1, 1, 1, 1, 1]
  | _ => []
noncomputable def spec_AdjointOf_LO (v22 : Int) (v23 : Int) (v24 : List Int) : LOr := fun id e L =>
  match id with
  | 2 => .need (normA 0 spec_AdjointOf_l2_kill e L = some (spec_AdjointOf_l2_E v22 v23 v24 (gI (vAt e 6)) (gI (cAt L (vAt e 5) 0)) (gI (cAt L (vAt e 5) 1)) ((gI (vAt e 7)), (gRI L (cAt L (vAt e 5) 2))))) (.call (spec_AdjointOf_l2_g v22 v23 v24 (gI (vAt e 6)) (gI (cAt L (vAt e 5) 0)) (gI (cAt L (vAt e 5) 1)) ((gI (vAt e 7)), (gRI L (cAt L (vAt e 5) 2)))) fun x => .leaf (spec_AdjointOf_l2_X v22 v23 v24 (gI (vAt e 6)) (gI (cAt L (vAt e 5) 0)) (gI (cAt L (vAt e 5) 1)) x))
  | 0 => .need (normA 0 spec_AdjointOf_l0_kill e L = some (spec_AdjointOf_l0_E v22 v23 v24 (gI (cAt L (vAt e 5) 0)) (gI (cAt L (vAt e 5) 1)) ((gI (vAt e 6)), (gRI L (cAt L (vAt e 5) 2))))) (.call (spec_AdjointOf_l0_g v22 v23 v24 (gI (cAt L (vAt e 5) 0)) (gI (cAt L (vAt e 5) 1)) ((gI (vAt e 6)), (gRI L (cAt L (vAt e 5) 2)))) fun x => .leaf (spec_AdjointOf_l0_X v22 v23 v24 (gI (cAt L (vAt e 5) 0)) (gI (cAt L (vAt e 5) 1)) x))
  | _ => .fail
noncomputable def spec_AdjointOf_tab : List (FuncId × DFn × Bool) := [(73, spec_l06Low_F, true), (82, spec_l06Zero_F, true), (84, spec_l06All_F, true), (83, spec_l06Without_F, true), (77, spec_l06Minor_F, true), (85, spec_l06Give_F, true)]
theorem spec_AdjointOf_hO : OrcOk Try.prog (tabD spec_AdjointOf_tab) (tabM spec_AdjointOf_tab) := tabD_cons spec_l06Low_Fok (tabD_cons spec_l06Zero_Fok (tabD_cons spec_l06All_Fok (tabD_cons spec_l06Without_Fok (tabD_cons spec_l06Minor_Fok (tabD_cons spec_l06Give_Fok (tabD_nil _))))))
theorem spec_AdjointOf_l2_be (v22 : Int) (v23 : Int) (v24 : List Int) (v246 : Int) (v248 : Int) (v249 : Int) (s : Int × (List Int)) : bodyT TT (tabD spec_AdjointOf_tab) (tabM spec_AdjointOf_tab) (spec_AdjointOf_LO v22 v23 v24) 0 spec_AdjointOf_l2_kill spec_AdjointOf_l2_nx (bodyOf Try.f36 2) 2 (spec_AdjointOf_l2_E v22 v23 v24 v246 v248 v249 s) = (spec_AdjointOf_l2_T v22 v23 v24 v246 v248 v249 s).bind fun y => .leaf (outS (spec_AdjointOf_l2_E v22 v23 v24 v246 v248 v249) (spec_AdjointOf_l2_X v22 v23 v24 v246 v248 v249) y) := by kernel_rfl
theorem spec_AdjointOf_l2_ok (v22 : Int) (v23 : Int) (v24 : List Int) : LSound Try.prog 0 (spec_AdjointOf_LO v22 v23 v24) 2 (bodyOf Try.f36 2) := by
  intro e L out h
  exact lo_ok (E := spec_AdjointOf_l2_E v22 v23 v24 (gI (vAt e 6)) (gI (cAt L (vAt e 5) 0)) (gI (cAt L (vAt e 5) 1))) (gT := spec_AdjointOf_l2_T v22 v23 v24 (gI (vAt e 6)) (gI (cAt L (vAt e 5) 0)) (gI (cAt L (vAt e 5) 1))) (X := spec_AdjointOf_l2_X v22 v23 v24 (gI (vAt e 6)) (gI (cAt L (vAt e 5) 0)) (gI (cAt L (vAt e 5) 1))) (s0 := ((gI (vAt e 7)), (gRI L (cAt L (vAt e 5) 2)))) tok spec_AdjointOf_hO mixed (LoopsOk_eq (l := []) (by kernel_rfl) trivial) (spec_AdjointOf_l2_be v22 v23 v24 (gI (vAt e 6)) (gI (cAt L (vAt e 5) 0)) (gI (cAt L (vAt e 5) 1))) rfl (by intro x; rfl) h
theorem spec_AdjointOf_l0_be (v22 : Int) (v23 : Int) (v24 : List Int) (v223 : Int) (v224 : Int) (s : Int × (List Int)) : bodyT TT (tabD spec_AdjointOf_tab) (tabM spec_AdjointOf_tab) (spec_AdjointOf_LO v22 v23 v24) 0 spec_AdjointOf_l0_kill spec_AdjointOf_l0_nx (bodyOf Try.f36 0) 0 (spec_AdjointOf_l0_E v22 v23 v24 v223 v224 s) = (spec_AdjointOf_l0_T v22 v23 v24 v223 v224 s).bind fun y => .leaf (outS (spec_AdjointOf_l0_E v22 v23 v24 v223 v224) (spec_AdjointOf_l0_X v22 v23 v24 v223 v224) y) := by kernel_rfl
theorem spec_AdjointOf_l0_ok (v22 : Int) (v23 : Int) (v24 : List Int) : LSound Try.prog 0 (spec_AdjointOf_LO v22 v23 v24) 0 (bodyOf Try.f36 0) := by
  intro e L out h
  exact lo_ok (E := spec_AdjointOf_l0_E v22 v23 v24 (gI (cAt L (vAt e 5) 0)) (gI (cAt L (vAt e 5) 1))) (gT := spec_AdjointOf_l0_T v22 v23 v24 (gI (cAt L (vAt e 5) 0)) (gI (cAt L (vAt e 5) 1))) (X := spec_AdjointOf_l0_X v22 v23 v24 (gI (cAt L (vAt e 5) 0)) (gI (cAt L (vAt e 5) 1))) (s0 := ((gI (vAt e 6)), (gRI L (cAt L (vAt e 5) 2)))) tok spec_AdjointOf_hO mixed (LoopsOk_eq (l := [(2, bodyOf Try.f36 2)]) (by kernel_rfl) ⟨spec_AdjointOf_l2_ok v22 v23 v24, trivial⟩) (spec_AdjointOf_l0_be v22 v23 v24 (gI (cAt L (vAt e 5) 0)) (gI (cAt L (vAt e 5) 1))) rfl (by intro x; rfl) h
noncomputable def spec_AdjointOf_T (v22 : Int) (v23 : Int) (v24 : List Int) : Tree ((Unit) ⊕ (Int × Int × (List Int))) :=
  (.call (spec_l06Low_g v22 v23 v24) fun v45 =>
  (.br (!v45) (
   .leaf (.inl ())
  ) (
   (.br (!decide (v22 = v23)) (
    .leaf (.inl ())
   ) (
    (.br (decide ((4 : Int) < v22)) (
     .leaf (.inl ())
    ) (
     (.call (spec_l06Zero_g v22 v22) fun v48 =>
     (.need (some (spec_AdjointOf_l0_E v22 v23 v24 v48.1 v48.2 ((0 : Int), List.replicate (Int.toNat (IntKind.i64.wrap (v22 * v22))) (0 : Int))) = some (spec_AdjointOf_l0_E v22 v23 v24 v48.1 v48.2 ((0 : Int), List.replicate (Int.toNat (IntKind.i64.wrap (v22 * v22))) (0 : Int)))) <|
     (.call (spec_AdjointOf_l0_g v22 v23 v24 v48.1 v48.2 ((0 : Int), List.replicate (Int.toNat (IntKind.i64.wrap (v22 * v22))) (0 : Int))) fun v257 =>
     (.call (spec_l06Give_g v48.1 v48.2 v257) fun v262 =>
     (.sum v262 (fun v263 =>
      .leaf (.inl ())
     ) (fun v264 =>
      .leaf (.inr (v264.1, v264.2, v257))
     ))))))
    ))
   ))
  )))

noncomputable def spec_AdjointOf_g (v22 : Int) (v23 : Int) (v24 : List Int) : Option ((Unit) ⊕ (Int × Int × (List Int))) := (spec_AdjointOf_T v22 v23 v24).run
def spec_AdjointOf_enc (v22 : Int) (v23 : Int) (v24 : List Int) (y : (Unit) ⊕ (Int × Int × (List Int))) : Rs := (match y with | .inl y => (.tup [.agg [.int .i64 (0 : Int), .int .i64 (0 : Int), .nilslc], .lit false], []) | .inr y => (.tup [.agg [.int .i64 y.1, .int .i64 y.2.1, .own 0 0 ((y.2.2).length)], .lit true], [.row (.i64 y.2.2) 0]))
theorem spec_AdjointOf_den (v22 : Int) (v23 : Int) (v24 : List Int) : (den TT (tabD spec_AdjointOf_tab) (tabM spec_AdjointOf_tab) (spec_AdjointOf_LO v22 v23 v24) (codeOf Try.f36) ([.agg [.int .i64 v22, .int .i64 v23, .bslc (BR.root 0) (.i64 v24)]] ++ List.replicate (Try.f36.ntmps - ([.agg [.int .i64 v22, .int .i64 v23, .bslc (BR.root 0) (.i64 v24)]] : List DV).length) .undef) []).bind (retD TT Try.f36.results.toList 0) = (spec_AdjointOf_T v22 v23 v24).bind fun y => .leaf (spec_AdjointOf_enc v22 v23 v24 y) := by kernel_rfl
theorem spec_AdjointOf_fn (v22 : Int) (v23 : Int) (v24 : List Int) (F : Fr) (hm : F.ids.length = 0) (h0 : St F [] F.H0) (hA : DVs.Ok F [] [.agg [.int .i64 v22, .int .i64 v23, .bslc (BR.root 0) (.i64 v24)]]) {y : (Unit) ⊕ (Int × Int × (List Int))} (hy : spec_AdjointOf_g v22 v23 v24 = some y) : ∃ H', FnOk Try.prog 36 (DVs.av F [.agg [.int .i64 v22, .int .i64 v23, .bslc (BR.root 0) (.i64 v24)]]) F.H0 ((spec_AdjointOf_enc v22 v23 v24 y).1.av F) H' ∧ St F (spec_AdjointOf_enc v22 v23 v24 y).2 H' ∧ (spec_AdjointOf_enc v22 v23 v24 y).1.Ok F (spec_AdjointOf_enc v22 v23 v24 y).2 :=
  fn_fin tok spec_AdjointOf_hO mixed Try.func36 Try.call36 (by kernel_rfl) (LoopsOk_eq (l := [(0, bodyOf Try.f36 0)]) (by kernel_rfl) ⟨spec_AdjointOf_l0_ok v22 v23 v24, trivial⟩) (spec_AdjointOf_den v22 v23 v24) hy hm h0 hA
noncomputable def spec_AdjointOf_F : DFn := fun args L =>
  match args with
  | [.agg [.int .i64 v22, .int .i64 v23, a1]] =>
    optT (rowI64 L a1) fun v24 =>
    .call (spec_AdjointOf_g v22 v23 v24) fun y => .sum y (fun y0 => .leaf (.tup [.agg [.int .i64 (0 : Int), .int .i64 (0 : Int), .nilslc], .lit false], L)) (fun z0 => .leaf (.tup [.agg [.int .i64 z0.1, .int .i64 z0.2.1, .own (L.length + 0) 0 ((z0.2.2).length)], .lit true], L ++ [.row (.i64 z0.2.2) 0]))
  | _ => .fail
theorem spec_AdjointOf_Fok : COk Try.prog 36 spec_AdjointOf_F true := by
  intro F L H args r L' hs ha hr
  unfold spec_AdjointOf_F at hr
  split at hr
  · rename_i v22 v23 a1
    obtain ⟨v24, hv24, hr⟩ := optT_run hr
    simp only [Tree.run] at hr
    obtain ⟨y, hy, hr⟩ := Option.bind_eq_some_iff.1 hr
    cases y with
    | inl y =>
      simp only [Tree.run, Option.some.injEq, Prod.mk.injEq] at hr
      obtain ⟨rfl, rfl⟩ := hr
      exact call_ok0 hs (fun k => (([a1.av F] : List AV)[k]?).getD .top) [.agg [.int .i64 v22, .int .i64 v23, a1]] [.agg [.int .i64 v22, .int .i64 v23, .bslc (BR.root 0) (.i64 v24)]] (fun F' h0 hi hρ => ⟨by simp [DVs.av, DV.av, BR.av, hρ], spec_AdjointOf_fn v22 v23 v24 F' (by rw [hi]; rfl) (st_nil hi) ⟨⟨trivial, trivial, bslc_ok hi (by rw [h0, hρ]; exact rowI64_ok hs (DVs.okAt (DVs.okAt ha 0 rfl) 2 rfl) hv24), trivial⟩, trivial⟩ hy⟩) rfl
    | inr y =>
      simp only [Tree.run, Option.some.injEq, Prod.mk.injEq] at hr
      obtain ⟨rfl, rfl⟩ := hr
      exact call_ok1 hs (fun k => (([a1.av F] : List AV)[k]?).getD .top) [.agg [.int .i64 v22, .int .i64 v23, a1]] [.agg [.int .i64 v22, .int .i64 v23, .bslc (BR.root 0) (.i64 v24)]] (fun F' h0 hi hρ => ⟨by simp [DVs.av, DV.av, BR.av, hρ], spec_AdjointOf_fn v22 v23 v24 F' (by rw [hi]; rfl) (st_nil hi) ⟨⟨trivial, trivial, bslc_ok hi (by rw [h0, hρ]; exact rowI64_ok hs (DVs.okAt (DVs.okAt ha 0 rfl) 2 rfl) hv24), trivial⟩, trivial⟩ hy⟩) rfl rfl
  · cases hr
/-! impl.inRange -/
noncomputable def impl_inRange_LO (v279 : Int) (v280 : Int) (v281 : Int) : LOr := fun id e L =>
  match id with
  | _ => .fail
noncomputable def impl_inRange_tab : List (FuncId × DFn × Bool) := []
theorem impl_inRange_hO : OrcOk Try.prog (tabD impl_inRange_tab) (tabM impl_inRange_tab) := tabD_nil _
noncomputable def impl_inRange_T (v279 : Int) (v280 : Int) (v281 : Int) : Tree (Bool) :=
  (.br (decide (v280 ≤ v279)) (
   .leaf (decide (v279 ≤ v281))
  ) (
   .leaf false
  ))

noncomputable def impl_inRange_g (v279 : Int) (v280 : Int) (v281 : Int) : Option (Bool) := (impl_inRange_T v279 v280 v281).run
def impl_inRange_enc (v279 : Int) (v280 : Int) (v281 : Int) (y : Bool) : Rs := (.bool y, [])
theorem impl_inRange_den (v279 : Int) (v280 : Int) (v281 : Int) : (den TT (tabD impl_inRange_tab) (tabM impl_inRange_tab) (impl_inRange_LO v279 v280 v281) (codeOf Try.f98) ([.int .i64 v279, .int .i64 v280, .int .i64 v281] ++ List.replicate (Try.f98.ntmps - ([.int .i64 v279, .int .i64 v280, .int .i64 v281] : List DV).length) .undef) []).bind (retD TT Try.f98.results.toList 0) = (impl_inRange_T v279 v280 v281).bind fun y => .leaf (impl_inRange_enc v279 v280 v281 y) := by kernel_rfl
theorem impl_inRange_fn (v279 : Int) (v280 : Int) (v281 : Int) (F : Fr) (hm : F.ids.length = 0) (h0 : St F [] F.H0) (hA : DVs.Ok F [] [.int .i64 v279, .int .i64 v280, .int .i64 v281]) {y : Bool} (hy : impl_inRange_g v279 v280 v281 = some y) : ∃ H', FnOk Try.prog 98 (DVs.av F [.int .i64 v279, .int .i64 v280, .int .i64 v281]) F.H0 ((impl_inRange_enc v279 v280 v281 y).1.av F) H' ∧ St F (impl_inRange_enc v279 v280 v281 y).2 H' ∧ (impl_inRange_enc v279 v280 v281 y).1.Ok F (impl_inRange_enc v279 v280 v281 y).2 :=
  fn_fin tok impl_inRange_hO mixed Try.func98 Try.call98 (by kernel_rfl) (LoopsOk_eq (l := []) (by kernel_rfl) trivial) (impl_inRange_den v279 v280 v281) hy hm h0 hA
def impl_inRange_v (v279 : Int) (v280 : Int) (v281 : Int) : Bool :=
  if (decide (v280 ≤ v279)) = true then (
   decide (v279 ≤ v281)
  ) else (
   false
  )
theorem impl_inRange_tot (v279 : Int) (v280 : Int) (v281 : Int) : impl_inRange_g v279 v280 v281 = some (impl_inRange_v v279 v280 v281) := by
  unfold impl_inRange_g impl_inRange_T impl_inRange_v
  simp only [Tree.run]
  repeat' (first | rfl | split)
noncomputable def impl_inRange_F : DFn := fun args L =>
  match args with
  | [.int .i64 v279, .int .i64 v280, .int .i64 v281] =>
    .leaf (.bool (impl_inRange_v v279 v280 v281), L)
  | _ => .fail
theorem impl_inRange_Fok : COk Try.prog 98 impl_inRange_F true := by
  intro F L H args r L' hs ha hr
  unfold impl_inRange_F at hr
  split at hr
  · rename_i v279 v280 v281
    have hy := impl_inRange_tot v279 v280 v281
    generalize impl_inRange_v v279 v280 v281 = y at hy hr
    simp only [Tree.run, Option.some.injEq, Prod.mk.injEq] at hr
    obtain ⟨rfl, rfl⟩ := hr
    exact call_ok0 hs (fun k => (([] : List AV)[k]?).getD .top) [.int .i64 v279, .int .i64 v280, .int .i64 v281] [.int .i64 v279, .int .i64 v280, .int .i64 v281] (fun F' h0 hi hρ => ⟨by simp [DVs.av, DV.av, BR.av, hρ], impl_inRange_fn v279 v280 v281 F' (by rw [hi]; rfl) (st_nil hi) ⟨trivial, trivial, trivial, trivial⟩ hy⟩) rfl
  · cases hr
/-! impl.length[int64] -/
noncomputable def impl_lengthI_LO (v282 : List Int) : LOr := fun id e L =>
  match id with
  | _ => .fail
noncomputable def impl_lengthI_tab : List (FuncId × DFn × Bool) := []
theorem impl_lengthI_hO : OrcOk Try.prog (tabD impl_lengthI_tab) (tabM impl_lengthI_tab) := tabD_nil _
noncomputable def impl_lengthI_T (v282 : List Int) : Tree (Int) :=
  .leaf ((v282.length : Nat) : Int)

noncomputable def impl_lengthI_g (v282 : List Int) : Option (Int) := (impl_lengthI_T v282).run
def impl_lengthI_enc (v282 : List Int) (y : Int) : Rs := (.int .i64 y, [])
theorem impl_lengthI_den (v282 : List Int) : (den TT (tabD impl_lengthI_tab) (tabM impl_lengthI_tab) (impl_lengthI_LO v282) (codeOf Try.f67) ([.bslc (BR.root 0) (.i64 v282)] ++ List.replicate (Try.f67.ntmps - ([.bslc (BR.root 0) (.i64 v282)] : List DV).length) .undef) []).bind (retD TT Try.f67.results.toList 0) = (impl_lengthI_T v282).bind fun y => .leaf (impl_lengthI_enc v282 y) := by kernel_rfl
theorem impl_lengthI_fn (v282 : List Int) (F : Fr) (hm : F.ids.length = 0) (h0 : St F [] F.H0) (hA : DVs.Ok F [] [.bslc (BR.root 0) (.i64 v282)]) {y : Int} (hy : impl_lengthI_g v282 = some y) : ∃ H', FnOk Try.prog 67 (DVs.av F [.bslc (BR.root 0) (.i64 v282)]) F.H0 ((impl_lengthI_enc v282 y).1.av F) H' ∧ St F (impl_lengthI_enc v282 y).2 H' ∧ (impl_lengthI_enc v282 y).1.Ok F (impl_lengthI_enc v282 y).2 :=
  fn_fin tok impl_lengthI_hO mixed Try.func67 Try.call67 (by kernel_rfl) (LoopsOk_eq (l := []) (by kernel_rfl) trivial) (impl_lengthI_den v282) hy hm h0 hA
def impl_lengthI_v (v282 : List Int) : Int :=
  ((v282.length : Nat) : Int)
theorem impl_lengthI_tot (v282 : List Int) : impl_lengthI_g v282 = some (impl_lengthI_v v282) := by
  unfold impl_lengthI_g impl_lengthI_T impl_lengthI_v
  simp only [Tree.run]
  repeat' (first | rfl | split)
noncomputable def impl_lengthI_F : DFn := fun args L =>
  match args with
  | [a1] =>
    optT (rowI64 L a1) fun v282 =>
    .leaf (.int .i64 (impl_lengthI_v v282), L)
  | _ => .fail
theorem impl_lengthI_Fok : COk Try.prog 67 impl_lengthI_F true := by
  intro F L H args r L' hs ha hr
  unfold impl_lengthI_F at hr
  split at hr
  · rename_i a1
    obtain ⟨v282, hv282, hr⟩ := optT_run hr
    have hy := impl_lengthI_tot v282
    generalize impl_lengthI_v v282 = y at hy hr
    simp only [Tree.run, Option.some.injEq, Prod.mk.injEq] at hr
    obtain ⟨rfl, rfl⟩ := hr
    exact call_ok0 hs (fun k => (([a1.av F] : List AV)[k]?).getD .top) [a1] [.bslc (BR.root 0) (.i64 v282)] (fun F' h0 hi hρ => ⟨by simp [DVs.av, DV.av, BR.av, hρ], impl_lengthI_fn v282 F' (by rw [hi]; rfl) (st_nil hi) ⟨bslc_ok hi (by rw [h0, hρ]; exact rowI64_ok hs (DVs.okAt ha 0 rfl) hv282), trivial⟩ hy⟩) rfl
  · cases hr
/-! impl.allIn$1 -/
noncomputable def impl_allIn_1_LO (v293 : Int) (v294 : Int) (v295 : Int) : LOr := fun id e L =>
  match id with
  | _ => .fail
noncomputable def impl_allIn_1_tab : List (FuncId × DFn × Bool) := [(98, impl_inRange_F, true)]
theorem impl_allIn_1_hO : OrcOk Try.prog (tabD impl_allIn_1_tab) (tabM impl_allIn_1_tab) := tabD_cons impl_inRange_Fok (tabD_nil _)
noncomputable def impl_allIn_1_T (v293 : Int) (v294 : Int) (v295 : Int) : Tree (Bool) :=
  .leaf (!(impl_inRange_v v293 v294 v295))

noncomputable def impl_allIn_1_g (v293 : Int) (v294 : Int) (v295 : Int) : Option (Bool) := (impl_allIn_1_T v293 v294 v295).run
def impl_allIn_1_enc (v293 : Int) (v294 : Int) (v295 : Int) (y : Bool) : Rs := (.bool y, [])
theorem impl_allIn_1_den (v293 : Int) (v294 : Int) (v295 : Int) : (den TT (tabD impl_allIn_1_tab) (tabM impl_allIn_1_tab) (impl_allIn_1_LO v293 v294 v295) (codeOf Try.f138) ([.int .i64 v293, .bptr (BR.root 0) [.int .i64 v294], .bptr (BR.root 1) [.int .i64 v295]] ++ List.replicate (Try.f138.ntmps - ([.int .i64 v293, .bptr (BR.root 0) [.int .i64 v294], .bptr (BR.root 1) [.int .i64 v295]] : List DV).length) .undef) []).bind (retD TT Try.f138.results.toList 0) = (impl_allIn_1_T v293 v294 v295).bind fun y => .leaf (impl_allIn_1_enc v293 v294 v295 y) := by kernel_rfl
theorem impl_allIn_1_fn (v293 : Int) (v294 : Int) (v295 : Int) (F : Fr) (hm : F.ids.length = 0) (h0 : St F [] F.H0) (hA : DVs.Ok F [] [.int .i64 v293, .bptr (BR.root 0) [.int .i64 v294], .bptr (BR.root 1) [.int .i64 v295]]) {y : Bool} (hy : impl_allIn_1_g v293 v294 v295 = some y) : ∃ H', FnOk Try.prog 138 (DVs.av F [.int .i64 v293, .bptr (BR.root 0) [.int .i64 v294], .bptr (BR.root 1) [.int .i64 v295]]) F.H0 ((impl_allIn_1_enc v293 v294 v295 y).1.av F) H' ∧ St F (impl_allIn_1_enc v293 v294 v295 y).2 H' ∧ (impl_allIn_1_enc v293 v294 v295 y).1.Ok F (impl_allIn_1_enc v293 v294 v295 y).2 :=
  fn_fin tok impl_allIn_1_hO mixed Try.func138 Try.call138 (by kernel_rfl) (LoopsOk_eq (l := []) (by kernel_rfl) trivial) (impl_allIn_1_den v293 v294 v295) hy hm h0 hA
def impl_allIn_1_v (v293 : Int) (v294 : Int) (v295 : Int) : Bool :=
  !(impl_inRange_v v293 v294 v295)
theorem impl_allIn_1_tot (v293 : Int) (v294 : Int) (v295 : Int) : impl_allIn_1_g v293 v294 v295 = some (impl_allIn_1_v v293 v294 v295) := by
  unfold impl_allIn_1_g impl_allIn_1_T impl_allIn_1_v
  simp only [Tree.run]
  repeat' (first | rfl | split)
noncomputable def impl_allIn_1_F : DFn := fun args L =>
  match args with
  | [.int .i64 v293, a1, a2] =>
    optT (cellsOf L 1 a1) fun cs0 =>
    (match cs0 with
    | [.int .i64 v294] =>
    optT (cellsOf L 1 a2) fun cs1 =>
    (match cs1 with
    | [.int .i64 v295] =>
    .leaf (.bool (impl_allIn_1_v v293 v294 v295), L)
    | _ => .fail)
    | _ => .fail)
  | _ => .fail
theorem impl_allIn_1_Fok : COk Try.prog 138 impl_allIn_1_F true := by
  intro F L H args r L' hs ha hr
  unfold impl_allIn_1_F at hr
  split at hr
  · rename_i v293 a1 a2
    obtain ⟨cs0, hcp0, hr⟩ := optT_run hr
    split at hr
    · rename_i v294
      obtain ⟨cs1, hcp1, hr⟩ := optT_run hr
      split at hr
      · rename_i v295
        have hy := impl_allIn_1_tot v293 v294 v295
        generalize impl_allIn_1_v v293 v294 v295 = y at hy hr
        simp only [Tree.run, Option.some.injEq, Prod.mk.injEq] at hr
        obtain ⟨rfl, rfl⟩ := hr
        exact call_ok0 hs (fun k => (([a1.av F, a2.av F] : List AV)[k]?).getD .top) [.int .i64 v293, a1, a2] [.int .i64 v293, .bptr (BR.root 0) [.int .i64 v294], .bptr (BR.root 1) [.int .i64 v295]] (fun F' h0 hi hρ => ⟨by simp [DVs.av, DV.av, BR.av, hρ], impl_allIn_1_fn v293 v294 v295 F' (by rw [hi]; rfl) (st_nil hi) ⟨trivial, bptr_ok hi (by rw [h0]; simpa [DVs.av, DV.av, BR.av, hρ] using (cellsOf_ok hs (DVs.okAt ha 1 rfl) hcp0).1) ⟨trivial, trivial⟩, bptr_ok hi (by rw [h0]; simpa [DVs.av, DV.av, BR.av, hρ] using (cellsOf_ok hs (DVs.okAt ha 2 rfl) hcp1).1) ⟨trivial, trivial⟩, trivial⟩ hy⟩) rfl
      · cases hr
    · cases hr
  · cases hr
/-! slices.IndexFunc[list of int64,int64] -/
noncomputable def slices_IndexFuncI_l0_T (v289 : List Int) (v290 : Int) (v291 : Int) (s : Int) : Tree ((Int) ⊕ ((Int) ⊕ (Unit))) :=
  (.br (decide (s < ((v289.length : Nat) : Int))) (
   (.grd (inb s v289.length) <|
   (.br (impl_allIn_1_v (nth v289 (Int.toNat s)) v290 v291) (
    .leaf (.inr (.inl s))
   ) (
    .leaf (.inl (IntKind.i64.wrap (s + (1 : Int))))
   )))
  ) (
   .leaf (.inr (.inr ()))
  ))

noncomputable def slices_IndexFuncI_l0_g (v289 : List Int) (v290 : Int) (v291 : Int) (s0 : Int) : Option ((Int) ⊕ (Unit)) := whileM (fun s => (slices_IndexFuncI_l0_T v289 v290 v291 s).run) s0
def slices_IndexFuncI_l0_E (v289 : List Int) (v290 : Int) (v291 : Int) (s : Int) : Sd := ([.bslc (BR.root 0) (.i64 v289), .fn 138 [.bptr (BR.root 1) [.int .i64 v290], .bptr (BR.root 2) [.int .i64 v291]], .top, .top, .top, .top, .top, .int .i64 ((v289.length : Nat) : Int), .int .i64 s, .top, .top, .top, .top, .top, .top, .top, .top, .top, .top], [])
def slices_IndexFuncI_l0_X (v289 : List Int) (v290 : Int) (v291 : Int) (x : (Int) ⊕ (Unit)) : Out := (match x with | .inl x => (.ret, [.top, .top, .top, .top, .int .i64 x, .top, .top, .top, .top, .top, .top, .top, .top, .top, .top, .top, .top, .top, .top], []) | .inr x => (.normal, [.top, .top, .top, .top, .top, .top, .top, .top, .top, .top, .top, .top, .top, .top, .top, .top, .top, .top, .top], []))
def slices_IndexFuncI_l0_kill : List Nat := [0, 0, 1, 1, 1, 1, 1, 0, 0, 1, 1, 1, 1, 1, 1, 1, 1, 1, 1]
def slices_IndexFuncI_l0_nx : Exit → List Nat
  | .exit 0 => [1, 1, 1, 1, 1, 1, 1, 1, 1, 1, 1, 1, 1, 1, 1, 1, 1, 1, 1]
  | .ret => [1, 1, 1, 1, 0, 1, 1, 1, 1, 1, 1, 1, 1, 1, 1, 1, 1, 1, 1]
  | _ => []
noncomputable def slices_IndexFuncI_LO (v289 : List Int) (v290 : Int) (v291 : Int) : LOr := fun id e L =>
  match id with
  | 0 => .need (normA 0 slices_IndexFuncI_l0_kill e L = some (slices_IndexFuncI_l0_E v289 v290 v291 (gI (vAt e 8)))) (.call (slices_IndexFuncI_l0_g v289 v290 v291 (gI (vAt e 8))) fun x => .sum x (fun b0 => .leaf (slices_IndexFuncI_l0_X v289 v290 v291 (.inl b0))) (fun c0 => .leaf (slices_IndexFuncI_l0_X v289 v290 v291 (.inr c0))))
  | _ => .fail
noncomputable def slices_IndexFuncI_tab : List (FuncId × DFn × Bool) := [(138, impl_allIn_1_F, true)]
theorem slices_IndexFuncI_hO : OrcOk Try.prog (tabD slices_IndexFuncI_tab) (tabM slices_IndexFuncI_tab) := tabD_cons impl_allIn_1_Fok (tabD_nil _)
theorem slices_IndexFuncI_l0_be (v289 : List Int) (v290 : Int) (v291 : Int) (s : Int) : bodyT TT (tabD slices_IndexFuncI_tab) (tabM slices_IndexFuncI_tab) (slices_IndexFuncI_LO v289 v290 v291) 0 slices_IndexFuncI_l0_kill slices_IndexFuncI_l0_nx (bodyOf Try.f169 0) 0 (slices_IndexFuncI_l0_E v289 v290 v291 s) = (slices_IndexFuncI_l0_T v289 v290 v291 s).bind fun y => .leaf (outS (slices_IndexFuncI_l0_E v289 v290 v291) (slices_IndexFuncI_l0_X v289 v290 v291) y) := by kernel_rfl
theorem slices_IndexFuncI_l0_ok (v289 : List Int) (v290 : Int) (v291 : Int) : LSound Try.prog 0 (slices_IndexFuncI_LO v289 v290 v291) 0 (bodyOf Try.f169 0) := by
  intro e L out h
  exact lo_ok (E := slices_IndexFuncI_l0_E v289 v290 v291) (gT := slices_IndexFuncI_l0_T v289 v290 v291) (X := slices_IndexFuncI_l0_X v289 v290 v291) (s0 := (gI (vAt e 8))) tok slices_IndexFuncI_hO mixed (LoopsOk_eq (l := []) (by kernel_rfl) trivial) (slices_IndexFuncI_l0_be v289 v290 v291) rfl (by intro x; (cases x with | inl b => rfl | inr x => exact rfl)) h
noncomputable def slices_IndexFuncI_T (v289 : List Int) (v290 : Int) (v291 : Int) : Tree (Int) :=
  (.need (some (slices_IndexFuncI_l0_E v289 v290 v291 (0 : Int)) = some (slices_IndexFuncI_l0_E v289 v290 v291 (0 : Int))) <|
  (.call (slices_IndexFuncI_l0_g v289 v290 v291 (0 : Int)) fun v298 =>
  (.sum v298 (fun v299 =>
   .leaf v299
  ) (fun v300 =>
   .leaf (-1 : Int)
  ))))

noncomputable def slices_IndexFuncI_g (v289 : List Int) (v290 : Int) (v291 : Int) : Option (Int) := (slices_IndexFuncI_T v289 v290 v291).run
def slices_IndexFuncI_enc (v289 : List Int) (v290 : Int) (v291 : Int) (y : Int) : Rs := (.int .i64 y, [])
theorem slices_IndexFuncI_den (v289 : List Int) (v290 : Int) (v291 : Int) : (den TT (tabD slices_IndexFuncI_tab) (tabM slices_IndexFuncI_tab) (slices_IndexFuncI_LO v289 v290 v291) (codeOf Try.f169) ([.bslc (BR.root 0) (.i64 v289), .fn 138 [.bptr (BR.root 1) [.int .i64 v290], .bptr (BR.root 2) [.int .i64 v291]]] ++ List.replicate (Try.f169.ntmps - ([.bslc (BR.root 0) (.i64 v289), .fn 138 [.bptr (BR.root 1) [.int .i64 v290], .bptr (BR.root 2) [.int .i64 v291]]] : List DV).length) .undef) []).bind (retD TT Try.f169.results.toList 0) = (slices_IndexFuncI_T v289 v290 v291).bind fun y => .leaf (slices_IndexFuncI_enc v289 v290 v291 y) := by kernel_rfl
theorem slices_IndexFuncI_fn (v289 : List Int) (v290 : Int) (v291 : Int) (F : Fr) (hm : F.ids.length = 0) (h0 : St F [] F.H0) (hA : DVs.Ok F [] [.bslc (BR.root 0) (.i64 v289), .fn 138 [.bptr (BR.root 1) [.int .i64 v290], .bptr (BR.root 2) [.int .i64 v291]]]) {y : Int} (hy : slices_IndexFuncI_g v289 v290 v291 = some y) : ∃ H', FnOk Try.prog 169 (DVs.av F [.bslc (BR.root 0) (.i64 v289), .fn 138 [.bptr (BR.root 1) [.int .i64 v290], .bptr (BR.root 2) [.int .i64 v291]]]) F.H0 ((slices_IndexFuncI_enc v289 v290 v291 y).1.av F) H' ∧ St F (slices_IndexFuncI_enc v289 v290 v291 y).2 H' ∧ (slices_IndexFuncI_enc v289 v290 v291 y).1.Ok F (slices_IndexFuncI_enc v289 v290 v291 y).2 :=
  fn_fin tok slices_IndexFuncI_hO mixed Try.func169 Try.call169 (by kernel_rfl) (LoopsOk_eq (l := [(0, bodyOf Try.f169 0)]) (by kernel_rfl) ⟨slices_IndexFuncI_l0_ok v289 v290 v291, trivial⟩) (slices_IndexFuncI_den v289 v290 v291) hy hm h0 hA
noncomputable def slices_IndexFuncI_F : DFn := fun args L =>
  match args with
  | [a1, .fn 138 [a2, a3]] =>
    optT (rowI64 L a1) fun v289 =>
    optT (cellsOf L 1 a2) fun cs1 =>
    (match cs1 with
    | [.int .i64 v290] =>
    optT (cellsOf L 1 a3) fun cs2 =>
    (match cs2 with
    | [.int .i64 v291] =>
    .call (slices_IndexFuncI_g v289 v290 v291) fun y => .leaf (.int .i64 y, L)
    | _ => .fail)
    | _ => .fail)
  | _ => .fail
theorem slices_IndexFuncI_Fok : COk Try.prog 169 slices_IndexFuncI_F true := by
  intro F L H args r L' hs ha hr
  unfold slices_IndexFuncI_F at hr
  split at hr
  · rename_i a1 a2 a3
    obtain ⟨v289, hv289, hr⟩ := optT_run hr
    obtain ⟨cs1, hcp1, hr⟩ := optT_run hr
    split at hr
    · rename_i v290
      obtain ⟨cs2, hcp2, hr⟩ := optT_run hr
      split at hr
      · rename_i v291
        simp only [Tree.run] at hr
        obtain ⟨y, hy, hr⟩ := Option.bind_eq_some_iff.1 hr
        simp only [Tree.run, Option.some.injEq, Prod.mk.injEq] at hr
        obtain ⟨rfl, rfl⟩ := hr
        exact call_ok0 hs (fun k => (([a1.av F, a2.av F, a3.av F] : List AV)[k]?).getD .top) [a1, .fn 138 [a2, a3]] [.bslc (BR.root 0) (.i64 v289), .fn 138 [.bptr (BR.root 1) [.int .i64 v290], .bptr (BR.root 2) [.int .i64 v291]]] (fun F' h0 hi hρ => ⟨by simp [DVs.av, DV.av, BR.av, hρ], slices_IndexFuncI_fn v289 v290 v291 F' (by rw [hi]; rfl) (st_nil hi) ⟨bslc_ok hi (by rw [h0, hρ]; exact rowI64_ok hs (DVs.okAt ha 0 rfl) hv289), ⟨bptr_ok hi (by rw [h0]; simpa [DVs.av, DV.av, BR.av, hρ] using (cellsOf_ok hs (DVs.okAt (DVs.okAt ha 1 rfl) 0 rfl) hcp1).1) ⟨trivial, trivial⟩, bptr_ok hi (by rw [h0]; simpa [DVs.av, DV.av, BR.av, hρ] using (cellsOf_ok hs (DVs.okAt (DVs.okAt ha 1 rfl) 1 rfl) hcp2).1) ⟨trivial, trivial⟩, trivial⟩, trivial⟩ hy⟩) rfl
      · cases hr
    · cases hr
  · cases hr
/-! slices.ContainsFunc[list of int64,int64] -/
noncomputable def slices_ContainsFuncI_LO (v286 : List Int) (v287 : Int) (v288 : Int) : LOr := fun id e L =>
  match id with
  | _ => .fail
noncomputable def slices_ContainsFuncI_tab : List (FuncId × DFn × Bool) := [(169, slices_IndexFuncI_F, true)]
theorem slices_ContainsFuncI_hO : OrcOk Try.prog (tabD slices_ContainsFuncI_tab) (tabM slices_ContainsFuncI_tab) := tabD_cons slices_IndexFuncI_Fok (tabD_nil _)
noncomputable def slices_ContainsFuncI_T (v286 : List Int) (v287 : Int) (v288 : Int) : Tree (Bool) :=
  (.call (slices_IndexFuncI_g v286 v287 v288) fun v301 =>
  .leaf (decide ((0 : Int) ≤ v301)))

noncomputable def slices_ContainsFuncI_g (v286 : List Int) (v287 : Int) (v288 : Int) : Option (Bool) := (slices_ContainsFuncI_T v286 v287 v288).run
def slices_ContainsFuncI_enc (v286 : List Int) (v287 : Int) (v288 : Int) (y : Bool) : Rs := (.bool y, [])
theorem slices_ContainsFuncI_den (v286 : List Int) (v287 : Int) (v288 : Int) : (den TT (tabD slices_ContainsFuncI_tab) (tabM slices_ContainsFuncI_tab) (slices_ContainsFuncI_LO v286 v287 v288) (codeOf Try.f137) ([.bslc (BR.root 0) (.i64 v286), .fn 138 [.bptr (BR.root 1) [.int .i64 v287], .bptr (BR.root 2) [.int .i64 v288]]] ++ List.replicate (Try.f137.ntmps - ([.bslc (BR.root 0) (.i64 v286), .fn 138 [.bptr (BR.root 1) [.int .i64 v287], .bptr (BR.root 2) [.int .i64 v288]]] : List DV).length) .undef) []).bind (retD TT Try.f137.results.toList 0) = (slices_ContainsFuncI_T v286 v287 v288).bind fun y => .leaf (slices_ContainsFuncI_enc v286 v287 v288 y) := by kernel_rfl
theorem slices_ContainsFuncI_fn (v286 : List Int) (v287 : Int) (v288 : Int) (F : Fr) (hm : F.ids.length = 0) (h0 : St F [] F.H0) (hA : DVs.Ok F [] [.bslc (BR.root 0) (.i64 v286), .fn 138 [.bptr (BR.root 1) [.int .i64 v287], .bptr (BR.root 2) [.int .i64 v288]]]) {y : Bool} (hy : slices_ContainsFuncI_g v286 v287 v288 = some y) : ∃ H', FnOk Try.prog 137 (DVs.av F [.bslc (BR.root 0) (.i64 v286), .fn 138 [.bptr (BR.root 1) [.int .i64 v287], .bptr (BR.root 2) [.int .i64 v288]]]) F.H0 ((slices_ContainsFuncI_enc v286 v287 v288 y).1.av F) H' ∧ St F (slices_ContainsFuncI_enc v286 v287 v288 y).2 H' ∧ (slices_ContainsFuncI_enc v286 v287 v288 y).1.Ok F (slices_ContainsFuncI_enc v286 v287 v288 y).2 :=
  fn_fin tok slices_ContainsFuncI_hO mixed Try.func137 Try.call137 (by kernel_rfl) (LoopsOk_eq (l := []) (by kernel_rfl) trivial) (slices_ContainsFuncI_den v286 v287 v288) hy hm h0 hA
noncomputable def slices_ContainsFuncI_F : DFn := fun args L =>
  match args with
  | [a1, .fn 138 [a2, a3]] =>
    optT (rowI64 L a1) fun v286 =>
    optT (cellsOf L 1 a2) fun cs1 =>
    (match cs1 with
    | [.int .i64 v287] =>
    optT (cellsOf L 1 a3) fun cs2 =>
    (match cs2 with
    | [.int .i64 v288] =>
    .call (slices_ContainsFuncI_g v286 v287 v288) fun y => .leaf (.bool y, L)
    | _ => .fail)
    | _ => .fail)
  | _ => .fail
theorem slices_ContainsFuncI_Fok : COk Try.prog 137 slices_ContainsFuncI_F true := by
  intro F L H args r L' hs ha hr
  unfold slices_ContainsFuncI_F at hr
  split at hr
  · rename_i a1 a2 a3
    obtain ⟨v286, hv286, hr⟩ := optT_run hr
    obtain ⟨cs1, hcp1, hr⟩ := optT_run hr
    split at hr
    · rename_i v287
      obtain ⟨cs2, hcp2, hr⟩ := optT_run hr
      split at hr
      · rename_i v288
        simp only [Tree.run] at hr
        obtain ⟨y, hy, hr⟩ := Option.bind_eq_some_iff.1 hr
        simp only [Tree.run, Option.some.injEq, Prod.mk.injEq] at hr
        obtain ⟨rfl, rfl⟩ := hr
        exact call_ok0 hs (fun k => (([a1.av F, a2.av F, a3.av F] : List AV)[k]?).getD .top) [a1, .fn 138 [a2, a3]] [.bslc (BR.root 0) (.i64 v286), .fn 138 [.bptr (BR.root 1) [.int .i64 v287], .bptr (BR.root 2) [.int .i64 v288]]] (fun F' h0 hi hρ => ⟨by simp [DVs.av, DV.av, BR.av, hρ], slices_ContainsFuncI_fn v286 v287 v288 F' (by rw [hi]; rfl) (st_nil hi) ⟨bslc_ok hi (by rw [h0, hρ]; exact rowI64_ok hs (DVs.okAt ha 0 rfl) hv286), ⟨bptr_ok hi (by rw [h0]; simpa [DVs.av, DV.av, BR.av, hρ] using (cellsOf_ok hs (DVs.okAt (DVs.okAt ha 1 rfl) 0 rfl) hcp1).1) ⟨trivial, trivial⟩, bptr_ok hi (by rw [h0]; simpa [DVs.av, DV.av, BR.av, hρ] using (cellsOf_ok hs (DVs.okAt (DVs.okAt ha 1 rfl) 1 rfl) hcp2).1) ⟨trivial, trivial⟩, trivial⟩, trivial⟩ hy⟩) rfl
      · cases hr
    · cases hr
  · cases hr
/-! impl.allIn -/
noncomputable def impl_allIn_LO (v283 : List Int) (v284 : Int) (v285 : Int) : LOr := fun id e L =>
  match id with
  | _ => .fail
noncomputable def impl_allIn_tab : List (FuncId × DFn × Bool) := [(137, slices_ContainsFuncI_F, true)]
theorem impl_allIn_hO : OrcOk Try.prog (tabD impl_allIn_tab) (tabM impl_allIn_tab) := tabD_cons slices_ContainsFuncI_Fok (tabD_nil _)
noncomputable def impl_allIn_T (v283 : List Int) (v284 : Int) (v285 : Int) : Tree (Bool) :=
  (.call (slices_ContainsFuncI_g v283 v284 v285) fun v302 =>
  .leaf (!v302))

noncomputable def impl_allIn_g (v283 : List Int) (v284 : Int) (v285 : Int) : Option (Bool) := (impl_allIn_T v283 v284 v285).run
def impl_allIn_enc (v283 : List Int) (v284 : Int) (v285 : Int) (y : Bool) : Rs := (.bool y, [])
theorem impl_allIn_den (v283 : List Int) (v284 : Int) (v285 : Int) : (den TT (tabD impl_allIn_tab) (tabM impl_allIn_tab) (impl_allIn_LO v283 v284 v285) (codeOf Try.f69) ([.bslc (BR.root 0) (.i64 v283), .int .i64 v284, .int .i64 v285] ++ List.replicate (Try.f69.ntmps - ([.bslc (BR.root 0) (.i64 v283), .int .i64 v284, .int .i64 v285] : List DV).length) .undef) []).bind (retD TT Try.f69.results.toList 0) = (impl_allIn_T v283 v284 v285).bind fun y => .leaf (impl_allIn_enc v283 v284 v285 y) := by kernel_rfl
theorem impl_allIn_fn (v283 : List Int) (v284 : Int) (v285 : Int) (F : Fr) (hm : F.ids.length = 0) (h0 : St F [] F.H0) (hA : DVs.Ok F [] [.bslc (BR.root 0) (.i64 v283), .int .i64 v284, .int .i64 v285]) {y : Bool} (hy : impl_allIn_g v283 v284 v285 = some y) : ∃ H', FnOk Try.prog 69 (DVs.av F [.bslc (BR.root 0) (.i64 v283), .int .i64 v284, .int .i64 v285]) F.H0 ((impl_allIn_enc v283 v284 v285 y).1.av F) H' ∧ St F (impl_allIn_enc v283 v284 v285 y).2 H' ∧ (impl_allIn_enc v283 v284 v285 y).1.Ok F (impl_allIn_enc v283 v284 v285 y).2 :=
  fn_fin tok impl_allIn_hO mixed Try.func69 Try.call69 (by kernel_rfl) (LoopsOk_eq (l := []) (by kernel_rfl) trivial) (impl_allIn_den v283 v284 v285) hy hm h0 hA
noncomputable def impl_allIn_F : DFn := fun args L =>
  match args with
  | [a1, .int .i64 v284, .int .i64 v285] =>
    optT (rowI64 L a1) fun v283 =>
    .call (impl_allIn_g v283 v284 v285) fun y => .leaf (.bool y, L)
  | _ => .fail
theorem impl_allIn_Fok : COk Try.prog 69 impl_allIn_F true := by
  intro F L H args r L' hs ha hr
  unfold impl_allIn_F at hr
  split at hr
  · rename_i a1 v284 v285
    obtain ⟨v283, hv283, hr⟩ := optT_run hr
    simp only [Tree.run] at hr
    obtain ⟨y, hy, hr⟩ := Option.bind_eq_some_iff.1 hr
    simp only [Tree.run, Option.some.injEq, Prod.mk.injEq] at hr
    obtain ⟨rfl, rfl⟩ := hr
    exact call_ok0 hs (fun k => (([a1.av F] : List AV)[k]?).getD .top) [a1, .int .i64 v284, .int .i64 v285] [.bslc (BR.root 0) (.i64 v283), .int .i64 v284, .int .i64 v285] (fun F' h0 hi hρ => ⟨by simp [DVs.av, DV.av, BR.av, hρ], impl_allIn_fn v283 v284 v285 F' (by rw [hi]; rfl) (st_nil hi) ⟨bslc_ok hi (by rw [h0, hρ]; exact rowI64_ok hs (DVs.okAt ha 0 rfl) hv283), trivial, trivial, trivial⟩ hy⟩) rfl
  · cases hr
/-! impl.isWhole -/
noncomputable def impl_isWhole_LO (v275 : Int) (v276 : Int) (v277 : List Int) (v278 : Int) : LOr := fun id e L =>
  match id with
  | _ => .fail
noncomputable def impl_isWhole_tab : List (FuncId × DFn × Bool) := [(98, impl_inRange_F, true), (67, impl_lengthI_F, true), (69, impl_allIn_F, true)]
theorem impl_isWhole_hO : OrcOk Try.prog (tabD impl_isWhole_tab) (tabM impl_isWhole_tab) := tabD_cons impl_inRange_Fok (tabD_cons impl_lengthI_Fok (tabD_cons impl_allIn_Fok (tabD_nil _)))
noncomputable def impl_isWhole_T (v275 : Int) (v276 : Int) (v277 : List Int) (v278 : Int) : Tree (Bool) :=
  (.br (impl_inRange_v v275 (1 : Int) (6 : Int)) (
   (.br (impl_inRange_v v276 (1 : Int) (6 : Int)) (
    (.br (decide ((impl_lengthI_v v277) = IntKind.i64.wrap (v275 * v276))) (
     (.call (impl_allIn_g v277 (IntKind.i64.wrap (0 - v278)) v278) fun v303 =>
     .leaf v303)
    ) (
     .leaf false
    ))
   ) (
    .leaf false
   ))
  ) (
   .leaf false
  ))

noncomputable def impl_isWhole_g (v275 : Int) (v276 : Int) (v277 : List Int) (v278 : Int) : Option (Bool) := (impl_isWhole_T v275 v276 v277 v278).run
def impl_isWhole_enc (v275 : Int) (v276 : Int) (v277 : List Int) (v278 : Int) (y : Bool) : Rs := (.bool y, [])
theorem impl_isWhole_den (v275 : Int) (v276 : Int) (v277 : List Int) (v278 : Int) : (den TT (tabD impl_isWhole_tab) (tabM impl_isWhole_tab) (impl_isWhole_LO v275 v276 v277 v278) (codeOf Try.f135) ([.agg [.int .i64 v275, .int .i64 v276, .bslc (BR.root 0) (.i64 v277)], .int .i64 v278] ++ List.replicate (Try.f135.ntmps - ([.agg [.int .i64 v275, .int .i64 v276, .bslc (BR.root 0) (.i64 v277)], .int .i64 v278] : List DV).length) .undef) []).bind (retD TT Try.f135.results.toList 0) = (impl_isWhole_T v275 v276 v277 v278).bind fun y => .leaf (impl_isWhole_enc v275 v276 v277 v278 y) := by kernel_rfl
theorem impl_isWhole_fn (v275 : Int) (v276 : Int) (v277 : List Int) (v278 : Int) (F : Fr) (hm : F.ids.length = 0) (h0 : St F [] F.H0) (hA : DVs.Ok F [] [.agg [.int .i64 v275, .int .i64 v276, .bslc (BR.root 0) (.i64 v277)], .int .i64 v278]) {y : Bool} (hy : impl_isWhole_g v275 v276 v277 v278 = some y) : ∃ H', FnOk Try.prog 135 (DVs.av F [.agg [.int .i64 v275, .int .i64 v276, .bslc (BR.root 0) (.i64 v277)], .int .i64 v278]) F.H0 ((impl_isWhole_enc v275 v276 v277 v278 y).1.av F) H' ∧ St F (impl_isWhole_enc v275 v276 v277 v278 y).2 H' ∧ (impl_isWhole_enc v275 v276 v277 v278 y).1.Ok F (impl_isWhole_enc v275 v276 v277 v278 y).2 :=
  fn_fin tok impl_isWhole_hO mixed Try.func135 Try.call135 (by kernel_rfl) (LoopsOk_eq (l := []) (by kernel_rfl) trivial) (impl_isWhole_den v275 v276 v277 v278) hy hm h0 hA
noncomputable def impl_isWhole_F : DFn := fun args L =>
  match args with
  | [.agg [.int .i64 v275, .int .i64 v276, a1], .int .i64 v278] =>
    optT (rowI64 L a1) fun v277 =>
    .call (impl_isWhole_g v275 v276 v277 v278) fun y => .leaf (.bool y, L)
  | _ => .fail
theorem impl_isWhole_Fok : COk Try.prog 135 impl_isWhole_F true := by
  intro F L H args r L' hs ha hr
  unfold impl_isWhole_F at hr
  split at hr
  · rename_i v275 v276 a1 v278
    obtain ⟨v277, hv277, hr⟩ := optT_run hr
    simp only [Tree.run] at hr
    obtain ⟨y, hy, hr⟩ := Option.bind_eq_some_iff.1 hr
    simp only [Tree.run, Option.some.injEq, Prod.mk.injEq] at hr
    obtain ⟨rfl, rfl⟩ := hr
    exact call_ok0 hs (fun k => (([a1.av F] : List AV)[k]?).getD .top) [.agg [.int .i64 v275, .int .i64 v276, a1], .int .i64 v278] [.agg [.int .i64 v275, .int .i64 v276, .bslc (BR.root 0) (.i64 v277)], .int .i64 v278] (fun F' h0 hi hρ => ⟨by simp [DVs.av, DV.av, BR.av, hρ], impl_isWhole_fn v275 v276 v277 v278 F' (by rw [hi]; rfl) (st_nil hi) ⟨⟨trivial, trivial, bslc_ok hi (by rw [h0, hρ]; exact rowI64_ok hs (DVs.okAt (DVs.okAt ha 0 rfl) 2 rfl) hv277), trivial⟩, trivial, trivial⟩ hy⟩) rfl
  · cases hr
/-! impl.isLow -/
noncomputable def impl_isLow_LO (v272 : Int) (v273 : Int) (v274 : List Int) : LOr := fun id e L =>
  match id with
  | _ => .fail
noncomputable def impl_isLow_tab : List (FuncId × DFn × Bool) := [(135, impl_isWhole_F, true)]
theorem impl_isLow_hO : OrcOk Try.prog (tabD impl_isLow_tab) (tabM impl_isLow_tab) := tabD_cons impl_isWhole_Fok (tabD_nil _)
noncomputable def impl_isLow_T (v272 : Int) (v273 : Int) (v274 : List Int) : Tree (Bool) :=
  (.call (impl_isWhole_g v272 v273 v274 (100 : Int)) fun v304 =>
  .leaf v304)

noncomputable def impl_isLow_g (v272 : Int) (v273 : Int) (v274 : List Int) : Option (Bool) := (impl_isLow_T v272 v273 v274).run
def impl_isLow_enc (v272 : Int) (v273 : Int) (v274 : List Int) (y : Bool) : Rs := (.bool y, [])
theorem impl_isLow_den (v272 : Int) (v273 : Int) (v274 : List Int) : (den TT (tabD impl_isLow_tab) (tabM impl_isLow_tab) (impl_isLow_LO v272 v273 v274) (codeOf Try.f78) ([.agg [.int .i64 v272, .int .i64 v273, .bslc (BR.root 0) (.i64 v274)]] ++ List.replicate (Try.f78.ntmps - ([.agg [.int .i64 v272, .int .i64 v273, .bslc (BR.root 0) (.i64 v274)]] : List DV).length) .undef) []).bind (retD TT Try.f78.results.toList 0) = (impl_isLow_T v272 v273 v274).bind fun y => .leaf (impl_isLow_enc v272 v273 v274 y) := by kernel_rfl
theorem impl_isLow_fn (v272 : Int) (v273 : Int) (v274 : List Int) (F : Fr) (hm : F.ids.length = 0) (h0 : St F [] F.H0) (hA : DVs.Ok F [] [.agg [.int .i64 v272, .int .i64 v273, .bslc (BR.root 0) (.i64 v274)]]) {y : Bool} (hy : impl_isLow_g v272 v273 v274 = some y) : ∃ H', FnOk Try.prog 78 (DVs.av F [.agg [.int .i64 v272, .int .i64 v273, .bslc (BR.root 0) (.i64 v274)]]) F.H0 ((impl_isLow_enc v272 v273 v274 y).1.av F) H' ∧ St F (impl_isLow_enc v272 v273 v274 y).2 H' ∧ (impl_isLow_enc v272 v273 v274 y).1.Ok F (impl_isLow_enc v272 v273 v274 y).2 :=
  fn_fin tok impl_isLow_hO mixed Try.func78 Try.call78 (by kernel_rfl) (LoopsOk_eq (l := []) (by kernel_rfl) trivial) (impl_isLow_den v272 v273 v274) hy hm h0 hA
noncomputable def impl_isLow_F : DFn := fun args L =>
  match args with
  | [.agg [.int .i64 v272, .int .i64 v273, a1]] =>
    optT (rowI64 L a1) fun v274 =>
    .call (impl_isLow_g v272 v273 v274) fun y => .leaf (.bool y, L)
  | _ => .fail
theorem impl_isLow_Fok : COk Try.prog 78 impl_isLow_F true := by
  intro F L H args r L' hs ha hr
  unfold impl_isLow_F at hr
  split at hr
  · rename_i v272 v273 a1
    obtain ⟨v274, hv274, hr⟩ := optT_run hr
    simp only [Tree.run] at hr
    obtain ⟨y, hy, hr⟩ := Option.bind_eq_some_iff.1 hr
    simp only [Tree.run, Option.some.injEq, Prod.mk.injEq] at hr
    obtain ⟨rfl, rfl⟩ := hr
    exact call_ok0 hs (fun k => (([a1.av F] : List AV)[k]?).getD .top) [.agg [.int .i64 v272, .int .i64 v273, a1]] [.agg [.int .i64 v272, .int .i64 v273, .bslc (BR.root 0) (.i64 v274)]] (fun F' h0 hi hρ => ⟨by simp [DVs.av, DV.av, BR.av, hρ], impl_isLow_fn v272 v273 v274 F' (by rw [hi]; rfl) (st_nil hi) ⟨⟨trivial, trivial, bslc_ok hi (by rw [h0, hρ]; exact rowI64_ok hs (DVs.okAt (DVs.okAt ha 0 rfl) 2 rfl) hv274), trivial⟩, trivial⟩ hy⟩) rfl
  · cases hr
/-! impl.ascending -/
noncomputable def impl_ascending_l0_T (v321 : Int) (s : Int × (List Int)) : Tree ((Int × (List Int)) ⊕ ((List Int))) :=
  (.br (decide (s.1 < v321)) (
   (.grd (fits (s.2 ++ ([s.1] : List Int)).length) <|
   .leaf (.inl (IntKind.i64.wrap (s.1 + (1 : Int)), s.2 ++ ([s.1] : List Int))))
  ) (
   .leaf (.inr s.2)
  ))

noncomputable def impl_ascending_l0_g (v321 : Int) (s0 : Int × (List Int)) : Option ((List Int)) := whileM (fun s => (impl_ascending_l0_T v321 s).run) s0
def impl_ascending_l0_E (v321 : Int) (s : Int × (List Int)) : Sd := ([.top, .top, .top, .own 0 0 ((s.2).length), .top, .top, .int .i64 v321, .int .i64 s.1, .top, .top, .top, .top, .top, .top, .top, .top], [.row (.i64 s.2) 0])
def impl_ascending_l0_X (v321 : Int) (x : (List Int)) : Out := (.normal, [.top, .top, .top, .own 0 0 ((x).length), .top, .top, .top, .top, .top, .top, .top, .top, .top, .top, .top, .top], [.row (.i64 x) 0])
def impl_ascending_l0_kill : List Nat := [1, 1, 1, 0, 1, 1, 0, 0, 1, 1, 1, 1, 1, 1, 1, 1]
def impl_ascending_l0_nx : Exit → List Nat
  | .exit 0 => [1, 1, 1, 0, 1, 1, 1, 1, 1, 1, 1, 1, 1, 1, 1, 1]
  | .ret => [1, 1, 0, 1, 1, 1, 1, 1, 1, 1, 1, 1, 1, 1, 1, 1]
  | _ => []
noncomputable def impl_ascending_LO (v321 : Int) : LOr := fun id e L =>
  match id with
  | 0 => .need (normA 0 impl_ascending_l0_kill e L = some (impl_ascending_l0_E v321 ((gI (vAt e 7)), (gRI L (vAt e 3))))) (.call (impl_ascending_l0_g v321 ((gI (vAt e 7)), (gRI L (vAt e 3)))) fun x => .leaf (impl_ascending_l0_X v321 x))
  | _ => .fail
noncomputable def impl_ascending_tab : List (FuncId × DFn × Bool) := []
theorem impl_ascending_hO : OrcOk Try.prog (tabD impl_ascending_tab) (tabM impl_ascending_tab) := tabD_nil _
theorem impl_ascending_l0_be (v321 : Int) (s : Int × (List Int)) : bodyT TT (tabD impl_ascending_tab) (tabM impl_ascending_tab) (impl_ascending_LO v321) 0 impl_ascending_l0_kill impl_ascending_l0_nx (bodyOf Try.f131 0) 0 (impl_ascending_l0_E v321 s) = (impl_ascending_l0_T v321 s).bind fun y => .leaf (outS (impl_ascending_l0_E v321) (impl_ascending_l0_X v321) y) := by kernel_rfl
theorem impl_ascending_l0_ok (v321 : Int) : LSound Try.prog 0 (impl_ascending_LO v321) 0 (bodyOf Try.f131 0) := by
  intro e L out h
  exact lo_ok (E := impl_ascending_l0_E v321) (gT := impl_ascending_l0_T v321) (X := impl_ascending_l0_X v321) (s0 := ((gI (vAt e 7)), (gRI L (vAt e 3)))) tok impl_ascending_hO mixed (LoopsOk_eq (l := []) (by kernel_rfl) trivial) (impl_ascending_l0_be v321) rfl (by intro x; rfl) h
noncomputable def impl_ascending_T (v321 : Int) : Tree ((List Int)) :=
  (.need (some (impl_ascending_l0_E v321 ((0 : Int), ([] : List Int))) = some (impl_ascending_l0_E v321 ((0 : Int), ([] : List Int)))) <|
  (.call (impl_ascending_l0_g v321 ((0 : Int), ([] : List Int))) fun v327 =>
  .leaf v327))

noncomputable def impl_ascending_g (v321 : Int) : Option ((List Int)) := (impl_ascending_T v321).run
def impl_ascending_enc (v321 : Int) (y : (List Int)) : Rs := (.own 0 0 ((y).length), [.row (.i64 y) 0])
theorem impl_ascending_den (v321 : Int) : (den TT (tabD impl_ascending_tab) (tabM impl_ascending_tab) (impl_ascending_LO v321) (codeOf Try.f131) ([.int .i64 v321] ++ List.replicate (Try.f131.ntmps - ([.int .i64 v321] : List DV).length) .undef) []).bind (retD TT Try.f131.results.toList 0) = (impl_ascending_T v321).bind fun y => .leaf (impl_ascending_enc v321 y) := by kernel_rfl
theorem impl_ascending_fn (v321 : Int) (F : Fr) (hm : F.ids.length = 0) (h0 : St F [] F.H0) (hA : DVs.Ok F [] [.int .i64 v321]) {y : (List Int)} (hy : impl_ascending_g v321 = some y) : ∃ H', FnOk Try.prog 131 (DVs.av F [.int .i64 v321]) F.H0 ((impl_ascending_enc v321 y).1.av F) H' ∧ St F (impl_ascending_enc v321 y).2 H' ∧ (impl_ascending_enc v321 y).1.Ok F (impl_ascending_enc v321 y).2 :=
  fn_fin tok impl_ascending_hO mixed Try.func131 Try.call131 (by kernel_rfl) (LoopsOk_eq (l := [(0, bodyOf Try.f131 0)]) (by kernel_rfl) ⟨impl_ascending_l0_ok v321, trivial⟩) (impl_ascending_den v321) hy hm h0 hA
noncomputable def impl_ascending_F : DFn := fun args L =>
  match args with
  | [.int .i64 v321] =>
    .call (impl_ascending_g v321) fun y => .leaf (.own (L.length + 0) 0 ((y).length), L ++ [.row (.i64 y) 0])
  | _ => .fail
theorem impl_ascending_Fok : COk Try.prog 131 impl_ascending_F true := by
  intro F L H args r L' hs ha hr
  unfold impl_ascending_F at hr
  split at hr
  · rename_i v321
    simp only [Tree.run] at hr
    obtain ⟨y, hy, hr⟩ := Option.bind_eq_some_iff.1 hr
    simp only [Tree.run, Option.some.injEq, Prod.mk.injEq] at hr
    obtain ⟨rfl, rfl⟩ := hr
    exact call_ok1 hs (fun k => (([] : List AV)[k]?).getD .top) [.int .i64 v321] [.int .i64 v321] (fun F' h0 hi hρ => ⟨by simp [DVs.av, DV.av, BR.av, hρ], impl_ascending_fn v321 F' (by rw [hi]; rfl) (st_nil hi) ⟨trivial, trivial⟩ hy⟩) rfl rfl
  · cases hr
/-! impl.without$1 -/
noncomputable def impl_without_1_LO (v334 : Int) (v335 : Int) : LOr := fun id e L =>
  match id with
  | _ => .fail
noncomputable def impl_without_1_tab : List (FuncId × DFn × Bool) := []
theorem impl_without_1_hO : OrcOk Try.prog (tabD impl_without_1_tab) (tabM impl_without_1_tab) := tabD_nil _
noncomputable def impl_without_1_T (v334 : Int) (v335 : Int) : Tree (Bool) :=
  .leaf (decide (v334 = v335))

noncomputable def impl_without_1_g (v334 : Int) (v335 : Int) : Option (Bool) := (impl_without_1_T v334 v335).run
def impl_without_1_enc (v334 : Int) (v335 : Int) (y : Bool) : Rs := (.bool y, [])
theorem impl_without_1_den (v334 : Int) (v335 : Int) : (den TT (tabD impl_without_1_tab) (tabM impl_without_1_tab) (impl_without_1_LO v334 v335) (codeOf Try.f144) ([.int .i64 v334, .bptr (BR.root 0) [.int .i64 v335]] ++ List.replicate (Try.f144.ntmps - ([.int .i64 v334, .bptr (BR.root 0) [.int .i64 v335]] : List DV).length) .undef) []).bind (retD TT Try.f144.results.toList 0) = (impl_without_1_T v334 v335).bind fun y => .leaf (impl_without_1_enc v334 v335 y) := by kernel_rfl
theorem impl_without_1_fn (v334 : Int) (v335 : Int) (F : Fr) (hm : F.ids.length = 0) (h0 : St F [] F.H0) (hA : DVs.Ok F [] [.int .i64 v334, .bptr (BR.root 0) [.int .i64 v335]]) {y : Bool} (hy : impl_without_1_g v334 v335 = some y) : ∃ H', FnOk Try.prog 144 (DVs.av F [.int .i64 v334, .bptr (BR.root 0) [.int .i64 v335]]) F.H0 ((impl_without_1_enc v334 v335 y).1.av F) H' ∧ St F (impl_without_1_enc v334 v335 y).2 H' ∧ (impl_without_1_enc v334 v335 y).1.Ok F (impl_without_1_enc v334 v335 y).2 :=
  fn_fin tok impl_without_1_hO mixed Try.func144 Try.call144 (by kernel_rfl) (LoopsOk_eq (l := []) (by kernel_rfl) trivial) (impl_without_1_den v334 v335) hy hm h0 hA
def impl_without_1_v (v334 : Int) (v335 : Int) : Bool :=
  decide (v334 = v335)
theorem impl_without_1_tot (v334 : Int) (v335 : Int) : impl_without_1_g v334 v335 = some (impl_without_1_v v334 v335) := by
  unfold impl_without_1_g impl_without_1_T impl_without_1_v
  simp only [Tree.run]
  repeat' (first | rfl | split)
noncomputable def impl_without_1_F : DFn := fun args L =>
  match args with
  | [.int .i64 v334, a1] =>
    optT (cellsOf L 1 a1) fun cs0 =>
    (match cs0 with
    | [.int .i64 v335] =>
    .leaf (.bool (impl_without_1_v v334 v335), L)
    | _ => .fail)
  | _ => .fail
theorem impl_without_1_Fok : COk Try.prog 144 impl_without_1_F true := by
  intro F L H args r L' hs ha hr
  unfold impl_without_1_F at hr
  split at hr
  · rename_i v334 a1
    obtain ⟨cs0, hcp0, hr⟩ := optT_run hr
    split at hr
    · rename_i v335
      have hy := impl_without_1_tot v334 v335
      generalize impl_without_1_v v334 v335 = y at hy hr
      simp only [Tree.run, Option.some.injEq, Prod.mk.injEq] at hr
      obtain ⟨rfl, rfl⟩ := hr
      exact call_ok0 hs (fun k => (([a1.av F] : List AV)[k]?).getD .top) [.int .i64 v334, a1] [.int .i64 v334, .bptr (BR.root 0) [.int .i64 v335]] (fun F' h0 hi hρ => ⟨by simp [DVs.av, DV.av, BR.av, hρ], impl_without_1_fn v334 v335 F' (by rw [hi]; rfl) (st_nil hi) ⟨trivial, bptr_ok hi (by rw [h0]; simpa [DVs.av, DV.av, BR.av, hρ] using (cellsOf_ok hs (DVs.okAt ha 1 rfl) hcp0).1) ⟨trivial, trivial⟩, trivial⟩ hy⟩) rfl
    · cases hr
  · cases hr
/-! slices.IndexFunc[list of int64,int64] -/
noncomputable def slices_IndexFuncI_i1_l0_T (v331 : List Int) (v332 : Int) (s : Int) : Tree ((Int) ⊕ ((Int) ⊕ (Unit))) :=
  (.br (decide (s < ((v331.length : Nat) : Int))) (
   (.grd (inb s v331.length) <|
   (.br (impl_without_1_v (nth v331 (Int.toNat s)) v332) (
    .leaf (.inr (.inl s))
   ) (
    .leaf (.inl (IntKind.i64.wrap (s + (1 : Int))))
   )))
  ) (
   .leaf (.inr (.inr ()))
  ))

noncomputable def slices_IndexFuncI_i1_l0_g (v331 : List Int) (v332 : Int) (s0 : Int) : Option ((Int) ⊕ (Unit)) := whileM (fun s => (slices_IndexFuncI_i1_l0_T v331 v332 s).run) s0
def slices_IndexFuncI_i1_l0_E (v331 : List Int) (v332 : Int) (s : Int) : Sd := ([.bslc (BR.root 0) (.i64 v331), .fn 144 [.bptr (BR.root 1) [.int .i64 v332]], .top, .top, .top, .top, .top, .int .i64 ((v331.length : Nat) : Int), .int .i64 s, .top, .top, .top, .top, .top, .top, .top, .top, .top, .top], [])
def slices_IndexFuncI_i1_l0_X (v331 : List Int) (v332 : Int) (x : (Int) ⊕ (Unit)) : Out := (match x with | .inl x => (.ret, [.top, .top, .top, .top, .int .i64 x, .top, .top, .top, .top, .top, .top, .top, .top, .top, .top, .top, .top, .top, .top], []) | .inr x => (.normal, [.top, .top, .top, .top, .top, .top, .top, .top, .top, .top, .top, .top, .top, .top, .top, .top, .top, .top, .top], []))
def slices_IndexFuncI_i1_l0_kill : List Nat := [0, 0, 1, 1, 1, 1, 1, 0, 0, 1, 1, 1, 1, 1, 1, 1, 1, 1, 1]
def slices_IndexFuncI_i1_l0_nx : Exit → List Nat
  | .exit 0 => [1, 1, 1, 1, 1, 1, 1, 1, 1, 1, 1, 1, 1, 1, 1, 1, 1, 1, 1]
  | .ret => [1, 1, 1, 1, 0, 1, 1, 1, 1, 1, 1, 1, 1, 1, 1, 1, 1, 1, 1]
  | _ => []
noncomputable def slices_IndexFuncI_i1_LO (v331 : List Int) (v332 : Int) : LOr := fun id e L =>
  match id with
  | 0 => .need (normA 0 slices_IndexFuncI_i1_l0_kill e L = some (slices_IndexFuncI_i1_l0_E v331 v332 (gI (vAt e 8)))) (.call (slices_IndexFuncI_i1_l0_g v331 v332 (gI (vAt e 8))) fun x => .sum x (fun b0 => .leaf (slices_IndexFuncI_i1_l0_X v331 v332 (.inl b0))) (fun c0 => .leaf (slices_IndexFuncI_i1_l0_X v331 v332 (.inr c0))))
  | _ => .fail
noncomputable def slices_IndexFuncI_i1_tab : List (FuncId × DFn × Bool) := [(144, impl_without_1_F, true)]
theorem slices_IndexFuncI_i1_hO : OrcOk Try.prog (tabD slices_IndexFuncI_i1_tab) (tabM slices_IndexFuncI_i1_tab) := tabD_cons impl_without_1_Fok (tabD_nil _)
theorem slices_IndexFuncI_i1_l0_be (v331 : List Int) (v332 : Int) (s : Int) : bodyT TT (tabD slices_IndexFuncI_i1_tab) (tabM slices_IndexFuncI_i1_tab) (slices_IndexFuncI_i1_LO v331 v332) 0 slices_IndexFuncI_i1_l0_kill slices_IndexFuncI_i1_l0_nx (bodyOf Try.f169 0) 0 (slices_IndexFuncI_i1_l0_E v331 v332 s) = (slices_IndexFuncI_i1_l0_T v331 v332 s).bind fun y => .leaf (outS (slices_IndexFuncI_i1_l0_E v331 v332) (slices_IndexFuncI_i1_l0_X v331 v332) y) := by kernel_rfl
theorem slices_IndexFuncI_i1_l0_ok (v331 : List Int) (v332 : Int) : LSound Try.prog 0 (slices_IndexFuncI_i1_LO v331 v332) 0 (bodyOf Try.f169 0) := by
  intro e L out h
  exact lo_ok (E := slices_IndexFuncI_i1_l0_E v331 v332) (gT := slices_IndexFuncI_i1_l0_T v331 v332) (X := slices_IndexFuncI_i1_l0_X v331 v332) (s0 := (gI (vAt e 8))) tok slices_IndexFuncI_i1_hO mixed (LoopsOk_eq (l := []) (by kernel_rfl) trivial) (slices_IndexFuncI_i1_l0_be v331 v332) rfl (by intro x; (cases x with | inl b => rfl | inr x => exact rfl)) h
noncomputable def slices_IndexFuncI_i1_T (v331 : List Int) (v332 : Int) : Tree (Int) :=
  (.need (some (slices_IndexFuncI_i1_l0_E v331 v332 (0 : Int)) = some (slices_IndexFuncI_i1_l0_E v331 v332 (0 : Int))) <|
  (.call (slices_IndexFuncI_i1_l0_g v331 v332 (0 : Int)) fun v338 =>
  (.sum v338 (fun v339 =>
   .leaf v339
  ) (fun v340 =>
   .leaf (-1 : Int)
  ))))

noncomputable def slices_IndexFuncI_i1_g (v331 : List Int) (v332 : Int) : Option (Int) := (slices_IndexFuncI_i1_T v331 v332).run
def slices_IndexFuncI_i1_enc (v331 : List Int) (v332 : Int) (y : Int) : Rs := (.int .i64 y, [])
theorem slices_IndexFuncI_i1_den (v331 : List Int) (v332 : Int) : (den TT (tabD slices_IndexFuncI_i1_tab) (tabM slices_IndexFuncI_i1_tab) (slices_IndexFuncI_i1_LO v331 v332) (codeOf Try.f169) ([.bslc (BR.root 0) (.i64 v331), .fn 144 [.bptr (BR.root 1) [.int .i64 v332]]] ++ List.replicate (Try.f169.ntmps - ([.bslc (BR.root 0) (.i64 v331), .fn 144 [.bptr (BR.root 1) [.int .i64 v332]]] : List DV).length) .undef) []).bind (retD TT Try.f169.results.toList 0) = (slices_IndexFuncI_i1_T v331 v332).bind fun y => .leaf (slices_IndexFuncI_i1_enc v331 v332 y) := by kernel_rfl
theorem slices_IndexFuncI_i1_fn (v331 : List Int) (v332 : Int) (F : Fr) (hm : F.ids.length = 0) (h0 : St F [] F.H0) (hA : DVs.Ok F [] [.bslc (BR.root 0) (.i64 v331), .fn 144 [.bptr (BR.root 1) [.int .i64 v332]]]) {y : Int} (hy : slices_IndexFuncI_i1_g v331 v332 = some y) : ∃ H', FnOk Try.prog 169 (DVs.av F [.bslc (BR.root 0) (.i64 v331), .fn 144 [.bptr (BR.root 1) [.int .i64 v332]]]) F.H0 ((slices_IndexFuncI_i1_enc v331 v332 y).1.av F) H' ∧ St F (slices_IndexFuncI_i1_enc v331 v332 y).2 H' ∧ (slices_IndexFuncI_i1_enc v331 v332 y).1.Ok F (slices_IndexFuncI_i1_enc v331 v332 y).2 :=
  fn_fin tok slices_IndexFuncI_i1_hO mixed Try.func169 Try.call169 (by kernel_rfl) (LoopsOk_eq (l := [(0, bodyOf Try.f169 0)]) (by kernel_rfl) ⟨slices_IndexFuncI_i1_l0_ok v331 v332, trivial⟩) (slices_IndexFuncI_i1_den v331 v332) hy hm h0 hA
noncomputable def slices_IndexFuncI_i1_F : DFn := fun args L =>
  match args with
  | [a1, .fn 144 [a2]] =>
    optT (rowI64 L a1) fun v331 =>
    optT (cellsOf L 1 a2) fun cs1 =>
    (match cs1 with
    | [.int .i64 v332] =>
    .call (slices_IndexFuncI_i1_g v331 v332) fun y => .leaf (.int .i64 y, L)
    | _ => .fail)
  | _ => .fail
theorem slices_IndexFuncI_i1_Fok : COk Try.prog 169 slices_IndexFuncI_i1_F true := by
  intro F L H args r L' hs ha hr
  unfold slices_IndexFuncI_i1_F at hr
  split at hr
  · rename_i a1 a2
    obtain ⟨v331, hv331, hr⟩ := optT_run hr
    obtain ⟨cs1, hcp1, hr⟩ := optT_run hr
    split at hr
    · rename_i v332
      simp only [Tree.run] at hr
      obtain ⟨y, hy, hr⟩ := Option.bind_eq_some_iff.1 hr
      simp only [Tree.run, Option.some.injEq, Prod.mk.injEq] at hr
      obtain ⟨rfl, rfl⟩ := hr
      exact call_ok0 hs (fun k => (([a1.av F, a2.av F] : List AV)[k]?).getD .top) [a1, .fn 144 [a2]] [.bslc (BR.root 0) (.i64 v331), .fn 144 [.bptr (BR.root 1) [.int .i64 v332]]] (fun F' h0 hi hρ => ⟨by simp [DVs.av, DV.av, BR.av, hρ], slices_IndexFuncI_i1_fn v331 v332 F' (by rw [hi]; rfl) (st_nil hi) ⟨bslc_ok hi (by rw [h0, hρ]; exact rowI64_ok hs (DVs.okAt ha 0 rfl) hv331), ⟨bptr_ok hi (by rw [h0]; simpa [DVs.av, DV.av, BR.av, hρ] using (cellsOf_ok hs (DVs.okAt (DVs.okAt ha 1 rfl) 0 rfl) hcp1).1) ⟨trivial, trivial⟩, trivial⟩, trivial⟩ hy⟩) rfl
    · cases hr
  · cases hr
/-! slices.DeleteFunc[list of int64,int64] -/
noncomputable def slices_DeleteFuncI_l0_T (v345 : Int) (s : Int × Int × (List Int)) : Tree ((Int × Int × (List Int)) ⊕ (Int × (List Int))) :=
  (.br (decide (s.2.1 < (((s.2.2).length : Nat) : Int))) (
   (.grd (inb s.2.1 ((s.2.2).length)) <|
   (.br (!(impl_without_1_v (nth s.2.2 (Int.toNat s.2.1)) v345)) (
    (.grd (inb s.1 ((s.2.2).length)) <|
    .leaf (.inl (IntKind.i64.wrap (s.1 + (1 : Int)), IntKind.i64.wrap (s.2.1 + (1 : Int)), List.set s.2.2 (Int.toNat s.1) (nth s.2.2 (Int.toNat s.2.1)))))
   ) (
    .leaf (.inl (s.1, IntKind.i64.wrap (s.2.1 + (1 : Int)), s.2.2))
   )))
  ) (
   .leaf (.inr (s.1, s.2.2))
  ))

noncomputable def slices_DeleteFuncI_l0_g (v345 : Int) (s0 : Int × Int × (List Int)) : Option (Int × (List Int)) := whileM (fun s => (slices_DeleteFuncI_l0_T v345 s).run) s0
def slices_DeleteFuncI_l0_E (v344 : List Int) (v345 : Int) (s : Int × Int × (List Int)) : Sd := ([.own 0 0 ((s.2.2).length), .fn 144 [.bptr (BR.root 1) [.int .i64 v345]], .top, .top, .top, .int .i64 s.1, .int .i64 s.2.1, .top, .top, .top, .top, .top, .top, .top, .top, .top, .top, .top, .top, .top, .top, .top, .top, .top, .top, .top, .top, .top, .top, .top, .top, .top, .top, .top, .top, .top, .top, .top, .top, .top, .top, .top], [.row (.i64 s.2.2) 0])
def slices_DeleteFuncI_l0_X (v344 : List Int) (v345 : Int) (x : Int × (List Int)) : Out := (.normal, [.own 0 0 ((x.2).length), .top, .top, .top, .top, .int .i64 x.1, .top, .top, .top, .top, .top, .top, .top, .top, .top, .top, .top, .top, .top, .top, .top, .top, .top, .top, .top, .top, .top, .top, .top, .top, .top, .top, .top, .top, .top, .top, .top, .top, .top, .top, .top, .top], [.row (.i64 x.2) 0])
def slices_DeleteFuncI_l0_kill : List Nat := [0, 0, 1, 1, 1, 0, 0, 1, 1, 1, 1, 1, 1, 1, 1, 1, 1, 1, 1, 1, 1, 1, 1, 1, 1, 1, 1, 1, 1, 1, 1, 1, 1, 1, 1, 1, 1, 1, 1, 1, 1, 1]
def slices_DeleteFuncI_l0_nx : Exit → List Nat
  | .exit 0 => [0, 1, 1, 1, 1, 0, 1, 1, 1, 1, 1, 1, 1, 1, 1, 1, 1, 1, 1, 1, 1, 1, 1, 1, 1, 1, 1, 1, 1, 1, 1, 1, 1, 1, 1, 1, 1, 1, 1, 1, 1, 1]
  | .ret => [1, 1, 1, 1, 0, 1, 1, 1, 1, 1, 1, 1, 1, 1, 1, 1, 1, 1, 1, 1, 1, 1, 1, 1, 1, 1, 1, 1, 1, 1, 1, 1, 1, 1, 1, 1, 1, 1, 1, 1, 1, 1]
  | _ => []
noncomputable def slices_DeleteFuncI_LO (v344 : List Int) (v345 : Int) : LOr := fun id e L =>
  match id with
  | 0 => .need (normA 1 slices_DeleteFuncI_l0_kill e L = some (slices_DeleteFuncI_l0_E v344 v345 ((gI (vAt e 5)), (gI (vAt e 6)), (gRI L (vAt e 0))))) (.call (slices_DeleteFuncI_l0_g v345 ((gI (vAt e 5)), (gI (vAt e 6)), (gRI L (vAt e 0)))) fun x => .leaf (slices_DeleteFuncI_l0_X v344 v345 x))
  | _ => .fail
noncomputable def slices_DeleteFuncI_tab : List (FuncId × DFn × Bool) := [(169, slices_IndexFuncI_i1_F, true), (144, impl_without_1_F, true)]
theorem slices_DeleteFuncI_hO : OrcOk Try.prog (tabD slices_DeleteFuncI_tab) (tabM slices_DeleteFuncI_tab) := tabD_cons slices_IndexFuncI_i1_Fok (tabD_cons impl_without_1_Fok (tabD_nil _))
theorem slices_DeleteFuncI_l0_be (v344 : List Int) (v345 : Int) (s : Int × Int × (List Int)) : bodyT TT (tabD slices_DeleteFuncI_tab) (tabM slices_DeleteFuncI_tab) (slices_DeleteFuncI_LO v344 v345) 1 slices_DeleteFuncI_l0_kill slices_DeleteFuncI_l0_nx (bodyOf Try.f143 0) 0 (slices_DeleteFuncI_l0_E v344 v345 s) = (slices_DeleteFuncI_l0_T v345 s).bind fun y => .leaf (outS (slices_DeleteFuncI_l0_E v344 v345) (slices_DeleteFuncI_l0_X v344 v345) y) := by kernel_rfl
theorem slices_DeleteFuncI_l0_ok (v344 : List Int) (v345 : Int) : LSound Try.prog 1 (slices_DeleteFuncI_LO v344 v345) 0 (bodyOf Try.f143 0) := by
  intro e L out h
  exact lo_ok (E := slices_DeleteFuncI_l0_E v344 v345) (gT := slices_DeleteFuncI_l0_T v345) (X := slices_DeleteFuncI_l0_X v344 v345) (s0 := ((gI (vAt e 5)), (gI (vAt e 6)), (gRI L (vAt e 0)))) tok slices_DeleteFuncI_hO mixed (LoopsOk_eq (l := []) (by kernel_rfl) trivial) (slices_DeleteFuncI_l0_be v344 v345) rfl (by intro x; rfl) h
noncomputable def slices_DeleteFuncI_T (v344 : List Int) (v345 : Int) : Tree ((Unit) ⊕ (Nat × Nat × (List Int))) :=
  (.call (slices_IndexFuncI_i1_g v344 v345) fun v346 =>
  (.br (decide (v346 = (-1 : Int))) (
   .leaf (.inl ())
  ) (
   (.need (some (slices_DeleteFuncI_l0_E v344 v345 (v346, IntKind.i64.wrap (v346 + (1 : Int)), v344)) = some (slices_DeleteFuncI_l0_E v344 v345 (v346, IntKind.i64.wrap (v346 + (1 : Int)), v344))) <|
   (.call (slices_DeleteFuncI_l0_g v345 (v346, IntKind.i64.wrap (v346 + (1 : Int)), v344)) fun v355 =>
   (.grd (sok v355.1 (((v355.2).length : Nat) : Int) ((v355.2).length)) <|
   (.grd (decide ((Int.toNat v355.1) + (Int.toNat (((v355.2).length : Nat) : Int) - Int.toNat v355.1) ≤ v355.2.length)) <|
   (.grd (sok (0 : Int) v355.1 ((v355.2).length)) <|
   .leaf (.inr (Int.toNat (0 : Int), Int.toNat v355.1 - Int.toNat (0 : Int), overL v355.2 (Int.toNat v355.1) (List.replicate (Int.toNat (((v355.2).length : Nat) : Int) - Int.toNat v355.1) (0 : Int)))))))))
  )))

noncomputable def slices_DeleteFuncI_g (v344 : List Int) (v345 : Int) : Option ((Unit) ⊕ (Nat × Nat × (List Int))) := (slices_DeleteFuncI_T v344 v345).run
def slices_DeleteFuncI_enc (v344 : List Int) (v345 : Int) (y : (Unit) ⊕ (Nat × Nat × (List Int))) : Rs := (match y with | .inl y => (.own 0 0 ((v344).length), [.row (.i64 v344) 0]) | .inr y => (.slc 0 y.1 0 ((y.2.2).length) y.2.1, [.row (.i64 y.2.2) 0]))
theorem slices_DeleteFuncI_den (v344 : List Int) (v345 : Int) : (den TT (tabD slices_DeleteFuncI_tab) (tabM slices_DeleteFuncI_tab) (slices_DeleteFuncI_LO v344 v345) (codeOf Try.f143) ([.own 0 0 v344.length, .fn 144 [.bptr (BR.root 1) [.int .i64 v345]]] ++ List.replicate (Try.f143.ntmps - ([.own 0 0 v344.length, .fn 144 [.bptr (BR.root 1) [.int .i64 v345]]] : List DV).length) .undef) [.row (.i64 v344) 0]).bind (retD TT Try.f143.results.toList 1) = (slices_DeleteFuncI_T v344 v345).bind fun y => .leaf (slices_DeleteFuncI_enc v344 v345 y) := by kernel_rfl
theorem slices_DeleteFuncI_fn (v344 : List Int) (v345 : Int) (F : Fr) (hm : F.ids.length = 1) (h0 : St F [.row (.i64 v344) 0] F.H0) (hA : DVs.Ok F [.row (.i64 v344) 0] [.own 0 0 v344.length, .fn 144 [.bptr (BR.root 1) [.int .i64 v345]]]) {y : (Unit) ⊕ (Nat × Nat × (List Int))} (hy : slices_DeleteFuncI_g v344 v345 = some y) : ∃ H', FnOk Try.prog 143 (DVs.av F [.own 0 0 v344.length, .fn 144 [.bptr (BR.root 1) [.int .i64 v345]]]) F.H0 ((slices_DeleteFuncI_enc v344 v345 y).1.av F) H' ∧ St F (slices_DeleteFuncI_enc v344 v345 y).2 H' ∧ (slices_DeleteFuncI_enc v344 v345 y).1.Ok F (slices_DeleteFuncI_enc v344 v345 y).2 :=
  fn_fin tok slices_DeleteFuncI_hO mixed Try.func143 Try.call143 (by kernel_rfl) (LoopsOk_eq (l := [(0, bodyOf Try.f143 0)]) (by kernel_rfl) ⟨slices_DeleteFuncI_l0_ok v344 v345, trivial⟩) (slices_DeleteFuncI_den v344 v345) hy hm h0 hA
noncomputable def slices_DeleteFuncI_F : DFn := fun args L =>
  match args with
  | [a1, .fn 144 [a2]] =>
    optT (ownI64 L a1) fun qv344 =>
    optT (cellsOf L 1 a2) fun cs1 =>
    (match cs1 with
    | [.int .i64 v345] =>
    (match sepB [qv344.1] [DV.tip a2] with
    | true =>
    .call (slices_DeleteFuncI_g qv344.2 v345) fun y => .sum y (fun y0 => .grd (decide (qv344.2.length = qv344.2.length)) (.leaf (.own qv344.1 (verAt L qv344.1) ((qv344.2).length), setB L [(qv344.1, .row (.i64 qv344.2) (verAt L qv344.1))] ++ []))) (fun z0 => .grd (decide (z0.2.2.length = qv344.2.length)) (.leaf (.slc qv344.1 z0.1 (verAt L qv344.1) ((z0.2.2).length) z0.2.1, setB L [(qv344.1, .row (.i64 z0.2.2) (verAt L qv344.1))] ++ [])))
    | false => .fail)
    | _ => .fail)
  | _ => .fail
theorem slices_DeleteFuncI_Fok : COk Try.prog 143 slices_DeleteFuncI_F false := by
  intro F L H args r L' hs ha hr
  unfold slices_DeleteFuncI_F at hr
  split at hr
  · rename_i a1 a2
    obtain ⟨⟨jv344, v344⟩, hqv344, hr⟩ := optT_run hr
    simp only at hr
    obtain ⟨cs1, hcp1, hr⟩ := optT_run hr
    split at hr
    · rename_i v345
      split at hr
      · rename_i hsep
        obtain ⟨hnd, hsepv⟩ := sepB_spec hsep
        simp only [Tree.run] at hr
        obtain ⟨y, hy, hr⟩ := Option.bind_eq_some_iff.1 hr
        cases y with
        | inl y =>
          try simp only [Tree.run] at hr
          obtain ⟨hl0, hr⟩ := ite_run hr
          simp only [Option.some.injEq, Prod.mk.injEq] at hr
          obtain ⟨rfl, rfl⟩ := hr
          obtain ⟨hr0, hu0, ha0, hb0⟩ := (ownR_spec (DVs.okAt ha 0 rfl) (ownI64_or hqv344))
          exact mutG_ok hs [a1, a2] ⟨(DVs.okAt ha 0 rfl), (DVs.okAt (DVs.okAt ha 1 rfl) 0 rfl), trivial⟩ [a1, .fn 144 [a2]] [.own 0 0 v344.length, .fn 144 [.bptr (BR.root 1) [.int .i64 v345]]] [jv344] [verAt L jv344] [.row (.i64 v344) 0] [.row (.i64 v344) 0] [.row (.i64 v344) (verAt L jv344)] [] hnd rfl rfl (fun j hj => by
              simp at hj
              subst hj; exact ex_lt hr0) (fun j hj => by
              simp at hj
              subst hj; exact reach_refs (by simp [DVs.refs, DV.refs, hu0])) (fun F' h0 hi hρ ab hS => by
              have ab0 := ab 0 _ rfl;
              refine ⟨fun i j b' h1 h2 => ?_, by simp [DBlk.blk, DVs.av, DV.av, BR.av, hρ, Row.len, ha0, ab0], fun hst => slices_DeleteFuncI_fn v344 v345 F' (by rw [hi]; rfl) hst ⟨⟨_, rfl, Nat.le_refl _, Nat.le_refl _, fun _ => rfl, (ownR_spec (DVs.okAt ha 0 rfl) (ownI64_or hqv344)).2.2.2⟩, ⟨(bptrM hS (by rw [hρ]; rfl) (hsepv (DV.tip a2) (by simp)) (DVs.okAt (DVs.okAt ha 1 rfl) 0 rfl) hcp1 (by simp [DBlk.blk, DVs.av, DV.av, BR.av, hρ, Row.len, ha0, ab0]) ⟨trivial, trivial⟩), trivial⟩, trivial⟩ hy⟩
              rcases i with _ | i
              · simp at h1 h2; subst h1; subst h2; obtain ⟨ver_, hv_⟩ := hr0; exact ⟨_, hv_, rfl, hb0⟩
              · simp at h1) rfl rfl (fun i j b b' h1 h2 h3 => by
              rcases i with _ | i
              · simp at h1; subst h1; cases h3; exact growK hr0 (by first | exact of_decide_eq_true hl0 | rfl) h2
              · simp at h1)
        | inr y =>
          try simp only [Tree.run] at hr
          obtain ⟨hl0, hr⟩ := ite_run hr
          simp only [Option.some.injEq, Prod.mk.injEq] at hr
          obtain ⟨rfl, rfl⟩ := hr
          obtain ⟨hr0, hu0, ha0, hb0⟩ := (ownR_spec (DVs.okAt ha 0 rfl) (ownI64_or hqv344))
          exact mutG_ok hs [a1, a2] ⟨(DVs.okAt ha 0 rfl), (DVs.okAt (DVs.okAt ha 1 rfl) 0 rfl), trivial⟩ [a1, .fn 144 [a2]] [.own 0 0 v344.length, .fn 144 [.bptr (BR.root 1) [.int .i64 v345]]] [jv344] [verAt L jv344] [.row (.i64 v344) 0] [.row (.i64 y.2.2) 0] [.row (.i64 y.2.2) (verAt L jv344)] [] hnd rfl rfl (fun j hj => by
              simp at hj
              subst hj; exact ex_lt hr0) (fun j hj => by
              simp at hj
              subst hj; exact reach_refs (by simp [DVs.refs, DV.refs, hu0])) (fun F' h0 hi hρ ab hS => by
              have ab0 := ab 0 _ rfl;
              refine ⟨fun i j b' h1 h2 => ?_, by simp [DBlk.blk, DVs.av, DV.av, BR.av, hρ, Row.len, ha0, ab0], fun hst => slices_DeleteFuncI_fn v344 v345 F' (by rw [hi]; rfl) hst ⟨⟨_, rfl, Nat.le_refl _, Nat.le_refl _, fun _ => rfl, (ownR_spec (DVs.okAt ha 0 rfl) (ownI64_or hqv344)).2.2.2⟩, ⟨(bptrM hS (by rw [hρ]; rfl) (hsepv (DV.tip a2) (by simp)) (DVs.okAt (DVs.okAt ha 1 rfl) 0 rfl) hcp1 (by simp [DBlk.blk, DVs.av, DV.av, BR.av, hρ, Row.len, ha0, ab0]) ⟨trivial, trivial⟩), trivial⟩, trivial⟩ hy⟩
              rcases i with _ | i
              · simp at h1 h2; subst h1; subst h2; obtain ⟨ver_, hv_⟩ := hr0; exact ⟨_, hv_, rfl, hb0⟩
              · simp at h1) rfl rfl (fun i j b b' h1 h2 h3 => by
              rcases i with _ | i
              · simp at h1; subst h1; cases h3; exact growK hr0 (by first | exact of_decide_eq_true hl0 | rfl) h2
              · simp at h1)
      · cases hr
    · cases hr
  · cases hr
/-! impl.without -/
noncomputable def impl_without_LO (v319 : Int) (v320 : Int) : LOr := fun id e L =>
  match id with
  | _ => .fail
noncomputable def impl_without_tab : List (FuncId × DFn × Bool) := [(131, impl_ascending_F, true), (143, slices_DeleteFuncI_F, false)]
theorem impl_without_hO : OrcOk Try.prog (tabD impl_without_tab) (tabM impl_without_tab) := tabD_cons impl_ascending_Fok (tabD_cons slices_DeleteFuncI_Fok (tabD_nil _))
noncomputable def impl_without_T (v319 : Int) (v320 : Int) : Tree (((List Int)) ⊕ (Nat × Nat × (List Int))) :=
  (.call (impl_ascending_g v319) fun v328 =>
  (.call (slices_DeleteFuncI_g v328 v320) fun v356 =>
  (.sum v356 (fun v357 =>
   (.grd (decide (v328.length = v328.length)) <|
   .leaf (.inl v328))
  ) (fun v358 =>
   (.grd (decide (v358.2.2.length = v328.length)) <|
   .leaf (.inr (v358.1, v358.2.1, v358.2.2)))
  ))))

noncomputable def impl_without_g (v319 : Int) (v320 : Int) : Option (((List Int)) ⊕ (Nat × Nat × (List Int))) := (impl_without_T v319 v320).run
def impl_without_enc (v319 : Int) (v320 : Int) (y : ((List Int)) ⊕ (Nat × Nat × (List Int))) : Rs := (match y with | .inl y => (.own 0 0 ((y).length), [.row (.i64 y) 0]) | .inr y => (.slc 0 y.1 0 ((y.2.2).length) y.2.1, [.row (.i64 y.2.2) 0]))
theorem impl_without_den (v319 : Int) (v320 : Int) : (den TT (tabD impl_without_tab) (tabM impl_without_tab) (impl_without_LO v319 v320) (codeOf Try.f88) ([.int .i64 v319, .int .i64 v320] ++ List.replicate (Try.f88.ntmps - ([.int .i64 v319, .int .i64 v320] : List DV).length) .undef) []).bind (retD TT Try.f88.results.toList 0) = (impl_without_T v319 v320).bind fun y => .leaf (impl_without_enc v319 v320 y) := by kernel_rfl
theorem impl_without_fn (v319 : Int) (v320 : Int) (F : Fr) (hm : F.ids.length = 0) (h0 : St F [] F.H0) (hA : DVs.Ok F [] [.int .i64 v319, .int .i64 v320]) {y : ((List Int)) ⊕ (Nat × Nat × (List Int))} (hy : impl_without_g v319 v320 = some y) : ∃ H', FnOk Try.prog 88 (DVs.av F [.int .i64 v319, .int .i64 v320]) F.H0 ((impl_without_enc v319 v320 y).1.av F) H' ∧ St F (impl_without_enc v319 v320 y).2 H' ∧ (impl_without_enc v319 v320 y).1.Ok F (impl_without_enc v319 v320 y).2 :=
  fn_fin tok impl_without_hO mixed Try.func88 Try.call88 (by kernel_rfl) (LoopsOk_eq (l := []) (by kernel_rfl) trivial) (impl_without_den v319 v320) hy hm h0 hA
noncomputable def impl_without_F : DFn := fun args L =>
  match args with
  | [.int .i64 v319, .int .i64 v320] =>
    .call (impl_without_g v319 v320) fun y => .sum y (fun y0 => .leaf (.own (L.length + 0) 0 ((y0).length), L ++ [.row (.i64 y0) 0])) (fun z0 => .leaf (.slc (L.length + 0) z0.1 0 ((z0.2.2).length) z0.2.1, L ++ [.row (.i64 z0.2.2) 0]))
  | _ => .fail
theorem impl_without_Fok : COk Try.prog 88 impl_without_F true := by
  intro F L H args r L' hs ha hr
  unfold impl_without_F at hr
  split at hr
  · rename_i v319 v320
    simp only [Tree.run] at hr
    obtain ⟨y, hy, hr⟩ := Option.bind_eq_some_iff.1 hr
    cases y with
    | inl y =>
      simp only [Tree.run, Option.some.injEq, Prod.mk.injEq] at hr
      obtain ⟨rfl, rfl⟩ := hr
      exact call_ok1 hs (fun k => (([] : List AV)[k]?).getD .top) [.int .i64 v319, .int .i64 v320] [.int .i64 v319, .int .i64 v320] (fun F' h0 hi hρ => ⟨by simp [DVs.av, DV.av, BR.av, hρ], impl_without_fn v319 v320 F' (by rw [hi]; rfl) (st_nil hi) ⟨trivial, trivial, trivial⟩ hy⟩) rfl rfl
    | inr y =>
      simp only [Tree.run, Option.some.injEq, Prod.mk.injEq] at hr
      obtain ⟨rfl, rfl⟩ := hr
      exact call_ok1 hs (fun k => (([] : List AV)[k]?).getD .top) [.int .i64 v319, .int .i64 v320] [.int .i64 v319, .int .i64 v320] (fun F' h0 hi hρ => ⟨by simp [DVs.av, DV.av, BR.av, hρ], impl_without_fn v319 v320 F' (by rw [hi]; rfl) (st_nil hi) ⟨trivial, trivial, trivial⟩ hy⟩) rfl rfl
  · cases hr
/-! (impl.Whole).at -/
noncomputable def impl_Whole_at_LO (v373 : Int) (v374 : Int) (v375 : List Int) (v376 : Int) (v377 : Int) : LOr := fun id e L =>
  match id with
  | _ => .fail
noncomputable def impl_Whole_at_tab : List (FuncId × DFn × Bool) := []
theorem impl_Whole_at_hO : OrcOk Try.prog (tabD impl_Whole_at_tab) (tabM impl_Whole_at_tab) := tabD_nil _
noncomputable def impl_Whole_at_T (v374 : Int) (v375 : List Int) (v376 : Int) (v377 : Int) : Tree (Int) :=
  (.grd (inb (IntKind.i64.wrap ((IntKind.i64.wrap (v376 * v374)) + v377)) v375.length) <|
  .leaf (nth v375 (Int.toNat (IntKind.i64.wrap ((IntKind.i64.wrap (v376 * v374)) + v377)))))

noncomputable def impl_Whole_at_g (v374 : Int) (v375 : List Int) (v376 : Int) (v377 : Int) : Option (Int) := (impl_Whole_at_T v374 v375 v376 v377).run
def impl_Whole_at_enc (v373 : Int) (v374 : Int) (v375 : List Int) (v376 : Int) (v377 : Int) (y : Int) : Rs := (.int .i64 y, [])
theorem impl_Whole_at_den (v373 : Int) (v374 : Int) (v375 : List Int) (v376 : Int) (v377 : Int) : (den TT (tabD impl_Whole_at_tab) (tabM impl_Whole_at_tab) (impl_Whole_at_LO v373 v374 v375 v376 v377) (codeOf Try.f114) ([.agg [.int .i64 v373, .int .i64 v374, .bslc (BR.root 0) (.i64 v375)], .int .i64 v376, .int .i64 v377] ++ List.replicate (Try.f114.ntmps - ([.agg [.int .i64 v373, .int .i64 v374, .bslc (BR.root 0) (.i64 v375)], .int .i64 v376, .int .i64 v377] : List DV).length) .undef) []).bind (retD TT Try.f114.results.toList 0) = (impl_Whole_at_T v374 v375 v376 v377).bind fun y => .leaf (impl_Whole_at_enc v373 v374 v375 v376 v377 y) := by kernel_rfl
theorem impl_Whole_at_fn (v373 : Int) (v374 : Int) (v375 : List Int) (v376 : Int) (v377 : Int) (F : Fr) (hm : F.ids.length = 0) (h0 : St F [] F.H0) (hA : DVs.Ok F [] [.agg [.int .i64 v373, .int .i64 v374, .bslc (BR.root 0) (.i64 v375)], .int .i64 v376, .int .i64 v377]) {y : Int} (hy : impl_Whole_at_g v374 v375 v376 v377 = some y) : ∃ H', FnOk Try.prog 114 (DVs.av F [.agg [.int .i64 v373, .int .i64 v374, .bslc (BR.root 0) (.i64 v375)], .int .i64 v376, .int .i64 v377]) F.H0 ((impl_Whole_at_enc v373 v374 v375 v376 v377 y).1.av F) H' ∧ St F (impl_Whole_at_enc v373 v374 v375 v376 v377 y).2 H' ∧ (impl_Whole_at_enc v373 v374 v375 v376 v377 y).1.Ok F (impl_Whole_at_enc v373 v374 v375 v376 v377 y).2 :=
  fn_fin tok impl_Whole_at_hO mixed Try.func114 Try.call114 (by kernel_rfl) (LoopsOk_eq (l := []) (by kernel_rfl) trivial) (impl_Whole_at_den v373 v374 v375 v376 v377) hy hm h0 hA
noncomputable def impl_Whole_at_F : DFn := fun args L =>
  match args with
  | [.agg [.int .i64 v373, .int .i64 v374, a1], .int .i64 v376, .int .i64 v377] =>
    optT (rowI64 L a1) fun v375 =>
    .call (impl_Whole_at_g v374 v375 v376 v377) fun y => .leaf (.int .i64 y, L)
  | _ => .fail
theorem impl_Whole_at_Fok : COk Try.prog 114 impl_Whole_at_F true := by
  intro F L H args r L' hs ha hr
  unfold impl_Whole_at_F at hr
  split at hr
  · rename_i v373 v374 a1 v376 v377
    obtain ⟨v375, hv375, hr⟩ := optT_run hr
    simp only [Tree.run] at hr
    obtain ⟨y, hy, hr⟩ := Option.bind_eq_some_iff.1 hr
    simp only [Tree.run, Option.some.injEq, Prod.mk.injEq] at hr
    obtain ⟨rfl, rfl⟩ := hr
    exact call_ok0 hs (fun k => (([a1.av F] : List AV)[k]?).getD .top) [.agg [.int .i64 v373, .int .i64 v374, a1], .int .i64 v376, .int .i64 v377] [.agg [.int .i64 v373, .int .i64 v374, .bslc (BR.root 0) (.i64 v375)], .int .i64 v376, .int .i64 v377] (fun F' h0 hi hρ => ⟨by simp [DVs.av, DV.av, BR.av, hρ], impl_Whole_at_fn v373 v374 v375 v376 v377 F' (by rw [hi]; rfl) (st_nil hi) ⟨⟨trivial, trivial, bslc_ok hi (by rw [h0, hρ]; exact rowI64_ok hs (DVs.okAt (DVs.okAt ha 0 rfl) 2 rfl) hv375), trivial⟩, trivial, trivial, trivial⟩ hy⟩) rfl
  · cases hr
/-! slices.Clone[list of int64,int64] -/
noncomputable def slices_CloneI_LO (v379 : List Int) : LOr := fun id e L =>
  match id with
  | _ => .fail
noncomputable def slices_CloneI_tab : List (FuncId × DFn × Bool) := []
theorem slices_CloneI_hO : OrcOk Try.prog (tabD slices_CloneI_tab) (tabM slices_CloneI_tab) := tabD_nil _
noncomputable def slices_CloneI_T (v379 : List Int) : Tree (Unit) :=
  (.grd (decide (0 < v379.length)) <|
  (.grd (fits (([] : List Int) ++ v379).length) <|
  .leaf ()))

noncomputable def slices_CloneI_g (v379 : List Int) : Option (Unit) := (slices_CloneI_T v379).run
def slices_CloneI_enc (v379 : List Int) (y : Unit) : Rs := (.own 0 0 ((([] : List Int) ++ v379).length), [.row (.i64 (([] : List Int) ++ v379)) 0])
theorem slices_CloneI_den (v379 : List Int) : (den TT (tabD slices_CloneI_tab) (tabM slices_CloneI_tab) (slices_CloneI_LO v379) (codeOf Try.f99) ([.bslc (BR.root 0) (.i64 v379)] ++ List.replicate (Try.f99.ntmps - ([.bslc (BR.root 0) (.i64 v379)] : List DV).length) .undef) []).bind (retD TT Try.f99.results.toList 0) = (slices_CloneI_T v379).bind fun y => .leaf (slices_CloneI_enc v379 y) := by kernel_rfl
theorem slices_CloneI_fn (v379 : List Int) (F : Fr) (hm : F.ids.length = 0) (h0 : St F [] F.H0) (hA : DVs.Ok F [] [.bslc (BR.root 0) (.i64 v379)]) {y : Unit} (hy : slices_CloneI_g v379 = some y) : ∃ H', FnOk Try.prog 99 (DVs.av F [.bslc (BR.root 0) (.i64 v379)]) F.H0 ((slices_CloneI_enc v379 y).1.av F) H' ∧ St F (slices_CloneI_enc v379 y).2 H' ∧ (slices_CloneI_enc v379 y).1.Ok F (slices_CloneI_enc v379 y).2 :=
  fn_fin tok slices_CloneI_hO mixed Try.func99 Try.call99 (by kernel_rfl) (LoopsOk_eq (l := []) (by kernel_rfl) trivial) (slices_CloneI_den v379) hy hm h0 hA
noncomputable def slices_CloneI_F : DFn := fun args L =>
  match args with
  | [a1] =>
    optT (rowI64 L a1) fun v379 =>
    .call (slices_CloneI_g v379) fun y => .leaf (.own (L.length + 0) 0 ((([] : List Int) ++ v379).length), L ++ [.row (.i64 (([] : List Int) ++ v379)) 0])
  | _ => .fail
theorem slices_CloneI_Fok : COk Try.prog 99 slices_CloneI_F true := by
  intro F L H args r L' hs ha hr
  unfold slices_CloneI_F at hr
  split at hr
  · rename_i a1
    obtain ⟨v379, hv379, hr⟩ := optT_run hr
    simp only [Tree.run] at hr
    obtain ⟨y, hy, hr⟩ := Option.bind_eq_some_iff.1 hr
    simp only [Tree.run, Option.some.injEq, Prod.mk.injEq] at hr
    obtain ⟨rfl, rfl⟩ := hr
    exact call_ok1 hs (fun k => (([a1.av F] : List AV)[k]?).getD .top) [a1] [.bslc (BR.root 0) (.i64 v379)] (fun F' h0 hi hρ => ⟨by simp [DVs.av, DV.av, BR.av, hρ], slices_CloneI_fn v379 F' (by rw [hi]; rfl) (st_nil hi) ⟨bslc_ok hi (by rw [h0, hρ]; exact rowI64_ok hs (DVs.okAt ha 0 rfl) hv379), trivial⟩ hy⟩) rfl rfl
  · cases hr
/-! slices.Delete[list of int64,int64] -/
noncomputable def slices_DeleteI_LO (v384 : List Int) (v385 : Int) (v386 : Int) : LOr := fun id e L =>
  match id with
  | _ => .fail
noncomputable def slices_DeleteI_tab : List (FuncId × DFn × Bool) := []
theorem slices_DeleteI_hO : OrcOk Try.prog (tabD slices_DeleteI_tab) (tabM slices_DeleteI_tab) := tabD_nil _
noncomputable def slices_DeleteI_T (v384 : List Int) (v385 : Int) (v386 : Int) : Tree ((Unit) ⊕ (Nat × Nat)) :=
  (.grd (sok v385 v386 v384.length) <|
  (.grd (decide (v386 ≤ ((v384.length : Nat) : Int)) && decide (((v384.length : Nat) : Int) ≤ ((v384.length : Nat) : Int))) <|
  (.br (decide (v385 = v386)) (
   .leaf (.inl ())
  ) (
   (.grd (sok (0 : Int) v385 v384.length) <|
   (.grd (sok v386 ((v384.length : Nat) : Int) v384.length) <|
   (.grd (decide ((Int.toNat (0 : Int)) + (Int.toNat v385 - Int.toNat (0 : Int)) + (AM.sub v384 ((Int.toNat v386 : Nat) : Int) (((Int.toNat v386) + (Int.toNat ((v384.length : Nat) : Int) - Int.toNat v386) : Nat) : Int)).length ≤ v384.length)) <|
   (.grd (sok (((Int.toNat v385 - Int.toNat (0 : Int)) + (AM.sub v384 ((Int.toNat v386 : Nat) : Int) (((Int.toNat v386) + (Int.toNat ((v384.length : Nat) : Int) - Int.toNat v386) : Nat) : Int)).length : Nat) : Int) ((v384.length : Nat) : Int) (v384.length - (Int.toNat (0 : Int)))) <|
   (.grd (decide (((Int.toNat (0 : Int)) + Int.toNat (((Int.toNat v385 - Int.toNat (0 : Int)) + (AM.sub v384 ((Int.toNat v386 : Nat) : Int) (((Int.toNat v386) + (Int.toNat ((v384.length : Nat) : Int) - Int.toNat v386) : Nat) : Int)).length : Nat) : Int)) + (Int.toNat ((v384.length : Nat) : Int) - Int.toNat (((Int.toNat v385 - Int.toNat (0 : Int)) + (AM.sub v384 ((Int.toNat v386 : Nat) : Int) (((Int.toNat v386) + (Int.toNat ((v384.length : Nat) : Int) - Int.toNat v386) : Nat) : Int)).length : Nat) : Int)) ≤ (overL v384 ((Int.toNat (0 : Int)) + (Int.toNat v385 - Int.toNat (0 : Int))) (AM.sub v384 ((Int.toNat v386 : Nat) : Int) (((Int.toNat v386) + (Int.toNat ((v384.length : Nat) : Int) - Int.toNat v386) : Nat) : Int))).length)) <|
   .leaf (.inr (Int.toNat (0 : Int), (Int.toNat v385 - Int.toNat (0 : Int)) + (AM.sub v384 ((Int.toNat v386 : Nat) : Int) (((Int.toNat v386) + (Int.toNat ((v384.length : Nat) : Int) - Int.toNat v386) : Nat) : Int)).length)))))))
  ))))

noncomputable def slices_DeleteI_g (v384 : List Int) (v385 : Int) (v386 : Int) : Option ((Unit) ⊕ (Nat × Nat)) := (slices_DeleteI_T v384 v385 v386).run
def slices_DeleteI_enc (v384 : List Int) (v385 : Int) (v386 : Int) (y : (Unit) ⊕ (Nat × Nat)) : Rs := (match y with | .inl y => (.own 0 0 ((v384).length), [.row (.i64 v384) 0]) | .inr y => (.slc 0 y.1 0 ((overL (overL v384 ((Int.toNat (0 : Int)) + (Int.toNat v385 - Int.toNat (0 : Int))) (AM.sub v384 ((Int.toNat v386 : Nat) : Int) (((Int.toNat v386) + (Int.toNat ((v384.length : Nat) : Int) - Int.toNat v386) : Nat) : Int))) ((Int.toNat (0 : Int)) + Int.toNat (((Int.toNat v385 - Int.toNat (0 : Int)) + (AM.sub v384 ((Int.toNat v386 : Nat) : Int) (((Int.toNat v386) + (Int.toNat ((v384.length : Nat) : Int) - Int.toNat v386) : Nat) : Int)).length : Nat) : Int)) (List.replicate (Int.toNat ((v384.length : Nat) : Int) - Int.toNat (((Int.toNat v385 - Int.toNat (0 : Int)) + (AM.sub v384 ((Int.toNat v386 : Nat) : Int) (((Int.toNat v386) + (Int.toNat ((v384.length : Nat) : Int) - Int.toNat v386) : Nat) : Int)).length : Nat) : Int)) (0 : Int))).length) y.2, [.row (.i64 (overL (overL v384 ((Int.toNat (0 : Int)) + (Int.toNat v385 - Int.toNat (0 : Int))) (AM.sub v384 ((Int.toNat v386 : Nat) : Int) (((Int.toNat v386) + (Int.toNat ((v384.length : Nat) : Int) - Int.toNat v386) : Nat) : Int))) ((Int.toNat (0 : Int)) + Int.toNat (((Int.toNat v385 - Int.toNat (0 : Int)) + (AM.sub v384 ((Int.toNat v386 : Nat) : Int) (((Int.toNat v386) + (Int.toNat ((v384.length : Nat) : Int) - Int.toNat v386) : Nat) : Int)).length : Nat) : Int)) (List.replicate (Int.toNat ((v384.length : Nat) : Int) - Int.toNat (((Int.toNat v385 - Int.toNat (0 : Int)) + (AM.sub v384 ((Int.toNat v386 : Nat) : Int) (((Int.toNat v386) + (Int.toNat ((v384.length : Nat) : Int) - Int.toNat v386) : Nat) : Int)).length : Nat) : Int)) (0 : Int)))) 0]))
theorem slices_DeleteI_den (v384 : List Int) (v385 : Int) (v386 : Int) : (den TT (tabD slices_DeleteI_tab) (tabM slices_DeleteI_tab) (slices_DeleteI_LO v384 v385 v386) (codeOf Try.f142) ([.own 0 0 v384.length, .int .i64 v385, .int .i64 v386] ++ List.replicate (Try.f142.ntmps - ([.own 0 0 v384.length, .int .i64 v385, .int .i64 v386] : List DV).length) .undef) [.row (.i64 v384) 0]).bind (retD TT Try.f142.results.toList 1) = (slices_DeleteI_T v384 v385 v386).bind fun y => .leaf (slices_DeleteI_enc v384 v385 v386 y) := by kernel_rfl
theorem slices_DeleteI_fn (v384 : List Int) (v385 : Int) (v386 : Int) (F : Fr) (hm : F.ids.length = 1) (h0 : St F [.row (.i64 v384) 0] F.H0) (hA : DVs.Ok F [.row (.i64 v384) 0] [.own 0 0 v384.length, .int .i64 v385, .int .i64 v386]) {y : (Unit) ⊕ (Nat × Nat)} (hy : slices_DeleteI_g v384 v385 v386 = some y) : ∃ H', FnOk Try.prog 142 (DVs.av F [.own 0 0 v384.length, .int .i64 v385, .int .i64 v386]) F.H0 ((slices_DeleteI_enc v384 v385 v386 y).1.av F) H' ∧ St F (slices_DeleteI_enc v384 v385 v386 y).2 H' ∧ (slices_DeleteI_enc v384 v385 v386 y).1.Ok F (slices_DeleteI_enc v384 v385 v386 y).2 :=
  fn_fin tok slices_DeleteI_hO mixed Try.func142 Try.call142 (by kernel_rfl) (LoopsOk_eq (l := []) (by kernel_rfl) trivial) (slices_DeleteI_den v384 v385 v386) hy hm h0 hA
noncomputable def slices_DeleteI_F : DFn := fun args L =>
  match args with
  | [a1, .int .i64 v385, .int .i64 v386] =>
    optT (ownI64 L a1) fun qv384 =>
    (match sepB [qv384.1] [] with
    | true =>
    .call (slices_DeleteI_g qv384.2 v385 v386) fun y => .sum y (fun y0 => .grd (decide (qv384.2.length = qv384.2.length)) (.leaf (.own qv384.1 (verAt L qv384.1) ((qv384.2).length), setB L [(qv384.1, .row (.i64 qv384.2) (verAt L qv384.1))] ++ []))) (fun z0 => .grd (decide ((overL (overL qv384.2 ((Int.toNat (0 : Int)) + (Int.toNat v385 - Int.toNat (0 : Int))) (AM.sub qv384.2 ((Int.toNat v386 : Nat) : Int) (((Int.toNat v386) + (Int.toNat ((qv384.2.length : Nat) : Int) - Int.toNat v386) : Nat) : Int))) ((Int.toNat (0 : Int)) + Int.toNat (((Int.toNat v385 - Int.toNat (0 : Int)) + (AM.sub qv384.2 ((Int.toNat v386 : Nat) : Int) (((Int.toNat v386) + (Int.toNat ((qv384.2.length : Nat) : Int) - Int.toNat v386) : Nat) : Int)).length : Nat) : Int)) (List.replicate (Int.toNat ((qv384.2.length : Nat) : Int) - Int.toNat (((Int.toNat v385 - Int.toNat (0 : Int)) + (AM.sub qv384.2 ((Int.toNat v386 : Nat) : Int) (((Int.toNat v386) + (Int.toNat ((qv384.2.length : Nat) : Int) - Int.toNat v386) : Nat) : Int)).length : Nat) : Int)) (0 : Int))).length = qv384.2.length)) (.leaf (.slc qv384.1 z0.1 (verAt L qv384.1) ((overL (overL qv384.2 ((Int.toNat (0 : Int)) + (Int.toNat v385 - Int.toNat (0 : Int))) (AM.sub qv384.2 ((Int.toNat v386 : Nat) : Int) (((Int.toNat v386) + (Int.toNat ((qv384.2.length : Nat) : Int) - Int.toNat v386) : Nat) : Int))) ((Int.toNat (0 : Int)) + Int.toNat (((Int.toNat v385 - Int.toNat (0 : Int)) + (AM.sub qv384.2 ((Int.toNat v386 : Nat) : Int) (((Int.toNat v386) + (Int.toNat ((qv384.2.length : Nat) : Int) - Int.toNat v386) : Nat) : Int)).length : Nat) : Int)) (List.replicate (Int.toNat ((qv384.2.length : Nat) : Int) - Int.toNat (((Int.toNat v385 - Int.toNat (0 : Int)) + (AM.sub qv384.2 ((Int.toNat v386 : Nat) : Int) (((Int.toNat v386) + (Int.toNat ((qv384.2.length : Nat) : Int) - Int.toNat v386) : Nat) : Int)).length : Nat) : Int)) (0 : Int))).length) z0.2, setB L [(qv384.1, .row (.i64 (overL (overL qv384.2 ((Int.toNat (0 : Int)) + (Int.toNat v385 - Int.toNat (0 : Int))) (AM.sub qv384.2 ((Int.toNat v386 : Nat) : Int) (((Int.toNat v386) + (Int.toNat ((qv384.2.length : Nat) : Int) - Int.toNat v386) : Nat) : Int))) ((Int.toNat (0 : Int)) + Int.toNat (((Int.toNat v385 - Int.toNat (0 : Int)) + (AM.sub qv384.2 ((Int.toNat v386 : Nat) : Int) (((Int.toNat v386) + (Int.toNat ((qv384.2.length : Nat) : Int) - Int.toNat v386) : Nat) : Int)).length : Nat) : Int)) (List.replicate (Int.toNat ((qv384.2.length : Nat) : Int) - Int.toNat (((Int.toNat v385 - Int.toNat (0 : Int)) + (AM.sub qv384.2 ((Int.toNat v386 : Nat) : Int) (((Int.toNat v386) + (Int.toNat ((qv384.2.length : Nat) : Int) - Int.toNat v386) : Nat) : Int)).length : Nat) : Int)) (0 : Int)))) (verAt L qv384.1))] ++ [])))
    | false => .fail)
  | _ => .fail
theorem slices_DeleteI_Fok : COk Try.prog 142 slices_DeleteI_F false := by
  intro F L H args r L' hs ha hr
  unfold slices_DeleteI_F at hr
  split at hr
  · rename_i a1 v385 v386
    obtain ⟨⟨jv384, v384⟩, hqv384, hr⟩ := optT_run hr
    simp only at hr
    split at hr
    · rename_i hsep
      obtain ⟨hnd, hsepv⟩ := sepB_spec hsep
      simp only [Tree.run] at hr
      obtain ⟨y, hy, hr⟩ := Option.bind_eq_some_iff.1 hr
      cases y with
      | inl y =>
        try simp only [Tree.run] at hr
        obtain ⟨hl0, hr⟩ := ite_run hr
        simp only [Option.some.injEq, Prod.mk.injEq] at hr
        obtain ⟨rfl, rfl⟩ := hr
        obtain ⟨hr0, hu0, ha0, hb0⟩ := (ownR_spec (DVs.okAt ha 0 rfl) (ownI64_or hqv384))
        exact mutG_ok hs [a1] ⟨(DVs.okAt ha 0 rfl), trivial⟩ [a1, .int .i64 v385, .int .i64 v386] [.own 0 0 v384.length, .int .i64 v385, .int .i64 v386] [jv384] [verAt L jv384] [.row (.i64 v384) 0] [.row (.i64 v384) 0] [.row (.i64 v384) (verAt L jv384)] [] hnd rfl rfl (fun j hj => by
            simp at hj
            subst hj; exact ex_lt hr0) (fun j hj => by
            simp at hj
            subst hj; exact reach_refs (by simp [DVs.refs, DV.refs, hu0])) (fun F' h0 hi hρ ab hS => by
            have ab0 := ab 0 _ rfl;
            refine ⟨fun i j b' h1 h2 => ?_, by simp [DBlk.blk, DVs.av, DV.av, BR.av, hρ, Row.len, ha0, ab0], fun hst => slices_DeleteI_fn v384 v385 v386 F' (by rw [hi]; rfl) hst ⟨⟨_, rfl, Nat.le_refl _, Nat.le_refl _, fun _ => rfl, (ownR_spec (DVs.okAt ha 0 rfl) (ownI64_or hqv384)).2.2.2⟩, trivial, trivial, trivial⟩ hy⟩
            rcases i with _ | i
            · simp at h1 h2; subst h1; subst h2; obtain ⟨ver_, hv_⟩ := hr0; exact ⟨_, hv_, rfl, hb0⟩
            · simp at h1) rfl rfl (fun i j b b' h1 h2 h3 => by
            rcases i with _ | i
            · simp at h1; subst h1; cases h3; exact growK hr0 (by first | exact of_decide_eq_true hl0 | rfl) h2
            · simp at h1)
      | inr y =>
        try simp only [Tree.run] at hr
        obtain ⟨hl0, hr⟩ := ite_run hr
        simp only [Option.some.injEq, Prod.mk.injEq] at hr
        obtain ⟨rfl, rfl⟩ := hr
        obtain ⟨hr0, hu0, ha0, hb0⟩ := (ownR_spec (DVs.okAt ha 0 rfl) (ownI64_or hqv384))
        exact mutG_ok hs [a1] ⟨(DVs.okAt ha 0 rfl), trivial⟩ [a1, .int .i64 v385, .int .i64 v386] [.own 0 0 v384.length, .int .i64 v385, .int .i64 v386] [jv384] [verAt L jv384] [.row (.i64 v384) 0] [.row (.i64 (overL (overL v384 ((Int.toNat (0 : Int)) + (Int.toNat v385 - Int.toNat (0 : Int))) (AM.sub v384 ((Int.toNat v386 : Nat) : Int) (((Int.toNat v386) + (Int.toNat ((v384.length : Nat) : Int) - Int.toNat v386) : Nat) : Int))) ((Int.toNat (0 : Int)) + Int.toNat (((Int.toNat v385 - Int.toNat (0 : Int)) + (AM.sub v384 ((Int.toNat v386 : Nat) : Int) (((Int.toNat v386) + (Int.toNat ((v384.length : Nat) : Int) - Int.toNat v386) : Nat) : Int)).length : Nat) : Int)) (List.replicate (Int.toNat ((v384.length : Nat) : Int) - Int.toNat (((Int.toNat v385 - Int.toNat (0 : Int)) + (AM.sub v384 ((Int.toNat v386 : Nat) : Int) (((Int.toNat v386) + (Int.toNat ((v384.length : Nat) : Int) - Int.toNat v386) : Nat) : Int)).length : Nat) : Int)) (0 : Int)))) 0] [.row (.i64 (overL (overL v384 ((Int.toNat (0 : Int)) + (Int.toNat v385 - Int.toNat (0 : Int))) (AM.sub v384 ((Int.toNat v386 : Nat) : Int) (((Int.toNat v386) + (Int.toNat ((v384.length : Nat) : Int) - Int.toNat v386) : Nat) : Int))) ((Int.toNat (0 : Int)) + Int.toNat (((Int.toNat v385 - Int.toNat (0 : Int)) + (AM.sub v384 ((Int.toNat v386 : Nat) : Int) (((Int.toNat v386) + (Int.toNat ((v384.length : Nat) : Int) - Int.toNat v386) : Nat) : Int)).length : Nat) : Int)) (List.replicate (Int.toNat ((v384.length : Nat) : Int) - Int.toNat (((Int.toNat v385 - Int.toNat (0 : Int)) + (AM.sub v384 ((Int.toNat v386 : Nat) : Int) (((Int.toNat v386) + (Int.toNat ((v384.length : Nat) : Int) - Int.toNat v386) : Nat) : Int)).length : Nat) : Int)) (0 : Int)))) (verAt L jv384)] [] hnd rfl rfl (fun j hj => by
            simp at hj
            subst hj; exact ex_lt hr0) (fun j hj => by
            simp at hj
            subst hj; exact reach_refs (by simp [DVs.refs, DV.refs, hu0])) (fun F' h0 hi hρ ab hS => by
            have ab0 := ab 0 _ rfl;
            refine ⟨fun i j b' h1 h2 => ?_, by simp [DBlk.blk, DVs.av, DV.av, BR.av, hρ, Row.len, ha0, ab0], fun hst => slices_DeleteI_fn v384 v385 v386 F' (by rw [hi]; rfl) hst ⟨⟨_, rfl, Nat.le_refl _, Nat.le_refl _, fun _ => rfl, (ownR_spec (DVs.okAt ha 0 rfl) (ownI64_or hqv384)).2.2.2⟩, trivial, trivial, trivial⟩ hy⟩
            rcases i with _ | i
            · simp at h1 h2; subst h1; subst h2; obtain ⟨ver_, hv_⟩ := hr0; exact ⟨_, hv_, rfl, hb0⟩
            · simp at h1) rfl rfl (fun i j b b' h1 h2 h3 => by
            rcases i with _ | i
            · simp at h1; subst h1; cases h3; exact growK hr0 (by first | exact of_decide_eq_true hl0 | rfl) h2
            · simp at h1)
    · cases hr
  · cases hr
/-! (impl.Whole).minor -/
noncomputable def impl_Whole_minor_i3_l0_T (v417 : Int) (v418 : List Int) (v419 : List Int) (v420 : List Int) (s : Int × Int) : Tree ((Int × Int) ⊕ (Unit)) :=
  (.br (decide (s.2 < ((v420.length : Nat) : Int))) (
   (.grd (inb s.2 v420.length) <|
   (.grd (inb (0 : Int) v419.length) <|
   (.call (impl_Whole_at_g v417 v418 (nth v419 (Int.toNat (0 : Int))) (nth v420 (Int.toNat s.2))) fun v438 =>
   (.br (!decide (v438 = (0 : Int))) (
    (.grd (sok (1 : Int) ((v419.length : Nat) : Int) v419.length) <|
    (.call (slices_CloneI_g v420) fun v439 =>
    (.call (slices_DeleteI_g (([] : List Int) ++ v420) s.2 (IntKind.i64.wrap (s.2 + (1 : Int)))) fun v440 =>
    (.sum v440 (fun v441 =>
     (.grd (decide ((([] : List Int) ++ v420).length = (([] : List Int) ++ v420).length)) <|
     .fail)
    ) (fun v442 =>
     (.grd (decide ((overL (overL (([] : List Int) ++ v420) ((Int.toNat (0 : Int)) + (Int.toNat s.2 - Int.toNat (0 : Int))) (AM.sub (([] : List Int) ++ v420) ((Int.toNat (IntKind.i64.wrap (s.2 + (1 : Int))) : Nat) : Int) (((Int.toNat (IntKind.i64.wrap (s.2 + (1 : Int)))) + (Int.toNat (((([] : List Int) ++ v420).length : Nat) : Int) - Int.toNat (IntKind.i64.wrap (s.2 + (1 : Int)))) : Nat) : Int))) ((Int.toNat (0 : Int)) + Int.toNat (((Int.toNat s.2 - Int.toNat (0 : Int)) + (AM.sub (([] : List Int) ++ v420) ((Int.toNat (IntKind.i64.wrap (s.2 + (1 : Int))) : Nat) : Int) (((Int.toNat (IntKind.i64.wrap (s.2 + (1 : Int)))) + (Int.toNat (((([] : List Int) ++ v420).length : Nat) : Int) - Int.toNat (IntKind.i64.wrap (s.2 + (1 : Int)))) : Nat) : Int)).length : Nat) : Int)) (List.replicate (Int.toNat (((([] : List Int) ++ v420).length : Nat) : Int) - Int.toNat (((Int.toNat s.2 - Int.toNat (0 : Int)) + (AM.sub (([] : List Int) ++ v420) ((Int.toNat (IntKind.i64.wrap (s.2 + (1 : Int))) : Nat) : Int) (((Int.toNat (IntKind.i64.wrap (s.2 + (1 : Int)))) + (Int.toNat (((([] : List Int) ++ v420).length : Nat) : Int) - Int.toNat (IntKind.i64.wrap (s.2 + (1 : Int)))) : Nat) : Int)).length : Nat) : Int)) (0 : Int))).length = (([] : List Int) ++ v420).length)) <|
     .fail)
    )))))
   ) (
    .leaf (.inl (IntKind.i64.wrap (0 - s.1), IntKind.i64.wrap (s.2 + (1 : Int))))
   )))))
  ) (
   .leaf (.inr ())
  ))

noncomputable def impl_Whole_minor_i3_l0_g (v417 : Int) (v418 : List Int) (v419 : List Int) (v420 : List Int) (s0 : Int × Int) : Option (Unit) := whileM (fun s => (impl_Whole_minor_i3_l0_T v417 v418 v419 v420 s).run) s0
def impl_Whole_minor_i3_l0_E (v416 : Int) (v417 : Int) (v418 : List Int) (v419 : List Int) (v420 : List Int) (s : Int × Int) : Sd := ([.top, .bslc (BR.root 1) (.i64 v419), .bslc (BR.root 2) (.i64 v420), .ptr 0 (0 : Nat) 0 (3 : Nat), .top, .top, .top, .int .i64 (0 : Int), .int .i64 s.1, .top, .top, .top, .top, .top, .top, .bslc (BR.root 2) (.i64 v420), .int .i64 ((v420.length : Nat) : Int), .int .i64 s.2, .top, .top, .top, .top, .top, .top, .top, .top, .top, .top, .top, .top, .top, .top, .top, .top, .top, .top, .top, .top, .top, .top, .top, .top, .top, .top, .top, .top, .top, .top, .top, .top], [.gen [.int .i64 v416, .int .i64 v417, .bslc (BR.root 0) (.i64 v418)] false 0])
def impl_Whole_minor_i3_l0_X (v416 : Int) (v417 : Int) (v418 : List Int) (v419 : List Int) (v420 : List Int) (x : Unit) : Out := (.normal, [.top, .top, .top, .top, .top, .top, .top, .int .i64 (0 : Int), .top, .top, .top, .top, .top, .top, .top, .top, .top, .top, .top, .top, .top, .top, .top, .top, .top, .top, .top, .top, .top, .top, .top, .top, .top, .top, .top, .top, .top, .top, .top, .top, .top, .top, .top, .top, .top, .top, .top, .top, .top, .top], [])
def impl_Whole_minor_i3_l0_kill : List Nat := [1, 0, 0, 0, 1, 1, 1, 0, 0, 1, 1, 1, 1, 1, 1, 0, 0, 0, 1, 1, 1, 1, 1, 1, 1, 1, 1, 1, 1, 1, 1, 1, 1, 1, 1, 1, 1, 1, 1, 1, 1, 1, 1, 1, 1, 1, 1, 1, 1, 1]
def impl_Whole_minor_i3_l0_nx : Exit → List Nat
  | .exit 0 => [1, 1, 1, 1, 1, 1, 1, 0, 1, 1, 1, 1, 1, 1, 1, 1, 1, 1, 1, 1, 1, 1, 1, 1, 1, 1, 1, 1, 1, 1, 1, 1, 1, 1, 1, 1, 1, 1, 1, 1, 1, 1, 1, 1, 1, 1, 1, 1, 1, 1]
  | .ret => [1, 1, 1, 1, 1, 1, 0, 1, 1, 1, 1, 1, 1, 1, 1, 1, 1, 1, 1, 1, 1, 1, 1, 1, 1, 1, 1, 1, 1, 1, 1, 1, 1, 1, 1, 1, 1, 1, 1, 1, 1, 1, 1, 1, 1, 1, 1, 1, 1, 1]
  | _ => []
noncomputable def impl_Whole_minor_i3_LO (v416 : Int) (v417 : Int) (v418 : List Int) (v419 : List Int) (v420 : List Int) : LOr := fun id e L =>
  match id with
  | 0 => .need (normA 0 impl_Whole_minor_i3_l0_kill e L = some (impl_Whole_minor_i3_l0_E v416 v417 v418 v419 v420 ((gI (vAt e 8)), (gI (vAt e 17))))) (.call (impl_Whole_minor_i3_l0_g v417 v418 v419 v420 ((gI (vAt e 8)), (gI (vAt e 17)))) fun x => .leaf (impl_Whole_minor_i3_l0_X v416 v417 v418 v419 v420 x))
  | _ => .fail
noncomputable def impl_Whole_minor_i3_tab : List (FuncId × DFn × Bool) := [(114, impl_Whole_at_F, true), (99, slices_CloneI_F, true), (142, slices_DeleteI_F, false)]
theorem impl_Whole_minor_i3_hO : OrcOk Try.prog (tabD impl_Whole_minor_i3_tab) (tabM impl_Whole_minor_i3_tab) := tabD_cons impl_Whole_at_Fok (tabD_cons slices_CloneI_Fok (tabD_cons slices_DeleteI_Fok (tabD_nil _)))
theorem impl_Whole_minor_i3_l0_be (v416 : Int) (v417 : Int) (v418 : List Int) (v419 : List Int) (v420 : List Int) (s : Int × Int) : bodyT TT (tabD impl_Whole_minor_i3_tab) (tabM impl_Whole_minor_i3_tab) (impl_Whole_minor_i3_LO v416 v417 v418 v419 v420) 0 impl_Whole_minor_i3_l0_kill impl_Whole_minor_i3_l0_nx (bodyOf Try.f81 0) 0 (impl_Whole_minor_i3_l0_E v416 v417 v418 v419 v420 s) = (impl_Whole_minor_i3_l0_T v417 v418 v419 v420 s).bind fun y => .leaf (outS (impl_Whole_minor_i3_l0_E v416 v417 v418 v419 v420) (impl_Whole_minor_i3_l0_X v416 v417 v418 v419 v420) y) := by kernel_rfl
theorem impl_Whole_minor_i3_l0_ok (v416 : Int) (v417 : Int) (v418 : List Int) (v419 : List Int) (v420 : List Int) : LSound Try.prog 0 (impl_Whole_minor_i3_LO v416 v417 v418 v419 v420) 0 (bodyOf Try.f81 0) := by
  intro e L out h
  exact lo_ok (E := impl_Whole_minor_i3_l0_E v416 v417 v418 v419 v420) (gT := impl_Whole_minor_i3_l0_T v417 v418 v419 v420) (X := impl_Whole_minor_i3_l0_X v416 v417 v418 v419 v420) (s0 := ((gI (vAt e 8)), (gI (vAt e 17)))) tok impl_Whole_minor_i3_hO mixed (LoopsOk_eq (l := []) (by kernel_rfl) trivial) (impl_Whole_minor_i3_l0_be v416 v417 v418 v419 v420) rfl (by intro x; rfl) h
noncomputable def impl_Whole_minor_i3_T (v416 : Int) (v417 : Int) (v418 : List Int) (v419 : List Int) (v420 : List Int) : Tree (Int) :=
  (.br (decide (((v419.length : Nat) : Int) = (0 : Int))) (
   .leaf (1 : Int)
  ) (
   (.need (some (impl_Whole_minor_i3_l0_E v416 v417 v418 v419 v420 ((1 : Int), (0 : Int))) = some (impl_Whole_minor_i3_l0_E v416 v417 v418 v419 v420 ((1 : Int), (0 : Int)))) <|
   (.call (impl_Whole_minor_i3_l0_g v417 v418 v419 v420 ((1 : Int), (0 : Int))) fun v443 =>
   .leaf (0 : Int)))
  ))

noncomputable def impl_Whole_minor_i3_g (v416 : Int) (v417 : Int) (v418 : List Int) (v419 : List Int) (v420 : List Int) : Option (Int) := (impl_Whole_minor_i3_T v416 v417 v418 v419 v420).run
def impl_Whole_minor_i3_enc (v416 : Int) (v417 : Int) (v418 : List Int) (v419 : List Int) (v420 : List Int) (y : Int) : Rs := (.int .i64 y, [])
theorem impl_Whole_minor_i3_den (v416 : Int) (v417 : Int) (v418 : List Int) (v419 : List Int) (v420 : List Int) : (den TT (tabD impl_Whole_minor_i3_tab) (tabM impl_Whole_minor_i3_tab) (impl_Whole_minor_i3_LO v416 v417 v418 v419 v420) (codeOf Try.f81) ([.agg [.int .i64 v416, .int .i64 v417, .bslc (BR.root 0) (.i64 v418)], .bslc (BR.root 1) (.i64 v419), .bslc (BR.root 2) (.i64 v420)] ++ List.replicate (Try.f81.ntmps - ([.agg [.int .i64 v416, .int .i64 v417, .bslc (BR.root 0) (.i64 v418)], .bslc (BR.root 1) (.i64 v419), .bslc (BR.root 2) (.i64 v420)] : List DV).length) .undef) []).bind (retD TT Try.f81.results.toList 0) = (impl_Whole_minor_i3_T v416 v417 v418 v419 v420).bind fun y => .leaf (impl_Whole_minor_i3_enc v416 v417 v418 v419 v420 y) := by kernel_rfl
theorem impl_Whole_minor_i3_fn (v416 : Int) (v417 : Int) (v418 : List Int) (v419 : List Int) (v420 : List Int) (F : Fr) (hm : F.ids.length = 0) (h0 : St F [] F.H0) (hA : DVs.Ok F [] [.agg [.int .i64 v416, .int .i64 v417, .bslc (BR.root 0) (.i64 v418)], .bslc (BR.root 1) (.i64 v419), .bslc (BR.root 2) (.i64 v420)]) {y : Int} (hy : impl_Whole_minor_i3_g v416 v417 v418 v419 v420 = some y) : ∃ H', FnOk Try.prog 81 (DVs.av F [.agg [.int .i64 v416, .int .i64 v417, .bslc (BR.root 0) (.i64 v418)], .bslc (BR.root 1) (.i64 v419), .bslc (BR.root 2) (.i64 v420)]) F.H0 ((impl_Whole_minor_i3_enc v416 v417 v418 v419 v420 y).1.av F) H' ∧ St F (impl_Whole_minor_i3_enc v416 v417 v418 v419 v420 y).2 H' ∧ (impl_Whole_minor_i3_enc v416 v417 v418 v419 v420 y).1.Ok F (impl_Whole_minor_i3_enc v416 v417 v418 v419 v420 y).2 :=
  fn_fin tok impl_Whole_minor_i3_hO mixed Try.func81 Try.call81 (by kernel_rfl) (LoopsOk_eq (l := [(0, bodyOf Try.f81 0)]) (by kernel_rfl) ⟨impl_Whole_minor_i3_l0_ok v416 v417 v418 v419 v420, trivial⟩) (impl_Whole_minor_i3_den v416 v417 v418 v419 v420) hy hm h0 hA
noncomputable def impl_Whole_minor_i3_F : DFn := fun args L =>
  match args with
  | [.agg [.int .i64 v416, .int .i64 v417, a1], a2, a3] =>
    optT (rowI64 L a1) fun v418 =>
    optT (rowI64 L a2) fun v419 =>
    optT (rowI64 L a3) fun v420 =>
    .call (impl_Whole_minor_i3_g v416 v417 v418 v419 v420) fun y => .leaf (.int .i64 y, L)
  | _ => .fail
theorem impl_Whole_minor_i3_Fok : COk Try.prog 81 impl_Whole_minor_i3_F true := by
  intro F L H args r L' hs ha hr
  unfold impl_Whole_minor_i3_F at hr
  split at hr
  · rename_i v416 v417 a1 a2 a3
    obtain ⟨v418, hv418, hr⟩ := optT_run hr
    obtain ⟨v419, hv419, hr⟩ := optT_run hr
    obtain ⟨v420, hv420, hr⟩ := optT_run hr
    simp only [Tree.run] at hr
    obtain ⟨y, hy, hr⟩ := Option.bind_eq_some_iff.1 hr
    simp only [Tree.run, Option.some.injEq, Prod.mk.injEq] at hr
    obtain ⟨rfl, rfl⟩ := hr
    exact call_ok0 hs (fun k => (([a1.av F, a2.av F, a3.av F] : List AV)[k]?).getD .top) [.agg [.int .i64 v416, .int .i64 v417, a1], a2, a3] [.agg [.int .i64 v416, .int .i64 v417, .bslc (BR.root 0) (.i64 v418)], .bslc (BR.root 1) (.i64 v419), .bslc (BR.root 2) (.i64 v420)] (fun F' h0 hi hρ => ⟨by simp [DVs.av, DV.av, BR.av, hρ], impl_Whole_minor_i3_fn v416 v417 v418 v419 v420 F' (by rw [hi]; rfl) (st_nil hi) ⟨⟨trivial, trivial, bslc_ok hi (by rw [h0, hρ]; exact rowI64_ok hs (DVs.okAt (DVs.okAt ha 0 rfl) 2 rfl) hv418), trivial⟩, bslc_ok hi (by rw [h0, hρ]; exact rowI64_ok hs (DVs.okAt ha 1 rfl) hv419), bslc_ok hi (by rw [h0, hρ]; exact rowI64_ok hs (DVs.okAt ha 2 rfl) hv420), trivial⟩ hy⟩) rfl
  · cases hr
end Go.Proofs.Ytbjnjaclmcpbbaa.AM
