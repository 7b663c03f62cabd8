/- Functions: what they come to. -/
import Derived.Test.YtbjnjaclmcpbbaaBase
set_option maxRecDepth 100000
set_option maxHeartbeats 4000000
set_option linter.unusedSimpArgs false
set_option linter.unusedVariables false
namespace Go.Proofs.Ytbjnjaclmcpbbaa.AM
open Go.Proofs
/-! laws.szInt64S -/
noncomputable def laws_szInt64S_LO (v8 : List Int) (v9 : Int) : LOr := fun id e L =>
  match id with
  | _ => .fail
noncomputable def laws_szInt64S_tab : List (FuncId × DFn × Bool) := []
theorem laws_szInt64S_hO : OrcOk Try.prog (tabD laws_szInt64S_tab) (tabM laws_szInt64S_tab) := tabD_nil _
noncomputable def laws_szInt64S_T (v8 : List Int) (v9 : Int) : Tree (Int) :=
  (.br (decide (IntKind.i64.wrap (v9 - ((v8.length : Nat) : Int)) < (0 : Int))) (
   .leaf (-1 : Int)
  ) (
   .leaf (IntKind.i64.wrap (v9 - ((v8.length : Nat) : Int)))
  ))

noncomputable def laws_szInt64S_g (v8 : List Int) (v9 : Int) : Option (Int) := (laws_szInt64S_T v8 v9).run
def laws_szInt64S_enc (v8 : List Int) (v9 : Int) (y : Int) : Rs := (.int .i64 y, [])
theorem laws_szInt64S_den (v8 : List Int) (v9 : Int) : (den TT (tabD laws_szInt64S_tab) (tabM laws_szInt64S_tab) (laws_szInt64S_LO v8 v9) (codeOf Try.f61) ([.bslc (BR.root 0) (.i64 v8), .int .i64 v9] ++ List.replicate (Try.f61.ntmps - ([.bslc (BR.root 0) (.i64 v8), .int .i64 v9] : List DV).length) .undef) []).bind (retD TT Try.f61.results.toList 0) = (laws_szInt64S_T v8 v9).bind fun y => .leaf (laws_szInt64S_enc v8 v9 y) := by kernel_rfl
theorem laws_szInt64S_fn (v8 : List Int) (v9 : Int) (F : Fr) (hm : F.ids.length = 0) (h0 : St F [] F.H0) (hA : DVs.Ok F [] [.bslc (BR.root 0) (.i64 v8), .int .i64 v9]) {y : Int} (hy : laws_szInt64S_g v8 v9 = some y) : ∃ H', FnOk Try.prog 61 (DVs.av F [.bslc (BR.root 0) (.i64 v8), .int .i64 v9]) F.H0 ((laws_szInt64S_enc v8 v9 y).1.av F) H' ∧ St F (laws_szInt64S_enc v8 v9 y).2 H' ∧ (laws_szInt64S_enc v8 v9 y).1.Ok F (laws_szInt64S_enc v8 v9 y).2 :=
  fn_fin tok laws_szInt64S_hO mixed Try.func61 Try.call61 (by kernel_rfl) (LoopsOk_eq (l := []) (by kernel_rfl) trivial) (laws_szInt64S_den v8 v9) hy hm h0 hA
def laws_szInt64S_v (v8 : List Int) (v9 : Int) : Int :=
  if (decide (IntKind.i64.wrap (v9 - ((v8.length : Nat) : Int)) < (0 : Int))) = true then (
   (-1 : Int)
  ) else (
   IntKind.i64.wrap (v9 - ((v8.length : Nat) : Int))
  )
theorem laws_szInt64S_tot (v8 : List Int) (v9 : Int) : laws_szInt64S_g v8 v9 = some (laws_szInt64S_v v8 v9) := by
  unfold laws_szInt64S_g laws_szInt64S_T laws_szInt64S_v
  simp only [Tree.run]
  repeat' (first | rfl | split)
noncomputable def laws_szInt64S_F : DFn := fun args L =>
  match args with
  | [a1, .int .i64 v9] =>
    optT (rowI64 L a1) fun v8 =>
    .leaf (.int .i64 (laws_szInt64S_v v8 v9), L)
  | _ => .fail
theorem laws_szInt64S_Fok : COk Try.prog 61 laws_szInt64S_F true := by
  intro F L H args r L' hs ha hr
  unfold laws_szInt64S_F at hr
  split at hr
  · rename_i a1 v9
    obtain ⟨v8, hv8, hr⟩ := optT_run hr
    have hy := laws_szInt64S_tot v8 v9
    generalize laws_szInt64S_v v8 v9 = y at hy hr
    simp only [Tree.run, Option.some.injEq, Prod.mk.injEq] at hr
    obtain ⟨rfl, rfl⟩ := hr
    exact call_ok0 hs (fun k => (([a1.av F] : List AV)[k]?).getD .top) [a1, .int .i64 v9] [.bslc (BR.root 0) (.i64 v8), .int .i64 v9] (fun F' h0 hi hρ => ⟨by simp [DVs.av, DV.av, BR.av, hρ], laws_szInt64S_fn v8 v9 F' (by rw [hi]; rfl) (st_nil hi) ⟨bslc_ok hi (by rw [h0, hρ]; exact rowI64_ok hs (DVs.okAt ha 0 rfl) hv8), trivial, trivial⟩ hy⟩) rfl
  · cases hr
/-! laws.szWhole -/
noncomputable def laws_szWhole_LO (v4 : Int) (v5 : Int) (v6 : List Int) (v7 : Int) : LOr := fun id e L =>
  match id with
  | _ => .fail
noncomputable def laws_szWhole_tab : List (FuncId × DFn × Bool) := [(61, laws_szInt64S_F, true)]
theorem laws_szWhole_hO : OrcOk Try.prog (tabD laws_szWhole_tab) (tabM laws_szWhole_tab) := tabD_cons laws_szInt64S_Fok (tabD_nil _)
noncomputable def laws_szWhole_T (v6 : List Int) (v7 : Int) : Tree (Int) :=
  (.br (decide ((laws_szInt64S_v v6 v7) < (0 : Int))) (
   .leaf (-1 : Int)
  ) (
   .leaf (laws_szInt64S_v v6 v7)
  ))

noncomputable def laws_szWhole_g (v6 : List Int) (v7 : Int) : Option (Int) := (laws_szWhole_T v6 v7).run
def laws_szWhole_enc (v4 : Int) (v5 : Int) (v6 : List Int) (v7 : Int) (y : Int) : Rs := (.int .i64 y, [])
theorem laws_szWhole_den (v4 : Int) (v5 : Int) (v6 : List Int) (v7 : Int) : (den TT (tabD laws_szWhole_tab) (tabM laws_szWhole_tab) (laws_szWhole_LO v4 v5 v6 v7) (codeOf Try.f15) ([.agg [.int .i64 v4, .int .i64 v5, .bslc (BR.root 0) (.i64 v6)], .int .i64 v7] ++ List.replicate (Try.f15.ntmps - ([.agg [.int .i64 v4, .int .i64 v5, .bslc (BR.root 0) (.i64 v6)], .int .i64 v7] : List DV).length) .undef) []).bind (retD TT Try.f15.results.toList 0) = (laws_szWhole_T v6 v7).bind fun y => .leaf (laws_szWhole_enc v4 v5 v6 v7 y) := by kernel_rfl
theorem laws_szWhole_fn (v4 : Int) (v5 : Int) (v6 : List Int) (v7 : Int) (F : Fr) (hm : F.ids.length = 0) (h0 : St F [] F.H0) (hA : DVs.Ok F [] [.agg [.int .i64 v4, .int .i64 v5, .bslc (BR.root 0) (.i64 v6)], .int .i64 v7]) {y : Int} (hy : laws_szWhole_g v6 v7 = some y) : ∃ H', FnOk Try.prog 15 (DVs.av F [.agg [.int .i64 v4, .int .i64 v5, .bslc (BR.root 0) (.i64 v6)], .int .i64 v7]) F.H0 ((laws_szWhole_enc v4 v5 v6 v7 y).1.av F) H' ∧ St F (laws_szWhole_enc v4 v5 v6 v7 y).2 H' ∧ (laws_szWhole_enc v4 v5 v6 v7 y).1.Ok F (laws_szWhole_enc v4 v5 v6 v7 y).2 :=
  fn_fin tok laws_szWhole_hO mixed Try.func15 Try.call15 (by kernel_rfl) (LoopsOk_eq (l := []) (by kernel_rfl) trivial) (laws_szWhole_den v4 v5 v6 v7) hy hm h0 hA
def laws_szWhole_v (v6 : List Int) (v7 : Int) : Int :=
  if (decide ((laws_szInt64S_v v6 v7) < (0 : Int))) = true then (
   (-1 : Int)
  ) else (
   (laws_szInt64S_v v6 v7)
  )
theorem laws_szWhole_tot (v6 : List Int) (v7 : Int) : laws_szWhole_g v6 v7 = some (laws_szWhole_v v6 v7) := by
  unfold laws_szWhole_g laws_szWhole_T laws_szWhole_v
  simp only [Tree.run]
  repeat' (first | rfl | split)
noncomputable def laws_szWhole_F : DFn := fun args L =>
  match args with
  | [.agg [.int .i64 v4, .int .i64 v5, a1], .int .i64 v7] =>
    optT (rowI64 L a1) fun v6 =>
    .leaf (.int .i64 (laws_szWhole_v v6 v7), L)
  | _ => .fail
theorem laws_szWhole_Fok : COk Try.prog 15 laws_szWhole_F true := by
  intro F L H args r L' hs ha hr
  unfold laws_szWhole_F at hr
  split at hr
  · rename_i v4 v5 a1 v7
    obtain ⟨v6, hv6, hr⟩ := optT_run hr
    have hy := laws_szWhole_tot v6 v7
    generalize laws_szWhole_v v6 v7 = y at hy hr
    simp only [Tree.run, Option.some.injEq, Prod.mk.injEq] at hr
    obtain ⟨rfl, rfl⟩ := hr
    exact call_ok0 hs (fun k => (([a1.av F] : List AV)[k]?).getD .top) [.agg [.int .i64 v4, .int .i64 v5, a1], .int .i64 v7] [.agg [.int .i64 v4, .int .i64 v5, .bslc (BR.root 0) (.i64 v6)], .int .i64 v7] (fun F' h0 hi hρ => ⟨by simp [DVs.av, DV.av, BR.av, hρ], laws_szWhole_fn v4 v5 v6 v7 F' (by rw [hi]; rfl) (st_nil hi) ⟨⟨trivial, trivial, bslc_ok hi (by rw [h0, hρ]; exact rowI64_ok hs (DVs.okAt (DVs.okAt ha 0 rfl) 2 rfl) hv6), trivial⟩, trivial, trivial⟩ hy⟩) rfl
  · cases hr
/-! laws.toInt64S -/
noncomputable def laws_toInt64S_l0_T (v13 : List Int) (s : Int × (List Int)) : Tree ((Int × (List Int)) ⊕ ((List Int))) :=
  (.br (decide (s.1 < ((v13.length : Nat) : Int))) (
   (.grd (inb s.1 v13.length) <|
   (.grd (inb s.1 ((s.2).length)) <|
   .leaf (.inl (IntKind.i64.wrap (s.1 + (1 : Int)), List.set s.2 (Int.toNat s.1) (nth v13 (Int.toNat s.1))))))
  ) (
   .leaf (.inr s.2)
  ))

noncomputable def laws_toInt64S_l0_g (v13 : List Int) (s0 : Int × (List Int)) : Option ((List Int)) := whileM (fun s => (laws_toInt64S_l0_T v13 s).run) s0
def laws_toInt64S_l0_E (v13 : List Int) (s : Int × (List Int)) : Sd := ([.bslc (BR.root 0) (.i64 v13), .top, .top, .own 0 0 ((s.2).length), .int .i64 s.1, .top, .top, .top, .top, .top, .top, .top, .top, .top, .top, .top, .top, .top, .top, .top, .top, .top], [.row (.i64 s.2) 0])
def laws_toInt64S_l0_X (v13 : List Int) (x : (List Int)) : Out := (.normal, [.top, .top, .top, .own 0 0 ((x).length), .top, .top, .top, .top, .top, .top, .top, .top, .top, .top, .top, .top, .top, .top, .top, .top, .top, .top], [.row (.i64 x) 0])
def laws_toInt64S_l0_kill : List Nat := [0, 1, 1, 0, 0, 1, 1, 1, 1, 1, 1, 1, 1, 1, 1, 1, 1, 1, 1, 1, 1, 1]
def laws_toInt64S_l0_nx : Exit → List Nat
  | .exit 0 => [1, 1, 1, 0, 1, 1, 1, 1, 1, 1, 1, 1, 1, 1, 1, 1, 1, 1, 1, 1, 1, 1]
  | .ret => [1, 1, 0, 1, 1, 1, 1, 1, 1, 1, 1, 1, 1, 1, 1, 1, 1, 1, 1, 1, 1, 1]
  | _ => []
noncomputable def laws_toInt64S_LO (v13 : List Int) : LOr := fun id e L =>
  match id with
  | 0 => .need (normA 0 laws_toInt64S_l0_kill e L = some (laws_toInt64S_l0_E v13 ((gI (vAt e 4)), (gRI L (vAt e 3))))) (.call (laws_toInt64S_l0_g v13 ((gI (vAt e 4)), (gRI L (vAt e 3)))) fun x => .leaf (laws_toInt64S_l0_X v13 x))
  | _ => .fail
noncomputable def laws_toInt64S_tab : List (FuncId × DFn × Bool) := []
theorem laws_toInt64S_hO : OrcOk Try.prog (tabD laws_toInt64S_tab) (tabM laws_toInt64S_tab) := tabD_nil _
theorem laws_toInt64S_l0_be (v13 : List Int) (s : Int × (List Int)) : bodyT TT (tabD laws_toInt64S_tab) (tabM laws_toInt64S_tab) (laws_toInt64S_LO v13) 0 laws_toInt64S_l0_kill laws_toInt64S_l0_nx (bodyOf Try.f23 0) 0 (laws_toInt64S_l0_E v13 s) = (laws_toInt64S_l0_T v13 s).bind fun y => .leaf (outS (laws_toInt64S_l0_E v13) (laws_toInt64S_l0_X v13) y) := by kernel_rfl
theorem laws_toInt64S_l0_ok (v13 : List Int) : LSound Try.prog 0 (laws_toInt64S_LO v13) 0 (bodyOf Try.f23 0) := by
  intro e L out h
  exact lo_ok (E := laws_toInt64S_l0_E v13) (gT := laws_toInt64S_l0_T v13) (X := laws_toInt64S_l0_X v13) (s0 := ((gI (vAt e 4)), (gRI L (vAt e 3)))) tok laws_toInt64S_hO mixed (LoopsOk_eq (l := []) (by kernel_rfl) trivial) (laws_toInt64S_l0_be v13) rfl (by intro x; rfl) h
noncomputable def laws_toInt64S_T (v13 : List Int) : Tree ((List Int)) :=
  (.need (((v13.length : Nat) : Int) = ((v13.length : Nat) : Int)) <|
  (.grd (inb ((v13.length : Nat) : Int) (maxN + 1)) <|
  (.need (some (laws_toInt64S_l0_E v13 ((0 : Int), List.replicate (Int.toNat ((v13.length : Nat) : Int)) (0 : Int))) = some (laws_toInt64S_l0_E v13 ((0 : Int), List.replicate (Int.toNat ((v13.length : Nat) : Int)) (0 : Int)))) <|
  (.call (laws_toInt64S_l0_g v13 ((0 : Int), List.replicate (Int.toNat ((v13.length : Nat) : Int)) (0 : Int))) fun v19 =>
  .leaf v19))))

noncomputable def laws_toInt64S_g (v13 : List Int) : Option ((List Int)) := (laws_toInt64S_T v13).run
def laws_toInt64S_enc (v13 : List Int) (y : (List Int)) : Rs := (.own 0 0 ((y).length), [.row (.i64 y) 0])
theorem laws_toInt64S_den (v13 : List Int) : (den TT (tabD laws_toInt64S_tab) (tabM laws_toInt64S_tab) (laws_toInt64S_LO v13) (codeOf Try.f23) ([.bslc (BR.root 0) (.i64 v13)] ++ List.replicate (Try.f23.ntmps - ([.bslc (BR.root 0) (.i64 v13)] : List DV).length) .undef) []).bind (retD TT Try.f23.results.toList 0) = (laws_toInt64S_T v13).bind fun y => .leaf (laws_toInt64S_enc v13 y) := by kernel_rfl
theorem laws_toInt64S_fn (v13 : List Int) (F : Fr) (hm : F.ids.length = 0) (h0 : St F [] F.H0) (hA : DVs.Ok F [] [.bslc (BR.root 0) (.i64 v13)]) {y : (List Int)} (hy : laws_toInt64S_g v13 = some y) : ∃ H', FnOk Try.prog 23 (DVs.av F [.bslc (BR.root 0) (.i64 v13)]) F.H0 ((laws_toInt64S_enc v13 y).1.av F) H' ∧ St F (laws_toInt64S_enc v13 y).2 H' ∧ (laws_toInt64S_enc v13 y).1.Ok F (laws_toInt64S_enc v13 y).2 :=
  fn_fin tok laws_toInt64S_hO mixed Try.func23 Try.call23 (by kernel_rfl) (LoopsOk_eq (l := [(0, bodyOf Try.f23 0)]) (by kernel_rfl) ⟨laws_toInt64S_l0_ok v13, trivial⟩) (laws_toInt64S_den v13) hy hm h0 hA
noncomputable def laws_toInt64S_F : DFn := fun args L =>
  match args with
  | [a1] =>
    optT (rowI64 L a1) fun v13 =>
    .call (laws_toInt64S_g v13) fun y => .leaf (.own (L.length + 0) 0 ((y).length), L ++ [.row (.i64 y) 0])
  | _ => .fail
theorem laws_toInt64S_Fok : COk Try.prog 23 laws_toInt64S_F true := by
  intro F L H args r L' hs ha hr
  unfold laws_toInt64S_F at hr
  split at hr
  · rename_i a1
    obtain ⟨v13, hv13, hr⟩ := optT_run hr
    simp only [Tree.run] at hr
    obtain ⟨y, hy, hr⟩ := Option.bind_eq_some_iff.1 hr
    simp only [Tree.run, Option.some.injEq, Prod.mk.injEq] at hr
    obtain ⟨rfl, rfl⟩ := hr
    exact call_ok1 hs (fun k => (([a1.av F] : List AV)[k]?).getD .top) [a1] [.bslc (BR.root 0) (.i64 v13)] (fun F' h0 hi hρ => ⟨by simp [DVs.av, DV.av, BR.av, hρ], laws_toInt64S_fn v13 F' (by rw [hi]; rfl) (st_nil hi) ⟨bslc_ok hi (by rw [h0, hρ]; exact rowI64_ok hs (DVs.okAt ha 0 rfl) hv13), trivial⟩ hy⟩) rfl rfl
  · cases hr
/-! laws.toWhole -/
noncomputable def laws_toWhole_LO (v10 : Int) (v11 : Int) (v12 : List Int) : LOr := fun id e L =>
  match id with
  | _ => .fail
noncomputable def laws_toWhole_tab : List (FuncId × DFn × Bool) := [(23, laws_toInt64S_F, true)]
theorem laws_toWhole_hO : OrcOk Try.prog (tabD laws_toWhole_tab) (tabM laws_toWhole_tab) := tabD_cons laws_toInt64S_Fok (tabD_nil _)
noncomputable def laws_toWhole_T (v10 : Int) (v11 : Int) (v12 : List Int) : Tree (Int × Int × (List Int)) :=
  (.call (laws_toInt64S_g v12) fun v20 =>
  .leaf (v10, v11, v20))

noncomputable def laws_toWhole_g (v10 : Int) (v11 : Int) (v12 : List Int) : Option (Int × Int × (List Int)) := (laws_toWhole_T v10 v11 v12).run
def laws_toWhole_enc (v10 : Int) (v11 : Int) (v12 : List Int) (y : Int × Int × (List Int)) : Rs := (.agg [.int .i64 y.1, .int .i64 y.2.1, .own 0 0 ((y.2.2).length)], [.row (.i64 y.2.2) 0])
theorem laws_toWhole_den (v10 : Int) (v11 : Int) (v12 : List Int) : (den TT (tabD laws_toWhole_tab) (tabM laws_toWhole_tab) (laws_toWhole_LO v10 v11 v12) (codeOf Try.f17) ([.agg [.int .i64 v10, .int .i64 v11, .bslc (BR.root 0) (.i64 v12)]] ++ List.replicate (Try.f17.ntmps - ([.agg [.int .i64 v10, .int .i64 v11, .bslc (BR.root 0) (.i64 v12)]] : List DV).length) .undef) []).bind (retD TT Try.f17.results.toList 0) = (laws_toWhole_T v10 v11 v12).bind fun y => .leaf (laws_toWhole_enc v10 v11 v12 y) := by kernel_rfl
theorem laws_toWhole_fn (v10 : Int) (v11 : Int) (v12 : List Int) (F : Fr) (hm : F.ids.length = 0) (h0 : St F [] F.H0) (hA : DVs.Ok F [] [.agg [.int .i64 v10, .int .i64 v11, .bslc (BR.root 0) (.i64 v12)]]) {y : Int × Int × (List Int)} (hy : laws_toWhole_g v10 v11 v12 = some y) : ∃ H', FnOk Try.prog 17 (DVs.av F [.agg [.int .i64 v10, .int .i64 v11, .bslc (BR.root 0) (.i64 v12)]]) F.H0 ((laws_toWhole_enc v10 v11 v12 y).1.av F) H' ∧ St F (laws_toWhole_enc v10 v11 v12 y).2 H' ∧ (laws_toWhole_enc v10 v11 v12 y).1.Ok F (laws_toWhole_enc v10 v11 v12 y).2 :=
  fn_fin tok laws_toWhole_hO mixed Try.func17 Try.call17 (by kernel_rfl) (LoopsOk_eq (l := []) (by kernel_rfl) trivial) (laws_toWhole_den v10 v11 v12) hy hm h0 hA
noncomputable def laws_toWhole_F : DFn := fun args L =>
  match args with
  | [.agg [.int .i64 v10, .int .i64 v11, a1]] =>
    optT (rowI64 L a1) fun v12 =>
    .call (laws_toWhole_g v10 v11 v12) fun y => .leaf (.agg [.int .i64 y.1, .int .i64 y.2.1, .own (L.length + 0) 0 ((y.2.2).length)], L ++ [.row (.i64 y.2.2) 0])
  | _ => .fail
theorem laws_toWhole_Fok : COk Try.prog 17 laws_toWhole_F true := by
  intro F L H args r L' hs ha hr
  unfold laws_toWhole_F at hr
  split at hr
  · rename_i v10 v11 a1
    obtain ⟨v12, hv12, hr⟩ := optT_run hr
    simp only [Tree.run] at hr
    obtain ⟨y, hy, hr⟩ := Option.bind_eq_some_iff.1 hr
    simp only [Tree.run, Option.some.injEq, Prod.mk.injEq] at hr
    obtain ⟨rfl, rfl⟩ := hr
    exact call_ok1 hs (fun k => (([a1.av F] : List AV)[k]?).getD .top) [.agg [.int .i64 v10, .int .i64 v11, a1]] [.agg [.int .i64 v10, .int .i64 v11, .bslc (BR.root 0) (.i64 v12)]] (fun F' h0 hi hρ => ⟨by simp [DVs.av, DV.av, BR.av, hρ], laws_toWhole_fn v10 v11 v12 F' (by rw [hi]; rfl) (st_nil hi) ⟨⟨trivial, trivial, bslc_ok hi (by rw [h0, hρ]; exact rowI64_ok hs (DVs.okAt (DVs.okAt ha 0 rfl) 2 rfl) hv12), trivial⟩, trivial⟩ hy⟩) rfl rfl
  · cases hr
/-! spec.l00In -/
noncomputable def spec_l00In_LO (v29 : Int) (v30 : Int) (v31 : Int) : LOr := fun id e L =>
  match id with
  | _ => .fail
noncomputable def spec_l00In_tab : List (FuncId × DFn × Bool) := []
theorem spec_l00In_hO : OrcOk Try.prog (tabD spec_l00In_tab) (tabM spec_l00In_tab) := tabD_nil _
noncomputable def spec_l00In_T (v29 : Int) (v30 : Int) (v31 : Int) : Tree (Bool) :=
  (.br (decide (v30 ≤ v29)) (
   .leaf (decide (v29 ≤ v31))
  ) (
   .leaf false
  ))

noncomputable def spec_l00In_g (v29 : Int) (v30 : Int) (v31 : Int) : Option (Bool) := (spec_l00In_T v29 v30 v31).run
def spec_l00In_enc (v29 : Int) (v30 : Int) (v31 : Int) (y : Bool) : Rs := (.bool y, [])
theorem spec_l00In_den (v29 : Int) (v30 : Int) (v31 : Int) : (den TT (tabD spec_l00In_tab) (tabM spec_l00In_tab) (spec_l00In_LO v29 v30 v31) (codeOf Try.f90) ([.int .i64 v29, .int .i64 v30, .int .i64 v31] ++ List.replicate (Try.f90.ntmps - ([.int .i64 v29, .int .i64 v30, .int .i64 v31] : List DV).length) .undef) []).bind (retD TT Try.f90.results.toList 0) = (spec_l00In_T v29 v30 v31).bind fun y => .leaf (spec_l00In_enc v29 v30 v31 y) := by kernel_rfl
theorem spec_l00In_fn (v29 : Int) (v30 : Int) (v31 : Int) (F : Fr) (hm : F.ids.length = 0) (h0 : St F [] F.H0) (hA : DVs.Ok F [] [.int .i64 v29, .int .i64 v30, .int .i64 v31]) {y : Bool} (hy : spec_l00In_g v29 v30 v31 = some y) : ∃ H', FnOk Try.prog 90 (DVs.av F [.int .i64 v29, .int .i64 v30, .int .i64 v31]) F.H0 ((spec_l00In_enc v29 v30 v31 y).1.av F) H' ∧ St F (spec_l00In_enc v29 v30 v31 y).2 H' ∧ (spec_l00In_enc v29 v30 v31 y).1.Ok F (spec_l00In_enc v29 v30 v31 y).2 :=
  fn_fin tok spec_l00In_hO mixed Try.func90 Try.call90 (by kernel_rfl) (LoopsOk_eq (l := []) (by kernel_rfl) trivial) (spec_l00In_den v29 v30 v31) hy hm h0 hA
def spec_l00In_v (v29 : Int) (v30 : Int) (v31 : Int) : Bool :=
  if (decide (v30 ≤ v29)) = true then (
   decide (v29 ≤ v31)
  ) else (
   false
  )
theorem spec_l00In_tot (v29 : Int) (v30 : Int) (v31 : Int) : spec_l00In_g v29 v30 v31 = some (spec_l00In_v v29 v30 v31) := by
  unfold spec_l00In_g spec_l00In_T spec_l00In_v
  simp only [Tree.run]
  repeat' (first | rfl | split)
noncomputable def spec_l00In_F : DFn := fun args L =>
  match args with
  | [.int .i64 v29, .int .i64 v30, .int .i64 v31] =>
    .leaf (.bool (spec_l00In_v v29 v30 v31), L)
  | _ => .fail
theorem spec_l00In_Fok : COk Try.prog 90 spec_l00In_F true := by
  intro F L H args r L' hs ha hr
  unfold spec_l00In_F at hr
  split at hr
  · rename_i v29 v30 v31
    have hy := spec_l00In_tot v29 v30 v31
    generalize spec_l00In_v v29 v30 v31 = y at hy hr
    simp only [Tree.run, Option.some.injEq, Prod.mk.injEq] at hr
    obtain ⟨rfl, rfl⟩ := hr
    exact call_ok0 hs (fun k => (([] : List AV)[k]?).getD .top) [.int .i64 v29, .int .i64 v30, .int .i64 v31] [.int .i64 v29, .int .i64 v30, .int .i64 v31] (fun F' h0 hi hρ => ⟨by simp [DVs.av, DV.av, BR.av, hρ], spec_l00In_fn v29 v30 v31 F' (by rw [hi]; rfl) (st_nil hi) ⟨trivial, trivial, trivial, trivial⟩ hy⟩) rfl
  · cases hr
/-! spec.l06Bound -/
noncomputable def spec_l06Bound_l0_T (v32 : List Int) (v33 : Int) (s : Int) : Tree ((Int) ⊕ ((Unit) ⊕ (Unit))) :=
  (.br (decide (s < ((v32.length : Nat) : Int))) (
   (.grd (inb s v32.length) <|
   (.br (!(spec_l00In_v (nth v32 (Int.toNat s)) (IntKind.i64.wrap (0 - v33)) v33)) (
    .leaf (.inr (.inl ()))
   ) (
    .leaf (.inl (IntKind.i64.wrap (s + (1 : Int))))
   )))
  ) (
   .leaf (.inr (.inr ()))
  ))

noncomputable def spec_l06Bound_l0_g (v32 : List Int) (v33 : Int) (s0 : Int) : Option ((Unit) ⊕ (Unit)) := whileM (fun s => (spec_l06Bound_l0_T v32 v33 s).run) s0
def spec_l06Bound_l0_E (v32 : List Int) (v33 : Int) (s : Int) : Sd := ([.bslc (BR.root 0) (.i64 v32), .int .i64 v33, .top, .top, .top, .int .i64 s, .top, .top, .top, .top, .top, .top, .top, .top, .top, .top, .top, .top, .top, .top, .top], [])
def spec_l06Bound_l0_X (v32 : List Int) (v33 : Int) (x : (Unit) ⊕ (Unit)) : Out := (match x with | .inl x => (.ret, [.top, .top, .top, .top, .lit false, .top, .top, .top, .top, .top, .top, .top, .top, .top, .top, .top, .top, .top, .top, .top, .top], []) | .inr x => (.normal, [.top, .top, .top, .top, .top, .top, .top, .top, .top, .top, .top, .top, .top, .top, .top, .top, .top, .top, .top, .top, .top], []))
def spec_l06Bound_l0_kill : List Nat := [0, 0, 1, 1, 1, 0, 1, 1, 1, 1, 1, 1, 1, 1, 1, 1, 1, 1, 1, 1, 1]
def spec_l06Bound_l0_nx : Exit → List Nat
  | .exit 0 => [1, 1, 1, 1, 1, 1, 1, 1, 1, 1, 1, 1, 1, 1, 1, 1, 1, 1, 1, 1, 1]
  | .ret => [1, 1, 1, 1, 0, 1, 1, 1, 1, 1, 1, 1, 1, 1, 1, 1, 1, 1, 1, 1, 1]
  | _ => []
noncomputable def spec_l06Bound_LO (v32 : List Int) (v33 : Int) : LOr := fun id e L =>
  match id with
  | 0 => .need (normA 0 spec_l06Bound_l0_kill e L = some (spec_l06Bound_l0_E v32 v33 (gI (vAt e 5)))) (.call (spec_l06Bound_l0_g v32 v33 (gI (vAt e 5))) fun x => .sum x (fun b0 => .leaf (spec_l06Bound_l0_X v32 v33 (.inl b0))) (fun c0 => .leaf (spec_l06Bound_l0_X v32 v33 (.inr c0))))
  | _ => .fail
noncomputable def spec_l06Bound_tab : List (FuncId × DFn × Bool) := [(90, spec_l00In_F, true)]
theorem spec_l06Bound_hO : OrcOk Try.prog (tabD spec_l06Bound_tab) (tabM spec_l06Bound_tab) := tabD_cons spec_l00In_Fok (tabD_nil _)
theorem spec_l06Bound_l0_be (v32 : List Int) (v33 : Int) (s : Int) : bodyT TT (tabD spec_l06Bound_tab) (tabM spec_l06Bound_tab) (spec_l06Bound_LO v32 v33) 0 spec_l06Bound_l0_kill spec_l06Bound_l0_nx (bodyOf Try.f68 0) 0 (spec_l06Bound_l0_E v32 v33 s) = (spec_l06Bound_l0_T v32 v33 s).bind fun y => .leaf (outS (spec_l06Bound_l0_E v32 v33) (spec_l06Bound_l0_X v32 v33) y) := by kernel_rfl
theorem spec_l06Bound_l0_ok (v32 : List Int) (v33 : Int) : LSound Try.prog 0 (spec_l06Bound_LO v32 v33) 0 (bodyOf Try.f68 0) := by
  intro e L out h
  exact lo_ok (E := spec_l06Bound_l0_E v32 v33) (gT := spec_l06Bound_l0_T v32 v33) (X := spec_l06Bound_l0_X v32 v33) (s0 := (gI (vAt e 5))) tok spec_l06Bound_hO mixed (LoopsOk_eq (l := []) (by kernel_rfl) trivial) (spec_l06Bound_l0_be v32 v33) rfl (by intro x; (cases x with | inl b => rfl | inr x => exact rfl)) h
noncomputable def spec_l06Bound_T (v32 : List Int) (v33 : Int) : Tree (Bool) :=
  (.need (some (spec_l06Bound_l0_E v32 v33 (0 : Int)) = some (spec_l06Bound_l0_E v32 v33 (0 : Int))) <|
  (.call (spec_l06Bound_l0_g v32 v33 (0 : Int)) fun v37 =>
  (.sum v37 (fun v38 =>
   .leaf false
  ) (fun v39 =>
   .leaf true
  ))))

noncomputable def spec_l06Bound_g (v32 : List Int) (v33 : Int) : Option (Bool) := (spec_l06Bound_T v32 v33).run
def spec_l06Bound_enc (v32 : List Int) (v33 : Int) (y : Bool) : Rs := (.bool y, [])
theorem spec_l06Bound_den (v32 : List Int) (v33 : Int) : (den TT (tabD spec_l06Bound_tab) (tabM spec_l06Bound_tab) (spec_l06Bound_LO v32 v33) (codeOf Try.f68) ([.bslc (BR.root 0) (.i64 v32), .int .i64 v33] ++ List.replicate (Try.f68.ntmps - ([.bslc (BR.root 0) (.i64 v32), .int .i64 v33] : List DV).length) .undef) []).bind (retD TT Try.f68.results.toList 0) = (spec_l06Bound_T v32 v33).bind fun y => .leaf (spec_l06Bound_enc v32 v33 y) := by kernel_rfl
theorem spec_l06Bound_fn (v32 : List Int) (v33 : Int) (F : Fr) (hm : F.ids.length = 0) (h0 : St F [] F.H0) (hA : DVs.Ok F [] [.bslc (BR.root 0) (.i64 v32), .int .i64 v33]) {y : Bool} (hy : spec_l06Bound_g v32 v33 = some y) : ∃ H', FnOk Try.prog 68 (DVs.av F [.bslc (BR.root 0) (.i64 v32), .int .i64 v33]) F.H0 ((spec_l06Bound_enc v32 v33 y).1.av F) H' ∧ St F (spec_l06Bound_enc v32 v33 y).2 H' ∧ (spec_l06Bound_enc v32 v33 y).1.Ok F (spec_l06Bound_enc v32 v33 y).2 :=
  fn_fin tok spec_l06Bound_hO mixed Try.func68 Try.call68 (by kernel_rfl) (LoopsOk_eq (l := [(0, bodyOf Try.f68 0)]) (by kernel_rfl) ⟨spec_l06Bound_l0_ok v32 v33, trivial⟩) (spec_l06Bound_den v32 v33) hy hm h0 hA
noncomputable def spec_l06Bound_F : DFn := fun args L =>
  match args with
  | [a1, .int .i64 v33] =>
    optT (rowI64 L a1) fun v32 =>
    .call (spec_l06Bound_g v32 v33) fun y => .leaf (.bool y, L)
  | _ => .fail
theorem spec_l06Bound_Fok : COk Try.prog 68 spec_l06Bound_F true := by
  intro F L H args r L' hs ha hr
  unfold spec_l06Bound_F at hr
  split at hr
  · rename_i a1 v33
    obtain ⟨v32, hv32, hr⟩ := optT_run hr
    simp only [Tree.run] at hr
    obtain ⟨y, hy, hr⟩ := Option.bind_eq_some_iff.1 hr
    simp only [Tree.run, Option.some.injEq, Prod.mk.injEq] at hr
    obtain ⟨rfl, rfl⟩ := hr
    exact call_ok0 hs (fun k => (([a1.av F] : List AV)[k]?).getD .top) [a1, .int .i64 v33] [.bslc (BR.root 0) (.i64 v32), .int .i64 v33] (fun F' h0 hi hρ => ⟨by simp [DVs.av, DV.av, BR.av, hρ], spec_l06Bound_fn v32 v33 F' (by rw [hi]; rfl) (st_nil hi) ⟨bslc_ok hi (by rw [h0, hρ]; exact rowI64_ok hs (DVs.okAt ha 0 rfl) hv32), trivial, trivial⟩ hy⟩) rfl
  · cases hr
/-! spec.l06Is -/
noncomputable def spec_l06Is_LO (v25 : Int) (v26 : Int) (v27 : List Int) (v28 : Int) : LOr := fun id e L =>
  match id with
  | _ => .fail
noncomputable def spec_l06Is_tab : List (FuncId × DFn × Bool) := [(90, spec_l00In_F, true), (68, spec_l06Bound_F, true)]
theorem spec_l06Is_hO : OrcOk Try.prog (tabD spec_l06Is_tab) (tabM spec_l06Is_tab) := tabD_cons spec_l00In_Fok (tabD_cons spec_l06Bound_Fok (tabD_nil _))
noncomputable def spec_l06Is_T (v25 : Int) (v26 : Int) (v27 : List Int) (v28 : Int) : Tree (Bool) :=
  (.br (spec_l00In_v v25 (1 : Int) (6 : Int)) (
   (.br (spec_l00In_v v26 (1 : Int) (6 : Int)) (
    (.br (decide (((v27.length : Nat) : Int) = IntKind.i64.wrap (v25 * v26))) (
     (.call (spec_l06Bound_g v27 v28) fun v40 =>
     .leaf v40)
    ) (
     .leaf false
    ))
   ) (
    .leaf false
   ))
  ) (
   .leaf false
  ))

noncomputable def spec_l06Is_g (v25 : Int) (v26 : Int) (v27 : List Int) (v28 : Int) : Option (Bool) := (spec_l06Is_T v25 v26 v27 v28).run
def spec_l06Is_enc (v25 : Int) (v26 : Int) (v27 : List Int) (v28 : Int) (y : Bool) : Rs := (.bool y, [])
theorem spec_l06Is_den (v25 : Int) (v26 : Int) (v27 : List Int) (v28 : Int) : (den TT (tabD spec_l06Is_tab) (tabM spec_l06Is_tab) (spec_l06Is_LO v25 v26 v27 v28) (codeOf Try.f62) ([.bptr (BR.root 0) [.int .i64 v25, .int .i64 v26, .bslc (BR.root 1) (.i64 v27)], .int .i64 v28] ++ List.replicate (Try.f62.ntmps - ([.bptr (BR.root 0) [.int .i64 v25, .int .i64 v26, .bslc (BR.root 1) (.i64 v27)], .int .i64 v28] : List DV).length) .undef) []).bind (retD TT Try.f62.results.toList 0) = (spec_l06Is_T v25 v26 v27 v28).bind fun y => .leaf (spec_l06Is_enc v25 v26 v27 v28 y) := by kernel_rfl
theorem spec_l06Is_fn (v25 : Int) (v26 : Int) (v27 : List Int) (v28 : Int) (F : Fr) (hm : F.ids.length = 0) (h0 : St F [] F.H0) (hA : DVs.Ok F [] [.bptr (BR.root 0) [.int .i64 v25, .int .i64 v26, .bslc (BR.root 1) (.i64 v27)], .int .i64 v28]) {y : Bool} (hy : spec_l06Is_g v25 v26 v27 v28 = some y) : ∃ H', FnOk Try.prog 62 (DVs.av F [.bptr (BR.root 0) [.int .i64 v25, .int .i64 v26, .bslc (BR.root 1) (.i64 v27)], .int .i64 v28]) F.H0 ((spec_l06Is_enc v25 v26 v27 v28 y).1.av F) H' ∧ St F (spec_l06Is_enc v25 v26 v27 v28 y).2 H' ∧ (spec_l06Is_enc v25 v26 v27 v28 y).1.Ok F (spec_l06Is_enc v25 v26 v27 v28 y).2 :=
  fn_fin tok spec_l06Is_hO mixed Try.func62 Try.call62 (by kernel_rfl) (LoopsOk_eq (l := []) (by kernel_rfl) trivial) (spec_l06Is_den v25 v26 v27 v28) hy hm h0 hA
noncomputable def spec_l06Is_F : DFn := fun args L =>
  match args with
  | [a1, .int .i64 v28] =>
    optT (cellsOf L 3 a1) fun cs0 =>
    (match cs0 with
    | [.int .i64 v25, .int .i64 v26, a2] =>
    optT (rowI64 L a2) fun v27 =>
    .call (spec_l06Is_g v25 v26 v27 v28) fun y => .leaf (.bool y, L)
    | _ => .fail)
  | _ => .fail
theorem spec_l06Is_Fok : COk Try.prog 62 spec_l06Is_F true := by
  intro F L H args r L' hs ha hr
  unfold spec_l06Is_F at hr
  split at hr
  · rename_i a1 v28
    obtain ⟨cs0, hcp0, hr⟩ := optT_run hr
    split at hr
    · rename_i v25 v26 a2
      obtain ⟨v27, hv27, hr⟩ := optT_run hr
      simp only [Tree.run] at hr
      obtain ⟨y, hy, hr⟩ := Option.bind_eq_some_iff.1 hr
      simp only [Tree.run, Option.some.injEq, Prod.mk.injEq] at hr
      obtain ⟨rfl, rfl⟩ := hr
      exact call_ok0 hs (fun k => (([a1.av F, a2.av F] : List AV)[k]?).getD .top) [a1, .int .i64 v28] [.bptr (BR.root 0) [.int .i64 v25, .int .i64 v26, .bslc (BR.root 1) (.i64 v27)], .int .i64 v28] (fun F' h0 hi hρ => ⟨by simp [DVs.av, DV.av, BR.av, hρ], spec_l06Is_fn v25 v26 v27 v28 F' (by rw [hi]; rfl) (st_nil hi) ⟨bptr_ok hi (by rw [h0]; simpa [DVs.av, DV.av, BR.av, hρ] using (cellsOf_ok hs (DVs.okAt ha 0 rfl) hcp0).1) ⟨trivial, trivial, bslc_ok hi (by rw [h0, hρ]; exact rowI64_ok hs (DVs.okAt (cellsOf_ok hs (DVs.okAt ha 0 rfl) hcp0).2 2 rfl) hv27), trivial⟩, trivial, trivial⟩ hy⟩) rfl
    · cases hr
  · cases hr
/-! spec.l06Own -/
noncomputable def spec_l06Own_LO (v42 : Int) (v43 : Int) (v44 : List Int) : LOr := fun id e L =>
  match id with
  | _ => .fail
noncomputable def spec_l06Own_tab : List (FuncId × DFn × Bool) := []
theorem spec_l06Own_hO : OrcOk Try.prog (tabD spec_l06Own_tab) (tabM spec_l06Own_tab) := tabD_nil _
noncomputable def spec_l06Own_T (v42 : Int) (v43 : Int) (v44 : List Int) : Tree (Int × Int) :=
  (.grd (fits (([] : List Int) ++ v44).length) <|
  .leaf (v42, v43))

noncomputable def spec_l06Own_g (v42 : Int) (v43 : Int) (v44 : List Int) : Option (Int × Int) := (spec_l06Own_T v42 v43 v44).run
def spec_l06Own_enc (v42 : Int) (v43 : Int) (v44 : List Int) (y : Int × Int) : Rs := (.agg [.int .i64 y.1, .int .i64 y.2, .own 0 0 ((([] : List Int) ++ v44).length)], [.row (.i64 (([] : List Int) ++ v44)) 0])
theorem spec_l06Own_den (v42 : Int) (v43 : Int) (v44 : List Int) : (den TT (tabD spec_l06Own_tab) (tabM spec_l06Own_tab) (spec_l06Own_LO v42 v43 v44) (codeOf Try.f91) ([.bptr (BR.root 0) [.int .i64 v42, .int .i64 v43, .bslc (BR.root 1) (.i64 v44)]] ++ List.replicate (Try.f91.ntmps - ([.bptr (BR.root 0) [.int .i64 v42, .int .i64 v43, .bslc (BR.root 1) (.i64 v44)]] : List DV).length) .undef) []).bind (retD TT Try.f91.results.toList 0) = (spec_l06Own_T v42 v43 v44).bind fun y => .leaf (spec_l06Own_enc v42 v43 v44 y) := by kernel_rfl
theorem spec_l06Own_fn (v42 : Int) (v43 : Int) (v44 : List Int) (F : Fr) (hm : F.ids.length = 0) (h0 : St F [] F.H0) (hA : DVs.Ok F [] [.bptr (BR.root 0) [.int .i64 v42, .int .i64 v43, .bslc (BR.root 1) (.i64 v44)]]) {y : Int × Int} (hy : spec_l06Own_g v42 v43 v44 = some y) : ∃ H', FnOk Try.prog 91 (DVs.av F [.bptr (BR.root 0) [.int .i64 v42, .int .i64 v43, .bslc (BR.root 1) (.i64 v44)]]) F.H0 ((spec_l06Own_enc v42 v43 v44 y).1.av F) H' ∧ St F (spec_l06Own_enc v42 v43 v44 y).2 H' ∧ (spec_l06Own_enc v42 v43 v44 y).1.Ok F (spec_l06Own_enc v42 v43 v44 y).2 :=
  fn_fin tok spec_l06Own_hO mixed Try.func91 Try.call91 (by kernel_rfl) (LoopsOk_eq (l := []) (by kernel_rfl) trivial) (spec_l06Own_den v42 v43 v44) hy hm h0 hA
noncomputable def spec_l06Own_F : DFn := fun args L =>
  match args with
  | [a1] =>
    optT (cellsOf L 3 a1) fun cs0 =>
    (match cs0 with
    | [.int .i64 v42, .int .i64 v43, a2] =>
    optT (rowI64 L a2) fun v44 =>
    .call (spec_l06Own_g v42 v43 v44) fun y => .leaf (.agg [.int .i64 y.1, .int .i64 y.2, .own (L.length + 0) 0 ((([] : List Int) ++ v44).length)], L ++ [.row (.i64 (([] : List Int) ++ v44)) 0])
    | _ => .fail)
  | _ => .fail
theorem spec_l06Own_Fok : COk Try.prog 91 spec_l06Own_F true := by
  intro F L H args r L' hs ha hr
  unfold spec_l06Own_F at hr
  split at hr
  · rename_i a1
    obtain ⟨cs0, hcp0, hr⟩ := optT_run hr
    split at hr
    · rename_i v42 v43 a2
      obtain ⟨v44, hv44, hr⟩ := optT_run hr
      simp only [Tree.run] at hr
      obtain ⟨y, hy, hr⟩ := Option.bind_eq_some_iff.1 hr
      simp only [Tree.run, Option.some.injEq, Prod.mk.injEq] at hr
      obtain ⟨rfl, rfl⟩ := hr
      exact call_ok1 hs (fun k => (([a1.av F, a2.av F] : List AV)[k]?).getD .top) [a1] [.bptr (BR.root 0) [.int .i64 v42, .int .i64 v43, .bslc (BR.root 1) (.i64 v44)]] (fun F' h0 hi hρ => ⟨by simp [DVs.av, DV.av, BR.av, hρ], spec_l06Own_fn v42 v43 v44 F' (by rw [hi]; rfl) (st_nil hi) ⟨bptr_ok hi (by rw [h0]; simpa [DVs.av, DV.av, BR.av, hρ] using (cellsOf_ok hs (DVs.okAt ha 0 rfl) hcp0).1) ⟨trivial, trivial, bslc_ok hi (by rw [h0, hρ]; exact rowI64_ok hs (DVs.okAt (cellsOf_ok hs (DVs.okAt ha 0 rfl) hcp0).2 2 rfl) hv44), trivial⟩, trivial⟩ hy⟩) rfl rfl
    · cases hr
  · cases hr
/-! spec.l06Zero -/
noncomputable def spec_l06Zero_LO (v47 : Int) (v48 : Int) : LOr := fun id e L =>
  match id with
  | _ => .fail
noncomputable def spec_l06Zero_tab : List (FuncId × DFn × Bool) := []
theorem spec_l06Zero_hO : OrcOk Try.prog (tabD spec_l06Zero_tab) (tabM spec_l06Zero_tab) := tabD_nil _
noncomputable def spec_l06Zero_T (v47 : Int) (v48 : Int) : Tree (Int × Int) :=
  (.need (IntKind.i64.wrap (v47 * v48) = IntKind.i64.wrap (v47 * v48)) <|
  (.grd (inb (IntKind.i64.wrap (v47 * v48)) (maxN + 1)) <|
  .leaf (v47, v48)))

noncomputable def spec_l06Zero_g (v47 : Int) (v48 : Int) : Option (Int × Int) := (spec_l06Zero_T v47 v48).run
def spec_l06Zero_enc (v47 : Int) (v48 : Int) (y : Int × Int) : Rs := (.agg [.int .i64 y.1, .int .i64 y.2, .own 0 0 ((List.replicate (Int.toNat (IntKind.i64.wrap (v47 * v48))) (0 : Int)).length)], [.row (.i64 (List.replicate (Int.toNat (IntKind.i64.wrap (v47 * v48))) (0 : Int))) 0])
theorem spec_l06Zero_den (v47 : Int) (v48 : Int) : (den TT (tabD spec_l06Zero_tab) (tabM spec_l06Zero_tab) (spec_l06Zero_LO v47 v48) (codeOf Try.f82) ([.int .i64 v47, .int .i64 v48] ++ List.replicate (Try.f82.ntmps - ([.int .i64 v47, .int .i64 v48] : List DV).length) .undef) []).bind (retD TT Try.f82.results.toList 0) = (spec_l06Zero_T v47 v48).bind fun y => .leaf (spec_l06Zero_enc v47 v48 y) := by kernel_rfl
theorem spec_l06Zero_fn (v47 : Int) (v48 : Int) (F : Fr) (hm : F.ids.length = 0) (h0 : St F [] F.H0) (hA : DVs.Ok F [] [.int .i64 v47, .int .i64 v48]) {y : Int × Int} (hy : spec_l06Zero_g v47 v48 = some y) : ∃ H', FnOk Try.prog 82 (DVs.av F [.int .i64 v47, .int .i64 v48]) F.H0 ((spec_l06Zero_enc v47 v48 y).1.av F) H' ∧ St F (spec_l06Zero_enc v47 v48 y).2 H' ∧ (spec_l06Zero_enc v47 v48 y).1.Ok F (spec_l06Zero_enc v47 v48 y).2 :=
  fn_fin tok spec_l06Zero_hO mixed Try.func82 Try.call82 (by kernel_rfl) (LoopsOk_eq (l := []) (by kernel_rfl) trivial) (spec_l06Zero_den v47 v48) hy hm h0 hA
noncomputable def spec_l06Zero_F : DFn := fun args L =>
  match args with
  | [.int .i64 v47, .int .i64 v48] =>
    .call (spec_l06Zero_g v47 v48) fun y => .leaf (.agg [.int .i64 y.1, .int .i64 y.2, .own (L.length + 0) 0 ((List.replicate (Int.toNat (IntKind.i64.wrap (v47 * v48))) (0 : Int)).length)], L ++ [.row (.i64 (List.replicate (Int.toNat (IntKind.i64.wrap (v47 * v48))) (0 : Int))) 0])
  | _ => .fail
theorem spec_l06Zero_Fok : COk Try.prog 82 spec_l06Zero_F true := by
  intro F L H args r L' hs ha hr
  unfold spec_l06Zero_F at hr
  split at hr
  · rename_i v47 v48
    simp only [Tree.run] at hr
    obtain ⟨y, hy, hr⟩ := Option.bind_eq_some_iff.1 hr
    simp only [Tree.run, Option.some.injEq, Prod.mk.injEq] at hr
    obtain ⟨rfl, rfl⟩ := hr
    exact call_ok1 hs (fun k => (([] : List AV)[k]?).getD .top) [.int .i64 v47, .int .i64 v48] [.int .i64 v47, .int .i64 v48] (fun F' h0 hi hρ => ⟨by simp [DVs.av, DV.av, BR.av, hρ], spec_l06Zero_fn v47 v48 F' (by rw [hi]; rfl) (st_nil hi) ⟨trivial, trivial, trivial⟩ hy⟩) rfl rfl
  · cases hr
/-! spec.l06Unit -/
noncomputable def spec_l06Unit_l0_T (v46 : Int) (v58 : Int) (v59 : Int) (s : Int × (List Int)) : Tree ((Int × (List Int)) ⊕ ((List Int))) :=
  (.br (decide (s.1 < v46)) (
   (.grd (inb (IntKind.i64.wrap ((IntKind.i64.wrap (s.1 * v46)) + s.1)) ((s.2).length)) <|
   .leaf (.inl (IntKind.i64.wrap (s.1 + (1 : Int)), List.set s.2 (Int.toNat (IntKind.i64.wrap ((IntKind.i64.wrap (s.1 * v46)) + s.1))) (1 : Int))))
  ) (
   .leaf (.inr s.2)
  ))

noncomputable def spec_l06Unit_l0_g (v46 : Int) (v58 : Int) (v59 : Int) (s0 : Int × (List Int)) : Option ((List Int)) := whileM (fun s => (spec_l06Unit_l0_T v46 v58 v59 s).run) s0
def spec_l06Unit_l0_E (v46 : Int) (v58 : Int) (v59 : Int) (s : Int × (List Int)) : Sd := ([.int .i64 v46, .top, .ptr 0 (0 : Nat) 0 (3 : Nat), .ptr 1 (0 : Nat) 0 (3 : Nat), .int .i64 s.1, .top, .top, .top, .top, .top, .top, .top, .top, .top, .top, .top, .top, .top, .top, .top, .top, .top], [.gen [.int .i64 (0 : Int), .int .i64 (0 : Int), .nilslc] false 0, .gen [.int .i64 v58, .int .i64 v59, .own 2 0 ((s.2).length)] false 0, .row (.i64 s.2) 0])
def spec_l06Unit_l0_X (v46 : Int) (v58 : Int) (v59 : Int) (x : (List Int)) : Out := (.normal, [.top, .top, .ptr 0 (0 : Nat) 0 (3 : Nat), .ptr 1 (0 : Nat) 0 (3 : Nat), .top, .top, .top, .top, .top, .top, .top, .top, .top, .top, .top, .top, .top, .top, .top, .top, .top, .top], [.gen [.int .i64 (0 : Int), .int .i64 (0 : Int), .nilslc] false 0, .gen [.int .i64 v58, .int .i64 v59, .own 2 0 ((x).length)] false 0, .row (.i64 x) 0])
def spec_l06Unit_l0_kill : List Nat := [0, 1, 0, 0, 0, 1, 1, 1, 1, 1, 1, 1, 1, 1, 1, 1, 1, 1, 1, 1, 1, 1]
def spec_l06Unit_l0_nx : Exit → List Nat
  | .exit 0 => [1, 1, 0, 0, 1, 1, 1, 1, 1, 1, 1, 1, 1, 1, 1, 1, 1, 1, 1, 1, 1, 1]
  | .ret => [1, 1, 0, 1, 1, 1, 1, 1, 1, 1, 1, 1, 1, 1, 1, 1, 1, 1, 1, 1, 1, 1]
  | _ => []
noncomputable def spec_l06Unit_LO (v46 : Int) : LOr := fun id e L =>
  match id with
  | 0 => .need (normA 0 spec_l06Unit_l0_kill e L = some (spec_l06Unit_l0_E v46 (gI (cAt L (vAt e 3) 0)) (gI (cAt L (vAt e 3) 1)) ((gI (vAt e 4)), (gRI L (cAt L (vAt e 3) 2))))) (.call (spec_l06Unit_l0_g v46 (gI (cAt L (vAt e 3) 0)) (gI (cAt L (vAt e 3) 1)) ((gI (vAt e 4)), (gRI L (cAt L (vAt e 3) 2)))) fun x => .leaf (spec_l06Unit_l0_X v46 (gI (cAt L (vAt e 3) 0)) (gI (cAt L (vAt e 3) 1)) x))
  | _ => .fail
noncomputable def spec_l06Unit_tab : List (FuncId × DFn × Bool) := [(82, spec_l06Zero_F, true)]
theorem spec_l06Unit_hO : OrcOk Try.prog (tabD spec_l06Unit_tab) (tabM spec_l06Unit_tab) := tabD_cons spec_l06Zero_Fok (tabD_nil _)
theorem spec_l06Unit_l0_be (v46 : Int) (v58 : Int) (v59 : Int) (s : Int × (List Int)) : bodyT TT (tabD spec_l06Unit_tab) (tabM spec_l06Unit_tab) (spec_l06Unit_LO v46) 0 spec_l06Unit_l0_kill spec_l06Unit_l0_nx (bodyOf Try.f105 0) 0 (spec_l06Unit_l0_E v46 v58 v59 s) = (spec_l06Unit_l0_T v46 v58 v59 s).bind fun y => .leaf (outS (spec_l06Unit_l0_E v46 v58 v59) (spec_l06Unit_l0_X v46 v58 v59) y) := by kernel_rfl
theorem spec_l06Unit_l0_ok (v46 : Int) : LSound Try.prog 0 (spec_l06Unit_LO v46) 0 (bodyOf Try.f105 0) := by
  intro e L out h
  exact lo_ok (E := spec_l06Unit_l0_E v46 (gI (cAt L (vAt e 3) 0)) (gI (cAt L (vAt e 3) 1))) (gT := spec_l06Unit_l0_T v46 (gI (cAt L (vAt e 3) 0)) (gI (cAt L (vAt e 3) 1))) (X := spec_l06Unit_l0_X v46 (gI (cAt L (vAt e 3) 0)) (gI (cAt L (vAt e 3) 1))) (s0 := ((gI (vAt e 4)), (gRI L (cAt L (vAt e 3) 2)))) tok spec_l06Unit_hO mixed (LoopsOk_eq (l := []) (by kernel_rfl) trivial) (spec_l06Unit_l0_be v46 (gI (cAt L (vAt e 3) 0)) (gI (cAt L (vAt e 3) 1))) rfl (by intro x; rfl) h
noncomputable def spec_l06Unit_T (v46 : Int) : Tree (Int × Int × (List Int)) :=
  (.call (spec_l06Zero_g v46 v46) fun v49 =>
  (.need (some (spec_l06Unit_l0_E v46 v49.1 v49.2 ((0 : Int), List.replicate (Int.toNat (IntKind.i64.wrap (v46 * v46))) (0 : Int))) = some (spec_l06Unit_l0_E v46 v49.1 v49.2 ((0 : Int), List.replicate (Int.toNat (IntKind.i64.wrap (v46 * v46))) (0 : Int)))) <|
  (.call (spec_l06Unit_l0_g v46 v49.1 v49.2 ((0 : Int), List.replicate (Int.toNat (IntKind.i64.wrap (v46 * v46))) (0 : Int))) fun v61 =>
  .leaf (v49.1, v49.2, v61))))

noncomputable def spec_l06Unit_g (v46 : Int) : Option (Int × Int × (List Int)) := (spec_l06Unit_T v46).run
def spec_l06Unit_enc (v46 : Int) (y : Int × Int × (List Int)) : Rs := (.agg [.int .i64 y.1, .int .i64 y.2.1, .own 0 0 ((y.2.2).length)], [.row (.i64 y.2.2) 0])
theorem spec_l06Unit_den (v46 : Int) : (den TT (tabD spec_l06Unit_tab) (tabM spec_l06Unit_tab) (spec_l06Unit_LO v46) (codeOf Try.f105) ([.int .i64 v46] ++ List.replicate (Try.f105.ntmps - ([.int .i64 v46] : List DV).length) .undef) []).bind (retD TT Try.f105.results.toList 0) = (spec_l06Unit_T v46).bind fun y => .leaf (spec_l06Unit_enc v46 y) := by kernel_rfl
theorem spec_l06Unit_fn (v46 : Int) (F : Fr) (hm : F.ids.length = 0) (h0 : St F [] F.H0) (hA : DVs.Ok F [] [.int .i64 v46]) {y : Int × Int × (List Int)} (hy : spec_l06Unit_g v46 = some y) : ∃ H', FnOk Try.prog 105 (DVs.av F [.int .i64 v46]) F.H0 ((spec_l06Unit_enc v46 y).1.av F) H' ∧ St F (spec_l06Unit_enc v46 y).2 H' ∧ (spec_l06Unit_enc v46 y).1.Ok F (spec_l06Unit_enc v46 y).2 :=
  fn_fin tok spec_l06Unit_hO mixed Try.func105 Try.call105 (by kernel_rfl) (LoopsOk_eq (l := [(0, bodyOf Try.f105 0)]) (by kernel_rfl) ⟨spec_l06Unit_l0_ok v46, trivial⟩) (spec_l06Unit_den v46) hy hm h0 hA
noncomputable def spec_l06Unit_F : DFn := fun args L =>
  match args with
  | [.int .i64 v46] =>
    .call (spec_l06Unit_g v46) fun y => .leaf (.agg [.int .i64 y.1, .int .i64 y.2.1, .own (L.length + 0) 0 ((y.2.2).length)], L ++ [.row (.i64 y.2.2) 0])
  | _ => .fail
theorem spec_l06Unit_Fok : COk Try.prog 105 spec_l06Unit_F true := by
  intro F L H args r L' hs ha hr
  unfold spec_l06Unit_F at hr
  split at hr
  · rename_i v46
    simp only [Tree.run] at hr
    obtain ⟨y, hy, hr⟩ := Option.bind_eq_some_iff.1 hr
    simp only [Tree.run, Option.some.injEq, Prod.mk.injEq] at hr
    obtain ⟨rfl, rfl⟩ := hr
    exact call_ok1 hs (fun k => (([] : List AV)[k]?).getD .top) [.int .i64 v46] [.int .i64 v46] (fun F' h0 hi hρ => ⟨by simp [DVs.av, DV.av, BR.av, hρ], spec_l06Unit_fn v46 F' (by rw [hi]; rfl) (st_nil hi) ⟨trivial, trivial⟩ hy⟩) rfl rfl
  · cases hr
/-! spec.l06At -/
noncomputable def spec_l06At_LO (v86 : Int) (v87 : Int) (v88 : List Int) (v89 : Int) (v90 : Int) : LOr := fun id e L =>
  match id with
  | _ => .fail
noncomputable def spec_l06At_tab : List (FuncId × DFn × Bool) := []
theorem spec_l06At_hO : OrcOk Try.prog (tabD spec_l06At_tab) (tabM spec_l06At_tab) := tabD_nil _
noncomputable def spec_l06At_T (v87 : Int) (v88 : List Int) (v89 : Int) (v90 : Int) : Tree (Int) :=
  (.grd (inb (IntKind.i64.wrap ((IntKind.i64.wrap (v89 * v87)) + v90)) v88.length) <|
  .leaf (nth v88 (Int.toNat (IntKind.i64.wrap ((IntKind.i64.wrap (v89 * v87)) + v90)))))

noncomputable def spec_l06At_g (v87 : Int) (v88 : List Int) (v89 : Int) (v90 : Int) : Option (Int) := (spec_l06At_T v87 v88 v89 v90).run
def spec_l06At_enc (v86 : Int) (v87 : Int) (v88 : List Int) (v89 : Int) (v90 : Int) (y : Int) : Rs := (.int .i64 y, [])
theorem spec_l06At_den (v86 : Int) (v87 : Int) (v88 : List Int) (v89 : Int) (v90 : Int) : (den TT (tabD spec_l06At_tab) (tabM spec_l06At_tab) (spec_l06At_LO v86 v87 v88 v89 v90) (codeOf Try.f107) ([.bptr (BR.root 0) [.int .i64 v86, .int .i64 v87, .bslc (BR.root 1) (.i64 v88)], .int .i64 v89, .int .i64 v90] ++ List.replicate (Try.f107.ntmps - ([.bptr (BR.root 0) [.int .i64 v86, .int .i64 v87, .bslc (BR.root 1) (.i64 v88)], .int .i64 v89, .int .i64 v90] : List DV).length) .undef) []).bind (retD TT Try.f107.results.toList 0) = (spec_l06At_T v87 v88 v89 v90).bind fun y => .leaf (spec_l06At_enc v86 v87 v88 v89 v90 y) := by kernel_rfl
theorem spec_l06At_fn (v86 : Int) (v87 : Int) (v88 : List Int) (v89 : Int) (v90 : Int) (F : Fr) (hm : F.ids.length = 0) (h0 : St F [] F.H0) (hA : DVs.Ok F [] [.bptr (BR.root 0) [.int .i64 v86, .int .i64 v87, .bslc (BR.root 1) (.i64 v88)], .int .i64 v89, .int .i64 v90]) {y : Int} (hy : spec_l06At_g v87 v88 v89 v90 = some y) : ∃ H', FnOk Try.prog 107 (DVs.av F [.bptr (BR.root 0) [.int .i64 v86, .int .i64 v87, .bslc (BR.root 1) (.i64 v88)], .int .i64 v89, .int .i64 v90]) F.H0 ((spec_l06At_enc v86 v87 v88 v89 v90 y).1.av F) H' ∧ St F (spec_l06At_enc v86 v87 v88 v89 v90 y).2 H' ∧ (spec_l06At_enc v86 v87 v88 v89 v90 y).1.Ok F (spec_l06At_enc v86 v87 v88 v89 v90 y).2 :=
  fn_fin tok spec_l06At_hO mixed Try.func107 Try.call107 (by kernel_rfl) (LoopsOk_eq (l := []) (by kernel_rfl) trivial) (spec_l06At_den v86 v87 v88 v89 v90) hy hm h0 hA
noncomputable def spec_l06At_F : DFn := fun args L =>
  match args with
  | [a1, .int .i64 v89, .int .i64 v90] =>
    optT (cellsOf L 3 a1) fun cs0 =>
    (match cs0 with
    | [.int .i64 v86, .int .i64 v87, a2] =>
    optT (rowI64 L a2) fun v88 =>
    .call (spec_l06At_g v87 v88 v89 v90) fun y => .leaf (.int .i64 y, L)
    | _ => .fail)
  | _ => .fail
theorem spec_l06At_Fok : COk Try.prog 107 spec_l06At_F true := by
  intro F L H args r L' hs ha hr
  unfold spec_l06At_F at hr
  split at hr
  · rename_i a1 v89 v90
    obtain ⟨cs0, hcp0, hr⟩ := optT_run hr
    split at hr
    · rename_i v86 v87 a2
      obtain ⟨v88, hv88, hr⟩ := optT_run hr
      simp only [Tree.run] at hr
      obtain ⟨y, hy, hr⟩ := Option.bind_eq_some_iff.1 hr
      simp only [Tree.run, Option.some.injEq, Prod.mk.injEq] at hr
      obtain ⟨rfl, rfl⟩ := hr
      exact call_ok0 hs (fun k => (([a1.av F, a2.av F] : List AV)[k]?).getD .top) [a1, .int .i64 v89, .int .i64 v90] [.bptr (BR.root 0) [.int .i64 v86, .int .i64 v87, .bslc (BR.root 1) (.i64 v88)], .int .i64 v89, .int .i64 v90] (fun F' h0 hi hρ => ⟨by simp [DVs.av, DV.av, BR.av, hρ], spec_l06At_fn v86 v87 v88 v89 v90 F' (by rw [hi]; rfl) (st_nil hi) ⟨bptr_ok hi (by rw [h0]; simpa [DVs.av, DV.av, BR.av, hρ] using (cellsOf_ok hs (DVs.okAt ha 0 rfl) hcp0).1) ⟨trivial, trivial, bslc_ok hi (by rw [h0, hρ]; exact rowI64_ok hs (DVs.okAt (cellsOf_ok hs (DVs.okAt ha 0 rfl) hcp0).2 2 rfl) hv88), trivial⟩, trivial, trivial, trivial⟩ hy⟩) rfl
    · cases hr
  · cases hr
/-! spec.l06Least -/
noncomputable def spec_l06Least_l0_T (v78 : Int) (v79 : Int) (v80 : List Int) (v82 : Int) (s : Int × Int × Int) : Tree ((Int × Int × Int) ⊕ (Int × Int)) :=
  (.br (decide (s.2.2 < v78)) (
   (.call (spec_l06At_g v79 v80 s.2.2 v82) fun v103 =>
   (.br (decide (v103 = (0 : Int))) (
    .leaf (.inl (s.1, s.2.1, IntKind.i64.wrap (s.2.2 + (1 : Int))))
   ) (
    (.br (decide (s.1 < (0 : Int))) (
     .leaf (.inl (s.2.2, IntKind.i64.wrap (s.2.1 + (1 : Int)), IntKind.i64.wrap (s.2.2 + (1 : Int))))
    ) (
     (.call (spec_l06At_g v79 v80 s.1 v82) fun v104 =>
     (.call (spec_l06At_g v79 v80 s.1 v82) fun v105 =>
     (.br (decide (imax v103 (IntKind.i64.wrap (0 - v103)) < imax v104 (IntKind.i64.wrap (0 - v105)))) (
      .leaf (.inl (s.2.2, IntKind.i64.wrap (s.2.1 + (1 : Int)), IntKind.i64.wrap (s.2.2 + (1 : Int))))
     ) (
      .leaf (.inl (s.1, IntKind.i64.wrap (s.2.1 + (1 : Int)), IntKind.i64.wrap (s.2.2 + (1 : Int))))
     ))))
    ))
   )))
  ) (
   .leaf (.inr (s.1, s.2.1))
  ))

noncomputable def spec_l06Least_l0_g (v78 : Int) (v79 : Int) (v80 : List Int) (v82 : Int) (s0 : Int × Int × Int) : Option (Int × Int) := whileM (fun s => (spec_l06Least_l0_T v78 v79 v80 v82 s).run) s0
def spec_l06Least_l0_E (v78 : Int) (v79 : Int) (v80 : List Int) (v81 : Int) (v82 : Int) (s : Int × Int × Int) : Sd := ([.bptr (BR.root 0) [.int .i64 v78, .int .i64 v79, .bslc (BR.root 1) (.i64 v80)], .top, .int .i64 v82, .top, .top, .top, .top, .top, .int .i64 s.1, .int .i64 s.2.1, .int .i64 s.2.2, .top, .top, .top, .top, .top, .top, .top, .top, .top, .top, .top, .top, .top, .top, .top, .top, .top, .top, .top, .top, .top, .top, .top, .top, .top, .top, .top, .top, .top, .top, .top, .top, .top, .top, .top, .top, .top, .top, .top, .top], [])
def spec_l06Least_l0_X (v78 : Int) (v79 : Int) (v80 : List Int) (v81 : Int) (v82 : Int) (x : Int × Int) : Out := (.normal, [.top, .top, .top, .top, .top, .top, .top, .top, .int .i64 x.1, .int .i64 x.2, .top, .top, .top, .top, .top, .top, .top, .top, .top, .top, .top, .top, .top, .top, .top, .top, .top, .top, .top, .top, .top, .top, .top, .top, .top, .top, .top, .top, .top, .top, .top, .top, .top, .top, .top, .top, .top, .top, .top, .top, .top], [])
def spec_l06Least_l0_kill : List Nat := [0, 1, 0, 1, 1, 1, 1, 1, 0, 0, 0, 1, 1, 1, 1, 1, 1, 1, 1, 1, 1, 1, 1, 1, 1, 1, 1, 1, 1, 1, 1, 1, 1, 1, 1, 1, 1, 1, 1, 1, 1, 1, 1, 1, 1, 1, 1, 1, 1, 1, 1]
def spec_l06Least_l0_nx : Exit → List Nat
  | .exit 0 => [1, 1, 1, 1, 1, 1, 1, 1, 0, 0, 1, 1, 1, 1, 1, 1, 1, 1, 1, 1, 1, 1, 1, 1, 1, 1, 1, 1, 1, 1, 1, 1, 1, 1, 1, 1, 1, 1, 1, 1, 1, 1, 1, 1, 1, 1, 1, 1, 1, 1, 1]
  | .ret => [1, 1, 1, 1, 1, 1, 0, 0, 1, 1, 1, 1, 1, 1, 1, 1, 1, 1, 1, 1, 1, 1, 1, 1, 1, 1, 1, 1, 1, 1, 1, 1, 1, 1, 1, 1, 1, 1, 1, 1, 1, 1, 1, 1, 1, 1, 1, 1, 1, 1, 1]
  | _ => []
noncomputable def spec_l06Least_LO (v78 : Int) (v79 : Int) (v80 : List Int) (v81 : Int) (v82 : Int) : LOr := fun id e L =>
  match id with
  | 0 => .need (normA 0 spec_l06Least_l0_kill e L = some (spec_l06Least_l0_E v78 v79 v80 v81 v82 ((gI (vAt e 8)), (gI (vAt e 9)), (gI (vAt e 10))))) (.call (spec_l06Least_l0_g v78 v79 v80 v82 ((gI (vAt e 8)), (gI (vAt e 9)), (gI (vAt e 10)))) fun x => .leaf (spec_l06Least_l0_X v78 v79 v80 v81 v82 x))
  | _ => .fail
noncomputable def spec_l06Least_tab : List (FuncId × DFn × Bool) := [(107, spec_l06At_F, true)]
theorem spec_l06Least_hO : OrcOk Try.prog (tabD spec_l06Least_tab) (tabM spec_l06Least_tab) := tabD_cons spec_l06At_Fok (tabD_nil _)
theorem spec_l06Least_l0_be (v78 : Int) (v79 : Int) (v80 : List Int) (v81 : Int) (v82 : Int) (s : Int × Int × Int) : bodyT TT (tabD spec_l06Least_tab) (tabM spec_l06Least_tab) (spec_l06Least_LO v78 v79 v80 v81 v82) 0 spec_l06Least_l0_kill spec_l06Least_l0_nx (bodyOf Try.f148 0) 0 (spec_l06Least_l0_E v78 v79 v80 v81 v82 s) = (spec_l06Least_l0_T v78 v79 v80 v82 s).bind fun y => .leaf (outS (spec_l06Least_l0_E v78 v79 v80 v81 v82) (spec_l06Least_l0_X v78 v79 v80 v81 v82) y) := by kernel_rfl
theorem spec_l06Least_l0_ok (v78 : Int) (v79 : Int) (v80 : List Int) (v81 : Int) (v82 : Int) : LSound Try.prog 0 (spec_l06Least_LO v78 v79 v80 v81 v82) 0 (bodyOf Try.f148 0) := by
  intro e L out h
  exact lo_ok (E := spec_l06Least_l0_E v78 v79 v80 v81 v82) (gT := spec_l06Least_l0_T v78 v79 v80 v82) (X := spec_l06Least_l0_X v78 v79 v80 v81 v82) (s0 := ((gI (vAt e 8)), (gI (vAt e 9)), (gI (vAt e 10)))) tok spec_l06Least_hO mixed (LoopsOk_eq (l := []) (by kernel_rfl) trivial) (spec_l06Least_l0_be v78 v79 v80 v81 v82) rfl (by intro x; rfl) h
noncomputable def spec_l06Least_T (v78 : Int) (v79 : Int) (v80 : List Int) (v81 : Int) (v82 : Int) : Tree (Int × Int) :=
  (.need (some (spec_l06Least_l0_E v78 v79 v80 v81 v82 ((-1 : Int), (0 : Int), v81)) = some (spec_l06Least_l0_E v78 v79 v80 v81 v82 ((-1 : Int), (0 : Int), v81))) <|
  (.call (spec_l06Least_l0_g v78 v79 v80 v82 ((-1 : Int), (0 : Int), v81)) fun v106 =>
  .leaf (v106.1, v106.2)))

noncomputable def spec_l06Least_g (v78 : Int) (v79 : Int) (v80 : List Int) (v81 : Int) (v82 : Int) : Option (Int × Int) := (spec_l06Least_T v78 v79 v80 v81 v82).run
def spec_l06Least_enc (v78 : Int) (v79 : Int) (v80 : List Int) (v81 : Int) (v82 : Int) (y : Int × Int) : Rs := (.tup [.int .i64 y.1, .int .i64 y.2], [])
theorem spec_l06Least_den (v78 : Int) (v79 : Int) (v80 : List Int) (v81 : Int) (v82 : Int) : (den TT (tabD spec_l06Least_tab) (tabM spec_l06Least_tab) (spec_l06Least_LO v78 v79 v80 v81 v82) (codeOf Try.f148) ([.bptr (BR.root 0) [.int .i64 v78, .int .i64 v79, .bslc (BR.root 1) (.i64 v80)], .int .i64 v81, .int .i64 v82] ++ List.replicate (Try.f148.ntmps - ([.bptr (BR.root 0) [.int .i64 v78, .int .i64 v79, .bslc (BR.root 1) (.i64 v80)], .int .i64 v81, .int .i64 v82] : List DV).length) .undef) []).bind (retD TT Try.f148.results.toList 0) = (spec_l06Least_T v78 v79 v80 v81 v82).bind fun y => .leaf (spec_l06Least_enc v78 v79 v80 v81 v82 y) := by kernel_rfl
theorem spec_l06Least_fn (v78 : Int) (v79 : Int) (v80 : List Int) (v81 : Int) (v82 : Int) (F : Fr) (hm : F.ids.length = 0) (h0 : St F [] F.H0) (hA : DVs.Ok F [] [.bptr (BR.root 0) [.int .i64 v78, .int .i64 v79, .bslc (BR.root 1) (.i64 v80)], .int .i64 v81, .int .i64 v82]) {y : Int × Int} (hy : spec_l06Least_g v78 v79 v80 v81 v82 = some y) : ∃ H', FnOk Try.prog 148 (DVs.av F [.bptr (BR.root 0) [.int .i64 v78, .int .i64 v79, .bslc (BR.root 1) (.i64 v80)], .int .i64 v81, .int .i64 v82]) F.H0 ((spec_l06Least_enc v78 v79 v80 v81 v82 y).1.av F) H' ∧ St F (spec_l06Least_enc v78 v79 v80 v81 v82 y).2 H' ∧ (spec_l06Least_enc v78 v79 v80 v81 v82 y).1.Ok F (spec_l06Least_enc v78 v79 v80 v81 v82 y).2 :=
  fn_fin tok spec_l06Least_hO mixed Try.func148 Try.call148 (by kernel_rfl) (LoopsOk_eq (l := [(0, bodyOf Try.f148 0)]) (by kernel_rfl) ⟨spec_l06Least_l0_ok v78 v79 v80 v81 v82, trivial⟩) (spec_l06Least_den v78 v79 v80 v81 v82) hy hm h0 hA
noncomputable def spec_l06Least_F : DFn := fun args L =>
  match args with
  | [a1, .int .i64 v81, .int .i64 v82] =>
    optT (cellsOf L 3 a1) fun cs0 =>
    (match cs0 with
    | [.int .i64 v78, .int .i64 v79, a2] =>
    optT (rowI64 L a2) fun v80 =>
    .call (spec_l06Least_g v78 v79 v80 v81 v82) fun y => .leaf (.tup [.int .i64 y.1, .int .i64 y.2], L)
    | _ => .fail)
  | _ => .fail
theorem spec_l06Least_Fok : COk Try.prog 148 spec_l06Least_F true := by
  intro F L H args r L' hs ha hr
  unfold spec_l06Least_F at hr
  split at hr
  · rename_i a1 v81 v82
    obtain ⟨cs0, hcp0, hr⟩ := optT_run hr
    split at hr
    · rename_i v78 v79 a2
      obtain ⟨v80, hv80, hr⟩ := optT_run hr
      simp only [Tree.run] at hr
      obtain ⟨y, hy, hr⟩ := Option.bind_eq_some_iff.1 hr
      simp only [Tree.run, Option.some.injEq, Prod.mk.injEq] at hr
      obtain ⟨rfl, rfl⟩ := hr
      exact call_ok0 hs (fun k => (([a1.av F, a2.av F] : List AV)[k]?).getD .top) [a1, .int .i64 v81, .int .i64 v82] [.bptr (BR.root 0) [.int .i64 v78, .int .i64 v79, .bslc (BR.root 1) (.i64 v80)], .int .i64 v81, .int .i64 v82] (fun F' h0 hi hρ => ⟨by simp [DVs.av, DV.av, BR.av, hρ], spec_l06Least_fn v78 v79 v80 v81 v82 F' (by rw [hi]; rfl) (st_nil hi) ⟨bptr_ok hi (by rw [h0]; simpa [DVs.av, DV.av, BR.av, hρ] using (cellsOf_ok hs (DVs.okAt ha 0 rfl) hcp0).1) ⟨trivial, trivial, bslc_ok hi (by rw [h0, hρ]; exact rowI64_ok hs (DVs.okAt (cellsOf_ok hs (DVs.okAt ha 0 rfl) hcp0).2 2 rfl) hv80), trivial⟩, trivial, trivial, trivial⟩ hy⟩) rfl
    · cases hr
  · cases hr
/-! spec.l06Swap -/
noncomputable def spec_l06Swap_l0_T (v117 : Int) (v119 : Int) (v120 : Int) (s : Int × (List Int)) : Tree ((Int × (List Int)) ⊕ ((List Int))) :=
  (.br (decide (s.1 < v117)) (
   (.call (spec_l06At_g v117 s.2 v119 s.1) fun v130 =>
   (.call (spec_l06At_g v117 s.2 v120 s.1) fun v131 =>
   (.grd (inb (IntKind.i64.wrap ((IntKind.i64.wrap (v119 * v117)) + s.1)) ((s.2).length)) <|
   (.grd (inb (IntKind.i64.wrap ((IntKind.i64.wrap (v120 * v117)) + s.1)) ((s.2).length)) <|
   .leaf (.inl (IntKind.i64.wrap (s.1 + (1 : Int)), List.set (List.set s.2 (Int.toNat (IntKind.i64.wrap ((IntKind.i64.wrap (v119 * v117)) + s.1))) v131) (Int.toNat (IntKind.i64.wrap ((IntKind.i64.wrap (v120 * v117)) + s.1))) v130))))))
  ) (
   .leaf (.inr s.2)
  ))

noncomputable def spec_l06Swap_l0_g (v117 : Int) (v119 : Int) (v120 : Int) (s0 : Int × (List Int)) : Option ((List Int)) := whileM (fun s => (spec_l06Swap_l0_T v117 v119 v120 s).run) s0
def spec_l06Swap_l0_E (v116 : Int) (v117 : Int) (v118 : List Int) (v119 : Int) (v120 : Int) (s : Int × (List Int)) : Sd := ([.ptr 0 (0 : Nat) 0 (3 : Nat), .int .i64 v119, .int .i64 v120, .top, .top, .top, .int .i64 s.1, .top, .top, .top, .top, .top, .top, .top, .top, .top, .top, .top, .top, .top, .top, .top, .top, .top, .top, .top, .top, .top, .top, .top, .top, .top, .top, .top, .top, .top, .top, .top, .top, .top, .top, .top, .top, .top, .top, .top, .top, .top, .top, .top, .top], [.gen [.int .i64 v116, .int .i64 v117, .own 1 0 ((s.2).length)] false 0, .row (.i64 s.2) 0])
def spec_l06Swap_l0_X (v116 : Int) (v117 : Int) (v118 : List Int) (v119 : Int) (v120 : Int) (x : (List Int)) : Out := (.normal, [.top, .top, .top, .top, .top, .top, .top, .top, .top, .top, .top, .top, .top, .top, .top, .top, .top, .top, .top, .top, .top, .top, .top, .top, .top, .top, .top, .top, .top, .top, .top, .top, .top, .top, .top, .top, .top, .top, .top, .top, .top, .top, .top, .top, .top, .top, .top, .top, .top, .top, .top], [.gen [.int .i64 v116, .int .i64 v117, .own 1 0 ((x).length)] false 0, .row (.i64 x) 0])
def spec_l06Swap_l0_kill : List Nat := [0, 0, 0, 1, 1, 1, 0, 1, 1, 1, 1, 1, 1, 1, 1, 1, 1, 1, 1, 1, 1, 1, 1, 1, 1, 1, 1, 1, 1, 1, 1, 1, 1, 1, 1, 1, 1, 1, 1, 1, 1, 1, 1, 1, 1, 1, 1, 1, 1, 1, 1]
def spec_l06Swap_l0_nx : Exit → List Nat
  | .exit 0 => [1, 1, 1, 1, 1, 1, 1, 1, 1, 1, 1, 1, 1, 1, 1, 1, 1, 1, 1, 1, 1, 1, 1, 1, 1, 1, 1, 1, 1, 1, 1, 1, 1, 1, 1, 1, 1, 1, 1, 1, 1, 1, 1, 1, 1, 1, 1, 1, 1, 1, 1]
  | .ret => [1, 1, 1, 1, 1, 1, 1, 1, 1, 1, 1, 1, 1, 1, 1, 1, 1, 1, 1, 1, 1, 1, 1, 1, 1, 1, 1, 1, 1, 1, 1, 1, 1, 1, 1, 1, 1, 1, 1, 1, 1, 1, 1, 1, 1, 1, 1, 1, 1, 1, 1]
  | _ => []
noncomputable def spec_l06Swap_LO (v116 : Int) (v117 : Int) (v118 : List Int) (v119 : Int) (v120 : Int) : LOr := fun id e L =>
  match id with
  | 0 => .need (normA 2 spec_l06Swap_l0_kill e L = some (spec_l06Swap_l0_E v116 v117 v118 v119 v120 ((gI (vAt e 6)), (gRI L (cAt L (vAt e 0) 2))))) (.call (spec_l06Swap_l0_g v117 v119 v120 ((gI (vAt e 6)), (gRI L (cAt L (vAt e 0) 2)))) fun x => .leaf (spec_l06Swap_l0_X v116 v117 v118 v119 v120 x))
  | _ => .fail
noncomputable def spec_l06Swap_tab : List (FuncId × DFn × Bool) := [(107, spec_l06At_F, true)]
theorem spec_l06Swap_hO : OrcOk Try.prog (tabD spec_l06Swap_tab) (tabM spec_l06Swap_tab) := tabD_cons spec_l06At_Fok (tabD_nil _)
theorem spec_l06Swap_l0_be (v116 : Int) (v117 : Int) (v118 : List Int) (v119 : Int) (v120 : Int) (s : Int × (List Int)) : bodyT TT (tabD spec_l06Swap_tab) (tabM spec_l06Swap_tab) (spec_l06Swap_LO v116 v117 v118 v119 v120) 2 spec_l06Swap_l0_kill spec_l06Swap_l0_nx (bodyOf Try.f96 0) 0 (spec_l06Swap_l0_E v116 v117 v118 v119 v120 s) = (spec_l06Swap_l0_T v117 v119 v120 s).bind fun y => .leaf (outS (spec_l06Swap_l0_E v116 v117 v118 v119 v120) (spec_l06Swap_l0_X v116 v117 v118 v119 v120) y) := by kernel_rfl
theorem spec_l06Swap_l0_ok (v116 : Int) (v117 : Int) (v118 : List Int) (v119 : Int) (v120 : Int) : LSound Try.prog 2 (spec_l06Swap_LO v116 v117 v118 v119 v120) 0 (bodyOf Try.f96 0) := by
  intro e L out h
  exact lo_ok (E := spec_l06Swap_l0_E v116 v117 v118 v119 v120) (gT := spec_l06Swap_l0_T v117 v119 v120) (X := spec_l06Swap_l0_X v116 v117 v118 v119 v120) (s0 := ((gI (vAt e 6)), (gRI L (cAt L (vAt e 0) 2)))) tok spec_l06Swap_hO mixed (LoopsOk_eq (l := []) (by kernel_rfl) trivial) (spec_l06Swap_l0_be v116 v117 v118 v119 v120) rfl (by intro x; rfl) h
noncomputable def spec_l06Swap_T (v116 : Int) (v117 : Int) (v118 : List Int) (v119 : Int) (v120 : Int) : Tree (Int × Int × (List Int)) :=
  (.need (some (spec_l06Swap_l0_E v116 v117 v118 v119 v120 ((0 : Int), v118)) = some (spec_l06Swap_l0_E v116 v117 v118 v119 v120 ((0 : Int), v118))) <|
  (.call (spec_l06Swap_l0_g v117 v119 v120 ((0 : Int), v118)) fun v132 =>
  .leaf (v116, v117, v132)))

noncomputable def spec_l06Swap_g (v116 : Int) (v117 : Int) (v118 : List Int) (v119 : Int) (v120 : Int) : Option (Int × Int × (List Int)) := (spec_l06Swap_T v116 v117 v118 v119 v120).run
def spec_l06Swap_enc (v116 : Int) (v117 : Int) (v118 : List Int) (v119 : Int) (v120 : Int) (y : Int × Int × (List Int)) : Rs := (.tup [], [.gen [.int .i64 y.1, .int .i64 y.2.1, .own 1 0 ((y.2.2).length)] false 0, .row (.i64 y.2.2) 0])
theorem spec_l06Swap_den (v116 : Int) (v117 : Int) (v118 : List Int) (v119 : Int) (v120 : Int) : (den TT (tabD spec_l06Swap_tab) (tabM spec_l06Swap_tab) (spec_l06Swap_LO v116 v117 v118 v119 v120) (codeOf Try.f96) ([.ptr 0 (0 : Nat) 0 (3 : Nat), .int .i64 v119, .int .i64 v120] ++ List.replicate (Try.f96.ntmps - ([.ptr 0 (0 : Nat) 0 (3 : Nat), .int .i64 v119, .int .i64 v120] : List DV).length) .undef) [.gen [.int .i64 v116, .int .i64 v117, .own 1 0 v118.length] false 0, .row (.i64 v118) 0]).bind (retD TT Try.f96.results.toList 2) = (spec_l06Swap_T v116 v117 v118 v119 v120).bind fun y => .leaf (spec_l06Swap_enc v116 v117 v118 v119 v120 y) := by kernel_rfl
theorem spec_l06Swap_fn (v116 : Int) (v117 : Int) (v118 : List Int) (v119 : Int) (v120 : Int) (F : Fr) (hm : F.ids.length = 2) (h0 : St F [.gen [.int .i64 v116, .int .i64 v117, .own 1 0 v118.length] false 0, .row (.i64 v118) 0] F.H0) (hA : DVs.Ok F [.gen [.int .i64 v116, .int .i64 v117, .own 1 0 v118.length] false 0, .row (.i64 v118) 0] [.ptr 0 (0 : Nat) 0 (3 : Nat), .int .i64 v119, .int .i64 v120]) {y : Int × Int × (List Int)} (hy : spec_l06Swap_g v116 v117 v118 v119 v120 = some y) : ∃ H', FnOk Try.prog 96 (DVs.av F [.ptr 0 (0 : Nat) 0 (3 : Nat), .int .i64 v119, .int .i64 v120]) F.H0 ((spec_l06Swap_enc v116 v117 v118 v119 v120 y).1.av F) H' ∧ St F (spec_l06Swap_enc v116 v117 v118 v119 v120 y).2 H' ∧ (spec_l06Swap_enc v116 v117 v118 v119 v120 y).1.Ok F (spec_l06Swap_enc v116 v117 v118 v119 v120 y).2 :=
  fn_fin tok spec_l06Swap_hO mixed Try.func96 Try.call96 (by kernel_rfl) (LoopsOk_eq (l := [(0, bodyOf Try.f96 0)]) (by kernel_rfl) ⟨spec_l06Swap_l0_ok v116 v117 v118 v119 v120, trivial⟩) (spec_l06Swap_den v116 v117 v118 v119 v120) hy hm h0 hA
noncomputable def spec_l06Swap_F : DFn := fun args L =>
  match args with
  | [a1, .int .i64 v119, .int .i64 v120] =>
    optT (genOf L 3 false a1) fun qg0 =>
    (match qg0.2 with
    | [.int .i64 v116, .int .i64 v117, a2] =>
    optT (ownI64 L a2) fun qv118 =>
    (match sepB [qg0.1, qv118.1] [] with
    | true =>
    .call (spec_l06Swap_g v116 v117 qv118.2 v119 v120) fun y => .grd (decide (y.2.2.length = qv118.2.length)) (.leaf (.tup [], setB L [(qg0.1, .gen [.int .i64 y.1, .int .i64 y.2.1, .own qv118.1 (verAt L qv118.1) ((y.2.2).length)] false (verAt L qg0.1)), (qv118.1, .row (.i64 y.2.2) (verAt L qv118.1))] ++ []))
    | false => .fail)
    | _ => .fail)
  | _ => .fail
theorem spec_l06Swap_Fok : COk Try.prog 96 spec_l06Swap_F false := by
  intro F L H args r L' hs ha hr
  unfold spec_l06Swap_F at hr
  split at hr
  · rename_i a1 v119 v120
    obtain ⟨⟨jg0, cg0⟩, hg0, hr⟩ := optT_run hr
    simp only at hr
    split at hr
    · rename_i v116 v117 a2
      obtain ⟨hge0, hgu0, hga0, hgn0, hgc0, hgf0⟩ := genOf_spec hs (DVs.okAt ha 0 rfl) hg0
      obtain ⟨⟨jv118, v118⟩, hqv118, hr⟩ := optT_run hr
      simp only at hr
      split at hr
      · rename_i hsep
        obtain ⟨hnd, hsepv⟩ := sepB_spec hsep
        simp only [Tree.run] at hr
        obtain ⟨y, hy, hr⟩ := Option.bind_eq_some_iff.1 hr
        try simp only [Tree.run] at hr
        obtain ⟨hl0, hr⟩ := ite_run hr
        simp only [Option.some.injEq, Prod.mk.injEq] at hr
        obtain ⟨rfl, rfl⟩ := hr
        obtain ⟨hr1, hu1, ha1, hb1⟩ := (ownR_spec (DVs.okAt hgc0 2 rfl) (ownI64_or hqv118))
        exact mutG_ok hs [a1, a2] ⟨(DVs.okAt ha 0 rfl), (DVs.okAt hgc0 2 rfl), trivial⟩ [a1, .int .i64 v119, .int .i64 v120] [.ptr 0 (0 : Nat) 0 (3 : Nat), .int .i64 v119, .int .i64 v120] [jg0, jv118] [verAt L jg0, verAt L jv118] [.gen [.int .i64 v116, .int .i64 v117, .own 1 0 v118.length] false 0, .row (.i64 v118) 0] [.gen [.int .i64 y.1, .int .i64 y.2.1, .own 1 0 ((y.2.2).length)] false 0, .row (.i64 y.2.2) 0] [.gen [.int .i64 y.1, .int .i64 y.2.1, .own jv118 (verAt L jv118) ((y.2.2).length)] false (verAt L jg0), .row (.i64 y.2.2) (verAt L jv118)] [] hnd rfl rfl (fun j hj => by
            simp at hj
            rcases hj with rfl | rfl
            · exact ex_lt hge0
            · exact ex_lt hr1) (fun j hj => by
            simp at hj
            rcases hj with rfl | rfl
            · exact reach_refs (by simp [DVs.refs, DV.refs, hgu0])
            · exact reach_1 (deep_mem (by simp [DVs.refs, DV.refs, hgu0]) hge0 (by simp [DVs.refs, DV.refs, hu1]))) (fun F' h0 hi hρ ab hS => by
            have ab0 := ab 0 _ rfl; have ab1 := ab 1 _ rfl;
            refine ⟨fun i j b' h1 h2 => ?_, by simp [DBlk.blk, DVs.av, DV.av, BR.av, hρ, Row.len, hga0, ab0, ha1, ab1], fun hst => spec_l06Swap_fn v116 v117 v118 v119 v120 F' (by rw [hi]; rfl) hst ⟨⟨_, rfl, Nat.le_refl _, by decide, Nat.le_refl _, fun _ => rfl⟩, trivial, trivial, trivial⟩ hy⟩
            rcases i with _ | _ | i
            · simp at h1 h2; subst h1; subst h2; obtain ⟨ver_, hv_⟩ := hge0; exact ⟨_, hv_, by simp [DBlk.blk, DVs.av, DV.av, BR.av, hρ, Row.len, hga0, ab0, ha1, ab1], ⟨⟨trivial, trivial, ⟨_, rfl, Nat.le_refl _, Nat.le_refl _, fun _ => rfl, (ownR_spec (DVs.okAt hgc0 2 rfl) (ownI64_or hqv118)).2.2.2⟩, trivial⟩, fun hf => by cases hf⟩⟩
            · simp at h1 h2; subst h1; subst h2; obtain ⟨ver_, hv_⟩ := hr1; exact ⟨_, hv_, rfl, hb1⟩
            · simp at h1) rfl rfl (fun i j b b' h1 h2 h3 => by
            rcases i with _ | _ | i
            · simp at h1; subst h1; cases h3; exact growG hge0 rfl h2
            · simp at h1; subst h1; cases h3; exact growK hr1 (of_decide_eq_true hl0) h2
            · simp at h1)
      · cases hr
    · cases hr
  · cases hr
/-! spec.l06Down -/
noncomputable def spec_l06Down_LO (v182 : Int) (v183 : Int) : LOr := fun id e L =>
  match id with
  | _ => .fail
noncomputable def spec_l06Down_tab : List (FuncId × DFn × Bool) := []
theorem spec_l06Down_hO : OrcOk Try.prog (tabD spec_l06Down_tab) (tabM spec_l06Down_tab) := tabD_nil _
noncomputable def spec_l06Down_T (v182 : Int) (v183 : Int) : Tree (Int) :=
  (.grd (!decide (v183 = 0)) <|
  (.grd (!decide (v183 = 0)) <|
  (.br (!decide (Int.tmod v182 v183 = (0 : Int))) (
   (.br (!((decide (v182 < (0 : Int))) == (decide (v183 < (0 : Int))))) (
    .leaf (IntKind.i64.wrap ((IntKind.i64.wrap (Int.tdiv v182 v183)) - (1 : Int)))
   ) (
    .leaf (IntKind.i64.wrap (Int.tdiv v182 v183))
   ))
  ) (
   .leaf (IntKind.i64.wrap (Int.tdiv v182 v183))
  ))))

noncomputable def spec_l06Down_g (v182 : Int) (v183 : Int) : Option (Int) := (spec_l06Down_T v182 v183).run
def spec_l06Down_enc (v182 : Int) (v183 : Int) (y : Int) : Rs := (.int .i64 y, [])
theorem spec_l06Down_den (v182 : Int) (v183 : Int) : (den TT (tabD spec_l06Down_tab) (tabM spec_l06Down_tab) (spec_l06Down_LO v182 v183) (codeOf Try.f109) ([.int .i64 v182, .int .i64 v183] ++ List.replicate (Try.f109.ntmps - ([.int .i64 v182, .int .i64 v183] : List DV).length) .undef) []).bind (retD TT Try.f109.results.toList 0) = (spec_l06Down_T v182 v183).bind fun y => .leaf (spec_l06Down_enc v182 v183 y) := by kernel_rfl
theorem spec_l06Down_fn (v182 : Int) (v183 : Int) (F : Fr) (hm : F.ids.length = 0) (h0 : St F [] F.H0) (hA : DVs.Ok F [] [.int .i64 v182, .int .i64 v183]) {y : Int} (hy : spec_l06Down_g v182 v183 = some y) : ∃ H', FnOk Try.prog 109 (DVs.av F [.int .i64 v182, .int .i64 v183]) F.H0 ((spec_l06Down_enc v182 v183 y).1.av F) H' ∧ St F (spec_l06Down_enc v182 v183 y).2 H' ∧ (spec_l06Down_enc v182 v183 y).1.Ok F (spec_l06Down_enc v182 v183 y).2 :=
  fn_fin tok spec_l06Down_hO mixed Try.func109 Try.call109 (by kernel_rfl) (LoopsOk_eq (l := []) (by kernel_rfl) trivial) (spec_l06Down_den v182 v183) hy hm h0 hA
noncomputable def spec_l06Down_F : DFn := fun args L =>
  match args with
  | [.int .i64 v182, .int .i64 v183] =>
    .call (spec_l06Down_g v182 v183) fun y => .leaf (.int .i64 y, L)
  | _ => .fail
theorem spec_l06Down_Fok : COk Try.prog 109 spec_l06Down_F true := by
  intro F L H args r L' hs ha hr
  unfold spec_l06Down_F at hr
  split at hr
  · rename_i v182 v183
    simp only [Tree.run] at hr
    obtain ⟨y, hy, hr⟩ := Option.bind_eq_some_iff.1 hr
    simp only [Tree.run, Option.some.injEq, Prod.mk.injEq] at hr
    obtain ⟨rfl, rfl⟩ := hr
    exact call_ok0 hs (fun k => (([] : List AV)[k]?).getD .top) [.int .i64 v182, .int .i64 v183] [.int .i64 v182, .int .i64 v183] (fun F' h0 hi hρ => ⟨by simp [DVs.av, DV.av, BR.av, hρ], spec_l06Down_fn v182 v183 F' (by rw [hi]; rfl) (st_nil hi) ⟨trivial, trivial, trivial⟩ hy⟩) rfl
  · cases hr
/-! spec.l06Take -/
noncomputable def spec_l06Take_l0_T (v203 : Int) (v205 : Int) (v206 : Int) (v207 : Int) (s : Int × (List Int)) : Tree ((Int × (List Int)) ⊕ ((List Int))) :=
  (.br (decide (s.1 < v203)) (
   (.grd (inb (IntKind.i64.wrap ((IntKind.i64.wrap (v205 * v203)) + s.1)) ((s.2).length)) <|
   (.call (spec_l06At_g v203 s.2 v206 s.1) fun v215 =>
   (.grd (inb (IntKind.i64.wrap ((IntKind.i64.wrap (v205 * v203)) + s.1)) ((s.2).length)) <|
   .leaf (.inl (IntKind.i64.wrap (s.1 + (1 : Int)), List.set s.2 (Int.toNat (IntKind.i64.wrap ((IntKind.i64.wrap (v205 * v203)) + s.1))) (IntKind.i64.wrap ((nth s.2 (Int.toNat (IntKind.i64.wrap ((IntKind.i64.wrap (v205 * v203)) + s.1)))) - (IntKind.i64.wrap (v207 * v215)))))))))
  ) (
   .leaf (.inr s.2)
  ))

noncomputable def spec_l06Take_l0_g (v203 : Int) (v205 : Int) (v206 : Int) (v207 : Int) (s0 : Int × (List Int)) : Option ((List Int)) := whileM (fun s => (spec_l06Take_l0_T v203 v205 v206 v207 s).run) s0
def spec_l06Take_l0_E (v202 : Int) (v203 : Int) (v204 : List Int) (v205 : Int) (v206 : Int) (v207 : Int) (s : Int × (List Int)) : Sd := ([.ptr 0 (0 : Nat) 0 (3 : Nat), .int .i64 v205, .int .i64 v206, .int .i64 v207, .top, .top, .top, .top, .int .i64 s.1, .top, .top, .top, .top, .top, .top, .top, .top, .top, .top, .top, .top, .top, .top, .top, .top, .top, .top, .top, .top, .top, .top, .top, .top, .top, .top, .top, .top, .top, .top], [.gen [.int .i64 v202, .int .i64 v203, .own 1 0 ((s.2).length)] false 0, .row (.i64 s.2) 0])
def spec_l06Take_l0_X (v202 : Int) (v203 : Int) (v204 : List Int) (v205 : Int) (v206 : Int) (v207 : Int) (x : (List Int)) : Out := (.normal, [.top, .top, .top, .top, .top, .top, .top, .top, .top, .top, .top, .top, .top, .top, .top, .top, .top, .top, .top, .top, .top, .top, .top, .top, .top, .top, .top, .top, .top, .top, .top, .top, .top, .top, .top, .top, .top, .top, .top], [.gen [.int .i64 v202, .int .i64 v203, .own 1 0 ((x).length)] false 0, .row (.i64 x) 0])
def spec_l06Take_l0_kill : List Nat := [0, 0, 0, 0, 1, 1, 1, 1, 0, 1, 1, 1, 1, 1, 1, 1, 1, 1, 1, 1, 1, 1, 1, 1, 1, 1, 1, 1, 1, 1, 1, 1, 1, 1, 1, 1, 1, 1, 1]
def spec_l06Take_l0_nx : Exit → List Nat
  | .exit 0 => [1, 1, 1, 1, 1, 1, 1, 1, 1, 1, 1, 1, 1, 1, 1, 1, 1, 1, 1, 1, 1, 1, 1, 1, 1, 1, 1, 1, 1, 1, 1, 1, 1, 1, 1, 1, 1, 1, 1]
  | .ret => [1, 1, 1, 1, 1, 1, 1, 1, 1, 1, 1, 1, 1, 1, 1, 1, 1, 1, 1, 1, 1, 1, 1, 1, 1, 1, 1, 1, 1, 1, 1, 1, 1, 1, 1, 1, 1, 1, 1]
  | _ => []
noncomputable def spec_l06Take_LO (v202 : Int) (v203 : Int) (v204 : List Int) (v205 : Int) (v206 : Int) (v207 : Int) : LOr := fun id e L =>
  match id with
  | 0 => .need (normA 2 spec_l06Take_l0_kill e L = some (spec_l06Take_l0_E v202 v203 v204 v205 v206 v207 ((gI (vAt e 8)), (gRI L (cAt L (vAt e 0) 2))))) (.call (spec_l06Take_l0_g v203 v205 v206 v207 ((gI (vAt e 8)), (gRI L (cAt L (vAt e 0) 2)))) fun x => .leaf (spec_l06Take_l0_X v202 v203 v204 v205 v206 v207 x))
  | _ => .fail
noncomputable def spec_l06Take_tab : List (FuncId × DFn × Bool) := [(107, spec_l06At_F, true)]
theorem spec_l06Take_hO : OrcOk Try.prog (tabD spec_l06Take_tab) (tabM spec_l06Take_tab) := tabD_cons spec_l06At_Fok (tabD_nil _)
theorem spec_l06Take_l0_be (v202 : Int) (v203 : Int) (v204 : List Int) (v205 : Int) (v206 : Int) (v207 : Int) (s : Int × (List Int)) : bodyT TT (tabD spec_l06Take_tab) (tabM spec_l06Take_tab) (spec_l06Take_LO v202 v203 v204 v205 v206 v207) 2 spec_l06Take_l0_kill spec_l06Take_l0_nx (bodyOf Try.f94 0) 0 (spec_l06Take_l0_E v202 v203 v204 v205 v206 v207 s) = (spec_l06Take_l0_T v203 v205 v206 v207 s).bind fun y => .leaf (outS (spec_l06Take_l0_E v202 v203 v204 v205 v206 v207) (spec_l06Take_l0_X v202 v203 v204 v205 v206 v207) y) := by kernel_rfl
theorem spec_l06Take_l0_ok (v202 : Int) (v203 : Int) (v204 : List Int) (v205 : Int) (v206 : Int) (v207 : Int) : LSound Try.prog 2 (spec_l06Take_LO v202 v203 v204 v205 v206 v207) 0 (bodyOf Try.f94 0) := by
  intro e L out h
  exact lo_ok (E := spec_l06Take_l0_E v202 v203 v204 v205 v206 v207) (gT := spec_l06Take_l0_T v203 v205 v206 v207) (X := spec_l06Take_l0_X v202 v203 v204 v205 v206 v207) (s0 := ((gI (vAt e 8)), (gRI L (cAt L (vAt e 0) 2)))) tok spec_l06Take_hO mixed (LoopsOk_eq (l := []) (by kernel_rfl) trivial) (spec_l06Take_l0_be v202 v203 v204 v205 v206 v207) rfl (by intro x; rfl) h
noncomputable def spec_l06Take_T (v202 : Int) (v203 : Int) (v204 : List Int) (v205 : Int) (v206 : Int) (v207 : Int) : Tree (Int × Int × (List Int)) :=
  (.need (some (spec_l06Take_l0_E v202 v203 v204 v205 v206 v207 ((0 : Int), v204)) = some (spec_l06Take_l0_E v202 v203 v204 v205 v206 v207 ((0 : Int), v204))) <|
  (.call (spec_l06Take_l0_g v203 v205 v206 v207 ((0 : Int), v204)) fun v216 =>
  .leaf (v202, v203, v216)))

noncomputable def spec_l06Take_g (v202 : Int) (v203 : Int) (v204 : List Int) (v205 : Int) (v206 : Int) (v207 : Int) : Option (Int × Int × (List Int)) := (spec_l06Take_T v202 v203 v204 v205 v206 v207).run
def spec_l06Take_enc (v202 : Int) (v203 : Int) (v204 : List Int) (v205 : Int) (v206 : Int) (v207 : Int) (y : Int × Int × (List Int)) : Rs := (.tup [], [.gen [.int .i64 y.1, .int .i64 y.2.1, .own 1 0 ((y.2.2).length)] false 0, .row (.i64 y.2.2) 0])
theorem spec_l06Take_den (v202 : Int) (v203 : Int) (v204 : List Int) (v205 : Int) (v206 : Int) (v207 : Int) : (den TT (tabD spec_l06Take_tab) (tabM spec_l06Take_tab) (spec_l06Take_LO v202 v203 v204 v205 v206 v207) (codeOf Try.f94) ([.ptr 0 (0 : Nat) 0 (3 : Nat), .int .i64 v205, .int .i64 v206, .int .i64 v207] ++ List.replicate (Try.f94.ntmps - ([.ptr 0 (0 : Nat) 0 (3 : Nat), .int .i64 v205, .int .i64 v206, .int .i64 v207] : List DV).length) .undef) [.gen [.int .i64 v202, .int .i64 v203, .own 1 0 v204.length] false 0, .row (.i64 v204) 0]).bind (retD TT Try.f94.results.toList 2) = (spec_l06Take_T v202 v203 v204 v205 v206 v207).bind fun y => .leaf (spec_l06Take_enc v202 v203 v204 v205 v206 v207 y) := by kernel_rfl
theorem spec_l06Take_fn (v202 : Int) (v203 : Int) (v204 : List Int) (v205 : Int) (v206 : Int) (v207 : Int) (F : Fr) (hm : F.ids.length = 2) (h0 : St F [.gen [.int .i64 v202, .int .i64 v203, .own 1 0 v204.length] false 0, .row (.i64 v204) 0] F.H0) (hA : DVs.Ok F [.gen [.int .i64 v202, .int .i64 v203, .own 1 0 v204.length] false 0, .row (.i64 v204) 0] [.ptr 0 (0 : Nat) 0 (3 : Nat), .int .i64 v205, .int .i64 v206, .int .i64 v207]) {y : Int × Int × (List Int)} (hy : spec_l06Take_g v202 v203 v204 v205 v206 v207 = some y) : ∃ H', FnOk Try.prog 94 (DVs.av F [.ptr 0 (0 : Nat) 0 (3 : Nat), .int .i64 v205, .int .i64 v206, .int .i64 v207]) F.H0 ((spec_l06Take_enc v202 v203 v204 v205 v206 v207 y).1.av F) H' ∧ St F (spec_l06Take_enc v202 v203 v204 v205 v206 v207 y).2 H' ∧ (spec_l06Take_enc v202 v203 v204 v205 v206 v207 y).1.Ok F (spec_l06Take_enc v202 v203 v204 v205 v206 v207 y).2 :=
  fn_fin tok spec_l06Take_hO mixed Try.func94 Try.call94 (by kernel_rfl) (LoopsOk_eq (l := [(0, bodyOf Try.f94 0)]) (by kernel_rfl) ⟨spec_l06Take_l0_ok v202 v203 v204 v205 v206 v207, trivial⟩) (spec_l06Take_den v202 v203 v204 v205 v206 v207) hy hm h0 hA
noncomputable def spec_l06Take_F : DFn := fun args L =>
  match args with
  | [a1, .int .i64 v205, .int .i64 v206, .int .i64 v207] =>
    optT (genOf L 3 false a1) fun qg0 =>
    (match qg0.2 with
    | [.int .i64 v202, .int .i64 v203, a2] =>
    optT (ownI64 L a2) fun qv204 =>
    (match sepB [qg0.1, qv204.1] [] with
    | true =>
    .call (spec_l06Take_g v202 v203 qv204.2 v205 v206 v207) fun y => .grd (decide (y.2.2.length = qv204.2.length)) (.leaf (.tup [], setB L [(qg0.1, .gen [.int .i64 y.1, .int .i64 y.2.1, .own qv204.1 (verAt L qv204.1) ((y.2.2).length)] false (verAt L qg0.1)), (qv204.1, .row (.i64 y.2.2) (verAt L qv204.1))] ++ []))
    | false => .fail)
    | _ => .fail)
  | _ => .fail
theorem spec_l06Take_Fok : COk Try.prog 94 spec_l06Take_F false := by
  intro F L H args r L' hs ha hr
  unfold spec_l06Take_F at hr
  split at hr
  · rename_i a1 v205 v206 v207
    obtain ⟨⟨jg0, cg0⟩, hg0, hr⟩ := optT_run hr
    simp only at hr
    split at hr
    · rename_i v202 v203 a2
      obtain ⟨hge0, hgu0, hga0, hgn0, hgc0, hgf0⟩ := genOf_spec hs (DVs.okAt ha 0 rfl) hg0
      obtain ⟨⟨jv204, v204⟩, hqv204, hr⟩ := optT_run hr
      simp only at hr
      split at hr
      · rename_i hsep
        obtain ⟨hnd, hsepv⟩ := sepB_spec hsep
        simp only [Tree.run] at hr
        obtain ⟨y, hy, hr⟩ := Option.bind_eq_some_iff.1 hr
        try simp only [Tree.run] at hr
        obtain ⟨hl0, hr⟩ := ite_run hr
        simp only [Option.some.injEq, Prod.mk.injEq] at hr
        obtain ⟨rfl, rfl⟩ := hr
        obtain ⟨hr1, hu1, ha1, hb1⟩ := (ownR_spec (DVs.okAt hgc0 2 rfl) (ownI64_or hqv204))
        exact mutG_ok hs [a1, a2] ⟨(DVs.okAt ha 0 rfl), (DVs.okAt hgc0 2 rfl), trivial⟩ [a1, .int .i64 v205, .int .i64 v206, .int .i64 v207] [.ptr 0 (0 : Nat) 0 (3 : Nat), .int .i64 v205, .int .i64 v206, .int .i64 v207] [jg0, jv204] [verAt L jg0, verAt L jv204] [.gen [.int .i64 v202, .int .i64 v203, .own 1 0 v204.length] false 0, .row (.i64 v204) 0] [.gen [.int .i64 y.1, .int .i64 y.2.1, .own 1 0 ((y.2.2).length)] false 0, .row (.i64 y.2.2) 0] [.gen [.int .i64 y.1, .int .i64 y.2.1, .own jv204 (verAt L jv204) ((y.2.2).length)] false (verAt L jg0), .row (.i64 y.2.2) (verAt L jv204)] [] hnd rfl rfl (fun j hj => by
            simp at hj
            rcases hj with rfl | rfl
            · exact ex_lt hge0
            · exact ex_lt hr1) (fun j hj => by
            simp at hj
            rcases hj with rfl | rfl
            · exact reach_refs (by simp [DVs.refs, DV.refs, hgu0])
            · exact reach_1 (deep_mem (by simp [DVs.refs, DV.refs, hgu0]) hge0 (by simp [DVs.refs, DV.refs, hu1]))) (fun F' h0 hi hρ ab hS => by
            have ab0 := ab 0 _ rfl; have ab1 := ab 1 _ rfl;
            refine ⟨fun i j b' h1 h2 => ?_, by simp [DBlk.blk, DVs.av, DV.av, BR.av, hρ, Row.len, hga0, ab0, ha1, ab1], fun hst => spec_l06Take_fn v202 v203 v204 v205 v206 v207 F' (by rw [hi]; rfl) hst ⟨⟨_, rfl, Nat.le_refl _, by decide, Nat.le_refl _, fun _ => rfl⟩, trivial, trivial, trivial, trivial⟩ hy⟩
            rcases i with _ | _ | i
            · simp at h1 h2; subst h1; subst h2; obtain ⟨ver_, hv_⟩ := hge0; exact ⟨_, hv_, by simp [DBlk.blk, DVs.av, DV.av, BR.av, hρ, Row.len, hga0, ab0, ha1, ab1], ⟨⟨trivial, trivial, ⟨_, rfl, Nat.le_refl _, Nat.le_refl _, fun _ => rfl, (ownR_spec (DVs.okAt hgc0 2 rfl) (ownI64_or hqv204)).2.2.2⟩, trivial⟩, fun hf => by cases hf⟩⟩
            · simp at h1 h2; subst h1; subst h2; obtain ⟨ver_, hv_⟩ := hr1; exact ⟨_, hv_, rfl, hb1⟩
            · simp at h1) rfl rfl (fun i j b b' h1 h2 h3 => by
            rcases i with _ | _ | i
            · simp at h1; subst h1; cases h3; exact growG hge0 rfl h2
            · simp at h1; subst h1; cases h3; exact growK hr1 (of_decide_eq_true hl0) h2
            · simp at h1)
      · cases hr
    · cases hr
  · cases hr
/-! spec.l06Both -/
noncomputable def spec_l06Both_LO (v246 : Int) (v247 : Int) (v248 : List Int) (v249 : Int) (v250 : Int) (v251 : List Int) (v252 : Int) (v253 : Int) (v254 : Int) : LOr := fun id e L =>
  match id with
  | _ => .fail
noncomputable def spec_l06Both_tab : List (FuncId × DFn × Bool) := [(94, spec_l06Take_F, false), (68, spec_l06Bound_F, true)]
theorem spec_l06Both_hO : OrcOk Try.prog (tabD spec_l06Both_tab) (tabM spec_l06Both_tab) := tabD_cons spec_l06Take_Fok (tabD_cons spec_l06Bound_Fok (tabD_nil _))
noncomputable def spec_l06Both_T (v246 : Int) (v247 : Int) (v248 : List Int) (v249 : Int) (v250 : Int) (v251 : List Int) (v252 : Int) (v253 : Int) (v254 : Int) : Tree (Bool × Int × Int × (List Int) × Int × Int × (List Int)) :=
  (.call (spec_l06Take_g v246 v247 v248 v252 v253 v254) fun v255 =>
  (.grd (decide (v255.2.2.length = v248.length)) <|
  (.call (spec_l06Take_g v249 v250 v251 v252 v253 v254) fun v256 =>
  (.grd (decide (v256.2.2.length = v251.length)) <|
  (.call (spec_l06Bound_g v255.2.2 (1000000 : Int)) fun v257 =>
  (.br v257 (
   (.call (spec_l06Bound_g v256.2.2 (1000000 : Int)) fun v258 =>
   .leaf (v258, v255.1, v255.2.1, v255.2.2, v256.1, v256.2.1, v256.2.2))
  ) (
   .leaf (false, v255.1, v255.2.1, v255.2.2, v256.1, v256.2.1, v256.2.2)
  )))))))

noncomputable def spec_l06Both_g (v246 : Int) (v247 : Int) (v248 : List Int) (v249 : Int) (v250 : Int) (v251 : List Int) (v252 : Int) (v253 : Int) (v254 : Int) : Option (Bool × Int × Int × (List Int) × Int × Int × (List Int)) := (spec_l06Both_T v246 v247 v248 v249 v250 v251 v252 v253 v254).run
def spec_l06Both_enc (v246 : Int) (v247 : Int) (v248 : List Int) (v249 : Int) (v250 : Int) (v251 : List Int) (v252 : Int) (v253 : Int) (v254 : Int) (y : Bool × Int × Int × (List Int) × Int × Int × (List Int)) : Rs := (.bool y.1, [.gen [.int .i64 y.2.1, .int .i64 y.2.2.1, .own 1 0 ((y.2.2.2.1).length)] false 0, .row (.i64 y.2.2.2.1) 0, .gen [.int .i64 y.2.2.2.2.1, .int .i64 y.2.2.2.2.2.1, .own 3 0 ((y.2.2.2.2.2.2).length)] false 0, .row (.i64 y.2.2.2.2.2.2) 0])
theorem spec_l06Both_den (v246 : Int) (v247 : Int) (v248 : List Int) (v249 : Int) (v250 : Int) (v251 : List Int) (v252 : Int) (v253 : Int) (v254 : Int) : (den TT (tabD spec_l06Both_tab) (tabM spec_l06Both_tab) (spec_l06Both_LO v246 v247 v248 v249 v250 v251 v252 v253 v254) (codeOf Try.f108) ([.ptr 0 (0 : Nat) 0 (3 : Nat), .ptr 2 (0 : Nat) 0 (3 : Nat), .int .i64 v252, .int .i64 v253, .int .i64 v254] ++ List.replicate (Try.f108.ntmps - ([.ptr 0 (0 : Nat) 0 (3 : Nat), .ptr 2 (0 : Nat) 0 (3 : Nat), .int .i64 v252, .int .i64 v253, .int .i64 v254] : List DV).length) .undef) [.gen [.int .i64 v246, .int .i64 v247, .own 1 0 v248.length] false 0, .row (.i64 v248) 0, .gen [.int .i64 v249, .int .i64 v250, .own 3 0 v251.length] false 0, .row (.i64 v251) 0]).bind (retD TT Try.f108.results.toList 4) = (spec_l06Both_T v246 v247 v248 v249 v250 v251 v252 v253 v254).bind fun y => .leaf (spec_l06Both_enc v246 v247 v248 v249 v250 v251 v252 v253 v254 y) := by kernel_rfl
theorem spec_l06Both_fn (v246 : Int) (v247 : Int) (v248 : List Int) (v249 : Int) (v250 : Int) (v251 : List Int) (v252 : Int) (v253 : Int) (v254 : Int) (F : Fr) (hm : F.ids.length = 4) (h0 : St F [.gen [.int .i64 v246, .int .i64 v247, .own 1 0 v248.length] false 0, .row (.i64 v248) 0, .gen [.int .i64 v249, .int .i64 v250, .own 3 0 v251.length] false 0, .row (.i64 v251) 0] F.H0) (hA : DVs.Ok F [.gen [.int .i64 v246, .int .i64 v247, .own 1 0 v248.length] false 0, .row (.i64 v248) 0, .gen [.int .i64 v249, .int .i64 v250, .own 3 0 v251.length] false 0, .row (.i64 v251) 0] [.ptr 0 (0 : Nat) 0 (3 : Nat), .ptr 2 (0 : Nat) 0 (3 : Nat), .int .i64 v252, .int .i64 v253, .int .i64 v254]) {y : Bool × Int × Int × (List Int) × Int × Int × (List Int)} (hy : spec_l06Both_g v246 v247 v248 v249 v250 v251 v252 v253 v254 = some y) : ∃ H', FnOk Try.prog 108 (DVs.av F [.ptr 0 (0 : Nat) 0 (3 : Nat), .ptr 2 (0 : Nat) 0 (3 : Nat), .int .i64 v252, .int .i64 v253, .int .i64 v254]) F.H0 ((spec_l06Both_enc v246 v247 v248 v249 v250 v251 v252 v253 v254 y).1.av F) H' ∧ St F (spec_l06Both_enc v246 v247 v248 v249 v250 v251 v252 v253 v254 y).2 H' ∧ (spec_l06Both_enc v246 v247 v248 v249 v250 v251 v252 v253 v254 y).1.Ok F (spec_l06Both_enc v246 v247 v248 v249 v250 v251 v252 v253 v254 y).2 :=
  fn_fin tok spec_l06Both_hO mixed Try.func108 Try.call108 (by kernel_rfl) (LoopsOk_eq (l := []) (by kernel_rfl) trivial) (spec_l06Both_den v246 v247 v248 v249 v250 v251 v252 v253 v254) hy hm h0 hA
noncomputable def spec_l06Both_F : DFn := fun args L =>
  match args with
  | [a1, a3, .int .i64 v252, .int .i64 v253, .int .i64 v254] =>
    optT (genOf L 3 false a1) fun qg0 =>
    (match qg0.2 with
    | [.int .i64 v246, .int .i64 v247, a2] =>
    optT (ownI64 L a2) fun qv248 =>
    optT (genOf L 3 false a3) fun qg2 =>
    (match qg2.2 with
    | [.int .i64 v249, .int .i64 v250, a4] =>
    optT (ownI64 L a4) fun qv251 =>
    (match sepB [qg0.1, qv248.1, qg2.1, qv251.1] [] with
    | true =>
    .call (spec_l06Both_g v246 v247 qv248.2 v249 v250 qv251.2 v252 v253 v254) fun y => .grd (decide (y.2.2.2.1.length = qv248.2.length)) (.grd (decide (y.2.2.2.2.2.2.length = qv251.2.length)) (.leaf (.bool y.1, setB L [(qg0.1, .gen [.int .i64 y.2.1, .int .i64 y.2.2.1, .own qv248.1 (verAt L qv248.1) ((y.2.2.2.1).length)] false (verAt L qg0.1)), (qv248.1, .row (.i64 y.2.2.2.1) (verAt L qv248.1)), (qg2.1, .gen [.int .i64 y.2.2.2.2.1, .int .i64 y.2.2.2.2.2.1, .own qv251.1 (verAt L qv251.1) ((y.2.2.2.2.2.2).length)] false (verAt L qg2.1)), (qv251.1, .row (.i64 y.2.2.2.2.2.2) (verAt L qv251.1))] ++ [])))
    | false => .fail)
    | _ => .fail)
    | _ => .fail)
  | _ => .fail
theorem spec_l06Both_Fok : COk Try.prog 108 spec_l06Both_F false := by
  intro F L H args r L' hs ha hr
  unfold spec_l06Both_F at hr
  split at hr
  · rename_i a1 a3 v252 v253 v254
    obtain ⟨⟨jg0, cg0⟩, hg0, hr⟩ := optT_run hr
    simp only at hr
    split at hr
    · rename_i v246 v247 a2
      obtain ⟨hge0, hgu0, hga0, hgn0, hgc0, hgf0⟩ := genOf_spec hs (DVs.okAt ha 0 rfl) hg0
      obtain ⟨⟨jv248, v248⟩, hqv248, hr⟩ := optT_run hr
      simp only at hr
      obtain ⟨⟨jg2, cg2⟩, hg2, hr⟩ := optT_run hr
      simp only at hr
      split at hr
      · rename_i v249 v250 a4
        obtain ⟨hge2, hgu2, hga2, hgn2, hgc2, hgf2⟩ := genOf_spec hs (DVs.okAt ha 1 rfl) hg2
        obtain ⟨⟨jv251, v251⟩, hqv251, hr⟩ := optT_run hr
        simp only at hr
        split at hr
        · rename_i hsep
          obtain ⟨hnd, hsepv⟩ := sepB_spec hsep
          simp only [Tree.run] at hr
          obtain ⟨y, hy, hr⟩ := Option.bind_eq_some_iff.1 hr
          try simp only [Tree.run] at hr
          obtain ⟨hl0, hr⟩ := ite_run hr
          obtain ⟨hl1, hr⟩ := ite_run hr
          simp only [Option.some.injEq, Prod.mk.injEq] at hr
          obtain ⟨rfl, rfl⟩ := hr
          obtain ⟨hr1, hu1, ha1, hb1⟩ := (ownR_spec (DVs.okAt hgc0 2 rfl) (ownI64_or hqv248))
          obtain ⟨hr3, hu3, ha3, hb3⟩ := (ownR_spec (DVs.okAt hgc2 2 rfl) (ownI64_or hqv251))
          exact mutG_ok hs [a1, a2, a3, a4] ⟨(DVs.okAt ha 0 rfl), (DVs.okAt hgc0 2 rfl), (DVs.okAt ha 1 rfl), (DVs.okAt hgc2 2 rfl), trivial⟩ [a1, a3, .int .i64 v252, .int .i64 v253, .int .i64 v254] [.ptr 0 (0 : Nat) 0 (3 : Nat), .ptr 2 (0 : Nat) 0 (3 : Nat), .int .i64 v252, .int .i64 v253, .int .i64 v254] [jg0, jv248, jg2, jv251] [verAt L jg0, verAt L jv248, verAt L jg2, verAt L jv251] [.gen [.int .i64 v246, .int .i64 v247, .own 1 0 v248.length] false 0, .row (.i64 v248) 0, .gen [.int .i64 v249, .int .i64 v250, .own 3 0 v251.length] false 0, .row (.i64 v251) 0] [.gen [.int .i64 y.2.1, .int .i64 y.2.2.1, .own 1 0 ((y.2.2.2.1).length)] false 0, .row (.i64 y.2.2.2.1) 0, .gen [.int .i64 y.2.2.2.2.1, .int .i64 y.2.2.2.2.2.1, .own 3 0 ((y.2.2.2.2.2.2).length)] false 0, .row (.i64 y.2.2.2.2.2.2) 0] [.gen [.int .i64 y.2.1, .int .i64 y.2.2.1, .own jv248 (verAt L jv248) ((y.2.2.2.1).length)] false (verAt L jg0), .row (.i64 y.2.2.2.1) (verAt L jv248), .gen [.int .i64 y.2.2.2.2.1, .int .i64 y.2.2.2.2.2.1, .own jv251 (verAt L jv251) ((y.2.2.2.2.2.2).length)] false (verAt L jg2), .row (.i64 y.2.2.2.2.2.2) (verAt L jv251)] [] hnd rfl rfl (fun j hj => by
              simp at hj
              rcases hj with rfl | rfl | rfl | rfl
              · exact ex_lt hge0
              · exact ex_lt hr1
              · exact ex_lt hge2
              · exact ex_lt hr3) (fun j hj => by
              simp at hj
              rcases hj with rfl | rfl | rfl | rfl
              · exact reach_refs (by simp [DVs.refs, DV.refs, hgu0])
              · exact reach_1 (deep_mem (by simp [DVs.refs, DV.refs, hgu0]) hge0 (by simp [DVs.refs, DV.refs, hu1]))
              · exact reach_refs (by simp [DVs.refs, DV.refs, hgu2])
              · exact reach_1 (deep_mem (by simp [DVs.refs, DV.refs, hgu2]) hge2 (by simp [DVs.refs, DV.refs, hu3]))) (fun F' h0 hi hρ ab hS => by
              have ab0 := ab 0 _ rfl; have ab1 := ab 1 _ rfl; have ab2 := ab 2 _ rfl; have ab3 := ab 3 _ rfl;
              refine ⟨fun i j b' h1 h2 => ?_, by simp [DBlk.blk, DVs.av, DV.av, BR.av, hρ, Row.len, hga0, ab0, ha1, ab1, hga2, ab2, ha3, ab3], fun hst => spec_l06Both_fn v246 v247 v248 v249 v250 v251 v252 v253 v254 F' (by rw [hi]; rfl) hst ⟨⟨_, rfl, Nat.le_refl _, by decide, Nat.le_refl _, fun _ => rfl⟩, ⟨_, rfl, Nat.le_refl _, by decide, Nat.le_refl _, fun _ => rfl⟩, trivial, trivial, trivial, trivial⟩ hy⟩
              rcases i with _ | _ | _ | _ | i
              · simp at h1 h2; subst h1; subst h2; obtain ⟨ver_, hv_⟩ := hge0; exact ⟨_, hv_, by simp [DBlk.blk, DVs.av, DV.av, BR.av, hρ, Row.len, hga0, ab0, ha1, ab1, hga2, ab2, ha3, ab3], ⟨⟨trivial, trivial, ⟨_, rfl, Nat.le_refl _, Nat.le_refl _, fun _ => rfl, (ownR_spec (DVs.okAt hgc0 2 rfl) (ownI64_or hqv248)).2.2.2⟩, trivial⟩, fun hf => by cases hf⟩⟩
              · simp at h1 h2; subst h1; subst h2; obtain ⟨ver_, hv_⟩ := hr1; exact ⟨_, hv_, rfl, hb1⟩
              · simp at h1 h2; subst h1; subst h2; obtain ⟨ver_, hv_⟩ := hge2; exact ⟨_, hv_, by simp [DBlk.blk, DVs.av, DV.av, BR.av, hρ, Row.len, hga0, ab0, ha1, ab1, hga2, ab2, ha3, ab3], ⟨⟨trivial, trivial, ⟨_, rfl, Nat.le_refl _, Nat.le_refl _, fun _ => rfl, (ownR_spec (DVs.okAt hgc2 2 rfl) (ownI64_or hqv251)).2.2.2⟩, trivial⟩, fun hf => by cases hf⟩⟩
              · simp at h1 h2; subst h1; subst h2; obtain ⟨ver_, hv_⟩ := hr3; exact ⟨_, hv_, rfl, hb3⟩
              · simp at h1) rfl rfl (fun i j b b' h1 h2 h3 => by
              rcases i with _ | _ | _ | _ | i
              · simp at h1; subst h1; cases h3; exact growG hge0 rfl h2
              · simp at h1; subst h1; cases h3; exact growK hr1 (of_decide_eq_true hl0) h2
              · simp at h1; subst h1; cases h3; exact growG hge2 rfl h2
              · simp at h1; subst h1; cases h3; exact growK hr3 (of_decide_eq_true hl1) h2
              · simp at h1)
        · cases hr
      · cases hr
    · cases hr
  · cases hr
/-! spec.l06Clear -/
noncomputable def spec_l06Clear_l2_T (v168 : Int) (v169 : Int) (s : Int × Int × Int × (List Int) × Int × Int × (List Int)) : Tree ((Int × Int × Int × (List Int) × Int × Int × (List Int)) ⊕ ((Int × Int × (List Int) × Int × Int × (List Int)) ⊕ (Int × Int × (List Int) × Int × Int × (List Int)))) :=
  (.br (decide (s.1 < s.2.1)) (
   (.call (spec_l06At_g s.2.2.1 s.2.2.2.1 s.1 v169) fun v434 =>
   (.call (spec_l06At_g s.2.2.1 s.2.2.2.1 v168 v169) fun v435 =>
   (.call (spec_l06Down_g v434 v435) fun v436 =>
   (.call (spec_l06Both_g s.2.1 s.2.2.1 s.2.2.2.1 s.2.2.2.2.1 s.2.2.2.2.2.1 s.2.2.2.2.2.2 s.1 v168 v436) fun v437 =>
   (.grd (decide (v437.2.2.2.1.length = s.2.2.2.1.length)) <|
   (.grd (decide (v437.2.2.2.2.2.2.length = s.2.2.2.2.2.2.length)) <|
   (.br (!v437.1) (
    .leaf (.inr (.inl (v437.2.1, v437.2.2.1, v437.2.2.2.1, v437.2.2.2.2.1, v437.2.2.2.2.2.1, v437.2.2.2.2.2.2)))
   ) (
    .leaf (.inl (IntKind.i64.wrap (s.1 + (1 : Int)), v437.2.1, v437.2.2.1, v437.2.2.2.1, v437.2.2.2.2.1, v437.2.2.2.2.2.1, v437.2.2.2.2.2.2))
   ))))))))
  ) (
   .leaf (.inr (.inr (s.2.1, s.2.2.1, s.2.2.2.1, s.2.2.2.2.1, s.2.2.2.2.2.1, s.2.2.2.2.2.2)))
  ))

noncomputable def spec_l06Clear_l2_g (v168 : Int) (v169 : Int) (s0 : Int × Int × Int × (List Int) × Int × Int × (List Int)) : Option ((Int × Int × (List Int) × Int × Int × (List Int)) ⊕ (Int × Int × (List Int) × Int × Int × (List Int))) := whileM (fun s => (spec_l06Clear_l2_T v168 v169 s).run) s0
def spec_l06Clear_l2_E (v162 : Int) (v163 : Int) (v164 : List Int) (v165 : Int) (v166 : Int) (v167 : List Int) (v168 : Int) (v169 : Int) (s : Int × Int × Int × (List Int) × Int × Int × (List Int)) : Sd := ([.ptr 0 (0 : Nat) 0 (3 : Nat), .ptr 2 (0 : Nat) 0 (3 : Nat), .int .i64 v168, .int .i64 v169, .top, .top, .top, .top, .top, .top, .top, .int .i64 s.1, .top, .top, .top, .top, .top, .top, .top, .top, .top, .top, .top, .top, .top, .top, .top, .top, .top, .top, .top, .top, .top, .top, .top, .top, .top, .top, .top, .top, .top, .top, .top, .top, .top, .top, .top, .top, .top, .top, .top, .top, .top, .top, .top, .top], [.gen [.int .i64 s.2.1, .int .i64 s.2.2.1, .own 1 0 ((s.2.2.2.1).length)] false 0, .row (.i64 s.2.2.2.1) 0, .gen [.int .i64 s.2.2.2.2.1, .int .i64 s.2.2.2.2.2.1, .own 3 0 ((s.2.2.2.2.2.2).length)] false 0, .row (.i64 s.2.2.2.2.2.2) 0])
def spec_l06Clear_l2_X (v162 : Int) (v163 : Int) (v164 : List Int) (v165 : Int) (v166 : Int) (v167 : List Int) (v168 : Int) (v169 : Int) (x : (Int × Int × (List Int) × Int × Int × (List Int)) ⊕ (Int × Int × (List Int) × Int × Int × (List Int))) : Out := (match x with | .inl x => (.ret, [.top, .top, .top, .top, .top, .top, .top, .top, .lit false, .top, .top, .top, .top, .top, .top, .top, .top, .top, .top, .top, .top, .top, .top, .top, .top, .top, .top, .top, .top, .top, .top, .top, .top, .top, .top, .top, .top, .top, .top, .top, .top, .top, .top, .top, .top, .top, .top, .top, .top, .top, .top, .top, .top, .top, .top, .top], [.gen [.int .i64 x.1, .int .i64 x.2.1, .own 1 0 ((x.2.2.1).length)] false 0, .row (.i64 x.2.2.1) 0, .gen [.int .i64 x.2.2.2.1, .int .i64 x.2.2.2.2.1, .own 3 0 ((x.2.2.2.2.2).length)] false 0, .row (.i64 x.2.2.2.2.2) 0]) | .inr x => (.normal, [.ptr 0 (0 : Nat) 0 (3 : Nat), .ptr 2 (0 : Nat) 0 (3 : Nat), .int .i64 v168, .int .i64 v169, .top, .top, .top, .top, .top, .top, .top, .top, .top, .top, .top, .top, .top, .top, .top, .top, .top, .top, .top, .top, .top, .top, .top, .top, .top, .top, .top, .top, .top, .top, .top, .top, .top, .top, .top, .top, .top, .top, .top, .top, .top, .top, .top, .top, .top, .top, .top, .top, .top, .top, .top, .top], [.gen [.int .i64 x.1, .int .i64 x.2.1, .own 1 0 ((x.2.2.1).length)] false 0, .row (.i64 x.2.2.1) 0, .gen [.int .i64 x.2.2.2.1, .int .i64 x.2.2.2.2.1, .own 3 0 ((x.2.2.2.2.2).length)] false 0, .row (.i64 x.2.2.2.2.2) 0]))
def spec_l06Clear_l2_kill : List Nat := [0, 0, 0, 0, 1, 1, 1, 1, 1, 1, 1, 0, 1, 1, 1, 1, 1, 1, 1, 1, 1, 1, 1, 1, 1, 1, 1, 1, 1, 1, 1, 1, 1, 1, 1, 1, 1, 1, 1, 1, 1, 1, 1, 1, 1, 1, 1, 1, 1, 1, 1, 1, 1, 1, 1, 1]
def spec_l06Clear_l2_nx : Exit → List Nat
  | .exit 0 => [1, 1, 1, 1, 1, 1, 1, 1, 0, 1, 1, 1, 1, 1, 1, 1, 1, 1, 1, 1, 1, 1, 1, 1, 1, 1, 1, 1, 1, 1, 1, 1, 1, 1, 1, 1, 1, 1, 1, 1, 1, 1, 1, 1, 1, 1, 1, 1, 1, 1, 1, 1, 1, 1, 1, 1]
  | .exit 1 => [0, 0, 0, 0, 1, 1, 1, 1, 1, 1, 1, 1, 1, 1, 1, 1, 1, 1, 1, 1, 1, 1, 1, 1, 1, 1, 1, 1, 1, 1, 1, 1, 1, 1, 1, 1, 1, 1, 1, 1, 1, 1, 1, 1, 1, 1, 1, 1, 1, 1, 1, 1, 1, 1, 1, 1]
  | .exit 2 => [0, 0, 0, 0, 1, 1, 1, 1, 1, 1, 1, 1, 1, 1, 1, 1, 1, 1, 1, 1, 1, 1, 1, 1, 1, 1, 1, 1, 1, 1, 1, 1, 1, 1, 1, 1, 1, 1, 1, 1, 1, 1, 1, 1, 1, 1, 1, 1, 1, 1, 1, 1, 1, 1, 1, 1]
  | .ret => [1, 1, 1, 1, 1, 1, 1, 1, 0, 1, 1, 1, 1, 1, 1, 1, 1, 1, 1, 1, 1, 1, 1, 1, 1, 1, 1, 1, 1, 1, 1, 1, 1, 1, 1, 1, 1, 1, 1, 1, 1, 1, 1, 1, 1, 1, 1, 1, 1, 1, 1, 1, 1, 1, 1, 1]
  | _ => []
noncomputable def spec_l06Clear_l0_T (v162 : Int) (v163 : Int) (v164 : List Int) (v165 : Int) (v166 : Int) (v167 : List Int) (v168 : Int) (v169 : Int) (s : Int × Int × (List Int) × Int × Int × (List Int)) : Tree ((Int × Int × (List Int) × Int × Int × (List Int)) ⊕ ((Int × Int × (List Int) × Int × Int × (List Int)) ⊕ (Int × Int × (List Int) × Int × Int × (List Int)))) :=
  (.call (spec_l06Least_g s.1 s.2.1 s.2.2.1 v168 v169) fun v402 =>
  (.br (decide ((0 : Int) ≤ v402.1)) (
   (.call (spec_l06Swap_g s.1 s.2.1 s.2.2.1 v402.1 v168) fun v403 =>
   (.grd (decide (v403.2.2.length = s.2.2.1.length)) <|
   (.call (spec_l06Swap_g s.2.2.2.1 s.2.2.2.2.1 s.2.2.2.2.2 v402.1 v168) fun v404 =>
   (.grd (decide (v404.2.2.length = s.2.2.2.2.2.length)) <|
   (.br (decide (v402.2 ≤ (1 : Int))) (
    .leaf (.inr (.inl (v403.1, v403.2.1, v403.2.2, v404.1, v404.2.1, v404.2.2)))
   ) (
    (.need (some (spec_l06Clear_l2_E v162 v163 v164 v165 v166 v167 v168 v169 (IntKind.i64.wrap (v168 + (1 : Int)), v403.1, v403.2.1, v403.2.2, v404.1, v404.2.1, v404.2.2)) = some (spec_l06Clear_l2_E v162 v163 v164 v165 v166 v167 v168 v169 (IntKind.i64.wrap (v168 + (1 : Int)), v403.1, v403.2.1, v403.2.2, v404.1, v404.2.1, v404.2.2))) <|
    (.call (spec_l06Clear_l2_g v168 v169 (IntKind.i64.wrap (v168 + (1 : Int)), v403.1, v403.2.1, v403.2.2, v404.1, v404.2.1, v404.2.2)) fun v438 =>
    (.sum v438 (fun v439 =>
     .leaf (.inr (.inr (v439.1, v439.2.1, v439.2.2.1, v439.2.2.2.1, v439.2.2.2.2.1, v439.2.2.2.2.2)))
    ) (fun v440 =>
     .leaf (.inl (v440.1, v440.2.1, v440.2.2.1, v440.2.2.2.1, v440.2.2.2.2.1, v440.2.2.2.2.2))
    ))))
   ))))))
  ) (
   (.br (decide (v402.2 ≤ (1 : Int))) (
    .leaf (.inr (.inl (s.1, s.2.1, s.2.2.1, s.2.2.2.1, s.2.2.2.2.1, s.2.2.2.2.2)))
   ) (
    (.need (some (spec_l06Clear_l2_E v162 v163 v164 v165 v166 v167 v168 v169 (IntKind.i64.wrap (v168 + (1 : Int)), s.1, s.2.1, s.2.2.1, s.2.2.2.1, s.2.2.2.2.1, s.2.2.2.2.2)) = some (spec_l06Clear_l2_E v162 v163 v164 v165 v166 v167 v168 v169 (IntKind.i64.wrap (v168 + (1 : Int)), s.1, s.2.1, s.2.2.1, s.2.2.2.1, s.2.2.2.2.1, s.2.2.2.2.2))) <|
    (.call (spec_l06Clear_l2_g v168 v169 (IntKind.i64.wrap (v168 + (1 : Int)), s.1, s.2.1, s.2.2.1, s.2.2.2.1, s.2.2.2.2.1, s.2.2.2.2.2)) fun v474 =>
    (.sum v474 (fun v475 =>
     .leaf (.inr (.inr (v475.1, v475.2.1, v475.2.2.1, v475.2.2.2.1, v475.2.2.2.2.1, v475.2.2.2.2.2)))
    ) (fun v476 =>
     .leaf (.inl (v476.1, v476.2.1, v476.2.2.1, v476.2.2.2.1, v476.2.2.2.2.1, v476.2.2.2.2.2))
    ))))
   ))
  )))

noncomputable def spec_l06Clear_l0_g (v162 : Int) (v163 : Int) (v164 : List Int) (v165 : Int) (v166 : Int) (v167 : List Int) (v168 : Int) (v169 : Int) (s0 : Int × Int × (List Int) × Int × Int × (List Int)) : Option ((Int × Int × (List Int) × Int × Int × (List Int)) ⊕ (Int × Int × (List Int) × Int × Int × (List Int))) := whileM (fun s => (spec_l06Clear_l0_T v162 v163 v164 v165 v166 v167 v168 v169 s).run) s0
def spec_l06Clear_l0_E (v162 : Int) (v163 : Int) (v164 : List Int) (v165 : Int) (v166 : Int) (v167 : List Int) (v168 : Int) (v169 : Int) (s : Int × Int × (List Int) × Int × Int × (List Int)) : Sd := ([.ptr 0 (0 : Nat) 0 (3 : Nat), .ptr 2 (0 : Nat) 0 (3 : Nat), .int .i64 v168, .int .i64 v169, .top, .top, .top, .top, .top, .top, .top, .top, .top, .top, .top, .top, .top, .top, .top, .top, .top, .top, .top, .top, .top, .top, .top, .top, .top, .top, .top, .top, .top, .top, .top, .top, .top, .top, .top, .top, .top, .top, .top, .top, .top, .top, .top, .top, .top, .top, .top, .top, .top, .top, .top, .top], [.gen [.int .i64 s.1, .int .i64 s.2.1, .own 1 0 ((s.2.2.1).length)] false 0, .row (.i64 s.2.2.1) 0, .gen [.int .i64 s.2.2.2.1, .int .i64 s.2.2.2.2.1, .own 3 0 ((s.2.2.2.2.2).length)] false 0, .row (.i64 s.2.2.2.2.2) 0])
def spec_l06Clear_l0_X (v162 : Int) (v163 : Int) (v164 : List Int) (v165 : Int) (v166 : Int) (v167 : List Int) (v168 : Int) (v169 : Int) (x : (Int × Int × (List Int) × Int × Int × (List Int)) ⊕ (Int × Int × (List Int) × Int × Int × (List Int))) : Out := (match x with | .inl x => (.ret, [.top, .top, .top, .top, .top, .top, .top, .top, .lit true, .top, .top, .top, .top, .top, .top, .top, .top, .top, .top, .top, .top, .top, .top, .top, .top, .top, .top, .top, .top, .top, .top, .top, .top, .top, .top, .top, .top, .top, .top, .top, .top, .top, .top, .top, .top, .top, .top, .top, .top, .top, .top, .top, .top, .top, .top, .top], [.gen [.int .i64 x.1, .int .i64 x.2.1, .own 1 0 ((x.2.2.1).length)] false 0, .row (.i64 x.2.2.1) 0, .gen [.int .i64 x.2.2.2.1, .int .i64 x.2.2.2.2.1, .own 3 0 ((x.2.2.2.2.2).length)] false 0, .row (.i64 x.2.2.2.2.2) 0]) | .inr x => (.ret, [.top, .top, .top, .top, .top, .top, .top, .top, .lit false, .top, .top, .top, .top, .top, .top, .top, .top, .top, .top, .top, .top, .top, .top, .top, .top, .top, .top, .top, .top, .top, .top, .top, .top, .top, .top, .top, .top, .top, .top, .top, .top, .top, .top, .top, .top, .top, .top, .top, .top, .top, .top, .top, .top, .top, .top, .top], [.gen [.int .i64 x.1, .int .i64 x.2.1, .own 1 0 ((x.2.2.1).length)] false 0, .row (.i64 x.2.2.1) 0, .gen [.int .i64 x.2.2.2.1, .int .i64 x.2.2.2.2.1, .own 3 0 ((x.2.2.2.2.2).length)] false 0, .row (.i64 x.2.2.2.2.2) 0]))
def spec_l06Clear_l0_kill : List Nat := [0, 0, 0, 0, 1, 1, 1, 1, 1, 1, 1, 1, 1, 1, 1, 1, 1, 1, 1, 1, 1, 1, 1, 1, 1, 1, 1, 1, 1, 1, 1, 1, 1, 1, 1, 1, 1, 1, 1, 1, 1, 1, 1, 1, 1, 1, 1, 1, 1, 1, 1, 1, 1, 1, 1, 1]
def spec_l06Clear_l0_nx : Exit → List Nat
  | .exit 0 => [1, 1, 1, 1, 1, 1, 1, 1, 0, 1, 1, 1, 1, 1, 1, 1, 1, 1, 1, 1, 1, 1, 1, 1, 1, 1, 1, 1, 1, 1, 1, 1, 1, 1, 1, 1, 1, 1, 1, 1, 1, 1, 1, 1, 1, 1, 1, 1, 1, 1, 1, 1, 1, 1, 1, 1]
  | .ret => [1, 1, 1, 1, 1, 1, 1, 1, 0, 1, 1, 1, 1, 1, 1, 1, 1, 1, 1, 1, 1, 1, 1, 1, 1, 1, 1, 1, 1, 1, 1, 1, 1, 1, 1, 1, 1, 1, 1, 1, 1, 1, 1, 1, 1, 1, 1, 1, 1, 1, 1, 1, 1, 1, 1, 1]
  | _ => []
noncomputable def spec_l06Clear_LO (v162 : Int) (v163 : Int) (v164 : List Int) (v165 : Int) (v166 : Int) (v167 : List Int) (v168 : Int) (v169 : Int) : LOr := fun id e L =>
  match id with
  | 2 => .need (normA 4 spec_l06Clear_l2_kill e L = some (spec_l06Clear_l2_E v162 v163 v164 v165 v166 v167 v168 v169 ((gI (vAt e 11)), (gI (cAt L (vAt e 0) 0)), (gI (cAt L (vAt e 0) 1)), (gRI L (cAt L (vAt e 0) 2)), (gI (cAt L (vAt e 1) 0)), (gI (cAt L (vAt e 1) 1)), (gRI L (cAt L (vAt e 1) 2))))) (.call (spec_l06Clear_l2_g v168 v169 ((gI (vAt e 11)), (gI (cAt L (vAt e 0) 0)), (gI (cAt L (vAt e 0) 1)), (gRI L (cAt L (vAt e 0) 2)), (gI (cAt L (vAt e 1) 0)), (gI (cAt L (vAt e 1) 1)), (gRI L (cAt L (vAt e 1) 2)))) fun x => .sum x (fun b0 => .leaf (spec_l06Clear_l2_X v162 v163 v164 v165 v166 v167 v168 v169 (.inl b0))) (fun c0 => .leaf (spec_l06Clear_l2_X v162 v163 v164 v165 v166 v167 v168 v169 (.inr c0))))
  | 0 => .need (normA 4 spec_l06Clear_l0_kill e L = some (spec_l06Clear_l0_E v162 v163 v164 v165 v166 v167 v168 v169 ((gI (cAt L (vAt e 0) 0)), (gI (cAt L (vAt e 0) 1)), (gRI L (cAt L (vAt e 0) 2)), (gI (cAt L (vAt e 1) 0)), (gI (cAt L (vAt e 1) 1)), (gRI L (cAt L (vAt e 1) 2))))) (.call (spec_l06Clear_l0_g v162 v163 v164 v165 v166 v167 v168 v169 ((gI (cAt L (vAt e 0) 0)), (gI (cAt L (vAt e 0) 1)), (gRI L (cAt L (vAt e 0) 2)), (gI (cAt L (vAt e 1) 0)), (gI (cAt L (vAt e 1) 1)), (gRI L (cAt L (vAt e 1) 2)))) fun x => .sum x (fun b0 => .leaf (spec_l06Clear_l0_X v162 v163 v164 v165 v166 v167 v168 v169 (.inl b0))) (fun c0 => .leaf (spec_l06Clear_l0_X v162 v163 v164 v165 v166 v167 v168 v169 (.inr c0))))
  | _ => .fail
noncomputable def spec_l06Clear_tab : List (FuncId × DFn × Bool) := [(148, spec_l06Least_F, true), (96, spec_l06Swap_F, false), (107, spec_l06At_F, true), (109, spec_l06Down_F, true), (108, spec_l06Both_F, false)]
theorem spec_l06Clear_hO : OrcOk Try.prog (tabD spec_l06Clear_tab) (tabM spec_l06Clear_tab) := tabD_cons spec_l06Least_Fok (tabD_cons spec_l06Swap_Fok (tabD_cons spec_l06At_Fok (tabD_cons spec_l06Down_Fok (tabD_cons spec_l06Both_Fok (tabD_nil _)))))
theorem spec_l06Clear_l2_be (v162 : Int) (v163 : Int) (v164 : List Int) (v165 : Int) (v166 : Int) (v167 : List Int) (v168 : Int) (v169 : Int) (s : Int × Int × Int × (List Int) × Int × Int × (List Int)) : bodyT TT (tabD spec_l06Clear_tab) (tabM spec_l06Clear_tab) (spec_l06Clear_LO v162 v163 v164 v165 v166 v167 v168 v169) 4 spec_l06Clear_l2_kill spec_l06Clear_l2_nx (bodyOf Try.f106 2) 2 (spec_l06Clear_l2_E v162 v163 v164 v165 v166 v167 v168 v169 s) = (spec_l06Clear_l2_T v168 v169 s).bind fun y => .leaf (outS (spec_l06Clear_l2_E v162 v163 v164 v165 v166 v167 v168 v169) (spec_l06Clear_l2_X v162 v163 v164 v165 v166 v167 v168 v169) y) := by kernel_rfl
theorem spec_l06Clear_l2_ok (v162 : Int) (v163 : Int) (v164 : List Int) (v165 : Int) (v166 : Int) (v167 : List Int) (v168 : Int) (v169 : Int) : LSound Try.prog 4 (spec_l06Clear_LO v162 v163 v164 v165 v166 v167 v168 v169) 2 (bodyOf Try.f106 2) := by
  intro e L out h
  exact lo_ok (E := spec_l06Clear_l2_E v162 v163 v164 v165 v166 v167 v168 v169) (gT := spec_l06Clear_l2_T v168 v169) (X := spec_l06Clear_l2_X v162 v163 v164 v165 v166 v167 v168 v169) (s0 := ((gI (vAt e 11)), (gI (cAt L (vAt e 0) 0)), (gI (cAt L (vAt e 0) 1)), (gRI L (cAt L (vAt e 0) 2)), (gI (cAt L (vAt e 1) 0)), (gI (cAt L (vAt e 1) 1)), (gRI L (cAt L (vAt e 1) 2)))) tok spec_l06Clear_hO mixed (LoopsOk_eq (l := []) (by kernel_rfl) trivial) (spec_l06Clear_l2_be v162 v163 v164 v165 v166 v167 v168 v169) rfl (by intro x; (cases x with | inl b => rfl | inr x => exact rfl)) h
theorem spec_l06Clear_l0_be (v162 : Int) (v163 : Int) (v164 : List Int) (v165 : Int) (v166 : Int) (v167 : List Int) (v168 : Int) (v169 : Int) (s : Int × Int × (List Int) × Int × Int × (List Int)) : bodyT TT (tabD spec_l06Clear_tab) (tabM spec_l06Clear_tab) (spec_l06Clear_LO v162 v163 v164 v165 v166 v167 v168 v169) 4 spec_l06Clear_l0_kill spec_l06Clear_l0_nx (bodyOf Try.f106 0) 0 (spec_l06Clear_l0_E v162 v163 v164 v165 v166 v167 v168 v169 s) = (spec_l06Clear_l0_T v162 v163 v164 v165 v166 v167 v168 v169 s).bind fun y => .leaf (outS (spec_l06Clear_l0_E v162 v163 v164 v165 v166 v167 v168 v169) (spec_l06Clear_l0_X v162 v163 v164 v165 v166 v167 v168 v169) y) := by kernel_rfl
theorem spec_l06Clear_l0_ok (v162 : Int) (v163 : Int) (v164 : List Int) (v165 : Int) (v166 : Int) (v167 : List Int) (v168 : Int) (v169 : Int) : LSound Try.prog 4 (spec_l06Clear_LO v162 v163 v164 v165 v166 v167 v168 v169) 0 (bodyOf Try.f106 0) := by
  intro e L out h
  exact lo_ok (E := spec_l06Clear_l0_E v162 v163 v164 v165 v166 v167 v168 v169) (gT := spec_l06Clear_l0_T v162 v163 v164 v165 v166 v167 v168 v169) (X := spec_l06Clear_l0_X v162 v163 v164 v165 v166 v167 v168 v169) (s0 := ((gI (cAt L (vAt e 0) 0)), (gI (cAt L (vAt e 0) 1)), (gRI L (cAt L (vAt e 0) 2)), (gI (cAt L (vAt e 1) 0)), (gI (cAt L (vAt e 1) 1)), (gRI L (cAt L (vAt e 1) 2)))) tok spec_l06Clear_hO mixed (LoopsOk_eq (l := [(2, bodyOf Try.f106 2)]) (by kernel_rfl) ⟨spec_l06Clear_l2_ok v162 v163 v164 v165 v166 v167 v168 v169, trivial⟩) (spec_l06Clear_l0_be v162 v163 v164 v165 v166 v167 v168 v169) rfl (by intro x; (cases x with | inl b => rfl | inr x => exact rfl)) h
noncomputable def spec_l06Clear_T (v162 : Int) (v163 : Int) (v164 : List Int) (v165 : Int) (v166 : Int) (v167 : List Int) (v168 : Int) (v169 : Int) : Tree (Bool × Int × Int × (List Int) × Int × Int × (List Int)) :=
  (.need (some (spec_l06Clear_l0_E v162 v163 v164 v165 v166 v167 v168 v169 (v162, v163, v164, v165, v166, v167)) = some (spec_l06Clear_l0_E v162 v163 v164 v165 v166 v167 v168 v169 (v162, v163, v164, v165, v166, v167))) <|
  (.call (spec_l06Clear_l0_g v162 v163 v164 v165 v166 v167 v168 v169 (v162, v163, v164, v165, v166, v167)) fun v477 =>
  (.sum v477 (fun v478 =>
   .leaf (true, v478.1, v478.2.1, v478.2.2.1, v478.2.2.2.1, v478.2.2.2.2.1, v478.2.2.2.2.2)
  ) (fun v479 =>
   .leaf (false, v479.1, v479.2.1, v479.2.2.1, v479.2.2.2.1, v479.2.2.2.2.1, v479.2.2.2.2.2)
  ))))

noncomputable def spec_l06Clear_g (v162 : Int) (v163 : Int) (v164 : List Int) (v165 : Int) (v166 : Int) (v167 : List Int) (v168 : Int) (v169 : Int) : Option (Bool × Int × Int × (List Int) × Int × Int × (List Int)) := (spec_l06Clear_T v162 v163 v164 v165 v166 v167 v168 v169).run
def spec_l06Clear_enc (v162 : Int) (v163 : Int) (v164 : List Int) (v165 : Int) (v166 : Int) (v167 : List Int) (v168 : Int) (v169 : Int) (y : Bool × Int × Int × (List Int) × Int × Int × (List Int)) : Rs := (.bool y.1, [.gen [.int .i64 y.2.1, .int .i64 y.2.2.1, .own 1 0 ((y.2.2.2.1).length)] false 0, .row (.i64 y.2.2.2.1) 0, .gen [.int .i64 y.2.2.2.2.1, .int .i64 y.2.2.2.2.2.1, .own 3 0 ((y.2.2.2.2.2.2).length)] false 0, .row (.i64 y.2.2.2.2.2.2) 0])
theorem spec_l06Clear_den (v162 : Int) (v163 : Int) (v164 : List Int) (v165 : Int) (v166 : Int) (v167 : List Int) (v168 : Int) (v169 : Int) : (den TT (tabD spec_l06Clear_tab) (tabM spec_l06Clear_tab) (spec_l06Clear_LO v162 v163 v164 v165 v166 v167 v168 v169) (codeOf Try.f106) ([.ptr 0 (0 : Nat) 0 (3 : Nat), .ptr 2 (0 : Nat) 0 (3 : Nat), .int .i64 v168, .int .i64 v169] ++ List.replicate (Try.f106.ntmps - ([.ptr 0 (0 : Nat) 0 (3 : Nat), .ptr 2 (0 : Nat) 0 (3 : Nat), .int .i64 v168, .int .i64 v169] : List DV).length) .undef) [.gen [.int .i64 v162, .int .i64 v163, .own 1 0 v164.length] false 0, .row (.i64 v164) 0, .gen [.int .i64 v165, .int .i64 v166, .own 3 0 v167.length] false 0, .row (.i64 v167) 0]).bind (retD TT Try.f106.results.toList 4) = (spec_l06Clear_T v162 v163 v164 v165 v166 v167 v168 v169).bind fun y => .leaf (spec_l06Clear_enc v162 v163 v164 v165 v166 v167 v168 v169 y) := by kernel_rfl
theorem spec_l06Clear_fn (v162 : Int) (v163 : Int) (v164 : List Int) (v165 : Int) (v166 : Int) (v167 : List Int) (v168 : Int) (v169 : Int) (F : Fr) (hm : F.ids.length = 4) (h0 : St F [.gen [.int .i64 v162, .int .i64 v163, .own 1 0 v164.length] false 0, .row (.i64 v164) 0, .gen [.int .i64 v165, .int .i64 v166, .own 3 0 v167.length] false 0, .row (.i64 v167) 0] F.H0) (hA : DVs.Ok F [.gen [.int .i64 v162, .int .i64 v163, .own 1 0 v164.length] false 0, .row (.i64 v164) 0, .gen [.int .i64 v165, .int .i64 v166, .own 3 0 v167.length] false 0, .row (.i64 v167) 0] [.ptr 0 (0 : Nat) 0 (3 : Nat), .ptr 2 (0 : Nat) 0 (3 : Nat), .int .i64 v168, .int .i64 v169]) {y : Bool × Int × Int × (List Int) × Int × Int × (List Int)} (hy : spec_l06Clear_g v162 v163 v164 v165 v166 v167 v168 v169 = some y) : ∃ H', FnOk Try.prog 106 (DVs.av F [.ptr 0 (0 : Nat) 0 (3 : Nat), .ptr 2 (0 : Nat) 0 (3 : Nat), .int .i64 v168, .int .i64 v169]) F.H0 ((spec_l06Clear_enc v162 v163 v164 v165 v166 v167 v168 v169 y).1.av F) H' ∧ St F (spec_l06Clear_enc v162 v163 v164 v165 v166 v167 v168 v169 y).2 H' ∧ (spec_l06Clear_enc v162 v163 v164 v165 v166 v167 v168 v169 y).1.Ok F (spec_l06Clear_enc v162 v163 v164 v165 v166 v167 v168 v169 y).2 :=
  fn_fin tok spec_l06Clear_hO mixed Try.func106 Try.call106 (by kernel_rfl) (LoopsOk_eq (l := [(0, bodyOf Try.f106 0)]) (by kernel_rfl) ⟨spec_l06Clear_l0_ok v162 v163 v164 v165 v166 v167 v168 v169, trivial⟩) (spec_l06Clear_den v162 v163 v164 v165 v166 v167 v168 v169) hy hm h0 hA
noncomputable def spec_l06Clear_F : DFn := fun args L =>
  match args with
  | [a1, a3, .int .i64 v168, .int .i64 v169] =>
    optT (genOf L 3 false a1) fun qg0 =>
    (match qg0.2 with
    | [.int .i64 v162, .int .i64 v163, a2] =>
    optT (ownI64 L a2) fun qv164 =>
    optT (genOf L 3 false a3) fun qg2 =>
    (match qg2.2 with
    | [.int .i64 v165, .int .i64 v166, a4] =>
    optT (ownI64 L a4) fun qv167 =>
    (match sepB [qg0.1, qv164.1, qg2.1, qv167.1] [] with
    | true =>
    .call (spec_l06Clear_g v162 v163 qv164.2 v165 v166 qv167.2 v168 v169) fun y => .grd (decide (y.2.2.2.1.length = qv164.2.length)) (.grd (decide (y.2.2.2.2.2.2.length = qv167.2.length)) (.leaf (.bool y.1, setB L [(qg0.1, .gen [.int .i64 y.2.1, .int .i64 y.2.2.1, .own qv164.1 (verAt L qv164.1) ((y.2.2.2.1).length)] false (verAt L qg0.1)), (qv164.1, .row (.i64 y.2.2.2.1) (verAt L qv164.1)), (qg2.1, .gen [.int .i64 y.2.2.2.2.1, .int .i64 y.2.2.2.2.2.1, .own qv167.1 (verAt L qv167.1) ((y.2.2.2.2.2.2).length)] false (verAt L qg2.1)), (qv167.1, .row (.i64 y.2.2.2.2.2.2) (verAt L qv167.1))] ++ [])))
    | false => .fail)
    | _ => .fail)
    | _ => .fail)
  | _ => .fail
theorem spec_l06Clear_Fok : COk Try.prog 106 spec_l06Clear_F false := by
  intro F L H args r L' hs ha hr
  unfold spec_l06Clear_F at hr
  split at hr
  · rename_i a1 a3 v168 v169
    obtain ⟨⟨jg0, cg0⟩, hg0, hr⟩ := optT_run hr
    simp only at hr
    split at hr
    · rename_i v162 v163 a2
      obtain ⟨hge0, hgu0, hga0, hgn0, hgc0, hgf0⟩ := genOf_spec hs (DVs.okAt ha 0 rfl) hg0
      obtain ⟨⟨jv164, v164⟩, hqv164, hr⟩ := optT_run hr
      simp only at hr
      obtain ⟨⟨jg2, cg2⟩, hg2, hr⟩ := optT_run hr
      simp only at hr
      split at hr
      · rename_i v165 v166 a4
        obtain ⟨hge2, hgu2, hga2, hgn2, hgc2, hgf2⟩ := genOf_spec hs (DVs.okAt ha 1 rfl) hg2
        obtain ⟨⟨jv167, v167⟩, hqv167, hr⟩ := optT_run hr
        simp only at hr
        split at hr
        · rename_i hsep
          obtain ⟨hnd, hsepv⟩ := sepB_spec hsep
          simp only [Tree.run] at hr
          obtain ⟨y, hy, hr⟩ := Option.bind_eq_some_iff.1 hr
          try simp only [Tree.run] at hr
          obtain ⟨hl0, hr⟩ := ite_run hr
          obtain ⟨hl1, hr⟩ := ite_run hr
          simp only [Option.some.injEq, Prod.mk.injEq] at hr
          obtain ⟨rfl, rfl⟩ := hr
          obtain ⟨hr1, hu1, ha1, hb1⟩ := (ownR_spec (DVs.okAt hgc0 2 rfl) (ownI64_or hqv164))
          obtain ⟨hr3, hu3, ha3, hb3⟩ := (ownR_spec (DVs.okAt hgc2 2 rfl) (ownI64_or hqv167))
          exact mutG_ok hs [a1, a2, a3, a4] ⟨(DVs.okAt ha 0 rfl), (DVs.okAt hgc0 2 rfl), (DVs.okAt ha 1 rfl), (DVs.okAt hgc2 2 rfl), trivial⟩ [a1, a3, .int .i64 v168, .int .i64 v169] [.ptr 0 (0 : Nat) 0 (3 : Nat), .ptr 2 (0 : Nat) 0 (3 : Nat), .int .i64 v168, .int .i64 v169] [jg0, jv164, jg2, jv167] [verAt L jg0, verAt L jv164, verAt L jg2, verAt L jv167] [.gen [.int .i64 v162, .int .i64 v163, .own 1 0 v164.length] false 0, .row (.i64 v164) 0, .gen [.int .i64 v165, .int .i64 v166, .own 3 0 v167.length] false 0, .row (.i64 v167) 0] [.gen [.int .i64 y.2.1, .int .i64 y.2.2.1, .own 1 0 ((y.2.2.2.1).length)] false 0, .row (.i64 y.2.2.2.1) 0, .gen [.int .i64 y.2.2.2.2.1, .int .i64 y.2.2.2.2.2.1, .own 3 0 ((y.2.2.2.2.2.2).length)] false 0, .row (.i64 y.2.2.2.2.2.2) 0] [.gen [.int .i64 y.2.1, .int .i64 y.2.2.1, .own jv164 (verAt L jv164) ((y.2.2.2.1).length)] false (verAt L jg0), .row (.i64 y.2.2.2.1) (verAt L jv164), .gen [.int .i64 y.2.2.2.2.1, .int .i64 y.2.2.2.2.2.1, .own jv167 (verAt L jv167) ((y.2.2.2.2.2.2).length)] false (verAt L jg2), .row (.i64 y.2.2.2.2.2.2) (verAt L jv167)] [] hnd rfl rfl (fun j hj => by
              simp at hj
              rcases hj with rfl | rfl | rfl | rfl
              · exact ex_lt hge0
              · exact ex_lt hr1
              · exact ex_lt hge2
              · exact ex_lt hr3) (fun j hj => by
              simp at hj
              rcases hj with rfl | rfl | rfl | rfl
              · exact reach_refs (by simp [DVs.refs, DV.refs, hgu0])
              · exact reach_1 (deep_mem (by simp [DVs.refs, DV.refs, hgu0]) hge0 (by simp [DVs.refs, DV.refs, hu1]))
              · exact reach_refs (by simp [DVs.refs, DV.refs, hgu2])
              · exact reach_1 (deep_mem (by simp [DVs.refs, DV.refs, hgu2]) hge2 (by simp [DVs.refs, DV.refs, hu3]))) (fun F' h0 hi hρ ab hS => by
              have ab0 := ab 0 _ rfl; have ab1 := ab 1 _ rfl; have ab2 := ab 2 _ rfl; have ab3 := ab 3 _ rfl;
              refine ⟨fun i j b' h1 h2 => ?_, by simp [DBlk.blk, DVs.av, DV.av, BR.av, hρ, Row.len, hga0, ab0, ha1, ab1, hga2, ab2, ha3, ab3], fun hst => spec_l06Clear_fn v162 v163 v164 v165 v166 v167 v168 v169 F' (by rw [hi]; rfl) hst ⟨⟨_, rfl, Nat.le_refl _, by decide, Nat.le_refl _, fun _ => rfl⟩, ⟨_, rfl, Nat.le_refl _, by decide, Nat.le_refl _, fun _ => rfl⟩, trivial, trivial, trivial⟩ hy⟩
              rcases i with _ | _ | _ | _ | i
              · simp at h1 h2; subst h1; subst h2; obtain ⟨ver_, hv_⟩ := hge0; exact ⟨_, hv_, by simp [DBlk.blk, DVs.av, DV.av, BR.av, hρ, Row.len, hga0, ab0, ha1, ab1, hga2, ab2, ha3, ab3], ⟨⟨trivial, trivial, ⟨_, rfl, Nat.le_refl _, Nat.le_refl _, fun _ => rfl, (ownR_spec (DVs.okAt hgc0 2 rfl) (ownI64_or hqv164)).2.2.2⟩, trivial⟩, fun hf => by cases hf⟩⟩
              · simp at h1 h2; subst h1; subst h2; obtain ⟨ver_, hv_⟩ := hr1; exact ⟨_, hv_, rfl, hb1⟩
              · simp at h1 h2; subst h1; subst h2; obtain ⟨ver_, hv_⟩ := hge2; exact ⟨_, hv_, by simp [DBlk.blk, DVs.av, DV.av, BR.av, hρ, Row.len, hga0, ab0, ha1, ab1, hga2, ab2, ha3, ab3], ⟨⟨trivial, trivial, ⟨_, rfl, Nat.le_refl _, Nat.le_refl _, fun _ => rfl, (ownR_spec (DVs.okAt hgc2 2 rfl) (ownI64_or hqv167)).2.2.2⟩, trivial⟩, fun hf => by cases hf⟩⟩
              · simp at h1 h2; subst h1; subst h2; obtain ⟨ver_, hv_⟩ := hr3; exact ⟨_, hv_, rfl, hb3⟩
              · simp at h1) rfl rfl (fun i j b b' h1 h2 h3 => by
              rcases i with _ | _ | _ | _ | i
              · simp at h1; subst h1; cases h3; exact growG hge0 rfl h2
              · simp at h1; subst h1; cases h3; exact growK hr1 (of_decide_eq_true hl0) h2
              · simp at h1; subst h1; cases h3; exact growG hge2 rfl h2
              · simp at h1; subst h1; cases h3; exact growK hr3 (of_decide_eq_true hl1) h2
              · simp at h1)
        · cases hr
      · cases hr
    · cases hr
  · cases hr
/-! spec.EchelonOf -/
noncomputable def spec_EchelonOf_l2_T (v705 : Int) (v706 : Int) (s : Int × Int × Int × Int × Int × (List Int) × (List Int)) : Tree ((Int × Int × Int × Int × Int × (List Int) × (List Int)) ⊕ ((Unit) ⊕ (Int × Int × Int × Int × (List Int) × (List Int)))) :=
  (.br (decide (s.1 < v705)) (
   (.call (spec_l06At_g s.2.2.1 s.2.2.2.2.2.1 s.1 v706) fun v714 =>
   (.call (spec_l06At_g s.2.2.1 s.2.2.2.2.2.1 v705 v706) fun v715 =>
   (.call (spec_l06Down_g v714 v715) fun v716 =>
   (.call (spec_l06Both_g s.2.1 s.2.2.1 s.2.2.2.2.2.1 s.2.2.2.1 s.2.2.2.2.1 s.2.2.2.2.2.2 s.1 v705 v716) fun v717 =>
   (.grd (decide (v717.2.2.2.1.length = s.2.2.2.2.2.1.length)) <|
   (.grd (decide (v717.2.2.2.2.2.2.length = s.2.2.2.2.2.2.length)) <|
   (.br (!v717.1) (
    .leaf (.inr (.inl ()))
   ) (
    .leaf (.inl (IntKind.i64.wrap (s.1 + (1 : Int)), v717.2.1, v717.2.2.1, v717.2.2.2.2.1, v717.2.2.2.2.2.1, v717.2.2.2.1, v717.2.2.2.2.2.2))
   ))))))))
  ) (
   .leaf (.inr (.inr (s.2.1, s.2.2.1, s.2.2.2.1, s.2.2.2.2.1, s.2.2.2.2.2.1, s.2.2.2.2.2.2)))
  ))

noncomputable def spec_EchelonOf_l2_g (v705 : Int) (v706 : Int) (s0 : Int × Int × Int × Int × Int × (List Int) × (List Int)) : Option ((Unit) ⊕ (Int × Int × Int × Int × (List Int) × (List Int))) := whileM (fun s => (spec_EchelonOf_l2_T v705 v706 s).run) s0
def spec_EchelonOf_l2_E (v22 : Int) (v23 : Int) (v24 : List Int) (v705 : Int) (v706 : Int) (s : Int × Int × Int × Int × Int × (List Int) × (List Int)) : Sd := ([.top, .ptr 0 (0 : Nat) 0 (3 : Nat), .ptr 1 (0 : Nat) 0 (3 : Nat), .ptr 2 (0 : Nat) 0 (3 : Nat), .top, .ptr 3 (0 : Nat) 0 (3 : Nat), .ptr 4 (0 : Nat) 0 (3 : Nat), .int .i64 v705, .int .i64 v706, .int .i64 s.1, .top, .top, .top, .top, .top, .top, .top, .top, .top, .top, .top, .top, .top, .top, .top, .top, .top, .top, .top, .top, .top, .top, .top, .top, .top, .top, .top, .top, .top, .top, .top, .top, .top, .top, .top, .top, .top, .top, .top, .top, .top, .top, .top, .top, .top, .top, .top, .top, .top, .top, .top, .top, .top, .top, .top, .top, .top, .top, .top, .top, .top, .top], [.gen [.int .i64 v22, .int .i64 v23, .bslc (BR.root 0) (.i64 v24)] false 0, .gen [.int .i64 (0 : Int), .int .i64 (0 : Int), .nilslc] false 0, .gen [.int .i64 (0 : Int), .int .i64 (0 : Int), .nilslc] false 0, .gen [.int .i64 s.2.1, .int .i64 s.2.2.1, .own 5 0 ((s.2.2.2.2.2.1).length)] false 0, .gen [.int .i64 s.2.2.2.1, .int .i64 s.2.2.2.2.1, .own 6 0 ((s.2.2.2.2.2.2).length)] false 0, .row (.i64 s.2.2.2.2.2.1) 0, .row (.i64 s.2.2.2.2.2.2) 0])
def spec_EchelonOf_l2_X (v22 : Int) (v23 : Int) (v24 : List Int) (v705 : Int) (v706 : Int) (x : (Unit) ⊕ (Int × Int × Int × Int × (List Int) × (List Int))) : Out := (match x with | .inl x => (.ret, [.top, .top, .ptr 0 (0 : Nat) 0 (3 : Nat), .ptr 1 (0 : Nat) 0 (3 : Nat), .lit false, .top, .top, .top, .top, .top, .top, .top, .top, .top, .top, .top, .top, .top, .top, .top, .top, .top, .top, .top, .top, .top, .top, .top, .top, .top, .top, .top, .top, .top, .top, .top, .top, .top, .top, .top, .top, .top, .top, .top, .top, .top, .top, .top, .top, .top, .top, .top, .top, .top, .top, .top, .top, .top, .top, .top, .top, .top, .top, .top, .top, .top, .top, .top, .top, .top, .top, .top], [.gen [.int .i64 (0 : Int), .int .i64 (0 : Int), .nilslc] false 0, .gen [.int .i64 (0 : Int), .int .i64 (0 : Int), .nilslc] false 0]) | .inr x => (.normal, [.top, .ptr 0 (0 : Nat) 0 (3 : Nat), .ptr 1 (0 : Nat) 0 (3 : Nat), .ptr 2 (0 : Nat) 0 (3 : Nat), .top, .ptr 3 (0 : Nat) 0 (3 : Nat), .ptr 4 (0 : Nat) 0 (3 : Nat), .int .i64 v705, .int .i64 v706, .top, .top, .top, .top, .top, .top, .top, .top, .top, .top, .top, .top, .top, .top, .top, .top, .top, .top, .top, .top, .top, .top, .top, .top, .top, .top, .top, .top, .top, .top, .top, .top, .top, .top, .top, .top, .top, .top, .top, .top, .top, .top, .top, .top, .top, .top, .top, .top, .top, .top, .top, .top, .top, .top, .top, .top, .top, .top, .top, .top, .top, .top, .top], [.gen [.int .i64 v22, .int .i64 v23, .bslc (BR.root 0) (.i64 v24)] false 0, .gen [.int .i64 (0 : Int), .int .i64 (0 : Int), .nilslc] false 0, .gen [.int .i64 (0 : Int), .int .i64 (0 : Int), .nilslc] false 0, .gen [.int .i64 x.1, .int .i64 x.2.1, .own 5 0 ((x.2.2.2.2.1).length)] false 0, .gen [.int .i64 x.2.2.1, .int .i64 x.2.2.2.1, .own 6 0 ((x.2.2.2.2.2).length)] false 0, .row (.i64 x.2.2.2.2.1) 0, .row (.i64 x.2.2.2.2.2) 0]))
def spec_EchelonOf_l2_kill : List Nat := [1, 0, 0, 0, 1, 0, 0, 0, 0, 0, 1, 1, 1, 1, 1, 1, 1, 1, 1, 1, 1, 1, 1, 1, 1, 1, 1, 1, 1, 1, 1, 1, 1, 1, 1, 1, 1, 1, 1, 1, 1, 1, 1, 1, 1, 1, 1, 1, 1, 1, 1, 1, 1, 1, 1, 1, 1, 1, 1, 1, 1, 1, 1, 1, 1, 1, 1, 1, 1, 1, 1, 1]
def spec_EchelonOf_l2_nx : Exit → List Nat
  | .exit 0 => [1, 1, 0, 0, 1, 0, 0, 1, 1, 1, 1, 1, 1, 1, 1, 1, 1, 1, 1, 1, 1, 1, 1, 1, 1, 1, 1, 1, 1, 1, 1, 1, 1, 1, 1, 1, 1, 1, 1, 1, 1, 1, 1, 1, 1, 1, 1, 1, 1, 1, 1, 1, 1, 1, 1, 1, 1, 1, 1, 1, 1, 1, 1, 1, 1, 1, 1, 1, 1, 1, 1, 1]
  | .exit 1 => [1, 0, 0, 0, 1, 0, 0, 0, 0, 1, 1, 1, 1, 1, 1, 1, 1, 1, 1, 1, 1, 1, 1, 1, 1, 1, 1, 1, 1, 1, 1, 1, 1, 1, 1, 1, 1, 1, 1, 1, 1, 1, 1, 1, 1, 1, 1, 1, 1, 1, 1, 1, 1, 1, 1, 1, 1, 1, 1, 1, 1, 1, 1, 1, 1, 1, 1, 1, 1, 1, 1, 1]
  | .exit 2 => [1, 0, 0, 0, 1, 0, 0, 0, 0, 1, 1, 1, 1, 1, 1, 1, 1, 1, 1, 1, 1, 1, 1, 1, 1, 1, 1, 1, 1, 1, 1, 1, 1, 1, 1, 1, 1, 1, 1, 1, 1, 1, 1, 1, 1, 1, 1, 1, 1, 1, 1, 1, 1, 1, 1, 1, 1, 1, 1, 1, 1, 1, 1, 1, 1, 1, 1, 1, 1, 1, 1, 1]
  | .ret => [1, 1, 0, 0, 0, 1, 1, 1, 1, 1, 1, 1, 1, 1, 1, 1, 1, 1, 1, 1, 1, 1, 1, 1, 1, 1, 1, 1, 1, 1, 1, 1, 1, 1, 1, 1, 1, 1, 1, 1, 1, 1, 1, 1, 1, 1, 1, 1, 1, 1, 1, 1, 1, 1, 1, 1, 1, 1, 1, 1, 1, 1, 1, 1, 1, 1, 1, 1, 1, 1, 1, 1]
  | _ => []
noncomputable def spec_EchelonOf_l0_T (v22 : Int) (v23 : Int) (v24 : List Int) (s : Int × Int × Int × Int × Int × Int × (List Int) × (List Int)) : Tree ((Int × Int × Int × Int × Int × Int × (List Int) × (List Int)) ⊕ ((Unit) ⊕ (Int × Int × Int × Int × (List Int) × (List Int)))) :=
  (.br (decide (s.2.1 < v23)) (
   (.br (decide (s.1 < v22)) (
    (.call (spec_l06Clear_g s.2.2.1 s.2.2.2.1 s.2.2.2.2.2.2.1 s.2.2.2.2.1 s.2.2.2.2.2.1 s.2.2.2.2.2.2.2 s.1 s.2.1) fun v674 =>
    (.grd (decide (v674.2.2.2.1.length = s.2.2.2.2.2.2.1.length)) <|
    (.grd (decide (v674.2.2.2.2.2.2.length = s.2.2.2.2.2.2.2.length)) <|
    (.br (!v674.1) (
     .leaf (.inr (.inl ()))
    ) (
     (.call (spec_l06At_g v674.2.2.1 v674.2.2.2.1 s.1 s.2.1) fun v675 =>
     (.br (decide (v675 = (0 : Int))) (
      .leaf (.inl (s.1, IntKind.i64.wrap (s.2.1 + (1 : Int)), v674.2.1, v674.2.2.1, v674.2.2.2.2.1, v674.2.2.2.2.2.1, v674.2.2.2.1, v674.2.2.2.2.2.2))
     ) (
      (.call (spec_l06At_g v674.2.2.1 v674.2.2.2.1 s.1 s.2.1) fun v676 =>
      (.br (decide (v676 < (0 : Int))) (
       (.call (spec_l06Take_g v674.2.1 v674.2.2.1 v674.2.2.2.1 s.1 s.1 (2 : Int)) fun v677 =>
       (.grd (decide (v677.2.2.length = v674.2.2.2.1.length)) <|
       (.call (spec_l06Take_g v674.2.2.2.2.1 v674.2.2.2.2.2.1 v674.2.2.2.2.2.2 s.1 s.1 (2 : Int)) fun v678 =>
       (.grd (decide (v678.2.2.length = v674.2.2.2.2.2.2.length)) <|
       (.need (some (spec_EchelonOf_l2_E v22 v23 v24 s.1 s.2.1 ((0 : Int), v677.1, v677.2.1, v678.1, v678.2.1, v677.2.2, v678.2.2)) = some (spec_EchelonOf_l2_E v22 v23 v24 s.1 s.2.1 ((0 : Int), v677.1, v677.2.1, v678.1, v678.2.1, v677.2.2, v678.2.2))) <|
       (.call (spec_EchelonOf_l2_g s.1 s.2.1 ((0 : Int), v677.1, v677.2.1, v678.1, v678.2.1, v677.2.2, v678.2.2)) fun v718 =>
       (.sum v718 (fun v719 =>
        .leaf (.inr (.inl ()))
       ) (fun v720 =>
        .leaf (.inl (IntKind.i64.wrap (s.1 + (1 : Int)), IntKind.i64.wrap (s.2.1 + (1 : Int)), v720.1, v720.2.1, v720.2.2.1, v720.2.2.2.1, v720.2.2.2.2.1, v720.2.2.2.2.2))
       ))))))))
      ) (
       (.need (some (spec_EchelonOf_l2_E v22 v23 v24 s.1 s.2.1 ((0 : Int), v674.2.1, v674.2.2.1, v674.2.2.2.2.1, v674.2.2.2.2.2.1, v674.2.2.2.1, v674.2.2.2.2.2.2)) = some (spec_EchelonOf_l2_E v22 v23 v24 s.1 s.2.1 ((0 : Int), v674.2.1, v674.2.2.1, v674.2.2.2.2.1, v674.2.2.2.2.2.1, v674.2.2.2.1, v674.2.2.2.2.2.2))) <|
       (.call (spec_EchelonOf_l2_g s.1 s.2.1 ((0 : Int), v674.2.1, v674.2.2.1, v674.2.2.2.2.1, v674.2.2.2.2.2.1, v674.2.2.2.1, v674.2.2.2.2.2.2)) fun v760 =>
       (.sum v760 (fun v761 =>
        .leaf (.inr (.inl ()))
       ) (fun v762 =>
        .leaf (.inl (IntKind.i64.wrap (s.1 + (1 : Int)), IntKind.i64.wrap (s.2.1 + (1 : Int)), v762.1, v762.2.1, v762.2.2.1, v762.2.2.2.1, v762.2.2.2.2.1, v762.2.2.2.2.2))
       ))))
      )))
     )))
    )))))
   ) (
    .leaf (.inr (.inr (s.2.2.1, s.2.2.2.1, s.2.2.2.2.1, s.2.2.2.2.2.1, s.2.2.2.2.2.2.1, s.2.2.2.2.2.2.2)))
   ))
  ) (
   .leaf (.inr (.inr (s.2.2.1, s.2.2.2.1, s.2.2.2.2.1, s.2.2.2.2.2.1, s.2.2.2.2.2.2.1, s.2.2.2.2.2.2.2)))
  ))

noncomputable def spec_EchelonOf_l0_g (v22 : Int) (v23 : Int) (v24 : List Int) (s0 : Int × Int × Int × Int × Int × Int × (List Int) × (List Int)) : Option ((Unit) ⊕ (Int × Int × Int × Int × (List Int) × (List Int))) := whileM (fun s => (spec_EchelonOf_l0_T v22 v23 v24 s).run) s0
def spec_EchelonOf_l0_E (v22 : Int) (v23 : Int) (v24 : List Int) (s : Int × Int × Int × Int × Int × Int × (List Int) × (List Int)) : Sd := ([.top, .ptr 0 (0 : Nat) 0 (3 : Nat), .ptr 1 (0 : Nat) 0 (3 : Nat), .ptr 2 (0 : Nat) 0 (3 : Nat), .top, .ptr 3 (0 : Nat) 0 (3 : Nat), .ptr 4 (0 : Nat) 0 (3 : Nat), .int .i64 s.1, .int .i64 s.2.1, .top, .top, .top, .top, .top, .top, .top, .top, .top, .top, .top, .top, .top, .top, .top, .top, .top, .top, .top, .top, .top, .top, .top, .top, .top, .top, .top, .top, .top, .top, .top, .top, .top, .top, .top, .top, .top, .top, .top, .top, .top, .top, .top, .top, .top, .top, .top, .top, .top, .top, .top, .top, .top, .top, .top, .top, .top, .top, .top, .top, .top, .top, .top], [.gen [.int .i64 v22, .int .i64 v23, .bslc (BR.root 0) (.i64 v24)] false 0, .gen [.int .i64 (0 : Int), .int .i64 (0 : Int), .nilslc] false 0, .gen [.int .i64 (0 : Int), .int .i64 (0 : Int), .nilslc] false 0, .gen [.int .i64 s.2.2.1, .int .i64 s.2.2.2.1, .own 5 0 ((s.2.2.2.2.2.2.1).length)] false 0, .gen [.int .i64 s.2.2.2.2.1, .int .i64 s.2.2.2.2.2.1, .own 6 0 ((s.2.2.2.2.2.2.2).length)] false 0, .row (.i64 s.2.2.2.2.2.2.1) 0, .row (.i64 s.2.2.2.2.2.2.2) 0])
def spec_EchelonOf_l0_X (v22 : Int) (v23 : Int) (v24 : List Int) (x : (Unit) ⊕ (Int × Int × Int × Int × (List Int) × (List Int))) : Out := (match x with | .inl x => (.ret, [.top, .top, .ptr 0 (0 : Nat) 0 (3 : Nat), .ptr 1 (0 : Nat) 0 (3 : Nat), .lit false, .top, .top, .top, .top, .top, .top, .top, .top, .top, .top, .top, .top, .top, .top, .top, .top, .top, .top, .top, .top, .top, .top, .top, .top, .top, .top, .top, .top, .top, .top, .top, .top, .top, .top, .top, .top, .top, .top, .top, .top, .top, .top, .top, .top, .top, .top, .top, .top, .top, .top, .top, .top, .top, .top, .top, .top, .top, .top, .top, .top, .top, .top, .top, .top, .top, .top, .top], [.gen [.int .i64 (0 : Int), .int .i64 (0 : Int), .nilslc] false 0, .gen [.int .i64 (0 : Int), .int .i64 (0 : Int), .nilslc] false 0]) | .inr x => (.normal, [.top, .top, .ptr 0 (0 : Nat) 0 (3 : Nat), .ptr 1 (0 : Nat) 0 (3 : Nat), .top, .ptr 2 (0 : Nat) 0 (3 : Nat), .ptr 3 (0 : Nat) 0 (3 : Nat), .top, .top, .top, .top, .top, .top, .top, .top, .top, .top, .top, .top, .top, .top, .top, .top, .top, .top, .top, .top, .top, .top, .top, .top, .top, .top, .top, .top, .top, .top, .top, .top, .top, .top, .top, .top, .top, .top, .top, .top, .top, .top, .top, .top, .top, .top, .top, .top, .top, .top, .top, .top, .top, .top, .top, .top, .top, .top, .top, .top, .top, .top, .top, .top, .top], [.gen [.int .i64 (0 : Int), .int .i64 (0 : Int), .nilslc] false 0, .gen [.int .i64 (0 : Int), .int .i64 (0 : Int), .nilslc] false 0, .gen [.int .i64 x.1, .int .i64 x.2.1, .own 4 0 ((x.2.2.2.2.1).length)] false 0, .gen [.int .i64 x.2.2.1, .int .i64 x.2.2.2.1, .own 5 0 ((x.2.2.2.2.2).length)] false 0, .row (.i64 x.2.2.2.2.1) 0, .row (.i64 x.2.2.2.2.2) 0]))
def spec_EchelonOf_l0_kill : List Nat := [1, 0, 0, 0, 1, 0, 0, 0, 0, 1, 1, 1, 1, 1, 1, 1, 1, 1, 1, 1, 1, 1, 1, 1, 1, 1, 1, 1, 1, 1, 1, 1, 1, 1, 1, 1, 1, 1, 1, 1, 1, 1, 1, 1, 1, 1, 1, 1, 1, 1, 1, 1, 1, 1, 1, 1, 1, 1, 1, 1, 1, 1, 1, 1, 1, 1, 1, 1, 1, 1, 1, 1]
def spec_EchelonOf_l0_nx : Exit → List Nat
  | .exit 0 => [1, 1, 0, 0, 1, 0, 0, 1, 1, 1, 1, 1, 1, 1, 1, 1, 1, 1, 1, 1, 1, 1, 1, 1, 1, 1, 1, 1, 1, 1, 1, 1, 1, 1, 1, 1, 1, 1, 1, 1, 1, 1, 1, 1, 1, 1, 1, 1, 1, 1, 1, 1, 1, 1, 1, 1, 1, 1, 1, 1, 1, 1, 1, 1, 1, 1, 1, 1, 1, 1, 1, 1]
  | .ret => [1, 1, 0, 0, 0, 1, 1, 1, 1, 1, 1, 1, 1, 1, 1, 1, 1, 1, 1, 1, 1, 1, 1, 1, 1, 1, 1, 1, 1, 1, 1, 1, 1, 1, 1, 1, 1, 1, 1, 1, 1, 1, 1, 1, 1, 1, 1, 1, 1, 1, 1, 1, 1, 1, 1, 1, 1, 1, 1, 1, 1, 1, 1, 1, 1, 1, 1, 1, 1, 1, 1, 1]
  | _ => []
noncomputable def spec_EchelonOf_LO (v22 : Int) (v23 : Int) (v24 : List Int) : LOr := fun id e L =>
  match id with
  | 2 => .need (normA 0 spec_EchelonOf_l2_kill e L = some (spec_EchelonOf_l2_E v22 v23 v24 (gI (vAt e 7)) (gI (vAt e 8)) ((gI (vAt e 9)), (gI (cAt L (vAt e 5) 0)), (gI (cAt L (vAt e 5) 1)), (gI (cAt L (vAt e 6) 0)), (gI (cAt L (vAt e 6) 1)), (gRI L (cAt L (vAt e 5) 2)), (gRI L (cAt L (vAt e 6) 2))))) (.call (spec_EchelonOf_l2_g (gI (vAt e 7)) (gI (vAt e 8)) ((gI (vAt e 9)), (gI (cAt L (vAt e 5) 0)), (gI (cAt L (vAt e 5) 1)), (gI (cAt L (vAt e 6) 0)), (gI (cAt L (vAt e 6) 1)), (gRI L (cAt L (vAt e 5) 2)), (gRI L (cAt L (vAt e 6) 2)))) fun x => .sum x (fun b0 => .leaf (spec_EchelonOf_l2_X v22 v23 v24 (gI (vAt e 7)) (gI (vAt e 8)) (.inl b0))) (fun c0 => .leaf (spec_EchelonOf_l2_X v22 v23 v24 (gI (vAt e 7)) (gI (vAt e 8)) (.inr c0))))
  | 0 => .need (normA 0 spec_EchelonOf_l0_kill e L = some (spec_EchelonOf_l0_E v22 v23 v24 ((gI (vAt e 7)), (gI (vAt e 8)), (gI (cAt L (vAt e 5) 0)), (gI (cAt L (vAt e 5) 1)), (gI (cAt L (vAt e 6) 0)), (gI (cAt L (vAt e 6) 1)), (gRI L (cAt L (vAt e 5) 2)), (gRI L (cAt L (vAt e 6) 2))))) (.call (spec_EchelonOf_l0_g v22 v23 v24 ((gI (vAt e 7)), (gI (vAt e 8)), (gI (cAt L (vAt e 5) 0)), (gI (cAt L (vAt e 5) 1)), (gI (cAt L (vAt e 6) 0)), (gI (cAt L (vAt e 6) 1)), (gRI L (cAt L (vAt e 5) 2)), (gRI L (cAt L (vAt e 6) 2)))) fun x => .sum x (fun b0 => .leaf (spec_EchelonOf_l0_X v22 v23 v24 (.inl b0))) (fun c0 => .leaf (spec_EchelonOf_l0_X v22 v23 v24 (.inr c0))))
  | _ => .fail
noncomputable def spec_EchelonOf_tab : List (FuncId × DFn × Bool) := [(62, spec_l06Is_F, true), (91, spec_l06Own_F, true), (105, spec_l06Unit_F, true), (106, spec_l06Clear_F, false), (107, spec_l06At_F, true), (94, spec_l06Take_F, false), (109, spec_l06Down_F, true), (108, spec_l06Both_F, false)]
theorem spec_EchelonOf_hO : OrcOk Try.prog (tabD spec_EchelonOf_tab) (tabM spec_EchelonOf_tab) := tabD_cons spec_l06Is_Fok (tabD_cons spec_l06Own_Fok (tabD_cons spec_l06Unit_Fok (tabD_cons spec_l06Clear_Fok (tabD_cons spec_l06At_Fok (tabD_cons spec_l06Take_Fok (tabD_cons spec_l06Down_Fok (tabD_cons spec_l06Both_Fok (tabD_nil _))))))))
theorem spec_EchelonOf_l2_be (v22 : Int) (v23 : Int) (v24 : List Int) (v705 : Int) (v706 : Int) (s : Int × Int × Int × Int × Int × (List Int) × (List Int)) : bodyT TT (tabD spec_EchelonOf_tab) (tabM spec_EchelonOf_tab) (spec_EchelonOf_LO v22 v23 v24) 0 spec_EchelonOf_l2_kill spec_EchelonOf_l2_nx (bodyOf Try.f41 2) 2 (spec_EchelonOf_l2_E v22 v23 v24 v705 v706 s) = (spec_EchelonOf_l2_T v705 v706 s).bind fun y => .leaf (outS (spec_EchelonOf_l2_E v22 v23 v24 v705 v706) (spec_EchelonOf_l2_X v22 v23 v24 v705 v706) y) := by kernel_rfl
theorem spec_EchelonOf_l2_ok (v22 : Int) (v23 : Int) (v24 : List Int) : LSound Try.prog 0 (spec_EchelonOf_LO v22 v23 v24) 2 (bodyOf Try.f41 2) := by
  intro e L out h
  exact lo_ok (E := spec_EchelonOf_l2_E v22 v23 v24 (gI (vAt e 7)) (gI (vAt e 8))) (gT := spec_EchelonOf_l2_T (gI (vAt e 7)) (gI (vAt e 8))) (X := spec_EchelonOf_l2_X v22 v23 v24 (gI (vAt e 7)) (gI (vAt e 8))) (s0 := ((gI (vAt e 9)), (gI (cAt L (vAt e 5) 0)), (gI (cAt L (vAt e 5) 1)), (gI (cAt L (vAt e 6) 0)), (gI (cAt L (vAt e 6) 1)), (gRI L (cAt L (vAt e 5) 2)), (gRI L (cAt L (vAt e 6) 2)))) tok spec_EchelonOf_hO mixed (LoopsOk_eq (l := []) (by kernel_rfl) trivial) (spec_EchelonOf_l2_be v22 v23 v24 (gI (vAt e 7)) (gI (vAt e 8))) rfl (by intro x; (cases x with | inl b => rfl | inr x => exact rfl)) h
theorem spec_EchelonOf_l0_be (v22 : Int) (v23 : Int) (v24 : List Int) (s : Int × Int × Int × Int × Int × Int × (List Int) × (List Int)) : bodyT TT (tabD spec_EchelonOf_tab) (tabM spec_EchelonOf_tab) (spec_EchelonOf_LO v22 v23 v24) 0 spec_EchelonOf_l0_kill spec_EchelonOf_l0_nx (bodyOf Try.f41 0) 0 (spec_EchelonOf_l0_E v22 v23 v24 s) = (spec_EchelonOf_l0_T v22 v23 v24 s).bind fun y => .leaf (outS (spec_EchelonOf_l0_E v22 v23 v24) (spec_EchelonOf_l0_X v22 v23 v24) y) := by kernel_rfl
theorem spec_EchelonOf_l0_ok (v22 : Int) (v23 : Int) (v24 : List Int) : LSound Try.prog 0 (spec_EchelonOf_LO v22 v23 v24) 0 (bodyOf Try.f41 0) := by
  intro e L out h
  exact lo_ok (E := spec_EchelonOf_l0_E v22 v23 v24) (gT := spec_EchelonOf_l0_T v22 v23 v24) (X := spec_EchelonOf_l0_X v22 v23 v24) (s0 := ((gI (vAt e 7)), (gI (vAt e 8)), (gI (cAt L (vAt e 5) 0)), (gI (cAt L (vAt e 5) 1)), (gI (cAt L (vAt e 6) 0)), (gI (cAt L (vAt e 6) 1)), (gRI L (cAt L (vAt e 5) 2)), (gRI L (cAt L (vAt e 6) 2)))) tok spec_EchelonOf_hO mixed (LoopsOk_eq (l := [(2, bodyOf Try.f41 2)]) (by kernel_rfl) ⟨spec_EchelonOf_l2_ok v22 v23 v24, trivial⟩) (spec_EchelonOf_l0_be v22 v23 v24) rfl (by intro x; (cases x with | inl b => rfl | inr x => exact rfl)) h
noncomputable def spec_EchelonOf_T (v22 : Int) (v23 : Int) (v24 : List Int) : Tree ((Unit) ⊕ (Int × Int × Int × Int × (List Int) × (List Int))) :=
  (.call (spec_l06Is_g v22 v23 v24 (1000000 : Int)) fun v41 =>
  (.br (!v41) (
   .leaf (.inl ())
  ) (
   (.call (spec_l06Own_g v22 v23 v24) fun v45 =>
   (.call (spec_l06Unit_g v22) fun v62 =>
   (.need (some (spec_EchelonOf_l0_E v22 v23 v24 ((0 : Int), (0 : Int), v45.1, v45.2, v62.1, v62.2.1, ([] : List Int) ++ v24, v62.2.2)) = some (spec_EchelonOf_l0_E v22 v23 v24 ((0 : Int), (0 : Int), v45.1, v45.2, v62.1, v62.2.1, ([] : List Int) ++ v24, v62.2.2))) <|
   (.call (spec_EchelonOf_l0_g v22 v23 v24 ((0 : Int), (0 : Int), v45.1, v45.2, v62.1, v62.2.1, ([] : List Int) ++ v24, v62.2.2)) fun v763 =>
   (.sum v763 (fun v764 =>
    .leaf (.inl ())
   ) (fun v765 =>
    .leaf (.inr (v765.1, v765.2.1, v765.2.2.1, v765.2.2.2.1, v765.2.2.2.2.1, v765.2.2.2.2.2))
   ))))))
  )))

noncomputable def spec_EchelonOf_g (v22 : Int) (v23 : Int) (v24 : List Int) : Option ((Unit) ⊕ (Int × Int × Int × Int × (List Int) × (List Int))) := (spec_EchelonOf_T v22 v23 v24).run
def spec_EchelonOf_enc (v22 : Int) (v23 : Int) (v24 : List Int) (y : (Unit) ⊕ (Int × Int × Int × Int × (List Int) × (List Int))) : Rs := (match y with | .inl y => (.tup [.agg [.int .i64 (0 : Int), .int .i64 (0 : Int), .nilslc], .agg [.int .i64 (0 : Int), .int .i64 (0 : Int), .nilslc], .lit false], []) | .inr y => (.tup [.agg [.int .i64 y.1, .int .i64 y.2.1, .own 0 0 ((y.2.2.2.2.1).length)], .agg [.int .i64 y.2.2.1, .int .i64 y.2.2.2.1, .own 1 0 ((y.2.2.2.2.2).length)], .lit true], [.row (.i64 y.2.2.2.2.1) 0, .row (.i64 y.2.2.2.2.2) 0]))
theorem spec_EchelonOf_den (v22 : Int) (v23 : Int) (v24 : List Int) : (den TT (tabD spec_EchelonOf_tab) (tabM spec_EchelonOf_tab) (spec_EchelonOf_LO v22 v23 v24) (codeOf Try.f41) ([.agg [.int .i64 v22, .int .i64 v23, .bslc (BR.root 0) (.i64 v24)]] ++ List.replicate (Try.f41.ntmps - ([.agg [.int .i64 v22, .int .i64 v23, .bslc (BR.root 0) (.i64 v24)]] : List DV).length) .undef) []).bind (retD TT Try.f41.results.toList 0) = (spec_EchelonOf_T v22 v23 v24).bind fun y => .leaf (spec_EchelonOf_enc v22 v23 v24 y) := by kernel_rfl
theorem spec_EchelonOf_fn (v22 : Int) (v23 : Int) (v24 : List Int) (F : Fr) (hm : F.ids.length = 0) (h0 : St F [] F.H0) (hA : DVs.Ok F [] [.agg [.int .i64 v22, .int .i64 v23, .bslc (BR.root 0) (.i64 v24)]]) {y : (Unit) ⊕ (Int × Int × Int × Int × (List Int) × (List Int))} (hy : spec_EchelonOf_g v22 v23 v24 = some y) : ∃ H', FnOk Try.prog 41 (DVs.av F [.agg [.int .i64 v22, .int .i64 v23, .bslc (BR.root 0) (.i64 v24)]]) F.H0 ((spec_EchelonOf_enc v22 v23 v24 y).1.av F) H' ∧ St F (spec_EchelonOf_enc v22 v23 v24 y).2 H' ∧ (spec_EchelonOf_enc v22 v23 v24 y).1.Ok F (spec_EchelonOf_enc v22 v23 v24 y).2 :=
  fn_fin tok spec_EchelonOf_hO mixed Try.func41 Try.call41 (by kernel_rfl) (LoopsOk_eq (l := [(0, bodyOf Try.f41 0)]) (by kernel_rfl) ⟨spec_EchelonOf_l0_ok v22 v23 v24, trivial⟩) (spec_EchelonOf_den v22 v23 v24) hy hm h0 hA
noncomputable def spec_EchelonOf_F : DFn := fun args L =>
  match args with
  | [.agg [.int .i64 v22, .int .i64 v23, a1]] =>
    optT (rowI64 L a1) fun v24 =>
    .call (spec_EchelonOf_g v22 v23 v24) fun y => .sum y (fun y0 => .leaf (.tup [.agg [.int .i64 (0 : Int), .int .i64 (0 : Int), .nilslc], .agg [.int .i64 (0 : Int), .int .i64 (0 : Int), .nilslc], .lit false], L)) (fun z0 => .leaf (.tup [.agg [.int .i64 z0.1, .int .i64 z0.2.1, .own (L.length + 0) 0 ((z0.2.2.2.2.1).length)], .agg [.int .i64 z0.2.2.1, .int .i64 z0.2.2.2.1, .own (L.length + 1) 0 ((z0.2.2.2.2.2).length)], .lit true], L ++ [.row (.i64 z0.2.2.2.2.1) 0, .row (.i64 z0.2.2.2.2.2) 0]))
  | _ => .fail
theorem spec_EchelonOf_Fok : COk Try.prog 41 spec_EchelonOf_F true := by
  intro F L H args r L' hs ha hr
  unfold spec_EchelonOf_F at hr
  split at hr
  · rename_i v22 v23 a1
    obtain ⟨v24, hv24, hr⟩ := optT_run hr
    simp only [Tree.run] at hr
    obtain ⟨y, hy, hr⟩ := Option.bind_eq_some_iff.1 hr
    cases y with
    | inl y =>
      simp only [Tree.run, Option.some.injEq, Prod.mk.injEq] at hr
      obtain ⟨rfl, rfl⟩ := hr
      exact call_ok0 hs (fun k => (([a1.av F] : List AV)[k]?).getD .top) [.agg [.int .i64 v22, .int .i64 v23, a1]] [.agg [.int .i64 v22, .int .i64 v23, .bslc (BR.root 0) (.i64 v24)]] (fun F' h0 hi hρ => ⟨by simp [DVs.av, DV.av, BR.av, hρ], spec_EchelonOf_fn v22 v23 v24 F' (by rw [hi]; rfl) (st_nil hi) ⟨⟨trivial, trivial, bslc_ok hi (by rw [h0, hρ]; exact rowI64_ok hs (DVs.okAt (DVs.okAt ha 0 rfl) 2 rfl) hv24), trivial⟩, trivial⟩ hy⟩) rfl
    | inr y =>
      simp only [Tree.run, Option.some.injEq, Prod.mk.injEq] at hr
      obtain ⟨rfl, rfl⟩ := hr
      exact call_ok1 hs (fun k => (([a1.av F] : List AV)[k]?).getD .top) [.agg [.int .i64 v22, .int .i64 v23, a1]] [.agg [.int .i64 v22, .int .i64 v23, .bslc (BR.root 0) (.i64 v24)]] (fun F' h0 hi hρ => ⟨by simp [DVs.av, DV.av, BR.av, hρ], spec_EchelonOf_fn v22 v23 v24 F' (by rw [hi]; rfl) (st_nil hi) ⟨⟨trivial, trivial, bslc_ok hi (by rw [h0, hρ]; exact rowI64_ok hs (DVs.okAt (DVs.okAt ha 0 rfl) 2 rfl) hv24), trivial⟩, trivial⟩ hy⟩) rfl rfl
  · cases hr
/-! impl.inRange -/
noncomputable def impl_inRange_LO (v780 : Int) (v781 : Int) (v782 : Int) : LOr := fun id e L =>
  match id with
  | _ => .fail
noncomputable def impl_inRange_tab : List (FuncId × DFn × Bool) := []
theorem impl_inRange_hO : OrcOk Try.prog (tabD impl_inRange_tab) (tabM impl_inRange_tab) := tabD_nil _
noncomputable def impl_inRange_T (v780 : Int) (v781 : Int) (v782 : Int) : Tree (Bool) :=
  (.br (decide (v781 ≤ v780)) (
   .leaf (decide (v780 ≤ v782))
  ) (
   .leaf false
  ))

noncomputable def impl_inRange_g (v780 : Int) (v781 : Int) (v782 : Int) : Option (Bool) := (impl_inRange_T v780 v781 v782).run
def impl_inRange_enc (v780 : Int) (v781 : Int) (v782 : Int) (y : Bool) : Rs := (.bool y, [])
theorem impl_inRange_den (v780 : Int) (v781 : Int) (v782 : Int) : (den TT (tabD impl_inRange_tab) (tabM impl_inRange_tab) (impl_inRange_LO v780 v781 v782) (codeOf Try.f98) ([.int .i64 v780, .int .i64 v781, .int .i64 v782] ++ List.replicate (Try.f98.ntmps - ([.int .i64 v780, .int .i64 v781, .int .i64 v782] : List DV).length) .undef) []).bind (retD TT Try.f98.results.toList 0) = (impl_inRange_T v780 v781 v782).bind fun y => .leaf (impl_inRange_enc v780 v781 v782 y) := by kernel_rfl
theorem impl_inRange_fn (v780 : Int) (v781 : Int) (v782 : Int) (F : Fr) (hm : F.ids.length = 0) (h0 : St F [] F.H0) (hA : DVs.Ok F [] [.int .i64 v780, .int .i64 v781, .int .i64 v782]) {y : Bool} (hy : impl_inRange_g v780 v781 v782 = some y) : ∃ H', FnOk Try.prog 98 (DVs.av F [.int .i64 v780, .int .i64 v781, .int .i64 v782]) F.H0 ((impl_inRange_enc v780 v781 v782 y).1.av F) H' ∧ St F (impl_inRange_enc v780 v781 v782 y).2 H' ∧ (impl_inRange_enc v780 v781 v782 y).1.Ok F (impl_inRange_enc v780 v781 v782 y).2 :=
  fn_fin tok impl_inRange_hO mixed Try.func98 Try.call98 (by kernel_rfl) (LoopsOk_eq (l := []) (by kernel_rfl) trivial) (impl_inRange_den v780 v781 v782) hy hm h0 hA
def impl_inRange_v (v780 : Int) (v781 : Int) (v782 : Int) : Bool :=
  if (decide (v781 ≤ v780)) = true then (
   decide (v780 ≤ v782)
  ) else (
   false
  )
theorem impl_inRange_tot (v780 : Int) (v781 : Int) (v782 : Int) : impl_inRange_g v780 v781 v782 = some (impl_inRange_v v780 v781 v782) := by
  unfold impl_inRange_g impl_inRange_T impl_inRange_v
  simp only [Tree.run]
  repeat' (first | rfl | split)
noncomputable def impl_inRange_F : DFn := fun args L =>
  match args with
  | [.int .i64 v780, .int .i64 v781, .int .i64 v782] =>
    .leaf (.bool (impl_inRange_v v780 v781 v782), L)
  | _ => .fail
theorem impl_inRange_Fok : COk Try.prog 98 impl_inRange_F true := by
  intro F L H args r L' hs ha hr
  unfold impl_inRange_F at hr
  split at hr
  · rename_i v780 v781 v782
    have hy := impl_inRange_tot v780 v781 v782
    generalize impl_inRange_v v780 v781 v782 = y at hy hr
    simp only [Tree.run, Option.some.injEq, Prod.mk.injEq] at hr
    obtain ⟨rfl, rfl⟩ := hr
    exact call_ok0 hs (fun k => (([] : List AV)[k]?).getD .top) [.int .i64 v780, .int .i64 v781, .int .i64 v782] [.int .i64 v780, .int .i64 v781, .int .i64 v782] (fun F' h0 hi hρ => ⟨by simp [DVs.av, DV.av, BR.av, hρ], impl_inRange_fn v780 v781 v782 F' (by rw [hi]; rfl) (st_nil hi) ⟨trivial, trivial, trivial, trivial⟩ hy⟩) rfl
  · cases hr
/-! impl.length[int64] -/
noncomputable def impl_lengthI_LO (v783 : List Int) : LOr := fun id e L =>
  match id with
  | _ => .fail
noncomputable def impl_lengthI_tab : List (FuncId × DFn × Bool) := []
theorem impl_lengthI_hO : OrcOk Try.prog (tabD impl_lengthI_tab) (tabM impl_lengthI_tab) := tabD_nil _
noncomputable def impl_lengthI_T (v783 : List Int) : Tree (Int) :=
  .leaf ((v783.length : Nat) : Int)

noncomputable def impl_lengthI_g (v783 : List Int) : Option (Int) := (impl_lengthI_T v783).run
def impl_lengthI_enc (v783 : List Int) (y : Int) : Rs := (.int .i64 y, [])
theorem impl_lengthI_den (v783 : List Int) : (den TT (tabD impl_lengthI_tab) (tabM impl_lengthI_tab) (impl_lengthI_LO v783) (codeOf Try.f67) ([.bslc (BR.root 0) (.i64 v783)] ++ List.replicate (Try.f67.ntmps - ([.bslc (BR.root 0) (.i64 v783)] : List DV).length) .undef) []).bind (retD TT Try.f67.results.toList 0) = (impl_lengthI_T v783).bind fun y => .leaf (impl_lengthI_enc v783 y) := by kernel_rfl
theorem impl_lengthI_fn (v783 : List Int) (F : Fr) (hm : F.ids.length = 0) (h0 : St F [] F.H0) (hA : DVs.Ok F [] [.bslc (BR.root 0) (.i64 v783)]) {y : Int} (hy : impl_lengthI_g v783 = some y) : ∃ H', FnOk Try.prog 67 (DVs.av F [.bslc (BR.root 0) (.i64 v783)]) F.H0 ((impl_lengthI_enc v783 y).1.av F) H' ∧ St F (impl_lengthI_enc v783 y).2 H' ∧ (impl_lengthI_enc v783 y).1.Ok F (impl_lengthI_enc v783 y).2 :=
  fn_fin tok impl_lengthI_hO mixed Try.func67 Try.call67 (by kernel_rfl) (LoopsOk_eq (l := []) (by kernel_rfl) trivial) (impl_lengthI_den v783) hy hm h0 hA
def impl_lengthI_v (v783 : List Int) : Int :=
  ((v783.length : Nat) : Int)
theorem impl_lengthI_tot (v783 : List Int) : impl_lengthI_g v783 = some (impl_lengthI_v v783) := by
  unfold impl_lengthI_g impl_lengthI_T impl_lengthI_v
  simp only [Tree.run]
  repeat' (first | rfl | split)
noncomputable def impl_lengthI_F : DFn := fun args L =>
  match args with
  | [a1] =>
    optT (rowI64 L a1) fun v783 =>
    .leaf (.int .i64 (impl_lengthI_v v783), L)
  | _ => .fail
theorem impl_lengthI_Fok : COk Try.prog 67 impl_lengthI_F true := by
  intro F L H args r L' hs ha hr
  unfold impl_lengthI_F at hr
  split at hr
  · rename_i a1
    obtain ⟨v783, hv783, hr⟩ := optT_run hr
    have hy := impl_lengthI_tot v783
    generalize impl_lengthI_v v783 = y at hy hr
    simp only [Tree.run, Option.some.injEq, Prod.mk.injEq] at hr
    obtain ⟨rfl, rfl⟩ := hr
    exact call_ok0 hs (fun k => (([a1.av F] : List AV)[k]?).getD .top) [a1] [.bslc (BR.root 0) (.i64 v783)] (fun F' h0 hi hρ => ⟨by simp [DVs.av, DV.av, BR.av, hρ], impl_lengthI_fn v783 F' (by rw [hi]; rfl) (st_nil hi) ⟨bslc_ok hi (by rw [h0, hρ]; exact rowI64_ok hs (DVs.okAt ha 0 rfl) hv783), trivial⟩ hy⟩) rfl
  · cases hr
/-! impl.allIn$1 -/
noncomputable def impl_allIn_1_LO (v794 : Int) (v795 : Int) (v796 : Int) : LOr := fun id e L =>
  match id with
  | _ => .fail
noncomputable def impl_allIn_1_tab : List (FuncId × DFn × Bool) := [(98, impl_inRange_F, true)]
theorem impl_allIn_1_hO : OrcOk Try.prog (tabD impl_allIn_1_tab) (tabM impl_allIn_1_tab) := tabD_cons impl_inRange_Fok (tabD_nil _)
noncomputable def impl_allIn_1_T (v794 : Int) (v795 : Int) (v796 : Int) : Tree (Bool) :=
  .leaf (!(impl_inRange_v v794 v795 v796))

noncomputable def impl_allIn_1_g (v794 : Int) (v795 : Int) (v796 : Int) : Option (Bool) := (impl_allIn_1_T v794 v795 v796).run
def impl_allIn_1_enc (v794 : Int) (v795 : Int) (v796 : Int) (y : Bool) : Rs := (.bool y, [])
theorem impl_allIn_1_den (v794 : Int) (v795 : Int) (v796 : Int) : (den TT (tabD impl_allIn_1_tab) (tabM impl_allIn_1_tab) (impl_allIn_1_LO v794 v795 v796) (codeOf Try.f138) ([.int .i64 v794, .bptr (BR.root 0) [.int .i64 v795], .bptr (BR.root 1) [.int .i64 v796]] ++ List.replicate (Try.f138.ntmps - ([.int .i64 v794, .bptr (BR.root 0) [.int .i64 v795], .bptr (BR.root 1) [.int .i64 v796]] : List DV).length) .undef) []).bind (retD TT Try.f138.results.toList 0) = (impl_allIn_1_T v794 v795 v796).bind fun y => .leaf (impl_allIn_1_enc v794 v795 v796 y) := by kernel_rfl
theorem impl_allIn_1_fn (v794 : Int) (v795 : Int) (v796 : Int) (F : Fr) (hm : F.ids.length = 0) (h0 : St F [] F.H0) (hA : DVs.Ok F [] [.int .i64 v794, .bptr (BR.root 0) [.int .i64 v795], .bptr (BR.root 1) [.int .i64 v796]]) {y : Bool} (hy : impl_allIn_1_g v794 v795 v796 = some y) : ∃ H', FnOk Try.prog 138 (DVs.av F [.int .i64 v794, .bptr (BR.root 0) [.int .i64 v795], .bptr (BR.root 1) [.int .i64 v796]]) F.H0 ((impl_allIn_1_enc v794 v795 v796 y).1.av F) H' ∧ St F (impl_allIn_1_enc v794 v795 v796 y).2 H' ∧ (impl_allIn_1_enc v794 v795 v796 y).1.Ok F (impl_allIn_1_enc v794 v795 v796 y).2 :=
  fn_fin tok impl_allIn_1_hO mixed Try.func138 Try.call138 (by kernel_rfl) (LoopsOk_eq (l := []) (by kernel_rfl) trivial) (impl_allIn_1_den v794 v795 v796) hy hm h0 hA
def impl_allIn_1_v (v794 : Int) (v795 : Int) (v796 : Int) : Bool :=
  !(impl_inRange_v v794 v795 v796)
theorem impl_allIn_1_tot (v794 : Int) (v795 : Int) (v796 : Int) : impl_allIn_1_g v794 v795 v796 = some (impl_allIn_1_v v794 v795 v796) := by
  unfold impl_allIn_1_g impl_allIn_1_T impl_allIn_1_v
  simp only [Tree.run]
  repeat' (first | rfl | split)
noncomputable def impl_allIn_1_F : DFn := fun args L =>
  match args with
  | [.int .i64 v794, a1, a2] =>
    optT (cellsOf L 1 a1) fun cs0 =>
    (match cs0 with
    | [.int .i64 v795] =>
    optT (cellsOf L 1 a2) fun cs1 =>
    (match cs1 with
    | [.int .i64 v796] =>
    .leaf (.bool (impl_allIn_1_v v794 v795 v796), L)
    | _ => .fail)
    | _ => .fail)
  | _ => .fail
theorem impl_allIn_1_Fok : COk Try.prog 138 impl_allIn_1_F true := by
  intro F L H args r L' hs ha hr
  unfold impl_allIn_1_F at hr
  split at hr
  · rename_i v794 a1 a2
    obtain ⟨cs0, hcp0, hr⟩ := optT_run hr
    split at hr
    · rename_i v795
      obtain ⟨cs1, hcp1, hr⟩ := optT_run hr
      split at hr
      · rename_i v796
        have hy := impl_allIn_1_tot v794 v795 v796
        generalize impl_allIn_1_v v794 v795 v796 = y at hy hr
        simp only [Tree.run, Option.some.injEq, Prod.mk.injEq] at hr
        obtain ⟨rfl, rfl⟩ := hr
        exact call_ok0 hs (fun k => (([a1.av F, a2.av F] : List AV)[k]?).getD .top) [.int .i64 v794, a1, a2] [.int .i64 v794, .bptr (BR.root 0) [.int .i64 v795], .bptr (BR.root 1) [.int .i64 v796]] (fun F' h0 hi hρ => ⟨by simp [DVs.av, DV.av, BR.av, hρ], impl_allIn_1_fn v794 v795 v796 F' (by rw [hi]; rfl) (st_nil hi) ⟨trivial, bptr_ok hi (by rw [h0]; simpa [DVs.av, DV.av, BR.av, hρ] using (cellsOf_ok hs (DVs.okAt ha 1 rfl) hcp0).1) ⟨trivial, trivial⟩, bptr_ok hi (by rw [h0]; simpa [DVs.av, DV.av, BR.av, hρ] using (cellsOf_ok hs (DVs.okAt ha 2 rfl) hcp1).1) ⟨trivial, trivial⟩, trivial⟩ hy⟩) rfl
      · cases hr
    · cases hr
  · cases hr
/-! slices.IndexFunc[list of int64,int64] -/
noncomputable def slices_IndexFuncI_l0_T (v790 : List Int) (v791 : Int) (v792 : Int) (s : Int) : Tree ((Int) ⊕ ((Int) ⊕ (Unit))) :=
  (.br (decide (s < ((v790.length : Nat) : Int))) (
   (.grd (inb s v790.length) <|
   (.br (impl_allIn_1_v (nth v790 (Int.toNat s)) v791 v792) (
    .leaf (.inr (.inl s))
   ) (
    .leaf (.inl (IntKind.i64.wrap (s + (1 : Int))))
   )))
  ) (
   .leaf (.inr (.inr ()))
  ))

noncomputable def slices_IndexFuncI_l0_g (v790 : List Int) (v791 : Int) (v792 : Int) (s0 : Int) : Option ((Int) ⊕ (Unit)) := whileM (fun s => (slices_IndexFuncI_l0_T v790 v791 v792 s).run) s0
def slices_IndexFuncI_l0_E (v790 : List Int) (v791 : Int) (v792 : Int) (s : Int) : Sd := ([.bslc (BR.root 0) (.i64 v790), .fn 138 [.bptr (BR.root 1) [.int .i64 v791], .bptr (BR.root 2) [.int .i64 v792]], .top, .top, .top, .top, .top, .int .i64 ((v790.length : Nat) : Int), .int .i64 s, .top, .top, .top, .top, .top, .top, .top, .top, .top, .top], [])
def slices_IndexFuncI_l0_X (v790 : List Int) (v791 : Int) (v792 : Int) (x : (Int) ⊕ (Unit)) : Out := (match x with | .inl x => (.ret, [.top, .top, .top, .top, .int .i64 x, .top, .top, .top, .top, .top, .top, .top, .top, .top, .top, .top, .top, .top, .top], []) | .inr x => (.normal, [.top, .top, .top, .top, .top, .top, .top, .top, .top, .top, .top, .top, .top, .top, .top, .top, .top, .top, .top], []))
def slices_IndexFuncI_l0_kill : List Nat := [0, 0, 1, 1, 1, 1, 1, 0, 0, 1, 1, 1, 1, 1, 1, 1, 1, 1, 1]
def slices_IndexFuncI_l0_nx : Exit → List Nat
  | .exit 0 => [1, 1, 1, 1, 1, 1, 1, 1, 1, 1, 1, 1, 1, 1, 1, 1, 1, 1, 1]
  | .ret => [1, 1, 1, 1, 0, 1, 1, 1, 1, 1, 1, 1, 1, 1, 1, 1, 1, 1, 1]
  | _ => []
noncomputable def slices_IndexFuncI_LO (v790 : List Int) (v791 : Int) (v792 : Int) : LOr := fun id e L =>
  match id with
  | 0 => .need (normA 0 slices_IndexFuncI_l0_kill e L = some (slices_IndexFuncI_l0_E v790 v791 v792 (gI (vAt e 8)))) (.call (slices_IndexFuncI_l0_g v790 v791 v792 (gI (vAt e 8))) fun x => .sum x (fun b0 => .leaf (slices_IndexFuncI_l0_X v790 v791 v792 (.inl b0))) (fun c0 => .leaf (slices_IndexFuncI_l0_X v790 v791 v792 (.inr c0))))
  | _ => .fail
noncomputable def slices_IndexFuncI_tab : List (FuncId × DFn × Bool) := [(138, impl_allIn_1_F, true)]
theorem slices_IndexFuncI_hO : OrcOk Try.prog (tabD slices_IndexFuncI_tab) (tabM slices_IndexFuncI_tab) := tabD_cons impl_allIn_1_Fok (tabD_nil _)
theorem slices_IndexFuncI_l0_be (v790 : List Int) (v791 : Int) (v792 : Int) (s : Int) : bodyT TT (tabD slices_IndexFuncI_tab) (tabM slices_IndexFuncI_tab) (slices_IndexFuncI_LO v790 v791 v792) 0 slices_IndexFuncI_l0_kill slices_IndexFuncI_l0_nx (bodyOf Try.f169 0) 0 (slices_IndexFuncI_l0_E v790 v791 v792 s) = (slices_IndexFuncI_l0_T v790 v791 v792 s).bind fun y => .leaf (outS (slices_IndexFuncI_l0_E v790 v791 v792) (slices_IndexFuncI_l0_X v790 v791 v792) y) := by kernel_rfl
theorem slices_IndexFuncI_l0_ok (v790 : List Int) (v791 : Int) (v792 : Int) : LSound Try.prog 0 (slices_IndexFuncI_LO v790 v791 v792) 0 (bodyOf Try.f169 0) := by
  intro e L out h
  exact lo_ok (E := slices_IndexFuncI_l0_E v790 v791 v792) (gT := slices_IndexFuncI_l0_T v790 v791 v792) (X := slices_IndexFuncI_l0_X v790 v791 v792) (s0 := (gI (vAt e 8))) tok slices_IndexFuncI_hO mixed (LoopsOk_eq (l := []) (by kernel_rfl) trivial) (slices_IndexFuncI_l0_be v790 v791 v792) rfl (by intro x; (cases x with | inl b => rfl | inr x => exact rfl)) h
noncomputable def slices_IndexFuncI_T (v790 : List Int) (v791 : Int) (v792 : Int) : Tree (Int) :=
  (.need (some (slices_IndexFuncI_l0_E v790 v791 v792 (0 : Int)) = some (slices_IndexFuncI_l0_E v790 v791 v792 (0 : Int))) <|
  (.call (slices_IndexFuncI_l0_g v790 v791 v792 (0 : Int)) fun v799 =>
  (.sum v799 (fun v800 =>
   .leaf v800
  ) (fun v801 =>
   .leaf (-1 : Int)
  ))))

noncomputable def slices_IndexFuncI_g (v790 : List Int) (v791 : Int) (v792 : Int) : Option (Int) := (slices_IndexFuncI_T v790 v791 v792).run
def slices_IndexFuncI_enc (v790 : List Int) (v791 : Int) (v792 : Int) (y : Int) : Rs := (.int .i64 y, [])
theorem slices_IndexFuncI_den (v790 : List Int) (v791 : Int) (v792 : Int) : (den TT (tabD slices_IndexFuncI_tab) (tabM slices_IndexFuncI_tab) (slices_IndexFuncI_LO v790 v791 v792) (codeOf Try.f169) ([.bslc (BR.root 0) (.i64 v790), .fn 138 [.bptr (BR.root 1) [.int .i64 v791], .bptr (BR.root 2) [.int .i64 v792]]] ++ List.replicate (Try.f169.ntmps - ([.bslc (BR.root 0) (.i64 v790), .fn 138 [.bptr (BR.root 1) [.int .i64 v791], .bptr (BR.root 2) [.int .i64 v792]]] : List DV).length) .undef) []).bind (retD TT Try.f169.results.toList 0) = (slices_IndexFuncI_T v790 v791 v792).bind fun y => .leaf (slices_IndexFuncI_enc v790 v791 v792 y) := by kernel_rfl
theorem slices_IndexFuncI_fn (v790 : List Int) (v791 : Int) (v792 : Int) (F : Fr) (hm : F.ids.length = 0) (h0 : St F [] F.H0) (hA : DVs.Ok F [] [.bslc (BR.root 0) (.i64 v790), .fn 138 [.bptr (BR.root 1) [.int .i64 v791], .bptr (BR.root 2) [.int .i64 v792]]]) {y : Int} (hy : slices_IndexFuncI_g v790 v791 v792 = some y) : ∃ H', FnOk Try.prog 169 (DVs.av F [.bslc (BR.root 0) (.i64 v790), .fn 138 [.bptr (BR.root 1) [.int .i64 v791], .bptr (BR.root 2) [.int .i64 v792]]]) F.H0 ((slices_IndexFuncI_enc v790 v791 v792 y).1.av F) H' ∧ St F (slices_IndexFuncI_enc v790 v791 v792 y).2 H' ∧ (slices_IndexFuncI_enc v790 v791 v792 y).1.Ok F (slices_IndexFuncI_enc v790 v791 v792 y).2 :=
  fn_fin tok slices_IndexFuncI_hO mixed Try.func169 Try.call169 (by kernel_rfl) (LoopsOk_eq (l := [(0, bodyOf Try.f169 0)]) (by kernel_rfl) ⟨slices_IndexFuncI_l0_ok v790 v791 v792, trivial⟩) (slices_IndexFuncI_den v790 v791 v792) hy hm h0 hA
noncomputable def slices_IndexFuncI_F : DFn := fun args L =>
  match args with
  | [a1, .fn 138 [a2, a3]] =>
    optT (rowI64 L a1) fun v790 =>
    optT (cellsOf L 1 a2) fun cs1 =>
    (match cs1 with
    | [.int .i64 v791] =>
    optT (cellsOf L 1 a3) fun cs2 =>
    (match cs2 with
    | [.int .i64 v792] =>
    .call (slices_IndexFuncI_g v790 v791 v792) fun y => .leaf (.int .i64 y, L)
    | _ => .fail)
    | _ => .fail)
  | _ => .fail
theorem slices_IndexFuncI_Fok : COk Try.prog 169 slices_IndexFuncI_F true := by
  intro F L H args r L' hs ha hr
  unfold slices_IndexFuncI_F at hr
  split at hr
  · rename_i a1 a2 a3
    obtain ⟨v790, hv790, hr⟩ := optT_run hr
    obtain ⟨cs1, hcp1, hr⟩ := optT_run hr
    split at hr
    · rename_i v791
      obtain ⟨cs2, hcp2, hr⟩ := optT_run hr
      split at hr
      · rename_i v792
        simp only [Tree.run] at hr
        obtain ⟨y, hy, hr⟩ := Option.bind_eq_some_iff.1 hr
        simp only [Tree.run, Option.some.injEq, Prod.mk.injEq] at hr
        obtain ⟨rfl, rfl⟩ := hr
        exact call_ok0 hs (fun k => (([a1.av F, a2.av F, a3.av F] : List AV)[k]?).getD .top) [a1, .fn 138 [a2, a3]] [.bslc (BR.root 0) (.i64 v790), .fn 138 [.bptr (BR.root 1) [.int .i64 v791], .bptr (BR.root 2) [.int .i64 v792]]] (fun F' h0 hi hρ => ⟨by simp [DVs.av, DV.av, BR.av, hρ], slices_IndexFuncI_fn v790 v791 v792 F' (by rw [hi]; rfl) (st_nil hi) ⟨bslc_ok hi (by rw [h0, hρ]; exact rowI64_ok hs (DVs.okAt ha 0 rfl) hv790), ⟨bptr_ok hi (by rw [h0]; simpa [DVs.av, DV.av, BR.av, hρ] using (cellsOf_ok hs (DVs.okAt (DVs.okAt ha 1 rfl) 0 rfl) hcp1).1) ⟨trivial, trivial⟩, bptr_ok hi (by rw [h0]; simpa [DVs.av, DV.av, BR.av, hρ] using (cellsOf_ok hs (DVs.okAt (DVs.okAt ha 1 rfl) 1 rfl) hcp2).1) ⟨trivial, trivial⟩, trivial⟩, trivial⟩ hy⟩) rfl
      · cases hr
    · cases hr
  · cases hr
/-! slices.ContainsFunc[list of int64,int64] -/
noncomputable def slices_ContainsFuncI_LO (v787 : List Int) (v788 : Int) (v789 : Int) : LOr := fun id e L =>
  match id with
  | _ => .fail
noncomputable def slices_ContainsFuncI_tab : List (FuncId × DFn × Bool) := [(169, slices_IndexFuncI_F, true)]
theorem slices_ContainsFuncI_hO : OrcOk Try.prog (tabD slices_ContainsFuncI_tab) (tabM slices_ContainsFuncI_tab) := tabD_cons slices_IndexFuncI_Fok (tabD_nil _)
noncomputable def slices_ContainsFuncI_T (v787 : List Int) (v788 : Int) (v789 : Int) : Tree (Bool) :=
  (.call (slices_IndexFuncI_g v787 v788 v789) fun v802 =>
  .leaf (decide ((0 : Int) ≤ v802)))

noncomputable def slices_ContainsFuncI_g (v787 : List Int) (v788 : Int) (v789 : Int) : Option (Bool) := (slices_ContainsFuncI_T v787 v788 v789).run
def slices_ContainsFuncI_enc (v787 : List Int) (v788 : Int) (v789 : Int) (y : Bool) : Rs := (.bool y, [])
theorem slices_ContainsFuncI_den (v787 : List Int) (v788 : Int) (v789 : Int) : (den TT (tabD slices_ContainsFuncI_tab) (tabM slices_ContainsFuncI_tab) (slices_ContainsFuncI_LO v787 v788 v789) (codeOf Try.f137) ([.bslc (BR.root 0) (.i64 v787), .fn 138 [.bptr (BR.root 1) [.int .i64 v788], .bptr (BR.root 2) [.int .i64 v789]]] ++ List.replicate (Try.f137.ntmps - ([.bslc (BR.root 0) (.i64 v787), .fn 138 [.bptr (BR.root 1) [.int .i64 v788], .bptr (BR.root 2) [.int .i64 v789]]] : List DV).length) .undef) []).bind (retD TT Try.f137.results.toList 0) = (slices_ContainsFuncI_T v787 v788 v789).bind fun y => .leaf (slices_ContainsFuncI_enc v787 v788 v789 y) := by kernel_rfl
theorem slices_ContainsFuncI_fn (v787 : List Int) (v788 : Int) (v789 : Int) (F : Fr) (hm : F.ids.length = 0) (h0 : St F [] F.H0) (hA : DVs.Ok F [] [.bslc (BR.root 0) (.i64 v787), .fn 138 [.bptr (BR.root 1) [.int .i64 v788], .bptr (BR.root 2) [.int .i64 v789]]]) {y : Bool} (hy : slices_ContainsFuncI_g v787 v788 v789 = some y) : ∃ H', FnOk Try.prog 137 (DVs.av F [.bslc (BR.root 0) (.i64 v787), .fn 138 [.bptr (BR.root 1) [.int .i64 v788], .bptr (BR.root 2) [.int .i64 v789]]]) F.H0 ((slices_ContainsFuncI_enc v787 v788 v789 y).1.av F) H' ∧ St F (slices_ContainsFuncI_enc v787 v788 v789 y).2 H' ∧ (slices_ContainsFuncI_enc v787 v788 v789 y).1.Ok F (slices_ContainsFuncI_enc v787 v788 v789 y).2 :=
  fn_fin tok slices_ContainsFuncI_hO mixed Try.func137 Try.call137 (by kernel_rfl) (LoopsOk_eq (l := []) (by kernel_rfl) trivial) (slices_ContainsFuncI_den v787 v788 v789) hy hm h0 hA
noncomputable def slices_ContainsFuncI_F : DFn := fun args L =>
  match args with
  | [a1, .fn 138 [a2, a3]] =>
    optT (rowI64 L a1) fun v787 =>
    optT (cellsOf L 1 a2) fun cs1 =>
    (match cs1 with
    | [.int .i64 v788] =>
    optT (cellsOf L 1 a3) fun cs2 =>
    (match cs2 with
    | [.int .i64 v789] =>
    .call (slices_ContainsFuncI_g v787 v788 v789) fun y => .leaf (.bool y, L)
    | _ => .fail)
    | _ => .fail)
  | _ => .fail
theorem slices_ContainsFuncI_Fok : COk Try.prog 137 slices_ContainsFuncI_F true := by
  intro F L H args r L' hs ha hr
  unfold slices_ContainsFuncI_F at hr
  split at hr
  · rename_i a1 a2 a3
    obtain ⟨v787, hv787, hr⟩ := optT_run hr
    obtain ⟨cs1, hcp1, hr⟩ := optT_run hr
    split at hr
    · rename_i v788
      obtain ⟨cs2, hcp2, hr⟩ := optT_run hr
      split at hr
      · rename_i v789
        simp only [Tree.run] at hr
        obtain ⟨y, hy, hr⟩ := Option.bind_eq_some_iff.1 hr
        simp only [Tree.run, Option.some.injEq, Prod.mk.injEq] at hr
        obtain ⟨rfl, rfl⟩ := hr
        exact call_ok0 hs (fun k => (([a1.av F, a2.av F, a3.av F] : List AV)[k]?).getD .top) [a1, .fn 138 [a2, a3]] [.bslc (BR.root 0) (.i64 v787), .fn 138 [.bptr (BR.root 1) [.int .i64 v788], .bptr (BR.root 2) [.int .i64 v789]]] (fun F' h0 hi hρ => ⟨by simp [DVs.av, DV.av, BR.av, hρ], slices_ContainsFuncI_fn v787 v788 v789 F' (by rw [hi]; rfl) (st_nil hi) ⟨bslc_ok hi (by rw [h0, hρ]; exact rowI64_ok hs (DVs.okAt ha 0 rfl) hv787), ⟨bptr_ok hi (by rw [h0]; simpa [DVs.av, DV.av, BR.av, hρ] using (cellsOf_ok hs (DVs.okAt (DVs.okAt ha 1 rfl) 0 rfl) hcp1).1) ⟨trivial, trivial⟩, bptr_ok hi (by rw [h0]; simpa [DVs.av, DV.av, BR.av, hρ] using (cellsOf_ok hs (DVs.okAt (DVs.okAt ha 1 rfl) 1 rfl) hcp2).1) ⟨trivial, trivial⟩, trivial⟩, trivial⟩ hy⟩) rfl
      · cases hr
    · cases hr
  · cases hr
/-! impl.allIn -/
noncomputable def impl_allIn_LO (v784 : List Int) (v785 : Int) (v786 : Int) : LOr := fun id e L =>
  match id with
  | _ => .fail
noncomputable def impl_allIn_tab : List (FuncId × DFn × Bool) := [(137, slices_ContainsFuncI_F, true)]
theorem impl_allIn_hO : OrcOk Try.prog (tabD impl_allIn_tab) (tabM impl_allIn_tab) := tabD_cons slices_ContainsFuncI_Fok (tabD_nil _)
noncomputable def impl_allIn_T (v784 : List Int) (v785 : Int) (v786 : Int) : Tree (Bool) :=
  (.call (slices_ContainsFuncI_g v784 v785 v786) fun v803 =>
  .leaf (!v803))

noncomputable def impl_allIn_g (v784 : List Int) (v785 : Int) (v786 : Int) : Option (Bool) := (impl_allIn_T v784 v785 v786).run
def impl_allIn_enc (v784 : List Int) (v785 : Int) (v786 : Int) (y : Bool) : Rs := (.bool y, [])
theorem impl_allIn_den (v784 : List Int) (v785 : Int) (v786 : Int) : (den TT (tabD impl_allIn_tab) (tabM impl_allIn_tab) (impl_allIn_LO v784 v785 v786) (codeOf Try.f69) ([.bslc (BR.root 0) (.i64 v784), .int .i64 v785, .int .i64 v786] ++ List.replicate (Try.f69.ntmps - ([.bslc (BR.root 0) (.i64 v784), .int .i64 v785, .int .i64 v786] : List DV).length) .undef) []).bind (retD TT Try.f69.results.toList 0) = (impl_allIn_T v784 v785 v786).bind fun y => .leaf (impl_allIn_enc v784 v785 v786 y) := by kernel_rfl
theorem impl_allIn_fn (v784 : List Int) (v785 : Int) (v786 : Int) (F : Fr) (hm : F.ids.length = 0) (h0 : St F [] F.H0) (hA : DVs.Ok F [] [.bslc (BR.root 0) (.i64 v784), .int .i64 v785, .int .i64 v786]) {y : Bool} (hy : impl_allIn_g v784 v785 v786 = some y) : ∃ H', FnOk Try.prog 69 (DVs.av F [.bslc (BR.root 0) (.i64 v784), .int .i64 v785, .int .i64 v786]) F.H0 ((impl_allIn_enc v784 v785 v786 y).1.av F) H' ∧ St F (impl_allIn_enc v784 v785 v786 y).2 H' ∧ (impl_allIn_enc v784 v785 v786 y).1.Ok F (impl_allIn_enc v784 v785 v786 y).2 :=
  fn_fin tok impl_allIn_hO mixed Try.func69 Try.call69 (by kernel_rfl) (LoopsOk_eq (l := []) (by kernel_rfl) trivial) (impl_allIn_den v784 v785 v786) hy hm h0 hA
noncomputable def impl_allIn_F : DFn := fun args L =>
  match args with
  | [a1, .int .i64 v785, .int .i64 v786] =>
    optT (rowI64 L a1) fun v784 =>
    .call (impl_allIn_g v784 v785 v786) fun y => .leaf (.bool y, L)
  | _ => .fail
theorem impl_allIn_Fok : COk Try.prog 69 impl_allIn_F true := by
  intro F L H args r L' hs ha hr
  unfold impl_allIn_F at hr
  split at hr
  · rename_i a1 v785 v786
    obtain ⟨v784, hv784, hr⟩ := optT_run hr
    simp only [Tree.run] at hr
    obtain ⟨y, hy, hr⟩ := Option.bind_eq_some_iff.1 hr
    simp only [Tree.run, Option.some.injEq, Prod.mk.injEq] at hr
    obtain ⟨rfl, rfl⟩ := hr
    exact call_ok0 hs (fun k => (([a1.av F] : List AV)[k]?).getD .top) [a1, .int .i64 v785, .int .i64 v786] [.bslc (BR.root 0) (.i64 v784), .int .i64 v785, .int .i64 v786] (fun F' h0 hi hρ => ⟨by simp [DVs.av, DV.av, BR.av, hρ], impl_allIn_fn v784 v785 v786 F' (by rw [hi]; rfl) (st_nil hi) ⟨bslc_ok hi (by rw [h0, hρ]; exact rowI64_ok hs (DVs.okAt ha 0 rfl) hv784), trivial, trivial, trivial⟩ hy⟩) rfl
  · cases hr
/-! impl.isWhole -/
noncomputable def impl_isWhole_LO (v776 : Int) (v777 : Int) (v778 : List Int) (v779 : Int) : LOr := fun id e L =>
  match id with
  | _ => .fail
noncomputable def impl_isWhole_tab : List (FuncId × DFn × Bool) := [(98, impl_inRange_F, true), (67, impl_lengthI_F, true), (69, impl_allIn_F, true)]
theorem impl_isWhole_hO : OrcOk Try.prog (tabD impl_isWhole_tab) (tabM impl_isWhole_tab) := tabD_cons impl_inRange_Fok (tabD_cons impl_lengthI_Fok (tabD_cons impl_allIn_Fok (tabD_nil _)))
noncomputable def impl_isWhole_T (v776 : Int) (v777 : Int) (v778 : List Int) (v779 : Int) : Tree (Bool) :=
  (.br (impl_inRange_v v776 (1 : Int) (6 : Int)) (
   (.br (impl_inRange_v v777 (1 : Int) (6 : Int)) (
    (.br (decide ((impl_lengthI_v v778) = IntKind.i64.wrap (v776 * v777))) (
     (.call (impl_allIn_g v778 (IntKind.i64.wrap (0 - v779)) v779) fun v804 =>
     .leaf v804)
    ) (
     .leaf false
    ))
   ) (
    .leaf false
   ))
  ) (
   .leaf false
  ))

noncomputable def impl_isWhole_g (v776 : Int) (v777 : Int) (v778 : List Int) (v779 : Int) : Option (Bool) := (impl_isWhole_T v776 v777 v778 v779).run
def impl_isWhole_enc (v776 : Int) (v777 : Int) (v778 : List Int) (v779 : Int) (y : Bool) : Rs := (.bool y, [])
theorem impl_isWhole_den (v776 : Int) (v777 : Int) (v778 : List Int) (v779 : Int) : (den TT (tabD impl_isWhole_tab) (tabM impl_isWhole_tab) (impl_isWhole_LO v776 v777 v778 v779) (codeOf Try.f135) ([.agg [.int .i64 v776, .int .i64 v777, .bslc (BR.root 0) (.i64 v778)], .int .i64 v779] ++ List.replicate (Try.f135.ntmps - ([.agg [.int .i64 v776, .int .i64 v777, .bslc (BR.root 0) (.i64 v778)], .int .i64 v779] : List DV).length) .undef) []).bind (retD TT Try.f135.results.toList 0) = (impl_isWhole_T v776 v777 v778 v779).bind fun y => .leaf (impl_isWhole_enc v776 v777 v778 v779 y) := by kernel_rfl
theorem impl_isWhole_fn (v776 : Int) (v777 : Int) (v778 : List Int) (v779 : Int) (F : Fr) (hm : F.ids.length = 0) (h0 : St F [] F.H0) (hA : DVs.Ok F [] [.agg [.int .i64 v776, .int .i64 v777, .bslc (BR.root 0) (.i64 v778)], .int .i64 v779]) {y : Bool} (hy : impl_isWhole_g v776 v777 v778 v779 = some y) : ∃ H', FnOk Try.prog 135 (DVs.av F [.agg [.int .i64 v776, .int .i64 v777, .bslc (BR.root 0) (.i64 v778)], .int .i64 v779]) F.H0 ((impl_isWhole_enc v776 v777 v778 v779 y).1.av F) H' ∧ St F (impl_isWhole_enc v776 v777 v778 v779 y).2 H' ∧ (impl_isWhole_enc v776 v777 v778 v779 y).1.Ok F (impl_isWhole_enc v776 v777 v778 v779 y).2 :=
  fn_fin tok impl_isWhole_hO mixed Try.func135 Try.call135 (by kernel_rfl) (LoopsOk_eq (l := []) (by kernel_rfl) trivial) (impl_isWhole_den v776 v777 v778 v779) hy hm h0 hA
noncomputable def impl_isWhole_F : DFn := fun args L =>
  match args with
  | [.agg [.int .i64 v776, .int .i64 v777, a1], .int .i64 v779] =>
    optT (rowI64 L a1) fun v778 =>
    .call (impl_isWhole_g v776 v777 v778 v779) fun y => .leaf (.bool y, L)
  | _ => .fail
theorem impl_isWhole_Fok : COk Try.prog 135 impl_isWhole_F true := by
  intro F L H args r L' hs ha hr
  unfold impl_isWhole_F at hr
  split at hr
  · rename_i v776 v777 a1 v779
    obtain ⟨v778, hv778, hr⟩ := optT_run hr
    simp only [Tree.run] at hr
    obtain ⟨y, hy, hr⟩ := Option.bind_eq_some_iff.1 hr
    simp only [Tree.run, Option.some.injEq, Prod.mk.injEq] at hr
    obtain ⟨rfl, rfl⟩ := hr
    exact call_ok0 hs (fun k => (([a1.av F] : List AV)[k]?).getD .top) [.agg [.int .i64 v776, .int .i64 v777, a1], .int .i64 v779] [.agg [.int .i64 v776, .int .i64 v777, .bslc (BR.root 0) (.i64 v778)], .int .i64 v779] (fun F' h0 hi hρ => ⟨by simp [DVs.av, DV.av, BR.av, hρ], impl_isWhole_fn v776 v777 v778 v779 F' (by rw [hi]; rfl) (st_nil hi) ⟨⟨trivial, trivial, bslc_ok hi (by rw [h0, hρ]; exact rowI64_ok hs (DVs.okAt (DVs.okAt ha 0 rfl) 2 rfl) hv778), trivial⟩, trivial, trivial⟩ hy⟩) rfl
  · cases hr
/-! impl.ValidWhole -/
noncomputable def impl_ValidWhole_LO (v773 : Int) (v774 : Int) (v775 : List Int) : LOr := fun id e L =>
  match id with
  | _ => .fail
noncomputable def impl_ValidWhole_tab : List (FuncId × DFn × Bool) := [(135, impl_isWhole_F, true)]
theorem impl_ValidWhole_hO : OrcOk Try.prog (tabD impl_ValidWhole_tab) (tabM impl_ValidWhole_tab) := tabD_cons impl_isWhole_Fok (tabD_nil _)
noncomputable def impl_ValidWhole_T (v773 : Int) (v774 : Int) (v775 : List Int) : Tree (Bool) :=
  (.call (impl_isWhole_g v773 v774 v775 (1000000 : Int)) fun v805 =>
  .leaf v805)

noncomputable def impl_ValidWhole_g (v773 : Int) (v774 : Int) (v775 : List Int) : Option (Bool) := (impl_ValidWhole_T v773 v774 v775).run
def impl_ValidWhole_enc (v773 : Int) (v774 : Int) (v775 : List Int) (y : Bool) : Rs := (.bool y, [])
theorem impl_ValidWhole_den (v773 : Int) (v774 : Int) (v775 : List Int) : (den TT (tabD impl_ValidWhole_tab) (tabM impl_ValidWhole_tab) (impl_ValidWhole_LO v773 v774 v775) (codeOf Try.f65) ([.agg [.int .i64 v773, .int .i64 v774, .bslc (BR.root 0) (.i64 v775)]] ++ List.replicate (Try.f65.ntmps - ([.agg [.int .i64 v773, .int .i64 v774, .bslc (BR.root 0) (.i64 v775)]] : List DV).length) .undef) []).bind (retD TT Try.f65.results.toList 0) = (impl_ValidWhole_T v773 v774 v775).bind fun y => .leaf (impl_ValidWhole_enc v773 v774 v775 y) := by kernel_rfl
theorem impl_ValidWhole_fn (v773 : Int) (v774 : Int) (v775 : List Int) (F : Fr) (hm : F.ids.length = 0) (h0 : St F [] F.H0) (hA : DVs.Ok F [] [.agg [.int .i64 v773, .int .i64 v774, .bslc (BR.root 0) (.i64 v775)]]) {y : Bool} (hy : impl_ValidWhole_g v773 v774 v775 = some y) : ∃ H', FnOk Try.prog 65 (DVs.av F [.agg [.int .i64 v773, .int .i64 v774, .bslc (BR.root 0) (.i64 v775)]]) F.H0 ((impl_ValidWhole_enc v773 v774 v775 y).1.av F) H' ∧ St F (impl_ValidWhole_enc v773 v774 v775 y).2 H' ∧ (impl_ValidWhole_enc v773 v774 v775 y).1.Ok F (impl_ValidWhole_enc v773 v774 v775 y).2 :=
  fn_fin tok impl_ValidWhole_hO mixed Try.func65 Try.call65 (by kernel_rfl) (LoopsOk_eq (l := []) (by kernel_rfl) trivial) (impl_ValidWhole_den v773 v774 v775) hy hm h0 hA
noncomputable def impl_ValidWhole_F : DFn := fun args L =>
  match args with
  | [.agg [.int .i64 v773, .int .i64 v774, a1]] =>
    optT (rowI64 L a1) fun v775 =>
    .call (impl_ValidWhole_g v773 v774 v775) fun y => .leaf (.bool y, L)
  | _ => .fail
theorem impl_ValidWhole_Fok : COk Try.prog 65 impl_ValidWhole_F true := by
  intro F L H args r L' hs ha hr
  unfold impl_ValidWhole_F at hr
  split at hr
  · rename_i v773 v774 a1
    obtain ⟨v775, hv775, hr⟩ := optT_run hr
    simp only [Tree.run] at hr
    obtain ⟨y, hy, hr⟩ := Option.bind_eq_some_iff.1 hr
    simp only [Tree.run, Option.some.injEq, Prod.mk.injEq] at hr
    obtain ⟨rfl, rfl⟩ := hr
    exact call_ok0 hs (fun k => (([a1.av F] : List AV)[k]?).getD .top) [.agg [.int .i64 v773, .int .i64 v774, a1]] [.agg [.int .i64 v773, .int .i64 v774, .bslc (BR.root 0) (.i64 v775)]] (fun F' h0 hi hρ => ⟨by simp [DVs.av, DV.av, BR.av, hρ], impl_ValidWhole_fn v773 v774 v775 F' (by rw [hi]; rfl) (st_nil hi) ⟨⟨trivial, trivial, bslc_ok hi (by rw [h0, hρ]; exact rowI64_ok hs (DVs.okAt (DVs.okAt ha 0 rfl) 2 rfl) hv775), trivial⟩, trivial⟩ hy⟩) rfl
  · cases hr
/-! slices.Clone[list of int64,int64] -/
noncomputable def slices_CloneI_LO (v807 : List Int) : LOr := fun id e L =>
  match id with
  | _ => .fail
noncomputable def slices_CloneI_tab : List (FuncId × DFn × Bool) := []
theorem slices_CloneI_hO : OrcOk Try.prog (tabD slices_CloneI_tab) (tabM slices_CloneI_tab) := tabD_nil _
noncomputable def slices_CloneI_T (v807 : List Int) : Tree (Unit) :=
  (.grd (decide (0 < v807.length)) <|
  (.grd (fits (([] : List Int) ++ v807).length) <|
  .leaf ()))

noncomputable def slices_CloneI_g (v807 : List Int) : Option (Unit) := (slices_CloneI_T v807).run
def slices_CloneI_enc (v807 : List Int) (y : Unit) : Rs := (.own 0 0 ((([] : List Int) ++ v807).length), [.row (.i64 (([] : List Int) ++ v807)) 0])
theorem slices_CloneI_den (v807 : List Int) : (den TT (tabD slices_CloneI_tab) (tabM slices_CloneI_tab) (slices_CloneI_LO v807) (codeOf Try.f99) ([.bslc (BR.root 0) (.i64 v807)] ++ List.replicate (Try.f99.ntmps - ([.bslc (BR.root 0) (.i64 v807)] : List DV).length) .undef) []).bind (retD TT Try.f99.results.toList 0) = (slices_CloneI_T v807).bind fun y => .leaf (slices_CloneI_enc v807 y) := by kernel_rfl
theorem slices_CloneI_fn (v807 : List Int) (F : Fr) (hm : F.ids.length = 0) (h0 : St F [] F.H0) (hA : DVs.Ok F [] [.bslc (BR.root 0) (.i64 v807)]) {y : Unit} (hy : slices_CloneI_g v807 = some y) : ∃ H', FnOk Try.prog 99 (DVs.av F [.bslc (BR.root 0) (.i64 v807)]) F.H0 ((slices_CloneI_enc v807 y).1.av F) H' ∧ St F (slices_CloneI_enc v807 y).2 H' ∧ (slices_CloneI_enc v807 y).1.Ok F (slices_CloneI_enc v807 y).2 :=
  fn_fin tok slices_CloneI_hO mixed Try.func99 Try.call99 (by kernel_rfl) (LoopsOk_eq (l := []) (by kernel_rfl) trivial) (slices_CloneI_den v807) hy hm h0 hA
noncomputable def slices_CloneI_F : DFn := fun args L =>
  match args with
  | [a1] =>
    optT (rowI64 L a1) fun v807 =>
    .call (slices_CloneI_g v807) fun y => .leaf (.own (L.length + 0) 0 ((([] : List Int) ++ v807).length), L ++ [.row (.i64 (([] : List Int) ++ v807)) 0])
  | _ => .fail
theorem slices_CloneI_Fok : COk Try.prog 99 slices_CloneI_F true := by
  intro F L H args r L' hs ha hr
  unfold slices_CloneI_F at hr
  split at hr
  · rename_i a1
    obtain ⟨v807, hv807, hr⟩ := optT_run hr
    simp only [Tree.run] at hr
    obtain ⟨y, hy, hr⟩ := Option.bind_eq_some_iff.1 hr
    simp only [Tree.run, Option.some.injEq, Prod.mk.injEq] at hr
    obtain ⟨rfl, rfl⟩ := hr
    exact call_ok1 hs (fun k => (([a1.av F] : List AV)[k]?).getD .top) [a1] [.bslc (BR.root 0) (.i64 v807)] (fun F' h0 hi hρ => ⟨by simp [DVs.av, DV.av, BR.av, hρ], slices_CloneI_fn v807 F' (by rw [hi]; rfl) (st_nil hi) ⟨bslc_ok hi (by rw [h0, hρ]; exact rowI64_ok hs (DVs.okAt ha 0 rfl) hv807), trivial⟩ hy⟩) rfl rfl
  · cases hr
/-! impl.unitWhole$1 -/
noncomputable def impl_unitWhole_1_LO (v815 : Int) (v816 : Int) : LOr := fun id e L =>
  match id with
  | _ => .fail
noncomputable def impl_unitWhole_1_tab : List (FuncId × DFn × Bool) := []
theorem impl_unitWhole_1_hO : OrcOk Try.prog (tabD impl_unitWhole_1_tab) (tabM impl_unitWhole_1_tab) := tabD_nil _
noncomputable def impl_unitWhole_1_T (v815 : Int) (v816 : Int) : Tree (Int) :=
  (.br (decide (v815 = v816)) (
   .leaf (1 : Int)
  ) (
   .leaf (0 : Int)
  ))

noncomputable def impl_unitWhole_1_g (v815 : Int) (v816 : Int) : Option (Int) := (impl_unitWhole_1_T v815 v816).run
def impl_unitWhole_1_enc (v815 : Int) (v816 : Int) (y : Int) : Rs := (.int .i64 y, [])
theorem impl_unitWhole_1_den (v815 : Int) (v816 : Int) : (den TT (tabD impl_unitWhole_1_tab) (tabM impl_unitWhole_1_tab) (impl_unitWhole_1_LO v815 v816) (codeOf Try.f149) ([.int .i64 v815, .int .i64 v816] ++ List.replicate (Try.f149.ntmps - ([.int .i64 v815, .int .i64 v816] : List DV).length) .undef) []).bind (retD TT Try.f149.results.toList 0) = (impl_unitWhole_1_T v815 v816).bind fun y => .leaf (impl_unitWhole_1_enc v815 v816 y) := by kernel_rfl
theorem impl_unitWhole_1_fn (v815 : Int) (v816 : Int) (F : Fr) (hm : F.ids.length = 0) (h0 : St F [] F.H0) (hA : DVs.Ok F [] [.int .i64 v815, .int .i64 v816]) {y : Int} (hy : impl_unitWhole_1_g v815 v816 = some y) : ∃ H', FnOk Try.prog 149 (DVs.av F [.int .i64 v815, .int .i64 v816]) F.H0 ((impl_unitWhole_1_enc v815 v816 y).1.av F) H' ∧ St F (impl_unitWhole_1_enc v815 v816 y).2 H' ∧ (impl_unitWhole_1_enc v815 v816 y).1.Ok F (impl_unitWhole_1_enc v815 v816 y).2 :=
  fn_fin tok impl_unitWhole_1_hO mixed Try.func149 Try.call149 (by kernel_rfl) (LoopsOk_eq (l := []) (by kernel_rfl) trivial) (impl_unitWhole_1_den v815 v816) hy hm h0 hA
def impl_unitWhole_1_v (v815 : Int) (v816 : Int) : Int :=
  if (decide (v815 = v816)) = true then (
   (1 : Int)
  ) else (
   (0 : Int)
  )
theorem impl_unitWhole_1_tot (v815 : Int) (v816 : Int) : impl_unitWhole_1_g v815 v816 = some (impl_unitWhole_1_v v815 v816) := by
  unfold impl_unitWhole_1_g impl_unitWhole_1_T impl_unitWhole_1_v
  simp only [Tree.run]
  repeat' (first | rfl | split)
noncomputable def impl_unitWhole_1_F : DFn := fun args L =>
  match args with
  | [.int .i64 v815, .int .i64 v816] =>
    .leaf (.int .i64 (impl_unitWhole_1_v v815 v816), L)
  | _ => .fail
theorem impl_unitWhole_1_Fok : COk Try.prog 149 impl_unitWhole_1_F true := by
  intro F L H args r L' hs ha hr
  unfold impl_unitWhole_1_F at hr
  split at hr
  · rename_i v815 v816
    have hy := impl_unitWhole_1_tot v815 v816
    generalize impl_unitWhole_1_v v815 v816 = y at hy hr
    simp only [Tree.run, Option.some.injEq, Prod.mk.injEq] at hr
    obtain ⟨rfl, rfl⟩ := hr
    exact call_ok0 hs (fun k => (([] : List AV)[k]?).getD .top) [.int .i64 v815, .int .i64 v816] [.int .i64 v815, .int .i64 v816] (fun F' h0 hi hρ => ⟨by simp [DVs.av, DV.av, BR.av, hρ], impl_unitWhole_1_fn v815 v816 F' (by rw [hi]; rfl) (st_nil hi) ⟨trivial, trivial, trivial⟩ hy⟩) rfl
  · cases hr
/-! impl.wholeBy -/
noncomputable def impl_wholeBy_l2_T (v811 : Int) (v862 : Int) (s : (Int) ⊕ (Int × (List Int))) : Tree (((Int) ⊕ (Int × (List Int))) ⊕ ((Unit) ⊕ ((List Int)))) :=
  (match s with
  | .inl s => (
  (.br (decide (s < v811)) (
   (.grd (fits ([(impl_unitWhole_1_v v862 s)] : List Int).length) <|
   (.br (decide (([(impl_unitWhole_1_v v862 s)] : List Int).length = 0)) (
    .fail
   ) (
    .leaf (.inl (.inr (IntKind.i64.wrap (s + (1 : Int)), ([(impl_unitWhole_1_v v862 s)] : List Int))))
   )))
  ) (
   .leaf (.inr (.inl ()))
  )))
  | .inr s => (
  (.br (decide (s.1 < v811)) (
   (.grd (fits (s.2 ++ ([(impl_unitWhole_1_v v862 s.1)] : List Int)).length) <|
   .leaf (.inl (.inr (IntKind.i64.wrap (s.1 + (1 : Int)), s.2 ++ ([(impl_unitWhole_1_v v862 s.1)] : List Int)))))
  ) (
   .leaf (.inr (.inr s.2))
  ))))

noncomputable def impl_wholeBy_l2_g (v811 : Int) (v862 : Int) (s0 : (Int) ⊕ (Int × (List Int))) : Option ((Unit) ⊕ ((List Int))) := whileM (fun s => (impl_wholeBy_l2_T v811 v862 s).run) s0
def impl_wholeBy_l2_E (v810 : Int) (v811 : Int) (v862 : Int) (s : (Int) ⊕ (Int × (List Int))) : Sd := (match s with | .inl s => ( ([.top, .int .i64 v811, .fn 149 [], .top, .top, .top, .ptr 0 (0 : Nat) 0 (3 : Nat), .ptr 1 (0 : Nat) 0 (3 : Nat), .int .i64 v862, .top, .top, .top, .top, .int .i64 v810, .int .i64 v862, .top, .top, .int .i64 v811, .int .i64 s, .top, .top, .top, .top, .top, .top, .top, .top, .top, .top, .top, .top, .top, .top], [.gen [.int .i64 (0 : Int), .int .i64 (0 : Int), .nilslc] false 0, .gen [.int .i64 v810, .int .i64 v811, .nilslc] false 0])) | .inr s => ( ([.top, .int .i64 v811, .fn 149 [], .top, .top, .top, .ptr 0 (0 : Nat) 0 (3 : Nat), .ptr 1 (0 : Nat) 0 (3 : Nat), .int .i64 v862, .top, .top, .top, .top, .int .i64 v810, .int .i64 v862, .top, .top, .int .i64 v811, .int .i64 s.1, .top, .top, .top, .top, .top, .top, .top, .top, .top, .top, .top, .top, .top, .top], [.gen [.int .i64 (0 : Int), .int .i64 (0 : Int), .nilslc] false 0, .gen [.int .i64 v810, .int .i64 v811, .own 2 0 ((s.2).length)] false 0, .row (.i64 s.2) 0]))) 
def impl_wholeBy_l2_X (v810 : Int) (v811 : Int) (v862 : Int) (x : (Unit) ⊕ ((List Int))) : Out := (match x with | .inl x => (.normal, [.top, .int .i64 v811, .fn 149 [], .top, .top, .top, .ptr 0 (0 : Nat) 0 (3 : Nat), .ptr 1 (0 : Nat) 0 (3 : Nat), .top, .top, .top, .top, .top, .int .i64 v810, .int .i64 v862, .top, .top, .top, .top, .top, .top, .top, .top, .top, .top, .top, .top, .top, .top, .top, .top, .top, .top], [.gen [.int .i64 (0 : Int), .int .i64 (0 : Int), .nilslc] false 0, .gen [.int .i64 v810, .int .i64 v811, .nilslc] false 0]) | .inr x => (.normal, [.top, .int .i64 v811, .fn 149 [], .top, .top, .top, .ptr 0 (0 : Nat) 0 (3 : Nat), .ptr 1 (0 : Nat) 0 (3 : Nat), .top, .top, .top, .top, .top, .int .i64 v810, .int .i64 v862, .top, .top, .top, .top, .top, .top, .top, .top, .top, .top, .top, .top, .top, .top, .top, .top, .top, .top], [.gen [.int .i64 (0 : Int), .int .i64 (0 : Int), .nilslc] false 0, .gen [.int .i64 v810, .int .i64 v811, .own 2 0 ((x).length)] false 0, .row (.i64 x) 0]))
def impl_wholeBy_l2_kill : List Nat := [1, 0, 0, 1, 1, 1, 0, 0, 0, 1, 1, 1, 1, 0, 0, 1, 1, 0, 0, 1, 1, 1, 1, 1, 1, 1, 1, 1, 1, 1, 1, 1, 1]
def impl_wholeBy_l2_nx : Exit → List Nat
  | .exit 0 => [1, 1, 1, 1, 1, 1, 0, 0, 1, 1, 1, 1, 1, 1, 1, 1, 1, 1, 1, 1, 1, 1, 1, 1, 1, 1, 1, 1, 1, 1, 1, 1, 1]
  | .exit 1 => [1, 0, 0, 1, 1, 1, 0, 0, 1, 1, 1, 1, 1, 0, 0, 1, 1, 1, 1, 1, 1, 1, 1, 1, 1, 1, 1, 1, 1, 1, 1, 1, 1]
  | .exit 2 => [1, 0, 0, 1, 1, 1, 0, 0, 1, 1, 1, 1, 1, 0, 0, 1, 1, 1, 1, 1, 1, 1, 1, 1, 1, 1, 1, 1, 1, 1, 1, 1, 1]
  | .ret => [1, 1, 1, 1, 1, 1, 0, 1, 1, 1, 1, 1, 1, 1, 1, 1, 1, 1, 1, 1, 1, 1, 1, 1, 1, 1, 1, 1, 1, 1, 1, 1, 1]
  | _ => []
noncomputable def impl_wholeBy_l2_1_T (v811 : Int) (v875 : Int) (s : Int × (List Int)) : Tree ((Int × (List Int)) ⊕ ((List Int))) :=
  (.br (decide (s.1 < v811)) (
   (.grd (fits (s.2 ++ ([(impl_unitWhole_1_v v875 s.1)] : List Int)).length) <|
   .leaf (.inl (IntKind.i64.wrap (s.1 + (1 : Int)), s.2 ++ ([(impl_unitWhole_1_v v875 s.1)] : List Int))))
  ) (
   .leaf (.inr s.2)
  ))

noncomputable def impl_wholeBy_l2_1_g (v811 : Int) (v875 : Int) (s0 : Int × (List Int)) : Option ((List Int)) := whileM (fun s => (impl_wholeBy_l2_1_T v811 v875 s).run) s0
def impl_wholeBy_l2_1_E (v810 : Int) (v811 : Int) (v875 : Int) (s : Int × (List Int)) : Sd := ([.top, .int .i64 v811, .fn 149 [], .top, .top, .top, .ptr 0 (0 : Nat) 0 (3 : Nat), .ptr 1 (0 : Nat) 0 (3 : Nat), .int .i64 v875, .top, .top, .top, .top, .int .i64 v810, .int .i64 v875, .top, .top, .int .i64 v811, .int .i64 s.1, .top, .top, .top, .top, .top, .top, .top, .top, .top, .top, .top, .top, .top, .top], [.gen [.int .i64 (0 : Int), .int .i64 (0 : Int), .nilslc] false 0, .gen [.int .i64 v810, .int .i64 v811, .own 2 0 ((s.2).length)] false 0, .row (.i64 s.2) 0])
def impl_wholeBy_l2_1_X (v810 : Int) (v811 : Int) (v875 : Int) (x : (List Int)) : Out := (.normal, [.top, .int .i64 v811, .fn 149 [], .top, .top, .top, .ptr 0 (0 : Nat) 0 (3 : Nat), .ptr 1 (0 : Nat) 0 (3 : Nat), .top, .top, .top, .top, .top, .int .i64 v810, .int .i64 v875, .top, .top, .top, .top, .top, .top, .top, .top, .top, .top, .top, .top, .top, .top, .top, .top, .top, .top], [.gen [.int .i64 (0 : Int), .int .i64 (0 : Int), .nilslc] false 0, .gen [.int .i64 v810, .int .i64 v811, .own 2 0 ((x).length)] false 0, .row (.i64 x) 0])
def impl_wholeBy_l2_1_kill : List Nat := [1, 0, 0, 1, 1, 1, 0, 0, 0, 1, 1, 1, 1, 0, 0, 1, 1, 0, 0, 1, 1, 1, 1, 1, 1, 1, 1, 1, 1, 1, 1, 1, 1]
def impl_wholeBy_l2_1_nx : Exit → List Nat
  | .exit 0 => [1, 1, 1, 1, 1, 1, 0, 0, 1, 1, 1, 1, 1, 1, 1, 1, 1, 1, 1, 1, 1, 1, 1, 1, 1, 1, 1, 1, 1, 1, 1, 1, 1]
  | .exit 1 => [1, 0, 0, 1, 1, 1, 0, 0, 1, 1, 1, 1, 1, 0, 0, 1, 1, 1, 1, 1, 1, 1, 1, 1, 1, 1, 1, 1, 1, 1, 1, 1, 1]
  | .exit 2 => [1, 0, 0, 1, 1, 1, 0, 0, 1, 1, 1, 1, 1, 0, 0, 1, 1, 1, 1, 1, 1, 1, 1, 1, 1, 1, 1, 1, 1, 1, 1, 1, 1]
  | .ret => [1, 1, 1, 1, 1, 1, 0, 1, 1, 1, 1, 1, 1, 1, 1, 1, 1, 1, 1, 1, 1, 1, 1, 1, 1, 1, 1, 1, 1, 1, 1, 1, 1]
  | _ => []
noncomputable def impl_wholeBy_l0_T (v810 : Int) (v811 : Int) (s : (Int) ⊕ (Int × (List Int))) : Tree (((Int) ⊕ (Int × (List Int))) ⊕ ((Unit) ⊕ ((List Int)))) :=
  (match s with
  | .inl s => (
  (.br (decide (s < v810)) (
   (.need (some (impl_wholeBy_l2_E v810 v811 s (.inl (0 : Int))) = some (impl_wholeBy_l2_E v810 v811 s (.inl (0 : Int)))) <|
   (.call (impl_wholeBy_l2_g v811 s (.inl (0 : Int))) fun v866 =>
   (.sum v866 (fun v867 =>
    .leaf (.inl (.inl (IntKind.i64.wrap (s + (1 : Int)))))
   ) (fun v868 =>
    .leaf (.inl (.inr (IntKind.i64.wrap (s + (1 : Int)), v868)))
   ))))
  ) (
   .leaf (.inr (.inl ()))
  )))
  | .inr s => (
  (.br (decide (s.1 < v810)) (
   (.need (some (impl_wholeBy_l2_1_E v810 v811 s.1 ((0 : Int), s.2)) = some (impl_wholeBy_l2_1_E v810 v811 s.1 ((0 : Int), s.2))) <|
   (.call (impl_wholeBy_l2_1_g v811 s.1 ((0 : Int), s.2)) fun v878 =>
   .leaf (.inl (.inr (IntKind.i64.wrap (s.1 + (1 : Int)), v878)))))
  ) (
   .leaf (.inr (.inr s.2))
  ))))

noncomputable def impl_wholeBy_l0_g (v810 : Int) (v811 : Int) (s0 : (Int) ⊕ (Int × (List Int))) : Option ((Unit) ⊕ ((List Int))) := whileM (fun s => (impl_wholeBy_l0_T v810 v811 s).run) s0
def impl_wholeBy_l0_E (v810 : Int) (v811 : Int) (s : (Int) ⊕ (Int × (List Int))) : Sd := (match s with | .inl s => ( ([.top, .int .i64 v811, .fn 149 [], .top, .top, .top, .ptr 0 (0 : Nat) 0 (3 : Nat), .ptr 1 (0 : Nat) 0 (3 : Nat), .top, .top, .top, .top, .top, .int .i64 v810, .int .i64 s, .top, .top, .top, .top, .top, .top, .top, .top, .top, .top, .top, .top, .top, .top, .top, .top, .top, .top], [.gen [.int .i64 (0 : Int), .int .i64 (0 : Int), .nilslc] false 0, .gen [.int .i64 v810, .int .i64 v811, .nilslc] false 0])) | .inr s => ( ([.top, .int .i64 v811, .fn 149 [], .top, .top, .top, .ptr 0 (0 : Nat) 0 (3 : Nat), .ptr 1 (0 : Nat) 0 (3 : Nat), .top, .top, .top, .top, .top, .int .i64 v810, .int .i64 s.1, .top, .top, .top, .top, .top, .top, .top, .top, .top, .top, .top, .top, .top, .top, .top, .top, .top, .top], [.gen [.int .i64 (0 : Int), .int .i64 (0 : Int), .nilslc] false 0, .gen [.int .i64 v810, .int .i64 v811, .own 2 0 ((s.2).length)] false 0, .row (.i64 s.2) 0]))) 
def impl_wholeBy_l0_X (v810 : Int) (v811 : Int) (x : (Unit) ⊕ ((List Int))) : Out := (match x with | .inl x => (.normal, [.top, .top, .top, .top, .top, .top, .ptr 0 (0 : Nat) 0 (3 : Nat), .ptr 1 (0 : Nat) 0 (3 : Nat), .top, .top, .top, .top, .top, .top, .top, .top, .top, .top, .top, .top, .top, .top, .top, .top, .top, .top, .top, .top, .top, .top, .top, .top, .top], [.gen [.int .i64 (0 : Int), .int .i64 (0 : Int), .nilslc] false 0, .gen [.int .i64 v810, .int .i64 v811, .nilslc] false 0]) | .inr x => (.normal, [.top, .top, .top, .top, .top, .top, .ptr 0 (0 : Nat) 0 (3 : Nat), .ptr 1 (0 : Nat) 0 (3 : Nat), .top, .top, .top, .top, .top, .top, .top, .top, .top, .top, .top, .top, .top, .top, .top, .top, .top, .top, .top, .top, .top, .top, .top, .top, .top], [.gen [.int .i64 (0 : Int), .int .i64 (0 : Int), .nilslc] false 0, .gen [.int .i64 v810, .int .i64 v811, .own 2 0 ((x).length)] false 0, .row (.i64 x) 0]))
def impl_wholeBy_l0_kill : List Nat := [1, 0, 0, 1, 1, 1, 0, 0, 1, 1, 1, 1, 1, 0, 0, 1, 1, 1, 1, 1, 1, 1, 1, 1, 1, 1, 1, 1, 1, 1, 1, 1, 1]
def impl_wholeBy_l0_nx : Exit → List Nat
  | .exit 0 => [1, 1, 1, 1, 1, 1, 0, 0, 1, 1, 1, 1, 1, 1, 1, 1, 1, 1, 1, 1, 1, 1, 1, 1, 1, 1, 1, 1, 1, 1, 1, 1, 1]
  | .ret => [1, 1, 1, 1, 1, 1, 0, 1, 1, 1, 1, 1, 1, 1, 1, 1, 1, 1, 1, 1, 1, 1, 1, 1, 1, 1, 1, 1, 1, 1, 1, 1, 1]
  | _ => []
noncomputable def impl_wholeBy_LO (v810 : Int) (v811 : Int) : LOr := fun id e L =>
  match id with
  | 2 => (match (match (cAt L (vAt e 7) 2) with | .nilslc => true | _ => false) with | true => .need (normA 0 impl_wholeBy_l2_kill e L = some (impl_wholeBy_l2_E v810 v811 (gI (vAt e 8)) (.inl (gI (vAt e 18))))) (.call (impl_wholeBy_l2_g v811 (gI (vAt e 8)) (.inl (gI (vAt e 18)))) fun x => .sum x (fun b0 => .leaf (impl_wholeBy_l2_X v810 v811 (gI (vAt e 8)) (.inl b0))) (fun c0 => .leaf (impl_wholeBy_l2_X v810 v811 (gI (vAt e 8)) (.inr c0)))) | false => .need (normA 0 impl_wholeBy_l2_1_kill e L = some (impl_wholeBy_l2_1_E v810 v811 (gI (vAt e 8)) ((gI (vAt e 18)), (gRI L (cAt L (vAt e 7) 2))))) (.call (impl_wholeBy_l2_1_g v811 (gI (vAt e 8)) ((gI (vAt e 18)), (gRI L (cAt L (vAt e 7) 2)))) fun x => .leaf (impl_wholeBy_l2_1_X v810 v811 (gI (vAt e 8)) x)))
  | 0 => .need (normA 0 impl_wholeBy_l0_kill e L = some (impl_wholeBy_l0_E v810 v811 (.inl (gI (vAt e 14))))) (.call (impl_wholeBy_l0_g v810 v811 (.inl (gI (vAt e 14)))) fun x => .sum x (fun b0 => .leaf (impl_wholeBy_l0_X v810 v811 (.inl b0))) (fun c0 => .leaf (impl_wholeBy_l0_X v810 v811 (.inr c0))))
  | _ => .fail
noncomputable def impl_wholeBy_tab : List (FuncId × DFn × Bool) := [(149, impl_unitWhole_1_F, true)]
theorem impl_wholeBy_hO : OrcOk Try.prog (tabD impl_wholeBy_tab) (tabM impl_wholeBy_tab) := tabD_cons impl_unitWhole_1_Fok (tabD_nil _)
theorem impl_wholeBy_l2_be0 (v810 : Int) (v811 : Int) (v862 : Int) (s : Int) : bodyT TT (tabD impl_wholeBy_tab) (tabM impl_wholeBy_tab) (impl_wholeBy_LO v810 v811) 0 impl_wholeBy_l2_kill impl_wholeBy_l2_nx (bodyOf Try.f86 2) 2 (impl_wholeBy_l2_E v810 v811 v862 (.inl s)) = (impl_wholeBy_l2_T v811 v862 (.inl s)).bind fun y => .leaf (outS (impl_wholeBy_l2_E v810 v811 v862) (impl_wholeBy_l2_X v810 v811 v862) y) := by kernel_rfl
theorem impl_wholeBy_l2_be1 (v810 : Int) (v811 : Int) (v862 : Int) (s : Int × (List Int)) : bodyT TT (tabD impl_wholeBy_tab) (tabM impl_wholeBy_tab) (impl_wholeBy_LO v810 v811) 0 impl_wholeBy_l2_kill impl_wholeBy_l2_nx (bodyOf Try.f86 2) 2 (impl_wholeBy_l2_E v810 v811 v862 (.inr s)) = (impl_wholeBy_l2_T v811 v862 (.inr s)).bind fun y => .leaf (outS (impl_wholeBy_l2_E v810 v811 v862) (impl_wholeBy_l2_X v810 v811 v862) y) := by kernel_rfl
theorem impl_wholeBy_l2_be (v810 : Int) (v811 : Int) (v862 : Int) (s : (Int) ⊕ (Int × (List Int))) : bodyT TT (tabD impl_wholeBy_tab) (tabM impl_wholeBy_tab) (impl_wholeBy_LO v810 v811) 0 impl_wholeBy_l2_kill impl_wholeBy_l2_nx (bodyOf Try.f86 2) 2 (impl_wholeBy_l2_E v810 v811 v862 s) = (impl_wholeBy_l2_T v811 v862 s).bind fun y => .leaf (outS (impl_wholeBy_l2_E v810 v811 v862) (impl_wholeBy_l2_X v810 v811 v862) y) := by 
  rcases s with s | s
  · exact impl_wholeBy_l2_be0 v810 v811 v862 s
  · exact impl_wholeBy_l2_be1 v810 v811 v862 s
theorem impl_wholeBy_l2_1_be (v810 : Int) (v811 : Int) (v875 : Int) (s : Int × (List Int)) : bodyT TT (tabD impl_wholeBy_tab) (tabM impl_wholeBy_tab) (impl_wholeBy_LO v810 v811) 0 impl_wholeBy_l2_1_kill impl_wholeBy_l2_1_nx (bodyOf Try.f86 2) 2 (impl_wholeBy_l2_1_E v810 v811 v875 s) = (impl_wholeBy_l2_1_T v811 v875 s).bind fun y => .leaf (outS (impl_wholeBy_l2_1_E v810 v811 v875) (impl_wholeBy_l2_1_X v810 v811 v875) y) := by kernel_rfl
theorem impl_wholeBy_l2_ok (v810 : Int) (v811 : Int) : LSound Try.prog 0 (impl_wholeBy_LO v810 v811) 2 (bodyOf Try.f86 2) := by
  intro e L out h
  change (match (match (cAt L (vAt e 7) 2) with | .nilslc => true | _ => false) with | true => _ | false => _ : Tree Out).run = some out at h
  split at h
  · exact lo_ok (E := impl_wholeBy_l2_E v810 v811 (gI (vAt e 8))) (gT := impl_wholeBy_l2_T v811 (gI (vAt e 8))) (X := impl_wholeBy_l2_X v810 v811 (gI (vAt e 8))) (s0 := .inl (gI (vAt e 18))) tok impl_wholeBy_hO mixed (LoopsOk_eq (l := []) (by kernel_rfl) trivial) (impl_wholeBy_l2_be v810 v811 (gI (vAt e 8))) rfl (by intro x; (cases x with | inl b => rfl | inr x => exact rfl)) h
  ·
    exact lo_ok (E := impl_wholeBy_l2_1_E v810 v811 (gI (vAt e 8))) (gT := impl_wholeBy_l2_1_T v811 (gI (vAt e 8))) (X := impl_wholeBy_l2_1_X v810 v811 (gI (vAt e 8))) (s0 := ((gI (vAt e 18)), (gRI L (cAt L (vAt e 7) 2)))) tok impl_wholeBy_hO mixed (LoopsOk_eq (l := []) (by kernel_rfl) trivial) (impl_wholeBy_l2_1_be v810 v811 (gI (vAt e 8))) rfl (by intro x; rfl) h
theorem impl_wholeBy_l0_be0 (v810 : Int) (v811 : Int) (s : Int) : bodyT TT (tabD impl_wholeBy_tab) (tabM impl_wholeBy_tab) (impl_wholeBy_LO v810 v811) 0 impl_wholeBy_l0_kill impl_wholeBy_l0_nx (bodyOf Try.f86 0) 0 (impl_wholeBy_l0_E v810 v811 (.inl s)) = (impl_wholeBy_l0_T v810 v811 (.inl s)).bind fun y => .leaf (outS (impl_wholeBy_l0_E v810 v811) (impl_wholeBy_l0_X v810 v811) y) := by kernel_rfl
theorem impl_wholeBy_l0_be1 (v810 : Int) (v811 : Int) (s : Int × (List Int)) : bodyT TT (tabD impl_wholeBy_tab) (tabM impl_wholeBy_tab) (impl_wholeBy_LO v810 v811) 0 impl_wholeBy_l0_kill impl_wholeBy_l0_nx (bodyOf Try.f86 0) 0 (impl_wholeBy_l0_E v810 v811 (.inr s)) = (impl_wholeBy_l0_T v810 v811 (.inr s)).bind fun y => .leaf (outS (impl_wholeBy_l0_E v810 v811) (impl_wholeBy_l0_X v810 v811) y) := by kernel_rfl
theorem impl_wholeBy_l0_be (v810 : Int) (v811 : Int) (s : (Int) ⊕ (Int × (List Int))) : bodyT TT (tabD impl_wholeBy_tab) (tabM impl_wholeBy_tab) (impl_wholeBy_LO v810 v811) 0 impl_wholeBy_l0_kill impl_wholeBy_l0_nx (bodyOf Try.f86 0) 0 (impl_wholeBy_l0_E v810 v811 s) = (impl_wholeBy_l0_T v810 v811 s).bind fun y => .leaf (outS (impl_wholeBy_l0_E v810 v811) (impl_wholeBy_l0_X v810 v811) y) := by 
  rcases s with s | s
  · exact impl_wholeBy_l0_be0 v810 v811 s
  · exact impl_wholeBy_l0_be1 v810 v811 s
theorem impl_wholeBy_l0_ok (v810 : Int) (v811 : Int) : LSound Try.prog 0 (impl_wholeBy_LO v810 v811) 0 (bodyOf Try.f86 0) := by
  intro e L out h
  exact lo_ok (E := impl_wholeBy_l0_E v810 v811) (gT := impl_wholeBy_l0_T v810 v811) (X := impl_wholeBy_l0_X v810 v811) (s0 := .inl (gI (vAt e 14))) tok impl_wholeBy_hO mixed (LoopsOk_eq (l := [(2, bodyOf Try.f86 2)]) (by kernel_rfl) ⟨impl_wholeBy_l2_ok v810 v811, trivial⟩) (impl_wholeBy_l0_be v810 v811) rfl (by intro x; (cases x with | inl b => rfl | inr x => exact rfl)) h
noncomputable def impl_wholeBy_T (v810 : Int) (v811 : Int) : Tree ((Int × Int) ⊕ (Int × Int × (List Int))) :=
  (.need (some (impl_wholeBy_l0_E v810 v811 (.inl (0 : Int))) = some (impl_wholeBy_l0_E v810 v811 (.inl (0 : Int)))) <|
  (.call (impl_wholeBy_l0_g v810 v811 (.inl (0 : Int))) fun v879 =>
  (.sum v879 (fun v880 =>
   .leaf (.inl (v810, v811))
  ) (fun v881 =>
   .leaf (.inr (v810, v811, v881))
  ))))

noncomputable def impl_wholeBy_g (v810 : Int) (v811 : Int) : Option ((Int × Int) ⊕ (Int × Int × (List Int))) := (impl_wholeBy_T v810 v811).run
def impl_wholeBy_enc (v810 : Int) (v811 : Int) (y : (Int × Int) ⊕ (Int × Int × (List Int))) : Rs := (match y with | .inl y => (.agg [.int .i64 y.1, .int .i64 y.2, .nilslc], []) | .inr y => (.agg [.int .i64 y.1, .int .i64 y.2.1, .own 0 0 ((y.2.2).length)], [.row (.i64 y.2.2) 0]))
theorem impl_wholeBy_den (v810 : Int) (v811 : Int) : (den TT (tabD impl_wholeBy_tab) (tabM impl_wholeBy_tab) (impl_wholeBy_LO v810 v811) (codeOf Try.f86) ([.int .i64 v810, .int .i64 v811, .fn 149 []] ++ List.replicate (Try.f86.ntmps - ([.int .i64 v810, .int .i64 v811, .fn 149 []] : List DV).length) .undef) []).bind (retD TT Try.f86.results.toList 0) = (impl_wholeBy_T v810 v811).bind fun y => .leaf (impl_wholeBy_enc v810 v811 y) := by kernel_rfl
theorem impl_wholeBy_fn (v810 : Int) (v811 : Int) (F : Fr) (hm : F.ids.length = 0) (h0 : St F [] F.H0) (hA : DVs.Ok F [] [.int .i64 v810, .int .i64 v811, .fn 149 []]) {y : (Int × Int) ⊕ (Int × Int × (List Int))} (hy : impl_wholeBy_g v810 v811 = some y) : ∃ H', FnOk Try.prog 86 (DVs.av F [.int .i64 v810, .int .i64 v811, .fn 149 []]) F.H0 ((impl_wholeBy_enc v810 v811 y).1.av F) H' ∧ St F (impl_wholeBy_enc v810 v811 y).2 H' ∧ (impl_wholeBy_enc v810 v811 y).1.Ok F (impl_wholeBy_enc v810 v811 y).2 :=
  fn_fin tok impl_wholeBy_hO mixed Try.func86 Try.call86 (by kernel_rfl) (LoopsOk_eq (l := [(0, bodyOf Try.f86 0)]) (by kernel_rfl) ⟨impl_wholeBy_l0_ok v810 v811, trivial⟩) (impl_wholeBy_den v810 v811) hy hm h0 hA
noncomputable def impl_wholeBy_F : DFn := fun args L =>
  match args with
  | [.int .i64 v810, .int .i64 v811, .fn 149 []] =>
    .call (impl_wholeBy_g v810 v811) fun y => .sum y (fun y0 => .leaf (.agg [.int .i64 y0.1, .int .i64 y0.2, .nilslc], L)) (fun z0 => .leaf (.agg [.int .i64 z0.1, .int .i64 z0.2.1, .own (L.length + 0) 0 ((z0.2.2).length)], L ++ [.row (.i64 z0.2.2) 0]))
  | _ => .fail
theorem impl_wholeBy_Fok : COk Try.prog 86 impl_wholeBy_F true := by
  intro F L H args r L' hs ha hr
  unfold impl_wholeBy_F at hr
  split at hr
  · rename_i v810 v811
    simp only [Tree.run] at hr
    obtain ⟨y, hy, hr⟩ := Option.bind_eq_some_iff.1 hr
    cases y with
    | inl y =>
      simp only [Tree.run, Option.some.injEq, Prod.mk.injEq] at hr
      obtain ⟨rfl, rfl⟩ := hr
      exact call_ok0 hs (fun k => (([] : List AV)[k]?).getD .top) [.int .i64 v810, .int .i64 v811, .fn 149 []] [.int .i64 v810, .int .i64 v811, .fn 149 []] (fun F' h0 hi hρ => ⟨by simp [DVs.av, DV.av, BR.av, hρ], impl_wholeBy_fn v810 v811 F' (by rw [hi]; rfl) (st_nil hi) ⟨trivial, trivial, trivial, trivial⟩ hy⟩) rfl
    | inr y =>
      simp only [Tree.run, Option.some.injEq, Prod.mk.injEq] at hr
      obtain ⟨rfl, rfl⟩ := hr
      exact call_ok1 hs (fun k => (([] : List AV)[k]?).getD .top) [.int .i64 v810, .int .i64 v811, .fn 149 []] [.int .i64 v810, .int .i64 v811, .fn 149 []] (fun F' h0 hi hρ => ⟨by simp [DVs.av, DV.av, BR.av, hρ], impl_wholeBy_fn v810 v811 F' (by rw [hi]; rfl) (st_nil hi) ⟨trivial, trivial, trivial, trivial⟩ hy⟩) rfl rfl
  · cases hr
/-! impl.unitWhole -/
noncomputable def impl_unitWhole_LO (v809 : Int) : LOr := fun id e L =>
  match id with
  | _ => .fail
noncomputable def impl_unitWhole_tab : List (FuncId × DFn × Bool) := [(86, impl_wholeBy_F, true)]
theorem impl_unitWhole_hO : OrcOk Try.prog (tabD impl_unitWhole_tab) (tabM impl_unitWhole_tab) := tabD_cons impl_wholeBy_Fok (tabD_nil _)
noncomputable def impl_unitWhole_T (v809 : Int) : Tree ((Int × Int) ⊕ (Int × Int × (List Int))) :=
  (.call (impl_wholeBy_g v809 v809) fun v882 =>
  (.sum v882 (fun v883 =>
   .leaf (.inl (v883.1, v883.2))
  ) (fun v884 =>
   .leaf (.inr (v884.1, v884.2.1, v884.2.2))
  )))

noncomputable def impl_unitWhole_g (v809 : Int) : Option ((Int × Int) ⊕ (Int × Int × (List Int))) := (impl_unitWhole_T v809).run
def impl_unitWhole_enc (v809 : Int) (y : (Int × Int) ⊕ (Int × Int × (List Int))) : Rs := (match y with | .inl y => (.agg [.int .i64 y.1, .int .i64 y.2, .nilslc], []) | .inr y => (.agg [.int .i64 y.1, .int .i64 y.2.1, .own 0 0 ((y.2.2).length)], [.row (.i64 y.2.2) 0]))
theorem impl_unitWhole_den (v809 : Int) : (den TT (tabD impl_unitWhole_tab) (tabM impl_unitWhole_tab) (impl_unitWhole_LO v809) (codeOf Try.f110) ([.int .i64 v809] ++ List.replicate (Try.f110.ntmps - ([.int .i64 v809] : List DV).length) .undef) []).bind (retD TT Try.f110.results.toList 0) = (impl_unitWhole_T v809).bind fun y => .leaf (impl_unitWhole_enc v809 y) := by kernel_rfl
theorem impl_unitWhole_fn (v809 : Int) (F : Fr) (hm : F.ids.length = 0) (h0 : St F [] F.H0) (hA : DVs.Ok F [] [.int .i64 v809]) {y : (Int × Int) ⊕ (Int × Int × (List Int))} (hy : impl_unitWhole_g v809 = some y) : ∃ H', FnOk Try.prog 110 (DVs.av F [.int .i64 v809]) F.H0 ((impl_unitWhole_enc v809 y).1.av F) H' ∧ St F (impl_unitWhole_enc v809 y).2 H' ∧ (impl_unitWhole_enc v809 y).1.Ok F (impl_unitWhole_enc v809 y).2 :=
  fn_fin tok impl_unitWhole_hO mixed Try.func110 Try.call110 (by kernel_rfl) (LoopsOk_eq (l := []) (by kernel_rfl) trivial) (impl_unitWhole_den v809) hy hm h0 hA
noncomputable def impl_unitWhole_F : DFn := fun args L =>
  match args with
  | [.int .i64 v809] =>
    .call (impl_unitWhole_g v809) fun y => .sum y (fun y0 => .leaf (.agg [.int .i64 y0.1, .int .i64 y0.2, .nilslc], L)) (fun z0 => .leaf (.agg [.int .i64 z0.1, .int .i64 z0.2.1, .own (L.length + 0) 0 ((z0.2.2).length)], L ++ [.row (.i64 z0.2.2) 0]))
  | _ => .fail
theorem impl_unitWhole_Fok : COk Try.prog 110 impl_unitWhole_F true := by
  intro F L H args r L' hs ha hr
  unfold impl_unitWhole_F at hr
  split at hr
  · rename_i v809
    simp only [Tree.run] at hr
    obtain ⟨y, hy, hr⟩ := Option.bind_eq_some_iff.1 hr
    cases y with
    | inl y =>
      simp only [Tree.run, Option.some.injEq, Prod.mk.injEq] at hr
      obtain ⟨rfl, rfl⟩ := hr
      exact call_ok0 hs (fun k => (([] : List AV)[k]?).getD .top) [.int .i64 v809] [.int .i64 v809] (fun F' h0 hi hρ => ⟨by simp [DVs.av, DV.av, BR.av, hρ], impl_unitWhole_fn v809 F' (by rw [hi]; rfl) (st_nil hi) ⟨trivial, trivial⟩ hy⟩) rfl
    | inr y =>
      simp only [Tree.run, Option.some.injEq, Prod.mk.injEq] at hr
      obtain ⟨rfl, rfl⟩ := hr
      exact call_ok1 hs (fun k => (([] : List AV)[k]?).getD .top) [.int .i64 v809] [.int .i64 v809] (fun F' h0 hi hρ => ⟨by simp [DVs.av, DV.av, BR.av, hρ], impl_unitWhole_fn v809 F' (by rw [hi]; rfl) (st_nil hi) ⟨trivial, trivial⟩ hy⟩) rfl rfl
  · cases hr
/-! (impl.Whole).at -/
noncomputable def impl_Whole_at_LO (v906 : Int) (v907 : Int) (v908 : List Int) (v909 : Int) (v910 : Int) : LOr := fun id e L =>
  match id with
  | _ => .fail
noncomputable def impl_Whole_at_tab : List (FuncId × DFn × Bool) := []
theorem impl_Whole_at_hO : OrcOk Try.prog (tabD impl_Whole_at_tab) (tabM impl_Whole_at_tab) := tabD_nil _
noncomputable def impl_Whole_at_T (v907 : Int) (v908 : List Int) (v909 : Int) (v910 : Int) : Tree (Int) :=
  (.grd (inb (IntKind.i64.wrap ((IntKind.i64.wrap (v909 * v907)) + v910)) v908.length) <|
  .leaf (nth v908 (Int.toNat (IntKind.i64.wrap ((IntKind.i64.wrap (v909 * v907)) + v910)))))

noncomputable def impl_Whole_at_g (v907 : Int) (v908 : List Int) (v909 : Int) (v910 : Int) : Option (Int) := (impl_Whole_at_T v907 v908 v909 v910).run
def impl_Whole_at_enc (v906 : Int) (v907 : Int) (v908 : List Int) (v909 : Int) (v910 : Int) (y : Int) : Rs := (.int .i64 y, [])
theorem impl_Whole_at_den (v906 : Int) (v907 : Int) (v908 : List Int) (v909 : Int) (v910 : Int) : (den TT (tabD impl_Whole_at_tab) (tabM impl_Whole_at_tab) (impl_Whole_at_LO v906 v907 v908 v909 v910) (codeOf Try.f114) ([.agg [.int .i64 v906, .int .i64 v907, .bslc (BR.root 0) (.i64 v908)], .int .i64 v909, .int .i64 v910] ++ List.replicate (Try.f114.ntmps - ([.agg [.int .i64 v906, .int .i64 v907, .bslc (BR.root 0) (.i64 v908)], .int .i64 v909, .int .i64 v910] : List DV).length) .undef) []).bind (retD TT Try.f114.results.toList 0) = (impl_Whole_at_T v907 v908 v909 v910).bind fun y => .leaf (impl_Whole_at_enc v906 v907 v908 v909 v910 y) := by kernel_rfl
theorem impl_Whole_at_fn (v906 : Int) (v907 : Int) (v908 : List Int) (v909 : Int) (v910 : Int) (F : Fr) (hm : F.ids.length = 0) (h0 : St F [] F.H0) (hA : DVs.Ok F [] [.agg [.int .i64 v906, .int .i64 v907, .bslc (BR.root 0) (.i64 v908)], .int .i64 v909, .int .i64 v910]) {y : Int} (hy : impl_Whole_at_g v907 v908 v909 v910 = some y) : ∃ H', FnOk Try.prog 114 (DVs.av F [.agg [.int .i64 v906, .int .i64 v907, .bslc (BR.root 0) (.i64 v908)], .int .i64 v909, .int .i64 v910]) F.H0 ((impl_Whole_at_enc v906 v907 v908 v909 v910 y).1.av F) H' ∧ St F (impl_Whole_at_enc v906 v907 v908 v909 v910 y).2 H' ∧ (impl_Whole_at_enc v906 v907 v908 v909 v910 y).1.Ok F (impl_Whole_at_enc v906 v907 v908 v909 v910 y).2 :=
  fn_fin tok impl_Whole_at_hO mixed Try.func114 Try.call114 (by kernel_rfl) (LoopsOk_eq (l := []) (by kernel_rfl) trivial) (impl_Whole_at_den v906 v907 v908 v909 v910) hy hm h0 hA
noncomputable def impl_Whole_at_F : DFn := fun args L =>
  match args with
  | [.agg [.int .i64 v906, .int .i64 v907, a1], .int .i64 v909, .int .i64 v910] =>
    optT (rowI64 L a1) fun v908 =>
    .call (impl_Whole_at_g v907 v908 v909 v910) fun y => .leaf (.int .i64 y, L)
  | _ => .fail
theorem impl_Whole_at_Fok : COk Try.prog 114 impl_Whole_at_F true := by
  intro F L H args r L' hs ha hr
  unfold impl_Whole_at_F at hr
  split at hr
  · rename_i v906 v907 a1 v909 v910
    obtain ⟨v908, hv908, hr⟩ := optT_run hr
    simp only [Tree.run] at hr
    obtain ⟨y, hy, hr⟩ := Option.bind_eq_some_iff.1 hr
    simp only [Tree.run, Option.some.injEq, Prod.mk.injEq] at hr
    obtain ⟨rfl, rfl⟩ := hr
    exact call_ok0 hs (fun k => (([a1.av F] : List AV)[k]?).getD .top) [.agg [.int .i64 v906, .int .i64 v907, a1], .int .i64 v909, .int .i64 v910] [.agg [.int .i64 v906, .int .i64 v907, .bslc (BR.root 0) (.i64 v908)], .int .i64 v909, .int .i64 v910] (fun F' h0 hi hρ => ⟨by simp [DVs.av, DV.av, BR.av, hρ], impl_Whole_at_fn v906 v907 v908 v909 v910 F' (by rw [hi]; rfl) (st_nil hi) ⟨⟨trivial, trivial, bslc_ok hi (by rw [h0, hρ]; exact rowI64_ok hs (DVs.okAt (DVs.okAt ha 0 rfl) 2 rfl) hv908), trivial⟩, trivial, trivial, trivial⟩ hy⟩) rfl
  · cases hr
/-! (impl.Whole).filled -/
noncomputable def impl_Whole_filled_l0_T (v900 : Int) (v901 : Int) (v902 : List Int) (v904 : Int) (s : Int × (List Int)) : Tree ((Int × (List Int)) ⊕ ((List Int))) :=
  (.br (decide (s.1 < v900)) (
   (.call (impl_Whole_at_g v901 v902 s.1 v904) fun v917 =>
   (.br (!decide (v917 = (0 : Int))) (
    (.grd (fits (s.2 ++ ([s.1] : List Int)).length) <|
    .leaf (.inl (IntKind.i64.wrap (s.1 + (1 : Int)), s.2 ++ ([s.1] : List Int))))
   ) (
    .leaf (.inl (IntKind.i64.wrap (s.1 + (1 : Int)), s.2))
   )))
  ) (
   .leaf (.inr s.2)
  ))

noncomputable def impl_Whole_filled_l0_g (v900 : Int) (v901 : Int) (v902 : List Int) (v904 : Int) (s0 : Int × (List Int)) : Option ((List Int)) := whileM (fun s => (impl_Whole_filled_l0_T v900 v901 v902 v904 s).run) s0
def impl_Whole_filled_l0_E (v900 : Int) (v901 : Int) (v902 : List Int) (v903 : Int) (v904 : Int) (s : Int × (List Int)) : Sd := ([.top, .top, .int .i64 v904, .ptr 0 (0 : Nat) 0 (3 : Nat), .top, .top, .top, .own 1 0 ((s.2).length), .int .i64 s.1, .top, .top, .top, .top, .top, .top, .top, .top, .top, .top, .top, .top, .top, .top, .top, .top, .top, .top], [.gen [.int .i64 v900, .int .i64 v901, .bslc (BR.root 0) (.i64 v902)] false 0, .row (.i64 s.2) 0])
def impl_Whole_filled_l0_X (v900 : Int) (v901 : Int) (v902 : List Int) (v903 : Int) (v904 : Int) (x : (List Int)) : Out := (.normal, [.top, .top, .top, .top, .top, .top, .top, .own 0 0 ((x).length), .top, .top, .top, .top, .top, .top, .top, .top, .top, .top, .top, .top, .top, .top, .top, .top, .top, .top, .top], [.row (.i64 x) 0])
def impl_Whole_filled_l0_kill : List Nat := [1, 1, 0, 0, 1, 1, 1, 0, 0, 1, 1, 1, 1, 1, 1, 1, 1, 1, 1, 1, 1, 1, 1, 1, 1, 1, 1]
def impl_Whole_filled_l0_nx : Exit → List Nat
  | .exit 0 => [1, 1, 1, 1, 1, 1, 1, 0, 1, 1, 1, 1, 1, 1, 1, 1, 1, 1, 1, 1, 1, 1, 1, 1, 1, 1, 1]
  | .ret => [1, 1, 1, 1, 1, 1, 0, 1, 1, 1, 1, 1, 1, 1, 1, 1, 1, 1, 1, 1, 1, 1, 1, 1, 1, 1, 1]
  | _ => []
noncomputable def impl_Whole_filled_LO (v900 : Int) (v901 : Int) (v902 : List Int) (v903 : Int) (v904 : Int) : LOr := fun id e L =>
  match id with
  | 0 => .need (normA 0 impl_Whole_filled_l0_kill e L = some (impl_Whole_filled_l0_E v900 v901 v902 v903 v904 ((gI (vAt e 8)), (gRI L (vAt e 7))))) (.call (impl_Whole_filled_l0_g v900 v901 v902 v904 ((gI (vAt e 8)), (gRI L (vAt e 7)))) fun x => .leaf (impl_Whole_filled_l0_X v900 v901 v902 v903 v904 x))
  | _ => .fail
noncomputable def impl_Whole_filled_tab : List (FuncId × DFn × Bool) := [(114, impl_Whole_at_F, true)]
theorem impl_Whole_filled_hO : OrcOk Try.prog (tabD impl_Whole_filled_tab) (tabM impl_Whole_filled_tab) := tabD_cons impl_Whole_at_Fok (tabD_nil _)
theorem impl_Whole_filled_l0_be (v900 : Int) (v901 : Int) (v902 : List Int) (v903 : Int) (v904 : Int) (s : Int × (List Int)) : bodyT TT (tabD impl_Whole_filled_tab) (tabM impl_Whole_filled_tab) (impl_Whole_filled_LO v900 v901 v902 v903 v904) 0 impl_Whole_filled_l0_kill impl_Whole_filled_l0_nx (bodyOf Try.f112 0) 0 (impl_Whole_filled_l0_E v900 v901 v902 v903 v904 s) = (impl_Whole_filled_l0_T v900 v901 v902 v904 s).bind fun y => .leaf (outS (impl_Whole_filled_l0_E v900 v901 v902 v903 v904) (impl_Whole_filled_l0_X v900 v901 v902 v903 v904) y) := by kernel_rfl
theorem impl_Whole_filled_l0_ok (v900 : Int) (v901 : Int) (v902 : List Int) (v903 : Int) (v904 : Int) : LSound Try.prog 0 (impl_Whole_filled_LO v900 v901 v902 v903 v904) 0 (bodyOf Try.f112 0) := by
  intro e L out h
  exact lo_ok (E := impl_Whole_filled_l0_E v900 v901 v902 v903 v904) (gT := impl_Whole_filled_l0_T v900 v901 v902 v904) (X := impl_Whole_filled_l0_X v900 v901 v902 v903 v904) (s0 := ((gI (vAt e 8)), (gRI L (vAt e 7)))) tok impl_Whole_filled_hO mixed (LoopsOk_eq (l := []) (by kernel_rfl) trivial) (impl_Whole_filled_l0_be v900 v901 v902 v903 v904) rfl (by intro x; rfl) h
noncomputable def impl_Whole_filled_T (v900 : Int) (v901 : Int) (v902 : List Int) (v903 : Int) (v904 : Int) : Tree ((List Int)) :=
  (.need (some (impl_Whole_filled_l0_E v900 v901 v902 v903 v904 (v903, ([] : List Int))) = some (impl_Whole_filled_l0_E v900 v901 v902 v903 v904 (v903, ([] : List Int)))) <|
  (.call (impl_Whole_filled_l0_g v900 v901 v902 v904 (v903, ([] : List Int))) fun v918 =>
  .leaf v918))

noncomputable def impl_Whole_filled_g (v900 : Int) (v901 : Int) (v902 : List Int) (v903 : Int) (v904 : Int) : Option ((List Int)) := (impl_Whole_filled_T v900 v901 v902 v903 v904).run
def impl_Whole_filled_enc (v900 : Int) (v901 : Int) (v902 : List Int) (v903 : Int) (v904 : Int) (y : (List Int)) : Rs := (.own 0 0 ((y).length), [.row (.i64 y) 0])
theorem impl_Whole_filled_den (v900 : Int) (v901 : Int) (v902 : List Int) (v903 : Int) (v904 : Int) : (den TT (tabD impl_Whole_filled_tab) (tabM impl_Whole_filled_tab) (impl_Whole_filled_LO v900 v901 v902 v903 v904) (codeOf Try.f112) ([.agg [.int .i64 v900, .int .i64 v901, .bslc (BR.root 0) (.i64 v902)], .int .i64 v903, .int .i64 v904] ++ List.replicate (Try.f112.ntmps - ([.agg [.int .i64 v900, .int .i64 v901, .bslc (BR.root 0) (.i64 v902)], .int .i64 v903, .int .i64 v904] : List DV).length) .undef) []).bind (retD TT Try.f112.results.toList 0) = (impl_Whole_filled_T v900 v901 v902 v903 v904).bind fun y => .leaf (impl_Whole_filled_enc v900 v901 v902 v903 v904 y) := by kernel_rfl
theorem impl_Whole_filled_fn (v900 : Int) (v901 : Int) (v902 : List Int) (v903 : Int) (v904 : Int) (F : Fr) (hm : F.ids.length = 0) (h0 : St F [] F.H0) (hA : DVs.Ok F [] [.agg [.int .i64 v900, .int .i64 v901, .bslc (BR.root 0) (.i64 v902)], .int .i64 v903, .int .i64 v904]) {y : (List Int)} (hy : impl_Whole_filled_g v900 v901 v902 v903 v904 = some y) : ∃ H', FnOk Try.prog 112 (DVs.av F [.agg [.int .i64 v900, .int .i64 v901, .bslc (BR.root 0) (.i64 v902)], .int .i64 v903, .int .i64 v904]) F.H0 ((impl_Whole_filled_enc v900 v901 v902 v903 v904 y).1.av F) H' ∧ St F (impl_Whole_filled_enc v900 v901 v902 v903 v904 y).2 H' ∧ (impl_Whole_filled_enc v900 v901 v902 v903 v904 y).1.Ok F (impl_Whole_filled_enc v900 v901 v902 v903 v904 y).2 :=
  fn_fin tok impl_Whole_filled_hO mixed Try.func112 Try.call112 (by kernel_rfl) (LoopsOk_eq (l := [(0, bodyOf Try.f112 0)]) (by kernel_rfl) ⟨impl_Whole_filled_l0_ok v900 v901 v902 v903 v904, trivial⟩) (impl_Whole_filled_den v900 v901 v902 v903 v904) hy hm h0 hA
noncomputable def impl_Whole_filled_F : DFn := fun args L =>
  match args with
  | [.agg [.int .i64 v900, .int .i64 v901, a1], .int .i64 v903, .int .i64 v904] =>
    optT (rowI64 L a1) fun v902 =>
    .call (impl_Whole_filled_g v900 v901 v902 v903 v904) fun y => .leaf (.own (L.length + 0) 0 ((y).length), L ++ [.row (.i64 y) 0])
  | _ => .fail
theorem impl_Whole_filled_Fok : COk Try.prog 112 impl_Whole_filled_F true := by
  intro F L H args r L' hs ha hr
  unfold impl_Whole_filled_F at hr
  split at hr
  · rename_i v900 v901 a1 v903 v904
    obtain ⟨v902, hv902, hr⟩ := optT_run hr
    simp only [Tree.run] at hr
    obtain ⟨y, hy, hr⟩ := Option.bind_eq_some_iff.1 hr
    simp only [Tree.run, Option.some.injEq, Prod.mk.injEq] at hr
    obtain ⟨rfl, rfl⟩ := hr
    exact call_ok1 hs (fun k => (([a1.av F] : List AV)[k]?).getD .top) [.agg [.int .i64 v900, .int .i64 v901, a1], .int .i64 v903, .int .i64 v904] [.agg [.int .i64 v900, .int .i64 v901, .bslc (BR.root 0) (.i64 v902)], .int .i64 v903, .int .i64 v904] (fun F' h0 hi hρ => ⟨by simp [DVs.av, DV.av, BR.av, hρ], impl_Whole_filled_fn v900 v901 v902 v903 v904 F' (by rw [hi]; rfl) (st_nil hi) ⟨⟨trivial, trivial, bslc_ok hi (by rw [h0, hρ]; exact rowI64_ok hs (DVs.okAt (DVs.okAt ha 0 rfl) 2 rfl) hv902), trivial⟩, trivial, trivial, trivial⟩ hy⟩) rfl rfl
  · cases hr
end Go.Proofs.Ytbjnjaclmcpbbaa.AM
