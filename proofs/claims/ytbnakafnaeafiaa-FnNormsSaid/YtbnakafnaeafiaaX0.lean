/- Functions: what they come to. -/
import Derived.Test.YtbnakafnaeafiaaBase
set_option maxRecDepth 100000
set_option maxHeartbeats 4000000
set_option linter.unusedSimpArgs false
set_option linter.unusedVariables false
namespace Go.Proofs.Ytbnakafnaeafiaa.AM
open Go.Proofs
abbrev Z : DV := DV.top
/-! laws.r8Long -/
noncomputable def laws_r8Long_LO (v3 v4 : List Int) : LOr := fun id e L =>
  match id with
  | _ => .fail
noncomputable def laws_r8Long_tab : List (FuncId × DFn × Bool) := []
theorem laws_r8Long_hO : OrcOk Try.prog (tabD laws_r8Long_tab) (tabM laws_r8Long_tab) := tabD_nil _
noncomputable def laws_r8Long_T (v3 v4 : List Int) : Tree (Bool) :=
  (.br (decide ((48 : Int) < ((v3.length : Nat) : Int))) (
  .leaf true
  ) (
  .leaf (decide ((48 : Int) < ((v4.length : Nat) : Int)))
  ))

noncomputable def laws_r8Long_g (v3 v4 : List Int) : Option (Bool) := (laws_r8Long_T v3 v4).run
def laws_r8Long_enc (v3 v4 : List Int) (y : Bool) : Rs := (.bool y, [])
theorem laws_r8Long_den (v3 v4 : List Int) : (den TT (tabD laws_r8Long_tab) (tabM laws_r8Long_tab) (laws_r8Long_LO v3 v4) (codeOf Try.f4) ([.bslc (BR.root 0) (.u8 v3), .bslc (BR.root 1) (.u8 v4)] ++ List.replicate (Try.f4.ntmps - ([.bslc (BR.root 0) (.u8 v3), .bslc (BR.root 1) (.u8 v4)] : List DV).length) .undef) []).bind (retD TT Try.f4.results.toList 0) = (laws_r8Long_T v3 v4).bind fun y => .leaf (laws_r8Long_enc v3 v4 y) := by kernel_rfl
theorem laws_r8Long_fn (v3 v4 : List Int) (F : Fr) (h0 : St F [] F.H0) (hA : DVs.Ok F [] [.bslc (BR.root 0) (.u8 v3), .bslc (BR.root 1) (.u8 v4)]) {y : Bool} (hy : laws_r8Long_g v3 v4 = some y) : ∃ F' H', Fwd 0 F F' [] (laws_r8Long_enc v3 v4 y).2 ∧ FnOk Try.prog 4 (DVs.av F [.bslc (BR.root 0) (.u8 v3), .bslc (BR.root 1) (.u8 v4)]) F.H0 ((laws_r8Long_enc v3 v4 y).1.av F') H' ∧ St F' (laws_r8Long_enc v3 v4 y).2 H' ∧ (laws_r8Long_enc v3 v4 y).1.Ok F' (laws_r8Long_enc v3 v4 y).2 :=
  fn_fin tok laws_r8Long_hO mixed Try.func4 Try.call4 (by kernel_rfl) (LoopsOk_eq (l := []) (by kernel_rfl) trivial) (laws_r8Long_den v3 v4) hy h0 hA
def laws_r8Long_v (v3 v4 : List Int) : Bool :=
  if (decide ((48 : Int) < ((v3.length : Nat) : Int))) = true then (
  true
  ) else (
  decide ((48 : Int) < ((v4.length : Nat) : Int))
  )
theorem laws_r8Long_tot (v3 v4 : List Int) : laws_r8Long_g v3 v4 = some (laws_r8Long_v v3 v4) := by
  unfold laws_r8Long_g laws_r8Long_T laws_r8Long_v
  simp only [Tree.run]
  repeat' (first | rfl | split)
noncomputable def laws_r8Long_F : DFn := fun args L =>
  match args with
  | [a1, a2] =>
    optT (rowU8 L a1) fun v3 =>
    optT (rowU8 L a2) fun v4 =>
    .leaf (.bool (laws_r8Long_v v3 v4), L)
  | _ => .fail
theorem laws_r8Long_Fok : COk Try.prog 4 laws_r8Long_F true := by
  intro F L H args r L' hs ha hr
  unfold laws_r8Long_F at hr
  split at hr
  · rename_i a1 a2
    obtain ⟨v3, hv3, hr⟩ := optT_run hr
    obtain ⟨v4, hv4, hr⟩ := optT_run hr
    have hy := laws_r8Long_tot v3 v4
    generalize laws_r8Long_v v3 v4 = y at hy hr
    simp only [Tree.run, Option.some.injEq, Prod.mk.injEq] at hr
    obtain ⟨rfl, rfl⟩ := hr
    exact call_ok0 hs (fun k => (([a1.av F, a2.av F] : List AV)[k]?).getD .top) [a1, a2] [.bslc (BR.root 0) (.u8 v3), .bslc (BR.root 1) (.u8 v4)] (fun F' h0 hi hρ => ⟨by simp [DVs.av, DV.av, BR.av, hρ], laws_r8Long_fn v3 v4 F' (st_nil hi) ⟨bslc_ok hi (by rw [h0, hρ]; exact rowU8_ok hs (DVs.okAt ha 0 rfl) hv3), bslc_ok hi (by rw [h0, hρ]; exact rowU8_ok hs (DVs.okAt ha 1 rfl) hv4), trivial⟩ hy⟩) rfl
  · cases hr
/-! spec.l00From -/
noncomputable def spec_l00From_LO (v6 : List Int) : LOr := fun id e L =>
  match id with
  | _ => .fail
noncomputable def spec_l00From_tab : List (FuncId × DFn × Bool) := []
theorem spec_l00From_hO : OrcOk Try.prog (tabD spec_l00From_tab) (tabM spec_l00From_tab) := tabD_nil _
noncomputable def spec_l00From_T : Tree (Unit) :=
  .leaf ()

noncomputable def spec_l00From_g : Option (Unit) := (spec_l00From_T).run
def spec_l00From_enc (v6 : List Int) (y : Unit) : Rs := (.ptr 0 (0 : Nat) 0 (3 : Nat), [.gen [.bslc (BR.root 0) (.u8 v6), .int .i64 (0 : Int), .int .u64 (0 : Int)] false 0])
theorem spec_l00From_den (v6 : List Int) : (den TT (tabD spec_l00From_tab) (tabM spec_l00From_tab) (spec_l00From_LO v6) (codeOf Try.f18) ([.bslc (BR.root 0) (.u8 v6)] ++ List.replicate (Try.f18.ntmps - ([.bslc (BR.root 0) (.u8 v6)] : List DV).length) .undef) []).bind (retD TT Try.f18.results.toList 0) = (spec_l00From_T).bind fun y => .leaf (spec_l00From_enc v6 y) := by kernel_rfl
theorem spec_l00From_fn (v6 : List Int) (F : Fr) (h0 : St F [] F.H0) (hA : DVs.Ok F [] [.bslc (BR.root 0) (.u8 v6)]) {y : Unit} (hy : spec_l00From_g = some y) : ∃ F' H', Fwd 0 F F' [] (spec_l00From_enc v6 y).2 ∧ FnOk Try.prog 18 (DVs.av F [.bslc (BR.root 0) (.u8 v6)]) F.H0 ((spec_l00From_enc v6 y).1.av F') H' ∧ St F' (spec_l00From_enc v6 y).2 H' ∧ (spec_l00From_enc v6 y).1.Ok F' (spec_l00From_enc v6 y).2 :=
  fn_fin tok spec_l00From_hO mixed Try.func18 Try.call18 (by kernel_rfl) (LoopsOk_eq (l := []) (by kernel_rfl) trivial) (spec_l00From_den v6) hy h0 hA
def spec_l00From_v : Unit :=
  ()
theorem spec_l00From_tot : spec_l00From_g = some (spec_l00From_v) := by
  unfold spec_l00From_g spec_l00From_T spec_l00From_v
  simp only [Tree.run]
  repeat' (first | rfl | split)
noncomputable def spec_l00From_F : DFn := fun args L =>
  match args with
  | [a1] =>
    optT (rowU8 L a1) fun v6 =>
    .leaf (.ptr (L.length + 0) (0 : Nat) 0 (3 : Nat), L ++ [.gen [a1, .int .i64 (0 : Int), .int .u64 (0 : Int)] false 0])
  | _ => .fail
theorem spec_l00From_Fok : COk Try.prog 18 spec_l00From_F true := by
  intro F L H args r L' hs ha hr
  unfold spec_l00From_F at hr
  split at hr
  · rename_i a1
    obtain ⟨v6, hv6, hr⟩ := optT_run hr
    have hy := spec_l00From_tot
    generalize spec_l00From_v = y at hy hr
    simp only [Tree.run, Option.some.injEq, Prod.mk.injEq] at hr
    obtain ⟨rfl, rfl⟩ := hr
    exact callG0 hs (fun _ => .top) [a1] ⟨(DVs.okAt ha 0 rfl), trivial⟩ [a1] [.bslc (BR.root 0) (.u8 v6)] [.gen [.bslc (BR.root 0) (.u8 v6), .int .i64 (0 : Int), .int .u64 (0 : Int)] false 0] _ (fun F' h0 hi hρ => ⟨by simp [DVs.av, DV.av, BR.av, hρ], spec_l00From_fn v6 F' (st_nil hi) ⟨bslc_ok hi (by rw [h0, hρ]; exact rowU8_ok hs (DVs.okAt ha 0 rfl) hv6), trivial⟩ hy⟩) rfl rfl
  · cases hr
/-! (*spec.l00Src).next -/
noncomputable def spec_l00Src_next_LO (v17 : List Int) (v18 v19 : Int) : LOr := fun id e L =>
  match id with
  | _ => .fail
noncomputable def spec_l00Src_next_tab : List (FuncId × DFn × Bool) := []
theorem spec_l00Src_next_hO : OrcOk Try.prog (tabD spec_l00Src_next_tab) (tabM spec_l00Src_next_tab) := tabD_nil _
noncomputable def spec_l00Src_next_T (v17 : List Int) (v18 v19 : Int) : Tree (Int × Int × Int) :=
  (.br (decide (v18 < ((v17.length : Nat) : Int))) (
  (.grd (inb v18 v17.length) <|
  (.br (decide (IntKind.i64.wrap (v18 + (1 : Int)) ≤ ((v17.length : Nat) : Int))) (
  .leaf (IntKind.i64.wrap (nth v17 (Int.toNat v18)), IntKind.i64.wrap (v18 + (1 : Int)), IntKind.u64.wrap ((IntKind.u64.wrap ((IntKind.u64.wrap (v19 * (6364136223846793005 : Int))) + (IntKind.u64.wrap (IntKind.i64.wrap (nth v17 (Int.toNat v18)))))) + (1442695040888963407 : Int)))
  ) (
  (.grd (decide (0 ≤ (40 : Int))) <|
  .leaf (IntKind.i64.wrap (iand .u64 (ishr .u64 (IntKind.u64.wrap ((IntKind.u64.wrap ((IntKind.u64.wrap (v19 * (6364136223846793005 : Int))) + (IntKind.u64.wrap (IntKind.i64.wrap (nth v17 (Int.toNat v18)))))) + (1442695040888963407 : Int))) (40 : Int)) (255 : Int)), IntKind.i64.wrap (v18 + (1 : Int)), IntKind.u64.wrap ((IntKind.u64.wrap ((IntKind.u64.wrap (v19 * (6364136223846793005 : Int))) + (IntKind.u64.wrap (IntKind.i64.wrap (nth v17 (Int.toNat v18)))))) + (1442695040888963407 : Int))))
  )))
  ) (
  (.br (decide (IntKind.i64.wrap (v18 + (1 : Int)) ≤ ((v17.length : Nat) : Int))) (
  .leaf ((0 : Int), IntKind.i64.wrap (v18 + (1 : Int)), IntKind.u64.wrap ((IntKind.u64.wrap ((IntKind.u64.wrap (v19 * (6364136223846793005 : Int))) + (IntKind.u64.wrap ((0 : Int))))) + (1442695040888963407 : Int)))
  ) (
  (.grd (decide (0 ≤ (40 : Int))) <|
  .leaf (IntKind.i64.wrap (iand .u64 (ishr .u64 (IntKind.u64.wrap ((IntKind.u64.wrap ((IntKind.u64.wrap (v19 * (6364136223846793005 : Int))) + (IntKind.u64.wrap ((0 : Int))))) + (1442695040888963407 : Int))) (40 : Int)) (255 : Int)), IntKind.i64.wrap (v18 + (1 : Int)), IntKind.u64.wrap ((IntKind.u64.wrap ((IntKind.u64.wrap (v19 * (6364136223846793005 : Int))) + (IntKind.u64.wrap ((0 : Int))))) + (1442695040888963407 : Int))))
  ))
  ))

noncomputable def spec_l00Src_next_g (v17 : List Int) (v18 v19 : Int) : Option (Int × Int × Int) := (spec_l00Src_next_T v17 v18 v19).run
def spec_l00Src_next_enc (v17 : List Int) (v18 v19 : Int) (y : Int × Int × Int) : Rs := (.int .i64 y.1, [.gen [.bslc (BR.root 1) (.u8 v17), .int .i64 y.2.1, .int .u64 y.2.2] false 0])
theorem spec_l00Src_next_den (v17 : List Int) (v18 v19 : Int) : (den TT (tabD spec_l00Src_next_tab) (tabM spec_l00Src_next_tab) (spec_l00Src_next_LO v17 v18 v19) (codeOf Try.f51) ([.ptr 0 (0 : Nat) 0 (3 : Nat)] ++ List.replicate (Try.f51.ntmps - ([.ptr 0 (0 : Nat) 0 (3 : Nat)] : List DV).length) .undef) [.gen [.bslc (BR.root 1) (.u8 v17), .int .i64 v18, .int .u64 v19] false 0]).bind (retD TT Try.f51.results.toList 1) = (spec_l00Src_next_T v17 v18 v19).bind fun y => .leaf (spec_l00Src_next_enc v17 v18 v19 y) := by kernel_rfl
theorem spec_l00Src_next_fn (v17 : List Int) (v18 v19 : Int) (F : Fr) (h0 : St F [.gen [.bslc (BR.root 1) (.u8 v17), .int .i64 v18, .int .u64 v19] false 0] F.H0) (hA : DVs.Ok F [.gen [.bslc (BR.root 1) (.u8 v17), .int .i64 v18, .int .u64 v19] false 0] [.ptr 0 (0 : Nat) 0 (3 : Nat)]) {y : Int × Int × Int} (hy : spec_l00Src_next_g v17 v18 v19 = some y) : ∃ F' H', Fwd 1 F F' [.gen [.bslc (BR.root 1) (.u8 v17), .int .i64 v18, .int .u64 v19] false 0] (spec_l00Src_next_enc v17 v18 v19 y).2 ∧ FnOk Try.prog 51 (DVs.av F [.ptr 0 (0 : Nat) 0 (3 : Nat)]) F.H0 ((spec_l00Src_next_enc v17 v18 v19 y).1.av F') H' ∧ St F' (spec_l00Src_next_enc v17 v18 v19 y).2 H' ∧ (spec_l00Src_next_enc v17 v18 v19 y).1.Ok F' (spec_l00Src_next_enc v17 v18 v19 y).2 :=
  fn_fin tok spec_l00Src_next_hO mixed Try.func51 Try.call51 (by kernel_rfl) (LoopsOk_eq (l := []) (by kernel_rfl) trivial) (spec_l00Src_next_den v17 v18 v19) hy h0 hA
noncomputable def spec_l00Src_next_F : DFn := fun args L =>
  match args with
  | [a1] =>
    optT (genOf L 3 false a1) fun qg0 =>
    (match qg0.2 with
    | [a2, .int .i64 v18, .int .u64 v19] =>
    optT (rowU8 L a2) fun v17 =>
    (match sepB [qg0.1] [a2] with
    | true =>
    .call (spec_l00Src_next_g v17 v18 v19) fun y => .leaf (.int .i64 y.1, setB L [(qg0.1, .gen [a2, .int .i64 y.2.1, .int .u64 y.2.2] false (verAt L qg0.1))] ++ [])
    | false => .fail)
    | _ => .fail)
  | _ => .fail
theorem spec_l00Src_next_Fok : COk Try.prog 51 spec_l00Src_next_F false := by
  intro F L H args r L' hs ha hr
  unfold spec_l00Src_next_F at hr
  split at hr
  · rename_i a1
    obtain ⟨⟨jg0, cg0⟩, hg0, hr⟩ := optT_run hr
    simp only at hr
    split at hr
    · rename_i a2 v18 v19
      obtain ⟨hge0, hgu0, hga0, hgn0, hgc0, hgf0⟩ := genOf_spec hs (DVs.okAt ha 0 rfl) hg0
      obtain ⟨v17, hv17, hr⟩ := optT_run hr
      split at hr
      · rename_i hsep
        obtain ⟨hnd, hsepv⟩ := sepB_spec hsep
        simp only [Tree.run] at hr
        obtain ⟨y, hy, hr⟩ := Option.bind_eq_some_iff.1 hr
        try simp only [Tree.run] at hr
        simp only [Option.some.injEq, Prod.mk.injEq] at hr
        obtain ⟨rfl, rfl⟩ := hr
        exact mutG_ok hs [a1, a2] ⟨(DVs.okAt ha 0 rfl), (DVs.okAt hgc0 0 rfl), trivial⟩ [a1] [.ptr 0 (0 : Nat) 0 (3 : Nat)] [jg0] [verAt L jg0] [.gen [.bslc (BR.root 1) (.u8 v17), .int .i64 v18, .int .u64 v19] false 0] [.gen [.bslc (BR.root 1) (.u8 v17), .int .i64 y.2.1, .int .u64 y.2.2] false 0] [.gen [a2, .int .i64 y.2.1, .int .u64 y.2.2] false (verAt L jg0)] [] hnd rfl rfl (fun j hj => by
            simp at hj
            subst hj; exact ex_gen hge0) (fun j hj => by
            simp at hj
            subst hj; exact reach_refs (by simp [DVs.refs, DV.refs, hgu0])) (fun F' h0 hρ ab hpl hS => by
            have ab0 := ab 0 _ rfl;
            refine ⟨fun i j b' h1 h2 => ?_, by simp [DBlk.blk, DVs.av, DV.av, BR.av, hρ, Row.len, hga0, ab0], fun hst => spec_l00Src_next_fn v17 v18 v19 F' hst ⟨⟨_, rfl, Nat.le_refl _, by decide, Nat.le_refl _, fun _ => rfl⟩, trivial⟩ hy⟩
            rcases i with _ | i
            · simp at h1 h2; subst h1; subst h2; obtain ⟨ver_, hv_⟩ := hge0; exact ⟨_, hv_, .gen _ _ _ _ _ _, by simp [DBlk.blk, DVs.av, DV.av, BR.av, hρ, Row.len, hga0, ab0], ⟨⟨bslcM hS (by rw [hρ]; rfl) (hsepv a2 (by simp)) (DVs.okAt hgc0 0 rfl) (rowU8_or hv17), trivial, trivial, trivial⟩, fun hf => by cases hf⟩⟩
            · simp at h1) rfl rfl (fun i j b b' h1 h2 h3 => by
            rcases i with _ | i
            · simp at h1; subst h1; cases h3; exact growG hge0 rfl h2
            · simp at h1)
      · cases hr
    · cases hr
  · cases hr
/-! (*spec.l00Src).pick -/
noncomputable def spec_l00Src_pick_LO (v20 : List Int) (v21 v22 v23 : Int) : LOr := fun id e L =>
  match id with
  | _ => .fail
noncomputable def spec_l00Src_pick_tab : List (FuncId × DFn × Bool) := [(51, spec_l00Src_next_F, false)]
theorem spec_l00Src_pick_hO : OrcOk Try.prog (tabD spec_l00Src_pick_tab) (tabM spec_l00Src_pick_tab) := tabD_cons spec_l00Src_next_Fok (tabD_nil _)
noncomputable def spec_l00Src_pick_T (v20 : List Int) (v21 v22 v23 : Int) : Tree (Int × Int × Int) :=
  (.br (decide (v23 ≤ (1 : Int))) (
  .leaf ((0 : Int), v21, v22)
  ) (
  (.call (spec_l00Src_next_g v20 v21 v22) fun v24 =>
  (.br (decide ((200 : Int) < v23)) (
  (.call (spec_l00Src_next_g v20 v24.2.1 v24.2.2) fun v25 =>
  (.grd (!decide (v23 = 0)) <|
  .leaf (Int.tmod (IntKind.i64.wrap ((IntKind.i64.wrap (v24.1 * (256 : Int))) + v25.1)) v23, v25.2.1, v25.2.2)))
  ) (
  (.grd (!decide (v23 = 0)) <|
  .leaf (Int.tmod v24.1 v23, v24.2.1, v24.2.2))
  )))
  ))

noncomputable def spec_l00Src_pick_g (v20 : List Int) (v21 v22 v23 : Int) : Option (Int × Int × Int) := (spec_l00Src_pick_T v20 v21 v22 v23).run
def spec_l00Src_pick_enc (v20 : List Int) (v21 v22 v23 : Int) (y : Int × Int × Int) : Rs := (.int .i64 y.1, [.gen [.bslc (BR.root 1) (.u8 v20), .int .i64 y.2.1, .int .u64 y.2.2] false 0])
theorem spec_l00Src_pick_den (v20 : List Int) (v21 v22 v23 : Int) : (den TT (tabD spec_l00Src_pick_tab) (tabM spec_l00Src_pick_tab) (spec_l00Src_pick_LO v20 v21 v22 v23) (codeOf Try.f38) ([.ptr 0 (0 : Nat) 0 (3 : Nat), .int .i64 v23] ++ List.replicate (Try.f38.ntmps - ([.ptr 0 (0 : Nat) 0 (3 : Nat), .int .i64 v23] : List DV).length) .undef) [.gen [.bslc (BR.root 1) (.u8 v20), .int .i64 v21, .int .u64 v22] false 0]).bind (retD TT Try.f38.results.toList 1) = (spec_l00Src_pick_T v20 v21 v22 v23).bind fun y => .leaf (spec_l00Src_pick_enc v20 v21 v22 v23 y) := by kernel_rfl
theorem spec_l00Src_pick_fn (v20 : List Int) (v21 v22 v23 : Int) (F : Fr) (h0 : St F [.gen [.bslc (BR.root 1) (.u8 v20), .int .i64 v21, .int .u64 v22] false 0] F.H0) (hA : DVs.Ok F [.gen [.bslc (BR.root 1) (.u8 v20), .int .i64 v21, .int .u64 v22] false 0] [.ptr 0 (0 : Nat) 0 (3 : Nat), .int .i64 v23]) {y : Int × Int × Int} (hy : spec_l00Src_pick_g v20 v21 v22 v23 = some y) : ∃ F' H', Fwd 1 F F' [.gen [.bslc (BR.root 1) (.u8 v20), .int .i64 v21, .int .u64 v22] false 0] (spec_l00Src_pick_enc v20 v21 v22 v23 y).2 ∧ FnOk Try.prog 38 (DVs.av F [.ptr 0 (0 : Nat) 0 (3 : Nat), .int .i64 v23]) F.H0 ((spec_l00Src_pick_enc v20 v21 v22 v23 y).1.av F') H' ∧ St F' (spec_l00Src_pick_enc v20 v21 v22 v23 y).2 H' ∧ (spec_l00Src_pick_enc v20 v21 v22 v23 y).1.Ok F' (spec_l00Src_pick_enc v20 v21 v22 v23 y).2 :=
  fn_fin tok spec_l00Src_pick_hO mixed Try.func38 Try.call38 (by kernel_rfl) (LoopsOk_eq (l := []) (by kernel_rfl) trivial) (spec_l00Src_pick_den v20 v21 v22 v23) hy h0 hA
noncomputable def spec_l00Src_pick_F : DFn := fun args L =>
  match args with
  | [a1, .int .i64 v23] =>
    optT (genOf L 3 false a1) fun qg0 =>
    (match qg0.2 with
    | [a2, .int .i64 v21, .int .u64 v22] =>
    optT (rowU8 L a2) fun v20 =>
    (match sepB [qg0.1] [a2] with
    | true =>
    .call (spec_l00Src_pick_g v20 v21 v22 v23) fun y => .leaf (.int .i64 y.1, setB L [(qg0.1, .gen [a2, .int .i64 y.2.1, .int .u64 y.2.2] false (verAt L qg0.1))] ++ [])
    | false => .fail)
    | _ => .fail)
  | _ => .fail
theorem spec_l00Src_pick_Fok : COk Try.prog 38 spec_l00Src_pick_F false := by
  intro F L H args r L' hs ha hr
  unfold spec_l00Src_pick_F at hr
  split at hr
  · rename_i a1 v23
    obtain ⟨⟨jg0, cg0⟩, hg0, hr⟩ := optT_run hr
    simp only at hr
    split at hr
    · rename_i a2 v21 v22
      obtain ⟨hge0, hgu0, hga0, hgn0, hgc0, hgf0⟩ := genOf_spec hs (DVs.okAt ha 0 rfl) hg0
      obtain ⟨v20, hv20, hr⟩ := optT_run hr
      split at hr
      · rename_i hsep
        obtain ⟨hnd, hsepv⟩ := sepB_spec hsep
        simp only [Tree.run] at hr
        obtain ⟨y, hy, hr⟩ := Option.bind_eq_some_iff.1 hr
        try simp only [Tree.run] at hr
        simp only [Option.some.injEq, Prod.mk.injEq] at hr
        obtain ⟨rfl, rfl⟩ := hr
        exact mutG_ok hs [a1, a2] ⟨(DVs.okAt ha 0 rfl), (DVs.okAt hgc0 0 rfl), trivial⟩ [a1, .int .i64 v23] [.ptr 0 (0 : Nat) 0 (3 : Nat), .int .i64 v23] [jg0] [verAt L jg0] [.gen [.bslc (BR.root 1) (.u8 v20), .int .i64 v21, .int .u64 v22] false 0] [.gen [.bslc (BR.root 1) (.u8 v20), .int .i64 y.2.1, .int .u64 y.2.2] false 0] [.gen [a2, .int .i64 y.2.1, .int .u64 y.2.2] false (verAt L jg0)] [] hnd rfl rfl (fun j hj => by
            simp at hj
            subst hj; exact ex_gen hge0) (fun j hj => by
            simp at hj
            subst hj; exact reach_refs (by simp [DVs.refs, DV.refs, hgu0])) (fun F' h0 hρ ab hpl hS => by
            have ab0 := ab 0 _ rfl;
            refine ⟨fun i j b' h1 h2 => ?_, by simp [DBlk.blk, DVs.av, DV.av, BR.av, hρ, Row.len, hga0, ab0], fun hst => spec_l00Src_pick_fn v20 v21 v22 v23 F' hst ⟨⟨_, rfl, Nat.le_refl _, by decide, Nat.le_refl _, fun _ => rfl⟩, trivial, trivial⟩ hy⟩
            rcases i with _ | i
            · simp at h1 h2; subst h1; subst h2; obtain ⟨ver_, hv_⟩ := hge0; exact ⟨_, hv_, .gen _ _ _ _ _ _, by simp [DBlk.blk, DVs.av, DV.av, BR.av, hρ, Row.len, hga0, ab0], ⟨⟨bslcM hS (by rw [hρ]; rfl) (hsepv a2 (by simp)) (DVs.okAt hgc0 0 rfl) (rowU8_or hv20), trivial, trivial, trivial⟩, fun hf => by cases hf⟩⟩
            · simp at h1) rfl rfl (fun i j b b' h1 h2 h3 => by
            rcases i with _ | i
            · simp at h1; subst h1; cases h3; exact growG hge0 rfl h2
            · simp at h1)
      · cases hr
    · cases hr
  · cases hr
/-! spec.l02Blank -/
noncomputable def spec_l02Blank_LO (v36 v37 : Int) : LOr := fun id e L =>
  match id with
  | _ => .fail
noncomputable def spec_l02Blank_tab : List (FuncId × DFn × Bool) := []
theorem spec_l02Blank_hO : OrcOk Try.prog (tabD spec_l02Blank_tab) (tabM spec_l02Blank_tab) := tabD_nil _
noncomputable def spec_l02Blank_T (v36 v37 : Int) : Tree (Int × Int) :=
  .leaf (v36, v37)

noncomputable def spec_l02Blank_g (v36 v37 : Int) : Option (Int × Int) := (spec_l02Blank_T v36 v37).run
def spec_l02Blank_enc (v36 v37 : Int) (y : Int × Int) : Rs := (.agg [.int .i64 y.1, .int .i64 y.2, .own 0 0 ((([] : List Nat)).length)], [.row (.f32 ([] : List Nat)) 0])
theorem spec_l02Blank_den (v36 v37 : Int) : (den TT (tabD spec_l02Blank_tab) (tabM spec_l02Blank_tab) (spec_l02Blank_LO v36 v37) (codeOf Try.f52) ([.int .i64 v36, .int .i64 v37] ++ List.replicate (Try.f52.ntmps - ([.int .i64 v36, .int .i64 v37] : List DV).length) .undef) []).bind (retD TT Try.f52.results.toList 0) = (spec_l02Blank_T v36 v37).bind fun y => .leaf (spec_l02Blank_enc v36 v37 y) := by kernel_rfl
theorem spec_l02Blank_fn (v36 v37 : Int) (F : Fr) (h0 : St F [] F.H0) (hA : DVs.Ok F [] [.int .i64 v36, .int .i64 v37]) {y : Int × Int} (hy : spec_l02Blank_g v36 v37 = some y) : ∃ F' H', Fwd 0 F F' [] (spec_l02Blank_enc v36 v37 y).2 ∧ FnOk Try.prog 52 (DVs.av F [.int .i64 v36, .int .i64 v37]) F.H0 ((spec_l02Blank_enc v36 v37 y).1.av F') H' ∧ St F' (spec_l02Blank_enc v36 v37 y).2 H' ∧ (spec_l02Blank_enc v36 v37 y).1.Ok F' (spec_l02Blank_enc v36 v37 y).2 :=
  fn_fin tok spec_l02Blank_hO mixed Try.func52 Try.call52 (by kernel_rfl) (LoopsOk_eq (l := []) (by kernel_rfl) trivial) (spec_l02Blank_den v36 v37) hy h0 hA
def spec_l02Blank_v (v36 v37 : Int) : Int × Int :=
  (v36, v37)
theorem spec_l02Blank_tot (v36 v37 : Int) : spec_l02Blank_g v36 v37 = some (spec_l02Blank_v v36 v37) := by
  unfold spec_l02Blank_g spec_l02Blank_T spec_l02Blank_v
  simp only [Tree.run]
  repeat' (first | rfl | split)
noncomputable def spec_l02Blank_F : DFn := fun args L =>
  match args with
  | [.int .i64 v36, .int .i64 v37] =>
    .leaf (.agg [.int .i64 ((spec_l02Blank_v v36 v37).1), .int .i64 ((spec_l02Blank_v v36 v37).2), .own (L.length + 0) 0 ((([] : List Nat)).length)], L ++ [.row (.f32 ([] : List Nat)) 0])
  | _ => .fail
theorem spec_l02Blank_Fok : COk Try.prog 52 spec_l02Blank_F true := by
  intro F L H args r L' hs ha hr
  unfold spec_l02Blank_F at hr
  split at hr
  · rename_i v36 v37
    have hy := spec_l02Blank_tot v36 v37
    generalize spec_l02Blank_v v36 v37 = y at hy hr
    simp only [Tree.run, Option.some.injEq, Prod.mk.injEq] at hr
    obtain ⟨rfl, rfl⟩ := hr
    exact call_ok1 hs (fun k => (([] : List AV)[k]?).getD .top) [.int .i64 v36, .int .i64 v37] [.int .i64 v36, .int .i64 v37] (fun F' h0 hi hρ => ⟨by simp [DVs.av, DV.av, BR.av, hρ], spec_l02Blank_fn v36 v37 F' (st_nil hi) ⟨trivial, trivial, trivial⟩ hy⟩) rfl rfl
  · cases hr
/-! spec.l02DrawSides -/
noncomputable def spec_l02DrawSides_l0_T (v39 : List Int) (s : Int × Int × Int × (List Nat)) : Tree ((Int × Int × Int × (List Nat)) ⊕ (Int × Int × (List Nat))) :=
  (.br (decide ((0 : Int) < s.1)) (
  (.call (spec_l00Src_pick_g v39 s.2.1 s.2.2.1 (33 : Int)) fun v55 =>
  (.grd (fits (s.2.2.2 ++ ([fdiv .f32 (fofint .f32 (IntKind.i64.wrap (v55.1 - (16 : Int)))) (1082130432 : Nat)] : List Nat)).length) <|
  .leaf (.inl (IntKind.i64.wrap (s.1 - (1 : Int)), v55.2.1, v55.2.2, s.2.2.2 ++ ([fdiv .f32 (fofint .f32 (IntKind.i64.wrap (v55.1 - (16 : Int)))) (1082130432 : Nat)] : List Nat)))))
  ) (
  .leaf (.inr (s.2.1, s.2.2.1, s.2.2.2))
  ))

noncomputable def spec_l02DrawSides_l0_g (v39 : List Int) (s0 : Int × Int × Int × (List Nat)) : Option (Int × Int × (List Nat)) := whileM (fun s => (spec_l02DrawSides_l0_T v39 s).run) s0
def spec_l02DrawSides_l0_E (v39 : List Int) (v40 v41 v42 v43 : Int) (s : Int × Int × Int × (List Nat)) : Sd := ([.ptr 0 (0 : Nat) 0 (3 : Nat),Z,Z,Z,Z,Z,.ptr 1 (0 : Nat) 0 (3 : Nat),.ptr 2 (0 : Nat) 0 (3 : Nat),.int .i64 s.1,Z,Z,Z,Z,Z,Z,Z,Z,Z,Z,Z,Z,Z,Z,Z,Z,Z,Z,Z,Z,Z], [.gen [.bslc (BR.root 1) (.u8 v39), .int .i64 s.2.1, .int .u64 s.2.2.1] false 0, .gen [.int .i64 (0 : Int), .int .i64 (0 : Int), .nilslc] false 0, .gen [.int .i64 ((spec_l02Blank_v v42 v43).1), .int .i64 ((spec_l02Blank_v v42 v43).2), .own 3 0 ((s.2.2.2).length)] false 0, .row (.f32 s.2.2.2) 0])
def spec_l02DrawSides_l0_X (v39 : List Int) (v40 v41 v42 v43 : Int) (x : Int × Int × (List Nat)) : Out := (.normal, [Z,Z,Z,Z,Z,Z,.ptr 1 (0 : Nat) 0 (3 : Nat),.ptr 2 (0 : Nat) 0 (3 : Nat),Z,Z,Z,Z,Z,Z,Z,Z,Z,Z,Z,Z,Z,Z,Z,Z,Z,Z,Z,Z,Z,Z], [.gen [.bslc (BR.root 1) (.u8 v39), .int .i64 x.1, .int .u64 x.2.1] false 0, .gen [.int .i64 (0 : Int), .int .i64 (0 : Int), .nilslc] false 0, .gen [.int .i64 ((spec_l02Blank_v v42 v43).1), .int .i64 ((spec_l02Blank_v v42 v43).2), .own 3 0 ((x.2.2).length)] false 0, .row (.f32 x.2.2) 0])
def spec_l02DrawSides_l0_kill : List Nat := KL true [0,1,5,3,21]
def spec_l02DrawSides_l0_nx : Exit → List Nat
  | .exit 0 => KL true [6,2,22]
  | .ret => KL true [6,1,23]
  | _ => []
noncomputable def spec_l02DrawSides_LO (v39 : List Int) (v40 v41 v42 v43 : Int) : LOr := fun id e L =>
  match id with
  | 0 => .need (normA 1 spec_l02DrawSides_l0_kill e L = some (spec_l02DrawSides_l0_E v39 v40 v41 v42 v43 ((gI (vAt e 8)), (gI (cAt L (vAt e 0) 1)), (gI (cAt L (vAt e 0) 2)), (gRF L (cAt L (vAt e 7) 2))))) (.call (spec_l02DrawSides_l0_g v39 ((gI (vAt e 8)), (gI (cAt L (vAt e 0) 1)), (gI (cAt L (vAt e 0) 2)), (gRF L (cAt L (vAt e 7) 2)))) fun x => .leaf (spec_l02DrawSides_l0_X v39 v40 v41 v42 v43 x))
  | _ => .fail
noncomputable def spec_l02DrawSides_tab : List (FuncId × DFn × Bool) := [(52, spec_l02Blank_F, true), (38, spec_l00Src_pick_F, false)]
theorem spec_l02DrawSides_hO : OrcOk Try.prog (tabD spec_l02DrawSides_tab) (tabM spec_l02DrawSides_tab) := tabD_cons spec_l02Blank_Fok (tabD_cons spec_l00Src_pick_Fok (tabD_nil _))
theorem spec_l02DrawSides_l0_be (v39 : List Int) (v40 v41 v42 v43 : Int) (s : Int × Int × Int × (List Nat)) : bodyT TT (tabD spec_l02DrawSides_tab) (tabM spec_l02DrawSides_tab) (spec_l02DrawSides_LO v39 v40 v41 v42 v43) 1 spec_l02DrawSides_l0_kill spec_l02DrawSides_l0_nx (bodyOf Try.f39 0) 0 (spec_l02DrawSides_l0_E v39 v40 v41 v42 v43 s) = (spec_l02DrawSides_l0_T v39 s).bind fun y => .leaf (outS (spec_l02DrawSides_l0_E v39 v40 v41 v42 v43) (spec_l02DrawSides_l0_X v39 v40 v41 v42 v43) y) := by kernel_rfl
theorem spec_l02DrawSides_l0_ok (v39 : List Int) (v40 v41 v42 v43 : Int) : LSound Try.prog 1 (spec_l02DrawSides_LO v39 v40 v41 v42 v43) 0 (bodyOf Try.f39 0) := by
  intro e L out h
  exact lo_ok (E := spec_l02DrawSides_l0_E v39 v40 v41 v42 v43) (gT := spec_l02DrawSides_l0_T v39) (X := spec_l02DrawSides_l0_X v39 v40 v41 v42 v43) (s0 := ((gI (vAt e 8)), (gI (cAt L (vAt e 0) 1)), (gI (cAt L (vAt e 0) 2)), (gRF L (cAt L (vAt e 7) 2)))) tok spec_l02DrawSides_hO mixed (LoopsOk_eq (l := []) (by kernel_rfl) trivial) (spec_l02DrawSides_l0_be v39 v40 v41 v42 v43) rfl (by intro x; rfl) h
noncomputable def spec_l02DrawSides_T (v39 : List Int) (v40 v41 v42 v43 : Int) : Tree (Int × Int × Int × Int × (List Nat)) :=
  (.need (some (spec_l02DrawSides_l0_E v39 v40 v41 v42 v43 (IntKind.i64.wrap (v42 * v43), v40, v41, ([] : List Nat))) = some (spec_l02DrawSides_l0_E v39 v40 v41 v42 v43 (IntKind.i64.wrap (v42 * v43), v40, v41, ([] : List Nat)))) <|
  (.call (spec_l02DrawSides_l0_g v39 (IntKind.i64.wrap (v42 * v43), v40, v41, ([] : List Nat))) fun v56 =>
  .leaf ((spec_l02Blank_v v42 v43).1, (spec_l02Blank_v v42 v43).2, v56.1, v56.2.1, v56.2.2)))

noncomputable def spec_l02DrawSides_g (v39 : List Int) (v40 v41 v42 v43 : Int) : Option (Int × Int × Int × Int × (List Nat)) := (spec_l02DrawSides_T v39 v40 v41 v42 v43).run
def spec_l02DrawSides_enc (v39 : List Int) (v40 v41 v42 v43 : Int) (y : Int × Int × Int × Int × (List Nat)) : Rs := (.agg [.int .i64 y.1, .int .i64 y.2.1, .own 1 0 ((y.2.2.2.2).length)], [.gen [.bslc (BR.root 1) (.u8 v39), .int .i64 y.2.2.1, .int .u64 y.2.2.2.1] false 0, .row (.f32 y.2.2.2.2) 0])
theorem spec_l02DrawSides_den (v39 : List Int) (v40 v41 v42 v43 : Int) : (den TT (tabD spec_l02DrawSides_tab) (tabM spec_l02DrawSides_tab) (spec_l02DrawSides_LO v39 v40 v41 v42 v43) (codeOf Try.f39) ([.ptr 0 (0 : Nat) 0 (3 : Nat), .int .i64 v42, .int .i64 v43] ++ List.replicate (Try.f39.ntmps - ([.ptr 0 (0 : Nat) 0 (3 : Nat), .int .i64 v42, .int .i64 v43] : List DV).length) .undef) [.gen [.bslc (BR.root 1) (.u8 v39), .int .i64 v40, .int .u64 v41] false 0]).bind (retD TT Try.f39.results.toList 1) = (spec_l02DrawSides_T v39 v40 v41 v42 v43).bind fun y => .leaf (spec_l02DrawSides_enc v39 v40 v41 v42 v43 y) := by kernel_rfl
theorem spec_l02DrawSides_fn (v39 : List Int) (v40 v41 v42 v43 : Int) (F : Fr) (h0 : St F [.gen [.bslc (BR.root 1) (.u8 v39), .int .i64 v40, .int .u64 v41] false 0] F.H0) (hA : DVs.Ok F [.gen [.bslc (BR.root 1) (.u8 v39), .int .i64 v40, .int .u64 v41] false 0] [.ptr 0 (0 : Nat) 0 (3 : Nat), .int .i64 v42, .int .i64 v43]) {y : Int × Int × Int × Int × (List Nat)} (hy : spec_l02DrawSides_g v39 v40 v41 v42 v43 = some y) : ∃ F' H', Fwd 1 F F' [.gen [.bslc (BR.root 1) (.u8 v39), .int .i64 v40, .int .u64 v41] false 0] (spec_l02DrawSides_enc v39 v40 v41 v42 v43 y).2 ∧ FnOk Try.prog 39 (DVs.av F [.ptr 0 (0 : Nat) 0 (3 : Nat), .int .i64 v42, .int .i64 v43]) F.H0 ((spec_l02DrawSides_enc v39 v40 v41 v42 v43 y).1.av F') H' ∧ St F' (spec_l02DrawSides_enc v39 v40 v41 v42 v43 y).2 H' ∧ (spec_l02DrawSides_enc v39 v40 v41 v42 v43 y).1.Ok F' (spec_l02DrawSides_enc v39 v40 v41 v42 v43 y).2 :=
  fn_fin tok spec_l02DrawSides_hO mixed Try.func39 Try.call39 (by kernel_rfl) (LoopsOk_eq (l := [(0, bodyOf Try.f39 0)]) (by kernel_rfl) ⟨spec_l02DrawSides_l0_ok v39 v40 v41 v42 v43, trivial⟩) (spec_l02DrawSides_den v39 v40 v41 v42 v43) hy h0 hA
noncomputable def spec_l02DrawSides_F : DFn := fun args L =>
  match args with
  | [a1, .int .i64 v42, .int .i64 v43] =>
    optT (genOf L 3 false a1) fun qg0 =>
    (match qg0.2 with
    | [a2, .int .i64 v40, .int .u64 v41] =>
    optT (rowU8 L a2) fun v39 =>
    (match sepB [qg0.1] [a2] with
    | true =>
    .call (spec_l02DrawSides_g v39 v40 v41 v42 v43) fun y => .leaf (.agg [.int .i64 y.1, .int .i64 y.2.1, .own (L.length + 0) 0 ((y.2.2.2.2).length)], setB L [(qg0.1, .gen [a2, .int .i64 y.2.2.1, .int .u64 y.2.2.2.1] false (verAt L qg0.1))] ++ [.row (.f32 y.2.2.2.2) 0])
    | false => .fail)
    | _ => .fail)
  | _ => .fail
theorem spec_l02DrawSides_Fok : COk Try.prog 39 spec_l02DrawSides_F false := by
  intro F L H args r L' hs ha hr
  unfold spec_l02DrawSides_F at hr
  split at hr
  · rename_i a1 v42 v43
    obtain ⟨⟨jg0, cg0⟩, hg0, hr⟩ := optT_run hr
    simp only at hr
    split at hr
    · rename_i a2 v40 v41
      obtain ⟨hge0, hgu0, hga0, hgn0, hgc0, hgf0⟩ := genOf_spec hs (DVs.okAt ha 0 rfl) hg0
      obtain ⟨v39, hv39, hr⟩ := optT_run hr
      split at hr
      · rename_i hsep
        obtain ⟨hnd, hsepv⟩ := sepB_spec hsep
        simp only [Tree.run] at hr
        obtain ⟨y, hy, hr⟩ := Option.bind_eq_some_iff.1 hr
        try simp only [Tree.run] at hr
        simp only [Option.some.injEq, Prod.mk.injEq] at hr
        obtain ⟨rfl, rfl⟩ := hr
        exact mutG_ok hs [a1, a2] ⟨(DVs.okAt ha 0 rfl), (DVs.okAt hgc0 0 rfl), trivial⟩ [a1, .int .i64 v42, .int .i64 v43] [.ptr 0 (0 : Nat) 0 (3 : Nat), .int .i64 v42, .int .i64 v43] [jg0] [verAt L jg0] [.gen [.bslc (BR.root 1) (.u8 v39), .int .i64 v40, .int .u64 v41] false 0] [.gen [.bslc (BR.root 1) (.u8 v39), .int .i64 y.2.2.1, .int .u64 y.2.2.2.1] false 0, .row (.f32 y.2.2.2.2) 0] [.gen [a2, .int .i64 y.2.2.1, .int .u64 y.2.2.2.1] false (verAt L jg0)] [.row (.f32 y.2.2.2.2) 0] hnd rfl rfl (fun j hj => by
            simp at hj
            subst hj; exact ex_gen hge0) (fun j hj => by
            simp at hj
            subst hj; exact reach_refs (by simp [DVs.refs, DV.refs, hgu0])) (fun F' h0 hρ ab hpl hS => by
            have ab0 := ab 0 _ rfl;
            refine ⟨fun i j b' h1 h2 => ?_, by simp [DBlk.blk, DVs.av, DV.av, BR.av, hρ, Row.len, hga0, ab0], fun hst => spec_l02DrawSides_fn v39 v40 v41 v42 v43 F' hst ⟨⟨_, rfl, Nat.le_refl _, by decide, Nat.le_refl _, fun _ => rfl⟩, trivial, trivial, trivial⟩ hy⟩
            rcases i with _ | i
            · simp at h1 h2; subst h1; subst h2; obtain ⟨ver_, hv_⟩ := hge0; exact ⟨_, hv_, .gen _ _ _ _ _ _, by simp [DBlk.blk, DVs.av, DV.av, BR.av, hρ, Row.len, hga0, ab0], ⟨⟨bslcM hS (by rw [hρ]; rfl) (hsepv a2 (by simp)) (DVs.okAt hgc0 0 rfl) (rowU8_or hv39), trivial, trivial, trivial⟩, fun hf => by cases hf⟩⟩
            · simp at h1) rfl rfl (fun i j b b' h1 h2 h3 => by
            rcases i with _ | i
            · simp at h1; subst h1; cases h3; exact growG hge0 rfl h2
            · simp at h1)
      · cases hr
    · cases hr
  · cases hr
/-! spec.l02DrawOk -/
noncomputable def spec_l02DrawOk_LO (v26 : List Int) (v27 v28 : Int) : LOr := fun id e L =>
  match id with
  | _ => .fail
noncomputable def spec_l02DrawOk_tab : List (FuncId × DFn × Bool) := [(38, spec_l00Src_pick_F, false), (39, spec_l02DrawSides_F, false)]
theorem spec_l02DrawOk_hO : OrcOk Try.prog (tabD spec_l02DrawOk_tab) (tabM spec_l02DrawOk_tab) := tabD_cons spec_l00Src_pick_Fok (tabD_cons spec_l02DrawSides_Fok (tabD_nil _))
noncomputable def spec_l02DrawOk_T (v26 : List Int) (v27 v28 : Int) : Tree (Int × Int × Int × Int × (List Nat)) :=
  (.call (spec_l00Src_pick_g v26 v27 v28 (5 : Int)) fun v29 =>
  (.call (spec_l00Src_pick_g v26 v29.2.1 v29.2.2 (5 : Int)) fun v30 =>
  (.call (spec_l02DrawSides_g v26 v30.2.1 v30.2.2 (IntKind.i64.wrap ((1 : Int) + v29.1)) (IntKind.i64.wrap ((1 : Int) + v30.1))) fun v57 =>
  .leaf (v57.1, v57.2.1, v57.2.2.1, v57.2.2.2.1, v57.2.2.2.2))))

noncomputable def spec_l02DrawOk_g (v26 : List Int) (v27 v28 : Int) : Option (Int × Int × Int × Int × (List Nat)) := (spec_l02DrawOk_T v26 v27 v28).run
def spec_l02DrawOk_enc (v26 : List Int) (v27 v28 : Int) (y : Int × Int × Int × Int × (List Nat)) : Rs := (.agg [.int .i64 y.1, .int .i64 y.2.1, .own 1 0 ((y.2.2.2.2).length)], [.gen [.bslc (BR.root 1) (.u8 v26), .int .i64 y.2.2.1, .int .u64 y.2.2.2.1] false 0, .row (.f32 y.2.2.2.2) 0])
theorem spec_l02DrawOk_den (v26 : List Int) (v27 v28 : Int) : (den TT (tabD spec_l02DrawOk_tab) (tabM spec_l02DrawOk_tab) (spec_l02DrawOk_LO v26 v27 v28) (codeOf Try.f19) ([.ptr 0 (0 : Nat) 0 (3 : Nat)] ++ List.replicate (Try.f19.ntmps - ([.ptr 0 (0 : Nat) 0 (3 : Nat)] : List DV).length) .undef) [.gen [.bslc (BR.root 1) (.u8 v26), .int .i64 v27, .int .u64 v28] false 0]).bind (retD TT Try.f19.results.toList 1) = (spec_l02DrawOk_T v26 v27 v28).bind fun y => .leaf (spec_l02DrawOk_enc v26 v27 v28 y) := by kernel_rfl
theorem spec_l02DrawOk_fn (v26 : List Int) (v27 v28 : Int) (F : Fr) (h0 : St F [.gen [.bslc (BR.root 1) (.u8 v26), .int .i64 v27, .int .u64 v28] false 0] F.H0) (hA : DVs.Ok F [.gen [.bslc (BR.root 1) (.u8 v26), .int .i64 v27, .int .u64 v28] false 0] [.ptr 0 (0 : Nat) 0 (3 : Nat)]) {y : Int × Int × Int × Int × (List Nat)} (hy : spec_l02DrawOk_g v26 v27 v28 = some y) : ∃ F' H', Fwd 1 F F' [.gen [.bslc (BR.root 1) (.u8 v26), .int .i64 v27, .int .u64 v28] false 0] (spec_l02DrawOk_enc v26 v27 v28 y).2 ∧ FnOk Try.prog 19 (DVs.av F [.ptr 0 (0 : Nat) 0 (3 : Nat)]) F.H0 ((spec_l02DrawOk_enc v26 v27 v28 y).1.av F') H' ∧ St F' (spec_l02DrawOk_enc v26 v27 v28 y).2 H' ∧ (spec_l02DrawOk_enc v26 v27 v28 y).1.Ok F' (spec_l02DrawOk_enc v26 v27 v28 y).2 :=
  fn_fin tok spec_l02DrawOk_hO mixed Try.func19 Try.call19 (by kernel_rfl) (LoopsOk_eq (l := []) (by kernel_rfl) trivial) (spec_l02DrawOk_den v26 v27 v28) hy h0 hA
noncomputable def spec_l02DrawOk_F : DFn := fun args L =>
  match args with
  | [a1] =>
    optT (genOf L 3 false a1) fun qg0 =>
    (match qg0.2 with
    | [a2, .int .i64 v27, .int .u64 v28] =>
    optT (rowU8 L a2) fun v26 =>
    (match sepB [qg0.1] [a2] with
    | true =>
    .call (spec_l02DrawOk_g v26 v27 v28) fun y => .leaf (.agg [.int .i64 y.1, .int .i64 y.2.1, .own (L.length + 0) 0 ((y.2.2.2.2).length)], setB L [(qg0.1, .gen [a2, .int .i64 y.2.2.1, .int .u64 y.2.2.2.1] false (verAt L qg0.1))] ++ [.row (.f32 y.2.2.2.2) 0])
    | false => .fail)
    | _ => .fail)
  | _ => .fail
theorem spec_l02DrawOk_Fok : COk Try.prog 19 spec_l02DrawOk_F false := by
  intro F L H args r L' hs ha hr
  unfold spec_l02DrawOk_F at hr
  split at hr
  · rename_i a1
    obtain ⟨⟨jg0, cg0⟩, hg0, hr⟩ := optT_run hr
    simp only at hr
    split at hr
    · rename_i a2 v27 v28
      obtain ⟨hge0, hgu0, hga0, hgn0, hgc0, hgf0⟩ := genOf_spec hs (DVs.okAt ha 0 rfl) hg0
      obtain ⟨v26, hv26, hr⟩ := optT_run hr
      split at hr
      · rename_i hsep
        obtain ⟨hnd, hsepv⟩ := sepB_spec hsep
        simp only [Tree.run] at hr
        obtain ⟨y, hy, hr⟩ := Option.bind_eq_some_iff.1 hr
        try simp only [Tree.run] at hr
        simp only [Option.some.injEq, Prod.mk.injEq] at hr
        obtain ⟨rfl, rfl⟩ := hr
        exact mutG_ok hs [a1, a2] ⟨(DVs.okAt ha 0 rfl), (DVs.okAt hgc0 0 rfl), trivial⟩ [a1] [.ptr 0 (0 : Nat) 0 (3 : Nat)] [jg0] [verAt L jg0] [.gen [.bslc (BR.root 1) (.u8 v26), .int .i64 v27, .int .u64 v28] false 0] [.gen [.bslc (BR.root 1) (.u8 v26), .int .i64 y.2.2.1, .int .u64 y.2.2.2.1] false 0, .row (.f32 y.2.2.2.2) 0] [.gen [a2, .int .i64 y.2.2.1, .int .u64 y.2.2.2.1] false (verAt L jg0)] [.row (.f32 y.2.2.2.2) 0] hnd rfl rfl (fun j hj => by
            simp at hj
            subst hj; exact ex_gen hge0) (fun j hj => by
            simp at hj
            subst hj; exact reach_refs (by simp [DVs.refs, DV.refs, hgu0])) (fun F' h0 hρ ab hpl hS => by
            have ab0 := ab 0 _ rfl;
            refine ⟨fun i j b' h1 h2 => ?_, by simp [DBlk.blk, DVs.av, DV.av, BR.av, hρ, Row.len, hga0, ab0], fun hst => spec_l02DrawOk_fn v26 v27 v28 F' hst ⟨⟨_, rfl, Nat.le_refl _, by decide, Nat.le_refl _, fun _ => rfl⟩, trivial⟩ hy⟩
            rcases i with _ | i
            · simp at h1 h2; subst h1; subst h2; obtain ⟨ver_, hv_⟩ := hge0; exact ⟨_, hv_, .gen _ _ _ _ _ _, by simp [DBlk.blk, DVs.av, DV.av, BR.av, hρ, Row.len, hga0, ab0], ⟨⟨bslcM hS (by rw [hρ]; rfl) (hsepv a2 (by simp)) (DVs.okAt hgc0 0 rfl) (rowU8_or hv26), trivial, trivial, trivial⟩, fun hf => by cases hf⟩⟩
            · simp at h1) rfl rfl (fun i j b b' h1 h2 h3 => by
            rcases i with _ | i
            · simp at h1; subst h1; cases h3; exact growG hge0 rfl h2
            · simp at h1)
      · cases hr
    · cases hr
  · cases hr
/-! spec.R8Matrix -/
noncomputable def spec_R8Matrix_LO (v5 : List Int) : LOr := fun id e L =>
  match id with
  | _ => .fail
noncomputable def spec_R8Matrix_tab : List (FuncId × DFn × Bool) := [(18, spec_l00From_F, true), (19, spec_l02DrawOk_F, false)]
theorem spec_R8Matrix_hO : OrcOk Try.prog (tabD spec_R8Matrix_tab) (tabM spec_R8Matrix_tab) := tabD_cons spec_l00From_Fok (tabD_cons spec_l02DrawOk_Fok (tabD_nil _))
noncomputable def spec_R8Matrix_T (v5 : List Int) : Tree (Int × Int × (List Nat)) :=
  (.call (spec_l02DrawOk_g v5 (0 : Int) (0 : Int)) fun v58 =>
  .leaf (v58.1, v58.2.1, v58.2.2.2.2))

noncomputable def spec_R8Matrix_g (v5 : List Int) : Option (Int × Int × (List Nat)) := (spec_R8Matrix_T v5).run
def spec_R8Matrix_enc (v5 : List Int) (y : Int × Int × (List Nat)) : Rs := (.agg [.int .i64 y.1, .int .i64 y.2.1, .own 0 0 ((y.2.2).length)], [.row (.f32 y.2.2) 0])
theorem spec_R8Matrix_den (v5 : List Int) : (den TT (tabD spec_R8Matrix_tab) (tabM spec_R8Matrix_tab) (spec_R8Matrix_LO v5) (codeOf Try.f5) ([.bslc (BR.root 0) (.u8 v5)] ++ List.replicate (Try.f5.ntmps - ([.bslc (BR.root 0) (.u8 v5)] : List DV).length) .undef) []).bind (retD TT Try.f5.results.toList 0) = (spec_R8Matrix_T v5).bind fun y => .leaf (spec_R8Matrix_enc v5 y) := by kernel_rfl
theorem spec_R8Matrix_fn (v5 : List Int) (F : Fr) (h0 : St F [] F.H0) (hA : DVs.Ok F [] [.bslc (BR.root 0) (.u8 v5)]) {y : Int × Int × (List Nat)} (hy : spec_R8Matrix_g v5 = some y) : ∃ F' H', Fwd 0 F F' [] (spec_R8Matrix_enc v5 y).2 ∧ FnOk Try.prog 5 (DVs.av F [.bslc (BR.root 0) (.u8 v5)]) F.H0 ((spec_R8Matrix_enc v5 y).1.av F') H' ∧ St F' (spec_R8Matrix_enc v5 y).2 H' ∧ (spec_R8Matrix_enc v5 y).1.Ok F' (spec_R8Matrix_enc v5 y).2 :=
  fn_fin tok spec_R8Matrix_hO mixed Try.func5 Try.call5 (by kernel_rfl) (LoopsOk_eq (l := []) (by kernel_rfl) trivial) (spec_R8Matrix_den v5) hy h0 hA
noncomputable def spec_R8Matrix_F : DFn := fun args L =>
  match args with
  | [a1] =>
    optT (rowU8 L a1) fun v5 =>
    .call (spec_R8Matrix_g v5) fun y => .leaf (.agg [.int .i64 y.1, .int .i64 y.2.1, .own (L.length + 0) 0 ((y.2.2).length)], L ++ [.row (.f32 y.2.2) 0])
  | _ => .fail
theorem spec_R8Matrix_Fok : COk Try.prog 5 spec_R8Matrix_F true := by
  intro F L H args r L' hs ha hr
  unfold spec_R8Matrix_F at hr
  split at hr
  · rename_i a1
    obtain ⟨v5, hv5, hr⟩ := optT_run hr
    simp only [Tree.run] at hr
    obtain ⟨y, hy, hr⟩ := Option.bind_eq_some_iff.1 hr
    simp only [Tree.run, Option.some.injEq, Prod.mk.injEq] at hr
    obtain ⟨rfl, rfl⟩ := hr
    exact call_ok1 hs (fun k => (([a1.av F] : List AV)[k]?).getD .top) [a1] [.bslc (BR.root 0) (.u8 v5)] (fun F' h0 hi hρ => ⟨by simp [DVs.av, DV.av, BR.av, hρ], spec_R8Matrix_fn v5 F' (st_nil hi) ⟨bslc_ok hi (by rw [h0, hρ]; exact rowU8_ok hs (DVs.okAt ha 0 rfl) hv5), trivial⟩ hy⟩) rfl rfl
  · cases hr
/-! impl.inRange -/
noncomputable def impl_inRange_LO (v67 v68 v69 : Int) : LOr := fun id e L =>
  match id with
  | _ => .fail
noncomputable def impl_inRange_tab : List (FuncId × DFn × Bool) := []
theorem impl_inRange_hO : OrcOk Try.prog (tabD impl_inRange_tab) (tabM impl_inRange_tab) := tabD_nil _
noncomputable def impl_inRange_T (v67 v68 v69 : Int) : Tree (Bool) :=
  (.br (decide (v68 ≤ v67)) (
  .leaf (decide (v67 ≤ v69))
  ) (
  .leaf false
  ))

noncomputable def impl_inRange_g (v67 v68 v69 : Int) : Option (Bool) := (impl_inRange_T v67 v68 v69).run
def impl_inRange_enc (v67 v68 v69 : Int) (y : Bool) : Rs := (.bool y, [])
theorem impl_inRange_den (v67 v68 v69 : Int) : (den TT (tabD impl_inRange_tab) (tabM impl_inRange_tab) (impl_inRange_LO v67 v68 v69) (codeOf Try.f31) ([.int .i64 v67, .int .i64 v68, .int .i64 v69] ++ List.replicate (Try.f31.ntmps - ([.int .i64 v67, .int .i64 v68, .int .i64 v69] : List DV).length) .undef) []).bind (retD TT Try.f31.results.toList 0) = (impl_inRange_T v67 v68 v69).bind fun y => .leaf (impl_inRange_enc v67 v68 v69 y) := by kernel_rfl
theorem impl_inRange_fn (v67 v68 v69 : Int) (F : Fr) (h0 : St F [] F.H0) (hA : DVs.Ok F [] [.int .i64 v67, .int .i64 v68, .int .i64 v69]) {y : Bool} (hy : impl_inRange_g v67 v68 v69 = some y) : ∃ F' H', Fwd 0 F F' [] (impl_inRange_enc v67 v68 v69 y).2 ∧ FnOk Try.prog 31 (DVs.av F [.int .i64 v67, .int .i64 v68, .int .i64 v69]) F.H0 ((impl_inRange_enc v67 v68 v69 y).1.av F') H' ∧ St F' (impl_inRange_enc v67 v68 v69 y).2 H' ∧ (impl_inRange_enc v67 v68 v69 y).1.Ok F' (impl_inRange_enc v67 v68 v69 y).2 :=
  fn_fin tok impl_inRange_hO mixed Try.func31 Try.call31 (by kernel_rfl) (LoopsOk_eq (l := []) (by kernel_rfl) trivial) (impl_inRange_den v67 v68 v69) hy h0 hA
def impl_inRange_v (v67 v68 v69 : Int) : Bool :=
  if (decide (v68 ≤ v67)) = true then (
  decide (v67 ≤ v69)
  ) else (
  false
  )
theorem impl_inRange_tot (v67 v68 v69 : Int) : impl_inRange_g v67 v68 v69 = some (impl_inRange_v v67 v68 v69) := by
  unfold impl_inRange_g impl_inRange_T impl_inRange_v
  simp only [Tree.run]
  repeat' (first | rfl | split)
noncomputable def impl_inRange_F : DFn := fun args L =>
  match args with
  | [.int .i64 v67, .int .i64 v68, .int .i64 v69] =>
    .leaf (.bool (impl_inRange_v v67 v68 v69), L)
  | _ => .fail
theorem impl_inRange_Fok : COk Try.prog 31 impl_inRange_F true := by
  intro F L H args r L' hs ha hr
  unfold impl_inRange_F at hr
  split at hr
  · rename_i v67 v68 v69
    have hy := impl_inRange_tot v67 v68 v69
    generalize impl_inRange_v v67 v68 v69 = y at hy hr
    simp only [Tree.run, Option.some.injEq, Prod.mk.injEq] at hr
    obtain ⟨rfl, rfl⟩ := hr
    exact call_ok0 hs (fun k => (([] : List AV)[k]?).getD .top) [.int .i64 v67, .int .i64 v68, .int .i64 v69] [.int .i64 v67, .int .i64 v68, .int .i64 v69] (fun F' h0 hi hρ => ⟨by simp [DVs.av, DV.av, BR.av, hρ], impl_inRange_fn v67 v68 v69 F' (st_nil hi) ⟨trivial, trivial, trivial, trivial⟩ hy⟩) rfl
  · cases hr
/-! impl.isSide -/
noncomputable def impl_isSide_LO (v66 : Int) : LOr := fun id e L =>
  match id with
  | _ => .fail
noncomputable def impl_isSide_tab : List (FuncId × DFn × Bool) := [(31, impl_inRange_F, true)]
theorem impl_isSide_hO : OrcOk Try.prog (tabD impl_isSide_tab) (tabM impl_isSide_tab) := tabD_cons impl_inRange_Fok (tabD_nil _)
noncomputable def impl_isSide_T (v66 : Int) : Tree (Bool) :=
  .leaf (impl_inRange_v v66 (1 : Int) (12 : Int))

noncomputable def impl_isSide_g (v66 : Int) : Option (Bool) := (impl_isSide_T v66).run
def impl_isSide_enc (v66 : Int) (y : Bool) : Rs := (.bool y, [])
theorem impl_isSide_den (v66 : Int) : (den TT (tabD impl_isSide_tab) (tabM impl_isSide_tab) (impl_isSide_LO v66) (codeOf Try.f30) ([.int .i64 v66] ++ List.replicate (Try.f30.ntmps - ([.int .i64 v66] : List DV).length) .undef) []).bind (retD TT Try.f30.results.toList 0) = (impl_isSide_T v66).bind fun y => .leaf (impl_isSide_enc v66 y) := by kernel_rfl
theorem impl_isSide_fn (v66 : Int) (F : Fr) (h0 : St F [] F.H0) (hA : DVs.Ok F [] [.int .i64 v66]) {y : Bool} (hy : impl_isSide_g v66 = some y) : ∃ F' H', Fwd 0 F F' [] (impl_isSide_enc v66 y).2 ∧ FnOk Try.prog 30 (DVs.av F [.int .i64 v66]) F.H0 ((impl_isSide_enc v66 y).1.av F') H' ∧ St F' (impl_isSide_enc v66 y).2 H' ∧ (impl_isSide_enc v66 y).1.Ok F' (impl_isSide_enc v66 y).2 :=
  fn_fin tok impl_isSide_hO mixed Try.func30 Try.call30 (by kernel_rfl) (LoopsOk_eq (l := []) (by kernel_rfl) trivial) (impl_isSide_den v66) hy h0 hA
def impl_isSide_v (v66 : Int) : Bool :=
  (impl_inRange_v v66 (1 : Int) (12 : Int))
theorem impl_isSide_tot (v66 : Int) : impl_isSide_g v66 = some (impl_isSide_v v66) := by
  unfold impl_isSide_g impl_isSide_T impl_isSide_v
  simp only [Tree.run]
  repeat' (first | rfl | split)
noncomputable def impl_isSide_F : DFn := fun args L =>
  match args with
  | [.int .i64 v66] =>
    .leaf (.bool (impl_isSide_v v66), L)
  | _ => .fail
theorem impl_isSide_Fok : COk Try.prog 30 impl_isSide_F true := by
  intro F L H args r L' hs ha hr
  unfold impl_isSide_F at hr
  split at hr
  · rename_i v66
    have hy := impl_isSide_tot v66
    generalize impl_isSide_v v66 = y at hy hr
    simp only [Tree.run, Option.some.injEq, Prod.mk.injEq] at hr
    obtain ⟨rfl, rfl⟩ := hr
    exact call_ok0 hs (fun k => (([] : List AV)[k]?).getD .top) [.int .i64 v66] [.int .i64 v66] (fun F' h0 hi hρ => ⟨by simp [DVs.av, DV.av, BR.av, hρ], impl_isSide_fn v66 F' (st_nil hi) ⟨trivial, trivial⟩ hy⟩) rfl
  · cases hr
/-! impl.length[float32] -/
noncomputable def impl_lengthF_LO (v70 : List Nat) : LOr := fun id e L =>
  match id with
  | _ => .fail
noncomputable def impl_lengthF_tab : List (FuncId × DFn × Bool) := []
theorem impl_lengthF_hO : OrcOk Try.prog (tabD impl_lengthF_tab) (tabM impl_lengthF_tab) := tabD_nil _
noncomputable def impl_lengthF_T (v70 : List Nat) : Tree (Int) :=
  .leaf ((v70.length : Nat) : Int)

noncomputable def impl_lengthF_g (v70 : List Nat) : Option (Int) := (impl_lengthF_T v70).run
def impl_lengthF_enc (v70 : List Nat) (y : Int) : Rs := (.int .i64 y, [])
theorem impl_lengthF_den (v70 : List Nat) : (den TT (tabD impl_lengthF_tab) (tabM impl_lengthF_tab) (impl_lengthF_LO v70) (codeOf Try.f27) ([.bslc (BR.root 0) (.f32 v70)] ++ List.replicate (Try.f27.ntmps - ([.bslc (BR.root 0) (.f32 v70)] : List DV).length) .undef) []).bind (retD TT Try.f27.results.toList 0) = (impl_lengthF_T v70).bind fun y => .leaf (impl_lengthF_enc v70 y) := by kernel_rfl
theorem impl_lengthF_fn (v70 : List Nat) (F : Fr) (h0 : St F [] F.H0) (hA : DVs.Ok F [] [.bslc (BR.root 0) (.f32 v70)]) {y : Int} (hy : impl_lengthF_g v70 = some y) : ∃ F' H', Fwd 0 F F' [] (impl_lengthF_enc v70 y).2 ∧ FnOk Try.prog 27 (DVs.av F [.bslc (BR.root 0) (.f32 v70)]) F.H0 ((impl_lengthF_enc v70 y).1.av F') H' ∧ St F' (impl_lengthF_enc v70 y).2 H' ∧ (impl_lengthF_enc v70 y).1.Ok F' (impl_lengthF_enc v70 y).2 :=
  fn_fin tok impl_lengthF_hO mixed Try.func27 Try.call27 (by kernel_rfl) (LoopsOk_eq (l := []) (by kernel_rfl) trivial) (impl_lengthF_den v70) hy h0 hA
def impl_lengthF_v (v70 : List Nat) : Int :=
  ((v70.length : Nat) : Int)
theorem impl_lengthF_tot (v70 : List Nat) : impl_lengthF_g v70 = some (impl_lengthF_v v70) := by
  unfold impl_lengthF_g impl_lengthF_T impl_lengthF_v
  simp only [Tree.run]
  repeat' (first | rfl | split)
noncomputable def impl_lengthF_F : DFn := fun args L =>
  match args with
  | [a1] =>
    optT (rowF32 L a1) fun v70 =>
    .leaf (.int .i64 (impl_lengthF_v v70), L)
  | _ => .fail
theorem impl_lengthF_Fok : COk Try.prog 27 impl_lengthF_F true := by
  intro F L H args r L' hs ha hr
  unfold impl_lengthF_F at hr
  split at hr
  · rename_i a1
    obtain ⟨v70, hv70, hr⟩ := optT_run hr
    have hy := impl_lengthF_tot v70
    generalize impl_lengthF_v v70 = y at hy hr
    simp only [Tree.run, Option.some.injEq, Prod.mk.injEq] at hr
    obtain ⟨rfl, rfl⟩ := hr
    exact call_ok0 hs (fun k => (([a1.av F] : List AV)[k]?).getD .top) [a1] [.bslc (BR.root 0) (.f32 v70)] (fun F' h0 hi hρ => ⟨by simp [DVs.av, DV.av, BR.av, hρ], impl_lengthF_fn v70 F' (st_nil hi) ⟨bslc_ok hi (by rw [h0, hρ]; exact rowF32_ok hs (DVs.okAt ha 0 rfl) hv70), trivial⟩ hy⟩) rfl
  · cases hr
/-! math.IsNaN -/
noncomputable def math_IsNaN_LO (v78 : Nat) : LOr := fun id e L =>
  match id with
  | _ => .fail
noncomputable def math_IsNaN_tab : List (FuncId × DFn × Bool) := []
theorem math_IsNaN_hO : OrcOk Try.prog (tabD math_IsNaN_tab) (tabM math_IsNaN_tab) := tabD_nil _
noncomputable def math_IsNaN_T (v78 : Nat) : Tree (Bool) :=
  .leaf (!feq .f64 v78 v78)

noncomputable def math_IsNaN_g (v78 : Nat) : Option (Bool) := (math_IsNaN_T v78).run
def math_IsNaN_enc (v78 : Nat) (y : Bool) : Rs := (.bool y, [])
theorem math_IsNaN_den (v78 : Nat) : (den TT (tabD math_IsNaN_tab) (tabM math_IsNaN_tab) (math_IsNaN_LO v78) (codeOf Try.f62) ([.flt .f64 v78] ++ List.replicate (Try.f62.ntmps - ([.flt .f64 v78] : List DV).length) .undef) []).bind (retD TT Try.f62.results.toList 0) = (math_IsNaN_T v78).bind fun y => .leaf (math_IsNaN_enc v78 y) := by kernel_rfl
theorem math_IsNaN_fn (v78 : Nat) (F : Fr) (h0 : St F [] F.H0) (hA : DVs.Ok F [] [.flt .f64 v78]) {y : Bool} (hy : math_IsNaN_g v78 = some y) : ∃ F' H', Fwd 0 F F' [] (math_IsNaN_enc v78 y).2 ∧ FnOk Try.prog 62 (DVs.av F [.flt .f64 v78]) F.H0 ((math_IsNaN_enc v78 y).1.av F') H' ∧ St F' (math_IsNaN_enc v78 y).2 H' ∧ (math_IsNaN_enc v78 y).1.Ok F' (math_IsNaN_enc v78 y).2 :=
  fn_fin tok math_IsNaN_hO mixed Try.func62 Try.call62 (by kernel_rfl) (LoopsOk_eq (l := []) (by kernel_rfl) trivial) (math_IsNaN_den v78) hy h0 hA
def math_IsNaN_v (v78 : Nat) : Bool :=
  !feq .f64 v78 v78
theorem math_IsNaN_tot (v78 : Nat) : math_IsNaN_g v78 = some (math_IsNaN_v v78) := by
  unfold math_IsNaN_g math_IsNaN_T math_IsNaN_v
  simp only [Tree.run]
  repeat' (first | rfl | split)
noncomputable def math_IsNaN_F : DFn := fun args L =>
  match args with
  | [.flt .f64 v78] =>
    .leaf (.bool (math_IsNaN_v v78), L)
  | _ => .fail
theorem math_IsNaN_Fok : COk Try.prog 62 math_IsNaN_F true := by
  intro F L H args r L' hs ha hr
  unfold math_IsNaN_F at hr
  split at hr
  · rename_i v78
    have hy := math_IsNaN_tot v78
    generalize math_IsNaN_v v78 = y at hy hr
    simp only [Tree.run, Option.some.injEq, Prod.mk.injEq] at hr
    obtain ⟨rfl, rfl⟩ := hr
    exact call_ok0 hs (fun k => (([] : List AV)[k]?).getD .top) [.flt .f64 v78] [.flt .f64 v78] (fun F' h0 hi hρ => ⟨by simp [DVs.av, DV.av, BR.av, hρ], math_IsNaN_fn v78 F' (st_nil hi) ⟨trivial, trivial⟩ hy⟩) rfl
  · cases hr
/-! math.IsInf -/
noncomputable def math_IsInf_LO (v79 : Nat) (v80 : Int) : LOr := fun id e L =>
  match id with
  | _ => .fail
noncomputable def math_IsInf_tab : List (FuncId × DFn × Bool) := [(56, Abs_F, true)]
theorem math_IsInf_hO : OrcOk Try.prog (tabD math_IsInf_tab) (tabM math_IsInf_tab) := tabD_cons Abs_Fok (tabD_nil _)
noncomputable def math_IsInf_T (v79 : Nat) (v80 : Int) : Tree (Bool) :=
  (.br (decide (v80 = (0 : Int))) (
  .leaf (fgrt .f64 (fabs v79) (9218868437227405311 : Nat))
  ) (
  (.br (decide (v80 < (0 : Int))) (
  .leaf (fgrt .f64 (fneg .f64 v79) (9218868437227405311 : Nat))
  ) (
  .leaf (fgrt .f64 v79 (9218868437227405311 : Nat))
  ))
  ))

noncomputable def math_IsInf_g (v79 : Nat) (v80 : Int) : Option (Bool) := (math_IsInf_T v79 v80).run
def math_IsInf_enc (v79 : Nat) (v80 : Int) (y : Bool) : Rs := (.bool y, [])
theorem math_IsInf_den (v79 : Nat) (v80 : Int) : (den TT (tabD math_IsInf_tab) (tabM math_IsInf_tab) (math_IsInf_LO v79 v80) (codeOf Try.f63) ([.flt .f64 v79, .int .i64 v80] ++ List.replicate (Try.f63.ntmps - ([.flt .f64 v79, .int .i64 v80] : List DV).length) .undef) []).bind (retD TT Try.f63.results.toList 0) = (math_IsInf_T v79 v80).bind fun y => .leaf (math_IsInf_enc v79 v80 y) := by kernel_rfl
theorem math_IsInf_fn (v79 : Nat) (v80 : Int) (F : Fr) (h0 : St F [] F.H0) (hA : DVs.Ok F [] [.flt .f64 v79, .int .i64 v80]) {y : Bool} (hy : math_IsInf_g v79 v80 = some y) : ∃ F' H', Fwd 0 F F' [] (math_IsInf_enc v79 v80 y).2 ∧ FnOk Try.prog 63 (DVs.av F [.flt .f64 v79, .int .i64 v80]) F.H0 ((math_IsInf_enc v79 v80 y).1.av F') H' ∧ St F' (math_IsInf_enc v79 v80 y).2 H' ∧ (math_IsInf_enc v79 v80 y).1.Ok F' (math_IsInf_enc v79 v80 y).2 :=
  fn_fin tok math_IsInf_hO mixed Try.func63 Try.call63 (by kernel_rfl) (LoopsOk_eq (l := []) (by kernel_rfl) trivial) (math_IsInf_den v79 v80) hy h0 hA
def math_IsInf_v (v79 : Nat) (v80 : Int) : Bool :=
  if (decide (v80 = (0 : Int))) = true then (
  fgrt .f64 (fabs v79) (9218868437227405311 : Nat)
  ) else (
  if (decide (v80 < (0 : Int))) = true then (
  fgrt .f64 (fneg .f64 v79) (9218868437227405311 : Nat)
  ) else (
  fgrt .f64 v79 (9218868437227405311 : Nat)
  )
  )
theorem math_IsInf_tot (v79 : Nat) (v80 : Int) : math_IsInf_g v79 v80 = some (math_IsInf_v v79 v80) := by
  unfold math_IsInf_g math_IsInf_T math_IsInf_v
  simp only [Tree.run]
  repeat' (first | rfl | split)
noncomputable def math_IsInf_F : DFn := fun args L =>
  match args with
  | [.flt .f64 v79, .int .i64 v80] =>
    .leaf (.bool (math_IsInf_v v79 v80), L)
  | _ => .fail
theorem math_IsInf_Fok : COk Try.prog 63 math_IsInf_F true := by
  intro F L H args r L' hs ha hr
  unfold math_IsInf_F at hr
  split at hr
  · rename_i v79 v80
    have hy := math_IsInf_tot v79 v80
    generalize math_IsInf_v v79 v80 = y at hy hr
    simp only [Tree.run, Option.some.injEq, Prod.mk.injEq] at hr
    obtain ⟨rfl, rfl⟩ := hr
    exact call_ok0 hs (fun k => (([] : List AV)[k]?).getD .top) [.flt .f64 v79, .int .i64 v80] [.flt .f64 v79, .int .i64 v80] (fun F' h0 hi hρ => ⟨by simp [DVs.av, DV.av, BR.av, hρ], math_IsInf_fn v79 v80 F' (st_nil hi) ⟨trivial, trivial, trivial⟩ hy⟩) rfl
  · cases hr
/-! impl.isFinite64 -/
noncomputable def impl_isFinite64_LO (v77 : Nat) : LOr := fun id e L =>
  match id with
  | _ => .fail
noncomputable def impl_isFinite64_tab : List (FuncId × DFn × Bool) := [(62, math_IsNaN_F, true), (63, math_IsInf_F, true)]
theorem impl_isFinite64_hO : OrcOk Try.prog (tabD impl_isFinite64_tab) (tabM impl_isFinite64_tab) := tabD_cons math_IsNaN_Fok (tabD_cons math_IsInf_Fok (tabD_nil _))
noncomputable def impl_isFinite64_T (v77 : Nat) : Tree (Bool) :=
  (.br (!(math_IsNaN_v v77)) (
  .leaf (!(math_IsInf_v v77 (0 : Int)))
  ) (
  .leaf false
  ))

noncomputable def impl_isFinite64_g (v77 : Nat) : Option (Bool) := (impl_isFinite64_T v77).run
def impl_isFinite64_enc (v77 : Nat) (y : Bool) : Rs := (.bool y, [])
theorem impl_isFinite64_den (v77 : Nat) : (den TT (tabD impl_isFinite64_tab) (tabM impl_isFinite64_tab) (impl_isFinite64_LO v77) (codeOf Try.f55) ([.flt .f64 v77] ++ List.replicate (Try.f55.ntmps - ([.flt .f64 v77] : List DV).length) .undef) []).bind (retD TT Try.f55.results.toList 0) = (impl_isFinite64_T v77).bind fun y => .leaf (impl_isFinite64_enc v77 y) := by kernel_rfl
theorem impl_isFinite64_fn (v77 : Nat) (F : Fr) (h0 : St F [] F.H0) (hA : DVs.Ok F [] [.flt .f64 v77]) {y : Bool} (hy : impl_isFinite64_g v77 = some y) : ∃ F' H', Fwd 0 F F' [] (impl_isFinite64_enc v77 y).2 ∧ FnOk Try.prog 55 (DVs.av F [.flt .f64 v77]) F.H0 ((impl_isFinite64_enc v77 y).1.av F') H' ∧ St F' (impl_isFinite64_enc v77 y).2 H' ∧ (impl_isFinite64_enc v77 y).1.Ok F' (impl_isFinite64_enc v77 y).2 :=
  fn_fin tok impl_isFinite64_hO mixed Try.func55 Try.call55 (by kernel_rfl) (LoopsOk_eq (l := []) (by kernel_rfl) trivial) (impl_isFinite64_den v77) hy h0 hA
def impl_isFinite64_v (v77 : Nat) : Bool :=
  if (!(math_IsNaN_v v77)) = true then (
  !(math_IsInf_v v77 (0 : Int))
  ) else (
  false
  )
theorem impl_isFinite64_tot (v77 : Nat) : impl_isFinite64_g v77 = some (impl_isFinite64_v v77) := by
  unfold impl_isFinite64_g impl_isFinite64_T impl_isFinite64_v
  simp only [Tree.run]
  repeat' (first | rfl | split)
noncomputable def impl_isFinite64_F : DFn := fun args L =>
  match args with
  | [.flt .f64 v77] =>
    .leaf (.bool (impl_isFinite64_v v77), L)
  | _ => .fail
theorem impl_isFinite64_Fok : COk Try.prog 55 impl_isFinite64_F true := by
  intro F L H args r L' hs ha hr
  unfold impl_isFinite64_F at hr
  split at hr
  · rename_i v77
    have hy := impl_isFinite64_tot v77
    generalize impl_isFinite64_v v77 = y at hy hr
    simp only [Tree.run, Option.some.injEq, Prod.mk.injEq] at hr
    obtain ⟨rfl, rfl⟩ := hr
    exact call_ok0 hs (fun k => (([] : List AV)[k]?).getD .top) [.flt .f64 v77] [.flt .f64 v77] (fun F' h0 hi hρ => ⟨by simp [DVs.av, DV.av, BR.av, hρ], impl_isFinite64_fn v77 F' (st_nil hi) ⟨trivial, trivial⟩ hy⟩) rfl
  · cases hr
/-! impl.IsFinite -/
noncomputable def impl_IsFinite_LO (v76 : Nat) : LOr := fun id e L =>
  match id with
  | _ => .fail
noncomputable def impl_IsFinite_tab : List (FuncId × DFn × Bool) := [(55, impl_isFinite64_F, true)]
theorem impl_IsFinite_hO : OrcOk Try.prog (tabD impl_IsFinite_tab) (tabM impl_IsFinite_tab) := tabD_cons impl_isFinite64_Fok (tabD_nil _)
noncomputable def impl_IsFinite_T (v76 : Nat) : Tree (Bool) :=
  .leaf (impl_isFinite64_v (wid v76))

noncomputable def impl_IsFinite_g (v76 : Nat) : Option (Bool) := (impl_IsFinite_T v76).run
def impl_IsFinite_enc (v76 : Nat) (y : Bool) : Rs := (.bool y, [])
theorem impl_IsFinite_den (v76 : Nat) : (den TT (tabD impl_IsFinite_tab) (tabM impl_IsFinite_tab) (impl_IsFinite_LO v76) (codeOf Try.f41) ([.flt .f32 v76] ++ List.replicate (Try.f41.ntmps - ([.flt .f32 v76] : List DV).length) .undef) []).bind (retD TT Try.f41.results.toList 0) = (impl_IsFinite_T v76).bind fun y => .leaf (impl_IsFinite_enc v76 y) := by kernel_rfl
theorem impl_IsFinite_fn (v76 : Nat) (F : Fr) (h0 : St F [] F.H0) (hA : DVs.Ok F [] [.flt .f32 v76]) {y : Bool} (hy : impl_IsFinite_g v76 = some y) : ∃ F' H', Fwd 0 F F' [] (impl_IsFinite_enc v76 y).2 ∧ FnOk Try.prog 41 (DVs.av F [.flt .f32 v76]) F.H0 ((impl_IsFinite_enc v76 y).1.av F') H' ∧ St F' (impl_IsFinite_enc v76 y).2 H' ∧ (impl_IsFinite_enc v76 y).1.Ok F' (impl_IsFinite_enc v76 y).2 :=
  fn_fin tok impl_IsFinite_hO mixed Try.func41 Try.call41 (by kernel_rfl) (LoopsOk_eq (l := []) (by kernel_rfl) trivial) (impl_IsFinite_den v76) hy h0 hA
def impl_IsFinite_v (v76 : Nat) : Bool :=
  (impl_isFinite64_v (wid v76))
theorem impl_IsFinite_tot (v76 : Nat) : impl_IsFinite_g v76 = some (impl_IsFinite_v v76) := by
  unfold impl_IsFinite_g impl_IsFinite_T impl_IsFinite_v
  simp only [Tree.run]
  repeat' (first | rfl | split)
noncomputable def impl_IsFinite_F : DFn := fun args L =>
  match args with
  | [.flt .f32 v76] =>
    .leaf (.bool (impl_IsFinite_v v76), L)
  | _ => .fail
theorem impl_IsFinite_Fok : COk Try.prog 41 impl_IsFinite_F true := by
  intro F L H args r L' hs ha hr
  unfold impl_IsFinite_F at hr
  split at hr
  · rename_i v76
    have hy := impl_IsFinite_tot v76
    generalize impl_IsFinite_v v76 = y at hy hr
    simp only [Tree.run, Option.some.injEq, Prod.mk.injEq] at hr
    obtain ⟨rfl, rfl⟩ := hr
    exact call_ok0 hs (fun k => (([] : List AV)[k]?).getD .top) [.flt .f32 v76] [.flt .f32 v76] (fun F' h0 hi hρ => ⟨by simp [DVs.av, DV.av, BR.av, hρ], impl_IsFinite_fn v76 F' (st_nil hi) ⟨trivial, trivial⟩ hy⟩) rfl
  · cases hr
/-! impl.areFinite$1 -/
noncomputable def impl_areFinite_1_LO (v75 : Nat) : LOr := fun id e L =>
  match id with
  | _ => .fail
noncomputable def impl_areFinite_1_tab : List (FuncId × DFn × Bool) := [(41, impl_IsFinite_F, true)]
theorem impl_areFinite_1_hO : OrcOk Try.prog (tabD impl_areFinite_1_tab) (tabM impl_areFinite_1_tab) := tabD_cons impl_IsFinite_Fok (tabD_nil _)
noncomputable def impl_areFinite_1_T (v75 : Nat) : Tree (Bool) :=
  .leaf (!(impl_IsFinite_v v75))

noncomputable def impl_areFinite_1_g (v75 : Nat) : Option (Bool) := (impl_areFinite_1_T v75).run
def impl_areFinite_1_enc (v75 : Nat) (y : Bool) : Rs := (.bool y, [])
theorem impl_areFinite_1_den (v75 : Nat) : (den TT (tabD impl_areFinite_1_tab) (tabM impl_areFinite_1_tab) (impl_areFinite_1_LO v75) (codeOf Try.f54) ([.flt .f32 v75] ++ List.replicate (Try.f54.ntmps - ([.flt .f32 v75] : List DV).length) .undef) []).bind (retD TT Try.f54.results.toList 0) = (impl_areFinite_1_T v75).bind fun y => .leaf (impl_areFinite_1_enc v75 y) := by kernel_rfl
theorem impl_areFinite_1_fn (v75 : Nat) (F : Fr) (h0 : St F [] F.H0) (hA : DVs.Ok F [] [.flt .f32 v75]) {y : Bool} (hy : impl_areFinite_1_g v75 = some y) : ∃ F' H', Fwd 0 F F' [] (impl_areFinite_1_enc v75 y).2 ∧ FnOk Try.prog 54 (DVs.av F [.flt .f32 v75]) F.H0 ((impl_areFinite_1_enc v75 y).1.av F') H' ∧ St F' (impl_areFinite_1_enc v75 y).2 H' ∧ (impl_areFinite_1_enc v75 y).1.Ok F' (impl_areFinite_1_enc v75 y).2 :=
  fn_fin tok impl_areFinite_1_hO mixed Try.func54 Try.call54 (by kernel_rfl) (LoopsOk_eq (l := []) (by kernel_rfl) trivial) (impl_areFinite_1_den v75) hy h0 hA
def impl_areFinite_1_v (v75 : Nat) : Bool :=
  !(impl_IsFinite_v v75)
theorem impl_areFinite_1_tot (v75 : Nat) : impl_areFinite_1_g v75 = some (impl_areFinite_1_v v75) := by
  unfold impl_areFinite_1_g impl_areFinite_1_T impl_areFinite_1_v
  simp only [Tree.run]
  repeat' (first | rfl | split)
noncomputable def impl_areFinite_1_F : DFn := fun args L =>
  match args with
  | [.flt .f32 v75] =>
    .leaf (.bool (impl_areFinite_1_v v75), L)
  | _ => .fail
theorem impl_areFinite_1_Fok : COk Try.prog 54 impl_areFinite_1_F true := by
  intro F L H args r L' hs ha hr
  unfold impl_areFinite_1_F at hr
  split at hr
  · rename_i v75
    have hy := impl_areFinite_1_tot v75
    generalize impl_areFinite_1_v v75 = y at hy hr
    simp only [Tree.run, Option.some.injEq, Prod.mk.injEq] at hr
    obtain ⟨rfl, rfl⟩ := hr
    exact call_ok0 hs (fun k => (([] : List AV)[k]?).getD .top) [.flt .f32 v75] [.flt .f32 v75] (fun F' h0 hi hρ => ⟨by simp [DVs.av, DV.av, BR.av, hρ], impl_areFinite_1_fn v75 F' (st_nil hi) ⟨trivial, trivial⟩ hy⟩) rfl
  · cases hr
/-! slices.IndexFunc[list of float32,float32] -/
noncomputable def slices_IndexFuncF_l0_T (v73 : List Nat) (s : Int) : Tree ((Int) ⊕ ((Int) ⊕ (Unit))) :=
  (.br (decide (s < ((v73.length : Nat) : Int))) (
  (.grd (inb s v73.length) <|
  (.br (impl_areFinite_1_v (nth v73 (Int.toNat s))) (
  .leaf (.inr (.inl s))
  ) (
  .leaf (.inl (IntKind.i64.wrap (s + (1 : Int))))
  )))
  ) (
  .leaf (.inr (.inr ()))
  ))

noncomputable def slices_IndexFuncF_l0_g (v73 : List Nat) (s0 : Int) : Option ((Int) ⊕ (Unit)) := whileM (fun s => (slices_IndexFuncF_l0_T v73 s).run) s0
def slices_IndexFuncF_l0_E (v73 : List Nat) (s : Int) : Sd := ([.bslc (BR.root 0) (.f32 v73),.fn 54 [],Z,Z,Z,Z,Z,.int .i64 ((v73.length : Nat) : Int),.int .i64 s,Z,Z,Z,Z,Z,Z,Z,Z,Z,Z], [])
def slices_IndexFuncF_l0_X (v73 : List Nat) (x : (Int) ⊕ (Unit)) : Out := (match x with | .inl x => (.ret, [Z,Z,Z,Z,.int .i64 x,Z,Z,Z,Z,Z,Z,Z,Z,Z,Z,Z,Z,Z,Z], []) | .inr x => (.normal, [Z,Z,Z,Z,Z,Z,Z,Z,Z,Z,Z,Z,Z,Z,Z,Z,Z,Z,Z], []))
def slices_IndexFuncF_l0_kill : List Nat := KL true [0,2,5,2,10]
def slices_IndexFuncF_l0_nx : Exit → List Nat
  | .exit 0 => KL true [19]
  | .ret => KL true [4,1,14]
  | _ => []
noncomputable def slices_IndexFuncF_LO (v73 : List Nat) : LOr := fun id e L =>
  match id with
  | 0 => .need (normA 0 slices_IndexFuncF_l0_kill e L = some (slices_IndexFuncF_l0_E v73 (gI (vAt e 8)))) (.call (slices_IndexFuncF_l0_g v73 (gI (vAt e 8))) fun x => .sum x (fun b0 => .leaf (slices_IndexFuncF_l0_X v73 (.inl b0))) (fun c0 => .leaf (slices_IndexFuncF_l0_X v73 (.inr c0))))
  | _ => .fail
noncomputable def slices_IndexFuncF_tab : List (FuncId × DFn × Bool) := [(54, impl_areFinite_1_F, true)]
theorem slices_IndexFuncF_hO : OrcOk Try.prog (tabD slices_IndexFuncF_tab) (tabM slices_IndexFuncF_tab) := tabD_cons impl_areFinite_1_Fok (tabD_nil _)
theorem slices_IndexFuncF_l0_be (v73 : List Nat) (s : Int) : bodyT TT (tabD slices_IndexFuncF_tab) (tabM slices_IndexFuncF_tab) (slices_IndexFuncF_LO v73) 0 slices_IndexFuncF_l0_kill slices_IndexFuncF_l0_nx (bodyOf Try.f61 0) 0 (slices_IndexFuncF_l0_E v73 s) = (slices_IndexFuncF_l0_T v73 s).bind fun y => .leaf (outS (slices_IndexFuncF_l0_E v73) (slices_IndexFuncF_l0_X v73) y) := by kernel_rfl
theorem slices_IndexFuncF_l0_ok (v73 : List Nat) : LSound Try.prog 0 (slices_IndexFuncF_LO v73) 0 (bodyOf Try.f61 0) := by
  intro e L out h
  exact lo_ok (E := slices_IndexFuncF_l0_E v73) (gT := slices_IndexFuncF_l0_T v73) (X := slices_IndexFuncF_l0_X v73) (s0 := (gI (vAt e 8))) tok slices_IndexFuncF_hO mixed (LoopsOk_eq (l := []) (by kernel_rfl) trivial) (slices_IndexFuncF_l0_be v73) rfl (by intro x; (cases x with | inl b => rfl | inr x => exact rfl)) h
noncomputable def slices_IndexFuncF_T (v73 : List Nat) : Tree (Int) :=
  (.need (some (slices_IndexFuncF_l0_E v73 (0 : Int)) = some (slices_IndexFuncF_l0_E v73 (0 : Int))) <|
  (.call (slices_IndexFuncF_l0_g v73 (0 : Int)) fun v83 =>
  (.sum v83 (fun v84 =>
  .leaf v84
  ) (fun v85 =>
  .leaf (-1 : Int)
  ))))

noncomputable def slices_IndexFuncF_g (v73 : List Nat) : Option (Int) := (slices_IndexFuncF_T v73).run
def slices_IndexFuncF_enc (v73 : List Nat) (y : Int) : Rs := (.int .i64 y, [])
theorem slices_IndexFuncF_den (v73 : List Nat) : (den TT (tabD slices_IndexFuncF_tab) (tabM slices_IndexFuncF_tab) (slices_IndexFuncF_LO v73) (codeOf Try.f61) ([.bslc (BR.root 0) (.f32 v73), .fn 54 []] ++ List.replicate (Try.f61.ntmps - ([.bslc (BR.root 0) (.f32 v73), .fn 54 []] : List DV).length) .undef) []).bind (retD TT Try.f61.results.toList 0) = (slices_IndexFuncF_T v73).bind fun y => .leaf (slices_IndexFuncF_enc v73 y) := by kernel_rfl
theorem slices_IndexFuncF_fn (v73 : List Nat) (F : Fr) (h0 : St F [] F.H0) (hA : DVs.Ok F [] [.bslc (BR.root 0) (.f32 v73), .fn 54 []]) {y : Int} (hy : slices_IndexFuncF_g v73 = some y) : ∃ F' H', Fwd 0 F F' [] (slices_IndexFuncF_enc v73 y).2 ∧ FnOk Try.prog 61 (DVs.av F [.bslc (BR.root 0) (.f32 v73), .fn 54 []]) F.H0 ((slices_IndexFuncF_enc v73 y).1.av F') H' ∧ St F' (slices_IndexFuncF_enc v73 y).2 H' ∧ (slices_IndexFuncF_enc v73 y).1.Ok F' (slices_IndexFuncF_enc v73 y).2 :=
  fn_fin tok slices_IndexFuncF_hO mixed Try.func61 Try.call61 (by kernel_rfl) (LoopsOk_eq (l := [(0, bodyOf Try.f61 0)]) (by kernel_rfl) ⟨slices_IndexFuncF_l0_ok v73, trivial⟩) (slices_IndexFuncF_den v73) hy h0 hA
noncomputable def slices_IndexFuncF_F : DFn := fun args L =>
  match args with
  | [a1, .fn 54 []] =>
    optT (rowF32 L a1) fun v73 =>
    .call (slices_IndexFuncF_g v73) fun y => .leaf (.int .i64 y, L)
  | _ => .fail
theorem slices_IndexFuncF_Fok : COk Try.prog 61 slices_IndexFuncF_F true := by
  intro F L H args r L' hs ha hr
  unfold slices_IndexFuncF_F at hr
  split at hr
  · rename_i a1
    obtain ⟨v73, hv73, hr⟩ := optT_run hr
    simp only [Tree.run] at hr
    obtain ⟨y, hy, hr⟩ := Option.bind_eq_some_iff.1 hr
    simp only [Tree.run, Option.some.injEq, Prod.mk.injEq] at hr
    obtain ⟨rfl, rfl⟩ := hr
    exact call_ok0 hs (fun k => (([a1.av F] : List AV)[k]?).getD .top) [a1, .fn 54 []] [.bslc (BR.root 0) (.f32 v73), .fn 54 []] (fun F' h0 hi hρ => ⟨by simp [DVs.av, DV.av, BR.av, hρ], slices_IndexFuncF_fn v73 F' (st_nil hi) ⟨bslc_ok hi (by rw [h0, hρ]; exact rowF32_ok hs (DVs.okAt ha 0 rfl) hv73), trivial, trivial⟩ hy⟩) rfl
  · cases hr
/-! slices.ContainsFunc[list of float32,float32] -/
noncomputable def slices_ContainsFuncF_LO (v72 : List Nat) : LOr := fun id e L =>
  match id with
  | _ => .fail
noncomputable def slices_ContainsFuncF_tab : List (FuncId × DFn × Bool) := [(61, slices_IndexFuncF_F, true)]
theorem slices_ContainsFuncF_hO : OrcOk Try.prog (tabD slices_ContainsFuncF_tab) (tabM slices_ContainsFuncF_tab) := tabD_cons slices_IndexFuncF_Fok (tabD_nil _)
noncomputable def slices_ContainsFuncF_T (v72 : List Nat) : Tree (Bool) :=
  (.call (slices_IndexFuncF_g v72) fun v86 =>
  .leaf (decide ((0 : Int) ≤ v86)))

noncomputable def slices_ContainsFuncF_g (v72 : List Nat) : Option (Bool) := (slices_ContainsFuncF_T v72).run
def slices_ContainsFuncF_enc (v72 : List Nat) (y : Bool) : Rs := (.bool y, [])
theorem slices_ContainsFuncF_den (v72 : List Nat) : (den TT (tabD slices_ContainsFuncF_tab) (tabM slices_ContainsFuncF_tab) (slices_ContainsFuncF_LO v72) (codeOf Try.f53) ([.bslc (BR.root 0) (.f32 v72), .fn 54 []] ++ List.replicate (Try.f53.ntmps - ([.bslc (BR.root 0) (.f32 v72), .fn 54 []] : List DV).length) .undef) []).bind (retD TT Try.f53.results.toList 0) = (slices_ContainsFuncF_T v72).bind fun y => .leaf (slices_ContainsFuncF_enc v72 y) := by kernel_rfl
theorem slices_ContainsFuncF_fn (v72 : List Nat) (F : Fr) (h0 : St F [] F.H0) (hA : DVs.Ok F [] [.bslc (BR.root 0) (.f32 v72), .fn 54 []]) {y : Bool} (hy : slices_ContainsFuncF_g v72 = some y) : ∃ F' H', Fwd 0 F F' [] (slices_ContainsFuncF_enc v72 y).2 ∧ FnOk Try.prog 53 (DVs.av F [.bslc (BR.root 0) (.f32 v72), .fn 54 []]) F.H0 ((slices_ContainsFuncF_enc v72 y).1.av F') H' ∧ St F' (slices_ContainsFuncF_enc v72 y).2 H' ∧ (slices_ContainsFuncF_enc v72 y).1.Ok F' (slices_ContainsFuncF_enc v72 y).2 :=
  fn_fin tok slices_ContainsFuncF_hO mixed Try.func53 Try.call53 (by kernel_rfl) (LoopsOk_eq (l := []) (by kernel_rfl) trivial) (slices_ContainsFuncF_den v72) hy h0 hA
noncomputable def slices_ContainsFuncF_F : DFn := fun args L =>
  match args with
  | [a1, .fn 54 []] =>
    optT (rowF32 L a1) fun v72 =>
    .call (slices_ContainsFuncF_g v72) fun y => .leaf (.bool y, L)
  | _ => .fail
theorem slices_ContainsFuncF_Fok : COk Try.prog 53 slices_ContainsFuncF_F true := by
  intro F L H args r L' hs ha hr
  unfold slices_ContainsFuncF_F at hr
  split at hr
  · rename_i a1
    obtain ⟨v72, hv72, hr⟩ := optT_run hr
    simp only [Tree.run] at hr
    obtain ⟨y, hy, hr⟩ := Option.bind_eq_some_iff.1 hr
    simp only [Tree.run, Option.some.injEq, Prod.mk.injEq] at hr
    obtain ⟨rfl, rfl⟩ := hr
    exact call_ok0 hs (fun k => (([a1.av F] : List AV)[k]?).getD .top) [a1, .fn 54 []] [.bslc (BR.root 0) (.f32 v72), .fn 54 []] (fun F' h0 hi hρ => ⟨by simp [DVs.av, DV.av, BR.av, hρ], slices_ContainsFuncF_fn v72 F' (st_nil hi) ⟨bslc_ok hi (by rw [h0, hρ]; exact rowF32_ok hs (DVs.okAt ha 0 rfl) hv72), trivial, trivial⟩ hy⟩) rfl
  · cases hr
/-! impl.areFinite -/
noncomputable def impl_areFinite_LO (v71 : List Nat) : LOr := fun id e L =>
  match id with
  | _ => .fail
noncomputable def impl_areFinite_tab : List (FuncId × DFn × Bool) := [(53, slices_ContainsFuncF_F, true)]
theorem impl_areFinite_hO : OrcOk Try.prog (tabD impl_areFinite_tab) (tabM impl_areFinite_tab) := tabD_cons slices_ContainsFuncF_Fok (tabD_nil _)
noncomputable def impl_areFinite_T (v71 : List Nat) : Tree (Bool) :=
  (.call (slices_ContainsFuncF_g v71) fun v87 =>
  .leaf (!v87))

noncomputable def impl_areFinite_g (v71 : List Nat) : Option (Bool) := (impl_areFinite_T v71).run
def impl_areFinite_enc (v71 : List Nat) (y : Bool) : Rs := (.bool y, [])
theorem impl_areFinite_den (v71 : List Nat) : (den TT (tabD impl_areFinite_tab) (tabM impl_areFinite_tab) (impl_areFinite_LO v71) (codeOf Try.f40) ([.bslc (BR.root 0) (.f32 v71)] ++ List.replicate (Try.f40.ntmps - ([.bslc (BR.root 0) (.f32 v71)] : List DV).length) .undef) []).bind (retD TT Try.f40.results.toList 0) = (impl_areFinite_T v71).bind fun y => .leaf (impl_areFinite_enc v71 y) := by kernel_rfl
theorem impl_areFinite_fn (v71 : List Nat) (F : Fr) (h0 : St F [] F.H0) (hA : DVs.Ok F [] [.bslc (BR.root 0) (.f32 v71)]) {y : Bool} (hy : impl_areFinite_g v71 = some y) : ∃ F' H', Fwd 0 F F' [] (impl_areFinite_enc v71 y).2 ∧ FnOk Try.prog 40 (DVs.av F [.bslc (BR.root 0) (.f32 v71)]) F.H0 ((impl_areFinite_enc v71 y).1.av F') H' ∧ St F' (impl_areFinite_enc v71 y).2 H' ∧ (impl_areFinite_enc v71 y).1.Ok F' (impl_areFinite_enc v71 y).2 :=
  fn_fin tok impl_areFinite_hO mixed Try.func40 Try.call40 (by kernel_rfl) (LoopsOk_eq (l := []) (by kernel_rfl) trivial) (impl_areFinite_den v71) hy h0 hA
noncomputable def impl_areFinite_F : DFn := fun args L =>
  match args with
  | [a1] =>
    optT (rowF32 L a1) fun v71 =>
    .call (impl_areFinite_g v71) fun y => .leaf (.bool y, L)
  | _ => .fail
theorem impl_areFinite_Fok : COk Try.prog 40 impl_areFinite_F true := by
  intro F L H args r L' hs ha hr
  unfold impl_areFinite_F at hr
  split at hr
  · rename_i a1
    obtain ⟨v71, hv71, hr⟩ := optT_run hr
    simp only [Tree.run] at hr
    obtain ⟨y, hy, hr⟩ := Option.bind_eq_some_iff.1 hr
    simp only [Tree.run, Option.some.injEq, Prod.mk.injEq] at hr
    obtain ⟨rfl, rfl⟩ := hr
    exact call_ok0 hs (fun k => (([a1.av F] : List AV)[k]?).getD .top) [a1] [.bslc (BR.root 0) (.f32 v71)] (fun F' h0 hi hρ => ⟨by simp [DVs.av, DV.av, BR.av, hρ], impl_areFinite_fn v71 F' (st_nil hi) ⟨bslc_ok hi (by rw [h0, hρ]; exact rowF32_ok hs (DVs.okAt ha 0 rfl) hv71), trivial⟩ hy⟩) rfl
  · cases hr
/-! impl.ValidMatrix -/
noncomputable def impl_ValidMatrix_LO (v63 v64 : Int) (v65 : List Nat) : LOr := fun id e L =>
  match id with
  | _ => .fail
noncomputable def impl_ValidMatrix_tab : List (FuncId × DFn × Bool) := [(30, impl_isSide_F, true), (27, impl_lengthF_F, true), (40, impl_areFinite_F, true)]
theorem impl_ValidMatrix_hO : OrcOk Try.prog (tabD impl_ValidMatrix_tab) (tabM impl_ValidMatrix_tab) := tabD_cons impl_isSide_Fok (tabD_cons impl_lengthF_Fok (tabD_cons impl_areFinite_Fok (tabD_nil _)))
noncomputable def impl_ValidMatrix_T (v63 v64 : Int) (v65 : List Nat) : Tree (Bool) :=
  (.br (impl_isSide_v v63) (
  (.br (impl_isSide_v v64) (
  (.br (decide ((impl_lengthF_v v65) = IntKind.i64.wrap (v63 * v64))) (
  (.call (impl_areFinite_g v65) fun v88 =>
  .leaf v88)
  ) (
  .leaf false
  ))
  ) (
  .leaf false
  ))
  ) (
  .leaf false
  ))

noncomputable def impl_ValidMatrix_g (v63 v64 : Int) (v65 : List Nat) : Option (Bool) := (impl_ValidMatrix_T v63 v64 v65).run
def impl_ValidMatrix_enc (v63 v64 : Int) (v65 : List Nat) (y : Bool) : Rs := (.bool y, [])
theorem impl_ValidMatrix_den (v63 v64 : Int) (v65 : List Nat) : (den TT (tabD impl_ValidMatrix_tab) (tabM impl_ValidMatrix_tab) (impl_ValidMatrix_LO v63 v64 v65) (codeOf Try.f20) ([.agg [.int .i64 v63, .int .i64 v64, .bslc (BR.root 0) (.f32 v65)]] ++ List.replicate (Try.f20.ntmps - ([.agg [.int .i64 v63, .int .i64 v64, .bslc (BR.root 0) (.f32 v65)]] : List DV).length) .undef) []).bind (retD TT Try.f20.results.toList 0) = (impl_ValidMatrix_T v63 v64 v65).bind fun y => .leaf (impl_ValidMatrix_enc v63 v64 v65 y) := by kernel_rfl
theorem impl_ValidMatrix_fn (v63 v64 : Int) (v65 : List Nat) (F : Fr) (h0 : St F [] F.H0) (hA : DVs.Ok F [] [.agg [.int .i64 v63, .int .i64 v64, .bslc (BR.root 0) (.f32 v65)]]) {y : Bool} (hy : impl_ValidMatrix_g v63 v64 v65 = some y) : ∃ F' H', Fwd 0 F F' [] (impl_ValidMatrix_enc v63 v64 v65 y).2 ∧ FnOk Try.prog 20 (DVs.av F [.agg [.int .i64 v63, .int .i64 v64, .bslc (BR.root 0) (.f32 v65)]]) F.H0 ((impl_ValidMatrix_enc v63 v64 v65 y).1.av F') H' ∧ St F' (impl_ValidMatrix_enc v63 v64 v65 y).2 H' ∧ (impl_ValidMatrix_enc v63 v64 v65 y).1.Ok F' (impl_ValidMatrix_enc v63 v64 v65 y).2 :=
  fn_fin tok impl_ValidMatrix_hO mixed Try.func20 Try.call20 (by kernel_rfl) (LoopsOk_eq (l := []) (by kernel_rfl) trivial) (impl_ValidMatrix_den v63 v64 v65) hy h0 hA
noncomputable def impl_ValidMatrix_F : DFn := fun args L =>
  match args with
  | [.agg [.int .i64 v63, .int .i64 v64, a1]] =>
    optT (rowF32 L a1) fun v65 =>
    .call (impl_ValidMatrix_g v63 v64 v65) fun y => .leaf (.bool y, L)
  | _ => .fail
theorem impl_ValidMatrix_Fok : COk Try.prog 20 impl_ValidMatrix_F true := by
  intro F L H args r L' hs ha hr
  unfold impl_ValidMatrix_F at hr
  split at hr
  · rename_i v63 v64 a1
    obtain ⟨v65, hv65, hr⟩ := optT_run hr
    simp only [Tree.run] at hr
    obtain ⟨y, hy, hr⟩ := Option.bind_eq_some_iff.1 hr
    simp only [Tree.run, Option.some.injEq, Prod.mk.injEq] at hr
    obtain ⟨rfl, rfl⟩ := hr
    exact call_ok0 hs (fun k => (([a1.av F] : List AV)[k]?).getD .top) [.agg [.int .i64 v63, .int .i64 v64, a1]] [.agg [.int .i64 v63, .int .i64 v64, .bslc (BR.root 0) (.f32 v65)]] (fun F' h0 hi hρ => ⟨by simp [DVs.av, DV.av, BR.av, hρ], impl_ValidMatrix_fn v63 v64 v65 F' (st_nil hi) ⟨⟨trivial, trivial, bslc_ok hi (by rw [h0, hρ]; exact rowF32_ok hs (DVs.okAt (DVs.okAt ha 0 rfl) 2 rfl) hv65), trivial⟩, trivial⟩ hy⟩) rfl
  · cases hr
/-! (impl.Matrix).at -/
noncomputable def impl_Matrix_at_LO (v99 v100 : Int) (v101 : List Nat) (v102 v103 : Int) : LOr := fun id e L =>
  match id with
  | _ => .fail
noncomputable def impl_Matrix_at_tab : List (FuncId × DFn × Bool) := []
theorem impl_Matrix_at_hO : OrcOk Try.prog (tabD impl_Matrix_at_tab) (tabM impl_Matrix_at_tab) := tabD_nil _
noncomputable def impl_Matrix_at_T (v100 : Int) (v101 : List Nat) (v102 v103 : Int) : Tree (Nat) :=
  (.grd (inb (IntKind.i64.wrap ((IntKind.i64.wrap (v102 * v100)) + v103)) v101.length) <|
  .leaf (nth v101 (Int.toNat (IntKind.i64.wrap ((IntKind.i64.wrap (v102 * v100)) + v103)))))

noncomputable def impl_Matrix_at_g (v100 : Int) (v101 : List Nat) (v102 v103 : Int) : Option (Nat) := (impl_Matrix_at_T v100 v101 v102 v103).run
def impl_Matrix_at_enc (v99 v100 : Int) (v101 : List Nat) (v102 v103 : Int) (y : Nat) : Rs := (.flt .f32 y, [])
theorem impl_Matrix_at_den (v99 v100 : Int) (v101 : List Nat) (v102 v103 : Int) : (den TT (tabD impl_Matrix_at_tab) (tabM impl_Matrix_at_tab) (impl_Matrix_at_LO v99 v100 v101 v102 v103) (codeOf Try.f37) ([.agg [.int .i64 v99, .int .i64 v100, .bslc (BR.root 0) (.f32 v101)], .int .i64 v102, .int .i64 v103] ++ List.replicate (Try.f37.ntmps - ([.agg [.int .i64 v99, .int .i64 v100, .bslc (BR.root 0) (.f32 v101)], .int .i64 v102, .int .i64 v103] : List DV).length) .undef) []).bind (retD TT Try.f37.results.toList 0) = (impl_Matrix_at_T v100 v101 v102 v103).bind fun y => .leaf (impl_Matrix_at_enc v99 v100 v101 v102 v103 y) := by kernel_rfl
theorem impl_Matrix_at_fn (v99 v100 : Int) (v101 : List Nat) (v102 v103 : Int) (F : Fr) (h0 : St F [] F.H0) (hA : DVs.Ok F [] [.agg [.int .i64 v99, .int .i64 v100, .bslc (BR.root 0) (.f32 v101)], .int .i64 v102, .int .i64 v103]) {y : Nat} (hy : impl_Matrix_at_g v100 v101 v102 v103 = some y) : ∃ F' H', Fwd 0 F F' [] (impl_Matrix_at_enc v99 v100 v101 v102 v103 y).2 ∧ FnOk Try.prog 37 (DVs.av F [.agg [.int .i64 v99, .int .i64 v100, .bslc (BR.root 0) (.f32 v101)], .int .i64 v102, .int .i64 v103]) F.H0 ((impl_Matrix_at_enc v99 v100 v101 v102 v103 y).1.av F') H' ∧ St F' (impl_Matrix_at_enc v99 v100 v101 v102 v103 y).2 H' ∧ (impl_Matrix_at_enc v99 v100 v101 v102 v103 y).1.Ok F' (impl_Matrix_at_enc v99 v100 v101 v102 v103 y).2 :=
  fn_fin tok impl_Matrix_at_hO mixed Try.func37 Try.call37 (by kernel_rfl) (LoopsOk_eq (l := []) (by kernel_rfl) trivial) (impl_Matrix_at_den v99 v100 v101 v102 v103) hy h0 hA
noncomputable def impl_Matrix_at_F : DFn := fun args L =>
  match args with
  | [.agg [.int .i64 v99, .int .i64 v100, a1], .int .i64 v102, .int .i64 v103] =>
    optT (rowF32 L a1) fun v101 =>
    .call (impl_Matrix_at_g v100 v101 v102 v103) fun y => .leaf (.flt .f32 y, L)
  | _ => .fail
theorem impl_Matrix_at_Fok : COk Try.prog 37 impl_Matrix_at_F true := by
  intro F L H args r L' hs ha hr
  unfold impl_Matrix_at_F at hr
  split at hr
  · rename_i v99 v100 a1 v102 v103
    obtain ⟨v101, hv101, hr⟩ := optT_run hr
    simp only [Tree.run] at hr
    obtain ⟨y, hy, hr⟩ := Option.bind_eq_some_iff.1 hr
    simp only [Tree.run, Option.some.injEq, Prod.mk.injEq] at hr
    obtain ⟨rfl, rfl⟩ := hr
    exact call_ok0 hs (fun k => (([a1.av F] : List AV)[k]?).getD .top) [.agg [.int .i64 v99, .int .i64 v100, a1], .int .i64 v102, .int .i64 v103] [.agg [.int .i64 v99, .int .i64 v100, .bslc (BR.root 0) (.f32 v101)], .int .i64 v102, .int .i64 v103] (fun F' h0 hi hρ => ⟨by simp [DVs.av, DV.av, BR.av, hρ], impl_Matrix_at_fn v99 v100 v101 v102 v103 F' (st_nil hi) ⟨⟨trivial, trivial, bslc_ok hi (by rw [h0, hρ]; exact rowF32_ok hs (DVs.okAt (DVs.okAt ha 0 rfl) 2 rfl) hv101), trivial⟩, trivial, trivial, trivial⟩ hy⟩) rfl
  · cases hr
/-! impl.absolute -/
noncomputable def impl_absolute_LO (v105 : Nat) : LOr := fun id e L =>
  match id with
  | _ => .fail
noncomputable def impl_absolute_tab : List (FuncId × DFn × Bool) := [(56, Abs_F, true)]
theorem impl_absolute_hO : OrcOk Try.prog (tabD impl_absolute_tab) (tabM impl_absolute_tab) := tabD_cons Abs_Fok (tabD_nil _)
noncomputable def impl_absolute_T (v105 : Nat) : Tree (Nat) :=
  (.call (fconv .f64 (fabs (wid v105)) .f32) fun v106 =>
  .leaf v106)

noncomputable def impl_absolute_g (v105 : Nat) : Option (Nat) := (impl_absolute_T v105).run
def impl_absolute_enc (v105 y : Nat) : Rs := (.flt .f32 y, [])
theorem impl_absolute_den (v105 : Nat) : (den TT (tabD impl_absolute_tab) (tabM impl_absolute_tab) (impl_absolute_LO v105) (codeOf Try.f42) ([.flt .f32 v105] ++ List.replicate (Try.f42.ntmps - ([.flt .f32 v105] : List DV).length) .undef) []).bind (retD TT Try.f42.results.toList 0) = (impl_absolute_T v105).bind fun y => .leaf (impl_absolute_enc v105 y) := by kernel_rfl
theorem impl_absolute_fn (v105 : Nat) (F : Fr) (h0 : St F [] F.H0) (hA : DVs.Ok F [] [.flt .f32 v105]) {y : Nat} (hy : impl_absolute_g v105 = some y) : ∃ F' H', Fwd 0 F F' [] (impl_absolute_enc v105 y).2 ∧ FnOk Try.prog 42 (DVs.av F [.flt .f32 v105]) F.H0 ((impl_absolute_enc v105 y).1.av F') H' ∧ St F' (impl_absolute_enc v105 y).2 H' ∧ (impl_absolute_enc v105 y).1.Ok F' (impl_absolute_enc v105 y).2 :=
  fn_fin tok impl_absolute_hO mixed Try.func42 Try.call42 (by kernel_rfl) (LoopsOk_eq (l := []) (by kernel_rfl) trivial) (impl_absolute_den v105) hy h0 hA
noncomputable def impl_absolute_F : DFn := fun args L =>
  match args with
  | [.flt .f32 v105] =>
    .call (impl_absolute_g v105) fun y => .leaf (.flt .f32 y, L)
  | _ => .fail
theorem impl_absolute_Fok : COk Try.prog 42 impl_absolute_F true := by
  intro F L H args r L' hs ha hr
  unfold impl_absolute_F at hr
  split at hr
  · rename_i v105
    simp only [Tree.run] at hr
    obtain ⟨y, hy, hr⟩ := Option.bind_eq_some_iff.1 hr
    simp only [Tree.run, Option.some.injEq, Prod.mk.injEq] at hr
    obtain ⟨rfl, rfl⟩ := hr
    exact call_ok0 hs (fun k => (([] : List AV)[k]?).getD .top) [.flt .f32 v105] [.flt .f32 v105] (fun F' h0 hi hρ => ⟨by simp [DVs.av, DV.av, BR.av, hρ], impl_absolute_fn v105 F' (st_nil hi) ⟨trivial, trivial⟩ hy⟩) rfl
  · cases hr
/-! (impl.Matrix).rowNorm -/
noncomputable def impl_Matrix_rowNorm_l2_T (v91 : Int) (v92 : List Nat) (v156 : Nat) (v157 : Int) (s : Nat × Int) : Tree ((Nat × Int) ⊕ (Nat)) :=
  (.br (decide (s.2 < v91)) (
  (.call (impl_Matrix_at_g v91 v92 v157 s.2) fun v160 =>
  (.call (impl_absolute_g v160) fun v161 =>
  .leaf (.inl (fadd .f32 s.1 v161, IntKind.i64.wrap (s.2 + (1 : Int))))))
  ) (
  .leaf (.inr s.1)
  ))

noncomputable def impl_Matrix_rowNorm_l2_g (v91 : Int) (v92 : List Nat) (v156 : Nat) (v157 : Int) (s0 : Nat × Int) : Option (Nat) := whileM (fun s => (impl_Matrix_rowNorm_l2_T v91 v92 v156 v157 s).run) s0
def impl_Matrix_rowNorm_l2_E (v90 v91 : Int) (v92 : List Nat) (v156 : Nat) (v157 : Int) (s : Nat × Int) : Sd := ([Z,.ptr 0 (0 : Nat) 0 (3 : Nat),Z,.flt .f32 v156,.int .i64 v157,.flt .f32 s.1,Z,Z,.int .i64 v90,.int .i64 v157,Z,Z,Z,.int .i64 v91,.int .i64 s.2,Z,Z,Z,Z,Z,Z,Z,Z,Z,Z,Z,Z,Z,Z,Z], [.gen [.int .i64 v90, .int .i64 v91, .bslc (BR.root 0) (.f32 v92)] false 0])
def impl_Matrix_rowNorm_l2_X (v90 v91 : Int) (v92 : List Nat) (v156 : Nat) (v157 : Int) (x : Nat) : Out := (.normal, [Z,.ptr 0 (0 : Nat) 0 (3 : Nat),Z,.flt .f32 v156,Z,.flt .f32 x,Z,Z,.int .i64 v90,.int .i64 v157,Z,Z,Z,Z,Z,Z,Z,Z,Z,Z,Z,Z,Z,Z,Z,Z,Z,Z,Z,Z], [.gen [.int .i64 v90, .int .i64 v91, .bslc (BR.root 0) (.f32 v92)] false 0])
def impl_Matrix_rowNorm_l2_kill : List Nat := KL true [1,1,1,3,2,2,3,2,15]
def impl_Matrix_rowNorm_l2_nx : Exit → List Nat
  | .exit 0 => KL true [3,1,26]
  | .exit 1 => KL true [1,1,1,1,4,2,20]
  | .exit 2 => KL true [1,1,1,1,1,1,2,2,20]
  | .ret => KL true [2,1,27]
  | _ => []
noncomputable def impl_Matrix_rowNorm_l0_T (v90 v91 : Int) (v92 : List Nat) (s : Nat × Int) : Tree ((Nat × Int) ⊕ (Nat)) :=
  (.br (decide (s.2 < v90)) (
  (.need (some (impl_Matrix_rowNorm_l2_E v90 v91 v92 s.1 s.2 ((0 : Nat), (0 : Int))) = some (impl_Matrix_rowNorm_l2_E v90 v91 v92 s.1 s.2 ((0 : Nat), (0 : Int)))) <|
  (.call (impl_Matrix_rowNorm_l2_g v91 v92 s.1 s.2 ((0 : Nat), (0 : Int))) fun v162 =>
  .leaf (.inl (fmaxA .f32 s.1 v162, IntKind.i64.wrap (s.2 + (1 : Int))))))
  ) (
  .leaf (.inr s.1)
  ))

noncomputable def impl_Matrix_rowNorm_l0_g (v90 v91 : Int) (v92 : List Nat) (s0 : Nat × Int) : Option (Nat) := whileM (fun s => (impl_Matrix_rowNorm_l0_T v90 v91 v92 s).run) s0
def impl_Matrix_rowNorm_l0_E (v90 v91 : Int) (v92 : List Nat) (s : Nat × Int) : Sd := ([Z,.ptr 0 (0 : Nat) 0 (3 : Nat),Z,.flt .f32 s.1,Z,Z,Z,Z,.int .i64 v90,.int .i64 s.2,Z,Z,Z,Z,Z,Z,Z,Z,Z,Z,Z,Z,Z,Z,Z,Z,Z,Z,Z,Z], [.gen [.int .i64 v90, .int .i64 v91, .bslc (BR.root 0) (.f32 v92)] false 0])
def impl_Matrix_rowNorm_l0_X (v90 v91 : Int) (v92 : List Nat) (x : Nat) : Out := (.normal, [Z,Z,Z,.flt .f32 x,Z,Z,Z,Z,Z,Z,Z,Z,Z,Z,Z,Z,Z,Z,Z,Z,Z,Z,Z,Z,Z,Z,Z,Z,Z,Z], [])
def impl_Matrix_rowNorm_l0_kill : List Nat := KL true [1,1,1,1,4,2,20]
def impl_Matrix_rowNorm_l0_nx : Exit → List Nat
  | .exit 0 => KL true [3,1,26]
  | .ret => KL true [2,1,27]
  | _ => []
noncomputable def impl_Matrix_rowNorm_LO (v90 v91 : Int) (v92 : List Nat) : LOr := fun id e L =>
  match id with
  | 2 => .need (normA 0 impl_Matrix_rowNorm_l2_kill e L = some (impl_Matrix_rowNorm_l2_E v90 v91 v92 (gF (vAt e 3)) (gI (vAt e 4)) ((gF (vAt e 5)), (gI (vAt e 14))))) (.call (impl_Matrix_rowNorm_l2_g v91 v92 (gF (vAt e 3)) (gI (vAt e 4)) ((gF (vAt e 5)), (gI (vAt e 14)))) fun x => .leaf (impl_Matrix_rowNorm_l2_X v90 v91 v92 (gF (vAt e 3)) (gI (vAt e 4)) x))
  | 0 => .need (normA 0 impl_Matrix_rowNorm_l0_kill e L = some (impl_Matrix_rowNorm_l0_E v90 v91 v92 ((gF (vAt e 3)), (gI (vAt e 9))))) (.call (impl_Matrix_rowNorm_l0_g v90 v91 v92 ((gF (vAt e 3)), (gI (vAt e 9)))) fun x => .leaf (impl_Matrix_rowNorm_l0_X v90 v91 v92 x))
  | _ => .fail
noncomputable def impl_Matrix_rowNorm_tab : List (FuncId × DFn × Bool) := [(37, impl_Matrix_at_F, true), (42, impl_absolute_F, true)]
theorem impl_Matrix_rowNorm_hO : OrcOk Try.prog (tabD impl_Matrix_rowNorm_tab) (tabM impl_Matrix_rowNorm_tab) := tabD_cons impl_Matrix_at_Fok (tabD_cons impl_absolute_Fok (tabD_nil _))
theorem impl_Matrix_rowNorm_l2_be (v90 v91 : Int) (v92 : List Nat) (v156 : Nat) (v157 : Int) (s : Nat × Int) : bodyT TT (tabD impl_Matrix_rowNorm_tab) (tabM impl_Matrix_rowNorm_tab) (impl_Matrix_rowNorm_LO v90 v91 v92) 0 impl_Matrix_rowNorm_l2_kill impl_Matrix_rowNorm_l2_nx (bodyOf Try.f22 2) 2 (impl_Matrix_rowNorm_l2_E v90 v91 v92 v156 v157 s) = (impl_Matrix_rowNorm_l2_T v91 v92 v156 v157 s).bind fun y => .leaf (outS (impl_Matrix_rowNorm_l2_E v90 v91 v92 v156 v157) (impl_Matrix_rowNorm_l2_X v90 v91 v92 v156 v157) y) := by kernel_rfl
theorem impl_Matrix_rowNorm_l2_ok (v90 v91 : Int) (v92 : List Nat) : LSound Try.prog 0 (impl_Matrix_rowNorm_LO v90 v91 v92) 2 (bodyOf Try.f22 2) := by
  intro e L out h
  exact lo_ok (E := impl_Matrix_rowNorm_l2_E v90 v91 v92 (gF (vAt e 3)) (gI (vAt e 4))) (gT := impl_Matrix_rowNorm_l2_T v91 v92 (gF (vAt e 3)) (gI (vAt e 4))) (X := impl_Matrix_rowNorm_l2_X v90 v91 v92 (gF (vAt e 3)) (gI (vAt e 4))) (s0 := ((gF (vAt e 5)), (gI (vAt e 14)))) tok impl_Matrix_rowNorm_hO mixed (LoopsOk_eq (l := []) (by kernel_rfl) trivial) (impl_Matrix_rowNorm_l2_be v90 v91 v92 (gF (vAt e 3)) (gI (vAt e 4))) rfl (by intro x; rfl) h
theorem impl_Matrix_rowNorm_l0_be (v90 v91 : Int) (v92 : List Nat) (s : Nat × Int) : bodyT TT (tabD impl_Matrix_rowNorm_tab) (tabM impl_Matrix_rowNorm_tab) (impl_Matrix_rowNorm_LO v90 v91 v92) 0 impl_Matrix_rowNorm_l0_kill impl_Matrix_rowNorm_l0_nx (bodyOf Try.f22 0) 0 (impl_Matrix_rowNorm_l0_E v90 v91 v92 s) = (impl_Matrix_rowNorm_l0_T v90 v91 v92 s).bind fun y => .leaf (outS (impl_Matrix_rowNorm_l0_E v90 v91 v92) (impl_Matrix_rowNorm_l0_X v90 v91 v92) y) := by kernel_rfl
theorem impl_Matrix_rowNorm_l0_ok (v90 v91 : Int) (v92 : List Nat) : LSound Try.prog 0 (impl_Matrix_rowNorm_LO v90 v91 v92) 0 (bodyOf Try.f22 0) := by
  intro e L out h
  exact lo_ok (E := impl_Matrix_rowNorm_l0_E v90 v91 v92) (gT := impl_Matrix_rowNorm_l0_T v90 v91 v92) (X := impl_Matrix_rowNorm_l0_X v90 v91 v92) (s0 := ((gF (vAt e 3)), (gI (vAt e 9)))) tok impl_Matrix_rowNorm_hO mixed (LoopsOk_eq (l := [(2, bodyOf Try.f22 2)]) (by kernel_rfl) ⟨impl_Matrix_rowNorm_l2_ok v90 v91 v92, trivial⟩) (impl_Matrix_rowNorm_l0_be v90 v91 v92) rfl (by intro x; rfl) h
noncomputable def impl_Matrix_rowNorm_T (v90 v91 : Int) (v92 : List Nat) : Tree (Nat) :=
  (.need (some (impl_Matrix_rowNorm_l0_E v90 v91 v92 ((0 : Nat), (0 : Int))) = some (impl_Matrix_rowNorm_l0_E v90 v91 v92 ((0 : Nat), (0 : Int)))) <|
  (.call (impl_Matrix_rowNorm_l0_g v90 v91 v92 ((0 : Nat), (0 : Int))) fun v163 =>
  .leaf v163))

noncomputable def impl_Matrix_rowNorm_g (v90 v91 : Int) (v92 : List Nat) : Option (Nat) := (impl_Matrix_rowNorm_T v90 v91 v92).run
def impl_Matrix_rowNorm_enc (v90 v91 : Int) (v92 : List Nat) (y : Nat) : Rs := (.flt .f32 y, [])
theorem impl_Matrix_rowNorm_den (v90 v91 : Int) (v92 : List Nat) : (den TT (tabD impl_Matrix_rowNorm_tab) (tabM impl_Matrix_rowNorm_tab) (impl_Matrix_rowNorm_LO v90 v91 v92) (codeOf Try.f22) ([.agg [.int .i64 v90, .int .i64 v91, .bslc (BR.root 0) (.f32 v92)]] ++ List.replicate (Try.f22.ntmps - ([.agg [.int .i64 v90, .int .i64 v91, .bslc (BR.root 0) (.f32 v92)]] : List DV).length) .undef) []).bind (retD TT Try.f22.results.toList 0) = (impl_Matrix_rowNorm_T v90 v91 v92).bind fun y => .leaf (impl_Matrix_rowNorm_enc v90 v91 v92 y) := by kernel_rfl
theorem impl_Matrix_rowNorm_fn (v90 v91 : Int) (v92 : List Nat) (F : Fr) (h0 : St F [] F.H0) (hA : DVs.Ok F [] [.agg [.int .i64 v90, .int .i64 v91, .bslc (BR.root 0) (.f32 v92)]]) {y : Nat} (hy : impl_Matrix_rowNorm_g v90 v91 v92 = some y) : ∃ F' H', Fwd 0 F F' [] (impl_Matrix_rowNorm_enc v90 v91 v92 y).2 ∧ FnOk Try.prog 22 (DVs.av F [.agg [.int .i64 v90, .int .i64 v91, .bslc (BR.root 0) (.f32 v92)]]) F.H0 ((impl_Matrix_rowNorm_enc v90 v91 v92 y).1.av F') H' ∧ St F' (impl_Matrix_rowNorm_enc v90 v91 v92 y).2 H' ∧ (impl_Matrix_rowNorm_enc v90 v91 v92 y).1.Ok F' (impl_Matrix_rowNorm_enc v90 v91 v92 y).2 :=
  fn_fin tok impl_Matrix_rowNorm_hO mixed Try.func22 Try.call22 (by kernel_rfl) (LoopsOk_eq (l := [(0, bodyOf Try.f22 0)]) (by kernel_rfl) ⟨impl_Matrix_rowNorm_l0_ok v90 v91 v92, trivial⟩) (impl_Matrix_rowNorm_den v90 v91 v92) hy h0 hA
noncomputable def impl_Matrix_rowNorm_F : DFn := fun args L =>
  match args with
  | [.agg [.int .i64 v90, .int .i64 v91, a1]] =>
    optT (rowF32 L a1) fun v92 =>
    .call (impl_Matrix_rowNorm_g v90 v91 v92) fun y => .leaf (.flt .f32 y, L)
  | _ => .fail
theorem impl_Matrix_rowNorm_Fok : COk Try.prog 22 impl_Matrix_rowNorm_F true := by
  intro F L H args r L' hs ha hr
  unfold impl_Matrix_rowNorm_F at hr
  split at hr
  · rename_i v90 v91 a1
    obtain ⟨v92, hv92, hr⟩ := optT_run hr
    simp only [Tree.run] at hr
    obtain ⟨y, hy, hr⟩ := Option.bind_eq_some_iff.1 hr
    simp only [Tree.run, Option.some.injEq, Prod.mk.injEq] at hr
    obtain ⟨rfl, rfl⟩ := hr
    exact call_ok0 hs (fun k => (([a1.av F] : List AV)[k]?).getD .top) [.agg [.int .i64 v90, .int .i64 v91, a1]] [.agg [.int .i64 v90, .int .i64 v91, .bslc (BR.root 0) (.f32 v92)]] (fun F' h0 hi hρ => ⟨by simp [DVs.av, DV.av, BR.av, hρ], impl_Matrix_rowNorm_fn v90 v91 v92 F' (st_nil hi) ⟨⟨trivial, trivial, bslc_ok hi (by rw [h0, hρ]; exact rowF32_ok hs (DVs.okAt (DVs.okAt ha 0 rfl) 2 rfl) hv92), trivial⟩, trivial⟩ hy⟩) rfl
  · cases hr
/-! impl.finite -/
noncomputable def impl_finite_LO (v165 : Nat) : LOr := fun id e L =>
  match id with
  | _ => .fail
noncomputable def impl_finite_tab : List (FuncId × DFn × Bool) := [(41, impl_IsFinite_F, true)]
theorem impl_finite_hO : OrcOk Try.prog (tabD impl_finite_tab) (tabM impl_finite_tab) := tabD_cons impl_IsFinite_Fok (tabD_nil _)
noncomputable def impl_finite_T (v165 : Nat) : Tree ((Unit) ⊕ (Nat)) :=
  (.br (!(impl_IsFinite_v v165)) (
  .leaf (.inl ())
  ) (
  .leaf (.inr v165)
  ))

noncomputable def impl_finite_g (v165 : Nat) : Option ((Unit) ⊕ (Nat)) := (impl_finite_T v165).run
def impl_finite_enc (v165 : Nat) (y : (Unit) ⊕ (Nat)) : Rs := (match y with | .inl y => (.tup [.flt .f32 (0 : Nat), .lit false], []) | .inr y => (.tup [.flt .f32 y, .lit true], []))
theorem impl_finite_den (v165 : Nat) : (den TT (tabD impl_finite_tab) (tabM impl_finite_tab) (impl_finite_LO v165) (codeOf Try.f21) ([.flt .f32 v165] ++ List.replicate (Try.f21.ntmps - ([.flt .f32 v165] : List DV).length) .undef) []).bind (retD TT Try.f21.results.toList 0) = (impl_finite_T v165).bind fun y => .leaf (impl_finite_enc v165 y) := by kernel_rfl
theorem impl_finite_fn (v165 : Nat) (F : Fr) (h0 : St F [] F.H0) (hA : DVs.Ok F [] [.flt .f32 v165]) {y : (Unit) ⊕ (Nat)} (hy : impl_finite_g v165 = some y) : ∃ F' H', Fwd 0 F F' [] (impl_finite_enc v165 y).2 ∧ FnOk Try.prog 21 (DVs.av F [.flt .f32 v165]) F.H0 ((impl_finite_enc v165 y).1.av F') H' ∧ St F' (impl_finite_enc v165 y).2 H' ∧ (impl_finite_enc v165 y).1.Ok F' (impl_finite_enc v165 y).2 :=
  fn_fin tok impl_finite_hO mixed Try.func21 Try.call21 (by kernel_rfl) (LoopsOk_eq (l := []) (by kernel_rfl) trivial) (impl_finite_den v165) hy h0 hA
def impl_finite_v (v165 : Nat) : (Unit) ⊕ (Nat) :=
  if (!(impl_IsFinite_v v165)) = true then (
  .inl ()
  ) else (
  .inr v165
  )
theorem impl_finite_tot (v165 : Nat) : impl_finite_g v165 = some (impl_finite_v v165) := by
  unfold impl_finite_g impl_finite_T impl_finite_v
  simp only [Tree.run]
  repeat' (first | rfl | split)
noncomputable def impl_finite_F : DFn := fun args L =>
  match args with
  | [.flt .f32 v165] =>
    .sum (impl_finite_v v165) (fun y0 => .fail) (fun z0 => .leaf (.tup [.flt .f32 z0, .lit true], L))
  | _ => .fail
theorem impl_finite_Fok : COk Try.prog 21 impl_finite_F true := by
  intro F L H args r L' hs ha hr
  unfold impl_finite_F at hr
  split at hr
  · rename_i v165
    have hy := impl_finite_tot v165
    generalize impl_finite_v v165 = y at hy hr
    cases y with
    | inl y =>
      cases hr
    | inr y =>
      simp only [Tree.run, Option.some.injEq, Prod.mk.injEq] at hr
      obtain ⟨rfl, rfl⟩ := hr
      exact call_ok0 hs (fun k => (([] : List AV)[k]?).getD .top) [.flt .f32 v165] [.flt .f32 v165] (fun F' h0 hi hρ => ⟨by simp [DVs.av, DV.av, BR.av, hρ], impl_finite_fn v165 F' (st_nil hi) ⟨trivial, trivial⟩ hy⟩) rfl
  · cases hr
/-! impl.RowNorm -/
noncomputable def impl_RowNorm_LO (v60 v61 : Int) (v62 : List Nat) : LOr := fun id e L =>
  match id with
  | _ => .fail
noncomputable def impl_RowNorm_tab : List (FuncId × DFn × Bool) := [(20, impl_ValidMatrix_F, true), (22, impl_Matrix_rowNorm_F, true), (21, impl_finite_F, true)]
theorem impl_RowNorm_hO : OrcOk Try.prog (tabD impl_RowNorm_tab) (tabM impl_RowNorm_tab) := tabD_cons impl_ValidMatrix_Fok (tabD_cons impl_Matrix_rowNorm_Fok (tabD_cons impl_finite_Fok (tabD_nil _)))
noncomputable def impl_RowNorm_T (v60 v61 : Int) (v62 : List Nat) : Tree ((Unit) ⊕ (Nat)) :=
  (.call (impl_ValidMatrix_g v60 v61 v62) fun v89 =>
  (.br (!v89) (
  .leaf (.inl ())
  ) (
  (.call (impl_Matrix_rowNorm_g v60 v61 v62) fun v164 =>
  (.sum (impl_finite_v v164) (fun v166 =>
  .fail
  ) (fun v167 =>
  .leaf (.inr v167)
  )))
  )))

noncomputable def impl_RowNorm_g (v60 v61 : Int) (v62 : List Nat) : Option ((Unit) ⊕ (Nat)) := (impl_RowNorm_T v60 v61 v62).run
def impl_RowNorm_enc (v60 v61 : Int) (v62 : List Nat) (y : (Unit) ⊕ (Nat)) : Rs := (match y with | .inl y => (.tup [.flt .f32 (0 : Nat), .lit false], []) | .inr y => (.tup [.flt .f32 y, .lit true], []))
theorem impl_RowNorm_den (v60 v61 : Int) (v62 : List Nat) : (den TT (tabD impl_RowNorm_tab) (tabM impl_RowNorm_tab) (impl_RowNorm_LO v60 v61 v62) (codeOf Try.f6) ([.agg [.int .i64 v60, .int .i64 v61, .bslc (BR.root 0) (.f32 v62)]] ++ List.replicate (Try.f6.ntmps - ([.agg [.int .i64 v60, .int .i64 v61, .bslc (BR.root 0) (.f32 v62)]] : List DV).length) .undef) []).bind (retD TT Try.f6.results.toList 0) = (impl_RowNorm_T v60 v61 v62).bind fun y => .leaf (impl_RowNorm_enc v60 v61 v62 y) := by kernel_rfl
theorem impl_RowNorm_fn (v60 v61 : Int) (v62 : List Nat) (F : Fr) (h0 : St F [] F.H0) (hA : DVs.Ok F [] [.agg [.int .i64 v60, .int .i64 v61, .bslc (BR.root 0) (.f32 v62)]]) {y : (Unit) ⊕ (Nat)} (hy : impl_RowNorm_g v60 v61 v62 = some y) : ∃ F' H', Fwd 0 F F' [] (impl_RowNorm_enc v60 v61 v62 y).2 ∧ FnOk Try.prog 6 (DVs.av F [.agg [.int .i64 v60, .int .i64 v61, .bslc (BR.root 0) (.f32 v62)]]) F.H0 ((impl_RowNorm_enc v60 v61 v62 y).1.av F') H' ∧ St F' (impl_RowNorm_enc v60 v61 v62 y).2 H' ∧ (impl_RowNorm_enc v60 v61 v62 y).1.Ok F' (impl_RowNorm_enc v60 v61 v62 y).2 :=
  fn_fin tok impl_RowNorm_hO mixed Try.func6 Try.call6 (by kernel_rfl) (LoopsOk_eq (l := []) (by kernel_rfl) trivial) (impl_RowNorm_den v60 v61 v62) hy h0 hA
noncomputable def impl_RowNorm_F : DFn := fun args L =>
  match args with
  | [.agg [.int .i64 v60, .int .i64 v61, a1]] =>
    optT (rowF32 L a1) fun v62 =>
    .call (impl_RowNorm_g v60 v61 v62) fun y => .sum y (fun y0 => .fail) (fun z0 => .leaf (.tup [.flt .f32 z0, .lit true], L))
  | _ => .fail
theorem impl_RowNorm_Fok : COk Try.prog 6 impl_RowNorm_F true := by
  intro F L H args r L' hs ha hr
  unfold impl_RowNorm_F at hr
  split at hr
  · rename_i v60 v61 a1
    obtain ⟨v62, hv62, hr⟩ := optT_run hr
    simp only [Tree.run] at hr
    obtain ⟨y, hy, hr⟩ := Option.bind_eq_some_iff.1 hr
    cases y with
    | inl y =>
      cases hr
    | inr y =>
      simp only [Tree.run, Option.some.injEq, Prod.mk.injEq] at hr
      obtain ⟨rfl, rfl⟩ := hr
      exact call_ok0 hs (fun k => (([a1.av F] : List AV)[k]?).getD .top) [.agg [.int .i64 v60, .int .i64 v61, a1]] [.agg [.int .i64 v60, .int .i64 v61, .bslc (BR.root 0) (.f32 v62)]] (fun F' h0 hi hρ => ⟨by simp [DVs.av, DV.av, BR.av, hρ], impl_RowNorm_fn v60 v61 v62 F' (st_nil hi) ⟨⟨trivial, trivial, bslc_ok hi (by rw [h0, hρ]; exact rowF32_ok hs (DVs.okAt (DVs.okAt ha 0 rfl) 2 rfl) hv62), trivial⟩, trivial⟩ hy⟩) rfl
  · cases hr
/-! impl.newMatrix -/
noncomputable def impl_newMatrix_LO (v183 v184 : Int) : LOr := fun id e L =>
  match id with
  | _ => .fail
noncomputable def impl_newMatrix_tab : List (FuncId × DFn × Bool) := []
theorem impl_newMatrix_hO : OrcOk Try.prog (tabD impl_newMatrix_tab) (tabM impl_newMatrix_tab) := tabD_nil _
noncomputable def impl_newMatrix_T (v183 v184 : Int) : Tree (Int × Int) :=
  (.need (IntKind.i64.wrap (v183 * v184) = IntKind.i64.wrap (v183 * v184)) <|
  (.grd (inb (IntKind.i64.wrap (v183 * v184)) (maxN + 1)) <|
  .leaf (v183, v184)))

noncomputable def impl_newMatrix_g (v183 v184 : Int) : Option (Int × Int) := (impl_newMatrix_T v183 v184).run
def impl_newMatrix_enc (v183 v184 : Int) (y : Int × Int) : Rs := (.agg [.int .i64 y.1, .int .i64 y.2, .own 0 0 ((List.replicate (Int.toNat (IntKind.i64.wrap (v183 * v184))) (0 : Nat)).length)], [.row (.f32 (List.replicate (Int.toNat (IntKind.i64.wrap (v183 * v184))) (0 : Nat))) 0])
theorem impl_newMatrix_den (v183 v184 : Int) : (den TT (tabD impl_newMatrix_tab) (tabM impl_newMatrix_tab) (impl_newMatrix_LO v183 v184) (codeOf Try.f47) ([.int .i64 v183, .int .i64 v184] ++ List.replicate (Try.f47.ntmps - ([.int .i64 v183, .int .i64 v184] : List DV).length) .undef) []).bind (retD TT Try.f47.results.toList 0) = (impl_newMatrix_T v183 v184).bind fun y => .leaf (impl_newMatrix_enc v183 v184 y) := by kernel_rfl
theorem impl_newMatrix_fn (v183 v184 : Int) (F : Fr) (h0 : St F [] F.H0) (hA : DVs.Ok F [] [.int .i64 v183, .int .i64 v184]) {y : Int × Int} (hy : impl_newMatrix_g v183 v184 = some y) : ∃ F' H', Fwd 0 F F' [] (impl_newMatrix_enc v183 v184 y).2 ∧ FnOk Try.prog 47 (DVs.av F [.int .i64 v183, .int .i64 v184]) F.H0 ((impl_newMatrix_enc v183 v184 y).1.av F') H' ∧ St F' (impl_newMatrix_enc v183 v184 y).2 H' ∧ (impl_newMatrix_enc v183 v184 y).1.Ok F' (impl_newMatrix_enc v183 v184 y).2 :=
  fn_fin tok impl_newMatrix_hO mixed Try.func47 Try.call47 (by kernel_rfl) (LoopsOk_eq (l := []) (by kernel_rfl) trivial) (impl_newMatrix_den v183 v184) hy h0 hA
noncomputable def impl_newMatrix_F : DFn := fun args L =>
  match args with
  | [.int .i64 v183, .int .i64 v184] =>
    .call (impl_newMatrix_g v183 v184) fun y => .leaf (.agg [.int .i64 y.1, .int .i64 y.2, .own (L.length + 0) 0 ((List.replicate (Int.toNat (IntKind.i64.wrap (v183 * v184))) (0 : Nat)).length)], L ++ [.row (.f32 (List.replicate (Int.toNat (IntKind.i64.wrap (v183 * v184))) (0 : Nat))) 0])
  | _ => .fail
theorem impl_newMatrix_Fok : COk Try.prog 47 impl_newMatrix_F true := by
  intro F L H args r L' hs ha hr
  unfold impl_newMatrix_F at hr
  split at hr
  · rename_i v183 v184
    simp only [Tree.run] at hr
    obtain ⟨y, hy, hr⟩ := Option.bind_eq_some_iff.1 hr
    simp only [Tree.run, Option.some.injEq, Prod.mk.injEq] at hr
    obtain ⟨rfl, rfl⟩ := hr
    exact call_ok1 hs (fun k => (([] : List AV)[k]?).getD .top) [.int .i64 v183, .int .i64 v184] [.int .i64 v183, .int .i64 v184] (fun F' h0 hi hρ => ⟨by simp [DVs.av, DV.av, BR.av, hρ], impl_newMatrix_fn v183 v184 F' (st_nil hi) ⟨trivial, trivial, trivial⟩ hy⟩) rfl rfl
  · cases hr
/-! (impl.Matrix).flip$1 -/
noncomputable def impl_Matrix_flip_1_LO (v193 v194 v195 v196 : Int) (v197 : List Nat) : LOr := fun id e L =>
  match id with
  | _ => .fail
noncomputable def impl_Matrix_flip_1_tab : List (FuncId × DFn × Bool) := [(37, impl_Matrix_at_F, true)]
theorem impl_Matrix_flip_1_hO : OrcOk Try.prog (tabD impl_Matrix_flip_1_tab) (tabM impl_Matrix_flip_1_tab) := tabD_cons impl_Matrix_at_Fok (tabD_nil _)
noncomputable def impl_Matrix_flip_1_T (v193 v194 v196 : Int) (v197 : List Nat) : Tree (Nat) :=
  (.call (impl_Matrix_at_g v196 v197 v194 v193) fun v198 =>
  .leaf v198)

noncomputable def impl_Matrix_flip_1_g (v193 v194 v196 : Int) (v197 : List Nat) : Option (Nat) := (impl_Matrix_flip_1_T v193 v194 v196 v197).run
def impl_Matrix_flip_1_enc (v193 v194 v195 v196 : Int) (v197 : List Nat) (y : Nat) : Rs := (.flt .f32 y, [])
theorem impl_Matrix_flip_1_den (v193 v194 v195 v196 : Int) (v197 : List Nat) : (den TT (tabD impl_Matrix_flip_1_tab) (tabM impl_Matrix_flip_1_tab) (impl_Matrix_flip_1_LO v193 v194 v195 v196 v197) (codeOf Try.f43) ([.int .i64 v193, .int .i64 v194, .bptr (BR.root 0) [.int .i64 v195, .int .i64 v196, .bslc (BR.root 1) (.f32 v197)]] ++ List.replicate (Try.f43.ntmps - ([.int .i64 v193, .int .i64 v194, .bptr (BR.root 0) [.int .i64 v195, .int .i64 v196, .bslc (BR.root 1) (.f32 v197)]] : List DV).length) .undef) []).bind (retD TT Try.f43.results.toList 0) = (impl_Matrix_flip_1_T v193 v194 v196 v197).bind fun y => .leaf (impl_Matrix_flip_1_enc v193 v194 v195 v196 v197 y) := by kernel_rfl
theorem impl_Matrix_flip_1_fn (v193 v194 v195 v196 : Int) (v197 : List Nat) (F : Fr) (h0 : St F [] F.H0) (hA : DVs.Ok F [] [.int .i64 v193, .int .i64 v194, .bptr (BR.root 0) [.int .i64 v195, .int .i64 v196, .bslc (BR.root 1) (.f32 v197)]]) {y : Nat} (hy : impl_Matrix_flip_1_g v193 v194 v196 v197 = some y) : ∃ F' H', Fwd 0 F F' [] (impl_Matrix_flip_1_enc v193 v194 v195 v196 v197 y).2 ∧ FnOk Try.prog 43 (DVs.av F [.int .i64 v193, .int .i64 v194, .bptr (BR.root 0) [.int .i64 v195, .int .i64 v196, .bslc (BR.root 1) (.f32 v197)]]) F.H0 ((impl_Matrix_flip_1_enc v193 v194 v195 v196 v197 y).1.av F') H' ∧ St F' (impl_Matrix_flip_1_enc v193 v194 v195 v196 v197 y).2 H' ∧ (impl_Matrix_flip_1_enc v193 v194 v195 v196 v197 y).1.Ok F' (impl_Matrix_flip_1_enc v193 v194 v195 v196 v197 y).2 :=
  fn_fin tok impl_Matrix_flip_1_hO mixed Try.func43 Try.call43 (by kernel_rfl) (LoopsOk_eq (l := []) (by kernel_rfl) trivial) (impl_Matrix_flip_1_den v193 v194 v195 v196 v197) hy h0 hA
noncomputable def impl_Matrix_flip_1_F : DFn := fun args L =>
  match args with
  | [.int .i64 v193, .int .i64 v194, a1] =>
    optT (cellsOf L 3 a1) fun cs0 =>
    (match cs0 with
    | [.int .i64 v195, .int .i64 v196, a2] =>
    optT (rowF32 L a2) fun v197 =>
    .call (impl_Matrix_flip_1_g v193 v194 v196 v197) fun y => .leaf (.flt .f32 y, L)
    | _ => .fail)
  | _ => .fail
theorem impl_Matrix_flip_1_Fok : COk Try.prog 43 impl_Matrix_flip_1_F true := by
  intro F L H args r L' hs ha hr
  unfold impl_Matrix_flip_1_F at hr
  split at hr
  · rename_i v193 v194 a1
    obtain ⟨cs0, hcp0, hr⟩ := optT_run hr
    split at hr
    · rename_i v195 v196 a2
      obtain ⟨v197, hv197, hr⟩ := optT_run hr
      simp only [Tree.run] at hr
      obtain ⟨y, hy, hr⟩ := Option.bind_eq_some_iff.1 hr
      simp only [Tree.run, Option.some.injEq, Prod.mk.injEq] at hr
      obtain ⟨rfl, rfl⟩ := hr
      exact call_ok0 hs (fun k => (([a1.av F, a2.av F] : List AV)[k]?).getD .top) [.int .i64 v193, .int .i64 v194, a1] [.int .i64 v193, .int .i64 v194, .bptr (BR.root 0) [.int .i64 v195, .int .i64 v196, .bslc (BR.root 1) (.f32 v197)]] (fun F' h0 hi hρ => ⟨by simp [DVs.av, DV.av, BR.av, hρ], impl_Matrix_flip_1_fn v193 v194 v195 v196 v197 F' (st_nil hi) ⟨trivial, trivial, bptr_ok hi (by rw [h0]; simpa [DVs.av, DV.av, BR.av, hρ] using (cellsOf_ok hs (DVs.okAt ha 2 rfl) hcp0).1) ⟨trivial, trivial, bslc_ok hi (by rw [h0, hρ]; exact rowF32_ok hs (DVs.okAt (cellsOf_ok hs (DVs.okAt ha 2 rfl) hcp0).2 2 rfl) hv197), trivial⟩, trivial⟩ hy⟩) rfl
    · cases hr
  · cases hr
/-! (impl.Matrix).set -/
noncomputable def impl_Matrix_set_LO (v206 v207 : Int) (v208 : List Nat) (v209 v210 : Int) (v211 : Nat) : LOr := fun id e L =>
  match id with
  | _ => .fail
noncomputable def impl_Matrix_set_tab : List (FuncId × DFn × Bool) := []
theorem impl_Matrix_set_hO : OrcOk Try.prog (tabD impl_Matrix_set_tab) (tabM impl_Matrix_set_tab) := tabD_nil _
noncomputable def impl_Matrix_set_T (v207 : Int) (v208 : List Nat) (v209 v210 : Int) : Tree (Unit) :=
  (.grd (inb (IntKind.i64.wrap ((IntKind.i64.wrap (v209 * v207)) + v210)) v208.length) <|
  .leaf ())

noncomputable def impl_Matrix_set_g (v207 : Int) (v208 : List Nat) (v209 v210 : Int) : Option (Unit) := (impl_Matrix_set_T v207 v208 v209 v210).run
def impl_Matrix_set_enc (v206 v207 : Int) (v208 : List Nat) (v209 v210 : Int) (v211 : Nat) (y : Unit) : Rs := (.tup [], [.row (.f32 (List.set v208 (Int.toNat (IntKind.i64.wrap ((IntKind.i64.wrap (v209 * v207)) + v210))) v211)) 0])
theorem impl_Matrix_set_den (v206 v207 : Int) (v208 : List Nat) (v209 v210 : Int) (v211 : Nat) : (den TT (tabD impl_Matrix_set_tab) (tabM impl_Matrix_set_tab) (impl_Matrix_set_LO v206 v207 v208 v209 v210 v211) (codeOf Try.f48) ([.agg [.int .i64 v206, .int .i64 v207, .own 0 0 v208.length], .int .i64 v209, .int .i64 v210, .flt .f32 v211] ++ List.replicate (Try.f48.ntmps - ([.agg [.int .i64 v206, .int .i64 v207, .own 0 0 v208.length], .int .i64 v209, .int .i64 v210, .flt .f32 v211] : List DV).length) .undef) [.row (.f32 v208) 0]).bind (retD TT Try.f48.results.toList 1) = (impl_Matrix_set_T v207 v208 v209 v210).bind fun y => .leaf (impl_Matrix_set_enc v206 v207 v208 v209 v210 v211 y) := by kernel_rfl
theorem impl_Matrix_set_fn (v206 v207 : Int) (v208 : List Nat) (v209 v210 : Int) (v211 : Nat) (F : Fr) (h0 : St F [.row (.f32 v208) 0] F.H0) (hA : DVs.Ok F [.row (.f32 v208) 0] [.agg [.int .i64 v206, .int .i64 v207, .own 0 0 v208.length], .int .i64 v209, .int .i64 v210, .flt .f32 v211]) {y : Unit} (hy : impl_Matrix_set_g v207 v208 v209 v210 = some y) : ∃ F' H', Fwd 1 F F' [.row (.f32 v208) 0] (impl_Matrix_set_enc v206 v207 v208 v209 v210 v211 y).2 ∧ FnOk Try.prog 48 (DVs.av F [.agg [.int .i64 v206, .int .i64 v207, .own 0 0 v208.length], .int .i64 v209, .int .i64 v210, .flt .f32 v211]) F.H0 ((impl_Matrix_set_enc v206 v207 v208 v209 v210 v211 y).1.av F') H' ∧ St F' (impl_Matrix_set_enc v206 v207 v208 v209 v210 v211 y).2 H' ∧ (impl_Matrix_set_enc v206 v207 v208 v209 v210 v211 y).1.Ok F' (impl_Matrix_set_enc v206 v207 v208 v209 v210 v211 y).2 :=
  fn_fin tok impl_Matrix_set_hO mixed Try.func48 Try.call48 (by kernel_rfl) (LoopsOk_eq (l := []) (by kernel_rfl) trivial) (impl_Matrix_set_den v206 v207 v208 v209 v210 v211) hy h0 hA
noncomputable def impl_Matrix_set_F : DFn := fun args L =>
  match args with
  | [.agg [.int .i64 v206, .int .i64 v207, a1], .int .i64 v209, .int .i64 v210, .flt .f32 v211] =>
    optT (ownF32 L a1) fun qv208 =>
    (match sepB [qv208.1] [] with
    | true =>
    .call (impl_Matrix_set_g v207 qv208.2 v209 v210) fun y => .grd (decide ((List.set qv208.2 (Int.toNat (IntKind.i64.wrap ((IntKind.i64.wrap (v209 * v207)) + v210))) v211).length = qv208.2.length)) (.leaf (.tup [], setRows L ([qv208.1].zip [.f32 (List.set qv208.2 (Int.toNat (IntKind.i64.wrap ((IntKind.i64.wrap (v209 * v207)) + v210))) v211)])))
    | false => .fail)
  | _ => .fail
theorem impl_Matrix_set_Fok : COk Try.prog 48 impl_Matrix_set_F false := by
  intro F L H args r L' hs ha hr
  unfold impl_Matrix_set_F at hr
  split at hr
  · rename_i v206 v207 a1 v209 v210 v211
    obtain ⟨⟨jv208, v208⟩, hqv208, hr⟩ := optT_run hr
    simp only at hr
    split at hr
    · rename_i hsep
      obtain ⟨hnd, hsepv⟩ := sepB_spec hsep
      simp only [Tree.run] at hr
      obtain ⟨y, hy, hr⟩ := Option.bind_eq_some_iff.1 hr
      try simp only [Tree.run] at hr
      obtain ⟨hl0, hr⟩ := ite_run hr
      simp only [Option.some.injEq, Prod.mk.injEq] at hr
      obtain ⟨rfl, rfl⟩ := hr
      obtain ⟨hr0, hu0, ha0, hb0⟩ := (ownR_spec (DVs.okAt (DVs.okAt ha 0 rfl) 2 rfl) (ownF32_or hqv208))
      exact mut_ok hs (fun k => (([a1.av F] : List AV)[k]?).getD .top) [.agg [.int .i64 v206, .int .i64 v207, a1], .int .i64 v209, .int .i64 v210, .flt .f32 v211] [.agg [.int .i64 v206, .int .i64 v207, .own 0 0 v208.length], .int .i64 v209, .int .i64 v210, .flt .f32 v211] [jv208] [.f32 v208] [.f32 (List.set v208 (Int.toNat (IntKind.i64.wrap ((IntKind.i64.wrap (v209 * v207)) + v210))) v211)] hnd rfl rfl (fun i j q h1 h2 => by
          rcases i with _ | i
          · simp at h1 h2; subst h1; subst h2; exact hr0
          · simp at h1) (fun i q q' h1 h2 => by
          rcases i with _ | i
          · simp at h1 h2; subst h1; subst h2; first | exact of_decide_eq_true hl0 | rfl
          · simp at h1) (fun j hj => by simp at hj; subst hj; simp [DVs.refs, DV.refs, hu0]) (fun F' h0 hρ ab hst hS => ⟨by (have ab0 := ab 0 _ rfl; simp [DVs.av, DV.av, BR.av, hρ, Row.len, ha0, ab0]), by
          obtain ⟨F1, H1, k0, k1, k2, _⟩ := impl_Matrix_set_fn v206 v207 v208 v209 v210 v211 F' hst ⟨⟨trivial, trivial, ⟨_, rfl, Nat.le_refl _, Nat.le_refl _, fun _ => rfl, (ownR_spec (DVs.okAt (DVs.okAt ha 0 rfl) 2 rfl) (ownF32_or hqv208)).2.2.2⟩, trivial⟩, trivial, trivial, trivial, trivial⟩ hy
          exact ⟨F1, H1, k0, k1, k2⟩⟩) (fun F1 F2 => rfl) (fun F L' => trivial)
    · cases hr
  · cases hr
/-! impl.made -/
noncomputable def impl_made_l2_T (v179 v181 : Int) (v182 : List Nat) (v272 v274 v275 : Int) (s : Int × (List Nat)) : Tree ((Int × (List Nat)) ⊕ ((List Nat))) :=
  (.br (decide (s.1 < v179)) (
  (.call (impl_Matrix_flip_1_g v272 s.1 v181 v182) fun v277 =>
  (.call (impl_Matrix_set_g v275 s.2 v272 s.1) fun v278 =>
  (.grd (decide ((List.set s.2 (Int.toNat (IntKind.i64.wrap ((IntKind.i64.wrap (v272 * v275)) + s.1))) v277).length = s.2.length)) <|
  .leaf (.inl (IntKind.i64.wrap (s.1 + (1 : Int)), List.set s.2 (Int.toNat (IntKind.i64.wrap ((IntKind.i64.wrap (v272 * v275)) + s.1))) v277)))))
  ) (
  .leaf (.inr s.2)
  ))

noncomputable def impl_made_l2_g (v179 v181 : Int) (v182 : List Nat) (v272 v274 v275 : Int) (s0 : Int × (List Nat)) : Option ((List Nat)) := whileM (fun s => (impl_made_l2_T v179 v181 v182 v272 v274 v275 s).run) s0
def impl_made_l2_E (v178 v179 v180 v181 : Int) (v182 : List Nat) (v272 v274 v275 : Int) (s : Int × (List Nat)) : Sd := ([Z,.int .i64 v179,.fn 43 [.bptr (BR.root 0) [.int .i64 v180, .int .i64 v181, .bslc (BR.root 1) (.f32 v182)]],Z,Z,Z,.ptr 0 (0 : Nat) 0 (3 : Nat),.ptr 1 (0 : Nat) 0 (3 : Nat),.int .i64 v272,Z,Z,Z,Z,.int .i64 v178,.int .i64 v272,Z,Z,.int .i64 v179,.int .i64 s.1,Z,Z,Z,Z,Z,Z,Z,Z,Z,Z,Z,Z,Z], [.gen [.int .i64 (0 : Int), .int .i64 (0 : Int), .nilslc] false 0, .gen [.int .i64 v274, .int .i64 v275, .own 2 0 ((s.2).length)] false 0, .row (.f32 s.2) 0])
def impl_made_l2_X (v178 v179 v180 v181 : Int) (v182 : List Nat) (v272 v274 v275 : Int) (x : (List Nat)) : Out := (.normal, [Z,.int .i64 v179,.fn 43 [.bptr (BR.root 0) [.int .i64 v180, .int .i64 v181, .bslc (BR.root 1) (.f32 v182)]],Z,Z,Z,.ptr 0 (0 : Nat) 0 (3 : Nat),.ptr 1 (0 : Nat) 0 (3 : Nat),Z,Z,Z,Z,Z,.int .i64 v178,.int .i64 v272,Z,Z,Z,Z,Z,Z,Z,Z,Z,Z,Z,Z,Z,Z,Z,Z,Z], [.gen [.int .i64 (0 : Int), .int .i64 (0 : Int), .nilslc] false 0, .gen [.int .i64 v274, .int .i64 v275, .own 2 0 ((x).length)] false 0, .row (.f32 x) 0])
def impl_made_l2_kill : List Nat := KL true [1,2,3,3,4,2,2,2,13]
def impl_made_l2_nx : Exit → List Nat
  | .exit 0 => KL true [6,2,24]
  | .exit 1 => KL true [1,2,3,2,5,2,17]
  | .exit 2 => KL true [1,2,3,2,5,2,17]
  | .ret => KL true [6,1,25]
  | _ => []
noncomputable def impl_made_l0_T (v178 v179 v180 v181 : Int) (v182 : List Nat) (v255 v256 : Int) (s : Int × (List Nat)) : Tree ((Int × (List Nat)) ⊕ ((List Nat))) :=
  (.br (decide (s.1 < v178)) (
  (.need (some (impl_made_l2_E v178 v179 v180 v181 v182 s.1 v255 v256 ((0 : Int), s.2)) = some (impl_made_l2_E v178 v179 v180 v181 v182 s.1 v255 v256 ((0 : Int), s.2))) <|
  (.call (impl_made_l2_g v179 v181 v182 s.1 v255 v256 ((0 : Int), s.2)) fun v279 =>
  .leaf (.inl (IntKind.i64.wrap (s.1 + (1 : Int)), v279))))
  ) (
  .leaf (.inr s.2)
  ))

noncomputable def impl_made_l0_g (v178 v179 v180 v181 : Int) (v182 : List Nat) (v255 v256 : Int) (s0 : Int × (List Nat)) : Option ((List Nat)) := whileM (fun s => (impl_made_l0_T v178 v179 v180 v181 v182 v255 v256 s).run) s0
def impl_made_l0_E (v178 v179 v180 v181 : Int) (v182 : List Nat) (v255 v256 : Int) (s : Int × (List Nat)) : Sd := ([Z,.int .i64 v179,.fn 43 [.bptr (BR.root 0) [.int .i64 v180, .int .i64 v181, .bslc (BR.root 1) (.f32 v182)]],Z,Z,Z,.ptr 0 (0 : Nat) 0 (3 : Nat),.ptr 1 (0 : Nat) 0 (3 : Nat),Z,Z,Z,Z,Z,.int .i64 v178,.int .i64 s.1,Z,Z,Z,Z,Z,Z,Z,Z,Z,Z,Z,Z,Z,Z,Z,Z,Z], [.gen [.int .i64 (0 : Int), .int .i64 (0 : Int), .nilslc] false 0, .gen [.int .i64 v255, .int .i64 v256, .own 2 0 ((s.2).length)] false 0, .row (.f32 s.2) 0])
def impl_made_l0_X (v178 v179 v180 v181 : Int) (v182 : List Nat) (v255 v256 : Int) (x : (List Nat)) : Out := (.normal, [Z,Z,Z,Z,Z,Z,.ptr 0 (0 : Nat) 0 (3 : Nat),.ptr 1 (0 : Nat) 0 (3 : Nat),Z,Z,Z,Z,Z,Z,Z,Z,Z,Z,Z,Z,Z,Z,Z,Z,Z,Z,Z,Z,Z,Z,Z,Z], [.gen [.int .i64 (0 : Int), .int .i64 (0 : Int), .nilslc] false 0, .gen [.int .i64 v255, .int .i64 v256, .own 2 0 ((x).length)] false 0, .row (.f32 x) 0])
def impl_made_l0_kill : List Nat := KL true [1,2,3,2,5,2,17]
def impl_made_l0_nx : Exit → List Nat
  | .exit 0 => KL true [6,2,24]
  | .ret => KL true [6,1,25]
  | _ => []
noncomputable def impl_made_LO (v178 v179 v180 v181 : Int) (v182 : List Nat) : LOr := fun id e L =>
  match id with
  | 2 => .need (normA 0 impl_made_l2_kill e L = some (impl_made_l2_E v178 v179 v180 v181 v182 (gI (vAt e 8)) (gI (cAt L (vAt e 7) 0)) (gI (cAt L (vAt e 7) 1)) ((gI (vAt e 18)), (gRF L (cAt L (vAt e 7) 2))))) (.call (impl_made_l2_g v179 v181 v182 (gI (vAt e 8)) (gI (cAt L (vAt e 7) 0)) (gI (cAt L (vAt e 7) 1)) ((gI (vAt e 18)), (gRF L (cAt L (vAt e 7) 2)))) fun x => .leaf (impl_made_l2_X v178 v179 v180 v181 v182 (gI (vAt e 8)) (gI (cAt L (vAt e 7) 0)) (gI (cAt L (vAt e 7) 1)) x))
  | 0 => .need (normA 0 impl_made_l0_kill e L = some (impl_made_l0_E v178 v179 v180 v181 v182 (gI (cAt L (vAt e 7) 0)) (gI (cAt L (vAt e 7) 1)) ((gI (vAt e 14)), (gRF L (cAt L (vAt e 7) 2))))) (.call (impl_made_l0_g v178 v179 v180 v181 v182 (gI (cAt L (vAt e 7) 0)) (gI (cAt L (vAt e 7) 1)) ((gI (vAt e 14)), (gRF L (cAt L (vAt e 7) 2)))) fun x => .leaf (impl_made_l0_X v178 v179 v180 v181 v182 (gI (cAt L (vAt e 7) 0)) (gI (cAt L (vAt e 7) 1)) x))
  | _ => .fail
noncomputable def impl_made_tab : List (FuncId × DFn × Bool) := [(47, impl_newMatrix_F, true), (43, impl_Matrix_flip_1_F, true), (48, impl_Matrix_set_F, false)]
theorem impl_made_hO : OrcOk Try.prog (tabD impl_made_tab) (tabM impl_made_tab) := tabD_cons impl_newMatrix_Fok (tabD_cons impl_Matrix_flip_1_Fok (tabD_cons impl_Matrix_set_Fok (tabD_nil _)))
theorem impl_made_l2_be (v178 v179 v180 v181 : Int) (v182 : List Nat) (v272 v274 v275 : Int) (s : Int × (List Nat)) : bodyT TT (tabD impl_made_tab) (tabM impl_made_tab) (impl_made_LO v178 v179 v180 v181 v182) 0 impl_made_l2_kill impl_made_l2_nx (bodyOf Try.f32 2) 2 (impl_made_l2_E v178 v179 v180 v181 v182 v272 v274 v275 s) = (impl_made_l2_T v179 v181 v182 v272 v274 v275 s).bind fun y => .leaf (outS (impl_made_l2_E v178 v179 v180 v181 v182 v272 v274 v275) (impl_made_l2_X v178 v179 v180 v181 v182 v272 v274 v275) y) := by kernel_rfl
theorem impl_made_l2_ok (v178 v179 v180 v181 : Int) (v182 : List Nat) : LSound Try.prog 0 (impl_made_LO v178 v179 v180 v181 v182) 2 (bodyOf Try.f32 2) := by
  intro e L out h
  exact lo_ok (E := impl_made_l2_E v178 v179 v180 v181 v182 (gI (vAt e 8)) (gI (cAt L (vAt e 7) 0)) (gI (cAt L (vAt e 7) 1))) (gT := impl_made_l2_T v179 v181 v182 (gI (vAt e 8)) (gI (cAt L (vAt e 7) 0)) (gI (cAt L (vAt e 7) 1))) (X := impl_made_l2_X v178 v179 v180 v181 v182 (gI (vAt e 8)) (gI (cAt L (vAt e 7) 0)) (gI (cAt L (vAt e 7) 1))) (s0 := ((gI (vAt e 18)), (gRF L (cAt L (vAt e 7) 2)))) tok impl_made_hO mixed (LoopsOk_eq (l := []) (by kernel_rfl) trivial) (impl_made_l2_be v178 v179 v180 v181 v182 (gI (vAt e 8)) (gI (cAt L (vAt e 7) 0)) (gI (cAt L (vAt e 7) 1))) rfl (by intro x; rfl) h
theorem impl_made_l0_be (v178 v179 v180 v181 : Int) (v182 : List Nat) (v255 v256 : Int) (s : Int × (List Nat)) : bodyT TT (tabD impl_made_tab) (tabM impl_made_tab) (impl_made_LO v178 v179 v180 v181 v182) 0 impl_made_l0_kill impl_made_l0_nx (bodyOf Try.f32 0) 0 (impl_made_l0_E v178 v179 v180 v181 v182 v255 v256 s) = (impl_made_l0_T v178 v179 v180 v181 v182 v255 v256 s).bind fun y => .leaf (outS (impl_made_l0_E v178 v179 v180 v181 v182 v255 v256) (impl_made_l0_X v178 v179 v180 v181 v182 v255 v256) y) := by kernel_rfl
theorem impl_made_l0_ok (v178 v179 v180 v181 : Int) (v182 : List Nat) : LSound Try.prog 0 (impl_made_LO v178 v179 v180 v181 v182) 0 (bodyOf Try.f32 0) := by
  intro e L out h
  exact lo_ok (E := impl_made_l0_E v178 v179 v180 v181 v182 (gI (cAt L (vAt e 7) 0)) (gI (cAt L (vAt e 7) 1))) (gT := impl_made_l0_T v178 v179 v180 v181 v182 (gI (cAt L (vAt e 7) 0)) (gI (cAt L (vAt e 7) 1))) (X := impl_made_l0_X v178 v179 v180 v181 v182 (gI (cAt L (vAt e 7) 0)) (gI (cAt L (vAt e 7) 1))) (s0 := ((gI (vAt e 14)), (gRF L (cAt L (vAt e 7) 2)))) tok impl_made_hO mixed (LoopsOk_eq (l := [(2, bodyOf Try.f32 2)]) (by kernel_rfl) ⟨impl_made_l2_ok v178 v179 v180 v181 v182, trivial⟩) (impl_made_l0_be v178 v179 v180 v181 v182 (gI (cAt L (vAt e 7) 0)) (gI (cAt L (vAt e 7) 1))) rfl (by intro x; rfl) h
noncomputable def impl_made_T (v178 v179 v180 v181 : Int) (v182 : List Nat) : Tree (Int × Int × (List Nat)) :=
  (.call (impl_newMatrix_g v178 v179) fun v185 =>
  (.need (some (impl_made_l0_E v178 v179 v180 v181 v182 v185.1 v185.2 ((0 : Int), List.replicate (Int.toNat (IntKind.i64.wrap (v178 * v179))) (0 : Nat))) = some (impl_made_l0_E v178 v179 v180 v181 v182 v185.1 v185.2 ((0 : Int), List.replicate (Int.toNat (IntKind.i64.wrap (v178 * v179))) (0 : Nat)))) <|
  (.call (impl_made_l0_g v178 v179 v180 v181 v182 v185.1 v185.2 ((0 : Int), List.replicate (Int.toNat (IntKind.i64.wrap (v178 * v179))) (0 : Nat))) fun v280 =>
  .leaf (v185.1, v185.2, v280))))

noncomputable def impl_made_g (v178 v179 v180 v181 : Int) (v182 : List Nat) : Option (Int × Int × (List Nat)) := (impl_made_T v178 v179 v180 v181 v182).run
def impl_made_enc (v178 v179 v180 v181 : Int) (v182 : List Nat) (y : Int × Int × (List Nat)) : Rs := (.agg [.int .i64 y.1, .int .i64 y.2.1, .own 0 0 ((y.2.2).length)], [.row (.f32 y.2.2) 0])
theorem impl_made_den (v178 v179 v180 v181 : Int) (v182 : List Nat) : (den TT (tabD impl_made_tab) (tabM impl_made_tab) (impl_made_LO v178 v179 v180 v181 v182) (codeOf Try.f32) ([.int .i64 v178, .int .i64 v179, .fn 43 [.bptr (BR.root 0) [.int .i64 v180, .int .i64 v181, .bslc (BR.root 1) (.f32 v182)]]] ++ List.replicate (Try.f32.ntmps - ([.int .i64 v178, .int .i64 v179, .fn 43 [.bptr (BR.root 0) [.int .i64 v180, .int .i64 v181, .bslc (BR.root 1) (.f32 v182)]]] : List DV).length) .undef) []).bind (retD TT Try.f32.results.toList 0) = (impl_made_T v178 v179 v180 v181 v182).bind fun y => .leaf (impl_made_enc v178 v179 v180 v181 v182 y) := by kernel_rfl
theorem impl_made_fn (v178 v179 v180 v181 : Int) (v182 : List Nat) (F : Fr) (h0 : St F [] F.H0) (hA : DVs.Ok F [] [.int .i64 v178, .int .i64 v179, .fn 43 [.bptr (BR.root 0) [.int .i64 v180, .int .i64 v181, .bslc (BR.root 1) (.f32 v182)]]]) {y : Int × Int × (List Nat)} (hy : impl_made_g v178 v179 v180 v181 v182 = some y) : ∃ F' H', Fwd 0 F F' [] (impl_made_enc v178 v179 v180 v181 v182 y).2 ∧ FnOk Try.prog 32 (DVs.av F [.int .i64 v178, .int .i64 v179, .fn 43 [.bptr (BR.root 0) [.int .i64 v180, .int .i64 v181, .bslc (BR.root 1) (.f32 v182)]]]) F.H0 ((impl_made_enc v178 v179 v180 v181 v182 y).1.av F') H' ∧ St F' (impl_made_enc v178 v179 v180 v181 v182 y).2 H' ∧ (impl_made_enc v178 v179 v180 v181 v182 y).1.Ok F' (impl_made_enc v178 v179 v180 v181 v182 y).2 :=
  fn_fin tok impl_made_hO mixed Try.func32 Try.call32 (by kernel_rfl) (LoopsOk_eq (l := [(0, bodyOf Try.f32 0)]) (by kernel_rfl) ⟨impl_made_l0_ok v178 v179 v180 v181 v182, trivial⟩) (impl_made_den v178 v179 v180 v181 v182) hy h0 hA
noncomputable def impl_made_F : DFn := fun args L =>
  match args with
  | [.int .i64 v178, .int .i64 v179, .fn 43 [a1]] =>
    optT (cellsOf L 3 a1) fun cs0 =>
    (match cs0 with
    | [.int .i64 v180, .int .i64 v181, a2] =>
    optT (rowF32 L a2) fun v182 =>
    .call (impl_made_g v178 v179 v180 v181 v182) fun y => .leaf (.agg [.int .i64 y.1, .int .i64 y.2.1, .own (L.length + 0) 0 ((y.2.2).length)], L ++ [.row (.f32 y.2.2) 0])
    | _ => .fail)
  | _ => .fail
theorem impl_made_Fok : COk Try.prog 32 impl_made_F true := by
  intro F L H args r L' hs ha hr
  unfold impl_made_F at hr
  split at hr
  · rename_i v178 v179 a1
    obtain ⟨cs0, hcp0, hr⟩ := optT_run hr
    split at hr
    · rename_i v180 v181 a2
      obtain ⟨v182, hv182, hr⟩ := optT_run hr
      simp only [Tree.run] at hr
      obtain ⟨y, hy, hr⟩ := Option.bind_eq_some_iff.1 hr
      simp only [Tree.run, Option.some.injEq, Prod.mk.injEq] at hr
      obtain ⟨rfl, rfl⟩ := hr
      exact call_ok1 hs (fun k => (([a1.av F, a2.av F] : List AV)[k]?).getD .top) [.int .i64 v178, .int .i64 v179, .fn 43 [a1]] [.int .i64 v178, .int .i64 v179, .fn 43 [.bptr (BR.root 0) [.int .i64 v180, .int .i64 v181, .bslc (BR.root 1) (.f32 v182)]]] (fun F' h0 hi hρ => ⟨by simp [DVs.av, DV.av, BR.av, hρ], impl_made_fn v178 v179 v180 v181 v182 F' (st_nil hi) ⟨trivial, trivial, ⟨bptr_ok hi (by rw [h0]; simpa [DVs.av, DV.av, BR.av, hρ] using (cellsOf_ok hs (DVs.okAt (DVs.okAt ha 2 rfl) 0 rfl) hcp0).1) ⟨trivial, trivial, bslc_ok hi (by rw [h0, hρ]; exact rowF32_ok hs (DVs.okAt (cellsOf_ok hs (DVs.okAt (DVs.okAt ha 2 rfl) 0 rfl) hcp0).2 2 rfl) hv182), trivial⟩, trivial⟩, trivial⟩ hy⟩) rfl rfl
    · cases hr
  · cases hr
/-! (impl.Matrix).flip -/
noncomputable def impl_Matrix_flip_LO (v175 v176 : Int) (v177 : List Nat) : LOr := fun id e L =>
  match id with
  | _ => .fail
noncomputable def impl_Matrix_flip_tab : List (FuncId × DFn × Bool) := [(32, impl_made_F, true)]
theorem impl_Matrix_flip_hO : OrcOk Try.prog (tabD impl_Matrix_flip_tab) (tabM impl_Matrix_flip_tab) := tabD_cons impl_made_Fok (tabD_nil _)
noncomputable def impl_Matrix_flip_T (v175 v176 : Int) (v177 : List Nat) : Tree (Int × Int × (List Nat)) :=
  (.call (impl_made_g v176 v175 v175 v176 v177) fun v281 =>
  .leaf (v281.1, v281.2.1, v281.2.2))

noncomputable def impl_Matrix_flip_g (v175 v176 : Int) (v177 : List Nat) : Option (Int × Int × (List Nat)) := (impl_Matrix_flip_T v175 v176 v177).run
def impl_Matrix_flip_enc (v175 v176 : Int) (v177 : List Nat) (y : Int × Int × (List Nat)) : Rs := (.agg [.int .i64 y.1, .int .i64 y.2.1, .own 0 0 ((y.2.2).length)], [.row (.f32 y.2.2) 0])
theorem impl_Matrix_flip_den (v175 v176 : Int) (v177 : List Nat) : (den TT (tabD impl_Matrix_flip_tab) (tabM impl_Matrix_flip_tab) (impl_Matrix_flip_LO v175 v176 v177) (codeOf Try.f23) ([.agg [.int .i64 v175, .int .i64 v176, .bslc (BR.root 0) (.f32 v177)]] ++ List.replicate (Try.f23.ntmps - ([.agg [.int .i64 v175, .int .i64 v176, .bslc (BR.root 0) (.f32 v177)]] : List DV).length) .undef) []).bind (retD TT Try.f23.results.toList 0) = (impl_Matrix_flip_T v175 v176 v177).bind fun y => .leaf (impl_Matrix_flip_enc v175 v176 v177 y) := by kernel_rfl
theorem impl_Matrix_flip_fn (v175 v176 : Int) (v177 : List Nat) (F : Fr) (h0 : St F [] F.H0) (hA : DVs.Ok F [] [.agg [.int .i64 v175, .int .i64 v176, .bslc (BR.root 0) (.f32 v177)]]) {y : Int × Int × (List Nat)} (hy : impl_Matrix_flip_g v175 v176 v177 = some y) : ∃ F' H', Fwd 0 F F' [] (impl_Matrix_flip_enc v175 v176 v177 y).2 ∧ FnOk Try.prog 23 (DVs.av F [.agg [.int .i64 v175, .int .i64 v176, .bslc (BR.root 0) (.f32 v177)]]) F.H0 ((impl_Matrix_flip_enc v175 v176 v177 y).1.av F') H' ∧ St F' (impl_Matrix_flip_enc v175 v176 v177 y).2 H' ∧ (impl_Matrix_flip_enc v175 v176 v177 y).1.Ok F' (impl_Matrix_flip_enc v175 v176 v177 y).2 :=
  fn_fin tok impl_Matrix_flip_hO mixed Try.func23 Try.call23 (by kernel_rfl) (LoopsOk_eq (l := []) (by kernel_rfl) trivial) (impl_Matrix_flip_den v175 v176 v177) hy h0 hA
noncomputable def impl_Matrix_flip_F : DFn := fun args L =>
  match args with
  | [.agg [.int .i64 v175, .int .i64 v176, a1]] =>
    optT (rowF32 L a1) fun v177 =>
    .call (impl_Matrix_flip_g v175 v176 v177) fun y => .leaf (.agg [.int .i64 y.1, .int .i64 y.2.1, .own (L.length + 0) 0 ((y.2.2).length)], L ++ [.row (.f32 y.2.2) 0])
  | _ => .fail
theorem impl_Matrix_flip_Fok : COk Try.prog 23 impl_Matrix_flip_F true := by
  intro F L H args r L' hs ha hr
  unfold impl_Matrix_flip_F at hr
  split at hr
  · rename_i v175 v176 a1
    obtain ⟨v177, hv177, hr⟩ := optT_run hr
    simp only [Tree.run] at hr
    obtain ⟨y, hy, hr⟩ := Option.bind_eq_some_iff.1 hr
    simp only [Tree.run, Option.some.injEq, Prod.mk.injEq] at hr
    obtain ⟨rfl, rfl⟩ := hr
    exact call_ok1 hs (fun k => (([a1.av F] : List AV)[k]?).getD .top) [.agg [.int .i64 v175, .int .i64 v176, a1]] [.agg [.int .i64 v175, .int .i64 v176, .bslc (BR.root 0) (.f32 v177)]] (fun F' h0 hi hρ => ⟨by simp [DVs.av, DV.av, BR.av, hρ], impl_Matrix_flip_fn v175 v176 v177 F' (st_nil hi) ⟨⟨trivial, trivial, bslc_ok hi (by rw [h0, hρ]; exact rowF32_ok hs (DVs.okAt (DVs.okAt ha 0 rfl) 2 rfl) hv177), trivial⟩, trivial⟩ hy⟩) rfl rfl
  · cases hr
/-! impl.ColumnNorm -/
noncomputable def impl_ColumnNorm_LO (v171 v172 : Int) (v173 : List Nat) : LOr := fun id e L =>
  match id with
  | _ => .fail
noncomputable def impl_ColumnNorm_tab : List (FuncId × DFn × Bool) := [(20, impl_ValidMatrix_F, true), (23, impl_Matrix_flip_F, true), (22, impl_Matrix_rowNorm_F, true), (21, impl_finite_F, true)]
theorem impl_ColumnNorm_hO : OrcOk Try.prog (tabD impl_ColumnNorm_tab) (tabM impl_ColumnNorm_tab) := tabD_cons impl_ValidMatrix_Fok (tabD_cons impl_Matrix_flip_Fok (tabD_cons impl_Matrix_rowNorm_Fok (tabD_cons impl_finite_Fok (tabD_nil _))))
noncomputable def impl_ColumnNorm_T (v171 v172 : Int) (v173 : List Nat) : Tree ((Unit) ⊕ (Nat)) :=
  (.call (impl_ValidMatrix_g v171 v172 v173) fun v174 =>
  (.br (!v174) (
  .leaf (.inl ())
  ) (
  (.call (impl_Matrix_flip_g v171 v172 v173) fun v282 =>
  (.call (impl_Matrix_rowNorm_g v282.1 v282.2.1 v282.2.2) fun v283 =>
  (.sum (impl_finite_v v283) (fun v284 =>
  .fail
  ) (fun v285 =>
  .leaf (.inr v285)
  ))))
  )))

noncomputable def impl_ColumnNorm_g (v171 v172 : Int) (v173 : List Nat) : Option ((Unit) ⊕ (Nat)) := (impl_ColumnNorm_T v171 v172 v173).run
def impl_ColumnNorm_enc (v171 v172 : Int) (v173 : List Nat) (y : (Unit) ⊕ (Nat)) : Rs := (match y with | .inl y => (.tup [.flt .f32 (0 : Nat), .lit false], []) | .inr y => (.tup [.flt .f32 y, .lit true], []))
theorem impl_ColumnNorm_den (v171 v172 : Int) (v173 : List Nat) : (den TT (tabD impl_ColumnNorm_tab) (tabM impl_ColumnNorm_tab) (impl_ColumnNorm_LO v171 v172 v173) (codeOf Try.f7) ([.agg [.int .i64 v171, .int .i64 v172, .bslc (BR.root 0) (.f32 v173)]] ++ List.replicate (Try.f7.ntmps - ([.agg [.int .i64 v171, .int .i64 v172, .bslc (BR.root 0) (.f32 v173)]] : List DV).length) .undef) []).bind (retD TT Try.f7.results.toList 0) = (impl_ColumnNorm_T v171 v172 v173).bind fun y => .leaf (impl_ColumnNorm_enc v171 v172 v173 y) := by kernel_rfl
theorem impl_ColumnNorm_fn (v171 v172 : Int) (v173 : List Nat) (F : Fr) (h0 : St F [] F.H0) (hA : DVs.Ok F [] [.agg [.int .i64 v171, .int .i64 v172, .bslc (BR.root 0) (.f32 v173)]]) {y : (Unit) ⊕ (Nat)} (hy : impl_ColumnNorm_g v171 v172 v173 = some y) : ∃ F' H', Fwd 0 F F' [] (impl_ColumnNorm_enc v171 v172 v173 y).2 ∧ FnOk Try.prog 7 (DVs.av F [.agg [.int .i64 v171, .int .i64 v172, .bslc (BR.root 0) (.f32 v173)]]) F.H0 ((impl_ColumnNorm_enc v171 v172 v173 y).1.av F') H' ∧ St F' (impl_ColumnNorm_enc v171 v172 v173 y).2 H' ∧ (impl_ColumnNorm_enc v171 v172 v173 y).1.Ok F' (impl_ColumnNorm_enc v171 v172 v173 y).2 :=
  fn_fin tok impl_ColumnNorm_hO mixed Try.func7 Try.call7 (by kernel_rfl) (LoopsOk_eq (l := []) (by kernel_rfl) trivial) (impl_ColumnNorm_den v171 v172 v173) hy h0 hA
noncomputable def impl_ColumnNorm_F : DFn := fun args L =>
  match args with
  | [.agg [.int .i64 v171, .int .i64 v172, a1]] =>
    optT (rowF32 L a1) fun v173 =>
    .call (impl_ColumnNorm_g v171 v172 v173) fun y => .sum y (fun y0 => .fail) (fun z0 => .leaf (.tup [.flt .f32 z0, .lit true], L))
  | _ => .fail
theorem impl_ColumnNorm_Fok : COk Try.prog 7 impl_ColumnNorm_F true := by
  intro F L H args r L' hs ha hr
  unfold impl_ColumnNorm_F at hr
  split at hr
  · rename_i v171 v172 a1
    obtain ⟨v173, hv173, hr⟩ := optT_run hr
    simp only [Tree.run] at hr
    obtain ⟨y, hy, hr⟩ := Option.bind_eq_some_iff.1 hr
    cases y with
    | inl y =>
      cases hr
    | inr y =>
      simp only [Tree.run, Option.some.injEq, Prod.mk.injEq] at hr
      obtain ⟨rfl, rfl⟩ := hr
      exact call_ok0 hs (fun k => (([a1.av F] : List AV)[k]?).getD .top) [.agg [.int .i64 v171, .int .i64 v172, a1]] [.agg [.int .i64 v171, .int .i64 v172, .bslc (BR.root 0) (.f32 v173)]] (fun F' h0 hi hρ => ⟨by simp [DVs.av, DV.av, BR.av, hρ], impl_ColumnNorm_fn v171 v172 v173 F' (st_nil hi) ⟨⟨trivial, trivial, bslc_ok hi (by rw [h0, hρ]; exact rowF32_ok hs (DVs.okAt (DVs.okAt ha 0 rfl) 2 rfl) hv173), trivial⟩, trivial⟩ hy⟩) rfl
  · cases hr
/-! impl.mul -/
noncomputable def impl_mul_LO (v298 v299 : Nat) : LOr := fun id e L =>
  match id with
  | _ => .fail
noncomputable def impl_mul_tab : List (FuncId × DFn × Bool) := []
theorem impl_mul_hO : OrcOk Try.prog (tabD impl_mul_tab) (tabM impl_mul_tab) := tabD_nil _
noncomputable def impl_mul_T (v298 v299 : Nat) : Tree (Nat) :=
  .leaf (fmul .f32 v298 v299)

noncomputable def impl_mul_g (v298 v299 : Nat) : Option (Nat) := (impl_mul_T v298 v299).run
def impl_mul_enc (v298 v299 y : Nat) : Rs := (.flt .f32 y, [])
theorem impl_mul_den (v298 v299 : Nat) : (den TT (tabD impl_mul_tab) (tabM impl_mul_tab) (impl_mul_LO v298 v299) (codeOf Try.f58) ([.flt .f32 v298, .flt .f32 v299] ++ List.replicate (Try.f58.ntmps - ([.flt .f32 v298, .flt .f32 v299] : List DV).length) .undef) []).bind (retD TT Try.f58.results.toList 0) = (impl_mul_T v298 v299).bind fun y => .leaf (impl_mul_enc v298 v299 y) := by kernel_rfl
theorem impl_mul_fn (v298 v299 : Nat) (F : Fr) (h0 : St F [] F.H0) (hA : DVs.Ok F [] [.flt .f32 v298, .flt .f32 v299]) {y : Nat} (hy : impl_mul_g v298 v299 = some y) : ∃ F' H', Fwd 0 F F' [] (impl_mul_enc v298 v299 y).2 ∧ FnOk Try.prog 58 (DVs.av F [.flt .f32 v298, .flt .f32 v299]) F.H0 ((impl_mul_enc v298 v299 y).1.av F') H' ∧ St F' (impl_mul_enc v298 v299 y).2 H' ∧ (impl_mul_enc v298 v299 y).1.Ok F' (impl_mul_enc v298 v299 y).2 :=
  fn_fin tok impl_mul_hO mixed Try.func58 Try.call58 (by kernel_rfl) (LoopsOk_eq (l := []) (by kernel_rfl) trivial) (impl_mul_den v298 v299) hy h0 hA
def impl_mul_v (v298 v299 : Nat) : Nat :=
  fmul .f32 v298 v299
theorem impl_mul_tot (v298 v299 : Nat) : impl_mul_g v298 v299 = some (impl_mul_v v298 v299) := by
  unfold impl_mul_g impl_mul_T impl_mul_v
  simp only [Tree.run]
  repeat' (first | rfl | split)
noncomputable def impl_mul_F : DFn := fun args L =>
  match args with
  | [.flt .f32 v298, .flt .f32 v299] =>
    .leaf (.flt .f32 (impl_mul_v v298 v299), L)
  | _ => .fail
theorem impl_mul_Fok : COk Try.prog 58 impl_mul_F true := by
  intro F L H args r L' hs ha hr
  unfold impl_mul_F at hr
  split at hr
  · rename_i v298 v299
    have hy := impl_mul_tot v298 v299
    generalize impl_mul_v v298 v299 = y at hy hr
    simp only [Tree.run, Option.some.injEq, Prod.mk.injEq] at hr
    obtain ⟨rfl, rfl⟩ := hr
    exact call_ok0 hs (fun k => (([] : List AV)[k]?).getD .top) [.flt .f32 v298, .flt .f32 v299] [.flt .f32 v298, .flt .f32 v299] (fun F' h0 hi hρ => ⟨by simp [DVs.av, DV.av, BR.av, hρ], impl_mul_fn v298 v299 F' (st_nil hi) ⟨trivial, trivial, trivial⟩ hy⟩) rfl
  · cases hr
/-! impl.dot -/
noncomputable def impl_dot_l0_T (v294 v295 : List Nat) (s : Nat × Int) : Tree ((Nat × Int) ⊕ (Nat)) :=
  (.br (decide (s.2 < ((v294.length : Nat) : Int))) (
  (.grd (inb s.2 v294.length) <|
  (.grd (inb s.2 v295.length) <|
  .leaf (.inl (fadd .f32 s.1 (impl_mul_v (nth v294 (Int.toNat s.2)) (nth v295 (Int.toNat s.2))), IntKind.i64.wrap (s.2 + (1 : Int))))))
  ) (
  .leaf (.inr s.1)
  ))

noncomputable def impl_dot_l0_g (v294 v295 : List Nat) (s0 : Nat × Int) : Option (Nat) := whileM (fun s => (impl_dot_l0_T v294 v295 s).run) s0
def impl_dot_l0_E (v294 v295 : List Nat) (s : Nat × Int) : Sd := ([Z,.bslc (BR.root 1) (.f32 v295),Z,Z,Z,.flt .f32 s.1,Z,Z,.bslc (BR.root 0) (.f32 v294),.int .i64 ((v294.length : Nat) : Int),.int .i64 s.2,Z,Z,Z,Z,Z,Z,Z,Z,Z,Z,Z,Z,Z,Z], [])
def impl_dot_l0_X (v294 v295 : List Nat) (x : Nat) : Out := (.normal, [Z,Z,Z,Z,Z,.flt .f32 x,Z,Z,Z,Z,Z,Z,Z,Z,Z,Z,Z,Z,Z,Z,Z,Z,Z,Z,Z], [])
def impl_dot_l0_kill : List Nat := KL true [1,1,3,1,2,3,14]
def impl_dot_l0_nx : Exit → List Nat
  | .exit 0 => KL true [5,1,19]
  | .ret => KL true [4,1,20]
  | _ => []
noncomputable def impl_dot_LO (v294 v295 : List Nat) : LOr := fun id e L =>
  match id with
  | 0 => .need (normA 0 impl_dot_l0_kill e L = some (impl_dot_l0_E v294 v295 ((gF (vAt e 5)), (gI (vAt e 10))))) (.call (impl_dot_l0_g v294 v295 ((gF (vAt e 5)), (gI (vAt e 10)))) fun x => .leaf (impl_dot_l0_X v294 v295 x))
  | _ => .fail
noncomputable def impl_dot_tab : List (FuncId × DFn × Bool) := [(58, impl_mul_F, true)]
theorem impl_dot_hO : OrcOk Try.prog (tabD impl_dot_tab) (tabM impl_dot_tab) := tabD_cons impl_mul_Fok (tabD_nil _)
theorem impl_dot_l0_be (v294 v295 : List Nat) (s : Nat × Int) : bodyT TT (tabD impl_dot_tab) (tabM impl_dot_tab) (impl_dot_LO v294 v295) 0 impl_dot_l0_kill impl_dot_l0_nx (bodyOf Try.f45 0) 0 (impl_dot_l0_E v294 v295 s) = (impl_dot_l0_T v294 v295 s).bind fun y => .leaf (outS (impl_dot_l0_E v294 v295) (impl_dot_l0_X v294 v295) y) := by kernel_rfl
theorem impl_dot_l0_ok (v294 v295 : List Nat) : LSound Try.prog 0 (impl_dot_LO v294 v295) 0 (bodyOf Try.f45 0) := by
  intro e L out h
  exact lo_ok (E := impl_dot_l0_E v294 v295) (gT := impl_dot_l0_T v294 v295) (X := impl_dot_l0_X v294 v295) (s0 := ((gF (vAt e 5)), (gI (vAt e 10)))) tok impl_dot_hO mixed (LoopsOk_eq (l := []) (by kernel_rfl) trivial) (impl_dot_l0_be v294 v295) rfl (by intro x; rfl) h
noncomputable def impl_dot_T (v294 v295 : List Nat) : Tree (Nat) :=
  (.need (some (impl_dot_l0_E v294 v295 ((0 : Nat), (0 : Int))) = some (impl_dot_l0_E v294 v295 ((0 : Nat), (0 : Int)))) <|
  (.call (impl_dot_l0_g v294 v295 ((0 : Nat), (0 : Int))) fun v304 =>
  .leaf v304))

noncomputable def impl_dot_g (v294 v295 : List Nat) : Option (Nat) := (impl_dot_T v294 v295).run
def impl_dot_enc (v294 v295 : List Nat) (y : Nat) : Rs := (.flt .f32 y, [])
theorem impl_dot_den (v294 v295 : List Nat) : (den TT (tabD impl_dot_tab) (tabM impl_dot_tab) (impl_dot_LO v294 v295) (codeOf Try.f45) ([.bslc (BR.root 0) (.f32 v294), .bslc (BR.root 1) (.f32 v295)] ++ List.replicate (Try.f45.ntmps - ([.bslc (BR.root 0) (.f32 v294), .bslc (BR.root 1) (.f32 v295)] : List DV).length) .undef) []).bind (retD TT Try.f45.results.toList 0) = (impl_dot_T v294 v295).bind fun y => .leaf (impl_dot_enc v294 v295 y) := by kernel_rfl
theorem impl_dot_fn (v294 v295 : List Nat) (F : Fr) (h0 : St F [] F.H0) (hA : DVs.Ok F [] [.bslc (BR.root 0) (.f32 v294), .bslc (BR.root 1) (.f32 v295)]) {y : Nat} (hy : impl_dot_g v294 v295 = some y) : ∃ F' H', Fwd 0 F F' [] (impl_dot_enc v294 v295 y).2 ∧ FnOk Try.prog 45 (DVs.av F [.bslc (BR.root 0) (.f32 v294), .bslc (BR.root 1) (.f32 v295)]) F.H0 ((impl_dot_enc v294 v295 y).1.av F') H' ∧ St F' (impl_dot_enc v294 v295 y).2 H' ∧ (impl_dot_enc v294 v295 y).1.Ok F' (impl_dot_enc v294 v295 y).2 :=
  fn_fin tok impl_dot_hO mixed Try.func45 Try.call45 (by kernel_rfl) (LoopsOk_eq (l := [(0, bodyOf Try.f45 0)]) (by kernel_rfl) ⟨impl_dot_l0_ok v294 v295, trivial⟩) (impl_dot_den v294 v295) hy h0 hA
noncomputable def impl_dot_F : DFn := fun args L =>
  match args with
  | [a1, a2] =>
    optT (rowF32 L a1) fun v294 =>
    optT (rowF32 L a2) fun v295 =>
    .call (impl_dot_g v294 v295) fun y => .leaf (.flt .f32 y, L)
  | _ => .fail
theorem impl_dot_Fok : COk Try.prog 45 impl_dot_F true := by
  intro F L H args r L' hs ha hr
  unfold impl_dot_F at hr
  split at hr
  · rename_i a1 a2
    obtain ⟨v294, hv294, hr⟩ := optT_run hr
    obtain ⟨v295, hv295, hr⟩ := optT_run hr
    simp only [Tree.run] at hr
    obtain ⟨y, hy, hr⟩ := Option.bind_eq_some_iff.1 hr
    simp only [Tree.run, Option.some.injEq, Prod.mk.injEq] at hr
    obtain ⟨rfl, rfl⟩ := hr
    exact call_ok0 hs (fun k => (([a1.av F, a2.av F] : List AV)[k]?).getD .top) [a1, a2] [.bslc (BR.root 0) (.f32 v294), .bslc (BR.root 1) (.f32 v295)] (fun F' h0 hi hρ => ⟨by simp [DVs.av, DV.av, BR.av, hρ], impl_dot_fn v294 v295 F' (st_nil hi) ⟨bslc_ok hi (by rw [h0, hρ]; exact rowF32_ok hs (DVs.okAt ha 0 rfl) hv294), bslc_ok hi (by rw [h0, hρ]; exact rowF32_ok hs (DVs.okAt ha 1 rfl) hv295), trivial⟩ hy⟩) rfl
  · cases hr
/-! math.Sqrt -/
noncomputable def math_Sqrt_LO (v307 : Nat) : LOr := fun id e L =>
  match id with
  | _ => .fail
noncomputable def math_Sqrt_tab : List (FuncId × DFn × Bool) := [(66, Sqrt_F, true)]
theorem math_Sqrt_hO : OrcOk Try.prog (tabD math_Sqrt_tab) (tabM math_Sqrt_tab) := tabD_cons Sqrt_Fok (tabD_nil _)
noncomputable def math_Sqrt_T (v307 : Nat) : Tree (Nat) :=
  .leaf (fsqrt v307)

noncomputable def math_Sqrt_g (v307 : Nat) : Option (Nat) := (math_Sqrt_T v307).run
def math_Sqrt_enc (v307 y : Nat) : Rs := (.flt .f64 y, [])
theorem math_Sqrt_den (v307 : Nat) : (den TT (tabD math_Sqrt_tab) (tabM math_Sqrt_tab) (math_Sqrt_LO v307) (codeOf Try.f57) ([.flt .f64 v307] ++ List.replicate (Try.f57.ntmps - ([.flt .f64 v307] : List DV).length) .undef) []).bind (retD TT Try.f57.results.toList 0) = (math_Sqrt_T v307).bind fun y => .leaf (math_Sqrt_enc v307 y) := by kernel_rfl
theorem math_Sqrt_fn (v307 : Nat) (F : Fr) (h0 : St F [] F.H0) (hA : DVs.Ok F [] [.flt .f64 v307]) {y : Nat} (hy : math_Sqrt_g v307 = some y) : ∃ F' H', Fwd 0 F F' [] (math_Sqrt_enc v307 y).2 ∧ FnOk Try.prog 57 (DVs.av F [.flt .f64 v307]) F.H0 ((math_Sqrt_enc v307 y).1.av F') H' ∧ St F' (math_Sqrt_enc v307 y).2 H' ∧ (math_Sqrt_enc v307 y).1.Ok F' (math_Sqrt_enc v307 y).2 :=
  fn_fin tok math_Sqrt_hO mixed Try.func57 Try.call57 (by kernel_rfl) (LoopsOk_eq (l := []) (by kernel_rfl) trivial) (math_Sqrt_den v307) hy h0 hA
def math_Sqrt_v (v307 : Nat) : Nat :=
  fsqrt v307
theorem math_Sqrt_tot (v307 : Nat) : math_Sqrt_g v307 = some (math_Sqrt_v v307) := by
  unfold math_Sqrt_g math_Sqrt_T math_Sqrt_v
  simp only [Tree.run]
  repeat' (first | rfl | split)
noncomputable def math_Sqrt_F : DFn := fun args L =>
  match args with
  | [.flt .f64 v307] =>
    .leaf (.flt .f64 (math_Sqrt_v v307), L)
  | _ => .fail
theorem math_Sqrt_Fok : COk Try.prog 57 math_Sqrt_F true := by
  intro F L H args r L' hs ha hr
  unfold math_Sqrt_F at hr
  split at hr
  · rename_i v307
    have hy := math_Sqrt_tot v307
    generalize math_Sqrt_v v307 = y at hy hr
    simp only [Tree.run, Option.some.injEq, Prod.mk.injEq] at hr
    obtain ⟨rfl, rfl⟩ := hr
    exact call_ok0 hs (fun k => (([] : List AV)[k]?).getD .top) [.flt .f64 v307] [.flt .f64 v307] (fun F' h0 hi hρ => ⟨by simp [DVs.av, DV.av, BR.av, hρ], math_Sqrt_fn v307 F' (st_nil hi) ⟨trivial, trivial⟩ hy⟩) rfl
  · cases hr
/-! impl.RootNumber -/
noncomputable def impl_RootNumber_LO (v306 : Nat) : LOr := fun id e L =>
  match id with
  | _ => .fail
noncomputable def impl_RootNumber_tab : List (FuncId × DFn × Bool) := [(57, math_Sqrt_F, true)]
theorem impl_RootNumber_hO : OrcOk Try.prog (tabD impl_RootNumber_tab) (tabM impl_RootNumber_tab) := tabD_cons math_Sqrt_Fok (tabD_nil _)
noncomputable def impl_RootNumber_T (v306 : Nat) : Tree (Nat) :=
  (.call (fconv .f64 (math_Sqrt_v (wid v306)) .f32) fun v308 =>
  .leaf v308)

noncomputable def impl_RootNumber_g (v306 : Nat) : Option (Nat) := (impl_RootNumber_T v306).run
def impl_RootNumber_enc (v306 y : Nat) : Rs := (.flt .f32 y, [])
theorem impl_RootNumber_den (v306 : Nat) : (den TT (tabD impl_RootNumber_tab) (tabM impl_RootNumber_tab) (impl_RootNumber_LO v306) (codeOf Try.f44) ([.flt .f32 v306] ++ List.replicate (Try.f44.ntmps - ([.flt .f32 v306] : List DV).length) .undef) []).bind (retD TT Try.f44.results.toList 0) = (impl_RootNumber_T v306).bind fun y => .leaf (impl_RootNumber_enc v306 y) := by kernel_rfl
theorem impl_RootNumber_fn (v306 : Nat) (F : Fr) (h0 : St F [] F.H0) (hA : DVs.Ok F [] [.flt .f32 v306]) {y : Nat} (hy : impl_RootNumber_g v306 = some y) : ∃ F' H', Fwd 0 F F' [] (impl_RootNumber_enc v306 y).2 ∧ FnOk Try.prog 44 (DVs.av F [.flt .f32 v306]) F.H0 ((impl_RootNumber_enc v306 y).1.av F') H' ∧ St F' (impl_RootNumber_enc v306 y).2 H' ∧ (impl_RootNumber_enc v306 y).1.Ok F' (impl_RootNumber_enc v306 y).2 :=
  fn_fin tok impl_RootNumber_hO mixed Try.func44 Try.call44 (by kernel_rfl) (LoopsOk_eq (l := []) (by kernel_rfl) trivial) (impl_RootNumber_den v306) hy h0 hA
noncomputable def impl_RootNumber_F : DFn := fun args L =>
  match args with
  | [.flt .f32 v306] =>
    .call (impl_RootNumber_g v306) fun y => .leaf (.flt .f32 y, L)
  | _ => .fail
theorem impl_RootNumber_Fok : COk Try.prog 44 impl_RootNumber_F true := by
  intro F L H args r L' hs ha hr
  unfold impl_RootNumber_F at hr
  split at hr
  · rename_i v306
    simp only [Tree.run] at hr
    obtain ⟨y, hy, hr⟩ := Option.bind_eq_some_iff.1 hr
    simp only [Tree.run, Option.some.injEq, Prod.mk.injEq] at hr
    obtain ⟨rfl, rfl⟩ := hr
    exact call_ok0 hs (fun k => (([] : List AV)[k]?).getD .top) [.flt .f32 v306] [.flt .f32 v306] (fun F' h0 hi hρ => ⟨by simp [DVs.av, DV.av, BR.av, hρ], impl_RootNumber_fn v306 F' (st_nil hi) ⟨trivial, trivial⟩ hy⟩) rfl
  · cases hr
/-! impl.norm -/
noncomputable def impl_norm_LO (v293 : List Nat) : LOr := fun id e L =>
  match id with
  | _ => .fail
noncomputable def impl_norm_tab : List (FuncId × DFn × Bool) := [(45, impl_dot_F, true), (44, impl_RootNumber_F, true)]
theorem impl_norm_hO : OrcOk Try.prog (tabD impl_norm_tab) (tabM impl_norm_tab) := tabD_cons impl_dot_Fok (tabD_cons impl_RootNumber_Fok (tabD_nil _))
noncomputable def impl_norm_T (v293 : List Nat) : Tree (Nat) :=
  (.call (impl_dot_g v293 v293) fun v305 =>
  (.call (impl_RootNumber_g v305) fun v309 =>
  .leaf v309))

noncomputable def impl_norm_g (v293 : List Nat) : Option (Nat) := (impl_norm_T v293).run
def impl_norm_enc (v293 : List Nat) (y : Nat) : Rs := (.flt .f32 y, [])
theorem impl_norm_den (v293 : List Nat) : (den TT (tabD impl_norm_tab) (tabM impl_norm_tab) (impl_norm_LO v293) (codeOf Try.f24) ([.bslc (BR.root 0) (.f32 v293)] ++ List.replicate (Try.f24.ntmps - ([.bslc (BR.root 0) (.f32 v293)] : List DV).length) .undef) []).bind (retD TT Try.f24.results.toList 0) = (impl_norm_T v293).bind fun y => .leaf (impl_norm_enc v293 y) := by kernel_rfl
theorem impl_norm_fn (v293 : List Nat) (F : Fr) (h0 : St F [] F.H0) (hA : DVs.Ok F [] [.bslc (BR.root 0) (.f32 v293)]) {y : Nat} (hy : impl_norm_g v293 = some y) : ∃ F' H', Fwd 0 F F' [] (impl_norm_enc v293 y).2 ∧ FnOk Try.prog 24 (DVs.av F [.bslc (BR.root 0) (.f32 v293)]) F.H0 ((impl_norm_enc v293 y).1.av F') H' ∧ St F' (impl_norm_enc v293 y).2 H' ∧ (impl_norm_enc v293 y).1.Ok F' (impl_norm_enc v293 y).2 :=
  fn_fin tok impl_norm_hO mixed Try.func24 Try.call24 (by kernel_rfl) (LoopsOk_eq (l := []) (by kernel_rfl) trivial) (impl_norm_den v293) hy h0 hA
noncomputable def impl_norm_F : DFn := fun args L =>
  match args with
  | [a1] =>
    optT (rowF32 L a1) fun v293 =>
    .call (impl_norm_g v293) fun y => .leaf (.flt .f32 y, L)
  | _ => .fail
theorem impl_norm_Fok : COk Try.prog 24 impl_norm_F true := by
  intro F L H args r L' hs ha hr
  unfold impl_norm_F at hr
  split at hr
  · rename_i a1
    obtain ⟨v293, hv293, hr⟩ := optT_run hr
    simp only [Tree.run] at hr
    obtain ⟨y, hy, hr⟩ := Option.bind_eq_some_iff.1 hr
    simp only [Tree.run, Option.some.injEq, Prod.mk.injEq] at hr
    obtain ⟨rfl, rfl⟩ := hr
    exact call_ok0 hs (fun k => (([a1.av F] : List AV)[k]?).getD .top) [a1] [.bslc (BR.root 0) (.f32 v293)] (fun F' h0 hi hρ => ⟨by simp [DVs.av, DV.av, BR.av, hρ], impl_norm_fn v293 F' (st_nil hi) ⟨bslc_ok hi (by rw [h0, hρ]; exact rowF32_ok hs (DVs.okAt ha 0 rfl) hv293), trivial⟩ hy⟩) rfl
  · cases hr
/-! impl.WholeNorm -/
noncomputable def impl_WholeNorm_LO (v289 v290 : Int) (v291 : List Nat) : LOr := fun id e L =>
  match id with
  | _ => .fail
noncomputable def impl_WholeNorm_tab : List (FuncId × DFn × Bool) := [(20, impl_ValidMatrix_F, true), (24, impl_norm_F, true), (21, impl_finite_F, true)]
theorem impl_WholeNorm_hO : OrcOk Try.prog (tabD impl_WholeNorm_tab) (tabM impl_WholeNorm_tab) := tabD_cons impl_ValidMatrix_Fok (tabD_cons impl_norm_Fok (tabD_cons impl_finite_Fok (tabD_nil _)))
noncomputable def impl_WholeNorm_T (v289 v290 : Int) (v291 : List Nat) : Tree ((Unit) ⊕ (Nat)) :=
  (.call (impl_ValidMatrix_g v289 v290 v291) fun v292 =>
  (.br (!v292) (
  .leaf (.inl ())
  ) (
  (.call (impl_norm_g v291) fun v310 =>
  (.sum (impl_finite_v v310) (fun v311 =>
  .fail
  ) (fun v312 =>
  .leaf (.inr v312)
  )))
  )))

noncomputable def impl_WholeNorm_g (v289 v290 : Int) (v291 : List Nat) : Option ((Unit) ⊕ (Nat)) := (impl_WholeNorm_T v289 v290 v291).run
def impl_WholeNorm_enc (v289 v290 : Int) (v291 : List Nat) (y : (Unit) ⊕ (Nat)) : Rs := (match y with | .inl y => (.tup [.flt .f32 (0 : Nat), .lit false], []) | .inr y => (.tup [.flt .f32 y, .lit true], []))
theorem impl_WholeNorm_den (v289 v290 : Int) (v291 : List Nat) : (den TT (tabD impl_WholeNorm_tab) (tabM impl_WholeNorm_tab) (impl_WholeNorm_LO v289 v290 v291) (codeOf Try.f8) ([.agg [.int .i64 v289, .int .i64 v290, .bslc (BR.root 0) (.f32 v291)]] ++ List.replicate (Try.f8.ntmps - ([.agg [.int .i64 v289, .int .i64 v290, .bslc (BR.root 0) (.f32 v291)]] : List DV).length) .undef) []).bind (retD TT Try.f8.results.toList 0) = (impl_WholeNorm_T v289 v290 v291).bind fun y => .leaf (impl_WholeNorm_enc v289 v290 v291 y) := by kernel_rfl
theorem impl_WholeNorm_fn (v289 v290 : Int) (v291 : List Nat) (F : Fr) (h0 : St F [] F.H0) (hA : DVs.Ok F [] [.agg [.int .i64 v289, .int .i64 v290, .bslc (BR.root 0) (.f32 v291)]]) {y : (Unit) ⊕ (Nat)} (hy : impl_WholeNorm_g v289 v290 v291 = some y) : ∃ F' H', Fwd 0 F F' [] (impl_WholeNorm_enc v289 v290 v291 y).2 ∧ FnOk Try.prog 8 (DVs.av F [.agg [.int .i64 v289, .int .i64 v290, .bslc (BR.root 0) (.f32 v291)]]) F.H0 ((impl_WholeNorm_enc v289 v290 v291 y).1.av F') H' ∧ St F' (impl_WholeNorm_enc v289 v290 v291 y).2 H' ∧ (impl_WholeNorm_enc v289 v290 v291 y).1.Ok F' (impl_WholeNorm_enc v289 v290 v291 y).2 :=
  fn_fin tok impl_WholeNorm_hO mixed Try.func8 Try.call8 (by kernel_rfl) (LoopsOk_eq (l := []) (by kernel_rfl) trivial) (impl_WholeNorm_den v289 v290 v291) hy h0 hA
noncomputable def impl_WholeNorm_F : DFn := fun args L =>
  match args with
  | [.agg [.int .i64 v289, .int .i64 v290, a1]] =>
    optT (rowF32 L a1) fun v291 =>
    .call (impl_WholeNorm_g v289 v290 v291) fun y => .sum y (fun y0 => .fail) (fun z0 => .leaf (.tup [.flt .f32 z0, .lit true], L))
  | _ => .fail
theorem impl_WholeNorm_Fok : COk Try.prog 8 impl_WholeNorm_F true := by
  intro F L H args r L' hs ha hr
  unfold impl_WholeNorm_F at hr
  split at hr
  · rename_i v289 v290 a1
    obtain ⟨v291, hv291, hr⟩ := optT_run hr
    simp only [Tree.run] at hr
    obtain ⟨y, hy, hr⟩ := Option.bind_eq_some_iff.1 hr
    cases y with
    | inl y =>
      cases hr
    | inr y =>
      simp only [Tree.run, Option.some.injEq, Prod.mk.injEq] at hr
      obtain ⟨rfl, rfl⟩ := hr
      exact call_ok0 hs (fun k => (([a1.av F] : List AV)[k]?).getD .top) [.agg [.int .i64 v289, .int .i64 v290, a1]] [.agg [.int .i64 v289, .int .i64 v290, .bslc (BR.root 0) (.f32 v291)]] (fun F' h0 hi hρ => ⟨by simp [DVs.av, DV.av, BR.av, hρ], impl_WholeNorm_fn v289 v290 v291 F' (st_nil hi) ⟨⟨trivial, trivial, bslc_ok hi (by rw [h0, hρ]; exact rowF32_ok hs (DVs.okAt (DVs.okAt ha 0 rfl) 2 rfl) hv291), trivial⟩, trivial⟩ hy⟩) rfl
  · cases hr
/-! impl.FlipMatrix -/
noncomputable def impl_FlipMatrix_LO (v316 v317 : Int) (v318 : List Nat) : LOr := fun id e L =>
  match id with
  | _ => .fail
noncomputable def impl_FlipMatrix_tab : List (FuncId × DFn × Bool) := [(20, impl_ValidMatrix_F, true), (23, impl_Matrix_flip_F, true)]
theorem impl_FlipMatrix_hO : OrcOk Try.prog (tabD impl_FlipMatrix_tab) (tabM impl_FlipMatrix_tab) := tabD_cons impl_ValidMatrix_Fok (tabD_cons impl_Matrix_flip_Fok (tabD_nil _))
noncomputable def impl_FlipMatrix_T (v316 v317 : Int) (v318 : List Nat) : Tree ((Unit) ⊕ (Int × Int × (List Nat))) :=
  (.call (impl_ValidMatrix_g v316 v317 v318) fun v319 =>
  (.br (!v319) (
  .leaf (.inl ())
  ) (
  (.call (impl_Matrix_flip_g v316 v317 v318) fun v320 =>
  .leaf (.inr (v320.1, v320.2.1, v320.2.2)))
  )))

noncomputable def impl_FlipMatrix_g (v316 v317 : Int) (v318 : List Nat) : Option ((Unit) ⊕ (Int × Int × (List Nat))) := (impl_FlipMatrix_T v316 v317 v318).run
def impl_FlipMatrix_enc (v316 v317 : Int) (v318 : List Nat) (y : (Unit) ⊕ (Int × Int × (List Nat))) : Rs := (match y with | .inl y => (.tup [.agg [.int .i64 (0 : Int), .int .i64 (0 : Int), .nilslc], .lit false], []) | .inr y => (.tup [.agg [.int .i64 y.1, .int .i64 y.2.1, .own 0 0 ((y.2.2).length)], .lit true], [.row (.f32 y.2.2) 0]))
theorem impl_FlipMatrix_den (v316 v317 : Int) (v318 : List Nat) : (den TT (tabD impl_FlipMatrix_tab) (tabM impl_FlipMatrix_tab) (impl_FlipMatrix_LO v316 v317 v318) (codeOf Try.f9) ([.agg [.int .i64 v316, .int .i64 v317, .bslc (BR.root 0) (.f32 v318)]] ++ List.replicate (Try.f9.ntmps - ([.agg [.int .i64 v316, .int .i64 v317, .bslc (BR.root 0) (.f32 v318)]] : List DV).length) .undef) []).bind (retD TT Try.f9.results.toList 0) = (impl_FlipMatrix_T v316 v317 v318).bind fun y => .leaf (impl_FlipMatrix_enc v316 v317 v318 y) := by kernel_rfl
theorem impl_FlipMatrix_fn (v316 v317 : Int) (v318 : List Nat) (F : Fr) (h0 : St F [] F.H0) (hA : DVs.Ok F [] [.agg [.int .i64 v316, .int .i64 v317, .bslc (BR.root 0) (.f32 v318)]]) {y : (Unit) ⊕ (Int × Int × (List Nat))} (hy : impl_FlipMatrix_g v316 v317 v318 = some y) : ∃ F' H', Fwd 0 F F' [] (impl_FlipMatrix_enc v316 v317 v318 y).2 ∧ FnOk Try.prog 9 (DVs.av F [.agg [.int .i64 v316, .int .i64 v317, .bslc (BR.root 0) (.f32 v318)]]) F.H0 ((impl_FlipMatrix_enc v316 v317 v318 y).1.av F') H' ∧ St F' (impl_FlipMatrix_enc v316 v317 v318 y).2 H' ∧ (impl_FlipMatrix_enc v316 v317 v318 y).1.Ok F' (impl_FlipMatrix_enc v316 v317 v318 y).2 :=
  fn_fin tok impl_FlipMatrix_hO mixed Try.func9 Try.call9 (by kernel_rfl) (LoopsOk_eq (l := []) (by kernel_rfl) trivial) (impl_FlipMatrix_den v316 v317 v318) hy h0 hA
noncomputable def impl_FlipMatrix_F : DFn := fun args L =>
  match args with
  | [.agg [.int .i64 v316, .int .i64 v317, a1]] =>
    optT (rowF32 L a1) fun v318 =>
    .call (impl_FlipMatrix_g v316 v317 v318) fun y => .sum y (fun y0 => .fail) (fun z0 => .leaf (.tup [.agg [.int .i64 z0.1, .int .i64 z0.2.1, .own (L.length + 0) 0 ((z0.2.2).length)], .lit true], L ++ [.row (.f32 z0.2.2) 0]))
  | _ => .fail
theorem impl_FlipMatrix_Fok : COk Try.prog 9 impl_FlipMatrix_F true := by
  intro F L H args r L' hs ha hr
  unfold impl_FlipMatrix_F at hr
  split at hr
  · rename_i v316 v317 a1
    obtain ⟨v318, hv318, hr⟩ := optT_run hr
    simp only [Tree.run] at hr
    obtain ⟨y, hy, hr⟩ := Option.bind_eq_some_iff.1 hr
    cases y with
    | inl y =>
      cases hr
    | inr y =>
      simp only [Tree.run, Option.some.injEq, Prod.mk.injEq] at hr
      obtain ⟨rfl, rfl⟩ := hr
      exact call_ok1 hs (fun k => (([a1.av F] : List AV)[k]?).getD .top) [.agg [.int .i64 v316, .int .i64 v317, a1]] [.agg [.int .i64 v316, .int .i64 v317, .bslc (BR.root 0) (.f32 v318)]] (fun F' h0 hi hρ => ⟨by simp [DVs.av, DV.av, BR.av, hρ], impl_FlipMatrix_fn v316 v317 v318 F' (st_nil hi) ⟨⟨trivial, trivial, bslc_ok hi (by rw [h0, hρ]; exact rowF32_ok hs (DVs.okAt (DVs.okAt ha 0 rfl) 2 rfl) hv318), trivial⟩, trivial⟩ hy⟩) rfl rfl
  · cases hr
/-! spec.l08DrawVector -/
noncomputable def spec_l08DrawVector_l0_T (v334 : List Int) (s : Int × Int × Int × (List Nat)) : Tree ((Int × Int × Int × (List Nat)) ⊕ (Int × Int × (List Nat))) :=
  (.br (decide ((0 : Int) < s.1)) (
  (.call (spec_l00Src_pick_g v334 s.2.1 s.2.2.1 (33 : Int)) fun v349 =>
  (.grd (fits (s.2.2.2 ++ ([fdiv .f32 (fofint .f32 (IntKind.i64.wrap (v349.1 - (16 : Int)))) (1082130432 : Nat)] : List Nat)).length) <|
  .leaf (.inl (IntKind.i64.wrap (s.1 - (1 : Int)), v349.2.1, v349.2.2, s.2.2.2 ++ ([fdiv .f32 (fofint .f32 (IntKind.i64.wrap (v349.1 - (16 : Int)))) (1082130432 : Nat)] : List Nat)))))
  ) (
  .leaf (.inr (s.2.1, s.2.2.1, s.2.2.2))
  ))

noncomputable def spec_l08DrawVector_l0_g (v334 : List Int) (s0 : Int × Int × Int × (List Nat)) : Option (Int × Int × (List Nat)) := whileM (fun s => (spec_l08DrawVector_l0_T v334 s).run) s0
def spec_l08DrawVector_l0_E (v334 : List Int) (v335 v336 v337 : Int) (s : Int × Int × Int × (List Nat)) : Sd := ([.ptr 0 (0 : Nat) 0 (3 : Nat),.int .i64 s.1,Z,Z,Z,.own 1 0 ((s.2.2.2).length),Z,Z,Z,Z,Z,Z,Z,Z,Z,Z,Z,Z,Z,Z], [.gen [.bslc (BR.root 1) (.u8 v334), .int .i64 s.2.1, .int .u64 s.2.2.1] false 0, .row (.f32 s.2.2.2) 0])
def spec_l08DrawVector_l0_X (v334 : List Int) (v335 v336 v337 : Int) (x : Int × Int × (List Nat)) : Out := (.normal, [Z,Z,Z,Z,Z,.own 1 0 ((x.2.2).length),Z,Z,Z,Z,Z,Z,Z,Z,Z,Z,Z,Z,Z,Z], [.gen [.bslc (BR.root 1) (.u8 v334), .int .i64 x.1, .int .u64 x.2.1] false 0, .row (.f32 x.2.2) 0])
def spec_l08DrawVector_l0_kill : List Nat := KL true [0,2,3,1,14]
def spec_l08DrawVector_l0_nx : Exit → List Nat
  | .exit 0 => KL true [5,1,14]
  | .ret => KL true [4,1,15]
  | _ => []
noncomputable def spec_l08DrawVector_LO (v334 : List Int) (v335 v336 v337 : Int) : LOr := fun id e L =>
  match id with
  | 0 => .need (normA 1 spec_l08DrawVector_l0_kill e L = some (spec_l08DrawVector_l0_E v334 v335 v336 v337 ((gI (vAt e 1)), (gI (cAt L (vAt e 0) 1)), (gI (cAt L (vAt e 0) 2)), (gRF L (vAt e 5))))) (.call (spec_l08DrawVector_l0_g v334 ((gI (vAt e 1)), (gI (cAt L (vAt e 0) 1)), (gI (cAt L (vAt e 0) 2)), (gRF L (vAt e 5)))) fun x => .leaf (spec_l08DrawVector_l0_X v334 v335 v336 v337 x))
  | _ => .fail
noncomputable def spec_l08DrawVector_tab : List (FuncId × DFn × Bool) := [(38, spec_l00Src_pick_F, false)]
theorem spec_l08DrawVector_hO : OrcOk Try.prog (tabD spec_l08DrawVector_tab) (tabM spec_l08DrawVector_tab) := tabD_cons spec_l00Src_pick_Fok (tabD_nil _)
theorem spec_l08DrawVector_l0_be (v334 : List Int) (v335 v336 v337 : Int) (s : Int × Int × Int × (List Nat)) : bodyT TT (tabD spec_l08DrawVector_tab) (tabM spec_l08DrawVector_tab) (spec_l08DrawVector_LO v334 v335 v336 v337) 1 spec_l08DrawVector_l0_kill spec_l08DrawVector_l0_nx (bodyOf Try.f25 0) 0 (spec_l08DrawVector_l0_E v334 v335 v336 v337 s) = (spec_l08DrawVector_l0_T v334 s).bind fun y => .leaf (outS (spec_l08DrawVector_l0_E v334 v335 v336 v337) (spec_l08DrawVector_l0_X v334 v335 v336 v337) y) := by kernel_rfl
theorem spec_l08DrawVector_l0_ok (v334 : List Int) (v335 v336 v337 : Int) : LSound Try.prog 1 (spec_l08DrawVector_LO v334 v335 v336 v337) 0 (bodyOf Try.f25 0) := by
  intro e L out h
  exact lo_ok (E := spec_l08DrawVector_l0_E v334 v335 v336 v337) (gT := spec_l08DrawVector_l0_T v334) (X := spec_l08DrawVector_l0_X v334 v335 v336 v337) (s0 := ((gI (vAt e 1)), (gI (cAt L (vAt e 0) 1)), (gI (cAt L (vAt e 0) 2)), (gRF L (vAt e 5)))) tok spec_l08DrawVector_hO mixed (LoopsOk_eq (l := []) (by kernel_rfl) trivial) (spec_l08DrawVector_l0_be v334 v335 v336 v337) rfl (by intro x; rfl) h
noncomputable def spec_l08DrawVector_T (v334 : List Int) (v335 v336 v337 : Int) : Tree (Int × Int × (List Nat)) :=
  (.need (some (spec_l08DrawVector_l0_E v334 v335 v336 v337 (v337, v335, v336, ([] : List Nat))) = some (spec_l08DrawVector_l0_E v334 v335 v336 v337 (v337, v335, v336, ([] : List Nat)))) <|
  (.call (spec_l08DrawVector_l0_g v334 (v337, v335, v336, ([] : List Nat))) fun v350 =>
  .leaf (v350.1, v350.2.1, v350.2.2)))

noncomputable def spec_l08DrawVector_g (v334 : List Int) (v335 v336 v337 : Int) : Option (Int × Int × (List Nat)) := (spec_l08DrawVector_T v334 v335 v336 v337).run
def spec_l08DrawVector_enc (v334 : List Int) (v335 v336 v337 : Int) (y : Int × Int × (List Nat)) : Rs := (.own 1 0 ((y.2.2).length), [.gen [.bslc (BR.root 1) (.u8 v334), .int .i64 y.1, .int .u64 y.2.1] false 0, .row (.f32 y.2.2) 0])
theorem spec_l08DrawVector_den (v334 : List Int) (v335 v336 v337 : Int) : (den TT (tabD spec_l08DrawVector_tab) (tabM spec_l08DrawVector_tab) (spec_l08DrawVector_LO v334 v335 v336 v337) (codeOf Try.f25) ([.ptr 0 (0 : Nat) 0 (3 : Nat), .int .i64 v337] ++ List.replicate (Try.f25.ntmps - ([.ptr 0 (0 : Nat) 0 (3 : Nat), .int .i64 v337] : List DV).length) .undef) [.gen [.bslc (BR.root 1) (.u8 v334), .int .i64 v335, .int .u64 v336] false 0]).bind (retD TT Try.f25.results.toList 1) = (spec_l08DrawVector_T v334 v335 v336 v337).bind fun y => .leaf (spec_l08DrawVector_enc v334 v335 v336 v337 y) := by kernel_rfl
theorem spec_l08DrawVector_fn (v334 : List Int) (v335 v336 v337 : Int) (F : Fr) (h0 : St F [.gen [.bslc (BR.root 1) (.u8 v334), .int .i64 v335, .int .u64 v336] false 0] F.H0) (hA : DVs.Ok F [.gen [.bslc (BR.root 1) (.u8 v334), .int .i64 v335, .int .u64 v336] false 0] [.ptr 0 (0 : Nat) 0 (3 : Nat), .int .i64 v337]) {y : Int × Int × (List Nat)} (hy : spec_l08DrawVector_g v334 v335 v336 v337 = some y) : ∃ F' H', Fwd 1 F F' [.gen [.bslc (BR.root 1) (.u8 v334), .int .i64 v335, .int .u64 v336] false 0] (spec_l08DrawVector_enc v334 v335 v336 v337 y).2 ∧ FnOk Try.prog 25 (DVs.av F [.ptr 0 (0 : Nat) 0 (3 : Nat), .int .i64 v337]) F.H0 ((spec_l08DrawVector_enc v334 v335 v336 v337 y).1.av F') H' ∧ St F' (spec_l08DrawVector_enc v334 v335 v336 v337 y).2 H' ∧ (spec_l08DrawVector_enc v334 v335 v336 v337 y).1.Ok F' (spec_l08DrawVector_enc v334 v335 v336 v337 y).2 :=
  fn_fin tok spec_l08DrawVector_hO mixed Try.func25 Try.call25 (by kernel_rfl) (LoopsOk_eq (l := [(0, bodyOf Try.f25 0)]) (by kernel_rfl) ⟨spec_l08DrawVector_l0_ok v334 v335 v336 v337, trivial⟩) (spec_l08DrawVector_den v334 v335 v336 v337) hy h0 hA
noncomputable def spec_l08DrawVector_F : DFn := fun args L =>
  match args with
  | [a1, .int .i64 v337] =>
    optT (genOf L 3 false a1) fun qg0 =>
    (match qg0.2 with
    | [a2, .int .i64 v335, .int .u64 v336] =>
    optT (rowU8 L a2) fun v334 =>
    (match sepB [qg0.1] [a2] with
    | true =>
    .call (spec_l08DrawVector_g v334 v335 v336 v337) fun y => .leaf (.own (L.length + 0) 0 ((y.2.2).length), setB L [(qg0.1, .gen [a2, .int .i64 y.1, .int .u64 y.2.1] false (verAt L qg0.1))] ++ [.row (.f32 y.2.2) 0])
    | false => .fail)
    | _ => .fail)
  | _ => .fail
theorem spec_l08DrawVector_Fok : COk Try.prog 25 spec_l08DrawVector_F false := by
  intro F L H args r L' hs ha hr
  unfold spec_l08DrawVector_F at hr
  split at hr
  · rename_i a1 v337
    obtain ⟨⟨jg0, cg0⟩, hg0, hr⟩ := optT_run hr
    simp only at hr
    split at hr
    · rename_i a2 v335 v336
      obtain ⟨hge0, hgu0, hga0, hgn0, hgc0, hgf0⟩ := genOf_spec hs (DVs.okAt ha 0 rfl) hg0
      obtain ⟨v334, hv334, hr⟩ := optT_run hr
      split at hr
      · rename_i hsep
        obtain ⟨hnd, hsepv⟩ := sepB_spec hsep
        simp only [Tree.run] at hr
        obtain ⟨y, hy, hr⟩ := Option.bind_eq_some_iff.1 hr
        try simp only [Tree.run] at hr
        simp only [Option.some.injEq, Prod.mk.injEq] at hr
        obtain ⟨rfl, rfl⟩ := hr
        exact mutG_ok hs [a1, a2] ⟨(DVs.okAt ha 0 rfl), (DVs.okAt hgc0 0 rfl), trivial⟩ [a1, .int .i64 v337] [.ptr 0 (0 : Nat) 0 (3 : Nat), .int .i64 v337] [jg0] [verAt L jg0] [.gen [.bslc (BR.root 1) (.u8 v334), .int .i64 v335, .int .u64 v336] false 0] [.gen [.bslc (BR.root 1) (.u8 v334), .int .i64 y.1, .int .u64 y.2.1] false 0, .row (.f32 y.2.2) 0] [.gen [a2, .int .i64 y.1, .int .u64 y.2.1] false (verAt L jg0)] [.row (.f32 y.2.2) 0] hnd rfl rfl (fun j hj => by
            simp at hj
            subst hj; exact ex_gen hge0) (fun j hj => by
            simp at hj
            subst hj; exact reach_refs (by simp [DVs.refs, DV.refs, hgu0])) (fun F' h0 hρ ab hpl hS => by
            have ab0 := ab 0 _ rfl;
            refine ⟨fun i j b' h1 h2 => ?_, by simp [DBlk.blk, DVs.av, DV.av, BR.av, hρ, Row.len, hga0, ab0], fun hst => spec_l08DrawVector_fn v334 v335 v336 v337 F' hst ⟨⟨_, rfl, Nat.le_refl _, by decide, Nat.le_refl _, fun _ => rfl⟩, trivial, trivial⟩ hy⟩
            rcases i with _ | i
            · simp at h1 h2; subst h1; subst h2; obtain ⟨ver_, hv_⟩ := hge0; exact ⟨_, hv_, .gen _ _ _ _ _ _, by simp [DBlk.blk, DVs.av, DV.av, BR.av, hρ, Row.len, hga0, ab0], ⟨⟨bslcM hS (by rw [hρ]; rfl) (hsepv a2 (by simp)) (DVs.okAt hgc0 0 rfl) (rowU8_or hv334), trivial, trivial, trivial⟩, fun hf => by cases hf⟩⟩
            · simp at h1) rfl rfl (fun i j b b' h1 h2 h3 => by
            rcases i with _ | i
            · simp at h1; subst h1; cases h3; exact growG hge0 rfl h2
            · simp at h1)
      · cases hr
    · cases hr
  · cases hr
/-! spec.R8Vector -/
noncomputable def spec_R8Vector_LO (v327 : List Int) (v328 : Int) : LOr := fun id e L =>
  match id with
  | _ => .fail
noncomputable def spec_R8Vector_tab : List (FuncId × DFn × Bool) := [(18, spec_l00From_F, true), (25, spec_l08DrawVector_F, false)]
theorem spec_R8Vector_hO : OrcOk Try.prog (tabD spec_R8Vector_tab) (tabM spec_R8Vector_tab) := tabD_cons spec_l00From_Fok (tabD_cons spec_l08DrawVector_Fok (tabD_nil _))
noncomputable def spec_R8Vector_T (v327 : List Int) (v328 : Int) : Tree ((List Nat)) :=
  (.call (spec_l08DrawVector_g v327 (0 : Int) (0 : Int) v328) fun v351 =>
  .leaf v351.2.2)

noncomputable def spec_R8Vector_g (v327 : List Int) (v328 : Int) : Option ((List Nat)) := (spec_R8Vector_T v327 v328).run
def spec_R8Vector_enc (v327 : List Int) (v328 : Int) (y : (List Nat)) : Rs := (.own 0 0 ((y).length), [.row (.f32 y) 0])
theorem spec_R8Vector_den (v327 : List Int) (v328 : Int) : (den TT (tabD spec_R8Vector_tab) (tabM spec_R8Vector_tab) (spec_R8Vector_LO v327 v328) (codeOf Try.f10) ([.bslc (BR.root 0) (.u8 v327), .int .i64 v328] ++ List.replicate (Try.f10.ntmps - ([.bslc (BR.root 0) (.u8 v327), .int .i64 v328] : List DV).length) .undef) []).bind (retD TT Try.f10.results.toList 0) = (spec_R8Vector_T v327 v328).bind fun y => .leaf (spec_R8Vector_enc v327 v328 y) := by kernel_rfl
theorem spec_R8Vector_fn (v327 : List Int) (v328 : Int) (F : Fr) (h0 : St F [] F.H0) (hA : DVs.Ok F [] [.bslc (BR.root 0) (.u8 v327), .int .i64 v328]) {y : (List Nat)} (hy : spec_R8Vector_g v327 v328 = some y) : ∃ F' H', Fwd 0 F F' [] (spec_R8Vector_enc v327 v328 y).2 ∧ FnOk Try.prog 10 (DVs.av F [.bslc (BR.root 0) (.u8 v327), .int .i64 v328]) F.H0 ((spec_R8Vector_enc v327 v328 y).1.av F') H' ∧ St F' (spec_R8Vector_enc v327 v328 y).2 H' ∧ (spec_R8Vector_enc v327 v328 y).1.Ok F' (spec_R8Vector_enc v327 v328 y).2 :=
  fn_fin tok spec_R8Vector_hO mixed Try.func10 Try.call10 (by kernel_rfl) (LoopsOk_eq (l := []) (by kernel_rfl) trivial) (spec_R8Vector_den v327 v328) hy h0 hA
noncomputable def spec_R8Vector_F : DFn := fun args L =>
  match args with
  | [a1, .int .i64 v328] =>
    optT (rowU8 L a1) fun v327 =>
    .call (spec_R8Vector_g v327 v328) fun y => .leaf (.own (L.length + 0) 0 ((y).length), L ++ [.row (.f32 y) 0])
  | _ => .fail
theorem spec_R8Vector_Fok : COk Try.prog 10 spec_R8Vector_F true := by
  intro F L H args r L' hs ha hr
  unfold spec_R8Vector_F at hr
  split at hr
  · rename_i a1 v328
    obtain ⟨v327, hv327, hr⟩ := optT_run hr
    simp only [Tree.run] at hr
    obtain ⟨y, hy, hr⟩ := Option.bind_eq_some_iff.1 hr
    simp only [Tree.run, Option.some.injEq, Prod.mk.injEq] at hr
    obtain ⟨rfl, rfl⟩ := hr
    exact call_ok1 hs (fun k => (([a1.av F] : List AV)[k]?).getD .top) [a1, .int .i64 v328] [.bslc (BR.root 0) (.u8 v327), .int .i64 v328] (fun F' h0 hi hρ => ⟨by simp [DVs.av, DV.av, BR.av, hρ], spec_R8Vector_fn v327 v328 F' (st_nil hi) ⟨bslc_ok hi (by rw [h0, hρ]; exact rowU8_ok hs (DVs.okAt ha 0 rfl) hv327), trivial, trivial⟩ hy⟩) rfl rfl
  · cases hr
/-! impl.IsVector -/
noncomputable def impl_IsVector_LO (v358 : List Nat) : LOr := fun id e L =>
  match id with
  | _ => .fail
noncomputable def impl_IsVector_tab : List (FuncId × DFn × Bool) := [(27, impl_lengthF_F, true), (31, impl_inRange_F, true), (40, impl_areFinite_F, true)]
theorem impl_IsVector_hO : OrcOk Try.prog (tabD impl_IsVector_tab) (tabM impl_IsVector_tab) := tabD_cons impl_lengthF_Fok (tabD_cons impl_inRange_Fok (tabD_cons impl_areFinite_Fok (tabD_nil _)))
noncomputable def impl_IsVector_T (v358 : List Nat) : Tree (Bool) :=
  (.br (impl_inRange_v (impl_lengthF_v v358) (1 : Int) (256 : Int)) (
  (.call (impl_areFinite_g v358) fun v359 =>
  .leaf v359)
  ) (
  .leaf false
  ))

noncomputable def impl_IsVector_g (v358 : List Nat) : Option (Bool) := (impl_IsVector_T v358).run
def impl_IsVector_enc (v358 : List Nat) (y : Bool) : Rs := (.bool y, [])
theorem impl_IsVector_den (v358 : List Nat) : (den TT (tabD impl_IsVector_tab) (tabM impl_IsVector_tab) (impl_IsVector_LO v358) (codeOf Try.f26) ([.bslc (BR.root 0) (.f32 v358)] ++ List.replicate (Try.f26.ntmps - ([.bslc (BR.root 0) (.f32 v358)] : List DV).length) .undef) []).bind (retD TT Try.f26.results.toList 0) = (impl_IsVector_T v358).bind fun y => .leaf (impl_IsVector_enc v358 y) := by kernel_rfl
theorem impl_IsVector_fn (v358 : List Nat) (F : Fr) (h0 : St F [] F.H0) (hA : DVs.Ok F [] [.bslc (BR.root 0) (.f32 v358)]) {y : Bool} (hy : impl_IsVector_g v358 = some y) : ∃ F' H', Fwd 0 F F' [] (impl_IsVector_enc v358 y).2 ∧ FnOk Try.prog 26 (DVs.av F [.bslc (BR.root 0) (.f32 v358)]) F.H0 ((impl_IsVector_enc v358 y).1.av F') H' ∧ St F' (impl_IsVector_enc v358 y).2 H' ∧ (impl_IsVector_enc v358 y).1.Ok F' (impl_IsVector_enc v358 y).2 :=
  fn_fin tok impl_IsVector_hO mixed Try.func26 Try.call26 (by kernel_rfl) (LoopsOk_eq (l := []) (by kernel_rfl) trivial) (impl_IsVector_den v358) hy h0 hA
noncomputable def impl_IsVector_F : DFn := fun args L =>
  match args with
  | [a1] =>
    optT (rowF32 L a1) fun v358 =>
    .call (impl_IsVector_g v358) fun y => .leaf (.bool y, L)
  | _ => .fail
theorem impl_IsVector_Fok : COk Try.prog 26 impl_IsVector_F true := by
  intro F L H args r L' hs ha hr
  unfold impl_IsVector_F at hr
  split at hr
  · rename_i a1
    obtain ⟨v358, hv358, hr⟩ := optT_run hr
    simp only [Tree.run] at hr
    obtain ⟨y, hy, hr⟩ := Option.bind_eq_some_iff.1 hr
    simp only [Tree.run, Option.some.injEq, Prod.mk.injEq] at hr
    obtain ⟨rfl, rfl⟩ := hr
    exact call_ok0 hs (fun k => (([a1.av F] : List AV)[k]?).getD .top) [a1] [.bslc (BR.root 0) (.f32 v358)] (fun F' h0 hi hρ => ⟨by simp [DVs.av, DV.av, BR.av, hρ], impl_IsVector_fn v358 F' (st_nil hi) ⟨bslc_ok hi (by rw [h0, hρ]; exact rowF32_ok hs (DVs.okAt ha 0 rfl) hv358), trivial⟩ hy⟩) rfl
  · cases hr
/-! slices.Clone[list of float32,float32] -/
noncomputable def slices_CloneF_LO (v370 : List Nat) : LOr := fun id e L =>
  match id with
  | _ => .fail
noncomputable def slices_CloneF_tab : List (FuncId × DFn × Bool) := []
theorem slices_CloneF_hO : OrcOk Try.prog (tabD slices_CloneF_tab) (tabM slices_CloneF_tab) := tabD_nil _
noncomputable def slices_CloneF_T (v370 : List Nat) : Tree (Unit) :=
  (.grd (decide (0 < v370.length)) <|
  (.grd (fits (([] : List Nat) ++ v370).length) <|
  .leaf ()))

noncomputable def slices_CloneF_g (v370 : List Nat) : Option (Unit) := (slices_CloneF_T v370).run
def slices_CloneF_enc (v370 : List Nat) (y : Unit) : Rs := (.own 0 0 ((([] : List Nat) ++ v370).length), [.row (.f32 (([] : List Nat) ++ v370)) 0])
theorem slices_CloneF_den (v370 : List Nat) : (den TT (tabD slices_CloneF_tab) (tabM slices_CloneF_tab) (slices_CloneF_LO v370) (codeOf Try.f59) ([.bslc (BR.root 0) (.f32 v370)] ++ List.replicate (Try.f59.ntmps - ([.bslc (BR.root 0) (.f32 v370)] : List DV).length) .undef) []).bind (retD TT Try.f59.results.toList 0) = (slices_CloneF_T v370).bind fun y => .leaf (slices_CloneF_enc v370 y) := by kernel_rfl
theorem slices_CloneF_fn (v370 : List Nat) (F : Fr) (h0 : St F [] F.H0) (hA : DVs.Ok F [] [.bslc (BR.root 0) (.f32 v370)]) {y : Unit} (hy : slices_CloneF_g v370 = some y) : ∃ F' H', Fwd 0 F F' [] (slices_CloneF_enc v370 y).2 ∧ FnOk Try.prog 59 (DVs.av F [.bslc (BR.root 0) (.f32 v370)]) F.H0 ((slices_CloneF_enc v370 y).1.av F') H' ∧ St F' (slices_CloneF_enc v370 y).2 H' ∧ (slices_CloneF_enc v370 y).1.Ok F' (slices_CloneF_enc v370 y).2 :=
  fn_fin tok slices_CloneF_hO mixed Try.func59 Try.call59 (by kernel_rfl) (LoopsOk_eq (l := []) (by kernel_rfl) trivial) (slices_CloneF_den v370) hy h0 hA
noncomputable def slices_CloneF_F : DFn := fun args L =>
  match args with
  | [a1] =>
    optT (rowF32 L a1) fun v370 =>
    .call (slices_CloneF_g v370) fun y => .leaf (.own (L.length + 0) 0 ((([] : List Nat) ++ v370).length), L ++ [.row (.f32 (([] : List Nat) ++ v370)) 0])
  | _ => .fail
theorem slices_CloneF_Fok : COk Try.prog 59 slices_CloneF_F true := by
  intro F L H args r L' hs ha hr
  unfold slices_CloneF_F at hr
  split at hr
  · rename_i a1
    obtain ⟨v370, hv370, hr⟩ := optT_run hr
    simp only [Tree.run] at hr
    obtain ⟨y, hy, hr⟩ := Option.bind_eq_some_iff.1 hr
    simp only [Tree.run, Option.some.injEq, Prod.mk.injEq] at hr
    obtain ⟨rfl, rfl⟩ := hr
    exact call_ok1 hs (fun k => (([a1.av F] : List AV)[k]?).getD .top) [a1] [.bslc (BR.root 0) (.f32 v370)] (fun F' h0 hi hρ => ⟨by simp [DVs.av, DV.av, BR.av, hρ], slices_CloneF_fn v370 F' (st_nil hi) ⟨bslc_ok hi (by rw [h0, hρ]; exact rowF32_ok hs (DVs.okAt ha 0 rfl) hv370), trivial⟩ hy⟩) rfl rfl
  · cases hr
/-! (impl.Matrix).row -/
noncomputable def impl_Matrix_row_LO (v366 v367 : Int) (v368 : List Nat) (v369 : Int) : LOr := fun id e L =>
  match id with
  | _ => .fail
noncomputable def impl_Matrix_row_tab : List (FuncId × DFn × Bool) := [(59, slices_CloneF_F, true)]
theorem impl_Matrix_row_hO : OrcOk Try.prog (tabD impl_Matrix_row_tab) (tabM impl_Matrix_row_tab) := tabD_cons slices_CloneF_Fok (tabD_nil _)
noncomputable def impl_Matrix_row_T (v367 : Int) (v368 : List Nat) (v369 : Int) : Tree (Unit) :=
  (.grd (sok (IntKind.i64.wrap (v369 * v367)) (IntKind.i64.wrap ((IntKind.i64.wrap (v369 + (1 : Int))) * v367)) v368.length) <|
  (.call (slices_CloneF_g (AM.sub v368 (IntKind.i64.wrap (v369 * v367)) (IntKind.i64.wrap ((IntKind.i64.wrap (v369 + (1 : Int))) * v367)))) fun v371 =>
  .leaf ()))

noncomputable def impl_Matrix_row_g (v367 : Int) (v368 : List Nat) (v369 : Int) : Option (Unit) := (impl_Matrix_row_T v367 v368 v369).run
def impl_Matrix_row_enc (v366 v367 : Int) (v368 : List Nat) (v369 : Int) (y : Unit) : Rs := (.own 0 0 ((([] : List Nat) ++ (AM.sub v368 (IntKind.i64.wrap (v369 * v367)) (IntKind.i64.wrap ((IntKind.i64.wrap (v369 + (1 : Int))) * v367)))).length), [.row (.f32 (([] : List Nat) ++ (AM.sub v368 (IntKind.i64.wrap (v369 * v367)) (IntKind.i64.wrap ((IntKind.i64.wrap (v369 + (1 : Int))) * v367))))) 0])
theorem impl_Matrix_row_den (v366 v367 : Int) (v368 : List Nat) (v369 : Int) : (den TT (tabD impl_Matrix_row_tab) (tabM impl_Matrix_row_tab) (impl_Matrix_row_LO v366 v367 v368 v369) (codeOf Try.f46) ([.agg [.int .i64 v366, .int .i64 v367, .bslc (BR.root 0) (.f32 v368)], .int .i64 v369] ++ List.replicate (Try.f46.ntmps - ([.agg [.int .i64 v366, .int .i64 v367, .bslc (BR.root 0) (.f32 v368)], .int .i64 v369] : List DV).length) .undef) []).bind (retD TT Try.f46.results.toList 0) = (impl_Matrix_row_T v367 v368 v369).bind fun y => .leaf (impl_Matrix_row_enc v366 v367 v368 v369 y) := by kernel_rfl
theorem impl_Matrix_row_fn (v366 v367 : Int) (v368 : List Nat) (v369 : Int) (F : Fr) (h0 : St F [] F.H0) (hA : DVs.Ok F [] [.agg [.int .i64 v366, .int .i64 v367, .bslc (BR.root 0) (.f32 v368)], .int .i64 v369]) {y : Unit} (hy : impl_Matrix_row_g v367 v368 v369 = some y) : ∃ F' H', Fwd 0 F F' [] (impl_Matrix_row_enc v366 v367 v368 v369 y).2 ∧ FnOk Try.prog 46 (DVs.av F [.agg [.int .i64 v366, .int .i64 v367, .bslc (BR.root 0) (.f32 v368)], .int .i64 v369]) F.H0 ((impl_Matrix_row_enc v366 v367 v368 v369 y).1.av F') H' ∧ St F' (impl_Matrix_row_enc v366 v367 v368 v369 y).2 H' ∧ (impl_Matrix_row_enc v366 v367 v368 v369 y).1.Ok F' (impl_Matrix_row_enc v366 v367 v368 v369 y).2 :=
  fn_fin tok impl_Matrix_row_hO mixed Try.func46 Try.call46 (by kernel_rfl) (LoopsOk_eq (l := []) (by kernel_rfl) trivial) (impl_Matrix_row_den v366 v367 v368 v369) hy h0 hA
noncomputable def impl_Matrix_row_F : DFn := fun args L =>
  match args with
  | [.agg [.int .i64 v366, .int .i64 v367, a1], .int .i64 v369] =>
    optT (rowF32 L a1) fun v368 =>
    .call (impl_Matrix_row_g v367 v368 v369) fun y => .leaf (.own (L.length + 0) 0 ((([] : List Nat) ++ (AM.sub v368 (IntKind.i64.wrap (v369 * v367)) (IntKind.i64.wrap ((IntKind.i64.wrap (v369 + (1 : Int))) * v367)))).length), L ++ [.row (.f32 (([] : List Nat) ++ (AM.sub v368 (IntKind.i64.wrap (v369 * v367)) (IntKind.i64.wrap ((IntKind.i64.wrap (v369 + (1 : Int))) * v367))))) 0])
  | _ => .fail
theorem impl_Matrix_row_Fok : COk Try.prog 46 impl_Matrix_row_F true := by
  intro F L H args r L' hs ha hr
  unfold impl_Matrix_row_F at hr
  split at hr
  · rename_i v366 v367 a1 v369
    obtain ⟨v368, hv368, hr⟩ := optT_run hr
    simp only [Tree.run] at hr
    obtain ⟨y, hy, hr⟩ := Option.bind_eq_some_iff.1 hr
    simp only [Tree.run, Option.some.injEq, Prod.mk.injEq] at hr
    obtain ⟨rfl, rfl⟩ := hr
    exact call_ok1 hs (fun k => (([a1.av F] : List AV)[k]?).getD .top) [.agg [.int .i64 v366, .int .i64 v367, a1], .int .i64 v369] [.agg [.int .i64 v366, .int .i64 v367, .bslc (BR.root 0) (.f32 v368)], .int .i64 v369] (fun F' h0 hi hρ => ⟨by simp [DVs.av, DV.av, BR.av, hρ], impl_Matrix_row_fn v366 v367 v368 v369 F' (st_nil hi) ⟨⟨trivial, trivial, bslc_ok hi (by rw [h0, hρ]; exact rowF32_ok hs (DVs.okAt (DVs.okAt ha 0 rfl) 2 rfl) hv368), trivial⟩, trivial, trivial⟩ hy⟩) rfl rfl
  · cases hr
/-! (impl.Matrix).timesVector -/
noncomputable def impl_Matrix_timesVector_l0_T (v361 v362 : Int) (v363 v364 : List Nat) (s : Int × (List Nat)) : Tree ((Int × (List Nat)) ⊕ ((List Nat))) :=
  (.br (decide (s.1 < v361)) (
  (.call (impl_Matrix_row_g v362 v363 s.1) fun v380 =>
  (.call (impl_dot_g (([] : List Nat) ++ (AM.sub v363 (IntKind.i64.wrap (s.1 * v362)) (IntKind.i64.wrap ((IntKind.i64.wrap (s.1 + (1 : Int))) * v362)))) v364) fun v381 =>
  (.grd (fits (s.2 ++ ([v381] : List Nat)).length) <|
  .leaf (.inl (IntKind.i64.wrap (s.1 + (1 : Int)), s.2 ++ ([v381] : List Nat))))))
  ) (
  .leaf (.inr s.2)
  ))

noncomputable def impl_Matrix_timesVector_l0_g (v361 v362 : Int) (v363 v364 : List Nat) (s0 : Int × (List Nat)) : Option ((List Nat)) := whileM (fun s => (impl_Matrix_timesVector_l0_T v361 v362 v363 v364 s).run) s0
def impl_Matrix_timesVector_l0_E (v361 v362 : Int) (v363 v364 : List Nat) (s : Int × (List Nat)) : Sd := ([Z,.bslc (BR.root 1) (.f32 v364),.ptr 0 (0 : Nat) 0 (3 : Nat),Z,Z,.own 1 0 ((s.2).length),Z,Z,Z,.int .i64 v361,.int .i64 s.1,Z,Z,Z,Z,Z,Z,Z,Z,Z,Z,Z,Z], [.gen [.int .i64 v361, .int .i64 v362, .bslc (BR.root 0) (.f32 v363)] false 0, .row (.f32 s.2) 0])
def impl_Matrix_timesVector_l0_X (v361 v362 : Int) (v363 v364 : List Nat) (x : (List Nat)) : Out := (.normal, [Z,Z,Z,Z,Z,.own 0 0 ((x).length),Z,Z,Z,Z,Z,Z,Z,Z,Z,Z,Z,Z,Z,Z,Z,Z,Z], [.row (.f32 x) 0])
def impl_Matrix_timesVector_l0_kill : List Nat := KL true [1,2,2,1,3,2,12]
def impl_Matrix_timesVector_l0_nx : Exit → List Nat
  | .exit 0 => KL true [5,1,17]
  | .ret => KL true [4,1,18]
  | _ => []
noncomputable def impl_Matrix_timesVector_LO (v361 v362 : Int) (v363 v364 : List Nat) : LOr := fun id e L =>
  match id with
  | 0 => .need (normA 0 impl_Matrix_timesVector_l0_kill e L = some (impl_Matrix_timesVector_l0_E v361 v362 v363 v364 ((gI (vAt e 10)), (gRF L (vAt e 5))))) (.call (impl_Matrix_timesVector_l0_g v361 v362 v363 v364 ((gI (vAt e 10)), (gRF L (vAt e 5)))) fun x => .leaf (impl_Matrix_timesVector_l0_X v361 v362 v363 v364 x))
  | _ => .fail
noncomputable def impl_Matrix_timesVector_tab : List (FuncId × DFn × Bool) := [(46, impl_Matrix_row_F, true), (45, impl_dot_F, true)]
theorem impl_Matrix_timesVector_hO : OrcOk Try.prog (tabD impl_Matrix_timesVector_tab) (tabM impl_Matrix_timesVector_tab) := tabD_cons impl_Matrix_row_Fok (tabD_cons impl_dot_Fok (tabD_nil _))
theorem impl_Matrix_timesVector_l0_be (v361 v362 : Int) (v363 v364 : List Nat) (s : Int × (List Nat)) : bodyT TT (tabD impl_Matrix_timesVector_tab) (tabM impl_Matrix_timesVector_tab) (impl_Matrix_timesVector_LO v361 v362 v363 v364) 0 impl_Matrix_timesVector_l0_kill impl_Matrix_timesVector_l0_nx (bodyOf Try.f29 0) 0 (impl_Matrix_timesVector_l0_E v361 v362 v363 v364 s) = (impl_Matrix_timesVector_l0_T v361 v362 v363 v364 s).bind fun y => .leaf (outS (impl_Matrix_timesVector_l0_E v361 v362 v363 v364) (impl_Matrix_timesVector_l0_X v361 v362 v363 v364) y) := by kernel_rfl
theorem impl_Matrix_timesVector_l0_ok (v361 v362 : Int) (v363 v364 : List Nat) : LSound Try.prog 0 (impl_Matrix_timesVector_LO v361 v362 v363 v364) 0 (bodyOf Try.f29 0) := by
  intro e L out h
  exact lo_ok (E := impl_Matrix_timesVector_l0_E v361 v362 v363 v364) (gT := impl_Matrix_timesVector_l0_T v361 v362 v363 v364) (X := impl_Matrix_timesVector_l0_X v361 v362 v363 v364) (s0 := ((gI (vAt e 10)), (gRF L (vAt e 5)))) tok impl_Matrix_timesVector_hO mixed (LoopsOk_eq (l := []) (by kernel_rfl) trivial) (impl_Matrix_timesVector_l0_be v361 v362 v363 v364) rfl (by intro x; rfl) h
noncomputable def impl_Matrix_timesVector_T (v361 v362 : Int) (v363 v364 : List Nat) : Tree ((List Nat)) :=
  (.need (some (impl_Matrix_timesVector_l0_E v361 v362 v363 v364 ((0 : Int), ([] : List Nat))) = some (impl_Matrix_timesVector_l0_E v361 v362 v363 v364 ((0 : Int), ([] : List Nat)))) <|
  (.call (impl_Matrix_timesVector_l0_g v361 v362 v363 v364 ((0 : Int), ([] : List Nat))) fun v382 =>
  .leaf v382))

noncomputable def impl_Matrix_timesVector_g (v361 v362 : Int) (v363 v364 : List Nat) : Option ((List Nat)) := (impl_Matrix_timesVector_T v361 v362 v363 v364).run
def impl_Matrix_timesVector_enc (v361 v362 : Int) (v363 v364 : List Nat) (y : (List Nat)) : Rs := (.own 0 0 ((y).length), [.row (.f32 y) 0])
theorem impl_Matrix_timesVector_den (v361 v362 : Int) (v363 v364 : List Nat) : (den TT (tabD impl_Matrix_timesVector_tab) (tabM impl_Matrix_timesVector_tab) (impl_Matrix_timesVector_LO v361 v362 v363 v364) (codeOf Try.f29) ([.agg [.int .i64 v361, .int .i64 v362, .bslc (BR.root 0) (.f32 v363)], .bslc (BR.root 1) (.f32 v364)] ++ List.replicate (Try.f29.ntmps - ([.agg [.int .i64 v361, .int .i64 v362, .bslc (BR.root 0) (.f32 v363)], .bslc (BR.root 1) (.f32 v364)] : List DV).length) .undef) []).bind (retD TT Try.f29.results.toList 0) = (impl_Matrix_timesVector_T v361 v362 v363 v364).bind fun y => .leaf (impl_Matrix_timesVector_enc v361 v362 v363 v364 y) := by kernel_rfl
theorem impl_Matrix_timesVector_fn (v361 v362 : Int) (v363 v364 : List Nat) (F : Fr) (h0 : St F [] F.H0) (hA : DVs.Ok F [] [.agg [.int .i64 v361, .int .i64 v362, .bslc (BR.root 0) (.f32 v363)], .bslc (BR.root 1) (.f32 v364)]) {y : (List Nat)} (hy : impl_Matrix_timesVector_g v361 v362 v363 v364 = some y) : ∃ F' H', Fwd 0 F F' [] (impl_Matrix_timesVector_enc v361 v362 v363 v364 y).2 ∧ FnOk Try.prog 29 (DVs.av F [.agg [.int .i64 v361, .int .i64 v362, .bslc (BR.root 0) (.f32 v363)], .bslc (BR.root 1) (.f32 v364)]) F.H0 ((impl_Matrix_timesVector_enc v361 v362 v363 v364 y).1.av F') H' ∧ St F' (impl_Matrix_timesVector_enc v361 v362 v363 v364 y).2 H' ∧ (impl_Matrix_timesVector_enc v361 v362 v363 v364 y).1.Ok F' (impl_Matrix_timesVector_enc v361 v362 v363 v364 y).2 :=
  fn_fin tok impl_Matrix_timesVector_hO mixed Try.func29 Try.call29 (by kernel_rfl) (LoopsOk_eq (l := [(0, bodyOf Try.f29 0)]) (by kernel_rfl) ⟨impl_Matrix_timesVector_l0_ok v361 v362 v363 v364, trivial⟩) (impl_Matrix_timesVector_den v361 v362 v363 v364) hy h0 hA
noncomputable def impl_Matrix_timesVector_F : DFn := fun args L =>
  match args with
  | [.agg [.int .i64 v361, .int .i64 v362, a1], a2] =>
    optT (rowF32 L a1) fun v363 =>
    optT (rowF32 L a2) fun v364 =>
    .call (impl_Matrix_timesVector_g v361 v362 v363 v364) fun y => .leaf (.own (L.length + 0) 0 ((y).length), L ++ [.row (.f32 y) 0])
  | _ => .fail
theorem impl_Matrix_timesVector_Fok : COk Try.prog 29 impl_Matrix_timesVector_F true := by
  intro F L H args r L' hs ha hr
  unfold impl_Matrix_timesVector_F at hr
  split at hr
  · rename_i v361 v362 a1 a2
    obtain ⟨v363, hv363, hr⟩ := optT_run hr
    obtain ⟨v364, hv364, hr⟩ := optT_run hr
    simp only [Tree.run] at hr
    obtain ⟨y, hy, hr⟩ := Option.bind_eq_some_iff.1 hr
    simp only [Tree.run, Option.some.injEq, Prod.mk.injEq] at hr
    obtain ⟨rfl, rfl⟩ := hr
    exact call_ok1 hs (fun k => (([a1.av F, a2.av F] : List AV)[k]?).getD .top) [.agg [.int .i64 v361, .int .i64 v362, a1], a2] [.agg [.int .i64 v361, .int .i64 v362, .bslc (BR.root 0) (.f32 v363)], .bslc (BR.root 1) (.f32 v364)] (fun F' h0 hi hρ => ⟨by simp [DVs.av, DV.av, BR.av, hρ], impl_Matrix_timesVector_fn v361 v362 v363 v364 F' (st_nil hi) ⟨⟨trivial, trivial, bslc_ok hi (by rw [h0, hρ]; exact rowF32_ok hs (DVs.okAt (DVs.okAt ha 0 rfl) 2 rfl) hv363), trivial⟩, bslc_ok hi (by rw [h0, hρ]; exact rowF32_ok hs (DVs.okAt ha 1 rfl) hv364), trivial⟩ hy⟩) rfl rfl
  · cases hr
/-! impl.allFinite -/
noncomputable def impl_allFinite_LO (v384 : List Nat) : LOr := fun id e L =>
  match id with
  | _ => .fail
noncomputable def impl_allFinite_tab : List (FuncId × DFn × Bool) := [(40, impl_areFinite_F, true)]
theorem impl_allFinite_hO : OrcOk Try.prog (tabD impl_allFinite_tab) (tabM impl_allFinite_tab) := tabD_cons impl_areFinite_Fok (tabD_nil _)
noncomputable def impl_allFinite_T (v384 : List Nat) : Tree ((Unit) ⊕ (Unit)) :=
  (.call (impl_areFinite_g v384) fun v385 =>
  (.br (!v385) (
  .leaf (.inl ())
  ) (
  .leaf (.inr ())
  )))

noncomputable def impl_allFinite_g (v384 : List Nat) : Option ((Unit) ⊕ (Unit)) := (impl_allFinite_T v384).run
def impl_allFinite_enc (v384 : List Nat) (y : (Unit) ⊕ (Unit)) : Rs := (match y with | .inl y => (.tup [.nilslc, .lit false], []) | .inr y => (.tup [.bslc (BR.root 0) (.f32 v384), .lit true], []))
theorem impl_allFinite_den (v384 : List Nat) : (den TT (tabD impl_allFinite_tab) (tabM impl_allFinite_tab) (impl_allFinite_LO v384) (codeOf Try.f28) ([.bslc (BR.root 0) (.f32 v384)] ++ List.replicate (Try.f28.ntmps - ([.bslc (BR.root 0) (.f32 v384)] : List DV).length) .undef) []).bind (retD TT Try.f28.results.toList 0) = (impl_allFinite_T v384).bind fun y => .leaf (impl_allFinite_enc v384 y) := by kernel_rfl
theorem impl_allFinite_fn (v384 : List Nat) (F : Fr) (h0 : St F [] F.H0) (hA : DVs.Ok F [] [.bslc (BR.root 0) (.f32 v384)]) {y : (Unit) ⊕ (Unit)} (hy : impl_allFinite_g v384 = some y) : ∃ F' H', Fwd 0 F F' [] (impl_allFinite_enc v384 y).2 ∧ FnOk Try.prog 28 (DVs.av F [.bslc (BR.root 0) (.f32 v384)]) F.H0 ((impl_allFinite_enc v384 y).1.av F') H' ∧ St F' (impl_allFinite_enc v384 y).2 H' ∧ (impl_allFinite_enc v384 y).1.Ok F' (impl_allFinite_enc v384 y).2 :=
  fn_fin tok impl_allFinite_hO mixed Try.func28 Try.call28 (by kernel_rfl) (LoopsOk_eq (l := []) (by kernel_rfl) trivial) (impl_allFinite_den v384) hy h0 hA
noncomputable def impl_allFinite_F : DFn := fun args L =>
  match args with
  | [a1] =>
    optT (rowF32 L a1) fun v384 =>
    .call (impl_allFinite_g v384) fun y => .sum y (fun y0 => .leaf (.tup [.nilslc, .lit false], L)) (fun z0 => .leaf (.tup [a1, .lit true], L))
  | _ => .fail
theorem impl_allFinite_Fok : COk Try.prog 28 impl_allFinite_F true := by
  intro F L H args r L' hs ha hr
  unfold impl_allFinite_F at hr
  split at hr
  · rename_i a1
    obtain ⟨v384, hv384, hr⟩ := optT_run hr
    simp only [Tree.run] at hr
    obtain ⟨y, hy, hr⟩ := Option.bind_eq_some_iff.1 hr
    cases y with
    | inl y =>
      simp only [Tree.run, Option.some.injEq, Prod.mk.injEq] at hr
      obtain ⟨rfl, rfl⟩ := hr
      exact call_ok0 hs (fun k => (([a1.av F] : List AV)[k]?).getD .top) [a1] [.bslc (BR.root 0) (.f32 v384)] (fun F' h0 hi hρ => ⟨by simp [DVs.av, DV.av, BR.av, hρ], impl_allFinite_fn v384 F' (st_nil hi) ⟨bslc_ok hi (by rw [h0, hρ]; exact rowF32_ok hs (DVs.okAt ha 0 rfl) hv384), trivial⟩ hy⟩) rfl
    | inr y =>
      simp only [Tree.run, Option.some.injEq, Prod.mk.injEq] at hr
      obtain ⟨rfl, rfl⟩ := hr
      exact call_al0 hs (fun k => (([a1.av F] : List AV)[k]?).getD .top) [a1] [.bslc (BR.root 0) (.f32 v384)] (fun F' h0 hi hρ => ⟨by simp [DVs.av, DV.av, BR.av, hρ], impl_allFinite_fn v384 F' (st_nil hi) ⟨bslc_ok hi (by rw [h0, hρ]; exact rowF32_ok hs (DVs.okAt ha 0 rfl) hv384), trivial⟩ hy⟩) (fun F' h0 hi hρ => by simp [impl_allFinite_enc, DVs.av, DV.av, BR.av, hρ]) ⟨(DVs.okAt ha 0 rfl), trivial, trivial⟩
  · cases hr
/-! impl.TimesVector -/
noncomputable def impl_TimesVector_LO (v353 v354 : Int) (v355 v356 : List Nat) : LOr := fun id e L =>
  match id with
  | _ => .fail
noncomputable def impl_TimesVector_tab : List (FuncId × DFn × Bool) := [(20, impl_ValidMatrix_F, true), (26, impl_IsVector_F, true), (27, impl_lengthF_F, true), (29, impl_Matrix_timesVector_F, true), (28, impl_allFinite_F, true)]
theorem impl_TimesVector_hO : OrcOk Try.prog (tabD impl_TimesVector_tab) (tabM impl_TimesVector_tab) := tabD_cons impl_ValidMatrix_Fok (tabD_cons impl_IsVector_Fok (tabD_cons impl_lengthF_Fok (tabD_cons impl_Matrix_timesVector_Fok (tabD_cons impl_allFinite_Fok (tabD_nil _)))))
noncomputable def impl_TimesVector_T (v353 v354 : Int) (v355 v356 : List Nat) : Tree ((Unit) ⊕ ((List Nat))) :=
  (.call (impl_ValidMatrix_g v353 v354 v355) fun v357 =>
  (.br (!v357) (
  .leaf (.inl ())
  ) (
  (.call (impl_IsVector_g v356) fun v360 =>
  (.br (!v360) (
  .leaf (.inl ())
  ) (
  (.br (!decide ((impl_lengthF_v v356) = v354)) (
  .leaf (.inl ())
  ) (
  (.call (impl_Matrix_timesVector_g v353 v354 v355 v356) fun v383 =>
  (.call (impl_allFinite_g v383) fun v386 =>
  (.sum v386 (fun v387 =>
  .leaf (.inl ())
  ) (fun v388 =>
  .leaf (.inr v383)
  ))))
  ))
  )))
  )))

noncomputable def impl_TimesVector_g (v353 v354 : Int) (v355 v356 : List Nat) : Option ((Unit) ⊕ ((List Nat))) := (impl_TimesVector_T v353 v354 v355 v356).run
def impl_TimesVector_enc (v353 v354 : Int) (v355 v356 : List Nat) (y : (Unit) ⊕ ((List Nat))) : Rs := (match y with | .inl y => (.tup [.nilslc, .lit false], []) | .inr y => (.tup [.own 0 0 ((y).length), .lit true], [.row (.f32 y) 0]))
theorem impl_TimesVector_den (v353 v354 : Int) (v355 v356 : List Nat) : (den TT (tabD impl_TimesVector_tab) (tabM impl_TimesVector_tab) (impl_TimesVector_LO v353 v354 v355 v356) (codeOf Try.f11) ([.agg [.int .i64 v353, .int .i64 v354, .bslc (BR.root 0) (.f32 v355)], .bslc (BR.root 1) (.f32 v356)] ++ List.replicate (Try.f11.ntmps - ([.agg [.int .i64 v353, .int .i64 v354, .bslc (BR.root 0) (.f32 v355)], .bslc (BR.root 1) (.f32 v356)] : List DV).length) .undef) []).bind (retD TT Try.f11.results.toList 0) = (impl_TimesVector_T v353 v354 v355 v356).bind fun y => .leaf (impl_TimesVector_enc v353 v354 v355 v356 y) := by kernel_rfl
theorem impl_TimesVector_fn (v353 v354 : Int) (v355 v356 : List Nat) (F : Fr) (h0 : St F [] F.H0) (hA : DVs.Ok F [] [.agg [.int .i64 v353, .int .i64 v354, .bslc (BR.root 0) (.f32 v355)], .bslc (BR.root 1) (.f32 v356)]) {y : (Unit) ⊕ ((List Nat))} (hy : impl_TimesVector_g v353 v354 v355 v356 = some y) : ∃ F' H', Fwd 0 F F' [] (impl_TimesVector_enc v353 v354 v355 v356 y).2 ∧ FnOk Try.prog 11 (DVs.av F [.agg [.int .i64 v353, .int .i64 v354, .bslc (BR.root 0) (.f32 v355)], .bslc (BR.root 1) (.f32 v356)]) F.H0 ((impl_TimesVector_enc v353 v354 v355 v356 y).1.av F') H' ∧ St F' (impl_TimesVector_enc v353 v354 v355 v356 y).2 H' ∧ (impl_TimesVector_enc v353 v354 v355 v356 y).1.Ok F' (impl_TimesVector_enc v353 v354 v355 v356 y).2 :=
  fn_fin tok impl_TimesVector_hO mixed Try.func11 Try.call11 (by kernel_rfl) (LoopsOk_eq (l := []) (by kernel_rfl) trivial) (impl_TimesVector_den v353 v354 v355 v356) hy h0 hA
noncomputable def impl_TimesVector_F : DFn := fun args L =>
  match args with
  | [.agg [.int .i64 v353, .int .i64 v354, a1], a2] =>
    optT (rowF32 L a1) fun v355 =>
    optT (rowF32 L a2) fun v356 =>
    .call (impl_TimesVector_g v353 v354 v355 v356) fun y => .sum y (fun y0 => .fail) (fun z0 => .leaf (.tup [.own (L.length + 0) 0 ((z0).length), .lit true], L ++ [.row (.f32 z0) 0]))
  | _ => .fail
theorem impl_TimesVector_Fok : COk Try.prog 11 impl_TimesVector_F true := by
  intro F L H args r L' hs ha hr
  unfold impl_TimesVector_F at hr
  split at hr
  · rename_i v353 v354 a1 a2
    obtain ⟨v355, hv355, hr⟩ := optT_run hr
    obtain ⟨v356, hv356, hr⟩ := optT_run hr
    simp only [Tree.run] at hr
    obtain ⟨y, hy, hr⟩ := Option.bind_eq_some_iff.1 hr
    cases y with
    | inl y =>
      cases hr
    | inr y =>
      simp only [Tree.run, Option.some.injEq, Prod.mk.injEq] at hr
      obtain ⟨rfl, rfl⟩ := hr
      exact call_ok1 hs (fun k => (([a1.av F, a2.av F] : List AV)[k]?).getD .top) [.agg [.int .i64 v353, .int .i64 v354, a1], a2] [.agg [.int .i64 v353, .int .i64 v354, .bslc (BR.root 0) (.f32 v355)], .bslc (BR.root 1) (.f32 v356)] (fun F' h0 hi hρ => ⟨by simp [DVs.av, DV.av, BR.av, hρ], impl_TimesVector_fn v353 v354 v355 v356 F' (st_nil hi) ⟨⟨trivial, trivial, bslc_ok hi (by rw [h0, hρ]; exact rowF32_ok hs (DVs.okAt (DVs.okAt ha 0 rfl) 2 rfl) hv355), trivial⟩, bslc_ok hi (by rw [h0, hρ]; exact rowF32_ok hs (DVs.okAt ha 1 rfl) hv356), trivial⟩ hy⟩) rfl rfl
  · cases hr
/-! laws.r8Gap -/
noncomputable def laws_r8Gap_LO (v402 v403 : Nat) : LOr := fun id e L =>
  match id with
  | _ => .fail
noncomputable def laws_r8Gap_tab : List (FuncId × DFn × Bool) := []
theorem laws_r8Gap_hO : OrcOk Try.prog (tabD laws_r8Gap_tab) (tabM laws_r8Gap_tab) := tabD_nil _
noncomputable def laws_r8Gap_T (v402 v403 : Nat) : Tree (Nat) :=
  .leaf (fmaxA .f64 (fsub .f64 v402 v403) (fsub .f64 v403 v402))

noncomputable def laws_r8Gap_g (v402 v403 : Nat) : Option (Nat) := (laws_r8Gap_T v402 v403).run
def laws_r8Gap_enc (v402 v403 y : Nat) : Rs := (.flt .f64 y, [])
theorem laws_r8Gap_den (v402 v403 : Nat) : (den TT (tabD laws_r8Gap_tab) (tabM laws_r8Gap_tab) (laws_r8Gap_LO v402 v403) (codeOf Try.f12) ([.flt .f64 v402, .flt .f64 v403] ++ List.replicate (Try.f12.ntmps - ([.flt .f64 v402, .flt .f64 v403] : List DV).length) .undef) []).bind (retD TT Try.f12.results.toList 0) = (laws_r8Gap_T v402 v403).bind fun y => .leaf (laws_r8Gap_enc v402 v403 y) := by kernel_rfl
theorem laws_r8Gap_fn (v402 v403 : Nat) (F : Fr) (h0 : St F [] F.H0) (hA : DVs.Ok F [] [.flt .f64 v402, .flt .f64 v403]) {y : Nat} (hy : laws_r8Gap_g v402 v403 = some y) : ∃ F' H', Fwd 0 F F' [] (laws_r8Gap_enc v402 v403 y).2 ∧ FnOk Try.prog 12 (DVs.av F [.flt .f64 v402, .flt .f64 v403]) F.H0 ((laws_r8Gap_enc v402 v403 y).1.av F') H' ∧ St F' (laws_r8Gap_enc v402 v403 y).2 H' ∧ (laws_r8Gap_enc v402 v403 y).1.Ok F' (laws_r8Gap_enc v402 v403 y).2 :=
  fn_fin tok laws_r8Gap_hO mixed Try.func12 Try.call12 (by kernel_rfl) (LoopsOk_eq (l := []) (by kernel_rfl) trivial) (laws_r8Gap_den v402 v403) hy h0 hA
def laws_r8Gap_v (v402 v403 : Nat) : Nat :=
  fmaxA .f64 (fsub .f64 v402 v403) (fsub .f64 v403 v402)
theorem laws_r8Gap_tot (v402 v403 : Nat) : laws_r8Gap_g v402 v403 = some (laws_r8Gap_v v402 v403) := by
  unfold laws_r8Gap_g laws_r8Gap_T laws_r8Gap_v
  simp only [Tree.run]
  repeat' (first | rfl | split)
noncomputable def laws_r8Gap_F : DFn := fun args L =>
  match args with
  | [.flt .f64 v402, .flt .f64 v403] =>
    .leaf (.flt .f64 (laws_r8Gap_v v402 v403), L)
  | _ => .fail
theorem laws_r8Gap_Fok : COk Try.prog 12 laws_r8Gap_F true := by
  intro F L H args r L' hs ha hr
  unfold laws_r8Gap_F at hr
  split at hr
  · rename_i v402 v403
    have hy := laws_r8Gap_tot v402 v403
    generalize laws_r8Gap_v v402 v403 = y at hy hr
    simp only [Tree.run, Option.some.injEq, Prod.mk.injEq] at hr
    obtain ⟨rfl, rfl⟩ := hr
    exact call_ok0 hs (fun k => (([] : List AV)[k]?).getD .top) [.flt .f64 v402, .flt .f64 v403] [.flt .f64 v402, .flt .f64 v403] (fun F' h0 hi hρ => ⟨by simp [DVs.av, DV.av, BR.av, hρ], laws_r8Gap_fn v402 v403 F' (st_nil hi) ⟨trivial, trivial, trivial⟩ hy⟩) rfl
  · cases hr
/-! laws.r8At -/
noncomputable def laws_r8At_LO (v492 : List Int) (v493 v494 : Int) : LOr := fun id e L =>
  match id with
  | _ => .fail
noncomputable def laws_r8At_tab : List (FuncId × DFn × Bool) := []
theorem laws_r8At_hO : OrcOk Try.prog (tabD laws_r8At_tab) (tabM laws_r8At_tab) := tabD_nil _
noncomputable def laws_r8At_T (v492 : List Int) (v493 v494 : Int) : Tree (Int) :=
  (.br (decide (v494 ≤ (1 : Int))) (
  .leaf (0 : Int)
  ) (
  (.br (decide (((v492.length : Nat) : Int) ≤ v493)) (
  .leaf (0 : Int)
  ) (
  (.grd (inb v493 v492.length) <|
  (.grd (!decide (v494 = 0)) <|
  .leaf (Int.tmod (IntKind.i64.wrap (nth v492 (Int.toNat v493))) v494)))
  ))
  ))

noncomputable def laws_r8At_g (v492 : List Int) (v493 v494 : Int) : Option (Int) := (laws_r8At_T v492 v493 v494).run
def laws_r8At_enc (v492 : List Int) (v493 v494 y : Int) : Rs := (.int .i64 y, [])
theorem laws_r8At_den (v492 : List Int) (v493 v494 : Int) : (den TT (tabD laws_r8At_tab) (tabM laws_r8At_tab) (laws_r8At_LO v492 v493 v494) (codeOf Try.f13) ([.bslc (BR.root 0) (.u8 v492), .int .i64 v493, .int .i64 v494] ++ List.replicate (Try.f13.ntmps - ([.bslc (BR.root 0) (.u8 v492), .int .i64 v493, .int .i64 v494] : List DV).length) .undef) []).bind (retD TT Try.f13.results.toList 0) = (laws_r8At_T v492 v493 v494).bind fun y => .leaf (laws_r8At_enc v492 v493 v494 y) := by kernel_rfl
theorem laws_r8At_fn (v492 : List Int) (v493 v494 : Int) (F : Fr) (h0 : St F [] F.H0) (hA : DVs.Ok F [] [.bslc (BR.root 0) (.u8 v492), .int .i64 v493, .int .i64 v494]) {y : Int} (hy : laws_r8At_g v492 v493 v494 = some y) : ∃ F' H', Fwd 0 F F' [] (laws_r8At_enc v492 v493 v494 y).2 ∧ FnOk Try.prog 13 (DVs.av F [.bslc (BR.root 0) (.u8 v492), .int .i64 v493, .int .i64 v494]) F.H0 ((laws_r8At_enc v492 v493 v494 y).1.av F') H' ∧ St F' (laws_r8At_enc v492 v493 v494 y).2 H' ∧ (laws_r8At_enc v492 v493 v494 y).1.Ok F' (laws_r8At_enc v492 v493 v494 y).2 :=
  fn_fin tok laws_r8At_hO mixed Try.func13 Try.call13 (by kernel_rfl) (LoopsOk_eq (l := []) (by kernel_rfl) trivial) (laws_r8At_den v492 v493 v494) hy h0 hA
noncomputable def laws_r8At_F : DFn := fun args L =>
  match args with
  | [a1, .int .i64 v493, .int .i64 v494] =>
    optT (rowU8 L a1) fun v492 =>
    .call (laws_r8At_g v492 v493 v494) fun y => .leaf (.int .i64 y, L)
  | _ => .fail
theorem laws_r8At_Fok : COk Try.prog 13 laws_r8At_F true := by
  intro F L H args r L' hs ha hr
  unfold laws_r8At_F at hr
  split at hr
  · rename_i a1 v493 v494
    obtain ⟨v492, hv492, hr⟩ := optT_run hr
    simp only [Tree.run] at hr
    obtain ⟨y, hy, hr⟩ := Option.bind_eq_some_iff.1 hr
    simp only [Tree.run, Option.some.injEq, Prod.mk.injEq] at hr
    obtain ⟨rfl, rfl⟩ := hr
    exact call_ok0 hs (fun k => (([a1.av F] : List AV)[k]?).getD .top) [a1, .int .i64 v493, .int .i64 v494] [.bslc (BR.root 0) (.u8 v492), .int .i64 v493, .int .i64 v494] (fun F' h0 hi hρ => ⟨by simp [DVs.av, DV.av, BR.av, hρ], laws_r8At_fn v492 v493 v494 F' (st_nil hi) ⟨bslc_ok hi (by rw [h0, hρ]; exact rowU8_ok hs (DVs.okAt ha 0 rfl) hv492), trivial, trivial, trivial⟩ hy⟩) rfl
  · cases hr
/-! impl.DrawnMatrix$1 -/
noncomputable def impl_DrawnMatrix_1_i1_LO (v530 v531 v532 : Int) : LOr := fun id e L =>
  match id with
  | _ => .fail
noncomputable def impl_DrawnMatrix_1_i1_tab : List (FuncId × DFn × Bool) := []
theorem impl_DrawnMatrix_1_i1_hO : OrcOk Try.prog (tabD impl_DrawnMatrix_1_i1_tab) (tabM impl_DrawnMatrix_1_i1_tab) := tabD_nil _
noncomputable def impl_DrawnMatrix_1_i1_T (v532 : Int) : Tree (Nat × Int) :=
  (.grd (!decide ((2147483648 : Int) = 0)) <|
  (.grd (!decide ((65536 : Int) = 0)) <|
  .leaf (fdiv .f32 (fofint .f32 (IntKind.i64.wrap ((IntKind.i64.wrap (Int.tdiv (Int.tmod (IntKind.i64.wrap ((IntKind.i64.wrap ((1103515245 : Int) * v532)) + (12345 : Int))) (2147483648 : Int)) (65536 : Int))) - (16384 : Int)))) (1182793728 : Nat), Int.tmod (IntKind.i64.wrap ((IntKind.i64.wrap ((1103515245 : Int) * v532)) + (12345 : Int))) (2147483648 : Int))))

noncomputable def impl_DrawnMatrix_1_i1_g (v532 : Int) : Option (Nat × Int) := (impl_DrawnMatrix_1_i1_T v532).run
def impl_DrawnMatrix_1_i1_enc (v530 v531 v532 : Int) (y : Nat × Int) : Rs := (.flt .f32 y.1, [.gen [.int .i64 y.2] true 0])
theorem impl_DrawnMatrix_1_i1_den (v530 v531 v532 : Int) : (den TT (tabD impl_DrawnMatrix_1_i1_tab) (tabM impl_DrawnMatrix_1_i1_tab) (impl_DrawnMatrix_1_i1_LO v530 v531 v532) (codeOf Try.f33) ([.int .i64 v530, .int .i64 v531, .ptr 0 (0 : Nat) 0 (1 : Nat)] ++ List.replicate (Try.f33.ntmps - ([.int .i64 v530, .int .i64 v531, .ptr 0 (0 : Nat) 0 (1 : Nat)] : List DV).length) .undef) [.gen [.int .i64 v532] true 0]).bind (retD TT Try.f33.results.toList 1) = (impl_DrawnMatrix_1_i1_T v532).bind fun y => .leaf (impl_DrawnMatrix_1_i1_enc v530 v531 v532 y) := by kernel_rfl
theorem impl_DrawnMatrix_1_i1_fn (v530 v531 v532 : Int) (F : Fr) (h0 : St F [.gen [.int .i64 v532] true 0] F.H0) (hA : DVs.Ok F [.gen [.int .i64 v532] true 0] [.int .i64 v530, .int .i64 v531, .ptr 0 (0 : Nat) 0 (1 : Nat)]) {y : Nat × Int} (hy : impl_DrawnMatrix_1_i1_g v532 = some y) : ∃ F' H', Fwd 1 F F' [.gen [.int .i64 v532] true 0] (impl_DrawnMatrix_1_i1_enc v530 v531 v532 y).2 ∧ FnOk Try.prog 33 (DVs.av F [.int .i64 v530, .int .i64 v531, .ptr 0 (0 : Nat) 0 (1 : Nat)]) F.H0 ((impl_DrawnMatrix_1_i1_enc v530 v531 v532 y).1.av F') H' ∧ St F' (impl_DrawnMatrix_1_i1_enc v530 v531 v532 y).2 H' ∧ (impl_DrawnMatrix_1_i1_enc v530 v531 v532 y).1.Ok F' (impl_DrawnMatrix_1_i1_enc v530 v531 v532 y).2 :=
  fn_fin tok impl_DrawnMatrix_1_i1_hO mixed Try.func33 Try.call33 (by kernel_rfl) (LoopsOk_eq (l := []) (by kernel_rfl) trivial) (impl_DrawnMatrix_1_i1_den v530 v531 v532) hy h0 hA
noncomputable def impl_DrawnMatrix_1_i1_F : DFn := fun args L =>
  match args with
  | [.int .i64 v530, .int .i64 v531, a1] =>
    optT (genOf L 1 true a1) fun qg0 =>
    (match qg0.2 with
    | [.int .i64 v532] =>
    (match sepB [qg0.1] [] with
    | true =>
    .call (impl_DrawnMatrix_1_i1_g v532) fun y => .leaf (.flt .f32 y.1, setB L [(qg0.1, .gen [.int .i64 y.2] true (verAt L qg0.1))] ++ [])
    | false => .fail)
    | _ => .fail)
  | _ => .fail
theorem impl_DrawnMatrix_1_i1_Fok : COk Try.prog 33 impl_DrawnMatrix_1_i1_F false := by
  intro F L H args r L' hs ha hr
  unfold impl_DrawnMatrix_1_i1_F at hr
  split at hr
  · rename_i v530 v531 a1
    obtain ⟨⟨jg0, cg0⟩, hg0, hr⟩ := optT_run hr
    simp only at hr
    split at hr
    · rename_i v532
      obtain ⟨hge0, hgu0, hga0, hgn0, hgc0, hgf0⟩ := genOf_spec hs (DVs.okAt ha 2 rfl) hg0
      split at hr
      · rename_i hsep
        obtain ⟨hnd, hsepv⟩ := sepB_spec hsep
        simp only [Tree.run] at hr
        obtain ⟨y, hy, hr⟩ := Option.bind_eq_some_iff.1 hr
        try simp only [Tree.run] at hr
        simp only [Option.some.injEq, Prod.mk.injEq] at hr
        obtain ⟨rfl, rfl⟩ := hr
        exact mutG_ok hs [a1] ⟨(DVs.okAt ha 2 rfl), trivial⟩ [.int .i64 v530, .int .i64 v531, a1] [.int .i64 v530, .int .i64 v531, .ptr 0 (0 : Nat) 0 (1 : Nat)] [jg0] [verAt L jg0] [.gen [.int .i64 v532] true 0] [.gen [.int .i64 y.2] true 0] [.gen [.int .i64 y.2] true (verAt L jg0)] [] hnd rfl rfl (fun j hj => by
            simp at hj
            subst hj; exact ex_gen hge0) (fun j hj => by
            simp at hj
            subst hj; exact reach_refs (by simp [DVs.refs, DV.refs, hgu0])) (fun F' h0 hρ ab hpl hS => by
            have ab0 := ab 0 _ rfl;
            refine ⟨fun i j b' h1 h2 => ?_, by simp [DBlk.blk, DVs.av, DV.av, BR.av, hρ, Row.len, hga0, ab0], fun hst => impl_DrawnMatrix_1_i1_fn v530 v531 v532 F' hst ⟨trivial, trivial, ⟨_, rfl, Nat.le_refl _, by decide, Nat.le_refl _, fun _ => rfl⟩, trivial⟩ hy⟩
            rcases i with _ | i
            · simp at h1 h2; subst h1; subst h2; obtain ⟨ver_, hv_⟩ := hge0; exact ⟨_, hv_, .gen _ _ _ _ _ _, by simp [DBlk.blk, DVs.av, DV.av, BR.av, hρ, Row.len, hga0, ab0], ⟨⟨trivial, trivial⟩, fun _ c hc => by simp at hc; subst hc; rfl⟩⟩
            · simp at h1) rfl rfl (fun i j b b' h1 h2 h3 => by
            rcases i with _ | i
            · simp at h1; subst h1; cases h3; exact growG hge0 rfl h2
            · simp at h1)
      · cases hr
    · cases hr
  · cases hr
/-! impl.made -/
noncomputable def impl_made_i1_l2_T (v517 v603 v606 v607 : Int) (s : Int × Int × (List Nat)) : Tree ((Int × Int × (List Nat)) ⊕ (Int × (List Nat))) :=
  (.br (decide (s.1 < v517)) (
  (.call (impl_DrawnMatrix_1_i1_g s.2.1) fun v609 =>
  (.call (impl_Matrix_set_g v607 s.2.2 v603 s.1) fun v610 =>
  (.grd (decide ((List.set s.2.2 (Int.toNat (IntKind.i64.wrap ((IntKind.i64.wrap (v603 * v607)) + s.1))) v609.1).length = s.2.2.length)) <|
  .leaf (.inl (IntKind.i64.wrap (s.1 + (1 : Int)), v609.2, List.set s.2.2 (Int.toNat (IntKind.i64.wrap ((IntKind.i64.wrap (v603 * v607)) + s.1))) v609.1)))))
  ) (
  .leaf (.inr (s.2.1, s.2.2))
  ))

noncomputable def impl_made_i1_l2_g (v517 v603 v606 v607 : Int) (s0 : Int × Int × (List Nat)) : Option (Int × (List Nat)) := whileM (fun s => (impl_made_i1_l2_T v517 v603 v606 v607 s).run) s0
def impl_made_i1_l2_E (v516 v517 v518 v603 v606 v607 : Int) (s : Int × Int × (List Nat)) : Sd := ([Z,.int .i64 v517,.fn 33 [.ptr 0 (0 : Nat) 0 (1 : Nat)],Z,Z,Z,.ptr 1 (0 : Nat) 0 (3 : Nat),.ptr 2 (0 : Nat) 0 (3 : Nat),.int .i64 v603,Z,Z,Z,Z,.int .i64 v516,.int .i64 v603,Z,Z,.int .i64 v517,.int .i64 s.1,Z,Z,Z,Z,Z,Z,Z,Z,Z,Z,Z,Z,Z], [.gen [.int .i64 s.2.1] true 0, .gen [.int .i64 (0 : Int), .int .i64 (0 : Int), .nilslc] false 0, .gen [.int .i64 v606, .int .i64 v607, .own 3 0 ((s.2.2).length)] false 0, .row (.f32 s.2.2) 0])
def impl_made_i1_l2_X (v516 v517 v518 v603 v606 v607 : Int) (x : Int × (List Nat)) : Out := (.normal, [Z,.int .i64 v517,.fn 33 [.ptr 0 (0 : Nat) 0 (1 : Nat)],Z,Z,Z,.ptr 1 (0 : Nat) 0 (3 : Nat),.ptr 2 (0 : Nat) 0 (3 : Nat),Z,Z,Z,Z,Z,.int .i64 v516,.int .i64 v603,Z,Z,Z,Z,Z,Z,Z,Z,Z,Z,Z,Z,Z,Z,Z,Z,Z], [.gen [.int .i64 x.1] true 0, .gen [.int .i64 (0 : Int), .int .i64 (0 : Int), .nilslc] false 0, .gen [.int .i64 v606, .int .i64 v607, .own 3 0 ((x.2).length)] false 0, .row (.f32 x.2) 0])
def impl_made_i1_l2_kill : List Nat := KL true [1,2,3,3,4,2,2,2,13]
def impl_made_i1_l2_nx : Exit → List Nat
  | .exit 0 => KL true [6,2,24]
  | .exit 1 => KL true [1,2,3,2,5,2,17]
  | .exit 2 => KL true [1,2,3,2,5,2,17]
  | .ret => KL true [6,1,25]
  | _ => []
noncomputable def impl_made_i1_l0_T (v516 v517 v518 v584 v585 : Int) (s : Int × Int × (List Nat)) : Tree ((Int × Int × (List Nat)) ⊕ (Int × (List Nat))) :=
  (.br (decide (s.1 < v516)) (
  (.need (some (impl_made_i1_l2_E v516 v517 v518 s.1 v584 v585 ((0 : Int), s.2.1, s.2.2)) = some (impl_made_i1_l2_E v516 v517 v518 s.1 v584 v585 ((0 : Int), s.2.1, s.2.2))) <|
  (.call (impl_made_i1_l2_g v517 s.1 v584 v585 ((0 : Int), s.2.1, s.2.2)) fun v611 =>
  .leaf (.inl (IntKind.i64.wrap (s.1 + (1 : Int)), v611.1, v611.2))))
  ) (
  .leaf (.inr (s.2.1, s.2.2))
  ))

noncomputable def impl_made_i1_l0_g (v516 v517 v518 v584 v585 : Int) (s0 : Int × Int × (List Nat)) : Option (Int × (List Nat)) := whileM (fun s => (impl_made_i1_l0_T v516 v517 v518 v584 v585 s).run) s0
def impl_made_i1_l0_E (v516 v517 v518 v584 v585 : Int) (s : Int × Int × (List Nat)) : Sd := ([Z,.int .i64 v517,.fn 33 [.ptr 0 (0 : Nat) 0 (1 : Nat)],Z,Z,Z,.ptr 1 (0 : Nat) 0 (3 : Nat),.ptr 2 (0 : Nat) 0 (3 : Nat),Z,Z,Z,Z,Z,.int .i64 v516,.int .i64 s.1,Z,Z,Z,Z,Z,Z,Z,Z,Z,Z,Z,Z,Z,Z,Z,Z,Z], [.gen [.int .i64 s.2.1] true 0, .gen [.int .i64 (0 : Int), .int .i64 (0 : Int), .nilslc] false 0, .gen [.int .i64 v584, .int .i64 v585, .own 3 0 ((s.2.2).length)] false 0, .row (.f32 s.2.2) 0])
def impl_made_i1_l0_X (v516 v517 v518 v584 v585 : Int) (x : Int × (List Nat)) : Out := (.normal, [Z,Z,Z,Z,Z,Z,.ptr 1 (0 : Nat) 0 (3 : Nat),.ptr 2 (0 : Nat) 0 (3 : Nat),Z,Z,Z,Z,Z,Z,Z,Z,Z,Z,Z,Z,Z,Z,Z,Z,Z,Z,Z,Z,Z,Z,Z,Z], [.gen [.int .i64 x.1] true 0, .gen [.int .i64 (0 : Int), .int .i64 (0 : Int), .nilslc] false 0, .gen [.int .i64 v584, .int .i64 v585, .own 3 0 ((x.2).length)] false 0, .row (.f32 x.2) 0])
def impl_made_i1_l0_kill : List Nat := KL true [1,2,3,2,5,2,17]
def impl_made_i1_l0_nx : Exit → List Nat
  | .exit 0 => KL true [6,2,24]
  | .ret => KL true [6,1,25]
  | _ => []
noncomputable def impl_made_i1_LO (v516 v517 v518 : Int) : LOr := fun id e L =>
  match id with
  | 2 => .need (normA 1 impl_made_i1_l2_kill e L = some (impl_made_i1_l2_E v516 v517 v518 (gI (vAt e 8)) (gI (cAt L (vAt e 7) 0)) (gI (cAt L (vAt e 7) 1)) ((gI (vAt e 18)), (gI (cAt L (aAt (vAt e 2) 0) 0)), (gRF L (cAt L (vAt e 7) 2))))) (.call (impl_made_i1_l2_g v517 (gI (vAt e 8)) (gI (cAt L (vAt e 7) 0)) (gI (cAt L (vAt e 7) 1)) ((gI (vAt e 18)), (gI (cAt L (aAt (vAt e 2) 0) 0)), (gRF L (cAt L (vAt e 7) 2)))) fun x => .leaf (impl_made_i1_l2_X v516 v517 v518 (gI (vAt e 8)) (gI (cAt L (vAt e 7) 0)) (gI (cAt L (vAt e 7) 1)) x))
  | 0 => .need (normA 1 impl_made_i1_l0_kill e L = some (impl_made_i1_l0_E v516 v517 v518 (gI (cAt L (vAt e 7) 0)) (gI (cAt L (vAt e 7) 1)) ((gI (vAt e 14)), (gI (cAt L (aAt (vAt e 2) 0) 0)), (gRF L (cAt L (vAt e 7) 2))))) (.call (impl_made_i1_l0_g v516 v517 v518 (gI (cAt L (vAt e 7) 0)) (gI (cAt L (vAt e 7) 1)) ((gI (vAt e 14)), (gI (cAt L (aAt (vAt e 2) 0) 0)), (gRF L (cAt L (vAt e 7) 2)))) fun x => .leaf (impl_made_i1_l0_X v516 v517 v518 (gI (cAt L (vAt e 7) 0)) (gI (cAt L (vAt e 7) 1)) x))
  | _ => .fail
noncomputable def impl_made_i1_tab : List (FuncId × DFn × Bool) := [(47, impl_newMatrix_F, true), (33, impl_DrawnMatrix_1_i1_F, false), (48, impl_Matrix_set_F, false)]
theorem impl_made_i1_hO : OrcOk Try.prog (tabD impl_made_i1_tab) (tabM impl_made_i1_tab) := tabD_cons impl_newMatrix_Fok (tabD_cons impl_DrawnMatrix_1_i1_Fok (tabD_cons impl_Matrix_set_Fok (tabD_nil _)))
theorem impl_made_i1_l2_be (v516 v517 v518 v603 v606 v607 : Int) (s : Int × Int × (List Nat)) : bodyT TT (tabD impl_made_i1_tab) (tabM impl_made_i1_tab) (impl_made_i1_LO v516 v517 v518) 1 impl_made_i1_l2_kill impl_made_i1_l2_nx (bodyOf Try.f32 2) 2 (impl_made_i1_l2_E v516 v517 v518 v603 v606 v607 s) = (impl_made_i1_l2_T v517 v603 v606 v607 s).bind fun y => .leaf (outS (impl_made_i1_l2_E v516 v517 v518 v603 v606 v607) (impl_made_i1_l2_X v516 v517 v518 v603 v606 v607) y) := by kernel_rfl
theorem impl_made_i1_l2_ok (v516 v517 v518 : Int) : LSound Try.prog 1 (impl_made_i1_LO v516 v517 v518) 2 (bodyOf Try.f32 2) := by
  intro e L out h
  exact lo_ok (E := impl_made_i1_l2_E v516 v517 v518 (gI (vAt e 8)) (gI (cAt L (vAt e 7) 0)) (gI (cAt L (vAt e 7) 1))) (gT := impl_made_i1_l2_T v517 (gI (vAt e 8)) (gI (cAt L (vAt e 7) 0)) (gI (cAt L (vAt e 7) 1))) (X := impl_made_i1_l2_X v516 v517 v518 (gI (vAt e 8)) (gI (cAt L (vAt e 7) 0)) (gI (cAt L (vAt e 7) 1))) (s0 := ((gI (vAt e 18)), (gI (cAt L (aAt (vAt e 2) 0) 0)), (gRF L (cAt L (vAt e 7) 2)))) tok impl_made_i1_hO mixed (LoopsOk_eq (l := []) (by kernel_rfl) trivial) (impl_made_i1_l2_be v516 v517 v518 (gI (vAt e 8)) (gI (cAt L (vAt e 7) 0)) (gI (cAt L (vAt e 7) 1))) rfl (by intro x; rfl) h
theorem impl_made_i1_l0_be (v516 v517 v518 v584 v585 : Int) (s : Int × Int × (List Nat)) : bodyT TT (tabD impl_made_i1_tab) (tabM impl_made_i1_tab) (impl_made_i1_LO v516 v517 v518) 1 impl_made_i1_l0_kill impl_made_i1_l0_nx (bodyOf Try.f32 0) 0 (impl_made_i1_l0_E v516 v517 v518 v584 v585 s) = (impl_made_i1_l0_T v516 v517 v518 v584 v585 s).bind fun y => .leaf (outS (impl_made_i1_l0_E v516 v517 v518 v584 v585) (impl_made_i1_l0_X v516 v517 v518 v584 v585) y) := by kernel_rfl
theorem impl_made_i1_l0_ok (v516 v517 v518 : Int) : LSound Try.prog 1 (impl_made_i1_LO v516 v517 v518) 0 (bodyOf Try.f32 0) := by
  intro e L out h
  exact lo_ok (E := impl_made_i1_l0_E v516 v517 v518 (gI (cAt L (vAt e 7) 0)) (gI (cAt L (vAt e 7) 1))) (gT := impl_made_i1_l0_T v516 v517 v518 (gI (cAt L (vAt e 7) 0)) (gI (cAt L (vAt e 7) 1))) (X := impl_made_i1_l0_X v516 v517 v518 (gI (cAt L (vAt e 7) 0)) (gI (cAt L (vAt e 7) 1))) (s0 := ((gI (vAt e 14)), (gI (cAt L (aAt (vAt e 2) 0) 0)), (gRF L (cAt L (vAt e 7) 2)))) tok impl_made_i1_hO mixed (LoopsOk_eq (l := [(2, bodyOf Try.f32 2)]) (by kernel_rfl) ⟨impl_made_i1_l2_ok v516 v517 v518, trivial⟩) (impl_made_i1_l0_be v516 v517 v518 (gI (cAt L (vAt e 7) 0)) (gI (cAt L (vAt e 7) 1))) rfl (by intro x; rfl) h
noncomputable def impl_made_i1_T (v516 v517 v518 : Int) : Tree (Int × Int × Int × (List Nat)) :=
  (.call (impl_newMatrix_g v516 v517) fun v519 =>
  (.need (some (impl_made_i1_l0_E v516 v517 v518 v519.1 v519.2 ((0 : Int), v518, List.replicate (Int.toNat (IntKind.i64.wrap (v516 * v517))) (0 : Nat))) = some (impl_made_i1_l0_E v516 v517 v518 v519.1 v519.2 ((0 : Int), v518, List.replicate (Int.toNat (IntKind.i64.wrap (v516 * v517))) (0 : Nat)))) <|
  (.call (impl_made_i1_l0_g v516 v517 v518 v519.1 v519.2 ((0 : Int), v518, List.replicate (Int.toNat (IntKind.i64.wrap (v516 * v517))) (0 : Nat))) fun v612 =>
  .leaf (v519.1, v519.2, v612.1, v612.2))))

noncomputable def impl_made_i1_g (v516 v517 v518 : Int) : Option (Int × Int × Int × (List Nat)) := (impl_made_i1_T v516 v517 v518).run
def impl_made_i1_enc (v516 v517 v518 : Int) (y : Int × Int × Int × (List Nat)) : Rs := (.agg [.int .i64 y.1, .int .i64 y.2.1, .own 1 0 ((y.2.2.2).length)], [.gen [.int .i64 y.2.2.1] true 0, .row (.f32 y.2.2.2) 0])
theorem impl_made_i1_den (v516 v517 v518 : Int) : (den TT (tabD impl_made_i1_tab) (tabM impl_made_i1_tab) (impl_made_i1_LO v516 v517 v518) (codeOf Try.f32) ([.int .i64 v516, .int .i64 v517, .fn 33 [.ptr 0 (0 : Nat) 0 (1 : Nat)]] ++ List.replicate (Try.f32.ntmps - ([.int .i64 v516, .int .i64 v517, .fn 33 [.ptr 0 (0 : Nat) 0 (1 : Nat)]] : List DV).length) .undef) [.gen [.int .i64 v518] true 0]).bind (retD TT Try.f32.results.toList 1) = (impl_made_i1_T v516 v517 v518).bind fun y => .leaf (impl_made_i1_enc v516 v517 v518 y) := by kernel_rfl
theorem impl_made_i1_fn (v516 v517 v518 : Int) (F : Fr) (h0 : St F [.gen [.int .i64 v518] true 0] F.H0) (hA : DVs.Ok F [.gen [.int .i64 v518] true 0] [.int .i64 v516, .int .i64 v517, .fn 33 [.ptr 0 (0 : Nat) 0 (1 : Nat)]]) {y : Int × Int × Int × (List Nat)} (hy : impl_made_i1_g v516 v517 v518 = some y) : ∃ F' H', Fwd 1 F F' [.gen [.int .i64 v518] true 0] (impl_made_i1_enc v516 v517 v518 y).2 ∧ FnOk Try.prog 32 (DVs.av F [.int .i64 v516, .int .i64 v517, .fn 33 [.ptr 0 (0 : Nat) 0 (1 : Nat)]]) F.H0 ((impl_made_i1_enc v516 v517 v518 y).1.av F') H' ∧ St F' (impl_made_i1_enc v516 v517 v518 y).2 H' ∧ (impl_made_i1_enc v516 v517 v518 y).1.Ok F' (impl_made_i1_enc v516 v517 v518 y).2 :=
  fn_fin tok impl_made_i1_hO mixed Try.func32 Try.call32 (by kernel_rfl) (LoopsOk_eq (l := [(0, bodyOf Try.f32 0)]) (by kernel_rfl) ⟨impl_made_i1_l0_ok v516 v517 v518, trivial⟩) (impl_made_i1_den v516 v517 v518) hy h0 hA
noncomputable def impl_made_i1_F : DFn := fun args L =>
  match args with
  | [.int .i64 v516, .int .i64 v517, .fn 33 [a1]] =>
    optT (genOf L 1 true a1) fun qg0 =>
    (match qg0.2 with
    | [.int .i64 v518] =>
    (match sepB [qg0.1] [] with
    | true =>
    .call (impl_made_i1_g v516 v517 v518) fun y => .leaf (.agg [.int .i64 y.1, .int .i64 y.2.1, .own (L.length + 0) 0 ((y.2.2.2).length)], setB L [(qg0.1, .gen [.int .i64 y.2.2.1] true (verAt L qg0.1))] ++ [.row (.f32 y.2.2.2) 0])
    | false => .fail)
    | _ => .fail)
  | _ => .fail
theorem impl_made_i1_Fok : COk Try.prog 32 impl_made_i1_F false := by
  intro F L H args r L' hs ha hr
  unfold impl_made_i1_F at hr
  split at hr
  · rename_i v516 v517 a1
    obtain ⟨⟨jg0, cg0⟩, hg0, hr⟩ := optT_run hr
    simp only at hr
    split at hr
    · rename_i v518
      obtain ⟨hge0, hgu0, hga0, hgn0, hgc0, hgf0⟩ := genOf_spec hs (DVs.okAt (DVs.okAt ha 2 rfl) 0 rfl) hg0
      split at hr
      · rename_i hsep
        obtain ⟨hnd, hsepv⟩ := sepB_spec hsep
        simp only [Tree.run] at hr
        obtain ⟨y, hy, hr⟩ := Option.bind_eq_some_iff.1 hr
        try simp only [Tree.run] at hr
        simp only [Option.some.injEq, Prod.mk.injEq] at hr
        obtain ⟨rfl, rfl⟩ := hr
        exact mutG_ok hs [a1] ⟨(DVs.okAt (DVs.okAt ha 2 rfl) 0 rfl), trivial⟩ [.int .i64 v516, .int .i64 v517, .fn 33 [a1]] [.int .i64 v516, .int .i64 v517, .fn 33 [.ptr 0 (0 : Nat) 0 (1 : Nat)]] [jg0] [verAt L jg0] [.gen [.int .i64 v518] true 0] [.gen [.int .i64 y.2.2.1] true 0, .row (.f32 y.2.2.2) 0] [.gen [.int .i64 y.2.2.1] true (verAt L jg0)] [.row (.f32 y.2.2.2) 0] hnd rfl rfl (fun j hj => by
            simp at hj
            subst hj; exact ex_gen hge0) (fun j hj => by
            simp at hj
            subst hj; exact reach_refs (by simp [DVs.refs, DV.refs, hgu0])) (fun F' h0 hρ ab hpl hS => by
            have ab0 := ab 0 _ rfl;
            refine ⟨fun i j b' h1 h2 => ?_, by simp [DBlk.blk, DVs.av, DV.av, BR.av, hρ, Row.len, hga0, ab0], fun hst => impl_made_i1_fn v516 v517 v518 F' hst ⟨trivial, trivial, ⟨⟨_, rfl, Nat.le_refl _, by decide, Nat.le_refl _, fun _ => rfl⟩, trivial⟩, trivial⟩ hy⟩
            rcases i with _ | i
            · simp at h1 h2; subst h1; subst h2; obtain ⟨ver_, hv_⟩ := hge0; exact ⟨_, hv_, .gen _ _ _ _ _ _, by simp [DBlk.blk, DVs.av, DV.av, BR.av, hρ, Row.len, hga0, ab0], ⟨⟨trivial, trivial⟩, fun _ c hc => by simp at hc; subst hc; rfl⟩⟩
            · simp at h1) rfl rfl (fun i j b b' h1 h2 h3 => by
            rcases i with _ | i
            · simp at h1; subst h1; cases h3; exact growG hge0 rfl h2
            · simp at h1)
      · cases hr
    · cases hr
  · cases hr
/-! impl.DrawnMatrix -/
noncomputable def impl_DrawnMatrix_LO (v496 v497 v498 : Int) : LOr := fun id e L =>
  match id with
  | _ => .fail
noncomputable def impl_DrawnMatrix_tab : List (FuncId × DFn × Bool) := [(30, impl_isSide_F, true), (31, impl_inRange_F, true), (32, impl_made_i1_F, false)]
theorem impl_DrawnMatrix_hO : OrcOk Try.prog (tabD impl_DrawnMatrix_tab) (tabM impl_DrawnMatrix_tab) := tabD_cons impl_isSide_Fok (tabD_cons impl_inRange_Fok (tabD_cons impl_made_i1_Fok (tabD_nil _)))
noncomputable def impl_DrawnMatrix_T (v496 v497 v498 : Int) : Tree ((Unit) ⊕ (Int × Int × Int × (List Nat))) :=
  (.br (!(impl_isSide_v v496)) (
  .leaf (.inl ())
  ) (
  (.br (!(impl_isSide_v v497)) (
  .leaf (.inl ())
  ) (
  (.br (!(impl_inRange_v v498 (0 : Int) (2147483647 : Int))) (
  .leaf (.inl ())
  ) (
  (.call (impl_made_i1_g v496 v497 v498) fun v613 =>
  .leaf (.inr (v613.1, v613.2.1, v613.2.2.1, v613.2.2.2)))
  ))
  ))
  ))

noncomputable def impl_DrawnMatrix_g (v496 v497 v498 : Int) : Option ((Unit) ⊕ (Int × Int × Int × (List Nat))) := (impl_DrawnMatrix_T v496 v497 v498).run
def impl_DrawnMatrix_enc (v496 v497 v498 : Int) (y : (Unit) ⊕ (Int × Int × Int × (List Nat))) : Rs := (match y with | .inl y => (.tup [.agg [.int .i64 (0 : Int), .int .i64 (0 : Int), .nilslc], .int .i64 (0 : Int), .lit false], []) | .inr y => (.tup [.agg [.int .i64 y.1, .int .i64 y.2.1, .own 0 0 ((y.2.2.2).length)], .int .i64 y.2.2.1, .lit true], [.row (.f32 y.2.2.2) 0]))
theorem impl_DrawnMatrix_den (v496 v497 v498 : Int) : (den TT (tabD impl_DrawnMatrix_tab) (tabM impl_DrawnMatrix_tab) (impl_DrawnMatrix_LO v496 v497 v498) (codeOf Try.f14) ([.int .i64 v496, .int .i64 v497, .int .i64 v498] ++ List.replicate (Try.f14.ntmps - ([.int .i64 v496, .int .i64 v497, .int .i64 v498] : List DV).length) .undef) []).bind (retD TT Try.f14.results.toList 0) = (impl_DrawnMatrix_T v496 v497 v498).bind fun y => .leaf (impl_DrawnMatrix_enc v496 v497 v498 y) := by kernel_rfl
theorem impl_DrawnMatrix_fn (v496 v497 v498 : Int) (F : Fr) (h0 : St F [] F.H0) (hA : DVs.Ok F [] [.int .i64 v496, .int .i64 v497, .int .i64 v498]) {y : (Unit) ⊕ (Int × Int × Int × (List Nat))} (hy : impl_DrawnMatrix_g v496 v497 v498 = some y) : ∃ F' H', Fwd 0 F F' [] (impl_DrawnMatrix_enc v496 v497 v498 y).2 ∧ FnOk Try.prog 14 (DVs.av F [.int .i64 v496, .int .i64 v497, .int .i64 v498]) F.H0 ((impl_DrawnMatrix_enc v496 v497 v498 y).1.av F') H' ∧ St F' (impl_DrawnMatrix_enc v496 v497 v498 y).2 H' ∧ (impl_DrawnMatrix_enc v496 v497 v498 y).1.Ok F' (impl_DrawnMatrix_enc v496 v497 v498 y).2 :=
  fn_fin tok impl_DrawnMatrix_hO mixed Try.func14 Try.call14 (by kernel_rfl) (LoopsOk_eq (l := []) (by kernel_rfl) trivial) (impl_DrawnMatrix_den v496 v497 v498) hy h0 hA
noncomputable def impl_DrawnMatrix_F : DFn := fun args L =>
  match args with
  | [.int .i64 v496, .int .i64 v497, .int .i64 v498] =>
    .call (impl_DrawnMatrix_g v496 v497 v498) fun y => .sum y (fun y0 => .fail) (fun z0 => .leaf (.tup [.agg [.int .i64 z0.1, .int .i64 z0.2.1, .own (L.length + 0) 0 ((z0.2.2.2).length)], .int .i64 z0.2.2.1, .lit true], L ++ [.row (.f32 z0.2.2.2) 0]))
  | _ => .fail
theorem impl_DrawnMatrix_Fok : COk Try.prog 14 impl_DrawnMatrix_F true := by
  intro F L H args r L' hs ha hr
  unfold impl_DrawnMatrix_F at hr
  split at hr
  · rename_i v496 v497 v498
    simp only [Tree.run] at hr
    obtain ⟨y, hy, hr⟩ := Option.bind_eq_some_iff.1 hr
    cases y with
    | inl y =>
      cases hr
    | inr y =>
      simp only [Tree.run, Option.some.injEq, Prod.mk.injEq] at hr
      obtain ⟨rfl, rfl⟩ := hr
      exact call_ok1 hs (fun k => (([] : List AV)[k]?).getD .top) [.int .i64 v496, .int .i64 v497, .int .i64 v498] [.int .i64 v496, .int .i64 v497, .int .i64 v498] (fun F' h0 hi hρ => ⟨by simp [DVs.av, DV.av, BR.av, hρ], impl_DrawnMatrix_fn v496 v497 v498 F' (st_nil hi) ⟨trivial, trivial, trivial, trivial⟩ hy⟩) rfl rfl
  · cases hr
/-! impl.HilbertMatrix$1 -/
noncomputable def impl_HilbertMatrix_1_LO (v680 v681 : Int) : LOr := fun id e L =>
  match id with
  | _ => .fail
noncomputable def impl_HilbertMatrix_1_tab : List (FuncId × DFn × Bool) := []
theorem impl_HilbertMatrix_1_hO : OrcOk Try.prog (tabD impl_HilbertMatrix_1_tab) (tabM impl_HilbertMatrix_1_tab) := tabD_nil _
noncomputable def impl_HilbertMatrix_1_T (v680 v681 : Int) : Tree (Nat) :=
  .leaf (fdiv .f32 (1065353216 : Nat) (fofint .f32 (IntKind.i64.wrap ((IntKind.i64.wrap (v680 + v681)) + (1 : Int)))))

noncomputable def impl_HilbertMatrix_1_g (v680 v681 : Int) : Option (Nat) := (impl_HilbertMatrix_1_T v680 v681).run
def impl_HilbertMatrix_1_enc (v680 v681 : Int) (y : Nat) : Rs := (.flt .f32 y, [])
theorem impl_HilbertMatrix_1_den (v680 v681 : Int) : (den TT (tabD impl_HilbertMatrix_1_tab) (tabM impl_HilbertMatrix_1_tab) (impl_HilbertMatrix_1_LO v680 v681) (codeOf Try.f34) ([.int .i64 v680, .int .i64 v681] ++ List.replicate (Try.f34.ntmps - ([.int .i64 v680, .int .i64 v681] : List DV).length) .undef) []).bind (retD TT Try.f34.results.toList 0) = (impl_HilbertMatrix_1_T v680 v681).bind fun y => .leaf (impl_HilbertMatrix_1_enc v680 v681 y) := by kernel_rfl
theorem impl_HilbertMatrix_1_fn (v680 v681 : Int) (F : Fr) (h0 : St F [] F.H0) (hA : DVs.Ok F [] [.int .i64 v680, .int .i64 v681]) {y : Nat} (hy : impl_HilbertMatrix_1_g v680 v681 = some y) : ∃ F' H', Fwd 0 F F' [] (impl_HilbertMatrix_1_enc v680 v681 y).2 ∧ FnOk Try.prog 34 (DVs.av F [.int .i64 v680, .int .i64 v681]) F.H0 ((impl_HilbertMatrix_1_enc v680 v681 y).1.av F') H' ∧ St F' (impl_HilbertMatrix_1_enc v680 v681 y).2 H' ∧ (impl_HilbertMatrix_1_enc v680 v681 y).1.Ok F' (impl_HilbertMatrix_1_enc v680 v681 y).2 :=
  fn_fin tok impl_HilbertMatrix_1_hO mixed Try.func34 Try.call34 (by kernel_rfl) (LoopsOk_eq (l := []) (by kernel_rfl) trivial) (impl_HilbertMatrix_1_den v680 v681) hy h0 hA
def impl_HilbertMatrix_1_v (v680 v681 : Int) : Nat :=
  fdiv .f32 (1065353216 : Nat) (fofint .f32 (IntKind.i64.wrap ((IntKind.i64.wrap (v680 + v681)) + (1 : Int))))
theorem impl_HilbertMatrix_1_tot (v680 v681 : Int) : impl_HilbertMatrix_1_g v680 v681 = some (impl_HilbertMatrix_1_v v680 v681) := by
  unfold impl_HilbertMatrix_1_g impl_HilbertMatrix_1_T impl_HilbertMatrix_1_v
  simp only [Tree.run]
  repeat' (first | rfl | split)
noncomputable def impl_HilbertMatrix_1_F : DFn := fun args L =>
  match args with
  | [.int .i64 v680, .int .i64 v681] =>
    .leaf (.flt .f32 (impl_HilbertMatrix_1_v v680 v681), L)
  | _ => .fail
theorem impl_HilbertMatrix_1_Fok : COk Try.prog 34 impl_HilbertMatrix_1_F true := by
  intro F L H args r L' hs ha hr
  unfold impl_HilbertMatrix_1_F at hr
  split at hr
  · rename_i v680 v681
    have hy := impl_HilbertMatrix_1_tot v680 v681
    generalize impl_HilbertMatrix_1_v v680 v681 = y at hy hr
    simp only [Tree.run, Option.some.injEq, Prod.mk.injEq] at hr
    obtain ⟨rfl, rfl⟩ := hr
    exact call_ok0 hs (fun k => (([] : List AV)[k]?).getD .top) [.int .i64 v680, .int .i64 v681] [.int .i64 v680, .int .i64 v681] (fun F' h0 hi hρ => ⟨by simp [DVs.av, DV.av, BR.av, hρ], impl_HilbertMatrix_1_fn v680 v681 F' (st_nil hi) ⟨trivial, trivial, trivial⟩ hy⟩) rfl
  · cases hr
/-! impl.made -/
noncomputable def impl_made_i2_l2_T (v671 v735 v737 v738 : Int) (s : Int × (List Nat)) : Tree ((Int × (List Nat)) ⊕ ((List Nat))) :=
  (.br (decide (s.1 < v671)) (
  (.call (impl_Matrix_set_g v738 s.2 v735 s.1) fun v740 =>
  (.grd (decide ((List.set s.2 (Int.toNat (IntKind.i64.wrap ((IntKind.i64.wrap (v735 * v738)) + s.1))) (impl_HilbertMatrix_1_v v735 s.1)).length = s.2.length)) <|
  .leaf (.inl (IntKind.i64.wrap (s.1 + (1 : Int)), List.set s.2 (Int.toNat (IntKind.i64.wrap ((IntKind.i64.wrap (v735 * v738)) + s.1))) (impl_HilbertMatrix_1_v v735 s.1)))))
  ) (
  .leaf (.inr s.2)
  ))

noncomputable def impl_made_i2_l2_g (v671 v735 v737 v738 : Int) (s0 : Int × (List Nat)) : Option ((List Nat)) := whileM (fun s => (impl_made_i2_l2_T v671 v735 v737 v738 s).run) s0
def impl_made_i2_l2_E (v670 v671 v735 v737 v738 : Int) (s : Int × (List Nat)) : Sd := ([Z,.int .i64 v671,.fn 34 [],Z,Z,Z,.ptr 0 (0 : Nat) 0 (3 : Nat),.ptr 1 (0 : Nat) 0 (3 : Nat),.int .i64 v735,Z,Z,Z,Z,.int .i64 v670,.int .i64 v735,Z,Z,.int .i64 v671,.int .i64 s.1,Z,Z,Z,Z,Z,Z,Z,Z,Z,Z,Z,Z,Z], [.gen [.int .i64 (0 : Int), .int .i64 (0 : Int), .nilslc] false 0, .gen [.int .i64 v737, .int .i64 v738, .own 2 0 ((s.2).length)] false 0, .row (.f32 s.2) 0])
def impl_made_i2_l2_X (v670 v671 v735 v737 v738 : Int) (x : (List Nat)) : Out := (.normal, [Z,.int .i64 v671,.fn 34 [],Z,Z,Z,.ptr 0 (0 : Nat) 0 (3 : Nat),.ptr 1 (0 : Nat) 0 (3 : Nat),Z,Z,Z,Z,Z,.int .i64 v670,.int .i64 v735,Z,Z,Z,Z,Z,Z,Z,Z,Z,Z,Z,Z,Z,Z,Z,Z,Z], [.gen [.int .i64 (0 : Int), .int .i64 (0 : Int), .nilslc] false 0, .gen [.int .i64 v737, .int .i64 v738, .own 2 0 ((x).length)] false 0, .row (.f32 x) 0])
def impl_made_i2_l2_kill : List Nat := KL true [1,2,3,3,4,2,2,2,13]
def impl_made_i2_l2_nx : Exit → List Nat
  | .exit 0 => KL true [6,2,24]
  | .exit 1 => KL true [1,2,3,2,5,2,17]
  | .exit 2 => KL true [1,2,3,2,5,2,17]
  | .ret => KL true [6,1,25]
  | _ => []
noncomputable def impl_made_i2_l0_T (v670 v671 v720 v721 : Int) (s : Int × (List Nat)) : Tree ((Int × (List Nat)) ⊕ ((List Nat))) :=
  (.br (decide (s.1 < v670)) (
  (.need (some (impl_made_i2_l2_E v670 v671 s.1 v720 v721 ((0 : Int), s.2)) = some (impl_made_i2_l2_E v670 v671 s.1 v720 v721 ((0 : Int), s.2))) <|
  (.call (impl_made_i2_l2_g v671 s.1 v720 v721 ((0 : Int), s.2)) fun v741 =>
  .leaf (.inl (IntKind.i64.wrap (s.1 + (1 : Int)), v741))))
  ) (
  .leaf (.inr s.2)
  ))

noncomputable def impl_made_i2_l0_g (v670 v671 v720 v721 : Int) (s0 : Int × (List Nat)) : Option ((List Nat)) := whileM (fun s => (impl_made_i2_l0_T v670 v671 v720 v721 s).run) s0
def impl_made_i2_l0_E (v670 v671 v720 v721 : Int) (s : Int × (List Nat)) : Sd := ([Z,.int .i64 v671,.fn 34 [],Z,Z,Z,.ptr 0 (0 : Nat) 0 (3 : Nat),.ptr 1 (0 : Nat) 0 (3 : Nat),Z,Z,Z,Z,Z,.int .i64 v670,.int .i64 s.1,Z,Z,Z,Z,Z,Z,Z,Z,Z,Z,Z,Z,Z,Z,Z,Z,Z], [.gen [.int .i64 (0 : Int), .int .i64 (0 : Int), .nilslc] false 0, .gen [.int .i64 v720, .int .i64 v721, .own 2 0 ((s.2).length)] false 0, .row (.f32 s.2) 0])
def impl_made_i2_l0_X (v670 v671 v720 v721 : Int) (x : (List Nat)) : Out := (.normal, [Z,Z,Z,Z,Z,Z,.ptr 0 (0 : Nat) 0 (3 : Nat),.ptr 1 (0 : Nat) 0 (3 : Nat),Z,Z,Z,Z,Z,Z,Z,Z,Z,Z,Z,Z,Z,Z,Z,Z,Z,Z,Z,Z,Z,Z,Z,Z], [.gen [.int .i64 (0 : Int), .int .i64 (0 : Int), .nilslc] false 0, .gen [.int .i64 v720, .int .i64 v721, .own 2 0 ((x).length)] false 0, .row (.f32 x) 0])
def impl_made_i2_l0_kill : List Nat := KL true [1,2,3,2,5,2,17]
def impl_made_i2_l0_nx : Exit → List Nat
  | .exit 0 => KL true [6,2,24]
  | .ret => KL true [6,1,25]
  | _ => []
noncomputable def impl_made_i2_LO (v670 v671 : Int) : LOr := fun id e L =>
  match id with
  | 2 => .need (normA 0 impl_made_i2_l2_kill e L = some (impl_made_i2_l2_E v670 v671 (gI (vAt e 8)) (gI (cAt L (vAt e 7) 0)) (gI (cAt L (vAt e 7) 1)) ((gI (vAt e 18)), (gRF L (cAt L (vAt e 7) 2))))) (.call (impl_made_i2_l2_g v671 (gI (vAt e 8)) (gI (cAt L (vAt e 7) 0)) (gI (cAt L (vAt e 7) 1)) ((gI (vAt e 18)), (gRF L (cAt L (vAt e 7) 2)))) fun x => .leaf (impl_made_i2_l2_X v670 v671 (gI (vAt e 8)) (gI (cAt L (vAt e 7) 0)) (gI (cAt L (vAt e 7) 1)) x))
  | 0 => .need (normA 0 impl_made_i2_l0_kill e L = some (impl_made_i2_l0_E v670 v671 (gI (cAt L (vAt e 7) 0)) (gI (cAt L (vAt e 7) 1)) ((gI (vAt e 14)), (gRF L (cAt L (vAt e 7) 2))))) (.call (impl_made_i2_l0_g v670 v671 (gI (cAt L (vAt e 7) 0)) (gI (cAt L (vAt e 7) 1)) ((gI (vAt e 14)), (gRF L (cAt L (vAt e 7) 2)))) fun x => .leaf (impl_made_i2_l0_X v670 v671 (gI (cAt L (vAt e 7) 0)) (gI (cAt L (vAt e 7) 1)) x))
  | _ => .fail
noncomputable def impl_made_i2_tab : List (FuncId × DFn × Bool) := [(47, impl_newMatrix_F, true), (34, impl_HilbertMatrix_1_F, true), (48, impl_Matrix_set_F, false)]
theorem impl_made_i2_hO : OrcOk Try.prog (tabD impl_made_i2_tab) (tabM impl_made_i2_tab) := tabD_cons impl_newMatrix_Fok (tabD_cons impl_HilbertMatrix_1_Fok (tabD_cons impl_Matrix_set_Fok (tabD_nil _)))
theorem impl_made_i2_l2_be (v670 v671 v735 v737 v738 : Int) (s : Int × (List Nat)) : bodyT TT (tabD impl_made_i2_tab) (tabM impl_made_i2_tab) (impl_made_i2_LO v670 v671) 0 impl_made_i2_l2_kill impl_made_i2_l2_nx (bodyOf Try.f32 2) 2 (impl_made_i2_l2_E v670 v671 v735 v737 v738 s) = (impl_made_i2_l2_T v671 v735 v737 v738 s).bind fun y => .leaf (outS (impl_made_i2_l2_E v670 v671 v735 v737 v738) (impl_made_i2_l2_X v670 v671 v735 v737 v738) y) := by kernel_rfl
theorem impl_made_i2_l2_ok (v670 v671 : Int) : LSound Try.prog 0 (impl_made_i2_LO v670 v671) 2 (bodyOf Try.f32 2) := by
  intro e L out h
  exact lo_ok (E := impl_made_i2_l2_E v670 v671 (gI (vAt e 8)) (gI (cAt L (vAt e 7) 0)) (gI (cAt L (vAt e 7) 1))) (gT := impl_made_i2_l2_T v671 (gI (vAt e 8)) (gI (cAt L (vAt e 7) 0)) (gI (cAt L (vAt e 7) 1))) (X := impl_made_i2_l2_X v670 v671 (gI (vAt e 8)) (gI (cAt L (vAt e 7) 0)) (gI (cAt L (vAt e 7) 1))) (s0 := ((gI (vAt e 18)), (gRF L (cAt L (vAt e 7) 2)))) tok impl_made_i2_hO mixed (LoopsOk_eq (l := []) (by kernel_rfl) trivial) (impl_made_i2_l2_be v670 v671 (gI (vAt e 8)) (gI (cAt L (vAt e 7) 0)) (gI (cAt L (vAt e 7) 1))) rfl (by intro x; rfl) h
theorem impl_made_i2_l0_be (v670 v671 v720 v721 : Int) (s : Int × (List Nat)) : bodyT TT (tabD impl_made_i2_tab) (tabM impl_made_i2_tab) (impl_made_i2_LO v670 v671) 0 impl_made_i2_l0_kill impl_made_i2_l0_nx (bodyOf Try.f32 0) 0 (impl_made_i2_l0_E v670 v671 v720 v721 s) = (impl_made_i2_l0_T v670 v671 v720 v721 s).bind fun y => .leaf (outS (impl_made_i2_l0_E v670 v671 v720 v721) (impl_made_i2_l0_X v670 v671 v720 v721) y) := by kernel_rfl
theorem impl_made_i2_l0_ok (v670 v671 : Int) : LSound Try.prog 0 (impl_made_i2_LO v670 v671) 0 (bodyOf Try.f32 0) := by
  intro e L out h
  exact lo_ok (E := impl_made_i2_l0_E v670 v671 (gI (cAt L (vAt e 7) 0)) (gI (cAt L (vAt e 7) 1))) (gT := impl_made_i2_l0_T v670 v671 (gI (cAt L (vAt e 7) 0)) (gI (cAt L (vAt e 7) 1))) (X := impl_made_i2_l0_X v670 v671 (gI (cAt L (vAt e 7) 0)) (gI (cAt L (vAt e 7) 1))) (s0 := ((gI (vAt e 14)), (gRF L (cAt L (vAt e 7) 2)))) tok impl_made_i2_hO mixed (LoopsOk_eq (l := [(2, bodyOf Try.f32 2)]) (by kernel_rfl) ⟨impl_made_i2_l2_ok v670 v671, trivial⟩) (impl_made_i2_l0_be v670 v671 (gI (cAt L (vAt e 7) 0)) (gI (cAt L (vAt e 7) 1))) rfl (by intro x; rfl) h
noncomputable def impl_made_i2_T (v670 v671 : Int) : Tree (Int × Int × (List Nat)) :=
  (.call (impl_newMatrix_g v670 v671) fun v672 =>
  (.need (some (impl_made_i2_l0_E v670 v671 v672.1 v672.2 ((0 : Int), List.replicate (Int.toNat (IntKind.i64.wrap (v670 * v671))) (0 : Nat))) = some (impl_made_i2_l0_E v670 v671 v672.1 v672.2 ((0 : Int), List.replicate (Int.toNat (IntKind.i64.wrap (v670 * v671))) (0 : Nat)))) <|
  (.call (impl_made_i2_l0_g v670 v671 v672.1 v672.2 ((0 : Int), List.replicate (Int.toNat (IntKind.i64.wrap (v670 * v671))) (0 : Nat))) fun v742 =>
  .leaf (v672.1, v672.2, v742))))

noncomputable def impl_made_i2_g (v670 v671 : Int) : Option (Int × Int × (List Nat)) := (impl_made_i2_T v670 v671).run
def impl_made_i2_enc (v670 v671 : Int) (y : Int × Int × (List Nat)) : Rs := (.agg [.int .i64 y.1, .int .i64 y.2.1, .own 0 0 ((y.2.2).length)], [.row (.f32 y.2.2) 0])
theorem impl_made_i2_den (v670 v671 : Int) : (den TT (tabD impl_made_i2_tab) (tabM impl_made_i2_tab) (impl_made_i2_LO v670 v671) (codeOf Try.f32) ([.int .i64 v670, .int .i64 v671, .fn 34 []] ++ List.replicate (Try.f32.ntmps - ([.int .i64 v670, .int .i64 v671, .fn 34 []] : List DV).length) .undef) []).bind (retD TT Try.f32.results.toList 0) = (impl_made_i2_T v670 v671).bind fun y => .leaf (impl_made_i2_enc v670 v671 y) := by kernel_rfl
theorem impl_made_i2_fn (v670 v671 : Int) (F : Fr) (h0 : St F [] F.H0) (hA : DVs.Ok F [] [.int .i64 v670, .int .i64 v671, .fn 34 []]) {y : Int × Int × (List Nat)} (hy : impl_made_i2_g v670 v671 = some y) : ∃ F' H', Fwd 0 F F' [] (impl_made_i2_enc v670 v671 y).2 ∧ FnOk Try.prog 32 (DVs.av F [.int .i64 v670, .int .i64 v671, .fn 34 []]) F.H0 ((impl_made_i2_enc v670 v671 y).1.av F') H' ∧ St F' (impl_made_i2_enc v670 v671 y).2 H' ∧ (impl_made_i2_enc v670 v671 y).1.Ok F' (impl_made_i2_enc v670 v671 y).2 :=
  fn_fin tok impl_made_i2_hO mixed Try.func32 Try.call32 (by kernel_rfl) (LoopsOk_eq (l := [(0, bodyOf Try.f32 0)]) (by kernel_rfl) ⟨impl_made_i2_l0_ok v670 v671, trivial⟩) (impl_made_i2_den v670 v671) hy h0 hA
noncomputable def impl_made_i2_F : DFn := fun args L =>
  match args with
  | [.int .i64 v670, .int .i64 v671, .fn 34 []] =>
    .call (impl_made_i2_g v670 v671) fun y => .leaf (.agg [.int .i64 y.1, .int .i64 y.2.1, .own (L.length + 0) 0 ((y.2.2).length)], L ++ [.row (.f32 y.2.2) 0])
  | _ => .fail
theorem impl_made_i2_Fok : COk Try.prog 32 impl_made_i2_F true := by
  intro F L H args r L' hs ha hr
  unfold impl_made_i2_F at hr
  split at hr
  · rename_i v670 v671
    simp only [Tree.run] at hr
    obtain ⟨y, hy, hr⟩ := Option.bind_eq_some_iff.1 hr
    simp only [Tree.run, Option.some.injEq, Prod.mk.injEq] at hr
    obtain ⟨rfl, rfl⟩ := hr
    exact call_ok1 hs (fun k => (([] : List AV)[k]?).getD .top) [.int .i64 v670, .int .i64 v671, .fn 34 []] [.int .i64 v670, .int .i64 v671, .fn 34 []] (fun F' h0 hi hρ => ⟨by simp [DVs.av, DV.av, BR.av, hρ], impl_made_i2_fn v670 v671 F' (st_nil hi) ⟨trivial, trivial, trivial, trivial⟩ hy⟩) rfl rfl
  · cases hr
/-! impl.HilbertMatrix -/
noncomputable def impl_HilbertMatrix_LO (v669 : Int) : LOr := fun id e L =>
  match id with
  | _ => .fail
noncomputable def impl_HilbertMatrix_tab : List (FuncId × DFn × Bool) := [(30, impl_isSide_F, true), (32, impl_made_i2_F, true)]
theorem impl_HilbertMatrix_hO : OrcOk Try.prog (tabD impl_HilbertMatrix_tab) (tabM impl_HilbertMatrix_tab) := tabD_cons impl_isSide_Fok (tabD_cons impl_made_i2_Fok (tabD_nil _))
noncomputable def impl_HilbertMatrix_T (v669 : Int) : Tree ((Unit) ⊕ (Int × Int × (List Nat))) :=
  (.br (!(impl_isSide_v v669)) (
  .leaf (.inl ())
  ) (
  (.call (impl_made_i2_g v669 v669) fun v743 =>
  .leaf (.inr (v743.1, v743.2.1, v743.2.2)))
  ))

noncomputable def impl_HilbertMatrix_g (v669 : Int) : Option ((Unit) ⊕ (Int × Int × (List Nat))) := (impl_HilbertMatrix_T v669).run
def impl_HilbertMatrix_enc (v669 : Int) (y : (Unit) ⊕ (Int × Int × (List Nat))) : Rs := (match y with | .inl y => (.tup [.agg [.int .i64 (0 : Int), .int .i64 (0 : Int), .nilslc], .lit false], []) | .inr y => (.tup [.agg [.int .i64 y.1, .int .i64 y.2.1, .own 0 0 ((y.2.2).length)], .lit true], [.row (.f32 y.2.2) 0]))
theorem impl_HilbertMatrix_den (v669 : Int) : (den TT (tabD impl_HilbertMatrix_tab) (tabM impl_HilbertMatrix_tab) (impl_HilbertMatrix_LO v669) (codeOf Try.f15) ([.int .i64 v669] ++ List.replicate (Try.f15.ntmps - ([.int .i64 v669] : List DV).length) .undef) []).bind (retD TT Try.f15.results.toList 0) = (impl_HilbertMatrix_T v669).bind fun y => .leaf (impl_HilbertMatrix_enc v669 y) := by kernel_rfl
theorem impl_HilbertMatrix_fn (v669 : Int) (F : Fr) (h0 : St F [] F.H0) (hA : DVs.Ok F [] [.int .i64 v669]) {y : (Unit) ⊕ (Int × Int × (List Nat))} (hy : impl_HilbertMatrix_g v669 = some y) : ∃ F' H', Fwd 0 F F' [] (impl_HilbertMatrix_enc v669 y).2 ∧ FnOk Try.prog 15 (DVs.av F [.int .i64 v669]) F.H0 ((impl_HilbertMatrix_enc v669 y).1.av F') H' ∧ St F' (impl_HilbertMatrix_enc v669 y).2 H' ∧ (impl_HilbertMatrix_enc v669 y).1.Ok F' (impl_HilbertMatrix_enc v669 y).2 :=
  fn_fin tok impl_HilbertMatrix_hO mixed Try.func15 Try.call15 (by kernel_rfl) (LoopsOk_eq (l := []) (by kernel_rfl) trivial) (impl_HilbertMatrix_den v669) hy h0 hA
noncomputable def impl_HilbertMatrix_F : DFn := fun args L =>
  match args with
  | [.int .i64 v669] =>
    .call (impl_HilbertMatrix_g v669) fun y => .sum y (fun y0 => .fail) (fun z0 => .leaf (.tup [.agg [.int .i64 z0.1, .int .i64 z0.2.1, .own (L.length + 0) 0 ((z0.2.2).length)], .lit true], L ++ [.row (.f32 z0.2.2) 0]))
  | _ => .fail
theorem impl_HilbertMatrix_Fok : COk Try.prog 15 impl_HilbertMatrix_F true := by
  intro F L H args r L' hs ha hr
  unfold impl_HilbertMatrix_F at hr
  split at hr
  · rename_i v669
    simp only [Tree.run] at hr
    obtain ⟨y, hy, hr⟩ := Option.bind_eq_some_iff.1 hr
    cases y with
    | inl y =>
      cases hr
    | inr y =>
      simp only [Tree.run, Option.some.injEq, Prod.mk.injEq] at hr
      obtain ⟨rfl, rfl⟩ := hr
      exact call_ok1 hs (fun k => (([] : List AV)[k]?).getD .top) [.int .i64 v669] [.int .i64 v669] (fun F' h0 hi hρ => ⟨by simp [DVs.av, DV.av, BR.av, hρ], impl_HilbertMatrix_fn v669 F' (st_nil hi) ⟨trivial, trivial⟩ hy⟩) rfl rfl
  · cases hr
/-! math.Signbit -/
noncomputable def math_Signbit_LO (v763 : Nat) : LOr := fun id e L =>
  match id with
  | _ => .fail
noncomputable def math_Signbit_tab : List (FuncId × DFn × Bool) := [(65, Bits64_F, true)]
theorem math_Signbit_hO : OrcOk Try.prog (tabD math_Signbit_tab) (tabM math_Signbit_tab) := tabD_cons Bits64_Fok (tabD_nil _)
noncomputable def math_Signbit_T (v763 : Nat) : Tree (Bool) :=
  (.grd (!isNan .f64 v763) <|
  .leaf (decide (IntKind.i64.wrap (((v763 : Nat) : Int)) < (0 : Int))))

noncomputable def math_Signbit_g (v763 : Nat) : Option (Bool) := (math_Signbit_T v763).run
def math_Signbit_enc (v763 : Nat) (y : Bool) : Rs := (.bool y, [])
theorem math_Signbit_den (v763 : Nat) : (den TT (tabD math_Signbit_tab) (tabM math_Signbit_tab) (math_Signbit_LO v763) (codeOf Try.f60) ([.flt .f64 v763] ++ List.replicate (Try.f60.ntmps - ([.flt .f64 v763] : List DV).length) .undef) []).bind (retD TT Try.f60.results.toList 0) = (math_Signbit_T v763).bind fun y => .leaf (math_Signbit_enc v763 y) := by kernel_rfl
theorem math_Signbit_fn (v763 : Nat) (F : Fr) (h0 : St F [] F.H0) (hA : DVs.Ok F [] [.flt .f64 v763]) {y : Bool} (hy : math_Signbit_g v763 = some y) : ∃ F' H', Fwd 0 F F' [] (math_Signbit_enc v763 y).2 ∧ FnOk Try.prog 60 (DVs.av F [.flt .f64 v763]) F.H0 ((math_Signbit_enc v763 y).1.av F') H' ∧ St F' (math_Signbit_enc v763 y).2 H' ∧ (math_Signbit_enc v763 y).1.Ok F' (math_Signbit_enc v763 y).2 :=
  fn_fin tok math_Signbit_hO mixed Try.func60 Try.call60 (by kernel_rfl) (LoopsOk_eq (l := []) (by kernel_rfl) trivial) (math_Signbit_den v763) hy h0 hA
noncomputable def math_Signbit_F : DFn := fun args L =>
  match args with
  | [.flt .f64 v763] =>
    .call (math_Signbit_g v763) fun y => .leaf (.bool y, L)
  | _ => .fail
theorem math_Signbit_Fok : COk Try.prog 60 math_Signbit_F true := by
  intro F L H args r L' hs ha hr
  unfold math_Signbit_F at hr
  split at hr
  · rename_i v763
    simp only [Tree.run] at hr
    obtain ⟨y, hy, hr⟩ := Option.bind_eq_some_iff.1 hr
    simp only [Tree.run, Option.some.injEq, Prod.mk.injEq] at hr
    obtain ⟨rfl, rfl⟩ := hr
    exact call_ok0 hs (fun k => (([] : List AV)[k]?).getD .top) [.flt .f64 v763] [.flt .f64 v763] (fun F' h0 hi hρ => ⟨by simp [DVs.av, DV.av, BR.av, hρ], math_Signbit_fn v763 F' (st_nil hi) ⟨trivial, trivial⟩ hy⟩) rfl
  · cases hr
/-! impl.SameNumber -/
noncomputable def impl_SameNumber_LO (v761 v762 : Nat) : LOr := fun id e L =>
  match id with
  | _ => .fail
noncomputable def impl_SameNumber_tab : List (FuncId × DFn × Bool) := [(60, math_Signbit_F, true)]
theorem impl_SameNumber_hO : OrcOk Try.prog (tabD impl_SameNumber_tab) (tabM impl_SameNumber_tab) := tabD_cons math_Signbit_Fok (tabD_nil _)
noncomputable def impl_SameNumber_T (v761 v762 : Nat) : Tree (Bool) :=
  (.br (!feq .f32 v761 v761) (
  (.br (!feq .f32 v761 v761) (
  .leaf (!feq .f32 v762 v762)
  ) (
  .leaf false
  ))
  ) (
  (.br (!feq .f32 v762 v762) (
  (.br (!feq .f32 v761 v761) (
  .leaf (!feq .f32 v762 v762)
  ) (
  .leaf false
  ))
  ) (
  (.br (feq .f32 v761 v762) (
  (.call (math_Signbit_g (wid v761)) fun v764 =>
  (.call (math_Signbit_g (wid v762)) fun v765 =>
  .leaf (v764 == v765)))
  ) (
  .leaf false
  ))
  ))
  ))

noncomputable def impl_SameNumber_g (v761 v762 : Nat) : Option (Bool) := (impl_SameNumber_T v761 v762).run
def impl_SameNumber_enc (v761 v762 : Nat) (y : Bool) : Rs := (.bool y, [])
theorem impl_SameNumber_den (v761 v762 : Nat) : (den TT (tabD impl_SameNumber_tab) (tabM impl_SameNumber_tab) (impl_SameNumber_LO v761 v762) (codeOf Try.f50) ([.flt .f32 v761, .flt .f32 v762] ++ List.replicate (Try.f50.ntmps - ([.flt .f32 v761, .flt .f32 v762] : List DV).length) .undef) []).bind (retD TT Try.f50.results.toList 0) = (impl_SameNumber_T v761 v762).bind fun y => .leaf (impl_SameNumber_enc v761 v762 y) := by kernel_rfl
theorem impl_SameNumber_fn (v761 v762 : Nat) (F : Fr) (h0 : St F [] F.H0) (hA : DVs.Ok F [] [.flt .f32 v761, .flt .f32 v762]) {y : Bool} (hy : impl_SameNumber_g v761 v762 = some y) : ∃ F' H', Fwd 0 F F' [] (impl_SameNumber_enc v761 v762 y).2 ∧ FnOk Try.prog 50 (DVs.av F [.flt .f32 v761, .flt .f32 v762]) F.H0 ((impl_SameNumber_enc v761 v762 y).1.av F') H' ∧ St F' (impl_SameNumber_enc v761 v762 y).2 H' ∧ (impl_SameNumber_enc v761 v762 y).1.Ok F' (impl_SameNumber_enc v761 v762 y).2 :=
  fn_fin tok impl_SameNumber_hO mixed Try.func50 Try.call50 (by kernel_rfl) (LoopsOk_eq (l := []) (by kernel_rfl) trivial) (impl_SameNumber_den v761 v762) hy h0 hA
noncomputable def impl_SameNumber_F : DFn := fun args L =>
  match args with
  | [.flt .f32 v761, .flt .f32 v762] =>
    .call (impl_SameNumber_g v761 v762) fun y => .leaf (.bool y, L)
  | _ => .fail
theorem impl_SameNumber_Fok : COk Try.prog 50 impl_SameNumber_F true := by
  intro F L H args r L' hs ha hr
  unfold impl_SameNumber_F at hr
  split at hr
  · rename_i v761 v762
    simp only [Tree.run] at hr
    obtain ⟨y, hy, hr⟩ := Option.bind_eq_some_iff.1 hr
    simp only [Tree.run, Option.some.injEq, Prod.mk.injEq] at hr
    obtain ⟨rfl, rfl⟩ := hr
    exact call_ok0 hs (fun k => (([] : List AV)[k]?).getD .top) [.flt .f32 v761, .flt .f32 v762] [.flt .f32 v761, .flt .f32 v762] (fun F' h0 hi hρ => ⟨by simp [DVs.av, DV.av, BR.av, hρ], impl_SameNumber_fn v761 v762 F' (st_nil hi) ⟨trivial, trivial, trivial⟩ hy⟩) rfl
  · cases hr
/-! slices.EqualFunc[list of float32,list of float32,float32,float32] -/
noncomputable def slices_EqualFunc_float32_float32_float32_float32_l0_T (v758 v759 : List Nat) (s : Int) : Tree ((Int) ⊕ ((Unit) ⊕ (Unit))) :=
  (.br (decide (s < ((v758.length : Nat) : Int))) (
  (.grd (inb s v758.length) <|
  (.grd (inb s v759.length) <|
  (.call (impl_SameNumber_g (nth v758 (Int.toNat s)) (nth v759 (Int.toNat s))) fun v770 =>
  (.br (!v770) (
  .leaf (.inr (.inl ()))
  ) (
  .leaf (.inl (IntKind.i64.wrap (s + (1 : Int))))
  )))))
  ) (
  .leaf (.inr (.inr ()))
  ))

noncomputable def slices_EqualFunc_float32_float32_float32_float32_l0_g (v758 v759 : List Nat) (s0 : Int) : Option ((Unit) ⊕ (Unit)) := whileM (fun s => (slices_EqualFunc_float32_float32_float32_float32_l0_T v758 v759 s).run) s0
def slices_EqualFunc_float32_float32_float32_float32_l0_E (v758 v759 : List Nat) (s : Int) : Sd := ([Z,.bslc (BR.root 1) (.f32 v759),.fn 50 [],Z,Z,Z,Z,Z,Z,Z,Z,Z,Z,Z,Z,.bslc (BR.root 0) (.f32 v758),.int .i64 ((v758.length : Nat) : Int),.int .i64 s,Z,Z,Z,Z,Z,Z,Z,Z,Z,Z,Z,Z,Z,Z], [])
def slices_EqualFunc_float32_float32_float32_float32_l0_X (v758 v759 : List Nat) (x : (Unit) ⊕ (Unit)) : Out := (match x with | .inl x => (.ret, [Z,Z,Z,Z,Z,Z,.lit false,Z,Z,Z,Z,Z,Z,Z,Z,Z,Z,Z,Z,Z,Z,Z,Z,Z,Z,Z,Z,Z,Z,Z,Z,Z], []) | .inr x => (.normal, [Z,Z,Z,Z,Z,Z,Z,Z,Z,Z,Z,Z,Z,Z,Z,Z,Z,Z,Z,Z,Z,Z,Z,Z,Z,Z,Z,Z,Z,Z,Z,Z], []))
def slices_EqualFunc_float32_float32_float32_float32_l0_kill : List Nat := KL true [1,2,12,3,14]
def slices_EqualFunc_float32_float32_float32_float32_l0_nx : Exit → List Nat
  | .exit 0 => KL true [32]
  | .ret => KL true [6,1,25]
  | _ => []
noncomputable def slices_EqualFunc_float32_float32_float32_float32_LO (v758 v759 : List Nat) : LOr := fun id e L =>
  match id with
  | 0 => .need (normA 0 slices_EqualFunc_float32_float32_float32_float32_l0_kill e L = some (slices_EqualFunc_float32_float32_float32_float32_l0_E v758 v759 (gI (vAt e 17)))) (.call (slices_EqualFunc_float32_float32_float32_float32_l0_g v758 v759 (gI (vAt e 17))) fun x => .sum x (fun b0 => .leaf (slices_EqualFunc_float32_float32_float32_float32_l0_X v758 v759 (.inl b0))) (fun c0 => .leaf (slices_EqualFunc_float32_float32_float32_float32_l0_X v758 v759 (.inr c0))))
  | _ => .fail
noncomputable def slices_EqualFunc_float32_float32_float32_float32_tab : List (FuncId × DFn × Bool) := [(50, impl_SameNumber_F, true)]
theorem slices_EqualFunc_float32_float32_float32_float32_hO : OrcOk Try.prog (tabD slices_EqualFunc_float32_float32_float32_float32_tab) (tabM slices_EqualFunc_float32_float32_float32_float32_tab) := tabD_cons impl_SameNumber_Fok (tabD_nil _)
theorem slices_EqualFunc_float32_float32_float32_float32_l0_be (v758 v759 : List Nat) (s : Int) : bodyT TT (tabD slices_EqualFunc_float32_float32_float32_float32_tab) (tabM slices_EqualFunc_float32_float32_float32_float32_tab) (slices_EqualFunc_float32_float32_float32_float32_LO v758 v759) 0 slices_EqualFunc_float32_float32_float32_float32_l0_kill slices_EqualFunc_float32_float32_float32_float32_l0_nx (bodyOf Try.f49 0) 0 (slices_EqualFunc_float32_float32_float32_float32_l0_E v758 v759 s) = (slices_EqualFunc_float32_float32_float32_float32_l0_T v758 v759 s).bind fun y => .leaf (outS (slices_EqualFunc_float32_float32_float32_float32_l0_E v758 v759) (slices_EqualFunc_float32_float32_float32_float32_l0_X v758 v759) y) := by kernel_rfl
theorem slices_EqualFunc_float32_float32_float32_float32_l0_ok (v758 v759 : List Nat) : LSound Try.prog 0 (slices_EqualFunc_float32_float32_float32_float32_LO v758 v759) 0 (bodyOf Try.f49 0) := by
  intro e L out h
  exact lo_ok (E := slices_EqualFunc_float32_float32_float32_float32_l0_E v758 v759) (gT := slices_EqualFunc_float32_float32_float32_float32_l0_T v758 v759) (X := slices_EqualFunc_float32_float32_float32_float32_l0_X v758 v759) (s0 := (gI (vAt e 17))) tok slices_EqualFunc_float32_float32_float32_float32_hO mixed (LoopsOk_eq (l := []) (by kernel_rfl) trivial) (slices_EqualFunc_float32_float32_float32_float32_l0_be v758 v759) rfl (by intro x; (cases x with | inl b => rfl | inr x => exact rfl)) h
noncomputable def slices_EqualFunc_float32_float32_float32_float32_T (v758 v759 : List Nat) : Tree (Bool) :=
  (.br (!decide (((v758.length : Nat) : Int) = ((v759.length : Nat) : Int))) (
  .leaf false
  ) (
  (.need (some (slices_EqualFunc_float32_float32_float32_float32_l0_E v758 v759 (0 : Int)) = some (slices_EqualFunc_float32_float32_float32_float32_l0_E v758 v759 (0 : Int))) <|
  (.call (slices_EqualFunc_float32_float32_float32_float32_l0_g v758 v759 (0 : Int)) fun v771 =>
  (.sum v771 (fun v772 =>
  .leaf false
  ) (fun v773 =>
  .leaf true
  ))))
  ))

noncomputable def slices_EqualFunc_float32_float32_float32_float32_g (v758 v759 : List Nat) : Option (Bool) := (slices_EqualFunc_float32_float32_float32_float32_T v758 v759).run
def slices_EqualFunc_float32_float32_float32_float32_enc (v758 v759 : List Nat) (y : Bool) : Rs := (.bool y, [])
theorem slices_EqualFunc_float32_float32_float32_float32_den (v758 v759 : List Nat) : (den TT (tabD slices_EqualFunc_float32_float32_float32_float32_tab) (tabM slices_EqualFunc_float32_float32_float32_float32_tab) (slices_EqualFunc_float32_float32_float32_float32_LO v758 v759) (codeOf Try.f49) ([.bslc (BR.root 0) (.f32 v758), .bslc (BR.root 1) (.f32 v759), .fn 50 []] ++ List.replicate (Try.f49.ntmps - ([.bslc (BR.root 0) (.f32 v758), .bslc (BR.root 1) (.f32 v759), .fn 50 []] : List DV).length) .undef) []).bind (retD TT Try.f49.results.toList 0) = (slices_EqualFunc_float32_float32_float32_float32_T v758 v759).bind fun y => .leaf (slices_EqualFunc_float32_float32_float32_float32_enc v758 v759 y) := by kernel_rfl
theorem slices_EqualFunc_float32_float32_float32_float32_fn (v758 v759 : List Nat) (F : Fr) (h0 : St F [] F.H0) (hA : DVs.Ok F [] [.bslc (BR.root 0) (.f32 v758), .bslc (BR.root 1) (.f32 v759), .fn 50 []]) {y : Bool} (hy : slices_EqualFunc_float32_float32_float32_float32_g v758 v759 = some y) : ∃ F' H', Fwd 0 F F' [] (slices_EqualFunc_float32_float32_float32_float32_enc v758 v759 y).2 ∧ FnOk Try.prog 49 (DVs.av F [.bslc (BR.root 0) (.f32 v758), .bslc (BR.root 1) (.f32 v759), .fn 50 []]) F.H0 ((slices_EqualFunc_float32_float32_float32_float32_enc v758 v759 y).1.av F') H' ∧ St F' (slices_EqualFunc_float32_float32_float32_float32_enc v758 v759 y).2 H' ∧ (slices_EqualFunc_float32_float32_float32_float32_enc v758 v759 y).1.Ok F' (slices_EqualFunc_float32_float32_float32_float32_enc v758 v759 y).2 :=
  fn_fin tok slices_EqualFunc_float32_float32_float32_float32_hO mixed Try.func49 Try.call49 (by kernel_rfl) (LoopsOk_eq (l := [(0, bodyOf Try.f49 0)]) (by kernel_rfl) ⟨slices_EqualFunc_float32_float32_float32_float32_l0_ok v758 v759, trivial⟩) (slices_EqualFunc_float32_float32_float32_float32_den v758 v759) hy h0 hA
noncomputable def slices_EqualFunc_float32_float32_float32_float32_F : DFn := fun args L =>
  match args with
  | [a1, a2, .fn 50 []] =>
    optT (rowF32 L a1) fun v758 =>
    optT (rowF32 L a2) fun v759 =>
    .call (slices_EqualFunc_float32_float32_float32_float32_g v758 v759) fun y => .leaf (.bool y, L)
  | _ => .fail
theorem slices_EqualFunc_float32_float32_float32_float32_Fok : COk Try.prog 49 slices_EqualFunc_float32_float32_float32_float32_F true := by
  intro F L H args r L' hs ha hr
  unfold slices_EqualFunc_float32_float32_float32_float32_F at hr
  split at hr
  · rename_i a1 a2
    obtain ⟨v758, hv758, hr⟩ := optT_run hr
    obtain ⟨v759, hv759, hr⟩ := optT_run hr
    simp only [Tree.run] at hr
    obtain ⟨y, hy, hr⟩ := Option.bind_eq_some_iff.1 hr
    simp only [Tree.run, Option.some.injEq, Prod.mk.injEq] at hr
    obtain ⟨rfl, rfl⟩ := hr
    exact call_ok0 hs (fun k => (([a1.av F, a2.av F] : List AV)[k]?).getD .top) [a1, a2, .fn 50 []] [.bslc (BR.root 0) (.f32 v758), .bslc (BR.root 1) (.f32 v759), .fn 50 []] (fun F' h0 hi hρ => ⟨by simp [DVs.av, DV.av, BR.av, hρ], slices_EqualFunc_float32_float32_float32_float32_fn v758 v759 F' (st_nil hi) ⟨bslc_ok hi (by rw [h0, hρ]; exact rowF32_ok hs (DVs.okAt ha 0 rfl) hv758), bslc_ok hi (by rw [h0, hρ]; exact rowF32_ok hs (DVs.okAt ha 1 rfl) hv759), trivial, trivial⟩ hy⟩) rfl
  · cases hr
/-! impl.sameNumbers -/
noncomputable def impl_sameNumbers_LO (v756 v757 : List Nat) : LOr := fun id e L =>
  match id with
  | _ => .fail
noncomputable def impl_sameNumbers_tab : List (FuncId × DFn × Bool) := [(49, slices_EqualFunc_float32_float32_float32_float32_F, true)]
theorem impl_sameNumbers_hO : OrcOk Try.prog (tabD impl_sameNumbers_tab) (tabM impl_sameNumbers_tab) := tabD_cons slices_EqualFunc_float32_float32_float32_float32_Fok (tabD_nil _)
noncomputable def impl_sameNumbers_T (v756 v757 : List Nat) : Tree (Bool) :=
  (.call (slices_EqualFunc_float32_float32_float32_float32_g v756 v757) fun v774 =>
  .leaf v774)

noncomputable def impl_sameNumbers_g (v756 v757 : List Nat) : Option (Bool) := (impl_sameNumbers_T v756 v757).run
def impl_sameNumbers_enc (v756 v757 : List Nat) (y : Bool) : Rs := (.bool y, [])
theorem impl_sameNumbers_den (v756 v757 : List Nat) : (den TT (tabD impl_sameNumbers_tab) (tabM impl_sameNumbers_tab) (impl_sameNumbers_LO v756 v757) (codeOf Try.f35) ([.bslc (BR.root 0) (.f32 v756), .bslc (BR.root 1) (.f32 v757)] ++ List.replicate (Try.f35.ntmps - ([.bslc (BR.root 0) (.f32 v756), .bslc (BR.root 1) (.f32 v757)] : List DV).length) .undef) []).bind (retD TT Try.f35.results.toList 0) = (impl_sameNumbers_T v756 v757).bind fun y => .leaf (impl_sameNumbers_enc v756 v757 y) := by kernel_rfl
theorem impl_sameNumbers_fn (v756 v757 : List Nat) (F : Fr) (h0 : St F [] F.H0) (hA : DVs.Ok F [] [.bslc (BR.root 0) (.f32 v756), .bslc (BR.root 1) (.f32 v757)]) {y : Bool} (hy : impl_sameNumbers_g v756 v757 = some y) : ∃ F' H', Fwd 0 F F' [] (impl_sameNumbers_enc v756 v757 y).2 ∧ FnOk Try.prog 35 (DVs.av F [.bslc (BR.root 0) (.f32 v756), .bslc (BR.root 1) (.f32 v757)]) F.H0 ((impl_sameNumbers_enc v756 v757 y).1.av F') H' ∧ St F' (impl_sameNumbers_enc v756 v757 y).2 H' ∧ (impl_sameNumbers_enc v756 v757 y).1.Ok F' (impl_sameNumbers_enc v756 v757 y).2 :=
  fn_fin tok impl_sameNumbers_hO mixed Try.func35 Try.call35 (by kernel_rfl) (LoopsOk_eq (l := []) (by kernel_rfl) trivial) (impl_sameNumbers_den v756 v757) hy h0 hA
noncomputable def impl_sameNumbers_F : DFn := fun args L =>
  match args with
  | [a1, a2] =>
    optT (rowF32 L a1) fun v756 =>
    optT (rowF32 L a2) fun v757 =>
    .call (impl_sameNumbers_g v756 v757) fun y => .leaf (.bool y, L)
  | _ => .fail
theorem impl_sameNumbers_Fok : COk Try.prog 35 impl_sameNumbers_F true := by
  intro F L H args r L' hs ha hr
  unfold impl_sameNumbers_F at hr
  split at hr
  · rename_i a1 a2
    obtain ⟨v756, hv756, hr⟩ := optT_run hr
    obtain ⟨v757, hv757, hr⟩ := optT_run hr
    simp only [Tree.run] at hr
    obtain ⟨y, hy, hr⟩ := Option.bind_eq_some_iff.1 hr
    simp only [Tree.run, Option.some.injEq, Prod.mk.injEq] at hr
    obtain ⟨rfl, rfl⟩ := hr
    exact call_ok0 hs (fun k => (([a1.av F, a2.av F] : List AV)[k]?).getD .top) [a1, a2] [.bslc (BR.root 0) (.f32 v756), .bslc (BR.root 1) (.f32 v757)] (fun F' h0 hi hρ => ⟨by simp [DVs.av, DV.av, BR.av, hρ], impl_sameNumbers_fn v756 v757 F' (st_nil hi) ⟨bslc_ok hi (by rw [h0, hρ]; exact rowF32_ok hs (DVs.okAt ha 0 rfl) hv756), bslc_ok hi (by rw [h0, hρ]; exact rowF32_ok hs (DVs.okAt ha 1 rfl) hv757), trivial⟩ hy⟩) rfl
  · cases hr
/-! impl.SameMatrix -/
noncomputable def impl_SameMatrix_LO (v750 v751 : Int) (v752 : List Nat) (v753 v754 : Int) (v755 : List Nat) : LOr := fun id e L =>
  match id with
  | _ => .fail
noncomputable def impl_SameMatrix_tab : List (FuncId × DFn × Bool) := [(35, impl_sameNumbers_F, true)]
theorem impl_SameMatrix_hO : OrcOk Try.prog (tabD impl_SameMatrix_tab) (tabM impl_SameMatrix_tab) := tabD_cons impl_sameNumbers_Fok (tabD_nil _)
noncomputable def impl_SameMatrix_T (v750 v751 : Int) (v752 : List Nat) (v753 v754 : Int) (v755 : List Nat) : Tree (Bool) :=
  (.br (decide (v750 = v753)) (
  (.br (decide (v751 = v754)) (
  (.call (impl_sameNumbers_g v752 v755) fun v775 =>
  .leaf v775)
  ) (
  .leaf false
  ))
  ) (
  .leaf false
  ))

noncomputable def impl_SameMatrix_g (v750 v751 : Int) (v752 : List Nat) (v753 v754 : Int) (v755 : List Nat) : Option (Bool) := (impl_SameMatrix_T v750 v751 v752 v753 v754 v755).run
def impl_SameMatrix_enc (v750 v751 : Int) (v752 : List Nat) (v753 v754 : Int) (v755 : List Nat) (y : Bool) : Rs := (.bool y, [])
theorem impl_SameMatrix_den (v750 v751 : Int) (v752 : List Nat) (v753 v754 : Int) (v755 : List Nat) : (den TT (tabD impl_SameMatrix_tab) (tabM impl_SameMatrix_tab) (impl_SameMatrix_LO v750 v751 v752 v753 v754 v755) (codeOf Try.f16) ([.agg [.int .i64 v750, .int .i64 v751, .bslc (BR.root 0) (.f32 v752)], .agg [.int .i64 v753, .int .i64 v754, .bslc (BR.root 1) (.f32 v755)]] ++ List.replicate (Try.f16.ntmps - ([.agg [.int .i64 v750, .int .i64 v751, .bslc (BR.root 0) (.f32 v752)], .agg [.int .i64 v753, .int .i64 v754, .bslc (BR.root 1) (.f32 v755)]] : List DV).length) .undef) []).bind (retD TT Try.f16.results.toList 0) = (impl_SameMatrix_T v750 v751 v752 v753 v754 v755).bind fun y => .leaf (impl_SameMatrix_enc v750 v751 v752 v753 v754 v755 y) := by kernel_rfl
theorem impl_SameMatrix_fn (v750 v751 : Int) (v752 : List Nat) (v753 v754 : Int) (v755 : List Nat) (F : Fr) (h0 : St F [] F.H0) (hA : DVs.Ok F [] [.agg [.int .i64 v750, .int .i64 v751, .bslc (BR.root 0) (.f32 v752)], .agg [.int .i64 v753, .int .i64 v754, .bslc (BR.root 1) (.f32 v755)]]) {y : Bool} (hy : impl_SameMatrix_g v750 v751 v752 v753 v754 v755 = some y) : ∃ F' H', Fwd 0 F F' [] (impl_SameMatrix_enc v750 v751 v752 v753 v754 v755 y).2 ∧ FnOk Try.prog 16 (DVs.av F [.agg [.int .i64 v750, .int .i64 v751, .bslc (BR.root 0) (.f32 v752)], .agg [.int .i64 v753, .int .i64 v754, .bslc (BR.root 1) (.f32 v755)]]) F.H0 ((impl_SameMatrix_enc v750 v751 v752 v753 v754 v755 y).1.av F') H' ∧ St F' (impl_SameMatrix_enc v750 v751 v752 v753 v754 v755 y).2 H' ∧ (impl_SameMatrix_enc v750 v751 v752 v753 v754 v755 y).1.Ok F' (impl_SameMatrix_enc v750 v751 v752 v753 v754 v755 y).2 :=
  fn_fin tok impl_SameMatrix_hO mixed Try.func16 Try.call16 (by kernel_rfl) (LoopsOk_eq (l := []) (by kernel_rfl) trivial) (impl_SameMatrix_den v750 v751 v752 v753 v754 v755) hy h0 hA
noncomputable def impl_SameMatrix_F : DFn := fun args L =>
  match args with
  | [.agg [.int .i64 v750, .int .i64 v751, a1], .agg [.int .i64 v753, .int .i64 v754, a2]] =>
    optT (rowF32 L a1) fun v752 =>
    optT (rowF32 L a2) fun v755 =>
    .call (impl_SameMatrix_g v750 v751 v752 v753 v754 v755) fun y => .leaf (.bool y, L)
  | _ => .fail
theorem impl_SameMatrix_Fok : COk Try.prog 16 impl_SameMatrix_F true := by
  intro F L H args r L' hs ha hr
  unfold impl_SameMatrix_F at hr
  split at hr
  · rename_i v750 v751 a1 v753 v754 a2
    obtain ⟨v752, hv752, hr⟩ := optT_run hr
    obtain ⟨v755, hv755, hr⟩ := optT_run hr
    simp only [Tree.run] at hr
    obtain ⟨y, hy, hr⟩ := Option.bind_eq_some_iff.1 hr
    simp only [Tree.run, Option.some.injEq, Prod.mk.injEq] at hr
    obtain ⟨rfl, rfl⟩ := hr
    exact call_ok0 hs (fun k => (([a1.av F, a2.av F] : List AV)[k]?).getD .top) [.agg [.int .i64 v750, .int .i64 v751, a1], .agg [.int .i64 v753, .int .i64 v754, a2]] [.agg [.int .i64 v750, .int .i64 v751, .bslc (BR.root 0) (.f32 v752)], .agg [.int .i64 v753, .int .i64 v754, .bslc (BR.root 1) (.f32 v755)]] (fun F' h0 hi hρ => ⟨by simp [DVs.av, DV.av, BR.av, hρ], impl_SameMatrix_fn v750 v751 v752 v753 v754 v755 F' (st_nil hi) ⟨⟨trivial, trivial, bslc_ok hi (by rw [h0, hρ]; exact rowF32_ok hs (DVs.okAt (DVs.okAt ha 0 rfl) 2 rfl) hv752), trivial⟩, ⟨trivial, trivial, bslc_ok hi (by rw [h0, hρ]; exact rowF32_ok hs (DVs.okAt (DVs.okAt ha 1 rfl) 2 rfl) hv755), trivial⟩, trivial⟩ hy⟩) rfl
  · cases hr
/-! impl.isSquare -/
noncomputable def impl_isSquare_LO (v780 v781 : Int) (v782 : List Nat) : LOr := fun id e L =>
  match id with
  | _ => .fail
noncomputable def impl_isSquare_tab : List (FuncId × DFn × Bool) := [(20, impl_ValidMatrix_F, true)]
theorem impl_isSquare_hO : OrcOk Try.prog (tabD impl_isSquare_tab) (tabM impl_isSquare_tab) := tabD_cons impl_ValidMatrix_Fok (tabD_nil _)
noncomputable def impl_isSquare_T (v780 v781 : Int) (v782 : List Nat) : Tree (Bool) :=
  (.call (impl_ValidMatrix_g v780 v781 v782) fun v783 =>
  (.br v783 (
  .leaf (decide (v780 = v781))
  ) (
  .leaf false
  )))

noncomputable def impl_isSquare_g (v780 v781 : Int) (v782 : List Nat) : Option (Bool) := (impl_isSquare_T v780 v781 v782).run
def impl_isSquare_enc (v780 v781 : Int) (v782 : List Nat) (y : Bool) : Rs := (.bool y, [])
theorem impl_isSquare_den (v780 v781 : Int) (v782 : List Nat) : (den TT (tabD impl_isSquare_tab) (tabM impl_isSquare_tab) (impl_isSquare_LO v780 v781 v782) (codeOf Try.f36) ([.agg [.int .i64 v780, .int .i64 v781, .bslc (BR.root 0) (.f32 v782)]] ++ List.replicate (Try.f36.ntmps - ([.agg [.int .i64 v780, .int .i64 v781, .bslc (BR.root 0) (.f32 v782)]] : List DV).length) .undef) []).bind (retD TT Try.f36.results.toList 0) = (impl_isSquare_T v780 v781 v782).bind fun y => .leaf (impl_isSquare_enc v780 v781 v782 y) := by kernel_rfl
theorem impl_isSquare_fn (v780 v781 : Int) (v782 : List Nat) (F : Fr) (h0 : St F [] F.H0) (hA : DVs.Ok F [] [.agg [.int .i64 v780, .int .i64 v781, .bslc (BR.root 0) (.f32 v782)]]) {y : Bool} (hy : impl_isSquare_g v780 v781 v782 = some y) : ∃ F' H', Fwd 0 F F' [] (impl_isSquare_enc v780 v781 v782 y).2 ∧ FnOk Try.prog 36 (DVs.av F [.agg [.int .i64 v780, .int .i64 v781, .bslc (BR.root 0) (.f32 v782)]]) F.H0 ((impl_isSquare_enc v780 v781 v782 y).1.av F') H' ∧ St F' (impl_isSquare_enc v780 v781 v782 y).2 H' ∧ (impl_isSquare_enc v780 v781 v782 y).1.Ok F' (impl_isSquare_enc v780 v781 v782 y).2 :=
  fn_fin tok impl_isSquare_hO mixed Try.func36 Try.call36 (by kernel_rfl) (LoopsOk_eq (l := []) (by kernel_rfl) trivial) (impl_isSquare_den v780 v781 v782) hy h0 hA
noncomputable def impl_isSquare_F : DFn := fun args L =>
  match args with
  | [.agg [.int .i64 v780, .int .i64 v781, a1]] =>
    optT (rowF32 L a1) fun v782 =>
    .call (impl_isSquare_g v780 v781 v782) fun y => .leaf (.bool y, L)
  | _ => .fail
theorem impl_isSquare_Fok : COk Try.prog 36 impl_isSquare_F true := by
  intro F L H args r L' hs ha hr
  unfold impl_isSquare_F at hr
  split at hr
  · rename_i v780 v781 a1
    obtain ⟨v782, hv782, hr⟩ := optT_run hr
    simp only [Tree.run] at hr
    obtain ⟨y, hy, hr⟩ := Option.bind_eq_some_iff.1 hr
    simp only [Tree.run, Option.some.injEq, Prod.mk.injEq] at hr
    obtain ⟨rfl, rfl⟩ := hr
    exact call_ok0 hs (fun k => (([a1.av F] : List AV)[k]?).getD .top) [.agg [.int .i64 v780, .int .i64 v781, a1]] [.agg [.int .i64 v780, .int .i64 v781, .bslc (BR.root 0) (.f32 v782)]] (fun F' h0 hi hρ => ⟨by simp [DVs.av, DV.av, BR.av, hρ], impl_isSquare_fn v780 v781 v782 F' (st_nil hi) ⟨⟨trivial, trivial, bslc_ok hi (by rw [h0, hρ]; exact rowF32_ok hs (DVs.okAt (DVs.okAt ha 0 rfl) 2 rfl) hv782), trivial⟩, trivial⟩ hy⟩) rfl
  · cases hr
/-! impl.IsSymmetric -/
noncomputable def impl_IsSymmetric_l2_T (v778 : Int) (v779 : List Nat) (v826 s : Int) : Tree ((Int) ⊕ ((Unit) ⊕ (Unit))) :=
  (.br (decide (s < v826)) (
  (.call (impl_Matrix_at_g v778 v779 v826 s) fun v828 =>
  (.call (impl_Matrix_at_g v778 v779 s v826) fun v829 =>
  (.br (!feq .f32 v828 v829) (
  .leaf (.inr (.inl ()))
  ) (
  .leaf (.inl (IntKind.i64.wrap (s + (1 : Int))))
  ))))
  ) (
  .leaf (.inr (.inr ()))
  ))

noncomputable def impl_IsSymmetric_l2_g (v778 : Int) (v779 : List Nat) (v826 s0 : Int) : Option ((Unit) ⊕ (Unit)) := whileM (fun s => (impl_IsSymmetric_l2_T v778 v779 v826 s).run) s0
def impl_IsSymmetric_l2_E (v777 v778 : Int) (v779 : List Nat) (v826 s : Int) : Sd := ([Z,.ptr 0 (0 : Nat) 0 (3 : Nat),Z,.int .i64 v826,Z,Z,Z,Z,Z,.int .i64 v777,.int .i64 v826,Z,Z,.int .i64 v826,.int .i64 s,Z,Z,Z,Z,Z,Z,Z,Z,Z,Z,Z,Z,Z], [.gen [.int .i64 v777, .int .i64 v778, .bslc (BR.root 0) (.f32 v779)] false 0])
def impl_IsSymmetric_l2_X (v777 v778 : Int) (v779 : List Nat) (v826 : Int) (x : (Unit) ⊕ (Unit)) : Out := (match x with | .inl x => (.ret, [Z,Z,.lit false,Z,Z,Z,Z,Z,Z,Z,Z,Z,Z,Z,Z,Z,Z,Z,Z,Z,Z,Z,Z,Z,Z,Z,Z,Z], []) | .inr x => (.normal, [Z,.ptr 0 (0 : Nat) 0 (3 : Nat),Z,Z,Z,Z,Z,Z,Z,.int .i64 v777,.int .i64 v826,Z,Z,Z,Z,Z,Z,Z,Z,Z,Z,Z,Z,Z,Z,Z,Z,Z], [.gen [.int .i64 v777, .int .i64 v778, .bslc (BR.root 0) (.f32 v779)] false 0]))
def impl_IsSymmetric_l2_kill : List Nat := KL true [1,1,1,1,5,2,2,2,13]
def impl_IsSymmetric_l2_nx : Exit → List Nat
  | .exit 0 => KL true [28]
  | .exit 1 => KL true [1,1,7,2,17]
  | .exit 2 => KL true [1,1,7,2,17]
  | .ret => KL true [2,1,25]
  | _ => []
noncomputable def impl_IsSymmetric_l0_T (v777 v778 : Int) (v779 : List Nat) (s : Int) : Tree ((Int) ⊕ ((Unit) ⊕ (Unit))) :=
  (.br (decide (s < v777)) (
  (.need (some (impl_IsSymmetric_l2_E v777 v778 v779 s (0 : Int)) = some (impl_IsSymmetric_l2_E v777 v778 v779 s (0 : Int))) <|
  (.call (impl_IsSymmetric_l2_g v778 v779 s (0 : Int)) fun v830 =>
  (.sum v830 (fun v831 =>
  .leaf (.inr (.inl ()))
  ) (fun v832 =>
  .leaf (.inl (IntKind.i64.wrap (s + (1 : Int))))
  ))))
  ) (
  .leaf (.inr (.inr ()))
  ))

noncomputable def impl_IsSymmetric_l0_g (v777 v778 : Int) (v779 : List Nat) (s0 : Int) : Option ((Unit) ⊕ (Unit)) := whileM (fun s => (impl_IsSymmetric_l0_T v777 v778 v779 s).run) s0
def impl_IsSymmetric_l0_E (v777 v778 : Int) (v779 : List Nat) (s : Int) : Sd := ([Z,.ptr 0 (0 : Nat) 0 (3 : Nat),Z,Z,Z,Z,Z,Z,Z,.int .i64 v777,.int .i64 s,Z,Z,Z,Z,Z,Z,Z,Z,Z,Z,Z,Z,Z,Z,Z,Z,Z], [.gen [.int .i64 v777, .int .i64 v778, .bslc (BR.root 0) (.f32 v779)] false 0])
def impl_IsSymmetric_l0_X (v777 v778 : Int) (v779 : List Nat) (x : (Unit) ⊕ (Unit)) : Out := (match x with | .inl x => (.ret, [Z,Z,.lit false,Z,Z,Z,Z,Z,Z,Z,Z,Z,Z,Z,Z,Z,Z,Z,Z,Z,Z,Z,Z,Z,Z,Z,Z,Z], []) | .inr x => (.normal, [Z,Z,Z,Z,Z,Z,Z,Z,Z,Z,Z,Z,Z,Z,Z,Z,Z,Z,Z,Z,Z,Z,Z,Z,Z,Z,Z,Z], []))
def impl_IsSymmetric_l0_kill : List Nat := KL true [1,1,7,2,17]
def impl_IsSymmetric_l0_nx : Exit → List Nat
  | .exit 0 => KL true [28]
  | .ret => KL true [2,1,25]
  | _ => []
noncomputable def impl_IsSymmetric_LO (v777 v778 : Int) (v779 : List Nat) : LOr := fun id e L =>
  match id with
  | 2 => .need (normA 0 impl_IsSymmetric_l2_kill e L = some (impl_IsSymmetric_l2_E v777 v778 v779 (gI (vAt e 3)) (gI (vAt e 14)))) (.call (impl_IsSymmetric_l2_g v778 v779 (gI (vAt e 3)) (gI (vAt e 14))) fun x => .sum x (fun b0 => .leaf (impl_IsSymmetric_l2_X v777 v778 v779 (gI (vAt e 3)) (.inl b0))) (fun c0 => .leaf (impl_IsSymmetric_l2_X v777 v778 v779 (gI (vAt e 3)) (.inr c0))))
  | 0 => .need (normA 0 impl_IsSymmetric_l0_kill e L = some (impl_IsSymmetric_l0_E v777 v778 v779 (gI (vAt e 10)))) (.call (impl_IsSymmetric_l0_g v777 v778 v779 (gI (vAt e 10))) fun x => .sum x (fun b0 => .leaf (impl_IsSymmetric_l0_X v777 v778 v779 (.inl b0))) (fun c0 => .leaf (impl_IsSymmetric_l0_X v777 v778 v779 (.inr c0))))
  | _ => .fail
noncomputable def impl_IsSymmetric_tab : List (FuncId × DFn × Bool) := [(36, impl_isSquare_F, true), (37, impl_Matrix_at_F, true)]
theorem impl_IsSymmetric_hO : OrcOk Try.prog (tabD impl_IsSymmetric_tab) (tabM impl_IsSymmetric_tab) := tabD_cons impl_isSquare_Fok (tabD_cons impl_Matrix_at_Fok (tabD_nil _))
theorem impl_IsSymmetric_l2_be (v777 v778 : Int) (v779 : List Nat) (v826 s : Int) : bodyT TT (tabD impl_IsSymmetric_tab) (tabM impl_IsSymmetric_tab) (impl_IsSymmetric_LO v777 v778 v779) 0 impl_IsSymmetric_l2_kill impl_IsSymmetric_l2_nx (bodyOf Try.f17 2) 2 (impl_IsSymmetric_l2_E v777 v778 v779 v826 s) = (impl_IsSymmetric_l2_T v778 v779 v826 s).bind fun y => .leaf (outS (impl_IsSymmetric_l2_E v777 v778 v779 v826) (impl_IsSymmetric_l2_X v777 v778 v779 v826) y) := by kernel_rfl
theorem impl_IsSymmetric_l2_ok (v777 v778 : Int) (v779 : List Nat) : LSound Try.prog 0 (impl_IsSymmetric_LO v777 v778 v779) 2 (bodyOf Try.f17 2) := by
  intro e L out h
  exact lo_ok (E := impl_IsSymmetric_l2_E v777 v778 v779 (gI (vAt e 3))) (gT := impl_IsSymmetric_l2_T v778 v779 (gI (vAt e 3))) (X := impl_IsSymmetric_l2_X v777 v778 v779 (gI (vAt e 3))) (s0 := (gI (vAt e 14))) tok impl_IsSymmetric_hO mixed (LoopsOk_eq (l := []) (by kernel_rfl) trivial) (impl_IsSymmetric_l2_be v777 v778 v779 (gI (vAt e 3))) rfl (by intro x; (cases x with | inl b => rfl | inr x => exact rfl)) h
theorem impl_IsSymmetric_l0_be (v777 v778 : Int) (v779 : List Nat) (s : Int) : bodyT TT (tabD impl_IsSymmetric_tab) (tabM impl_IsSymmetric_tab) (impl_IsSymmetric_LO v777 v778 v779) 0 impl_IsSymmetric_l0_kill impl_IsSymmetric_l0_nx (bodyOf Try.f17 0) 0 (impl_IsSymmetric_l0_E v777 v778 v779 s) = (impl_IsSymmetric_l0_T v777 v778 v779 s).bind fun y => .leaf (outS (impl_IsSymmetric_l0_E v777 v778 v779) (impl_IsSymmetric_l0_X v777 v778 v779) y) := by kernel_rfl
theorem impl_IsSymmetric_l0_ok (v777 v778 : Int) (v779 : List Nat) : LSound Try.prog 0 (impl_IsSymmetric_LO v777 v778 v779) 0 (bodyOf Try.f17 0) := by
  intro e L out h
  exact lo_ok (E := impl_IsSymmetric_l0_E v777 v778 v779) (gT := impl_IsSymmetric_l0_T v777 v778 v779) (X := impl_IsSymmetric_l0_X v777 v778 v779) (s0 := (gI (vAt e 10))) tok impl_IsSymmetric_hO mixed (LoopsOk_eq (l := [(2, bodyOf Try.f17 2)]) (by kernel_rfl) ⟨impl_IsSymmetric_l2_ok v777 v778 v779, trivial⟩) (impl_IsSymmetric_l0_be v777 v778 v779) rfl (by intro x; (cases x with | inl b => rfl | inr x => exact rfl)) h
noncomputable def impl_IsSymmetric_T (v777 v778 : Int) (v779 : List Nat) : Tree (Bool) :=
  (.call (impl_isSquare_g v777 v778 v779) fun v784 =>
  (.br (!v784) (
  .leaf false
  ) (
  (.need (some (impl_IsSymmetric_l0_E v777 v778 v779 (0 : Int)) = some (impl_IsSymmetric_l0_E v777 v778 v779 (0 : Int))) <|
  (.call (impl_IsSymmetric_l0_g v777 v778 v779 (0 : Int)) fun v833 =>
  (.sum v833 (fun v834 =>
  .leaf false
  ) (fun v835 =>
  .leaf true
  ))))
  )))

noncomputable def impl_IsSymmetric_g (v777 v778 : Int) (v779 : List Nat) : Option (Bool) := (impl_IsSymmetric_T v777 v778 v779).run
def impl_IsSymmetric_enc (v777 v778 : Int) (v779 : List Nat) (y : Bool) : Rs := (.bool y, [])
theorem impl_IsSymmetric_den (v777 v778 : Int) (v779 : List Nat) : (den TT (tabD impl_IsSymmetric_tab) (tabM impl_IsSymmetric_tab) (impl_IsSymmetric_LO v777 v778 v779) (codeOf Try.f17) ([.agg [.int .i64 v777, .int .i64 v778, .bslc (BR.root 0) (.f32 v779)]] ++ List.replicate (Try.f17.ntmps - ([.agg [.int .i64 v777, .int .i64 v778, .bslc (BR.root 0) (.f32 v779)]] : List DV).length) .undef) []).bind (retD TT Try.f17.results.toList 0) = (impl_IsSymmetric_T v777 v778 v779).bind fun y => .leaf (impl_IsSymmetric_enc v777 v778 v779 y) := by kernel_rfl
theorem impl_IsSymmetric_fn (v777 v778 : Int) (v779 : List Nat) (F : Fr) (h0 : St F [] F.H0) (hA : DVs.Ok F [] [.agg [.int .i64 v777, .int .i64 v778, .bslc (BR.root 0) (.f32 v779)]]) {y : Bool} (hy : impl_IsSymmetric_g v777 v778 v779 = some y) : ∃ F' H', Fwd 0 F F' [] (impl_IsSymmetric_enc v777 v778 v779 y).2 ∧ FnOk Try.prog 17 (DVs.av F [.agg [.int .i64 v777, .int .i64 v778, .bslc (BR.root 0) (.f32 v779)]]) F.H0 ((impl_IsSymmetric_enc v777 v778 v779 y).1.av F') H' ∧ St F' (impl_IsSymmetric_enc v777 v778 v779 y).2 H' ∧ (impl_IsSymmetric_enc v777 v778 v779 y).1.Ok F' (impl_IsSymmetric_enc v777 v778 v779 y).2 :=
  fn_fin tok impl_IsSymmetric_hO mixed Try.func17 Try.call17 (by kernel_rfl) (LoopsOk_eq (l := [(0, bodyOf Try.f17 0)]) (by kernel_rfl) ⟨impl_IsSymmetric_l0_ok v777 v778 v779, trivial⟩) (impl_IsSymmetric_den v777 v778 v779) hy h0 hA
noncomputable def impl_IsSymmetric_F : DFn := fun args L =>
  match args with
  | [.agg [.int .i64 v777, .int .i64 v778, a1]] =>
    optT (rowF32 L a1) fun v779 =>
    .call (impl_IsSymmetric_g v777 v778 v779) fun y => .leaf (.bool y, L)
  | _ => .fail
theorem impl_IsSymmetric_Fok : COk Try.prog 17 impl_IsSymmetric_F true := by
  intro F L H args r L' hs ha hr
  unfold impl_IsSymmetric_F at hr
  split at hr
  · rename_i v777 v778 a1
    obtain ⟨v779, hv779, hr⟩ := optT_run hr
    simp only [Tree.run] at hr
    obtain ⟨y, hy, hr⟩ := Option.bind_eq_some_iff.1 hr
    simp only [Tree.run, Option.some.injEq, Prod.mk.injEq] at hr
    obtain ⟨rfl, rfl⟩ := hr
    exact call_ok0 hs (fun k => (([a1.av F] : List AV)[k]?).getD .top) [.agg [.int .i64 v777, .int .i64 v778, a1]] [.agg [.int .i64 v777, .int .i64 v778, .bslc (BR.root 0) (.f32 v779)]] (fun F' h0 hi hρ => ⟨by simp [DVs.av, DV.av, BR.av, hρ], impl_IsSymmetric_fn v777 v778 v779 F' (st_nil hi) ⟨⟨trivial, trivial, bslc_ok hi (by rw [h0, hρ]; exact rowF32_ok hs (DVs.okAt (DVs.okAt ha 0 rfl) 2 rfl) hv779), trivial⟩, trivial⟩ hy⟩) rfl
  · cases hr
end Go.Proofs.Ytbnakafnaeafiaa.AM
