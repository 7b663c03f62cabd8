/- Functions: what they come to. -/
import Derived.Test.YthdmkdkbfhoahaaBase
set_option maxRecDepth 100000
set_option maxHeartbeats 4000000
set_option linter.unusedSimpArgs false
set_option linter.unusedVariables false
namespace Go.Proofs.Ythdmkdkbfhoahaa.AM
open Go.Proofs
/-! laws.b10Long -/
noncomputable def laws_b10Long_LO (v3 : List Int) (v4 : List Int) : LOr := fun id e L =>
  match id with
  | _ => .fail
noncomputable def laws_b10Long_tab : List (FuncId × DFn × Bool) := []
theorem laws_b10Long_hO : OrcOk Try.prog (tabD laws_b10Long_tab) (tabM laws_b10Long_tab) := tabD_nil _
noncomputable def laws_b10Long_T (v3 : List Int) (v4 : List Int) : Tree (Bool) :=
  (.br (decide ((1048576 : Int) < ((v3.length : Nat) : Int))) (
  .leaf true
  ) (
  .leaf (decide ((1048576 : Int) < ((v4.length : Nat) : Int)))
  ))

noncomputable def laws_b10Long_g (v3 : List Int) (v4 : List Int) : Option (Bool) := (laws_b10Long_T v3 v4).run
def laws_b10Long_enc (v3 : List Int) (v4 : List Int) (y : Bool) : Rs := (.bool y, [])
theorem laws_b10Long_den (v3 : List Int) (v4 : List Int) : (den TT (tabD laws_b10Long_tab) (tabM laws_b10Long_tab) (laws_b10Long_LO v3 v4) (codeOf Try.f29) ([.bslc (BR.root 0) (.u8 v3), .bslc (BR.root 1) (.u8 v4)] ++ List.replicate (Try.f29.ntmps - ([.bslc (BR.root 0) (.u8 v3), .bslc (BR.root 1) (.u8 v4)] : List DV).length) .undef) []).bind (retD TT Try.f29.results.toList 0) = (laws_b10Long_T v3 v4).bind fun y => .leaf (laws_b10Long_enc v3 v4 y) := by kernel_rfl
theorem laws_b10Long_fn (v3 : List Int) (v4 : List Int) (F : Fr) (h0 : St F [] F.H0) (hA : DVs.Ok F [] [.bslc (BR.root 0) (.u8 v3), .bslc (BR.root 1) (.u8 v4)]) {y : Bool} (hy : laws_b10Long_g v3 v4 = some y) : ∃ F' H', Fwd 0 F F' [] (laws_b10Long_enc v3 v4 y).2 ∧ FnOk Try.prog 29 (DVs.av F [.bslc (BR.root 0) (.u8 v3), .bslc (BR.root 1) (.u8 v4)]) F.H0 ((laws_b10Long_enc v3 v4 y).1.av F') H' ∧ St F' (laws_b10Long_enc v3 v4 y).2 H' ∧ (laws_b10Long_enc v3 v4 y).1.Ok F' (laws_b10Long_enc v3 v4 y).2 :=
  fn_fin tok laws_b10Long_hO mixed Try.func29 Try.call29 (by kernel_rfl) (LoopsOk_eq (l := []) (by kernel_rfl) trivial) (laws_b10Long_den v3 v4) hy h0 hA
def laws_b10Long_v (v3 : List Int) (v4 : List Int) : Bool :=
  if (decide ((1048576 : Int) < ((v3.length : Nat) : Int))) = true then (
  true
  ) else (
  decide ((1048576 : Int) < ((v4.length : Nat) : Int))
  )
theorem laws_b10Long_tot (v3 : List Int) (v4 : List Int) : laws_b10Long_g v3 v4 = some (laws_b10Long_v v3 v4) := by
  unfold laws_b10Long_g laws_b10Long_T laws_b10Long_v
  simp only [Tree.run]
  repeat' (first | rfl | split)
noncomputable def laws_b10Long_F : DFn := fun args L =>
  match args with
  | [a1, a2] =>
    optT (rowU8 L a1) fun v3 =>
    optT (rowU8 L a2) fun v4 =>
    .leaf (.bool (laws_b10Long_v v3 v4), L)
  | _ => .fail
theorem laws_b10Long_Fok : COk Try.prog 29 laws_b10Long_F true := by
  intro F L H args r L' hs ha hr
  unfold laws_b10Long_F at hr
  split at hr
  · rename_i a1 a2
    obtain ⟨v3, hv3, hr⟩ := optT_run hr
    obtain ⟨v4, hv4, hr⟩ := optT_run hr
    have hy := laws_b10Long_tot v3 v4
    generalize laws_b10Long_v v3 v4 = y at hy hr
    simp only [Tree.run, Option.some.injEq, Prod.mk.injEq] at hr
    obtain ⟨rfl, rfl⟩ := hr
    exact call_ok0 hs (fun k => (([a1.av F, a2.av F] : List AV)[k]?).getD .top) [a1, a2] [.bslc (BR.root 0) (.u8 v3), .bslc (BR.root 1) (.u8 v4)] (fun F' h0 hi hρ => ⟨by simp [DVs.av, DV.av, BR.av, hρ], laws_b10Long_fn v3 v4 F' (st_nil hi) ⟨bslc_ok hi (by rw [h0, hρ]; exact rowU8_ok hs (DVs.okAt ha 0 rfl) hv3), bslc_ok hi (by rw [h0, hρ]; exact rowU8_ok hs (DVs.okAt ha 1 rfl) hv4), trivial⟩ hy⟩) rfl
  · cases hr
/-! spec.l00From -/
noncomputable def spec_l00From_LO (v6 : List Int) : LOr := fun id e L =>
  match id with
  | _ => .fail
noncomputable def spec_l00From_tab : List (FuncId × DFn × Bool) := []
theorem spec_l00From_hO : OrcOk Try.prog (tabD spec_l00From_tab) (tabM spec_l00From_tab) := tabD_nil _
noncomputable def spec_l00From_T : Tree (Unit) :=
  .leaf ()

noncomputable def spec_l00From_g : Option (Unit) := (spec_l00From_T).run
def spec_l00From_enc (v6 : List Int) (y : Unit) : Rs := (.ptr 0 (0 : Nat) 0 (3 : Nat), [.gen [.bslc (BR.root 0) (.u8 v6), .int .i64 (0 : Int), .int .u64 (0 : Int)] false 0])
theorem spec_l00From_den (v6 : List Int) : (den TT (tabD spec_l00From_tab) (tabM spec_l00From_tab) (spec_l00From_LO v6) (codeOf Try.f53) ([.bslc (BR.root 0) (.u8 v6)] ++ List.replicate (Try.f53.ntmps - ([.bslc (BR.root 0) (.u8 v6)] : List DV).length) .undef) []).bind (retD TT Try.f53.results.toList 0) = (spec_l00From_T).bind fun y => .leaf (spec_l00From_enc v6 y) := by kernel_rfl
theorem spec_l00From_fn (v6 : List Int) (F : Fr) (h0 : St F [] F.H0) (hA : DVs.Ok F [] [.bslc (BR.root 0) (.u8 v6)]) {y : Unit} (hy : spec_l00From_g = some y) : ∃ F' H', Fwd 0 F F' [] (spec_l00From_enc v6 y).2 ∧ FnOk Try.prog 53 (DVs.av F [.bslc (BR.root 0) (.u8 v6)]) F.H0 ((spec_l00From_enc v6 y).1.av F') H' ∧ St F' (spec_l00From_enc v6 y).2 H' ∧ (spec_l00From_enc v6 y).1.Ok F' (spec_l00From_enc v6 y).2 :=
  fn_fin tok spec_l00From_hO mixed Try.func53 Try.call53 (by kernel_rfl) (LoopsOk_eq (l := []) (by kernel_rfl) trivial) (spec_l00From_den v6) hy h0 hA
def spec_l00From_v : Unit :=
  ()
theorem spec_l00From_tot : spec_l00From_g = some (spec_l00From_v) := by
  unfold spec_l00From_g spec_l00From_T spec_l00From_v
  simp only [Tree.run]
  repeat' (first | rfl | split)
noncomputable def spec_l00From_F : DFn := fun args L =>
  match args with
  | [a1] =>
    optT (rowU8 L a1) fun v6 =>
    .leaf (.ptr (L.length + 0) (0 : Nat) 0 (3 : Nat), L ++ [.gen [a1, .int .i64 (0 : Int), .int .u64 (0 : Int)] false 0])
  | _ => .fail
theorem spec_l00From_Fok : COk Try.prog 53 spec_l00From_F true := by
  intro F L H args r L' hs ha hr
  unfold spec_l00From_F at hr
  split at hr
  · rename_i a1
    obtain ⟨v6, hv6, hr⟩ := optT_run hr
    have hy := spec_l00From_tot
    generalize spec_l00From_v = y at hy hr
    simp only [Tree.run, Option.some.injEq, Prod.mk.injEq] at hr
    obtain ⟨rfl, rfl⟩ := hr
    exact callG0 hs (fun _ => .top) [a1] ⟨(DVs.okAt ha 0 rfl), trivial⟩ [a1] [.bslc (BR.root 0) (.u8 v6)] [.gen [.bslc (BR.root 0) (.u8 v6), .int .i64 (0 : Int), .int .u64 (0 : Int)] false 0] _ (fun F' h0 hi hρ => ⟨by simp [DVs.av, DV.av, BR.av, hρ], spec_l00From_fn v6 F' (st_nil hi) ⟨bslc_ok hi (by rw [h0, hρ]; exact rowU8_ok hs (DVs.okAt ha 0 rfl) hv6), trivial⟩ hy⟩) rfl rfl
  · cases hr
/-! (*spec.l00Src).next -/
noncomputable def spec_l00Src_next_LO (v14 : List Int) (v15 : Int) (v16 : Int) : LOr := fun id e L =>
  match id with
  | _ => .fail
noncomputable def spec_l00Src_next_tab : List (FuncId × DFn × Bool) := []
theorem spec_l00Src_next_hO : OrcOk Try.prog (tabD spec_l00Src_next_tab) (tabM spec_l00Src_next_tab) := tabD_nil _
noncomputable def spec_l00Src_next_T (v14 : List Int) (v15 : Int) (v16 : Int) : Tree (Int × Int × Int) :=
  (.br (decide (v15 < ((v14.length : Nat) : Int))) (
  (.grd (inb v15 v14.length) <|
  (.br (decide (IntKind.i64.wrap (v15 + (1 : Int)) ≤ ((v14.length : Nat) : Int))) (
  .leaf (IntKind.i64.wrap (nth v14 (Int.toNat v15)), IntKind.i64.wrap (v15 + (1 : Int)), IntKind.u64.wrap ((IntKind.u64.wrap ((IntKind.u64.wrap (v16 * (6364136223846793005 : Int))) + (IntKind.u64.wrap (IntKind.i64.wrap (nth v14 (Int.toNat v15)))))) + (1442695040888963407 : Int)))
  ) (
  (.grd (decide (0 ≤ (40 : Int))) <|
  .leaf (IntKind.i64.wrap (iand .u64 (ishr .u64 (IntKind.u64.wrap ((IntKind.u64.wrap ((IntKind.u64.wrap (v16 * (6364136223846793005 : Int))) + (IntKind.u64.wrap (IntKind.i64.wrap (nth v14 (Int.toNat v15)))))) + (1442695040888963407 : Int))) (40 : Int)) (255 : Int)), IntKind.i64.wrap (v15 + (1 : Int)), IntKind.u64.wrap ((IntKind.u64.wrap ((IntKind.u64.wrap (v16 * (6364136223846793005 : Int))) + (IntKind.u64.wrap (IntKind.i64.wrap (nth v14 (Int.toNat v15)))))) + (1442695040888963407 : Int))))
  )))
  ) (
  (.br (decide (IntKind.i64.wrap (v15 + (1 : Int)) ≤ ((v14.length : Nat) : Int))) (
  .leaf ((0 : Int), IntKind.i64.wrap (v15 + (1 : Int)), IntKind.u64.wrap ((IntKind.u64.wrap ((IntKind.u64.wrap (v16 * (6364136223846793005 : Int))) + (IntKind.u64.wrap ((0 : Int))))) + (1442695040888963407 : Int)))
  ) (
  (.grd (decide (0 ≤ (40 : Int))) <|
  .leaf (IntKind.i64.wrap (iand .u64 (ishr .u64 (IntKind.u64.wrap ((IntKind.u64.wrap ((IntKind.u64.wrap (v16 * (6364136223846793005 : Int))) + (IntKind.u64.wrap ((0 : Int))))) + (1442695040888963407 : Int))) (40 : Int)) (255 : Int)), IntKind.i64.wrap (v15 + (1 : Int)), IntKind.u64.wrap ((IntKind.u64.wrap ((IntKind.u64.wrap (v16 * (6364136223846793005 : Int))) + (IntKind.u64.wrap ((0 : Int))))) + (1442695040888963407 : Int))))
  ))
  ))

noncomputable def spec_l00Src_next_g (v14 : List Int) (v15 : Int) (v16 : Int) : Option (Int × Int × Int) := (spec_l00Src_next_T v14 v15 v16).run
def spec_l00Src_next_enc (v14 : List Int) (v15 : Int) (v16 : Int) (y : Int × Int × Int) : Rs := (.int .i64 y.1, [.gen [.bslc (BR.root 1) (.u8 v14), .int .i64 y.2.1, .int .u64 y.2.2] false 0])
theorem spec_l00Src_next_den (v14 : List Int) (v15 : Int) (v16 : Int) : (den TT (tabD spec_l00Src_next_tab) (tabM spec_l00Src_next_tab) (spec_l00Src_next_LO v14 v15 v16) (codeOf Try.f76) ([.ptr 0 (0 : Nat) 0 (3 : Nat)] ++ List.replicate (Try.f76.ntmps - ([.ptr 0 (0 : Nat) 0 (3 : Nat)] : List DV).length) .undef) [.gen [.bslc (BR.root 1) (.u8 v14), .int .i64 v15, .int .u64 v16] false 0]).bind (retD TT Try.f76.results.toList 1) = (spec_l00Src_next_T v14 v15 v16).bind fun y => .leaf (spec_l00Src_next_enc v14 v15 v16 y) := by kernel_rfl
theorem spec_l00Src_next_fn (v14 : List Int) (v15 : Int) (v16 : Int) (F : Fr) (h0 : St F [.gen [.bslc (BR.root 1) (.u8 v14), .int .i64 v15, .int .u64 v16] false 0] F.H0) (hA : DVs.Ok F [.gen [.bslc (BR.root 1) (.u8 v14), .int .i64 v15, .int .u64 v16] false 0] [.ptr 0 (0 : Nat) 0 (3 : Nat)]) {y : Int × Int × Int} (hy : spec_l00Src_next_g v14 v15 v16 = some y) : ∃ F' H', Fwd 1 F F' [.gen [.bslc (BR.root 1) (.u8 v14), .int .i64 v15, .int .u64 v16] false 0] (spec_l00Src_next_enc v14 v15 v16 y).2 ∧ FnOk Try.prog 76 (DVs.av F [.ptr 0 (0 : Nat) 0 (3 : Nat)]) F.H0 ((spec_l00Src_next_enc v14 v15 v16 y).1.av F') H' ∧ St F' (spec_l00Src_next_enc v14 v15 v16 y).2 H' ∧ (spec_l00Src_next_enc v14 v15 v16 y).1.Ok F' (spec_l00Src_next_enc v14 v15 v16 y).2 :=
  fn_fin tok spec_l00Src_next_hO mixed Try.func76 Try.call76 (by kernel_rfl) (LoopsOk_eq (l := []) (by kernel_rfl) trivial) (spec_l00Src_next_den v14 v15 v16) hy h0 hA
noncomputable def spec_l00Src_next_F : DFn := fun args L =>
  match args with
  | [a1] =>
    optT (genOf L 3 false a1) fun qg0 =>
    (match qg0.2 with
    | [a2, .int .i64 v15, .int .u64 v16] =>
    optT (rowU8 L a2) fun v14 =>
    (match sepB [qg0.1] [a2] with
    | true =>
    .call (spec_l00Src_next_g v14 v15 v16) fun y => .leaf (.int .i64 y.1, setB L [(qg0.1, .gen [a2, .int .i64 y.2.1, .int .u64 y.2.2] false (verAt L qg0.1))] ++ [])
    | false => .fail)
    | _ => .fail)
  | _ => .fail
theorem spec_l00Src_next_Fok : COk Try.prog 76 spec_l00Src_next_F false := by
  intro F L H args r L' hs ha hr
  unfold spec_l00Src_next_F at hr
  split at hr
  · rename_i a1
    obtain ⟨⟨jg0, cg0⟩, hg0, hr⟩ := optT_run hr
    simp only at hr
    split at hr
    · rename_i a2 v15 v16
      obtain ⟨hge0, hgu0, hga0, hgn0, hgc0, hgf0⟩ := genOf_spec hs (DVs.okAt ha 0 rfl) hg0
      obtain ⟨v14, hv14, hr⟩ := optT_run hr
      split at hr
      · rename_i hsep
        obtain ⟨hnd, hsepv⟩ := sepB_spec hsep
        simp only [Tree.run] at hr
        obtain ⟨y, hy, hr⟩ := Option.bind_eq_some_iff.1 hr
        try simp only [Tree.run] at hr
        simp only [Option.some.injEq, Prod.mk.injEq] at hr
        obtain ⟨rfl, rfl⟩ := hr
        exact mutG_ok hs [a1, a2] ⟨(DVs.okAt ha 0 rfl), (DVs.okAt hgc0 0 rfl), trivial⟩ [a1] [.ptr 0 (0 : Nat) 0 (3 : Nat)] [jg0] [verAt L jg0] [.gen [.bslc (BR.root 1) (.u8 v14), .int .i64 v15, .int .u64 v16] false 0] [.gen [.bslc (BR.root 1) (.u8 v14), .int .i64 y.2.1, .int .u64 y.2.2] false 0] [.gen [a2, .int .i64 y.2.1, .int .u64 y.2.2] false (verAt L jg0)] [] hnd rfl rfl (fun j hj => by
            simp at hj
            subst hj; exact ex_gen hge0) (fun j hj => by
            simp at hj
            subst hj; exact reach_refs (by simp [DVs.refs, DV.refs, hgu0])) (fun F' h0 hρ ab hpl hS => by
            have ab0 := ab 0 _ rfl;
            refine ⟨fun i j b' h1 h2 => ?_, by simp [DBlk.blk, DVs.av, DV.av, BR.av, hρ, Row.len, hga0, ab0], fun hst => spec_l00Src_next_fn v14 v15 v16 F' hst ⟨⟨_, rfl, Nat.le_refl _, by decide, Nat.le_refl _, fun _ => rfl⟩, trivial⟩ hy⟩
            rcases i with _ | i
            · simp at h1 h2; subst h1; subst h2; obtain ⟨ver_, hv_⟩ := hge0; exact ⟨_, hv_, .gen _ _ _ _ _ _, by simp [DBlk.blk, DVs.av, DV.av, BR.av, hρ, Row.len, hga0, ab0], ⟨⟨bslcM hS (by rw [hρ]; rfl) (hsepv a2 (by simp)) (DVs.okAt hgc0 0 rfl) (rowU8_or hv14), trivial, trivial, trivial⟩, fun hf => by cases hf⟩⟩
            · simp at h1) rfl rfl (fun i j b b' h1 h2 h3 => by
            rcases i with _ | i
            · simp at h1; subst h1; cases h3; exact growG hge0 rfl h2
            · simp at h1)
      · cases hr
    · cases hr
  · cases hr
/-! (*spec.l00Src).pick -/
noncomputable def spec_l00Src_pick_LO (v17 : List Int) (v18 : Int) (v19 : Int) (v20 : Int) : LOr := fun id e L =>
  match id with
  | _ => .fail
noncomputable def spec_l00Src_pick_tab : List (FuncId × DFn × Bool) := [(76, spec_l00Src_next_F, false)]
theorem spec_l00Src_pick_hO : OrcOk Try.prog (tabD spec_l00Src_pick_tab) (tabM spec_l00Src_pick_tab) := tabD_cons spec_l00Src_next_Fok (tabD_nil _)
noncomputable def spec_l00Src_pick_T (v17 : List Int) (v18 : Int) (v19 : Int) (v20 : Int) : Tree (Int × Int × Int) :=
  (.br (decide (v20 ≤ (1 : Int))) (
  .leaf ((0 : Int), v18, v19)
  ) (
  (.call (spec_l00Src_next_g v17 v18 v19) fun v21 =>
  (.br (decide ((200 : Int) < v20)) (
  (.call (spec_l00Src_next_g v17 v21.2.1 v21.2.2) fun v22 =>
  (.grd (!decide (v20 = 0)) <|
  .leaf (Int.tmod (IntKind.i64.wrap ((IntKind.i64.wrap (v21.1 * (256 : Int))) + v22.1)) v20, v22.2.1, v22.2.2)))
  ) (
  (.grd (!decide (v20 = 0)) <|
  .leaf (Int.tmod v21.1 v20, v21.2.1, v21.2.2))
  )))
  ))

noncomputable def spec_l00Src_pick_g (v17 : List Int) (v18 : Int) (v19 : Int) (v20 : Int) : Option (Int × Int × Int) := (spec_l00Src_pick_T v17 v18 v19 v20).run
def spec_l00Src_pick_enc (v17 : List Int) (v18 : Int) (v19 : Int) (v20 : Int) (y : Int × Int × Int) : Rs := (.int .i64 y.1, [.gen [.bslc (BR.root 1) (.u8 v17), .int .i64 y.2.1, .int .u64 y.2.2] false 0])
theorem spec_l00Src_pick_den (v17 : List Int) (v18 : Int) (v19 : Int) (v20 : Int) : (den TT (tabD spec_l00Src_pick_tab) (tabM spec_l00Src_pick_tab) (spec_l00Src_pick_LO v17 v18 v19 v20) (codeOf Try.f54) ([.ptr 0 (0 : Nat) 0 (3 : Nat), .int .i64 v20] ++ List.replicate (Try.f54.ntmps - ([.ptr 0 (0 : Nat) 0 (3 : Nat), .int .i64 v20] : List DV).length) .undef) [.gen [.bslc (BR.root 1) (.u8 v17), .int .i64 v18, .int .u64 v19] false 0]).bind (retD TT Try.f54.results.toList 1) = (spec_l00Src_pick_T v17 v18 v19 v20).bind fun y => .leaf (spec_l00Src_pick_enc v17 v18 v19 v20 y) := by kernel_rfl
theorem spec_l00Src_pick_fn (v17 : List Int) (v18 : Int) (v19 : Int) (v20 : Int) (F : Fr) (h0 : St F [.gen [.bslc (BR.root 1) (.u8 v17), .int .i64 v18, .int .u64 v19] false 0] F.H0) (hA : DVs.Ok F [.gen [.bslc (BR.root 1) (.u8 v17), .int .i64 v18, .int .u64 v19] false 0] [.ptr 0 (0 : Nat) 0 (3 : Nat), .int .i64 v20]) {y : Int × Int × Int} (hy : spec_l00Src_pick_g v17 v18 v19 v20 = some y) : ∃ F' H', Fwd 1 F F' [.gen [.bslc (BR.root 1) (.u8 v17), .int .i64 v18, .int .u64 v19] false 0] (spec_l00Src_pick_enc v17 v18 v19 v20 y).2 ∧ FnOk Try.prog 54 (DVs.av F [.ptr 0 (0 : Nat) 0 (3 : Nat), .int .i64 v20]) F.H0 ((spec_l00Src_pick_enc v17 v18 v19 v20 y).1.av F') H' ∧ St F' (spec_l00Src_pick_enc v17 v18 v19 v20 y).2 H' ∧ (spec_l00Src_pick_enc v17 v18 v19 v20 y).1.Ok F' (spec_l00Src_pick_enc v17 v18 v19 v20 y).2 :=
  fn_fin tok spec_l00Src_pick_hO mixed Try.func54 Try.call54 (by kernel_rfl) (LoopsOk_eq (l := []) (by kernel_rfl) trivial) (spec_l00Src_pick_den v17 v18 v19 v20) hy h0 hA
noncomputable def spec_l00Src_pick_F : DFn := fun args L =>
  match args with
  | [a1, .int .i64 v20] =>
    optT (genOf L 3 false a1) fun qg0 =>
    (match qg0.2 with
    | [a2, .int .i64 v18, .int .u64 v19] =>
    optT (rowU8 L a2) fun v17 =>
    (match sepB [qg0.1] [a2] with
    | true =>
    .call (spec_l00Src_pick_g v17 v18 v19 v20) fun y => .leaf (.int .i64 y.1, setB L [(qg0.1, .gen [a2, .int .i64 y.2.1, .int .u64 y.2.2] false (verAt L qg0.1))] ++ [])
    | false => .fail)
    | _ => .fail)
  | _ => .fail
theorem spec_l00Src_pick_Fok : COk Try.prog 54 spec_l00Src_pick_F false := by
  intro F L H args r L' hs ha hr
  unfold spec_l00Src_pick_F at hr
  split at hr
  · rename_i a1 v20
    obtain ⟨⟨jg0, cg0⟩, hg0, hr⟩ := optT_run hr
    simp only at hr
    split at hr
    · rename_i a2 v18 v19
      obtain ⟨hge0, hgu0, hga0, hgn0, hgc0, hgf0⟩ := genOf_spec hs (DVs.okAt ha 0 rfl) hg0
      obtain ⟨v17, hv17, hr⟩ := optT_run hr
      split at hr
      · rename_i hsep
        obtain ⟨hnd, hsepv⟩ := sepB_spec hsep
        simp only [Tree.run] at hr
        obtain ⟨y, hy, hr⟩ := Option.bind_eq_some_iff.1 hr
        try simp only [Tree.run] at hr
        simp only [Option.some.injEq, Prod.mk.injEq] at hr
        obtain ⟨rfl, rfl⟩ := hr
        exact mutG_ok hs [a1, a2] ⟨(DVs.okAt ha 0 rfl), (DVs.okAt hgc0 0 rfl), trivial⟩ [a1, .int .i64 v20] [.ptr 0 (0 : Nat) 0 (3 : Nat), .int .i64 v20] [jg0] [verAt L jg0] [.gen [.bslc (BR.root 1) (.u8 v17), .int .i64 v18, .int .u64 v19] false 0] [.gen [.bslc (BR.root 1) (.u8 v17), .int .i64 y.2.1, .int .u64 y.2.2] false 0] [.gen [a2, .int .i64 y.2.1, .int .u64 y.2.2] false (verAt L jg0)] [] hnd rfl rfl (fun j hj => by
            simp at hj
            subst hj; exact ex_gen hge0) (fun j hj => by
            simp at hj
            subst hj; exact reach_refs (by simp [DVs.refs, DV.refs, hgu0])) (fun F' h0 hρ ab hpl hS => by
            have ab0 := ab 0 _ rfl;
            refine ⟨fun i j b' h1 h2 => ?_, by simp [DBlk.blk, DVs.av, DV.av, BR.av, hρ, Row.len, hga0, ab0], fun hst => spec_l00Src_pick_fn v17 v18 v19 v20 F' hst ⟨⟨_, rfl, Nat.le_refl _, by decide, Nat.le_refl _, fun _ => rfl⟩, trivial, trivial⟩ hy⟩
            rcases i with _ | i
            · simp at h1 h2; subst h1; subst h2; obtain ⟨ver_, hv_⟩ := hge0; exact ⟨_, hv_, .gen _ _ _ _ _ _, by simp [DBlk.blk, DVs.av, DV.av, BR.av, hρ, Row.len, hga0, ab0], ⟨⟨bslcM hS (by rw [hρ]; rfl) (hsepv a2 (by simp)) (DVs.okAt hgc0 0 rfl) (rowU8_or hv17), trivial, trivial, trivial⟩, fun hf => by cases hf⟩⟩
            · simp at h1) rfl rfl (fun i j b b' h1 h2 h3 => by
            rcases i with _ | i
            · simp at h1; subst h1; cases h3; exact growG hge0 rfl h2
            · simp at h1)
      · cases hr
    · cases hr
  · cases hr
/-! (*spec.l00Src).text -/
noncomputable def spec_l00Src_text_nst_LO (v31 : List Int) (v32 : Int) (v33 : Int) (v34 : List ByteArray) : LOr := fun id e L =>
  match id with
  | _ => .fail
noncomputable def spec_l00Src_text_nst_tab : List (FuncId × DFn × Bool) := [(54, spec_l00Src_pick_F, false)]
theorem spec_l00Src_text_nst_hO : OrcOk Try.prog (tabD spec_l00Src_text_nst_tab) (tabM spec_l00Src_text_nst_tab) := tabD_cons spec_l00Src_pick_Fok (tabD_nil _)
noncomputable def spec_l00Src_text_nst_T (v31 : List Int) (v32 : Int) (v33 : Int) (v34 : List ByteArray) : Tree (ByteArray × Int × Int) :=
  (.call (spec_l00Src_pick_g v31 v32 v33 (((v34).length : Nat) : Int)) fun v35 =>
  (.grd (inb v35.1 ((v34).length)) <|
  .leaf (nth v34 (Int.toNat v35.1), v35.2.1, v35.2.2)))

noncomputable def spec_l00Src_text_nst_g (v31 : List Int) (v32 : Int) (v33 : Int) (v34 : List ByteArray) : Option (ByteArray × Int × Int) := (spec_l00Src_text_nst_T v31 v32 v33 v34).run
def spec_l00Src_text_nst_enc (v31 : List Int) (v32 : Int) (v33 : Int) (v34 : List ByteArray) (y : ByteArray × Int × Int) : Rs := (.str y.1, [.gen [.bslc (BR.root 1) (.u8 v31), .int .i64 y.2.1, .int .u64 y.2.2] false 0, .nest [.pl (.str v34)] false 0])
theorem spec_l00Src_text_nst_den (v31 : List Int) (v32 : Int) (v33 : Int) (v34 : List ByteArray) : (den TT (tabD spec_l00Src_text_nst_tab) (tabM spec_l00Src_text_nst_tab) (spec_l00Src_text_nst_LO v31 v32 v33 v34) (codeOf Try.f55) ([.ptr 0 (0 : Nat) 0 (3 : Nat), .nest 1 0 1 ((v34).length)] ++ List.replicate (Try.f55.ntmps - ([.ptr 0 (0 : Nat) 0 (3 : Nat), .nest 1 0 1 ((v34).length)] : List DV).length) .undef) [.gen [.bslc (BR.root 1) (.u8 v31), .int .i64 v32, .int .u64 v33] false 0, .nest [.pl (.str v34)] false 0]).bind (retD TT Try.f55.results.toList 2) = (spec_l00Src_text_nst_T v31 v32 v33 v34).bind fun y => .leaf (spec_l00Src_text_nst_enc v31 v32 v33 v34 y) := by kernel_rfl
theorem spec_l00Src_text_nst_fn (v31 : List Int) (v32 : Int) (v33 : Int) (v34 : List ByteArray) (F : Fr) (h0 : St F [.gen [.bslc (BR.root 1) (.u8 v31), .int .i64 v32, .int .u64 v33] false 0, .nest [.pl (.str v34)] false 0] F.H0) (hA : DVs.Ok F [.gen [.bslc (BR.root 1) (.u8 v31), .int .i64 v32, .int .u64 v33] false 0, .nest [.pl (.str v34)] false 0] [.ptr 0 (0 : Nat) 0 (3 : Nat), .nest 1 0 1 ((v34).length)]) {y : ByteArray × Int × Int} (hy : spec_l00Src_text_nst_g v31 v32 v33 v34 = some y) : ∃ F' H', Fwd 2 F F' [.gen [.bslc (BR.root 1) (.u8 v31), .int .i64 v32, .int .u64 v33] false 0, .nest [.pl (.str v34)] false 0] (spec_l00Src_text_nst_enc v31 v32 v33 v34 y).2 ∧ FnOk Try.prog 55 (DVs.av F [.ptr 0 (0 : Nat) 0 (3 : Nat), .nest 1 0 1 ((v34).length)]) F.H0 ((spec_l00Src_text_nst_enc v31 v32 v33 v34 y).1.av F') H' ∧ St F' (spec_l00Src_text_nst_enc v31 v32 v33 v34 y).2 H' ∧ (spec_l00Src_text_nst_enc v31 v32 v33 v34 y).1.Ok F' (spec_l00Src_text_nst_enc v31 v32 v33 v34 y).2 :=
  fn_fin tok spec_l00Src_text_nst_hO mixed Try.func55 Try.call55 (by kernel_rfl) (LoopsOk_eq (l := []) (by kernel_rfl) trivial) (spec_l00Src_text_nst_den v31 v32 v33 v34) hy h0 hA
noncomputable def spec_l00Src_text_nst_F : DFn := fun args L =>
  match args with
  | [a1, a3] =>
    optT (genOf L 3 false a1) fun qg0 =>
    (match qg0.2 with
    | [a2, .int .i64 v32, .int .u64 v33] =>
    optT (rowU8 L a2) fun v31 =>
    optT (nestN L false 1 a3) fun qn2 =>
    (match qn2.2 with
    | [.pl (.str v34)] =>
    (match sepB [qg0.1, qn2.1] [a2] with
    | true =>
    .call (spec_l00Src_text_nst_g v31 v32 v33 v34) fun y => .grd (decide ((v34).length = (v34).length)) (.leaf (.str y.1, setB L [(qg0.1, .gen [a2, .int .i64 y.2.1, .int .u64 y.2.2] false (verAt L qg0.1)), (qn2.1, .nest [.pl (.str v34)] false (verAt L qn2.1))] ++ []))
    | false => .fail)
    | _ => .fail)
    | _ => .fail)
  | _ => .fail
theorem spec_l00Src_text_nst_Fok : COk Try.prog 55 spec_l00Src_text_nst_F false := by
  intro F L H args r L' hs ha hr
  unfold spec_l00Src_text_nst_F at hr
  split at hr
  · rename_i a1 a3
    obtain ⟨⟨jg0, cg0⟩, hg0, hr⟩ := optT_run hr
    simp only at hr
    split at hr
    · rename_i a2 v32 v33
      obtain ⟨hge0, hgu0, hga0, hgn0, hgc0, hgf0⟩ := genOf_spec hs (DVs.okAt ha 0 rfl) hg0
      obtain ⟨v31, hv31, hr⟩ := optT_run hr
      obtain ⟨⟨jn2, cn2⟩, hn2, hr⟩ := optT_run hr
      simp only at hr
      split at hr
      · rename_i v34
        obtain ⟨hne2, hnu2, hnl2, hnv2, hnm2, hno2⟩ := nestN_spec hs (DVs.okAt ha 1 rfl) hn2
        split at hr
        · rename_i hsep
          obtain ⟨hnd, hsepv⟩ := sepB_spec hsep
          simp only [Tree.run] at hr
          obtain ⟨y, hy, hr⟩ := Option.bind_eq_some_iff.1 hr
          try simp only [Tree.run] at hr
          obtain ⟨hl0, hr⟩ := ite_run hr
          simp only [Option.some.injEq, Prod.mk.injEq] at hr
          obtain ⟨rfl, rfl⟩ := hr
          exact mutG_ok hs [a1, a2, a3] ⟨(DVs.okAt ha 0 rfl), (DVs.okAt hgc0 0 rfl), (DVs.okAt ha 1 rfl), trivial⟩ [a1, a3] [.ptr 0 (0 : Nat) 0 (3 : Nat), .nest 1 0 1 ((v34).length)] [jg0, jn2] [verAt L jg0, verAt L jn2] [.gen [.bslc (BR.root 1) (.u8 v31), .int .i64 v32, .int .u64 v33] false 0, .nest [.pl (.str v34)] false 0] [.gen [.bslc (BR.root 1) (.u8 v31), .int .i64 y.2.1, .int .u64 y.2.2] false 0, .nest [.pl (.str v34)] false 0] [.gen [a2, .int .i64 y.2.1, .int .u64 y.2.2] false (verAt L jg0), .nest [.pl (.str v34)] false (verAt L jn2)] [] hnd rfl rfl (fun j hj => by
              simp at hj
              rcases hj with rfl | rfl
              · exact ex_gen hge0
              · exact ex_nest hne2) (fun j hj => by
              simp at hj
              rcases hj with rfl | rfl
              · exact reach_refs (by simp [DVs.refs, DV.refs, hgu0])
              · exact reach_refs (by simp [DVs.refs, DV.refs, hnu2])) (fun F' h0 hρ ab hpl hS => by
              have ab0 := ab 0 _ rfl; have ab1 := ab 1 _ rfl;
              have hnx2 : a3.av F = (.nest 1 0 1 ((v34).length) : DV).av F' := nestN_av (hpl 1 _ rfl) hnv2
              refine ⟨fun i j b' h1 h2 => ?_, by simp [DBlk.blk, DVs.av, DV.av, BR.av, hρ, Row.len, hnx2, hga0, ab0, ab1, ab1], fun hst => spec_l00Src_text_nst_fn v31 v32 v33 v34 F' hst ⟨⟨_, rfl, Nat.le_refl _, by decide, Nat.le_refl _, fun _ => rfl⟩, (nest_ok0 (i := 1) rfl rfl hnm2), trivial⟩ hy⟩
              rcases i with _ | _ | i
              · simp at h1 h2; subst h1; subst h2; obtain ⟨ver_, hv_⟩ := hge0; exact ⟨_, hv_, .gen _ _ _ _ _ _, by simp [DBlk.blk, DVs.av, DV.av, BR.av, hρ, Row.len, hnx2, hga0, ab0, ab1, ab1], ⟨⟨bslcM hS (by rw [hρ]; rfl) (hsepv a2 (by simp)) (DVs.okAt hgc0 0 rfl) (rowU8_or hv31), trivial, trivial, trivial⟩, fun hf => by cases hf⟩⟩
              · simp at h1 h2; subst h1; subst h2; obtain ⟨ver_, hv_⟩ := hne2; exact ⟨_, hv_, .nest _ _ _ _, nest_blk (hpl 1 _ rfl) _ _ _ _, hno2 _ _⟩
              · simp at h1) rfl rfl (fun i j b b' h1 h2 h3 => by
              rcases i with _ | _ | i
              · simp at h1; subst h1; cases h3; exact growG hge0 rfl h2
              · simp at h1; subst h1; cases h3; exact growN hne2 (by first | exact of_decide_eq_true hl0 | rfl) rfl h2
              · simp at h1)
        · cases hr
      · cases hr
    · cases hr
  · cases hr
/-! spec.l02Blank -/
noncomputable def spec_l02Blank_LO (v50 : Int) (v51 : Int) : LOr := fun id e L =>
  match id with
  | _ => .fail
noncomputable def spec_l02Blank_tab : List (FuncId × DFn × Bool) := []
theorem spec_l02Blank_hO : OrcOk Try.prog (tabD spec_l02Blank_tab) (tabM spec_l02Blank_tab) := tabD_nil _
noncomputable def spec_l02Blank_T (v50 : Int) (v51 : Int) : Tree (Int × Int) :=
  .leaf (v50, v51)

noncomputable def spec_l02Blank_g (v50 : Int) (v51 : Int) : Option (Int × Int) := (spec_l02Blank_T v50 v51).run
def spec_l02Blank_enc (v50 : Int) (v51 : Int) (y : Int × Int) : Rs := (.agg [.int .i64 y.1, .int .i64 y.2, .own 0 0 ((([] : List Nat)).length)], [.row (.f32 ([] : List Nat)) 0])
theorem spec_l02Blank_den (v50 : Int) (v51 : Int) : (den TT (tabD spec_l02Blank_tab) (tabM spec_l02Blank_tab) (spec_l02Blank_LO v50 v51) (codeOf Try.f69) ([.int .i64 v50, .int .i64 v51] ++ List.replicate (Try.f69.ntmps - ([.int .i64 v50, .int .i64 v51] : List DV).length) .undef) []).bind (retD TT Try.f69.results.toList 0) = (spec_l02Blank_T v50 v51).bind fun y => .leaf (spec_l02Blank_enc v50 v51 y) := by kernel_rfl
theorem spec_l02Blank_fn (v50 : Int) (v51 : Int) (F : Fr) (h0 : St F [] F.H0) (hA : DVs.Ok F [] [.int .i64 v50, .int .i64 v51]) {y : Int × Int} (hy : spec_l02Blank_g v50 v51 = some y) : ∃ F' H', Fwd 0 F F' [] (spec_l02Blank_enc v50 v51 y).2 ∧ FnOk Try.prog 69 (DVs.av F [.int .i64 v50, .int .i64 v51]) F.H0 ((spec_l02Blank_enc v50 v51 y).1.av F') H' ∧ St F' (spec_l02Blank_enc v50 v51 y).2 H' ∧ (spec_l02Blank_enc v50 v51 y).1.Ok F' (spec_l02Blank_enc v50 v51 y).2 :=
  fn_fin tok spec_l02Blank_hO mixed Try.func69 Try.call69 (by kernel_rfl) (LoopsOk_eq (l := []) (by kernel_rfl) trivial) (spec_l02Blank_den v50 v51) hy h0 hA
def spec_l02Blank_v (v50 : Int) (v51 : Int) : Int × Int :=
  (v50, v51)
theorem spec_l02Blank_tot (v50 : Int) (v51 : Int) : spec_l02Blank_g v50 v51 = some (spec_l02Blank_v v50 v51) := by
  unfold spec_l02Blank_g spec_l02Blank_T spec_l02Blank_v
  simp only [Tree.run]
  repeat' (first | rfl | split)
noncomputable def spec_l02Blank_F : DFn := fun args L =>
  match args with
  | [.int .i64 v50, .int .i64 v51] =>
    .leaf (.agg [.int .i64 ((spec_l02Blank_v v50 v51).1), .int .i64 ((spec_l02Blank_v v50 v51).2), .own (L.length + 0) 0 ((([] : List Nat)).length)], L ++ [.row (.f32 ([] : List Nat)) 0])
  | _ => .fail
theorem spec_l02Blank_Fok : COk Try.prog 69 spec_l02Blank_F true := by
  intro F L H args r L' hs ha hr
  unfold spec_l02Blank_F at hr
  split at hr
  · rename_i v50 v51
    have hy := spec_l02Blank_tot v50 v51
    generalize spec_l02Blank_v v50 v51 = y at hy hr
    simp only [Tree.run, Option.some.injEq, Prod.mk.injEq] at hr
    obtain ⟨rfl, rfl⟩ := hr
    exact call_ok1 hs (fun k => (([] : List AV)[k]?).getD .top) [.int .i64 v50, .int .i64 v51] [.int .i64 v50, .int .i64 v51] (fun F' h0 hi hρ => ⟨by simp [DVs.av, DV.av, BR.av, hρ], spec_l02Blank_fn v50 v51 F' (st_nil hi) ⟨trivial, trivial, trivial⟩ hy⟩) rfl rfl
  · cases hr
/-! spec.l02DrawSides -/
noncomputable def spec_l02DrawSides_l0_T (v53 : List Int) (s : Int × Int × Int × (List Nat)) : Tree ((Int × Int × Int × (List Nat)) ⊕ (Int × Int × (List Nat))) :=
  (.br (decide ((0 : Int) < s.1)) (
  (.call (spec_l00Src_pick_g v53 s.2.1 s.2.2.1 (33 : Int)) fun v69 =>
  (.grd (fits (s.2.2.2 ++ ([fdiv .f32 (fofint .f32 (IntKind.i64.wrap (v69.1 - (16 : Int)))) (1082130432 : Nat)] : List Nat)).length) <|
  .leaf (.inl (IntKind.i64.wrap (s.1 - (1 : Int)), v69.2.1, v69.2.2, s.2.2.2 ++ ([fdiv .f32 (fofint .f32 (IntKind.i64.wrap (v69.1 - (16 : Int)))) (1082130432 : Nat)] : List Nat)))))
  ) (
  .leaf (.inr (s.2.1, s.2.2.1, s.2.2.2))
  ))

noncomputable def spec_l02DrawSides_l0_g (v53 : List Int) (s0 : Int × Int × Int × (List Nat)) : Option (Int × Int × (List Nat)) := whileM (fun s => (spec_l02DrawSides_l0_T v53 s).run) s0
def spec_l02DrawSides_l0_E (v53 : List Int) (v54 : Int) (v55 : Int) (v56 : Int) (v57 : Int) (s : Int × Int × Int × (List Nat)) : Sd := ([.ptr 0 (0 : Nat) 0 (3 : Nat),tp,tp,tp,tp,tp,.ptr 1 (0 : Nat) 0 (3 : Nat),.ptr 2 (0 : Nat) 0 (3 : Nat),.int .i64 s.1,tp,tp,tp,tp,tp,tp,tp,tp,tp,tp,tp,tp,tp,tp,tp,tp,tp,tp,tp,tp,tp], [.gen [.bslc (BR.root 1) (.u8 v53), .int .i64 s.2.1, .int .u64 s.2.2.1] false 0, .gen [.int .i64 (0 : Int), .int .i64 (0 : Int), .nilslc] false 0, .gen [.int .i64 ((spec_l02Blank_v v56 v57).1), .int .i64 ((spec_l02Blank_v v56 v57).2), .own 3 0 ((s.2.2.2).length)] false 0, .row (.f32 s.2.2.2) 0])
def spec_l02DrawSides_l0_X (v53 : List Int) (v54 : Int) (v55 : Int) (v56 : Int) (v57 : Int) (x : Int × Int × (List Nat)) : Out := (.normal, [tp,tp,tp,tp,tp,tp,.ptr 1 (0 : Nat) 0 (3 : Nat),.ptr 2 (0 : Nat) 0 (3 : Nat),tp,tp,tp,tp,tp,tp,tp,tp,tp,tp,tp,tp,tp,tp,tp,tp,tp,tp,tp,tp,tp,tp], [.gen [.bslc (BR.root 1) (.u8 v53), .int .i64 x.1, .int .u64 x.2.1] false 0, .gen [.int .i64 (0 : Int), .int .i64 (0 : Int), .nilslc] false 0, .gen [.int .i64 ((spec_l02Blank_v v56 v57).1), .int .i64 ((spec_l02Blank_v v56 v57).2), .own 3 0 ((x.2.2).length)] false 0, .row (.f32 x.2.2) 0])
def spec_l02DrawSides_l0_kill : List Nat := KL true [0,1,5,3,21]
def spec_l02DrawSides_l0_nx : Exit → List Nat
  | .exit 0 => KL true [6,2,22]
  | .ret => KL true [6,1,23]
  | _ => []
noncomputable def spec_l02DrawSides_LO (v53 : List Int) (v54 : Int) (v55 : Int) (v56 : Int) (v57 : Int) : LOr := fun id e L =>
  match id with
  | 0 => .need (normA 1 spec_l02DrawSides_l0_kill e L = some (spec_l02DrawSides_l0_E v53 v54 v55 v56 v57 ((gI (vAt e 8)), (gI (cAt L (vAt e 0) 1)), (gI (cAt L (vAt e 0) 2)), (gRF L (cAt L (vAt e 7) 2))))) (.call (spec_l02DrawSides_l0_g v53 ((gI (vAt e 8)), (gI (cAt L (vAt e 0) 1)), (gI (cAt L (vAt e 0) 2)), (gRF L (cAt L (vAt e 7) 2)))) fun x => .leaf (spec_l02DrawSides_l0_X v53 v54 v55 v56 v57 x))
  | _ => .fail
noncomputable def spec_l02DrawSides_tab : List (FuncId × DFn × Bool) := [(69, spec_l02Blank_F, true), (54, spec_l00Src_pick_F, false)]
theorem spec_l02DrawSides_hO : OrcOk Try.prog (tabD spec_l02DrawSides_tab) (tabM spec_l02DrawSides_tab) := tabD_cons spec_l02Blank_Fok (tabD_cons spec_l00Src_pick_Fok (tabD_nil _))
theorem spec_l02DrawSides_l0_be (v53 : List Int) (v54 : Int) (v55 : Int) (v56 : Int) (v57 : Int) (s : Int × Int × Int × (List Nat)) : bodyT TT (tabD spec_l02DrawSides_tab) (tabM spec_l02DrawSides_tab) (spec_l02DrawSides_LO v53 v54 v55 v56 v57) 1 spec_l02DrawSides_l0_kill spec_l02DrawSides_l0_nx (bodyOf Try.f77 0) 0 (spec_l02DrawSides_l0_E v53 v54 v55 v56 v57 s) = (spec_l02DrawSides_l0_T v53 s).bind fun y => .leaf (outS (spec_l02DrawSides_l0_E v53 v54 v55 v56 v57) (spec_l02DrawSides_l0_X v53 v54 v55 v56 v57) y) := by kernel_rfl
theorem spec_l02DrawSides_l0_ok (v53 : List Int) (v54 : Int) (v55 : Int) (v56 : Int) (v57 : Int) : LSound Try.prog 1 (spec_l02DrawSides_LO v53 v54 v55 v56 v57) 0 (bodyOf Try.f77 0) := by
  intro e L out h
  exact lo_ok (E := spec_l02DrawSides_l0_E v53 v54 v55 v56 v57) (gT := spec_l02DrawSides_l0_T v53) (X := spec_l02DrawSides_l0_X v53 v54 v55 v56 v57) (s0 := ((gI (vAt e 8)), (gI (cAt L (vAt e 0) 1)), (gI (cAt L (vAt e 0) 2)), (gRF L (cAt L (vAt e 7) 2)))) tok spec_l02DrawSides_hO mixed (LoopsOk_eq (l := []) (by kernel_rfl) trivial) (spec_l02DrawSides_l0_be v53 v54 v55 v56 v57) rfl (by intro x; rfl) h
noncomputable def spec_l02DrawSides_T (v53 : List Int) (v54 : Int) (v55 : Int) (v56 : Int) (v57 : Int) : Tree (Int × Int × Int × Int × (List Nat)) :=
  (.need (some (spec_l02DrawSides_l0_E v53 v54 v55 v56 v57 (IntKind.i64.wrap (v56 * v57), v54, v55, ([] : List Nat))) = some (spec_l02DrawSides_l0_E v53 v54 v55 v56 v57 (IntKind.i64.wrap (v56 * v57), v54, v55, ([] : List Nat)))) <|
  (.call (spec_l02DrawSides_l0_g v53 (IntKind.i64.wrap (v56 * v57), v54, v55, ([] : List Nat))) fun v70 =>
  .leaf ((spec_l02Blank_v v56 v57).1, (spec_l02Blank_v v56 v57).2, v70.1, v70.2.1, v70.2.2)))

noncomputable def spec_l02DrawSides_g (v53 : List Int) (v54 : Int) (v55 : Int) (v56 : Int) (v57 : Int) : Option (Int × Int × Int × Int × (List Nat)) := (spec_l02DrawSides_T v53 v54 v55 v56 v57).run
def spec_l02DrawSides_enc (v53 : List Int) (v54 : Int) (v55 : Int) (v56 : Int) (v57 : Int) (y : Int × Int × Int × Int × (List Nat)) : Rs := (.agg [.int .i64 y.1, .int .i64 y.2.1, .own 1 0 ((y.2.2.2.2).length)], [.gen [.bslc (BR.root 1) (.u8 v53), .int .i64 y.2.2.1, .int .u64 y.2.2.2.1] false 0, .row (.f32 y.2.2.2.2) 0])
theorem spec_l02DrawSides_den (v53 : List Int) (v54 : Int) (v55 : Int) (v56 : Int) (v57 : Int) : (den TT (tabD spec_l02DrawSides_tab) (tabM spec_l02DrawSides_tab) (spec_l02DrawSides_LO v53 v54 v55 v56 v57) (codeOf Try.f77) ([.ptr 0 (0 : Nat) 0 (3 : Nat), .int .i64 v56, .int .i64 v57] ++ List.replicate (Try.f77.ntmps - ([.ptr 0 (0 : Nat) 0 (3 : Nat), .int .i64 v56, .int .i64 v57] : List DV).length) .undef) [.gen [.bslc (BR.root 1) (.u8 v53), .int .i64 v54, .int .u64 v55] false 0]).bind (retD TT Try.f77.results.toList 1) = (spec_l02DrawSides_T v53 v54 v55 v56 v57).bind fun y => .leaf (spec_l02DrawSides_enc v53 v54 v55 v56 v57 y) := by kernel_rfl
theorem spec_l02DrawSides_fn (v53 : List Int) (v54 : Int) (v55 : Int) (v56 : Int) (v57 : Int) (F : Fr) (h0 : St F [.gen [.bslc (BR.root 1) (.u8 v53), .int .i64 v54, .int .u64 v55] false 0] F.H0) (hA : DVs.Ok F [.gen [.bslc (BR.root 1) (.u8 v53), .int .i64 v54, .int .u64 v55] false 0] [.ptr 0 (0 : Nat) 0 (3 : Nat), .int .i64 v56, .int .i64 v57]) {y : Int × Int × Int × Int × (List Nat)} (hy : spec_l02DrawSides_g v53 v54 v55 v56 v57 = some y) : ∃ F' H', Fwd 1 F F' [.gen [.bslc (BR.root 1) (.u8 v53), .int .i64 v54, .int .u64 v55] false 0] (spec_l02DrawSides_enc v53 v54 v55 v56 v57 y).2 ∧ FnOk Try.prog 77 (DVs.av F [.ptr 0 (0 : Nat) 0 (3 : Nat), .int .i64 v56, .int .i64 v57]) F.H0 ((spec_l02DrawSides_enc v53 v54 v55 v56 v57 y).1.av F') H' ∧ St F' (spec_l02DrawSides_enc v53 v54 v55 v56 v57 y).2 H' ∧ (spec_l02DrawSides_enc v53 v54 v55 v56 v57 y).1.Ok F' (spec_l02DrawSides_enc v53 v54 v55 v56 v57 y).2 :=
  fn_fin tok spec_l02DrawSides_hO mixed Try.func77 Try.call77 (by kernel_rfl) (LoopsOk_eq (l := [(0, bodyOf Try.f77 0)]) (by kernel_rfl) ⟨spec_l02DrawSides_l0_ok v53 v54 v55 v56 v57, trivial⟩) (spec_l02DrawSides_den v53 v54 v55 v56 v57) hy h0 hA
noncomputable def spec_l02DrawSides_F : DFn := fun args L =>
  match args with
  | [a1, .int .i64 v56, .int .i64 v57] =>
    optT (genOf L 3 false a1) fun qg0 =>
    (match qg0.2 with
    | [a2, .int .i64 v54, .int .u64 v55] =>
    optT (rowU8 L a2) fun v53 =>
    (match sepB [qg0.1] [a2] with
    | true =>
    .call (spec_l02DrawSides_g v53 v54 v55 v56 v57) fun y => .leaf (.agg [.int .i64 y.1, .int .i64 y.2.1, .own (L.length + 0) 0 ((y.2.2.2.2).length)], setB L [(qg0.1, .gen [a2, .int .i64 y.2.2.1, .int .u64 y.2.2.2.1] false (verAt L qg0.1))] ++ [.row (.f32 y.2.2.2.2) 0])
    | false => .fail)
    | _ => .fail)
  | _ => .fail
theorem spec_l02DrawSides_Fok : COk Try.prog 77 spec_l02DrawSides_F false := by
  intro F L H args r L' hs ha hr
  unfold spec_l02DrawSides_F at hr
  split at hr
  · rename_i a1 v56 v57
    obtain ⟨⟨jg0, cg0⟩, hg0, hr⟩ := optT_run hr
    simp only at hr
    split at hr
    · rename_i a2 v54 v55
      obtain ⟨hge0, hgu0, hga0, hgn0, hgc0, hgf0⟩ := genOf_spec hs (DVs.okAt ha 0 rfl) hg0
      obtain ⟨v53, hv53, hr⟩ := optT_run hr
      split at hr
      · rename_i hsep
        obtain ⟨hnd, hsepv⟩ := sepB_spec hsep
        simp only [Tree.run] at hr
        obtain ⟨y, hy, hr⟩ := Option.bind_eq_some_iff.1 hr
        try simp only [Tree.run] at hr
        simp only [Option.some.injEq, Prod.mk.injEq] at hr
        obtain ⟨rfl, rfl⟩ := hr
        exact mutG_ok hs [a1, a2] ⟨(DVs.okAt ha 0 rfl), (DVs.okAt hgc0 0 rfl), trivial⟩ [a1, .int .i64 v56, .int .i64 v57] [.ptr 0 (0 : Nat) 0 (3 : Nat), .int .i64 v56, .int .i64 v57] [jg0] [verAt L jg0] [.gen [.bslc (BR.root 1) (.u8 v53), .int .i64 v54, .int .u64 v55] false 0] [.gen [.bslc (BR.root 1) (.u8 v53), .int .i64 y.2.2.1, .int .u64 y.2.2.2.1] false 0, .row (.f32 y.2.2.2.2) 0] [.gen [a2, .int .i64 y.2.2.1, .int .u64 y.2.2.2.1] false (verAt L jg0)] [.row (.f32 y.2.2.2.2) 0] hnd rfl rfl (fun j hj => by
            simp at hj
            subst hj; exact ex_gen hge0) (fun j hj => by
            simp at hj
            subst hj; exact reach_refs (by simp [DVs.refs, DV.refs, hgu0])) (fun F' h0 hρ ab hpl hS => by
            have ab0 := ab 0 _ rfl;
            refine ⟨fun i j b' h1 h2 => ?_, by simp [DBlk.blk, DVs.av, DV.av, BR.av, hρ, Row.len, hga0, ab0], fun hst => spec_l02DrawSides_fn v53 v54 v55 v56 v57 F' hst ⟨⟨_, rfl, Nat.le_refl _, by decide, Nat.le_refl _, fun _ => rfl⟩, trivial, trivial, trivial⟩ hy⟩
            rcases i with _ | i
            · simp at h1 h2; subst h1; subst h2; obtain ⟨ver_, hv_⟩ := hge0; exact ⟨_, hv_, .gen _ _ _ _ _ _, by simp [DBlk.blk, DVs.av, DV.av, BR.av, hρ, Row.len, hga0, ab0], ⟨⟨bslcM hS (by rw [hρ]; rfl) (hsepv a2 (by simp)) (DVs.okAt hgc0 0 rfl) (rowU8_or hv53), trivial, trivial, trivial⟩, fun hf => by cases hf⟩⟩
            · simp at h1) rfl rfl (fun i j b b' h1 h2 h3 => by
            rcases i with _ | i
            · simp at h1; subst h1; cases h3; exact growG hge0 rfl h2
            · simp at h1)
      · cases hr
    · cases hr
  · cases hr
/-! spec.l02DrawOk -/
noncomputable def spec_l02DrawOk_LO (v40 : List Int) (v41 : Int) (v42 : Int) : LOr := fun id e L =>
  match id with
  | _ => .fail
noncomputable def spec_l02DrawOk_tab : List (FuncId × DFn × Bool) := [(54, spec_l00Src_pick_F, false), (77, spec_l02DrawSides_F, false)]
theorem spec_l02DrawOk_hO : OrcOk Try.prog (tabD spec_l02DrawOk_tab) (tabM spec_l02DrawOk_tab) := tabD_cons spec_l00Src_pick_Fok (tabD_cons spec_l02DrawSides_Fok (tabD_nil _))
noncomputable def spec_l02DrawOk_T (v40 : List Int) (v41 : Int) (v42 : Int) : Tree (Int × Int × Int × Int × (List Nat)) :=
  (.call (spec_l00Src_pick_g v40 v41 v42 (5 : Int)) fun v43 =>
  (.call (spec_l00Src_pick_g v40 v43.2.1 v43.2.2 (5 : Int)) fun v44 =>
  (.call (spec_l02DrawSides_g v40 v44.2.1 v44.2.2 (IntKind.i64.wrap ((1 : Int) + v43.1)) (IntKind.i64.wrap ((1 : Int) + v44.1))) fun v71 =>
  .leaf (v71.1, v71.2.1, v71.2.2.1, v71.2.2.2.1, v71.2.2.2.2))))

noncomputable def spec_l02DrawOk_g (v40 : List Int) (v41 : Int) (v42 : Int) : Option (Int × Int × Int × Int × (List Nat)) := (spec_l02DrawOk_T v40 v41 v42).run
def spec_l02DrawOk_enc (v40 : List Int) (v41 : Int) (v42 : Int) (y : Int × Int × Int × Int × (List Nat)) : Rs := (.agg [.int .i64 y.1, .int .i64 y.2.1, .own 1 0 ((y.2.2.2.2).length)], [.gen [.bslc (BR.root 1) (.u8 v40), .int .i64 y.2.2.1, .int .u64 y.2.2.2.1] false 0, .row (.f32 y.2.2.2.2) 0])
theorem spec_l02DrawOk_den (v40 : List Int) (v41 : Int) (v42 : Int) : (den TT (tabD spec_l02DrawOk_tab) (tabM spec_l02DrawOk_tab) (spec_l02DrawOk_LO v40 v41 v42) (codeOf Try.f56) ([.ptr 0 (0 : Nat) 0 (3 : Nat)] ++ List.replicate (Try.f56.ntmps - ([.ptr 0 (0 : Nat) 0 (3 : Nat)] : List DV).length) .undef) [.gen [.bslc (BR.root 1) (.u8 v40), .int .i64 v41, .int .u64 v42] false 0]).bind (retD TT Try.f56.results.toList 1) = (spec_l02DrawOk_T v40 v41 v42).bind fun y => .leaf (spec_l02DrawOk_enc v40 v41 v42 y) := by kernel_rfl
theorem spec_l02DrawOk_fn (v40 : List Int) (v41 : Int) (v42 : Int) (F : Fr) (h0 : St F [.gen [.bslc (BR.root 1) (.u8 v40), .int .i64 v41, .int .u64 v42] false 0] F.H0) (hA : DVs.Ok F [.gen [.bslc (BR.root 1) (.u8 v40), .int .i64 v41, .int .u64 v42] false 0] [.ptr 0 (0 : Nat) 0 (3 : Nat)]) {y : Int × Int × Int × Int × (List Nat)} (hy : spec_l02DrawOk_g v40 v41 v42 = some y) : ∃ F' H', Fwd 1 F F' [.gen [.bslc (BR.root 1) (.u8 v40), .int .i64 v41, .int .u64 v42] false 0] (spec_l02DrawOk_enc v40 v41 v42 y).2 ∧ FnOk Try.prog 56 (DVs.av F [.ptr 0 (0 : Nat) 0 (3 : Nat)]) F.H0 ((spec_l02DrawOk_enc v40 v41 v42 y).1.av F') H' ∧ St F' (spec_l02DrawOk_enc v40 v41 v42 y).2 H' ∧ (spec_l02DrawOk_enc v40 v41 v42 y).1.Ok F' (spec_l02DrawOk_enc v40 v41 v42 y).2 :=
  fn_fin tok spec_l02DrawOk_hO mixed Try.func56 Try.call56 (by kernel_rfl) (LoopsOk_eq (l := []) (by kernel_rfl) trivial) (spec_l02DrawOk_den v40 v41 v42) hy h0 hA
noncomputable def spec_l02DrawOk_F : DFn := fun args L =>
  match args with
  | [a1] =>
    optT (genOf L 3 false a1) fun qg0 =>
    (match qg0.2 with
    | [a2, .int .i64 v41, .int .u64 v42] =>
    optT (rowU8 L a2) fun v40 =>
    (match sepB [qg0.1] [a2] with
    | true =>
    .call (spec_l02DrawOk_g v40 v41 v42) fun y => .leaf (.agg [.int .i64 y.1, .int .i64 y.2.1, .own (L.length + 0) 0 ((y.2.2.2.2).length)], setB L [(qg0.1, .gen [a2, .int .i64 y.2.2.1, .int .u64 y.2.2.2.1] false (verAt L qg0.1))] ++ [.row (.f32 y.2.2.2.2) 0])
    | false => .fail)
    | _ => .fail)
  | _ => .fail
theorem spec_l02DrawOk_Fok : COk Try.prog 56 spec_l02DrawOk_F false := by
  intro F L H args r L' hs ha hr
  unfold spec_l02DrawOk_F at hr
  split at hr
  · rename_i a1
    obtain ⟨⟨jg0, cg0⟩, hg0, hr⟩ := optT_run hr
    simp only at hr
    split at hr
    · rename_i a2 v41 v42
      obtain ⟨hge0, hgu0, hga0, hgn0, hgc0, hgf0⟩ := genOf_spec hs (DVs.okAt ha 0 rfl) hg0
      obtain ⟨v40, hv40, hr⟩ := optT_run hr
      split at hr
      · rename_i hsep
        obtain ⟨hnd, hsepv⟩ := sepB_spec hsep
        simp only [Tree.run] at hr
        obtain ⟨y, hy, hr⟩ := Option.bind_eq_some_iff.1 hr
        try simp only [Tree.run] at hr
        simp only [Option.some.injEq, Prod.mk.injEq] at hr
        obtain ⟨rfl, rfl⟩ := hr
        exact mutG_ok hs [a1, a2] ⟨(DVs.okAt ha 0 rfl), (DVs.okAt hgc0 0 rfl), trivial⟩ [a1] [.ptr 0 (0 : Nat) 0 (3 : Nat)] [jg0] [verAt L jg0] [.gen [.bslc (BR.root 1) (.u8 v40), .int .i64 v41, .int .u64 v42] false 0] [.gen [.bslc (BR.root 1) (.u8 v40), .int .i64 y.2.2.1, .int .u64 y.2.2.2.1] false 0, .row (.f32 y.2.2.2.2) 0] [.gen [a2, .int .i64 y.2.2.1, .int .u64 y.2.2.2.1] false (verAt L jg0)] [.row (.f32 y.2.2.2.2) 0] hnd rfl rfl (fun j hj => by
            simp at hj
            subst hj; exact ex_gen hge0) (fun j hj => by
            simp at hj
            subst hj; exact reach_refs (by simp [DVs.refs, DV.refs, hgu0])) (fun F' h0 hρ ab hpl hS => by
            have ab0 := ab 0 _ rfl;
            refine ⟨fun i j b' h1 h2 => ?_, by simp [DBlk.blk, DVs.av, DV.av, BR.av, hρ, Row.len, hga0, ab0], fun hst => spec_l02DrawOk_fn v40 v41 v42 F' hst ⟨⟨_, rfl, Nat.le_refl _, by decide, Nat.le_refl _, fun _ => rfl⟩, trivial⟩ hy⟩
            rcases i with _ | i
            · simp at h1 h2; subst h1; subst h2; obtain ⟨ver_, hv_⟩ := hge0; exact ⟨_, hv_, .gen _ _ _ _ _ _, by simp [DBlk.blk, DVs.av, DV.av, BR.av, hρ, Row.len, hga0, ab0], ⟨⟨bslcM hS (by rw [hρ]; rfl) (hsepv a2 (by simp)) (DVs.okAt hgc0 0 rfl) (rowU8_or hv40), trivial, trivial, trivial⟩, fun hf => by cases hf⟩⟩
            · simp at h1) rfl rfl (fun i j b b' h1 h2 h3 => by
            rcases i with _ | i
            · simp at h1; subst h1; cases h3; exact growG hge0 rfl h2
            · simp at h1)
      · cases hr
    · cases hr
  · cases hr
/-! spec.B10Sheets -/
noncomputable def spec_B10Sheets_l0_T (v5 : List Int) (s : Int × Int × Int × (List ByteArray) × (List Int) × (List Int) × (List (List Nat)) × (List Nat)) : Tree ((Int × Int × Int × (List ByteArray) × (List Int) × (List Int) × (List (List Nat)) × (List Nat)) ⊕ ((List ByteArray) × (List Int) × (List Int) × (List (List Nat)) × (List Nat))) :=
  (.br (decide ((0 : Int) < s.1)) (
  (.call (spec_l00Src_text_nst_g v5 s.2.1 s.2.2.1 ([(ByteArray.mk #[97]), (ByteArray.mk #[108, 101, 102, 116]), (ByteArray.mk #[114, 105, 103, 104, 116]), (ByteArray.mk #[122, 122])] : List ByteArray)) fun v91 =>
  (.grd (decide ((([(ByteArray.mk #[97]), (ByteArray.mk #[108, 101, 102, 116]), (ByteArray.mk #[114, 105, 103, 104, 116]), (ByteArray.mk #[122, 122])] : List ByteArray)).length = (([(ByteArray.mk #[97]), (ByteArray.mk #[108, 101, 102, 116]), (ByteArray.mk #[114, 105, 103, 104, 116]), (ByteArray.mk #[122, 122])] : List ByteArray)).length)) <|
  (.call (spec_l02DrawOk_g v5 v91.2.1 v91.2.2) fun v92 =>
  (.grd (fits (((s.2.2.2.1).length) + (1 : Nat))) <|
  .leaf (.inl (IntKind.i64.wrap (s.1 - (1 : Int)), v92.2.2.1, v92.2.2.2.1, s.2.2.2.1 ++ ([v91.1] : List ByteArray), s.2.2.2.2.1 ++ ([v92.1] : List Int), s.2.2.2.2.2.1 ++ ([v92.2.1] : List Int), s.2.2.2.2.2.2.1 ++ ([v92.2.2.2.2] : List (List Nat)), s.2.2.2.2.2.2.2 ++ [s.2.2.2.2.2.2.1.length + 1]))))))
  ) (
  .leaf (.inr (s.2.2.2.1, s.2.2.2.2.1, s.2.2.2.2.2.1, s.2.2.2.2.2.2.1, s.2.2.2.2.2.2.2))
  ))

noncomputable def spec_B10Sheets_l0_g (v5 : List Int) (s0 : Int × Int × Int × (List ByteArray) × (List Int) × (List Int) × (List (List Nat)) × (List Nat)) : Option ((List ByteArray) × (List Int) × (List Int) × (List (List Nat)) × (List Nat)) := whileM (fun s => (spec_B10Sheets_l0_T v5 s).run) s0
def spec_B10Sheets_l0_E (v5 : List Int) (s : Int × Int × Int × (List ByteArray) × (List Int) × (List Int) × (List (List Nat)) × (List Nat)) : Sd := ([tp,tp,tp,.ptr 0 (0 : Nat) 0 (3 : Nat),.nest 1 0 4 ((s.2.2.2.1).length),.int .i64 s.1,tp,tp,tp,tp,tp,tp,tp,tp,tp,tp,tp,tp,tp,tp,tp,tp,tp,tp,tp], [.gen [.bslc (BR.root 0) (.u8 v5), .int .i64 s.2.1, .int .u64 s.2.2.1] false 0, .nest [.pl (.str s.2.2.2.1), .pl (.i64 s.2.2.2.2.1), .pl (.i64 s.2.2.2.2.2.1), .sl (.f32 s.2.2.2.2.2.2.1) s.2.2.2.2.2.2.2] false 0])
def spec_B10Sheets_l0_X (v5 : List Int) (x : (List ByteArray) × (List Int) × (List Int) × (List (List Nat)) × (List Nat)) : Out := (.normal, [tp,tp,tp,tp,.nest 0 0 4 ((x.1).length),tp,tp,tp,tp,tp,tp,tp,tp,tp,tp,tp,tp,tp,tp,tp,tp,tp,tp,tp,tp], [.nest [.pl (.str x.1), .pl (.i64 x.2.1), .pl (.i64 x.2.2.1), .sl (.f32 x.2.2.2.1) x.2.2.2.2] false 0])
def spec_B10Sheets_l0_kill : List Nat := KL true [3,3,19]
def spec_B10Sheets_l0_nx : Exit → List Nat
  | .exit 0 => KL true [4,1,20]
  | .ret => KL true [2,1,22]
  | _ => []
noncomputable def spec_B10Sheets_LO (v5 : List Int) : LOr := fun id e L =>
  match id with
  | 0 => .need (normA 0 spec_B10Sheets_l0_kill e L = some (spec_B10Sheets_l0_E v5 ((gI (vAt e 5)), (gI (cAt L (vAt e 3) 1)), (gI (cAt L (vAt e 3) 2)), (gCS L (vAt e 4) 0), (gCI L (vAt e 4) 1), (gCI L (vAt e 4) 2), (gPF L (vAt e 4) 3), (gX L (vAt e 4) 3)))) (.call (spec_B10Sheets_l0_g v5 ((gI (vAt e 5)), (gI (cAt L (vAt e 3) 1)), (gI (cAt L (vAt e 3) 2)), (gCS L (vAt e 4) 0), (gCI L (vAt e 4) 1), (gCI L (vAt e 4) 2), (gPF L (vAt e 4) 3), (gX L (vAt e 4) 3))) fun x => .leaf (spec_B10Sheets_l0_X v5 x))
  | _ => .fail
noncomputable def spec_B10Sheets_tab : List (FuncId × DFn × Bool) := [(53, spec_l00From_F, true), (54, spec_l00Src_pick_F, false), (55, spec_l00Src_text_nst_F, false), (56, spec_l02DrawOk_F, false)]
theorem spec_B10Sheets_hO : OrcOk Try.prog (tabD spec_B10Sheets_tab) (tabM spec_B10Sheets_tab) := tabD_cons spec_l00From_Fok (tabD_cons spec_l00Src_pick_Fok (tabD_cons spec_l00Src_text_nst_Fok (tabD_cons spec_l02DrawOk_Fok (tabD_nil _))))
theorem spec_B10Sheets_l0_be (v5 : List Int) (s : Int × Int × Int × (List ByteArray) × (List Int) × (List Int) × (List (List Nat)) × (List Nat)) : bodyT TT (tabD spec_B10Sheets_tab) (tabM spec_B10Sheets_tab) (spec_B10Sheets_LO v5) 0 spec_B10Sheets_l0_kill spec_B10Sheets_l0_nx (bodyOf Try.f30 0) 0 (spec_B10Sheets_l0_E v5 s) = (spec_B10Sheets_l0_T v5 s).bind fun y => .leaf (outS (spec_B10Sheets_l0_E v5) (spec_B10Sheets_l0_X v5) y) := by kernel_rfl
theorem spec_B10Sheets_l0_ok (v5 : List Int) : LSound Try.prog 0 (spec_B10Sheets_LO v5) 0 (bodyOf Try.f30 0) := by
  intro e L out h
  exact lo_ok (E := spec_B10Sheets_l0_E v5) (gT := spec_B10Sheets_l0_T v5) (X := spec_B10Sheets_l0_X v5) (s0 := ((gI (vAt e 5)), (gI (cAt L (vAt e 3) 1)), (gI (cAt L (vAt e 3) 2)), (gCS L (vAt e 4) 0), (gCI L (vAt e 4) 1), (gCI L (vAt e 4) 2), (gPF L (vAt e 4) 3), (gX L (vAt e 4) 3))) tok spec_B10Sheets_hO mixed (LoopsOk_eq (l := []) (by kernel_rfl) trivial) (spec_B10Sheets_l0_be v5) rfl (by intro x; rfl) h
noncomputable def spec_B10Sheets_T (v5 : List Int) : Tree ((List ByteArray) × (List Int) × (List Int) × (List (List Nat)) × (List Nat)) :=
  (.call (spec_l00Src_pick_g v5 (0 : Int) (0 : Int) (5 : Int)) fun v23 =>
  (.need (some (spec_B10Sheets_l0_E v5 (v23.1, v23.2.1, v23.2.2, ([] : List ByteArray), ([] : List Int), ([] : List Int), ([] : List (List Nat)), ([] : List Nat))) = some (spec_B10Sheets_l0_E v5 (v23.1, v23.2.1, v23.2.2, ([] : List ByteArray), ([] : List Int), ([] : List Int), ([] : List (List Nat)), ([] : List Nat)))) <|
  (.call (spec_B10Sheets_l0_g v5 (v23.1, v23.2.1, v23.2.2, ([] : List ByteArray), ([] : List Int), ([] : List Int), ([] : List (List Nat)), ([] : List Nat))) fun v93 =>
  .leaf (v93.1, v93.2.1, v93.2.2.1, v93.2.2.2.1, v93.2.2.2.2))))

noncomputable def spec_B10Sheets_g (v5 : List Int) : Option ((List ByteArray) × (List Int) × (List Int) × (List (List Nat)) × (List Nat)) := (spec_B10Sheets_T v5).run
def spec_B10Sheets_enc (v5 : List Int) (y : (List ByteArray) × (List Int) × (List Int) × (List (List Nat)) × (List Nat)) : Rs := (.nest 0 0 4 ((y.1).length), [.nest [.pl (.str y.1), .pl (.i64 y.2.1), .pl (.i64 y.2.2.1), .sl (.f32 y.2.2.2.1) y.2.2.2.2] false 0])
theorem spec_B10Sheets_den (v5 : List Int) : (den TT (tabD spec_B10Sheets_tab) (tabM spec_B10Sheets_tab) (spec_B10Sheets_LO v5) (codeOf Try.f30) ([.bslc (BR.root 0) (.u8 v5)] ++ List.replicate (Try.f30.ntmps - ([.bslc (BR.root 0) (.u8 v5)] : List DV).length) .undef) []).bind (retD TT Try.f30.results.toList 0) = (spec_B10Sheets_T v5).bind fun y => .leaf (spec_B10Sheets_enc v5 y) := by kernel_rfl
theorem spec_B10Sheets_fn (v5 : List Int) (F : Fr) (h0 : St F [] F.H0) (hA : DVs.Ok F [] [.bslc (BR.root 0) (.u8 v5)]) {y : (List ByteArray) × (List Int) × (List Int) × (List (List Nat)) × (List Nat)} (hy : spec_B10Sheets_g v5 = some y) : ∃ F' H', Fwd 0 F F' [] (spec_B10Sheets_enc v5 y).2 ∧ FnOk Try.prog 30 (DVs.av F [.bslc (BR.root 0) (.u8 v5)]) F.H0 ((spec_B10Sheets_enc v5 y).1.av F') H' ∧ St F' (spec_B10Sheets_enc v5 y).2 H' ∧ (spec_B10Sheets_enc v5 y).1.Ok F' (spec_B10Sheets_enc v5 y).2 :=
  fn_fin tok spec_B10Sheets_hO mixed Try.func30 Try.call30 (by kernel_rfl) (LoopsOk_eq (l := [(0, bodyOf Try.f30 0)]) (by kernel_rfl) ⟨spec_B10Sheets_l0_ok v5, trivial⟩) (spec_B10Sheets_den v5) hy h0 hA
noncomputable def spec_B10Sheets_F : DFn := fun args L =>
  match args with
  | [a1] =>
    optT (rowU8 L a1) fun v5 =>
    .call (spec_B10Sheets_g v5) fun y => .leaf (.nest (L.length + 0) 0 4 ((y.1).length), L ++ [.nest [.pl (.str y.1), .pl (.i64 y.2.1), .pl (.i64 y.2.2.1), .sl (.f32 y.2.2.2.1) y.2.2.2.2] false 0])
  | _ => .fail
theorem spec_B10Sheets_Fok : COk Try.prog 30 spec_B10Sheets_F true := by
  intro F L H args r L' hs ha hr
  unfold spec_B10Sheets_F at hr
  split at hr
  · rename_i a1
    obtain ⟨v5, hv5, hr⟩ := optT_run hr
    simp only [Tree.run] at hr
    obtain ⟨y, hy, hr⟩ := Option.bind_eq_some_iff.1 hr
    simp only [Tree.run, Option.some.injEq, Prod.mk.injEq] at hr
    obtain ⟨rfl, rfl⟩ := hr
    exact call_ok1 hs (fun k => (([a1.av F] : List AV)[k]?).getD .top) [a1] [.bslc (BR.root 0) (.u8 v5)] (fun F' h0 hi hρ => ⟨by simp [DVs.av, DV.av, BR.av, hρ], spec_B10Sheets_fn v5 F' (st_nil hi) ⟨bslc_ok hi (by rw [h0, hρ]; exact rowU8_ok hs (DVs.okAt ha 0 rfl) hv5), trivial⟩ hy⟩) rfl rfl
  · cases hr
/-! impl.inRange -/
noncomputable def impl_inRange_LO (v117 : Int) (v118 : Int) (v119 : Int) : LOr := fun id e L =>
  match id with
  | _ => .fail
noncomputable def impl_inRange_tab : List (FuncId × DFn × Bool) := []
theorem impl_inRange_hO : OrcOk Try.prog (tabD impl_inRange_tab) (tabM impl_inRange_tab) := tabD_nil _
noncomputable def impl_inRange_T (v117 : Int) (v118 : Int) (v119 : Int) : Tree (Bool) :=
  (.br (decide (v118 ≤ v117)) (
  .leaf (decide (v117 ≤ v119))
  ) (
  .leaf false
  ))

noncomputable def impl_inRange_g (v117 : Int) (v118 : Int) (v119 : Int) : Option (Bool) := (impl_inRange_T v117 v118 v119).run
def impl_inRange_enc (v117 : Int) (v118 : Int) (v119 : Int) (y : Bool) : Rs := (.bool y, [])
theorem impl_inRange_den (v117 : Int) (v118 : Int) (v119 : Int) : (den TT (tabD impl_inRange_tab) (tabM impl_inRange_tab) (impl_inRange_LO v117 v118 v119) (codeOf Try.f78) ([.int .i64 v117, .int .i64 v118, .int .i64 v119] ++ List.replicate (Try.f78.ntmps - ([.int .i64 v117, .int .i64 v118, .int .i64 v119] : List DV).length) .undef) []).bind (retD TT Try.f78.results.toList 0) = (impl_inRange_T v117 v118 v119).bind fun y => .leaf (impl_inRange_enc v117 v118 v119 y) := by kernel_rfl
theorem impl_inRange_fn (v117 : Int) (v118 : Int) (v119 : Int) (F : Fr) (h0 : St F [] F.H0) (hA : DVs.Ok F [] [.int .i64 v117, .int .i64 v118, .int .i64 v119]) {y : Bool} (hy : impl_inRange_g v117 v118 v119 = some y) : ∃ F' H', Fwd 0 F F' [] (impl_inRange_enc v117 v118 v119 y).2 ∧ FnOk Try.prog 78 (DVs.av F [.int .i64 v117, .int .i64 v118, .int .i64 v119]) F.H0 ((impl_inRange_enc v117 v118 v119 y).1.av F') H' ∧ St F' (impl_inRange_enc v117 v118 v119 y).2 H' ∧ (impl_inRange_enc v117 v118 v119 y).1.Ok F' (impl_inRange_enc v117 v118 v119 y).2 :=
  fn_fin tok impl_inRange_hO mixed Try.func78 Try.call78 (by kernel_rfl) (LoopsOk_eq (l := []) (by kernel_rfl) trivial) (impl_inRange_den v117 v118 v119) hy h0 hA
def impl_inRange_v (v117 : Int) (v118 : Int) (v119 : Int) : Bool :=
  if (decide (v118 ≤ v117)) = true then (
  decide (v117 ≤ v119)
  ) else (
  false
  )
theorem impl_inRange_tot (v117 : Int) (v118 : Int) (v119 : Int) : impl_inRange_g v117 v118 v119 = some (impl_inRange_v v117 v118 v119) := by
  unfold impl_inRange_g impl_inRange_T impl_inRange_v
  simp only [Tree.run]
  repeat' (first | rfl | split)
noncomputable def impl_inRange_F : DFn := fun args L =>
  match args with
  | [.int .i64 v117, .int .i64 v118, .int .i64 v119] =>
    .leaf (.bool (impl_inRange_v v117 v118 v119), L)
  | _ => .fail
theorem impl_inRange_Fok : COk Try.prog 78 impl_inRange_F true := by
  intro F L H args r L' hs ha hr
  unfold impl_inRange_F at hr
  split at hr
  · rename_i v117 v118 v119
    have hy := impl_inRange_tot v117 v118 v119
    generalize impl_inRange_v v117 v118 v119 = y at hy hr
    simp only [Tree.run, Option.some.injEq, Prod.mk.injEq] at hr
    obtain ⟨rfl, rfl⟩ := hr
    exact call_ok0 hs (fun k => (([] : List AV)[k]?).getD .top) [.int .i64 v117, .int .i64 v118, .int .i64 v119] [.int .i64 v117, .int .i64 v118, .int .i64 v119] (fun F' h0 hi hρ => ⟨by simp [DVs.av, DV.av, BR.av, hρ], impl_inRange_fn v117 v118 v119 F' (st_nil hi) ⟨trivial, trivial, trivial, trivial⟩ hy⟩) rfl
  · cases hr
/-! impl.IsName -/
noncomputable def impl_IsName_l0_T (v110 : ByteArray) (s : Int) : Tree ((Int) ⊕ ((Unit) ⊕ (Unit))) :=
  (.br (decide (s < ((v110.size : Nat) : Int))) (
  (.grd (inb s v110.size) <|
  (.br (decide (bt v110 s < (97 : Int))) (
  .leaf (.inr (.inl ()))
  ) (
  (.grd (inb s v110.size) <|
  (.br (decide ((122 : Int) < bt v110 s)) (
  .leaf (.inr (.inl ()))
  ) (
  .leaf (.inl (IntKind.i64.wrap (s + (1 : Int))))
  )))
  )))
  ) (
  .leaf (.inr (.inr ()))
  ))

noncomputable def impl_IsName_l0_g (v110 : ByteArray) (s0 : Int) : Option ((Unit) ⊕ (Unit)) := whileM (fun s => (impl_IsName_l0_T v110 s).run) s0
def impl_IsName_l0_E (v110 : ByteArray) (s : Int) : Sd := ([.str v110,tp,tp,tp,tp,.int .i64 ((v110.size : Nat) : Int),.int .i64 s,tp,tp,tp,tp,tp,tp,tp,tp,tp,tp,tp,tp,tp,tp,tp,tp], [])
def impl_IsName_l0_X (v110 : ByteArray) (x : (Unit) ⊕ (Unit)) : Out := (match x with | .inl x => (.ret, [tp,tp,.lit false,tp,tp,tp,tp,tp,tp,tp,tp,tp,tp,tp,tp,tp,tp,tp,tp,tp,tp,tp,tp], []) | .inr x => (.normal, [.str v110,tp,tp,tp,tp,tp,tp,tp,tp,tp,tp,tp,tp,tp,tp,tp,tp,tp,tp,tp,tp,tp,tp], []))
def impl_IsName_l0_kill : List Nat := KL true [0,1,4,2,16]
def impl_IsName_l0_nx : Exit → List Nat
  | .exit 0 => KL true [0,1,22]
  | .ret => KL true [2,1,20]
  | _ => []
noncomputable def impl_IsName_LO (v110 : ByteArray) : LOr := fun id e L =>
  match id with
  | 0 => .need (normA 0 impl_IsName_l0_kill e L = some (impl_IsName_l0_E v110 (gI (vAt e 6)))) (.call (impl_IsName_l0_g v110 (gI (vAt e 6))) fun x => .sum x (fun b0 => .leaf (impl_IsName_l0_X v110 (.inl b0))) (fun c0 => .leaf (impl_IsName_l0_X v110 (.inr c0))))
  | _ => .fail
noncomputable def impl_IsName_tab : List (FuncId × DFn × Bool) := [(78, impl_inRange_F, true)]
theorem impl_IsName_hO : OrcOk Try.prog (tabD impl_IsName_tab) (tabM impl_IsName_tab) := tabD_cons impl_inRange_Fok (tabD_nil _)
theorem impl_IsName_l0_be (v110 : ByteArray) (s : Int) : bodyT TT (tabD impl_IsName_tab) (tabM impl_IsName_tab) (impl_IsName_LO v110) 0 impl_IsName_l0_kill impl_IsName_l0_nx (bodyOf Try.f57 0) 0 (impl_IsName_l0_E v110 s) = (impl_IsName_l0_T v110 s).bind fun y => .leaf (outS (impl_IsName_l0_E v110) (impl_IsName_l0_X v110) y) := by kernel_rfl
theorem impl_IsName_l0_ok (v110 : ByteArray) : LSound Try.prog 0 (impl_IsName_LO v110) 0 (bodyOf Try.f57 0) := by
  intro e L out h
  exact lo_ok (E := impl_IsName_l0_E v110) (gT := impl_IsName_l0_T v110) (X := impl_IsName_l0_X v110) (s0 := (gI (vAt e 6))) tok impl_IsName_hO mixed (LoopsOk_eq (l := []) (by kernel_rfl) trivial) (impl_IsName_l0_be v110) rfl (by intro x; (cases x with | inl b => rfl | inr x => exact rfl)) h
noncomputable def impl_IsName_T (v110 : ByteArray) : Tree (Bool) :=
  (.need (some (impl_IsName_l0_E v110 (0 : Int)) = some (impl_IsName_l0_E v110 (0 : Int))) <|
  (.call (impl_IsName_l0_g v110 (0 : Int)) fun v114 =>
  (.sum v114 (fun v115 =>
  .leaf false
  ) (fun v116 =>
  .leaf (impl_inRange_v ((v110.size : Nat) : Int) (1 : Int) (8 : Int))
  ))))

noncomputable def impl_IsName_g (v110 : ByteArray) : Option (Bool) := (impl_IsName_T v110).run
def impl_IsName_enc (v110 : ByteArray) (y : Bool) : Rs := (.bool y, [])
theorem impl_IsName_den (v110 : ByteArray) : (den TT (tabD impl_IsName_tab) (tabM impl_IsName_tab) (impl_IsName_LO v110) (codeOf Try.f57) ([.str v110] ++ List.replicate (Try.f57.ntmps - ([.str v110] : List DV).length) .undef) []).bind (retD TT Try.f57.results.toList 0) = (impl_IsName_T v110).bind fun y => .leaf (impl_IsName_enc v110 y) := by kernel_rfl
theorem impl_IsName_fn (v110 : ByteArray) (F : Fr) (h0 : St F [] F.H0) (hA : DVs.Ok F [] [.str v110]) {y : Bool} (hy : impl_IsName_g v110 = some y) : ∃ F' H', Fwd 0 F F' [] (impl_IsName_enc v110 y).2 ∧ FnOk Try.prog 57 (DVs.av F [.str v110]) F.H0 ((impl_IsName_enc v110 y).1.av F') H' ∧ St F' (impl_IsName_enc v110 y).2 H' ∧ (impl_IsName_enc v110 y).1.Ok F' (impl_IsName_enc v110 y).2 :=
  fn_fin tok impl_IsName_hO mixed Try.func57 Try.call57 (by kernel_rfl) (LoopsOk_eq (l := [(0, bodyOf Try.f57 0)]) (by kernel_rfl) ⟨impl_IsName_l0_ok v110, trivial⟩) (impl_IsName_den v110) hy h0 hA
noncomputable def impl_IsName_F : DFn := fun args L =>
  match args with
  | [.str v110] =>
    .call (impl_IsName_g v110) fun y => .leaf (.bool y, L)
  | _ => .fail
theorem impl_IsName_Fok : COk Try.prog 57 impl_IsName_F true := by
  intro F L H args r L' hs ha hr
  unfold impl_IsName_F at hr
  split at hr
  · rename_i v110
    simp only [Tree.run] at hr
    obtain ⟨y, hy, hr⟩ := Option.bind_eq_some_iff.1 hr
    simp only [Tree.run, Option.some.injEq, Prod.mk.injEq] at hr
    obtain ⟨rfl, rfl⟩ := hr
    exact call_ok0 hs (fun k => (([] : List AV)[k]?).getD .top) [.str v110] [.str v110] (fun F' h0 hi hρ => ⟨by simp [DVs.av, DV.av, BR.av, hρ], impl_IsName_fn v110 F' (st_nil hi) ⟨trivial, trivial⟩ hy⟩) rfl
  · cases hr
/-! impl.isSide -/
noncomputable def impl_isSide_LO (v124 : Int) : LOr := fun id e L =>
  match id with
  | _ => .fail
noncomputable def impl_isSide_tab : List (FuncId × DFn × Bool) := [(78, impl_inRange_F, true)]
theorem impl_isSide_hO : OrcOk Try.prog (tabD impl_isSide_tab) (tabM impl_isSide_tab) := tabD_cons impl_inRange_Fok (tabD_nil _)
noncomputable def impl_isSide_T (v124 : Int) : Tree (Bool) :=
  .leaf (impl_inRange_v v124 (1 : Int) (12 : Int))

noncomputable def impl_isSide_g (v124 : Int) : Option (Bool) := (impl_isSide_T v124).run
def impl_isSide_enc (v124 : Int) (y : Bool) : Rs := (.bool y, [])
theorem impl_isSide_den (v124 : Int) : (den TT (tabD impl_isSide_tab) (tabM impl_isSide_tab) (impl_isSide_LO v124) (codeOf Try.f79) ([.int .i64 v124] ++ List.replicate (Try.f79.ntmps - ([.int .i64 v124] : List DV).length) .undef) []).bind (retD TT Try.f79.results.toList 0) = (impl_isSide_T v124).bind fun y => .leaf (impl_isSide_enc v124 y) := by kernel_rfl
theorem impl_isSide_fn (v124 : Int) (F : Fr) (h0 : St F [] F.H0) (hA : DVs.Ok F [] [.int .i64 v124]) {y : Bool} (hy : impl_isSide_g v124 = some y) : ∃ F' H', Fwd 0 F F' [] (impl_isSide_enc v124 y).2 ∧ FnOk Try.prog 79 (DVs.av F [.int .i64 v124]) F.H0 ((impl_isSide_enc v124 y).1.av F') H' ∧ St F' (impl_isSide_enc v124 y).2 H' ∧ (impl_isSide_enc v124 y).1.Ok F' (impl_isSide_enc v124 y).2 :=
  fn_fin tok impl_isSide_hO mixed Try.func79 Try.call79 (by kernel_rfl) (LoopsOk_eq (l := []) (by kernel_rfl) trivial) (impl_isSide_den v124) hy h0 hA
def impl_isSide_v (v124 : Int) : Bool :=
  (impl_inRange_v v124 (1 : Int) (12 : Int))
theorem impl_isSide_tot (v124 : Int) : impl_isSide_g v124 = some (impl_isSide_v v124) := by
  unfold impl_isSide_g impl_isSide_T impl_isSide_v
  simp only [Tree.run]
  repeat' (first | rfl | split)
noncomputable def impl_isSide_F : DFn := fun args L =>
  match args with
  | [.int .i64 v124] =>
    .leaf (.bool (impl_isSide_v v124), L)
  | _ => .fail
theorem impl_isSide_Fok : COk Try.prog 79 impl_isSide_F true := by
  intro F L H args r L' hs ha hr
  unfold impl_isSide_F at hr
  split at hr
  · rename_i v124
    have hy := impl_isSide_tot v124
    generalize impl_isSide_v v124 = y at hy hr
    simp only [Tree.run, Option.some.injEq, Prod.mk.injEq] at hr
    obtain ⟨rfl, rfl⟩ := hr
    exact call_ok0 hs (fun k => (([] : List AV)[k]?).getD .top) [.int .i64 v124] [.int .i64 v124] (fun F' h0 hi hρ => ⟨by simp [DVs.av, DV.av, BR.av, hρ], impl_isSide_fn v124 F' (st_nil hi) ⟨trivial, trivial⟩ hy⟩) rfl
  · cases hr
/-! impl.length[float32] -/
noncomputable def impl_lengthF_LO (v125 : List Nat) : LOr := fun id e L =>
  match id with
  | _ => .fail
noncomputable def impl_lengthF_tab : List (FuncId × DFn × Bool) := []
theorem impl_lengthF_hO : OrcOk Try.prog (tabD impl_lengthF_tab) (tabM impl_lengthF_tab) := tabD_nil _
noncomputable def impl_lengthF_T (v125 : List Nat) : Tree (Int) :=
  .leaf ((v125.length : Nat) : Int)

noncomputable def impl_lengthF_g (v125 : List Nat) : Option (Int) := (impl_lengthF_T v125).run
def impl_lengthF_enc (v125 : List Nat) (y : Int) : Rs := (.int .i64 y, [])
theorem impl_lengthF_den (v125 : List Nat) : (den TT (tabD impl_lengthF_tab) (tabM impl_lengthF_tab) (impl_lengthF_LO v125) (codeOf Try.f80) ([.bslc (BR.root 0) (.f32 v125)] ++ List.replicate (Try.f80.ntmps - ([.bslc (BR.root 0) (.f32 v125)] : List DV).length) .undef) []).bind (retD TT Try.f80.results.toList 0) = (impl_lengthF_T v125).bind fun y => .leaf (impl_lengthF_enc v125 y) := by kernel_rfl
theorem impl_lengthF_fn (v125 : List Nat) (F : Fr) (h0 : St F [] F.H0) (hA : DVs.Ok F [] [.bslc (BR.root 0) (.f32 v125)]) {y : Int} (hy : impl_lengthF_g v125 = some y) : ∃ F' H', Fwd 0 F F' [] (impl_lengthF_enc v125 y).2 ∧ FnOk Try.prog 80 (DVs.av F [.bslc (BR.root 0) (.f32 v125)]) F.H0 ((impl_lengthF_enc v125 y).1.av F') H' ∧ St F' (impl_lengthF_enc v125 y).2 H' ∧ (impl_lengthF_enc v125 y).1.Ok F' (impl_lengthF_enc v125 y).2 :=
  fn_fin tok impl_lengthF_hO mixed Try.func80 Try.call80 (by kernel_rfl) (LoopsOk_eq (l := []) (by kernel_rfl) trivial) (impl_lengthF_den v125) hy h0 hA
def impl_lengthF_v (v125 : List Nat) : Int :=
  ((v125.length : Nat) : Int)
theorem impl_lengthF_tot (v125 : List Nat) : impl_lengthF_g v125 = some (impl_lengthF_v v125) := by
  unfold impl_lengthF_g impl_lengthF_T impl_lengthF_v
  simp only [Tree.run]
  repeat' (first | rfl | split)
noncomputable def impl_lengthF_F : DFn := fun args L =>
  match args with
  | [a1] =>
    optT (rowF32 L a1) fun v125 =>
    .leaf (.int .i64 (impl_lengthF_v v125), L)
  | _ => .fail
theorem impl_lengthF_Fok : COk Try.prog 80 impl_lengthF_F true := by
  intro F L H args r L' hs ha hr
  unfold impl_lengthF_F at hr
  split at hr
  · rename_i a1
    obtain ⟨v125, hv125, hr⟩ := optT_run hr
    have hy := impl_lengthF_tot v125
    generalize impl_lengthF_v v125 = y at hy hr
    simp only [Tree.run, Option.some.injEq, Prod.mk.injEq] at hr
    obtain ⟨rfl, rfl⟩ := hr
    exact call_ok0 hs (fun k => (([a1.av F] : List AV)[k]?).getD .top) [a1] [.bslc (BR.root 0) (.f32 v125)] (fun F' h0 hi hρ => ⟨by simp [DVs.av, DV.av, BR.av, hρ], impl_lengthF_fn v125 F' (st_nil hi) ⟨bslc_ok hi (by rw [h0, hρ]; exact rowF32_ok hs (DVs.okAt ha 0 rfl) hv125), trivial⟩ hy⟩) rfl
  · cases hr
/-! math.IsNaN -/
noncomputable def math_IsNaN_LO (v133 : Nat) : LOr := fun id e L =>
  match id with
  | _ => .fail
noncomputable def math_IsNaN_tab : List (FuncId × DFn × Bool) := []
theorem math_IsNaN_hO : OrcOk Try.prog (tabD math_IsNaN_tab) (tabM math_IsNaN_tab) := tabD_nil _
noncomputable def math_IsNaN_T (v133 : Nat) : Tree (Bool) :=
  .leaf (!feq .f64 v133 v133)

noncomputable def math_IsNaN_g (v133 : Nat) : Option (Bool) := (math_IsNaN_T v133).run
def math_IsNaN_enc (v133 : Nat) (y : Bool) : Rs := (.bool y, [])
theorem math_IsNaN_den (v133 : Nat) : (den TT (tabD math_IsNaN_tab) (tabM math_IsNaN_tab) (math_IsNaN_LO v133) (codeOf Try.f98) ([.flt .f64 v133] ++ List.replicate (Try.f98.ntmps - ([.flt .f64 v133] : List DV).length) .undef) []).bind (retD TT Try.f98.results.toList 0) = (math_IsNaN_T v133).bind fun y => .leaf (math_IsNaN_enc v133 y) := by kernel_rfl
theorem math_IsNaN_fn (v133 : Nat) (F : Fr) (h0 : St F [] F.H0) (hA : DVs.Ok F [] [.flt .f64 v133]) {y : Bool} (hy : math_IsNaN_g v133 = some y) : ∃ F' H', Fwd 0 F F' [] (math_IsNaN_enc v133 y).2 ∧ FnOk Try.prog 98 (DVs.av F [.flt .f64 v133]) F.H0 ((math_IsNaN_enc v133 y).1.av F') H' ∧ St F' (math_IsNaN_enc v133 y).2 H' ∧ (math_IsNaN_enc v133 y).1.Ok F' (math_IsNaN_enc v133 y).2 :=
  fn_fin tok math_IsNaN_hO mixed Try.func98 Try.call98 (by kernel_rfl) (LoopsOk_eq (l := []) (by kernel_rfl) trivial) (math_IsNaN_den v133) hy h0 hA
def math_IsNaN_v (v133 : Nat) : Bool :=
  !feq .f64 v133 v133
theorem math_IsNaN_tot (v133 : Nat) : math_IsNaN_g v133 = some (math_IsNaN_v v133) := by
  unfold math_IsNaN_g math_IsNaN_T math_IsNaN_v
  simp only [Tree.run]
  repeat' (first | rfl | split)
noncomputable def math_IsNaN_F : DFn := fun args L =>
  match args with
  | [.flt .f64 v133] =>
    .leaf (.bool (math_IsNaN_v v133), L)
  | _ => .fail
theorem math_IsNaN_Fok : COk Try.prog 98 math_IsNaN_F true := by
  intro F L H args r L' hs ha hr
  unfold math_IsNaN_F at hr
  split at hr
  · rename_i v133
    have hy := math_IsNaN_tot v133
    generalize math_IsNaN_v v133 = y at hy hr
    simp only [Tree.run, Option.some.injEq, Prod.mk.injEq] at hr
    obtain ⟨rfl, rfl⟩ := hr
    exact call_ok0 hs (fun k => (([] : List AV)[k]?).getD .top) [.flt .f64 v133] [.flt .f64 v133] (fun F' h0 hi hρ => ⟨by simp [DVs.av, DV.av, BR.av, hρ], math_IsNaN_fn v133 F' (st_nil hi) ⟨trivial, trivial⟩ hy⟩) rfl
  · cases hr
/-! math.IsInf -/
noncomputable def math_IsInf_LO (v134 : Nat) (v135 : Int) : LOr := fun id e L =>
  match id with
  | _ => .fail
noncomputable def math_IsInf_tab : List (FuncId × DFn × Bool) := [(100, Abs_F, true)]
theorem math_IsInf_hO : OrcOk Try.prog (tabD math_IsInf_tab) (tabM math_IsInf_tab) := tabD_cons Abs_Fok (tabD_nil _)
noncomputable def math_IsInf_T (v134 : Nat) (v135 : Int) : Tree (Bool) :=
  (.br (decide (v135 = (0 : Int))) (
  .leaf (fgrt .f64 (fabs v134) (9218868437227405311 : Nat))
  ) (
  (.br (decide (v135 < (0 : Int))) (
  .leaf (fgrt .f64 (fneg .f64 v134) (9218868437227405311 : Nat))
  ) (
  .leaf (fgrt .f64 v134 (9218868437227405311 : Nat))
  ))
  ))

noncomputable def math_IsInf_g (v134 : Nat) (v135 : Int) : Option (Bool) := (math_IsInf_T v134 v135).run
def math_IsInf_enc (v134 : Nat) (v135 : Int) (y : Bool) : Rs := (.bool y, [])
theorem math_IsInf_den (v134 : Nat) (v135 : Int) : (den TT (tabD math_IsInf_tab) (tabM math_IsInf_tab) (math_IsInf_LO v134 v135) (codeOf Try.f99) ([.flt .f64 v134, .int .i64 v135] ++ List.replicate (Try.f99.ntmps - ([.flt .f64 v134, .int .i64 v135] : List DV).length) .undef) []).bind (retD TT Try.f99.results.toList 0) = (math_IsInf_T v134 v135).bind fun y => .leaf (math_IsInf_enc v134 v135 y) := by kernel_rfl
theorem math_IsInf_fn (v134 : Nat) (v135 : Int) (F : Fr) (h0 : St F [] F.H0) (hA : DVs.Ok F [] [.flt .f64 v134, .int .i64 v135]) {y : Bool} (hy : math_IsInf_g v134 v135 = some y) : ∃ F' H', Fwd 0 F F' [] (math_IsInf_enc v134 v135 y).2 ∧ FnOk Try.prog 99 (DVs.av F [.flt .f64 v134, .int .i64 v135]) F.H0 ((math_IsInf_enc v134 v135 y).1.av F') H' ∧ St F' (math_IsInf_enc v134 v135 y).2 H' ∧ (math_IsInf_enc v134 v135 y).1.Ok F' (math_IsInf_enc v134 v135 y).2 :=
  fn_fin tok math_IsInf_hO mixed Try.func99 Try.call99 (by kernel_rfl) (LoopsOk_eq (l := []) (by kernel_rfl) trivial) (math_IsInf_den v134 v135) hy h0 hA
def math_IsInf_v (v134 : Nat) (v135 : Int) : Bool :=
  if (decide (v135 = (0 : Int))) = true then (
  fgrt .f64 (fabs v134) (9218868437227405311 : Nat)
  ) else (
  if (decide (v135 < (0 : Int))) = true then (
  fgrt .f64 (fneg .f64 v134) (9218868437227405311 : Nat)
  ) else (
  fgrt .f64 v134 (9218868437227405311 : Nat)
  )
  )
theorem math_IsInf_tot (v134 : Nat) (v135 : Int) : math_IsInf_g v134 v135 = some (math_IsInf_v v134 v135) := by
  unfold math_IsInf_g math_IsInf_T math_IsInf_v
  simp only [Tree.run]
  repeat' (first | rfl | split)
noncomputable def math_IsInf_F : DFn := fun args L =>
  match args with
  | [.flt .f64 v134, .int .i64 v135] =>
    .leaf (.bool (math_IsInf_v v134 v135), L)
  | _ => .fail
theorem math_IsInf_Fok : COk Try.prog 99 math_IsInf_F true := by
  intro F L H args r L' hs ha hr
  unfold math_IsInf_F at hr
  split at hr
  · rename_i v134 v135
    have hy := math_IsInf_tot v134 v135
    generalize math_IsInf_v v134 v135 = y at hy hr
    simp only [Tree.run, Option.some.injEq, Prod.mk.injEq] at hr
    obtain ⟨rfl, rfl⟩ := hr
    exact call_ok0 hs (fun k => (([] : List AV)[k]?).getD .top) [.flt .f64 v134, .int .i64 v135] [.flt .f64 v134, .int .i64 v135] (fun F' h0 hi hρ => ⟨by simp [DVs.av, DV.av, BR.av, hρ], math_IsInf_fn v134 v135 F' (st_nil hi) ⟨trivial, trivial, trivial⟩ hy⟩) rfl
  · cases hr
/-! impl.isFinite64 -/
noncomputable def impl_isFinite64_LO (v132 : Nat) : LOr := fun id e L =>
  match id with
  | _ => .fail
noncomputable def impl_isFinite64_tab : List (FuncId × DFn × Bool) := [(98, math_IsNaN_F, true), (99, math_IsInf_F, true)]
theorem impl_isFinite64_hO : OrcOk Try.prog (tabD impl_isFinite64_tab) (tabM impl_isFinite64_tab) := tabD_cons math_IsNaN_Fok (tabD_cons math_IsInf_Fok (tabD_nil _))
noncomputable def impl_isFinite64_T (v132 : Nat) : Tree (Bool) :=
  (.br (!(math_IsNaN_v v132)) (
  .leaf (!(math_IsInf_v v132 (0 : Int)))
  ) (
  .leaf false
  ))

noncomputable def impl_isFinite64_g (v132 : Nat) : Option (Bool) := (impl_isFinite64_T v132).run
def impl_isFinite64_enc (v132 : Nat) (y : Bool) : Rs := (.bool y, [])
theorem impl_isFinite64_den (v132 : Nat) : (den TT (tabD impl_isFinite64_tab) (tabM impl_isFinite64_tab) (impl_isFinite64_LO v132) (codeOf Try.f96) ([.flt .f64 v132] ++ List.replicate (Try.f96.ntmps - ([.flt .f64 v132] : List DV).length) .undef) []).bind (retD TT Try.f96.results.toList 0) = (impl_isFinite64_T v132).bind fun y => .leaf (impl_isFinite64_enc v132 y) := by kernel_rfl
theorem impl_isFinite64_fn (v132 : Nat) (F : Fr) (h0 : St F [] F.H0) (hA : DVs.Ok F [] [.flt .f64 v132]) {y : Bool} (hy : impl_isFinite64_g v132 = some y) : ∃ F' H', Fwd 0 F F' [] (impl_isFinite64_enc v132 y).2 ∧ FnOk Try.prog 96 (DVs.av F [.flt .f64 v132]) F.H0 ((impl_isFinite64_enc v132 y).1.av F') H' ∧ St F' (impl_isFinite64_enc v132 y).2 H' ∧ (impl_isFinite64_enc v132 y).1.Ok F' (impl_isFinite64_enc v132 y).2 :=
  fn_fin tok impl_isFinite64_hO mixed Try.func96 Try.call96 (by kernel_rfl) (LoopsOk_eq (l := []) (by kernel_rfl) trivial) (impl_isFinite64_den v132) hy h0 hA
def impl_isFinite64_v (v132 : Nat) : Bool :=
  if (!(math_IsNaN_v v132)) = true then (
  !(math_IsInf_v v132 (0 : Int))
  ) else (
  false
  )
theorem impl_isFinite64_tot (v132 : Nat) : impl_isFinite64_g v132 = some (impl_isFinite64_v v132) := by
  unfold impl_isFinite64_g impl_isFinite64_T impl_isFinite64_v
  simp only [Tree.run]
  repeat' (first | rfl | split)
noncomputable def impl_isFinite64_F : DFn := fun args L =>
  match args with
  | [.flt .f64 v132] =>
    .leaf (.bool (impl_isFinite64_v v132), L)
  | _ => .fail
theorem impl_isFinite64_Fok : COk Try.prog 96 impl_isFinite64_F true := by
  intro F L H args r L' hs ha hr
  unfold impl_isFinite64_F at hr
  split at hr
  · rename_i v132
    have hy := impl_isFinite64_tot v132
    generalize impl_isFinite64_v v132 = y at hy hr
    simp only [Tree.run, Option.some.injEq, Prod.mk.injEq] at hr
    obtain ⟨rfl, rfl⟩ := hr
    exact call_ok0 hs (fun k => (([] : List AV)[k]?).getD .top) [.flt .f64 v132] [.flt .f64 v132] (fun F' h0 hi hρ => ⟨by simp [DVs.av, DV.av, BR.av, hρ], impl_isFinite64_fn v132 F' (st_nil hi) ⟨trivial, trivial⟩ hy⟩) rfl
  · cases hr
/-! impl.IsFinite -/
noncomputable def impl_IsFinite_LO (v131 : Nat) : LOr := fun id e L =>
  match id with
  | _ => .fail
noncomputable def impl_IsFinite_tab : List (FuncId × DFn × Bool) := [(96, impl_isFinite64_F, true)]
theorem impl_IsFinite_hO : OrcOk Try.prog (tabD impl_IsFinite_tab) (tabM impl_IsFinite_tab) := tabD_cons impl_isFinite64_Fok (tabD_nil _)
noncomputable def impl_IsFinite_T (v131 : Nat) : Tree (Bool) :=
  .leaf (impl_isFinite64_v (wid v131))

noncomputable def impl_IsFinite_g (v131 : Nat) : Option (Bool) := (impl_IsFinite_T v131).run
def impl_IsFinite_enc (v131 : Nat) (y : Bool) : Rs := (.bool y, [])
theorem impl_IsFinite_den (v131 : Nat) : (den TT (tabD impl_IsFinite_tab) (tabM impl_IsFinite_tab) (impl_IsFinite_LO v131) (codeOf Try.f91) ([.flt .f32 v131] ++ List.replicate (Try.f91.ntmps - ([.flt .f32 v131] : List DV).length) .undef) []).bind (retD TT Try.f91.results.toList 0) = (impl_IsFinite_T v131).bind fun y => .leaf (impl_IsFinite_enc v131 y) := by kernel_rfl
theorem impl_IsFinite_fn (v131 : Nat) (F : Fr) (h0 : St F [] F.H0) (hA : DVs.Ok F [] [.flt .f32 v131]) {y : Bool} (hy : impl_IsFinite_g v131 = some y) : ∃ F' H', Fwd 0 F F' [] (impl_IsFinite_enc v131 y).2 ∧ FnOk Try.prog 91 (DVs.av F [.flt .f32 v131]) F.H0 ((impl_IsFinite_enc v131 y).1.av F') H' ∧ St F' (impl_IsFinite_enc v131 y).2 H' ∧ (impl_IsFinite_enc v131 y).1.Ok F' (impl_IsFinite_enc v131 y).2 :=
  fn_fin tok impl_IsFinite_hO mixed Try.func91 Try.call91 (by kernel_rfl) (LoopsOk_eq (l := []) (by kernel_rfl) trivial) (impl_IsFinite_den v131) hy h0 hA
def impl_IsFinite_v (v131 : Nat) : Bool :=
  (impl_isFinite64_v (wid v131))
theorem impl_IsFinite_tot (v131 : Nat) : impl_IsFinite_g v131 = some (impl_IsFinite_v v131) := by
  unfold impl_IsFinite_g impl_IsFinite_T impl_IsFinite_v
  simp only [Tree.run]
  repeat' (first | rfl | split)
noncomputable def impl_IsFinite_F : DFn := fun args L =>
  match args with
  | [.flt .f32 v131] =>
    .leaf (.bool (impl_IsFinite_v v131), L)
  | _ => .fail
theorem impl_IsFinite_Fok : COk Try.prog 91 impl_IsFinite_F true := by
  intro F L H args r L' hs ha hr
  unfold impl_IsFinite_F at hr
  split at hr
  · rename_i v131
    have hy := impl_IsFinite_tot v131
    generalize impl_IsFinite_v v131 = y at hy hr
    simp only [Tree.run, Option.some.injEq, Prod.mk.injEq] at hr
    obtain ⟨rfl, rfl⟩ := hr
    exact call_ok0 hs (fun k => (([] : List AV)[k]?).getD .top) [.flt .f32 v131] [.flt .f32 v131] (fun F' h0 hi hρ => ⟨by simp [DVs.av, DV.av, BR.av, hρ], impl_IsFinite_fn v131 F' (st_nil hi) ⟨trivial, trivial⟩ hy⟩) rfl
  · cases hr
/-! impl.areFinite$1 -/
noncomputable def impl_areFinite_1_LO (v130 : Nat) : LOr := fun id e L =>
  match id with
  | _ => .fail
noncomputable def impl_areFinite_1_tab : List (FuncId × DFn × Bool) := [(91, impl_IsFinite_F, true)]
theorem impl_areFinite_1_hO : OrcOk Try.prog (tabD impl_areFinite_1_tab) (tabM impl_areFinite_1_tab) := tabD_cons impl_IsFinite_Fok (tabD_nil _)
noncomputable def impl_areFinite_1_T (v130 : Nat) : Tree (Bool) :=
  .leaf (!(impl_IsFinite_v v130))

noncomputable def impl_areFinite_1_g (v130 : Nat) : Option (Bool) := (impl_areFinite_1_T v130).run
def impl_areFinite_1_enc (v130 : Nat) (y : Bool) : Rs := (.bool y, [])
theorem impl_areFinite_1_den (v130 : Nat) : (den TT (tabD impl_areFinite_1_tab) (tabM impl_areFinite_1_tab) (impl_areFinite_1_LO v130) (codeOf Try.f90) ([.flt .f32 v130] ++ List.replicate (Try.f90.ntmps - ([.flt .f32 v130] : List DV).length) .undef) []).bind (retD TT Try.f90.results.toList 0) = (impl_areFinite_1_T v130).bind fun y => .leaf (impl_areFinite_1_enc v130 y) := by kernel_rfl
theorem impl_areFinite_1_fn (v130 : Nat) (F : Fr) (h0 : St F [] F.H0) (hA : DVs.Ok F [] [.flt .f32 v130]) {y : Bool} (hy : impl_areFinite_1_g v130 = some y) : ∃ F' H', Fwd 0 F F' [] (impl_areFinite_1_enc v130 y).2 ∧ FnOk Try.prog 90 (DVs.av F [.flt .f32 v130]) F.H0 ((impl_areFinite_1_enc v130 y).1.av F') H' ∧ St F' (impl_areFinite_1_enc v130 y).2 H' ∧ (impl_areFinite_1_enc v130 y).1.Ok F' (impl_areFinite_1_enc v130 y).2 :=
  fn_fin tok impl_areFinite_1_hO mixed Try.func90 Try.call90 (by kernel_rfl) (LoopsOk_eq (l := []) (by kernel_rfl) trivial) (impl_areFinite_1_den v130) hy h0 hA
def impl_areFinite_1_v (v130 : Nat) : Bool :=
  !(impl_IsFinite_v v130)
theorem impl_areFinite_1_tot (v130 : Nat) : impl_areFinite_1_g v130 = some (impl_areFinite_1_v v130) := by
  unfold impl_areFinite_1_g impl_areFinite_1_T impl_areFinite_1_v
  simp only [Tree.run]
  repeat' (first | rfl | split)
noncomputable def impl_areFinite_1_F : DFn := fun args L =>
  match args with
  | [.flt .f32 v130] =>
    .leaf (.bool (impl_areFinite_1_v v130), L)
  | _ => .fail
theorem impl_areFinite_1_Fok : COk Try.prog 90 impl_areFinite_1_F true := by
  intro F L H args r L' hs ha hr
  unfold impl_areFinite_1_F at hr
  split at hr
  · rename_i v130
    have hy := impl_areFinite_1_tot v130
    generalize impl_areFinite_1_v v130 = y at hy hr
    simp only [Tree.run, Option.some.injEq, Prod.mk.injEq] at hr
    obtain ⟨rfl, rfl⟩ := hr
    exact call_ok0 hs (fun k => (([] : List AV)[k]?).getD .top) [.flt .f32 v130] [.flt .f32 v130] (fun F' h0 hi hρ => ⟨by simp [DVs.av, DV.av, BR.av, hρ], impl_areFinite_1_fn v130 F' (st_nil hi) ⟨trivial, trivial⟩ hy⟩) rfl
  · cases hr
/-! slices.IndexFunc[list of float32,float32] -/
noncomputable def slices_IndexFuncF_l0_T (v128 : List Nat) (s : Int) : Tree ((Int) ⊕ ((Int) ⊕ (Unit))) :=
  (.br (decide (s < ((v128.length : Nat) : Int))) (
  (.grd (inb s v128.length) <|
  (.br (impl_areFinite_1_v (nth v128 (Int.toNat s))) (
  .leaf (.inr (.inl s))
  ) (
  .leaf (.inl (IntKind.i64.wrap (s + (1 : Int))))
  )))
  ) (
  .leaf (.inr (.inr ()))
  ))

noncomputable def slices_IndexFuncF_l0_g (v128 : List Nat) (s0 : Int) : Option ((Int) ⊕ (Unit)) := whileM (fun s => (slices_IndexFuncF_l0_T v128 s).run) s0
def slices_IndexFuncF_l0_E (v128 : List Nat) (s : Int) : Sd := ([.bslc (BR.root 0) (.f32 v128),.fn 90 [],tp,tp,tp,tp,tp,.int .i64 ((v128.length : Nat) : Int),.int .i64 s,tp,tp,tp,tp,tp,tp,tp,tp,tp,tp], [])
def slices_IndexFuncF_l0_X (v128 : List Nat) (x : (Int) ⊕ (Unit)) : Out := (match x with | .inl x => (.ret, [tp,tp,tp,tp,.int .i64 x,tp,tp,tp,tp,tp,tp,tp,tp,tp,tp,tp,tp,tp,tp], []) | .inr x => (.normal, [tp,tp,tp,tp,tp,tp,tp,tp,tp,tp,tp,tp,tp,tp,tp,tp,tp,tp,tp], []))
def slices_IndexFuncF_l0_kill : List Nat := KL true [0,2,5,2,10]
def slices_IndexFuncF_l0_nx : Exit → List Nat
  | .exit 0 => KL true [19]
  | .ret => KL true [4,1,14]
  | _ => []
noncomputable def slices_IndexFuncF_LO (v128 : List Nat) : LOr := fun id e L =>
  match id with
  | 0 => .need (normA 0 slices_IndexFuncF_l0_kill e L = some (slices_IndexFuncF_l0_E v128 (gI (vAt e 8)))) (.call (slices_IndexFuncF_l0_g v128 (gI (vAt e 8))) fun x => .sum x (fun b0 => .leaf (slices_IndexFuncF_l0_X v128 (.inl b0))) (fun c0 => .leaf (slices_IndexFuncF_l0_X v128 (.inr c0))))
  | _ => .fail
noncomputable def slices_IndexFuncF_tab : List (FuncId × DFn × Bool) := [(90, impl_areFinite_1_F, true)]
theorem slices_IndexFuncF_hO : OrcOk Try.prog (tabD slices_IndexFuncF_tab) (tabM slices_IndexFuncF_tab) := tabD_cons impl_areFinite_1_Fok (tabD_nil _)
theorem slices_IndexFuncF_l0_be (v128 : List Nat) (s : Int) : bodyT TT (tabD slices_IndexFuncF_tab) (tabM slices_IndexFuncF_tab) (slices_IndexFuncF_LO v128) 0 slices_IndexFuncF_l0_kill slices_IndexFuncF_l0_nx (bodyOf Try.f95 0) 0 (slices_IndexFuncF_l0_E v128 s) = (slices_IndexFuncF_l0_T v128 s).bind fun y => .leaf (outS (slices_IndexFuncF_l0_E v128) (slices_IndexFuncF_l0_X v128) y) := by kernel_rfl
theorem slices_IndexFuncF_l0_ok (v128 : List Nat) : LSound Try.prog 0 (slices_IndexFuncF_LO v128) 0 (bodyOf Try.f95 0) := by
  intro e L out h
  exact lo_ok (E := slices_IndexFuncF_l0_E v128) (gT := slices_IndexFuncF_l0_T v128) (X := slices_IndexFuncF_l0_X v128) (s0 := (gI (vAt e 8))) tok slices_IndexFuncF_hO mixed (LoopsOk_eq (l := []) (by kernel_rfl) trivial) (slices_IndexFuncF_l0_be v128) rfl (by intro x; (cases x with | inl b => rfl | inr x => exact rfl)) h
noncomputable def slices_IndexFuncF_T (v128 : List Nat) : Tree (Int) :=
  (.need (some (slices_IndexFuncF_l0_E v128 (0 : Int)) = some (slices_IndexFuncF_l0_E v128 (0 : Int))) <|
  (.call (slices_IndexFuncF_l0_g v128 (0 : Int)) fun v138 =>
  (.sum v138 (fun v139 =>
  .leaf v139
  ) (fun v140 =>
  .leaf (-1 : Int)
  ))))

noncomputable def slices_IndexFuncF_g (v128 : List Nat) : Option (Int) := (slices_IndexFuncF_T v128).run
def slices_IndexFuncF_enc (v128 : List Nat) (y : Int) : Rs := (.int .i64 y, [])
theorem slices_IndexFuncF_den (v128 : List Nat) : (den TT (tabD slices_IndexFuncF_tab) (tabM slices_IndexFuncF_tab) (slices_IndexFuncF_LO v128) (codeOf Try.f95) ([.bslc (BR.root 0) (.f32 v128), .fn 90 []] ++ List.replicate (Try.f95.ntmps - ([.bslc (BR.root 0) (.f32 v128), .fn 90 []] : List DV).length) .undef) []).bind (retD TT Try.f95.results.toList 0) = (slices_IndexFuncF_T v128).bind fun y => .leaf (slices_IndexFuncF_enc v128 y) := by kernel_rfl
theorem slices_IndexFuncF_fn (v128 : List Nat) (F : Fr) (h0 : St F [] F.H0) (hA : DVs.Ok F [] [.bslc (BR.root 0) (.f32 v128), .fn 90 []]) {y : Int} (hy : slices_IndexFuncF_g v128 = some y) : ∃ F' H', Fwd 0 F F' [] (slices_IndexFuncF_enc v128 y).2 ∧ FnOk Try.prog 95 (DVs.av F [.bslc (BR.root 0) (.f32 v128), .fn 90 []]) F.H0 ((slices_IndexFuncF_enc v128 y).1.av F') H' ∧ St F' (slices_IndexFuncF_enc v128 y).2 H' ∧ (slices_IndexFuncF_enc v128 y).1.Ok F' (slices_IndexFuncF_enc v128 y).2 :=
  fn_fin tok slices_IndexFuncF_hO mixed Try.func95 Try.call95 (by kernel_rfl) (LoopsOk_eq (l := [(0, bodyOf Try.f95 0)]) (by kernel_rfl) ⟨slices_IndexFuncF_l0_ok v128, trivial⟩) (slices_IndexFuncF_den v128) hy h0 hA
noncomputable def slices_IndexFuncF_F : DFn := fun args L =>
  match args with
  | [a1, .fn 90 []] =>
    optT (rowF32 L a1) fun v128 =>
    .call (slices_IndexFuncF_g v128) fun y => .leaf (.int .i64 y, L)
  | _ => .fail
theorem slices_IndexFuncF_Fok : COk Try.prog 95 slices_IndexFuncF_F true := by
  intro F L H args r L' hs ha hr
  unfold slices_IndexFuncF_F at hr
  split at hr
  · rename_i a1
    obtain ⟨v128, hv128, hr⟩ := optT_run hr
    simp only [Tree.run] at hr
    obtain ⟨y, hy, hr⟩ := Option.bind_eq_some_iff.1 hr
    simp only [Tree.run, Option.some.injEq, Prod.mk.injEq] at hr
    obtain ⟨rfl, rfl⟩ := hr
    exact call_ok0 hs (fun k => (([a1.av F] : List AV)[k]?).getD .top) [a1, .fn 90 []] [.bslc (BR.root 0) (.f32 v128), .fn 90 []] (fun F' h0 hi hρ => ⟨by simp [DVs.av, DV.av, BR.av, hρ], slices_IndexFuncF_fn v128 F' (st_nil hi) ⟨bslc_ok hi (by rw [h0, hρ]; exact rowF32_ok hs (DVs.okAt ha 0 rfl) hv128), trivial, trivial⟩ hy⟩) rfl
  · cases hr
/-! slices.ContainsFunc[list of float32,float32] -/
noncomputable def slices_ContainsFuncF_LO (v127 : List Nat) : LOr := fun id e L =>
  match id with
  | _ => .fail
noncomputable def slices_ContainsFuncF_tab : List (FuncId × DFn × Bool) := [(95, slices_IndexFuncF_F, true)]
theorem slices_ContainsFuncF_hO : OrcOk Try.prog (tabD slices_ContainsFuncF_tab) (tabM slices_ContainsFuncF_tab) := tabD_cons slices_IndexFuncF_Fok (tabD_nil _)
noncomputable def slices_ContainsFuncF_T (v127 : List Nat) : Tree (Bool) :=
  (.call (slices_IndexFuncF_g v127) fun v141 =>
  .leaf (decide ((0 : Int) ≤ v141)))

noncomputable def slices_ContainsFuncF_g (v127 : List Nat) : Option (Bool) := (slices_ContainsFuncF_T v127).run
def slices_ContainsFuncF_enc (v127 : List Nat) (y : Bool) : Rs := (.bool y, [])
theorem slices_ContainsFuncF_den (v127 : List Nat) : (den TT (tabD slices_ContainsFuncF_tab) (tabM slices_ContainsFuncF_tab) (slices_ContainsFuncF_LO v127) (codeOf Try.f89) ([.bslc (BR.root 0) (.f32 v127), .fn 90 []] ++ List.replicate (Try.f89.ntmps - ([.bslc (BR.root 0) (.f32 v127), .fn 90 []] : List DV).length) .undef) []).bind (retD TT Try.f89.results.toList 0) = (slices_ContainsFuncF_T v127).bind fun y => .leaf (slices_ContainsFuncF_enc v127 y) := by kernel_rfl
theorem slices_ContainsFuncF_fn (v127 : List Nat) (F : Fr) (h0 : St F [] F.H0) (hA : DVs.Ok F [] [.bslc (BR.root 0) (.f32 v127), .fn 90 []]) {y : Bool} (hy : slices_ContainsFuncF_g v127 = some y) : ∃ F' H', Fwd 0 F F' [] (slices_ContainsFuncF_enc v127 y).2 ∧ FnOk Try.prog 89 (DVs.av F [.bslc (BR.root 0) (.f32 v127), .fn 90 []]) F.H0 ((slices_ContainsFuncF_enc v127 y).1.av F') H' ∧ St F' (slices_ContainsFuncF_enc v127 y).2 H' ∧ (slices_ContainsFuncF_enc v127 y).1.Ok F' (slices_ContainsFuncF_enc v127 y).2 :=
  fn_fin tok slices_ContainsFuncF_hO mixed Try.func89 Try.call89 (by kernel_rfl) (LoopsOk_eq (l := []) (by kernel_rfl) trivial) (slices_ContainsFuncF_den v127) hy h0 hA
noncomputable def slices_ContainsFuncF_F : DFn := fun args L =>
  match args with
  | [a1, .fn 90 []] =>
    optT (rowF32 L a1) fun v127 =>
    .call (slices_ContainsFuncF_g v127) fun y => .leaf (.bool y, L)
  | _ => .fail
theorem slices_ContainsFuncF_Fok : COk Try.prog 89 slices_ContainsFuncF_F true := by
  intro F L H args r L' hs ha hr
  unfold slices_ContainsFuncF_F at hr
  split at hr
  · rename_i a1
    obtain ⟨v127, hv127, hr⟩ := optT_run hr
    simp only [Tree.run] at hr
    obtain ⟨y, hy, hr⟩ := Option.bind_eq_some_iff.1 hr
    simp only [Tree.run, Option.some.injEq, Prod.mk.injEq] at hr
    obtain ⟨rfl, rfl⟩ := hr
    exact call_ok0 hs (fun k => (([a1.av F] : List AV)[k]?).getD .top) [a1, .fn 90 []] [.bslc (BR.root 0) (.f32 v127), .fn 90 []] (fun F' h0 hi hρ => ⟨by simp [DVs.av, DV.av, BR.av, hρ], slices_ContainsFuncF_fn v127 F' (st_nil hi) ⟨bslc_ok hi (by rw [h0, hρ]; exact rowF32_ok hs (DVs.okAt ha 0 rfl) hv127), trivial, trivial⟩ hy⟩) rfl
  · cases hr
/-! impl.areFinite -/
noncomputable def impl_areFinite_LO (v126 : List Nat) : LOr := fun id e L =>
  match id with
  | _ => .fail
noncomputable def impl_areFinite_tab : List (FuncId × DFn × Bool) := [(89, slices_ContainsFuncF_F, true)]
theorem impl_areFinite_hO : OrcOk Try.prog (tabD impl_areFinite_tab) (tabM impl_areFinite_tab) := tabD_cons slices_ContainsFuncF_Fok (tabD_nil _)
noncomputable def impl_areFinite_T (v126 : List Nat) : Tree (Bool) :=
  (.call (slices_ContainsFuncF_g v126) fun v142 =>
  .leaf (!v142))

noncomputable def impl_areFinite_g (v126 : List Nat) : Option (Bool) := (impl_areFinite_T v126).run
def impl_areFinite_enc (v126 : List Nat) (y : Bool) : Rs := (.bool y, [])
theorem impl_areFinite_den (v126 : List Nat) : (den TT (tabD impl_areFinite_tab) (tabM impl_areFinite_tab) (impl_areFinite_LO v126) (codeOf Try.f81) ([.bslc (BR.root 0) (.f32 v126)] ++ List.replicate (Try.f81.ntmps - ([.bslc (BR.root 0) (.f32 v126)] : List DV).length) .undef) []).bind (retD TT Try.f81.results.toList 0) = (impl_areFinite_T v126).bind fun y => .leaf (impl_areFinite_enc v126 y) := by kernel_rfl
theorem impl_areFinite_fn (v126 : List Nat) (F : Fr) (h0 : St F [] F.H0) (hA : DVs.Ok F [] [.bslc (BR.root 0) (.f32 v126)]) {y : Bool} (hy : impl_areFinite_g v126 = some y) : ∃ F' H', Fwd 0 F F' [] (impl_areFinite_enc v126 y).2 ∧ FnOk Try.prog 81 (DVs.av F [.bslc (BR.root 0) (.f32 v126)]) F.H0 ((impl_areFinite_enc v126 y).1.av F') H' ∧ St F' (impl_areFinite_enc v126 y).2 H' ∧ (impl_areFinite_enc v126 y).1.Ok F' (impl_areFinite_enc v126 y).2 :=
  fn_fin tok impl_areFinite_hO mixed Try.func81 Try.call81 (by kernel_rfl) (LoopsOk_eq (l := []) (by kernel_rfl) trivial) (impl_areFinite_den v126) hy h0 hA
noncomputable def impl_areFinite_F : DFn := fun args L =>
  match args with
  | [a1] =>
    optT (rowF32 L a1) fun v126 =>
    .call (impl_areFinite_g v126) fun y => .leaf (.bool y, L)
  | _ => .fail
theorem impl_areFinite_Fok : COk Try.prog 81 impl_areFinite_F true := by
  intro F L H args r L' hs ha hr
  unfold impl_areFinite_F at hr
  split at hr
  · rename_i a1
    obtain ⟨v126, hv126, hr⟩ := optT_run hr
    simp only [Tree.run] at hr
    obtain ⟨y, hy, hr⟩ := Option.bind_eq_some_iff.1 hr
    simp only [Tree.run, Option.some.injEq, Prod.mk.injEq] at hr
    obtain ⟨rfl, rfl⟩ := hr
    exact call_ok0 hs (fun k => (([a1.av F] : List AV)[k]?).getD .top) [a1] [.bslc (BR.root 0) (.f32 v126)] (fun F' h0 hi hρ => ⟨by simp [DVs.av, DV.av, BR.av, hρ], impl_areFinite_fn v126 F' (st_nil hi) ⟨bslc_ok hi (by rw [h0, hρ]; exact rowF32_ok hs (DVs.okAt ha 0 rfl) hv126), trivial⟩ hy⟩) rfl
  · cases hr
/-! impl.ValidMatrix -/
noncomputable def impl_ValidMatrix_LO (v121 : Int) (v122 : Int) (v123 : List Nat) : LOr := fun id e L =>
  match id with
  | _ => .fail
noncomputable def impl_ValidMatrix_tab : List (FuncId × DFn × Bool) := [(79, impl_isSide_F, true), (80, impl_lengthF_F, true), (81, impl_areFinite_F, true)]
theorem impl_ValidMatrix_hO : OrcOk Try.prog (tabD impl_ValidMatrix_tab) (tabM impl_ValidMatrix_tab) := tabD_cons impl_isSide_Fok (tabD_cons impl_lengthF_Fok (tabD_cons impl_areFinite_Fok (tabD_nil _)))
noncomputable def impl_ValidMatrix_T (v121 : Int) (v122 : Int) (v123 : List Nat) : Tree (Bool) :=
  (.br (impl_isSide_v v121) (
  (.br (impl_isSide_v v122) (
  (.br (decide ((impl_lengthF_v v123) = IntKind.i64.wrap (v121 * v122))) (
  (.call (impl_areFinite_g v123) fun v143 =>
  .leaf v143)
  ) (
  .leaf false
  ))
  ) (
  .leaf false
  ))
  ) (
  .leaf false
  ))

noncomputable def impl_ValidMatrix_g (v121 : Int) (v122 : Int) (v123 : List Nat) : Option (Bool) := (impl_ValidMatrix_T v121 v122 v123).run
def impl_ValidMatrix_enc (v121 : Int) (v122 : Int) (v123 : List Nat) (y : Bool) : Rs := (.bool y, [])
theorem impl_ValidMatrix_den (v121 : Int) (v122 : Int) (v123 : List Nat) : (den TT (tabD impl_ValidMatrix_tab) (tabM impl_ValidMatrix_tab) (impl_ValidMatrix_LO v121 v122 v123) (codeOf Try.f58) ([.agg [.int .i64 v121, .int .i64 v122, .bslc (BR.root 0) (.f32 v123)]] ++ List.replicate (Try.f58.ntmps - ([.agg [.int .i64 v121, .int .i64 v122, .bslc (BR.root 0) (.f32 v123)]] : List DV).length) .undef) []).bind (retD TT Try.f58.results.toList 0) = (impl_ValidMatrix_T v121 v122 v123).bind fun y => .leaf (impl_ValidMatrix_enc v121 v122 v123 y) := by kernel_rfl
theorem impl_ValidMatrix_fn (v121 : Int) (v122 : Int) (v123 : List Nat) (F : Fr) (h0 : St F [] F.H0) (hA : DVs.Ok F [] [.agg [.int .i64 v121, .int .i64 v122, .bslc (BR.root 0) (.f32 v123)]]) {y : Bool} (hy : impl_ValidMatrix_g v121 v122 v123 = some y) : ∃ F' H', Fwd 0 F F' [] (impl_ValidMatrix_enc v121 v122 v123 y).2 ∧ FnOk Try.prog 58 (DVs.av F [.agg [.int .i64 v121, .int .i64 v122, .bslc (BR.root 0) (.f32 v123)]]) F.H0 ((impl_ValidMatrix_enc v121 v122 v123 y).1.av F') H' ∧ St F' (impl_ValidMatrix_enc v121 v122 v123 y).2 H' ∧ (impl_ValidMatrix_enc v121 v122 v123 y).1.Ok F' (impl_ValidMatrix_enc v121 v122 v123 y).2 :=
  fn_fin tok impl_ValidMatrix_hO mixed Try.func58 Try.call58 (by kernel_rfl) (LoopsOk_eq (l := []) (by kernel_rfl) trivial) (impl_ValidMatrix_den v121 v122 v123) hy h0 hA
noncomputable def impl_ValidMatrix_F : DFn := fun args L =>
  match args with
  | [.agg [.int .i64 v121, .int .i64 v122, a1]] =>
    optT (rowF32 L a1) fun v123 =>
    .call (impl_ValidMatrix_g v121 v122 v123) fun y => .leaf (.bool y, L)
  | _ => .fail
theorem impl_ValidMatrix_Fok : COk Try.prog 58 impl_ValidMatrix_F true := by
  intro F L H args r L' hs ha hr
  unfold impl_ValidMatrix_F at hr
  split at hr
  · rename_i v121 v122 a1
    obtain ⟨v123, hv123, hr⟩ := optT_run hr
    simp only [Tree.run] at hr
    obtain ⟨y, hy, hr⟩ := Option.bind_eq_some_iff.1 hr
    simp only [Tree.run, Option.some.injEq, Prod.mk.injEq] at hr
    obtain ⟨rfl, rfl⟩ := hr
    exact call_ok0 hs (fun k => (([a1.av F] : List AV)[k]?).getD .top) [.agg [.int .i64 v121, .int .i64 v122, a1]] [.agg [.int .i64 v121, .int .i64 v122, .bslc (BR.root 0) (.f32 v123)]] (fun F' h0 hi hρ => ⟨by simp [DVs.av, DV.av, BR.av, hρ], impl_ValidMatrix_fn v121 v122 v123 F' (st_nil hi) ⟨⟨trivial, trivial, bslc_ok hi (by rw [h0, hρ]; exact rowF32_ok hs (DVs.okAt (DVs.okAt ha 0 rfl) 2 rfl) hv123), trivial⟩, trivial⟩ hy⟩) rfl
  · cases hr
/-! impl.ValidSheet -/
noncomputable def impl_ValidSheet_LO (v106 : ByteArray) (v107 : Int) (v108 : Int) (v109 : List Nat) : LOr := fun id e L =>
  match id with
  | _ => .fail
noncomputable def impl_ValidSheet_tab : List (FuncId × DFn × Bool) := [(57, impl_IsName_F, true), (58, impl_ValidMatrix_F, true)]
theorem impl_ValidSheet_hO : OrcOk Try.prog (tabD impl_ValidSheet_tab) (tabM impl_ValidSheet_tab) := tabD_cons impl_IsName_Fok (tabD_cons impl_ValidMatrix_Fok (tabD_nil _))
noncomputable def impl_ValidSheet_T (v106 : ByteArray) (v107 : Int) (v108 : Int) (v109 : List Nat) : Tree (Bool) :=
  (.call (impl_IsName_g v106) fun v120 =>
  (.br v120 (
  (.call (impl_ValidMatrix_g v107 v108 v109) fun v144 =>
  .leaf v144)
  ) (
  .leaf false
  )))

noncomputable def impl_ValidSheet_g (v106 : ByteArray) (v107 : Int) (v108 : Int) (v109 : List Nat) : Option (Bool) := (impl_ValidSheet_T v106 v107 v108 v109).run
def impl_ValidSheet_enc (v106 : ByteArray) (v107 : Int) (v108 : Int) (v109 : List Nat) (y : Bool) : Rs := (.bool y, [])
theorem impl_ValidSheet_den (v106 : ByteArray) (v107 : Int) (v108 : Int) (v109 : List Nat) : (den TT (tabD impl_ValidSheet_tab) (tabM impl_ValidSheet_tab) (impl_ValidSheet_LO v106 v107 v108 v109) (codeOf Try.f31) ([.agg [.str v106, .int .i64 v107, .int .i64 v108, .bslc (BR.root 0) (.f32 v109)]] ++ List.replicate (Try.f31.ntmps - ([.agg [.str v106, .int .i64 v107, .int .i64 v108, .bslc (BR.root 0) (.f32 v109)]] : List DV).length) .undef) []).bind (retD TT Try.f31.results.toList 0) = (impl_ValidSheet_T v106 v107 v108 v109).bind fun y => .leaf (impl_ValidSheet_enc v106 v107 v108 v109 y) := by kernel_rfl
theorem impl_ValidSheet_fn (v106 : ByteArray) (v107 : Int) (v108 : Int) (v109 : List Nat) (F : Fr) (h0 : St F [] F.H0) (hA : DVs.Ok F [] [.agg [.str v106, .int .i64 v107, .int .i64 v108, .bslc (BR.root 0) (.f32 v109)]]) {y : Bool} (hy : impl_ValidSheet_g v106 v107 v108 v109 = some y) : ∃ F' H', Fwd 0 F F' [] (impl_ValidSheet_enc v106 v107 v108 v109 y).2 ∧ FnOk Try.prog 31 (DVs.av F [.agg [.str v106, .int .i64 v107, .int .i64 v108, .bslc (BR.root 0) (.f32 v109)]]) F.H0 ((impl_ValidSheet_enc v106 v107 v108 v109 y).1.av F') H' ∧ St F' (impl_ValidSheet_enc v106 v107 v108 v109 y).2 H' ∧ (impl_ValidSheet_enc v106 v107 v108 v109 y).1.Ok F' (impl_ValidSheet_enc v106 v107 v108 v109 y).2 :=
  fn_fin tok impl_ValidSheet_hO mixed Try.func31 Try.call31 (by kernel_rfl) (LoopsOk_eq (l := []) (by kernel_rfl) trivial) (impl_ValidSheet_den v106 v107 v108 v109) hy h0 hA
noncomputable def impl_ValidSheet_F : DFn := fun args L =>
  match args with
  | [.agg [.str v106, .int .i64 v107, .int .i64 v108, a1]] =>
    optT (rowF32 L a1) fun v109 =>
    .call (impl_ValidSheet_g v106 v107 v108 v109) fun y => .leaf (.bool y, L)
  | _ => .fail
theorem impl_ValidSheet_Fok : COk Try.prog 31 impl_ValidSheet_F true := by
  intro F L H args r L' hs ha hr
  unfold impl_ValidSheet_F at hr
  split at hr
  · rename_i v106 v107 v108 a1
    obtain ⟨v109, hv109, hr⟩ := optT_run hr
    simp only [Tree.run] at hr
    obtain ⟨y, hy, hr⟩ := Option.bind_eq_some_iff.1 hr
    simp only [Tree.run, Option.some.injEq, Prod.mk.injEq] at hr
    obtain ⟨rfl, rfl⟩ := hr
    exact call_ok0 hs (fun k => (([a1.av F] : List AV)[k]?).getD .top) [.agg [.str v106, .int .i64 v107, .int .i64 v108, a1]] [.agg [.str v106, .int .i64 v107, .int .i64 v108, .bslc (BR.root 0) (.f32 v109)]] (fun F' h0 hi hρ => ⟨by simp [DVs.av, DV.av, BR.av, hρ], impl_ValidSheet_fn v106 v107 v108 v109 F' (st_nil hi) ⟨⟨trivial, trivial, trivial, bslc_ok hi (by rw [h0, hρ]; exact rowF32_ok hs (DVs.okAt (DVs.okAt ha 0 rfl) 3 rfl) hv109), trivial⟩, trivial⟩ hy⟩) rfl
  · cases hr
/-! impl.BitsOf -/
noncomputable def impl_BitsOf_LO (v151 : Nat) : LOr := fun id e L =>
  match id with
  | _ => .fail
noncomputable def impl_BitsOf_tab : List (FuncId × DFn × Bool) := [(84, Bits32_F, true)]
theorem impl_BitsOf_hO : OrcOk Try.prog (tabD impl_BitsOf_tab) (tabM impl_BitsOf_tab) := tabD_cons Bits32_Fok (tabD_nil _)
noncomputable def impl_BitsOf_T (v151 : Nat) : Tree (Int) :=
  (.br (!feq .f32 v151 v151) (
  .leaf (2143289344 : Int)
  ) (
  (.grd (!isNan .f32 v151) <|
  .leaf (IntKind.i64.wrap (((v151 : Nat) : Int))))
  ))

noncomputable def impl_BitsOf_g (v151 : Nat) : Option (Int) := (impl_BitsOf_T v151).run
def impl_BitsOf_enc (v151 : Nat) (y : Int) : Rs := (.int .i64 y, [])
theorem impl_BitsOf_den (v151 : Nat) : (den TT (tabD impl_BitsOf_tab) (tabM impl_BitsOf_tab) (impl_BitsOf_LO v151) (codeOf Try.f66) ([.flt .f32 v151] ++ List.replicate (Try.f66.ntmps - ([.flt .f32 v151] : List DV).length) .undef) []).bind (retD TT Try.f66.results.toList 0) = (impl_BitsOf_T v151).bind fun y => .leaf (impl_BitsOf_enc v151 y) := by kernel_rfl
theorem impl_BitsOf_fn (v151 : Nat) (F : Fr) (h0 : St F [] F.H0) (hA : DVs.Ok F [] [.flt .f32 v151]) {y : Int} (hy : impl_BitsOf_g v151 = some y) : ∃ F' H', Fwd 0 F F' [] (impl_BitsOf_enc v151 y).2 ∧ FnOk Try.prog 66 (DVs.av F [.flt .f32 v151]) F.H0 ((impl_BitsOf_enc v151 y).1.av F') H' ∧ St F' (impl_BitsOf_enc v151 y).2 H' ∧ (impl_BitsOf_enc v151 y).1.Ok F' (impl_BitsOf_enc v151 y).2 :=
  fn_fin tok impl_BitsOf_hO mixed Try.func66 Try.call66 (by kernel_rfl) (LoopsOk_eq (l := []) (by kernel_rfl) trivial) (impl_BitsOf_den v151) hy h0 hA
noncomputable def impl_BitsOf_F : DFn := fun args L =>
  match args with
  | [.flt .f32 v151] =>
    .call (impl_BitsOf_g v151) fun y => .leaf (.int .i64 y, L)
  | _ => .fail
theorem impl_BitsOf_Fok : COk Try.prog 66 impl_BitsOf_F true := by
  intro F L H args r L' hs ha hr
  unfold impl_BitsOf_F at hr
  split at hr
  · rename_i v151
    simp only [Tree.run] at hr
    obtain ⟨y, hy, hr⟩ := Option.bind_eq_some_iff.1 hr
    simp only [Tree.run, Option.some.injEq, Prod.mk.injEq] at hr
    obtain ⟨rfl, rfl⟩ := hr
    exact call_ok0 hs (fun k => (([] : List AV)[k]?).getD .top) [.flt .f32 v151] [.flt .f32 v151] (fun F' h0 hi hρ => ⟨by simp [DVs.av, DV.av, BR.av, hρ], impl_BitsOf_fn v151 F' (st_nil hi) ⟨trivial, trivial⟩ hy⟩) rfl
  · cases hr
/-! impl.bytesOf -/
noncomputable def impl_bytesOf_l0_T (v154 : Int) (s : Int × Int × (List Int)) : Tree ((Int × Int × (List Int)) ⊕ ((List Int))) :=
  (.br (decide (s.2.1 < v154)) (
  (.grd (fits (s.2.2 ++ ([IntKind.u8.wrap (s.1)] : List Int)).length) <|
  (.grd (decide (0 ≤ (8 : Int))) <|
  .leaf (.inl (ishr .i64 s.1 (8 : Int), IntKind.i64.wrap (s.2.1 + (1 : Int)), s.2.2 ++ ([IntKind.u8.wrap (s.1)] : List Int)))))
  ) (
  .leaf (.inr s.2.2)
  ))

noncomputable def impl_bytesOf_l0_g (v154 : Int) (s0 : Int × Int × (List Int)) : Option ((List Int)) := whileM (fun s => (impl_bytesOf_l0_T v154 s).run) s0
def impl_bytesOf_l0_E (v153 : Int) (v154 : Int) (s : Int × Int × (List Int)) : Sd := ([.int .i64 s.1,tp,tp,tp,tp,.own 0 0 ((s.2.2).length),tp,.int .i64 v154,.int .i64 s.2.1,tp,tp,tp,tp,tp,tp,tp,tp,tp,tp], [.row (.u8 s.2.2) 0])
def impl_bytesOf_l0_X (v153 : Int) (v154 : Int) (x : (List Int)) : Out := (.normal, [tp,tp,tp,tp,tp,.own 0 0 ((x).length),tp,tp,tp,tp,tp,tp,tp,tp,tp,tp,tp,tp,tp], [.row (.u8 x) 0])
def impl_bytesOf_l0_kill : List Nat := KL true [0,1,4,1,1,2,10]
def impl_bytesOf_l0_nx : Exit → List Nat
  | .exit 0 => KL true [5,1,13]
  | .ret => KL true [4,1,14]
  | _ => []
noncomputable def impl_bytesOf_LO (v153 : Int) (v154 : Int) : LOr := fun id e L =>
  match id with
  | 0 => .need (normA 0 impl_bytesOf_l0_kill e L = some (impl_bytesOf_l0_E v153 v154 ((gI (vAt e 0)), (gI (vAt e 8)), (gRI L (vAt e 5))))) (.call (impl_bytesOf_l0_g v154 ((gI (vAt e 0)), (gI (vAt e 8)), (gRI L (vAt e 5)))) fun x => .leaf (impl_bytesOf_l0_X v153 v154 x))
  | _ => .fail
noncomputable def impl_bytesOf_tab : List (FuncId × DFn × Bool) := []
theorem impl_bytesOf_hO : OrcOk Try.prog (tabD impl_bytesOf_tab) (tabM impl_bytesOf_tab) := tabD_nil _
theorem impl_bytesOf_l0_be (v153 : Int) (v154 : Int) (s : Int × Int × (List Int)) : bodyT TT (tabD impl_bytesOf_tab) (tabM impl_bytesOf_tab) (impl_bytesOf_LO v153 v154) 0 impl_bytesOf_l0_kill impl_bytesOf_l0_nx (bodyOf Try.f65 0) 0 (impl_bytesOf_l0_E v153 v154 s) = (impl_bytesOf_l0_T v154 s).bind fun y => .leaf (outS (impl_bytesOf_l0_E v153 v154) (impl_bytesOf_l0_X v153 v154) y) := by kernel_rfl
theorem impl_bytesOf_l0_ok (v153 : Int) (v154 : Int) : LSound Try.prog 0 (impl_bytesOf_LO v153 v154) 0 (bodyOf Try.f65 0) := by
  intro e L out h
  exact lo_ok (E := impl_bytesOf_l0_E v153 v154) (gT := impl_bytesOf_l0_T v154) (X := impl_bytesOf_l0_X v153 v154) (s0 := ((gI (vAt e 0)), (gI (vAt e 8)), (gRI L (vAt e 5)))) tok impl_bytesOf_hO mixed (LoopsOk_eq (l := []) (by kernel_rfl) trivial) (impl_bytesOf_l0_be v153 v154) rfl (by intro x; rfl) h
noncomputable def impl_bytesOf_T (v153 : Int) (v154 : Int) : Tree ((List Int)) :=
  (.need (some (impl_bytesOf_l0_E v153 v154 (v153, (0 : Int), ([] : List Int))) = some (impl_bytesOf_l0_E v153 v154 (v153, (0 : Int), ([] : List Int)))) <|
  (.call (impl_bytesOf_l0_g v154 (v153, (0 : Int), ([] : List Int))) fun v163 =>
  .leaf v163))

noncomputable def impl_bytesOf_g (v153 : Int) (v154 : Int) : Option ((List Int)) := (impl_bytesOf_T v153 v154).run
def impl_bytesOf_enc (v153 : Int) (v154 : Int) (y : (List Int)) : Rs := (.own 0 0 ((y).length), [.row (.u8 y) 0])
theorem impl_bytesOf_den (v153 : Int) (v154 : Int) : (den TT (tabD impl_bytesOf_tab) (tabM impl_bytesOf_tab) (impl_bytesOf_LO v153 v154) (codeOf Try.f65) ([.int .i64 v153, .int .i64 v154] ++ List.replicate (Try.f65.ntmps - ([.int .i64 v153, .int .i64 v154] : List DV).length) .undef) []).bind (retD TT Try.f65.results.toList 0) = (impl_bytesOf_T v153 v154).bind fun y => .leaf (impl_bytesOf_enc v153 v154 y) := by kernel_rfl
theorem impl_bytesOf_fn (v153 : Int) (v154 : Int) (F : Fr) (h0 : St F [] F.H0) (hA : DVs.Ok F [] [.int .i64 v153, .int .i64 v154]) {y : (List Int)} (hy : impl_bytesOf_g v153 v154 = some y) : ∃ F' H', Fwd 0 F F' [] (impl_bytesOf_enc v153 v154 y).2 ∧ FnOk Try.prog 65 (DVs.av F [.int .i64 v153, .int .i64 v154]) F.H0 ((impl_bytesOf_enc v153 v154 y).1.av F') H' ∧ St F' (impl_bytesOf_enc v153 v154 y).2 H' ∧ (impl_bytesOf_enc v153 v154 y).1.Ok F' (impl_bytesOf_enc v153 v154 y).2 :=
  fn_fin tok impl_bytesOf_hO mixed Try.func65 Try.call65 (by kernel_rfl) (LoopsOk_eq (l := [(0, bodyOf Try.f65 0)]) (by kernel_rfl) ⟨impl_bytesOf_l0_ok v153 v154, trivial⟩) (impl_bytesOf_den v153 v154) hy h0 hA
noncomputable def impl_bytesOf_F : DFn := fun args L =>
  match args with
  | [.int .i64 v153, .int .i64 v154] =>
    .call (impl_bytesOf_g v153 v154) fun y => .leaf (.own (L.length + 0) 0 ((y).length), L ++ [.row (.u8 y) 0])
  | _ => .fail
theorem impl_bytesOf_Fok : COk Try.prog 65 impl_bytesOf_F true := by
  intro F L H args r L' hs ha hr
  unfold impl_bytesOf_F at hr
  split at hr
  · rename_i v153 v154
    simp only [Tree.run] at hr
    obtain ⟨y, hy, hr⟩ := Option.bind_eq_some_iff.1 hr
    simp only [Tree.run, Option.some.injEq, Prod.mk.injEq] at hr
    obtain ⟨rfl, rfl⟩ := hr
    exact call_ok1 hs (fun k => (([] : List AV)[k]?).getD .top) [.int .i64 v153, .int .i64 v154] [.int .i64 v153, .int .i64 v154] (fun F' h0 hi hρ => ⟨by simp [DVs.av, DV.av, BR.av, hρ], impl_bytesOf_fn v153 v154 F' (st_nil hi) ⟨trivial, trivial, trivial⟩ hy⟩) rfl rfl
  · cases hr
/-! impl.checkOf -/
noncomputable def impl_checkOf_l0_T (v175 : ByteArray) (s : Int × Int) : Tree ((Int × Int) ⊕ (Int)) :=
  (.br (decide (s.2 < ((v175.size : Nat) : Int))) (
  (.grd (inb s.2 v175.size) <|
  (.grd (!decide ((65003 : Int) = 0)) <|
  .leaf (.inl (Int.tmod (IntKind.i64.wrap ((IntKind.i64.wrap ((IntKind.i64.wrap ((863 : Int) * s.1)) + (IntKind.i64.wrap (bt v175 s.2)))) + (157 : Int))) (65003 : Int), IntKind.i64.wrap (s.2 + (1 : Int))))))
  ) (
  .leaf (.inr s.1)
  ))

noncomputable def impl_checkOf_l0_g (v175 : ByteArray) (s0 : Int × Int) : Option (Int) := whileM (fun s => (impl_checkOf_l0_T v175 s).run) s0
def impl_checkOf_l0_E (v174 : Int) (v175 : ByteArray) (s : Int × Int) : Sd := ([.int .i64 s.1,.str v175,tp,tp,tp,tp,tp,.int .i64 ((v175.size : Nat) : Int),.int .i64 s.2,tp,tp,tp,tp,tp,tp,tp,tp,tp,tp,tp,tp,tp], [])
def impl_checkOf_l0_X (v174 : Int) (v175 : ByteArray) (x : Int) : Out := (.normal, [.int .i64 x,tp,tp,tp,tp,tp,tp,tp,tp,tp,tp,tp,tp,tp,tp,tp,tp,tp,tp,tp,tp,tp], [])
def impl_checkOf_l0_kill : List Nat := KL true [0,2,5,2,13]
def impl_checkOf_l0_nx : Exit → List Nat
  | .exit 0 => KL true [0,1,21]
  | .ret => KL true [4,1,17]
  | _ => []
noncomputable def impl_checkOf_LO (v174 : Int) (v175 : ByteArray) : LOr := fun id e L =>
  match id with
  | 0 => .need (normA 0 impl_checkOf_l0_kill e L = some (impl_checkOf_l0_E v174 v175 ((gI (vAt e 0)), (gI (vAt e 8))))) (.call (impl_checkOf_l0_g v175 ((gI (vAt e 0)), (gI (vAt e 8)))) fun x => .leaf (impl_checkOf_l0_X v174 v175 x))
  | _ => .fail
noncomputable def impl_checkOf_tab : List (FuncId × DFn × Bool) := []
theorem impl_checkOf_hO : OrcOk Try.prog (tabD impl_checkOf_tab) (tabM impl_checkOf_tab) := tabD_nil _
theorem impl_checkOf_l0_be (v174 : Int) (v175 : ByteArray) (s : Int × Int) : bodyT TT (tabD impl_checkOf_tab) (tabM impl_checkOf_tab) (impl_checkOf_LO v174 v175) 0 impl_checkOf_l0_kill impl_checkOf_l0_nx (bodyOf Try.f67 0) 0 (impl_checkOf_l0_E v174 v175 s) = (impl_checkOf_l0_T v175 s).bind fun y => .leaf (outS (impl_checkOf_l0_E v174 v175) (impl_checkOf_l0_X v174 v175) y) := by kernel_rfl
theorem impl_checkOf_l0_ok (v174 : Int) (v175 : ByteArray) : LSound Try.prog 0 (impl_checkOf_LO v174 v175) 0 (bodyOf Try.f67 0) := by
  intro e L out h
  exact lo_ok (E := impl_checkOf_l0_E v174 v175) (gT := impl_checkOf_l0_T v175) (X := impl_checkOf_l0_X v174 v175) (s0 := ((gI (vAt e 0)), (gI (vAt e 8)))) tok impl_checkOf_hO mixed (LoopsOk_eq (l := []) (by kernel_rfl) trivial) (impl_checkOf_l0_be v174 v175) rfl (by intro x; rfl) h
noncomputable def impl_checkOf_T (v174 : Int) (v175 : ByteArray) : Tree (Int) :=
  (.need (some (impl_checkOf_l0_E v174 v175 (v174, (0 : Int))) = some (impl_checkOf_l0_E v174 v175 (v174, (0 : Int)))) <|
  (.call (impl_checkOf_l0_g v175 (v174, (0 : Int))) fun v182 =>
  .leaf v182))

noncomputable def impl_checkOf_g (v174 : Int) (v175 : ByteArray) : Option (Int) := (impl_checkOf_T v174 v175).run
def impl_checkOf_enc (v174 : Int) (v175 : ByteArray) (y : Int) : Rs := (.int .i64 y, [])
theorem impl_checkOf_den (v174 : Int) (v175 : ByteArray) : (den TT (tabD impl_checkOf_tab) (tabM impl_checkOf_tab) (impl_checkOf_LO v174 v175) (codeOf Try.f67) ([.int .i64 v174, .str v175] ++ List.replicate (Try.f67.ntmps - ([.int .i64 v174, .str v175] : List DV).length) .undef) []).bind (retD TT Try.f67.results.toList 0) = (impl_checkOf_T v174 v175).bind fun y => .leaf (impl_checkOf_enc v174 v175 y) := by kernel_rfl
theorem impl_checkOf_fn (v174 : Int) (v175 : ByteArray) (F : Fr) (h0 : St F [] F.H0) (hA : DVs.Ok F [] [.int .i64 v174, .str v175]) {y : Int} (hy : impl_checkOf_g v174 v175 = some y) : ∃ F' H', Fwd 0 F F' [] (impl_checkOf_enc v174 v175 y).2 ∧ FnOk Try.prog 67 (DVs.av F [.int .i64 v174, .str v175]) F.H0 ((impl_checkOf_enc v174 v175 y).1.av F') H' ∧ St F' (impl_checkOf_enc v174 v175 y).2 H' ∧ (impl_checkOf_enc v174 v175 y).1.Ok F' (impl_checkOf_enc v174 v175 y).2 :=
  fn_fin tok impl_checkOf_hO mixed Try.func67 Try.call67 (by kernel_rfl) (LoopsOk_eq (l := [(0, bodyOf Try.f67 0)]) (by kernel_rfl) ⟨impl_checkOf_l0_ok v174 v175, trivial⟩) (impl_checkOf_den v174 v175) hy h0 hA
noncomputable def impl_checkOf_F : DFn := fun args L =>
  match args with
  | [.int .i64 v174, .str v175] =>
    .call (impl_checkOf_g v174 v175) fun y => .leaf (.int .i64 y, L)
  | _ => .fail
theorem impl_checkOf_Fok : COk Try.prog 67 impl_checkOf_F true := by
  intro F L H args r L' hs ha hr
  unfold impl_checkOf_F at hr
  split at hr
  · rename_i v174 v175
    simp only [Tree.run] at hr
    obtain ⟨y, hy, hr⟩ := Option.bind_eq_some_iff.1 hr
    simp only [Tree.run, Option.some.injEq, Prod.mk.injEq] at hr
    obtain ⟨rfl, rfl⟩ := hr
    exact call_ok0 hs (fun k => (([] : List AV)[k]?).getD .top) [.int .i64 v174, .str v175] [.int .i64 v174, .str v175] (fun F' h0 hi hρ => ⟨by simp [DVs.av, DV.av, BR.av, hρ], impl_checkOf_fn v174 v175 F' (st_nil hi) ⟨trivial, trivial, trivial⟩ hy⟩) rfl
  · cases hr
/-! impl.storeSheet -/
noncomputable def impl_storeSheet_l0_T (v149 : List Nat) (s : Int × (List Int)) : Tree ((Int × (List Int)) ⊕ ((List Int))) :=
  (.br (decide (s.1 < ((v149.length : Nat) : Int))) (
  (.grd (inb s.1 v149.length) <|
  (.call (impl_BitsOf_g (nth v149 (Int.toNat s.1))) fun v171 =>
  (.call (impl_bytesOf_g v171 (4 : Int)) fun v172 =>
  (.grd (fits (s.2 ++ v172).length) <|
  .leaf (.inl (IntKind.i64.wrap (s.1 + (1 : Int)), s.2 ++ v172))))))
  ) (
  .leaf (.inr s.2)
  ))

noncomputable def impl_storeSheet_l0_g (v149 : List Nat) (s0 : Int × (List Int)) : Option ((List Int)) := whileM (fun s => (impl_storeSheet_l0_T v149 s).run) s0
def impl_storeSheet_l0_E (v146 : ByteArray) (v147 : Int) (v148 : Int) (v149 : List Nat) (s : Int × (List Int)) : Sd := ([tp,tp,tp,.own 0 0 ((s.2).length),tp,tp,tp,tp,tp,tp,tp,tp,tp,tp,tp,tp,tp,tp,tp,tp,tp,tp,tp,tp,tp,tp,tp,tp,tp,tp,tp,.bslc (BR.root 0) (.f32 v149),.int .i64 ((v149.length : Nat) : Int),.int .i64 s.1,tp,tp,tp,tp,tp,tp,tp,tp,tp,tp,tp,tp,tp,tp,tp,tp], [.row (.u8 s.2) 0])
def impl_storeSheet_l0_X (v146 : ByteArray) (v147 : Int) (v148 : Int) (v149 : List Nat) (x : (List Int)) : Out := (.normal, [tp,tp,tp,.own 0 0 ((x).length),tp,tp,tp,tp,tp,tp,tp,tp,tp,tp,tp,tp,tp,tp,tp,tp,tp,tp,tp,tp,tp,tp,tp,tp,tp,tp,tp,tp,tp,tp,tp,tp,tp,tp,tp,tp,tp,tp,tp,tp,tp,tp,tp,tp,tp,tp], [.row (.u8 x) 0])
def impl_storeSheet_l0_kill : List Nat := KL true [3,1,27,3,16]
def impl_storeSheet_l0_nx : Exit → List Nat
  | .exit 0 => KL true [3,1,46]
  | .ret => KL true [2,1,47]
  | _ => []
noncomputable def impl_storeSheet_LO (v146 : ByteArray) (v147 : Int) (v148 : Int) (v149 : List Nat) : LOr := fun id e L =>
  match id with
  | 0 => .need (normA 0 impl_storeSheet_l0_kill e L = some (impl_storeSheet_l0_E v146 v147 v148 v149 ((gI (vAt e 33)), (gRI L (vAt e 3))))) (.call (impl_storeSheet_l0_g v149 ((gI (vAt e 33)), (gRI L (vAt e 3)))) fun x => .leaf (impl_storeSheet_l0_X v146 v147 v148 v149 x))
  | _ => .fail
noncomputable def impl_storeSheet_tab : List (FuncId × DFn × Bool) := [(66, impl_BitsOf_F, true), (65, impl_bytesOf_F, true), (67, impl_checkOf_F, true)]
theorem impl_storeSheet_hO : OrcOk Try.prog (tabD impl_storeSheet_tab) (tabM impl_storeSheet_tab) := tabD_cons impl_BitsOf_Fok (tabD_cons impl_bytesOf_Fok (tabD_cons impl_checkOf_Fok (tabD_nil _)))
theorem impl_storeSheet_l0_be (v146 : ByteArray) (v147 : Int) (v148 : Int) (v149 : List Nat) (s : Int × (List Int)) : bodyT TT (tabD impl_storeSheet_tab) (tabM impl_storeSheet_tab) (impl_storeSheet_LO v146 v147 v148 v149) 0 impl_storeSheet_l0_kill impl_storeSheet_l0_nx (bodyOf Try.f37 0) 0 (impl_storeSheet_l0_E v146 v147 v148 v149 s) = (impl_storeSheet_l0_T v149 s).bind fun y => .leaf (outS (impl_storeSheet_l0_E v146 v147 v148 v149) (impl_storeSheet_l0_X v146 v147 v148 v149) y) := by kernel_rfl
theorem impl_storeSheet_l0_ok (v146 : ByteArray) (v147 : Int) (v148 : Int) (v149 : List Nat) : LSound Try.prog 0 (impl_storeSheet_LO v146 v147 v148 v149) 0 (bodyOf Try.f37 0) := by
  intro e L out h
  exact lo_ok (E := impl_storeSheet_l0_E v146 v147 v148 v149) (gT := impl_storeSheet_l0_T v149) (X := impl_storeSheet_l0_X v146 v147 v148 v149) (s0 := ((gI (vAt e 33)), (gRI L (vAt e 3)))) tok impl_storeSheet_hO mixed (LoopsOk_eq (l := []) (by kernel_rfl) trivial) (impl_storeSheet_l0_be v146 v147 v148 v149) rfl (by intro x; rfl) h
noncomputable def impl_storeSheet_T (v146 : ByteArray) (v147 : Int) (v148 : Int) (v149 : List Nat) : Tree (ByteArray) :=
  (.grd (decide (0 < (([(77 : Int), (65 : Int), (84 : Int), (49 : Int)] : List Int).length))) <|
  (.grd (fits (([(77 : Int), (65 : Int), (84 : Int), (49 : Int)] : List Int) ++ ([IntKind.u8.wrap (((v146.size : Nat) : Int))] : List Int)).length) <|
  (.grd (fits ((([(77 : Int), (65 : Int), (84 : Int), (49 : Int)] : List Int) ++ ([IntKind.u8.wrap (((v146.size : Nat) : Int))] : List Int)) ++ numsS v146).length) <|
  (.grd (fits (((([(77 : Int), (65 : Int), (84 : Int), (49 : Int)] : List Int) ++ ([IntKind.u8.wrap (((v146.size : Nat) : Int))] : List Int)) ++ numsS v146) ++ ([IntKind.u8.wrap (v147), IntKind.u8.wrap (v148)] : List Int)).length) <|
  (.need (some (impl_storeSheet_l0_E v146 v147 v148 v149 ((0 : Int), ((([(77 : Int), (65 : Int), (84 : Int), (49 : Int)] : List Int) ++ ([IntKind.u8.wrap (((v146.size : Nat) : Int))] : List Int)) ++ numsS v146) ++ ([IntKind.u8.wrap (v147), IntKind.u8.wrap (v148)] : List Int))) = some (impl_storeSheet_l0_E v146 v147 v148 v149 ((0 : Int), ((([(77 : Int), (65 : Int), (84 : Int), (49 : Int)] : List Int) ++ ([IntKind.u8.wrap (((v146.size : Nat) : Int))] : List Int)) ++ numsS v146) ++ ([IntKind.u8.wrap (v147), IntKind.u8.wrap (v148)] : List Int)))) <|
  (.call (impl_storeSheet_l0_g v149 ((0 : Int), ((([(77 : Int), (65 : Int), (84 : Int), (49 : Int)] : List Int) ++ ([IntKind.u8.wrap (((v146.size : Nat) : Int))] : List Int)) ++ numsS v146) ++ ([IntKind.u8.wrap (v147), IntKind.u8.wrap (v148)] : List Int))) fun v173 =>
  (.call (impl_checkOf_g (0 : Int) (strOfNums v173)) fun v183 =>
  (.call (impl_bytesOf_g v183 (2 : Int)) fun v184 =>
  (.grd (fits (v173 ++ v184).length) <|
  .leaf (strOfNums (v173 ++ v184)))))))))))

noncomputable def impl_storeSheet_g (v146 : ByteArray) (v147 : Int) (v148 : Int) (v149 : List Nat) : Option (ByteArray) := (impl_storeSheet_T v146 v147 v148 v149).run
def impl_storeSheet_enc (v146 : ByteArray) (v147 : Int) (v148 : Int) (v149 : List Nat) (y : ByteArray) : Rs := (.str y, [])
theorem impl_storeSheet_den (v146 : ByteArray) (v147 : Int) (v148 : Int) (v149 : List Nat) : (den TT (tabD impl_storeSheet_tab) (tabM impl_storeSheet_tab) (impl_storeSheet_LO v146 v147 v148 v149) (codeOf Try.f37) ([.agg [.str v146, .int .i64 v147, .int .i64 v148, .bslc (BR.root 0) (.f32 v149)]] ++ List.replicate (Try.f37.ntmps - ([.agg [.str v146, .int .i64 v147, .int .i64 v148, .bslc (BR.root 0) (.f32 v149)]] : List DV).length) .undef) []).bind (retD TT Try.f37.results.toList 0) = (impl_storeSheet_T v146 v147 v148 v149).bind fun y => .leaf (impl_storeSheet_enc v146 v147 v148 v149 y) := by kernel_rfl
theorem impl_storeSheet_fn (v146 : ByteArray) (v147 : Int) (v148 : Int) (v149 : List Nat) (F : Fr) (h0 : St F [] F.H0) (hA : DVs.Ok F [] [.agg [.str v146, .int .i64 v147, .int .i64 v148, .bslc (BR.root 0) (.f32 v149)]]) {y : ByteArray} (hy : impl_storeSheet_g v146 v147 v148 v149 = some y) : ∃ F' H', Fwd 0 F F' [] (impl_storeSheet_enc v146 v147 v148 v149 y).2 ∧ FnOk Try.prog 37 (DVs.av F [.agg [.str v146, .int .i64 v147, .int .i64 v148, .bslc (BR.root 0) (.f32 v149)]]) F.H0 ((impl_storeSheet_enc v146 v147 v148 v149 y).1.av F') H' ∧ St F' (impl_storeSheet_enc v146 v147 v148 v149 y).2 H' ∧ (impl_storeSheet_enc v146 v147 v148 v149 y).1.Ok F' (impl_storeSheet_enc v146 v147 v148 v149 y).2 :=
  fn_fin tok impl_storeSheet_hO mixed Try.func37 Try.call37 (by kernel_rfl) (LoopsOk_eq (l := [(0, bodyOf Try.f37 0)]) (by kernel_rfl) ⟨impl_storeSheet_l0_ok v146 v147 v148 v149, trivial⟩) (impl_storeSheet_den v146 v147 v148 v149) hy h0 hA
noncomputable def impl_storeSheet_F : DFn := fun args L =>
  match args with
  | [.agg [.str v146, .int .i64 v147, .int .i64 v148, a1]] =>
    optT (rowF32 L a1) fun v149 =>
    .call (impl_storeSheet_g v146 v147 v148 v149) fun y => .leaf (.str y, L)
  | _ => .fail
theorem impl_storeSheet_Fok : COk Try.prog 37 impl_storeSheet_F true := by
  intro F L H args r L' hs ha hr
  unfold impl_storeSheet_F at hr
  split at hr
  · rename_i v146 v147 v148 a1
    obtain ⟨v149, hv149, hr⟩ := optT_run hr
    simp only [Tree.run] at hr
    obtain ⟨y, hy, hr⟩ := Option.bind_eq_some_iff.1 hr
    simp only [Tree.run, Option.some.injEq, Prod.mk.injEq] at hr
    obtain ⟨rfl, rfl⟩ := hr
    exact call_ok0 hs (fun k => (([a1.av F] : List AV)[k]?).getD .top) [.agg [.str v146, .int .i64 v147, .int .i64 v148, a1]] [.agg [.str v146, .int .i64 v147, .int .i64 v148, .bslc (BR.root 0) (.f32 v149)]] (fun F' h0 hi hρ => ⟨by simp [DVs.av, DV.av, BR.av, hρ], impl_storeSheet_fn v146 v147 v148 v149 F' (st_nil hi) ⟨⟨trivial, trivial, trivial, bslc_ok hi (by rw [h0, hρ]; exact rowF32_ok hs (DVs.okAt (DVs.okAt ha 0 rfl) 3 rfl) hv149), trivial⟩, trivial⟩ hy⟩) rfl
  · cases hr
/-! impl.StoreSheet -/
noncomputable def impl_StoreSheet_LO (v102 : ByteArray) (v103 : Int) (v104 : Int) (v105 : List Nat) : LOr := fun id e L =>
  match id with
  | _ => .fail
noncomputable def impl_StoreSheet_tab : List (FuncId × DFn × Bool) := [(31, impl_ValidSheet_F, true), (37, impl_storeSheet_F, true)]
theorem impl_StoreSheet_hO : OrcOk Try.prog (tabD impl_StoreSheet_tab) (tabM impl_StoreSheet_tab) := tabD_cons impl_ValidSheet_Fok (tabD_cons impl_storeSheet_Fok (tabD_nil _))
noncomputable def impl_StoreSheet_T (v102 : ByteArray) (v103 : Int) (v104 : Int) (v105 : List Nat) : Tree ((ByteArray) ⊕ (ByteArray)) :=
  (.call (impl_ValidSheet_g v102 v103 v104 v105) fun v145 =>
  (.br (!v145) (
  .leaf (.inl (ByteArray.mk #[]))
  ) (
  (.call (impl_storeSheet_g v102 v103 v104 v105) fun v185 =>
  .leaf (.inr v185))
  )))

noncomputable def impl_StoreSheet_g (v102 : ByteArray) (v103 : Int) (v104 : Int) (v105 : List Nat) : Option ((ByteArray) ⊕ (ByteArray)) := (impl_StoreSheet_T v102 v103 v104 v105).run
def impl_StoreSheet_enc (v102 : ByteArray) (v103 : Int) (v104 : Int) (v105 : List Nat) (y : (ByteArray) ⊕ (ByteArray)) : Rs := (match y with | .inl y => (.tup [.str y, .lit false], []) | .inr y => (.tup [.str y, .lit true], []))
theorem impl_StoreSheet_den (v102 : ByteArray) (v103 : Int) (v104 : Int) (v105 : List Nat) : (den TT (tabD impl_StoreSheet_tab) (tabM impl_StoreSheet_tab) (impl_StoreSheet_LO v102 v103 v104 v105) (codeOf Try.f12) ([.agg [.str v102, .int .i64 v103, .int .i64 v104, .bslc (BR.root 0) (.f32 v105)]] ++ List.replicate (Try.f12.ntmps - ([.agg [.str v102, .int .i64 v103, .int .i64 v104, .bslc (BR.root 0) (.f32 v105)]] : List DV).length) .undef) []).bind (retD TT Try.f12.results.toList 0) = (impl_StoreSheet_T v102 v103 v104 v105).bind fun y => .leaf (impl_StoreSheet_enc v102 v103 v104 v105 y) := by kernel_rfl
theorem impl_StoreSheet_fn (v102 : ByteArray) (v103 : Int) (v104 : Int) (v105 : List Nat) (F : Fr) (h0 : St F [] F.H0) (hA : DVs.Ok F [] [.agg [.str v102, .int .i64 v103, .int .i64 v104, .bslc (BR.root 0) (.f32 v105)]]) {y : (ByteArray) ⊕ (ByteArray)} (hy : impl_StoreSheet_g v102 v103 v104 v105 = some y) : ∃ F' H', Fwd 0 F F' [] (impl_StoreSheet_enc v102 v103 v104 v105 y).2 ∧ FnOk Try.prog 12 (DVs.av F [.agg [.str v102, .int .i64 v103, .int .i64 v104, .bslc (BR.root 0) (.f32 v105)]]) F.H0 ((impl_StoreSheet_enc v102 v103 v104 v105 y).1.av F') H' ∧ St F' (impl_StoreSheet_enc v102 v103 v104 v105 y).2 H' ∧ (impl_StoreSheet_enc v102 v103 v104 v105 y).1.Ok F' (impl_StoreSheet_enc v102 v103 v104 v105 y).2 :=
  fn_fin tok impl_StoreSheet_hO mixed Try.func12 Try.call12 (by kernel_rfl) (LoopsOk_eq (l := []) (by kernel_rfl) trivial) (impl_StoreSheet_den v102 v103 v104 v105) hy h0 hA
noncomputable def impl_StoreSheet_F : DFn := fun args L =>
  match args with
  | [.agg [.str v102, .int .i64 v103, .int .i64 v104, a1]] =>
    optT (rowF32 L a1) fun v105 =>
    .call (impl_StoreSheet_g v102 v103 v104 v105) fun y => .sum y (fun y0 => .leaf (.tup [.str y0, .lit false], L)) (fun z0 => .leaf (.tup [.str z0, .lit true], L))
  | _ => .fail
theorem impl_StoreSheet_Fok : COk Try.prog 12 impl_StoreSheet_F true := by
  intro F L H args r L' hs ha hr
  unfold impl_StoreSheet_F at hr
  split at hr
  · rename_i v102 v103 v104 a1
    obtain ⟨v105, hv105, hr⟩ := optT_run hr
    simp only [Tree.run] at hr
    obtain ⟨y, hy, hr⟩ := Option.bind_eq_some_iff.1 hr
    cases y with
    | inl y =>
      simp only [Tree.run, Option.some.injEq, Prod.mk.injEq] at hr
      obtain ⟨rfl, rfl⟩ := hr
      exact call_ok0 hs (fun k => (([a1.av F] : List AV)[k]?).getD .top) [.agg [.str v102, .int .i64 v103, .int .i64 v104, a1]] [.agg [.str v102, .int .i64 v103, .int .i64 v104, .bslc (BR.root 0) (.f32 v105)]] (fun F' h0 hi hρ => ⟨by simp [DVs.av, DV.av, BR.av, hρ], impl_StoreSheet_fn v102 v103 v104 v105 F' (st_nil hi) ⟨⟨trivial, trivial, trivial, bslc_ok hi (by rw [h0, hρ]; exact rowF32_ok hs (DVs.okAt (DVs.okAt ha 0 rfl) 3 rfl) hv105), trivial⟩, trivial⟩ hy⟩) rfl
    | inr y =>
      simp only [Tree.run, Option.some.injEq, Prod.mk.injEq] at hr
      obtain ⟨rfl, rfl⟩ := hr
      exact call_ok0 hs (fun k => (([a1.av F] : List AV)[k]?).getD .top) [.agg [.str v102, .int .i64 v103, .int .i64 v104, a1]] [.agg [.str v102, .int .i64 v103, .int .i64 v104, .bslc (BR.root 0) (.f32 v105)]] (fun F' h0 hi hρ => ⟨by simp [DVs.av, DV.av, BR.av, hρ], impl_StoreSheet_fn v102 v103 v104 v105 F' (st_nil hi) ⟨⟨trivial, trivial, trivial, bslc_ok hi (by rw [h0, hρ]; exact rowF32_ok hs (DVs.okAt (DVs.okAt ha 0 rfl) 3 rfl) hv105), trivial⟩, trivial⟩ hy⟩) rfl
  · cases hr
/-! impl.numberOf -/
noncomputable def impl_numberOf_l0_T (v192 : ByteArray) (s : Int × Int) : Tree ((Int × Int) ⊕ (Int)) :=
  (.br (decide ((0 : Int) ≤ s.2)) (
  (.grd (decide (0 ≤ (8 : Int))) <|
  (.grd (inb s.2 v192.size) <|
  .leaf (.inl (ior .i64 (ishl .i64 s.1 (8 : Int)) (IntKind.i64.wrap (bt v192 s.2)), IntKind.i64.wrap (s.2 - (1 : Int))))))
  ) (
  .leaf (.inr s.1)
  ))

noncomputable def impl_numberOf_l0_g (v192 : ByteArray) (s0 : Int × Int) : Option (Int) := whileM (fun s => (impl_numberOf_l0_T v192 s).run) s0
def impl_numberOf_l0_E (v192 : ByteArray) (s : Int × Int) : Sd := ([.str v192,tp,tp,.int .i64 s.1,.int .i64 s.2,tp,tp,tp,tp,tp,tp,tp,tp,tp,tp,tp,tp,tp,tp,tp], [])
def impl_numberOf_l0_X (v192 : ByteArray) (x : Int) : Out := (.normal, [tp,tp,tp,.int .i64 x,tp,tp,tp,tp,tp,tp,tp,tp,tp,tp,tp,tp,tp,tp,tp,tp], [])
def impl_numberOf_l0_kill : List Nat := KL true [0,1,2,2,15]
def impl_numberOf_l0_nx : Exit → List Nat
  | .exit 0 => KL true [3,1,16]
  | .ret => KL true [2,1,17]
  | _ => []
noncomputable def impl_numberOf_LO (v192 : ByteArray) : LOr := fun id e L =>
  match id with
  | 0 => .need (normA 0 impl_numberOf_l0_kill e L = some (impl_numberOf_l0_E v192 ((gI (vAt e 3)), (gI (vAt e 4))))) (.call (impl_numberOf_l0_g v192 ((gI (vAt e 3)), (gI (vAt e 4)))) fun x => .leaf (impl_numberOf_l0_X v192 x))
  | _ => .fail
noncomputable def impl_numberOf_tab : List (FuncId × DFn × Bool) := []
theorem impl_numberOf_hO : OrcOk Try.prog (tabD impl_numberOf_tab) (tabM impl_numberOf_tab) := tabD_nil _
theorem impl_numberOf_l0_be (v192 : ByteArray) (s : Int × Int) : bodyT TT (tabD impl_numberOf_tab) (tabM impl_numberOf_tab) (impl_numberOf_LO v192) 0 impl_numberOf_l0_kill impl_numberOf_l0_nx (bodyOf Try.f72 0) 0 (impl_numberOf_l0_E v192 s) = (impl_numberOf_l0_T v192 s).bind fun y => .leaf (outS (impl_numberOf_l0_E v192) (impl_numberOf_l0_X v192) y) := by kernel_rfl
theorem impl_numberOf_l0_ok (v192 : ByteArray) : LSound Try.prog 0 (impl_numberOf_LO v192) 0 (bodyOf Try.f72 0) := by
  intro e L out h
  exact lo_ok (E := impl_numberOf_l0_E v192) (gT := impl_numberOf_l0_T v192) (X := impl_numberOf_l0_X v192) (s0 := ((gI (vAt e 3)), (gI (vAt e 4)))) tok impl_numberOf_hO mixed (LoopsOk_eq (l := []) (by kernel_rfl) trivial) (impl_numberOf_l0_be v192) rfl (by intro x; rfl) h
noncomputable def impl_numberOf_T (v192 : ByteArray) : Tree (Int) :=
  (.need (some (impl_numberOf_l0_E v192 ((0 : Int), IntKind.i64.wrap (((v192.size : Nat) : Int) - (1 : Int)))) = some (impl_numberOf_l0_E v192 ((0 : Int), IntKind.i64.wrap (((v192.size : Nat) : Int) - (1 : Int))))) <|
  (.call (impl_numberOf_l0_g v192 ((0 : Int), IntKind.i64.wrap (((v192.size : Nat) : Int) - (1 : Int)))) fun v199 =>
  .leaf v199))

noncomputable def impl_numberOf_g (v192 : ByteArray) : Option (Int) := (impl_numberOf_T v192).run
def impl_numberOf_enc (v192 : ByteArray) (y : Int) : Rs := (.int .i64 y, [])
theorem impl_numberOf_den (v192 : ByteArray) : (den TT (tabD impl_numberOf_tab) (tabM impl_numberOf_tab) (impl_numberOf_LO v192) (codeOf Try.f72) ([.str v192] ++ List.replicate (Try.f72.ntmps - ([.str v192] : List DV).length) .undef) []).bind (retD TT Try.f72.results.toList 0) = (impl_numberOf_T v192).bind fun y => .leaf (impl_numberOf_enc v192 y) := by kernel_rfl
theorem impl_numberOf_fn (v192 : ByteArray) (F : Fr) (h0 : St F [] F.H0) (hA : DVs.Ok F [] [.str v192]) {y : Int} (hy : impl_numberOf_g v192 = some y) : ∃ F' H', Fwd 0 F F' [] (impl_numberOf_enc v192 y).2 ∧ FnOk Try.prog 72 (DVs.av F [.str v192]) F.H0 ((impl_numberOf_enc v192 y).1.av F') H' ∧ St F' (impl_numberOf_enc v192 y).2 H' ∧ (impl_numberOf_enc v192 y).1.Ok F' (impl_numberOf_enc v192 y).2 :=
  fn_fin tok impl_numberOf_hO mixed Try.func72 Try.call72 (by kernel_rfl) (LoopsOk_eq (l := [(0, bodyOf Try.f72 0)]) (by kernel_rfl) ⟨impl_numberOf_l0_ok v192, trivial⟩) (impl_numberOf_den v192) hy h0 hA
noncomputable def impl_numberOf_F : DFn := fun args L =>
  match args with
  | [.str v192] =>
    .call (impl_numberOf_g v192) fun y => .leaf (.int .i64 y, L)
  | _ => .fail
theorem impl_numberOf_Fok : COk Try.prog 72 impl_numberOf_F true := by
  intro F L H args r L' hs ha hr
  unfold impl_numberOf_F at hr
  split at hr
  · rename_i v192
    simp only [Tree.run] at hr
    obtain ⟨y, hy, hr⟩ := Option.bind_eq_some_iff.1 hr
    simp only [Tree.run, Option.some.injEq, Prod.mk.injEq] at hr
    obtain ⟨rfl, rfl⟩ := hr
    exact call_ok0 hs (fun k => (([] : List AV)[k]?).getD .top) [.str v192] [.str v192] (fun F' h0 hi hρ => ⟨by simp [DVs.av, DV.av, BR.av, hρ], impl_numberOf_fn v192 F' (st_nil hi) ⟨trivial, trivial⟩ hy⟩) rfl
  · cases hr
/-! impl.loadSheet -/
noncomputable def impl_loadSheet_l0_T (v190 : ByteArray) (s : (Int) ⊕ (Int × (List Nat))) : Tree (((Int) ⊕ (Int × (List Nat))) ⊕ ((Unit) ⊕ ((List Nat)))) :=
  (match s with
  | .inl s => (
  (.br (decide (s < IntKind.i64.wrap ((IntKind.i64.wrap ((7 : Int) + (IntKind.i64.wrap (bt v190 (4 : Int))))) + (IntKind.i64.wrap ((4 : Int) * (IntKind.i64.wrap ((IntKind.i64.wrap (bt v190 (IntKind.i64.wrap ((IntKind.i64.wrap ((7 : Int) + (IntKind.i64.wrap (bt v190 (4 : Int))))) - (2 : Int))))) * (IntKind.i64.wrap (bt v190 (IntKind.i64.wrap ((IntKind.i64.wrap ((7 : Int) + (IntKind.i64.wrap (bt v190 (4 : Int))))) - (1 : Int)))))))))))) (
  (.grd (sok s (IntKind.i64.wrap (s + (4 : Int))) v190.size) <|
  (.call (impl_numberOf_g (ByteArray.extract v190 (Int.toNat s) (Int.toNat (IntKind.i64.wrap (s + (4 : Int)))))) fun v210 =>
  (.grd (fits ([canon .f32 (Int.toNat (IntKind.u32.wrap (v210)))] : List Nat).length) <|
  (.br (decide (([canon .f32 (Int.toNat (IntKind.u32.wrap (v210)))] : List Nat).length = 0)) (
  .fail
  ) (
  .leaf (.inl (.inr (IntKind.i64.wrap (s + (4 : Int)), ([canon .f32 (Int.toNat (IntKind.u32.wrap (v210)))] : List Nat))))
  )))))
  ) (
  .leaf (.inr (.inl ()))
  )))
  | .inr s => (
  (.br (decide (s.1 < IntKind.i64.wrap ((IntKind.i64.wrap ((7 : Int) + (IntKind.i64.wrap (bt v190 (4 : Int))))) + (IntKind.i64.wrap ((4 : Int) * (IntKind.i64.wrap ((IntKind.i64.wrap (bt v190 (IntKind.i64.wrap ((IntKind.i64.wrap ((7 : Int) + (IntKind.i64.wrap (bt v190 (4 : Int))))) - (2 : Int))))) * (IntKind.i64.wrap (bt v190 (IntKind.i64.wrap ((IntKind.i64.wrap ((7 : Int) + (IntKind.i64.wrap (bt v190 (4 : Int))))) - (1 : Int)))))))))))) (
  (.grd (sok s.1 (IntKind.i64.wrap (s.1 + (4 : Int))) v190.size) <|
  (.call (impl_numberOf_g (ByteArray.extract v190 (Int.toNat s.1) (Int.toNat (IntKind.i64.wrap (s.1 + (4 : Int)))))) fun v211 =>
  (.grd (fits (s.2 ++ ([canon .f32 (Int.toNat (IntKind.u32.wrap (v211)))] : List Nat)).length) <|
  .leaf (.inl (.inr (IntKind.i64.wrap (s.1 + (4 : Int)), s.2 ++ ([canon .f32 (Int.toNat (IntKind.u32.wrap (v211)))] : List Nat)))))))
  ) (
  .leaf (.inr (.inr s.2))
  ))))

noncomputable def impl_loadSheet_l0_g (v190 : ByteArray) (s0 : (Int) ⊕ (Int × (List Nat))) : Option ((Unit) ⊕ ((List Nat))) := whileM (fun s => (impl_loadSheet_l0_T v190 s).run) s0
def impl_loadSheet_l0_E (v190 : ByteArray) (s : (Int) ⊕ (Int × (List Nat))) : Sd := (match s with | .inl s => ( ([.str v190,tp,.ptr 0 (0 : Nat) 0 (4 : Nat),tp,tp,tp,.ptr 1 (0 : Nat) 0 (4 : Nat),tp,.int .i64 (IntKind.i64.wrap ((IntKind.i64.wrap ((7 : Int) + (IntKind.i64.wrap (bt v190 (4 : Int))))) + (IntKind.i64.wrap ((4 : Int) * (IntKind.i64.wrap ((IntKind.i64.wrap (bt v190 (IntKind.i64.wrap ((IntKind.i64.wrap ((7 : Int) + (IntKind.i64.wrap (bt v190 (4 : Int))))) - (2 : Int))))) * (IntKind.i64.wrap (bt v190 (IntKind.i64.wrap ((IntKind.i64.wrap ((7 : Int) + (IntKind.i64.wrap (bt v190 (4 : Int))))) - (1 : Int))))))))))),.int .i64 s,tp,tp,tp,tp,tp,tp,tp,tp,tp,tp,tp,tp,tp,tp,tp,tp,tp,tp,tp,tp,tp,tp,tp,tp,tp,tp,tp,tp,tp,tp,tp,tp,tp,tp,tp,tp,tp,tp,tp,tp,tp,tp,tp,tp,tp,tp,tp,tp,tp,tp,tp,tp,tp,tp,tp,tp,tp,tp,tp,tp,tp,tp,tp,tp,tp,tp,tp,tp,tp,tp,tp,tp,tp,tp,tp,tp,tp,tp,tp,tp,tp,tp,tp,tp,tp,tp,tp], [.gen [.str ByteArray.empty, .int .i64 (0 : Int), .int .i64 (0 : Int), .nilslc] false 0, .gen [.str (ByteArray.extract v190 (Int.toNat (5 : Int)) (Int.toNat (IntKind.i64.wrap ((IntKind.i64.wrap ((7 : Int) + (IntKind.i64.wrap (bt v190 (4 : Int))))) - (2 : Int))))), .int .i64 (IntKind.i64.wrap (bt v190 (IntKind.i64.wrap ((IntKind.i64.wrap ((7 : Int) + (IntKind.i64.wrap (bt v190 (4 : Int))))) - (2 : Int))))), .int .i64 (IntKind.i64.wrap (bt v190 (IntKind.i64.wrap ((IntKind.i64.wrap ((7 : Int) + (IntKind.i64.wrap (bt v190 (4 : Int))))) - (1 : Int))))), .nilslc] false 0])) | .inr s => ( ([.str v190,tp,.ptr 0 (0 : Nat) 0 (4 : Nat),tp,tp,tp,.ptr 1 (0 : Nat) 0 (4 : Nat),tp,.int .i64 (IntKind.i64.wrap ((IntKind.i64.wrap ((7 : Int) + (IntKind.i64.wrap (bt v190 (4 : Int))))) + (IntKind.i64.wrap ((4 : Int) * (IntKind.i64.wrap ((IntKind.i64.wrap (bt v190 (IntKind.i64.wrap ((IntKind.i64.wrap ((7 : Int) + (IntKind.i64.wrap (bt v190 (4 : Int))))) - (2 : Int))))) * (IntKind.i64.wrap (bt v190 (IntKind.i64.wrap ((IntKind.i64.wrap ((7 : Int) + (IntKind.i64.wrap (bt v190 (4 : Int))))) - (1 : Int))))))))))),.int .i64 s.1,tp,tp,tp,tp,tp,tp,tp,tp,tp,tp,tp,tp,tp,tp,tp,tp,tp,tp,tp,tp,tp,tp,tp,tp,tp,tp,tp,tp,tp,tp,tp,tp,tp,tp,tp,tp,tp,tp,tp,tp,tp,tp,tp,tp,tp,tp,tp,tp,tp,tp,tp,tp,tp,tp,tp,tp,tp,tp,tp,tp,tp,tp,tp,tp,tp,tp,tp,tp,tp,tp,tp,tp,tp,tp,tp,tp,tp,tp,tp,tp,tp,tp,tp,tp,tp,tp,tp], [.gen [.str ByteArray.empty, .int .i64 (0 : Int), .int .i64 (0 : Int), .nilslc] false 0, .gen [.str (ByteArray.extract v190 (Int.toNat (5 : Int)) (Int.toNat (IntKind.i64.wrap ((IntKind.i64.wrap ((7 : Int) + (IntKind.i64.wrap (bt v190 (4 : Int))))) - (2 : Int))))), .int .i64 (IntKind.i64.wrap (bt v190 (IntKind.i64.wrap ((IntKind.i64.wrap ((7 : Int) + (IntKind.i64.wrap (bt v190 (4 : Int))))) - (2 : Int))))), .int .i64 (IntKind.i64.wrap (bt v190 (IntKind.i64.wrap ((IntKind.i64.wrap ((7 : Int) + (IntKind.i64.wrap (bt v190 (4 : Int))))) - (1 : Int))))), .own 2 0 ((s.2).length)] false 0, .row (.f32 s.2) 0]))) 
def impl_loadSheet_l0_X (v190 : ByteArray) (x : (Unit) ⊕ ((List Nat))) : Out := (match x with | .inl x => (.normal, [.str v190,tp,.ptr 0 (0 : Nat) 0 (4 : Nat),tp,tp,tp,.ptr 1 (0 : Nat) 0 (4 : Nat),tp,.int .i64 (IntKind.i64.wrap ((IntKind.i64.wrap ((7 : Int) + (IntKind.i64.wrap (bt v190 (4 : Int))))) + (IntKind.i64.wrap ((4 : Int) * (IntKind.i64.wrap ((IntKind.i64.wrap (bt v190 (IntKind.i64.wrap ((IntKind.i64.wrap ((7 : Int) + (IntKind.i64.wrap (bt v190 (4 : Int))))) - (2 : Int))))) * (IntKind.i64.wrap (bt v190 (IntKind.i64.wrap ((IntKind.i64.wrap ((7 : Int) + (IntKind.i64.wrap (bt v190 (4 : Int))))) - (1 : Int))))))))))),tp,tp,tp,tp,tp,tp,tp,tp,tp,tp,tp,tp,tp,tp,tp,tp,tp,tp,tp,tp,tp,tp,tp,tp,tp,tp,tp,tp,tp,tp,tp,tp,tp,tp,tp,tp,tp,tp,tp,tp,tp,tp,tp,tp,tp,tp,tp,tp,tp,tp,tp,tp,tp,tp,tp,tp,tp,tp,tp,tp,tp,tp,tp,tp,tp,tp,tp,tp,tp,tp,tp,tp,tp,tp,tp,tp,tp,tp,tp,tp,tp,tp,tp,tp,tp,tp,tp,tp], [.gen [.str ByteArray.empty, .int .i64 (0 : Int), .int .i64 (0 : Int), .nilslc] false 0, .gen [.str (ByteArray.extract v190 (Int.toNat (5 : Int)) (Int.toNat (IntKind.i64.wrap ((IntKind.i64.wrap ((7 : Int) + (IntKind.i64.wrap (bt v190 (4 : Int))))) - (2 : Int))))), .int .i64 (IntKind.i64.wrap (bt v190 (IntKind.i64.wrap ((IntKind.i64.wrap ((7 : Int) + (IntKind.i64.wrap (bt v190 (4 : Int))))) - (2 : Int))))), .int .i64 (IntKind.i64.wrap (bt v190 (IntKind.i64.wrap ((IntKind.i64.wrap ((7 : Int) + (IntKind.i64.wrap (bt v190 (4 : Int))))) - (1 : Int))))), .nilslc] false 0]) | .inr x => (.normal, [.str v190,tp,.ptr 0 (0 : Nat) 0 (4 : Nat),tp,tp,tp,.ptr 1 (0 : Nat) 0 (4 : Nat),tp,.int .i64 (IntKind.i64.wrap ((IntKind.i64.wrap ((7 : Int) + (IntKind.i64.wrap (bt v190 (4 : Int))))) + (IntKind.i64.wrap ((4 : Int) * (IntKind.i64.wrap ((IntKind.i64.wrap (bt v190 (IntKind.i64.wrap ((IntKind.i64.wrap ((7 : Int) + (IntKind.i64.wrap (bt v190 (4 : Int))))) - (2 : Int))))) * (IntKind.i64.wrap (bt v190 (IntKind.i64.wrap ((IntKind.i64.wrap ((7 : Int) + (IntKind.i64.wrap (bt v190 (4 : Int))))) - (1 : Int))))))))))),tp,tp,tp,tp,tp,tp,tp,tp,tp,tp,tp,tp,tp,tp,tp,tp,tp,tp,tp,tp,tp,tp,tp,tp,tp,tp,tp,tp,tp,tp,tp,tp,tp,tp,tp,tp,tp,tp,tp,tp,tp,tp,tp,tp,tp,tp,tp,tp,tp,tp,tp,tp,tp,tp,tp,tp,tp,tp,tp,tp,tp,tp,tp,tp,tp,tp,tp,tp,tp,tp,tp,tp,tp,tp,tp,tp,tp,tp,tp,tp,tp,tp,tp,tp,tp,tp,tp,tp], [.gen [.str ByteArray.empty, .int .i64 (0 : Int), .int .i64 (0 : Int), .nilslc] false 0, .gen [.str (ByteArray.extract v190 (Int.toNat (5 : Int)) (Int.toNat (IntKind.i64.wrap ((IntKind.i64.wrap ((7 : Int) + (IntKind.i64.wrap (bt v190 (4 : Int))))) - (2 : Int))))), .int .i64 (IntKind.i64.wrap (bt v190 (IntKind.i64.wrap ((IntKind.i64.wrap ((7 : Int) + (IntKind.i64.wrap (bt v190 (4 : Int))))) - (2 : Int))))), .int .i64 (IntKind.i64.wrap (bt v190 (IntKind.i64.wrap ((IntKind.i64.wrap ((7 : Int) + (IntKind.i64.wrap (bt v190 (4 : Int))))) - (1 : Int))))), .own 2 0 ((x).length)] false 0, .row (.f32 x) 0]))
def impl_loadSheet_l0_kill : List Nat := KL true [0,1,1,1,3,1,1,2,87]
def impl_loadSheet_l0_nx : Exit → List Nat
  | .exit 0 => KL true [0,1,1,1,3,1,1,1,88]
  | .ret => KL true [2,3,92]
  | _ => []
noncomputable def impl_loadSheet_LO (v190 : ByteArray) : LOr := fun id e L =>
  match id with
  | 0 => .need (normA 0 impl_loadSheet_l0_kill e L = some (impl_loadSheet_l0_E v190 (.inl (gI (vAt e 9))))) (.call (impl_loadSheet_l0_g v190 (.inl (gI (vAt e 9)))) fun x => .sum x (fun b0 => .leaf (impl_loadSheet_l0_X v190 (.inl b0))) (fun c0 => .leaf (impl_loadSheet_l0_X v190 (.inr c0))))
  | _ => .fail
noncomputable def impl_loadSheet_tab : List (FuncId × DFn × Bool) := [(72, impl_numberOf_F, true), (71, From32_F, true), (31, impl_ValidSheet_F, true), (37, impl_storeSheet_F, true)]
theorem impl_loadSheet_hO : OrcOk Try.prog (tabD impl_loadSheet_tab) (tabM impl_loadSheet_tab) := tabD_cons impl_numberOf_Fok (tabD_cons From32_Fok (tabD_cons impl_ValidSheet_Fok (tabD_cons impl_storeSheet_Fok (tabD_nil _))))
theorem impl_loadSheet_l0_be0 (v190 : ByteArray) (s : Int) : bodyT TT (tabD impl_loadSheet_tab) (tabM impl_loadSheet_tab) (impl_loadSheet_LO v190) 0 impl_loadSheet_l0_kill impl_loadSheet_l0_nx (bodyOf Try.f40 0) 0 (impl_loadSheet_l0_E v190 (.inl s)) = (impl_loadSheet_l0_T v190 (.inl s)).bind fun y => .leaf (outS (impl_loadSheet_l0_E v190) (impl_loadSheet_l0_X v190) y) := by kernel_rfl
theorem impl_loadSheet_l0_be1 (v190 : ByteArray) (s : Int × (List Nat)) : bodyT TT (tabD impl_loadSheet_tab) (tabM impl_loadSheet_tab) (impl_loadSheet_LO v190) 0 impl_loadSheet_l0_kill impl_loadSheet_l0_nx (bodyOf Try.f40 0) 0 (impl_loadSheet_l0_E v190 (.inr s)) = (impl_loadSheet_l0_T v190 (.inr s)).bind fun y => .leaf (outS (impl_loadSheet_l0_E v190) (impl_loadSheet_l0_X v190) y) := by kernel_rfl
theorem impl_loadSheet_l0_be (v190 : ByteArray) (s : (Int) ⊕ (Int × (List Nat))) : bodyT TT (tabD impl_loadSheet_tab) (tabM impl_loadSheet_tab) (impl_loadSheet_LO v190) 0 impl_loadSheet_l0_kill impl_loadSheet_l0_nx (bodyOf Try.f40 0) 0 (impl_loadSheet_l0_E v190 s) = (impl_loadSheet_l0_T v190 s).bind fun y => .leaf (outS (impl_loadSheet_l0_E v190) (impl_loadSheet_l0_X v190) y) := by 
  rcases s with s | s
  · exact impl_loadSheet_l0_be0 v190 s
  · exact impl_loadSheet_l0_be1 v190 s
theorem impl_loadSheet_l0_ok (v190 : ByteArray) : LSound Try.prog 0 (impl_loadSheet_LO v190) 0 (bodyOf Try.f40 0) := by
  intro e L out h
  exact lo_ok (E := impl_loadSheet_l0_E v190) (gT := impl_loadSheet_l0_T v190) (X := impl_loadSheet_l0_X v190) (s0 := .inl (gI (vAt e 9))) tok impl_loadSheet_hO mixed (LoopsOk_eq (l := []) (by kernel_rfl) trivial) (impl_loadSheet_l0_be v190) rfl (by intro x; (cases x with | inl b => rfl | inr x => exact rfl)) h
noncomputable def impl_loadSheet_T (v190 : ByteArray) : Tree ((ByteArray) ⊕ ((ByteArray × Int × Int × Int) ⊕ (ByteArray × Int × Int × Int × (List Nat)))) :=
  (.br (decide (((v190.size : Nat) : Int) < (5 : Int))) (
  .leaf (.inl ByteArray.empty)
  ) (
  (.grd (inb (4 : Int) v190.size) <|
  (.br (decide (((v190.size : Nat) : Int) < IntKind.i64.wrap ((7 : Int) + (IntKind.i64.wrap (bt v190 (4 : Int)))))) (
  .leaf (.inl ByteArray.empty)
  ) (
  (.grd (inb (4 : Int) v190.size) <|
  (.grd (sok (5 : Int) (IntKind.i64.wrap ((IntKind.i64.wrap ((7 : Int) + (IntKind.i64.wrap (bt v190 (4 : Int))))) - (2 : Int))) v190.size) <|
  (.grd (inb (IntKind.i64.wrap ((IntKind.i64.wrap ((7 : Int) + (IntKind.i64.wrap (bt v190 (4 : Int))))) - (2 : Int))) v190.size) <|
  (.grd (inb (IntKind.i64.wrap ((IntKind.i64.wrap ((7 : Int) + (IntKind.i64.wrap (bt v190 (4 : Int))))) - (1 : Int))) v190.size) <|
  (.br (decide (((v190.size : Nat) : Int) < IntKind.i64.wrap ((IntKind.i64.wrap ((IntKind.i64.wrap ((7 : Int) + (IntKind.i64.wrap (bt v190 (4 : Int))))) + (IntKind.i64.wrap ((4 : Int) * (IntKind.i64.wrap ((IntKind.i64.wrap (bt v190 (IntKind.i64.wrap ((IntKind.i64.wrap ((7 : Int) + (IntKind.i64.wrap (bt v190 (4 : Int))))) - (2 : Int))))) * (IntKind.i64.wrap (bt v190 (IntKind.i64.wrap ((IntKind.i64.wrap ((7 : Int) + (IntKind.i64.wrap (bt v190 (4 : Int))))) - (1 : Int))))))))))) + (2 : Int)))) (
  .leaf (.inl ByteArray.empty)
  ) (
  (.need (some (impl_loadSheet_l0_E v190 (.inl (IntKind.i64.wrap ((7 : Int) + (IntKind.i64.wrap (bt v190 (4 : Int))))))) = some (impl_loadSheet_l0_E v190 (.inl (IntKind.i64.wrap ((7 : Int) + (IntKind.i64.wrap (bt v190 (4 : Int)))))))) <|
  (.call (impl_loadSheet_l0_g v190 (.inl (IntKind.i64.wrap ((7 : Int) + (IntKind.i64.wrap (bt v190 (4 : Int))))))) fun v212 =>
  (.sum v212 (fun v213 =>
  (.call (impl_ValidSheet_g (ByteArray.extract v190 (Int.toNat (5 : Int)) (Int.toNat (IntKind.i64.wrap ((IntKind.i64.wrap ((7 : Int) + (IntKind.i64.wrap (bt v190 (4 : Int))))) - (2 : Int))))) (IntKind.i64.wrap (bt v190 (IntKind.i64.wrap ((IntKind.i64.wrap ((7 : Int) + (IntKind.i64.wrap (bt v190 (4 : Int))))) - (2 : Int))))) (IntKind.i64.wrap (bt v190 (IntKind.i64.wrap ((IntKind.i64.wrap ((7 : Int) + (IntKind.i64.wrap (bt v190 (4 : Int))))) - (1 : Int))))) ([] : List Nat)) fun v215 =>
  (.br (!v215) (
  .leaf (.inl ByteArray.empty)
  ) (
  (.call (impl_storeSheet_g (ByteArray.extract v190 (Int.toNat (5 : Int)) (Int.toNat (IntKind.i64.wrap ((IntKind.i64.wrap ((7 : Int) + (IntKind.i64.wrap (bt v190 (4 : Int))))) - (2 : Int))))) (IntKind.i64.wrap (bt v190 (IntKind.i64.wrap ((IntKind.i64.wrap ((7 : Int) + (IntKind.i64.wrap (bt v190 (4 : Int))))) - (2 : Int))))) (IntKind.i64.wrap (bt v190 (IntKind.i64.wrap ((IntKind.i64.wrap ((7 : Int) + (IntKind.i64.wrap (bt v190 (4 : Int))))) - (1 : Int))))) ([] : List Nat)) fun v216 =>
  (.grd (sok (0 : Int) (IntKind.i64.wrap ((IntKind.i64.wrap ((IntKind.i64.wrap ((7 : Int) + (IntKind.i64.wrap (bt v190 (4 : Int))))) + (IntKind.i64.wrap ((4 : Int) * (IntKind.i64.wrap ((IntKind.i64.wrap (bt v190 (IntKind.i64.wrap ((IntKind.i64.wrap ((7 : Int) + (IntKind.i64.wrap (bt v190 (4 : Int))))) - (2 : Int))))) * (IntKind.i64.wrap (bt v190 (IntKind.i64.wrap ((IntKind.i64.wrap ((7 : Int) + (IntKind.i64.wrap (bt v190 (4 : Int))))) - (1 : Int))))))))))) + (2 : Int))) v190.size) <|
  (.br (!(v216.toList == (ByteArray.extract v190 (Int.toNat (0 : Int)) (Int.toNat (IntKind.i64.wrap ((IntKind.i64.wrap ((IntKind.i64.wrap ((7 : Int) + (IntKind.i64.wrap (bt v190 (4 : Int))))) + (IntKind.i64.wrap ((4 : Int) * (IntKind.i64.wrap ((IntKind.i64.wrap (bt v190 (IntKind.i64.wrap ((IntKind.i64.wrap ((7 : Int) + (IntKind.i64.wrap (bt v190 (4 : Int))))) - (2 : Int))))) * (IntKind.i64.wrap (bt v190 (IntKind.i64.wrap ((IntKind.i64.wrap ((7 : Int) + (IntKind.i64.wrap (bt v190 (4 : Int))))) - (1 : Int))))))))))) + (2 : Int))))).toList)) (
  .leaf (.inl ByteArray.empty)
  ) (
  .leaf (.inr (.inl (ByteArray.extract v190 (Int.toNat (5 : Int)) (Int.toNat (IntKind.i64.wrap ((IntKind.i64.wrap ((7 : Int) + (IntKind.i64.wrap (bt v190 (4 : Int))))) - (2 : Int)))), IntKind.i64.wrap (bt v190 (IntKind.i64.wrap ((IntKind.i64.wrap ((7 : Int) + (IntKind.i64.wrap (bt v190 (4 : Int))))) - (2 : Int)))), IntKind.i64.wrap (bt v190 (IntKind.i64.wrap ((IntKind.i64.wrap ((7 : Int) + (IntKind.i64.wrap (bt v190 (4 : Int))))) - (1 : Int)))), IntKind.i64.wrap ((IntKind.i64.wrap ((IntKind.i64.wrap ((7 : Int) + (IntKind.i64.wrap (bt v190 (4 : Int))))) + (IntKind.i64.wrap ((4 : Int) * (IntKind.i64.wrap ((IntKind.i64.wrap (bt v190 (IntKind.i64.wrap ((IntKind.i64.wrap ((7 : Int) + (IntKind.i64.wrap (bt v190 (4 : Int))))) - (2 : Int))))) * (IntKind.i64.wrap (bt v190 (IntKind.i64.wrap ((IntKind.i64.wrap ((7 : Int) + (IntKind.i64.wrap (bt v190 (4 : Int))))) - (1 : Int))))))))))) + (2 : Int)))))
  ))))
  )))
  ) (fun v214 =>
  (.call (impl_ValidSheet_g (ByteArray.extract v190 (Int.toNat (5 : Int)) (Int.toNat (IntKind.i64.wrap ((IntKind.i64.wrap ((7 : Int) + (IntKind.i64.wrap (bt v190 (4 : Int))))) - (2 : Int))))) (IntKind.i64.wrap (bt v190 (IntKind.i64.wrap ((IntKind.i64.wrap ((7 : Int) + (IntKind.i64.wrap (bt v190 (4 : Int))))) - (2 : Int))))) (IntKind.i64.wrap (bt v190 (IntKind.i64.wrap ((IntKind.i64.wrap ((7 : Int) + (IntKind.i64.wrap (bt v190 (4 : Int))))) - (1 : Int))))) v214) fun v217 =>
  (.br (!v217) (
  .leaf (.inl ByteArray.empty)
  ) (
  (.call (impl_storeSheet_g (ByteArray.extract v190 (Int.toNat (5 : Int)) (Int.toNat (IntKind.i64.wrap ((IntKind.i64.wrap ((7 : Int) + (IntKind.i64.wrap (bt v190 (4 : Int))))) - (2 : Int))))) (IntKind.i64.wrap (bt v190 (IntKind.i64.wrap ((IntKind.i64.wrap ((7 : Int) + (IntKind.i64.wrap (bt v190 (4 : Int))))) - (2 : Int))))) (IntKind.i64.wrap (bt v190 (IntKind.i64.wrap ((IntKind.i64.wrap ((7 : Int) + (IntKind.i64.wrap (bt v190 (4 : Int))))) - (1 : Int))))) v214) fun v218 =>
  (.grd (sok (0 : Int) (IntKind.i64.wrap ((IntKind.i64.wrap ((IntKind.i64.wrap ((7 : Int) + (IntKind.i64.wrap (bt v190 (4 : Int))))) + (IntKind.i64.wrap ((4 : Int) * (IntKind.i64.wrap ((IntKind.i64.wrap (bt v190 (IntKind.i64.wrap ((IntKind.i64.wrap ((7 : Int) + (IntKind.i64.wrap (bt v190 (4 : Int))))) - (2 : Int))))) * (IntKind.i64.wrap (bt v190 (IntKind.i64.wrap ((IntKind.i64.wrap ((7 : Int) + (IntKind.i64.wrap (bt v190 (4 : Int))))) - (1 : Int))))))))))) + (2 : Int))) v190.size) <|
  (.br (!(v218.toList == (ByteArray.extract v190 (Int.toNat (0 : Int)) (Int.toNat (IntKind.i64.wrap ((IntKind.i64.wrap ((IntKind.i64.wrap ((7 : Int) + (IntKind.i64.wrap (bt v190 (4 : Int))))) + (IntKind.i64.wrap ((4 : Int) * (IntKind.i64.wrap ((IntKind.i64.wrap (bt v190 (IntKind.i64.wrap ((IntKind.i64.wrap ((7 : Int) + (IntKind.i64.wrap (bt v190 (4 : Int))))) - (2 : Int))))) * (IntKind.i64.wrap (bt v190 (IntKind.i64.wrap ((IntKind.i64.wrap ((7 : Int) + (IntKind.i64.wrap (bt v190 (4 : Int))))) - (1 : Int))))))))))) + (2 : Int))))).toList)) (
  .leaf (.inl ByteArray.empty)
  ) (
  .leaf (.inr (.inr (ByteArray.extract v190 (Int.toNat (5 : Int)) (Int.toNat (IntKind.i64.wrap ((IntKind.i64.wrap ((7 : Int) + (IntKind.i64.wrap (bt v190 (4 : Int))))) - (2 : Int)))), IntKind.i64.wrap (bt v190 (IntKind.i64.wrap ((IntKind.i64.wrap ((7 : Int) + (IntKind.i64.wrap (bt v190 (4 : Int))))) - (2 : Int)))), IntKind.i64.wrap (bt v190 (IntKind.i64.wrap ((IntKind.i64.wrap ((7 : Int) + (IntKind.i64.wrap (bt v190 (4 : Int))))) - (1 : Int)))), IntKind.i64.wrap ((IntKind.i64.wrap ((IntKind.i64.wrap ((7 : Int) + (IntKind.i64.wrap (bt v190 (4 : Int))))) + (IntKind.i64.wrap ((4 : Int) * (IntKind.i64.wrap ((IntKind.i64.wrap (bt v190 (IntKind.i64.wrap ((IntKind.i64.wrap ((7 : Int) + (IntKind.i64.wrap (bt v190 (4 : Int))))) - (2 : Int))))) * (IntKind.i64.wrap (bt v190 (IntKind.i64.wrap ((IntKind.i64.wrap ((7 : Int) + (IntKind.i64.wrap (bt v190 (4 : Int))))) - (1 : Int))))))))))) + (2 : Int)), v214)))
  ))))
  )))
  ))))
  ))))))
  )))
  ))

noncomputable def impl_loadSheet_g (v190 : ByteArray) : Option ((ByteArray) ⊕ ((ByteArray × Int × Int × Int) ⊕ (ByteArray × Int × Int × Int × (List Nat)))) := (impl_loadSheet_T v190).run
def impl_loadSheet_enc (v190 : ByteArray) (y : (ByteArray) ⊕ ((ByteArray × Int × Int × Int) ⊕ (ByteArray × Int × Int × Int × (List Nat)))) : Rs := (match y with | .inl y => (.tup [.agg [.str y, .int .i64 (0 : Int), .int .i64 (0 : Int), .nilslc], .int .i64 (0 : Int), .lit false], []) | .inr y => (match y with | .inl y => (.tup [.agg [.str y.1, .int .i64 y.2.1, .int .i64 y.2.2.1, .nilslc], .int .i64 y.2.2.2, .lit true], []) | .inr y => (.tup [.agg [.str y.1, .int .i64 y.2.1, .int .i64 y.2.2.1, .own 0 0 ((y.2.2.2.2).length)], .int .i64 y.2.2.2.1, .lit true], [.row (.f32 y.2.2.2.2) 0])))
theorem impl_loadSheet_den (v190 : ByteArray) : (den TT (tabD impl_loadSheet_tab) (tabM impl_loadSheet_tab) (impl_loadSheet_LO v190) (codeOf Try.f40) ([.str v190] ++ List.replicate (Try.f40.ntmps - ([.str v190] : List DV).length) .undef) []).bind (retD TT Try.f40.results.toList 0) = (impl_loadSheet_T v190).bind fun y => .leaf (impl_loadSheet_enc v190 y) := by kernel_rfl
theorem impl_loadSheet_fn (v190 : ByteArray) (F : Fr) (h0 : St F [] F.H0) (hA : DVs.Ok F [] [.str v190]) {y : (ByteArray) ⊕ ((ByteArray × Int × Int × Int) ⊕ (ByteArray × Int × Int × Int × (List Nat)))} (hy : impl_loadSheet_g v190 = some y) : ∃ F' H', Fwd 0 F F' [] (impl_loadSheet_enc v190 y).2 ∧ FnOk Try.prog 40 (DVs.av F [.str v190]) F.H0 ((impl_loadSheet_enc v190 y).1.av F') H' ∧ St F' (impl_loadSheet_enc v190 y).2 H' ∧ (impl_loadSheet_enc v190 y).1.Ok F' (impl_loadSheet_enc v190 y).2 :=
  fn_fin tok impl_loadSheet_hO mixed Try.func40 Try.call40 (by kernel_rfl) (LoopsOk_eq (l := [(0, bodyOf Try.f40 0)]) (by kernel_rfl) ⟨impl_loadSheet_l0_ok v190, trivial⟩) (impl_loadSheet_den v190) hy h0 hA
noncomputable def impl_loadSheet_F : DFn := fun args L =>
  match args with
  | [.str v190] =>
    .call (impl_loadSheet_g v190) fun y => .sum y (fun y0 => .leaf (.tup [.agg [.str y0, .int .i64 (0 : Int), .int .i64 (0 : Int), .nilslc], .int .i64 (0 : Int), .lit false], L)) (fun z0 => .sum z0 (fun y1 => .leaf (.tup [.agg [.str y1.1, .int .i64 y1.2.1, .int .i64 y1.2.2.1, .nilslc], .int .i64 y1.2.2.2, .lit true], L)) (fun z1 => .leaf (.tup [.agg [.str z1.1, .int .i64 z1.2.1, .int .i64 z1.2.2.1, .own (L.length + 0) 0 ((z1.2.2.2.2).length)], .int .i64 z1.2.2.2.1, .lit true], L ++ [.row (.f32 z1.2.2.2.2) 0])))
  | _ => .fail
theorem impl_loadSheet_Fok : COk Try.prog 40 impl_loadSheet_F true := by
  intro F L H args r L' hs ha hr
  unfold impl_loadSheet_F at hr
  split at hr
  · rename_i v190
    simp only [Tree.run] at hr
    obtain ⟨y, hy, hr⟩ := Option.bind_eq_some_iff.1 hr
    cases y with
    | inl y =>
      simp only [Tree.run, Option.some.injEq, Prod.mk.injEq] at hr
      obtain ⟨rfl, rfl⟩ := hr
      exact call_ok0 hs (fun k => (([] : List AV)[k]?).getD .top) [.str v190] [.str v190] (fun F' h0 hi hρ => ⟨by simp [DVs.av, DV.av, BR.av, hρ], impl_loadSheet_fn v190 F' (st_nil hi) ⟨trivial, trivial⟩ hy⟩) rfl
    | inr y =>
      cases y with
      | inl y =>
        simp only [Tree.run, Option.some.injEq, Prod.mk.injEq] at hr
        obtain ⟨rfl, rfl⟩ := hr
        exact call_ok0 hs (fun k => (([] : List AV)[k]?).getD .top) [.str v190] [.str v190] (fun F' h0 hi hρ => ⟨by simp [DVs.av, DV.av, BR.av, hρ], impl_loadSheet_fn v190 F' (st_nil hi) ⟨trivial, trivial⟩ hy⟩) rfl
      | inr y =>
        simp only [Tree.run, Option.some.injEq, Prod.mk.injEq] at hr
        obtain ⟨rfl, rfl⟩ := hr
        exact call_ok1 hs (fun k => (([] : List AV)[k]?).getD .top) [.str v190] [.str v190] (fun F' h0 hi hρ => ⟨by simp [DVs.av, DV.av, BR.av, hρ], impl_loadSheet_fn v190 F' (st_nil hi) ⟨trivial, trivial⟩ hy⟩) rfl rfl
  · cases hr
/-! impl.LoadSheet -/
noncomputable def impl_LoadSheet_LO (v189 : ByteArray) : LOr := fun id e L =>
  match id with
  | _ => .fail
noncomputable def impl_LoadSheet_tab : List (FuncId × DFn × Bool) := [(40, impl_loadSheet_F, true)]
theorem impl_LoadSheet_hO : OrcOk Try.prog (tabD impl_LoadSheet_tab) (tabM impl_LoadSheet_tab) := tabD_cons impl_loadSheet_Fok (tabD_nil _)
noncomputable def impl_LoadSheet_T (v189 : ByteArray) : Tree ((ByteArray) ⊕ ((ByteArray × Int × Int) ⊕ (ByteArray × Int × Int × (List Nat)))) :=
  (.call (impl_loadSheet_g v189) fun v219 =>
  (.sum v219 (fun v220 =>
  .leaf (.inl ByteArray.empty)
  ) (fun v221 =>
  (.sum v221 (fun v222 =>
  (.br (!decide (v222.2.2.2 = ((v189.size : Nat) : Int))) (
  .leaf (.inl ByteArray.empty)
  ) (
  .leaf (.inr (.inl (v222.1, v222.2.1, v222.2.2.1)))
  ))
  ) (fun v223 =>
  (.br (!decide (v223.2.2.2.1 = ((v189.size : Nat) : Int))) (
  .leaf (.inl ByteArray.empty)
  ) (
  .leaf (.inr (.inr (v223.1, v223.2.1, v223.2.2.1, v223.2.2.2.2)))
  ))
  ))
  )))

noncomputable def impl_LoadSheet_g (v189 : ByteArray) : Option ((ByteArray) ⊕ ((ByteArray × Int × Int) ⊕ (ByteArray × Int × Int × (List Nat)))) := (impl_LoadSheet_T v189).run
def impl_LoadSheet_enc (v189 : ByteArray) (y : (ByteArray) ⊕ ((ByteArray × Int × Int) ⊕ (ByteArray × Int × Int × (List Nat)))) : Rs := (match y with | .inl y => (.tup [.agg [.str y, .int .i64 (0 : Int), .int .i64 (0 : Int), .nilslc], .lit false], []) | .inr y => (match y with | .inl y => (.tup [.agg [.str y.1, .int .i64 y.2.1, .int .i64 y.2.2, .nilslc], .lit true], []) | .inr y => (.tup [.agg [.str y.1, .int .i64 y.2.1, .int .i64 y.2.2.1, .own 0 0 ((y.2.2.2).length)], .lit true], [.row (.f32 y.2.2.2) 0])))
theorem impl_LoadSheet_den (v189 : ByteArray) : (den TT (tabD impl_LoadSheet_tab) (tabM impl_LoadSheet_tab) (impl_LoadSheet_LO v189) (codeOf Try.f15) ([.str v189] ++ List.replicate (Try.f15.ntmps - ([.str v189] : List DV).length) .undef) []).bind (retD TT Try.f15.results.toList 0) = (impl_LoadSheet_T v189).bind fun y => .leaf (impl_LoadSheet_enc v189 y) := by kernel_rfl
theorem impl_LoadSheet_fn (v189 : ByteArray) (F : Fr) (h0 : St F [] F.H0) (hA : DVs.Ok F [] [.str v189]) {y : (ByteArray) ⊕ ((ByteArray × Int × Int) ⊕ (ByteArray × Int × Int × (List Nat)))} (hy : impl_LoadSheet_g v189 = some y) : ∃ F' H', Fwd 0 F F' [] (impl_LoadSheet_enc v189 y).2 ∧ FnOk Try.prog 15 (DVs.av F [.str v189]) F.H0 ((impl_LoadSheet_enc v189 y).1.av F') H' ∧ St F' (impl_LoadSheet_enc v189 y).2 H' ∧ (impl_LoadSheet_enc v189 y).1.Ok F' (impl_LoadSheet_enc v189 y).2 :=
  fn_fin tok impl_LoadSheet_hO mixed Try.func15 Try.call15 (by kernel_rfl) (LoopsOk_eq (l := []) (by kernel_rfl) trivial) (impl_LoadSheet_den v189) hy h0 hA
noncomputable def impl_LoadSheet_F : DFn := fun args L =>
  match args with
  | [.str v189] =>
    .call (impl_LoadSheet_g v189) fun y => .sum y (fun y0 => .leaf (.tup [.agg [.str y0, .int .i64 (0 : Int), .int .i64 (0 : Int), .nilslc], .lit false], L)) (fun z0 => .sum z0 (fun y1 => .leaf (.tup [.agg [.str y1.1, .int .i64 y1.2.1, .int .i64 y1.2.2, .nilslc], .lit true], L)) (fun z1 => .leaf (.tup [.agg [.str z1.1, .int .i64 z1.2.1, .int .i64 z1.2.2.1, .own (L.length + 0) 0 ((z1.2.2.2).length)], .lit true], L ++ [.row (.f32 z1.2.2.2) 0])))
  | _ => .fail
theorem impl_LoadSheet_Fok : COk Try.prog 15 impl_LoadSheet_F true := by
  intro F L H args r L' hs ha hr
  unfold impl_LoadSheet_F at hr
  split at hr
  · rename_i v189
    simp only [Tree.run] at hr
    obtain ⟨y, hy, hr⟩ := Option.bind_eq_some_iff.1 hr
    cases y with
    | inl y =>
      simp only [Tree.run, Option.some.injEq, Prod.mk.injEq] at hr
      obtain ⟨rfl, rfl⟩ := hr
      exact call_ok0 hs (fun k => (([] : List AV)[k]?).getD .top) [.str v189] [.str v189] (fun F' h0 hi hρ => ⟨by simp [DVs.av, DV.av, BR.av, hρ], impl_LoadSheet_fn v189 F' (st_nil hi) ⟨trivial, trivial⟩ hy⟩) rfl
    | inr y =>
      cases y with
      | inl y =>
        simp only [Tree.run, Option.some.injEq, Prod.mk.injEq] at hr
        obtain ⟨rfl, rfl⟩ := hr
        exact call_ok0 hs (fun k => (([] : List AV)[k]?).getD .top) [.str v189] [.str v189] (fun F' h0 hi hρ => ⟨by simp [DVs.av, DV.av, BR.av, hρ], impl_LoadSheet_fn v189 F' (st_nil hi) ⟨trivial, trivial⟩ hy⟩) rfl
      | inr y =>
        simp only [Tree.run, Option.some.injEq, Prod.mk.injEq] at hr
        obtain ⟨rfl, rfl⟩ := hr
        exact call_ok1 hs (fun k => (([] : List AV)[k]?).getD .top) [.str v189] [.str v189] (fun F' h0 hi hρ => ⟨by simp [DVs.av, DV.av, BR.av, hρ], impl_LoadSheet_fn v189 F' (st_nil hi) ⟨trivial, trivial⟩ hy⟩) rfl rfl
  · cases hr
/-! math.Signbit -/
noncomputable def math_Signbit_LO (v273 : Nat) : LOr := fun id e L =>
  match id with
  | _ => .fail
noncomputable def math_Signbit_tab : List (FuncId × DFn × Bool) := [(97, Bits64_F, true)]
theorem math_Signbit_hO : OrcOk Try.prog (tabD math_Signbit_tab) (tabM math_Signbit_tab) := tabD_cons Bits64_Fok (tabD_nil _)
noncomputable def math_Signbit_T (v273 : Nat) : Tree (Bool) :=
  (.grd (!isNan .f64 v273) <|
  .leaf (decide (IntKind.i64.wrap (((v273 : Nat) : Int)) < (0 : Int))))

noncomputable def math_Signbit_g (v273 : Nat) : Option (Bool) := (math_Signbit_T v273).run
def math_Signbit_enc (v273 : Nat) (y : Bool) : Rs := (.bool y, [])
theorem math_Signbit_den (v273 : Nat) : (den TT (tabD math_Signbit_tab) (tabM math_Signbit_tab) (math_Signbit_LO v273) (codeOf Try.f94) ([.flt .f64 v273] ++ List.replicate (Try.f94.ntmps - ([.flt .f64 v273] : List DV).length) .undef) []).bind (retD TT Try.f94.results.toList 0) = (math_Signbit_T v273).bind fun y => .leaf (math_Signbit_enc v273 y) := by kernel_rfl
theorem math_Signbit_fn (v273 : Nat) (F : Fr) (h0 : St F [] F.H0) (hA : DVs.Ok F [] [.flt .f64 v273]) {y : Bool} (hy : math_Signbit_g v273 = some y) : ∃ F' H', Fwd 0 F F' [] (math_Signbit_enc v273 y).2 ∧ FnOk Try.prog 94 (DVs.av F [.flt .f64 v273]) F.H0 ((math_Signbit_enc v273 y).1.av F') H' ∧ St F' (math_Signbit_enc v273 y).2 H' ∧ (math_Signbit_enc v273 y).1.Ok F' (math_Signbit_enc v273 y).2 :=
  fn_fin tok math_Signbit_hO mixed Try.func94 Try.call94 (by kernel_rfl) (LoopsOk_eq (l := []) (by kernel_rfl) trivial) (math_Signbit_den v273) hy h0 hA
noncomputable def math_Signbit_F : DFn := fun args L =>
  match args with
  | [.flt .f64 v273] =>
    .call (math_Signbit_g v273) fun y => .leaf (.bool y, L)
  | _ => .fail
theorem math_Signbit_Fok : COk Try.prog 94 math_Signbit_F true := by
  intro F L H args r L' hs ha hr
  unfold math_Signbit_F at hr
  split at hr
  · rename_i v273
    simp only [Tree.run] at hr
    obtain ⟨y, hy, hr⟩ := Option.bind_eq_some_iff.1 hr
    simp only [Tree.run, Option.some.injEq, Prod.mk.injEq] at hr
    obtain ⟨rfl, rfl⟩ := hr
    exact call_ok0 hs (fun k => (([] : List AV)[k]?).getD .top) [.flt .f64 v273] [.flt .f64 v273] (fun F' h0 hi hρ => ⟨by simp [DVs.av, DV.av, BR.av, hρ], math_Signbit_fn v273 F' (st_nil hi) ⟨trivial, trivial⟩ hy⟩) rfl
  · cases hr
/-! impl.SameNumber -/
noncomputable def impl_SameNumber_LO (v271 : Nat) (v272 : Nat) : LOr := fun id e L =>
  match id with
  | _ => .fail
noncomputable def impl_SameNumber_tab : List (FuncId × DFn × Bool) := [(94, math_Signbit_F, true)]
theorem impl_SameNumber_hO : OrcOk Try.prog (tabD impl_SameNumber_tab) (tabM impl_SameNumber_tab) := tabD_cons math_Signbit_Fok (tabD_nil _)
noncomputable def impl_SameNumber_T (v271 : Nat) (v272 : Nat) : Tree (Bool) :=
  (.br (!feq .f32 v271 v271) (
  (.br (!feq .f32 v271 v271) (
  .leaf (!feq .f32 v272 v272)
  ) (
  .leaf false
  ))
  ) (
  (.br (!feq .f32 v272 v272) (
  (.br (!feq .f32 v271 v271) (
  .leaf (!feq .f32 v272 v272)
  ) (
  .leaf false
  ))
  ) (
  (.br (feq .f32 v271 v272) (
  (.call (math_Signbit_g (wid v271)) fun v274 =>
  (.call (math_Signbit_g (wid v272)) fun v275 =>
  .leaf (v274 == v275)))
  ) (
  .leaf false
  ))
  ))
  ))

noncomputable def impl_SameNumber_g (v271 : Nat) (v272 : Nat) : Option (Bool) := (impl_SameNumber_T v271 v272).run
def impl_SameNumber_enc (v271 : Nat) (v272 : Nat) (y : Bool) : Rs := (.bool y, [])
theorem impl_SameNumber_den (v271 : Nat) (v272 : Nat) : (den TT (tabD impl_SameNumber_tab) (tabM impl_SameNumber_tab) (impl_SameNumber_LO v271 v272) (codeOf Try.f88) ([.flt .f32 v271, .flt .f32 v272] ++ List.replicate (Try.f88.ntmps - ([.flt .f32 v271, .flt .f32 v272] : List DV).length) .undef) []).bind (retD TT Try.f88.results.toList 0) = (impl_SameNumber_T v271 v272).bind fun y => .leaf (impl_SameNumber_enc v271 v272 y) := by kernel_rfl
theorem impl_SameNumber_fn (v271 : Nat) (v272 : Nat) (F : Fr) (h0 : St F [] F.H0) (hA : DVs.Ok F [] [.flt .f32 v271, .flt .f32 v272]) {y : Bool} (hy : impl_SameNumber_g v271 v272 = some y) : ∃ F' H', Fwd 0 F F' [] (impl_SameNumber_enc v271 v272 y).2 ∧ FnOk Try.prog 88 (DVs.av F [.flt .f32 v271, .flt .f32 v272]) F.H0 ((impl_SameNumber_enc v271 v272 y).1.av F') H' ∧ St F' (impl_SameNumber_enc v271 v272 y).2 H' ∧ (impl_SameNumber_enc v271 v272 y).1.Ok F' (impl_SameNumber_enc v271 v272 y).2 :=
  fn_fin tok impl_SameNumber_hO mixed Try.func88 Try.call88 (by kernel_rfl) (LoopsOk_eq (l := []) (by kernel_rfl) trivial) (impl_SameNumber_den v271 v272) hy h0 hA
noncomputable def impl_SameNumber_F : DFn := fun args L =>
  match args with
  | [.flt .f32 v271, .flt .f32 v272] =>
    .call (impl_SameNumber_g v271 v272) fun y => .leaf (.bool y, L)
  | _ => .fail
theorem impl_SameNumber_Fok : COk Try.prog 88 impl_SameNumber_F true := by
  intro F L H args r L' hs ha hr
  unfold impl_SameNumber_F at hr
  split at hr
  · rename_i v271 v272
    simp only [Tree.run] at hr
    obtain ⟨y, hy, hr⟩ := Option.bind_eq_some_iff.1 hr
    simp only [Tree.run, Option.some.injEq, Prod.mk.injEq] at hr
    obtain ⟨rfl, rfl⟩ := hr
    exact call_ok0 hs (fun k => (([] : List AV)[k]?).getD .top) [.flt .f32 v271, .flt .f32 v272] [.flt .f32 v271, .flt .f32 v272] (fun F' h0 hi hρ => ⟨by simp [DVs.av, DV.av, BR.av, hρ], impl_SameNumber_fn v271 v272 F' (st_nil hi) ⟨trivial, trivial, trivial⟩ hy⟩) rfl
  · cases hr
/-! slices.EqualFunc[list of float32,list of float32,float32,float32] -/
noncomputable def slices_EqualFunc_float32_float32_float32_float32_l0_T (v268 : List Nat) (v269 : List Nat) (s : Int) : Tree ((Int) ⊕ ((Unit) ⊕ (Unit))) :=
  (.br (decide (s < ((v268.length : Nat) : Int))) (
  (.grd (inb s v268.length) <|
  (.grd (inb s v269.length) <|
  (.call (impl_SameNumber_g (nth v268 (Int.toNat s)) (nth v269 (Int.toNat s))) fun v280 =>
  (.br (!v280) (
  .leaf (.inr (.inl ()))
  ) (
  .leaf (.inl (IntKind.i64.wrap (s + (1 : Int))))
  )))))
  ) (
  .leaf (.inr (.inr ()))
  ))

noncomputable def slices_EqualFunc_float32_float32_float32_float32_l0_g (v268 : List Nat) (v269 : List Nat) (s0 : Int) : Option ((Unit) ⊕ (Unit)) := whileM (fun s => (slices_EqualFunc_float32_float32_float32_float32_l0_T v268 v269 s).run) s0
def slices_EqualFunc_float32_float32_float32_float32_l0_E (v268 : List Nat) (v269 : List Nat) (s : Int) : Sd := ([tp,.bslc (BR.root 1) (.f32 v269),.fn 88 [],tp,tp,tp,tp,tp,tp,tp,tp,tp,tp,tp,tp,.bslc (BR.root 0) (.f32 v268),.int .i64 ((v268.length : Nat) : Int),.int .i64 s,tp,tp,tp,tp,tp,tp,tp,tp,tp,tp,tp,tp,tp,tp], [])
def slices_EqualFunc_float32_float32_float32_float32_l0_X (v268 : List Nat) (v269 : List Nat) (x : (Unit) ⊕ (Unit)) : Out := (match x with | .inl x => (.ret, [tp,tp,tp,tp,tp,tp,.lit false,tp,tp,tp,tp,tp,tp,tp,tp,tp,tp,tp,tp,tp,tp,tp,tp,tp,tp,tp,tp,tp,tp,tp,tp,tp], []) | .inr x => (.normal, [tp,tp,tp,tp,tp,tp,tp,tp,tp,tp,tp,tp,tp,tp,tp,tp,tp,tp,tp,tp,tp,tp,tp,tp,tp,tp,tp,tp,tp,tp,tp,tp], []))
def slices_EqualFunc_float32_float32_float32_float32_l0_kill : List Nat := KL true [1,2,12,3,14]
def slices_EqualFunc_float32_float32_float32_float32_l0_nx : Exit → List Nat
  | .exit 0 => KL true [32]
  | .ret => KL true [6,1,25]
  | _ => []
noncomputable def slices_EqualFunc_float32_float32_float32_float32_LO (v268 : List Nat) (v269 : List Nat) : LOr := fun id e L =>
  match id with
  | 0 => .need (normA 0 slices_EqualFunc_float32_float32_float32_float32_l0_kill e L = some (slices_EqualFunc_float32_float32_float32_float32_l0_E v268 v269 (gI (vAt e 17)))) (.call (slices_EqualFunc_float32_float32_float32_float32_l0_g v268 v269 (gI (vAt e 17))) fun x => .sum x (fun b0 => .leaf (slices_EqualFunc_float32_float32_float32_float32_l0_X v268 v269 (.inl b0))) (fun c0 => .leaf (slices_EqualFunc_float32_float32_float32_float32_l0_X v268 v269 (.inr c0))))
  | _ => .fail
noncomputable def slices_EqualFunc_float32_float32_float32_float32_tab : List (FuncId × DFn × Bool) := [(88, impl_SameNumber_F, true)]
theorem slices_EqualFunc_float32_float32_float32_float32_hO : OrcOk Try.prog (tabD slices_EqualFunc_float32_float32_float32_float32_tab) (tabM slices_EqualFunc_float32_float32_float32_float32_tab) := tabD_cons impl_SameNumber_Fok (tabD_nil _)
theorem slices_EqualFunc_float32_float32_float32_float32_l0_be (v268 : List Nat) (v269 : List Nat) (s : Int) : bodyT TT (tabD slices_EqualFunc_float32_float32_float32_float32_tab) (tabM slices_EqualFunc_float32_float32_float32_float32_tab) (slices_EqualFunc_float32_float32_float32_float32_LO v268 v269) 0 slices_EqualFunc_float32_float32_float32_float32_l0_kill slices_EqualFunc_float32_float32_float32_float32_l0_nx (bodyOf Try.f87 0) 0 (slices_EqualFunc_float32_float32_float32_float32_l0_E v268 v269 s) = (slices_EqualFunc_float32_float32_float32_float32_l0_T v268 v269 s).bind fun y => .leaf (outS (slices_EqualFunc_float32_float32_float32_float32_l0_E v268 v269) (slices_EqualFunc_float32_float32_float32_float32_l0_X v268 v269) y) := by kernel_rfl
theorem slices_EqualFunc_float32_float32_float32_float32_l0_ok (v268 : List Nat) (v269 : List Nat) : LSound Try.prog 0 (slices_EqualFunc_float32_float32_float32_float32_LO v268 v269) 0 (bodyOf Try.f87 0) := by
  intro e L out h
  exact lo_ok (E := slices_EqualFunc_float32_float32_float32_float32_l0_E v268 v269) (gT := slices_EqualFunc_float32_float32_float32_float32_l0_T v268 v269) (X := slices_EqualFunc_float32_float32_float32_float32_l0_X v268 v269) (s0 := (gI (vAt e 17))) tok slices_EqualFunc_float32_float32_float32_float32_hO mixed (LoopsOk_eq (l := []) (by kernel_rfl) trivial) (slices_EqualFunc_float32_float32_float32_float32_l0_be v268 v269) rfl (by intro x; (cases x with | inl b => rfl | inr x => exact rfl)) h
noncomputable def slices_EqualFunc_float32_float32_float32_float32_T (v268 : List Nat) (v269 : List Nat) : Tree (Bool) :=
  (.br (!decide (((v268.length : Nat) : Int) = ((v269.length : Nat) : Int))) (
  .leaf false
  ) (
  (.need (some (slices_EqualFunc_float32_float32_float32_float32_l0_E v268 v269 (0 : Int)) = some (slices_EqualFunc_float32_float32_float32_float32_l0_E v268 v269 (0 : Int))) <|
  (.call (slices_EqualFunc_float32_float32_float32_float32_l0_g v268 v269 (0 : Int)) fun v281 =>
  (.sum v281 (fun v282 =>
  .leaf false
  ) (fun v283 =>
  .leaf true
  ))))
  ))

noncomputable def slices_EqualFunc_float32_float32_float32_float32_g (v268 : List Nat) (v269 : List Nat) : Option (Bool) := (slices_EqualFunc_float32_float32_float32_float32_T v268 v269).run
def slices_EqualFunc_float32_float32_float32_float32_enc (v268 : List Nat) (v269 : List Nat) (y : Bool) : Rs := (.bool y, [])
theorem slices_EqualFunc_float32_float32_float32_float32_den (v268 : List Nat) (v269 : List Nat) : (den TT (tabD slices_EqualFunc_float32_float32_float32_float32_tab) (tabM slices_EqualFunc_float32_float32_float32_float32_tab) (slices_EqualFunc_float32_float32_float32_float32_LO v268 v269) (codeOf Try.f87) ([.bslc (BR.root 0) (.f32 v268), .bslc (BR.root 1) (.f32 v269), .fn 88 []] ++ List.replicate (Try.f87.ntmps - ([.bslc (BR.root 0) (.f32 v268), .bslc (BR.root 1) (.f32 v269), .fn 88 []] : List DV).length) .undef) []).bind (retD TT Try.f87.results.toList 0) = (slices_EqualFunc_float32_float32_float32_float32_T v268 v269).bind fun y => .leaf (slices_EqualFunc_float32_float32_float32_float32_enc v268 v269 y) := by kernel_rfl
theorem slices_EqualFunc_float32_float32_float32_float32_fn (v268 : List Nat) (v269 : List Nat) (F : Fr) (h0 : St F [] F.H0) (hA : DVs.Ok F [] [.bslc (BR.root 0) (.f32 v268), .bslc (BR.root 1) (.f32 v269), .fn 88 []]) {y : Bool} (hy : slices_EqualFunc_float32_float32_float32_float32_g v268 v269 = some y) : ∃ F' H', Fwd 0 F F' [] (slices_EqualFunc_float32_float32_float32_float32_enc v268 v269 y).2 ∧ FnOk Try.prog 87 (DVs.av F [.bslc (BR.root 0) (.f32 v268), .bslc (BR.root 1) (.f32 v269), .fn 88 []]) F.H0 ((slices_EqualFunc_float32_float32_float32_float32_enc v268 v269 y).1.av F') H' ∧ St F' (slices_EqualFunc_float32_float32_float32_float32_enc v268 v269 y).2 H' ∧ (slices_EqualFunc_float32_float32_float32_float32_enc v268 v269 y).1.Ok F' (slices_EqualFunc_float32_float32_float32_float32_enc v268 v269 y).2 :=
  fn_fin tok slices_EqualFunc_float32_float32_float32_float32_hO mixed Try.func87 Try.call87 (by kernel_rfl) (LoopsOk_eq (l := [(0, bodyOf Try.f87 0)]) (by kernel_rfl) ⟨slices_EqualFunc_float32_float32_float32_float32_l0_ok v268 v269, trivial⟩) (slices_EqualFunc_float32_float32_float32_float32_den v268 v269) hy h0 hA
noncomputable def slices_EqualFunc_float32_float32_float32_float32_F : DFn := fun args L =>
  match args with
  | [a1, a2, .fn 88 []] =>
    optT (rowF32 L a1) fun v268 =>
    optT (rowF32 L a2) fun v269 =>
    .call (slices_EqualFunc_float32_float32_float32_float32_g v268 v269) fun y => .leaf (.bool y, L)
  | _ => .fail
theorem slices_EqualFunc_float32_float32_float32_float32_Fok : COk Try.prog 87 slices_EqualFunc_float32_float32_float32_float32_F true := by
  intro F L H args r L' hs ha hr
  unfold slices_EqualFunc_float32_float32_float32_float32_F at hr
  split at hr
  · rename_i a1 a2
    obtain ⟨v268, hv268, hr⟩ := optT_run hr
    obtain ⟨v269, hv269, hr⟩ := optT_run hr
    simp only [Tree.run] at hr
    obtain ⟨y, hy, hr⟩ := Option.bind_eq_some_iff.1 hr
    simp only [Tree.run, Option.some.injEq, Prod.mk.injEq] at hr
    obtain ⟨rfl, rfl⟩ := hr
    exact call_ok0 hs (fun k => (([a1.av F, a2.av F] : List AV)[k]?).getD .top) [a1, a2, .fn 88 []] [.bslc (BR.root 0) (.f32 v268), .bslc (BR.root 1) (.f32 v269), .fn 88 []] (fun F' h0 hi hρ => ⟨by simp [DVs.av, DV.av, BR.av, hρ], slices_EqualFunc_float32_float32_float32_float32_fn v268 v269 F' (st_nil hi) ⟨bslc_ok hi (by rw [h0, hρ]; exact rowF32_ok hs (DVs.okAt ha 0 rfl) hv268), bslc_ok hi (by rw [h0, hρ]; exact rowF32_ok hs (DVs.okAt ha 1 rfl) hv269), trivial, trivial⟩ hy⟩) rfl
  · cases hr
/-! impl.sameNumbers -/
noncomputable def impl_sameNumbers_LO (v266 : List Nat) (v267 : List Nat) : LOr := fun id e L =>
  match id with
  | _ => .fail
noncomputable def impl_sameNumbers_tab : List (FuncId × DFn × Bool) := [(87, slices_EqualFunc_float32_float32_float32_float32_F, true)]
theorem impl_sameNumbers_hO : OrcOk Try.prog (tabD impl_sameNumbers_tab) (tabM impl_sameNumbers_tab) := tabD_cons slices_EqualFunc_float32_float32_float32_float32_Fok (tabD_nil _)
noncomputable def impl_sameNumbers_T (v266 : List Nat) (v267 : List Nat) : Tree (Bool) :=
  (.call (slices_EqualFunc_float32_float32_float32_float32_g v266 v267) fun v284 =>
  .leaf v284)

noncomputable def impl_sameNumbers_g (v266 : List Nat) (v267 : List Nat) : Option (Bool) := (impl_sameNumbers_T v266 v267).run
def impl_sameNumbers_enc (v266 : List Nat) (v267 : List Nat) (y : Bool) : Rs := (.bool y, [])
theorem impl_sameNumbers_den (v266 : List Nat) (v267 : List Nat) : (den TT (tabD impl_sameNumbers_tab) (tabM impl_sameNumbers_tab) (impl_sameNumbers_LO v266 v267) (codeOf Try.f74) ([.bslc (BR.root 0) (.f32 v266), .bslc (BR.root 1) (.f32 v267)] ++ List.replicate (Try.f74.ntmps - ([.bslc (BR.root 0) (.f32 v266), .bslc (BR.root 1) (.f32 v267)] : List DV).length) .undef) []).bind (retD TT Try.f74.results.toList 0) = (impl_sameNumbers_T v266 v267).bind fun y => .leaf (impl_sameNumbers_enc v266 v267 y) := by kernel_rfl
theorem impl_sameNumbers_fn (v266 : List Nat) (v267 : List Nat) (F : Fr) (h0 : St F [] F.H0) (hA : DVs.Ok F [] [.bslc (BR.root 0) (.f32 v266), .bslc (BR.root 1) (.f32 v267)]) {y : Bool} (hy : impl_sameNumbers_g v266 v267 = some y) : ∃ F' H', Fwd 0 F F' [] (impl_sameNumbers_enc v266 v267 y).2 ∧ FnOk Try.prog 74 (DVs.av F [.bslc (BR.root 0) (.f32 v266), .bslc (BR.root 1) (.f32 v267)]) F.H0 ((impl_sameNumbers_enc v266 v267 y).1.av F') H' ∧ St F' (impl_sameNumbers_enc v266 v267 y).2 H' ∧ (impl_sameNumbers_enc v266 v267 y).1.Ok F' (impl_sameNumbers_enc v266 v267 y).2 :=
  fn_fin tok impl_sameNumbers_hO mixed Try.func74 Try.call74 (by kernel_rfl) (LoopsOk_eq (l := []) (by kernel_rfl) trivial) (impl_sameNumbers_den v266 v267) hy h0 hA
noncomputable def impl_sameNumbers_F : DFn := fun args L =>
  match args with
  | [a1, a2] =>
    optT (rowF32 L a1) fun v266 =>
    optT (rowF32 L a2) fun v267 =>
    .call (impl_sameNumbers_g v266 v267) fun y => .leaf (.bool y, L)
  | _ => .fail
theorem impl_sameNumbers_Fok : COk Try.prog 74 impl_sameNumbers_F true := by
  intro F L H args r L' hs ha hr
  unfold impl_sameNumbers_F at hr
  split at hr
  · rename_i a1 a2
    obtain ⟨v266, hv266, hr⟩ := optT_run hr
    obtain ⟨v267, hv267, hr⟩ := optT_run hr
    simp only [Tree.run] at hr
    obtain ⟨y, hy, hr⟩ := Option.bind_eq_some_iff.1 hr
    simp only [Tree.run, Option.some.injEq, Prod.mk.injEq] at hr
    obtain ⟨rfl, rfl⟩ := hr
    exact call_ok0 hs (fun k => (([a1.av F, a2.av F] : List AV)[k]?).getD .top) [a1, a2] [.bslc (BR.root 0) (.f32 v266), .bslc (BR.root 1) (.f32 v267)] (fun F' h0 hi hρ => ⟨by simp [DVs.av, DV.av, BR.av, hρ], impl_sameNumbers_fn v266 v267 F' (st_nil hi) ⟨bslc_ok hi (by rw [h0, hρ]; exact rowF32_ok hs (DVs.okAt ha 0 rfl) hv266), bslc_ok hi (by rw [h0, hρ]; exact rowF32_ok hs (DVs.okAt ha 1 rfl) hv267), trivial⟩ hy⟩) rfl
  · cases hr
/-! impl.SameMatrix -/
noncomputable def impl_SameMatrix_LO (v260 : Int) (v261 : Int) (v262 : List Nat) (v263 : Int) (v264 : Int) (v265 : List Nat) : LOr := fun id e L =>
  match id with
  | _ => .fail
noncomputable def impl_SameMatrix_tab : List (FuncId × DFn × Bool) := [(74, impl_sameNumbers_F, true)]
theorem impl_SameMatrix_hO : OrcOk Try.prog (tabD impl_SameMatrix_tab) (tabM impl_SameMatrix_tab) := tabD_cons impl_sameNumbers_Fok (tabD_nil _)
noncomputable def impl_SameMatrix_T (v260 : Int) (v261 : Int) (v262 : List Nat) (v263 : Int) (v264 : Int) (v265 : List Nat) : Tree (Bool) :=
  (.br (decide (v260 = v263)) (
  (.br (decide (v261 = v264)) (
  (.call (impl_sameNumbers_g v262 v265) fun v285 =>
  .leaf v285)
  ) (
  .leaf false
  ))
  ) (
  .leaf false
  ))

noncomputable def impl_SameMatrix_g (v260 : Int) (v261 : Int) (v262 : List Nat) (v263 : Int) (v264 : Int) (v265 : List Nat) : Option (Bool) := (impl_SameMatrix_T v260 v261 v262 v263 v264 v265).run
def impl_SameMatrix_enc (v260 : Int) (v261 : Int) (v262 : List Nat) (v263 : Int) (v264 : Int) (v265 : List Nat) (y : Bool) : Rs := (.bool y, [])
theorem impl_SameMatrix_den (v260 : Int) (v261 : Int) (v262 : List Nat) (v263 : Int) (v264 : Int) (v265 : List Nat) : (den TT (tabD impl_SameMatrix_tab) (tabM impl_SameMatrix_tab) (impl_SameMatrix_LO v260 v261 v262 v263 v264 v265) (codeOf Try.f46) ([.agg [.int .i64 v260, .int .i64 v261, .bslc (BR.root 0) (.f32 v262)], .agg [.int .i64 v263, .int .i64 v264, .bslc (BR.root 1) (.f32 v265)]] ++ List.replicate (Try.f46.ntmps - ([.agg [.int .i64 v260, .int .i64 v261, .bslc (BR.root 0) (.f32 v262)], .agg [.int .i64 v263, .int .i64 v264, .bslc (BR.root 1) (.f32 v265)]] : List DV).length) .undef) []).bind (retD TT Try.f46.results.toList 0) = (impl_SameMatrix_T v260 v261 v262 v263 v264 v265).bind fun y => .leaf (impl_SameMatrix_enc v260 v261 v262 v263 v264 v265 y) := by kernel_rfl
theorem impl_SameMatrix_fn (v260 : Int) (v261 : Int) (v262 : List Nat) (v263 : Int) (v264 : Int) (v265 : List Nat) (F : Fr) (h0 : St F [] F.H0) (hA : DVs.Ok F [] [.agg [.int .i64 v260, .int .i64 v261, .bslc (BR.root 0) (.f32 v262)], .agg [.int .i64 v263, .int .i64 v264, .bslc (BR.root 1) (.f32 v265)]]) {y : Bool} (hy : impl_SameMatrix_g v260 v261 v262 v263 v264 v265 = some y) : ∃ F' H', Fwd 0 F F' [] (impl_SameMatrix_enc v260 v261 v262 v263 v264 v265 y).2 ∧ FnOk Try.prog 46 (DVs.av F [.agg [.int .i64 v260, .int .i64 v261, .bslc (BR.root 0) (.f32 v262)], .agg [.int .i64 v263, .int .i64 v264, .bslc (BR.root 1) (.f32 v265)]]) F.H0 ((impl_SameMatrix_enc v260 v261 v262 v263 v264 v265 y).1.av F') H' ∧ St F' (impl_SameMatrix_enc v260 v261 v262 v263 v264 v265 y).2 H' ∧ (impl_SameMatrix_enc v260 v261 v262 v263 v264 v265 y).1.Ok F' (impl_SameMatrix_enc v260 v261 v262 v263 v264 v265 y).2 :=
  fn_fin tok impl_SameMatrix_hO mixed Try.func46 Try.call46 (by kernel_rfl) (LoopsOk_eq (l := []) (by kernel_rfl) trivial) (impl_SameMatrix_den v260 v261 v262 v263 v264 v265) hy h0 hA
noncomputable def impl_SameMatrix_F : DFn := fun args L =>
  match args with
  | [.agg [.int .i64 v260, .int .i64 v261, a1], .agg [.int .i64 v263, .int .i64 v264, a2]] =>
    optT (rowF32 L a1) fun v262 =>
    optT (rowF32 L a2) fun v265 =>
    .call (impl_SameMatrix_g v260 v261 v262 v263 v264 v265) fun y => .leaf (.bool y, L)
  | _ => .fail
theorem impl_SameMatrix_Fok : COk Try.prog 46 impl_SameMatrix_F true := by
  intro F L H args r L' hs ha hr
  unfold impl_SameMatrix_F at hr
  split at hr
  · rename_i v260 v261 a1 v263 v264 a2
    obtain ⟨v262, hv262, hr⟩ := optT_run hr
    obtain ⟨v265, hv265, hr⟩ := optT_run hr
    simp only [Tree.run] at hr
    obtain ⟨y, hy, hr⟩ := Option.bind_eq_some_iff.1 hr
    simp only [Tree.run, Option.some.injEq, Prod.mk.injEq] at hr
    obtain ⟨rfl, rfl⟩ := hr
    exact call_ok0 hs (fun k => (([a1.av F, a2.av F] : List AV)[k]?).getD .top) [.agg [.int .i64 v260, .int .i64 v261, a1], .agg [.int .i64 v263, .int .i64 v264, a2]] [.agg [.int .i64 v260, .int .i64 v261, .bslc (BR.root 0) (.f32 v262)], .agg [.int .i64 v263, .int .i64 v264, .bslc (BR.root 1) (.f32 v265)]] (fun F' h0 hi hρ => ⟨by simp [DVs.av, DV.av, BR.av, hρ], impl_SameMatrix_fn v260 v261 v262 v263 v264 v265 F' (st_nil hi) ⟨⟨trivial, trivial, bslc_ok hi (by rw [h0, hρ]; exact rowF32_ok hs (DVs.okAt (DVs.okAt ha 0 rfl) 2 rfl) hv262), trivial⟩, ⟨trivial, trivial, bslc_ok hi (by rw [h0, hρ]; exact rowF32_ok hs (DVs.okAt (DVs.okAt ha 1 rfl) 2 rfl) hv265), trivial⟩, trivial⟩ hy⟩) rfl
  · cases hr
/-! impl.SameSheets$1 -/
noncomputable def impl_SameSheets_1_LO (v252 : ByteArray) (v253 : Int) (v254 : Int) (v255 : List Nat) (v256 : ByteArray) (v257 : Int) (v258 : Int) (v259 : List Nat) : LOr := fun id e L =>
  match id with
  | _ => .fail
noncomputable def impl_SameSheets_1_tab : List (FuncId × DFn × Bool) := [(46, impl_SameMatrix_F, true)]
theorem impl_SameSheets_1_hO : OrcOk Try.prog (tabD impl_SameSheets_1_tab) (tabM impl_SameSheets_1_tab) := tabD_cons impl_SameMatrix_Fok (tabD_nil _)
noncomputable def impl_SameSheets_1_T (v252 : ByteArray) (v253 : Int) (v254 : Int) (v255 : List Nat) (v256 : ByteArray) (v257 : Int) (v258 : Int) (v259 : List Nat) : Tree (Bool) :=
  (.br (v252.toList == v256.toList) (
  (.call (impl_SameMatrix_g v253 v254 v255 v257 v258 v259) fun v286 =>
  .leaf v286)
  ) (
  .leaf false
  ))

noncomputable def impl_SameSheets_1_g (v252 : ByteArray) (v253 : Int) (v254 : Int) (v255 : List Nat) (v256 : ByteArray) (v257 : Int) (v258 : Int) (v259 : List Nat) : Option (Bool) := (impl_SameSheets_1_T v252 v253 v254 v255 v256 v257 v258 v259).run
def impl_SameSheets_1_enc (v252 : ByteArray) (v253 : Int) (v254 : Int) (v255 : List Nat) (v256 : ByteArray) (v257 : Int) (v258 : Int) (v259 : List Nat) (y : Bool) : Rs := (.bool y, [])
theorem impl_SameSheets_1_den (v252 : ByteArray) (v253 : Int) (v254 : Int) (v255 : List Nat) (v256 : ByteArray) (v257 : Int) (v258 : Int) (v259 : List Nat) : (den TT (tabD impl_SameSheets_1_tab) (tabM impl_SameSheets_1_tab) (impl_SameSheets_1_LO v252 v253 v254 v255 v256 v257 v258 v259) (codeOf Try.f45) ([.agg [.str v252, .int .i64 v253, .int .i64 v254, .bslc (BR.root 0) (.f32 v255)], .agg [.str v256, .int .i64 v257, .int .i64 v258, .bslc (BR.root 1) (.f32 v259)]] ++ List.replicate (Try.f45.ntmps - ([.agg [.str v252, .int .i64 v253, .int .i64 v254, .bslc (BR.root 0) (.f32 v255)], .agg [.str v256, .int .i64 v257, .int .i64 v258, .bslc (BR.root 1) (.f32 v259)]] : List DV).length) .undef) []).bind (retD TT Try.f45.results.toList 0) = (impl_SameSheets_1_T v252 v253 v254 v255 v256 v257 v258 v259).bind fun y => .leaf (impl_SameSheets_1_enc v252 v253 v254 v255 v256 v257 v258 v259 y) := by kernel_rfl
theorem impl_SameSheets_1_fn (v252 : ByteArray) (v253 : Int) (v254 : Int) (v255 : List Nat) (v256 : ByteArray) (v257 : Int) (v258 : Int) (v259 : List Nat) (F : Fr) (h0 : St F [] F.H0) (hA : DVs.Ok F [] [.agg [.str v252, .int .i64 v253, .int .i64 v254, .bslc (BR.root 0) (.f32 v255)], .agg [.str v256, .int .i64 v257, .int .i64 v258, .bslc (BR.root 1) (.f32 v259)]]) {y : Bool} (hy : impl_SameSheets_1_g v252 v253 v254 v255 v256 v257 v258 v259 = some y) : ∃ F' H', Fwd 0 F F' [] (impl_SameSheets_1_enc v252 v253 v254 v255 v256 v257 v258 v259 y).2 ∧ FnOk Try.prog 45 (DVs.av F [.agg [.str v252, .int .i64 v253, .int .i64 v254, .bslc (BR.root 0) (.f32 v255)], .agg [.str v256, .int .i64 v257, .int .i64 v258, .bslc (BR.root 1) (.f32 v259)]]) F.H0 ((impl_SameSheets_1_enc v252 v253 v254 v255 v256 v257 v258 v259 y).1.av F') H' ∧ St F' (impl_SameSheets_1_enc v252 v253 v254 v255 v256 v257 v258 v259 y).2 H' ∧ (impl_SameSheets_1_enc v252 v253 v254 v255 v256 v257 v258 v259 y).1.Ok F' (impl_SameSheets_1_enc v252 v253 v254 v255 v256 v257 v258 v259 y).2 :=
  fn_fin tok impl_SameSheets_1_hO mixed Try.func45 Try.call45 (by kernel_rfl) (LoopsOk_eq (l := []) (by kernel_rfl) trivial) (impl_SameSheets_1_den v252 v253 v254 v255 v256 v257 v258 v259) hy h0 hA
noncomputable def impl_SameSheets_1_F : DFn := fun args L =>
  match args with
  | [.agg [.str v252, .int .i64 v253, .int .i64 v254, a1], .agg [.str v256, .int .i64 v257, .int .i64 v258, a2]] =>
    optT (rowF32 L a1) fun v255 =>
    optT (rowF32 L a2) fun v259 =>
    .call (impl_SameSheets_1_g v252 v253 v254 v255 v256 v257 v258 v259) fun y => .leaf (.bool y, L)
  | _ => .fail
theorem impl_SameSheets_1_Fok : COk Try.prog 45 impl_SameSheets_1_F true := by
  intro F L H args r L' hs ha hr
  unfold impl_SameSheets_1_F at hr
  split at hr
  · rename_i v252 v253 v254 a1 v256 v257 v258 a2
    obtain ⟨v255, hv255, hr⟩ := optT_run hr
    obtain ⟨v259, hv259, hr⟩ := optT_run hr
    simp only [Tree.run] at hr
    obtain ⟨y, hy, hr⟩ := Option.bind_eq_some_iff.1 hr
    simp only [Tree.run, Option.some.injEq, Prod.mk.injEq] at hr
    obtain ⟨rfl, rfl⟩ := hr
    exact call_ok0 hs (fun k => (([a1.av F, a2.av F] : List AV)[k]?).getD .top) [.agg [.str v252, .int .i64 v253, .int .i64 v254, a1], .agg [.str v256, .int .i64 v257, .int .i64 v258, a2]] [.agg [.str v252, .int .i64 v253, .int .i64 v254, .bslc (BR.root 0) (.f32 v255)], .agg [.str v256, .int .i64 v257, .int .i64 v258, .bslc (BR.root 1) (.f32 v259)]] (fun F' h0 hi hρ => ⟨by simp [DVs.av, DV.av, BR.av, hρ], impl_SameSheets_1_fn v252 v253 v254 v255 v256 v257 v258 v259 F' (st_nil hi) ⟨⟨trivial, trivial, trivial, bslc_ok hi (by rw [h0, hρ]; exact rowF32_ok hs (DVs.okAt (DVs.okAt ha 0 rfl) 3 rfl) hv255), trivial⟩, ⟨trivial, trivial, trivial, bslc_ok hi (by rw [h0, hρ]; exact rowF32_ok hs (DVs.okAt (DVs.okAt ha 1 rfl) 3 rfl) hv259), trivial⟩, trivial⟩ hy⟩) rfl
  · cases hr
/-! slices.EqualFunc[list of impl.Sheet,list of impl.Sheet,impl.Sheet,impl.Sheet] -/
noncomputable def slices_EqualFunc_impl_Sheet_impl_Sheet_impl_Sheet_impl_Sheet_l0_T (v243 : List ByteArray) (v244 : List Int) (v245 : List Int) (v246 : List (List Nat)) (v247 : List ByteArray) (v248 : List Int) (v249 : List Int) (v250 : List (List Nat)) (s : Int) : Tree ((Int) ⊕ ((Unit) ⊕ (Unit))) :=
  (.br (decide (s < ((v243.length : Nat) : Int))) (
  (.grd (inb s v243.length) <|
  (.grd (inb s v247.length) <|
  (.call (impl_SameSheets_1_g (nth v243 (Int.toNat s)) (nth v244 (Int.toNat s)) (nth v245 (Int.toNat s)) (nth v246 (Int.toNat s)) (nth v247 (Int.toNat s)) (nth v248 (Int.toNat s)) (nth v249 (Int.toNat s)) (nth v250 (Int.toNat s))) fun v291 =>
  (.br (!v291) (
  .leaf (.inr (.inl ()))
  ) (
  .leaf (.inl (IntKind.i64.wrap (s + (1 : Int))))
  )))))
  ) (
  .leaf (.inr (.inr ()))
  ))

noncomputable def slices_EqualFunc_impl_Sheet_impl_Sheet_impl_Sheet_impl_Sheet_l0_g (v243 : List ByteArray) (v244 : List Int) (v245 : List Int) (v246 : List (List Nat)) (v247 : List ByteArray) (v248 : List Int) (v249 : List Int) (v250 : List (List Nat)) (s0 : Int) : Option ((Unit) ⊕ (Unit)) := whileM (fun s => (slices_EqualFunc_impl_Sheet_impl_Sheet_impl_Sheet_impl_Sheet_l0_T v243 v244 v245 v246 v247 v248 v249 v250 s).run) s0
def slices_EqualFunc_impl_Sheet_impl_Sheet_impl_Sheet_impl_Sheet_l0_E (v243 : List ByteArray) (v244 : List Int) (v245 : List Int) (v246 : List (List Nat)) (v247 : List ByteArray) (v248 : List Int) (v249 : List Int) (v250 : List (List Nat)) (s : Int) : Sd := ([tp,.rns 1 [.pl (.str v247), .pl (.i64 v248), .pl (.i64 v249), .sl (.f32 v250)],.fn 45 [],tp,tp,tp,tp,tp,tp,tp,tp,tp,tp,tp,tp,.rns 0 [.pl (.str v243), .pl (.i64 v244), .pl (.i64 v245), .sl (.f32 v246)],.int .i64 ((v243.length : Nat) : Int),.int .i64 s,tp,tp,tp,tp,tp,tp,tp,tp,tp,tp,tp,tp,tp,tp], [])
def slices_EqualFunc_impl_Sheet_impl_Sheet_impl_Sheet_impl_Sheet_l0_X (v243 : List ByteArray) (v244 : List Int) (v245 : List Int) (v246 : List (List Nat)) (v247 : List ByteArray) (v248 : List Int) (v249 : List Int) (v250 : List (List Nat)) (x : (Unit) ⊕ (Unit)) : Out := (match x with | .inl x => (.ret, [tp,tp,tp,tp,tp,tp,.lit false,tp,tp,tp,tp,tp,tp,tp,tp,tp,tp,tp,tp,tp,tp,tp,tp,tp,tp,tp,tp,tp,tp,tp,tp,tp], []) | .inr x => (.normal, [tp,tp,tp,tp,tp,tp,tp,tp,tp,tp,tp,tp,tp,tp,tp,tp,tp,tp,tp,tp,tp,tp,tp,tp,tp,tp,tp,tp,tp,tp,tp,tp], []))
def slices_EqualFunc_impl_Sheet_impl_Sheet_impl_Sheet_impl_Sheet_l0_kill : List Nat := KL true [1,2,12,3,14]
def slices_EqualFunc_impl_Sheet_impl_Sheet_impl_Sheet_impl_Sheet_l0_nx : Exit → List Nat
  | .exit 0 => KL true [32]
  | .ret => KL true [6,1,25]
  | _ => []
noncomputable def slices_EqualFunc_impl_Sheet_impl_Sheet_impl_Sheet_impl_Sheet_LO (v243 : List ByteArray) (v244 : List Int) (v245 : List Int) (v246 : List (List Nat)) (v247 : List ByteArray) (v248 : List Int) (v249 : List Int) (v250 : List (List Nat)) : LOr := fun id e L =>
  match id with
  | 0 => .need (normA 0 slices_EqualFunc_impl_Sheet_impl_Sheet_impl_Sheet_impl_Sheet_l0_kill e L = some (slices_EqualFunc_impl_Sheet_impl_Sheet_impl_Sheet_impl_Sheet_l0_E v243 v244 v245 v246 v247 v248 v249 v250 (gI (vAt e 17)))) (.call (slices_EqualFunc_impl_Sheet_impl_Sheet_impl_Sheet_impl_Sheet_l0_g v243 v244 v245 v246 v247 v248 v249 v250 (gI (vAt e 17))) fun x => .sum x (fun b0 => .leaf (slices_EqualFunc_impl_Sheet_impl_Sheet_impl_Sheet_impl_Sheet_l0_X v243 v244 v245 v246 v247 v248 v249 v250 (.inl b0))) (fun c0 => .leaf (slices_EqualFunc_impl_Sheet_impl_Sheet_impl_Sheet_impl_Sheet_l0_X v243 v244 v245 v246 v247 v248 v249 v250 (.inr c0))))
  | _ => .fail
noncomputable def slices_EqualFunc_impl_Sheet_impl_Sheet_impl_Sheet_impl_Sheet_tab : List (FuncId × DFn × Bool) := [(45, impl_SameSheets_1_F, true)]
theorem slices_EqualFunc_impl_Sheet_impl_Sheet_impl_Sheet_impl_Sheet_hO : OrcOk Try.prog (tabD slices_EqualFunc_impl_Sheet_impl_Sheet_impl_Sheet_impl_Sheet_tab) (tabM slices_EqualFunc_impl_Sheet_impl_Sheet_impl_Sheet_impl_Sheet_tab) := tabD_cons impl_SameSheets_1_Fok (tabD_nil _)
theorem slices_EqualFunc_impl_Sheet_impl_Sheet_impl_Sheet_impl_Sheet_l0_be (v243 : List ByteArray) (v244 : List Int) (v245 : List Int) (v246 : List (List Nat)) (v247 : List ByteArray) (v248 : List Int) (v249 : List Int) (v250 : List (List Nat)) (s : Int) : bodyT TT (tabD slices_EqualFunc_impl_Sheet_impl_Sheet_impl_Sheet_impl_Sheet_tab) (tabM slices_EqualFunc_impl_Sheet_impl_Sheet_impl_Sheet_impl_Sheet_tab) (slices_EqualFunc_impl_Sheet_impl_Sheet_impl_Sheet_impl_Sheet_LO v243 v244 v245 v246 v247 v248 v249 v250) 0 slices_EqualFunc_impl_Sheet_impl_Sheet_impl_Sheet_impl_Sheet_l0_kill slices_EqualFunc_impl_Sheet_impl_Sheet_impl_Sheet_impl_Sheet_l0_nx (bodyOf Try.f44 0) 0 (slices_EqualFunc_impl_Sheet_impl_Sheet_impl_Sheet_impl_Sheet_l0_E v243 v244 v245 v246 v247 v248 v249 v250 s) = (slices_EqualFunc_impl_Sheet_impl_Sheet_impl_Sheet_impl_Sheet_l0_T v243 v244 v245 v246 v247 v248 v249 v250 s).bind fun y => .leaf (outS (slices_EqualFunc_impl_Sheet_impl_Sheet_impl_Sheet_impl_Sheet_l0_E v243 v244 v245 v246 v247 v248 v249 v250) (slices_EqualFunc_impl_Sheet_impl_Sheet_impl_Sheet_impl_Sheet_l0_X v243 v244 v245 v246 v247 v248 v249 v250) y) := by kernel_rfl
theorem slices_EqualFunc_impl_Sheet_impl_Sheet_impl_Sheet_impl_Sheet_l0_ok (v243 : List ByteArray) (v244 : List Int) (v245 : List Int) (v246 : List (List Nat)) (v247 : List ByteArray) (v248 : List Int) (v249 : List Int) (v250 : List (List Nat)) : LSound Try.prog 0 (slices_EqualFunc_impl_Sheet_impl_Sheet_impl_Sheet_impl_Sheet_LO v243 v244 v245 v246 v247 v248 v249 v250) 0 (bodyOf Try.f44 0) := by
  intro e L out h
  exact lo_ok (E := slices_EqualFunc_impl_Sheet_impl_Sheet_impl_Sheet_impl_Sheet_l0_E v243 v244 v245 v246 v247 v248 v249 v250) (gT := slices_EqualFunc_impl_Sheet_impl_Sheet_impl_Sheet_impl_Sheet_l0_T v243 v244 v245 v246 v247 v248 v249 v250) (X := slices_EqualFunc_impl_Sheet_impl_Sheet_impl_Sheet_impl_Sheet_l0_X v243 v244 v245 v246 v247 v248 v249 v250) (s0 := (gI (vAt e 17))) tok slices_EqualFunc_impl_Sheet_impl_Sheet_impl_Sheet_impl_Sheet_hO mixed (LoopsOk_eq (l := []) (by kernel_rfl) trivial) (slices_EqualFunc_impl_Sheet_impl_Sheet_impl_Sheet_impl_Sheet_l0_be v243 v244 v245 v246 v247 v248 v249 v250) rfl (by intro x; (cases x with | inl b => rfl | inr x => exact rfl)) h
noncomputable def slices_EqualFunc_impl_Sheet_impl_Sheet_impl_Sheet_impl_Sheet_T (v243 : List ByteArray) (v244 : List Int) (v245 : List Int) (v246 : List (List Nat)) (v247 : List ByteArray) (v248 : List Int) (v249 : List Int) (v250 : List (List Nat)) : Tree (Bool) :=
  (.br (!decide (((v243.length : Nat) : Int) = ((v247.length : Nat) : Int))) (
  .leaf false
  ) (
  (.need (some (slices_EqualFunc_impl_Sheet_impl_Sheet_impl_Sheet_impl_Sheet_l0_E v243 v244 v245 v246 v247 v248 v249 v250 (0 : Int)) = some (slices_EqualFunc_impl_Sheet_impl_Sheet_impl_Sheet_impl_Sheet_l0_E v243 v244 v245 v246 v247 v248 v249 v250 (0 : Int))) <|
  (.call (slices_EqualFunc_impl_Sheet_impl_Sheet_impl_Sheet_impl_Sheet_l0_g v243 v244 v245 v246 v247 v248 v249 v250 (0 : Int)) fun v292 =>
  (.sum v292 (fun v293 =>
  .leaf false
  ) (fun v294 =>
  .leaf true
  ))))
  ))

noncomputable def slices_EqualFunc_impl_Sheet_impl_Sheet_impl_Sheet_impl_Sheet_g (v243 : List ByteArray) (v244 : List Int) (v245 : List Int) (v246 : List (List Nat)) (v247 : List ByteArray) (v248 : List Int) (v249 : List Int) (v250 : List (List Nat)) : Option (Bool) := (slices_EqualFunc_impl_Sheet_impl_Sheet_impl_Sheet_impl_Sheet_T v243 v244 v245 v246 v247 v248 v249 v250).run
def slices_EqualFunc_impl_Sheet_impl_Sheet_impl_Sheet_impl_Sheet_enc (v243 : List ByteArray) (v244 : List Int) (v245 : List Int) (v246 : List (List Nat)) (v247 : List ByteArray) (v248 : List Int) (v249 : List Int) (v250 : List (List Nat)) (y : Bool) : Rs := (.bool y, [])
theorem slices_EqualFunc_impl_Sheet_impl_Sheet_impl_Sheet_impl_Sheet_den (v243 : List ByteArray) (v244 : List Int) (v245 : List Int) (v246 : List (List Nat)) (v247 : List ByteArray) (v248 : List Int) (v249 : List Int) (v250 : List (List Nat)) : (den TT (tabD slices_EqualFunc_impl_Sheet_impl_Sheet_impl_Sheet_impl_Sheet_tab) (tabM slices_EqualFunc_impl_Sheet_impl_Sheet_impl_Sheet_impl_Sheet_tab) (slices_EqualFunc_impl_Sheet_impl_Sheet_impl_Sheet_impl_Sheet_LO v243 v244 v245 v246 v247 v248 v249 v250) (codeOf Try.f44) ([.rns 0 [.pl (.str v243), .pl (.i64 v244), .pl (.i64 v245), .sl (.f32 v246)], .rns 1 [.pl (.str v247), .pl (.i64 v248), .pl (.i64 v249), .sl (.f32 v250)], .fn 45 []] ++ List.replicate (Try.f44.ntmps - ([.rns 0 [.pl (.str v243), .pl (.i64 v244), .pl (.i64 v245), .sl (.f32 v246)], .rns 1 [.pl (.str v247), .pl (.i64 v248), .pl (.i64 v249), .sl (.f32 v250)], .fn 45 []] : List DV).length) .undef) []).bind (retD TT Try.f44.results.toList 0) = (slices_EqualFunc_impl_Sheet_impl_Sheet_impl_Sheet_impl_Sheet_T v243 v244 v245 v246 v247 v248 v249 v250).bind fun y => .leaf (slices_EqualFunc_impl_Sheet_impl_Sheet_impl_Sheet_impl_Sheet_enc v243 v244 v245 v246 v247 v248 v249 v250 y) := by kernel_rfl
theorem slices_EqualFunc_impl_Sheet_impl_Sheet_impl_Sheet_impl_Sheet_fn (v243 : List ByteArray) (v244 : List Int) (v245 : List Int) (v246 : List (List Nat)) (v247 : List ByteArray) (v248 : List Int) (v249 : List Int) (v250 : List (List Nat)) (F : Fr) (h0 : St F [] F.H0) (hA : DVs.Ok F [] [.rns 0 [.pl (.str v243), .pl (.i64 v244), .pl (.i64 v245), .sl (.f32 v246)], .rns 1 [.pl (.str v247), .pl (.i64 v248), .pl (.i64 v249), .sl (.f32 v250)], .fn 45 []]) {y : Bool} (hy : slices_EqualFunc_impl_Sheet_impl_Sheet_impl_Sheet_impl_Sheet_g v243 v244 v245 v246 v247 v248 v249 v250 = some y) : ∃ F' H', Fwd 0 F F' [] (slices_EqualFunc_impl_Sheet_impl_Sheet_impl_Sheet_impl_Sheet_enc v243 v244 v245 v246 v247 v248 v249 v250 y).2 ∧ FnOk Try.prog 44 (DVs.av F [.rns 0 [.pl (.str v243), .pl (.i64 v244), .pl (.i64 v245), .sl (.f32 v246)], .rns 1 [.pl (.str v247), .pl (.i64 v248), .pl (.i64 v249), .sl (.f32 v250)], .fn 45 []]) F.H0 ((slices_EqualFunc_impl_Sheet_impl_Sheet_impl_Sheet_impl_Sheet_enc v243 v244 v245 v246 v247 v248 v249 v250 y).1.av F') H' ∧ St F' (slices_EqualFunc_impl_Sheet_impl_Sheet_impl_Sheet_impl_Sheet_enc v243 v244 v245 v246 v247 v248 v249 v250 y).2 H' ∧ (slices_EqualFunc_impl_Sheet_impl_Sheet_impl_Sheet_impl_Sheet_enc v243 v244 v245 v246 v247 v248 v249 v250 y).1.Ok F' (slices_EqualFunc_impl_Sheet_impl_Sheet_impl_Sheet_impl_Sheet_enc v243 v244 v245 v246 v247 v248 v249 v250 y).2 :=
  fn_fin tok slices_EqualFunc_impl_Sheet_impl_Sheet_impl_Sheet_impl_Sheet_hO mixed Try.func44 Try.call44 (by kernel_rfl) (LoopsOk_eq (l := [(0, bodyOf Try.f44 0)]) (by kernel_rfl) ⟨slices_EqualFunc_impl_Sheet_impl_Sheet_impl_Sheet_impl_Sheet_l0_ok v243 v244 v245 v246 v247 v248 v249 v250, trivial⟩) (slices_EqualFunc_impl_Sheet_impl_Sheet_impl_Sheet_impl_Sheet_den v243 v244 v245 v246 v247 v248 v249 v250) hy h0 hA
noncomputable def slices_EqualFunc_impl_Sheet_impl_Sheet_impl_Sheet_impl_Sheet_F : DFn := fun args L =>
  match args with
  | [a1, a2, .fn 45 []] =>
    optT (rnsV L a1) fun qr0 =>
    (match qr0.2 with
    | [.pl (.str v243), .pl (.i64 v244), .pl (.i64 v245), .sl (.f32 v246)] =>
    optT (rnsV L a2) fun qr1 =>
    (match qr1.2 with
    | [.pl (.str v247), .pl (.i64 v248), .pl (.i64 v249), .sl (.f32 v250)] =>
    .call (slices_EqualFunc_impl_Sheet_impl_Sheet_impl_Sheet_impl_Sheet_g v243 v244 v245 v246 v247 v248 v249 v250) fun y => .leaf (.bool y, L)
    | _ => .fail)
    | _ => .fail)
  | _ => .fail
theorem slices_EqualFunc_impl_Sheet_impl_Sheet_impl_Sheet_impl_Sheet_Fok : COk Try.prog 44 slices_EqualFunc_impl_Sheet_impl_Sheet_impl_Sheet_impl_Sheet_F true := by
  intro F L H args r L' hs ha hr
  unfold slices_EqualFunc_impl_Sheet_impl_Sheet_impl_Sheet_impl_Sheet_F at hr
  split at hr
  · rename_i a1 a2
    obtain ⟨⟨nr0, cr0⟩, hv0, hr⟩ := optT_run hr
    simp only at hr
    split at hr
    · rename_i v243 v244 v245 v246
      obtain ⟨G0, hra0, hrn0⟩ := rnsV_ok hs (DVs.okAt ha 0 rfl) hv0
      obtain ⟨⟨nr1, cr1⟩, hv1, hr⟩ := optT_run hr
      simp only at hr
      split at hr
      · rename_i v247 v248 v249 v250
        obtain ⟨G1, hra1, hrn1⟩ := rnsV_ok hs (DVs.okAt ha 1 rfl) hv1
        simp only [Tree.run] at hr
        obtain ⟨y, hy, hr⟩ := Option.bind_eq_some_iff.1 hr
        simp only [Tree.run, Option.some.injEq, Prod.mk.injEq] at hr
        obtain ⟨rfl, rfl⟩ := hr
        exact call_ok0 hs (fun k => (([a1.av F, a2.av F] : List AV)[k]?).getD (if k % 64 = 0 then G0.ρ (k - 0 + nr0) else G1.ρ (k - 1 + nr1))) [a1, a2, .fn 45 []] [.rns 0 [.pl (.str v243), .pl (.i64 v244), .pl (.i64 v245), .sl (.f32 v246)], .rns 1 [.pl (.str v247), .pl (.i64 v248), .pl (.i64 v249), .sl (.f32 v250)], .fn 45 []] (fun F' h0 hi hρ => ⟨by simp [DVs.av, DV.av, BR.av, hρ], slices_EqualFunc_impl_Sheet_impl_Sheet_impl_Sheet_impl_Sheet_fn v243 v244 v245 v246 v247 v248 v249 v250 F' (st_nil hi) ⟨(rns_ok (F := G0) (n := nr0) hi (by rw [h0]; exact hrn0) (by rw [hρ]; exact hra0) fun m => by rw [hρ]; exact (rho_far (g := fun k => (if k % 64 = 0 then G0.ρ (k - 0 + nr0) else G1.ρ (k - 1 + nr1))) (by simp <;> omega)).trans (by refine (if_pos (by omega)).trans ?_; exact congrArg G0.ρ (by omega))), (rns_ok (F := G1) (n := nr1) hi (by rw [h0]; exact hrn1) (by rw [hρ]; exact hra1) fun m => by rw [hρ]; exact (rho_far (g := fun k => (if k % 64 = 0 then G0.ρ (k - 0 + nr0) else G1.ρ (k - 1 + nr1))) (by simp <;> omega)).trans (by refine (if_neg (by omega)).trans ?_; exact congrArg G1.ρ (by omega))), trivial, trivial⟩ hy⟩) rfl
      · cases hr
    · cases hr
  · cases hr
/-! impl.SameSheets -/
noncomputable def impl_SameSheets_LO (v235 : List ByteArray) (v236 : List Int) (v237 : List Int) (v238 : List (List Nat)) (v239 : List ByteArray) (v240 : List Int) (v241 : List Int) (v242 : List (List Nat)) : LOr := fun id e L =>
  match id with
  | _ => .fail
noncomputable def impl_SameSheets_tab : List (FuncId × DFn × Bool) := [(44, slices_EqualFunc_impl_Sheet_impl_Sheet_impl_Sheet_impl_Sheet_F, true)]
theorem impl_SameSheets_hO : OrcOk Try.prog (tabD impl_SameSheets_tab) (tabM impl_SameSheets_tab) := tabD_cons slices_EqualFunc_impl_Sheet_impl_Sheet_impl_Sheet_impl_Sheet_Fok (tabD_nil _)
noncomputable def impl_SameSheets_T (v235 : List ByteArray) (v236 : List Int) (v237 : List Int) (v238 : List (List Nat)) (v239 : List ByteArray) (v240 : List Int) (v241 : List Int) (v242 : List (List Nat)) : Tree (Bool) :=
  (.call (slices_EqualFunc_impl_Sheet_impl_Sheet_impl_Sheet_impl_Sheet_g v235 v236 v237 v238 v239 v240 v241 v242) fun v295 =>
  .leaf v295)

noncomputable def impl_SameSheets_g (v235 : List ByteArray) (v236 : List Int) (v237 : List Int) (v238 : List (List Nat)) (v239 : List ByteArray) (v240 : List Int) (v241 : List Int) (v242 : List (List Nat)) : Option (Bool) := (impl_SameSheets_T v235 v236 v237 v238 v239 v240 v241 v242).run
def impl_SameSheets_enc (v235 : List ByteArray) (v236 : List Int) (v237 : List Int) (v238 : List (List Nat)) (v239 : List ByteArray) (v240 : List Int) (v241 : List Int) (v242 : List (List Nat)) (y : Bool) : Rs := (.bool y, [])
theorem impl_SameSheets_den (v235 : List ByteArray) (v236 : List Int) (v237 : List Int) (v238 : List (List Nat)) (v239 : List ByteArray) (v240 : List Int) (v241 : List Int) (v242 : List (List Nat)) : (den TT (tabD impl_SameSheets_tab) (tabM impl_SameSheets_tab) (impl_SameSheets_LO v235 v236 v237 v238 v239 v240 v241 v242) (codeOf Try.f21) ([.rns 0 [.pl (.str v235), .pl (.i64 v236), .pl (.i64 v237), .sl (.f32 v238)], .rns 1 [.pl (.str v239), .pl (.i64 v240), .pl (.i64 v241), .sl (.f32 v242)]] ++ List.replicate (Try.f21.ntmps - ([.rns 0 [.pl (.str v235), .pl (.i64 v236), .pl (.i64 v237), .sl (.f32 v238)], .rns 1 [.pl (.str v239), .pl (.i64 v240), .pl (.i64 v241), .sl (.f32 v242)]] : List DV).length) .undef) []).bind (retD TT Try.f21.results.toList 0) = (impl_SameSheets_T v235 v236 v237 v238 v239 v240 v241 v242).bind fun y => .leaf (impl_SameSheets_enc v235 v236 v237 v238 v239 v240 v241 v242 y) := by kernel_rfl
theorem impl_SameSheets_fn (v235 : List ByteArray) (v236 : List Int) (v237 : List Int) (v238 : List (List Nat)) (v239 : List ByteArray) (v240 : List Int) (v241 : List Int) (v242 : List (List Nat)) (F : Fr) (h0 : St F [] F.H0) (hA : DVs.Ok F [] [.rns 0 [.pl (.str v235), .pl (.i64 v236), .pl (.i64 v237), .sl (.f32 v238)], .rns 1 [.pl (.str v239), .pl (.i64 v240), .pl (.i64 v241), .sl (.f32 v242)]]) {y : Bool} (hy : impl_SameSheets_g v235 v236 v237 v238 v239 v240 v241 v242 = some y) : ∃ F' H', Fwd 0 F F' [] (impl_SameSheets_enc v235 v236 v237 v238 v239 v240 v241 v242 y).2 ∧ FnOk Try.prog 21 (DVs.av F [.rns 0 [.pl (.str v235), .pl (.i64 v236), .pl (.i64 v237), .sl (.f32 v238)], .rns 1 [.pl (.str v239), .pl (.i64 v240), .pl (.i64 v241), .sl (.f32 v242)]]) F.H0 ((impl_SameSheets_enc v235 v236 v237 v238 v239 v240 v241 v242 y).1.av F') H' ∧ St F' (impl_SameSheets_enc v235 v236 v237 v238 v239 v240 v241 v242 y).2 H' ∧ (impl_SameSheets_enc v235 v236 v237 v238 v239 v240 v241 v242 y).1.Ok F' (impl_SameSheets_enc v235 v236 v237 v238 v239 v240 v241 v242 y).2 :=
  fn_fin tok impl_SameSheets_hO mixed Try.func21 Try.call21 (by kernel_rfl) (LoopsOk_eq (l := []) (by kernel_rfl) trivial) (impl_SameSheets_den v235 v236 v237 v238 v239 v240 v241 v242) hy h0 hA
noncomputable def impl_SameSheets_F : DFn := fun args L =>
  match args with
  | [a1, a2] =>
    optT (rnsV L a1) fun qr0 =>
    (match qr0.2 with
    | [.pl (.str v235), .pl (.i64 v236), .pl (.i64 v237), .sl (.f32 v238)] =>
    optT (rnsV L a2) fun qr1 =>
    (match qr1.2 with
    | [.pl (.str v239), .pl (.i64 v240), .pl (.i64 v241), .sl (.f32 v242)] =>
    .call (impl_SameSheets_g v235 v236 v237 v238 v239 v240 v241 v242) fun y => .leaf (.bool y, L)
    | _ => .fail)
    | _ => .fail)
  | _ => .fail
theorem impl_SameSheets_Fok : COk Try.prog 21 impl_SameSheets_F true := by
  intro F L H args r L' hs ha hr
  unfold impl_SameSheets_F at hr
  split at hr
  · rename_i a1 a2
    obtain ⟨⟨nr0, cr0⟩, hv0, hr⟩ := optT_run hr
    simp only at hr
    split at hr
    · rename_i v235 v236 v237 v238
      obtain ⟨G0, hra0, hrn0⟩ := rnsV_ok hs (DVs.okAt ha 0 rfl) hv0
      obtain ⟨⟨nr1, cr1⟩, hv1, hr⟩ := optT_run hr
      simp only at hr
      split at hr
      · rename_i v239 v240 v241 v242
        obtain ⟨G1, hra1, hrn1⟩ := rnsV_ok hs (DVs.okAt ha 1 rfl) hv1
        simp only [Tree.run] at hr
        obtain ⟨y, hy, hr⟩ := Option.bind_eq_some_iff.1 hr
        simp only [Tree.run, Option.some.injEq, Prod.mk.injEq] at hr
        obtain ⟨rfl, rfl⟩ := hr
        exact call_ok0 hs (fun k => (([a1.av F, a2.av F] : List AV)[k]?).getD (if k % 64 = 0 then G0.ρ (k - 0 + nr0) else G1.ρ (k - 1 + nr1))) [a1, a2] [.rns 0 [.pl (.str v235), .pl (.i64 v236), .pl (.i64 v237), .sl (.f32 v238)], .rns 1 [.pl (.str v239), .pl (.i64 v240), .pl (.i64 v241), .sl (.f32 v242)]] (fun F' h0 hi hρ => ⟨by simp [DVs.av, DV.av, BR.av, hρ], impl_SameSheets_fn v235 v236 v237 v238 v239 v240 v241 v242 F' (st_nil hi) ⟨(rns_ok (F := G0) (n := nr0) hi (by rw [h0]; exact hrn0) (by rw [hρ]; exact hra0) fun m => by rw [hρ]; exact (rho_far (g := fun k => (if k % 64 = 0 then G0.ρ (k - 0 + nr0) else G1.ρ (k - 1 + nr1))) (by simp <;> omega)).trans (by refine (if_pos (by omega)).trans ?_; exact congrArg G0.ρ (by omega))), (rns_ok (F := G1) (n := nr1) hi (by rw [h0]; exact hrn1) (by rw [hρ]; exact hra1) fun m => by rw [hρ]; exact (rho_far (g := fun k => (if k % 64 = 0 then G0.ρ (k - 0 + nr0) else G1.ρ (k - 1 + nr1))) (by simp <;> omega)).trans (by refine (if_neg (by omega)).trans ?_; exact congrArg G1.ρ (by omega))), trivial⟩ hy⟩) rfl
      · cases hr
    · cases hr
  · cases hr
/-! impl.StoreSheets$1 -/
noncomputable def impl_StoreSheets_1_LO (v365 : ByteArray) (v366 : Int) (v367 : Int) (v368 : List Nat) : LOr := fun id e L =>
  match id with
  | _ => .fail
noncomputable def impl_StoreSheets_1_tab : List (FuncId × DFn × Bool) := [(31, impl_ValidSheet_F, true)]
theorem impl_StoreSheets_1_hO : OrcOk Try.prog (tabD impl_StoreSheets_1_tab) (tabM impl_StoreSheets_1_tab) := tabD_cons impl_ValidSheet_Fok (tabD_nil _)
noncomputable def impl_StoreSheets_1_T (v365 : ByteArray) (v366 : Int) (v367 : Int) (v368 : List Nat) : Tree (Bool) :=
  (.call (impl_ValidSheet_g v365 v366 v367 v368) fun v369 =>
  .leaf (!v369))

noncomputable def impl_StoreSheets_1_g (v365 : ByteArray) (v366 : Int) (v367 : Int) (v368 : List Nat) : Option (Bool) := (impl_StoreSheets_1_T v365 v366 v367 v368).run
def impl_StoreSheets_1_enc (v365 : ByteArray) (v366 : Int) (v367 : Int) (v368 : List Nat) (y : Bool) : Rs := (.bool y, [])
theorem impl_StoreSheets_1_den (v365 : ByteArray) (v366 : Int) (v367 : Int) (v368 : List Nat) : (den TT (tabD impl_StoreSheets_1_tab) (tabM impl_StoreSheets_1_tab) (impl_StoreSheets_1_LO v365 v366 v367 v368) (codeOf Try.f48) ([.agg [.str v365, .int .i64 v366, .int .i64 v367, .bslc (BR.root 0) (.f32 v368)]] ++ List.replicate (Try.f48.ntmps - ([.agg [.str v365, .int .i64 v366, .int .i64 v367, .bslc (BR.root 0) (.f32 v368)]] : List DV).length) .undef) []).bind (retD TT Try.f48.results.toList 0) = (impl_StoreSheets_1_T v365 v366 v367 v368).bind fun y => .leaf (impl_StoreSheets_1_enc v365 v366 v367 v368 y) := by kernel_rfl
theorem impl_StoreSheets_1_fn (v365 : ByteArray) (v366 : Int) (v367 : Int) (v368 : List Nat) (F : Fr) (h0 : St F [] F.H0) (hA : DVs.Ok F [] [.agg [.str v365, .int .i64 v366, .int .i64 v367, .bslc (BR.root 0) (.f32 v368)]]) {y : Bool} (hy : impl_StoreSheets_1_g v365 v366 v367 v368 = some y) : ∃ F' H', Fwd 0 F F' [] (impl_StoreSheets_1_enc v365 v366 v367 v368 y).2 ∧ FnOk Try.prog 48 (DVs.av F [.agg [.str v365, .int .i64 v366, .int .i64 v367, .bslc (BR.root 0) (.f32 v368)]]) F.H0 ((impl_StoreSheets_1_enc v365 v366 v367 v368 y).1.av F') H' ∧ St F' (impl_StoreSheets_1_enc v365 v366 v367 v368 y).2 H' ∧ (impl_StoreSheets_1_enc v365 v366 v367 v368 y).1.Ok F' (impl_StoreSheets_1_enc v365 v366 v367 v368 y).2 :=
  fn_fin tok impl_StoreSheets_1_hO mixed Try.func48 Try.call48 (by kernel_rfl) (LoopsOk_eq (l := []) (by kernel_rfl) trivial) (impl_StoreSheets_1_den v365 v366 v367 v368) hy h0 hA
noncomputable def impl_StoreSheets_1_F : DFn := fun args L =>
  match args with
  | [.agg [.str v365, .int .i64 v366, .int .i64 v367, a1]] =>
    optT (rowF32 L a1) fun v368 =>
    .call (impl_StoreSheets_1_g v365 v366 v367 v368) fun y => .leaf (.bool y, L)
  | _ => .fail
theorem impl_StoreSheets_1_Fok : COk Try.prog 48 impl_StoreSheets_1_F true := by
  intro F L H args r L' hs ha hr
  unfold impl_StoreSheets_1_F at hr
  split at hr
  · rename_i v365 v366 v367 a1
    obtain ⟨v368, hv368, hr⟩ := optT_run hr
    simp only [Tree.run] at hr
    obtain ⟨y, hy, hr⟩ := Option.bind_eq_some_iff.1 hr
    simp only [Tree.run, Option.some.injEq, Prod.mk.injEq] at hr
    obtain ⟨rfl, rfl⟩ := hr
    exact call_ok0 hs (fun k => (([a1.av F] : List AV)[k]?).getD .top) [.agg [.str v365, .int .i64 v366, .int .i64 v367, a1]] [.agg [.str v365, .int .i64 v366, .int .i64 v367, .bslc (BR.root 0) (.f32 v368)]] (fun F' h0 hi hρ => ⟨by simp [DVs.av, DV.av, BR.av, hρ], impl_StoreSheets_1_fn v365 v366 v367 v368 F' (st_nil hi) ⟨⟨trivial, trivial, trivial, bslc_ok hi (by rw [h0, hρ]; exact rowF32_ok hs (DVs.okAt (DVs.okAt ha 0 rfl) 3 rfl) hv368), trivial⟩, trivial⟩ hy⟩) rfl
  · cases hr
/-! slices.IndexFunc[list of impl.Sheet,impl.Sheet] -/
noncomputable def slices_IndexFunc_impl_Sheet_impl_Sheet_l0_T (v360 : List ByteArray) (v361 : List Int) (v362 : List Int) (v363 : List (List Nat)) (s : Int) : Tree ((Int) ⊕ ((Int) ⊕ (Unit))) :=
  (.br (decide (s < ((v360.length : Nat) : Int))) (
  (.grd (inb s v360.length) <|
  (.call (impl_StoreSheets_1_g (nth v360 (Int.toNat s)) (nth v361 (Int.toNat s)) (nth v362 (Int.toNat s)) (nth v363 (Int.toNat s))) fun v374 =>
  (.br v374 (
  .leaf (.inr (.inl s))
  ) (
  .leaf (.inl (IntKind.i64.wrap (s + (1 : Int))))
  ))))
  ) (
  .leaf (.inr (.inr ()))
  ))

noncomputable def slices_IndexFunc_impl_Sheet_impl_Sheet_l0_g (v360 : List ByteArray) (v361 : List Int) (v362 : List Int) (v363 : List (List Nat)) (s0 : Int) : Option ((Int) ⊕ (Unit)) := whileM (fun s => (slices_IndexFunc_impl_Sheet_impl_Sheet_l0_T v360 v361 v362 v363 s).run) s0
def slices_IndexFunc_impl_Sheet_impl_Sheet_l0_E (v360 : List ByteArray) (v361 : List Int) (v362 : List Int) (v363 : List (List Nat)) (s : Int) : Sd := ([.rns 0 [.pl (.str v360), .pl (.i64 v361), .pl (.i64 v362), .sl (.f32 v363)],.fn 48 [],tp,tp,tp,tp,tp,.int .i64 ((v360.length : Nat) : Int),.int .i64 s,tp,tp,tp,tp,tp,tp,tp,tp,tp,tp], [])
def slices_IndexFunc_impl_Sheet_impl_Sheet_l0_X (v360 : List ByteArray) (v361 : List Int) (v362 : List Int) (v363 : List (List Nat)) (x : (Int) ⊕ (Unit)) : Out := (match x with | .inl x => (.ret, [tp,tp,tp,tp,.int .i64 x,tp,tp,tp,tp,tp,tp,tp,tp,tp,tp,tp,tp,tp,tp], []) | .inr x => (.normal, [tp,tp,tp,tp,tp,tp,tp,tp,tp,tp,tp,tp,tp,tp,tp,tp,tp,tp,tp], []))
def slices_IndexFunc_impl_Sheet_impl_Sheet_l0_kill : List Nat := KL true [0,2,5,2,10]
def slices_IndexFunc_impl_Sheet_impl_Sheet_l0_nx : Exit → List Nat
  | .exit 0 => KL true [19]
  | .ret => KL true [4,1,14]
  | _ => []
noncomputable def slices_IndexFunc_impl_Sheet_impl_Sheet_LO (v360 : List ByteArray) (v361 : List Int) (v362 : List Int) (v363 : List (List Nat)) : LOr := fun id e L =>
  match id with
  | 0 => .need (normA 0 slices_IndexFunc_impl_Sheet_impl_Sheet_l0_kill e L = some (slices_IndexFunc_impl_Sheet_impl_Sheet_l0_E v360 v361 v362 v363 (gI (vAt e 8)))) (.call (slices_IndexFunc_impl_Sheet_impl_Sheet_l0_g v360 v361 v362 v363 (gI (vAt e 8))) fun x => .sum x (fun b0 => .leaf (slices_IndexFunc_impl_Sheet_impl_Sheet_l0_X v360 v361 v362 v363 (.inl b0))) (fun c0 => .leaf (slices_IndexFunc_impl_Sheet_impl_Sheet_l0_X v360 v361 v362 v363 (.inr c0))))
  | _ => .fail
noncomputable def slices_IndexFunc_impl_Sheet_impl_Sheet_tab : List (FuncId × DFn × Bool) := [(48, impl_StoreSheets_1_F, true)]
theorem slices_IndexFunc_impl_Sheet_impl_Sheet_hO : OrcOk Try.prog (tabD slices_IndexFunc_impl_Sheet_impl_Sheet_tab) (tabM slices_IndexFunc_impl_Sheet_impl_Sheet_tab) := tabD_cons impl_StoreSheets_1_Fok (tabD_nil _)
theorem slices_IndexFunc_impl_Sheet_impl_Sheet_l0_be (v360 : List ByteArray) (v361 : List Int) (v362 : List Int) (v363 : List (List Nat)) (s : Int) : bodyT TT (tabD slices_IndexFunc_impl_Sheet_impl_Sheet_tab) (tabM slices_IndexFunc_impl_Sheet_impl_Sheet_tab) (slices_IndexFunc_impl_Sheet_impl_Sheet_LO v360 v361 v362 v363) 0 slices_IndexFunc_impl_Sheet_impl_Sheet_l0_kill slices_IndexFunc_impl_Sheet_impl_Sheet_l0_nx (bodyOf Try.f75 0) 0 (slices_IndexFunc_impl_Sheet_impl_Sheet_l0_E v360 v361 v362 v363 s) = (slices_IndexFunc_impl_Sheet_impl_Sheet_l0_T v360 v361 v362 v363 s).bind fun y => .leaf (outS (slices_IndexFunc_impl_Sheet_impl_Sheet_l0_E v360 v361 v362 v363) (slices_IndexFunc_impl_Sheet_impl_Sheet_l0_X v360 v361 v362 v363) y) := by kernel_rfl
theorem slices_IndexFunc_impl_Sheet_impl_Sheet_l0_ok (v360 : List ByteArray) (v361 : List Int) (v362 : List Int) (v363 : List (List Nat)) : LSound Try.prog 0 (slices_IndexFunc_impl_Sheet_impl_Sheet_LO v360 v361 v362 v363) 0 (bodyOf Try.f75 0) := by
  intro e L out h
  exact lo_ok (E := slices_IndexFunc_impl_Sheet_impl_Sheet_l0_E v360 v361 v362 v363) (gT := slices_IndexFunc_impl_Sheet_impl_Sheet_l0_T v360 v361 v362 v363) (X := slices_IndexFunc_impl_Sheet_impl_Sheet_l0_X v360 v361 v362 v363) (s0 := (gI (vAt e 8))) tok slices_IndexFunc_impl_Sheet_impl_Sheet_hO mixed (LoopsOk_eq (l := []) (by kernel_rfl) trivial) (slices_IndexFunc_impl_Sheet_impl_Sheet_l0_be v360 v361 v362 v363) rfl (by intro x; (cases x with | inl b => rfl | inr x => exact rfl)) h
noncomputable def slices_IndexFunc_impl_Sheet_impl_Sheet_T (v360 : List ByteArray) (v361 : List Int) (v362 : List Int) (v363 : List (List Nat)) : Tree (Int) :=
  (.need (some (slices_IndexFunc_impl_Sheet_impl_Sheet_l0_E v360 v361 v362 v363 (0 : Int)) = some (slices_IndexFunc_impl_Sheet_impl_Sheet_l0_E v360 v361 v362 v363 (0 : Int))) <|
  (.call (slices_IndexFunc_impl_Sheet_impl_Sheet_l0_g v360 v361 v362 v363 (0 : Int)) fun v375 =>
  (.sum v375 (fun v376 =>
  .leaf v376
  ) (fun v377 =>
  .leaf (-1 : Int)
  ))))

noncomputable def slices_IndexFunc_impl_Sheet_impl_Sheet_g (v360 : List ByteArray) (v361 : List Int) (v362 : List Int) (v363 : List (List Nat)) : Option (Int) := (slices_IndexFunc_impl_Sheet_impl_Sheet_T v360 v361 v362 v363).run
def slices_IndexFunc_impl_Sheet_impl_Sheet_enc (v360 : List ByteArray) (v361 : List Int) (v362 : List Int) (v363 : List (List Nat)) (y : Int) : Rs := (.int .i64 y, [])
theorem slices_IndexFunc_impl_Sheet_impl_Sheet_den (v360 : List ByteArray) (v361 : List Int) (v362 : List Int) (v363 : List (List Nat)) : (den TT (tabD slices_IndexFunc_impl_Sheet_impl_Sheet_tab) (tabM slices_IndexFunc_impl_Sheet_impl_Sheet_tab) (slices_IndexFunc_impl_Sheet_impl_Sheet_LO v360 v361 v362 v363) (codeOf Try.f75) ([.rns 0 [.pl (.str v360), .pl (.i64 v361), .pl (.i64 v362), .sl (.f32 v363)], .fn 48 []] ++ List.replicate (Try.f75.ntmps - ([.rns 0 [.pl (.str v360), .pl (.i64 v361), .pl (.i64 v362), .sl (.f32 v363)], .fn 48 []] : List DV).length) .undef) []).bind (retD TT Try.f75.results.toList 0) = (slices_IndexFunc_impl_Sheet_impl_Sheet_T v360 v361 v362 v363).bind fun y => .leaf (slices_IndexFunc_impl_Sheet_impl_Sheet_enc v360 v361 v362 v363 y) := by kernel_rfl
theorem slices_IndexFunc_impl_Sheet_impl_Sheet_fn (v360 : List ByteArray) (v361 : List Int) (v362 : List Int) (v363 : List (List Nat)) (F : Fr) (h0 : St F [] F.H0) (hA : DVs.Ok F [] [.rns 0 [.pl (.str v360), .pl (.i64 v361), .pl (.i64 v362), .sl (.f32 v363)], .fn 48 []]) {y : Int} (hy : slices_IndexFunc_impl_Sheet_impl_Sheet_g v360 v361 v362 v363 = some y) : ∃ F' H', Fwd 0 F F' [] (slices_IndexFunc_impl_Sheet_impl_Sheet_enc v360 v361 v362 v363 y).2 ∧ FnOk Try.prog 75 (DVs.av F [.rns 0 [.pl (.str v360), .pl (.i64 v361), .pl (.i64 v362), .sl (.f32 v363)], .fn 48 []]) F.H0 ((slices_IndexFunc_impl_Sheet_impl_Sheet_enc v360 v361 v362 v363 y).1.av F') H' ∧ St F' (slices_IndexFunc_impl_Sheet_impl_Sheet_enc v360 v361 v362 v363 y).2 H' ∧ (slices_IndexFunc_impl_Sheet_impl_Sheet_enc v360 v361 v362 v363 y).1.Ok F' (slices_IndexFunc_impl_Sheet_impl_Sheet_enc v360 v361 v362 v363 y).2 :=
  fn_fin tok slices_IndexFunc_impl_Sheet_impl_Sheet_hO mixed Try.func75 Try.call75 (by kernel_rfl) (LoopsOk_eq (l := [(0, bodyOf Try.f75 0)]) (by kernel_rfl) ⟨slices_IndexFunc_impl_Sheet_impl_Sheet_l0_ok v360 v361 v362 v363, trivial⟩) (slices_IndexFunc_impl_Sheet_impl_Sheet_den v360 v361 v362 v363) hy h0 hA
noncomputable def slices_IndexFunc_impl_Sheet_impl_Sheet_F : DFn := fun args L =>
  match args with
  | [a1, .fn 48 []] =>
    optT (rnsV L a1) fun qr0 =>
    (match qr0.2 with
    | [.pl (.str v360), .pl (.i64 v361), .pl (.i64 v362), .sl (.f32 v363)] =>
    .call (slices_IndexFunc_impl_Sheet_impl_Sheet_g v360 v361 v362 v363) fun y => .leaf (.int .i64 y, L)
    | _ => .fail)
  | _ => .fail
theorem slices_IndexFunc_impl_Sheet_impl_Sheet_Fok : COk Try.prog 75 slices_IndexFunc_impl_Sheet_impl_Sheet_F true := by
  intro F L H args r L' hs ha hr
  unfold slices_IndexFunc_impl_Sheet_impl_Sheet_F at hr
  split at hr
  · rename_i a1
    obtain ⟨⟨nr0, cr0⟩, hv0, hr⟩ := optT_run hr
    simp only at hr
    split at hr
    · rename_i v360 v361 v362 v363
      obtain ⟨G0, hra0, hrn0⟩ := rnsV_ok hs (DVs.okAt ha 0 rfl) hv0
      simp only [Tree.run] at hr
      obtain ⟨y, hy, hr⟩ := Option.bind_eq_some_iff.1 hr
      simp only [Tree.run, Option.some.injEq, Prod.mk.injEq] at hr
      obtain ⟨rfl, rfl⟩ := hr
      exact call_ok0 hs (fun k => (([a1.av F] : List AV)[k]?).getD (G0.ρ (k - 0 + nr0))) [a1, .fn 48 []] [.rns 0 [.pl (.str v360), .pl (.i64 v361), .pl (.i64 v362), .sl (.f32 v363)], .fn 48 []] (fun F' h0 hi hρ => ⟨by simp [DVs.av, DV.av, BR.av, hρ], slices_IndexFunc_impl_Sheet_impl_Sheet_fn v360 v361 v362 v363 F' (st_nil hi) ⟨(rns_ok (F := G0) (n := nr0) hi (by rw [h0]; exact hrn0) (by rw [hρ]; exact hra0) fun m => by rw [hρ]; exact (rho_far (g := fun k => (G0.ρ (k - 0 + nr0))) (by simp <;> omega)).trans (by exact congrArg G0.ρ (by omega))), trivial, trivial⟩ hy⟩) rfl
    · cases hr
  · cases hr
/-! slices.ContainsFunc[list of impl.Sheet,impl.Sheet] -/
noncomputable def slices_ContainsFunc_impl_Sheet_impl_Sheet_LO (v356 : List ByteArray) (v357 : List Int) (v358 : List Int) (v359 : List (List Nat)) : LOr := fun id e L =>
  match id with
  | _ => .fail
noncomputable def slices_ContainsFunc_impl_Sheet_impl_Sheet_tab : List (FuncId × DFn × Bool) := [(75, slices_IndexFunc_impl_Sheet_impl_Sheet_F, true)]
theorem slices_ContainsFunc_impl_Sheet_impl_Sheet_hO : OrcOk Try.prog (tabD slices_ContainsFunc_impl_Sheet_impl_Sheet_tab) (tabM slices_ContainsFunc_impl_Sheet_impl_Sheet_tab) := tabD_cons slices_IndexFunc_impl_Sheet_impl_Sheet_Fok (tabD_nil _)
noncomputable def slices_ContainsFunc_impl_Sheet_impl_Sheet_T (v356 : List ByteArray) (v357 : List Int) (v358 : List Int) (v359 : List (List Nat)) : Tree (Bool) :=
  (.call (slices_IndexFunc_impl_Sheet_impl_Sheet_g v356 v357 v358 v359) fun v378 =>
  .leaf (decide ((0 : Int) ≤ v378)))

noncomputable def slices_ContainsFunc_impl_Sheet_impl_Sheet_g (v356 : List ByteArray) (v357 : List Int) (v358 : List Int) (v359 : List (List Nat)) : Option (Bool) := (slices_ContainsFunc_impl_Sheet_impl_Sheet_T v356 v357 v358 v359).run
def slices_ContainsFunc_impl_Sheet_impl_Sheet_enc (v356 : List ByteArray) (v357 : List Int) (v358 : List Int) (v359 : List (List Nat)) (y : Bool) : Rs := (.bool y, [])
theorem slices_ContainsFunc_impl_Sheet_impl_Sheet_den (v356 : List ByteArray) (v357 : List Int) (v358 : List Int) (v359 : List (List Nat)) : (den TT (tabD slices_ContainsFunc_impl_Sheet_impl_Sheet_tab) (tabM slices_ContainsFunc_impl_Sheet_impl_Sheet_tab) (slices_ContainsFunc_impl_Sheet_impl_Sheet_LO v356 v357 v358 v359) (codeOf Try.f47) ([.rns 0 [.pl (.str v356), .pl (.i64 v357), .pl (.i64 v358), .sl (.f32 v359)], .fn 48 []] ++ List.replicate (Try.f47.ntmps - ([.rns 0 [.pl (.str v356), .pl (.i64 v357), .pl (.i64 v358), .sl (.f32 v359)], .fn 48 []] : List DV).length) .undef) []).bind (retD TT Try.f47.results.toList 0) = (slices_ContainsFunc_impl_Sheet_impl_Sheet_T v356 v357 v358 v359).bind fun y => .leaf (slices_ContainsFunc_impl_Sheet_impl_Sheet_enc v356 v357 v358 v359 y) := by kernel_rfl
theorem slices_ContainsFunc_impl_Sheet_impl_Sheet_fn (v356 : List ByteArray) (v357 : List Int) (v358 : List Int) (v359 : List (List Nat)) (F : Fr) (h0 : St F [] F.H0) (hA : DVs.Ok F [] [.rns 0 [.pl (.str v356), .pl (.i64 v357), .pl (.i64 v358), .sl (.f32 v359)], .fn 48 []]) {y : Bool} (hy : slices_ContainsFunc_impl_Sheet_impl_Sheet_g v356 v357 v358 v359 = some y) : ∃ F' H', Fwd 0 F F' [] (slices_ContainsFunc_impl_Sheet_impl_Sheet_enc v356 v357 v358 v359 y).2 ∧ FnOk Try.prog 47 (DVs.av F [.rns 0 [.pl (.str v356), .pl (.i64 v357), .pl (.i64 v358), .sl (.f32 v359)], .fn 48 []]) F.H0 ((slices_ContainsFunc_impl_Sheet_impl_Sheet_enc v356 v357 v358 v359 y).1.av F') H' ∧ St F' (slices_ContainsFunc_impl_Sheet_impl_Sheet_enc v356 v357 v358 v359 y).2 H' ∧ (slices_ContainsFunc_impl_Sheet_impl_Sheet_enc v356 v357 v358 v359 y).1.Ok F' (slices_ContainsFunc_impl_Sheet_impl_Sheet_enc v356 v357 v358 v359 y).2 :=
  fn_fin tok slices_ContainsFunc_impl_Sheet_impl_Sheet_hO mixed Try.func47 Try.call47 (by kernel_rfl) (LoopsOk_eq (l := []) (by kernel_rfl) trivial) (slices_ContainsFunc_impl_Sheet_impl_Sheet_den v356 v357 v358 v359) hy h0 hA
noncomputable def slices_ContainsFunc_impl_Sheet_impl_Sheet_F : DFn := fun args L =>
  match args with
  | [a1, .fn 48 []] =>
    optT (rnsV L a1) fun qr0 =>
    (match qr0.2 with
    | [.pl (.str v356), .pl (.i64 v357), .pl (.i64 v358), .sl (.f32 v359)] =>
    .call (slices_ContainsFunc_impl_Sheet_impl_Sheet_g v356 v357 v358 v359) fun y => .leaf (.bool y, L)
    | _ => .fail)
  | _ => .fail
theorem slices_ContainsFunc_impl_Sheet_impl_Sheet_Fok : COk Try.prog 47 slices_ContainsFunc_impl_Sheet_impl_Sheet_F true := by
  intro F L H args r L' hs ha hr
  unfold slices_ContainsFunc_impl_Sheet_impl_Sheet_F at hr
  split at hr
  · rename_i a1
    obtain ⟨⟨nr0, cr0⟩, hv0, hr⟩ := optT_run hr
    simp only at hr
    split at hr
    · rename_i v356 v357 v358 v359
      obtain ⟨G0, hra0, hrn0⟩ := rnsV_ok hs (DVs.okAt ha 0 rfl) hv0
      simp only [Tree.run] at hr
      obtain ⟨y, hy, hr⟩ := Option.bind_eq_some_iff.1 hr
      simp only [Tree.run, Option.some.injEq, Prod.mk.injEq] at hr
      obtain ⟨rfl, rfl⟩ := hr
      exact call_ok0 hs (fun k => (([a1.av F] : List AV)[k]?).getD (G0.ρ (k - 0 + nr0))) [a1, .fn 48 []] [.rns 0 [.pl (.str v356), .pl (.i64 v357), .pl (.i64 v358), .sl (.f32 v359)], .fn 48 []] (fun F' h0 hi hρ => ⟨by simp [DVs.av, DV.av, BR.av, hρ], slices_ContainsFunc_impl_Sheet_impl_Sheet_fn v356 v357 v358 v359 F' (st_nil hi) ⟨(rns_ok (F := G0) (n := nr0) hi (by rw [h0]; exact hrn0) (by rw [hρ]; exact hra0) fun m => by rw [hρ]; exact (rho_far (g := fun k => (G0.ρ (k - 0 + nr0))) (by simp <;> omega)).trans (by exact congrArg G0.ρ (by omega))), trivial, trivial⟩ hy⟩) rfl
    · cases hr
  · cases hr
/-! impl.StoreSheets -/
noncomputable def impl_StoreSheets_l0_T (v352 : List ByteArray) (v353 : List Int) (v354 : List Int) (v355 : List (List Nat)) (s : ByteArray × Int) : Tree ((ByteArray × Int) ⊕ (ByteArray)) :=
  (.br (decide (s.2 < ((v352.length : Nat) : Int))) (
  (.grd (inb s.2 v352.length) <|
  (.call (impl_storeSheet_g (nth v352 (Int.toNat s.2)) (nth v353 (Int.toNat s.2)) (nth v354 (Int.toNat s.2)) (nth v355 (Int.toNat s.2))) fun v388 =>
  (.grd (fits (s.1.size + v388.size)) <|
  .leaf (.inl (s.1 ++ v388, IntKind.i64.wrap (s.2 + (1 : Int)))))))
  ) (
  .leaf (.inr s.1)
  ))

noncomputable def impl_StoreSheets_l0_g (v352 : List ByteArray) (v353 : List Int) (v354 : List Int) (v355 : List (List Nat)) (s0 : ByteArray × Int) : Option (ByteArray) := whileM (fun s => (impl_StoreSheets_l0_T v352 v353 v354 v355 s).run) s0
def impl_StoreSheets_l0_E (v352 : List ByteArray) (v353 : List Int) (v354 : List Int) (v355 : List (List Nat)) (s : ByteArray × Int) : Sd := ([tp,tp,tp,tp,.str s.1,tp,tp,tp,tp,tp,tp,tp,tp,tp,.rns 0 [.pl (.str v352), .pl (.i64 v353), .pl (.i64 v354), .sl (.f32 v355)],.int .i64 ((v352.length : Nat) : Int),.int .i64 s.2,tp,tp,tp,tp,tp,tp,tp,tp,tp], [])
def impl_StoreSheets_l0_X (v352 : List ByteArray) (v353 : List Int) (v354 : List Int) (v355 : List (List Nat)) (x : ByteArray) : Out := (.normal, [tp,tp,tp,tp,.str x,tp,tp,tp,tp,tp,tp,tp,tp,tp,tp,tp,tp,tp,tp,tp,tp,tp,tp,tp,tp,tp], [])
def impl_StoreSheets_l0_kill : List Nat := KL true [4,1,9,3,9]
def impl_StoreSheets_l0_nx : Exit → List Nat
  | .exit 0 => KL true [4,1,21]
  | .ret => KL true [2,2,22]
  | _ => []
noncomputable def impl_StoreSheets_LO (v352 : List ByteArray) (v353 : List Int) (v354 : List Int) (v355 : List (List Nat)) : LOr := fun id e L =>
  match id with
  | 0 => .need (normA 0 impl_StoreSheets_l0_kill e L = some (impl_StoreSheets_l0_E v352 v353 v354 v355 ((gS (vAt e 4)), (gI (vAt e 16))))) (.call (impl_StoreSheets_l0_g v352 v353 v354 v355 ((gS (vAt e 4)), (gI (vAt e 16)))) fun x => .leaf (impl_StoreSheets_l0_X v352 v353 v354 v355 x))
  | _ => .fail
noncomputable def impl_StoreSheets_tab : List (FuncId × DFn × Bool) := [(47, slices_ContainsFunc_impl_Sheet_impl_Sheet_F, true), (37, impl_storeSheet_F, true)]
theorem impl_StoreSheets_hO : OrcOk Try.prog (tabD impl_StoreSheets_tab) (tabM impl_StoreSheets_tab) := tabD_cons slices_ContainsFunc_impl_Sheet_impl_Sheet_Fok (tabD_cons impl_storeSheet_Fok (tabD_nil _))
theorem impl_StoreSheets_l0_be (v352 : List ByteArray) (v353 : List Int) (v354 : List Int) (v355 : List (List Nat)) (s : ByteArray × Int) : bodyT TT (tabD impl_StoreSheets_tab) (tabM impl_StoreSheets_tab) (impl_StoreSheets_LO v352 v353 v354 v355) 0 impl_StoreSheets_l0_kill impl_StoreSheets_l0_nx (bodyOf Try.f24 0) 0 (impl_StoreSheets_l0_E v352 v353 v354 v355 s) = (impl_StoreSheets_l0_T v352 v353 v354 v355 s).bind fun y => .leaf (outS (impl_StoreSheets_l0_E v352 v353 v354 v355) (impl_StoreSheets_l0_X v352 v353 v354 v355) y) := by kernel_rfl
theorem impl_StoreSheets_l0_ok (v352 : List ByteArray) (v353 : List Int) (v354 : List Int) (v355 : List (List Nat)) : LSound Try.prog 0 (impl_StoreSheets_LO v352 v353 v354 v355) 0 (bodyOf Try.f24 0) := by
  intro e L out h
  exact lo_ok (E := impl_StoreSheets_l0_E v352 v353 v354 v355) (gT := impl_StoreSheets_l0_T v352 v353 v354 v355) (X := impl_StoreSheets_l0_X v352 v353 v354 v355) (s0 := ((gS (vAt e 4)), (gI (vAt e 16)))) tok impl_StoreSheets_hO mixed (LoopsOk_eq (l := []) (by kernel_rfl) trivial) (impl_StoreSheets_l0_be v352 v353 v354 v355) rfl (by intro x; rfl) h
noncomputable def impl_StoreSheets_T (v352 : List ByteArray) (v353 : List Int) (v354 : List Int) (v355 : List (List Nat)) : Tree ((ByteArray) ⊕ (ByteArray)) :=
  (.br (decide ((8 : Int) < ((v352.length : Nat) : Int))) (
  .leaf (.inl (ByteArray.mk #[]))
  ) (
  (.call (slices_ContainsFunc_impl_Sheet_impl_Sheet_g v352 v353 v354 v355) fun v379 =>
  (.br v379 (
  .leaf (.inl (ByteArray.mk #[]))
  ) (
  (.need (some (impl_StoreSheets_l0_E v352 v353 v354 v355 ((ByteArray.mk #[]), (0 : Int))) = some (impl_StoreSheets_l0_E v352 v353 v354 v355 ((ByteArray.mk #[]), (0 : Int)))) <|
  (.call (impl_StoreSheets_l0_g v352 v353 v354 v355 ((ByteArray.mk #[]), (0 : Int))) fun v389 =>
  .leaf (.inr v389)))
  )))
  ))

noncomputable def impl_StoreSheets_g (v352 : List ByteArray) (v353 : List Int) (v354 : List Int) (v355 : List (List Nat)) : Option ((ByteArray) ⊕ (ByteArray)) := (impl_StoreSheets_T v352 v353 v354 v355).run
def impl_StoreSheets_enc (v352 : List ByteArray) (v353 : List Int) (v354 : List Int) (v355 : List (List Nat)) (y : (ByteArray) ⊕ (ByteArray)) : Rs := (match y with | .inl y => (.tup [.str y, .lit false], []) | .inr y => (.tup [.str y, .lit true], []))
theorem impl_StoreSheets_den (v352 : List ByteArray) (v353 : List Int) (v354 : List Int) (v355 : List (List Nat)) : (den TT (tabD impl_StoreSheets_tab) (tabM impl_StoreSheets_tab) (impl_StoreSheets_LO v352 v353 v354 v355) (codeOf Try.f24) ([.rns 0 [.pl (.str v352), .pl (.i64 v353), .pl (.i64 v354), .sl (.f32 v355)]] ++ List.replicate (Try.f24.ntmps - ([.rns 0 [.pl (.str v352), .pl (.i64 v353), .pl (.i64 v354), .sl (.f32 v355)]] : List DV).length) .undef) []).bind (retD TT Try.f24.results.toList 0) = (impl_StoreSheets_T v352 v353 v354 v355).bind fun y => .leaf (impl_StoreSheets_enc v352 v353 v354 v355 y) := by kernel_rfl
theorem impl_StoreSheets_fn (v352 : List ByteArray) (v353 : List Int) (v354 : List Int) (v355 : List (List Nat)) (F : Fr) (h0 : St F [] F.H0) (hA : DVs.Ok F [] [.rns 0 [.pl (.str v352), .pl (.i64 v353), .pl (.i64 v354), .sl (.f32 v355)]]) {y : (ByteArray) ⊕ (ByteArray)} (hy : impl_StoreSheets_g v352 v353 v354 v355 = some y) : ∃ F' H', Fwd 0 F F' [] (impl_StoreSheets_enc v352 v353 v354 v355 y).2 ∧ FnOk Try.prog 24 (DVs.av F [.rns 0 [.pl (.str v352), .pl (.i64 v353), .pl (.i64 v354), .sl (.f32 v355)]]) F.H0 ((impl_StoreSheets_enc v352 v353 v354 v355 y).1.av F') H' ∧ St F' (impl_StoreSheets_enc v352 v353 v354 v355 y).2 H' ∧ (impl_StoreSheets_enc v352 v353 v354 v355 y).1.Ok F' (impl_StoreSheets_enc v352 v353 v354 v355 y).2 :=
  fn_fin tok impl_StoreSheets_hO mixed Try.func24 Try.call24 (by kernel_rfl) (LoopsOk_eq (l := [(0, bodyOf Try.f24 0)]) (by kernel_rfl) ⟨impl_StoreSheets_l0_ok v352 v353 v354 v355, trivial⟩) (impl_StoreSheets_den v352 v353 v354 v355) hy h0 hA
noncomputable def impl_StoreSheets_F : DFn := fun args L =>
  match args with
  | [a1] =>
    optT (rnsV L a1) fun qr0 =>
    (match qr0.2 with
    | [.pl (.str v352), .pl (.i64 v353), .pl (.i64 v354), .sl (.f32 v355)] =>
    .call (impl_StoreSheets_g v352 v353 v354 v355) fun y => .sum y (fun y0 => .leaf (.tup [.str y0, .lit false], L)) (fun z0 => .leaf (.tup [.str z0, .lit true], L))
    | _ => .fail)
  | _ => .fail
theorem impl_StoreSheets_Fok : COk Try.prog 24 impl_StoreSheets_F true := by
  intro F L H args r L' hs ha hr
  unfold impl_StoreSheets_F at hr
  split at hr
  · rename_i a1
    obtain ⟨⟨nr0, cr0⟩, hv0, hr⟩ := optT_run hr
    simp only at hr
    split at hr
    · rename_i v352 v353 v354 v355
      obtain ⟨G0, hra0, hrn0⟩ := rnsV_ok hs (DVs.okAt ha 0 rfl) hv0
      simp only [Tree.run] at hr
      obtain ⟨y, hy, hr⟩ := Option.bind_eq_some_iff.1 hr
      cases y with
      | inl y =>
        simp only [Tree.run, Option.some.injEq, Prod.mk.injEq] at hr
        obtain ⟨rfl, rfl⟩ := hr
        exact call_ok0 hs (fun k => (([a1.av F] : List AV)[k]?).getD (G0.ρ (k - 0 + nr0))) [a1] [.rns 0 [.pl (.str v352), .pl (.i64 v353), .pl (.i64 v354), .sl (.f32 v355)]] (fun F' h0 hi hρ => ⟨by simp [DVs.av, DV.av, BR.av, hρ], impl_StoreSheets_fn v352 v353 v354 v355 F' (st_nil hi) ⟨(rns_ok (F := G0) (n := nr0) hi (by rw [h0]; exact hrn0) (by rw [hρ]; exact hra0) fun m => by rw [hρ]; exact (rho_far (g := fun k => (G0.ρ (k - 0 + nr0))) (by simp <;> omega)).trans (by exact congrArg G0.ρ (by omega))), trivial⟩ hy⟩) rfl
      | inr y =>
        simp only [Tree.run, Option.some.injEq, Prod.mk.injEq] at hr
        obtain ⟨rfl, rfl⟩ := hr
        exact call_ok0 hs (fun k => (([a1.av F] : List AV)[k]?).getD (G0.ρ (k - 0 + nr0))) [a1] [.rns 0 [.pl (.str v352), .pl (.i64 v353), .pl (.i64 v354), .sl (.f32 v355)]] (fun F' h0 hi hρ => ⟨by simp [DVs.av, DV.av, BR.av, hρ], impl_StoreSheets_fn v352 v353 v354 v355 F' (st_nil hi) ⟨(rns_ok (F := G0) (n := nr0) hi (by rw [h0]; exact hrn0) (by rw [hρ]; exact hra0) fun m => by rw [hρ]; exact (rho_far (g := fun k => (G0.ρ (k - 0 + nr0))) (by simp <;> omega)).trans (by exact congrArg G0.ρ (by omega))), trivial⟩ hy⟩) rfl
    · cases hr
  · cases hr
/-! impl.RecoverSheets -/
noncomputable def impl_RecoverSheets_l0_T (v393 : ByteArray) (s : Int × (List ByteArray) × (List Int) × (List Int) × (List (List Nat)) × (List Nat)) : Tree ((Int × (List ByteArray) × (List Int) × (List Int) × (List (List Nat)) × (List Nat)) ⊕ (Int × (List ByteArray) × (List Int) × (List Int) × (List (List Nat)) × (List Nat))) :=
  (.br (decide ((((s.2.1).length : Nat) : Int) < (8 : Int))) (
  (.grd (sok s.1 ((v393.size : Nat) : Int) v393.size) <|
  (.call (impl_loadSheet_g (ByteArray.extract v393 (Int.toNat s.1) (Int.toNat ((v393.size : Nat) : Int)))) fun v417 =>
  (.sum v417 (fun v418 =>
  .leaf (.inr (s.1, s.2.1, s.2.2.1, s.2.2.2.1, s.2.2.2.2.1, s.2.2.2.2.2))
  ) (fun v419 =>
  (.sum v419 (fun v420 =>
  (.grd (fits (((s.2.1).length) + (1 : Nat))) <|
  .leaf (.inl (IntKind.i64.wrap (s.1 + v420.2.2.2), s.2.1 ++ ([v420.1] : List ByteArray), s.2.2.1 ++ ([v420.2.1] : List Int), s.2.2.2.1 ++ ([v420.2.2.1] : List Int), s.2.2.2.2.1 ++ ([] : List (List Nat)), s.2.2.2.2.2 ++ [0])))
  ) (fun v421 =>
  (.grd (fits (((s.2.1).length) + (1 : Nat))) <|
  .leaf (.inl (IntKind.i64.wrap (s.1 + v421.2.2.2.1), s.2.1 ++ ([v421.1] : List ByteArray), s.2.2.1 ++ ([v421.2.1] : List Int), s.2.2.2.1 ++ ([v421.2.2.1] : List Int), s.2.2.2.2.1 ++ ([v421.2.2.2.2] : List (List Nat)), s.2.2.2.2.2 ++ [s.2.2.2.2.1.length + 1])))
  ))
  ))))
  ) (
  .leaf (.inr (s.1, s.2.1, s.2.2.1, s.2.2.2.1, s.2.2.2.2.1, s.2.2.2.2.2))
  ))

noncomputable def impl_RecoverSheets_l0_g (v393 : ByteArray) (s0 : Int × (List ByteArray) × (List Int) × (List Int) × (List (List Nat)) × (List Nat)) : Option (Int × (List ByteArray) × (List Int) × (List Int) × (List (List Nat)) × (List Nat)) := whileM (fun s => (impl_RecoverSheets_l0_T v393 s).run) s0
def impl_RecoverSheets_l0_E (v393 : ByteArray) (s : Int × (List ByteArray) × (List Int) × (List Int) × (List (List Nat)) × (List Nat)) : Sd := ([.str v393,tp,tp,tp,tp,.nest 0 0 4 ((s.2.1).length),.int .i64 s.1,tp,tp,tp,tp,tp,tp,tp,tp,tp,tp,tp,tp,tp,tp,tp,tp,tp,tp,tp,tp,tp,tp,tp,tp,tp,tp], [.nest [.pl (.str s.2.1), .pl (.i64 s.2.2.1), .pl (.i64 s.2.2.2.1), .sl (.f32 s.2.2.2.2.1) s.2.2.2.2.2] false 0])
def impl_RecoverSheets_l0_X (v393 : ByteArray) (x : Int × (List ByteArray) × (List Int) × (List Int) × (List (List Nat)) × (List Nat)) : Out := (.normal, [tp,tp,tp,tp,tp,.nest 0 0 4 ((x.2.1).length),.int .i64 x.1,tp,tp,tp,tp,tp,tp,tp,tp,tp,tp,tp,tp,tp,tp,tp,tp,tp,tp,tp,tp,tp,tp,tp,tp,tp,tp], [.nest [.pl (.str x.2.1), .pl (.i64 x.2.2.1), .pl (.i64 x.2.2.2.1), .sl (.f32 x.2.2.2.2.1) x.2.2.2.2.2] false 0])
def impl_RecoverSheets_l0_kill : List Nat := KL true [0,1,4,2,26]
def impl_RecoverSheets_l0_nx : Exit → List Nat
  | .exit 0 => KL true [5,2,26]
  | .ret => KL true [2,3,28]
  | _ => []
noncomputable def impl_RecoverSheets_LO (v393 : ByteArray) : LOr := fun id e L =>
  match id with
  | 0 => .need (normA 0 impl_RecoverSheets_l0_kill e L = some (impl_RecoverSheets_l0_E v393 ((gI (vAt e 6)), (gCS L (vAt e 5) 0), (gCI L (vAt e 5) 1), (gCI L (vAt e 5) 2), (gPF L (vAt e 5) 3), (gX L (vAt e 5) 3)))) (.call (impl_RecoverSheets_l0_g v393 ((gI (vAt e 6)), (gCS L (vAt e 5) 0), (gCI L (vAt e 5) 1), (gCI L (vAt e 5) 2), (gPF L (vAt e 5) 3), (gX L (vAt e 5) 3))) fun x => .leaf (impl_RecoverSheets_l0_X v393 x))
  | _ => .fail
noncomputable def impl_RecoverSheets_tab : List (FuncId × DFn × Bool) := [(40, impl_loadSheet_F, true)]
theorem impl_RecoverSheets_hO : OrcOk Try.prog (tabD impl_RecoverSheets_tab) (tabM impl_RecoverSheets_tab) := tabD_cons impl_loadSheet_Fok (tabD_nil _)
theorem impl_RecoverSheets_l0_be (v393 : ByteArray) (s : Int × (List ByteArray) × (List Int) × (List Int) × (List (List Nat)) × (List Nat)) : bodyT TT (tabD impl_RecoverSheets_tab) (tabM impl_RecoverSheets_tab) (impl_RecoverSheets_LO v393) 0 impl_RecoverSheets_l0_kill impl_RecoverSheets_l0_nx (bodyOf Try.f26 0) 0 (impl_RecoverSheets_l0_E v393 s) = (impl_RecoverSheets_l0_T v393 s).bind fun y => .leaf (outS (impl_RecoverSheets_l0_E v393) (impl_RecoverSheets_l0_X v393) y) := by kernel_rfl
theorem impl_RecoverSheets_l0_ok (v393 : ByteArray) : LSound Try.prog 0 (impl_RecoverSheets_LO v393) 0 (bodyOf Try.f26 0) := by
  intro e L out h
  exact lo_ok (E := impl_RecoverSheets_l0_E v393) (gT := impl_RecoverSheets_l0_T v393) (X := impl_RecoverSheets_l0_X v393) (s0 := ((gI (vAt e 6)), (gCS L (vAt e 5) 0), (gCI L (vAt e 5) 1), (gCI L (vAt e 5) 2), (gPF L (vAt e 5) 3), (gX L (vAt e 5) 3))) tok impl_RecoverSheets_hO mixed (LoopsOk_eq (l := []) (by kernel_rfl) trivial) (impl_RecoverSheets_l0_be v393) rfl (by intro x; rfl) h
noncomputable def impl_RecoverSheets_T (v393 : ByteArray) : Tree (Int × (List ByteArray) × (List Int) × (List Int) × (List (List Nat)) × (List Nat)) :=
  (.need (some (impl_RecoverSheets_l0_E v393 ((0 : Int), ([] : List ByteArray), ([] : List Int), ([] : List Int), ([] : List (List Nat)), ([] : List Nat))) = some (impl_RecoverSheets_l0_E v393 ((0 : Int), ([] : List ByteArray), ([] : List Int), ([] : List Int), ([] : List (List Nat)), ([] : List Nat)))) <|
  (.call (impl_RecoverSheets_l0_g v393 ((0 : Int), ([] : List ByteArray), ([] : List Int), ([] : List Int), ([] : List (List Nat)), ([] : List Nat))) fun v422 =>
  .leaf (v422.1, v422.2.1, v422.2.2.1, v422.2.2.2.1, v422.2.2.2.2.1, v422.2.2.2.2.2)))

noncomputable def impl_RecoverSheets_g (v393 : ByteArray) : Option (Int × (List ByteArray) × (List Int) × (List Int) × (List (List Nat)) × (List Nat)) := (impl_RecoverSheets_T v393).run
def impl_RecoverSheets_enc (v393 : ByteArray) (y : Int × (List ByteArray) × (List Int) × (List Int) × (List (List Nat)) × (List Nat)) : Rs := (.tup [.nest 0 0 4 ((y.2.1).length), .int .i64 y.1, .lit true], [.nest [.pl (.str y.2.1), .pl (.i64 y.2.2.1), .pl (.i64 y.2.2.2.1), .sl (.f32 y.2.2.2.2.1) y.2.2.2.2.2] false 0])
theorem impl_RecoverSheets_den (v393 : ByteArray) : (den TT (tabD impl_RecoverSheets_tab) (tabM impl_RecoverSheets_tab) (impl_RecoverSheets_LO v393) (codeOf Try.f26) ([.str v393] ++ List.replicate (Try.f26.ntmps - ([.str v393] : List DV).length) .undef) []).bind (retD TT Try.f26.results.toList 0) = (impl_RecoverSheets_T v393).bind fun y => .leaf (impl_RecoverSheets_enc v393 y) := by kernel_rfl
theorem impl_RecoverSheets_fn (v393 : ByteArray) (F : Fr) (h0 : St F [] F.H0) (hA : DVs.Ok F [] [.str v393]) {y : Int × (List ByteArray) × (List Int) × (List Int) × (List (List Nat)) × (List Nat)} (hy : impl_RecoverSheets_g v393 = some y) : ∃ F' H', Fwd 0 F F' [] (impl_RecoverSheets_enc v393 y).2 ∧ FnOk Try.prog 26 (DVs.av F [.str v393]) F.H0 ((impl_RecoverSheets_enc v393 y).1.av F') H' ∧ St F' (impl_RecoverSheets_enc v393 y).2 H' ∧ (impl_RecoverSheets_enc v393 y).1.Ok F' (impl_RecoverSheets_enc v393 y).2 :=
  fn_fin tok impl_RecoverSheets_hO mixed Try.func26 Try.call26 (by kernel_rfl) (LoopsOk_eq (l := [(0, bodyOf Try.f26 0)]) (by kernel_rfl) ⟨impl_RecoverSheets_l0_ok v393, trivial⟩) (impl_RecoverSheets_den v393) hy h0 hA
noncomputable def impl_RecoverSheets_F : DFn := fun args L =>
  match args with
  | [.str v393] =>
    .call (impl_RecoverSheets_g v393) fun y => .leaf (.tup [.nest (L.length + 0) 0 4 ((y.2.1).length), .int .i64 y.1, .lit true], L ++ [.nest [.pl (.str y.2.1), .pl (.i64 y.2.2.1), .pl (.i64 y.2.2.2.1), .sl (.f32 y.2.2.2.2.1) y.2.2.2.2.2] false 0])
  | _ => .fail
theorem impl_RecoverSheets_Fok : COk Try.prog 26 impl_RecoverSheets_F true := by
  intro F L H args r L' hs ha hr
  unfold impl_RecoverSheets_F at hr
  split at hr
  · rename_i v393
    simp only [Tree.run] at hr
    obtain ⟨y, hy, hr⟩ := Option.bind_eq_some_iff.1 hr
    simp only [Tree.run, Option.some.injEq, Prod.mk.injEq] at hr
    obtain ⟨rfl, rfl⟩ := hr
    exact call_ok1 hs (fun k => (([] : List AV)[k]?).getD .top) [.str v393] [.str v393] (fun F' h0 hi hρ => ⟨by simp [DVs.av, DV.av, BR.av, hρ], impl_RecoverSheets_fn v393 F' (st_nil hi) ⟨trivial, trivial⟩ hy⟩) rfl rfl
  · cases hr
/-! laws.b10At -/
noncomputable def laws_b10At_LO (v426 : List Int) (v427 : Int) (v428 : Int) : LOr := fun id e L =>
  match id with
  | _ => .fail
noncomputable def laws_b10At_tab : List (FuncId × DFn × Bool) := []
theorem laws_b10At_hO : OrcOk Try.prog (tabD laws_b10At_tab) (tabM laws_b10At_tab) := tabD_nil _
noncomputable def laws_b10At_T (v426 : List Int) (v427 : Int) (v428 : Int) : Tree (Int) :=
  (.br (decide (v428 ≤ (1 : Int))) (
  .leaf (0 : Int)
  ) (
  (.br (decide (v427 < ((v426.length : Nat) : Int))) (
  (.grd (inb v427 v426.length) <|
  (.grd (!decide (v428 = 0)) <|
  .leaf (Int.tmod (IntKind.i64.wrap (nth v426 (Int.toNat v427))) v428)))
  ) (
  (.grd (!decide (v428 = 0)) <|
  .leaf (Int.tmod (IntKind.i64.wrap ((IntKind.i64.wrap (v427 * (37 : Int))) + (11 : Int))) v428))
  ))
  ))

noncomputable def laws_b10At_g (v426 : List Int) (v427 : Int) (v428 : Int) : Option (Int) := (laws_b10At_T v426 v427 v428).run
def laws_b10At_enc (v426 : List Int) (v427 : Int) (v428 : Int) (y : Int) : Rs := (.int .i64 y, [])
theorem laws_b10At_den (v426 : List Int) (v427 : Int) (v428 : Int) : (den TT (tabD laws_b10At_tab) (tabM laws_b10At_tab) (laws_b10At_LO v426 v427 v428) (codeOf Try.f32) ([.bslc (BR.root 0) (.u8 v426), .int .i64 v427, .int .i64 v428] ++ List.replicate (Try.f32.ntmps - ([.bslc (BR.root 0) (.u8 v426), .int .i64 v427, .int .i64 v428] : List DV).length) .undef) []).bind (retD TT Try.f32.results.toList 0) = (laws_b10At_T v426 v427 v428).bind fun y => .leaf (laws_b10At_enc v426 v427 v428 y) := by kernel_rfl
theorem laws_b10At_fn (v426 : List Int) (v427 : Int) (v428 : Int) (F : Fr) (h0 : St F [] F.H0) (hA : DVs.Ok F [] [.bslc (BR.root 0) (.u8 v426), .int .i64 v427, .int .i64 v428]) {y : Int} (hy : laws_b10At_g v426 v427 v428 = some y) : ∃ F' H', Fwd 0 F F' [] (laws_b10At_enc v426 v427 v428 y).2 ∧ FnOk Try.prog 32 (DVs.av F [.bslc (BR.root 0) (.u8 v426), .int .i64 v427, .int .i64 v428]) F.H0 ((laws_b10At_enc v426 v427 v428 y).1.av F') H' ∧ St F' (laws_b10At_enc v426 v427 v428 y).2 H' ∧ (laws_b10At_enc v426 v427 v428 y).1.Ok F' (laws_b10At_enc v426 v427 v428 y).2 :=
  fn_fin tok laws_b10At_hO mixed Try.func32 Try.call32 (by kernel_rfl) (LoopsOk_eq (l := []) (by kernel_rfl) trivial) (laws_b10At_den v426 v427 v428) hy h0 hA
noncomputable def laws_b10At_F : DFn := fun args L =>
  match args with
  | [a1, .int .i64 v427, .int .i64 v428] =>
    optT (rowU8 L a1) fun v426 =>
    .call (laws_b10At_g v426 v427 v428) fun y => .leaf (.int .i64 y, L)
  | _ => .fail
theorem laws_b10At_Fok : COk Try.prog 32 laws_b10At_F true := by
  intro F L H args r L' hs ha hr
  unfold laws_b10At_F at hr
  split at hr
  · rename_i a1 v427 v428
    obtain ⟨v426, hv426, hr⟩ := optT_run hr
    simp only [Tree.run] at hr
    obtain ⟨y, hy, hr⟩ := Option.bind_eq_some_iff.1 hr
    simp only [Tree.run, Option.some.injEq, Prod.mk.injEq] at hr
    obtain ⟨rfl, rfl⟩ := hr
    exact call_ok0 hs (fun k => (([a1.av F] : List AV)[k]?).getD .top) [a1, .int .i64 v427, .int .i64 v428] [.bslc (BR.root 0) (.u8 v426), .int .i64 v427, .int .i64 v428] (fun F' h0 hi hρ => ⟨by simp [DVs.av, DV.av, BR.av, hρ], laws_b10At_fn v426 v427 v428 F' (st_nil hi) ⟨bslc_ok hi (by rw [h0, hρ]; exact rowU8_ok hs (DVs.okAt ha 0 rfl) hv426), trivial, trivial, trivial⟩ hy⟩) rfl
  · cases hr
/-! laws.FnSheets -/
noncomputable def laws_FnSheets_l0_T (v324 : Int) (v326 : List ByteArray) (v327 : List Int) (v328 : List Int) (v329 : List (List Nat)) (v330 : List Nat) (s : Int × (List Int)) : Tree ((Int × (List Int)) ⊕ ((Unit) ⊕ ((List Int)))) :=
  (.br (decide (s.1 < v324)) (
  (.grd (inb s.1 ((v326).length)) <|
  (.call (impl_StoreSheet_g (nth v326 (Int.toNat s.1)) (nth v327 (Int.toNat s.1)) (nth v328 (Int.toNat s.1)) (nget v329 (nth v330 (Int.toNat s.1)))) fun v332 =>
  (.sum v332 (fun v333 =>
  (.call (impl_LoadSheet_g v333) fun v335 =>
  (.sum v335 (fun v336 =>
  .leaf (.inr (.inl ()))
  ) (fun v337 =>
  (.sum v337 (fun v338 =>
  .leaf (.inr (.inl ()))
  ) (fun v339 =>
  .leaf (.inr (.inl ()))
  ))
  )))
  ) (fun v334 =>
  (.call (impl_LoadSheet_g v334) fun v340 =>
  (.sum v340 (fun v341 =>
  .leaf (.inr (.inl ()))
  ) (fun v342 =>
  (.sum v342 (fun v343 =>
  (.grd (inb s.1 ((v326).length)) <|
  (.call (impl_ValidSheet_g (nth v326 (Int.toNat s.1)) (nth v327 (Int.toNat s.1)) (nth v328 (Int.toNat s.1)) (nget v329 (nth v330 (Int.toNat s.1)))) fun v345 =>
  (.br (!v345) (
  .leaf (.inr (.inl ()))
  ) (
  (.grd (sok s.1 (IntKind.i64.wrap (s.1 + (1 : Int))) ((v326).length)) <|
  (.call (impl_SameSheets_g ([v343.1] : List ByteArray) ([v343.2.1] : List Int) ([v343.2.2] : List Int) (([0] : List Nat).map (nget ([] : List (List Nat)))) (AM.sub v326 ((Int.toNat s.1 : Nat) : Int) (((Int.toNat s.1) + (Int.toNat (IntKind.i64.wrap (s.1 + (1 : Int))) - Int.toNat s.1) : Nat) : Int)) (AM.sub v327 ((Int.toNat s.1 : Nat) : Int) (((Int.toNat s.1) + (Int.toNat (IntKind.i64.wrap (s.1 + (1 : Int))) - Int.toNat s.1) : Nat) : Int)) (AM.sub v328 ((Int.toNat s.1 : Nat) : Int) (((Int.toNat s.1) + (Int.toNat (IntKind.i64.wrap (s.1 + (1 : Int))) - Int.toNat s.1) : Nat) : Int)) (((v330.drop (Int.toNat s.1)).take (Int.toNat (IntKind.i64.wrap (s.1 + (1 : Int))) - Int.toNat s.1)).map (nget v329))) fun v346 =>
  (.br (!v346) (
  .leaf (.inr (.inl ()))
  ) (
  (.grd (inb (IntKind.i64.wrap ((((s.2).length : Nat) : Int) - (1 : Int))) ((s.2).length)) <|
  (.grd (fits (s.2 ++ ([IntKind.i64.wrap ((nth s.2 (Int.toNat (IntKind.i64.wrap ((((s.2).length : Nat) : Int) - (1 : Int))))) + ((v334.size : Nat) : Int))] : List Int)).length) <|
  .leaf (.inl (IntKind.i64.wrap (s.1 + (1 : Int)), s.2 ++ ([IntKind.i64.wrap ((nth s.2 (Int.toNat (IntKind.i64.wrap ((((s.2).length : Nat) : Int) - (1 : Int))))) + ((v334.size : Nat) : Int))] : List Int)))))
  ))))
  ))))
  ) (fun v344 =>
  (.grd (inb s.1 ((v326).length)) <|
  (.call (impl_ValidSheet_g (nth v326 (Int.toNat s.1)) (nth v327 (Int.toNat s.1)) (nth v328 (Int.toNat s.1)) (nget v329 (nth v330 (Int.toNat s.1)))) fun v347 =>
  (.br (!v347) (
  .leaf (.inr (.inl ()))
  ) (
  (.grd (sok s.1 (IntKind.i64.wrap (s.1 + (1 : Int))) ((v326).length)) <|
  (.call (impl_SameSheets_g ([v344.1] : List ByteArray) ([v344.2.1] : List Int) ([v344.2.2.1] : List Int) (([1] : List Nat).map (nget ([v344.2.2.2] : List (List Nat)))) (AM.sub v326 ((Int.toNat s.1 : Nat) : Int) (((Int.toNat s.1) + (Int.toNat (IntKind.i64.wrap (s.1 + (1 : Int))) - Int.toNat s.1) : Nat) : Int)) (AM.sub v327 ((Int.toNat s.1 : Nat) : Int) (((Int.toNat s.1) + (Int.toNat (IntKind.i64.wrap (s.1 + (1 : Int))) - Int.toNat s.1) : Nat) : Int)) (AM.sub v328 ((Int.toNat s.1 : Nat) : Int) (((Int.toNat s.1) + (Int.toNat (IntKind.i64.wrap (s.1 + (1 : Int))) - Int.toNat s.1) : Nat) : Int)) (((v330.drop (Int.toNat s.1)).take (Int.toNat (IntKind.i64.wrap (s.1 + (1 : Int))) - Int.toNat s.1)).map (nget v329))) fun v348 =>
  (.br (!v348) (
  .leaf (.inr (.inl ()))
  ) (
  (.grd (inb (IntKind.i64.wrap ((((s.2).length : Nat) : Int) - (1 : Int))) ((s.2).length)) <|
  (.grd (fits (s.2 ++ ([IntKind.i64.wrap ((nth s.2 (Int.toNat (IntKind.i64.wrap ((((s.2).length : Nat) : Int) - (1 : Int))))) + ((v334.size : Nat) : Int))] : List Int)).length) <|
  .leaf (.inl (IntKind.i64.wrap (s.1 + (1 : Int)), s.2 ++ ([IntKind.i64.wrap ((nth s.2 (Int.toNat (IntKind.i64.wrap ((((s.2).length : Nat) : Int) - (1 : Int))))) + ((v334.size : Nat) : Int))] : List Int)))))
  ))))
  ))))
  ))
  )))
  ))))
  ) (
  .leaf (.inr (.inr s.2))
  ))

noncomputable def laws_FnSheets_l0_g (v324 : Int) (v326 : List ByteArray) (v327 : List Int) (v328 : List Int) (v329 : List (List Nat)) (v330 : List Nat) (s0 : Int × (List Int)) : Option ((Unit) ⊕ ((List Int))) := whileM (fun s => (laws_FnSheets_l0_T v324 v326 v327 v328 v329 v330 s).run) s0
def laws_FnSheets_l0_E (v1 : List Int) (v2 : List Int) (v324 : Int) (v326 : List ByteArray) (v327 : List Int) (v328 : List Int) (v329 : List (List Nat)) (v330 : List Nat) (s : Int × (List Int)) : Sd := ([tp,.bslc (BR.root 1) (.u8 v2),tp,tp,tp,.nest 0 0 4 ((v326).length),.own 1 0 ((s.2).length),tp,tp,tp,tp,tp,tp,tp,tp,tp,tp,tp,tp,tp,tp,tp,tp,tp,tp,tp,tp,tp,tp,tp,tp,tp,tp,tp,tp,.int .i64 v324,.int .i64 s.1,tp,tp,tp,tp,tp,tp,tp,tp,tp,tp,tp,tp,tp,tp,tp,tp,tp,tp,tp,tp,tp,tp,tp,tp,tp,tp,tp,tp,tp,tp,tp,tp,tp,tp,tp,tp,tp,tp,tp,tp,tp,tp,tp,tp,tp,tp,tp,tp,tp,tp,tp,tp,tp,tp,tp,tp,tp,tp,tp,tp,tp,tp,tp,tp,tp,tp,tp,tp,tp,tp,tp,tp,tp,tp,tp,tp,tp,tp,tp,tp,tp,tp,tp,tp,tp,tp,tp,tp,tp,tp,tp,tp,tp,tp,tp,tp,tp,tp,tp,tp,tp,tp,tp,tp,tp,tp,tp,tp,tp,tp,tp,tp,tp,tp,tp,tp,tp,tp,tp,tp,tp,tp,tp,tp,tp,tp,tp,tp,tp,tp,tp,tp,tp,tp,tp,tp,tp,tp,tp,tp,tp,tp,tp,tp,tp,tp,tp,tp,tp,tp,tp,tp,tp,tp,tp,tp,tp,tp,tp,tp,tp,tp,tp,tp,tp,tp,tp,tp,tp,tp,tp,tp,tp,tp,tp,tp,tp,tp,tp,tp,tp,tp,tp,tp,tp,tp,tp,tp,tp,tp,tp,tp,tp,tp,tp], [.nest [.pl (.str v326), .pl (.i64 v327), .pl (.i64 v328), .sl (.f32 v329) v330] false 0, .row (.i64 s.2) 0])
def laws_FnSheets_l0_X (v1 : List Int) (v2 : List Int) (v324 : Int) (v326 : List ByteArray) (v327 : List Int) (v328 : List Int) (v329 : List (List Nat)) (v330 : List Nat) (x : (Unit) ⊕ ((List Int))) : Out := (match x with | .inl x => (.ret, [tp,tp,tp,tp,.lit false,tp,tp,tp,tp,tp,tp,tp,tp,tp,tp,tp,tp,tp,tp,tp,tp,tp,tp,tp,tp,tp,tp,tp,tp,tp,tp,tp,tp,tp,tp,tp,tp,tp,tp,tp,tp,tp,tp,tp,tp,tp,tp,tp,tp,tp,tp,tp,tp,tp,tp,tp,tp,tp,tp,tp,tp,tp,tp,tp,tp,tp,tp,tp,tp,tp,tp,tp,tp,tp,tp,tp,tp,tp,tp,tp,tp,tp,tp,tp,tp,tp,tp,tp,tp,tp,tp,tp,tp,tp,tp,tp,tp,tp,tp,tp,tp,tp,tp,tp,tp,tp,tp,tp,tp,tp,tp,tp,tp,tp,tp,tp,tp,tp,tp,tp,tp,tp,tp,tp,tp,tp,tp,tp,tp,tp,tp,tp,tp,tp,tp,tp,tp,tp,tp,tp,tp,tp,tp,tp,tp,tp,tp,tp,tp,tp,tp,tp,tp,tp,tp,tp,tp,tp,tp,tp,tp,tp,tp,tp,tp,tp,tp,tp,tp,tp,tp,tp,tp,tp,tp,tp,tp,tp,tp,tp,tp,tp,tp,tp,tp,tp,tp,tp,tp,tp,tp,tp,tp,tp,tp,tp,tp,tp,tp,tp,tp,tp,tp,tp,tp,tp,tp,tp,tp,tp,tp,tp,tp,tp,tp,tp,tp,tp,tp,tp,tp,tp,tp,tp,tp,tp,tp,tp,tp,tp,tp,tp], []) | .inr x => (.normal, [tp,.bslc (BR.root 1) (.u8 v2),tp,tp,tp,.nest 0 0 4 ((v326).length),.own 1 0 ((x).length),tp,tp,tp,tp,tp,tp,tp,tp,tp,tp,tp,tp,tp,tp,tp,tp,tp,tp,tp,tp,tp,tp,tp,tp,tp,tp,tp,tp,tp,tp,tp,tp,tp,tp,tp,tp,tp,tp,tp,tp,tp,tp,tp,tp,tp,tp,tp,tp,tp,tp,tp,tp,tp,tp,tp,tp,tp,tp,tp,tp,tp,tp,tp,tp,tp,tp,tp,tp,tp,tp,tp,tp,tp,tp,tp,tp,tp,tp,tp,tp,tp,tp,tp,tp,tp,tp,tp,tp,tp,tp,tp,tp,tp,tp,tp,tp,tp,tp,tp,tp,tp,tp,tp,tp,tp,tp,tp,tp,tp,tp,tp,tp,tp,tp,tp,tp,tp,tp,tp,tp,tp,tp,tp,tp,tp,tp,tp,tp,tp,tp,tp,tp,tp,tp,tp,tp,tp,tp,tp,tp,tp,tp,tp,tp,tp,tp,tp,tp,tp,tp,tp,tp,tp,tp,tp,tp,tp,tp,tp,tp,tp,tp,tp,tp,tp,tp,tp,tp,tp,tp,tp,tp,tp,tp,tp,tp,tp,tp,tp,tp,tp,tp,tp,tp,tp,tp,tp,tp,tp,tp,tp,tp,tp,tp,tp,tp,tp,tp,tp,tp,tp,tp,tp,tp,tp,tp,tp,tp,tp,tp,tp,tp,tp,tp,tp,tp,tp,tp,tp,tp,tp,tp,tp,tp,tp], [.nest [.pl (.str v326), .pl (.i64 v327), .pl (.i64 v328), .sl (.f32 v329) v330] false 0, .row (.i64 x) 0]))
def laws_FnSheets_l0_kill : List Nat := KL true [1,1,3,2,28,2,195]
def laws_FnSheets_l0_nx : Exit → List Nat
  | .exit 0 => KL true [1,1,3,2,225]
  | .ret => KL true [4,1,227]
  | _ => []
noncomputable def laws_FnSheets_l2_T (v449 : ByteArray) (v450 : Int) (v452 : List ByteArray) (v453 : List Int) (v454 : List Int) (v455 : List (List Nat)) (v456 : List Nat) (v457 : List Int) (s : Int) : Tree ((Int) ⊕ (Int)) :=
  (.br (decide (s < (((v452).length : Nat) : Int))) (
  (.grd (inb (IntKind.i64.wrap (s + (1 : Int))) ((v457).length)) <|
  (.br (decide (nth v457 (Int.toNat (IntKind.i64.wrap (s + (1 : Int)))) ≤ v450)) (
  .leaf (.inl (IntKind.i64.wrap (s + (1 : Int))))
  ) (
  .leaf (.inr s)
  )))
  ) (
  .leaf (.inr s)
  ))

noncomputable def laws_FnSheets_l2_g (v449 : ByteArray) (v450 : Int) (v452 : List ByteArray) (v453 : List Int) (v454 : List Int) (v455 : List (List Nat)) (v456 : List Nat) (v457 : List Int) (s0 : Int) : Option (Int) := whileM (fun s => (laws_FnSheets_l2_T v449 v450 v452 v453 v454 v455 v456 v457 s).run) s0
def laws_FnSheets_l2_E (v1 : List Int) (v2 : List Int) (v449 : ByteArray) (v450 : Int) (v452 : List ByteArray) (v453 : List Int) (v454 : List Int) (v455 : List (List Nat)) (v456 : List Nat) (v457 : List Int) (s : Int) : Sd := ([tp,.bslc (BR.root 1) (.u8 v2),tp,tp,tp,.nest 0 0 4 ((v452).length),.own 1 0 ((v457).length),tp,tp,tp,tp,tp,.str v449,tp,tp,tp,tp,.int .i64 v450,.int .i64 s,tp,tp,tp,tp,tp,tp,tp,tp,tp,tp,tp,tp,tp,tp,tp,tp,tp,tp,tp,tp,tp,tp,tp,tp,tp,tp,tp,tp,tp,tp,tp,tp,tp,tp,tp,tp,tp,tp,tp,tp,tp,tp,tp,tp,tp,tp,tp,tp,tp,tp,tp,tp,tp,tp,tp,tp,tp,tp,tp,tp,tp,tp,tp,tp,tp,tp,tp,tp,tp,tp,tp,tp,tp,tp,tp,tp,tp,tp,tp,tp,tp,tp,tp,tp,tp,tp,tp,tp,tp,tp,tp,tp,tp,tp,tp,tp,tp,tp,tp,tp,tp,tp,tp,tp,tp,tp,tp,tp,tp,tp,tp,tp,tp,tp,tp,tp,tp,tp,tp,tp,tp,tp,tp,tp,tp,tp,tp,tp,tp,tp,tp,tp,tp,tp,tp,tp,tp,tp,tp,tp,tp,tp,tp,tp,tp,tp,tp,tp,tp,tp,tp,tp,tp,tp,tp,tp,tp,tp,tp,tp,tp,tp,tp,tp,tp,tp,tp,tp,tp,tp,tp,tp,tp,tp,tp,tp,tp,tp,tp,tp,tp,tp,tp,tp,tp,tp,tp,tp,tp,tp,tp,tp,tp,tp,tp,tp,tp,tp,tp,tp,tp,tp,tp,tp,tp,tp,tp,tp,tp,tp,tp,tp,tp], [.nest [.pl (.str v452), .pl (.i64 v453), .pl (.i64 v454), .sl (.f32 v455) v456] false 0, .row (.i64 v457) 0])
def laws_FnSheets_l2_X (v1 : List Int) (v2 : List Int) (v449 : ByteArray) (v450 : Int) (v452 : List ByteArray) (v453 : List Int) (v454 : List Int) (v455 : List (List Nat)) (v456 : List Nat) (v457 : List Int) (x : Int) : Out := (.normal, [tp,.bslc (BR.root 1) (.u8 v2),tp,tp,tp,tp,.own 0 0 ((v457).length),tp,tp,tp,tp,tp,.str v449,tp,tp,tp,tp,.int .i64 v450,.int .i64 x,tp,tp,tp,tp,tp,tp,tp,tp,tp,tp,tp,tp,tp,tp,tp,tp,tp,tp,tp,tp,tp,tp,tp,tp,tp,tp,tp,tp,tp,tp,tp,tp,tp,tp,tp,tp,tp,tp,tp,tp,tp,tp,tp,tp,tp,tp,tp,tp,tp,tp,tp,tp,tp,tp,tp,tp,tp,tp,tp,tp,tp,tp,tp,tp,tp,tp,tp,tp,tp,tp,tp,tp,tp,tp,tp,tp,tp,tp,tp,tp,tp,tp,tp,tp,tp,tp,tp,tp,tp,tp,tp,tp,tp,tp,tp,tp,tp,tp,tp,tp,tp,tp,tp,tp,tp,tp,tp,tp,tp,tp,tp,tp,tp,tp,tp,tp,tp,tp,tp,tp,tp,tp,tp,tp,tp,tp,tp,tp,tp,tp,tp,tp,tp,tp,tp,tp,tp,tp,tp,tp,tp,tp,tp,tp,tp,tp,tp,tp,tp,tp,tp,tp,tp,tp,tp,tp,tp,tp,tp,tp,tp,tp,tp,tp,tp,tp,tp,tp,tp,tp,tp,tp,tp,tp,tp,tp,tp,tp,tp,tp,tp,tp,tp,tp,tp,tp,tp,tp,tp,tp,tp,tp,tp,tp,tp,tp,tp,tp,tp,tp,tp,tp,tp,tp,tp,tp,tp,tp,tp,tp,tp,tp,tp], [.row (.i64 v457) 0])
def laws_FnSheets_l2_kill : List Nat := KL true [1,1,3,2,5,1,4,2,213]
def laws_FnSheets_l2_nx : Exit → List Nat
  | .exit 2 => KL true [1,1,4,1,5,1,4,2,213]
  | .ret => KL true [4,1,227]
  | _ => []
noncomputable def laws_FnSheets_LO (v1 : List Int) (v2 : List Int) : LOr := fun id e L =>
  match id with
  | 0 => .need (normA 0 laws_FnSheets_l0_kill e L = some (laws_FnSheets_l0_E v1 v2 (gI (vAt e 35)) (gCS L (vAt e 5) 0) (gCI L (vAt e 5) 1) (gCI L (vAt e 5) 2) (gPF L (vAt e 5) 3) (gX L (vAt e 5) 3) ((gI (vAt e 36)), (gRI L (vAt e 6))))) (.call (laws_FnSheets_l0_g (gI (vAt e 35)) (gCS L (vAt e 5) 0) (gCI L (vAt e 5) 1) (gCI L (vAt e 5) 2) (gPF L (vAt e 5) 3) (gX L (vAt e 5) 3) ((gI (vAt e 36)), (gRI L (vAt e 6)))) fun x => .sum x (fun b0 => .leaf (laws_FnSheets_l0_X v1 v2 (gI (vAt e 35)) (gCS L (vAt e 5) 0) (gCI L (vAt e 5) 1) (gCI L (vAt e 5) 2) (gPF L (vAt e 5) 3) (gX L (vAt e 5) 3) (.inl b0))) (fun c0 => .leaf (laws_FnSheets_l0_X v1 v2 (gI (vAt e 35)) (gCS L (vAt e 5) 0) (gCI L (vAt e 5) 1) (gCI L (vAt e 5) 2) (gPF L (vAt e 5) 3) (gX L (vAt e 5) 3) (.inr c0))))
  | 2 => .need (normA 0 laws_FnSheets_l2_kill e L = some (laws_FnSheets_l2_E v1 v2 (gS (vAt e 12)) (gI (vAt e 17)) (gCS L (vAt e 5) 0) (gCI L (vAt e 5) 1) (gCI L (vAt e 5) 2) (gPF L (vAt e 5) 3) (gX L (vAt e 5) 3) (gRI L (vAt e 6)) (gI (vAt e 18)))) (.call (laws_FnSheets_l2_g (gS (vAt e 12)) (gI (vAt e 17)) (gCS L (vAt e 5) 0) (gCI L (vAt e 5) 1) (gCI L (vAt e 5) 2) (gPF L (vAt e 5) 3) (gX L (vAt e 5) 3) (gRI L (vAt e 6)) (gI (vAt e 18))) fun x => .leaf (laws_FnSheets_l2_X v1 v2 (gS (vAt e 12)) (gI (vAt e 17)) (gCS L (vAt e 5) 0) (gCI L (vAt e 5) 1) (gCI L (vAt e 5) 2) (gPF L (vAt e 5) 3) (gX L (vAt e 5) 3) (gRI L (vAt e 6)) x))
  | _ => .fail
noncomputable def laws_FnSheets_tab : List (FuncId × DFn × Bool) := [(29, laws_b10Long_F, true), (30, spec_B10Sheets_F, true), (12, impl_StoreSheet_F, true), (15, impl_LoadSheet_F, true), (31, impl_ValidSheet_F, true), (21, impl_SameSheets_F, true), (24, impl_StoreSheets_F, true), (26, impl_RecoverSheets_F, true), (32, laws_b10At_F, true)]
theorem laws_FnSheets_hO : OrcOk Try.prog (tabD laws_FnSheets_tab) (tabM laws_FnSheets_tab) := tabD_cons laws_b10Long_Fok (tabD_cons spec_B10Sheets_Fok (tabD_cons impl_StoreSheet_Fok (tabD_cons impl_LoadSheet_Fok (tabD_cons impl_ValidSheet_Fok (tabD_cons impl_SameSheets_Fok (tabD_cons impl_StoreSheets_Fok (tabD_cons impl_RecoverSheets_Fok (tabD_cons laws_b10At_Fok (tabD_nil _)))))))))
theorem laws_FnSheets_l0_be (v1 : List Int) (v2 : List Int) (v324 : Int) (v326 : List ByteArray) (v327 : List Int) (v328 : List Int) (v329 : List (List Nat)) (v330 : List Nat) (s : Int × (List Int)) : bodyT TT (tabD laws_FnSheets_tab) (tabM laws_FnSheets_tab) (laws_FnSheets_LO v1 v2) 0 laws_FnSheets_l0_kill laws_FnSheets_l0_nx (bodyOf Try.f8 0) 0 (laws_FnSheets_l0_E v1 v2 v324 v326 v327 v328 v329 v330 s) = (laws_FnSheets_l0_T v324 v326 v327 v328 v329 v330 s).bind fun y => .leaf (outS (laws_FnSheets_l0_E v1 v2 v324 v326 v327 v328 v329 v330) (laws_FnSheets_l0_X v1 v2 v324 v326 v327 v328 v329 v330) y) := by kernel_rfl
theorem laws_FnSheets_l0_ok (v1 : List Int) (v2 : List Int) : LSound Try.prog 0 (laws_FnSheets_LO v1 v2) 0 (bodyOf Try.f8 0) := by
  intro e L out h
  exact lo_ok (E := laws_FnSheets_l0_E v1 v2 (gI (vAt e 35)) (gCS L (vAt e 5) 0) (gCI L (vAt e 5) 1) (gCI L (vAt e 5) 2) (gPF L (vAt e 5) 3) (gX L (vAt e 5) 3)) (gT := laws_FnSheets_l0_T (gI (vAt e 35)) (gCS L (vAt e 5) 0) (gCI L (vAt e 5) 1) (gCI L (vAt e 5) 2) (gPF L (vAt e 5) 3) (gX L (vAt e 5) 3)) (X := laws_FnSheets_l0_X v1 v2 (gI (vAt e 35)) (gCS L (vAt e 5) 0) (gCI L (vAt e 5) 1) (gCI L (vAt e 5) 2) (gPF L (vAt e 5) 3) (gX L (vAt e 5) 3)) (s0 := ((gI (vAt e 36)), (gRI L (vAt e 6)))) tok laws_FnSheets_hO mixed (LoopsOk_eq (l := []) (by kernel_rfl) trivial) (laws_FnSheets_l0_be v1 v2 (gI (vAt e 35)) (gCS L (vAt e 5) 0) (gCI L (vAt e 5) 1) (gCI L (vAt e 5) 2) (gPF L (vAt e 5) 3) (gX L (vAt e 5) 3)) rfl (by intro x; (cases x with | inl b => rfl | inr x => exact rfl)) h
theorem laws_FnSheets_l2_be (v1 : List Int) (v2 : List Int) (v449 : ByteArray) (v450 : Int) (v452 : List ByteArray) (v453 : List Int) (v454 : List Int) (v455 : List (List Nat)) (v456 : List Nat) (v457 : List Int) (s : Int) : bodyT TT (tabD laws_FnSheets_tab) (tabM laws_FnSheets_tab) (laws_FnSheets_LO v1 v2) 0 laws_FnSheets_l2_kill laws_FnSheets_l2_nx (bodyOf Try.f8 2) 2 (laws_FnSheets_l2_E v1 v2 v449 v450 v452 v453 v454 v455 v456 v457 s) = (laws_FnSheets_l2_T v449 v450 v452 v453 v454 v455 v456 v457 s).bind fun y => .leaf (outS (laws_FnSheets_l2_E v1 v2 v449 v450 v452 v453 v454 v455 v456 v457) (laws_FnSheets_l2_X v1 v2 v449 v450 v452 v453 v454 v455 v456 v457) y) := by kernel_rfl
theorem laws_FnSheets_l2_ok (v1 : List Int) (v2 : List Int) : LSound Try.prog 0 (laws_FnSheets_LO v1 v2) 2 (bodyOf Try.f8 2) := by
  intro e L out h
  exact lo_ok (E := laws_FnSheets_l2_E v1 v2 (gS (vAt e 12)) (gI (vAt e 17)) (gCS L (vAt e 5) 0) (gCI L (vAt e 5) 1) (gCI L (vAt e 5) 2) (gPF L (vAt e 5) 3) (gX L (vAt e 5) 3) (gRI L (vAt e 6))) (gT := laws_FnSheets_l2_T (gS (vAt e 12)) (gI (vAt e 17)) (gCS L (vAt e 5) 0) (gCI L (vAt e 5) 1) (gCI L (vAt e 5) 2) (gPF L (vAt e 5) 3) (gX L (vAt e 5) 3) (gRI L (vAt e 6))) (X := laws_FnSheets_l2_X v1 v2 (gS (vAt e 12)) (gI (vAt e 17)) (gCS L (vAt e 5) 0) (gCI L (vAt e 5) 1) (gCI L (vAt e 5) 2) (gPF L (vAt e 5) 3) (gX L (vAt e 5) 3) (gRI L (vAt e 6))) (s0 := (gI (vAt e 18))) tok laws_FnSheets_hO mixed (LoopsOk_eq (l := []) (by kernel_rfl) trivial) (laws_FnSheets_l2_be v1 v2 (gS (vAt e 12)) (gI (vAt e 17)) (gCS L (vAt e 5) 0) (gCI L (vAt e 5) 1) (gCI L (vAt e 5) 2) (gPF L (vAt e 5) 3) (gX L (vAt e 5) 3) (gRI L (vAt e 6))) rfl (by intro x; rfl) h
noncomputable def laws_FnSheets_T (v1 : List Int) (v2 : List Int) : Tree (Bool) :=
  (.br (laws_b10Long_v v1 v2) (
  .leaf true
  ) (
  (.call (spec_B10Sheets_g v1) fun v94 =>
  (.need (some (laws_FnSheets_l0_E v1 v2 (((v94.1).length : Nat) : Int) v94.1 v94.2.1 v94.2.2.1 v94.2.2.2.1 v94.2.2.2.2 ((0 : Int), ([(0 : Int)] : List Int))) = some (laws_FnSheets_l0_E v1 v2 (((v94.1).length : Nat) : Int) v94.1 v94.2.1 v94.2.2.1 v94.2.2.2.1 v94.2.2.2.2 ((0 : Int), ([(0 : Int)] : List Int)))) <|
  (.call (laws_FnSheets_l0_g (((v94.1).length : Nat) : Int) v94.1 v94.2.1 v94.2.2.1 v94.2.2.2.1 v94.2.2.2.2 ((0 : Int), ([(0 : Int)] : List Int))) fun v349 =>
  (.sum v349 (fun v350 =>
  .leaf false
  ) (fun v351 =>
  (.call (impl_StoreSheets_g v94.1 v94.2.1 v94.2.2.1 (v94.2.2.2.2.map (nget v94.2.2.2.1))) fun v390 =>
  (.sum v390 (fun v391 =>
  (.call (impl_RecoverSheets_g v391) fun v423 =>
  .leaf false)
  ) (fun v392 =>
  (.call (impl_RecoverSheets_g v392) fun v424 =>
  (.grd (inb (((v94.1).length : Nat) : Int) ((v351).length)) <|
  (.br (!decide (((v392.size : Nat) : Int) = nth v351 (Int.toNat (((v94.1).length : Nat) : Int)))) (
  .leaf false
  ) (
  (.br (!decide (v424.1 = ((v392.size : Nat) : Int))) (
  .leaf false
  ) (
  (.call (impl_SameSheets_g v424.2.1 v424.2.2.1 v424.2.2.2.1 (v424.2.2.2.2.2.map (nget v424.2.2.2.2.1)) v94.1 v94.2.1 v94.2.2.1 (v94.2.2.2.2.map (nget v94.2.2.2.1))) fun v425 =>
  (.br (!v425) (
  .leaf false
  ) (
  (.br (decide (((v392.size : Nat) : Int) = (0 : Int))) (
  .leaf true
  ) (
  (.call (laws_b10At_g v2 (0 : Int) (256 : Int)) fun v429 =>
  (.call (laws_b10At_g v2 (1 : Int) (256 : Int)) fun v430 =>
  (.grd (!decide (((v392.size : Nat) : Int) = 0)) <|
  (.need (some (laws_FnSheets_l2_E v1 v2 v392 (Int.tmod (IntKind.i64.wrap ((IntKind.i64.wrap ((256 : Int) * v429)) + v430)) ((v392.size : Nat) : Int)) v94.1 v94.2.1 v94.2.2.1 v94.2.2.2.1 v94.2.2.2.2 v351 (0 : Int)) = some (laws_FnSheets_l2_E v1 v2 v392 (Int.tmod (IntKind.i64.wrap ((IntKind.i64.wrap ((256 : Int) * v429)) + v430)) ((v392.size : Nat) : Int)) v94.1 v94.2.1 v94.2.2.1 v94.2.2.2.1 v94.2.2.2.2 v351 (0 : Int))) <|
  (.call (laws_FnSheets_l2_g v392 (Int.tmod (IntKind.i64.wrap ((IntKind.i64.wrap ((256 : Int) * v429)) + v430)) ((v392.size : Nat) : Int)) v94.1 v94.2.1 v94.2.2.1 v94.2.2.2.1 v94.2.2.2.2 v351 (0 : Int)) fun v458 =>
  (.grd (sok (0 : Int) (Int.tmod (IntKind.i64.wrap ((IntKind.i64.wrap ((256 : Int) * v429)) + v430)) ((v392.size : Nat) : Int)) v392.size) <|
  (.call (impl_RecoverSheets_g (ByteArray.extract v392 (Int.toNat (0 : Int)) (Int.toNat (Int.tmod (IntKind.i64.wrap ((IntKind.i64.wrap ((256 : Int) * v429)) + v430)) ((v392.size : Nat) : Int))))) fun v459 =>
  (.grd (inb v458 ((v351).length)) <|
  (.br (!decide (v459.1 = nth v351 (Int.toNat v458))) (
  .leaf false
  ) (
  (.br (!decide ((((v459.2.1).length : Nat) : Int) = v458)) (
  .leaf false
  ) (
  (.grd (fits v392.size) <|
  (.grd (inb (Int.tmod (IntKind.i64.wrap ((IntKind.i64.wrap ((256 : Int) * v429)) + v430)) ((v392.size : Nat) : Int)) v392.size) <|
  (.call (laws_b10At_g v2 (2 : Int) (255 : Int)) fun v460 =>
  (.grd (inb (Int.tmod (IntKind.i64.wrap ((IntKind.i64.wrap ((256 : Int) * v429)) + v430)) ((v392.size : Nat) : Int)) v392.size) <|
  (.call (impl_RecoverSheets_g (strOfNums (List.set (numsS v392) (Int.toNat (Int.tmod (IntKind.i64.wrap ((IntKind.i64.wrap ((256 : Int) * v429)) + v430)) ((v392.size : Nat) : Int))) (IntKind.u8.wrap ((nth (numsS v392) (Int.toNat (Int.tmod (IntKind.i64.wrap ((IntKind.i64.wrap ((256 : Int) * v429)) + v430)) ((v392.size : Nat) : Int)))) + (IntKind.u8.wrap (IntKind.i64.wrap ((1 : Int) + v460)))))))) fun v461 =>
  (.call (impl_StoreSheets_g v461.2.1 v461.2.2.1 v461.2.2.2.1 (v461.2.2.2.2.2.map (nget v461.2.2.2.2.1))) fun v462 =>
  (.sum v462 (fun v463 =>
  .leaf false
  ) (fun v464 =>
  (.br (decide (v458 ≤ (((v461.2.1).length : Nat) : Int))) (
  (.br (decide ((0 : Int) ≤ v461.1)) (
  (.br (decide (v461.1 ≤ ((v392.size : Nat) : Int))) (
  (.grd (sok (0 : Int) v461.1 v392.size) <|
  .leaf (v464.toList == (strOfNums (AM.sub (List.set (numsS v392) (Int.toNat (Int.tmod (IntKind.i64.wrap ((IntKind.i64.wrap ((256 : Int) * v429)) + v430)) ((v392.size : Nat) : Int))) (IntKind.u8.wrap ((nth (numsS v392) (Int.toNat (Int.tmod (IntKind.i64.wrap ((IntKind.i64.wrap ((256 : Int) * v429)) + v430)) ((v392.size : Nat) : Int)))) + (IntKind.u8.wrap (IntKind.i64.wrap ((1 : Int) + v460)))))) ((Int.toNat (0 : Int) : Nat) : Int) (((Int.toNat (0 : Int)) + (Int.toNat v461.1 - Int.toNat (0 : Int)) : Nat) : Int))).toList))
  ) (
  .leaf false
  ))
  ) (
  .leaf false
  ))
  ) (
  .leaf false
  ))
  ))))))))
  ))
  ))))))))))
  ))
  )))
  ))
  ))))
  )))
  )))))
  ))

noncomputable def laws_FnSheets_g (v1 : List Int) (v2 : List Int) : Option (Bool) := (laws_FnSheets_T v1 v2).run
def laws_FnSheets_enc (v1 : List Int) (v2 : List Int) (y : Bool) : Rs := (.bool y, [])
theorem laws_FnSheets_den (v1 : List Int) (v2 : List Int) : (den TT (tabD laws_FnSheets_tab) (tabM laws_FnSheets_tab) (laws_FnSheets_LO v1 v2) (codeOf Try.f8) ([.bslc (BR.root 0) (.u8 v1), .bslc (BR.root 1) (.u8 v2)] ++ List.replicate (Try.f8.ntmps - ([.bslc (BR.root 0) (.u8 v1), .bslc (BR.root 1) (.u8 v2)] : List DV).length) .undef) []).bind (retD TT Try.f8.results.toList 0) = (laws_FnSheets_T v1 v2).bind fun y => .leaf (laws_FnSheets_enc v1 v2 y) := by kernel_rfl
theorem laws_FnSheets_fn (v1 : List Int) (v2 : List Int) (F : Fr) (h0 : St F [] F.H0) (hA : DVs.Ok F [] [.bslc (BR.root 0) (.u8 v1), .bslc (BR.root 1) (.u8 v2)]) {y : Bool} (hy : laws_FnSheets_g v1 v2 = some y) : ∃ F' H', Fwd 0 F F' [] (laws_FnSheets_enc v1 v2 y).2 ∧ FnOk Try.prog 8 (DVs.av F [.bslc (BR.root 0) (.u8 v1), .bslc (BR.root 1) (.u8 v2)]) F.H0 ((laws_FnSheets_enc v1 v2 y).1.av F') H' ∧ St F' (laws_FnSheets_enc v1 v2 y).2 H' ∧ (laws_FnSheets_enc v1 v2 y).1.Ok F' (laws_FnSheets_enc v1 v2 y).2 :=
  fn_fin tok laws_FnSheets_hO mixed Try.func8 Try.call8 (by kernel_rfl) (LoopsOk_eq (l := [(0, bodyOf Try.f8 0), (2, bodyOf Try.f8 2)]) (by kernel_rfl) ⟨laws_FnSheets_l0_ok v1 v2, laws_FnSheets_l2_ok v1 v2, trivial⟩) (laws_FnSheets_den v1 v2) hy h0 hA
noncomputable def laws_FnSheets_F : DFn := fun args L =>
  match args with
  | [a1, a2] =>
    optT (rowU8 L a1) fun v1 =>
    optT (rowU8 L a2) fun v2 =>
    .call (laws_FnSheets_g v1 v2) fun y => .leaf (.bool y, L)
  | _ => .fail
theorem laws_FnSheets_Fok : COk Try.prog 8 laws_FnSheets_F true := by
  intro F L H args r L' hs ha hr
  unfold laws_FnSheets_F at hr
  split at hr
  · rename_i a1 a2
    obtain ⟨v1, hv1, hr⟩ := optT_run hr
    obtain ⟨v2, hv2, hr⟩ := optT_run hr
    simp only [Tree.run] at hr
    obtain ⟨y, hy, hr⟩ := Option.bind_eq_some_iff.1 hr
    simp only [Tree.run, Option.some.injEq, Prod.mk.injEq] at hr
    obtain ⟨rfl, rfl⟩ := hr
    exact call_ok0 hs (fun k => (([a1.av F, a2.av F] : List AV)[k]?).getD .top) [a1, a2] [.bslc (BR.root 0) (.u8 v1), .bslc (BR.root 1) (.u8 v2)] (fun F' h0 hi hρ => ⟨by simp [DVs.av, DV.av, BR.av, hρ], laws_FnSheets_fn v1 v2 F' (st_nil hi) ⟨bslc_ok hi (by rw [h0, hρ]; exact rowU8_ok hs (DVs.okAt ha 0 rfl) hv1), bslc_ok hi (by rw [h0, hρ]; exact rowU8_ok hs (DVs.okAt ha 1 rfl) hv2), trivial⟩ hy⟩) rfl
  · cases hr
/-! laws.b10Long -/
noncomputable def laws_b10Long_len_LO (v467 : Nat) (v468 : Nat) : LOr := fun id e L =>
  match id with
  | _ => .fail
noncomputable def laws_b10Long_len_tab : List (FuncId × DFn × Bool) := []
theorem laws_b10Long_len_hO : OrcOk Try.prog (tabD laws_b10Long_len_tab) (tabM laws_b10Long_len_tab) := tabD_nil _
noncomputable def laws_b10Long_len_T (v467 : Nat) (v468 : Nat) : Tree (Bool) :=
  (.br (decide ((1048576 : Int) < ((v467 : Nat) : Int))) (
  .leaf true
  ) (
  .leaf (decide ((1048576 : Int) < ((v468 : Nat) : Int)))
  ))

noncomputable def laws_b10Long_len_g (v467 : Nat) (v468 : Nat) : Option (Bool) := (laws_b10Long_len_T v467 v468).run
def laws_b10Long_len_enc (v467 : Nat) (v468 : Nat) (y : Bool) : Rs := (.bool y, [])
theorem laws_b10Long_len_den (v467 : Nat) (v468 : Nat) : (den TT (tabD laws_b10Long_len_tab) (tabM laws_b10Long_len_tab) (laws_b10Long_len_LO v467 v468) (codeOf Try.f29) ([.hslc (BR.root 0) v467, .hslc (BR.root 1) v468] ++ List.replicate (Try.f29.ntmps - ([.hslc (BR.root 0) v467, .hslc (BR.root 1) v468] : List DV).length) .undef) []).bind (retD TT Try.f29.results.toList 0) = (laws_b10Long_len_T v467 v468).bind fun y => .leaf (laws_b10Long_len_enc v467 v468 y) := by kernel_rfl
theorem laws_b10Long_len_fn (v467 : Nat) (v468 : Nat) (F : Fr) (h0 : St F [] F.H0) (hA : DVs.Ok F [] [.hslc (BR.root 0) v467, .hslc (BR.root 1) v468]) {y : Bool} (hy : laws_b10Long_len_g v467 v468 = some y) : ∃ F' H', Fwd 0 F F' [] (laws_b10Long_len_enc v467 v468 y).2 ∧ FnOk Try.prog 29 (DVs.av F [.hslc (BR.root 0) v467, .hslc (BR.root 1) v468]) F.H0 ((laws_b10Long_len_enc v467 v468 y).1.av F') H' ∧ St F' (laws_b10Long_len_enc v467 v468 y).2 H' ∧ (laws_b10Long_len_enc v467 v468 y).1.Ok F' (laws_b10Long_len_enc v467 v468 y).2 :=
  fn_fin tok laws_b10Long_len_hO mixed Try.func29 Try.call29 (by kernel_rfl) (LoopsOk_eq (l := []) (by kernel_rfl) trivial) (laws_b10Long_len_den v467 v468) hy h0 hA
def laws_b10Long_len_v (v467 : Nat) (v468 : Nat) : Bool :=
  if (decide ((1048576 : Int) < ((v467 : Nat) : Int))) = true then (
  true
  ) else (
  decide ((1048576 : Int) < ((v468 : Nat) : Int))
  )
theorem laws_b10Long_len_tot (v467 : Nat) (v468 : Nat) : laws_b10Long_len_g v467 v468 = some (laws_b10Long_len_v v467 v468) := by
  unfold laws_b10Long_len_g laws_b10Long_len_T laws_b10Long_len_v
  simp only [Tree.run]
  repeat' (first | rfl | split)
noncomputable def laws_b10Long_len_F : DFn := fun args L =>
  match args with
  | [a1, a2] =>
    optT (lenV L a1) fun v467 =>
    optT (lenV L a2) fun v468 =>
    .leaf (.bool (laws_b10Long_len_v v467 v468), L)
  | _ => .fail
theorem laws_b10Long_len_Fok : COk Try.prog 29 laws_b10Long_len_F true := by
  intro F L H args r L' hs ha hr
  unfold laws_b10Long_len_F at hr
  split at hr
  · rename_i a1 a2
    obtain ⟨v467, hv467, hr⟩ := optT_run hr
    obtain ⟨v468, hv468, hr⟩ := optT_run hr
    have hy := laws_b10Long_len_tot v467 v468
    generalize laws_b10Long_len_v v467 v468 = y at hy hr
    simp only [Tree.run, Option.some.injEq, Prod.mk.injEq] at hr
    obtain ⟨rfl, rfl⟩ := hr
    exact call_ok0 hs (fun k => (([a1.av F, a2.av F] : List AV)[k]?).getD .top) [a1, a2] [.hslc (BR.root 0) v467, .hslc (BR.root 1) v468] (fun F' h0 hi hρ => ⟨by simp [DVs.av, DV.av, BR.av, hρ], laws_b10Long_len_fn v467 v468 F' (st_nil hi) ⟨hslc_ok hi (by rw [h0, hρ]; exact lenV_ok hs (DVs.okAt ha 0 rfl) hv467), hslc_ok hi (by rw [h0, hρ]; exact lenV_ok hs (DVs.okAt ha 1 rfl) hv468), trivial⟩ hy⟩) rfl
  · cases hr
/-! laws.FnSheets -/
noncomputable def laws_FnSheets_len_LO (v465 : Nat) (v466 : Nat) : LOr := fun id e L =>
  match id with
  | _ => .fail
noncomputable def laws_FnSheets_len_tab : List (FuncId × DFn × Bool) := [(29, laws_b10Long_len_F, true)]
theorem laws_FnSheets_len_hO : OrcOk Try.prog (tabD laws_FnSheets_len_tab) (tabM laws_FnSheets_len_tab) := tabD_cons laws_b10Long_len_Fok (tabD_nil _)
noncomputable def laws_FnSheets_len_T (v465 : Nat) (v466 : Nat) : Tree (Bool) :=
  (.br (laws_b10Long_len_v v465 v466) (
  .leaf true
  ) (
  .fail
  ))

noncomputable def laws_FnSheets_len_g (v465 : Nat) (v466 : Nat) : Option (Bool) := (laws_FnSheets_len_T v465 v466).run
def laws_FnSheets_len_enc (v465 : Nat) (v466 : Nat) (y : Bool) : Rs := (.bool y, [])
theorem laws_FnSheets_len_den (v465 : Nat) (v466 : Nat) : (den TT (tabD laws_FnSheets_len_tab) (tabM laws_FnSheets_len_tab) (laws_FnSheets_len_LO v465 v466) (codeOf Try.f8) ([.hslc (BR.root 0) v465, .hslc (BR.root 1) v466] ++ List.replicate (Try.f8.ntmps - ([.hslc (BR.root 0) v465, .hslc (BR.root 1) v466] : List DV).length) .undef) []).bind (retD TT Try.f8.results.toList 0) = (laws_FnSheets_len_T v465 v466).bind fun y => .leaf (laws_FnSheets_len_enc v465 v466 y) := by kernel_rfl
theorem laws_FnSheets_len_u0_ok (v465 : Nat) (v466 : Nat) : LSound Try.prog 0 (laws_FnSheets_len_LO v465 v466) 0 (bodyOf Try.f8 0) := fun e L out h => absurd (show (none : Option Out) = some out from h) (by simp)
theorem laws_FnSheets_len_u2_ok (v465 : Nat) (v466 : Nat) : LSound Try.prog 0 (laws_FnSheets_len_LO v465 v466) 2 (bodyOf Try.f8 2) := fun e L out h => absurd (show (none : Option Out) = some out from h) (by simp)
theorem laws_FnSheets_len_fn (v465 : Nat) (v466 : Nat) (F : Fr) (h0 : St F [] F.H0) (hA : DVs.Ok F [] [.hslc (BR.root 0) v465, .hslc (BR.root 1) v466]) {y : Bool} (hy : laws_FnSheets_len_g v465 v466 = some y) : ∃ F' H', Fwd 0 F F' [] (laws_FnSheets_len_enc v465 v466 y).2 ∧ FnOk Try.prog 8 (DVs.av F [.hslc (BR.root 0) v465, .hslc (BR.root 1) v466]) F.H0 ((laws_FnSheets_len_enc v465 v466 y).1.av F') H' ∧ St F' (laws_FnSheets_len_enc v465 v466 y).2 H' ∧ (laws_FnSheets_len_enc v465 v466 y).1.Ok F' (laws_FnSheets_len_enc v465 v466 y).2 :=
  fn_fin tok laws_FnSheets_len_hO mixed Try.func8 Try.call8 (by kernel_rfl) (LoopsOk_eq (l := [(0, bodyOf Try.f8 0), (2, bodyOf Try.f8 2)]) (by kernel_rfl) ⟨laws_FnSheets_len_u0_ok v465 v466, laws_FnSheets_len_u2_ok v465 v466, trivial⟩) (laws_FnSheets_len_den v465 v466) hy h0 hA
noncomputable def laws_FnSheets_len_F : DFn := fun args L =>
  match args with
  | [a1, a2] =>
    optT (lenV L a1) fun v465 =>
    optT (lenV L a2) fun v466 =>
    .call (laws_FnSheets_len_g v465 v466) fun y => .leaf (.bool y, L)
  | _ => .fail
theorem laws_FnSheets_len_Fok : COk Try.prog 8 laws_FnSheets_len_F true := by
  intro F L H args r L' hs ha hr
  unfold laws_FnSheets_len_F at hr
  split at hr
  · rename_i a1 a2
    obtain ⟨v465, hv465, hr⟩ := optT_run hr
    obtain ⟨v466, hv466, hr⟩ := optT_run hr
    simp only [Tree.run] at hr
    obtain ⟨y, hy, hr⟩ := Option.bind_eq_some_iff.1 hr
    simp only [Tree.run, Option.some.injEq, Prod.mk.injEq] at hr
    obtain ⟨rfl, rfl⟩ := hr
    exact call_ok0 hs (fun k => (([a1.av F, a2.av F] : List AV)[k]?).getD .top) [a1, a2] [.hslc (BR.root 0) v465, .hslc (BR.root 1) v466] (fun F' h0 hi hρ => ⟨by simp [DVs.av, DV.av, BR.av, hρ], laws_FnSheets_len_fn v465 v466 F' (st_nil hi) ⟨hslc_ok hi (by rw [h0, hρ]; exact lenV_ok hs (DVs.okAt ha 0 rfl) hv465), hslc_ok hi (by rw [h0, hρ]; exact lenV_ok hs (DVs.okAt ha 1 rfl) hv466), trivial⟩ hy⟩) rfl
  · cases hr
end Go.Proofs.Ythdmkdkbfhoahaa.AM
