/- Functions: what they come to. -/
import Derived.Test.YtimlecagkbbnpaaBase
set_option maxRecDepth 100000
set_option maxHeartbeats 4000000
set_option linter.unusedSimpArgs false
set_option linter.unusedVariables false
namespace Go.Proofs.Ytimlecagkbbnpaa.AM
open Go.Proofs
abbrev Z : DV := DV.top
/-! laws.r8Long -/
noncomputable def laws_r8Long_LO (v3 v4 : List Int) : LOr := fun id e L =>
  match id with
  | _ => .fail
noncomputable def laws_r8Long_tab : List (FuncId × DFn × Bool) := []
theorem laws_r8Long_hO : OrcOk Try.prog (tabD laws_r8Long_tab) (tabM laws_r8Long_tab) := tabD_nil _
noncomputable def laws_r8Long_T (v3 v4 : List Int) : Tree (Bool) :=
  (.br (decide ((48 : Int) < ((v3.length : Nat) : Int))) (
  .leaf true
  ) (
  .leaf (decide ((48 : Int) < ((v4.length : Nat) : Int)))
  ))

noncomputable def laws_r8Long_g (v3 v4 : List Int) : Option (Bool) := (laws_r8Long_T v3 v4).run
def laws_r8Long_enc (v3 v4 : List Int) (y : Bool) : Rs := (.bool y, [])
theorem laws_r8Long_den (v3 v4 : List Int) : (den TT (tabD laws_r8Long_tab) (tabM laws_r8Long_tab) (laws_r8Long_LO v3 v4) (codeOf Try.f54) ([.bslc (BR.root 0) (.u8 v3), .bslc (BR.root 1) (.u8 v4)] ++ List.replicate (Try.f54.ntmps - ([.bslc (BR.root 0) (.u8 v3), .bslc (BR.root 1) (.u8 v4)] : List DV).length) .undef) []).bind (retD TT Try.f54.results.toList 0) = (laws_r8Long_T v3 v4).bind fun y => .leaf (laws_r8Long_enc v3 v4 y) := by kernel_rfl
theorem laws_r8Long_fn (v3 v4 : List Int) (F : Fr) (h0 : St F [] F.H0) (hA : DVs.Ok F [] [.bslc (BR.root 0) (.u8 v3), .bslc (BR.root 1) (.u8 v4)]) {y : Bool} (hy : laws_r8Long_g v3 v4 = some y) : ∃ F' H', Fwd 0 F F' [] (laws_r8Long_enc v3 v4 y).2 ∧ FnOk Try.prog 54 (DVs.av F [.bslc (BR.root 0) (.u8 v3), .bslc (BR.root 1) (.u8 v4)]) F.H0 ((laws_r8Long_enc v3 v4 y).1.av F') H' ∧ St F' (laws_r8Long_enc v3 v4 y).2 H' ∧ (laws_r8Long_enc v3 v4 y).1.Ok F' (laws_r8Long_enc v3 v4 y).2 :=
  fn_fin tok laws_r8Long_hO mixed Try.func54 Try.call54 (by kernel_rfl) (LoopsOk_eq (l := []) (by kernel_rfl) trivial) (laws_r8Long_den v3 v4) hy h0 hA
def laws_r8Long_v (v3 v4 : List Int) : Bool :=
  if (decide ((48 : Int) < ((v3.length : Nat) : Int))) = true then (
  true
  ) else (
  decide ((48 : Int) < ((v4.length : Nat) : Int))
  )
theorem laws_r8Long_tot (v3 v4 : List Int) : laws_r8Long_g v3 v4 = some (laws_r8Long_v v3 v4) := by
  unfold laws_r8Long_g laws_r8Long_T laws_r8Long_v
  simp only [Tree.run]
  repeat' (first | rfl | split)
noncomputable def laws_r8Long_F : DFn := fun args L =>
  match args with
  | [a1, a2] =>
    optT (rowU8 L a1) fun v3 =>
    optT (rowU8 L a2) fun v4 =>
    .leaf (.bool (laws_r8Long_v v3 v4), L)
  | _ => .fail
theorem laws_r8Long_Fok : COk Try.prog 54 laws_r8Long_F true := by
  intro F L H args r L' hs ha hr
  unfold laws_r8Long_F at hr
  split at hr
  · rename_i a1 a2
    obtain ⟨v3, hv3, hr⟩ := optT_run hr
    obtain ⟨v4, hv4, hr⟩ := optT_run hr
    have hy := laws_r8Long_tot v3 v4
    generalize laws_r8Long_v v3 v4 = y at hy hr
    simp only [Tree.run, Option.some.injEq, Prod.mk.injEq] at hr
    obtain ⟨rfl, rfl⟩ := hr
    exact call_ok0 hs (fun k => (([a1.av F, a2.av F] : List AV)[k]?).getD .top) [a1, a2] [.bslc (BR.root 0) (.u8 v3), .bslc (BR.root 1) (.u8 v4)] (fun F' h0 hi hρ => ⟨by simp [DVs.av, DV.av, BR.av, hρ], laws_r8Long_fn v3 v4 F' (st_nil hi) ⟨bslc_ok hi (by rw [h0, hρ]; exact rowU8_ok hs (DVs.okAt ha 0 rfl) hv3), bslc_ok hi (by rw [h0, hρ]; exact rowU8_ok hs (DVs.okAt ha 1 rfl) hv4), trivial⟩ hy⟩) rfl
  · cases hr
/-! laws.r8At -/
noncomputable def laws_r8At_LO (v5 : List Int) (v6 v7 : Int) : LOr := fun id e L =>
  match id with
  | _ => .fail
noncomputable def laws_r8At_tab : List (FuncId × DFn × Bool) := []
theorem laws_r8At_hO : OrcOk Try.prog (tabD laws_r8At_tab) (tabM laws_r8At_tab) := tabD_nil _
noncomputable def laws_r8At_T (v5 : List Int) (v6 v7 : Int) : Tree (Int) :=
  (.br (decide (v7 ≤ (1 : Int))) (
  .leaf (0 : Int)
  ) (
  (.br (decide (((v5.length : Nat) : Int) ≤ v6)) (
  .leaf (0 : Int)
  ) (
  (.grd (inb v6 v5.length) <|
  (.grd (!decide (v7 = 0)) <|
  .leaf (Int.tmod (IntKind.i64.wrap (nth v5 (Int.toNat v6))) v7)))
  ))
  ))

noncomputable def laws_r8At_g (v5 : List Int) (v6 v7 : Int) : Option (Int) := (laws_r8At_T v5 v6 v7).run
def laws_r8At_enc (v5 : List Int) (v6 v7 y : Int) : Rs := (.int .i64 y, [])
theorem laws_r8At_den (v5 : List Int) (v6 v7 : Int) : (den TT (tabD laws_r8At_tab) (tabM laws_r8At_tab) (laws_r8At_LO v5 v6 v7) (codeOf Try.f55) ([.bslc (BR.root 0) (.u8 v5), .int .i64 v6, .int .i64 v7] ++ List.replicate (Try.f55.ntmps - ([.bslc (BR.root 0) (.u8 v5), .int .i64 v6, .int .i64 v7] : List DV).length) .undef) []).bind (retD TT Try.f55.results.toList 0) = (laws_r8At_T v5 v6 v7).bind fun y => .leaf (laws_r8At_enc v5 v6 v7 y) := by kernel_rfl
theorem laws_r8At_fn (v5 : List Int) (v6 v7 : Int) (F : Fr) (h0 : St F [] F.H0) (hA : DVs.Ok F [] [.bslc (BR.root 0) (.u8 v5), .int .i64 v6, .int .i64 v7]) {y : Int} (hy : laws_r8At_g v5 v6 v7 = some y) : ∃ F' H', Fwd 0 F F' [] (laws_r8At_enc v5 v6 v7 y).2 ∧ FnOk Try.prog 55 (DVs.av F [.bslc (BR.root 0) (.u8 v5), .int .i64 v6, .int .i64 v7]) F.H0 ((laws_r8At_enc v5 v6 v7 y).1.av F') H' ∧ St F' (laws_r8At_enc v5 v6 v7 y).2 H' ∧ (laws_r8At_enc v5 v6 v7 y).1.Ok F' (laws_r8At_enc v5 v6 v7 y).2 :=
  fn_fin tok laws_r8At_hO mixed Try.func55 Try.call55 (by kernel_rfl) (LoopsOk_eq (l := []) (by kernel_rfl) trivial) (laws_r8At_den v5 v6 v7) hy h0 hA
noncomputable def laws_r8At_F : DFn := fun args L =>
  match args with
  | [a1, .int .i64 v6, .int .i64 v7] =>
    optT (rowU8 L a1) fun v5 =>
    .call (laws_r8At_g v5 v6 v7) fun y => .leaf (.int .i64 y, L)
  | _ => .fail
theorem laws_r8At_Fok : COk Try.prog 55 laws_r8At_F true := by
  intro F L H args r L' hs ha hr
  unfold laws_r8At_F at hr
  split at hr
  · rename_i a1 v6 v7
    obtain ⟨v5, hv5, hr⟩ := optT_run hr
    simp only [Tree.run] at hr
    obtain ⟨y, hy, hr⟩ := Option.bind_eq_some_iff.1 hr
    simp only [Tree.run, Option.some.injEq, Prod.mk.injEq] at hr
    obtain ⟨rfl, rfl⟩ := hr
    exact call_ok0 hs (fun k => (([a1.av F] : List AV)[k]?).getD .top) [a1, .int .i64 v6, .int .i64 v7] [.bslc (BR.root 0) (.u8 v5), .int .i64 v6, .int .i64 v7] (fun F' h0 hi hρ => ⟨by simp [DVs.av, DV.av, BR.av, hρ], laws_r8At_fn v5 v6 v7 F' (st_nil hi) ⟨bslc_ok hi (by rw [h0, hρ]; exact rowU8_ok hs (DVs.okAt ha 0 rfl) hv5), trivial, trivial, trivial⟩ hy⟩) rfl
  · cases hr
/-! spec.l00From -/
noncomputable def spec_l00From_LO (v14 : List Int) : LOr := fun id e L =>
  match id with
  | _ => .fail
noncomputable def spec_l00From_tab : List (FuncId × DFn × Bool) := []
theorem spec_l00From_hO : OrcOk Try.prog (tabD spec_l00From_tab) (tabM spec_l00From_tab) := tabD_nil _
noncomputable def spec_l00From_T : Tree (Unit) :=
  .leaf ()

noncomputable def spec_l00From_g : Option (Unit) := (spec_l00From_T).run
def spec_l00From_enc (v14 : List Int) (y : Unit) : Rs := (.ptr 0 (0 : Nat) 0 (3 : Nat), [.gen [.bslc (BR.root 0) (.u8 v14), .int .i64 (0 : Int), .int .u64 (0 : Int)] false 0])
theorem spec_l00From_den (v14 : List Int) : (den TT (tabD spec_l00From_tab) (tabM spec_l00From_tab) (spec_l00From_LO v14) (codeOf Try.f121) ([.bslc (BR.root 0) (.u8 v14)] ++ List.replicate (Try.f121.ntmps - ([.bslc (BR.root 0) (.u8 v14)] : List DV).length) .undef) []).bind (retD TT Try.f121.results.toList 0) = (spec_l00From_T).bind fun y => .leaf (spec_l00From_enc v14 y) := by kernel_rfl
theorem spec_l00From_fn (v14 : List Int) (F : Fr) (h0 : St F [] F.H0) (hA : DVs.Ok F [] [.bslc (BR.root 0) (.u8 v14)]) {y : Unit} (hy : spec_l00From_g = some y) : ∃ F' H', Fwd 0 F F' [] (spec_l00From_enc v14 y).2 ∧ FnOk Try.prog 121 (DVs.av F [.bslc (BR.root 0) (.u8 v14)]) F.H0 ((spec_l00From_enc v14 y).1.av F') H' ∧ St F' (spec_l00From_enc v14 y).2 H' ∧ (spec_l00From_enc v14 y).1.Ok F' (spec_l00From_enc v14 y).2 :=
  fn_fin tok spec_l00From_hO mixed Try.func121 Try.call121 (by kernel_rfl) (LoopsOk_eq (l := []) (by kernel_rfl) trivial) (spec_l00From_den v14) hy h0 hA
def spec_l00From_v : Unit :=
  ()
theorem spec_l00From_tot : spec_l00From_g = some (spec_l00From_v) := by
  unfold spec_l00From_g spec_l00From_T spec_l00From_v
  simp only [Tree.run]
  repeat' (first | rfl | split)
noncomputable def spec_l00From_F : DFn := fun args L =>
  match args with
  | [a1] =>
    optT (rowU8 L a1) fun v14 =>
    .leaf (.ptr (L.length + 0) (0 : Nat) 0 (3 : Nat), L ++ [.gen [a1, .int .i64 (0 : Int), .int .u64 (0 : Int)] false 0])
  | _ => .fail
theorem spec_l00From_Fok : COk Try.prog 121 spec_l00From_F true := by
  intro F L H args r L' hs ha hr
  unfold spec_l00From_F at hr
  split at hr
  · rename_i a1
    obtain ⟨v14, hv14, hr⟩ := optT_run hr
    have hy := spec_l00From_tot
    generalize spec_l00From_v = y at hy hr
    simp only [Tree.run, Option.some.injEq, Prod.mk.injEq] at hr
    obtain ⟨rfl, rfl⟩ := hr
    exact callG0 hs (fun _ => .top) [a1] ⟨(DVs.okAt ha 0 rfl), trivial⟩ [a1] [.bslc (BR.root 0) (.u8 v14)] [.gen [.bslc (BR.root 0) (.u8 v14), .int .i64 (0 : Int), .int .u64 (0 : Int)] false 0] _ (fun F' h0 hi hρ => ⟨by simp [DVs.av, DV.av, BR.av, hρ], spec_l00From_fn v14 F' (st_nil hi) ⟨bslc_ok hi (by rw [h0, hρ]; exact rowU8_ok hs (DVs.okAt ha 0 rfl) hv14), trivial⟩ hy⟩) rfl rfl
  · cases hr
/-! (*spec.l00Src).next -/
noncomputable def spec_l00Src_next_LO (v28 : List Int) (v29 v30 : Int) : LOr := fun id e L =>
  match id with
  | _ => .fail
noncomputable def spec_l00Src_next_tab : List (FuncId × DFn × Bool) := []
theorem spec_l00Src_next_hO : OrcOk Try.prog (tabD spec_l00Src_next_tab) (tabM spec_l00Src_next_tab) := tabD_nil _
noncomputable def spec_l00Src_next_T (v28 : List Int) (v29 v30 : Int) : Tree (Int × Int × Int) :=
  (.br (decide (v29 < ((v28.length : Nat) : Int))) (
  (.grd (inb v29 v28.length) <|
  (.br (decide (IntKind.i64.wrap (v29 + (1 : Int)) ≤ ((v28.length : Nat) : Int))) (
  .leaf (IntKind.i64.wrap (nth v28 (Int.toNat v29)), IntKind.i64.wrap (v29 + (1 : Int)), IntKind.u64.wrap ((IntKind.u64.wrap ((IntKind.u64.wrap (v30 * (6364136223846793005 : Int))) + (IntKind.u64.wrap (IntKind.i64.wrap (nth v28 (Int.toNat v29)))))) + (1442695040888963407 : Int)))
  ) (
  (.grd (decide (0 ≤ (40 : Int))) <|
  .leaf (IntKind.i64.wrap (iand .u64 (ishr .u64 (IntKind.u64.wrap ((IntKind.u64.wrap ((IntKind.u64.wrap (v30 * (6364136223846793005 : Int))) + (IntKind.u64.wrap (IntKind.i64.wrap (nth v28 (Int.toNat v29)))))) + (1442695040888963407 : Int))) (40 : Int)) (255 : Int)), IntKind.i64.wrap (v29 + (1 : Int)), IntKind.u64.wrap ((IntKind.u64.wrap ((IntKind.u64.wrap (v30 * (6364136223846793005 : Int))) + (IntKind.u64.wrap (IntKind.i64.wrap (nth v28 (Int.toNat v29)))))) + (1442695040888963407 : Int))))
  )))
  ) (
  (.br (decide (IntKind.i64.wrap (v29 + (1 : Int)) ≤ ((v28.length : Nat) : Int))) (
  .leaf ((0 : Int), IntKind.i64.wrap (v29 + (1 : Int)), IntKind.u64.wrap ((IntKind.u64.wrap ((IntKind.u64.wrap (v30 * (6364136223846793005 : Int))) + (IntKind.u64.wrap ((0 : Int))))) + (1442695040888963407 : Int)))
  ) (
  (.grd (decide (0 ≤ (40 : Int))) <|
  .leaf (IntKind.i64.wrap (iand .u64 (ishr .u64 (IntKind.u64.wrap ((IntKind.u64.wrap ((IntKind.u64.wrap (v30 * (6364136223846793005 : Int))) + (IntKind.u64.wrap ((0 : Int))))) + (1442695040888963407 : Int))) (40 : Int)) (255 : Int)), IntKind.i64.wrap (v29 + (1 : Int)), IntKind.u64.wrap ((IntKind.u64.wrap ((IntKind.u64.wrap (v30 * (6364136223846793005 : Int))) + (IntKind.u64.wrap ((0 : Int))))) + (1442695040888963407 : Int))))
  ))
  ))

noncomputable def spec_l00Src_next_g (v28 : List Int) (v29 v30 : Int) : Option (Int × Int × Int) := (spec_l00Src_next_T v28 v29 v30).run
def spec_l00Src_next_enc (v28 : List Int) (v29 v30 : Int) (y : Int × Int × Int) : Rs := (.int .i64 y.1, [.gen [.bslc (BR.root 1) (.u8 v28), .int .i64 y.2.1, .int .u64 y.2.2] false 0])
theorem spec_l00Src_next_den (v28 : List Int) (v29 v30 : Int) : (den TT (tabD spec_l00Src_next_tab) (tabM spec_l00Src_next_tab) (spec_l00Src_next_LO v28 v29 v30) (codeOf Try.f168) ([.ptr 0 (0 : Nat) 0 (3 : Nat)] ++ List.replicate (Try.f168.ntmps - ([.ptr 0 (0 : Nat) 0 (3 : Nat)] : List DV).length) .undef) [.gen [.bslc (BR.root 1) (.u8 v28), .int .i64 v29, .int .u64 v30] false 0]).bind (retD TT Try.f168.results.toList 1) = (spec_l00Src_next_T v28 v29 v30).bind fun y => .leaf (spec_l00Src_next_enc v28 v29 v30 y) := by kernel_rfl
theorem spec_l00Src_next_fn (v28 : List Int) (v29 v30 : Int) (F : Fr) (h0 : St F [.gen [.bslc (BR.root 1) (.u8 v28), .int .i64 v29, .int .u64 v30] false 0] F.H0) (hA : DVs.Ok F [.gen [.bslc (BR.root 1) (.u8 v28), .int .i64 v29, .int .u64 v30] false 0] [.ptr 0 (0 : Nat) 0 (3 : Nat)]) {y : Int × Int × Int} (hy : spec_l00Src_next_g v28 v29 v30 = some y) : ∃ F' H', Fwd 1 F F' [.gen [.bslc (BR.root 1) (.u8 v28), .int .i64 v29, .int .u64 v30] false 0] (spec_l00Src_next_enc v28 v29 v30 y).2 ∧ FnOk Try.prog 168 (DVs.av F [.ptr 0 (0 : Nat) 0 (3 : Nat)]) F.H0 ((spec_l00Src_next_enc v28 v29 v30 y).1.av F') H' ∧ St F' (spec_l00Src_next_enc v28 v29 v30 y).2 H' ∧ (spec_l00Src_next_enc v28 v29 v30 y).1.Ok F' (spec_l00Src_next_enc v28 v29 v30 y).2 :=
  fn_fin tok spec_l00Src_next_hO mixed Try.func168 Try.call168 (by kernel_rfl) (LoopsOk_eq (l := []) (by kernel_rfl) trivial) (spec_l00Src_next_den v28 v29 v30) hy h0 hA
noncomputable def spec_l00Src_next_F : DFn := fun args L =>
  match args with
  | [a1] =>
    optT (genOf L 3 false a1) fun qg0 =>
    (match qg0.2 with
    | [a2, .int .i64 v29, .int .u64 v30] =>
    optT (rowU8 L a2) fun v28 =>
    (match sepB [qg0.1] [a2] with
    | true =>
    .call (spec_l00Src_next_g v28 v29 v30) fun y => .leaf (.int .i64 y.1, setB L [(qg0.1, .gen [a2, .int .i64 y.2.1, .int .u64 y.2.2] false (verAt L qg0.1))] ++ [])
    | false => .fail)
    | _ => .fail)
  | _ => .fail
theorem spec_l00Src_next_Fok : COk Try.prog 168 spec_l00Src_next_F false := by
  intro F L H args r L' hs ha hr
  unfold spec_l00Src_next_F at hr
  split at hr
  · rename_i a1
    obtain ⟨⟨jg0, cg0⟩, hg0, hr⟩ := optT_run hr
    simp only at hr
    split at hr
    · rename_i a2 v29 v30
      obtain ⟨hge0, hgu0, hga0, hgn0, hgc0, hgf0⟩ := genOf_spec hs (DVs.okAt ha 0 rfl) hg0
      obtain ⟨v28, hv28, hr⟩ := optT_run hr
      split at hr
      · rename_i hsep
        obtain ⟨hnd, hsepv⟩ := sepB_spec hsep
        simp only [Tree.run] at hr
        obtain ⟨y, hy, hr⟩ := Option.bind_eq_some_iff.1 hr
        try simp only [Tree.run] at hr
        simp only [Option.some.injEq, Prod.mk.injEq] at hr
        obtain ⟨rfl, rfl⟩ := hr
        exact mutG_ok hs [a1, a2] ⟨(DVs.okAt ha 0 rfl), (DVs.okAt hgc0 0 rfl), trivial⟩ [a1] [.ptr 0 (0 : Nat) 0 (3 : Nat)] [jg0] [verAt L jg0] [.gen [.bslc (BR.root 1) (.u8 v28), .int .i64 v29, .int .u64 v30] false 0] [.gen [.bslc (BR.root 1) (.u8 v28), .int .i64 y.2.1, .int .u64 y.2.2] false 0] [.gen [a2, .int .i64 y.2.1, .int .u64 y.2.2] false (verAt L jg0)] [] hnd rfl rfl (fun j hj => by
            simp at hj
            subst hj; exact ex_gen hge0) (fun j hj => by
            simp at hj
            subst hj; exact reach_refs (by simp [DVs.refs, DV.refs, hgu0])) (fun F' h0 hρ ab hpl hS => by
            have ab0 := ab 0 _ rfl;
            refine ⟨fun i j b' h1 h2 => ?_, by simp [DBlk.blk, DVs.av, DV.av, BR.av, hρ, Row.len, hga0, ab0], fun hst => spec_l00Src_next_fn v28 v29 v30 F' hst ⟨⟨_, rfl, Nat.le_refl _, by decide, Nat.le_refl _, fun _ => rfl⟩, trivial⟩ hy⟩
            rcases i with _ | i
            · simp at h1 h2; subst h1; subst h2; obtain ⟨ver_, hv_⟩ := hge0; exact ⟨_, hv_, .gen _ _ _ _ _ _, by simp [DBlk.blk, DVs.av, DV.av, BR.av, hρ, Row.len, hga0, ab0], ⟨⟨bslcM hS (by rw [hρ]; rfl) (hsepv a2 (by simp)) (DVs.okAt hgc0 0 rfl) (rowU8_or hv28), trivial, trivial, trivial⟩, fun hf => by cases hf⟩⟩
            · simp at h1) rfl rfl (fun i j b b' h1 h2 h3 => by
            rcases i with _ | i
            · simp at h1; subst h1; cases h3; exact growG hge0 rfl h2
            · simp at h1)
      · cases hr
    · cases hr
  · cases hr
/-! (*spec.l00Src).pick -/
noncomputable def spec_l00Src_pick_LO (v31 : List Int) (v32 v33 v34 : Int) : LOr := fun id e L =>
  match id with
  | _ => .fail
noncomputable def spec_l00Src_pick_tab : List (FuncId × DFn × Bool) := [(168, spec_l00Src_next_F, false)]
theorem spec_l00Src_pick_hO : OrcOk Try.prog (tabD spec_l00Src_pick_tab) (tabM spec_l00Src_pick_tab) := tabD_cons spec_l00Src_next_Fok (tabD_nil _)
noncomputable def spec_l00Src_pick_T (v31 : List Int) (v32 v33 v34 : Int) : Tree (Int × Int × Int) :=
  (.br (decide (v34 ≤ (1 : Int))) (
  .leaf ((0 : Int), v32, v33)
  ) (
  (.call (spec_l00Src_next_g v31 v32 v33) fun v35 =>
  (.br (decide ((200 : Int) < v34)) (
  (.call (spec_l00Src_next_g v31 v35.2.1 v35.2.2) fun v36 =>
  (.grd (!decide (v34 = 0)) <|
  .leaf (Int.tmod (IntKind.i64.wrap ((IntKind.i64.wrap (v35.1 * (256 : Int))) + v36.1)) v34, v36.2.1, v36.2.2)))
  ) (
  (.grd (!decide (v34 = 0)) <|
  .leaf (Int.tmod v35.1 v34, v35.2.1, v35.2.2))
  )))
  ))

noncomputable def spec_l00Src_pick_g (v31 : List Int) (v32 v33 v34 : Int) : Option (Int × Int × Int) := (spec_l00Src_pick_T v31 v32 v33 v34).run
def spec_l00Src_pick_enc (v31 : List Int) (v32 v33 v34 : Int) (y : Int × Int × Int) : Rs := (.int .i64 y.1, [.gen [.bslc (BR.root 1) (.u8 v31), .int .i64 y.2.1, .int .u64 y.2.2] false 0])
theorem spec_l00Src_pick_den (v31 : List Int) (v32 v33 v34 : Int) : (den TT (tabD spec_l00Src_pick_tab) (tabM spec_l00Src_pick_tab) (spec_l00Src_pick_LO v31 v32 v33 v34) (codeOf Try.f156) ([.ptr 0 (0 : Nat) 0 (3 : Nat), .int .i64 v34] ++ List.replicate (Try.f156.ntmps - ([.ptr 0 (0 : Nat) 0 (3 : Nat), .int .i64 v34] : List DV).length) .undef) [.gen [.bslc (BR.root 1) (.u8 v31), .int .i64 v32, .int .u64 v33] false 0]).bind (retD TT Try.f156.results.toList 1) = (spec_l00Src_pick_T v31 v32 v33 v34).bind fun y => .leaf (spec_l00Src_pick_enc v31 v32 v33 v34 y) := by kernel_rfl
theorem spec_l00Src_pick_fn (v31 : List Int) (v32 v33 v34 : Int) (F : Fr) (h0 : St F [.gen [.bslc (BR.root 1) (.u8 v31), .int .i64 v32, .int .u64 v33] false 0] F.H0) (hA : DVs.Ok F [.gen [.bslc (BR.root 1) (.u8 v31), .int .i64 v32, .int .u64 v33] false 0] [.ptr 0 (0 : Nat) 0 (3 : Nat), .int .i64 v34]) {y : Int × Int × Int} (hy : spec_l00Src_pick_g v31 v32 v33 v34 = some y) : ∃ F' H', Fwd 1 F F' [.gen [.bslc (BR.root 1) (.u8 v31), .int .i64 v32, .int .u64 v33] false 0] (spec_l00Src_pick_enc v31 v32 v33 v34 y).2 ∧ FnOk Try.prog 156 (DVs.av F [.ptr 0 (0 : Nat) 0 (3 : Nat), .int .i64 v34]) F.H0 ((spec_l00Src_pick_enc v31 v32 v33 v34 y).1.av F') H' ∧ St F' (spec_l00Src_pick_enc v31 v32 v33 v34 y).2 H' ∧ (spec_l00Src_pick_enc v31 v32 v33 v34 y).1.Ok F' (spec_l00Src_pick_enc v31 v32 v33 v34 y).2 :=
  fn_fin tok spec_l00Src_pick_hO mixed Try.func156 Try.call156 (by kernel_rfl) (LoopsOk_eq (l := []) (by kernel_rfl) trivial) (spec_l00Src_pick_den v31 v32 v33 v34) hy h0 hA
noncomputable def spec_l00Src_pick_F : DFn := fun args L =>
  match args with
  | [a1, .int .i64 v34] =>
    optT (genOf L 3 false a1) fun qg0 =>
    (match qg0.2 with
    | [a2, .int .i64 v32, .int .u64 v33] =>
    optT (rowU8 L a2) fun v31 =>
    (match sepB [qg0.1] [a2] with
    | true =>
    .call (spec_l00Src_pick_g v31 v32 v33 v34) fun y => .leaf (.int .i64 y.1, setB L [(qg0.1, .gen [a2, .int .i64 y.2.1, .int .u64 y.2.2] false (verAt L qg0.1))] ++ [])
    | false => .fail)
    | _ => .fail)
  | _ => .fail
theorem spec_l00Src_pick_Fok : COk Try.prog 156 spec_l00Src_pick_F false := by
  intro F L H args r L' hs ha hr
  unfold spec_l00Src_pick_F at hr
  split at hr
  · rename_i a1 v34
    obtain ⟨⟨jg0, cg0⟩, hg0, hr⟩ := optT_run hr
    simp only at hr
    split at hr
    · rename_i a2 v32 v33
      obtain ⟨hge0, hgu0, hga0, hgn0, hgc0, hgf0⟩ := genOf_spec hs (DVs.okAt ha 0 rfl) hg0
      obtain ⟨v31, hv31, hr⟩ := optT_run hr
      split at hr
      · rename_i hsep
        obtain ⟨hnd, hsepv⟩ := sepB_spec hsep
        simp only [Tree.run] at hr
        obtain ⟨y, hy, hr⟩ := Option.bind_eq_some_iff.1 hr
        try simp only [Tree.run] at hr
        simp only [Option.some.injEq, Prod.mk.injEq] at hr
        obtain ⟨rfl, rfl⟩ := hr
        exact mutG_ok hs [a1, a2] ⟨(DVs.okAt ha 0 rfl), (DVs.okAt hgc0 0 rfl), trivial⟩ [a1, .int .i64 v34] [.ptr 0 (0 : Nat) 0 (3 : Nat), .int .i64 v34] [jg0] [verAt L jg0] [.gen [.bslc (BR.root 1) (.u8 v31), .int .i64 v32, .int .u64 v33] false 0] [.gen [.bslc (BR.root 1) (.u8 v31), .int .i64 y.2.1, .int .u64 y.2.2] false 0] [.gen [a2, .int .i64 y.2.1, .int .u64 y.2.2] false (verAt L jg0)] [] hnd rfl rfl (fun j hj => by
            simp at hj
            subst hj; exact ex_gen hge0) (fun j hj => by
            simp at hj
            subst hj; exact reach_refs (by simp [DVs.refs, DV.refs, hgu0])) (fun F' h0 hρ ab hpl hS => by
            have ab0 := ab 0 _ rfl;
            refine ⟨fun i j b' h1 h2 => ?_, by simp [DBlk.blk, DVs.av, DV.av, BR.av, hρ, Row.len, hga0, ab0], fun hst => spec_l00Src_pick_fn v31 v32 v33 v34 F' hst ⟨⟨_, rfl, Nat.le_refl _, by decide, Nat.le_refl _, fun _ => rfl⟩, trivial, trivial⟩ hy⟩
            rcases i with _ | i
            · simp at h1 h2; subst h1; subst h2; obtain ⟨ver_, hv_⟩ := hge0; exact ⟨_, hv_, .gen _ _ _ _ _ _, by simp [DBlk.blk, DVs.av, DV.av, BR.av, hρ, Row.len, hga0, ab0], ⟨⟨bslcM hS (by rw [hρ]; rfl) (hsepv a2 (by simp)) (DVs.okAt hgc0 0 rfl) (rowU8_or hv31), trivial, trivial, trivial⟩, fun hf => by cases hf⟩⟩
            · simp at h1) rfl rfl (fun i j b b' h1 h2 h3 => by
            rcases i with _ | i
            · simp at h1; subst h1; cases h3; exact growG hge0 rfl h2
            · simp at h1)
      · cases hr
    · cases hr
  · cases hr
/-! spec.l06DrawSides -/
noncomputable def spec_l06DrawSides_l0_T (v37 : List Int) (s : Int × Int × Int × (List Int)) : Tree ((Int × Int × Int × (List Int)) ⊕ (Int × Int × (List Int))) :=
  (.br (decide ((0 : Int) < s.1)) (
  (.call (spec_l00Src_pick_g v37 s.2.1 s.2.2.1 (13 : Int)) fun v53 =>
  (.grd (fits (s.2.2.2 ++ ([IntKind.i64.wrap (v53.1 - (6 : Int))] : List Int)).length) <|
  .leaf (.inl (IntKind.i64.wrap (s.1 - (1 : Int)), v53.2.1, v53.2.2, s.2.2.2 ++ ([IntKind.i64.wrap (v53.1 - (6 : Int))] : List Int)))))
  ) (
  .leaf (.inr (s.2.1, s.2.2.1, s.2.2.2))
  ))

noncomputable def spec_l06DrawSides_l0_g (v37 : List Int) (s0 : Int × Int × Int × (List Int)) : Option (Int × Int × (List Int)) := whileM (fun s => (spec_l06DrawSides_l0_T v37 s).run) s0
def spec_l06DrawSides_l0_E (v37 : List Int) (v38 v39 v40 v41 : Int) (s : Int × Int × Int × (List Int)) : Sd := ([.ptr 0 (0 : Nat) 0 (3 : Nat),Z,Z,Z,Z,Z,.ptr 1 (0 : Nat) 0 (3 : Nat),.ptr 2 (0 : Nat) 0 (3 : Nat),.int .i64 s.1,Z,Z,Z,Z,Z,Z,Z,Z,Z,Z,Z,Z,Z,Z,Z,Z,Z,Z,Z,Z], [.gen [.bslc (BR.root 1) (.u8 v37), .int .i64 s.2.1, .int .u64 s.2.2.1] false 0, .gen [.int .i64 (0 : Int), .int .i64 (0 : Int), .nilslc] false 0, .gen [.int .i64 v40, .int .i64 v41, .own 3 0 ((s.2.2.2).length)] false 0, .row (.i64 s.2.2.2) 0])
def spec_l06DrawSides_l0_X (v37 : List Int) (v38 v39 v40 v41 : Int) (x : Int × Int × (List Int)) : Out := (.normal, [Z,Z,Z,Z,Z,Z,.ptr 1 (0 : Nat) 0 (3 : Nat),.ptr 2 (0 : Nat) 0 (3 : Nat),Z,Z,Z,Z,Z,Z,Z,Z,Z,Z,Z,Z,Z,Z,Z,Z,Z,Z,Z,Z,Z], [.gen [.bslc (BR.root 1) (.u8 v37), .int .i64 x.1, .int .u64 x.2.1] false 0, .gen [.int .i64 (0 : Int), .int .i64 (0 : Int), .nilslc] false 0, .gen [.int .i64 v40, .int .i64 v41, .own 3 0 ((x.2.2).length)] false 0, .row (.i64 x.2.2) 0])
def spec_l06DrawSides_l0_kill : List Nat := KL true [0,1,5,3,20]
def spec_l06DrawSides_l0_nx : Exit → List Nat
  | .exit 0 => KL true [6,2,21]
  | .ret => KL true [6,1,22]
  | _ => []
noncomputable def spec_l06DrawSides_LO (v37 : List Int) (v38 v39 v40 v41 : Int) : LOr := fun id e L =>
  match id with
  | 0 => .need (normA 1 spec_l06DrawSides_l0_kill e L = some (spec_l06DrawSides_l0_E v37 v38 v39 v40 v41 ((gI (vAt e 8)), (gI (cAt L (vAt e 0) 1)), (gI (cAt L (vAt e 0) 2)), (gRI L (cAt L (vAt e 7) 2))))) (.call (spec_l06DrawSides_l0_g v37 ((gI (vAt e 8)), (gI (cAt L (vAt e 0) 1)), (gI (cAt L (vAt e 0) 2)), (gRI L (cAt L (vAt e 7) 2)))) fun x => .leaf (spec_l06DrawSides_l0_X v37 v38 v39 v40 v41 x))
  | _ => .fail
noncomputable def spec_l06DrawSides_tab : List (FuncId × DFn × Bool) := [(156, spec_l00Src_pick_F, false)]
theorem spec_l06DrawSides_hO : OrcOk Try.prog (tabD spec_l06DrawSides_tab) (tabM spec_l06DrawSides_tab) := tabD_cons spec_l00Src_pick_Fok (tabD_nil _)
theorem spec_l06DrawSides_l0_be (v37 : List Int) (v38 v39 v40 v41 : Int) (s : Int × Int × Int × (List Int)) : bodyT TT (tabD spec_l06DrawSides_tab) (tabM spec_l06DrawSides_tab) (spec_l06DrawSides_LO v37 v38 v39 v40 v41) 1 spec_l06DrawSides_l0_kill spec_l06DrawSides_l0_nx (bodyOf Try.f122 0) 0 (spec_l06DrawSides_l0_E v37 v38 v39 v40 v41 s) = (spec_l06DrawSides_l0_T v37 s).bind fun y => .leaf (outS (spec_l06DrawSides_l0_E v37 v38 v39 v40 v41) (spec_l06DrawSides_l0_X v37 v38 v39 v40 v41) y) := by kernel_rfl
theorem spec_l06DrawSides_l0_ok (v37 : List Int) (v38 v39 v40 v41 : Int) : LSound Try.prog 1 (spec_l06DrawSides_LO v37 v38 v39 v40 v41) 0 (bodyOf Try.f122 0) := by
  intro e L out h
  exact lo_ok (E := spec_l06DrawSides_l0_E v37 v38 v39 v40 v41) (gT := spec_l06DrawSides_l0_T v37) (X := spec_l06DrawSides_l0_X v37 v38 v39 v40 v41) (s0 := ((gI (vAt e 8)), (gI (cAt L (vAt e 0) 1)), (gI (cAt L (vAt e 0) 2)), (gRI L (cAt L (vAt e 7) 2)))) tok spec_l06DrawSides_hO mixed (LoopsOk_eq (l := []) (by kernel_rfl) trivial) (spec_l06DrawSides_l0_be v37 v38 v39 v40 v41) rfl (by intro x; rfl) h
noncomputable def spec_l06DrawSides_T (v37 : List Int) (v38 v39 v40 v41 : Int) : Tree (Int × Int × Int × Int × (List Int)) :=
  (.need (some (spec_l06DrawSides_l0_E v37 v38 v39 v40 v41 (IntKind.i64.wrap (v40 * v41), v38, v39, ([] : List Int))) = some (spec_l06DrawSides_l0_E v37 v38 v39 v40 v41 (IntKind.i64.wrap (v40 * v41), v38, v39, ([] : List Int)))) <|
  (.call (spec_l06DrawSides_l0_g v37 (IntKind.i64.wrap (v40 * v41), v38, v39, ([] : List Int))) fun v54 =>
  .leaf (v40, v41, v54.1, v54.2.1, v54.2.2)))

noncomputable def spec_l06DrawSides_g (v37 : List Int) (v38 v39 v40 v41 : Int) : Option (Int × Int × Int × Int × (List Int)) := (spec_l06DrawSides_T v37 v38 v39 v40 v41).run
def spec_l06DrawSides_enc (v37 : List Int) (v38 v39 v40 v41 : Int) (y : Int × Int × Int × Int × (List Int)) : Rs := (.agg [.int .i64 y.1, .int .i64 y.2.1, .own 1 0 ((y.2.2.2.2).length)], [.gen [.bslc (BR.root 1) (.u8 v37), .int .i64 y.2.2.1, .int .u64 y.2.2.2.1] false 0, .row (.i64 y.2.2.2.2) 0])
theorem spec_l06DrawSides_den (v37 : List Int) (v38 v39 v40 v41 : Int) : (den TT (tabD spec_l06DrawSides_tab) (tabM spec_l06DrawSides_tab) (spec_l06DrawSides_LO v37 v38 v39 v40 v41) (codeOf Try.f122) ([.ptr 0 (0 : Nat) 0 (3 : Nat), .int .i64 v40, .int .i64 v41] ++ List.replicate (Try.f122.ntmps - ([.ptr 0 (0 : Nat) 0 (3 : Nat), .int .i64 v40, .int .i64 v41] : List DV).length) .undef) [.gen [.bslc (BR.root 1) (.u8 v37), .int .i64 v38, .int .u64 v39] false 0]).bind (retD TT Try.f122.results.toList 1) = (spec_l06DrawSides_T v37 v38 v39 v40 v41).bind fun y => .leaf (spec_l06DrawSides_enc v37 v38 v39 v40 v41 y) := by kernel_rfl
theorem spec_l06DrawSides_fn (v37 : List Int) (v38 v39 v40 v41 : Int) (F : Fr) (h0 : St F [.gen [.bslc (BR.root 1) (.u8 v37), .int .i64 v38, .int .u64 v39] false 0] F.H0) (hA : DVs.Ok F [.gen [.bslc (BR.root 1) (.u8 v37), .int .i64 v38, .int .u64 v39] false 0] [.ptr 0 (0 : Nat) 0 (3 : Nat), .int .i64 v40, .int .i64 v41]) {y : Int × Int × Int × Int × (List Int)} (hy : spec_l06DrawSides_g v37 v38 v39 v40 v41 = some y) : ∃ F' H', Fwd 1 F F' [.gen [.bslc (BR.root 1) (.u8 v37), .int .i64 v38, .int .u64 v39] false 0] (spec_l06DrawSides_enc v37 v38 v39 v40 v41 y).2 ∧ FnOk Try.prog 122 (DVs.av F [.ptr 0 (0 : Nat) 0 (3 : Nat), .int .i64 v40, .int .i64 v41]) F.H0 ((spec_l06DrawSides_enc v37 v38 v39 v40 v41 y).1.av F') H' ∧ St F' (spec_l06DrawSides_enc v37 v38 v39 v40 v41 y).2 H' ∧ (spec_l06DrawSides_enc v37 v38 v39 v40 v41 y).1.Ok F' (spec_l06DrawSides_enc v37 v38 v39 v40 v41 y).2 :=
  fn_fin tok spec_l06DrawSides_hO mixed Try.func122 Try.call122 (by kernel_rfl) (LoopsOk_eq (l := [(0, bodyOf Try.f122 0)]) (by kernel_rfl) ⟨spec_l06DrawSides_l0_ok v37 v38 v39 v40 v41, trivial⟩) (spec_l06DrawSides_den v37 v38 v39 v40 v41) hy h0 hA
noncomputable def spec_l06DrawSides_F : DFn := fun args L =>
  match args with
  | [a1, .int .i64 v40, .int .i64 v41] =>
    optT (genOf L 3 false a1) fun qg0 =>
    (match qg0.2 with
    | [a2, .int .i64 v38, .int .u64 v39] =>
    optT (rowU8 L a2) fun v37 =>
    (match sepB [qg0.1] [a2] with
    | true =>
    .call (spec_l06DrawSides_g v37 v38 v39 v40 v41) fun y => .leaf (.agg [.int .i64 y.1, .int .i64 y.2.1, .own (L.length + 0) 0 ((y.2.2.2.2).length)], setB L [(qg0.1, .gen [a2, .int .i64 y.2.2.1, .int .u64 y.2.2.2.1] false (verAt L qg0.1))] ++ [.row (.i64 y.2.2.2.2) 0])
    | false => .fail)
    | _ => .fail)
  | _ => .fail
theorem spec_l06DrawSides_Fok : COk Try.prog 122 spec_l06DrawSides_F false := by
  intro F L H args r L' hs ha hr
  unfold spec_l06DrawSides_F at hr
  split at hr
  · rename_i a1 v40 v41
    obtain ⟨⟨jg0, cg0⟩, hg0, hr⟩ := optT_run hr
    simp only at hr
    split at hr
    · rename_i a2 v38 v39
      obtain ⟨hge0, hgu0, hga0, hgn0, hgc0, hgf0⟩ := genOf_spec hs (DVs.okAt ha 0 rfl) hg0
      obtain ⟨v37, hv37, hr⟩ := optT_run hr
      split at hr
      · rename_i hsep
        obtain ⟨hnd, hsepv⟩ := sepB_spec hsep
        simp only [Tree.run] at hr
        obtain ⟨y, hy, hr⟩ := Option.bind_eq_some_iff.1 hr
        try simp only [Tree.run] at hr
        simp only [Option.some.injEq, Prod.mk.injEq] at hr
        obtain ⟨rfl, rfl⟩ := hr
        exact mutG_ok hs [a1, a2] ⟨(DVs.okAt ha 0 rfl), (DVs.okAt hgc0 0 rfl), trivial⟩ [a1, .int .i64 v40, .int .i64 v41] [.ptr 0 (0 : Nat) 0 (3 : Nat), .int .i64 v40, .int .i64 v41] [jg0] [verAt L jg0] [.gen [.bslc (BR.root 1) (.u8 v37), .int .i64 v38, .int .u64 v39] false 0] [.gen [.bslc (BR.root 1) (.u8 v37), .int .i64 y.2.2.1, .int .u64 y.2.2.2.1] false 0, .row (.i64 y.2.2.2.2) 0] [.gen [a2, .int .i64 y.2.2.1, .int .u64 y.2.2.2.1] false (verAt L jg0)] [.row (.i64 y.2.2.2.2) 0] hnd rfl rfl (fun j hj => by
            simp at hj
            subst hj; exact ex_gen hge0) (fun j hj => by
            simp at hj
            subst hj; exact reach_refs (by simp [DVs.refs, DV.refs, hgu0])) (fun F' h0 hρ ab hpl hS => by
            have ab0 := ab 0 _ rfl;
            refine ⟨fun i j b' h1 h2 => ?_, by simp [DBlk.blk, DVs.av, DV.av, BR.av, hρ, Row.len, hga0, ab0], fun hst => spec_l06DrawSides_fn v37 v38 v39 v40 v41 F' hst ⟨⟨_, rfl, Nat.le_refl _, by decide, Nat.le_refl _, fun _ => rfl⟩, trivial, trivial, trivial⟩ hy⟩
            rcases i with _ | i
            · simp at h1 h2; subst h1; subst h2; obtain ⟨ver_, hv_⟩ := hge0; exact ⟨_, hv_, .gen _ _ _ _ _ _, by simp [DBlk.blk, DVs.av, DV.av, BR.av, hρ, Row.len, hga0, ab0], ⟨⟨bslcM hS (by rw [hρ]; rfl) (hsepv a2 (by simp)) (DVs.okAt hgc0 0 rfl) (rowU8_or hv37), trivial, trivial, trivial⟩, fun hf => by cases hf⟩⟩
            · simp at h1) rfl rfl (fun i j b b' h1 h2 h3 => by
            rcases i with _ | i
            · simp at h1; subst h1; cases h3; exact growG hge0 rfl h2
            · simp at h1)
      · cases hr
    · cases hr
  · cases hr
end Go.Proofs.Ytimlecagkbbnpaa.AM
