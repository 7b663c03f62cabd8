/- Functions: what they come to. -/
import Derived.Test.YtimlecagkbbnpaaX0
set_option maxRecDepth 100000
set_option maxHeartbeats 4000000
set_option linter.unusedSimpArgs false
set_option linter.unusedVariables false
namespace Go.Proofs.Ytimlecagkbbnpaa.AM
open Go.Proofs
/-! spec.l00In -/
noncomputable def spec_l00In_LO (v32 : Int) (v33 : Int) (v34 : Int) : LOr := fun id e L =>
  match id with
  | _ => .fail
noncomputable def spec_l00In_tab : List (FuncId × DFn × Bool) := []
theorem spec_l00In_hO : OrcOk Try.prog (tabD spec_l00In_tab) (tabM spec_l00In_tab) := tabD_nil _
noncomputable def spec_l00In_T (v32 : Int) (v33 : Int) (v34 : Int) : Tree (Bool) :=
  (.br (decide (v33 ≤ v32)) (
   .leaf (decide (v32 ≤ v34))
  ) (
   .leaf false
  ))

noncomputable def spec_l00In_g (v32 : Int) (v33 : Int) (v34 : Int) : Option (Bool) := (spec_l00In_T v32 v33 v34).run
def spec_l00In_enc (v32 : Int) (v33 : Int) (v34 : Int) (y : Bool) : Rs := (.bool y, [])
theorem spec_l00In_den (v32 : Int) (v33 : Int) (v34 : Int) : (den TT (tabD spec_l00In_tab) (tabM spec_l00In_tab) (spec_l00In_LO v32 v33 v34) (codeOf Try.f80) ([.int .i64 v32, .int .i64 v33, .int .i64 v34] ++ List.replicate (Try.f80.ntmps - ([.int .i64 v32, .int .i64 v33, .int .i64 v34] : List DV).length) .undef) []).bind (retD TT Try.f80.results.toList 0) = (spec_l00In_T v32 v33 v34).bind fun y => .leaf (spec_l00In_enc v32 v33 v34 y) := by kernel_rfl
theorem spec_l00In_fn (v32 : Int) (v33 : Int) (v34 : Int) (F : Fr) (h0 : St F [] F.H0) (hA : DVs.Ok F [] [.int .i64 v32, .int .i64 v33, .int .i64 v34]) {y : Bool} (hy : spec_l00In_g v32 v33 v34 = some y) : ∃ F' H', Fwd 0 F F' [] (spec_l00In_enc v32 v33 v34 y).2 ∧ FnOk Try.prog 80 (DVs.av F [.int .i64 v32, .int .i64 v33, .int .i64 v34]) F.H0 ((spec_l00In_enc v32 v33 v34 y).1.av F') H' ∧ St F' (spec_l00In_enc v32 v33 v34 y).2 H' ∧ (spec_l00In_enc v32 v33 v34 y).1.Ok F' (spec_l00In_enc v32 v33 v34 y).2 :=
  fn_fin tok spec_l00In_hO mixed Try.func80 Try.call80 (by kernel_rfl) (LoopsOk_eq (l := []) (by kernel_rfl) trivial) (spec_l00In_den v32 v33 v34) hy h0 hA
def spec_l00In_v (v32 : Int) (v33 : Int) (v34 : Int) : Bool :=
  if (decide (v33 ≤ v32)) = true then (
   decide (v32 ≤ v34)
  ) else (
   false
  )
theorem spec_l00In_tot (v32 : Int) (v33 : Int) (v34 : Int) : spec_l00In_g v32 v33 v34 = some (spec_l00In_v v32 v33 v34) := by
  unfold spec_l00In_g spec_l00In_T spec_l00In_v
  simp only [Tree.run]
  repeat' (first | rfl | split)
noncomputable def spec_l00In_F : DFn := fun args L =>
  match args with
  | [.int .i64 v32, .int .i64 v33, .int .i64 v34] =>
    .leaf (.bool (spec_l00In_v v32 v33 v34), L)
  | _ => .fail
theorem spec_l00In_Fok : COk Try.prog 80 spec_l00In_F true := by
  intro F L H args r L' hs ha hr
  unfold spec_l00In_F at hr
  split at hr
  · rename_i v32 v33 v34
    have hy := spec_l00In_tot v32 v33 v34
    generalize spec_l00In_v v32 v33 v34 = y at hy hr
    simp only [Tree.run, Option.some.injEq, Prod.mk.injEq] at hr
    obtain ⟨rfl, rfl⟩ := hr
    exact call_ok0 hs (fun k => (([] : List AV)[k]?).getD .top) [.int .i64 v32, .int .i64 v33, .int .i64 v34] [.int .i64 v32, .int .i64 v33, .int .i64 v34] (fun F' h0 hi hρ => ⟨by simp [DVs.av, DV.av, BR.av, hρ], spec_l00In_fn v32 v33 v34 F' (st_nil hi) ⟨trivial, trivial, trivial, trivial⟩ hy⟩) rfl
  · cases hr
/-! spec.l02Sides -/
noncomputable def spec_l02Sides_LO (v30 : Int) (v31 : Int) : LOr := fun id e L =>
  match id with
  | _ => .fail
noncomputable def spec_l02Sides_tab : List (FuncId × DFn × Bool) := [(80, spec_l00In_F, true)]
theorem spec_l02Sides_hO : OrcOk Try.prog (tabD spec_l02Sides_tab) (tabM spec_l02Sides_tab) := tabD_cons spec_l00In_Fok (tabD_nil _)
noncomputable def spec_l02Sides_T (v30 : Int) (v31 : Int) : Tree (Bool) :=
  (.br (spec_l00In_v v30 (1 : Int) (12 : Int)) (
   .leaf (spec_l00In_v v31 (1 : Int) (12 : Int))
  ) (
   .leaf false
  ))

noncomputable def spec_l02Sides_g (v30 : Int) (v31 : Int) : Option (Bool) := (spec_l02Sides_T v30 v31).run
def spec_l02Sides_enc (v30 : Int) (v31 : Int) (y : Bool) : Rs := (.bool y, [])
theorem spec_l02Sides_den (v30 : Int) (v31 : Int) : (den TT (tabD spec_l02Sides_tab) (tabM spec_l02Sides_tab) (spec_l02Sides_LO v30 v31) (codeOf Try.f139) ([.int .i64 v30, .int .i64 v31] ++ List.replicate (Try.f139.ntmps - ([.int .i64 v30, .int .i64 v31] : List DV).length) .undef) []).bind (retD TT Try.f139.results.toList 0) = (spec_l02Sides_T v30 v31).bind fun y => .leaf (spec_l02Sides_enc v30 v31 y) := by kernel_rfl
theorem spec_l02Sides_fn (v30 : Int) (v31 : Int) (F : Fr) (h0 : St F [] F.H0) (hA : DVs.Ok F [] [.int .i64 v30, .int .i64 v31]) {y : Bool} (hy : spec_l02Sides_g v30 v31 = some y) : ∃ F' H', Fwd 0 F F' [] (spec_l02Sides_enc v30 v31 y).2 ∧ FnOk Try.prog 139 (DVs.av F [.int .i64 v30, .int .i64 v31]) F.H0 ((spec_l02Sides_enc v30 v31 y).1.av F') H' ∧ St F' (spec_l02Sides_enc v30 v31 y).2 H' ∧ (spec_l02Sides_enc v30 v31 y).1.Ok F' (spec_l02Sides_enc v30 v31 y).2 :=
  fn_fin tok spec_l02Sides_hO mixed Try.func139 Try.call139 (by kernel_rfl) (LoopsOk_eq (l := []) (by kernel_rfl) trivial) (spec_l02Sides_den v30 v31) hy h0 hA
def spec_l02Sides_v (v30 : Int) (v31 : Int) : Bool :=
  if (spec_l00In_v v30 (1 : Int) (12 : Int)) = true then (
   (spec_l00In_v v31 (1 : Int) (12 : Int))
  ) else (
   false
  )
theorem spec_l02Sides_tot (v30 : Int) (v31 : Int) : spec_l02Sides_g v30 v31 = some (spec_l02Sides_v v30 v31) := by
  unfold spec_l02Sides_g spec_l02Sides_T spec_l02Sides_v
  simp only [Tree.run]
  repeat' (first | rfl | split)
noncomputable def spec_l02Sides_F : DFn := fun args L =>
  match args with
  | [.int .i64 v30, .int .i64 v31] =>
    .leaf (.bool (spec_l02Sides_v v30 v31), L)
  | _ => .fail
theorem spec_l02Sides_Fok : COk Try.prog 139 spec_l02Sides_F true := by
  intro F L H args r L' hs ha hr
  unfold spec_l02Sides_F at hr
  split at hr
  · rename_i v30 v31
    have hy := spec_l02Sides_tot v30 v31
    generalize spec_l02Sides_v v30 v31 = y at hy hr
    simp only [Tree.run, Option.some.injEq, Prod.mk.injEq] at hr
    obtain ⟨rfl, rfl⟩ := hr
    exact call_ok0 hs (fun k => (([] : List AV)[k]?).getD .top) [.int .i64 v30, .int .i64 v31] [.int .i64 v30, .int .i64 v31] (fun F' h0 hi hρ => ⟨by simp [DVs.av, DV.av, BR.av, hρ], spec_l02Sides_fn v30 v31 F' (st_nil hi) ⟨trivial, trivial, trivial⟩ hy⟩) rfl
  · cases hr
/-! spec.l01Finite -/
noncomputable def spec_l01Finite_LO (v37 : Nat) : LOr := fun id e L =>
  match id with
  | _ => .fail
noncomputable def spec_l01Finite_tab : List (FuncId × DFn × Bool) := []
theorem spec_l01Finite_hO : OrcOk Try.prog (tabD spec_l01Finite_tab) (tabM spec_l01Finite_tab) := tabD_nil _
noncomputable def spec_l01Finite_T (v37 : Nat) : Tree (Bool) :=
  .leaf (feq .f32 (fsub .f32 v37 v37) (0 : Nat))

noncomputable def spec_l01Finite_g (v37 : Nat) : Option (Bool) := (spec_l01Finite_T v37).run
def spec_l01Finite_enc (v37 : Nat) (y : Bool) : Rs := (.bool y, [])
theorem spec_l01Finite_den (v37 : Nat) : (den TT (tabD spec_l01Finite_tab) (tabM spec_l01Finite_tab) (spec_l01Finite_LO v37) (codeOf Try.f102) ([.flt .f32 v37] ++ List.replicate (Try.f102.ntmps - ([.flt .f32 v37] : List DV).length) .undef) []).bind (retD TT Try.f102.results.toList 0) = (spec_l01Finite_T v37).bind fun y => .leaf (spec_l01Finite_enc v37 y) := by kernel_rfl
theorem spec_l01Finite_fn (v37 : Nat) (F : Fr) (h0 : St F [] F.H0) (hA : DVs.Ok F [] [.flt .f32 v37]) {y : Bool} (hy : spec_l01Finite_g v37 = some y) : ∃ F' H', Fwd 0 F F' [] (spec_l01Finite_enc v37 y).2 ∧ FnOk Try.prog 102 (DVs.av F [.flt .f32 v37]) F.H0 ((spec_l01Finite_enc v37 y).1.av F') H' ∧ St F' (spec_l01Finite_enc v37 y).2 H' ∧ (spec_l01Finite_enc v37 y).1.Ok F' (spec_l01Finite_enc v37 y).2 :=
  fn_fin tok spec_l01Finite_hO mixed Try.func102 Try.call102 (by kernel_rfl) (LoopsOk_eq (l := []) (by kernel_rfl) trivial) (spec_l01Finite_den v37) hy h0 hA
def spec_l01Finite_v (v37 : Nat) : Bool :=
  feq .f32 (fsub .f32 v37 v37) (0 : Nat)
theorem spec_l01Finite_tot (v37 : Nat) : spec_l01Finite_g v37 = some (spec_l01Finite_v v37) := by
  unfold spec_l01Finite_g spec_l01Finite_T spec_l01Finite_v
  simp only [Tree.run]
  repeat' (first | rfl | split)
noncomputable def spec_l01Finite_F : DFn := fun args L =>
  match args with
  | [.flt .f32 v37] =>
    .leaf (.bool (spec_l01Finite_v v37), L)
  | _ => .fail
theorem spec_l01Finite_Fok : COk Try.prog 102 spec_l01Finite_F true := by
  intro F L H args r L' hs ha hr
  unfold spec_l01Finite_F at hr
  split at hr
  · rename_i v37
    have hy := spec_l01Finite_tot v37
    generalize spec_l01Finite_v v37 = y at hy hr
    simp only [Tree.run, Option.some.injEq, Prod.mk.injEq] at hr
    obtain ⟨rfl, rfl⟩ := hr
    exact call_ok0 hs (fun k => (([] : List AV)[k]?).getD .top) [.flt .f32 v37] [.flt .f32 v37] (fun F' h0 hi hρ => ⟨by simp [DVs.av, DV.av, BR.av, hρ], spec_l01Finite_fn v37 F' (st_nil hi) ⟨trivial, trivial⟩ hy⟩) rfl
  · cases hr
/-! spec.l02Finite -/
noncomputable def spec_l02Finite_l0_T (v35 : List Nat) (s : Int) : Tree ((Int) ⊕ ((Unit) ⊕ (Unit))) :=
  (.br (decide (s < ((v35.length : Nat) : Int))) (
   (.grd (inb s v35.length) <|
   (.br (!(spec_l01Finite_v (nth v35 (Int.toNat s)))) (
    .leaf (.inr (.inl ()))
   ) (
    .leaf (.inl (IntKind.i64.wrap (s + (1 : Int))))
   )))
  ) (
   .leaf (.inr (.inr ()))
  ))

noncomputable def spec_l02Finite_l0_g (v35 : List Nat) (s0 : Int) : Option ((Unit) ⊕ (Unit)) := whileM (fun s => (spec_l02Finite_l0_T v35 s).run) s0
def spec_l02Finite_l0_E (v35 : List Nat) (s : Int) : Sd := ([.bslc (BR.root 0) (.f32 v35),tp,tp,.int .i64 s,tp,tp,tp,tp,tp,tp,tp,tp,tp,tp,tp,tp], [])
def spec_l02Finite_l0_X (v35 : List Nat) (x : (Unit) ⊕ (Unit)) : Out := (match x with | .inl x => (.ret, [tp,tp,.lit false,tp,tp,tp,tp,tp,tp,tp,tp,tp,tp,tp,tp,tp], []) | .inr x => (.normal, [tp,tp,tp,tp,tp,tp,tp,tp,tp,tp,tp,tp,tp,tp,tp,tp], []))
def spec_l02Finite_l0_kill : List Nat := KL true [0,1,2,1,12]
def spec_l02Finite_l0_nx : Exit → List Nat
  | .exit 0 => KL true [16]
  | .ret => KL true [2,1,13]
  | _ => []
noncomputable def spec_l02Finite_LO (v35 : List Nat) : LOr := fun id e L =>
  match id with
  | 0 => .need (normA 0 spec_l02Finite_l0_kill e L = some (spec_l02Finite_l0_E v35 (gI (vAt e 3)))) (.call (spec_l02Finite_l0_g v35 (gI (vAt e 3))) fun x => .sum x (fun b0 => .leaf (spec_l02Finite_l0_X v35 (.inl b0))) (fun c0 => .leaf (spec_l02Finite_l0_X v35 (.inr c0))))
  | _ => .fail
noncomputable def spec_l02Finite_tab : List (FuncId × DFn × Bool) := [(102, spec_l01Finite_F, true)]
theorem spec_l02Finite_hO : OrcOk Try.prog (tabD spec_l02Finite_tab) (tabM spec_l02Finite_tab) := tabD_cons spec_l01Finite_Fok (tabD_nil _)
theorem spec_l02Finite_l0_be (v35 : List Nat) (s : Int) : bodyT TT (tabD spec_l02Finite_tab) (tabM spec_l02Finite_tab) (spec_l02Finite_LO v35) 0 spec_l02Finite_l0_kill spec_l02Finite_l0_nx (bodyOf Try.f140 0) 0 (spec_l02Finite_l0_E v35 s) = (spec_l02Finite_l0_T v35 s).bind fun y => .leaf (outS (spec_l02Finite_l0_E v35) (spec_l02Finite_l0_X v35) y) := by kernel_rfl
theorem spec_l02Finite_l0_ok (v35 : List Nat) : LSound Try.prog 0 (spec_l02Finite_LO v35) 0 (bodyOf Try.f140 0) := by
  intro e L out h
  exact lo_ok (E := spec_l02Finite_l0_E v35) (gT := spec_l02Finite_l0_T v35) (X := spec_l02Finite_l0_X v35) (s0 := (gI (vAt e 3))) tok spec_l02Finite_hO mixed (LoopsOk_eq (l := []) (by kernel_rfl) trivial) (spec_l02Finite_l0_be v35) rfl (by intro x; (cases x with | inl b => rfl | inr x => exact rfl)) h
noncomputable def spec_l02Finite_T (v35 : List Nat) : Tree (Bool) :=
  (.need (some (spec_l02Finite_l0_E v35 (0 : Int)) = some (spec_l02Finite_l0_E v35 (0 : Int))) <|
  (.call (spec_l02Finite_l0_g v35 (0 : Int)) fun v40 =>
  (.sum v40 (fun v41 =>
   .leaf false
  ) (fun v42 =>
   .leaf true
  ))))

noncomputable def spec_l02Finite_g (v35 : List Nat) : Option (Bool) := (spec_l02Finite_T v35).run
def spec_l02Finite_enc (v35 : List Nat) (y : Bool) : Rs := (.bool y, [])
theorem spec_l02Finite_den (v35 : List Nat) : (den TT (tabD spec_l02Finite_tab) (tabM spec_l02Finite_tab) (spec_l02Finite_LO v35) (codeOf Try.f140) ([.bslc (BR.root 0) (.f32 v35)] ++ List.replicate (Try.f140.ntmps - ([.bslc (BR.root 0) (.f32 v35)] : List DV).length) .undef) []).bind (retD TT Try.f140.results.toList 0) = (spec_l02Finite_T v35).bind fun y => .leaf (spec_l02Finite_enc v35 y) := by kernel_rfl
theorem spec_l02Finite_fn (v35 : List Nat) (F : Fr) (h0 : St F [] F.H0) (hA : DVs.Ok F [] [.bslc (BR.root 0) (.f32 v35)]) {y : Bool} (hy : spec_l02Finite_g v35 = some y) : ∃ F' H', Fwd 0 F F' [] (spec_l02Finite_enc v35 y).2 ∧ FnOk Try.prog 140 (DVs.av F [.bslc (BR.root 0) (.f32 v35)]) F.H0 ((spec_l02Finite_enc v35 y).1.av F') H' ∧ St F' (spec_l02Finite_enc v35 y).2 H' ∧ (spec_l02Finite_enc v35 y).1.Ok F' (spec_l02Finite_enc v35 y).2 :=
  fn_fin tok spec_l02Finite_hO mixed Try.func140 Try.call140 (by kernel_rfl) (LoopsOk_eq (l := [(0, bodyOf Try.f140 0)]) (by kernel_rfl) ⟨spec_l02Finite_l0_ok v35, trivial⟩) (spec_l02Finite_den v35) hy h0 hA
noncomputable def spec_l02Finite_F : DFn := fun args L =>
  match args with
  | [a1] =>
    optT (rowF32 L a1) fun v35 =>
    .call (spec_l02Finite_g v35) fun y => .leaf (.bool y, L)
  | _ => .fail
theorem spec_l02Finite_Fok : COk Try.prog 140 spec_l02Finite_F true := by
  intro F L H args r L' hs ha hr
  unfold spec_l02Finite_F at hr
  split at hr
  · rename_i a1
    obtain ⟨v35, hv35, hr⟩ := optT_run hr
    simp only [Tree.run] at hr
    obtain ⟨y, hy, hr⟩ := Option.bind_eq_some_iff.1 hr
    simp only [Tree.run, Option.some.injEq, Prod.mk.injEq] at hr
    obtain ⟨rfl, rfl⟩ := hr
    exact call_ok0 hs (fun k => (([a1.av F] : List AV)[k]?).getD .top) [a1] [.bslc (BR.root 0) (.f32 v35)] (fun F' h0 hi hρ => ⟨by simp [DVs.av, DV.av, BR.av, hρ], spec_l02Finite_fn v35 F' (st_nil hi) ⟨bslc_ok hi (by rw [h0, hρ]; exact rowF32_ok hs (DVs.okAt ha 0 rfl) hv35), trivial⟩ hy⟩) rfl
  · cases hr
/-! spec.l02Is -/
noncomputable def spec_l02Is_LO (v27 : Int) (v28 : Int) (v29 : List Nat) : LOr := fun id e L =>
  match id with
  | _ => .fail
noncomputable def spec_l02Is_tab : List (FuncId × DFn × Bool) := [(139, spec_l02Sides_F, true), (140, spec_l02Finite_F, true)]
theorem spec_l02Is_hO : OrcOk Try.prog (tabD spec_l02Is_tab) (tabM spec_l02Is_tab) := tabD_cons spec_l02Sides_Fok (tabD_cons spec_l02Finite_Fok (tabD_nil _))
noncomputable def spec_l02Is_T (v27 : Int) (v28 : Int) (v29 : List Nat) : Tree (Bool) :=
  (.br (spec_l02Sides_v v27 v28) (
   (.br (decide (((v29.length : Nat) : Int) = IntKind.i64.wrap (v27 * v28))) (
    (.call (spec_l02Finite_g v29) fun v43 =>
    .leaf v43)
   ) (
    .leaf false
   ))
  ) (
   .leaf false
  ))

noncomputable def spec_l02Is_g (v27 : Int) (v28 : Int) (v29 : List Nat) : Option (Bool) := (spec_l02Is_T v27 v28 v29).run
def spec_l02Is_enc (v27 : Int) (v28 : Int) (v29 : List Nat) (y : Bool) : Rs := (.bool y, [])
theorem spec_l02Is_den (v27 : Int) (v28 : Int) (v29 : List Nat) : (den TT (tabD spec_l02Is_tab) (tabM spec_l02Is_tab) (spec_l02Is_LO v27 v28 v29) (codeOf Try.f97) ([.bptr (BR.root 0) [.int .i64 v27, .int .i64 v28, .bslc (BR.root 1) (.f32 v29)]] ++ List.replicate (Try.f97.ntmps - ([.bptr (BR.root 0) [.int .i64 v27, .int .i64 v28, .bslc (BR.root 1) (.f32 v29)]] : List DV).length) .undef) []).bind (retD TT Try.f97.results.toList 0) = (spec_l02Is_T v27 v28 v29).bind fun y => .leaf (spec_l02Is_enc v27 v28 v29 y) := by kernel_rfl
theorem spec_l02Is_fn (v27 : Int) (v28 : Int) (v29 : List Nat) (F : Fr) (h0 : St F [] F.H0) (hA : DVs.Ok F [] [.bptr (BR.root 0) [.int .i64 v27, .int .i64 v28, .bslc (BR.root 1) (.f32 v29)]]) {y : Bool} (hy : spec_l02Is_g v27 v28 v29 = some y) : ∃ F' H', Fwd 0 F F' [] (spec_l02Is_enc v27 v28 v29 y).2 ∧ FnOk Try.prog 97 (DVs.av F [.bptr (BR.root 0) [.int .i64 v27, .int .i64 v28, .bslc (BR.root 1) (.f32 v29)]]) F.H0 ((spec_l02Is_enc v27 v28 v29 y).1.av F') H' ∧ St F' (spec_l02Is_enc v27 v28 v29 y).2 H' ∧ (spec_l02Is_enc v27 v28 v29 y).1.Ok F' (spec_l02Is_enc v27 v28 v29 y).2 :=
  fn_fin tok spec_l02Is_hO mixed Try.func97 Try.call97 (by kernel_rfl) (LoopsOk_eq (l := []) (by kernel_rfl) trivial) (spec_l02Is_den v27 v28 v29) hy h0 hA
noncomputable def spec_l02Is_F : DFn := fun args L =>
  match args with
  | [a1] =>
    optT (cellsOf L 3 a1) fun cs0 =>
    (match cs0 with
    | [.int .i64 v27, .int .i64 v28, a2] =>
    optT (rowF32 L a2) fun v29 =>
    .call (spec_l02Is_g v27 v28 v29) fun y => .leaf (.bool y, L)
    | _ => .fail)
  | _ => .fail
theorem spec_l02Is_Fok : COk Try.prog 97 spec_l02Is_F true := by
  intro F L H args r L' hs ha hr
  unfold spec_l02Is_F at hr
  split at hr
  · rename_i a1
    obtain ⟨cs0, hcp0, hr⟩ := optT_run hr
    split at hr
    · rename_i v27 v28 a2
      obtain ⟨v29, hv29, hr⟩ := optT_run hr
      simp only [Tree.run] at hr
      obtain ⟨y, hy, hr⟩ := Option.bind_eq_some_iff.1 hr
      simp only [Tree.run, Option.some.injEq, Prod.mk.injEq] at hr
      obtain ⟨rfl, rfl⟩ := hr
      exact call_ok0 hs (fun k => (([a1.av F, a2.av F] : List AV)[k]?).getD .top) [a1] [.bptr (BR.root 0) [.int .i64 v27, .int .i64 v28, .bslc (BR.root 1) (.f32 v29)]] (fun F' h0 hi hρ => ⟨by simp [DVs.av, DV.av, BR.av, hρ], spec_l02Is_fn v27 v28 v29 F' (st_nil hi) ⟨bptr_ok hi (by rw [h0]; simpa [DVs.av, DV.av, BR.av, hρ] using (cellsOf_ok hs (DVs.okAt ha 0 rfl) hcp0).1) ⟨trivial, trivial, bslc_ok hi (by rw [h0, hρ]; exact rowF32_ok hs (DVs.okAt (cellsOf_ok hs (DVs.okAt ha 0 rfl) hcp0).2 2 rfl) hv29), trivial⟩, trivial⟩ hy⟩) rfl
    · cases hr
  · cases hr
/-! spec.l02Least -/
noncomputable def spec_l02Least_LO (v45 : Nat) : LOr := fun id e L =>
  match id with
  | _ => .fail
noncomputable def spec_l02Least_tab : List (FuncId × DFn × Bool) := [(102, spec_l01Finite_F, true)]
theorem spec_l02Least_hO : OrcOk Try.prog (tabD spec_l02Least_tab) (tabM spec_l02Least_tab) := tabD_cons spec_l01Finite_Fok (tabD_nil _)
noncomputable def spec_l02Least_T (v45 : Nat) : Tree (Bool) :=
  (.br (spec_l01Finite_v v45) (
   .leaf (fgrt .f32 v45 (0 : Nat) || feq .f32 v45 (0 : Nat))
  ) (
   .leaf false
  ))

noncomputable def spec_l02Least_g (v45 : Nat) : Option (Bool) := (spec_l02Least_T v45).run
def spec_l02Least_enc (v45 : Nat) (y : Bool) : Rs := (.bool y, [])
theorem spec_l02Least_den (v45 : Nat) : (den TT (tabD spec_l02Least_tab) (tabM spec_l02Least_tab) (spec_l02Least_LO v45) (codeOf Try.f98) ([.flt .f32 v45] ++ List.replicate (Try.f98.ntmps - ([.flt .f32 v45] : List DV).length) .undef) []).bind (retD TT Try.f98.results.toList 0) = (spec_l02Least_T v45).bind fun y => .leaf (spec_l02Least_enc v45 y) := by kernel_rfl
theorem spec_l02Least_fn (v45 : Nat) (F : Fr) (h0 : St F [] F.H0) (hA : DVs.Ok F [] [.flt .f32 v45]) {y : Bool} (hy : spec_l02Least_g v45 = some y) : ∃ F' H', Fwd 0 F F' [] (spec_l02Least_enc v45 y).2 ∧ FnOk Try.prog 98 (DVs.av F [.flt .f32 v45]) F.H0 ((spec_l02Least_enc v45 y).1.av F') H' ∧ St F' (spec_l02Least_enc v45 y).2 H' ∧ (spec_l02Least_enc v45 y).1.Ok F' (spec_l02Least_enc v45 y).2 :=
  fn_fin tok spec_l02Least_hO mixed Try.func98 Try.call98 (by kernel_rfl) (LoopsOk_eq (l := []) (by kernel_rfl) trivial) (spec_l02Least_den v45) hy h0 hA
def spec_l02Least_v (v45 : Nat) : Bool :=
  if (spec_l01Finite_v v45) = true then (
   fgrt .f32 v45 (0 : Nat) || feq .f32 v45 (0 : Nat)
  ) else (
   false
  )
theorem spec_l02Least_tot (v45 : Nat) : spec_l02Least_g v45 = some (spec_l02Least_v v45) := by
  unfold spec_l02Least_g spec_l02Least_T spec_l02Least_v
  simp only [Tree.run]
  repeat' (first | rfl | split)
noncomputable def spec_l02Least_F : DFn := fun args L =>
  match args with
  | [.flt .f32 v45] =>
    .leaf (.bool (spec_l02Least_v v45), L)
  | _ => .fail
theorem spec_l02Least_Fok : COk Try.prog 98 spec_l02Least_F true := by
  intro F L H args r L' hs ha hr
  unfold spec_l02Least_F at hr
  split at hr
  · rename_i v45
    have hy := spec_l02Least_tot v45
    generalize spec_l02Least_v v45 = y at hy hr
    simp only [Tree.run, Option.some.injEq, Prod.mk.injEq] at hr
    obtain ⟨rfl, rfl⟩ := hr
    exact call_ok0 hs (fun k => (([] : List AV)[k]?).getD .top) [.flt .f32 v45] [.flt .f32 v45] (fun F' h0 hi hρ => ⟨by simp [DVs.av, DV.av, BR.av, hρ], spec_l02Least_fn v45 F' (st_nil hi) ⟨trivial, trivial⟩ hy⟩) rfl
  · cases hr
/-! spec.l02At -/
noncomputable def spec_l02At_LO (v52 : Int) (v53 : Int) (v54 : List Nat) (v55 : Int) (v56 : Int) : LOr := fun id e L =>
  match id with
  | _ => .fail
noncomputable def spec_l02At_tab : List (FuncId × DFn × Bool) := []
theorem spec_l02At_hO : OrcOk Try.prog (tabD spec_l02At_tab) (tabM spec_l02At_tab) := tabD_nil _
noncomputable def spec_l02At_T (v53 : Int) (v54 : List Nat) (v55 : Int) (v56 : Int) : Tree (Nat) :=
  (.grd (inb (IntKind.i64.wrap ((IntKind.i64.wrap (v55 * v53)) + v56)) v54.length) <|
  .leaf (nth v54 (Int.toNat (IntKind.i64.wrap ((IntKind.i64.wrap (v55 * v53)) + v56)))))

noncomputable def spec_l02At_g (v53 : Int) (v54 : List Nat) (v55 : Int) (v56 : Int) : Option (Nat) := (spec_l02At_T v53 v54 v55 v56).run
def spec_l02At_enc (v52 : Int) (v53 : Int) (v54 : List Nat) (v55 : Int) (v56 : Int) (y : Nat) : Rs := (.flt .f32 y, [])
theorem spec_l02At_den (v52 : Int) (v53 : Int) (v54 : List Nat) (v55 : Int) (v56 : Int) : (den TT (tabD spec_l02At_tab) (tabM spec_l02At_tab) (spec_l02At_LO v52 v53 v54 v55 v56) (codeOf Try.f141) ([.bptr (BR.root 0) [.int .i64 v52, .int .i64 v53, .bslc (BR.root 1) (.f32 v54)], .int .i64 v55, .int .i64 v56] ++ List.replicate (Try.f141.ntmps - ([.bptr (BR.root 0) [.int .i64 v52, .int .i64 v53, .bslc (BR.root 1) (.f32 v54)], .int .i64 v55, .int .i64 v56] : List DV).length) .undef) []).bind (retD TT Try.f141.results.toList 0) = (spec_l02At_T v53 v54 v55 v56).bind fun y => .leaf (spec_l02At_enc v52 v53 v54 v55 v56 y) := by kernel_rfl
theorem spec_l02At_fn (v52 : Int) (v53 : Int) (v54 : List Nat) (v55 : Int) (v56 : Int) (F : Fr) (h0 : St F [] F.H0) (hA : DVs.Ok F [] [.bptr (BR.root 0) [.int .i64 v52, .int .i64 v53, .bslc (BR.root 1) (.f32 v54)], .int .i64 v55, .int .i64 v56]) {y : Nat} (hy : spec_l02At_g v53 v54 v55 v56 = some y) : ∃ F' H', Fwd 0 F F' [] (spec_l02At_enc v52 v53 v54 v55 v56 y).2 ∧ FnOk Try.prog 141 (DVs.av F [.bptr (BR.root 0) [.int .i64 v52, .int .i64 v53, .bslc (BR.root 1) (.f32 v54)], .int .i64 v55, .int .i64 v56]) F.H0 ((spec_l02At_enc v52 v53 v54 v55 v56 y).1.av F') H' ∧ St F' (spec_l02At_enc v52 v53 v54 v55 v56 y).2 H' ∧ (spec_l02At_enc v52 v53 v54 v55 v56 y).1.Ok F' (spec_l02At_enc v52 v53 v54 v55 v56 y).2 :=
  fn_fin tok spec_l02At_hO mixed Try.func141 Try.call141 (by kernel_rfl) (LoopsOk_eq (l := []) (by kernel_rfl) trivial) (spec_l02At_den v52 v53 v54 v55 v56) hy h0 hA
noncomputable def spec_l02At_F : DFn := fun args L =>
  match args with
  | [a1, .int .i64 v55, .int .i64 v56] =>
    optT (cellsOf L 3 a1) fun cs0 =>
    (match cs0 with
    | [.int .i64 v52, .int .i64 v53, a2] =>
    optT (rowF32 L a2) fun v54 =>
    .call (spec_l02At_g v53 v54 v55 v56) fun y => .leaf (.flt .f32 y, L)
    | _ => .fail)
  | _ => .fail
theorem spec_l02At_Fok : COk Try.prog 141 spec_l02At_F true := by
  intro F L H args r L' hs ha hr
  unfold spec_l02At_F at hr
  split at hr
  · rename_i a1 v55 v56
    obtain ⟨cs0, hcp0, hr⟩ := optT_run hr
    split at hr
    · rename_i v52 v53 a2
      obtain ⟨v54, hv54, hr⟩ := optT_run hr
      simp only [Tree.run] at hr
      obtain ⟨y, hy, hr⟩ := Option.bind_eq_some_iff.1 hr
      simp only [Tree.run, Option.some.injEq, Prod.mk.injEq] at hr
      obtain ⟨rfl, rfl⟩ := hr
      exact call_ok0 hs (fun k => (([a1.av F, a2.av F] : List AV)[k]?).getD .top) [a1, .int .i64 v55, .int .i64 v56] [.bptr (BR.root 0) [.int .i64 v52, .int .i64 v53, .bslc (BR.root 1) (.f32 v54)], .int .i64 v55, .int .i64 v56] (fun F' h0 hi hρ => ⟨by simp [DVs.av, DV.av, BR.av, hρ], spec_l02At_fn v52 v53 v54 v55 v56 F' (st_nil hi) ⟨bptr_ok hi (by rw [h0]; simpa [DVs.av, DV.av, BR.av, hρ] using (cellsOf_ok hs (DVs.okAt ha 0 rfl) hcp0).1) ⟨trivial, trivial, bslc_ok hi (by rw [h0, hρ]; exact rowF32_ok hs (DVs.okAt (cellsOf_ok hs (DVs.okAt ha 0 rfl) hcp0).2 2 rfl) hv54), trivial⟩, trivial, trivial, trivial⟩ hy⟩) rfl
    · cases hr
  · cases hr
/-! spec.l03Column -/
noncomputable def spec_l03Column_l0_T (v47 : Int) (v48 : Int) (v49 : List Nat) (v50 : Int) (s : Int × (List Nat)) : Tree ((Int × (List Nat)) ⊕ ((List Nat))) :=
  (.br (decide (s.1 < v47)) (
   (.call (spec_l02At_g v48 v49 s.1 v50) fun v63 =>
   (.grd (fits (s.2 ++ ([v63] : List Nat)).length) <|
   .leaf (.inl (IntKind.i64.wrap (s.1 + (1 : Int)), s.2 ++ ([v63] : List Nat)))))
  ) (
   .leaf (.inr s.2)
  ))

noncomputable def spec_l03Column_l0_g (v47 : Int) (v48 : Int) (v49 : List Nat) (v50 : Int) (s0 : Int × (List Nat)) : Option ((List Nat)) := whileM (fun s => (spec_l03Column_l0_T v47 v48 v49 v50 s).run) s0
def spec_l03Column_l0_E (v47 : Int) (v48 : Int) (v49 : List Nat) (v50 : Int) (s : Int × (List Nat)) : Sd := ([.bptr (BR.root 0) [.int .i64 v47, .int .i64 v48, .bslc (BR.root 1) (.f32 v49)],.int .i64 v50,tp,tp,tp,.own 0 0 ((s.2).length),.int .i64 s.1,tp,tp,tp,tp,tp,tp,tp,tp,tp,tp,tp,tp,tp,tp,tp,tp,tp], [.row (.f32 s.2) 0])
def spec_l03Column_l0_X (v47 : Int) (v48 : Int) (v49 : List Nat) (v50 : Int) (x : (List Nat)) : Out := (.normal, [tp,tp,tp,tp,tp,.own 0 0 ((x).length),tp,tp,tp,tp,tp,tp,tp,tp,tp,tp,tp,tp,tp,tp,tp,tp,tp,tp], [.row (.f32 x) 0])
def spec_l03Column_l0_kill : List Nat := KL true [0,2,3,2,17]
def spec_l03Column_l0_nx : Exit → List Nat
  | .exit 0 => KL true [5,1,18]
  | .ret => KL true [4,1,19]
  | _ => []
noncomputable def spec_l03Column_LO (v47 : Int) (v48 : Int) (v49 : List Nat) (v50 : Int) : LOr := fun id e L =>
  match id with
  | 0 => .need (normA 0 spec_l03Column_l0_kill e L = some (spec_l03Column_l0_E v47 v48 v49 v50 ((gI (vAt e 6)), (gRF L (vAt e 5))))) (.call (spec_l03Column_l0_g v47 v48 v49 v50 ((gI (vAt e 6)), (gRF L (vAt e 5)))) fun x => .leaf (spec_l03Column_l0_X v47 v48 v49 v50 x))
  | _ => .fail
noncomputable def spec_l03Column_tab : List (FuncId × DFn × Bool) := [(141, spec_l02At_F, true)]
theorem spec_l03Column_hO : OrcOk Try.prog (tabD spec_l03Column_tab) (tabM spec_l03Column_tab) := tabD_cons spec_l02At_Fok (tabD_nil _)
theorem spec_l03Column_l0_be (v47 : Int) (v48 : Int) (v49 : List Nat) (v50 : Int) (s : Int × (List Nat)) : bodyT TT (tabD spec_l03Column_tab) (tabM spec_l03Column_tab) (spec_l03Column_LO v47 v48 v49 v50) 0 spec_l03Column_l0_kill spec_l03Column_l0_nx (bodyOf Try.f99 0) 0 (spec_l03Column_l0_E v47 v48 v49 v50 s) = (spec_l03Column_l0_T v47 v48 v49 v50 s).bind fun y => .leaf (outS (spec_l03Column_l0_E v47 v48 v49 v50) (spec_l03Column_l0_X v47 v48 v49 v50) y) := by kernel_rfl
theorem spec_l03Column_l0_ok (v47 : Int) (v48 : Int) (v49 : List Nat) (v50 : Int) : LSound Try.prog 0 (spec_l03Column_LO v47 v48 v49 v50) 0 (bodyOf Try.f99 0) := by
  intro e L out h
  exact lo_ok (E := spec_l03Column_l0_E v47 v48 v49 v50) (gT := spec_l03Column_l0_T v47 v48 v49 v50) (X := spec_l03Column_l0_X v47 v48 v49 v50) (s0 := ((gI (vAt e 6)), (gRF L (vAt e 5)))) tok spec_l03Column_hO mixed (LoopsOk_eq (l := []) (by kernel_rfl) trivial) (spec_l03Column_l0_be v47 v48 v49 v50) rfl (by intro x; rfl) h
noncomputable def spec_l03Column_T (v47 : Int) (v48 : Int) (v49 : List Nat) (v50 : Int) : Tree ((List Nat)) :=
  (.need (some (spec_l03Column_l0_E v47 v48 v49 v50 ((0 : Int), ([] : List Nat))) = some (spec_l03Column_l0_E v47 v48 v49 v50 ((0 : Int), ([] : List Nat)))) <|
  (.call (spec_l03Column_l0_g v47 v48 v49 v50 ((0 : Int), ([] : List Nat))) fun v64 =>
  .leaf v64))

noncomputable def spec_l03Column_g (v47 : Int) (v48 : Int) (v49 : List Nat) (v50 : Int) : Option ((List Nat)) := (spec_l03Column_T v47 v48 v49 v50).run
def spec_l03Column_enc (v47 : Int) (v48 : Int) (v49 : List Nat) (v50 : Int) (y : (List Nat)) : Rs := (.own 0 0 ((y).length), [.row (.f32 y) 0])
theorem spec_l03Column_den (v47 : Int) (v48 : Int) (v49 : List Nat) (v50 : Int) : (den TT (tabD spec_l03Column_tab) (tabM spec_l03Column_tab) (spec_l03Column_LO v47 v48 v49 v50) (codeOf Try.f99) ([.bptr (BR.root 0) [.int .i64 v47, .int .i64 v48, .bslc (BR.root 1) (.f32 v49)], .int .i64 v50] ++ List.replicate (Try.f99.ntmps - ([.bptr (BR.root 0) [.int .i64 v47, .int .i64 v48, .bslc (BR.root 1) (.f32 v49)], .int .i64 v50] : List DV).length) .undef) []).bind (retD TT Try.f99.results.toList 0) = (spec_l03Column_T v47 v48 v49 v50).bind fun y => .leaf (spec_l03Column_enc v47 v48 v49 v50 y) := by kernel_rfl
theorem spec_l03Column_fn (v47 : Int) (v48 : Int) (v49 : List Nat) (v50 : Int) (F : Fr) (h0 : St F [] F.H0) (hA : DVs.Ok F [] [.bptr (BR.root 0) [.int .i64 v47, .int .i64 v48, .bslc (BR.root 1) (.f32 v49)], .int .i64 v50]) {y : (List Nat)} (hy : spec_l03Column_g v47 v48 v49 v50 = some y) : ∃ F' H', Fwd 0 F F' [] (spec_l03Column_enc v47 v48 v49 v50 y).2 ∧ FnOk Try.prog 99 (DVs.av F [.bptr (BR.root 0) [.int .i64 v47, .int .i64 v48, .bslc (BR.root 1) (.f32 v49)], .int .i64 v50]) F.H0 ((spec_l03Column_enc v47 v48 v49 v50 y).1.av F') H' ∧ St F' (spec_l03Column_enc v47 v48 v49 v50 y).2 H' ∧ (spec_l03Column_enc v47 v48 v49 v50 y).1.Ok F' (spec_l03Column_enc v47 v48 v49 v50 y).2 :=
  fn_fin tok spec_l03Column_hO mixed Try.func99 Try.call99 (by kernel_rfl) (LoopsOk_eq (l := [(0, bodyOf Try.f99 0)]) (by kernel_rfl) ⟨spec_l03Column_l0_ok v47 v48 v49 v50, trivial⟩) (spec_l03Column_den v47 v48 v49 v50) hy h0 hA
noncomputable def spec_l03Column_F : DFn := fun args L =>
  match args with
  | [a1, .int .i64 v50] =>
    optT (cellsOf L 3 a1) fun cs0 =>
    (match cs0 with
    | [.int .i64 v47, .int .i64 v48, a2] =>
    optT (rowF32 L a2) fun v49 =>
    .call (spec_l03Column_g v47 v48 v49 v50) fun y => .leaf (.own (L.length + 0) 0 ((y).length), L ++ [.row (.f32 y) 0])
    | _ => .fail)
  | _ => .fail
theorem spec_l03Column_Fok : COk Try.prog 99 spec_l03Column_F true := by
  intro F L H args r L' hs ha hr
  unfold spec_l03Column_F at hr
  split at hr
  · rename_i a1 v50
    obtain ⟨cs0, hcp0, hr⟩ := optT_run hr
    split at hr
    · rename_i v47 v48 a2
      obtain ⟨v49, hv49, hr⟩ := optT_run hr
      simp only [Tree.run] at hr
      obtain ⟨y, hy, hr⟩ := Option.bind_eq_some_iff.1 hr
      simp only [Tree.run, Option.some.injEq, Prod.mk.injEq] at hr
      obtain ⟨rfl, rfl⟩ := hr
      exact call_ok1 hs (fun k => (([a1.av F, a2.av F] : List AV)[k]?).getD .top) [a1, .int .i64 v50] [.bptr (BR.root 0) [.int .i64 v47, .int .i64 v48, .bslc (BR.root 1) (.f32 v49)], .int .i64 v50] (fun F' h0 hi hρ => ⟨by simp [DVs.av, DV.av, BR.av, hρ], spec_l03Column_fn v47 v48 v49 v50 F' (st_nil hi) ⟨bptr_ok hi (by rw [h0]; simpa [DVs.av, DV.av, BR.av, hρ] using (cellsOf_ok hs (DVs.okAt ha 0 rfl) hcp0).1) ⟨trivial, trivial, bslc_ok hi (by rw [h0, hρ]; exact rowF32_ok hs (DVs.okAt (cellsOf_ok hs (DVs.okAt ha 0 rfl) hcp0).2 2 rfl) hv49), trivial⟩, trivial, trivial⟩ hy⟩) rfl rfl
    · cases hr
  · cases hr
/-! spec.l03Count -/
noncomputable def spec_l03Count_l0_T (v75 : Int) (s : Int × (List Int)) : Tree ((Int × (List Int)) ⊕ ((List Int))) :=
  (.br (decide (s.1 < v75)) (
   (.grd (fits (s.2 ++ ([s.1] : List Int)).length) <|
   .leaf (.inl (IntKind.i64.wrap (s.1 + (1 : Int)), s.2 ++ ([s.1] : List Int))))
  ) (
   .leaf (.inr s.2)
  ))

noncomputable def spec_l03Count_l0_g (v75 : Int) (s0 : Int × (List Int)) : Option ((List Int)) := whileM (fun s => (spec_l03Count_l0_T v75 s).run) s0
def spec_l03Count_l0_E (v75 : Int) (s : Int × (List Int)) : Sd := ([.int .i64 v75,tp,tp,.own 0 0 ((s.2).length),.int .i64 s.1,tp,tp,tp,tp,tp,tp,tp,tp,tp,tp,tp], [.row (.i64 s.2) 0])
def spec_l03Count_l0_X (v75 : Int) (x : (List Int)) : Out := (.normal, [tp,tp,tp,.own 0 0 ((x).length),tp,tp,tp,tp,tp,tp,tp,tp,tp,tp,tp,tp], [.row (.i64 x) 0])
def spec_l03Count_l0_kill : List Nat := KL true [0,1,2,2,11]
def spec_l03Count_l0_nx : Exit → List Nat
  | .exit 0 => KL true [3,1,12]
  | .ret => KL true [2,1,13]
  | _ => []
noncomputable def spec_l03Count_LO (v75 : Int) : LOr := fun id e L =>
  match id with
  | 0 => .need (normA 0 spec_l03Count_l0_kill e L = some (spec_l03Count_l0_E v75 ((gI (vAt e 4)), (gRI L (vAt e 3))))) (.call (spec_l03Count_l0_g v75 ((gI (vAt e 4)), (gRI L (vAt e 3)))) fun x => .leaf (spec_l03Count_l0_X v75 x))
  | _ => .fail
noncomputable def spec_l03Count_tab : List (FuncId × DFn × Bool) := []
theorem spec_l03Count_hO : OrcOk Try.prog (tabD spec_l03Count_tab) (tabM spec_l03Count_tab) := tabD_nil _
theorem spec_l03Count_l0_be (v75 : Int) (s : Int × (List Int)) : bodyT TT (tabD spec_l03Count_tab) (tabM spec_l03Count_tab) (spec_l03Count_LO v75) 0 spec_l03Count_l0_kill spec_l03Count_l0_nx (bodyOf Try.f100 0) 0 (spec_l03Count_l0_E v75 s) = (spec_l03Count_l0_T v75 s).bind fun y => .leaf (outS (spec_l03Count_l0_E v75) (spec_l03Count_l0_X v75) y) := by kernel_rfl
theorem spec_l03Count_l0_ok (v75 : Int) : LSound Try.prog 0 (spec_l03Count_LO v75) 0 (bodyOf Try.f100 0) := by
  intro e L out h
  exact lo_ok (E := spec_l03Count_l0_E v75) (gT := spec_l03Count_l0_T v75) (X := spec_l03Count_l0_X v75) (s0 := ((gI (vAt e 4)), (gRI L (vAt e 3)))) tok spec_l03Count_hO mixed (LoopsOk_eq (l := []) (by kernel_rfl) trivial) (spec_l03Count_l0_be v75) rfl (by intro x; rfl) h
noncomputable def spec_l03Count_T (v75 : Int) : Tree ((List Int)) :=
  (.need (some (spec_l03Count_l0_E v75 ((0 : Int), ([] : List Int))) = some (spec_l03Count_l0_E v75 ((0 : Int), ([] : List Int)))) <|
  (.call (spec_l03Count_l0_g v75 ((0 : Int), ([] : List Int))) fun v81 =>
  .leaf v81))

noncomputable def spec_l03Count_g (v75 : Int) : Option ((List Int)) := (spec_l03Count_T v75).run
def spec_l03Count_enc (v75 : Int) (y : (List Int)) : Rs := (.own 0 0 ((y).length), [.row (.i64 y) 0])
theorem spec_l03Count_den (v75 : Int) : (den TT (tabD spec_l03Count_tab) (tabM spec_l03Count_tab) (spec_l03Count_LO v75) (codeOf Try.f100) ([.int .i64 v75] ++ List.replicate (Try.f100.ntmps - ([.int .i64 v75] : List DV).length) .undef) []).bind (retD TT Try.f100.results.toList 0) = (spec_l03Count_T v75).bind fun y => .leaf (spec_l03Count_enc v75 y) := by kernel_rfl
theorem spec_l03Count_fn (v75 : Int) (F : Fr) (h0 : St F [] F.H0) (hA : DVs.Ok F [] [.int .i64 v75]) {y : (List Int)} (hy : spec_l03Count_g v75 = some y) : ∃ F' H', Fwd 0 F F' [] (spec_l03Count_enc v75 y).2 ∧ FnOk Try.prog 100 (DVs.av F [.int .i64 v75]) F.H0 ((spec_l03Count_enc v75 y).1.av F') H' ∧ St F' (spec_l03Count_enc v75 y).2 H' ∧ (spec_l03Count_enc v75 y).1.Ok F' (spec_l03Count_enc v75 y).2 :=
  fn_fin tok spec_l03Count_hO mixed Try.func100 Try.call100 (by kernel_rfl) (LoopsOk_eq (l := [(0, bodyOf Try.f100 0)]) (by kernel_rfl) ⟨spec_l03Count_l0_ok v75, trivial⟩) (spec_l03Count_den v75) hy h0 hA
noncomputable def spec_l03Count_F : DFn := fun args L =>
  match args with
  | [.int .i64 v75] =>
    .call (spec_l03Count_g v75) fun y => .leaf (.own (L.length + 0) 0 ((y).length), L ++ [.row (.i64 y) 0])
  | _ => .fail
theorem spec_l03Count_Fok : COk Try.prog 100 spec_l03Count_F true := by
  intro F L H args r L' hs ha hr
  unfold spec_l03Count_F at hr
  split at hr
  · rename_i v75
    simp only [Tree.run] at hr
    obtain ⟨y, hy, hr⟩ := Option.bind_eq_some_iff.1 hr
    simp only [Tree.run, Option.some.injEq, Prod.mk.injEq] at hr
    obtain ⟨rfl, rfl⟩ := hr
    exact call_ok1 hs (fun k => (([] : List AV)[k]?).getD .top) [.int .i64 v75] [.int .i64 v75] (fun F' h0 hi hρ => ⟨by simp [DVs.av, DV.av, BR.av, hρ], spec_l03Count_fn v75 F' (st_nil hi) ⟨trivial, trivial⟩ hy⟩) rfl rfl
  · cases hr
/-! spec.l02Dot -/
noncomputable def spec_l02Dot_l0_T (v96 : List Nat) (v97 : List Nat) (s : Nat × Int) : Tree ((Nat × Int) ⊕ (Nat)) :=
  (.br (decide (s.2 < ((v96.length : Nat) : Int))) (
   (.grd (inb s.2 v96.length) <|
   (.grd (inb s.2 v97.length) <|
   .leaf (.inl (fadd .f32 s.1 (fmul .f32 (nth v96 (Int.toNat s.2)) (nth v97 (Int.toNat s.2))), IntKind.i64.wrap (s.2 + (1 : Int))))))
  ) (
   .leaf (.inr s.1)
  ))

noncomputable def spec_l02Dot_l0_g (v96 : List Nat) (v97 : List Nat) (s0 : Nat × Int) : Option (Nat) := whileM (fun s => (spec_l02Dot_l0_T v96 v97 s).run) s0
def spec_l02Dot_l0_E (v96 : List Nat) (v97 : List Nat) (s : Nat × Int) : Sd := ([.bslc (BR.root 0) (.f32 v96),.bslc (BR.root 1) (.f32 v97),tp,tp,tp,.flt .f32 s.1,.int .i64 s.2,tp,tp,tp,tp,tp,tp,tp,tp,tp,tp,tp,tp,tp,tp,tp,tp,tp,tp], [])
def spec_l02Dot_l0_X (v96 : List Nat) (v97 : List Nat) (x : Nat) : Out := (.normal, [tp,tp,tp,tp,tp,.flt .f32 x,tp,tp,tp,tp,tp,tp,tp,tp,tp,tp,tp,tp,tp,tp,tp,tp,tp,tp,tp], [])
def spec_l02Dot_l0_kill : List Nat := KL true [0,2,3,2,18]
def spec_l02Dot_l0_nx : Exit → List Nat
  | .exit 0 => KL true [5,1,19]
  | .ret => KL true [4,1,20]
  | _ => []
noncomputable def spec_l02Dot_LO (v96 : List Nat) (v97 : List Nat) : LOr := fun id e L =>
  match id with
  | 0 => .need (normA 0 spec_l02Dot_l0_kill e L = some (spec_l02Dot_l0_E v96 v97 ((gF (vAt e 5)), (gI (vAt e 6))))) (.call (spec_l02Dot_l0_g v96 v97 ((gF (vAt e 5)), (gI (vAt e 6)))) fun x => .leaf (spec_l02Dot_l0_X v96 v97 x))
  | _ => .fail
noncomputable def spec_l02Dot_tab : List (FuncId × DFn × Bool) := []
theorem spec_l02Dot_hO : OrcOk Try.prog (tabD spec_l02Dot_tab) (tabM spec_l02Dot_tab) := tabD_nil _
theorem spec_l02Dot_l0_be (v96 : List Nat) (v97 : List Nat) (s : Nat × Int) : bodyT TT (tabD spec_l02Dot_tab) (tabM spec_l02Dot_tab) (spec_l02Dot_LO v96 v97) 0 spec_l02Dot_l0_kill spec_l02Dot_l0_nx (bodyOf Try.f101 0) 0 (spec_l02Dot_l0_E v96 v97 s) = (spec_l02Dot_l0_T v96 v97 s).bind fun y => .leaf (outS (spec_l02Dot_l0_E v96 v97) (spec_l02Dot_l0_X v96 v97) y) := by kernel_rfl
theorem spec_l02Dot_l0_ok (v96 : List Nat) (v97 : List Nat) : LSound Try.prog 0 (spec_l02Dot_LO v96 v97) 0 (bodyOf Try.f101 0) := by
  intro e L out h
  exact lo_ok (E := spec_l02Dot_l0_E v96 v97) (gT := spec_l02Dot_l0_T v96 v97) (X := spec_l02Dot_l0_X v96 v97) (s0 := ((gF (vAt e 5)), (gI (vAt e 6)))) tok spec_l02Dot_hO mixed (LoopsOk_eq (l := []) (by kernel_rfl) trivial) (spec_l02Dot_l0_be v96 v97) rfl (by intro x; rfl) h
noncomputable def spec_l02Dot_T (v96 : List Nat) (v97 : List Nat) : Tree (Nat) :=
  (.need (some (spec_l02Dot_l0_E v96 v97 ((0 : Nat), (0 : Int))) = some (spec_l02Dot_l0_E v96 v97 ((0 : Nat), (0 : Int)))) <|
  (.call (spec_l02Dot_l0_g v96 v97 ((0 : Nat), (0 : Int))) fun v104 =>
  .leaf v104))

noncomputable def spec_l02Dot_g (v96 : List Nat) (v97 : List Nat) : Option (Nat) := (spec_l02Dot_T v96 v97).run
def spec_l02Dot_enc (v96 : List Nat) (v97 : List Nat) (y : Nat) : Rs := (.flt .f32 y, [])
theorem spec_l02Dot_den (v96 : List Nat) (v97 : List Nat) : (den TT (tabD spec_l02Dot_tab) (tabM spec_l02Dot_tab) (spec_l02Dot_LO v96 v97) (codeOf Try.f101) ([.bslc (BR.root 0) (.f32 v96), .bslc (BR.root 1) (.f32 v97)] ++ List.replicate (Try.f101.ntmps - ([.bslc (BR.root 0) (.f32 v96), .bslc (BR.root 1) (.f32 v97)] : List DV).length) .undef) []).bind (retD TT Try.f101.results.toList 0) = (spec_l02Dot_T v96 v97).bind fun y => .leaf (spec_l02Dot_enc v96 v97 y) := by kernel_rfl
theorem spec_l02Dot_fn (v96 : List Nat) (v97 : List Nat) (F : Fr) (h0 : St F [] F.H0) (hA : DVs.Ok F [] [.bslc (BR.root 0) (.f32 v96), .bslc (BR.root 1) (.f32 v97)]) {y : Nat} (hy : spec_l02Dot_g v96 v97 = some y) : ∃ F' H', Fwd 0 F F' [] (spec_l02Dot_enc v96 v97 y).2 ∧ FnOk Try.prog 101 (DVs.av F [.bslc (BR.root 0) (.f32 v96), .bslc (BR.root 1) (.f32 v97)]) F.H0 ((spec_l02Dot_enc v96 v97 y).1.av F') H' ∧ St F' (spec_l02Dot_enc v96 v97 y).2 H' ∧ (spec_l02Dot_enc v96 v97 y).1.Ok F' (spec_l02Dot_enc v96 v97 y).2 :=
  fn_fin tok spec_l02Dot_hO mixed Try.func101 Try.call101 (by kernel_rfl) (LoopsOk_eq (l := [(0, bodyOf Try.f101 0)]) (by kernel_rfl) ⟨spec_l02Dot_l0_ok v96 v97, trivial⟩) (spec_l02Dot_den v96 v97) hy h0 hA
noncomputable def spec_l02Dot_F : DFn := fun args L =>
  match args with
  | [a1, a2] =>
    optT (rowF32 L a1) fun v96 =>
    optT (rowF32 L a2) fun v97 =>
    .call (spec_l02Dot_g v96 v97) fun y => .leaf (.flt .f32 y, L)
  | _ => .fail
theorem spec_l02Dot_Fok : COk Try.prog 101 spec_l02Dot_F true := by
  intro F L H args r L' hs ha hr
  unfold spec_l02Dot_F at hr
  split at hr
  · rename_i a1 a2
    obtain ⟨v96, hv96, hr⟩ := optT_run hr
    obtain ⟨v97, hv97, hr⟩ := optT_run hr
    simp only [Tree.run] at hr
    obtain ⟨y, hy, hr⟩ := Option.bind_eq_some_iff.1 hr
    simp only [Tree.run, Option.some.injEq, Prod.mk.injEq] at hr
    obtain ⟨rfl, rfl⟩ := hr
    exact call_ok0 hs (fun k => (([a1.av F, a2.av F] : List AV)[k]?).getD .top) [a1, a2] [.bslc (BR.root 0) (.f32 v96), .bslc (BR.root 1) (.f32 v97)] (fun F' h0 hi hρ => ⟨by simp [DVs.av, DV.av, BR.av, hρ], spec_l02Dot_fn v96 v97 F' (st_nil hi) ⟨bslc_ok hi (by rw [h0, hρ]; exact rowF32_ok hs (DVs.okAt ha 0 rfl) hv96), bslc_ok hi (by rw [h0, hρ]; exact rowF32_ok hs (DVs.okAt ha 1 rfl) hv97), trivial⟩ hy⟩) rfl
  · cases hr
/-! math.Sqrt -/
noncomputable def math_Sqrt_LO (v128 : Nat) : LOr := fun id e L =>
  match id with
  | _ => .fail
noncomputable def math_Sqrt_tab : List (FuncId × DFn × Bool) := [(161, Sqrt_F, true)]
theorem math_Sqrt_hO : OrcOk Try.prog (tabD math_Sqrt_tab) (tabM math_Sqrt_tab) := tabD_cons Sqrt_Fok (tabD_nil _)
noncomputable def math_Sqrt_T (v128 : Nat) : Tree (Nat) :=
  .leaf (fsqrt v128)

noncomputable def math_Sqrt_g (v128 : Nat) : Option (Nat) := (math_Sqrt_T v128).run
def math_Sqrt_enc (v128 : Nat) (y : Nat) : Rs := (.flt .f64 y, [])
theorem math_Sqrt_den (v128 : Nat) : (den TT (tabD math_Sqrt_tab) (tabM math_Sqrt_tab) (math_Sqrt_LO v128) (codeOf Try.f143) ([.flt .f64 v128] ++ List.replicate (Try.f143.ntmps - ([.flt .f64 v128] : List DV).length) .undef) []).bind (retD TT Try.f143.results.toList 0) = (math_Sqrt_T v128).bind fun y => .leaf (math_Sqrt_enc v128 y) := by kernel_rfl
theorem math_Sqrt_fn (v128 : Nat) (F : Fr) (h0 : St F [] F.H0) (hA : DVs.Ok F [] [.flt .f64 v128]) {y : Nat} (hy : math_Sqrt_g v128 = some y) : ∃ F' H', Fwd 0 F F' [] (math_Sqrt_enc v128 y).2 ∧ FnOk Try.prog 143 (DVs.av F [.flt .f64 v128]) F.H0 ((math_Sqrt_enc v128 y).1.av F') H' ∧ St F' (math_Sqrt_enc v128 y).2 H' ∧ (math_Sqrt_enc v128 y).1.Ok F' (math_Sqrt_enc v128 y).2 :=
  fn_fin tok math_Sqrt_hO mixed Try.func143 Try.call143 (by kernel_rfl) (LoopsOk_eq (l := []) (by kernel_rfl) trivial) (math_Sqrt_den v128) hy h0 hA
def math_Sqrt_v (v128 : Nat) : Nat :=
  fsqrt v128
theorem math_Sqrt_tot (v128 : Nat) : math_Sqrt_g v128 = some (math_Sqrt_v v128) := by
  unfold math_Sqrt_g math_Sqrt_T math_Sqrt_v
  simp only [Tree.run]
  repeat' (first | rfl | split)
noncomputable def math_Sqrt_F : DFn := fun args L =>
  match args with
  | [.flt .f64 v128] =>
    .leaf (.flt .f64 (math_Sqrt_v v128), L)
  | _ => .fail
theorem math_Sqrt_Fok : COk Try.prog 143 math_Sqrt_F true := by
  intro F L H args r L' hs ha hr
  unfold math_Sqrt_F at hr
  split at hr
  · rename_i v128
    have hy := math_Sqrt_tot v128
    generalize math_Sqrt_v v128 = y at hy hr
    simp only [Tree.run, Option.some.injEq, Prod.mk.injEq] at hr
    obtain ⟨rfl, rfl⟩ := hr
    exact call_ok0 hs (fun k => (([] : List AV)[k]?).getD .top) [.flt .f64 v128] [.flt .f64 v128] (fun F' h0 hi hρ => ⟨by simp [DVs.av, DV.av, BR.av, hρ], math_Sqrt_fn v128 F' (st_nil hi) ⟨trivial, trivial⟩ hy⟩) rfl
  · cases hr
/-! spec.l01Narrow -/
noncomputable def spec_l01Narrow_LO (v129 : Nat) : LOr := fun id e L =>
  match id with
  | _ => .fail
noncomputable def spec_l01Narrow_tab : List (FuncId × DFn × Bool) := []
theorem spec_l01Narrow_hO : OrcOk Try.prog (tabD spec_l01Narrow_tab) (tabM spec_l01Narrow_tab) := tabD_nil _
noncomputable def spec_l01Narrow_T (v129 : Nat) : Tree (Nat) :=
  (.call (fconv .f64 v129 .f32) fun v130 =>
  .leaf v130)

noncomputable def spec_l01Narrow_g (v129 : Nat) : Option (Nat) := (spec_l01Narrow_T v129).run
def spec_l01Narrow_enc (v129 : Nat) (y : Nat) : Rs := (.flt .f32 y, [])
theorem spec_l01Narrow_den (v129 : Nat) : (den TT (tabD spec_l01Narrow_tab) (tabM spec_l01Narrow_tab) (spec_l01Narrow_LO v129) (codeOf Try.f142) ([.flt .f64 v129] ++ List.replicate (Try.f142.ntmps - ([.flt .f64 v129] : List DV).length) .undef) []).bind (retD TT Try.f142.results.toList 0) = (spec_l01Narrow_T v129).bind fun y => .leaf (spec_l01Narrow_enc v129 y) := by kernel_rfl
theorem spec_l01Narrow_fn (v129 : Nat) (F : Fr) (h0 : St F [] F.H0) (hA : DVs.Ok F [] [.flt .f64 v129]) {y : Nat} (hy : spec_l01Narrow_g v129 = some y) : ∃ F' H', Fwd 0 F F' [] (spec_l01Narrow_enc v129 y).2 ∧ FnOk Try.prog 142 (DVs.av F [.flt .f64 v129]) F.H0 ((spec_l01Narrow_enc v129 y).1.av F') H' ∧ St F' (spec_l01Narrow_enc v129 y).2 H' ∧ (spec_l01Narrow_enc v129 y).1.Ok F' (spec_l01Narrow_enc v129 y).2 :=
  fn_fin tok spec_l01Narrow_hO mixed Try.func142 Try.call142 (by kernel_rfl) (LoopsOk_eq (l := []) (by kernel_rfl) trivial) (spec_l01Narrow_den v129) hy h0 hA
noncomputable def spec_l01Narrow_F : DFn := fun args L =>
  match args with
  | [.flt .f64 v129] =>
    .call (spec_l01Narrow_g v129) fun y => .leaf (.flt .f32 y, L)
  | _ => .fail
theorem spec_l01Narrow_Fok : COk Try.prog 142 spec_l01Narrow_F true := by
  intro F L H args r L' hs ha hr
  unfold spec_l01Narrow_F at hr
  split at hr
  · rename_i v129
    simp only [Tree.run] at hr
    obtain ⟨y, hy, hr⟩ := Option.bind_eq_some_iff.1 hr
    simp only [Tree.run, Option.some.injEq, Prod.mk.injEq] at hr
    obtain ⟨rfl, rfl⟩ := hr
    exact call_ok0 hs (fun k => (([] : List AV)[k]?).getD .top) [.flt .f64 v129] [.flt .f64 v129] (fun F' h0 hi hρ => ⟨by simp [DVs.av, DV.av, BR.av, hρ], spec_l01Narrow_fn v129 F' (st_nil hi) ⟨trivial, trivial⟩ hy⟩) rfl
  · cases hr
/-! spec.l01Sqrt -/
noncomputable def spec_l01Sqrt_LO (v127 : Nat) : LOr := fun id e L =>
  match id with
  | _ => .fail
noncomputable def spec_l01Sqrt_tab : List (FuncId × DFn × Bool) := [(143, math_Sqrt_F, true), (142, spec_l01Narrow_F, true)]
theorem spec_l01Sqrt_hO : OrcOk Try.prog (tabD spec_l01Sqrt_tab) (tabM spec_l01Sqrt_tab) := tabD_cons math_Sqrt_Fok (tabD_cons spec_l01Narrow_Fok (tabD_nil _))
noncomputable def spec_l01Sqrt_T (v127 : Nat) : Tree (Nat) :=
  (.call (spec_l01Narrow_g (math_Sqrt_v (wid v127))) fun v131 =>
  .leaf v131)

noncomputable def spec_l01Sqrt_g (v127 : Nat) : Option (Nat) := (spec_l01Sqrt_T v127).run
def spec_l01Sqrt_enc (v127 : Nat) (y : Nat) : Rs := (.flt .f32 y, [])
theorem spec_l01Sqrt_den (v127 : Nat) : (den TT (tabD spec_l01Sqrt_tab) (tabM spec_l01Sqrt_tab) (spec_l01Sqrt_LO v127) (codeOf Try.f103) ([.flt .f32 v127] ++ List.replicate (Try.f103.ntmps - ([.flt .f32 v127] : List DV).length) .undef) []).bind (retD TT Try.f103.results.toList 0) = (spec_l01Sqrt_T v127).bind fun y => .leaf (spec_l01Sqrt_enc v127 y) := by kernel_rfl
theorem spec_l01Sqrt_fn (v127 : Nat) (F : Fr) (h0 : St F [] F.H0) (hA : DVs.Ok F [] [.flt .f32 v127]) {y : Nat} (hy : spec_l01Sqrt_g v127 = some y) : ∃ F' H', Fwd 0 F F' [] (spec_l01Sqrt_enc v127 y).2 ∧ FnOk Try.prog 103 (DVs.av F [.flt .f32 v127]) F.H0 ((spec_l01Sqrt_enc v127 y).1.av F') H' ∧ St F' (spec_l01Sqrt_enc v127 y).2 H' ∧ (spec_l01Sqrt_enc v127 y).1.Ok F' (spec_l01Sqrt_enc v127 y).2 :=
  fn_fin tok spec_l01Sqrt_hO mixed Try.func103 Try.call103 (by kernel_rfl) (LoopsOk_eq (l := []) (by kernel_rfl) trivial) (spec_l01Sqrt_den v127) hy h0 hA
noncomputable def spec_l01Sqrt_F : DFn := fun args L =>
  match args with
  | [.flt .f32 v127] =>
    .call (spec_l01Sqrt_g v127) fun y => .leaf (.flt .f32 y, L)
  | _ => .fail
theorem spec_l01Sqrt_Fok : COk Try.prog 103 spec_l01Sqrt_F true := by
  intro F L H args r L' hs ha hr
  unfold spec_l01Sqrt_F at hr
  split at hr
  · rename_i v127
    simp only [Tree.run] at hr
    obtain ⟨y, hy, hr⟩ := Option.bind_eq_some_iff.1 hr
    simp only [Tree.run, Option.some.injEq, Prod.mk.injEq] at hr
    obtain ⟨rfl, rfl⟩ := hr
    exact call_ok0 hs (fun k => (([] : List AV)[k]?).getD .top) [.flt .f32 v127] [.flt .f32 v127] (fun F' h0 hi hρ => ⟨by simp [DVs.av, DV.av, BR.av, hρ], spec_l01Sqrt_fn v127 F' (st_nil hi) ⟨trivial, trivial⟩ hy⟩) rfl
  · cases hr
/-! spec.l03Trade -/
noncomputable def spec_l03Trade_LO (v136 : List Int) (v137 : Int) (v138 : Int) : LOr := fun id e L =>
  match id with
  | _ => .fail
noncomputable def spec_l03Trade_tab : List (FuncId × DFn × Bool) := []
theorem spec_l03Trade_hO : OrcOk Try.prog (tabD spec_l03Trade_tab) (tabM spec_l03Trade_tab) := tabD_nil _
noncomputable def spec_l03Trade_T (v136 : List Int) (v137 : Int) (v138 : Int) : Tree (Unit) :=
  (.grd (inb v137 v136.length) <|
  (.grd (inb v138 v136.length) <|
  (.grd (inb v137 v136.length) <|
  (.grd (inb v138 v136.length) <|
  .leaf ()))))

noncomputable def spec_l03Trade_g (v136 : List Int) (v137 : Int) (v138 : Int) : Option (Unit) := (spec_l03Trade_T v136 v137 v138).run
def spec_l03Trade_enc (v136 : List Int) (v137 : Int) (v138 : Int) (y : Unit) : Rs := (.tup [], [.row (.i64 (List.set (List.set v136 (Int.toNat v137) (nth v136 (Int.toNat v138))) (Int.toNat v138) (nth v136 (Int.toNat v137)))) 0])
theorem spec_l03Trade_den (v136 : List Int) (v137 : Int) (v138 : Int) : (den TT (tabD spec_l03Trade_tab) (tabM spec_l03Trade_tab) (spec_l03Trade_LO v136 v137 v138) (codeOf Try.f104) ([.own 0 0 v136.length, .int .i64 v137, .int .i64 v138] ++ List.replicate (Try.f104.ntmps - ([.own 0 0 v136.length, .int .i64 v137, .int .i64 v138] : List DV).length) .undef) [.row (.i64 v136) 0]).bind (retD TT Try.f104.results.toList 1) = (spec_l03Trade_T v136 v137 v138).bind fun y => .leaf (spec_l03Trade_enc v136 v137 v138 y) := by kernel_rfl
theorem spec_l03Trade_fn (v136 : List Int) (v137 : Int) (v138 : Int) (F : Fr) (h0 : St F [.row (.i64 v136) 0] F.H0) (hA : DVs.Ok F [.row (.i64 v136) 0] [.own 0 0 v136.length, .int .i64 v137, .int .i64 v138]) {y : Unit} (hy : spec_l03Trade_g v136 v137 v138 = some y) : ∃ F' H', Fwd 1 F F' [.row (.i64 v136) 0] (spec_l03Trade_enc v136 v137 v138 y).2 ∧ FnOk Try.prog 104 (DVs.av F [.own 0 0 v136.length, .int .i64 v137, .int .i64 v138]) F.H0 ((spec_l03Trade_enc v136 v137 v138 y).1.av F') H' ∧ St F' (spec_l03Trade_enc v136 v137 v138 y).2 H' ∧ (spec_l03Trade_enc v136 v137 v138 y).1.Ok F' (spec_l03Trade_enc v136 v137 v138 y).2 :=
  fn_fin tok spec_l03Trade_hO mixed Try.func104 Try.call104 (by kernel_rfl) (LoopsOk_eq (l := []) (by kernel_rfl) trivial) (spec_l03Trade_den v136 v137 v138) hy h0 hA
noncomputable def spec_l03Trade_F : DFn := fun args L =>
  match args with
  | [a1, .int .i64 v137, .int .i64 v138] =>
    optT (ownI64 L a1) fun qv136 =>
    (match sepB [qv136.1] [] with
    | true =>
    .call (spec_l03Trade_g qv136.2 v137 v138) fun y => .grd (decide ((List.set (List.set qv136.2 (Int.toNat v137) (nth qv136.2 (Int.toNat v138))) (Int.toNat v138) (nth qv136.2 (Int.toNat v137))).length = qv136.2.length)) (.leaf (.tup [], setRows L ([qv136.1].zip [.i64 (List.set (List.set qv136.2 (Int.toNat v137) (nth qv136.2 (Int.toNat v138))) (Int.toNat v138) (nth qv136.2 (Int.toNat v137)))])))
    | false => .fail)
  | _ => .fail
theorem spec_l03Trade_Fok : COk Try.prog 104 spec_l03Trade_F false := by
  intro F L H args r L' hs ha hr
  unfold spec_l03Trade_F at hr
  split at hr
  · rename_i a1 v137 v138
    obtain ⟨⟨jv136, v136⟩, hqv136, hr⟩ := optT_run hr
    simp only at hr
    split at hr
    · rename_i hsep
      obtain ⟨hnd, hsepv⟩ := sepB_spec hsep
      simp only [Tree.run] at hr
      obtain ⟨y, hy, hr⟩ := Option.bind_eq_some_iff.1 hr
      try simp only [Tree.run] at hr
      obtain ⟨hl0, hr⟩ := ite_run hr
      simp only [Option.some.injEq, Prod.mk.injEq] at hr
      obtain ⟨rfl, rfl⟩ := hr
      obtain ⟨hr0, hu0, ha0, hb0⟩ := (ownR_spec (DVs.okAt ha 0 rfl) (ownI64_or hqv136))
      exact mut_ok hs (fun k => (([a1.av F] : List AV)[k]?).getD .top) [a1, .int .i64 v137, .int .i64 v138] [.own 0 0 v136.length, .int .i64 v137, .int .i64 v138] [jv136] [.i64 v136] [.i64 (List.set (List.set v136 (Int.toNat v137) (nth v136 (Int.toNat v138))) (Int.toNat v138) (nth v136 (Int.toNat v137)))] hnd rfl rfl (fun i j q h1 h2 => by
          rcases i with _ | i
          · simp at h1 h2; subst h1; subst h2; exact hr0
          · simp at h1) (fun i q q' h1 h2 => by
          rcases i with _ | i
          · simp at h1 h2; subst h1; subst h2; first | exact of_decide_eq_true hl0 | rfl
          · simp at h1) (fun j hj => by simp at hj; subst hj; simp [DVs.refs, DV.refs, hu0]) (fun F' h0 hρ ab hst hS => ⟨by (have ab0 := ab 0 _ rfl; simp [DVs.av, DV.av, BR.av, hρ, Row.len, ha0, ab0]), by
          obtain ⟨F1, H1, k0, k1, k2, _⟩ := spec_l03Trade_fn v136 v137 v138 F' hst ⟨⟨_, rfl, Nat.le_refl _, Nat.le_refl _, fun _ => rfl, (ownR_spec (DVs.okAt ha 0 rfl) (ownI64_or hqv136)).2.2.2⟩, trivial, trivial, trivial⟩ hy
          exact ⟨F1, H1, k0, k1, k2⟩⟩) (fun F1 F2 => rfl) (fun F L' => trivial)
    · cases hr
  · cases hr
/-! spec.MirrorRank -/
noncomputable def spec_MirrorRank_l0_T (v23 : Int) (v24 : Int) (v25 : List Nat) (s : Int × (List (List Nat)) × (List Nat)) : Tree ((Int × (List (List Nat)) × (List Nat)) ⊕ ((List (List Nat)) × (List Nat))) :=
  (.br (decide (s.1 < v24)) (
   (.call (spec_l03Column_g v23 v24 v25 s.1) fun v73 =>
   (.grd (fits (((s.2.2).length) + (1 : Nat))) <|
   .leaf (.inl (IntKind.i64.wrap (s.1 + (1 : Int)), s.2.1 ++ ([v73] : List (List Nat)), s.2.2 ++ [s.2.1.length + 1]))))
  ) (
   .leaf (.inr (s.2.1, s.2.2))
  ))

noncomputable def spec_MirrorRank_l0_g (v23 : Int) (v24 : Int) (v25 : List Nat) (s0 : Int × (List (List Nat)) × (List Nat)) : Option ((List (List Nat)) × (List Nat)) := whileM (fun s => (spec_MirrorRank_l0_T v23 v24 v25 s).run) s0
def spec_MirrorRank_l0_E (v23 : Int) (v24 : Int) (v25 : List Nat) (v26 : Nat) (s : Int × (List (List Nat)) × (List Nat)) : Sd := ([tp,.flt .f32 v26,.ptr 0 (0 : Nat) 0 (3 : Nat),tp,tp,tp,tp,.nest 1 0 1 ((s.2.2).length),.int .i64 s.1,tp,tp,tp,tp,tp,tp,tp,tp,tp,tp,tp,tp,tp,tp,tp,tp,tp,tp,tp,tp,tp,tp,tp,tp,tp,tp,tp,tp,tp,tp,tp,tp,tp,tp,tp,tp,tp,tp,tp,tp,tp,tp,tp,tp,tp,tp,tp,tp,tp,tp,tp,tp,tp,tp,tp,tp,tp,tp,tp,tp,tp,tp,tp,tp,tp,tp,tp,tp,tp,tp,tp,tp,tp,tp,tp,tp,tp,tp,tp,tp,tp,tp,tp,tp,tp,tp,tp,tp,tp,tp,tp,tp,tp,tp,tp,tp,tp,tp,tp,tp,tp,tp,tp,tp,tp,tp,tp,tp,tp,tp,tp,tp,tp,tp,tp,tp,tp,tp,tp,tp,tp,tp,tp,tp,tp,tp,tp,tp,tp,tp,tp,tp,tp,tp,tp,tp,tp,tp,tp,tp,tp,tp,tp,tp,tp,tp,tp,tp,tp,tp,tp,tp,tp,tp], [.gen [.int .i64 v23, .int .i64 v24, .bslc (BR.root 0) (.f32 v25)] false 0, .nest [.sl (.f32 s.2.1) s.2.2] false 0])
def spec_MirrorRank_l0_X (v23 : Int) (v24 : Int) (v25 : List Nat) (v26 : Nat) (x : (List (List Nat)) × (List Nat)) : Out := (.normal, [tp,.flt .f32 v26,.ptr 0 (0 : Nat) 0 (3 : Nat),tp,tp,tp,tp,.nest 1 0 1 ((x.2).length),tp,tp,tp,tp,tp,tp,tp,tp,tp,tp,tp,tp,tp,tp,tp,tp,tp,tp,tp,tp,tp,tp,tp,tp,tp,tp,tp,tp,tp,tp,tp,tp,tp,tp,tp,tp,tp,tp,tp,tp,tp,tp,tp,tp,tp,tp,tp,tp,tp,tp,tp,tp,tp,tp,tp,tp,tp,tp,tp,tp,tp,tp,tp,tp,tp,tp,tp,tp,tp,tp,tp,tp,tp,tp,tp,tp,tp,tp,tp,tp,tp,tp,tp,tp,tp,tp,tp,tp,tp,tp,tp,tp,tp,tp,tp,tp,tp,tp,tp,tp,tp,tp,tp,tp,tp,tp,tp,tp,tp,tp,tp,tp,tp,tp,tp,tp,tp,tp,tp,tp,tp,tp,tp,tp,tp,tp,tp,tp,tp,tp,tp,tp,tp,tp,tp,tp,tp,tp,tp,tp,tp,tp,tp,tp,tp,tp,tp,tp,tp,tp,tp,tp,tp,tp,tp], [.gen [.int .i64 v23, .int .i64 v24, .bslc (BR.root 0) (.f32 v25)] false 0, .nest [.sl (.f32 x.1) x.2] false 0])
def spec_MirrorRank_l0_kill : List Nat := KL true [1,2,4,2,154]
def spec_MirrorRank_l0_nx : Exit → List Nat
  | .exit 0 => KL true [1,2,4,1,155]
  | .ret => KL true [4,3,156]
  | _ => []
noncomputable def spec_MirrorRank_l4_T (v492 : Int) (v493 : Int) (v497 : List (List Nat)) (v498 : List Nat) (v499 : List Int) (s : Int × Nat × Int) : Tree ((Int × Nat × Int) ⊕ ((Unit) ⊕ (Int × Nat))) :=
  (.br (decide (s.2.2 < (((v498).length : Nat) : Int))) (
   (.grd (inb s.2.2 ((v498).length)) <|
   (.grd (inb s.2.2 ((v498).length)) <|
   (.call (spec_l02Dot_g (nget v497 (nth v498 (Int.toNat s.2.2))) (nget v497 (nth v498 (Int.toNat s.2.2)))) fun v500 =>
   (.br (!(spec_l01Finite_v v500)) (
    .leaf (.inr (.inl ()))
   ) (
    (.br (decide (s.2.2 = v493)) (
     .leaf (.inl (s.2.2, v500, IntKind.i64.wrap (s.2.2 + (1 : Int))))
    ) (
     (.br (fgrt .f32 v500 s.2.1) (
      .leaf (.inl (s.2.2, v500, IntKind.i64.wrap (s.2.2 + (1 : Int))))
     ) (
      .leaf (.inl (s.1, s.2.1, IntKind.i64.wrap (s.2.2 + (1 : Int))))
     ))
    ))
   )))))
  ) (
   .leaf (.inr (.inr (s.1, s.2.1)))
  ))

noncomputable def spec_MirrorRank_l4_g (v492 : Int) (v493 : Int) (v497 : List (List Nat)) (v498 : List Nat) (v499 : List Int) (s0 : Int × Nat × Int) : Option ((Unit) ⊕ (Int × Nat)) := whileM (fun s => (spec_MirrorRank_l4_T v492 v493 v497 v498 v499 s).run) s0
def spec_MirrorRank_l4_E (v23 : Int) (v24 : Int) (v25 : List Nat) (v26 : Nat) (v492 : Int) (v493 : Int) (v497 : List (List Nat)) (v498 : List Nat) (v499 : List Int) (s : Int × Nat × Int) : Sd := ([tp,.flt .f32 v26,tp,tp,tp,tp,tp,.nest 0 0 1 ((v498).length),tp,.own 1 0 ((v499).length),.int .i64 v492,.int .i64 v493,.int .i64 s.1,.flt .f32 s.2.1,.int .i64 s.2.2,tp,tp,tp,tp,tp,tp,tp,tp,tp,tp,tp,tp,tp,tp,tp,tp,tp,tp,tp,tp,tp,tp,tp,tp,tp,tp,tp,tp,tp,tp,tp,tp,tp,tp,tp,tp,tp,tp,tp,tp,tp,tp,tp,tp,tp,tp,tp,tp,tp,tp,tp,tp,tp,tp,tp,tp,tp,tp,tp,tp,tp,tp,tp,tp,tp,tp,tp,tp,tp,tp,tp,tp,tp,tp,tp,tp,tp,tp,tp,tp,tp,tp,tp,tp,tp,tp,tp,tp,tp,tp,tp,tp,tp,tp,tp,tp,tp,tp,tp,tp,tp,tp,tp,tp,tp,tp,tp,tp,tp,tp,tp,tp,tp,tp,tp,tp,tp,tp,tp,tp,tp,tp,tp,tp,tp,tp,tp,tp,tp,tp,tp,tp,tp,tp,tp,tp,tp,tp,tp,tp,tp,tp,tp,tp,tp,tp,tp,tp], [.nest [.sl (.f32 v497) v498] false 0, .row (.i64 v499) 0])
def spec_MirrorRank_l4_X (v23 : Int) (v24 : Int) (v25 : List Nat) (v26 : Nat) (v492 : Int) (v493 : Int) (v497 : List (List Nat)) (v498 : List Nat) (v499 : List Int) (x : (Unit) ⊕ (Int × Nat)) : Out := (match x with | .inl x => (.ret, [tp,tp,tp,tp,.nilslc,.int .i64 (0 : Int),.lit false,tp,tp,tp,tp,tp,tp,tp,tp,tp,tp,tp,tp,tp,tp,tp,tp,tp,tp,tp,tp,tp,tp,tp,tp,tp,tp,tp,tp,tp,tp,tp,tp,tp,tp,tp,tp,tp,tp,tp,tp,tp,tp,tp,tp,tp,tp,tp,tp,tp,tp,tp,tp,tp,tp,tp,tp,tp,tp,tp,tp,tp,tp,tp,tp,tp,tp,tp,tp,tp,tp,tp,tp,tp,tp,tp,tp,tp,tp,tp,tp,tp,tp,tp,tp,tp,tp,tp,tp,tp,tp,tp,tp,tp,tp,tp,tp,tp,tp,tp,tp,tp,tp,tp,tp,tp,tp,tp,tp,tp,tp,tp,tp,tp,tp,tp,tp,tp,tp,tp,tp,tp,tp,tp,tp,tp,tp,tp,tp,tp,tp,tp,tp,tp,tp,tp,tp,tp,tp,tp,tp,tp,tp,tp,tp,tp,tp,tp,tp,tp,tp,tp,tp,tp,tp,tp,tp], []) | .inr x => (.normal, [tp,.flt .f32 v26,tp,tp,tp,tp,tp,.nest 0 0 1 ((v498).length),tp,.own 1 0 ((v499).length),.int .i64 v492,.int .i64 v493,.int .i64 x.1,.flt .f32 x.2,tp,tp,tp,tp,tp,tp,tp,tp,tp,tp,tp,tp,tp,tp,tp,tp,tp,tp,tp,tp,tp,tp,tp,tp,tp,tp,tp,tp,tp,tp,tp,tp,tp,tp,tp,tp,tp,tp,tp,tp,tp,tp,tp,tp,tp,tp,tp,tp,tp,tp,tp,tp,tp,tp,tp,tp,tp,tp,tp,tp,tp,tp,tp,tp,tp,tp,tp,tp,tp,tp,tp,tp,tp,tp,tp,tp,tp,tp,tp,tp,tp,tp,tp,tp,tp,tp,tp,tp,tp,tp,tp,tp,tp,tp,tp,tp,tp,tp,tp,tp,tp,tp,tp,tp,tp,tp,tp,tp,tp,tp,tp,tp,tp,tp,tp,tp,tp,tp,tp,tp,tp,tp,tp,tp,tp,tp,tp,tp,tp,tp,tp,tp,tp,tp,tp,tp,tp,tp,tp,tp,tp,tp,tp,tp,tp,tp,tp,tp,tp], [.nest [.sl (.f32 v497) v498] false 0, .row (.i64 v499) 0]))
def spec_MirrorRank_l4_kill : List Nat := KL true [1,1,5,1,1,6,148]
def spec_MirrorRank_l4_nx : Exit → List Nat
  | .exit 2 => KL true [9,2,152]
  | .exit 3 => KL true [1,1,5,1,1,3,151]
  | .exit 4 => KL true [1,1,5,1,1,5,149]
  | .ret => KL true [4,3,156]
  | _ => []
noncomputable def spec_MirrorRank_l6_T (v524 : Int) (v525 : Int) (v526 : Nat) (v527 : Nat) (v528 : Int) (v531 : List Nat) (v532 : List Int) (s : Int × (List (List Nat))) : Tree ((Int × (List (List Nat))) ⊕ ((List (List Nat)))) :=
  (.br (decide (s.1 < v528)) (
   (.grd (inb s.1 ((nget s.2 v527).length)) <|
   (.grd (inb s.1 ((nget s.2 v527).length)) <|
   .leaf (.inl (IntKind.i64.wrap (s.1 + (1 : Int)), List.set s.2 (v527 - 1) (List.set (nget s.2 v527) (Int.toNat s.1) (fdiv .f32 (nth (nget s.2 v527) (Int.toNat s.1)) v526))))))
  ) (
   .leaf (.inr s.2)
  ))

noncomputable def spec_MirrorRank_l6_g (v524 : Int) (v525 : Int) (v526 : Nat) (v527 : Nat) (v528 : Int) (v531 : List Nat) (v532 : List Int) (s0 : Int × (List (List Nat))) : Option ((List (List Nat))) := whileM (fun s => (spec_MirrorRank_l6_T v524 v525 v526 v527 v528 v531 v532 s).run) s0
def spec_MirrorRank_l6_E (v23 : Int) (v24 : Int) (v25 : List Nat) (v26 : Nat) (v524 : Int) (v525 : Int) (v526 : Nat) (v527 : Nat) (v528 : Int) (v531 : List Nat) (v532 : List Int) (s : Int × (List (List Nat))) : Sd := ([tp,.flt .f32 v26,tp,tp,tp,tp,tp,.nest 0 0 1 ((v531).length),tp,.own 1 0 ((v532).length),.int .i64 v524,.int .i64 v525,tp,tp,tp,tp,.flt .f32 v526,.inn 0 0 v527 ((nget s.2 v527).length),tp,tp,tp,tp,tp,tp,tp,tp,tp,tp,tp,tp,tp,tp,tp,tp,tp,tp,tp,tp,tp,tp,tp,tp,tp,tp,tp,tp,tp,tp,tp,tp,tp,tp,tp,tp,tp,tp,tp,tp,tp,tp,tp,tp,tp,tp,tp,tp,tp,tp,tp,tp,tp,tp,tp,tp,tp,tp,tp,tp,tp,tp,tp,tp,tp,tp,tp,tp,tp,tp,tp,tp,tp,tp,tp,tp,tp,tp,tp,tp,tp,tp,tp,tp,tp,tp,tp,.int .i64 v528,.int .i64 s.1,tp,tp,tp,tp,tp,tp,tp,tp,tp,tp,tp,tp,tp,tp,tp,tp,tp,tp,tp,tp,tp,tp,tp,tp,tp,tp,tp,tp,tp,tp,tp,tp,tp,tp,tp,tp,tp,tp,tp,tp,tp,tp,tp,tp,tp,tp,tp,tp,tp,tp,tp,tp,tp,tp,tp,tp], [.nest [.sl (.f32 s.2) v531] false 0, .row (.i64 v532) 0])
def spec_MirrorRank_l6_X (v23 : Int) (v24 : Int) (v25 : List Nat) (v26 : Nat) (v524 : Int) (v525 : Int) (v526 : Nat) (v527 : Nat) (v528 : Int) (v531 : List Nat) (v532 : List Int) (x : (List (List Nat))) : Out := (.normal, [tp,.flt .f32 v26,tp,tp,tp,tp,tp,.nest 0 0 1 ((v531).length),tp,.own 1 0 ((v532).length),.int .i64 v524,.int .i64 v525,tp,tp,tp,tp,tp,.inn 0 0 v527 ((nget x v527).length),tp,tp,tp,tp,tp,tp,tp,tp,tp,tp,tp,tp,tp,tp,tp,tp,tp,tp,tp,tp,tp,tp,tp,tp,tp,tp,tp,tp,tp,tp,tp,tp,tp,tp,tp,tp,tp,tp,tp,tp,tp,tp,tp,tp,tp,tp,tp,tp,tp,tp,tp,tp,tp,tp,tp,tp,tp,tp,tp,tp,tp,tp,tp,tp,tp,tp,tp,tp,tp,tp,tp,tp,tp,tp,tp,tp,tp,tp,tp,tp,tp,tp,tp,tp,tp,tp,tp,tp,tp,tp,tp,tp,tp,tp,tp,tp,tp,tp,tp,tp,tp,tp,tp,tp,tp,tp,tp,tp,tp,tp,tp,tp,tp,tp,tp,tp,tp,tp,tp,tp,tp,tp,tp,tp,tp,tp,tp,tp,tp,tp,tp,tp,tp,tp,tp,tp,tp,tp,tp,tp,tp,tp,tp,tp,tp], [.nest [.sl (.f32 x) v531] false 0, .row (.i64 v532) 0])
def spec_MirrorRank_l6_kill : List Nat := KL true [1,1,5,1,1,3,4,2,87,2,56]
def spec_MirrorRank_l6_nx : Exit → List Nat
  | .exit 2 => KL true [9,2,152]
  | .exit 3 => KL true [1,1,5,1,1,3,151]
  | .exit 6 => KL true [1,1,5,1,1,3,5,1,145]
  | .ret => KL true [4,3,156]
  | _ => []
noncomputable def spec_MirrorRank_l10_T (v640 : Int) (v641 : Int) (v642 : Nat) (v643 : Int) (v644 : Nat) (v645 : Int) (v648 : List Nat) (v649 : List Int) (s : Int × (List (List Nat))) : Tree ((Int × (List (List Nat))) ⊕ ((List (List Nat)))) :=
  (.br (decide (s.1 < v645)) (
   (.grd (inb v643 ((v648).length)) <|
   (.grd (inb v643 ((v648).length)) <|
   (.grd (inb s.1 ((nget s.2 (nth v648 (Int.toNat v643))).length)) <|
   (.grd (inb s.1 ((nget s.2 v642).length)) <|
   (.grd (inb s.1 ((nget s.2 (nth v648 (Int.toNat v643))).length)) <|
   .leaf (.inl (IntKind.i64.wrap (s.1 + (1 : Int)), List.set s.2 ((nth v648 (Int.toNat v643)) - 1) (List.set (nget s.2 (nth v648 (Int.toNat v643))) (Int.toNat s.1) (fsub .f32 (nth (nget s.2 (nth v648 (Int.toNat v643))) (Int.toNat s.1)) (fmul .f32 v644 (nth (nget s.2 v642) (Int.toNat s.1))))))))))))
  ) (
   .leaf (.inr s.2)
  ))

noncomputable def spec_MirrorRank_l10_g (v640 : Int) (v641 : Int) (v642 : Nat) (v643 : Int) (v644 : Nat) (v645 : Int) (v648 : List Nat) (v649 : List Int) (s0 : Int × (List (List Nat))) : Option ((List (List Nat))) := whileM (fun s => (spec_MirrorRank_l10_T v640 v641 v642 v643 v644 v645 v648 v649 s).run) s0
def spec_MirrorRank_l10_E (v23 : Int) (v24 : Int) (v25 : List Nat) (v26 : Nat) (v640 : Int) (v641 : Int) (v642 : Nat) (v643 : Int) (v644 : Nat) (v645 : Int) (v648 : List Nat) (v649 : List Int) (s : Int × (List (List Nat))) : Sd := ([tp,.flt .f32 v26,tp,tp,tp,tp,tp,.nest 0 0 1 ((v648).length),tp,.own 1 0 ((v649).length),.int .i64 v640,.int .i64 v641,tp,tp,tp,tp,tp,.inn 0 0 v642 ((nget s.2 v642).length),tp,.int .i64 v643,.flt .f32 v644,tp,tp,tp,tp,tp,tp,tp,tp,tp,tp,tp,tp,tp,tp,tp,tp,tp,tp,tp,tp,tp,tp,tp,tp,tp,tp,tp,tp,tp,tp,tp,tp,tp,tp,tp,tp,tp,tp,tp,tp,tp,tp,tp,tp,tp,tp,tp,tp,tp,tp,tp,tp,tp,tp,tp,tp,tp,tp,tp,tp,tp,tp,tp,tp,tp,tp,tp,tp,tp,tp,tp,tp,tp,tp,tp,tp,tp,tp,tp,tp,tp,tp,tp,tp,tp,tp,tp,tp,tp,tp,tp,tp,tp,tp,tp,tp,tp,tp,tp,tp,tp,tp,tp,tp,tp,tp,tp,tp,tp,tp,tp,tp,tp,.int .i64 v645,.int .i64 s.1,tp,tp,tp,tp,tp,tp,tp,tp,tp,tp,tp,tp,tp,tp,tp,tp,tp,tp,tp,tp,tp,tp,tp,tp,tp,tp,tp], [.nest [.sl (.f32 s.2) v648] false 0, .row (.i64 v649) 0])
def spec_MirrorRank_l10_X (v23 : Int) (v24 : Int) (v25 : List Nat) (v26 : Nat) (v640 : Int) (v641 : Int) (v642 : Nat) (v643 : Int) (v644 : Nat) (v645 : Int) (v648 : List Nat) (v649 : List Int) (x : (List (List Nat))) : Out := (.normal, [tp,.flt .f32 v26,tp,tp,tp,tp,tp,.nest 0 0 1 ((v648).length),tp,.own 1 0 ((v649).length),.int .i64 v640,.int .i64 v641,tp,tp,tp,tp,tp,.inn 0 0 v642 ((nget x v642).length),tp,.int .i64 v643,tp,tp,tp,tp,tp,tp,tp,tp,tp,tp,tp,tp,tp,tp,tp,tp,tp,tp,tp,tp,tp,tp,tp,tp,tp,tp,tp,tp,tp,tp,tp,tp,tp,tp,tp,tp,tp,tp,tp,tp,tp,tp,tp,tp,tp,tp,tp,tp,tp,tp,tp,tp,tp,tp,tp,tp,tp,tp,tp,tp,tp,tp,tp,tp,tp,tp,tp,tp,tp,tp,tp,tp,tp,tp,tp,tp,tp,tp,tp,tp,tp,tp,tp,tp,tp,tp,tp,tp,tp,tp,tp,tp,tp,tp,tp,tp,tp,tp,tp,tp,tp,tp,tp,tp,tp,tp,tp,tp,tp,tp,tp,tp,tp,tp,tp,tp,tp,tp,tp,tp,tp,tp,tp,tp,tp,tp,tp,tp,tp,tp,tp,tp,tp,tp,tp,tp,tp,tp,tp,tp,tp,tp,tp], [.nest [.sl (.f32 x) v648] false 0, .row (.i64 v649) 0])
def spec_MirrorRank_l10_kill : List Nat := KL true [1,1,5,1,1,3,5,1,1,2,113,2,27]
def spec_MirrorRank_l10_nx : Exit → List Nat
  | .exit 2 => KL true [9,2,152]
  | .exit 3 => KL true [1,1,5,1,1,3,151]
  | .exit 8 => KL true [1,1,5,1,1,3,151]
  | .exit 9 => KL true [1,1,5,1,1,3,5,1,1,1,143]
  | .exit 10 => KL true [1,1,5,1,1,3,5,1,1,1,143]
  | .ret => KL true [4,3,156]
  | _ => []
noncomputable def spec_MirrorRank_l8_T (v23 : Int) (v24 : Int) (v25 : List Nat) (v26 : Nat) (v612 : Int) (v613 : Int) (v614 : Nat) (v617 : List Nat) (v618 : List Int) (s : Int × (List (List Nat))) : Tree ((Int × (List (List Nat))) ⊕ ((List (List Nat)))) :=
  (.br (decide (s.1 < (((v617).length : Nat) : Int))) (
   (.grd (inb s.1 ((v617).length)) <|
   (.call (spec_l02Dot_g (nget s.2 v614) (nget s.2 (nth v617 (Int.toNat s.1)))) fun v619 =>
   (.need (some (spec_MirrorRank_l10_E v23 v24 v25 v26 v612 v613 v614 s.1 v619 (((nget s.2 v614).length : Nat) : Int) v617 v618 ((0 : Int), s.2)) = some (spec_MirrorRank_l10_E v23 v24 v25 v26 v612 v613 v614 s.1 v619 (((nget s.2 v614).length : Nat) : Int) v617 v618 ((0 : Int), s.2))) <|
   (.call (spec_MirrorRank_l10_g v612 v613 v614 s.1 v619 (((nget s.2 v614).length : Nat) : Int) v617 v618 ((0 : Int), s.2)) fun v650 =>
   .leaf (.inl (IntKind.i64.wrap (s.1 + (1 : Int)), v650))))))
  ) (
   .leaf (.inr s.2)
  ))

noncomputable def spec_MirrorRank_l8_g (v23 : Int) (v24 : Int) (v25 : List Nat) (v26 : Nat) (v612 : Int) (v613 : Int) (v614 : Nat) (v617 : List Nat) (v618 : List Int) (s0 : Int × (List (List Nat))) : Option ((List (List Nat))) := whileM (fun s => (spec_MirrorRank_l8_T v23 v24 v25 v26 v612 v613 v614 v617 v618 s).run) s0
def spec_MirrorRank_l8_E (v23 : Int) (v24 : Int) (v25 : List Nat) (v26 : Nat) (v612 : Int) (v613 : Int) (v614 : Nat) (v617 : List Nat) (v618 : List Int) (s : Int × (List (List Nat))) : Sd := ([tp,.flt .f32 v26,tp,tp,tp,tp,tp,.nest 0 0 1 ((v617).length),tp,.own 1 0 ((v618).length),.int .i64 v612,.int .i64 v613,tp,tp,tp,tp,tp,.inn 0 0 v614 ((nget s.2 v614).length),tp,.int .i64 s.1,tp,tp,tp,tp,tp,tp,tp,tp,tp,tp,tp,tp,tp,tp,tp,tp,tp,tp,tp,tp,tp,tp,tp,tp,tp,tp,tp,tp,tp,tp,tp,tp,tp,tp,tp,tp,tp,tp,tp,tp,tp,tp,tp,tp,tp,tp,tp,tp,tp,tp,tp,tp,tp,tp,tp,tp,tp,tp,tp,tp,tp,tp,tp,tp,tp,tp,tp,tp,tp,tp,tp,tp,tp,tp,tp,tp,tp,tp,tp,tp,tp,tp,tp,tp,tp,tp,tp,tp,tp,tp,tp,tp,tp,tp,tp,tp,tp,tp,tp,tp,tp,tp,tp,tp,tp,tp,tp,tp,tp,tp,tp,tp,tp,tp,tp,tp,tp,tp,tp,tp,tp,tp,tp,tp,tp,tp,tp,tp,tp,tp,tp,tp,tp,tp,tp,tp,tp,tp,tp,tp,tp,tp,tp], [.nest [.sl (.f32 s.2) v617] false 0, .row (.i64 v618) 0])
def spec_MirrorRank_l8_X (v23 : Int) (v24 : Int) (v25 : List Nat) (v26 : Nat) (v612 : Int) (v613 : Int) (v614 : Nat) (v617 : List Nat) (v618 : List Int) (x : (List (List Nat))) : Out := (.normal, [tp,.flt .f32 v26,tp,tp,tp,tp,tp,.nest 0 0 1 ((v617).length),tp,.own 1 0 ((v618).length),.int .i64 v612,.int .i64 v613,tp,tp,tp,tp,tp,tp,tp,tp,tp,tp,tp,tp,tp,tp,tp,tp,tp,tp,tp,tp,tp,tp,tp,tp,tp,tp,tp,tp,tp,tp,tp,tp,tp,tp,tp,tp,tp,tp,tp,tp,tp,tp,tp,tp,tp,tp,tp,tp,tp,tp,tp,tp,tp,tp,tp,tp,tp,tp,tp,tp,tp,tp,tp,tp,tp,tp,tp,tp,tp,tp,tp,tp,tp,tp,tp,tp,tp,tp,tp,tp,tp,tp,tp,tp,tp,tp,tp,tp,tp,tp,tp,tp,tp,tp,tp,tp,tp,tp,tp,tp,tp,tp,tp,tp,tp,tp,tp,tp,tp,tp,tp,tp,tp,tp,tp,tp,tp,tp,tp,tp,tp,tp,tp,tp,tp,tp,tp,tp,tp,tp,tp,tp,tp,tp,tp,tp,tp,tp,tp,tp,tp,tp,tp,tp,tp,tp,tp,tp,tp,tp,tp], [.nest [.sl (.f32 x) v617] false 0, .row (.i64 v618) 0])
def spec_MirrorRank_l8_kill : List Nat := KL true [1,1,5,1,1,3,5,1,1,1,143]
def spec_MirrorRank_l8_nx : Exit → List Nat
  | .exit 2 => KL true [9,2,152]
  | .exit 3 => KL true [1,1,5,1,1,3,151]
  | .exit 8 => KL true [1,1,5,1,1,3,151]
  | .ret => KL true [4,3,156]
  | _ => []
noncomputable def spec_MirrorRank_l2_T (v23 : Int) (v24 : Int) (v25 : List Nat) (v26 : Nat) (s : Int × Int × (List (List Nat)) × (List Nat) × (List Int)) : Tree ((Int × Int × (List (List Nat)) × (List Nat) × (List Int)) ⊕ ((Unit) ⊕ (Int × (List Int)))) :=
  (.br (decide (s.2.1 < (((s.2.2.2.1).length : Nat) : Int))) (
   (.need (some (spec_MirrorRank_l4_E v23 v24 v25 v26 s.1 s.2.1 s.2.2.1 s.2.2.2.1 s.2.2.2.2 (s.2.1, (0 : Nat), s.2.1)) = some (spec_MirrorRank_l4_E v23 v24 v25 v26 s.1 s.2.1 s.2.2.1 s.2.2.2.1 s.2.2.2.2 (s.2.1, (0 : Nat), s.2.1))) <|
   (.call (spec_MirrorRank_l4_g s.1 s.2.1 s.2.2.1 s.2.2.2.1 s.2.2.2.2 (s.2.1, (0 : Nat), s.2.1)) fun v501 =>
   (.sum v501 (fun v502 =>
    .leaf (.inr (.inl ()))
   ) (fun v503 =>
    (.call (spec_l01Sqrt_g v503.2) fun v504 =>
    (.br (fless .f32 v504 v26 || feq .f32 v504 v26) (
     .leaf (.inr (.inr (s.1, s.2.2.2.2)))
    ) (
     (.grd (inb v503.1 ((s.2.2.2.1).length)) <|
     (.grd (inb s.2.1 ((s.2.2.2.1).length)) <|
     (.grd (inb v503.1 ((s.2.2.2.1).length)) <|
     (.grd (inb s.2.1 ((s.2.2.2.1).length)) <|
     (.call (spec_l03Trade_g s.2.2.2.2 s.2.1 v503.1) fun v505 =>
     (.grd (decide ((List.set (List.set s.2.2.2.2 (Int.toNat s.2.1) (nth s.2.2.2.2 (Int.toNat v503.1))) (Int.toNat v503.1) (nth s.2.2.2.2 (Int.toNat s.2.1))).length = s.2.2.2.2.length)) <|
     (.need (some (spec_MirrorRank_l6_E v23 v24 v25 v26 s.1 s.2.1 v504 (nth s.2.2.2.1 (Int.toNat v503.1)) (((nget s.2.2.1 (nth s.2.2.2.1 (Int.toNat v503.1))).length : Nat) : Int) (List.set (List.set s.2.2.2.1 (Int.toNat v503.1) (nth s.2.2.2.1 (Int.toNat s.2.1))) (Int.toNat s.2.1) (nth s.2.2.2.1 (Int.toNat v503.1))) (List.set (List.set s.2.2.2.2 (Int.toNat s.2.1) (nth s.2.2.2.2 (Int.toNat v503.1))) (Int.toNat v503.1) (nth s.2.2.2.2 (Int.toNat s.2.1))) ((0 : Int), s.2.2.1)) = some (spec_MirrorRank_l6_E v23 v24 v25 v26 s.1 s.2.1 v504 (nth s.2.2.2.1 (Int.toNat v503.1)) (((nget s.2.2.1 (nth s.2.2.2.1 (Int.toNat v503.1))).length : Nat) : Int) (List.set (List.set s.2.2.2.1 (Int.toNat v503.1) (nth s.2.2.2.1 (Int.toNat s.2.1))) (Int.toNat s.2.1) (nth s.2.2.2.1 (Int.toNat v503.1))) (List.set (List.set s.2.2.2.2 (Int.toNat s.2.1) (nth s.2.2.2.2 (Int.toNat v503.1))) (Int.toNat v503.1) (nth s.2.2.2.2 (Int.toNat s.2.1))) ((0 : Int), s.2.2.1))) <|
     (.call (spec_MirrorRank_l6_g s.1 s.2.1 v504 (nth s.2.2.2.1 (Int.toNat v503.1)) (((nget s.2.2.1 (nth s.2.2.2.1 (Int.toNat v503.1))).length : Nat) : Int) (List.set (List.set s.2.2.2.1 (Int.toNat v503.1) (nth s.2.2.2.1 (Int.toNat s.2.1))) (Int.toNat s.2.1) (nth s.2.2.2.1 (Int.toNat v503.1))) (List.set (List.set s.2.2.2.2 (Int.toNat s.2.1) (nth s.2.2.2.2 (Int.toNat v503.1))) (Int.toNat v503.1) (nth s.2.2.2.2 (Int.toNat s.2.1))) ((0 : Int), s.2.2.1)) fun v533 =>
     (.need (some (spec_MirrorRank_l8_E v23 v24 v25 v26 s.1 s.2.1 (nth s.2.2.2.1 (Int.toNat v503.1)) (List.set (List.set s.2.2.2.1 (Int.toNat v503.1) (nth s.2.2.2.1 (Int.toNat s.2.1))) (Int.toNat s.2.1) (nth s.2.2.2.1 (Int.toNat v503.1))) (List.set (List.set s.2.2.2.2 (Int.toNat s.2.1) (nth s.2.2.2.2 (Int.toNat v503.1))) (Int.toNat v503.1) (nth s.2.2.2.2 (Int.toNat s.2.1))) (IntKind.i64.wrap (s.2.1 + (1 : Int)), v533)) = some (spec_MirrorRank_l8_E v23 v24 v25 v26 s.1 s.2.1 (nth s.2.2.2.1 (Int.toNat v503.1)) (List.set (List.set s.2.2.2.1 (Int.toNat v503.1) (nth s.2.2.2.1 (Int.toNat s.2.1))) (Int.toNat s.2.1) (nth s.2.2.2.1 (Int.toNat v503.1))) (List.set (List.set s.2.2.2.2 (Int.toNat s.2.1) (nth s.2.2.2.2 (Int.toNat v503.1))) (Int.toNat v503.1) (nth s.2.2.2.2 (Int.toNat s.2.1))) (IntKind.i64.wrap (s.2.1 + (1 : Int)), v533))) <|
     (.call (spec_MirrorRank_l8_g v23 v24 v25 v26 s.1 s.2.1 (nth s.2.2.2.1 (Int.toNat v503.1)) (List.set (List.set s.2.2.2.1 (Int.toNat v503.1) (nth s.2.2.2.1 (Int.toNat s.2.1))) (Int.toNat s.2.1) (nth s.2.2.2.1 (Int.toNat v503.1))) (List.set (List.set s.2.2.2.2 (Int.toNat s.2.1) (nth s.2.2.2.2 (Int.toNat v503.1))) (Int.toNat v503.1) (nth s.2.2.2.2 (Int.toNat s.2.1))) (IntKind.i64.wrap (s.2.1 + (1 : Int)), v533)) fun v651 =>
     .leaf (.inl (IntKind.i64.wrap (s.1 + (1 : Int)), IntKind.i64.wrap (s.2.1 + (1 : Int)), v651, (List.set (List.set s.2.2.2.1 (Int.toNat v503.1) (nth s.2.2.2.1 (Int.toNat s.2.1))) (Int.toNat s.2.1) (nth s.2.2.2.1 (Int.toNat v503.1))), (List.set (List.set s.2.2.2.2 (Int.toNat s.2.1) (nth s.2.2.2.2 (Int.toNat v503.1))) (Int.toNat v503.1) (nth s.2.2.2.2 (Int.toNat s.2.1)))))))))))))))
    )))
   ))))
  ) (
   .leaf (.inr (.inr (s.1, s.2.2.2.2)))
  ))

noncomputable def spec_MirrorRank_l2_g (v23 : Int) (v24 : Int) (v25 : List Nat) (v26 : Nat) (s0 : Int × Int × (List (List Nat)) × (List Nat) × (List Int)) : Option ((Unit) ⊕ (Int × (List Int))) := whileM (fun s => (spec_MirrorRank_l2_T v23 v24 v25 v26 s).run) s0
def spec_MirrorRank_l2_E (v23 : Int) (v24 : Int) (v25 : List Nat) (v26 : Nat) (s : Int × Int × (List (List Nat)) × (List Nat) × (List Int)) : Sd := ([tp,.flt .f32 v26,tp,tp,tp,tp,tp,.nest 0 0 1 ((s.2.2.2.1).length),tp,.own 1 0 ((s.2.2.2.2).length),.int .i64 s.1,.int .i64 s.2.1,tp,tp,tp,tp,tp,tp,tp,tp,tp,tp,tp,tp,tp,tp,tp,tp,tp,tp,tp,tp,tp,tp,tp,tp,tp,tp,tp,tp,tp,tp,tp,tp,tp,tp,tp,tp,tp,tp,tp,tp,tp,tp,tp,tp,tp,tp,tp,tp,tp,tp,tp,tp,tp,tp,tp,tp,tp,tp,tp,tp,tp,tp,tp,tp,tp,tp,tp,tp,tp,tp,tp,tp,tp,tp,tp,tp,tp,tp,tp,tp,tp,tp,tp,tp,tp,tp,tp,tp,tp,tp,tp,tp,tp,tp,tp,tp,tp,tp,tp,tp,tp,tp,tp,tp,tp,tp,tp,tp,tp,tp,tp,tp,tp,tp,tp,tp,tp,tp,tp,tp,tp,tp,tp,tp,tp,tp,tp,tp,tp,tp,tp,tp,tp,tp,tp,tp,tp,tp,tp,tp,tp,tp,tp,tp,tp,tp,tp,tp,tp,tp,tp], [.nest [.sl (.f32 s.2.2.1) s.2.2.2.1] false 0, .row (.i64 s.2.2.2.2) 0])
def spec_MirrorRank_l2_X (v23 : Int) (v24 : Int) (v25 : List Nat) (v26 : Nat) (x : (Unit) ⊕ (Int × (List Int))) : Out := (match x with | .inl x => (.ret, [tp,tp,tp,tp,.nilslc,.int .i64 (0 : Int),.lit false,tp,tp,tp,tp,tp,tp,tp,tp,tp,tp,tp,tp,tp,tp,tp,tp,tp,tp,tp,tp,tp,tp,tp,tp,tp,tp,tp,tp,tp,tp,tp,tp,tp,tp,tp,tp,tp,tp,tp,tp,tp,tp,tp,tp,tp,tp,tp,tp,tp,tp,tp,tp,tp,tp,tp,tp,tp,tp,tp,tp,tp,tp,tp,tp,tp,tp,tp,tp,tp,tp,tp,tp,tp,tp,tp,tp,tp,tp,tp,tp,tp,tp,tp,tp,tp,tp,tp,tp,tp,tp,tp,tp,tp,tp,tp,tp,tp,tp,tp,tp,tp,tp,tp,tp,tp,tp,tp,tp,tp,tp,tp,tp,tp,tp,tp,tp,tp,tp,tp,tp,tp,tp,tp,tp,tp,tp,tp,tp,tp,tp,tp,tp,tp,tp,tp,tp,tp,tp,tp,tp,tp,tp,tp,tp,tp,tp,tp,tp,tp,tp,tp,tp,tp,tp,tp,tp], []) | .inr x => (.normal, [tp,tp,tp,tp,tp,tp,tp,tp,tp,.own 0 0 ((x.2).length),.int .i64 x.1,tp,tp,tp,tp,tp,tp,tp,tp,tp,tp,tp,tp,tp,tp,tp,tp,tp,tp,tp,tp,tp,tp,tp,tp,tp,tp,tp,tp,tp,tp,tp,tp,tp,tp,tp,tp,tp,tp,tp,tp,tp,tp,tp,tp,tp,tp,tp,tp,tp,tp,tp,tp,tp,tp,tp,tp,tp,tp,tp,tp,tp,tp,tp,tp,tp,tp,tp,tp,tp,tp,tp,tp,tp,tp,tp,tp,tp,tp,tp,tp,tp,tp,tp,tp,tp,tp,tp,tp,tp,tp,tp,tp,tp,tp,tp,tp,tp,tp,tp,tp,tp,tp,tp,tp,tp,tp,tp,tp,tp,tp,tp,tp,tp,tp,tp,tp,tp,tp,tp,tp,tp,tp,tp,tp,tp,tp,tp,tp,tp,tp,tp,tp,tp,tp,tp,tp,tp,tp,tp,tp,tp,tp,tp,tp,tp,tp,tp,tp,tp,tp,tp,tp], [.row (.i64 x.2) 0]))
def spec_MirrorRank_l2_kill : List Nat := KL true [1,1,5,1,1,3,151]
def spec_MirrorRank_l2_nx : Exit → List Nat
  | .exit 2 => KL true [9,2,152]
  | .ret => KL true [4,3,156]
  | _ => []
noncomputable def spec_MirrorRank_LO (v23 : Int) (v24 : Int) (v25 : List Nat) (v26 : Nat) : LOr := fun id e L =>
  match id with
  | 0 => .need (normA 0 spec_MirrorRank_l0_kill e L = some (spec_MirrorRank_l0_E v23 v24 v25 v26 ((gI (vAt e 8)), (gPF L (vAt e 7) 0), (gX L (vAt e 7) 0)))) (.call (spec_MirrorRank_l0_g v23 v24 v25 ((gI (vAt e 8)), (gPF L (vAt e 7) 0), (gX L (vAt e 7) 0))) fun x => .leaf (spec_MirrorRank_l0_X v23 v24 v25 v26 x))
  | 4 => .need (normA 0 spec_MirrorRank_l4_kill e L = some (spec_MirrorRank_l4_E v23 v24 v25 v26 (gI (vAt e 10)) (gI (vAt e 11)) (gPF L (vAt e 7) 0) (gX L (vAt e 7) 0) (gRI L (vAt e 9)) ((gI (vAt e 12)), (gF (vAt e 13)), (gI (vAt e 14))))) (.call (spec_MirrorRank_l4_g (gI (vAt e 10)) (gI (vAt e 11)) (gPF L (vAt e 7) 0) (gX L (vAt e 7) 0) (gRI L (vAt e 9)) ((gI (vAt e 12)), (gF (vAt e 13)), (gI (vAt e 14)))) fun x => .sum x (fun b0 => .leaf (spec_MirrorRank_l4_X v23 v24 v25 v26 (gI (vAt e 10)) (gI (vAt e 11)) (gPF L (vAt e 7) 0) (gX L (vAt e 7) 0) (gRI L (vAt e 9)) (.inl b0))) (fun c0 => .leaf (spec_MirrorRank_l4_X v23 v24 v25 v26 (gI (vAt e 10)) (gI (vAt e 11)) (gPF L (vAt e 7) 0) (gX L (vAt e 7) 0) (gRI L (vAt e 9)) (.inr c0))))
  | 6 => .need (normA 0 spec_MirrorRank_l6_kill e L = some (spec_MirrorRank_l6_E v23 v24 v25 v26 (gI (vAt e 10)) (gI (vAt e 11)) (gF (vAt e 16)) (gK (vAt e 17)) (gI (vAt e 105)) (gX L (vAt e 7) 0) (gRI L (vAt e 9)) ((gI (vAt e 106)), (gPF L (vAt e 7) 0)))) (.call (spec_MirrorRank_l6_g (gI (vAt e 10)) (gI (vAt e 11)) (gF (vAt e 16)) (gK (vAt e 17)) (gI (vAt e 105)) (gX L (vAt e 7) 0) (gRI L (vAt e 9)) ((gI (vAt e 106)), (gPF L (vAt e 7) 0))) fun x => .leaf (spec_MirrorRank_l6_X v23 v24 v25 v26 (gI (vAt e 10)) (gI (vAt e 11)) (gF (vAt e 16)) (gK (vAt e 17)) (gI (vAt e 105)) (gX L (vAt e 7) 0) (gRI L (vAt e 9)) x))
  | 10 => .need (normA 0 spec_MirrorRank_l10_kill e L = some (spec_MirrorRank_l10_E v23 v24 v25 v26 (gI (vAt e 10)) (gI (vAt e 11)) (gK (vAt e 17)) (gI (vAt e 19)) (gF (vAt e 20)) (gI (vAt e 134)) (gX L (vAt e 7) 0) (gRI L (vAt e 9)) ((gI (vAt e 135)), (gPF L (vAt e 7) 0)))) (.call (spec_MirrorRank_l10_g (gI (vAt e 10)) (gI (vAt e 11)) (gK (vAt e 17)) (gI (vAt e 19)) (gF (vAt e 20)) (gI (vAt e 134)) (gX L (vAt e 7) 0) (gRI L (vAt e 9)) ((gI (vAt e 135)), (gPF L (vAt e 7) 0))) fun x => .leaf (spec_MirrorRank_l10_X v23 v24 v25 v26 (gI (vAt e 10)) (gI (vAt e 11)) (gK (vAt e 17)) (gI (vAt e 19)) (gF (vAt e 20)) (gI (vAt e 134)) (gX L (vAt e 7) 0) (gRI L (vAt e 9)) x))
  | 8 => .need (normA 0 spec_MirrorRank_l8_kill e L = some (spec_MirrorRank_l8_E v23 v24 v25 v26 (gI (vAt e 10)) (gI (vAt e 11)) (gK (vAt e 17)) (gX L (vAt e 7) 0) (gRI L (vAt e 9)) ((gI (vAt e 19)), (gPF L (vAt e 7) 0)))) (.call (spec_MirrorRank_l8_g v23 v24 v25 v26 (gI (vAt e 10)) (gI (vAt e 11)) (gK (vAt e 17)) (gX L (vAt e 7) 0) (gRI L (vAt e 9)) ((gI (vAt e 19)), (gPF L (vAt e 7) 0))) fun x => .leaf (spec_MirrorRank_l8_X v23 v24 v25 v26 (gI (vAt e 10)) (gI (vAt e 11)) (gK (vAt e 17)) (gX L (vAt e 7) 0) (gRI L (vAt e 9)) x))
  | 2 => .need (normA 0 spec_MirrorRank_l2_kill e L = some (spec_MirrorRank_l2_E v23 v24 v25 v26 ((gI (vAt e 10)), (gI (vAt e 11)), (gPF L (vAt e 7) 0), (gX L (vAt e 7) 0), (gRI L (vAt e 9))))) (.call (spec_MirrorRank_l2_g v23 v24 v25 v26 ((gI (vAt e 10)), (gI (vAt e 11)), (gPF L (vAt e 7) 0), (gX L (vAt e 7) 0), (gRI L (vAt e 9)))) fun x => .sum x (fun b0 => .leaf (spec_MirrorRank_l2_X v23 v24 v25 v26 (.inl b0))) (fun c0 => .leaf (spec_MirrorRank_l2_X v23 v24 v25 v26 (.inr c0))))
  | _ => .fail
noncomputable def spec_MirrorRank_tab : List (FuncId × DFn × Bool) := [(97, spec_l02Is_F, true), (98, spec_l02Least_F, true), (99, spec_l03Column_F, true), (100, spec_l03Count_F, true), (101, spec_l02Dot_F, true), (102, spec_l01Finite_F, true), (103, spec_l01Sqrt_F, true), (104, spec_l03Trade_F, false)]
theorem spec_MirrorRank_hO : OrcOk Try.prog (tabD spec_MirrorRank_tab) (tabM spec_MirrorRank_tab) := tabD_cons spec_l02Is_Fok (tabD_cons spec_l02Least_Fok (tabD_cons spec_l03Column_Fok (tabD_cons spec_l03Count_Fok (tabD_cons spec_l02Dot_Fok (tabD_cons spec_l01Finite_Fok (tabD_cons spec_l01Sqrt_Fok (tabD_cons spec_l03Trade_Fok (tabD_nil _))))))))
theorem spec_MirrorRank_l0_be (v23 : Int) (v24 : Int) (v25 : List Nat) (v26 : Nat) (s : Int × (List (List Nat)) × (List Nat)) : bodyT TT (tabD spec_MirrorRank_tab) (tabM spec_MirrorRank_tab) (spec_MirrorRank_LO v23 v24 v25 v26) 0 spec_MirrorRank_l0_kill spec_MirrorRank_l0_nx (bodyOf Try.f37 0) 0 (spec_MirrorRank_l0_E v23 v24 v25 v26 s) = (spec_MirrorRank_l0_T v23 v24 v25 s).bind fun y => .leaf (outS (spec_MirrorRank_l0_E v23 v24 v25 v26) (spec_MirrorRank_l0_X v23 v24 v25 v26) y) := by kernel_rfl
theorem spec_MirrorRank_l0_ok (v23 : Int) (v24 : Int) (v25 : List Nat) (v26 : Nat) : LSound Try.prog 0 (spec_MirrorRank_LO v23 v24 v25 v26) 0 (bodyOf Try.f37 0) := by
  intro e L out h
  exact lo_ok (E := spec_MirrorRank_l0_E v23 v24 v25 v26) (gT := spec_MirrorRank_l0_T v23 v24 v25) (X := spec_MirrorRank_l0_X v23 v24 v25 v26) (s0 := ((gI (vAt e 8)), (gPF L (vAt e 7) 0), (gX L (vAt e 7) 0))) tok spec_MirrorRank_hO mixed (LoopsOk_eq (l := []) (by kernel_rfl) trivial) (spec_MirrorRank_l0_be v23 v24 v25 v26) rfl (by intro x; rfl) h
theorem spec_MirrorRank_l4_be (v23 : Int) (v24 : Int) (v25 : List Nat) (v26 : Nat) (v492 : Int) (v493 : Int) (v497 : List (List Nat)) (v498 : List Nat) (v499 : List Int) (s : Int × Nat × Int) : bodyT TT (tabD spec_MirrorRank_tab) (tabM spec_MirrorRank_tab) (spec_MirrorRank_LO v23 v24 v25 v26) 0 spec_MirrorRank_l4_kill spec_MirrorRank_l4_nx (bodyOf Try.f37 4) 4 (spec_MirrorRank_l4_E v23 v24 v25 v26 v492 v493 v497 v498 v499 s) = (spec_MirrorRank_l4_T v492 v493 v497 v498 v499 s).bind fun y => .leaf (outS (spec_MirrorRank_l4_E v23 v24 v25 v26 v492 v493 v497 v498 v499) (spec_MirrorRank_l4_X v23 v24 v25 v26 v492 v493 v497 v498 v499) y) := by kernel_rfl
theorem spec_MirrorRank_l4_ok (v23 : Int) (v24 : Int) (v25 : List Nat) (v26 : Nat) : LSound Try.prog 0 (spec_MirrorRank_LO v23 v24 v25 v26) 4 (bodyOf Try.f37 4) := by
  intro e L out h
  exact lo_ok (E := spec_MirrorRank_l4_E v23 v24 v25 v26 (gI (vAt e 10)) (gI (vAt e 11)) (gPF L (vAt e 7) 0) (gX L (vAt e 7) 0) (gRI L (vAt e 9))) (gT := spec_MirrorRank_l4_T (gI (vAt e 10)) (gI (vAt e 11)) (gPF L (vAt e 7) 0) (gX L (vAt e 7) 0) (gRI L (vAt e 9))) (X := spec_MirrorRank_l4_X v23 v24 v25 v26 (gI (vAt e 10)) (gI (vAt e 11)) (gPF L (vAt e 7) 0) (gX L (vAt e 7) 0) (gRI L (vAt e 9))) (s0 := ((gI (vAt e 12)), (gF (vAt e 13)), (gI (vAt e 14)))) tok spec_MirrorRank_hO mixed (LoopsOk_eq (l := []) (by kernel_rfl) trivial) (spec_MirrorRank_l4_be v23 v24 v25 v26 (gI (vAt e 10)) (gI (vAt e 11)) (gPF L (vAt e 7) 0) (gX L (vAt e 7) 0) (gRI L (vAt e 9))) rfl (by intro x; (cases x with | inl b => rfl | inr x => exact rfl)) h
theorem spec_MirrorRank_l6_be (v23 : Int) (v24 : Int) (v25 : List Nat) (v26 : Nat) (v524 : Int) (v525 : Int) (v526 : Nat) (v527 : Nat) (v528 : Int) (v531 : List Nat) (v532 : List Int) (s : Int × (List (List Nat))) : bodyT TT (tabD spec_MirrorRank_tab) (tabM spec_MirrorRank_tab) (spec_MirrorRank_LO v23 v24 v25 v26) 0 spec_MirrorRank_l6_kill spec_MirrorRank_l6_nx (bodyOf Try.f37 6) 6 (spec_MirrorRank_l6_E v23 v24 v25 v26 v524 v525 v526 v527 v528 v531 v532 s) = (spec_MirrorRank_l6_T v524 v525 v526 v527 v528 v531 v532 s).bind fun y => .leaf (outS (spec_MirrorRank_l6_E v23 v24 v25 v26 v524 v525 v526 v527 v528 v531 v532) (spec_MirrorRank_l6_X v23 v24 v25 v26 v524 v525 v526 v527 v528 v531 v532) y) := by kernel_rfl
theorem spec_MirrorRank_l6_ok (v23 : Int) (v24 : Int) (v25 : List Nat) (v26 : Nat) : LSound Try.prog 0 (spec_MirrorRank_LO v23 v24 v25 v26) 6 (bodyOf Try.f37 6) := by
  intro e L out h
  exact lo_ok (E := spec_MirrorRank_l6_E v23 v24 v25 v26 (gI (vAt e 10)) (gI (vAt e 11)) (gF (vAt e 16)) (gK (vAt e 17)) (gI (vAt e 105)) (gX L (vAt e 7) 0) (gRI L (vAt e 9))) (gT := spec_MirrorRank_l6_T (gI (vAt e 10)) (gI (vAt e 11)) (gF (vAt e 16)) (gK (vAt e 17)) (gI (vAt e 105)) (gX L (vAt e 7) 0) (gRI L (vAt e 9))) (X := spec_MirrorRank_l6_X v23 v24 v25 v26 (gI (vAt e 10)) (gI (vAt e 11)) (gF (vAt e 16)) (gK (vAt e 17)) (gI (vAt e 105)) (gX L (vAt e 7) 0) (gRI L (vAt e 9))) (s0 := ((gI (vAt e 106)), (gPF L (vAt e 7) 0))) tok spec_MirrorRank_hO mixed (LoopsOk_eq (l := []) (by kernel_rfl) trivial) (spec_MirrorRank_l6_be v23 v24 v25 v26 (gI (vAt e 10)) (gI (vAt e 11)) (gF (vAt e 16)) (gK (vAt e 17)) (gI (vAt e 105)) (gX L (vAt e 7) 0) (gRI L (vAt e 9))) rfl (by intro x; rfl) h
theorem spec_MirrorRank_l10_be (v23 : Int) (v24 : Int) (v25 : List Nat) (v26 : Nat) (v640 : Int) (v641 : Int) (v642 : Nat) (v643 : Int) (v644 : Nat) (v645 : Int) (v648 : List Nat) (v649 : List Int) (s : Int × (List (List Nat))) : bodyT TT (tabD spec_MirrorRank_tab) (tabM spec_MirrorRank_tab) (spec_MirrorRank_LO v23 v24 v25 v26) 0 spec_MirrorRank_l10_kill spec_MirrorRank_l10_nx (bodyOf Try.f37 10) 10 (spec_MirrorRank_l10_E v23 v24 v25 v26 v640 v641 v642 v643 v644 v645 v648 v649 s) = (spec_MirrorRank_l10_T v640 v641 v642 v643 v644 v645 v648 v649 s).bind fun y => .leaf (outS (spec_MirrorRank_l10_E v23 v24 v25 v26 v640 v641 v642 v643 v644 v645 v648 v649) (spec_MirrorRank_l10_X v23 v24 v25 v26 v640 v641 v642 v643 v644 v645 v648 v649) y) := by kernel_rfl
theorem spec_MirrorRank_l10_ok (v23 : Int) (v24 : Int) (v25 : List Nat) (v26 : Nat) : LSound Try.prog 0 (spec_MirrorRank_LO v23 v24 v25 v26) 10 (bodyOf Try.f37 10) := by
  intro e L out h
  exact lo_ok (E := spec_MirrorRank_l10_E v23 v24 v25 v26 (gI (vAt e 10)) (gI (vAt e 11)) (gK (vAt e 17)) (gI (vAt e 19)) (gF (vAt e 20)) (gI (vAt e 134)) (gX L (vAt e 7) 0) (gRI L (vAt e 9))) (gT := spec_MirrorRank_l10_T (gI (vAt e 10)) (gI (vAt e 11)) (gK (vAt e 17)) (gI (vAt e 19)) (gF (vAt e 20)) (gI (vAt e 134)) (gX L (vAt e 7) 0) (gRI L (vAt e 9))) (X := spec_MirrorRank_l10_X v23 v24 v25 v26 (gI (vAt e 10)) (gI (vAt e 11)) (gK (vAt e 17)) (gI (vAt e 19)) (gF (vAt e 20)) (gI (vAt e 134)) (gX L (vAt e 7) 0) (gRI L (vAt e 9))) (s0 := ((gI (vAt e 135)), (gPF L (vAt e 7) 0))) tok spec_MirrorRank_hO mixed (LoopsOk_eq (l := []) (by kernel_rfl) trivial) (spec_MirrorRank_l10_be v23 v24 v25 v26 (gI (vAt e 10)) (gI (vAt e 11)) (gK (vAt e 17)) (gI (vAt e 19)) (gF (vAt e 20)) (gI (vAt e 134)) (gX L (vAt e 7) 0) (gRI L (vAt e 9))) rfl (by intro x; rfl) h
theorem spec_MirrorRank_l8_be (v23 : Int) (v24 : Int) (v25 : List Nat) (v26 : Nat) (v612 : Int) (v613 : Int) (v614 : Nat) (v617 : List Nat) (v618 : List Int) (s : Int × (List (List Nat))) : bodyT TT (tabD spec_MirrorRank_tab) (tabM spec_MirrorRank_tab) (spec_MirrorRank_LO v23 v24 v25 v26) 0 spec_MirrorRank_l8_kill spec_MirrorRank_l8_nx (bodyOf Try.f37 8) 8 (spec_MirrorRank_l8_E v23 v24 v25 v26 v612 v613 v614 v617 v618 s) = (spec_MirrorRank_l8_T v23 v24 v25 v26 v612 v613 v614 v617 v618 s).bind fun y => .leaf (outS (spec_MirrorRank_l8_E v23 v24 v25 v26 v612 v613 v614 v617 v618) (spec_MirrorRank_l8_X v23 v24 v25 v26 v612 v613 v614 v617 v618) y) := by kernel_rfl
theorem spec_MirrorRank_l8_ok (v23 : Int) (v24 : Int) (v25 : List Nat) (v26 : Nat) : LSound Try.prog 0 (spec_MirrorRank_LO v23 v24 v25 v26) 8 (bodyOf Try.f37 8) := by
  intro e L out h
  exact lo_ok (E := spec_MirrorRank_l8_E v23 v24 v25 v26 (gI (vAt e 10)) (gI (vAt e 11)) (gK (vAt e 17)) (gX L (vAt e 7) 0) (gRI L (vAt e 9))) (gT := spec_MirrorRank_l8_T v23 v24 v25 v26 (gI (vAt e 10)) (gI (vAt e 11)) (gK (vAt e 17)) (gX L (vAt e 7) 0) (gRI L (vAt e 9))) (X := spec_MirrorRank_l8_X v23 v24 v25 v26 (gI (vAt e 10)) (gI (vAt e 11)) (gK (vAt e 17)) (gX L (vAt e 7) 0) (gRI L (vAt e 9))) (s0 := ((gI (vAt e 19)), (gPF L (vAt e 7) 0))) tok spec_MirrorRank_hO mixed (LoopsOk_eq (l := [(10, bodyOf Try.f37 10)]) (by kernel_rfl) ⟨spec_MirrorRank_l10_ok v23 v24 v25 v26, trivial⟩) (spec_MirrorRank_l8_be v23 v24 v25 v26 (gI (vAt e 10)) (gI (vAt e 11)) (gK (vAt e 17)) (gX L (vAt e 7) 0) (gRI L (vAt e 9))) rfl (by intro x; rfl) h
theorem spec_MirrorRank_l2_be (v23 : Int) (v24 : Int) (v25 : List Nat) (v26 : Nat) (s : Int × Int × (List (List Nat)) × (List Nat) × (List Int)) : bodyT TT (tabD spec_MirrorRank_tab) (tabM spec_MirrorRank_tab) (spec_MirrorRank_LO v23 v24 v25 v26) 0 spec_MirrorRank_l2_kill spec_MirrorRank_l2_nx (bodyOf Try.f37 2) 2 (spec_MirrorRank_l2_E v23 v24 v25 v26 s) = (spec_MirrorRank_l2_T v23 v24 v25 v26 s).bind fun y => .leaf (outS (spec_MirrorRank_l2_E v23 v24 v25 v26) (spec_MirrorRank_l2_X v23 v24 v25 v26) y) := by kernel_rfl
theorem spec_MirrorRank_l2_ok (v23 : Int) (v24 : Int) (v25 : List Nat) (v26 : Nat) : LSound Try.prog 0 (spec_MirrorRank_LO v23 v24 v25 v26) 2 (bodyOf Try.f37 2) := by
  intro e L out h
  exact lo_ok (E := spec_MirrorRank_l2_E v23 v24 v25 v26) (gT := spec_MirrorRank_l2_T v23 v24 v25 v26) (X := spec_MirrorRank_l2_X v23 v24 v25 v26) (s0 := ((gI (vAt e 10)), (gI (vAt e 11)), (gPF L (vAt e 7) 0), (gX L (vAt e 7) 0), (gRI L (vAt e 9)))) tok spec_MirrorRank_hO mixed (LoopsOk_eq (l := [(4, bodyOf Try.f37 4), (6, bodyOf Try.f37 6), (8, bodyOf Try.f37 8)]) (by kernel_rfl) ⟨spec_MirrorRank_l4_ok v23 v24 v25 v26, spec_MirrorRank_l6_ok v23 v24 v25 v26, spec_MirrorRank_l8_ok v23 v24 v25 v26, trivial⟩) (spec_MirrorRank_l2_be v23 v24 v25 v26) rfl (by intro x; (cases x with | inl b => rfl | inr x => exact rfl)) h
noncomputable def spec_MirrorRank_T (v23 : Int) (v24 : Int) (v25 : List Nat) (v26 : Nat) : Tree ((Unit) ⊕ (Int × (List Int))) :=
  (.call (spec_l02Is_g v23 v24 v25) fun v44 =>
  (.br (!v44) (
   .leaf (.inl ())
  ) (
   (.br (!(spec_l02Least_v v26)) (
    .leaf (.inl ())
   ) (
    (.need (some (spec_MirrorRank_l0_E v23 v24 v25 v26 ((0 : Int), ([] : List (List Nat)), ([] : List Nat))) = some (spec_MirrorRank_l0_E v23 v24 v25 v26 ((0 : Int), ([] : List (List Nat)), ([] : List Nat)))) <|
    (.call (spec_MirrorRank_l0_g v23 v24 v25 ((0 : Int), ([] : List (List Nat)), ([] : List Nat))) fun v74 =>
    (.call (spec_l03Count_g v24) fun v82 =>
    (.need (some (spec_MirrorRank_l2_E v23 v24 v25 v26 ((0 : Int), (0 : Int), v74.1, v74.2, v82)) = some (spec_MirrorRank_l2_E v23 v24 v25 v26 ((0 : Int), (0 : Int), v74.1, v74.2, v82))) <|
    (.call (spec_MirrorRank_l2_g v23 v24 v25 v26 ((0 : Int), (0 : Int), v74.1, v74.2, v82)) fun v652 =>
    (.sum v652 (fun v653 =>
     .leaf (.inl ())
    ) (fun v654 =>
     .leaf (.inr (v654.1, v654.2))
    )))))))
   ))
  )))

noncomputable def spec_MirrorRank_g (v23 : Int) (v24 : Int) (v25 : List Nat) (v26 : Nat) : Option ((Unit) ⊕ (Int × (List Int))) := (spec_MirrorRank_T v23 v24 v25 v26).run
def spec_MirrorRank_enc (v23 : Int) (v24 : Int) (v25 : List Nat) (v26 : Nat) (y : (Unit) ⊕ (Int × (List Int))) : Rs := (match y with | .inl y => (.tup [.nilslc, .int .i64 (0 : Int), .lit false], []) | .inr y => (.tup [.own 0 0 ((y.2).length), .int .i64 y.1, .lit true], [.row (.i64 y.2) 0]))
theorem spec_MirrorRank_den (v23 : Int) (v24 : Int) (v25 : List Nat) (v26 : Nat) : (den TT (tabD spec_MirrorRank_tab) (tabM spec_MirrorRank_tab) (spec_MirrorRank_LO v23 v24 v25 v26) (codeOf Try.f37) ([.agg [.int .i64 v23, .int .i64 v24, .bslc (BR.root 0) (.f32 v25)], .flt .f32 v26] ++ List.replicate (Try.f37.ntmps - ([.agg [.int .i64 v23, .int .i64 v24, .bslc (BR.root 0) (.f32 v25)], .flt .f32 v26] : List DV).length) .undef) []).bind (retD TT Try.f37.results.toList 0) = (spec_MirrorRank_T v23 v24 v25 v26).bind fun y => .leaf (spec_MirrorRank_enc v23 v24 v25 v26 y) := by kernel_rfl
theorem spec_MirrorRank_fn (v23 : Int) (v24 : Int) (v25 : List Nat) (v26 : Nat) (F : Fr) (h0 : St F [] F.H0) (hA : DVs.Ok F [] [.agg [.int .i64 v23, .int .i64 v24, .bslc (BR.root 0) (.f32 v25)], .flt .f32 v26]) {y : (Unit) ⊕ (Int × (List Int))} (hy : spec_MirrorRank_g v23 v24 v25 v26 = some y) : ∃ F' H', Fwd 0 F F' [] (spec_MirrorRank_enc v23 v24 v25 v26 y).2 ∧ FnOk Try.prog 37 (DVs.av F [.agg [.int .i64 v23, .int .i64 v24, .bslc (BR.root 0) (.f32 v25)], .flt .f32 v26]) F.H0 ((spec_MirrorRank_enc v23 v24 v25 v26 y).1.av F') H' ∧ St F' (spec_MirrorRank_enc v23 v24 v25 v26 y).2 H' ∧ (spec_MirrorRank_enc v23 v24 v25 v26 y).1.Ok F' (spec_MirrorRank_enc v23 v24 v25 v26 y).2 :=
  fn_fin tok spec_MirrorRank_hO mixed Try.func37 Try.call37 (by kernel_rfl) (LoopsOk_eq (l := [(0, bodyOf Try.f37 0), (2, bodyOf Try.f37 2)]) (by kernel_rfl) ⟨spec_MirrorRank_l0_ok v23 v24 v25 v26, spec_MirrorRank_l2_ok v23 v24 v25 v26, trivial⟩) (spec_MirrorRank_den v23 v24 v25 v26) hy h0 hA
noncomputable def spec_MirrorRank_F : DFn := fun args L =>
  match args with
  | [.agg [.int .i64 v23, .int .i64 v24, a1], .flt .f32 v26] =>
    optT (rowF32 L a1) fun v25 =>
    .call (spec_MirrorRank_g v23 v24 v25 v26) fun y => .sum y (fun y0 => .leaf (.tup [.nilslc, .int .i64 (0 : Int), .lit false], L)) (fun z0 => .leaf (.tup [.own (L.length + 0) 0 ((z0.2).length), .int .i64 z0.1, .lit true], L ++ [.row (.i64 z0.2) 0]))
  | _ => .fail
theorem spec_MirrorRank_Fok : COk Try.prog 37 spec_MirrorRank_F true := by
  intro F L H args r L' hs ha hr
  unfold spec_MirrorRank_F at hr
  split at hr
  · rename_i v23 v24 a1 v26
    obtain ⟨v25, hv25, hr⟩ := optT_run hr
    simp only [Tree.run] at hr
    obtain ⟨y, hy, hr⟩ := Option.bind_eq_some_iff.1 hr
    cases y with
    | inl y =>
      simp only [Tree.run, Option.some.injEq, Prod.mk.injEq] at hr
      obtain ⟨rfl, rfl⟩ := hr
      exact call_ok0 hs (fun k => (([a1.av F] : List AV)[k]?).getD .top) [.agg [.int .i64 v23, .int .i64 v24, a1], .flt .f32 v26] [.agg [.int .i64 v23, .int .i64 v24, .bslc (BR.root 0) (.f32 v25)], .flt .f32 v26] (fun F' h0 hi hρ => ⟨by simp [DVs.av, DV.av, BR.av, hρ], spec_MirrorRank_fn v23 v24 v25 v26 F' (st_nil hi) ⟨⟨trivial, trivial, bslc_ok hi (by rw [h0, hρ]; exact rowF32_ok hs (DVs.okAt (DVs.okAt ha 0 rfl) 2 rfl) hv25), trivial⟩, trivial, trivial⟩ hy⟩) rfl
    | inr y =>
      simp only [Tree.run, Option.some.injEq, Prod.mk.injEq] at hr
      obtain ⟨rfl, rfl⟩ := hr
      exact call_ok1 hs (fun k => (([a1.av F] : List AV)[k]?).getD .top) [.agg [.int .i64 v23, .int .i64 v24, a1], .flt .f32 v26] [.agg [.int .i64 v23, .int .i64 v24, .bslc (BR.root 0) (.f32 v25)], .flt .f32 v26] (fun F' h0 hi hρ => ⟨by simp [DVs.av, DV.av, BR.av, hρ], spec_MirrorRank_fn v23 v24 v25 v26 F' (st_nil hi) ⟨⟨trivial, trivial, bslc_ok hi (by rw [h0, hρ]; exact rowF32_ok hs (DVs.okAt (DVs.okAt ha 0 rfl) 2 rfl) hv25), trivial⟩, trivial, trivial⟩ hy⟩) rfl rfl
  · cases hr
/-! impl.inRange -/
noncomputable def impl_inRange_LO (v667 : Int) (v668 : Int) (v669 : Int) : LOr := fun id e L =>
  match id with
  | _ => .fail
noncomputable def impl_inRange_tab : List (FuncId × DFn × Bool) := []
theorem impl_inRange_hO : OrcOk Try.prog (tabD impl_inRange_tab) (tabM impl_inRange_tab) := tabD_nil _
noncomputable def impl_inRange_T (v667 : Int) (v668 : Int) (v669 : Int) : Tree (Bool) :=
  (.br (decide (v668 ≤ v667)) (
   .leaf (decide (v667 ≤ v669))
  ) (
   .leaf false
  ))

noncomputable def impl_inRange_g (v667 : Int) (v668 : Int) (v669 : Int) : Option (Bool) := (impl_inRange_T v667 v668 v669).run
def impl_inRange_enc (v667 : Int) (v668 : Int) (v669 : Int) (y : Bool) : Rs := (.bool y, [])
theorem impl_inRange_den (v667 : Int) (v668 : Int) (v669 : Int) : (den TT (tabD impl_inRange_tab) (tabM impl_inRange_tab) (impl_inRange_LO v667 v668 v669) (codeOf Try.f89) ([.int .i64 v667, .int .i64 v668, .int .i64 v669] ++ List.replicate (Try.f89.ntmps - ([.int .i64 v667, .int .i64 v668, .int .i64 v669] : List DV).length) .undef) []).bind (retD TT Try.f89.results.toList 0) = (impl_inRange_T v667 v668 v669).bind fun y => .leaf (impl_inRange_enc v667 v668 v669 y) := by kernel_rfl
theorem impl_inRange_fn (v667 : Int) (v668 : Int) (v669 : Int) (F : Fr) (h0 : St F [] F.H0) (hA : DVs.Ok F [] [.int .i64 v667, .int .i64 v668, .int .i64 v669]) {y : Bool} (hy : impl_inRange_g v667 v668 v669 = some y) : ∃ F' H', Fwd 0 F F' [] (impl_inRange_enc v667 v668 v669 y).2 ∧ FnOk Try.prog 89 (DVs.av F [.int .i64 v667, .int .i64 v668, .int .i64 v669]) F.H0 ((impl_inRange_enc v667 v668 v669 y).1.av F') H' ∧ St F' (impl_inRange_enc v667 v668 v669 y).2 H' ∧ (impl_inRange_enc v667 v668 v669 y).1.Ok F' (impl_inRange_enc v667 v668 v669 y).2 :=
  fn_fin tok impl_inRange_hO mixed Try.func89 Try.call89 (by kernel_rfl) (LoopsOk_eq (l := []) (by kernel_rfl) trivial) (impl_inRange_den v667 v668 v669) hy h0 hA
def impl_inRange_v (v667 : Int) (v668 : Int) (v669 : Int) : Bool :=
  if (decide (v668 ≤ v667)) = true then (
   decide (v667 ≤ v669)
  ) else (
   false
  )
theorem impl_inRange_tot (v667 : Int) (v668 : Int) (v669 : Int) : impl_inRange_g v667 v668 v669 = some (impl_inRange_v v667 v668 v669) := by
  unfold impl_inRange_g impl_inRange_T impl_inRange_v
  simp only [Tree.run]
  repeat' (first | rfl | split)
noncomputable def impl_inRange_F : DFn := fun args L =>
  match args with
  | [.int .i64 v667, .int .i64 v668, .int .i64 v669] =>
    .leaf (.bool (impl_inRange_v v667 v668 v669), L)
  | _ => .fail
theorem impl_inRange_Fok : COk Try.prog 89 impl_inRange_F true := by
  intro F L H args r L' hs ha hr
  unfold impl_inRange_F at hr
  split at hr
  · rename_i v667 v668 v669
    have hy := impl_inRange_tot v667 v668 v669
    generalize impl_inRange_v v667 v668 v669 = y at hy hr
    simp only [Tree.run, Option.some.injEq, Prod.mk.injEq] at hr
    obtain ⟨rfl, rfl⟩ := hr
    exact call_ok0 hs (fun k => (([] : List AV)[k]?).getD .top) [.int .i64 v667, .int .i64 v668, .int .i64 v669] [.int .i64 v667, .int .i64 v668, .int .i64 v669] (fun F' h0 hi hρ => ⟨by simp [DVs.av, DV.av, BR.av, hρ], impl_inRange_fn v667 v668 v669 F' (st_nil hi) ⟨trivial, trivial, trivial, trivial⟩ hy⟩) rfl
  · cases hr
/-! impl.isSide -/
noncomputable def impl_isSide_LO (v666 : Int) : LOr := fun id e L =>
  match id with
  | _ => .fail
noncomputable def impl_isSide_tab : List (FuncId × DFn × Bool) := [(89, impl_inRange_F, true)]
theorem impl_isSide_hO : OrcOk Try.prog (tabD impl_isSide_tab) (tabM impl_isSide_tab) := tabD_cons impl_inRange_Fok (tabD_nil _)
noncomputable def impl_isSide_T (v666 : Int) : Tree (Bool) :=
  .leaf (impl_inRange_v v666 (1 : Int) (12 : Int))

noncomputable def impl_isSide_g (v666 : Int) : Option (Bool) := (impl_isSide_T v666).run
def impl_isSide_enc (v666 : Int) (y : Bool) : Rs := (.bool y, [])
theorem impl_isSide_den (v666 : Int) : (den TT (tabD impl_isSide_tab) (tabM impl_isSide_tab) (impl_isSide_LO v666) (codeOf Try.f144) ([.int .i64 v666] ++ List.replicate (Try.f144.ntmps - ([.int .i64 v666] : List DV).length) .undef) []).bind (retD TT Try.f144.results.toList 0) = (impl_isSide_T v666).bind fun y => .leaf (impl_isSide_enc v666 y) := by kernel_rfl
theorem impl_isSide_fn (v666 : Int) (F : Fr) (h0 : St F [] F.H0) (hA : DVs.Ok F [] [.int .i64 v666]) {y : Bool} (hy : impl_isSide_g v666 = some y) : ∃ F' H', Fwd 0 F F' [] (impl_isSide_enc v666 y).2 ∧ FnOk Try.prog 144 (DVs.av F [.int .i64 v666]) F.H0 ((impl_isSide_enc v666 y).1.av F') H' ∧ St F' (impl_isSide_enc v666 y).2 H' ∧ (impl_isSide_enc v666 y).1.Ok F' (impl_isSide_enc v666 y).2 :=
  fn_fin tok impl_isSide_hO mixed Try.func144 Try.call144 (by kernel_rfl) (LoopsOk_eq (l := []) (by kernel_rfl) trivial) (impl_isSide_den v666) hy h0 hA
def impl_isSide_v (v666 : Int) : Bool :=
  (impl_inRange_v v666 (1 : Int) (12 : Int))
theorem impl_isSide_tot (v666 : Int) : impl_isSide_g v666 = some (impl_isSide_v v666) := by
  unfold impl_isSide_g impl_isSide_T impl_isSide_v
  simp only [Tree.run]
  repeat' (first | rfl | split)
noncomputable def impl_isSide_F : DFn := fun args L =>
  match args with
  | [.int .i64 v666] =>
    .leaf (.bool (impl_isSide_v v666), L)
  | _ => .fail
theorem impl_isSide_Fok : COk Try.prog 144 impl_isSide_F true := by
  intro F L H args r L' hs ha hr
  unfold impl_isSide_F at hr
  split at hr
  · rename_i v666
    have hy := impl_isSide_tot v666
    generalize impl_isSide_v v666 = y at hy hr
    simp only [Tree.run, Option.some.injEq, Prod.mk.injEq] at hr
    obtain ⟨rfl, rfl⟩ := hr
    exact call_ok0 hs (fun k => (([] : List AV)[k]?).getD .top) [.int .i64 v666] [.int .i64 v666] (fun F' h0 hi hρ => ⟨by simp [DVs.av, DV.av, BR.av, hρ], impl_isSide_fn v666 F' (st_nil hi) ⟨trivial, trivial⟩ hy⟩) rfl
  · cases hr
/-! impl.length[float32] -/
noncomputable def impl_lengthF_LO (v670 : List Nat) : LOr := fun id e L =>
  match id with
  | _ => .fail
noncomputable def impl_lengthF_tab : List (FuncId × DFn × Bool) := []
theorem impl_lengthF_hO : OrcOk Try.prog (tabD impl_lengthF_tab) (tabM impl_lengthF_tab) := tabD_nil _
noncomputable def impl_lengthF_T (v670 : List Nat) : Tree (Int) :=
  .leaf ((v670.length : Nat) : Int)

noncomputable def impl_lengthF_g (v670 : List Nat) : Option (Int) := (impl_lengthF_T v670).run
def impl_lengthF_enc (v670 : List Nat) (y : Int) : Rs := (.int .i64 y, [])
theorem impl_lengthF_den (v670 : List Nat) : (den TT (tabD impl_lengthF_tab) (tabM impl_lengthF_tab) (impl_lengthF_LO v670) (codeOf Try.f145) ([.bslc (BR.root 0) (.f32 v670)] ++ List.replicate (Try.f145.ntmps - ([.bslc (BR.root 0) (.f32 v670)] : List DV).length) .undef) []).bind (retD TT Try.f145.results.toList 0) = (impl_lengthF_T v670).bind fun y => .leaf (impl_lengthF_enc v670 y) := by kernel_rfl
theorem impl_lengthF_fn (v670 : List Nat) (F : Fr) (h0 : St F [] F.H0) (hA : DVs.Ok F [] [.bslc (BR.root 0) (.f32 v670)]) {y : Int} (hy : impl_lengthF_g v670 = some y) : ∃ F' H', Fwd 0 F F' [] (impl_lengthF_enc v670 y).2 ∧ FnOk Try.prog 145 (DVs.av F [.bslc (BR.root 0) (.f32 v670)]) F.H0 ((impl_lengthF_enc v670 y).1.av F') H' ∧ St F' (impl_lengthF_enc v670 y).2 H' ∧ (impl_lengthF_enc v670 y).1.Ok F' (impl_lengthF_enc v670 y).2 :=
  fn_fin tok impl_lengthF_hO mixed Try.func145 Try.call145 (by kernel_rfl) (LoopsOk_eq (l := []) (by kernel_rfl) trivial) (impl_lengthF_den v670) hy h0 hA
def impl_lengthF_v (v670 : List Nat) : Int :=
  ((v670.length : Nat) : Int)
theorem impl_lengthF_tot (v670 : List Nat) : impl_lengthF_g v670 = some (impl_lengthF_v v670) := by
  unfold impl_lengthF_g impl_lengthF_T impl_lengthF_v
  simp only [Tree.run]
  repeat' (first | rfl | split)
noncomputable def impl_lengthF_F : DFn := fun args L =>
  match args with
  | [a1] =>
    optT (rowF32 L a1) fun v670 =>
    .leaf (.int .i64 (impl_lengthF_v v670), L)
  | _ => .fail
theorem impl_lengthF_Fok : COk Try.prog 145 impl_lengthF_F true := by
  intro F L H args r L' hs ha hr
  unfold impl_lengthF_F at hr
  split at hr
  · rename_i a1
    obtain ⟨v670, hv670, hr⟩ := optT_run hr
    have hy := impl_lengthF_tot v670
    generalize impl_lengthF_v v670 = y at hy hr
    simp only [Tree.run, Option.some.injEq, Prod.mk.injEq] at hr
    obtain ⟨rfl, rfl⟩ := hr
    exact call_ok0 hs (fun k => (([a1.av F] : List AV)[k]?).getD .top) [a1] [.bslc (BR.root 0) (.f32 v670)] (fun F' h0 hi hρ => ⟨by simp [DVs.av, DV.av, BR.av, hρ], impl_lengthF_fn v670 F' (st_nil hi) ⟨bslc_ok hi (by rw [h0, hρ]; exact rowF32_ok hs (DVs.okAt ha 0 rfl) hv670), trivial⟩ hy⟩) rfl
  · cases hr
/-! math.IsNaN -/
noncomputable def math_IsNaN_LO (v678 : Nat) : LOr := fun id e L =>
  match id with
  | _ => .fail
noncomputable def math_IsNaN_tab : List (FuncId × DFn × Bool) := []
theorem math_IsNaN_hO : OrcOk Try.prog (tabD math_IsNaN_tab) (tabM math_IsNaN_tab) := tabD_nil _
noncomputable def math_IsNaN_T (v678 : Nat) : Tree (Bool) :=
  .leaf (!feq .f64 v678 v678)

noncomputable def math_IsNaN_g (v678 : Nat) : Option (Bool) := (math_IsNaN_T v678).run
def math_IsNaN_enc (v678 : Nat) (y : Bool) : Rs := (.bool y, [])
theorem math_IsNaN_den (v678 : Nat) : (den TT (tabD math_IsNaN_tab) (tabM math_IsNaN_tab) (math_IsNaN_LO v678) (codeOf Try.f158) ([.flt .f64 v678] ++ List.replicate (Try.f158.ntmps - ([.flt .f64 v678] : List DV).length) .undef) []).bind (retD TT Try.f158.results.toList 0) = (math_IsNaN_T v678).bind fun y => .leaf (math_IsNaN_enc v678 y) := by kernel_rfl
theorem math_IsNaN_fn (v678 : Nat) (F : Fr) (h0 : St F [] F.H0) (hA : DVs.Ok F [] [.flt .f64 v678]) {y : Bool} (hy : math_IsNaN_g v678 = some y) : ∃ F' H', Fwd 0 F F' [] (math_IsNaN_enc v678 y).2 ∧ FnOk Try.prog 158 (DVs.av F [.flt .f64 v678]) F.H0 ((math_IsNaN_enc v678 y).1.av F') H' ∧ St F' (math_IsNaN_enc v678 y).2 H' ∧ (math_IsNaN_enc v678 y).1.Ok F' (math_IsNaN_enc v678 y).2 :=
  fn_fin tok math_IsNaN_hO mixed Try.func158 Try.call158 (by kernel_rfl) (LoopsOk_eq (l := []) (by kernel_rfl) trivial) (math_IsNaN_den v678) hy h0 hA
def math_IsNaN_v (v678 : Nat) : Bool :=
  !feq .f64 v678 v678
theorem math_IsNaN_tot (v678 : Nat) : math_IsNaN_g v678 = some (math_IsNaN_v v678) := by
  unfold math_IsNaN_g math_IsNaN_T math_IsNaN_v
  simp only [Tree.run]
  repeat' (first | rfl | split)
noncomputable def math_IsNaN_F : DFn := fun args L =>
  match args with
  | [.flt .f64 v678] =>
    .leaf (.bool (math_IsNaN_v v678), L)
  | _ => .fail
theorem math_IsNaN_Fok : COk Try.prog 158 math_IsNaN_F true := by
  intro F L H args r L' hs ha hr
  unfold math_IsNaN_F at hr
  split at hr
  · rename_i v678
    have hy := math_IsNaN_tot v678
    generalize math_IsNaN_v v678 = y at hy hr
    simp only [Tree.run, Option.some.injEq, Prod.mk.injEq] at hr
    obtain ⟨rfl, rfl⟩ := hr
    exact call_ok0 hs (fun k => (([] : List AV)[k]?).getD .top) [.flt .f64 v678] [.flt .f64 v678] (fun F' h0 hi hρ => ⟨by simp [DVs.av, DV.av, BR.av, hρ], math_IsNaN_fn v678 F' (st_nil hi) ⟨trivial, trivial⟩ hy⟩) rfl
  · cases hr
/-! math.IsInf -/
noncomputable def math_IsInf_LO (v679 : Nat) (v680 : Int) : LOr := fun id e L =>
  match id with
  | _ => .fail
noncomputable def math_IsInf_tab : List (FuncId × DFn × Bool) := [(169, Abs_F, true)]
theorem math_IsInf_hO : OrcOk Try.prog (tabD math_IsInf_tab) (tabM math_IsInf_tab) := tabD_cons Abs_Fok (tabD_nil _)
noncomputable def math_IsInf_T (v679 : Nat) (v680 : Int) : Tree (Bool) :=
  (.br (decide (v680 = (0 : Int))) (
   .leaf (fgrt .f64 (fabs v679) (9218868437227405311 : Nat))
  ) (
   (.br (decide (v680 < (0 : Int))) (
    .leaf (fgrt .f64 (fneg .f64 v679) (9218868437227405311 : Nat))
   ) (
    .leaf (fgrt .f64 v679 (9218868437227405311 : Nat))
   ))
  ))

noncomputable def math_IsInf_g (v679 : Nat) (v680 : Int) : Option (Bool) := (math_IsInf_T v679 v680).run
def math_IsInf_enc (v679 : Nat) (v680 : Int) (y : Bool) : Rs := (.bool y, [])
theorem math_IsInf_den (v679 : Nat) (v680 : Int) : (den TT (tabD math_IsInf_tab) (tabM math_IsInf_tab) (math_IsInf_LO v679 v680) (codeOf Try.f159) ([.flt .f64 v679, .int .i64 v680] ++ List.replicate (Try.f159.ntmps - ([.flt .f64 v679, .int .i64 v680] : List DV).length) .undef) []).bind (retD TT Try.f159.results.toList 0) = (math_IsInf_T v679 v680).bind fun y => .leaf (math_IsInf_enc v679 v680 y) := by kernel_rfl
theorem math_IsInf_fn (v679 : Nat) (v680 : Int) (F : Fr) (h0 : St F [] F.H0) (hA : DVs.Ok F [] [.flt .f64 v679, .int .i64 v680]) {y : Bool} (hy : math_IsInf_g v679 v680 = some y) : ∃ F' H', Fwd 0 F F' [] (math_IsInf_enc v679 v680 y).2 ∧ FnOk Try.prog 159 (DVs.av F [.flt .f64 v679, .int .i64 v680]) F.H0 ((math_IsInf_enc v679 v680 y).1.av F') H' ∧ St F' (math_IsInf_enc v679 v680 y).2 H' ∧ (math_IsInf_enc v679 v680 y).1.Ok F' (math_IsInf_enc v679 v680 y).2 :=
  fn_fin tok math_IsInf_hO mixed Try.func159 Try.call159 (by kernel_rfl) (LoopsOk_eq (l := []) (by kernel_rfl) trivial) (math_IsInf_den v679 v680) hy h0 hA
def math_IsInf_v (v679 : Nat) (v680 : Int) : Bool :=
  if (decide (v680 = (0 : Int))) = true then (
   fgrt .f64 (fabs v679) (9218868437227405311 : Nat)
  ) else (
   if (decide (v680 < (0 : Int))) = true then (
    fgrt .f64 (fneg .f64 v679) (9218868437227405311 : Nat)
   ) else (
    fgrt .f64 v679 (9218868437227405311 : Nat)
   )
  )
theorem math_IsInf_tot (v679 : Nat) (v680 : Int) : math_IsInf_g v679 v680 = some (math_IsInf_v v679 v680) := by
  unfold math_IsInf_g math_IsInf_T math_IsInf_v
  simp only [Tree.run]
  repeat' (first | rfl | split)
noncomputable def math_IsInf_F : DFn := fun args L =>
  match args with
  | [.flt .f64 v679, .int .i64 v680] =>
    .leaf (.bool (math_IsInf_v v679 v680), L)
  | _ => .fail
theorem math_IsInf_Fok : COk Try.prog 159 math_IsInf_F true := by
  intro F L H args r L' hs ha hr
  unfold math_IsInf_F at hr
  split at hr
  · rename_i v679 v680
    have hy := math_IsInf_tot v679 v680
    generalize math_IsInf_v v679 v680 = y at hy hr
    simp only [Tree.run, Option.some.injEq, Prod.mk.injEq] at hr
    obtain ⟨rfl, rfl⟩ := hr
    exact call_ok0 hs (fun k => (([] : List AV)[k]?).getD .top) [.flt .f64 v679, .int .i64 v680] [.flt .f64 v679, .int .i64 v680] (fun F' h0 hi hρ => ⟨by simp [DVs.av, DV.av, BR.av, hρ], math_IsInf_fn v679 v680 F' (st_nil hi) ⟨trivial, trivial, trivial⟩ hy⟩) rfl
  · cases hr
/-! impl.isFinite64 -/
noncomputable def impl_isFinite64_LO (v677 : Nat) : LOr := fun id e L =>
  match id with
  | _ => .fail
noncomputable def impl_isFinite64_tab : List (FuncId × DFn × Bool) := [(158, math_IsNaN_F, true), (159, math_IsInf_F, true)]
theorem impl_isFinite64_hO : OrcOk Try.prog (tabD impl_isFinite64_tab) (tabM impl_isFinite64_tab) := tabD_cons math_IsNaN_Fok (tabD_cons math_IsInf_Fok (tabD_nil _))
noncomputable def impl_isFinite64_T (v677 : Nat) : Tree (Bool) :=
  (.br (!(math_IsNaN_v v677)) (
   .leaf (!(math_IsInf_v v677 (0 : Int)))
  ) (
   .leaf false
  ))

noncomputable def impl_isFinite64_g (v677 : Nat) : Option (Bool) := (impl_isFinite64_T v677).run
def impl_isFinite64_enc (v677 : Nat) (y : Bool) : Rs := (.bool y, [])
theorem impl_isFinite64_den (v677 : Nat) : (den TT (tabD impl_isFinite64_tab) (tabM impl_isFinite64_tab) (impl_isFinite64_LO v677) (codeOf Try.f147) ([.flt .f64 v677] ++ List.replicate (Try.f147.ntmps - ([.flt .f64 v677] : List DV).length) .undef) []).bind (retD TT Try.f147.results.toList 0) = (impl_isFinite64_T v677).bind fun y => .leaf (impl_isFinite64_enc v677 y) := by kernel_rfl
theorem impl_isFinite64_fn (v677 : Nat) (F : Fr) (h0 : St F [] F.H0) (hA : DVs.Ok F [] [.flt .f64 v677]) {y : Bool} (hy : impl_isFinite64_g v677 = some y) : ∃ F' H', Fwd 0 F F' [] (impl_isFinite64_enc v677 y).2 ∧ FnOk Try.prog 147 (DVs.av F [.flt .f64 v677]) F.H0 ((impl_isFinite64_enc v677 y).1.av F') H' ∧ St F' (impl_isFinite64_enc v677 y).2 H' ∧ (impl_isFinite64_enc v677 y).1.Ok F' (impl_isFinite64_enc v677 y).2 :=
  fn_fin tok impl_isFinite64_hO mixed Try.func147 Try.call147 (by kernel_rfl) (LoopsOk_eq (l := []) (by kernel_rfl) trivial) (impl_isFinite64_den v677) hy h0 hA
def impl_isFinite64_v (v677 : Nat) : Bool :=
  if (!(math_IsNaN_v v677)) = true then (
   !(math_IsInf_v v677 (0 : Int))
  ) else (
   false
  )
theorem impl_isFinite64_tot (v677 : Nat) : impl_isFinite64_g v677 = some (impl_isFinite64_v v677) := by
  unfold impl_isFinite64_g impl_isFinite64_T impl_isFinite64_v
  simp only [Tree.run]
  repeat' (first | rfl | split)
noncomputable def impl_isFinite64_F : DFn := fun args L =>
  match args with
  | [.flt .f64 v677] =>
    .leaf (.bool (impl_isFinite64_v v677), L)
  | _ => .fail
theorem impl_isFinite64_Fok : COk Try.prog 147 impl_isFinite64_F true := by
  intro F L H args r L' hs ha hr
  unfold impl_isFinite64_F at hr
  split at hr
  · rename_i v677
    have hy := impl_isFinite64_tot v677
    generalize impl_isFinite64_v v677 = y at hy hr
    simp only [Tree.run, Option.some.injEq, Prod.mk.injEq] at hr
    obtain ⟨rfl, rfl⟩ := hr
    exact call_ok0 hs (fun k => (([] : List AV)[k]?).getD .top) [.flt .f64 v677] [.flt .f64 v677] (fun F' h0 hi hρ => ⟨by simp [DVs.av, DV.av, BR.av, hρ], impl_isFinite64_fn v677 F' (st_nil hi) ⟨trivial, trivial⟩ hy⟩) rfl
  · cases hr
/-! impl.IsFinite -/
noncomputable def impl_IsFinite_LO (v676 : Nat) : LOr := fun id e L =>
  match id with
  | _ => .fail
noncomputable def impl_IsFinite_tab : List (FuncId × DFn × Bool) := [(147, impl_isFinite64_F, true)]
theorem impl_IsFinite_hO : OrcOk Try.prog (tabD impl_IsFinite_tab) (tabM impl_IsFinite_tab) := tabD_cons impl_isFinite64_Fok (tabD_nil _)
noncomputable def impl_IsFinite_T (v676 : Nat) : Tree (Bool) :=
  .leaf (impl_isFinite64_v (wid v676))

noncomputable def impl_IsFinite_g (v676 : Nat) : Option (Bool) := (impl_IsFinite_T v676).run
def impl_IsFinite_enc (v676 : Nat) (y : Bool) : Rs := (.bool y, [])
theorem impl_IsFinite_den (v676 : Nat) : (den TT (tabD impl_IsFinite_tab) (tabM impl_IsFinite_tab) (impl_IsFinite_LO v676) (codeOf Try.f106) ([.flt .f32 v676] ++ List.replicate (Try.f106.ntmps - ([.flt .f32 v676] : List DV).length) .undef) []).bind (retD TT Try.f106.results.toList 0) = (impl_IsFinite_T v676).bind fun y => .leaf (impl_IsFinite_enc v676 y) := by kernel_rfl
theorem impl_IsFinite_fn (v676 : Nat) (F : Fr) (h0 : St F [] F.H0) (hA : DVs.Ok F [] [.flt .f32 v676]) {y : Bool} (hy : impl_IsFinite_g v676 = some y) : ∃ F' H', Fwd 0 F F' [] (impl_IsFinite_enc v676 y).2 ∧ FnOk Try.prog 106 (DVs.av F [.flt .f32 v676]) F.H0 ((impl_IsFinite_enc v676 y).1.av F') H' ∧ St F' (impl_IsFinite_enc v676 y).2 H' ∧ (impl_IsFinite_enc v676 y).1.Ok F' (impl_IsFinite_enc v676 y).2 :=
  fn_fin tok impl_IsFinite_hO mixed Try.func106 Try.call106 (by kernel_rfl) (LoopsOk_eq (l := []) (by kernel_rfl) trivial) (impl_IsFinite_den v676) hy h0 hA
def impl_IsFinite_v (v676 : Nat) : Bool :=
  (impl_isFinite64_v (wid v676))
theorem impl_IsFinite_tot (v676 : Nat) : impl_IsFinite_g v676 = some (impl_IsFinite_v v676) := by
  unfold impl_IsFinite_g impl_IsFinite_T impl_IsFinite_v
  simp only [Tree.run]
  repeat' (first | rfl | split)
noncomputable def impl_IsFinite_F : DFn := fun args L =>
  match args with
  | [.flt .f32 v676] =>
    .leaf (.bool (impl_IsFinite_v v676), L)
  | _ => .fail
theorem impl_IsFinite_Fok : COk Try.prog 106 impl_IsFinite_F true := by
  intro F L H args r L' hs ha hr
  unfold impl_IsFinite_F at hr
  split at hr
  · rename_i v676
    have hy := impl_IsFinite_tot v676
    generalize impl_IsFinite_v v676 = y at hy hr
    simp only [Tree.run, Option.some.injEq, Prod.mk.injEq] at hr
    obtain ⟨rfl, rfl⟩ := hr
    exact call_ok0 hs (fun k => (([] : List AV)[k]?).getD .top) [.flt .f32 v676] [.flt .f32 v676] (fun F' h0 hi hρ => ⟨by simp [DVs.av, DV.av, BR.av, hρ], impl_IsFinite_fn v676 F' (st_nil hi) ⟨trivial, trivial⟩ hy⟩) rfl
  · cases hr
/-! impl.areFinite$1 -/
noncomputable def impl_areFinite_1_LO (v675 : Nat) : LOr := fun id e L =>
  match id with
  | _ => .fail
noncomputable def impl_areFinite_1_tab : List (FuncId × DFn × Bool) := [(106, impl_IsFinite_F, true)]
theorem impl_areFinite_1_hO : OrcOk Try.prog (tabD impl_areFinite_1_tab) (tabM impl_areFinite_1_tab) := tabD_cons impl_IsFinite_Fok (tabD_nil _)
noncomputable def impl_areFinite_1_T (v675 : Nat) : Tree (Bool) :=
  .leaf (!(impl_IsFinite_v v675))

noncomputable def impl_areFinite_1_g (v675 : Nat) : Option (Bool) := (impl_areFinite_1_T v675).run
def impl_areFinite_1_enc (v675 : Nat) (y : Bool) : Rs := (.bool y, [])
theorem impl_areFinite_1_den (v675 : Nat) : (den TT (tabD impl_areFinite_1_tab) (tabM impl_areFinite_1_tab) (impl_areFinite_1_LO v675) (codeOf Try.f163) ([.flt .f32 v675] ++ List.replicate (Try.f163.ntmps - ([.flt .f32 v675] : List DV).length) .undef) []).bind (retD TT Try.f163.results.toList 0) = (impl_areFinite_1_T v675).bind fun y => .leaf (impl_areFinite_1_enc v675 y) := by kernel_rfl
theorem impl_areFinite_1_fn (v675 : Nat) (F : Fr) (h0 : St F [] F.H0) (hA : DVs.Ok F [] [.flt .f32 v675]) {y : Bool} (hy : impl_areFinite_1_g v675 = some y) : ∃ F' H', Fwd 0 F F' [] (impl_areFinite_1_enc v675 y).2 ∧ FnOk Try.prog 163 (DVs.av F [.flt .f32 v675]) F.H0 ((impl_areFinite_1_enc v675 y).1.av F') H' ∧ St F' (impl_areFinite_1_enc v675 y).2 H' ∧ (impl_areFinite_1_enc v675 y).1.Ok F' (impl_areFinite_1_enc v675 y).2 :=
  fn_fin tok impl_areFinite_1_hO mixed Try.func163 Try.call163 (by kernel_rfl) (LoopsOk_eq (l := []) (by kernel_rfl) trivial) (impl_areFinite_1_den v675) hy h0 hA
def impl_areFinite_1_v (v675 : Nat) : Bool :=
  !(impl_IsFinite_v v675)
theorem impl_areFinite_1_tot (v675 : Nat) : impl_areFinite_1_g v675 = some (impl_areFinite_1_v v675) := by
  unfold impl_areFinite_1_g impl_areFinite_1_T impl_areFinite_1_v
  simp only [Tree.run]
  repeat' (first | rfl | split)
noncomputable def impl_areFinite_1_F : DFn := fun args L =>
  match args with
  | [.flt .f32 v675] =>
    .leaf (.bool (impl_areFinite_1_v v675), L)
  | _ => .fail
theorem impl_areFinite_1_Fok : COk Try.prog 163 impl_areFinite_1_F true := by
  intro F L H args r L' hs ha hr
  unfold impl_areFinite_1_F at hr
  split at hr
  · rename_i v675
    have hy := impl_areFinite_1_tot v675
    generalize impl_areFinite_1_v v675 = y at hy hr
    simp only [Tree.run, Option.some.injEq, Prod.mk.injEq] at hr
    obtain ⟨rfl, rfl⟩ := hr
    exact call_ok0 hs (fun k => (([] : List AV)[k]?).getD .top) [.flt .f32 v675] [.flt .f32 v675] (fun F' h0 hi hρ => ⟨by simp [DVs.av, DV.av, BR.av, hρ], impl_areFinite_1_fn v675 F' (st_nil hi) ⟨trivial, trivial⟩ hy⟩) rfl
  · cases hr
/-! slices.IndexFunc[list of float32,float32] -/
noncomputable def slices_IndexFuncF_l0_T (v673 : List Nat) (s : Int) : Tree ((Int) ⊕ ((Int) ⊕ (Unit))) :=
  (.br (decide (s < ((v673.length : Nat) : Int))) (
   (.grd (inb s v673.length) <|
   (.br (impl_areFinite_1_v (nth v673 (Int.toNat s))) (
    .leaf (.inr (.inl s))
   ) (
    .leaf (.inl (IntKind.i64.wrap (s + (1 : Int))))
   )))
  ) (
   .leaf (.inr (.inr ()))
  ))

noncomputable def slices_IndexFuncF_l0_g (v673 : List Nat) (s0 : Int) : Option ((Int) ⊕ (Unit)) := whileM (fun s => (slices_IndexFuncF_l0_T v673 s).run) s0
def slices_IndexFuncF_l0_E (v673 : List Nat) (s : Int) : Sd := ([.bslc (BR.root 0) (.f32 v673),.fn 163 [],tp,tp,tp,tp,tp,.int .i64 ((v673.length : Nat) : Int),.int .i64 s,tp,tp,tp,tp,tp,tp,tp,tp,tp,tp], [])
def slices_IndexFuncF_l0_X (v673 : List Nat) (x : (Int) ⊕ (Unit)) : Out := (match x with | .inl x => (.ret, [tp,tp,tp,tp,.int .i64 x,tp,tp,tp,tp,tp,tp,tp,tp,tp,tp,tp,tp,tp,tp], []) | .inr x => (.normal, [tp,tp,tp,tp,tp,tp,tp,tp,tp,tp,tp,tp,tp,tp,tp,tp,tp,tp,tp], []))
def slices_IndexFuncF_l0_kill : List Nat := KL true [0,2,5,2,10]
def slices_IndexFuncF_l0_nx : Exit → List Nat
  | .exit 0 => KL true [19]
  | .ret => KL true [4,1,14]
  | _ => []
noncomputable def slices_IndexFuncF_LO (v673 : List Nat) : LOr := fun id e L =>
  match id with
  | 0 => .need (normA 0 slices_IndexFuncF_l0_kill e L = some (slices_IndexFuncF_l0_E v673 (gI (vAt e 8)))) (.call (slices_IndexFuncF_l0_g v673 (gI (vAt e 8))) fun x => .sum x (fun b0 => .leaf (slices_IndexFuncF_l0_X v673 (.inl b0))) (fun c0 => .leaf (slices_IndexFuncF_l0_X v673 (.inr c0))))
  | _ => .fail
noncomputable def slices_IndexFuncF_tab : List (FuncId × DFn × Bool) := [(163, impl_areFinite_1_F, true)]
theorem slices_IndexFuncF_hO : OrcOk Try.prog (tabD slices_IndexFuncF_tab) (tabM slices_IndexFuncF_tab) := tabD_cons impl_areFinite_1_Fok (tabD_nil _)
theorem slices_IndexFuncF_l0_be (v673 : List Nat) (s : Int) : bodyT TT (tabD slices_IndexFuncF_tab) (tabM slices_IndexFuncF_tab) (slices_IndexFuncF_LO v673) 0 slices_IndexFuncF_l0_kill slices_IndexFuncF_l0_nx (bodyOf Try.f172 0) 0 (slices_IndexFuncF_l0_E v673 s) = (slices_IndexFuncF_l0_T v673 s).bind fun y => .leaf (outS (slices_IndexFuncF_l0_E v673) (slices_IndexFuncF_l0_X v673) y) := by kernel_rfl
theorem slices_IndexFuncF_l0_ok (v673 : List Nat) : LSound Try.prog 0 (slices_IndexFuncF_LO v673) 0 (bodyOf Try.f172 0) := by
  intro e L out h
  exact lo_ok (E := slices_IndexFuncF_l0_E v673) (gT := slices_IndexFuncF_l0_T v673) (X := slices_IndexFuncF_l0_X v673) (s0 := (gI (vAt e 8))) tok slices_IndexFuncF_hO mixed (LoopsOk_eq (l := []) (by kernel_rfl) trivial) (slices_IndexFuncF_l0_be v673) rfl (by intro x; (cases x with | inl b => rfl | inr x => exact rfl)) h
noncomputable def slices_IndexFuncF_T (v673 : List Nat) : Tree (Int) :=
  (.need (some (slices_IndexFuncF_l0_E v673 (0 : Int)) = some (slices_IndexFuncF_l0_E v673 (0 : Int))) <|
  (.call (slices_IndexFuncF_l0_g v673 (0 : Int)) fun v683 =>
  (.sum v683 (fun v684 =>
   .leaf v684
  ) (fun v685 =>
   .leaf (-1 : Int)
  ))))

noncomputable def slices_IndexFuncF_g (v673 : List Nat) : Option (Int) := (slices_IndexFuncF_T v673).run
def slices_IndexFuncF_enc (v673 : List Nat) (y : Int) : Rs := (.int .i64 y, [])
theorem slices_IndexFuncF_den (v673 : List Nat) : (den TT (tabD slices_IndexFuncF_tab) (tabM slices_IndexFuncF_tab) (slices_IndexFuncF_LO v673) (codeOf Try.f172) ([.bslc (BR.root 0) (.f32 v673), .fn 163 []] ++ List.replicate (Try.f172.ntmps - ([.bslc (BR.root 0) (.f32 v673), .fn 163 []] : List DV).length) .undef) []).bind (retD TT Try.f172.results.toList 0) = (slices_IndexFuncF_T v673).bind fun y => .leaf (slices_IndexFuncF_enc v673 y) := by kernel_rfl
theorem slices_IndexFuncF_fn (v673 : List Nat) (F : Fr) (h0 : St F [] F.H0) (hA : DVs.Ok F [] [.bslc (BR.root 0) (.f32 v673), .fn 163 []]) {y : Int} (hy : slices_IndexFuncF_g v673 = some y) : ∃ F' H', Fwd 0 F F' [] (slices_IndexFuncF_enc v673 y).2 ∧ FnOk Try.prog 172 (DVs.av F [.bslc (BR.root 0) (.f32 v673), .fn 163 []]) F.H0 ((slices_IndexFuncF_enc v673 y).1.av F') H' ∧ St F' (slices_IndexFuncF_enc v673 y).2 H' ∧ (slices_IndexFuncF_enc v673 y).1.Ok F' (slices_IndexFuncF_enc v673 y).2 :=
  fn_fin tok slices_IndexFuncF_hO mixed Try.func172 Try.call172 (by kernel_rfl) (LoopsOk_eq (l := [(0, bodyOf Try.f172 0)]) (by kernel_rfl) ⟨slices_IndexFuncF_l0_ok v673, trivial⟩) (slices_IndexFuncF_den v673) hy h0 hA
noncomputable def slices_IndexFuncF_F : DFn := fun args L =>
  match args with
  | [a1, .fn 163 []] =>
    optT (rowF32 L a1) fun v673 =>
    .call (slices_IndexFuncF_g v673) fun y => .leaf (.int .i64 y, L)
  | _ => .fail
theorem slices_IndexFuncF_Fok : COk Try.prog 172 slices_IndexFuncF_F true := by
  intro F L H args r L' hs ha hr
  unfold slices_IndexFuncF_F at hr
  split at hr
  · rename_i a1
    obtain ⟨v673, hv673, hr⟩ := optT_run hr
    simp only [Tree.run] at hr
    obtain ⟨y, hy, hr⟩ := Option.bind_eq_some_iff.1 hr
    simp only [Tree.run, Option.some.injEq, Prod.mk.injEq] at hr
    obtain ⟨rfl, rfl⟩ := hr
    exact call_ok0 hs (fun k => (([a1.av F] : List AV)[k]?).getD .top) [a1, .fn 163 []] [.bslc (BR.root 0) (.f32 v673), .fn 163 []] (fun F' h0 hi hρ => ⟨by simp [DVs.av, DV.av, BR.av, hρ], slices_IndexFuncF_fn v673 F' (st_nil hi) ⟨bslc_ok hi (by rw [h0, hρ]; exact rowF32_ok hs (DVs.okAt ha 0 rfl) hv673), trivial, trivial⟩ hy⟩) rfl
  · cases hr
/-! slices.ContainsFunc[list of float32,float32] -/
noncomputable def slices_ContainsFuncF_LO (v672 : List Nat) : LOr := fun id e L =>
  match id with
  | _ => .fail
noncomputable def slices_ContainsFuncF_tab : List (FuncId × DFn × Bool) := [(172, slices_IndexFuncF_F, true)]
theorem slices_ContainsFuncF_hO : OrcOk Try.prog (tabD slices_ContainsFuncF_tab) (tabM slices_ContainsFuncF_tab) := tabD_cons slices_IndexFuncF_Fok (tabD_nil _)
noncomputable def slices_ContainsFuncF_T (v672 : List Nat) : Tree (Bool) :=
  (.call (slices_IndexFuncF_g v672) fun v686 =>
  .leaf (decide ((0 : Int) ≤ v686)))

noncomputable def slices_ContainsFuncF_g (v672 : List Nat) : Option (Bool) := (slices_ContainsFuncF_T v672).run
def slices_ContainsFuncF_enc (v672 : List Nat) (y : Bool) : Rs := (.bool y, [])
theorem slices_ContainsFuncF_den (v672 : List Nat) : (den TT (tabD slices_ContainsFuncF_tab) (tabM slices_ContainsFuncF_tab) (slices_ContainsFuncF_LO v672) (codeOf Try.f162) ([.bslc (BR.root 0) (.f32 v672), .fn 163 []] ++ List.replicate (Try.f162.ntmps - ([.bslc (BR.root 0) (.f32 v672), .fn 163 []] : List DV).length) .undef) []).bind (retD TT Try.f162.results.toList 0) = (slices_ContainsFuncF_T v672).bind fun y => .leaf (slices_ContainsFuncF_enc v672 y) := by kernel_rfl
theorem slices_ContainsFuncF_fn (v672 : List Nat) (F : Fr) (h0 : St F [] F.H0) (hA : DVs.Ok F [] [.bslc (BR.root 0) (.f32 v672), .fn 163 []]) {y : Bool} (hy : slices_ContainsFuncF_g v672 = some y) : ∃ F' H', Fwd 0 F F' [] (slices_ContainsFuncF_enc v672 y).2 ∧ FnOk Try.prog 162 (DVs.av F [.bslc (BR.root 0) (.f32 v672), .fn 163 []]) F.H0 ((slices_ContainsFuncF_enc v672 y).1.av F') H' ∧ St F' (slices_ContainsFuncF_enc v672 y).2 H' ∧ (slices_ContainsFuncF_enc v672 y).1.Ok F' (slices_ContainsFuncF_enc v672 y).2 :=
  fn_fin tok slices_ContainsFuncF_hO mixed Try.func162 Try.call162 (by kernel_rfl) (LoopsOk_eq (l := []) (by kernel_rfl) trivial) (slices_ContainsFuncF_den v672) hy h0 hA
noncomputable def slices_ContainsFuncF_F : DFn := fun args L =>
  match args with
  | [a1, .fn 163 []] =>
    optT (rowF32 L a1) fun v672 =>
    .call (slices_ContainsFuncF_g v672) fun y => .leaf (.bool y, L)
  | _ => .fail
theorem slices_ContainsFuncF_Fok : COk Try.prog 162 slices_ContainsFuncF_F true := by
  intro F L H args r L' hs ha hr
  unfold slices_ContainsFuncF_F at hr
  split at hr
  · rename_i a1
    obtain ⟨v672, hv672, hr⟩ := optT_run hr
    simp only [Tree.run] at hr
    obtain ⟨y, hy, hr⟩ := Option.bind_eq_some_iff.1 hr
    simp only [Tree.run, Option.some.injEq, Prod.mk.injEq] at hr
    obtain ⟨rfl, rfl⟩ := hr
    exact call_ok0 hs (fun k => (([a1.av F] : List AV)[k]?).getD .top) [a1, .fn 163 []] [.bslc (BR.root 0) (.f32 v672), .fn 163 []] (fun F' h0 hi hρ => ⟨by simp [DVs.av, DV.av, BR.av, hρ], slices_ContainsFuncF_fn v672 F' (st_nil hi) ⟨bslc_ok hi (by rw [h0, hρ]; exact rowF32_ok hs (DVs.okAt ha 0 rfl) hv672), trivial, trivial⟩ hy⟩) rfl
  · cases hr
/-! impl.areFinite -/
noncomputable def impl_areFinite_LO (v671 : List Nat) : LOr := fun id e L =>
  match id with
  | _ => .fail
noncomputable def impl_areFinite_tab : List (FuncId × DFn × Bool) := [(162, slices_ContainsFuncF_F, true)]
theorem impl_areFinite_hO : OrcOk Try.prog (tabD impl_areFinite_tab) (tabM impl_areFinite_tab) := tabD_cons slices_ContainsFuncF_Fok (tabD_nil _)
noncomputable def impl_areFinite_T (v671 : List Nat) : Tree (Bool) :=
  (.call (slices_ContainsFuncF_g v671) fun v687 =>
  .leaf (!v687))

noncomputable def impl_areFinite_g (v671 : List Nat) : Option (Bool) := (impl_areFinite_T v671).run
def impl_areFinite_enc (v671 : List Nat) (y : Bool) : Rs := (.bool y, [])
theorem impl_areFinite_den (v671 : List Nat) : (den TT (tabD impl_areFinite_tab) (tabM impl_areFinite_tab) (impl_areFinite_LO v671) (codeOf Try.f146) ([.bslc (BR.root 0) (.f32 v671)] ++ List.replicate (Try.f146.ntmps - ([.bslc (BR.root 0) (.f32 v671)] : List DV).length) .undef) []).bind (retD TT Try.f146.results.toList 0) = (impl_areFinite_T v671).bind fun y => .leaf (impl_areFinite_enc v671 y) := by kernel_rfl
theorem impl_areFinite_fn (v671 : List Nat) (F : Fr) (h0 : St F [] F.H0) (hA : DVs.Ok F [] [.bslc (BR.root 0) (.f32 v671)]) {y : Bool} (hy : impl_areFinite_g v671 = some y) : ∃ F' H', Fwd 0 F F' [] (impl_areFinite_enc v671 y).2 ∧ FnOk Try.prog 146 (DVs.av F [.bslc (BR.root 0) (.f32 v671)]) F.H0 ((impl_areFinite_enc v671 y).1.av F') H' ∧ St F' (impl_areFinite_enc v671 y).2 H' ∧ (impl_areFinite_enc v671 y).1.Ok F' (impl_areFinite_enc v671 y).2 :=
  fn_fin tok impl_areFinite_hO mixed Try.func146 Try.call146 (by kernel_rfl) (LoopsOk_eq (l := []) (by kernel_rfl) trivial) (impl_areFinite_den v671) hy h0 hA
noncomputable def impl_areFinite_F : DFn := fun args L =>
  match args with
  | [a1] =>
    optT (rowF32 L a1) fun v671 =>
    .call (impl_areFinite_g v671) fun y => .leaf (.bool y, L)
  | _ => .fail
theorem impl_areFinite_Fok : COk Try.prog 146 impl_areFinite_F true := by
  intro F L H args r L' hs ha hr
  unfold impl_areFinite_F at hr
  split at hr
  · rename_i a1
    obtain ⟨v671, hv671, hr⟩ := optT_run hr
    simp only [Tree.run] at hr
    obtain ⟨y, hy, hr⟩ := Option.bind_eq_some_iff.1 hr
    simp only [Tree.run, Option.some.injEq, Prod.mk.injEq] at hr
    obtain ⟨rfl, rfl⟩ := hr
    exact call_ok0 hs (fun k => (([a1.av F] : List AV)[k]?).getD .top) [a1] [.bslc (BR.root 0) (.f32 v671)] (fun F' h0 hi hρ => ⟨by simp [DVs.av, DV.av, BR.av, hρ], impl_areFinite_fn v671 F' (st_nil hi) ⟨bslc_ok hi (by rw [h0, hρ]; exact rowF32_ok hs (DVs.okAt ha 0 rfl) hv671), trivial⟩ hy⟩) rfl
  · cases hr
/-! impl.ValidMatrix -/
noncomputable def impl_ValidMatrix_LO (v663 : Int) (v664 : Int) (v665 : List Nat) : LOr := fun id e L =>
  match id with
  | _ => .fail
noncomputable def impl_ValidMatrix_tab : List (FuncId × DFn × Bool) := [(144, impl_isSide_F, true), (145, impl_lengthF_F, true), (146, impl_areFinite_F, true)]
theorem impl_ValidMatrix_hO : OrcOk Try.prog (tabD impl_ValidMatrix_tab) (tabM impl_ValidMatrix_tab) := tabD_cons impl_isSide_Fok (tabD_cons impl_lengthF_Fok (tabD_cons impl_areFinite_Fok (tabD_nil _)))
noncomputable def impl_ValidMatrix_T (v663 : Int) (v664 : Int) (v665 : List Nat) : Tree (Bool) :=
  (.br (impl_isSide_v v663) (
   (.br (impl_isSide_v v664) (
    (.br (decide ((impl_lengthF_v v665) = IntKind.i64.wrap (v663 * v664))) (
     (.call (impl_areFinite_g v665) fun v688 =>
     .leaf v688)
    ) (
     .leaf false
    ))
   ) (
    .leaf false
   ))
  ) (
   .leaf false
  ))

noncomputable def impl_ValidMatrix_g (v663 : Int) (v664 : Int) (v665 : List Nat) : Option (Bool) := (impl_ValidMatrix_T v663 v664 v665).run
def impl_ValidMatrix_enc (v663 : Int) (v664 : Int) (v665 : List Nat) (y : Bool) : Rs := (.bool y, [])
theorem impl_ValidMatrix_den (v663 : Int) (v664 : Int) (v665 : List Nat) : (den TT (tabD impl_ValidMatrix_tab) (tabM impl_ValidMatrix_tab) (impl_ValidMatrix_LO v663 v664 v665) (codeOf Try.f105) ([.agg [.int .i64 v663, .int .i64 v664, .bslc (BR.root 0) (.f32 v665)]] ++ List.replicate (Try.f105.ntmps - ([.agg [.int .i64 v663, .int .i64 v664, .bslc (BR.root 0) (.f32 v665)]] : List DV).length) .undef) []).bind (retD TT Try.f105.results.toList 0) = (impl_ValidMatrix_T v663 v664 v665).bind fun y => .leaf (impl_ValidMatrix_enc v663 v664 v665 y) := by kernel_rfl
theorem impl_ValidMatrix_fn (v663 : Int) (v664 : Int) (v665 : List Nat) (F : Fr) (h0 : St F [] F.H0) (hA : DVs.Ok F [] [.agg [.int .i64 v663, .int .i64 v664, .bslc (BR.root 0) (.f32 v665)]]) {y : Bool} (hy : impl_ValidMatrix_g v663 v664 v665 = some y) : ∃ F' H', Fwd 0 F F' [] (impl_ValidMatrix_enc v663 v664 v665 y).2 ∧ FnOk Try.prog 105 (DVs.av F [.agg [.int .i64 v663, .int .i64 v664, .bslc (BR.root 0) (.f32 v665)]]) F.H0 ((impl_ValidMatrix_enc v663 v664 v665 y).1.av F') H' ∧ St F' (impl_ValidMatrix_enc v663 v664 v665 y).2 H' ∧ (impl_ValidMatrix_enc v663 v664 v665 y).1.Ok F' (impl_ValidMatrix_enc v663 v664 v665 y).2 :=
  fn_fin tok impl_ValidMatrix_hO mixed Try.func105 Try.call105 (by kernel_rfl) (LoopsOk_eq (l := []) (by kernel_rfl) trivial) (impl_ValidMatrix_den v663 v664 v665) hy h0 hA
noncomputable def impl_ValidMatrix_F : DFn := fun args L =>
  match args with
  | [.agg [.int .i64 v663, .int .i64 v664, a1]] =>
    optT (rowF32 L a1) fun v665 =>
    .call (impl_ValidMatrix_g v663 v664 v665) fun y => .leaf (.bool y, L)
  | _ => .fail
theorem impl_ValidMatrix_Fok : COk Try.prog 105 impl_ValidMatrix_F true := by
  intro F L H args r L' hs ha hr
  unfold impl_ValidMatrix_F at hr
  split at hr
  · rename_i v663 v664 a1
    obtain ⟨v665, hv665, hr⟩ := optT_run hr
    simp only [Tree.run] at hr
    obtain ⟨y, hy, hr⟩ := Option.bind_eq_some_iff.1 hr
    simp only [Tree.run, Option.some.injEq, Prod.mk.injEq] at hr
    obtain ⟨rfl, rfl⟩ := hr
    exact call_ok0 hs (fun k => (([a1.av F] : List AV)[k]?).getD .top) [.agg [.int .i64 v663, .int .i64 v664, a1]] [.agg [.int .i64 v663, .int .i64 v664, .bslc (BR.root 0) (.f32 v665)]] (fun F' h0 hi hρ => ⟨by simp [DVs.av, DV.av, BR.av, hρ], impl_ValidMatrix_fn v663 v664 v665 F' (st_nil hi) ⟨⟨trivial, trivial, bslc_ok hi (by rw [h0, hρ]; exact rowF32_ok hs (DVs.okAt (DVs.okAt ha 0 rfl) 2 rfl) hv665), trivial⟩, trivial⟩ hy⟩) rfl
  · cases hr
/-! impl.ascending -/
noncomputable def impl_ascending_l0_T (v690 : Int) (s : Int × (List Int)) : Tree ((Int × (List Int)) ⊕ ((List Int))) :=
  (.br (decide (s.1 < v690)) (
   (.grd (fits (s.2 ++ ([s.1] : List Int)).length) <|
   .leaf (.inl (IntKind.i64.wrap (s.1 + (1 : Int)), s.2 ++ ([s.1] : List Int))))
  ) (
   .leaf (.inr s.2)
  ))

noncomputable def impl_ascending_l0_g (v690 : Int) (s0 : Int × (List Int)) : Option ((List Int)) := whileM (fun s => (impl_ascending_l0_T v690 s).run) s0
def impl_ascending_l0_E (v690 : Int) (s : Int × (List Int)) : Sd := ([tp,tp,tp,.own 0 0 ((s.2).length),tp,tp,.int .i64 v690,.int .i64 s.1,tp,tp,tp,tp,tp,tp,tp,tp], [.row (.i64 s.2) 0])
def impl_ascending_l0_X (v690 : Int) (x : (List Int)) : Out := (.normal, [tp,tp,tp,.own 0 0 ((x).length),tp,tp,tp,tp,tp,tp,tp,tp,tp,tp,tp,tp], [.row (.i64 x) 0])
def impl_ascending_l0_kill : List Nat := KL true [3,1,2,2,8]
def impl_ascending_l0_nx : Exit → List Nat
  | .exit 0 => KL true [3,1,12]
  | .ret => KL true [2,1,13]
  | _ => []
noncomputable def impl_ascending_LO (v690 : Int) : LOr := fun id e L =>
  match id with
  | 0 => .need (normA 0 impl_ascending_l0_kill e L = some (impl_ascending_l0_E v690 ((gI (vAt e 7)), (gRI L (vAt e 3))))) (.call (impl_ascending_l0_g v690 ((gI (vAt e 7)), (gRI L (vAt e 3)))) fun x => .leaf (impl_ascending_l0_X v690 x))
  | _ => .fail
noncomputable def impl_ascending_tab : List (FuncId × DFn × Bool) := []
theorem impl_ascending_hO : OrcOk Try.prog (tabD impl_ascending_tab) (tabM impl_ascending_tab) := tabD_nil _
theorem impl_ascending_l0_be (v690 : Int) (s : Int × (List Int)) : bodyT TT (tabD impl_ascending_tab) (tabM impl_ascending_tab) (impl_ascending_LO v690) 0 impl_ascending_l0_kill impl_ascending_l0_nx (bodyOf Try.f107 0) 0 (impl_ascending_l0_E v690 s) = (impl_ascending_l0_T v690 s).bind fun y => .leaf (outS (impl_ascending_l0_E v690) (impl_ascending_l0_X v690) y) := by kernel_rfl
theorem impl_ascending_l0_ok (v690 : Int) : LSound Try.prog 0 (impl_ascending_LO v690) 0 (bodyOf Try.f107 0) := by
  intro e L out h
  exact lo_ok (E := impl_ascending_l0_E v690) (gT := impl_ascending_l0_T v690) (X := impl_ascending_l0_X v690) (s0 := ((gI (vAt e 7)), (gRI L (vAt e 3)))) tok impl_ascending_hO mixed (LoopsOk_eq (l := []) (by kernel_rfl) trivial) (impl_ascending_l0_be v690) rfl (by intro x; rfl) h
noncomputable def impl_ascending_T (v690 : Int) : Tree ((List Int)) :=
  (.need (some (impl_ascending_l0_E v690 ((0 : Int), ([] : List Int))) = some (impl_ascending_l0_E v690 ((0 : Int), ([] : List Int)))) <|
  (.call (impl_ascending_l0_g v690 ((0 : Int), ([] : List Int))) fun v696 =>
  .leaf v696))

noncomputable def impl_ascending_g (v690 : Int) : Option ((List Int)) := (impl_ascending_T v690).run
def impl_ascending_enc (v690 : Int) (y : (List Int)) : Rs := (.own 0 0 ((y).length), [.row (.i64 y) 0])
theorem impl_ascending_den (v690 : Int) : (den TT (tabD impl_ascending_tab) (tabM impl_ascending_tab) (impl_ascending_LO v690) (codeOf Try.f107) ([.int .i64 v690] ++ List.replicate (Try.f107.ntmps - ([.int .i64 v690] : List DV).length) .undef) []).bind (retD TT Try.f107.results.toList 0) = (impl_ascending_T v690).bind fun y => .leaf (impl_ascending_enc v690 y) := by kernel_rfl
theorem impl_ascending_fn (v690 : Int) (F : Fr) (h0 : St F [] F.H0) (hA : DVs.Ok F [] [.int .i64 v690]) {y : (List Int)} (hy : impl_ascending_g v690 = some y) : ∃ F' H', Fwd 0 F F' [] (impl_ascending_enc v690 y).2 ∧ FnOk Try.prog 107 (DVs.av F [.int .i64 v690]) F.H0 ((impl_ascending_enc v690 y).1.av F') H' ∧ St F' (impl_ascending_enc v690 y).2 H' ∧ (impl_ascending_enc v690 y).1.Ok F' (impl_ascending_enc v690 y).2 :=
  fn_fin tok impl_ascending_hO mixed Try.func107 Try.call107 (by kernel_rfl) (LoopsOk_eq (l := [(0, bodyOf Try.f107 0)]) (by kernel_rfl) ⟨impl_ascending_l0_ok v690, trivial⟩) (impl_ascending_den v690) hy h0 hA
noncomputable def impl_ascending_F : DFn := fun args L =>
  match args with
  | [.int .i64 v690] =>
    .call (impl_ascending_g v690) fun y => .leaf (.own (L.length + 0) 0 ((y).length), L ++ [.row (.i64 y) 0])
  | _ => .fail
theorem impl_ascending_Fok : COk Try.prog 107 impl_ascending_F true := by
  intro F L H args r L' hs ha hr
  unfold impl_ascending_F at hr
  split at hr
  · rename_i v690
    simp only [Tree.run] at hr
    obtain ⟨y, hy, hr⟩ := Option.bind_eq_some_iff.1 hr
    simp only [Tree.run, Option.some.injEq, Prod.mk.injEq] at hr
    obtain ⟨rfl, rfl⟩ := hr
    exact call_ok1 hs (fun k => (([] : List AV)[k]?).getD .top) [.int .i64 v690] [.int .i64 v690] (fun F' h0 hi hρ => ⟨by simp [DVs.av, DV.av, BR.av, hρ], impl_ascending_fn v690 F' (st_nil hi) ⟨trivial, trivial⟩ hy⟩) rfl rfl
  · cases hr
/-! (impl.Matrix).at -/
noncomputable def impl_Matrix_at_LO (v705 : Int) (v706 : Int) (v707 : List Nat) (v708 : Int) (v709 : Int) : LOr := fun id e L =>
  match id with
  | _ => .fail
noncomputable def impl_Matrix_at_tab : List (FuncId × DFn × Bool) := []
theorem impl_Matrix_at_hO : OrcOk Try.prog (tabD impl_Matrix_at_tab) (tabM impl_Matrix_at_tab) := tabD_nil _
noncomputable def impl_Matrix_at_T (v706 : Int) (v707 : List Nat) (v708 : Int) (v709 : Int) : Tree (Nat) :=
  (.grd (inb (IntKind.i64.wrap ((IntKind.i64.wrap (v708 * v706)) + v709)) v707.length) <|
  .leaf (nth v707 (Int.toNat (IntKind.i64.wrap ((IntKind.i64.wrap (v708 * v706)) + v709)))))

noncomputable def impl_Matrix_at_g (v706 : Int) (v707 : List Nat) (v708 : Int) (v709 : Int) : Option (Nat) := (impl_Matrix_at_T v706 v707 v708 v709).run
def impl_Matrix_at_enc (v705 : Int) (v706 : Int) (v707 : List Nat) (v708 : Int) (v709 : Int) (y : Nat) : Rs := (.flt .f32 y, [])
theorem impl_Matrix_at_den (v705 : Int) (v706 : Int) (v707 : List Nat) (v708 : Int) (v709 : Int) : (den TT (tabD impl_Matrix_at_tab) (tabM impl_Matrix_at_tab) (impl_Matrix_at_LO v705 v706 v707 v708 v709) (codeOf Try.f148) ([.agg [.int .i64 v705, .int .i64 v706, .bslc (BR.root 0) (.f32 v707)], .int .i64 v708, .int .i64 v709] ++ List.replicate (Try.f148.ntmps - ([.agg [.int .i64 v705, .int .i64 v706, .bslc (BR.root 0) (.f32 v707)], .int .i64 v708, .int .i64 v709] : List DV).length) .undef) []).bind (retD TT Try.f148.results.toList 0) = (impl_Matrix_at_T v706 v707 v708 v709).bind fun y => .leaf (impl_Matrix_at_enc v705 v706 v707 v708 v709 y) := by kernel_rfl
theorem impl_Matrix_at_fn (v705 : Int) (v706 : Int) (v707 : List Nat) (v708 : Int) (v709 : Int) (F : Fr) (h0 : St F [] F.H0) (hA : DVs.Ok F [] [.agg [.int .i64 v705, .int .i64 v706, .bslc (BR.root 0) (.f32 v707)], .int .i64 v708, .int .i64 v709]) {y : Nat} (hy : impl_Matrix_at_g v706 v707 v708 v709 = some y) : ∃ F' H', Fwd 0 F F' [] (impl_Matrix_at_enc v705 v706 v707 v708 v709 y).2 ∧ FnOk Try.prog 148 (DVs.av F [.agg [.int .i64 v705, .int .i64 v706, .bslc (BR.root 0) (.f32 v707)], .int .i64 v708, .int .i64 v709]) F.H0 ((impl_Matrix_at_enc v705 v706 v707 v708 v709 y).1.av F') H' ∧ St F' (impl_Matrix_at_enc v705 v706 v707 v708 v709 y).2 H' ∧ (impl_Matrix_at_enc v705 v706 v707 v708 v709 y).1.Ok F' (impl_Matrix_at_enc v705 v706 v707 v708 v709 y).2 :=
  fn_fin tok impl_Matrix_at_hO mixed Try.func148 Try.call148 (by kernel_rfl) (LoopsOk_eq (l := []) (by kernel_rfl) trivial) (impl_Matrix_at_den v705 v706 v707 v708 v709) hy h0 hA
noncomputable def impl_Matrix_at_F : DFn := fun args L =>
  match args with
  | [.agg [.int .i64 v705, .int .i64 v706, a1], .int .i64 v708, .int .i64 v709] =>
    optT (rowF32 L a1) fun v707 =>
    .call (impl_Matrix_at_g v706 v707 v708 v709) fun y => .leaf (.flt .f32 y, L)
  | _ => .fail
theorem impl_Matrix_at_Fok : COk Try.prog 148 impl_Matrix_at_F true := by
  intro F L H args r L' hs ha hr
  unfold impl_Matrix_at_F at hr
  split at hr
  · rename_i v705 v706 a1 v708 v709
    obtain ⟨v707, hv707, hr⟩ := optT_run hr
    simp only [Tree.run] at hr
    obtain ⟨y, hy, hr⟩ := Option.bind_eq_some_iff.1 hr
    simp only [Tree.run, Option.some.injEq, Prod.mk.injEq] at hr
    obtain ⟨rfl, rfl⟩ := hr
    exact call_ok0 hs (fun k => (([a1.av F] : List AV)[k]?).getD .top) [.agg [.int .i64 v705, .int .i64 v706, a1], .int .i64 v708, .int .i64 v709] [.agg [.int .i64 v705, .int .i64 v706, .bslc (BR.root 0) (.f32 v707)], .int .i64 v708, .int .i64 v709] (fun F' h0 hi hρ => ⟨by simp [DVs.av, DV.av, BR.av, hρ], impl_Matrix_at_fn v705 v706 v707 v708 v709 F' (st_nil hi) ⟨⟨trivial, trivial, bslc_ok hi (by rw [h0, hρ]; exact rowF32_ok hs (DVs.okAt (DVs.okAt ha 0 rfl) 2 rfl) hv707), trivial⟩, trivial, trivial, trivial⟩ hy⟩) rfl
  · cases hr
/-! (impl.Matrix).column -/
noncomputable def impl_Matrix_column_l0_T (v700 : Int) (v701 : Int) (v702 : List Nat) (v703 : Int) (s : Int × (List Nat)) : Tree ((Int × (List Nat)) ⊕ ((List Nat))) :=
  (.br (decide (s.1 < v700)) (
   (.call (impl_Matrix_at_g v701 v702 s.1 v703) fun v716 =>
   (.grd (fits (s.2 ++ ([v716] : List Nat)).length) <|
   .leaf (.inl (IntKind.i64.wrap (s.1 + (1 : Int)), s.2 ++ ([v716] : List Nat)))))
  ) (
   .leaf (.inr s.2)
  ))

noncomputable def impl_Matrix_column_l0_g (v700 : Int) (v701 : Int) (v702 : List Nat) (v703 : Int) (s0 : Int × (List Nat)) : Option ((List Nat)) := whileM (fun s => (impl_Matrix_column_l0_T v700 v701 v702 v703 s).run) s0
def impl_Matrix_column_l0_E (v700 : Int) (v701 : Int) (v702 : List Nat) (v703 : Int) (s : Int × (List Nat)) : Sd := ([tp,.int .i64 v703,.ptr 0 (0 : Nat) 0 (3 : Nat),tp,tp,.own 1 0 ((s.2).length),tp,tp,tp,.int .i64 v700,.int .i64 s.1,tp,tp,tp,tp,tp,tp,tp,tp,tp,tp,tp], [.gen [.int .i64 v700, .int .i64 v701, .bslc (BR.root 0) (.f32 v702)] false 0, .row (.f32 s.2) 0])
def impl_Matrix_column_l0_X (v700 : Int) (v701 : Int) (v702 : List Nat) (v703 : Int) (x : (List Nat)) : Out := (.normal, [tp,tp,tp,tp,tp,.own 0 0 ((x).length),tp,tp,tp,tp,tp,tp,tp,tp,tp,tp,tp,tp,tp,tp,tp,tp], [.row (.f32 x) 0])
def impl_Matrix_column_l0_kill : List Nat := KL true [1,2,2,1,3,2,11]
def impl_Matrix_column_l0_nx : Exit → List Nat
  | .exit 0 => KL true [5,1,16]
  | .ret => KL true [4,1,17]
  | _ => []
noncomputable def impl_Matrix_column_LO (v700 : Int) (v701 : Int) (v702 : List Nat) (v703 : Int) : LOr := fun id e L =>
  match id with
  | 0 => .need (normA 0 impl_Matrix_column_l0_kill e L = some (impl_Matrix_column_l0_E v700 v701 v702 v703 ((gI (vAt e 10)), (gRF L (vAt e 5))))) (.call (impl_Matrix_column_l0_g v700 v701 v702 v703 ((gI (vAt e 10)), (gRF L (vAt e 5)))) fun x => .leaf (impl_Matrix_column_l0_X v700 v701 v702 v703 x))
  | _ => .fail
noncomputable def impl_Matrix_column_tab : List (FuncId × DFn × Bool) := [(148, impl_Matrix_at_F, true)]
theorem impl_Matrix_column_hO : OrcOk Try.prog (tabD impl_Matrix_column_tab) (tabM impl_Matrix_column_tab) := tabD_cons impl_Matrix_at_Fok (tabD_nil _)
theorem impl_Matrix_column_l0_be (v700 : Int) (v701 : Int) (v702 : List Nat) (v703 : Int) (s : Int × (List Nat)) : bodyT TT (tabD impl_Matrix_column_tab) (tabM impl_Matrix_column_tab) (impl_Matrix_column_LO v700 v701 v702 v703) 0 impl_Matrix_column_l0_kill impl_Matrix_column_l0_nx (bodyOf Try.f108 0) 0 (impl_Matrix_column_l0_E v700 v701 v702 v703 s) = (impl_Matrix_column_l0_T v700 v701 v702 v703 s).bind fun y => .leaf (outS (impl_Matrix_column_l0_E v700 v701 v702 v703) (impl_Matrix_column_l0_X v700 v701 v702 v703) y) := by kernel_rfl
theorem impl_Matrix_column_l0_ok (v700 : Int) (v701 : Int) (v702 : List Nat) (v703 : Int) : LSound Try.prog 0 (impl_Matrix_column_LO v700 v701 v702 v703) 0 (bodyOf Try.f108 0) := by
  intro e L out h
  exact lo_ok (E := impl_Matrix_column_l0_E v700 v701 v702 v703) (gT := impl_Matrix_column_l0_T v700 v701 v702 v703) (X := impl_Matrix_column_l0_X v700 v701 v702 v703) (s0 := ((gI (vAt e 10)), (gRF L (vAt e 5)))) tok impl_Matrix_column_hO mixed (LoopsOk_eq (l := []) (by kernel_rfl) trivial) (impl_Matrix_column_l0_be v700 v701 v702 v703) rfl (by intro x; rfl) h
noncomputable def impl_Matrix_column_T (v700 : Int) (v701 : Int) (v702 : List Nat) (v703 : Int) : Tree ((List Nat)) :=
  (.need (some (impl_Matrix_column_l0_E v700 v701 v702 v703 ((0 : Int), ([] : List Nat))) = some (impl_Matrix_column_l0_E v700 v701 v702 v703 ((0 : Int), ([] : List Nat)))) <|
  (.call (impl_Matrix_column_l0_g v700 v701 v702 v703 ((0 : Int), ([] : List Nat))) fun v717 =>
  .leaf v717))

noncomputable def impl_Matrix_column_g (v700 : Int) (v701 : Int) (v702 : List Nat) (v703 : Int) : Option ((List Nat)) := (impl_Matrix_column_T v700 v701 v702 v703).run
def impl_Matrix_column_enc (v700 : Int) (v701 : Int) (v702 : List Nat) (v703 : Int) (y : (List Nat)) : Rs := (.own 0 0 ((y).length), [.row (.f32 y) 0])
theorem impl_Matrix_column_den (v700 : Int) (v701 : Int) (v702 : List Nat) (v703 : Int) : (den TT (tabD impl_Matrix_column_tab) (tabM impl_Matrix_column_tab) (impl_Matrix_column_LO v700 v701 v702 v703) (codeOf Try.f108) ([.agg [.int .i64 v700, .int .i64 v701, .bslc (BR.root 0) (.f32 v702)], .int .i64 v703] ++ List.replicate (Try.f108.ntmps - ([.agg [.int .i64 v700, .int .i64 v701, .bslc (BR.root 0) (.f32 v702)], .int .i64 v703] : List DV).length) .undef) []).bind (retD TT Try.f108.results.toList 0) = (impl_Matrix_column_T v700 v701 v702 v703).bind fun y => .leaf (impl_Matrix_column_enc v700 v701 v702 v703 y) := by kernel_rfl
theorem impl_Matrix_column_fn (v700 : Int) (v701 : Int) (v702 : List Nat) (v703 : Int) (F : Fr) (h0 : St F [] F.H0) (hA : DVs.Ok F [] [.agg [.int .i64 v700, .int .i64 v701, .bslc (BR.root 0) (.f32 v702)], .int .i64 v703]) {y : (List Nat)} (hy : impl_Matrix_column_g v700 v701 v702 v703 = some y) : ∃ F' H', Fwd 0 F F' [] (impl_Matrix_column_enc v700 v701 v702 v703 y).2 ∧ FnOk Try.prog 108 (DVs.av F [.agg [.int .i64 v700, .int .i64 v701, .bslc (BR.root 0) (.f32 v702)], .int .i64 v703]) F.H0 ((impl_Matrix_column_enc v700 v701 v702 v703 y).1.av F') H' ∧ St F' (impl_Matrix_column_enc v700 v701 v702 v703 y).2 H' ∧ (impl_Matrix_column_enc v700 v701 v702 v703 y).1.Ok F' (impl_Matrix_column_enc v700 v701 v702 v703 y).2 :=
  fn_fin tok impl_Matrix_column_hO mixed Try.func108 Try.call108 (by kernel_rfl) (LoopsOk_eq (l := [(0, bodyOf Try.f108 0)]) (by kernel_rfl) ⟨impl_Matrix_column_l0_ok v700 v701 v702 v703, trivial⟩) (impl_Matrix_column_den v700 v701 v702 v703) hy h0 hA
noncomputable def impl_Matrix_column_F : DFn := fun args L =>
  match args with
  | [.agg [.int .i64 v700, .int .i64 v701, a1], .int .i64 v703] =>
    optT (rowF32 L a1) fun v702 =>
    .call (impl_Matrix_column_g v700 v701 v702 v703) fun y => .leaf (.own (L.length + 0) 0 ((y).length), L ++ [.row (.f32 y) 0])
  | _ => .fail
theorem impl_Matrix_column_Fok : COk Try.prog 108 impl_Matrix_column_F true := by
  intro F L H args r L' hs ha hr
  unfold impl_Matrix_column_F at hr
  split at hr
  · rename_i v700 v701 a1 v703
    obtain ⟨v702, hv702, hr⟩ := optT_run hr
    simp only [Tree.run] at hr
    obtain ⟨y, hy, hr⟩ := Option.bind_eq_some_iff.1 hr
    simp only [Tree.run, Option.some.injEq, Prod.mk.injEq] at hr
    obtain ⟨rfl, rfl⟩ := hr
    exact call_ok1 hs (fun k => (([a1.av F] : List AV)[k]?).getD .top) [.agg [.int .i64 v700, .int .i64 v701, a1], .int .i64 v703] [.agg [.int .i64 v700, .int .i64 v701, .bslc (BR.root 0) (.f32 v702)], .int .i64 v703] (fun F' h0 hi hρ => ⟨by simp [DVs.av, DV.av, BR.av, hρ], impl_Matrix_column_fn v700 v701 v702 v703 F' (st_nil hi) ⟨⟨trivial, trivial, bslc_ok hi (by rw [h0, hρ]; exact rowF32_ok hs (DVs.okAt (DVs.okAt ha 0 rfl) 2 rfl) hv702), trivial⟩, trivial, trivial⟩ hy⟩) rfl rfl
  · cases hr
/-! impl.mul -/
noncomputable def impl_mul_LO (v747 : Nat) (v748 : Nat) : LOr := fun id e L =>
  match id with
  | _ => .fail
noncomputable def impl_mul_tab : List (FuncId × DFn × Bool) := []
theorem impl_mul_hO : OrcOk Try.prog (tabD impl_mul_tab) (tabM impl_mul_tab) := tabD_nil _
noncomputable def impl_mul_T (v747 : Nat) (v748 : Nat) : Tree (Nat) :=
  .leaf (fmul .f32 v747 v748)

noncomputable def impl_mul_g (v747 : Nat) (v748 : Nat) : Option (Nat) := (impl_mul_T v747 v748).run
def impl_mul_enc (v747 : Nat) (v748 : Nat) (y : Nat) : Rs := (.flt .f32 y, [])
theorem impl_mul_den (v747 : Nat) (v748 : Nat) : (den TT (tabD impl_mul_tab) (tabM impl_mul_tab) (impl_mul_LO v747 v748) (codeOf Try.f149) ([.flt .f32 v747, .flt .f32 v748] ++ List.replicate (Try.f149.ntmps - ([.flt .f32 v747, .flt .f32 v748] : List DV).length) .undef) []).bind (retD TT Try.f149.results.toList 0) = (impl_mul_T v747 v748).bind fun y => .leaf (impl_mul_enc v747 v748 y) := by kernel_rfl
theorem impl_mul_fn (v747 : Nat) (v748 : Nat) (F : Fr) (h0 : St F [] F.H0) (hA : DVs.Ok F [] [.flt .f32 v747, .flt .f32 v748]) {y : Nat} (hy : impl_mul_g v747 v748 = some y) : ∃ F' H', Fwd 0 F F' [] (impl_mul_enc v747 v748 y).2 ∧ FnOk Try.prog 149 (DVs.av F [.flt .f32 v747, .flt .f32 v748]) F.H0 ((impl_mul_enc v747 v748 y).1.av F') H' ∧ St F' (impl_mul_enc v747 v748 y).2 H' ∧ (impl_mul_enc v747 v748 y).1.Ok F' (impl_mul_enc v747 v748 y).2 :=
  fn_fin tok impl_mul_hO mixed Try.func149 Try.call149 (by kernel_rfl) (LoopsOk_eq (l := []) (by kernel_rfl) trivial) (impl_mul_den v747 v748) hy h0 hA
def impl_mul_v (v747 : Nat) (v748 : Nat) : Nat :=
  fmul .f32 v747 v748
theorem impl_mul_tot (v747 : Nat) (v748 : Nat) : impl_mul_g v747 v748 = some (impl_mul_v v747 v748) := by
  unfold impl_mul_g impl_mul_T impl_mul_v
  simp only [Tree.run]
  repeat' (first | rfl | split)
noncomputable def impl_mul_F : DFn := fun args L =>
  match args with
  | [.flt .f32 v747, .flt .f32 v748] =>
    .leaf (.flt .f32 (impl_mul_v v747 v748), L)
  | _ => .fail
theorem impl_mul_Fok : COk Try.prog 149 impl_mul_F true := by
  intro F L H args r L' hs ha hr
  unfold impl_mul_F at hr
  split at hr
  · rename_i v747 v748
    have hy := impl_mul_tot v747 v748
    generalize impl_mul_v v747 v748 = y at hy hr
    simp only [Tree.run, Option.some.injEq, Prod.mk.injEq] at hr
    obtain ⟨rfl, rfl⟩ := hr
    exact call_ok0 hs (fun k => (([] : List AV)[k]?).getD .top) [.flt .f32 v747, .flt .f32 v748] [.flt .f32 v747, .flt .f32 v748] (fun F' h0 hi hρ => ⟨by simp [DVs.av, DV.av, BR.av, hρ], impl_mul_fn v747 v748 F' (st_nil hi) ⟨trivial, trivial, trivial⟩ hy⟩) rfl
  · cases hr
/-! impl.dot -/
noncomputable def impl_dot_l0_T (v743 : List Nat) (v744 : List Nat) (s : Nat × Int) : Tree ((Nat × Int) ⊕ (Nat)) :=
  (.br (decide (s.2 < ((v743.length : Nat) : Int))) (
   (.grd (inb s.2 v743.length) <|
   (.grd (inb s.2 v744.length) <|
   .leaf (.inl (fadd .f32 s.1 (impl_mul_v (nth v743 (Int.toNat s.2)) (nth v744 (Int.toNat s.2))), IntKind.i64.wrap (s.2 + (1 : Int))))))
  ) (
   .leaf (.inr s.1)
  ))

noncomputable def impl_dot_l0_g (v743 : List Nat) (v744 : List Nat) (s0 : Nat × Int) : Option (Nat) := whileM (fun s => (impl_dot_l0_T v743 v744 s).run) s0
def impl_dot_l0_E (v743 : List Nat) (v744 : List Nat) (s : Nat × Int) : Sd := ([tp,.bslc (BR.root 1) (.f32 v744),tp,tp,tp,.flt .f32 s.1,tp,tp,.bslc (BR.root 0) (.f32 v743),.int .i64 ((v743.length : Nat) : Int),.int .i64 s.2,tp,tp,tp,tp,tp,tp,tp,tp,tp,tp,tp,tp,tp,tp], [])
def impl_dot_l0_X (v743 : List Nat) (v744 : List Nat) (x : Nat) : Out := (.normal, [tp,tp,tp,tp,tp,.flt .f32 x,tp,tp,tp,tp,tp,tp,tp,tp,tp,tp,tp,tp,tp,tp,tp,tp,tp,tp,tp], [])
def impl_dot_l0_kill : List Nat := KL true [1,1,3,1,2,3,14]
def impl_dot_l0_nx : Exit → List Nat
  | .exit 0 => KL true [5,1,19]
  | .ret => KL true [4,1,20]
  | _ => []
noncomputable def impl_dot_LO (v743 : List Nat) (v744 : List Nat) : LOr := fun id e L =>
  match id with
  | 0 => .need (normA 0 impl_dot_l0_kill e L = some (impl_dot_l0_E v743 v744 ((gF (vAt e 5)), (gI (vAt e 10))))) (.call (impl_dot_l0_g v743 v744 ((gF (vAt e 5)), (gI (vAt e 10)))) fun x => .leaf (impl_dot_l0_X v743 v744 x))
  | _ => .fail
noncomputable def impl_dot_tab : List (FuncId × DFn × Bool) := [(149, impl_mul_F, true)]
theorem impl_dot_hO : OrcOk Try.prog (tabD impl_dot_tab) (tabM impl_dot_tab) := tabD_cons impl_mul_Fok (tabD_nil _)
theorem impl_dot_l0_be (v743 : List Nat) (v744 : List Nat) (s : Nat × Int) : bodyT TT (tabD impl_dot_tab) (tabM impl_dot_tab) (impl_dot_LO v743 v744) 0 impl_dot_l0_kill impl_dot_l0_nx (bodyOf Try.f109 0) 0 (impl_dot_l0_E v743 v744 s) = (impl_dot_l0_T v743 v744 s).bind fun y => .leaf (outS (impl_dot_l0_E v743 v744) (impl_dot_l0_X v743 v744) y) := by kernel_rfl
theorem impl_dot_l0_ok (v743 : List Nat) (v744 : List Nat) : LSound Try.prog 0 (impl_dot_LO v743 v744) 0 (bodyOf Try.f109 0) := by
  intro e L out h
  exact lo_ok (E := impl_dot_l0_E v743 v744) (gT := impl_dot_l0_T v743 v744) (X := impl_dot_l0_X v743 v744) (s0 := ((gF (vAt e 5)), (gI (vAt e 10)))) tok impl_dot_hO mixed (LoopsOk_eq (l := []) (by kernel_rfl) trivial) (impl_dot_l0_be v743 v744) rfl (by intro x; rfl) h
noncomputable def impl_dot_T (v743 : List Nat) (v744 : List Nat) : Tree (Nat) :=
  (.need (some (impl_dot_l0_E v743 v744 ((0 : Nat), (0 : Int))) = some (impl_dot_l0_E v743 v744 ((0 : Nat), (0 : Int)))) <|
  (.call (impl_dot_l0_g v743 v744 ((0 : Nat), (0 : Int))) fun v753 =>
  .leaf v753))

noncomputable def impl_dot_g (v743 : List Nat) (v744 : List Nat) : Option (Nat) := (impl_dot_T v743 v744).run
def impl_dot_enc (v743 : List Nat) (v744 : List Nat) (y : Nat) : Rs := (.flt .f32 y, [])
theorem impl_dot_den (v743 : List Nat) (v744 : List Nat) : (den TT (tabD impl_dot_tab) (tabM impl_dot_tab) (impl_dot_LO v743 v744) (codeOf Try.f109) ([.bslc (BR.root 0) (.f32 v743), .bslc (BR.root 1) (.f32 v744)] ++ List.replicate (Try.f109.ntmps - ([.bslc (BR.root 0) (.f32 v743), .bslc (BR.root 1) (.f32 v744)] : List DV).length) .undef) []).bind (retD TT Try.f109.results.toList 0) = (impl_dot_T v743 v744).bind fun y => .leaf (impl_dot_enc v743 v744 y) := by kernel_rfl
theorem impl_dot_fn (v743 : List Nat) (v744 : List Nat) (F : Fr) (h0 : St F [] F.H0) (hA : DVs.Ok F [] [.bslc (BR.root 0) (.f32 v743), .bslc (BR.root 1) (.f32 v744)]) {y : Nat} (hy : impl_dot_g v743 v744 = some y) : ∃ F' H', Fwd 0 F F' [] (impl_dot_enc v743 v744 y).2 ∧ FnOk Try.prog 109 (DVs.av F [.bslc (BR.root 0) (.f32 v743), .bslc (BR.root 1) (.f32 v744)]) F.H0 ((impl_dot_enc v743 v744 y).1.av F') H' ∧ St F' (impl_dot_enc v743 v744 y).2 H' ∧ (impl_dot_enc v743 v744 y).1.Ok F' (impl_dot_enc v743 v744 y).2 :=
  fn_fin tok impl_dot_hO mixed Try.func109 Try.call109 (by kernel_rfl) (LoopsOk_eq (l := [(0, bodyOf Try.f109 0)]) (by kernel_rfl) ⟨impl_dot_l0_ok v743 v744, trivial⟩) (impl_dot_den v743 v744) hy h0 hA
noncomputable def impl_dot_F : DFn := fun args L =>
  match args with
  | [a1, a2] =>
    optT (rowF32 L a1) fun v743 =>
    optT (rowF32 L a2) fun v744 =>
    .call (impl_dot_g v743 v744) fun y => .leaf (.flt .f32 y, L)
  | _ => .fail
theorem impl_dot_Fok : COk Try.prog 109 impl_dot_F true := by
  intro F L H args r L' hs ha hr
  unfold impl_dot_F at hr
  split at hr
  · rename_i a1 a2
    obtain ⟨v743, hv743, hr⟩ := optT_run hr
    obtain ⟨v744, hv744, hr⟩ := optT_run hr
    simp only [Tree.run] at hr
    obtain ⟨y, hy, hr⟩ := Option.bind_eq_some_iff.1 hr
    simp only [Tree.run, Option.some.injEq, Prod.mk.injEq] at hr
    obtain ⟨rfl, rfl⟩ := hr
    exact call_ok0 hs (fun k => (([a1.av F, a2.av F] : List AV)[k]?).getD .top) [a1, a2] [.bslc (BR.root 0) (.f32 v743), .bslc (BR.root 1) (.f32 v744)] (fun F' h0 hi hρ => ⟨by simp [DVs.av, DV.av, BR.av, hρ], impl_dot_fn v743 v744 F' (st_nil hi) ⟨bslc_ok hi (by rw [h0, hρ]; exact rowF32_ok hs (DVs.okAt ha 0 rfl) hv743), bslc_ok hi (by rw [h0, hρ]; exact rowF32_ok hs (DVs.okAt ha 1 rfl) hv744), trivial⟩ hy⟩) rfl
  · cases hr
/-! impl.RootNumber -/
noncomputable def impl_RootNumber_LO (v776 : Nat) : LOr := fun id e L =>
  match id with
  | _ => .fail
noncomputable def impl_RootNumber_tab : List (FuncId × DFn × Bool) := [(143, math_Sqrt_F, true)]
theorem impl_RootNumber_hO : OrcOk Try.prog (tabD impl_RootNumber_tab) (tabM impl_RootNumber_tab) := tabD_cons math_Sqrt_Fok (tabD_nil _)
noncomputable def impl_RootNumber_T (v776 : Nat) : Tree (Nat) :=
  (.call (fconv .f64 (math_Sqrt_v (wid v776)) .f32) fun v777 =>
  .leaf v777)

noncomputable def impl_RootNumber_g (v776 : Nat) : Option (Nat) := (impl_RootNumber_T v776).run
def impl_RootNumber_enc (v776 : Nat) (y : Nat) : Rs := (.flt .f32 y, [])
theorem impl_RootNumber_den (v776 : Nat) : (den TT (tabD impl_RootNumber_tab) (tabM impl_RootNumber_tab) (impl_RootNumber_LO v776) (codeOf Try.f110) ([.flt .f32 v776] ++ List.replicate (Try.f110.ntmps - ([.flt .f32 v776] : List DV).length) .undef) []).bind (retD TT Try.f110.results.toList 0) = (impl_RootNumber_T v776).bind fun y => .leaf (impl_RootNumber_enc v776 y) := by kernel_rfl
theorem impl_RootNumber_fn (v776 : Nat) (F : Fr) (h0 : St F [] F.H0) (hA : DVs.Ok F [] [.flt .f32 v776]) {y : Nat} (hy : impl_RootNumber_g v776 = some y) : ∃ F' H', Fwd 0 F F' [] (impl_RootNumber_enc v776 y).2 ∧ FnOk Try.prog 110 (DVs.av F [.flt .f32 v776]) F.H0 ((impl_RootNumber_enc v776 y).1.av F') H' ∧ St F' (impl_RootNumber_enc v776 y).2 H' ∧ (impl_RootNumber_enc v776 y).1.Ok F' (impl_RootNumber_enc v776 y).2 :=
  fn_fin tok impl_RootNumber_hO mixed Try.func110 Try.call110 (by kernel_rfl) (LoopsOk_eq (l := []) (by kernel_rfl) trivial) (impl_RootNumber_den v776) hy h0 hA
noncomputable def impl_RootNumber_F : DFn := fun args L =>
  match args with
  | [.flt .f32 v776] =>
    .call (impl_RootNumber_g v776) fun y => .leaf (.flt .f32 y, L)
  | _ => .fail
theorem impl_RootNumber_Fok : COk Try.prog 110 impl_RootNumber_F true := by
  intro F L H args r L' hs ha hr
  unfold impl_RootNumber_F at hr
  split at hr
  · rename_i v776
    simp only [Tree.run] at hr
    obtain ⟨y, hy, hr⟩ := Option.bind_eq_some_iff.1 hr
    simp only [Tree.run, Option.some.injEq, Prod.mk.injEq] at hr
    obtain ⟨rfl, rfl⟩ := hr
    exact call_ok0 hs (fun k => (([] : List AV)[k]?).getD .top) [.flt .f32 v776] [.flt .f32 v776] (fun F' h0 hi hρ => ⟨by simp [DVs.av, DV.av, BR.av, hρ], impl_RootNumber_fn v776 F' (st_nil hi) ⟨trivial, trivial⟩ hy⟩) rfl
  · cases hr
/-! impl.swap -/
noncomputable def impl_swap_LO (v782 : List Int) (v783 : Int) (v784 : Int) : LOr := fun id e L =>
  match id with
  | _ => .fail
noncomputable def impl_swap_tab : List (FuncId × DFn × Bool) := []
theorem impl_swap_hO : OrcOk Try.prog (tabD impl_swap_tab) (tabM impl_swap_tab) := tabD_nil _
noncomputable def impl_swap_T (v782 : List Int) (v783 : Int) (v784 : Int) : Tree (Unit) :=
  (.grd (inb v784 v782.length) <|
  (.grd (inb v783 v782.length) <|
  (.grd (inb v783 v782.length) <|
  (.grd (inb v784 v782.length) <|
  .leaf ()))))

noncomputable def impl_swap_g (v782 : List Int) (v783 : Int) (v784 : Int) : Option (Unit) := (impl_swap_T v782 v783 v784).run
def impl_swap_enc (v782 : List Int) (v783 : Int) (v784 : Int) (y : Unit) : Rs := (.tup [], [.row (.i64 (List.set (List.set v782 (Int.toNat v783) (nth v782 (Int.toNat v784))) (Int.toNat v784) (nth v782 (Int.toNat v783)))) 0])
theorem impl_swap_den (v782 : List Int) (v783 : Int) (v784 : Int) : (den TT (tabD impl_swap_tab) (tabM impl_swap_tab) (impl_swap_LO v782 v783 v784) (codeOf Try.f111) ([.own 0 0 v782.length, .int .i64 v783, .int .i64 v784] ++ List.replicate (Try.f111.ntmps - ([.own 0 0 v782.length, .int .i64 v783, .int .i64 v784] : List DV).length) .undef) [.row (.i64 v782) 0]).bind (retD TT Try.f111.results.toList 1) = (impl_swap_T v782 v783 v784).bind fun y => .leaf (impl_swap_enc v782 v783 v784 y) := by kernel_rfl
theorem impl_swap_fn (v782 : List Int) (v783 : Int) (v784 : Int) (F : Fr) (h0 : St F [.row (.i64 v782) 0] F.H0) (hA : DVs.Ok F [.row (.i64 v782) 0] [.own 0 0 v782.length, .int .i64 v783, .int .i64 v784]) {y : Unit} (hy : impl_swap_g v782 v783 v784 = some y) : ∃ F' H', Fwd 1 F F' [.row (.i64 v782) 0] (impl_swap_enc v782 v783 v784 y).2 ∧ FnOk Try.prog 111 (DVs.av F [.own 0 0 v782.length, .int .i64 v783, .int .i64 v784]) F.H0 ((impl_swap_enc v782 v783 v784 y).1.av F') H' ∧ St F' (impl_swap_enc v782 v783 v784 y).2 H' ∧ (impl_swap_enc v782 v783 v784 y).1.Ok F' (impl_swap_enc v782 v783 v784 y).2 :=
  fn_fin tok impl_swap_hO mixed Try.func111 Try.call111 (by kernel_rfl) (LoopsOk_eq (l := []) (by kernel_rfl) trivial) (impl_swap_den v782 v783 v784) hy h0 hA
noncomputable def impl_swap_F : DFn := fun args L =>
  match args with
  | [a1, .int .i64 v783, .int .i64 v784] =>
    optT (ownI64 L a1) fun qv782 =>
    (match sepB [qv782.1] [] with
    | true =>
    .call (impl_swap_g qv782.2 v783 v784) fun y => .grd (decide ((List.set (List.set qv782.2 (Int.toNat v783) (nth qv782.2 (Int.toNat v784))) (Int.toNat v784) (nth qv782.2 (Int.toNat v783))).length = qv782.2.length)) (.leaf (.tup [], setRows L ([qv782.1].zip [.i64 (List.set (List.set qv782.2 (Int.toNat v783) (nth qv782.2 (Int.toNat v784))) (Int.toNat v784) (nth qv782.2 (Int.toNat v783)))])))
    | false => .fail)
  | _ => .fail
theorem impl_swap_Fok : COk Try.prog 111 impl_swap_F false := by
  intro F L H args r L' hs ha hr
  unfold impl_swap_F at hr
  split at hr
  · rename_i a1 v783 v784
    obtain ⟨⟨jv782, v782⟩, hqv782, hr⟩ := optT_run hr
    simp only at hr
    split at hr
    · rename_i hsep
      obtain ⟨hnd, hsepv⟩ := sepB_spec hsep
      simp only [Tree.run] at hr
      obtain ⟨y, hy, hr⟩ := Option.bind_eq_some_iff.1 hr
      try simp only [Tree.run] at hr
      obtain ⟨hl0, hr⟩ := ite_run hr
      simp only [Option.some.injEq, Prod.mk.injEq] at hr
      obtain ⟨rfl, rfl⟩ := hr
      obtain ⟨hr0, hu0, ha0, hb0⟩ := (ownR_spec (DVs.okAt ha 0 rfl) (ownI64_or hqv782))
      exact mut_ok hs (fun k => (([a1.av F] : List AV)[k]?).getD .top) [a1, .int .i64 v783, .int .i64 v784] [.own 0 0 v782.length, .int .i64 v783, .int .i64 v784] [jv782] [.i64 v782] [.i64 (List.set (List.set v782 (Int.toNat v783) (nth v782 (Int.toNat v784))) (Int.toNat v784) (nth v782 (Int.toNat v783)))] hnd rfl rfl (fun i j q h1 h2 => by
          rcases i with _ | i
          · simp at h1 h2; subst h1; subst h2; exact hr0
          · simp at h1) (fun i q q' h1 h2 => by
          rcases i with _ | i
          · simp at h1 h2; subst h1; subst h2; first | exact of_decide_eq_true hl0 | rfl
          · simp at h1) (fun j hj => by simp at hj; subst hj; simp [DVs.refs, DV.refs, hu0]) (fun F' h0 hρ ab hst hS => ⟨by (have ab0 := ab 0 _ rfl; simp [DVs.av, DV.av, BR.av, hρ, Row.len, ha0, ab0]), by
          obtain ⟨F1, H1, k0, k1, k2, _⟩ := impl_swap_fn v782 v783 v784 F' hst ⟨⟨_, rfl, Nat.le_refl _, Nat.le_refl _, fun _ => rfl, (ownR_spec (DVs.okAt ha 0 rfl) (ownI64_or hqv782)).2.2.2⟩, trivial, trivial, trivial⟩ hy
          exact ⟨F1, H1, k0, k1, k2⟩⟩) (fun F1 F2 => rfl) (fun F L' => trivial)
    · cases hr
  · cases hr
/-! impl.norm -/
noncomputable def impl_norm_LO (v786 : List Nat) : LOr := fun id e L =>
  match id with
  | _ => .fail
noncomputable def impl_norm_tab : List (FuncId × DFn × Bool) := [(109, impl_dot_F, true), (110, impl_RootNumber_F, true)]
theorem impl_norm_hO : OrcOk Try.prog (tabD impl_norm_tab) (tabM impl_norm_tab) := tabD_cons impl_dot_Fok (tabD_cons impl_RootNumber_Fok (tabD_nil _))
noncomputable def impl_norm_T (v786 : List Nat) : Tree (Nat) :=
  (.call (impl_dot_g v786 v786) fun v787 =>
  (.call (impl_RootNumber_g v787) fun v788 =>
  .leaf v788))

noncomputable def impl_norm_g (v786 : List Nat) : Option (Nat) := (impl_norm_T v786).run
def impl_norm_enc (v786 : List Nat) (y : Nat) : Rs := (.flt .f32 y, [])
theorem impl_norm_den (v786 : List Nat) : (den TT (tabD impl_norm_tab) (tabM impl_norm_tab) (impl_norm_LO v786) (codeOf Try.f112) ([.bslc (BR.root 0) (.f32 v786)] ++ List.replicate (Try.f112.ntmps - ([.bslc (BR.root 0) (.f32 v786)] : List DV).length) .undef) []).bind (retD TT Try.f112.results.toList 0) = (impl_norm_T v786).bind fun y => .leaf (impl_norm_enc v786 y) := by kernel_rfl
theorem impl_norm_fn (v786 : List Nat) (F : Fr) (h0 : St F [] F.H0) (hA : DVs.Ok F [] [.bslc (BR.root 0) (.f32 v786)]) {y : Nat} (hy : impl_norm_g v786 = some y) : ∃ F' H', Fwd 0 F F' [] (impl_norm_enc v786 y).2 ∧ FnOk Try.prog 112 (DVs.av F [.bslc (BR.root 0) (.f32 v786)]) F.H0 ((impl_norm_enc v786 y).1.av F') H' ∧ St F' (impl_norm_enc v786 y).2 H' ∧ (impl_norm_enc v786 y).1.Ok F' (impl_norm_enc v786 y).2 :=
  fn_fin tok impl_norm_hO mixed Try.func112 Try.call112 (by kernel_rfl) (LoopsOk_eq (l := []) (by kernel_rfl) trivial) (impl_norm_den v786) hy h0 hA
noncomputable def impl_norm_F : DFn := fun args L =>
  match args with
  | [a1] =>
    optT (rowF32 L a1) fun v786 =>
    .call (impl_norm_g v786) fun y => .leaf (.flt .f32 y, L)
  | _ => .fail
theorem impl_norm_Fok : COk Try.prog 112 impl_norm_F true := by
  intro F L H args r L' hs ha hr
  unfold impl_norm_F at hr
  split at hr
  · rename_i a1
    obtain ⟨v786, hv786, hr⟩ := optT_run hr
    simp only [Tree.run] at hr
    obtain ⟨y, hy, hr⟩ := Option.bind_eq_some_iff.1 hr
    simp only [Tree.run, Option.some.injEq, Prod.mk.injEq] at hr
    obtain ⟨rfl, rfl⟩ := hr
    exact call_ok0 hs (fun k => (([a1.av F] : List AV)[k]?).getD .top) [a1] [.bslc (BR.root 0) (.f32 v786)] (fun F' h0 hi hρ => ⟨by simp [DVs.av, DV.av, BR.av, hρ], impl_norm_fn v786 F' (st_nil hi) ⟨bslc_ok hi (by rw [h0, hρ]; exact rowF32_ok hs (DVs.okAt ha 0 rfl) hv786), trivial⟩ hy⟩) rfl
  · cases hr
/-! impl.less -/
noncomputable def impl_less_nst_l0_T (v835 : List (List Nat)) (v837 : Nat) (v838 : Nat) (v839 : Nat) (s : Int × (List (List Nat))) : Tree ((Int × (List (List Nat))) ⊕ ((List (List Nat)))) :=
  (.br (decide (s.1 < (((nget v835 v837).length : Nat) : Int))) (
   (.grd (inb s.1 ((nget s.2 v837).length)) <|
   (.grd (inb s.1 ((nget s.2 v839).length)) <|
   (.grd (inb s.1 ((nget s.2 v837).length)) <|
   .leaf (.inl (IntKind.i64.wrap (s.1 + (1 : Int)), List.set s.2 (v837 - 1) (List.set (nget s.2 v837) (Int.toNat s.1) (fsub .f32 (nth (nget s.2 v837) (Int.toNat s.1)) (impl_mul_v v838 (nth (nget s.2 v839) (Int.toNat s.1))))))))))
  ) (
   .leaf (.inr s.2)
  ))

noncomputable def impl_less_nst_l0_g (v835 : List (List Nat)) (v837 : Nat) (v838 : Nat) (v839 : Nat) (s0 : Int × (List (List Nat))) : Option ((List (List Nat))) := whileM (fun s => (impl_less_nst_l0_T v835 v837 v838 v839 s).run) s0
def impl_less_nst_l0_E (v835 : List (List Nat)) (v836 : List Nat) (v837 : Nat) (v838 : Nat) (v839 : Nat) (s : Int × (List (List Nat))) : Sd := ([.inn 0 0 v837 ((nget s.2 v837).length),.flt .f32 v838,.inn 0 0 v839 ((nget s.2 v839).length),tp,tp,tp,tp,tp,.int .i64 (((nget v835 v837).length : Nat) : Int),.int .i64 s.1,tp,tp,tp,tp,tp,tp,tp,tp,tp,tp,tp,tp,tp,tp,tp], [.nest [.sl (.f32 s.2) v836] false 0])
def impl_less_nst_l0_X (v835 : List (List Nat)) (v836 : List Nat) (v837 : Nat) (v838 : Nat) (v839 : Nat) (x : (List (List Nat))) : Out := (.normal, [tp,tp,tp,tp,tp,tp,tp,tp,tp,tp,tp,tp,tp,tp,tp,tp,tp,tp,tp,tp,tp,tp,tp,tp,tp], [.nest [.sl (.f32 x) v836] false 0])
def impl_less_nst_l0_kill : List Nat := KL true [0,3,5,2,15]
def impl_less_nst_l0_nx : Exit → List Nat
  | .exit 0 => KL true [25]
  | .ret => KL true [25]
  | _ => []
noncomputable def impl_less_nst_LO (v835 : List (List Nat)) (v836 : List Nat) (v837 : Nat) (v838 : Nat) (v839 : Nat) : LOr := fun id e L =>
  match id with
  | 0 => .need (normA 1 impl_less_nst_l0_kill e L = some (impl_less_nst_l0_E v835 v836 v837 v838 v839 ((gI (vAt e 9)), (gPF L (vAt e 0) 0)))) (.call (impl_less_nst_l0_g v835 v837 v838 v839 ((gI (vAt e 9)), (gPF L (vAt e 0) 0))) fun x => .leaf (impl_less_nst_l0_X v835 v836 v837 v838 v839 x))
  | _ => .fail
noncomputable def impl_less_nst_tab : List (FuncId × DFn × Bool) := [(149, impl_mul_F, true)]
theorem impl_less_nst_hO : OrcOk Try.prog (tabD impl_less_nst_tab) (tabM impl_less_nst_tab) := tabD_cons impl_mul_Fok (tabD_nil _)
theorem impl_less_nst_l0_be (v835 : List (List Nat)) (v836 : List Nat) (v837 : Nat) (v838 : Nat) (v839 : Nat) (s : Int × (List (List Nat))) : bodyT TT (tabD impl_less_nst_tab) (tabM impl_less_nst_tab) (impl_less_nst_LO v835 v836 v837 v838 v839) 1 impl_less_nst_l0_kill impl_less_nst_l0_nx (bodyOf Try.f113 0) 0 (impl_less_nst_l0_E v835 v836 v837 v838 v839 s) = (impl_less_nst_l0_T v835 v837 v838 v839 s).bind fun y => .leaf (outS (impl_less_nst_l0_E v835 v836 v837 v838 v839) (impl_less_nst_l0_X v835 v836 v837 v838 v839) y) := by kernel_rfl
theorem impl_less_nst_l0_ok (v835 : List (List Nat)) (v836 : List Nat) (v837 : Nat) (v838 : Nat) (v839 : Nat) : LSound Try.prog 1 (impl_less_nst_LO v835 v836 v837 v838 v839) 0 (bodyOf Try.f113 0) := by
  intro e L out h
  exact lo_ok (E := impl_less_nst_l0_E v835 v836 v837 v838 v839) (gT := impl_less_nst_l0_T v835 v837 v838 v839) (X := impl_less_nst_l0_X v835 v836 v837 v838 v839) (s0 := ((gI (vAt e 9)), (gPF L (vAt e 0) 0))) tok impl_less_nst_hO mixed (LoopsOk_eq (l := []) (by kernel_rfl) trivial) (impl_less_nst_l0_be v835 v836 v837 v838 v839) rfl (by intro x; rfl) h
noncomputable def impl_less_nst_T (v835 : List (List Nat)) (v836 : List Nat) (v837 : Nat) (v838 : Nat) (v839 : Nat) : Tree ((List (List Nat))) :=
  (.need (some (impl_less_nst_l0_E v835 v836 v837 v838 v839 ((0 : Int), v835)) = some (impl_less_nst_l0_E v835 v836 v837 v838 v839 ((0 : Int), v835))) <|
  (.call (impl_less_nst_l0_g v835 v837 v838 v839 ((0 : Int), v835)) fun v845 =>
  .leaf v845))

noncomputable def impl_less_nst_g (v835 : List (List Nat)) (v836 : List Nat) (v837 : Nat) (v838 : Nat) (v839 : Nat) : Option ((List (List Nat))) := (impl_less_nst_T v835 v836 v837 v838 v839).run
def impl_less_nst_enc (v835 : List (List Nat)) (v836 : List Nat) (v837 : Nat) (v838 : Nat) (v839 : Nat) (y : (List (List Nat))) : Rs := (.tup [], [.nest [.sl (.f32 y) v836] false 0])
theorem impl_less_nst_den (v835 : List (List Nat)) (v836 : List Nat) (v837 : Nat) (v838 : Nat) (v839 : Nat) : (den TT (tabD impl_less_nst_tab) (tabM impl_less_nst_tab) (impl_less_nst_LO v835 v836 v837 v838 v839) (codeOf Try.f113) ([.inn 0 0 v837 ((nget v835 v837).length), .flt .f32 v838, .inn 0 0 v839 ((nget v835 v839).length)] ++ List.replicate (Try.f113.ntmps - ([.inn 0 0 v837 ((nget v835 v837).length), .flt .f32 v838, .inn 0 0 v839 ((nget v835 v839).length)] : List DV).length) .undef) [.nest [.sl (.f32 v835) v836] false 0]).bind (retD TT Try.f113.results.toList 1) = (impl_less_nst_T v835 v836 v837 v838 v839).bind fun y => .leaf (impl_less_nst_enc v835 v836 v837 v838 v839 y) := by kernel_rfl
theorem impl_less_nst_fn (v835 : List (List Nat)) (v836 : List Nat) (v837 : Nat) (v838 : Nat) (v839 : Nat) (F : Fr) (h0 : St F [.nest [.sl (.f32 v835) v836] false 0] F.H0) (hA : DVs.Ok F [.nest [.sl (.f32 v835) v836] false 0] [.inn 0 0 v837 ((nget v835 v837).length), .flt .f32 v838, .inn 0 0 v839 ((nget v835 v839).length)]) {y : (List (List Nat))} (hy : impl_less_nst_g v835 v836 v837 v838 v839 = some y) : ∃ F' H', Fwd 1 F F' [.nest [.sl (.f32 v835) v836] false 0] (impl_less_nst_enc v835 v836 v837 v838 v839 y).2 ∧ FnOk Try.prog 113 (DVs.av F [.inn 0 0 v837 ((nget v835 v837).length), .flt .f32 v838, .inn 0 0 v839 ((nget v835 v839).length)]) F.H0 ((impl_less_nst_enc v835 v836 v837 v838 v839 y).1.av F') H' ∧ St F' (impl_less_nst_enc v835 v836 v837 v838 v839 y).2 H' ∧ (impl_less_nst_enc v835 v836 v837 v838 v839 y).1.Ok F' (impl_less_nst_enc v835 v836 v837 v838 v839 y).2 :=
  fn_fin tok impl_less_nst_hO mixed Try.func113 Try.call113 (by kernel_rfl) (LoopsOk_eq (l := [(0, bodyOf Try.f113 0)]) (by kernel_rfl) ⟨impl_less_nst_l0_ok v835 v836 v837 v838 v839, trivial⟩) (impl_less_nst_den v835 v836 v837 v838 v839) hy h0 hA
noncomputable def impl_less_nst_F : DFn := fun args L =>
  match args with
  | [a1, .flt .f32 v838, a2] =>
    optT (nestI L false 1 a1) fun qn0 =>
    (match qn0.2 with
    | [.sl (.f32 v835) v836] =>
    optT (innK qn0.1 0 a1) fun v837 =>
    optT (innK qn0.1 0 a2) fun v839 =>
    (match sepB [qn0.1] [] with
    | true =>
    .call (impl_less_nst_g v835 v836 v837 v838 v839) fun y => .grd (decide ((v836).length = (v836).length)) (.leaf (.tup [], setB L [(qn0.1, .nest [.sl (.f32 y) v836] false (verAt L qn0.1))] ++ []))
    | false => .fail)
    | _ => .fail)
  | _ => .fail
theorem impl_less_nst_Fok : COk Try.prog 113 impl_less_nst_F false := by
  intro F L H args r L' hs ha hr
  unfold impl_less_nst_F at hr
  split at hr
  · rename_i a1 v838 a2
    obtain ⟨⟨jn0, cn0⟩, hn0, hr⟩ := optT_run hr
    simp only at hr
    split at hr
    · rename_i v835 v836
      obtain ⟨hne0, hnu0, hnl0, hno0⟩ := nestI_spec hs hn0
      obtain ⟨v837, hk0, hr⟩ := optT_run hr
      have hik0 := innK_spec (c := 0) (DVs.okAt ha 0 rfl) hk0 hne0 rfl
      obtain ⟨v839, hk1, hr⟩ := optT_run hr
      have hik1 := innK_spec (c := 0) (DVs.okAt ha 2 rfl) hk1 hne0 rfl
      split at hr
      · rename_i hsep
        obtain ⟨hnd, hsepv⟩ := sepB_spec hsep
        simp only [Tree.run] at hr
        obtain ⟨y, hy, hr⟩ := Option.bind_eq_some_iff.1 hr
        try simp only [Tree.run] at hr
        obtain ⟨hl0, hr⟩ := ite_run hr
        simp only [Option.some.injEq, Prod.mk.injEq] at hr
        obtain ⟨rfl, rfl⟩ := hr
        exact mutG_ok hs [a1, a2] ⟨(DVs.okAt ha 0 rfl), (DVs.okAt ha 2 rfl), trivial⟩ [a1, .flt .f32 v838, a2] [.inn 0 0 v837 ((nget v835 v837).length), .flt .f32 v838, .inn 0 0 v839 ((nget v835 v839).length)] [jn0] [verAt L jn0] [.nest [.sl (.f32 v835) v836] false 0] [.nest [.sl (.f32 y) v836] false 0] [.nest [.sl (.f32 y) v836] false (verAt L jn0)] [] hnd rfl rfl (fun j hj => by
            simp at hj
            subst hj; exact ex_nest hne0) (fun j hj => by
            simp at hj
            subst hj; exact reach_refs (by simp [DVs.refs, DV.refs, hnu0])) (fun F' h0 hρ ab hpl hS => by
            have ab0 := ab 0 _ rfl;
            have hnx0 : a1.av F = (.inn 0 0 v837 ((nget v835 v837).length) : DV).av F' := innK_av (hpl 0 _ rfl) hik0.1
            have hnx1 : a2.av F = (.inn 0 0 v839 ((nget v835 v839).length) : DV).av F' := innK_av (hpl 0 _ rfl) hik1.1
            refine ⟨fun i j b' h1 h2 => ?_, by simp [DBlk.blk, DVs.av, DV.av, BR.av, hρ, Row.len, hnx0, hnx1, ab0, ab0], fun hst => impl_less_nst_fn v835 v836 v837 v838 v839 F' hst ⟨(innK_ok (i := 0) rfl rfl hik0.2.1 hik0.2.2), trivial, (innK_ok (i := 0) rfl rfl hik1.2.1 hik1.2.2), trivial⟩ hy⟩
            rcases i with _ | i
            · simp at h1 h2; subst h1; subst h2; obtain ⟨ver_, hv_⟩ := hne0; exact ⟨_, hv_, .nest _ _ _ _, nest_blk (hpl 0 _ rfl) _ _ _ _, hno0 _ _⟩
            · simp at h1) rfl rfl (fun i j b b' h1 h2 h3 => by
            rcases i with _ | i
            · simp at h1; subst h1; cases h3; exact growN hne0 (by first | exact of_decide_eq_true hl0 | rfl) rfl h2
            · simp at h1)
      · cases hr
    · cases hr
  · cases hr
/-! impl.MirrorRank -/
noncomputable def impl_MirrorRank_l0_T (v659 : Int) (v660 : Int) (v661 : List Nat) (v727 : List Int) (s : Int × (List (List Nat)) × (List Nat)) : Tree ((Int × (List (List Nat)) × (List Nat)) ⊕ ((List (List Nat)) × (List Nat))) :=
  (.br (decide (s.1 < v660)) (
   (.call (impl_Matrix_column_g v659 v660 v661 s.1) fun v728 =>
   (.grd (fits (((s.2.2).length) + (1 : Nat))) <|
   .leaf (.inl (IntKind.i64.wrap (s.1 + (1 : Int)), s.2.1 ++ ([v728] : List (List Nat)), s.2.2 ++ [s.2.1.length + 1]))))
  ) (
   .leaf (.inr (s.2.1, s.2.2))
  ))

noncomputable def impl_MirrorRank_l0_g (v659 : Int) (v660 : Int) (v661 : List Nat) (v727 : List Int) (s0 : Int × (List (List Nat)) × (List Nat)) : Option ((List (List Nat)) × (List Nat)) := whileM (fun s => (impl_MirrorRank_l0_T v659 v660 v661 v727 s).run) s0
def impl_MirrorRank_l0_E (v659 : Int) (v660 : Int) (v661 : List Nat) (v662 : Nat) (v727 : List Int) (s : Int × (List (List Nat)) × (List Nat)) : Sd := ([tp,.flt .f32 v662,.ptr 0 (0 : Nat) 0 (3 : Nat),tp,tp,tp,tp,.nest 1 0 1 ((s.2.2).length),.own 2 0 ((v727).length),tp,tp,tp,tp,tp,tp,tp,tp,tp,tp,tp,tp,tp,tp,tp,tp,tp,tp,tp,tp,tp,tp,tp,tp,tp,tp,tp,.int .i64 v660,.int .i64 s.1,tp,tp,tp,tp,tp,tp,tp,tp,tp,tp,tp,tp,tp,tp,tp,tp,tp,tp,tp,tp,tp,tp,tp,tp,tp,tp,tp,tp,tp,tp,tp,tp,tp,tp,tp,tp,tp,tp,tp,tp,tp,tp,tp,tp,tp,tp,tp,tp,tp,tp,tp,tp,tp,tp,tp,tp,tp,tp,tp,tp,tp,tp,tp,tp,tp,tp,tp,tp,tp,tp,tp,tp,tp,tp,tp,tp,tp,tp,tp,tp,tp,tp,tp,tp,tp,tp,tp,tp,tp,tp,tp,tp,tp,tp,tp,tp,tp,tp,tp,tp,tp,tp,tp,tp,tp,tp,tp,tp,tp,tp,tp,tp,tp,tp,tp,tp], [.gen [.int .i64 v659, .int .i64 v660, .bslc (BR.root 0) (.f32 v661)] false 0, .nest [.sl (.f32 s.2.1) s.2.2] false 0, .row (.i64 v727) 0])
def impl_MirrorRank_l0_X (v659 : Int) (v660 : Int) (v661 : List Nat) (v662 : Nat) (v727 : List Int) (x : (List (List Nat)) × (List Nat)) : Out := (.normal, [tp,.flt .f32 v662,.ptr 0 (0 : Nat) 0 (3 : Nat),tp,tp,tp,tp,.nest 1 0 1 ((x.2).length),.own 2 0 ((v727).length),tp,tp,tp,tp,tp,tp,tp,tp,tp,tp,tp,tp,tp,tp,tp,tp,tp,tp,tp,tp,tp,tp,tp,tp,tp,tp,tp,tp,tp,tp,tp,tp,tp,tp,tp,tp,tp,tp,tp,tp,tp,tp,tp,tp,tp,tp,tp,tp,tp,tp,tp,tp,tp,tp,tp,tp,tp,tp,tp,tp,tp,tp,tp,tp,tp,tp,tp,tp,tp,tp,tp,tp,tp,tp,tp,tp,tp,tp,tp,tp,tp,tp,tp,tp,tp,tp,tp,tp,tp,tp,tp,tp,tp,tp,tp,tp,tp,tp,tp,tp,tp,tp,tp,tp,tp,tp,tp,tp,tp,tp,tp,tp,tp,tp,tp,tp,tp,tp,tp,tp,tp,tp,tp,tp,tp,tp,tp,tp,tp,tp,tp,tp,tp,tp,tp,tp,tp,tp,tp,tp,tp,tp,tp,tp,tp], [.gen [.int .i64 v659, .int .i64 v660, .bslc (BR.root 0) (.f32 v661)] false 0, .nest [.sl (.f32 x.1) x.2] false 0, .row (.i64 v727) 0])
def impl_MirrorRank_l0_kill : List Nat := KL true [1,2,4,2,27,2,116]
def impl_MirrorRank_l0_nx : Exit → List Nat
  | .exit 0 => KL true [1,2,4,2,145]
  | .ret => KL true [4,3,147]
  | _ => []
noncomputable def impl_MirrorRank_l4_T (v660 : Int) (v975 : Int) (v976 : Int) (v980 : List (List Nat)) (v981 : List Nat) (v982 : List Int) (s : Int × Nat × Int) : Tree ((Int × Nat × Int) ⊕ ((Unit) ⊕ (Int × Nat))) :=
  (.br (decide (s.2.2 < v660)) (
   (.grd (inb s.2.2 ((v981).length)) <|
   (.grd (inb s.2.2 ((v981).length)) <|
   (.call (impl_dot_g (nget v980 (nth v981 (Int.toNat s.2.2))) (nget v980 (nth v981 (Int.toNat s.2.2)))) fun v983 =>
   (.br (!(impl_IsFinite_v v983)) (
    .leaf (.inr (.inl ()))
   ) (
    (.br (fgrt .f32 v983 s.2.1) (
     .leaf (.inl (s.2.2, v983, IntKind.i64.wrap (s.2.2 + (1 : Int))))
    ) (
     .leaf (.inl (s.1, s.2.1, IntKind.i64.wrap (s.2.2 + (1 : Int))))
    ))
   )))))
  ) (
   .leaf (.inr (.inr (s.1, s.2.1)))
  ))

noncomputable def impl_MirrorRank_l4_g (v660 : Int) (v975 : Int) (v976 : Int) (v980 : List (List Nat)) (v981 : List Nat) (v982 : List Int) (s0 : Int × Nat × Int) : Option ((Unit) ⊕ (Int × Nat)) := whileM (fun s => (impl_MirrorRank_l4_T v660 v975 v976 v980 v981 v982 s).run) s0
def impl_MirrorRank_l4_E (v659 : Int) (v660 : Int) (v661 : List Nat) (v662 : Nat) (v975 : Int) (v976 : Int) (v980 : List (List Nat)) (v981 : List Nat) (v982 : List Int) (s : Int × Nat × Int) : Sd := ([tp,.flt .f32 v662,.ptr 0 (0 : Nat) 0 (3 : Nat),tp,tp,tp,tp,.nest 1 0 1 ((v981).length),.own 2 0 ((v982).length),tp,.int .i64 v975,.int .i64 v976,.int .i64 s.1,.flt .f32 s.2.1,.int .i64 s.2.2,tp,tp,tp,tp,tp,tp,tp,tp,tp,tp,tp,tp,tp,tp,tp,tp,tp,tp,tp,tp,tp,tp,tp,tp,tp,tp,tp,tp,tp,tp,tp,tp,tp,.int .i64 v660,.int .i64 v976,tp,tp,tp,tp,tp,tp,tp,tp,tp,tp,tp,tp,tp,tp,tp,tp,tp,tp,tp,tp,tp,tp,tp,tp,tp,tp,tp,tp,tp,tp,tp,tp,tp,tp,tp,tp,tp,tp,tp,tp,tp,tp,tp,tp,tp,tp,tp,tp,tp,tp,tp,tp,tp,tp,tp,tp,tp,tp,tp,tp,tp,tp,tp,tp,tp,tp,tp,tp,tp,tp,tp,tp,tp,tp,tp,tp,tp,tp,tp,tp,tp,tp,tp,tp,tp,tp,tp,tp,tp,tp,tp,tp,tp,tp,tp,tp,tp,tp,tp,tp,tp,tp,tp,tp], [.gen [.int .i64 v659, .int .i64 v660, .bslc (BR.root 0) (.f32 v661)] false 0, .nest [.sl (.f32 v980) v981] false 0, .row (.i64 v982) 0])
def impl_MirrorRank_l4_X (v659 : Int) (v660 : Int) (v661 : List Nat) (v662 : Nat) (v975 : Int) (v976 : Int) (v980 : List (List Nat)) (v981 : List Nat) (v982 : List Int) (x : (Unit) ⊕ (Int × Nat)) : Out := (match x with | .inl x => (.ret, [tp,tp,tp,tp,.nilslc,.int .i64 (0 : Int),.lit false,tp,tp,tp,tp,tp,tp,tp,tp,tp,tp,tp,tp,tp,tp,tp,tp,tp,tp,tp,tp,tp,tp,tp,tp,tp,tp,tp,tp,tp,tp,tp,tp,tp,tp,tp,tp,tp,tp,tp,tp,tp,tp,tp,tp,tp,tp,tp,tp,tp,tp,tp,tp,tp,tp,tp,tp,tp,tp,tp,tp,tp,tp,tp,tp,tp,tp,tp,tp,tp,tp,tp,tp,tp,tp,tp,tp,tp,tp,tp,tp,tp,tp,tp,tp,tp,tp,tp,tp,tp,tp,tp,tp,tp,tp,tp,tp,tp,tp,tp,tp,tp,tp,tp,tp,tp,tp,tp,tp,tp,tp,tp,tp,tp,tp,tp,tp,tp,tp,tp,tp,tp,tp,tp,tp,tp,tp,tp,tp,tp,tp,tp,tp,tp,tp,tp,tp,tp,tp,tp,tp,tp,tp,tp,tp,tp,tp,tp], []) | .inr x => (.normal, [tp,.flt .f32 v662,.ptr 0 (0 : Nat) 0 (3 : Nat),tp,tp,tp,tp,.nest 1 0 1 ((v981).length),.own 2 0 ((v982).length),tp,.int .i64 v975,.int .i64 v976,.int .i64 x.1,.flt .f32 x.2,tp,tp,tp,tp,tp,tp,tp,tp,tp,tp,tp,tp,tp,tp,tp,tp,tp,tp,tp,tp,tp,tp,tp,tp,tp,tp,tp,tp,tp,tp,tp,tp,tp,tp,.int .i64 v660,.int .i64 v976,tp,tp,tp,tp,tp,tp,tp,tp,tp,tp,tp,tp,tp,tp,tp,tp,tp,tp,tp,tp,tp,tp,tp,tp,tp,tp,tp,tp,tp,tp,tp,tp,tp,tp,tp,tp,tp,tp,tp,tp,tp,tp,tp,tp,tp,tp,tp,tp,tp,tp,tp,tp,tp,tp,tp,tp,tp,tp,tp,tp,tp,tp,tp,tp,tp,tp,tp,tp,tp,tp,tp,tp,tp,tp,tp,tp,tp,tp,tp,tp,tp,tp,tp,tp,tp,tp,tp,tp,tp,tp,tp,tp,tp,tp,tp,tp,tp,tp,tp,tp,tp,tp,tp,tp], [.gen [.int .i64 v659, .int .i64 v660, .bslc (BR.root 0) (.f32 v661)] false 0, .nest [.sl (.f32 v980) v981] false 0, .row (.i64 v982) 0]))
def impl_MirrorRank_l4_kill : List Nat := KL true [1,2,4,2,1,5,33,2,104]
def impl_MirrorRank_l4_nx : Exit → List Nat
  | .exit 2 => KL true [8,1,1,1,143]
  | .exit 3 => KL true [1,2,4,2,1,1,37,2,104]
  | .exit 4 => KL true [1,2,4,2,1,4,34,2,104]
  | .ret => KL true [4,3,147]
  | _ => []
noncomputable def impl_MirrorRank_l6_T (v1006 : Int) (v1007 : Int) (v1008 : Nat) (v1009 : Int) (v1012 : List Nat) (v1013 : List Int) (s : Int × (List (List Nat))) : Tree ((Int × (List (List Nat))) ⊕ ((List (List Nat)))) :=
  (.br (decide (s.1 < v1009)) (
   (.grd (inb v1007 ((v1012).length)) <|
   (.grd (inb s.1 ((nget s.2 (nth v1012 (Int.toNat v1007))).length)) <|
   (.grd (inb s.1 ((nget s.2 (nth v1012 (Int.toNat v1007))).length)) <|
   .leaf (.inl (IntKind.i64.wrap (s.1 + (1 : Int)), List.set s.2 ((nth v1012 (Int.toNat v1007)) - 1) (List.set (nget s.2 (nth v1012 (Int.toNat v1007))) (Int.toNat s.1) (fdiv .f32 (nth (nget s.2 (nth v1012 (Int.toNat v1007))) (Int.toNat s.1)) v1008)))))))
  ) (
   .leaf (.inr s.2)
  ))

noncomputable def impl_MirrorRank_l6_g (v1006 : Int) (v1007 : Int) (v1008 : Nat) (v1009 : Int) (v1012 : List Nat) (v1013 : List Int) (s0 : Int × (List (List Nat))) : Option ((List (List Nat))) := whileM (fun s => (impl_MirrorRank_l6_T v1006 v1007 v1008 v1009 v1012 v1013 s).run) s0
def impl_MirrorRank_l6_E (v659 : Int) (v660 : Int) (v661 : List Nat) (v662 : Nat) (v1006 : Int) (v1007 : Int) (v1008 : Nat) (v1009 : Int) (v1012 : List Nat) (v1013 : List Int) (s : Int × (List (List Nat))) : Sd := ([tp,.flt .f32 v662,.ptr 0 (0 : Nat) 0 (3 : Nat),tp,tp,tp,tp,.nest 1 0 1 ((v1012).length),.own 2 0 ((v1013).length),tp,.int .i64 v1006,.int .i64 v1007,tp,tp,tp,tp,.flt .f32 v1008,tp,tp,tp,tp,tp,tp,tp,tp,tp,tp,tp,tp,tp,tp,tp,tp,tp,tp,tp,tp,tp,tp,tp,tp,tp,tp,tp,tp,tp,tp,tp,.int .i64 v660,.int .i64 v1007,tp,tp,tp,tp,tp,tp,tp,tp,tp,tp,tp,tp,tp,tp,tp,tp,tp,tp,tp,tp,tp,tp,tp,tp,tp,tp,tp,tp,tp,tp,tp,tp,tp,tp,tp,tp,tp,tp,tp,tp,tp,tp,tp,tp,tp,tp,tp,tp,tp,tp,tp,tp,tp,tp,tp,tp,tp,tp,.int .i64 v1009,.int .i64 s.1,tp,tp,tp,tp,tp,tp,tp,tp,tp,tp,tp,tp,tp,tp,tp,tp,tp,tp,tp,tp,tp,tp,tp,tp,tp,tp,tp,tp,tp,tp,tp,tp,tp,tp,tp,tp,tp,tp,tp,tp,tp,tp,tp,tp], [.gen [.int .i64 v659, .int .i64 v660, .bslc (BR.root 0) (.f32 v661)] false 0, .nest [.sl (.f32 s.2) v1012] false 0, .row (.i64 v1013) 0])
def impl_MirrorRank_l6_X (v659 : Int) (v660 : Int) (v661 : List Nat) (v662 : Nat) (v1006 : Int) (v1007 : Int) (v1008 : Nat) (v1009 : Int) (v1012 : List Nat) (v1013 : List Int) (x : (List (List Nat))) : Out := (.normal, [tp,.flt .f32 v662,.ptr 0 (0 : Nat) 0 (3 : Nat),tp,tp,tp,tp,.nest 1 0 1 ((v1012).length),.own 2 0 ((v1013).length),tp,.int .i64 v1006,.int .i64 v1007,tp,tp,tp,tp,tp,tp,tp,tp,tp,tp,tp,tp,tp,tp,tp,tp,tp,tp,tp,tp,tp,tp,tp,tp,tp,tp,tp,tp,tp,tp,tp,tp,tp,tp,tp,tp,.int .i64 v660,.int .i64 v1007,tp,tp,tp,tp,tp,tp,tp,tp,tp,tp,tp,tp,tp,tp,tp,tp,tp,tp,tp,tp,tp,tp,tp,tp,tp,tp,tp,tp,tp,tp,tp,tp,tp,tp,tp,tp,tp,tp,tp,tp,tp,tp,tp,tp,tp,tp,tp,tp,tp,tp,tp,tp,tp,tp,tp,tp,tp,tp,tp,tp,tp,tp,tp,tp,tp,tp,tp,tp,tp,tp,tp,tp,tp,tp,tp,tp,tp,tp,tp,tp,tp,tp,tp,tp,tp,tp,tp,tp,tp,tp,tp,tp,tp,tp,tp,tp,tp,tp,tp,tp,tp,tp,tp,tp], [.gen [.int .i64 v659, .int .i64 v660, .bslc (BR.root 0) (.f32 v661)] false 0, .nest [.sl (.f32 x) v1012] false 0, .row (.i64 v1013) 0])
def impl_MirrorRank_l6_kill : List Nat := KL true [1,2,4,2,1,2,4,1,31,2,58,2,44]
def impl_MirrorRank_l6_nx : Exit → List Nat
  | .exit 2 => KL true [8,1,1,1,143]
  | .exit 3 => KL true [1,2,4,2,1,1,37,2,104]
  | .exit 6 => KL true [1,2,4,2,1,2,36,2,104]
  | .ret => KL true [4,3,147]
  | _ => []
noncomputable def impl_MirrorRank_l8_T (v660 : Int) (v1031 : Int) (v1032 : Int) (v1035 : List Nat) (v1036 : List Int) (s : Int × (List (List Nat))) : Tree ((Int × (List (List Nat))) ⊕ ((List (List Nat)))) :=
  (.br (decide (s.1 < v660)) (
   (.grd (inb s.1 ((v1035).length)) <|
   (.grd (inb v1032 ((v1035).length)) <|
   (.grd (inb s.1 ((v1035).length)) <|
   (.call (impl_dot_g (nget s.2 (nth v1035 (Int.toNat v1032))) (nget s.2 (nth v1035 (Int.toNat s.1)))) fun v1037 =>
   (.grd (inb v1032 ((v1035).length)) <|
   (.call (impl_less_nst_g s.2 v1035 (nth v1035 (Int.toNat s.1)) v1037 (nth v1035 (Int.toNat v1032))) fun v1038 =>
   (.grd (decide ((v1035).length = (v1035).length)) <|
   .leaf (.inl (IntKind.i64.wrap (s.1 + (1 : Int)), v1038)))))))))
  ) (
   .leaf (.inr s.2)
  ))

noncomputable def impl_MirrorRank_l8_g (v660 : Int) (v1031 : Int) (v1032 : Int) (v1035 : List Nat) (v1036 : List Int) (s0 : Int × (List (List Nat))) : Option ((List (List Nat))) := whileM (fun s => (impl_MirrorRank_l8_T v660 v1031 v1032 v1035 v1036 s).run) s0
def impl_MirrorRank_l8_E (v659 : Int) (v660 : Int) (v661 : List Nat) (v662 : Nat) (v1031 : Int) (v1032 : Int) (v1035 : List Nat) (v1036 : List Int) (s : Int × (List (List Nat))) : Sd := ([tp,.flt .f32 v662,.ptr 0 (0 : Nat) 0 (3 : Nat),tp,tp,tp,tp,.nest 1 0 1 ((v1035).length),.own 2 0 ((v1036).length),tp,.int .i64 v1031,.int .i64 v1032,tp,tp,tp,tp,tp,tp,.int .i64 s.1,tp,tp,tp,tp,tp,tp,tp,tp,tp,tp,tp,tp,tp,tp,tp,tp,tp,tp,tp,tp,tp,tp,tp,tp,tp,tp,tp,tp,tp,.int .i64 v660,.int .i64 v1032,tp,tp,tp,tp,tp,tp,tp,tp,tp,tp,tp,tp,tp,tp,tp,tp,tp,tp,tp,tp,tp,tp,tp,tp,tp,tp,tp,tp,tp,tp,tp,tp,tp,tp,tp,tp,tp,tp,tp,tp,tp,tp,tp,tp,tp,tp,tp,tp,tp,tp,tp,tp,tp,tp,tp,tp,tp,tp,tp,tp,tp,tp,tp,tp,tp,tp,tp,tp,tp,tp,tp,tp,tp,tp,tp,tp,tp,tp,tp,tp,tp,tp,tp,tp,tp,tp,tp,tp,tp,tp,tp,tp,tp,tp,tp,tp,tp,tp,tp,tp,tp,tp,tp,tp], [.gen [.int .i64 v659, .int .i64 v660, .bslc (BR.root 0) (.f32 v661)] false 0, .nest [.sl (.f32 s.2) v1035] false 0, .row (.i64 v1036) 0])
def impl_MirrorRank_l8_X (v659 : Int) (v660 : Int) (v661 : List Nat) (v662 : Nat) (v1031 : Int) (v1032 : Int) (v1035 : List Nat) (v1036 : List Int) (x : (List (List Nat))) : Out := (.normal, [tp,.flt .f32 v662,.ptr 0 (0 : Nat) 0 (3 : Nat),tp,tp,tp,tp,.nest 1 0 1 ((v1035).length),.own 2 0 ((v1036).length),tp,.int .i64 v1031,tp,tp,tp,tp,tp,tp,tp,tp,tp,tp,tp,tp,tp,tp,tp,tp,tp,tp,tp,tp,tp,tp,tp,tp,tp,tp,tp,tp,tp,tp,tp,tp,tp,tp,tp,tp,tp,.int .i64 v660,.int .i64 v1032,tp,tp,tp,tp,tp,tp,tp,tp,tp,tp,tp,tp,tp,tp,tp,tp,tp,tp,tp,tp,tp,tp,tp,tp,tp,tp,tp,tp,tp,tp,tp,tp,tp,tp,tp,tp,tp,tp,tp,tp,tp,tp,tp,tp,tp,tp,tp,tp,tp,tp,tp,tp,tp,tp,tp,tp,tp,tp,tp,tp,tp,tp,tp,tp,tp,tp,tp,tp,tp,tp,tp,tp,tp,tp,tp,tp,tp,tp,tp,tp,tp,tp,tp,tp,tp,tp,tp,tp,tp,tp,tp,tp,tp,tp,tp,tp,tp,tp,tp,tp,tp,tp,tp,tp], [.gen [.int .i64 v659, .int .i64 v660, .bslc (BR.root 0) (.f32 v661)] false 0, .nest [.sl (.f32 x) v1035] false 0, .row (.i64 v1036) 0])
def impl_MirrorRank_l8_kill : List Nat := KL true [1,2,4,2,1,2,6,1,29,2,104]
def impl_MirrorRank_l8_nx : Exit → List Nat
  | .exit 2 => KL true [8,1,1,1,143]
  | .exit 3 => KL true [1,2,4,2,1,1,37,2,104]
  | .exit 8 => KL true [1,2,4,2,1,1,37,2,104]
  | .ret => KL true [4,3,147]
  | _ => []
noncomputable def impl_MirrorRank_l2_T (v659 : Int) (v660 : Int) (v661 : List Nat) (v662 : Nat) (s : Int × Int × (List (List Nat)) × (List Nat) × (List Int)) : Tree ((Int × Int × (List (List Nat)) × (List Nat) × (List Int)) ⊕ ((Unit) ⊕ (Int × (List Int)))) :=
  (.br (decide (s.2.1 < v660)) (
   (.need (some (impl_MirrorRank_l4_E v659 v660 v661 v662 s.1 s.2.1 s.2.2.1 s.2.2.2.1 s.2.2.2.2 (s.2.1, (3212836864 : Nat), s.2.1)) = some (impl_MirrorRank_l4_E v659 v660 v661 v662 s.1 s.2.1 s.2.2.1 s.2.2.2.1 s.2.2.2.2 (s.2.1, (3212836864 : Nat), s.2.1))) <|
   (.call (impl_MirrorRank_l4_g v660 s.1 s.2.1 s.2.2.1 s.2.2.2.1 s.2.2.2.2 (s.2.1, (3212836864 : Nat), s.2.1)) fun v984 =>
   (.sum v984 (fun v985 =>
    .leaf (.inr (.inl ()))
   ) (fun v986 =>
    (.call (impl_RootNumber_g v986.2) fun v987 =>
    (.br (fless .f32 v987 v662 || feq .f32 v987 v662) (
     .leaf (.inr (.inr (s.1, s.2.2.2.2)))
    ) (
     (.grd (inb v986.1 ((s.2.2.2.1).length)) <|
     (.grd (inb s.2.1 ((s.2.2.2.1).length)) <|
     (.grd (inb s.2.1 ((s.2.2.2.1).length)) <|
     (.grd (inb v986.1 ((s.2.2.2.1).length)) <|
     (.call (impl_swap_g s.2.2.2.2 s.2.1 v986.1) fun v988 =>
     (.grd (decide ((List.set (List.set s.2.2.2.2 (Int.toNat s.2.1) (nth s.2.2.2.2 (Int.toNat v986.1))) (Int.toNat v986.1) (nth s.2.2.2.2 (Int.toNat s.2.1))).length = s.2.2.2.2.length)) <|
     (.grd (inb s.2.1 ((s.2.2.2.1).length)) <|
     (.call (impl_norm_g (nget s.2.2.1 (nth (List.set (List.set s.2.2.2.1 (Int.toNat s.2.1) (nth s.2.2.2.1 (Int.toNat v986.1))) (Int.toNat v986.1) (nth s.2.2.2.1 (Int.toNat s.2.1))) (Int.toNat s.2.1)))) fun v989 =>
     (.grd (inb s.2.1 ((s.2.2.2.1).length)) <|
     (.need (some (impl_MirrorRank_l6_E v659 v660 v661 v662 s.1 s.2.1 v989 (((nget s.2.2.1 (nth (List.set (List.set s.2.2.2.1 (Int.toNat s.2.1) (nth s.2.2.2.1 (Int.toNat v986.1))) (Int.toNat v986.1) (nth s.2.2.2.1 (Int.toNat s.2.1))) (Int.toNat s.2.1))).length : Nat) : Int) (List.set (List.set s.2.2.2.1 (Int.toNat s.2.1) (nth s.2.2.2.1 (Int.toNat v986.1))) (Int.toNat v986.1) (nth s.2.2.2.1 (Int.toNat s.2.1))) (List.set (List.set s.2.2.2.2 (Int.toNat s.2.1) (nth s.2.2.2.2 (Int.toNat v986.1))) (Int.toNat v986.1) (nth s.2.2.2.2 (Int.toNat s.2.1))) ((0 : Int), s.2.2.1)) = some (impl_MirrorRank_l6_E v659 v660 v661 v662 s.1 s.2.1 v989 (((nget s.2.2.1 (nth (List.set (List.set s.2.2.2.1 (Int.toNat s.2.1) (nth s.2.2.2.1 (Int.toNat v986.1))) (Int.toNat v986.1) (nth s.2.2.2.1 (Int.toNat s.2.1))) (Int.toNat s.2.1))).length : Nat) : Int) (List.set (List.set s.2.2.2.1 (Int.toNat s.2.1) (nth s.2.2.2.1 (Int.toNat v986.1))) (Int.toNat v986.1) (nth s.2.2.2.1 (Int.toNat s.2.1))) (List.set (List.set s.2.2.2.2 (Int.toNat s.2.1) (nth s.2.2.2.2 (Int.toNat v986.1))) (Int.toNat v986.1) (nth s.2.2.2.2 (Int.toNat s.2.1))) ((0 : Int), s.2.2.1))) <|
     (.call (impl_MirrorRank_l6_g s.1 s.2.1 v989 (((nget s.2.2.1 (nth (List.set (List.set s.2.2.2.1 (Int.toNat s.2.1) (nth s.2.2.2.1 (Int.toNat v986.1))) (Int.toNat v986.1) (nth s.2.2.2.1 (Int.toNat s.2.1))) (Int.toNat s.2.1))).length : Nat) : Int) (List.set (List.set s.2.2.2.1 (Int.toNat s.2.1) (nth s.2.2.2.1 (Int.toNat v986.1))) (Int.toNat v986.1) (nth s.2.2.2.1 (Int.toNat s.2.1))) (List.set (List.set s.2.2.2.2 (Int.toNat s.2.1) (nth s.2.2.2.2 (Int.toNat v986.1))) (Int.toNat v986.1) (nth s.2.2.2.2 (Int.toNat s.2.1))) ((0 : Int), s.2.2.1)) fun v1014 =>
     (.need (some (impl_MirrorRank_l8_E v659 v660 v661 v662 s.1 s.2.1 (List.set (List.set s.2.2.2.1 (Int.toNat s.2.1) (nth s.2.2.2.1 (Int.toNat v986.1))) (Int.toNat v986.1) (nth s.2.2.2.1 (Int.toNat s.2.1))) (List.set (List.set s.2.2.2.2 (Int.toNat s.2.1) (nth s.2.2.2.2 (Int.toNat v986.1))) (Int.toNat v986.1) (nth s.2.2.2.2 (Int.toNat s.2.1))) (IntKind.i64.wrap (s.2.1 + (1 : Int)), v1014)) = some (impl_MirrorRank_l8_E v659 v660 v661 v662 s.1 s.2.1 (List.set (List.set s.2.2.2.1 (Int.toNat s.2.1) (nth s.2.2.2.1 (Int.toNat v986.1))) (Int.toNat v986.1) (nth s.2.2.2.1 (Int.toNat s.2.1))) (List.set (List.set s.2.2.2.2 (Int.toNat s.2.1) (nth s.2.2.2.2 (Int.toNat v986.1))) (Int.toNat v986.1) (nth s.2.2.2.2 (Int.toNat s.2.1))) (IntKind.i64.wrap (s.2.1 + (1 : Int)), v1014))) <|
     (.call (impl_MirrorRank_l8_g v660 s.1 s.2.1 (List.set (List.set s.2.2.2.1 (Int.toNat s.2.1) (nth s.2.2.2.1 (Int.toNat v986.1))) (Int.toNat v986.1) (nth s.2.2.2.1 (Int.toNat s.2.1))) (List.set (List.set s.2.2.2.2 (Int.toNat s.2.1) (nth s.2.2.2.2 (Int.toNat v986.1))) (Int.toNat v986.1) (nth s.2.2.2.2 (Int.toNat s.2.1))) (IntKind.i64.wrap (s.2.1 + (1 : Int)), v1014)) fun v1039 =>
     .leaf (.inl (IntKind.i64.wrap (s.1 + (1 : Int)), IntKind.i64.wrap (s.2.1 + (1 : Int)), v1039, (List.set (List.set s.2.2.2.1 (Int.toNat s.2.1) (nth s.2.2.2.1 (Int.toNat v986.1))) (Int.toNat v986.1) (nth s.2.2.2.1 (Int.toNat s.2.1))), (List.set (List.set s.2.2.2.2 (Int.toNat s.2.1) (nth s.2.2.2.2 (Int.toNat v986.1))) (Int.toNat v986.1) (nth s.2.2.2.2 (Int.toNat s.2.1))))))))))))))))))
    )))
   ))))
  ) (
   .leaf (.inr (.inr (s.1, s.2.2.2.2)))
  ))

noncomputable def impl_MirrorRank_l2_g (v659 : Int) (v660 : Int) (v661 : List Nat) (v662 : Nat) (s0 : Int × Int × (List (List Nat)) × (List Nat) × (List Int)) : Option ((Unit) ⊕ (Int × (List Int))) := whileM (fun s => (impl_MirrorRank_l2_T v659 v660 v661 v662 s).run) s0
def impl_MirrorRank_l2_E (v659 : Int) (v660 : Int) (v661 : List Nat) (v662 : Nat) (s : Int × Int × (List (List Nat)) × (List Nat) × (List Int)) : Sd := ([tp,.flt .f32 v662,.ptr 0 (0 : Nat) 0 (3 : Nat),tp,tp,tp,tp,.nest 1 0 1 ((s.2.2.2.1).length),.own 2 0 ((s.2.2.2.2).length),tp,.int .i64 s.1,tp,tp,tp,tp,tp,tp,tp,tp,tp,tp,tp,tp,tp,tp,tp,tp,tp,tp,tp,tp,tp,tp,tp,tp,tp,tp,tp,tp,tp,tp,tp,tp,tp,tp,tp,tp,tp,.int .i64 v660,.int .i64 s.2.1,tp,tp,tp,tp,tp,tp,tp,tp,tp,tp,tp,tp,tp,tp,tp,tp,tp,tp,tp,tp,tp,tp,tp,tp,tp,tp,tp,tp,tp,tp,tp,tp,tp,tp,tp,tp,tp,tp,tp,tp,tp,tp,tp,tp,tp,tp,tp,tp,tp,tp,tp,tp,tp,tp,tp,tp,tp,tp,tp,tp,tp,tp,tp,tp,tp,tp,tp,tp,tp,tp,tp,tp,tp,tp,tp,tp,tp,tp,tp,tp,tp,tp,tp,tp,tp,tp,tp,tp,tp,tp,tp,tp,tp,tp,tp,tp,tp,tp,tp,tp,tp,tp,tp,tp], [.gen [.int .i64 v659, .int .i64 v660, .bslc (BR.root 0) (.f32 v661)] false 0, .nest [.sl (.f32 s.2.2.1) s.2.2.2.1] false 0, .row (.i64 s.2.2.2.2) 0])
def impl_MirrorRank_l2_X (v659 : Int) (v660 : Int) (v661 : List Nat) (v662 : Nat) (x : (Unit) ⊕ (Int × (List Int))) : Out := (match x with | .inl x => (.ret, [tp,tp,tp,tp,.nilslc,.int .i64 (0 : Int),.lit false,tp,tp,tp,tp,tp,tp,tp,tp,tp,tp,tp,tp,tp,tp,tp,tp,tp,tp,tp,tp,tp,tp,tp,tp,tp,tp,tp,tp,tp,tp,tp,tp,tp,tp,tp,tp,tp,tp,tp,tp,tp,tp,tp,tp,tp,tp,tp,tp,tp,tp,tp,tp,tp,tp,tp,tp,tp,tp,tp,tp,tp,tp,tp,tp,tp,tp,tp,tp,tp,tp,tp,tp,tp,tp,tp,tp,tp,tp,tp,tp,tp,tp,tp,tp,tp,tp,tp,tp,tp,tp,tp,tp,tp,tp,tp,tp,tp,tp,tp,tp,tp,tp,tp,tp,tp,tp,tp,tp,tp,tp,tp,tp,tp,tp,tp,tp,tp,tp,tp,tp,tp,tp,tp,tp,tp,tp,tp,tp,tp,tp,tp,tp,tp,tp,tp,tp,tp,tp,tp,tp,tp,tp,tp,tp,tp,tp,tp], []) | .inr x => (.normal, [tp,tp,tp,tp,tp,tp,tp,tp,.own 0 0 ((x.2).length),tp,.int .i64 x.1,tp,tp,tp,tp,tp,tp,tp,tp,tp,tp,tp,tp,tp,tp,tp,tp,tp,tp,tp,tp,tp,tp,tp,tp,tp,tp,tp,tp,tp,tp,tp,tp,tp,tp,tp,tp,tp,tp,tp,tp,tp,tp,tp,tp,tp,tp,tp,tp,tp,tp,tp,tp,tp,tp,tp,tp,tp,tp,tp,tp,tp,tp,tp,tp,tp,tp,tp,tp,tp,tp,tp,tp,tp,tp,tp,tp,tp,tp,tp,tp,tp,tp,tp,tp,tp,tp,tp,tp,tp,tp,tp,tp,tp,tp,tp,tp,tp,tp,tp,tp,tp,tp,tp,tp,tp,tp,tp,tp,tp,tp,tp,tp,tp,tp,tp,tp,tp,tp,tp,tp,tp,tp,tp,tp,tp,tp,tp,tp,tp,tp,tp,tp,tp,tp,tp,tp,tp,tp,tp,tp,tp,tp,tp], [.row (.i64 x.2) 0]))
def impl_MirrorRank_l2_kill : List Nat := KL true [1,2,4,2,1,1,37,2,104]
def impl_MirrorRank_l2_nx : Exit → List Nat
  | .exit 2 => KL true [8,1,1,1,143]
  | .ret => KL true [4,3,147]
  | _ => []
noncomputable def impl_MirrorRank_LO (v659 : Int) (v660 : Int) (v661 : List Nat) (v662 : Nat) : LOr := fun id e L =>
  match id with
  | 0 => .need (normA 0 impl_MirrorRank_l0_kill e L = some (impl_MirrorRank_l0_E v659 v660 v661 v662 (gRI L (vAt e 8)) ((gI (vAt e 37)), (gPF L (vAt e 7) 0), (gX L (vAt e 7) 0)))) (.call (impl_MirrorRank_l0_g v659 v660 v661 (gRI L (vAt e 8)) ((gI (vAt e 37)), (gPF L (vAt e 7) 0), (gX L (vAt e 7) 0))) fun x => .leaf (impl_MirrorRank_l0_X v659 v660 v661 v662 (gRI L (vAt e 8)) x))
  | 4 => .need (normA 0 impl_MirrorRank_l4_kill e L = some (impl_MirrorRank_l4_E v659 v660 v661 v662 (gI (vAt e 10)) (gI (vAt e 11)) (gPF L (vAt e 7) 0) (gX L (vAt e 7) 0) (gRI L (vAt e 8)) ((gI (vAt e 12)), (gF (vAt e 13)), (gI (vAt e 14))))) (.call (impl_MirrorRank_l4_g v660 (gI (vAt e 10)) (gI (vAt e 11)) (gPF L (vAt e 7) 0) (gX L (vAt e 7) 0) (gRI L (vAt e 8)) ((gI (vAt e 12)), (gF (vAt e 13)), (gI (vAt e 14)))) fun x => .sum x (fun b0 => .leaf (impl_MirrorRank_l4_X v659 v660 v661 v662 (gI (vAt e 10)) (gI (vAt e 11)) (gPF L (vAt e 7) 0) (gX L (vAt e 7) 0) (gRI L (vAt e 8)) (.inl b0))) (fun c0 => .leaf (impl_MirrorRank_l4_X v659 v660 v661 v662 (gI (vAt e 10)) (gI (vAt e 11)) (gPF L (vAt e 7) 0) (gX L (vAt e 7) 0) (gRI L (vAt e 8)) (.inr c0))))
  | 6 => .need (normA 0 impl_MirrorRank_l6_kill e L = some (impl_MirrorRank_l6_E v659 v660 v661 v662 (gI (vAt e 10)) (gI (vAt e 11)) (gF (vAt e 16)) (gI (vAt e 108)) (gX L (vAt e 7) 0) (gRI L (vAt e 8)) ((gI (vAt e 109)), (gPF L (vAt e 7) 0)))) (.call (impl_MirrorRank_l6_g (gI (vAt e 10)) (gI (vAt e 11)) (gF (vAt e 16)) (gI (vAt e 108)) (gX L (vAt e 7) 0) (gRI L (vAt e 8)) ((gI (vAt e 109)), (gPF L (vAt e 7) 0))) fun x => .leaf (impl_MirrorRank_l6_X v659 v660 v661 v662 (gI (vAt e 10)) (gI (vAt e 11)) (gF (vAt e 16)) (gI (vAt e 108)) (gX L (vAt e 7) 0) (gRI L (vAt e 8)) x))
  | 8 => .need (normA 0 impl_MirrorRank_l8_kill e L = some (impl_MirrorRank_l8_E v659 v660 v661 v662 (gI (vAt e 10)) (gI (vAt e 11)) (gX L (vAt e 7) 0) (gRI L (vAt e 8)) ((gI (vAt e 18)), (gPF L (vAt e 7) 0)))) (.call (impl_MirrorRank_l8_g v660 (gI (vAt e 10)) (gI (vAt e 11)) (gX L (vAt e 7) 0) (gRI L (vAt e 8)) ((gI (vAt e 18)), (gPF L (vAt e 7) 0))) fun x => .leaf (impl_MirrorRank_l8_X v659 v660 v661 v662 (gI (vAt e 10)) (gI (vAt e 11)) (gX L (vAt e 7) 0) (gRI L (vAt e 8)) x))
  | 2 => .need (normA 0 impl_MirrorRank_l2_kill e L = some (impl_MirrorRank_l2_E v659 v660 v661 v662 ((gI (vAt e 10)), (gI (vAt e 49)), (gPF L (vAt e 7) 0), (gX L (vAt e 7) 0), (gRI L (vAt e 8))))) (.call (impl_MirrorRank_l2_g v659 v660 v661 v662 ((gI (vAt e 10)), (gI (vAt e 49)), (gPF L (vAt e 7) 0), (gX L (vAt e 7) 0), (gRI L (vAt e 8)))) fun x => .sum x (fun b0 => .leaf (impl_MirrorRank_l2_X v659 v660 v661 v662 (.inl b0))) (fun c0 => .leaf (impl_MirrorRank_l2_X v659 v660 v661 v662 (.inr c0))))
  | _ => .fail
noncomputable def impl_MirrorRank_tab : List (FuncId × DFn × Bool) := [(105, impl_ValidMatrix_F, true), (106, impl_IsFinite_F, true), (107, impl_ascending_F, true), (108, impl_Matrix_column_F, true), (109, impl_dot_F, true), (110, impl_RootNumber_F, true), (111, impl_swap_F, false), (112, impl_norm_F, true), (113, impl_less_nst_F, false)]
theorem impl_MirrorRank_hO : OrcOk Try.prog (tabD impl_MirrorRank_tab) (tabM impl_MirrorRank_tab) := tabD_cons impl_ValidMatrix_Fok (tabD_cons impl_IsFinite_Fok (tabD_cons impl_ascending_Fok (tabD_cons impl_Matrix_column_Fok (tabD_cons impl_dot_Fok (tabD_cons impl_RootNumber_Fok (tabD_cons impl_swap_Fok (tabD_cons impl_norm_Fok (tabD_cons impl_less_nst_Fok (tabD_nil _)))))))))
theorem impl_MirrorRank_l0_be (v659 : Int) (v660 : Int) (v661 : List Nat) (v662 : Nat) (v727 : List Int) (s : Int × (List (List Nat)) × (List Nat)) : bodyT TT (tabD impl_MirrorRank_tab) (tabM impl_MirrorRank_tab) (impl_MirrorRank_LO v659 v660 v661 v662) 0 impl_MirrorRank_l0_kill impl_MirrorRank_l0_nx (bodyOf Try.f39 0) 0 (impl_MirrorRank_l0_E v659 v660 v661 v662 v727 s) = (impl_MirrorRank_l0_T v659 v660 v661 v727 s).bind fun y => .leaf (outS (impl_MirrorRank_l0_E v659 v660 v661 v662 v727) (impl_MirrorRank_l0_X v659 v660 v661 v662 v727) y) := by kernel_rfl
theorem impl_MirrorRank_l0_ok (v659 : Int) (v660 : Int) (v661 : List Nat) (v662 : Nat) : LSound Try.prog 0 (impl_MirrorRank_LO v659 v660 v661 v662) 0 (bodyOf Try.f39 0) := by
  intro e L out h
  exact lo_ok (E := impl_MirrorRank_l0_E v659 v660 v661 v662 (gRI L (vAt e 8))) (gT := impl_MirrorRank_l0_T v659 v660 v661 (gRI L (vAt e 8))) (X := impl_MirrorRank_l0_X v659 v660 v661 v662 (gRI L (vAt e 8))) (s0 := ((gI (vAt e 37)), (gPF L (vAt e 7) 0), (gX L (vAt e 7) 0))) tok impl_MirrorRank_hO mixed (LoopsOk_eq (l := []) (by kernel_rfl) trivial) (impl_MirrorRank_l0_be v659 v660 v661 v662 (gRI L (vAt e 8))) rfl (by intro x; rfl) h
theorem impl_MirrorRank_l4_be (v659 : Int) (v660 : Int) (v661 : List Nat) (v662 : Nat) (v975 : Int) (v976 : Int) (v980 : List (List Nat)) (v981 : List Nat) (v982 : List Int) (s : Int × Nat × Int) : bodyT TT (tabD impl_MirrorRank_tab) (tabM impl_MirrorRank_tab) (impl_MirrorRank_LO v659 v660 v661 v662) 0 impl_MirrorRank_l4_kill impl_MirrorRank_l4_nx (bodyOf Try.f39 4) 4 (impl_MirrorRank_l4_E v659 v660 v661 v662 v975 v976 v980 v981 v982 s) = (impl_MirrorRank_l4_T v660 v975 v976 v980 v981 v982 s).bind fun y => .leaf (outS (impl_MirrorRank_l4_E v659 v660 v661 v662 v975 v976 v980 v981 v982) (impl_MirrorRank_l4_X v659 v660 v661 v662 v975 v976 v980 v981 v982) y) := by kernel_rfl
theorem impl_MirrorRank_l4_ok (v659 : Int) (v660 : Int) (v661 : List Nat) (v662 : Nat) : LSound Try.prog 0 (impl_MirrorRank_LO v659 v660 v661 v662) 4 (bodyOf Try.f39 4) := by
  intro e L out h
  exact lo_ok (E := impl_MirrorRank_l4_E v659 v660 v661 v662 (gI (vAt e 10)) (gI (vAt e 11)) (gPF L (vAt e 7) 0) (gX L (vAt e 7) 0) (gRI L (vAt e 8))) (gT := impl_MirrorRank_l4_T v660 (gI (vAt e 10)) (gI (vAt e 11)) (gPF L (vAt e 7) 0) (gX L (vAt e 7) 0) (gRI L (vAt e 8))) (X := impl_MirrorRank_l4_X v659 v660 v661 v662 (gI (vAt e 10)) (gI (vAt e 11)) (gPF L (vAt e 7) 0) (gX L (vAt e 7) 0) (gRI L (vAt e 8))) (s0 := ((gI (vAt e 12)), (gF (vAt e 13)), (gI (vAt e 14)))) tok impl_MirrorRank_hO mixed (LoopsOk_eq (l := []) (by kernel_rfl) trivial) (impl_MirrorRank_l4_be v659 v660 v661 v662 (gI (vAt e 10)) (gI (vAt e 11)) (gPF L (vAt e 7) 0) (gX L (vAt e 7) 0) (gRI L (vAt e 8))) rfl (by intro x; (cases x with | inl b => rfl | inr x => exact rfl)) h
theorem impl_MirrorRank_l6_be (v659 : Int) (v660 : Int) (v661 : List Nat) (v662 : Nat) (v1006 : Int) (v1007 : Int) (v1008 : Nat) (v1009 : Int) (v1012 : List Nat) (v1013 : List Int) (s : Int × (List (List Nat))) : bodyT TT (tabD impl_MirrorRank_tab) (tabM impl_MirrorRank_tab) (impl_MirrorRank_LO v659 v660 v661 v662) 0 impl_MirrorRank_l6_kill impl_MirrorRank_l6_nx (bodyOf Try.f39 6) 6 (impl_MirrorRank_l6_E v659 v660 v661 v662 v1006 v1007 v1008 v1009 v1012 v1013 s) = (impl_MirrorRank_l6_T v1006 v1007 v1008 v1009 v1012 v1013 s).bind fun y => .leaf (outS (impl_MirrorRank_l6_E v659 v660 v661 v662 v1006 v1007 v1008 v1009 v1012 v1013) (impl_MirrorRank_l6_X v659 v660 v661 v662 v1006 v1007 v1008 v1009 v1012 v1013) y) := by kernel_rfl
theorem impl_MirrorRank_l6_ok (v659 : Int) (v660 : Int) (v661 : List Nat) (v662 : Nat) : LSound Try.prog 0 (impl_MirrorRank_LO v659 v660 v661 v662) 6 (bodyOf Try.f39 6) := by
  intro e L out h
  exact lo_ok (E := impl_MirrorRank_l6_E v659 v660 v661 v662 (gI (vAt e 10)) (gI (vAt e 11)) (gF (vAt e 16)) (gI (vAt e 108)) (gX L (vAt e 7) 0) (gRI L (vAt e 8))) (gT := impl_MirrorRank_l6_T (gI (vAt e 10)) (gI (vAt e 11)) (gF (vAt e 16)) (gI (vAt e 108)) (gX L (vAt e 7) 0) (gRI L (vAt e 8))) (X := impl_MirrorRank_l6_X v659 v660 v661 v662 (gI (vAt e 10)) (gI (vAt e 11)) (gF (vAt e 16)) (gI (vAt e 108)) (gX L (vAt e 7) 0) (gRI L (vAt e 8))) (s0 := ((gI (vAt e 109)), (gPF L (vAt e 7) 0))) tok impl_MirrorRank_hO mixed (LoopsOk_eq (l := []) (by kernel_rfl) trivial) (impl_MirrorRank_l6_be v659 v660 v661 v662 (gI (vAt e 10)) (gI (vAt e 11)) (gF (vAt e 16)) (gI (vAt e 108)) (gX L (vAt e 7) 0) (gRI L (vAt e 8))) rfl (by intro x; rfl) h
theorem impl_MirrorRank_l8_be (v659 : Int) (v660 : Int) (v661 : List Nat) (v662 : Nat) (v1031 : Int) (v1032 : Int) (v1035 : List Nat) (v1036 : List Int) (s : Int × (List (List Nat))) : bodyT TT (tabD impl_MirrorRank_tab) (tabM impl_MirrorRank_tab) (impl_MirrorRank_LO v659 v660 v661 v662) 0 impl_MirrorRank_l8_kill impl_MirrorRank_l8_nx (bodyOf Try.f39 8) 8 (impl_MirrorRank_l8_E v659 v660 v661 v662 v1031 v1032 v1035 v1036 s) = (impl_MirrorRank_l8_T v660 v1031 v1032 v1035 v1036 s).bind fun y => .leaf (outS (impl_MirrorRank_l8_E v659 v660 v661 v662 v1031 v1032 v1035 v1036) (impl_MirrorRank_l8_X v659 v660 v661 v662 v1031 v1032 v1035 v1036) y) := by kernel_rfl
theorem impl_MirrorRank_l8_ok (v659 : Int) (v660 : Int) (v661 : List Nat) (v662 : Nat) : LSound Try.prog 0 (impl_MirrorRank_LO v659 v660 v661 v662) 8 (bodyOf Try.f39 8) := by
  intro e L out h
  exact lo_ok (E := impl_MirrorRank_l8_E v659 v660 v661 v662 (gI (vAt e 10)) (gI (vAt e 11)) (gX L (vAt e 7) 0) (gRI L (vAt e 8))) (gT := impl_MirrorRank_l8_T v660 (gI (vAt e 10)) (gI (vAt e 11)) (gX L (vAt e 7) 0) (gRI L (vAt e 8))) (X := impl_MirrorRank_l8_X v659 v660 v661 v662 (gI (vAt e 10)) (gI (vAt e 11)) (gX L (vAt e 7) 0) (gRI L (vAt e 8))) (s0 := ((gI (vAt e 18)), (gPF L (vAt e 7) 0))) tok impl_MirrorRank_hO mixed (LoopsOk_eq (l := []) (by kernel_rfl) trivial) (impl_MirrorRank_l8_be v659 v660 v661 v662 (gI (vAt e 10)) (gI (vAt e 11)) (gX L (vAt e 7) 0) (gRI L (vAt e 8))) rfl (by intro x; rfl) h
theorem impl_MirrorRank_l2_be (v659 : Int) (v660 : Int) (v661 : List Nat) (v662 : Nat) (s : Int × Int × (List (List Nat)) × (List Nat) × (List Int)) : bodyT TT (tabD impl_MirrorRank_tab) (tabM impl_MirrorRank_tab) (impl_MirrorRank_LO v659 v660 v661 v662) 0 impl_MirrorRank_l2_kill impl_MirrorRank_l2_nx (bodyOf Try.f39 2) 2 (impl_MirrorRank_l2_E v659 v660 v661 v662 s) = (impl_MirrorRank_l2_T v659 v660 v661 v662 s).bind fun y => .leaf (outS (impl_MirrorRank_l2_E v659 v660 v661 v662) (impl_MirrorRank_l2_X v659 v660 v661 v662) y) := by kernel_rfl
theorem impl_MirrorRank_l2_ok (v659 : Int) (v660 : Int) (v661 : List Nat) (v662 : Nat) : LSound Try.prog 0 (impl_MirrorRank_LO v659 v660 v661 v662) 2 (bodyOf Try.f39 2) := by
  intro e L out h
  exact lo_ok (E := impl_MirrorRank_l2_E v659 v660 v661 v662) (gT := impl_MirrorRank_l2_T v659 v660 v661 v662) (X := impl_MirrorRank_l2_X v659 v660 v661 v662) (s0 := ((gI (vAt e 10)), (gI (vAt e 49)), (gPF L (vAt e 7) 0), (gX L (vAt e 7) 0), (gRI L (vAt e 8)))) tok impl_MirrorRank_hO mixed (LoopsOk_eq (l := [(4, bodyOf Try.f39 4), (6, bodyOf Try.f39 6), (8, bodyOf Try.f39 8)]) (by kernel_rfl) ⟨impl_MirrorRank_l4_ok v659 v660 v661 v662, impl_MirrorRank_l6_ok v659 v660 v661 v662, impl_MirrorRank_l8_ok v659 v660 v661 v662, trivial⟩) (impl_MirrorRank_l2_be v659 v660 v661 v662) rfl (by intro x; (cases x with | inl b => rfl | inr x => exact rfl)) h
noncomputable def impl_MirrorRank_T (v659 : Int) (v660 : Int) (v661 : List Nat) (v662 : Nat) : Tree ((Unit) ⊕ (Int × (List Int))) :=
  (.call (impl_ValidMatrix_g v659 v660 v661) fun v689 =>
  (.br (!v689) (
   .leaf (.inl ())
  ) (
   (.br (!(impl_IsFinite_v v662)) (
    .leaf (.inl ())
   ) (
    (.br (fless .f32 v662 (0 : Nat)) (
     .leaf (.inl ())
    ) (
     (.call (impl_ascending_g v660) fun v697 =>
     (.need (some (impl_MirrorRank_l0_E v659 v660 v661 v662 v697 ((0 : Int), ([] : List (List Nat)), ([] : List Nat))) = some (impl_MirrorRank_l0_E v659 v660 v661 v662 v697 ((0 : Int), ([] : List (List Nat)), ([] : List Nat)))) <|
     (.call (impl_MirrorRank_l0_g v659 v660 v661 v697 ((0 : Int), ([] : List (List Nat)), ([] : List Nat))) fun v729 =>
     (.need (some (impl_MirrorRank_l2_E v659 v660 v661 v662 ((0 : Int), (0 : Int), v729.1, v729.2, v697)) = some (impl_MirrorRank_l2_E v659 v660 v661 v662 ((0 : Int), (0 : Int), v729.1, v729.2, v697))) <|
     (.call (impl_MirrorRank_l2_g v659 v660 v661 v662 ((0 : Int), (0 : Int), v729.1, v729.2, v697)) fun v1040 =>
     (.sum v1040 (fun v1041 =>
      .leaf (.inl ())
     ) (fun v1042 =>
      .leaf (.inr (v1042.1, v1042.2))
     )))))))
    ))
   ))
  )))

noncomputable def impl_MirrorRank_g (v659 : Int) (v660 : Int) (v661 : List Nat) (v662 : Nat) : Option ((Unit) ⊕ (Int × (List Int))) := (impl_MirrorRank_T v659 v660 v661 v662).run
def impl_MirrorRank_enc (v659 : Int) (v660 : Int) (v661 : List Nat) (v662 : Nat) (y : (Unit) ⊕ (Int × (List Int))) : Rs := (match y with | .inl y => (.tup [.nilslc, .int .i64 (0 : Int), .lit false], []) | .inr y => (.tup [.own 0 0 ((y.2).length), .int .i64 y.1, .lit true], [.row (.i64 y.2) 0]))
theorem impl_MirrorRank_den (v659 : Int) (v660 : Int) (v661 : List Nat) (v662 : Nat) : (den TT (tabD impl_MirrorRank_tab) (tabM impl_MirrorRank_tab) (impl_MirrorRank_LO v659 v660 v661 v662) (codeOf Try.f39) ([.agg [.int .i64 v659, .int .i64 v660, .bslc (BR.root 0) (.f32 v661)], .flt .f32 v662] ++ List.replicate (Try.f39.ntmps - ([.agg [.int .i64 v659, .int .i64 v660, .bslc (BR.root 0) (.f32 v661)], .flt .f32 v662] : List DV).length) .undef) []).bind (retD TT Try.f39.results.toList 0) = (impl_MirrorRank_T v659 v660 v661 v662).bind fun y => .leaf (impl_MirrorRank_enc v659 v660 v661 v662 y) := by kernel_rfl
theorem impl_MirrorRank_fn (v659 : Int) (v660 : Int) (v661 : List Nat) (v662 : Nat) (F : Fr) (h0 : St F [] F.H0) (hA : DVs.Ok F [] [.agg [.int .i64 v659, .int .i64 v660, .bslc (BR.root 0) (.f32 v661)], .flt .f32 v662]) {y : (Unit) ⊕ (Int × (List Int))} (hy : impl_MirrorRank_g v659 v660 v661 v662 = some y) : ∃ F' H', Fwd 0 F F' [] (impl_MirrorRank_enc v659 v660 v661 v662 y).2 ∧ FnOk Try.prog 39 (DVs.av F [.agg [.int .i64 v659, .int .i64 v660, .bslc (BR.root 0) (.f32 v661)], .flt .f32 v662]) F.H0 ((impl_MirrorRank_enc v659 v660 v661 v662 y).1.av F') H' ∧ St F' (impl_MirrorRank_enc v659 v660 v661 v662 y).2 H' ∧ (impl_MirrorRank_enc v659 v660 v661 v662 y).1.Ok F' (impl_MirrorRank_enc v659 v660 v661 v662 y).2 :=
  fn_fin tok impl_MirrorRank_hO mixed Try.func39 Try.call39 (by kernel_rfl) (LoopsOk_eq (l := [(0, bodyOf Try.f39 0), (2, bodyOf Try.f39 2)]) (by kernel_rfl) ⟨impl_MirrorRank_l0_ok v659 v660 v661 v662, impl_MirrorRank_l2_ok v659 v660 v661 v662, trivial⟩) (impl_MirrorRank_den v659 v660 v661 v662) hy h0 hA
noncomputable def impl_MirrorRank_F : DFn := fun args L =>
  match args with
  | [.agg [.int .i64 v659, .int .i64 v660, a1], .flt .f32 v662] =>
    optT (rowF32 L a1) fun v661 =>
    .call (impl_MirrorRank_g v659 v660 v661 v662) fun y => .sum y (fun y0 => .leaf (.tup [.nilslc, .int .i64 (0 : Int), .lit false], L)) (fun z0 => .leaf (.tup [.own (L.length + 0) 0 ((z0.2).length), .int .i64 z0.1, .lit true], L ++ [.row (.i64 z0.2) 0]))
  | _ => .fail
theorem impl_MirrorRank_Fok : COk Try.prog 39 impl_MirrorRank_F true := by
  intro F L H args r L' hs ha hr
  unfold impl_MirrorRank_F at hr
  split at hr
  · rename_i v659 v660 a1 v662
    obtain ⟨v661, hv661, hr⟩ := optT_run hr
    simp only [Tree.run] at hr
    obtain ⟨y, hy, hr⟩ := Option.bind_eq_some_iff.1 hr
    cases y with
    | inl y =>
      simp only [Tree.run, Option.some.injEq, Prod.mk.injEq] at hr
      obtain ⟨rfl, rfl⟩ := hr
      exact call_ok0 hs (fun k => (([a1.av F] : List AV)[k]?).getD .top) [.agg [.int .i64 v659, .int .i64 v660, a1], .flt .f32 v662] [.agg [.int .i64 v659, .int .i64 v660, .bslc (BR.root 0) (.f32 v661)], .flt .f32 v662] (fun F' h0 hi hρ => ⟨by simp [DVs.av, DV.av, BR.av, hρ], impl_MirrorRank_fn v659 v660 v661 v662 F' (st_nil hi) ⟨⟨trivial, trivial, bslc_ok hi (by rw [h0, hρ]; exact rowF32_ok hs (DVs.okAt (DVs.okAt ha 0 rfl) 2 rfl) hv661), trivial⟩, trivial, trivial⟩ hy⟩) rfl
    | inr y =>
      simp only [Tree.run, Option.some.injEq, Prod.mk.injEq] at hr
      obtain ⟨rfl, rfl⟩ := hr
      exact call_ok1 hs (fun k => (([a1.av F] : List AV)[k]?).getD .top) [.agg [.int .i64 v659, .int .i64 v660, a1], .flt .f32 v662] [.agg [.int .i64 v659, .int .i64 v660, .bslc (BR.root 0) (.f32 v661)], .flt .f32 v662] (fun F' h0 hi hρ => ⟨by simp [DVs.av, DV.av, BR.av, hρ], impl_MirrorRank_fn v659 v660 v661 v662 F' (st_nil hi) ⟨⟨trivial, trivial, bslc_ok hi (by rw [h0, hρ]; exact rowF32_ok hs (DVs.okAt (DVs.okAt ha 0 rfl) 2 rfl) hv661), trivial⟩, trivial, trivial⟩ hy⟩) rfl rfl
  · cases hr
/-! laws.eqInt64S -/
noncomputable def laws_eqInt64S_l0_T (v1046 : List Int) (v1047 : List Int) (s : Int) : Tree ((Int) ⊕ ((Unit) ⊕ (Unit))) :=
  (.br (decide (s < ((v1046.length : Nat) : Int))) (
   (.grd (inb s v1046.length) <|
   (.grd (inb s v1047.length) <|
   (.br (!decide (nth v1046 (Int.toNat s) = nth v1047 (Int.toNat s))) (
    .leaf (.inr (.inl ()))
   ) (
    .leaf (.inl (IntKind.i64.wrap (s + (1 : Int))))
   ))))
  ) (
   .leaf (.inr (.inr ()))
  ))

noncomputable def laws_eqInt64S_l0_g (v1046 : List Int) (v1047 : List Int) (s0 : Int) : Option ((Unit) ⊕ (Unit)) := whileM (fun s => (laws_eqInt64S_l0_T v1046 v1047 s).run) s0
def laws_eqInt64S_l0_E (v1046 : List Int) (v1047 : List Int) (s : Int) : Sd := ([.bslc (BR.root 0) (.i64 v1046),.bslc (BR.root 1) (.i64 v1047),tp,tp,tp,.int .i64 s,tp,tp,tp,tp,tp,tp,tp,tp,tp,tp,tp,tp,tp,tp,tp,tp,tp,tp,tp,tp], [])
def laws_eqInt64S_l0_X (v1046 : List Int) (v1047 : List Int) (x : (Unit) ⊕ (Unit)) : Out := (match x with | .inl x => (.ret, [tp,tp,tp,tp,.lit false,tp,tp,tp,tp,tp,tp,tp,tp,tp,tp,tp,tp,tp,tp,tp,tp,tp,tp,tp,tp,tp], []) | .inr x => (.normal, [tp,tp,tp,tp,tp,tp,tp,tp,tp,tp,tp,tp,tp,tp,tp,tp,tp,tp,tp,tp,tp,tp,tp,tp,tp,tp], []))
def laws_eqInt64S_l0_kill : List Nat := KL true [0,2,3,1,20]
def laws_eqInt64S_l0_nx : Exit → List Nat
  | .exit 0 => KL true [26]
  | .ret => KL true [4,1,21]
  | _ => []
noncomputable def laws_eqInt64S_LO (v1046 : List Int) (v1047 : List Int) : LOr := fun id e L =>
  match id with
  | 0 => .need (normA 0 laws_eqInt64S_l0_kill e L = some (laws_eqInt64S_l0_E v1046 v1047 (gI (vAt e 5)))) (.call (laws_eqInt64S_l0_g v1046 v1047 (gI (vAt e 5))) fun x => .sum x (fun b0 => .leaf (laws_eqInt64S_l0_X v1046 v1047 (.inl b0))) (fun c0 => .leaf (laws_eqInt64S_l0_X v1046 v1047 (.inr c0))))
  | _ => .fail
noncomputable def laws_eqInt64S_tab : List (FuncId × DFn × Bool) := []
theorem laws_eqInt64S_hO : OrcOk Try.prog (tabD laws_eqInt64S_tab) (tabM laws_eqInt64S_tab) := tabD_nil _
theorem laws_eqInt64S_l0_be (v1046 : List Int) (v1047 : List Int) (s : Int) : bodyT TT (tabD laws_eqInt64S_tab) (tabM laws_eqInt64S_tab) (laws_eqInt64S_LO v1046 v1047) 0 laws_eqInt64S_l0_kill laws_eqInt64S_l0_nx (bodyOf Try.f22 0) 0 (laws_eqInt64S_l0_E v1046 v1047 s) = (laws_eqInt64S_l0_T v1046 v1047 s).bind fun y => .leaf (outS (laws_eqInt64S_l0_E v1046 v1047) (laws_eqInt64S_l0_X v1046 v1047) y) := by kernel_rfl
theorem laws_eqInt64S_l0_ok (v1046 : List Int) (v1047 : List Int) : LSound Try.prog 0 (laws_eqInt64S_LO v1046 v1047) 0 (bodyOf Try.f22 0) := by
  intro e L out h
  exact lo_ok (E := laws_eqInt64S_l0_E v1046 v1047) (gT := laws_eqInt64S_l0_T v1046 v1047) (X := laws_eqInt64S_l0_X v1046 v1047) (s0 := (gI (vAt e 5))) tok laws_eqInt64S_hO mixed (LoopsOk_eq (l := []) (by kernel_rfl) trivial) (laws_eqInt64S_l0_be v1046 v1047) rfl (by intro x; (cases x with | inl b => rfl | inr x => exact rfl)) h
noncomputable def laws_eqInt64S_T (v1046 : List Int) (v1047 : List Int) : Tree (Bool) :=
  (.br (!decide (((v1046.length : Nat) : Int) = ((v1047.length : Nat) : Int))) (
   .leaf false
  ) (
   (.need (some (laws_eqInt64S_l0_E v1046 v1047 (0 : Int)) = some (laws_eqInt64S_l0_E v1046 v1047 (0 : Int))) <|
   (.call (laws_eqInt64S_l0_g v1046 v1047 (0 : Int)) fun v1051 =>
   (.sum v1051 (fun v1052 =>
    .leaf false
   ) (fun v1053 =>
    .leaf true
   ))))
  ))

noncomputable def laws_eqInt64S_g (v1046 : List Int) (v1047 : List Int) : Option (Bool) := (laws_eqInt64S_T v1046 v1047).run
def laws_eqInt64S_enc (v1046 : List Int) (v1047 : List Int) (y : Bool) : Rs := (.bool y, [])
theorem laws_eqInt64S_den (v1046 : List Int) (v1047 : List Int) : (den TT (tabD laws_eqInt64S_tab) (tabM laws_eqInt64S_tab) (laws_eqInt64S_LO v1046 v1047) (codeOf Try.f22) ([.bslc (BR.root 0) (.i64 v1046), .bslc (BR.root 1) (.i64 v1047)] ++ List.replicate (Try.f22.ntmps - ([.bslc (BR.root 0) (.i64 v1046), .bslc (BR.root 1) (.i64 v1047)] : List DV).length) .undef) []).bind (retD TT Try.f22.results.toList 0) = (laws_eqInt64S_T v1046 v1047).bind fun y => .leaf (laws_eqInt64S_enc v1046 v1047 y) := by kernel_rfl
theorem laws_eqInt64S_fn (v1046 : List Int) (v1047 : List Int) (F : Fr) (h0 : St F [] F.H0) (hA : DVs.Ok F [] [.bslc (BR.root 0) (.i64 v1046), .bslc (BR.root 1) (.i64 v1047)]) {y : Bool} (hy : laws_eqInt64S_g v1046 v1047 = some y) : ∃ F' H', Fwd 0 F F' [] (laws_eqInt64S_enc v1046 v1047 y).2 ∧ FnOk Try.prog 22 (DVs.av F [.bslc (BR.root 0) (.i64 v1046), .bslc (BR.root 1) (.i64 v1047)]) F.H0 ((laws_eqInt64S_enc v1046 v1047 y).1.av F') H' ∧ St F' (laws_eqInt64S_enc v1046 v1047 y).2 H' ∧ (laws_eqInt64S_enc v1046 v1047 y).1.Ok F' (laws_eqInt64S_enc v1046 v1047 y).2 :=
  fn_fin tok laws_eqInt64S_hO mixed Try.func22 Try.call22 (by kernel_rfl) (LoopsOk_eq (l := [(0, bodyOf Try.f22 0)]) (by kernel_rfl) ⟨laws_eqInt64S_l0_ok v1046 v1047, trivial⟩) (laws_eqInt64S_den v1046 v1047) hy h0 hA
noncomputable def laws_eqInt64S_F : DFn := fun args L =>
  match args with
  | [a1, a2] =>
    optT (rowI64 L a1) fun v1046 =>
    optT (rowI64 L a2) fun v1047 =>
    .call (laws_eqInt64S_g v1046 v1047) fun y => .leaf (.bool y, L)
  | _ => .fail
theorem laws_eqInt64S_Fok : COk Try.prog 22 laws_eqInt64S_F true := by
  intro F L H args r L' hs ha hr
  unfold laws_eqInt64S_F at hr
  split at hr
  · rename_i a1 a2
    obtain ⟨v1046, hv1046, hr⟩ := optT_run hr
    obtain ⟨v1047, hv1047, hr⟩ := optT_run hr
    simp only [Tree.run] at hr
    obtain ⟨y, hy, hr⟩ := Option.bind_eq_some_iff.1 hr
    simp only [Tree.run, Option.some.injEq, Prod.mk.injEq] at hr
    obtain ⟨rfl, rfl⟩ := hr
    exact call_ok0 hs (fun k => (([a1.av F, a2.av F] : List AV)[k]?).getD .top) [a1, a2] [.bslc (BR.root 0) (.i64 v1046), .bslc (BR.root 1) (.i64 v1047)] (fun F' h0 hi hρ => ⟨by simp [DVs.av, DV.av, BR.av, hρ], laws_eqInt64S_fn v1046 v1047 F' (st_nil hi) ⟨bslc_ok hi (by rw [h0, hρ]; exact rowI64_ok hs (DVs.okAt ha 0 rfl) hv1046), bslc_ok hi (by rw [h0, hρ]; exact rowI64_ok hs (DVs.okAt ha 1 rfl) hv1047), trivial⟩ hy⟩) rfl
  · cases hr
/-! laws.sameFloat -/
noncomputable def laws_sameFloat_LO (v1065 : Nat) (v1066 : Nat) : LOr := fun id e L =>
  match id with
  | _ => .fail
noncomputable def laws_sameFloat_tab : List (FuncId × DFn × Bool) := []
theorem laws_sameFloat_hO : OrcOk Try.prog (tabD laws_sameFloat_tab) (tabM laws_sameFloat_tab) := tabD_nil _
noncomputable def laws_sameFloat_T (v1065 : Nat) (v1066 : Nat) : Tree (Bool) :=
  (.br (!feq .f64 v1065 v1065) (
   (.br (!feq .f64 v1065 v1065) (
    .leaf (!feq .f64 v1066 v1066)
   ) (
    .leaf false
   ))
  ) (
   (.br (!feq .f64 v1066 v1066) (
    (.br (!feq .f64 v1065 v1065) (
     .leaf (!feq .f64 v1066 v1066)
    ) (
     .leaf false
    ))
   ) (
    (.br (feq .f64 v1065 (0 : Nat)) (
     (.br (feq .f64 v1066 (0 : Nat)) (
      .leaf ((fgrt .f64 (fdiv .f64 (4607182418800017408 : Nat) v1065) (0 : Nat)) == (fgrt .f64 (fdiv .f64 (4607182418800017408 : Nat) v1066) (0 : Nat)))
     ) (
      .leaf (feq .f64 v1065 v1066)
     ))
    ) (
     .leaf (feq .f64 v1065 v1066)
    ))
   ))
  ))

noncomputable def laws_sameFloat_g (v1065 : Nat) (v1066 : Nat) : Option (Bool) := (laws_sameFloat_T v1065 v1066).run
def laws_sameFloat_enc (v1065 : Nat) (v1066 : Nat) (y : Bool) : Rs := (.bool y, [])
theorem laws_sameFloat_den (v1065 : Nat) (v1066 : Nat) : (den TT (tabD laws_sameFloat_tab) (tabM laws_sameFloat_tab) (laws_sameFloat_LO v1065 v1066) (codeOf Try.f119) ([.flt .f64 v1065, .flt .f64 v1066] ++ List.replicate (Try.f119.ntmps - ([.flt .f64 v1065, .flt .f64 v1066] : List DV).length) .undef) []).bind (retD TT Try.f119.results.toList 0) = (laws_sameFloat_T v1065 v1066).bind fun y => .leaf (laws_sameFloat_enc v1065 v1066 y) := by kernel_rfl
theorem laws_sameFloat_fn (v1065 : Nat) (v1066 : Nat) (F : Fr) (h0 : St F [] F.H0) (hA : DVs.Ok F [] [.flt .f64 v1065, .flt .f64 v1066]) {y : Bool} (hy : laws_sameFloat_g v1065 v1066 = some y) : ∃ F' H', Fwd 0 F F' [] (laws_sameFloat_enc v1065 v1066 y).2 ∧ FnOk Try.prog 119 (DVs.av F [.flt .f64 v1065, .flt .f64 v1066]) F.H0 ((laws_sameFloat_enc v1065 v1066 y).1.av F') H' ∧ St F' (laws_sameFloat_enc v1065 v1066 y).2 H' ∧ (laws_sameFloat_enc v1065 v1066 y).1.Ok F' (laws_sameFloat_enc v1065 v1066 y).2 :=
  fn_fin tok laws_sameFloat_hO mixed Try.func119 Try.call119 (by kernel_rfl) (LoopsOk_eq (l := []) (by kernel_rfl) trivial) (laws_sameFloat_den v1065 v1066) hy h0 hA
def laws_sameFloat_v (v1065 : Nat) (v1066 : Nat) : Bool :=
  if (!feq .f64 v1065 v1065) = true then (
   if (!feq .f64 v1065 v1065) = true then (
    !feq .f64 v1066 v1066
   ) else (
    false
   )
  ) else (
   if (!feq .f64 v1066 v1066) = true then (
    if (!feq .f64 v1065 v1065) = true then (
     !feq .f64 v1066 v1066
    ) else (
     false
    )
   ) else (
    if (feq .f64 v1065 (0 : Nat)) = true then (
     if (feq .f64 v1066 (0 : Nat)) = true then (
      (fgrt .f64 (fdiv .f64 (4607182418800017408 : Nat) v1065) (0 : Nat)) == (fgrt .f64 (fdiv .f64 (4607182418800017408 : Nat) v1066) (0 : Nat))
     ) else (
      feq .f64 v1065 v1066
     )
    ) else (
     feq .f64 v1065 v1066
    )
   )
  )
theorem laws_sameFloat_tot (v1065 : Nat) (v1066 : Nat) : laws_sameFloat_g v1065 v1066 = some (laws_sameFloat_v v1065 v1066) := by
  unfold laws_sameFloat_g laws_sameFloat_T laws_sameFloat_v
  simp only [Tree.run]
  repeat' (first | rfl | split)
noncomputable def laws_sameFloat_F : DFn := fun args L =>
  match args with
  | [.flt .f64 v1065, .flt .f64 v1066] =>
    .leaf (.bool (laws_sameFloat_v v1065 v1066), L)
  | _ => .fail
theorem laws_sameFloat_Fok : COk Try.prog 119 laws_sameFloat_F true := by
  intro F L H args r L' hs ha hr
  unfold laws_sameFloat_F at hr
  split at hr
  · rename_i v1065 v1066
    have hy := laws_sameFloat_tot v1065 v1066
    generalize laws_sameFloat_v v1065 v1066 = y at hy hr
    simp only [Tree.run, Option.some.injEq, Prod.mk.injEq] at hr
    obtain ⟨rfl, rfl⟩ := hr
    exact call_ok0 hs (fun k => (([] : List AV)[k]?).getD .top) [.flt .f64 v1065, .flt .f64 v1066] [.flt .f64 v1065, .flt .f64 v1066] (fun F' h0 hi hρ => ⟨by simp [DVs.av, DV.av, BR.av, hρ], laws_sameFloat_fn v1065 v1066 F' (st_nil hi) ⟨trivial, trivial, trivial⟩ hy⟩) rfl
  · cases hr
/-! laws.eqFloat32S -/
noncomputable def laws_eqFloat32S_l0_T (v1062 : List Nat) (v1063 : List Nat) (s : Int) : Tree ((Int) ⊕ ((Unit) ⊕ (Unit))) :=
  (.br (decide (s < ((v1062.length : Nat) : Int))) (
   (.grd (inb s v1062.length) <|
   (.grd (inb s v1063.length) <|
   (.br (!(laws_sameFloat_v (wid (nth v1062 (Int.toNat s))) (wid (nth v1063 (Int.toNat s))))) (
    .leaf (.inr (.inl ()))
   ) (
    .leaf (.inl (IntKind.i64.wrap (s + (1 : Int))))
   ))))
  ) (
   .leaf (.inr (.inr ()))
  ))

noncomputable def laws_eqFloat32S_l0_g (v1062 : List Nat) (v1063 : List Nat) (s0 : Int) : Option ((Unit) ⊕ (Unit)) := whileM (fun s => (laws_eqFloat32S_l0_T v1062 v1063 s).run) s0
def laws_eqFloat32S_l0_E (v1062 : List Nat) (v1063 : List Nat) (s : Int) : Sd := ([.bslc (BR.root 0) (.f32 v1062),.bslc (BR.root 1) (.f32 v1063),tp,tp,tp,.int .i64 s,tp,tp,tp,tp,tp,tp,tp,tp,tp,tp,tp,tp,tp,tp,tp,tp,tp,tp,tp,tp,tp,tp,tp], [])
def laws_eqFloat32S_l0_X (v1062 : List Nat) (v1063 : List Nat) (x : (Unit) ⊕ (Unit)) : Out := (match x with | .inl x => (.ret, [tp,tp,tp,tp,.lit false,tp,tp,tp,tp,tp,tp,tp,tp,tp,tp,tp,tp,tp,tp,tp,tp,tp,tp,tp,tp,tp,tp,tp,tp], []) | .inr x => (.normal, [tp,tp,tp,tp,tp,tp,tp,tp,tp,tp,tp,tp,tp,tp,tp,tp,tp,tp,tp,tp,tp,tp,tp,tp,tp,tp,tp,tp,tp], []))
def laws_eqFloat32S_l0_kill : List Nat := KL true [0,2,3,1,23]
def laws_eqFloat32S_l0_nx : Exit → List Nat
  | .exit 0 => KL true [29]
  | .ret => KL true [4,1,24]
  | _ => []
noncomputable def laws_eqFloat32S_LO (v1062 : List Nat) (v1063 : List Nat) : LOr := fun id e L =>
  match id with
  | 0 => .need (normA 0 laws_eqFloat32S_l0_kill e L = some (laws_eqFloat32S_l0_E v1062 v1063 (gI (vAt e 5)))) (.call (laws_eqFloat32S_l0_g v1062 v1063 (gI (vAt e 5))) fun x => .sum x (fun b0 => .leaf (laws_eqFloat32S_l0_X v1062 v1063 (.inl b0))) (fun c0 => .leaf (laws_eqFloat32S_l0_X v1062 v1063 (.inr c0))))
  | _ => .fail
noncomputable def laws_eqFloat32S_tab : List (FuncId × DFn × Bool) := [(119, laws_sameFloat_F, true)]
theorem laws_eqFloat32S_hO : OrcOk Try.prog (tabD laws_eqFloat32S_tab) (tabM laws_eqFloat32S_tab) := tabD_cons laws_sameFloat_Fok (tabD_nil _)
theorem laws_eqFloat32S_l0_be (v1062 : List Nat) (v1063 : List Nat) (s : Int) : bodyT TT (tabD laws_eqFloat32S_tab) (tabM laws_eqFloat32S_tab) (laws_eqFloat32S_LO v1062 v1063) 0 laws_eqFloat32S_l0_kill laws_eqFloat32S_l0_nx (bodyOf Try.f49 0) 0 (laws_eqFloat32S_l0_E v1062 v1063 s) = (laws_eqFloat32S_l0_T v1062 v1063 s).bind fun y => .leaf (outS (laws_eqFloat32S_l0_E v1062 v1063) (laws_eqFloat32S_l0_X v1062 v1063) y) := by kernel_rfl
theorem laws_eqFloat32S_l0_ok (v1062 : List Nat) (v1063 : List Nat) : LSound Try.prog 0 (laws_eqFloat32S_LO v1062 v1063) 0 (bodyOf Try.f49 0) := by
  intro e L out h
  exact lo_ok (E := laws_eqFloat32S_l0_E v1062 v1063) (gT := laws_eqFloat32S_l0_T v1062 v1063) (X := laws_eqFloat32S_l0_X v1062 v1063) (s0 := (gI (vAt e 5))) tok laws_eqFloat32S_hO mixed (LoopsOk_eq (l := []) (by kernel_rfl) trivial) (laws_eqFloat32S_l0_be v1062 v1063) rfl (by intro x; (cases x with | inl b => rfl | inr x => exact rfl)) h
noncomputable def laws_eqFloat32S_T (v1062 : List Nat) (v1063 : List Nat) : Tree (Bool) :=
  (.br (!decide (((v1062.length : Nat) : Int) = ((v1063.length : Nat) : Int))) (
   .leaf false
  ) (
   (.need (some (laws_eqFloat32S_l0_E v1062 v1063 (0 : Int)) = some (laws_eqFloat32S_l0_E v1062 v1063 (0 : Int))) <|
   (.call (laws_eqFloat32S_l0_g v1062 v1063 (0 : Int)) fun v1069 =>
   (.sum v1069 (fun v1070 =>
    .leaf false
   ) (fun v1071 =>
    .leaf true
   ))))
  ))

noncomputable def laws_eqFloat32S_g (v1062 : List Nat) (v1063 : List Nat) : Option (Bool) := (laws_eqFloat32S_T v1062 v1063).run
def laws_eqFloat32S_enc (v1062 : List Nat) (v1063 : List Nat) (y : Bool) : Rs := (.bool y, [])
theorem laws_eqFloat32S_den (v1062 : List Nat) (v1063 : List Nat) : (den TT (tabD laws_eqFloat32S_tab) (tabM laws_eqFloat32S_tab) (laws_eqFloat32S_LO v1062 v1063) (codeOf Try.f49) ([.bslc (BR.root 0) (.f32 v1062), .bslc (BR.root 1) (.f32 v1063)] ++ List.replicate (Try.f49.ntmps - ([.bslc (BR.root 0) (.f32 v1062), .bslc (BR.root 1) (.f32 v1063)] : List DV).length) .undef) []).bind (retD TT Try.f49.results.toList 0) = (laws_eqFloat32S_T v1062 v1063).bind fun y => .leaf (laws_eqFloat32S_enc v1062 v1063 y) := by kernel_rfl
theorem laws_eqFloat32S_fn (v1062 : List Nat) (v1063 : List Nat) (F : Fr) (h0 : St F [] F.H0) (hA : DVs.Ok F [] [.bslc (BR.root 0) (.f32 v1062), .bslc (BR.root 1) (.f32 v1063)]) {y : Bool} (hy : laws_eqFloat32S_g v1062 v1063 = some y) : ∃ F' H', Fwd 0 F F' [] (laws_eqFloat32S_enc v1062 v1063 y).2 ∧ FnOk Try.prog 49 (DVs.av F [.bslc (BR.root 0) (.f32 v1062), .bslc (BR.root 1) (.f32 v1063)]) F.H0 ((laws_eqFloat32S_enc v1062 v1063 y).1.av F') H' ∧ St F' (laws_eqFloat32S_enc v1062 v1063 y).2 H' ∧ (laws_eqFloat32S_enc v1062 v1063 y).1.Ok F' (laws_eqFloat32S_enc v1062 v1063 y).2 :=
  fn_fin tok laws_eqFloat32S_hO mixed Try.func49 Try.call49 (by kernel_rfl) (LoopsOk_eq (l := [(0, bodyOf Try.f49 0)]) (by kernel_rfl) ⟨laws_eqFloat32S_l0_ok v1062 v1063, trivial⟩) (laws_eqFloat32S_den v1062 v1063) hy h0 hA
noncomputable def laws_eqFloat32S_F : DFn := fun args L =>
  match args with
  | [a1, a2] =>
    optT (rowF32 L a1) fun v1062 =>
    optT (rowF32 L a2) fun v1063 =>
    .call (laws_eqFloat32S_g v1062 v1063) fun y => .leaf (.bool y, L)
  | _ => .fail
theorem laws_eqFloat32S_Fok : COk Try.prog 49 laws_eqFloat32S_F true := by
  intro F L H args r L' hs ha hr
  unfold laws_eqFloat32S_F at hr
  split at hr
  · rename_i a1 a2
    obtain ⟨v1062, hv1062, hr⟩ := optT_run hr
    obtain ⟨v1063, hv1063, hr⟩ := optT_run hr
    simp only [Tree.run] at hr
    obtain ⟨y, hy, hr⟩ := Option.bind_eq_some_iff.1 hr
    simp only [Tree.run, Option.some.injEq, Prod.mk.injEq] at hr
    obtain ⟨rfl, rfl⟩ := hr
    exact call_ok0 hs (fun k => (([a1.av F, a2.av F] : List AV)[k]?).getD .top) [a1, a2] [.bslc (BR.root 0) (.f32 v1062), .bslc (BR.root 1) (.f32 v1063)] (fun F' h0 hi hρ => ⟨by simp [DVs.av, DV.av, BR.av, hρ], laws_eqFloat32S_fn v1062 v1063 F' (st_nil hi) ⟨bslc_ok hi (by rw [h0, hρ]; exact rowF32_ok hs (DVs.okAt ha 0 rfl) hv1062), bslc_ok hi (by rw [h0, hρ]; exact rowF32_ok hs (DVs.okAt ha 1 rfl) hv1063), trivial⟩ hy⟩) rfl
  · cases hr
/-! laws.eqMatrix -/
noncomputable def laws_eqMatrix_LO (v1056 : Int) (v1057 : Int) (v1058 : List Nat) (v1059 : Int) (v1060 : Int) (v1061 : List Nat) : LOr := fun id e L =>
  match id with
  | _ => .fail
noncomputable def laws_eqMatrix_tab : List (FuncId × DFn × Bool) := [(49, laws_eqFloat32S_F, true)]
theorem laws_eqMatrix_hO : OrcOk Try.prog (tabD laws_eqMatrix_tab) (tabM laws_eqMatrix_tab) := tabD_cons laws_eqFloat32S_Fok (tabD_nil _)
noncomputable def laws_eqMatrix_T (v1056 : Int) (v1057 : Int) (v1058 : List Nat) (v1059 : Int) (v1060 : Int) (v1061 : List Nat) : Tree (Bool) :=
  (.br (!decide (v1056 = v1059)) (
   .leaf false
  ) (
   (.br (!decide (v1057 = v1060)) (
    .leaf false
   ) (
    (.call (laws_eqFloat32S_g v1058 v1061) fun v1072 =>
    (.br (!v1072) (
     .leaf false
    ) (
     .leaf true
    )))
   ))
  ))

noncomputable def laws_eqMatrix_g (v1056 : Int) (v1057 : Int) (v1058 : List Nat) (v1059 : Int) (v1060 : Int) (v1061 : List Nat) : Option (Bool) := (laws_eqMatrix_T v1056 v1057 v1058 v1059 v1060 v1061).run
def laws_eqMatrix_enc (v1056 : Int) (v1057 : Int) (v1058 : List Nat) (v1059 : Int) (v1060 : Int) (v1061 : List Nat) (y : Bool) : Rs := (.bool y, [])
theorem laws_eqMatrix_den (v1056 : Int) (v1057 : Int) (v1058 : List Nat) (v1059 : Int) (v1060 : Int) (v1061 : List Nat) : (den TT (tabD laws_eqMatrix_tab) (tabM laws_eqMatrix_tab) (laws_eqMatrix_LO v1056 v1057 v1058 v1059 v1060 v1061) (codeOf Try.f40) ([.agg [.int .i64 v1056, .int .i64 v1057, .bslc (BR.root 0) (.f32 v1058)], .agg [.int .i64 v1059, .int .i64 v1060, .bslc (BR.root 1) (.f32 v1061)]] ++ List.replicate (Try.f40.ntmps - ([.agg [.int .i64 v1056, .int .i64 v1057, .bslc (BR.root 0) (.f32 v1058)], .agg [.int .i64 v1059, .int .i64 v1060, .bslc (BR.root 1) (.f32 v1061)]] : List DV).length) .undef) []).bind (retD TT Try.f40.results.toList 0) = (laws_eqMatrix_T v1056 v1057 v1058 v1059 v1060 v1061).bind fun y => .leaf (laws_eqMatrix_enc v1056 v1057 v1058 v1059 v1060 v1061 y) := by kernel_rfl
theorem laws_eqMatrix_fn (v1056 : Int) (v1057 : Int) (v1058 : List Nat) (v1059 : Int) (v1060 : Int) (v1061 : List Nat) (F : Fr) (h0 : St F [] F.H0) (hA : DVs.Ok F [] [.agg [.int .i64 v1056, .int .i64 v1057, .bslc (BR.root 0) (.f32 v1058)], .agg [.int .i64 v1059, .int .i64 v1060, .bslc (BR.root 1) (.f32 v1061)]]) {y : Bool} (hy : laws_eqMatrix_g v1056 v1057 v1058 v1059 v1060 v1061 = some y) : ∃ F' H', Fwd 0 F F' [] (laws_eqMatrix_enc v1056 v1057 v1058 v1059 v1060 v1061 y).2 ∧ FnOk Try.prog 40 (DVs.av F [.agg [.int .i64 v1056, .int .i64 v1057, .bslc (BR.root 0) (.f32 v1058)], .agg [.int .i64 v1059, .int .i64 v1060, .bslc (BR.root 1) (.f32 v1061)]]) F.H0 ((laws_eqMatrix_enc v1056 v1057 v1058 v1059 v1060 v1061 y).1.av F') H' ∧ St F' (laws_eqMatrix_enc v1056 v1057 v1058 v1059 v1060 v1061 y).2 H' ∧ (laws_eqMatrix_enc v1056 v1057 v1058 v1059 v1060 v1061 y).1.Ok F' (laws_eqMatrix_enc v1056 v1057 v1058 v1059 v1060 v1061 y).2 :=
  fn_fin tok laws_eqMatrix_hO mixed Try.func40 Try.call40 (by kernel_rfl) (LoopsOk_eq (l := []) (by kernel_rfl) trivial) (laws_eqMatrix_den v1056 v1057 v1058 v1059 v1060 v1061) hy h0 hA
noncomputable def laws_eqMatrix_F : DFn := fun args L =>
  match args with
  | [.agg [.int .i64 v1056, .int .i64 v1057, a1], .agg [.int .i64 v1059, .int .i64 v1060, a2]] =>
    optT (rowF32 L a1) fun v1058 =>
    optT (rowF32 L a2) fun v1061 =>
    .call (laws_eqMatrix_g v1056 v1057 v1058 v1059 v1060 v1061) fun y => .leaf (.bool y, L)
  | _ => .fail
theorem laws_eqMatrix_Fok : COk Try.prog 40 laws_eqMatrix_F true := by
  intro F L H args r L' hs ha hr
  unfold laws_eqMatrix_F at hr
  split at hr
  · rename_i v1056 v1057 a1 v1059 v1060 a2
    obtain ⟨v1058, hv1058, hr⟩ := optT_run hr
    obtain ⟨v1061, hv1061, hr⟩ := optT_run hr
    simp only [Tree.run] at hr
    obtain ⟨y, hy, hr⟩ := Option.bind_eq_some_iff.1 hr
    simp only [Tree.run, Option.some.injEq, Prod.mk.injEq] at hr
    obtain ⟨rfl, rfl⟩ := hr
    exact call_ok0 hs (fun k => (([a1.av F, a2.av F] : List AV)[k]?).getD .top) [.agg [.int .i64 v1056, .int .i64 v1057, a1], .agg [.int .i64 v1059, .int .i64 v1060, a2]] [.agg [.int .i64 v1056, .int .i64 v1057, .bslc (BR.root 0) (.f32 v1058)], .agg [.int .i64 v1059, .int .i64 v1060, .bslc (BR.root 1) (.f32 v1061)]] (fun F' h0 hi hρ => ⟨by simp [DVs.av, DV.av, BR.av, hρ], laws_eqMatrix_fn v1056 v1057 v1058 v1059 v1060 v1061 F' (st_nil hi) ⟨⟨trivial, trivial, bslc_ok hi (by rw [h0, hρ]; exact rowF32_ok hs (DVs.okAt (DVs.okAt ha 0 rfl) 2 rfl) hv1058), trivial⟩, ⟨trivial, trivial, bslc_ok hi (by rw [h0, hρ]; exact rowF32_ok hs (DVs.okAt (DVs.okAt ha 1 rfl) 2 rfl) hv1061), trivial⟩, trivial⟩ hy⟩) rfl
  · cases hr
/-! laws.markFloat32S -/
noncomputable def laws_markFloat32S_l0_T (s : Int × Int × (List Nat)) : Tree ((Int × Int × (List Nat)) ⊕ (Int × (List Nat))) :=
  (.br (decide (s.2.1 < (((s.2.2).length : Nat) : Int))) (
   (.grd (inb s.2.1 ((s.2.2).length)) <|
   .leaf (.inl (IntKind.i64.wrap (s.1 + (1 : Int)), IntKind.i64.wrap (s.2.1 + (1 : Int)), List.set s.2.2 (Int.toNat s.2.1) (fofint .f32 s.1))))
  ) (
   .leaf (.inr (s.1, s.2.2))
  ))

noncomputable def laws_markFloat32S_l0_g (s0 : Int × Int × (List Nat)) : Option (Int × (List Nat)) := whileM (fun s => (laws_markFloat32S_l0_T s).run) s0
def laws_markFloat32S_l0_E (v1082 : List Nat) (v1083 : Int) (s : Int × Int × (List Nat)) : Sd := ([.own 0 0 ((s.2.2).length),.int .i64 s.1,tp,tp,tp,.int .i64 s.2.1,tp,tp,tp,tp,tp,tp,tp,tp,tp,tp,tp,tp,tp,tp], [.row (.f32 s.2.2) 0])
def laws_markFloat32S_l0_X (v1082 : List Nat) (v1083 : Int) (x : Int × (List Nat)) : Out := (.normal, [tp,.int .i64 x.1,tp,tp,tp,tp,tp,tp,tp,tp,tp,tp,tp,tp,tp,tp,tp,tp,tp,tp], [.row (.f32 x.2) 0])
def laws_markFloat32S_l0_kill : List Nat := KL true [0,2,3,1,14]
def laws_markFloat32S_l0_nx : Exit → List Nat
  | .exit 0 => KL true [1,1,18]
  | .ret => KL true [4,1,15]
  | _ => []
noncomputable def laws_markFloat32S_LO (v1082 : List Nat) (v1083 : Int) : LOr := fun id e L =>
  match id with
  | 0 => .need (normA 1 laws_markFloat32S_l0_kill e L = some (laws_markFloat32S_l0_E v1082 v1083 ((gI (vAt e 1)), (gI (vAt e 5)), (gRF L (vAt e 0))))) (.call (laws_markFloat32S_l0_g ((gI (vAt e 1)), (gI (vAt e 5)), (gRF L (vAt e 0)))) fun x => .leaf (laws_markFloat32S_l0_X v1082 v1083 x))
  | _ => .fail
noncomputable def laws_markFloat32S_tab : List (FuncId × DFn × Bool) := []
theorem laws_markFloat32S_hO : OrcOk Try.prog (tabD laws_markFloat32S_tab) (tabM laws_markFloat32S_tab) := tabD_nil _
theorem laws_markFloat32S_l0_be (v1082 : List Nat) (v1083 : Int) (s : Int × Int × (List Nat)) : bodyT TT (tabD laws_markFloat32S_tab) (tabM laws_markFloat32S_tab) (laws_markFloat32S_LO v1082 v1083) 1 laws_markFloat32S_l0_kill laws_markFloat32S_l0_nx (bodyOf Try.f51 0) 0 (laws_markFloat32S_l0_E v1082 v1083 s) = (laws_markFloat32S_l0_T s).bind fun y => .leaf (outS (laws_markFloat32S_l0_E v1082 v1083) (laws_markFloat32S_l0_X v1082 v1083) y) := by kernel_rfl
theorem laws_markFloat32S_l0_ok (v1082 : List Nat) (v1083 : Int) : LSound Try.prog 1 (laws_markFloat32S_LO v1082 v1083) 0 (bodyOf Try.f51 0) := by
  intro e L out h
  exact lo_ok (E := laws_markFloat32S_l0_E v1082 v1083) (gT := laws_markFloat32S_l0_T) (X := laws_markFloat32S_l0_X v1082 v1083) (s0 := ((gI (vAt e 1)), (gI (vAt e 5)), (gRF L (vAt e 0)))) tok laws_markFloat32S_hO mixed (LoopsOk_eq (l := []) (by kernel_rfl) trivial) (laws_markFloat32S_l0_be v1082 v1083) rfl (by intro x; rfl) h
noncomputable def laws_markFloat32S_T (v1082 : List Nat) (v1083 : Int) : Tree (Int × (List Nat)) :=
  (.need (some (laws_markFloat32S_l0_E v1082 v1083 (v1083, (0 : Int), v1082)) = some (laws_markFloat32S_l0_E v1082 v1083 (v1083, (0 : Int), v1082))) <|
  (.call (laws_markFloat32S_l0_g (v1083, (0 : Int), v1082)) fun v1092 =>
  .leaf (v1092.1, v1092.2)))

noncomputable def laws_markFloat32S_g (v1082 : List Nat) (v1083 : Int) : Option (Int × (List Nat)) := (laws_markFloat32S_T v1082 v1083).run
def laws_markFloat32S_enc (v1082 : List Nat) (v1083 : Int) (y : Int × (List Nat)) : Rs := (.int .i64 y.1, [.row (.f32 y.2) 0])
theorem laws_markFloat32S_den (v1082 : List Nat) (v1083 : Int) : (den TT (tabD laws_markFloat32S_tab) (tabM laws_markFloat32S_tab) (laws_markFloat32S_LO v1082 v1083) (codeOf Try.f51) ([.own 0 0 v1082.length, .int .i64 v1083] ++ List.replicate (Try.f51.ntmps - ([.own 0 0 v1082.length, .int .i64 v1083] : List DV).length) .undef) [.row (.f32 v1082) 0]).bind (retD TT Try.f51.results.toList 1) = (laws_markFloat32S_T v1082 v1083).bind fun y => .leaf (laws_markFloat32S_enc v1082 v1083 y) := by kernel_rfl
theorem laws_markFloat32S_fn (v1082 : List Nat) (v1083 : Int) (F : Fr) (h0 : St F [.row (.f32 v1082) 0] F.H0) (hA : DVs.Ok F [.row (.f32 v1082) 0] [.own 0 0 v1082.length, .int .i64 v1083]) {y : Int × (List Nat)} (hy : laws_markFloat32S_g v1082 v1083 = some y) : ∃ F' H', Fwd 1 F F' [.row (.f32 v1082) 0] (laws_markFloat32S_enc v1082 v1083 y).2 ∧ FnOk Try.prog 51 (DVs.av F [.own 0 0 v1082.length, .int .i64 v1083]) F.H0 ((laws_markFloat32S_enc v1082 v1083 y).1.av F') H' ∧ St F' (laws_markFloat32S_enc v1082 v1083 y).2 H' ∧ (laws_markFloat32S_enc v1082 v1083 y).1.Ok F' (laws_markFloat32S_enc v1082 v1083 y).2 :=
  fn_fin tok laws_markFloat32S_hO mixed Try.func51 Try.call51 (by kernel_rfl) (LoopsOk_eq (l := [(0, bodyOf Try.f51 0)]) (by kernel_rfl) ⟨laws_markFloat32S_l0_ok v1082 v1083, trivial⟩) (laws_markFloat32S_den v1082 v1083) hy h0 hA
noncomputable def laws_markFloat32S_F : DFn := fun args L =>
  match args with
  | [a1, .int .i64 v1083] =>
    optT (ownF32 L a1) fun qv1082 =>
    (match sepB [qv1082.1] [] with
    | true =>
    .call (laws_markFloat32S_g qv1082.2 v1083) fun y => .grd (decide (y.2.length = qv1082.2.length)) (.leaf (.int .i64 y.1, setRows L ([qv1082.1].zip [.f32 y.2])))
    | false => .fail)
  | _ => .fail
theorem laws_markFloat32S_Fok : COk Try.prog 51 laws_markFloat32S_F false := by
  intro F L H args r L' hs ha hr
  unfold laws_markFloat32S_F at hr
  split at hr
  · rename_i a1 v1083
    obtain ⟨⟨jv1082, v1082⟩, hqv1082, hr⟩ := optT_run hr
    simp only at hr
    split at hr
    · rename_i hsep
      obtain ⟨hnd, hsepv⟩ := sepB_spec hsep
      simp only [Tree.run] at hr
      obtain ⟨y, hy, hr⟩ := Option.bind_eq_some_iff.1 hr
      try simp only [Tree.run] at hr
      obtain ⟨hl0, hr⟩ := ite_run hr
      simp only [Option.some.injEq, Prod.mk.injEq] at hr
      obtain ⟨rfl, rfl⟩ := hr
      obtain ⟨hr0, hu0, ha0, hb0⟩ := (ownR_spec (DVs.okAt ha 0 rfl) (ownF32_or hqv1082))
      exact mut_ok hs (fun k => (([a1.av F] : List AV)[k]?).getD .top) [a1, .int .i64 v1083] [.own 0 0 v1082.length, .int .i64 v1083] [jv1082] [.f32 v1082] [.f32 y.2] hnd rfl rfl (fun i j q h1 h2 => by
          rcases i with _ | i
          · simp at h1 h2; subst h1; subst h2; exact hr0
          · simp at h1) (fun i q q' h1 h2 => by
          rcases i with _ | i
          · simp at h1 h2; subst h1; subst h2; first | exact of_decide_eq_true hl0 | rfl
          · simp at h1) (fun j hj => by simp at hj; subst hj; simp [DVs.refs, DV.refs, hu0]) (fun F' h0 hρ ab hst hS => ⟨by (have ab0 := ab 0 _ rfl; simp [DVs.av, DV.av, BR.av, hρ, Row.len, ha0, ab0]), by
          obtain ⟨F1, H1, k0, k1, k2, _⟩ := laws_markFloat32S_fn v1082 v1083 F' hst ⟨⟨_, rfl, Nat.le_refl _, Nat.le_refl _, fun _ => rfl, (ownR_spec (DVs.okAt ha 0 rfl) (ownF32_or hqv1082)).2.2.2⟩, trivial, trivial⟩ hy
          exact ⟨F1, H1, k0, k1, k2⟩⟩) (fun F1 F2 => rfl) (fun F L' => trivial)
    · cases hr
  · cases hr
/-! laws.markMatrix -/
noncomputable def laws_markMatrix_LO (v1093 : Int) (v1094 : Int) (v1095 : List Nat) (v1096 : Int) : LOr := fun id e L =>
  match id with
  | _ => .fail
noncomputable def laws_markMatrix_tab : List (FuncId × DFn × Bool) := [(51, laws_markFloat32S_F, false)]
theorem laws_markMatrix_hO : OrcOk Try.prog (tabD laws_markMatrix_tab) (tabM laws_markMatrix_tab) := tabD_cons laws_markFloat32S_Fok (tabD_nil _)
noncomputable def laws_markMatrix_T (v1095 : List Nat) (v1096 : Int) : Tree (Int × (List Nat)) :=
  (.call (laws_markFloat32S_g v1095 v1096) fun v1097 =>
  (.grd (decide (v1097.2.length = v1095.length)) <|
  .leaf (v1097.1, v1097.2)))

noncomputable def laws_markMatrix_g (v1095 : List Nat) (v1096 : Int) : Option (Int × (List Nat)) := (laws_markMatrix_T v1095 v1096).run
def laws_markMatrix_enc (v1093 : Int) (v1094 : Int) (v1095 : List Nat) (v1096 : Int) (y : Int × (List Nat)) : Rs := (.int .i64 y.1, [.row (.f32 y.2) 0])
theorem laws_markMatrix_den (v1093 : Int) (v1094 : Int) (v1095 : List Nat) (v1096 : Int) : (den TT (tabD laws_markMatrix_tab) (tabM laws_markMatrix_tab) (laws_markMatrix_LO v1093 v1094 v1095 v1096) (codeOf Try.f41) ([.agg [.int .i64 v1093, .int .i64 v1094, .own 0 0 v1095.length], .int .i64 v1096] ++ List.replicate (Try.f41.ntmps - ([.agg [.int .i64 v1093, .int .i64 v1094, .own 0 0 v1095.length], .int .i64 v1096] : List DV).length) .undef) [.row (.f32 v1095) 0]).bind (retD TT Try.f41.results.toList 1) = (laws_markMatrix_T v1095 v1096).bind fun y => .leaf (laws_markMatrix_enc v1093 v1094 v1095 v1096 y) := by kernel_rfl
theorem laws_markMatrix_fn (v1093 : Int) (v1094 : Int) (v1095 : List Nat) (v1096 : Int) (F : Fr) (h0 : St F [.row (.f32 v1095) 0] F.H0) (hA : DVs.Ok F [.row (.f32 v1095) 0] [.agg [.int .i64 v1093, .int .i64 v1094, .own 0 0 v1095.length], .int .i64 v1096]) {y : Int × (List Nat)} (hy : laws_markMatrix_g v1095 v1096 = some y) : ∃ F' H', Fwd 1 F F' [.row (.f32 v1095) 0] (laws_markMatrix_enc v1093 v1094 v1095 v1096 y).2 ∧ FnOk Try.prog 41 (DVs.av F [.agg [.int .i64 v1093, .int .i64 v1094, .own 0 0 v1095.length], .int .i64 v1096]) F.H0 ((laws_markMatrix_enc v1093 v1094 v1095 v1096 y).1.av F') H' ∧ St F' (laws_markMatrix_enc v1093 v1094 v1095 v1096 y).2 H' ∧ (laws_markMatrix_enc v1093 v1094 v1095 v1096 y).1.Ok F' (laws_markMatrix_enc v1093 v1094 v1095 v1096 y).2 :=
  fn_fin tok laws_markMatrix_hO mixed Try.func41 Try.call41 (by kernel_rfl) (LoopsOk_eq (l := []) (by kernel_rfl) trivial) (laws_markMatrix_den v1093 v1094 v1095 v1096) hy h0 hA
noncomputable def laws_markMatrix_F : DFn := fun args L =>
  match args with
  | [.agg [.int .i64 v1093, .int .i64 v1094, a1], .int .i64 v1096] =>
    optT (ownF32 L a1) fun qv1095 =>
    (match sepB [qv1095.1] [] with
    | true =>
    .call (laws_markMatrix_g qv1095.2 v1096) fun y => .grd (decide (y.2.length = qv1095.2.length)) (.leaf (.int .i64 y.1, setRows L ([qv1095.1].zip [.f32 y.2])))
    | false => .fail)
  | _ => .fail
theorem laws_markMatrix_Fok : COk Try.prog 41 laws_markMatrix_F false := by
  intro F L H args r L' hs ha hr
  unfold laws_markMatrix_F at hr
  split at hr
  · rename_i v1093 v1094 a1 v1096
    obtain ⟨⟨jv1095, v1095⟩, hqv1095, hr⟩ := optT_run hr
    simp only at hr
    split at hr
    · rename_i hsep
      obtain ⟨hnd, hsepv⟩ := sepB_spec hsep
      simp only [Tree.run] at hr
      obtain ⟨y, hy, hr⟩ := Option.bind_eq_some_iff.1 hr
      try simp only [Tree.run] at hr
      obtain ⟨hl0, hr⟩ := ite_run hr
      simp only [Option.some.injEq, Prod.mk.injEq] at hr
      obtain ⟨rfl, rfl⟩ := hr
      obtain ⟨hr0, hu0, ha0, hb0⟩ := (ownR_spec (DVs.okAt (DVs.okAt ha 0 rfl) 2 rfl) (ownF32_or hqv1095))
      exact mut_ok hs (fun k => (([a1.av F] : List AV)[k]?).getD .top) [.agg [.int .i64 v1093, .int .i64 v1094, a1], .int .i64 v1096] [.agg [.int .i64 v1093, .int .i64 v1094, .own 0 0 v1095.length], .int .i64 v1096] [jv1095] [.f32 v1095] [.f32 y.2] hnd rfl rfl (fun i j q h1 h2 => by
          rcases i with _ | i
          · simp at h1 h2; subst h1; subst h2; exact hr0
          · simp at h1) (fun i q q' h1 h2 => by
          rcases i with _ | i
          · simp at h1 h2; subst h1; subst h2; first | exact of_decide_eq_true hl0 | rfl
          · simp at h1) (fun j hj => by simp at hj; subst hj; simp [DVs.refs, DV.refs, hu0]) (fun F' h0 hρ ab hst hS => ⟨by (have ab0 := ab 0 _ rfl; simp [DVs.av, DV.av, BR.av, hρ, Row.len, ha0, ab0]), by
          obtain ⟨F1, H1, k0, k1, k2, _⟩ := laws_markMatrix_fn v1093 v1094 v1095 v1096 F' hst ⟨⟨trivial, trivial, ⟨_, rfl, Nat.le_refl _, Nat.le_refl _, fun _ => rfl, (ownR_spec (DVs.okAt (DVs.okAt ha 0 rfl) 2 rfl) (ownF32_or hqv1095)).2.2.2⟩, trivial⟩, trivial, trivial⟩ hy
          exact ⟨F1, H1, k0, k1, k2⟩⟩) (fun F1 F2 => rfl) (fun F L' => trivial)
    · cases hr
  · cases hr
/-! laws.markInt64S -/
noncomputable def laws_markInt64S_l0_T (s : Int × Int × (List Int)) : Tree ((Int × Int × (List Int)) ⊕ (Int × (List Int))) :=
  (.br (decide (s.2.1 < (((s.2.2).length : Nat) : Int))) (
   (.grd (inb s.2.1 ((s.2.2).length)) <|
   .leaf (.inl (IntKind.i64.wrap (s.1 + (1 : Int)), IntKind.i64.wrap (s.2.1 + (1 : Int)), List.set s.2.2 (Int.toNat s.2.1) s.1)))
  ) (
   .leaf (.inr (s.1, s.2.2))
  ))

noncomputable def laws_markInt64S_l0_g (s0 : Int × Int × (List Int)) : Option (Int × (List Int)) := whileM (fun s => (laws_markInt64S_l0_T s).run) s0
def laws_markInt64S_l0_E (v1104 : List Int) (v1105 : Int) (s : Int × Int × (List Int)) : Sd := ([.own 0 0 ((s.2.2).length),.int .i64 s.1,tp,tp,tp,.int .i64 s.2.1,tp,tp,tp,tp,tp,tp,tp,tp,tp,tp,tp,tp,tp], [.row (.i64 s.2.2) 0])
def laws_markInt64S_l0_X (v1104 : List Int) (v1105 : Int) (x : Int × (List Int)) : Out := (.normal, [tp,.int .i64 x.1,tp,tp,tp,tp,tp,tp,tp,tp,tp,tp,tp,tp,tp,tp,tp,tp,tp], [.row (.i64 x.2) 0])
def laws_markInt64S_l0_kill : List Nat := KL true [0,2,3,1,13]
def laws_markInt64S_l0_nx : Exit → List Nat
  | .exit 0 => KL true [1,1,17]
  | .ret => KL true [4,1,14]
  | _ => []
noncomputable def laws_markInt64S_LO (v1104 : List Int) (v1105 : Int) : LOr := fun id e L =>
  match id with
  | 0 => .need (normA 1 laws_markInt64S_l0_kill e L = some (laws_markInt64S_l0_E v1104 v1105 ((gI (vAt e 1)), (gI (vAt e 5)), (gRI L (vAt e 0))))) (.call (laws_markInt64S_l0_g ((gI (vAt e 1)), (gI (vAt e 5)), (gRI L (vAt e 0)))) fun x => .leaf (laws_markInt64S_l0_X v1104 v1105 x))
  | _ => .fail
noncomputable def laws_markInt64S_tab : List (FuncId × DFn × Bool) := []
theorem laws_markInt64S_hO : OrcOk Try.prog (tabD laws_markInt64S_tab) (tabM laws_markInt64S_tab) := tabD_nil _
theorem laws_markInt64S_l0_be (v1104 : List Int) (v1105 : Int) (s : Int × Int × (List Int)) : bodyT TT (tabD laws_markInt64S_tab) (tabM laws_markInt64S_tab) (laws_markInt64S_LO v1104 v1105) 1 laws_markInt64S_l0_kill laws_markInt64S_l0_nx (bodyOf Try.f24 0) 0 (laws_markInt64S_l0_E v1104 v1105 s) = (laws_markInt64S_l0_T s).bind fun y => .leaf (outS (laws_markInt64S_l0_E v1104 v1105) (laws_markInt64S_l0_X v1104 v1105) y) := by kernel_rfl
theorem laws_markInt64S_l0_ok (v1104 : List Int) (v1105 : Int) : LSound Try.prog 1 (laws_markInt64S_LO v1104 v1105) 0 (bodyOf Try.f24 0) := by
  intro e L out h
  exact lo_ok (E := laws_markInt64S_l0_E v1104 v1105) (gT := laws_markInt64S_l0_T) (X := laws_markInt64S_l0_X v1104 v1105) (s0 := ((gI (vAt e 1)), (gI (vAt e 5)), (gRI L (vAt e 0)))) tok laws_markInt64S_hO mixed (LoopsOk_eq (l := []) (by kernel_rfl) trivial) (laws_markInt64S_l0_be v1104 v1105) rfl (by intro x; rfl) h
noncomputable def laws_markInt64S_T (v1104 : List Int) (v1105 : Int) : Tree (Int × (List Int)) :=
  (.need (some (laws_markInt64S_l0_E v1104 v1105 (v1105, (0 : Int), v1104)) = some (laws_markInt64S_l0_E v1104 v1105 (v1105, (0 : Int), v1104))) <|
  (.call (laws_markInt64S_l0_g (v1105, (0 : Int), v1104)) fun v1114 =>
  .leaf (v1114.1, v1114.2)))

noncomputable def laws_markInt64S_g (v1104 : List Int) (v1105 : Int) : Option (Int × (List Int)) := (laws_markInt64S_T v1104 v1105).run
def laws_markInt64S_enc (v1104 : List Int) (v1105 : Int) (y : Int × (List Int)) : Rs := (.int .i64 y.1, [.row (.i64 y.2) 0])
theorem laws_markInt64S_den (v1104 : List Int) (v1105 : Int) : (den TT (tabD laws_markInt64S_tab) (tabM laws_markInt64S_tab) (laws_markInt64S_LO v1104 v1105) (codeOf Try.f24) ([.own 0 0 v1104.length, .int .i64 v1105] ++ List.replicate (Try.f24.ntmps - ([.own 0 0 v1104.length, .int .i64 v1105] : List DV).length) .undef) [.row (.i64 v1104) 0]).bind (retD TT Try.f24.results.toList 1) = (laws_markInt64S_T v1104 v1105).bind fun y => .leaf (laws_markInt64S_enc v1104 v1105 y) := by kernel_rfl
theorem laws_markInt64S_fn (v1104 : List Int) (v1105 : Int) (F : Fr) (h0 : St F [.row (.i64 v1104) 0] F.H0) (hA : DVs.Ok F [.row (.i64 v1104) 0] [.own 0 0 v1104.length, .int .i64 v1105]) {y : Int × (List Int)} (hy : laws_markInt64S_g v1104 v1105 = some y) : ∃ F' H', Fwd 1 F F' [.row (.i64 v1104) 0] (laws_markInt64S_enc v1104 v1105 y).2 ∧ FnOk Try.prog 24 (DVs.av F [.own 0 0 v1104.length, .int .i64 v1105]) F.H0 ((laws_markInt64S_enc v1104 v1105 y).1.av F') H' ∧ St F' (laws_markInt64S_enc v1104 v1105 y).2 H' ∧ (laws_markInt64S_enc v1104 v1105 y).1.Ok F' (laws_markInt64S_enc v1104 v1105 y).2 :=
  fn_fin tok laws_markInt64S_hO mixed Try.func24 Try.call24 (by kernel_rfl) (LoopsOk_eq (l := [(0, bodyOf Try.f24 0)]) (by kernel_rfl) ⟨laws_markInt64S_l0_ok v1104 v1105, trivial⟩) (laws_markInt64S_den v1104 v1105) hy h0 hA
noncomputable def laws_markInt64S_F : DFn := fun args L =>
  match args with
  | [a1, .int .i64 v1105] =>
    optT (ownI64 L a1) fun qv1104 =>
    (match sepB [qv1104.1] [] with
    | true =>
    .call (laws_markInt64S_g qv1104.2 v1105) fun y => .grd (decide (y.2.length = qv1104.2.length)) (.leaf (.int .i64 y.1, setRows L ([qv1104.1].zip [.i64 y.2])))
    | false => .fail)
  | _ => .fail
theorem laws_markInt64S_Fok : COk Try.prog 24 laws_markInt64S_F false := by
  intro F L H args r L' hs ha hr
  unfold laws_markInt64S_F at hr
  split at hr
  · rename_i a1 v1105
    obtain ⟨⟨jv1104, v1104⟩, hqv1104, hr⟩ := optT_run hr
    simp only at hr
    split at hr
    · rename_i hsep
      obtain ⟨hnd, hsepv⟩ := sepB_spec hsep
      simp only [Tree.run] at hr
      obtain ⟨y, hy, hr⟩ := Option.bind_eq_some_iff.1 hr
      try simp only [Tree.run] at hr
      obtain ⟨hl0, hr⟩ := ite_run hr
      simp only [Option.some.injEq, Prod.mk.injEq] at hr
      obtain ⟨rfl, rfl⟩ := hr
      obtain ⟨hr0, hu0, ha0, hb0⟩ := (ownR_spec (DVs.okAt ha 0 rfl) (ownI64_or hqv1104))
      exact mut_ok hs (fun k => (([a1.av F] : List AV)[k]?).getD .top) [a1, .int .i64 v1105] [.own 0 0 v1104.length, .int .i64 v1105] [jv1104] [.i64 v1104] [.i64 y.2] hnd rfl rfl (fun i j q h1 h2 => by
          rcases i with _ | i
          · simp at h1 h2; subst h1; subst h2; exact hr0
          · simp at h1) (fun i q q' h1 h2 => by
          rcases i with _ | i
          · simp at h1 h2; subst h1; subst h2; first | exact of_decide_eq_true hl0 | rfl
          · simp at h1) (fun j hj => by simp at hj; subst hj; simp [DVs.refs, DV.refs, hu0]) (fun F' h0 hρ ab hst hS => ⟨by (have ab0 := ab 0 _ rfl; simp [DVs.av, DV.av, BR.av, hρ, Row.len, ha0, ab0]), by
          obtain ⟨F1, H1, k0, k1, k2, _⟩ := laws_markInt64S_fn v1104 v1105 F' hst ⟨⟨_, rfl, Nat.le_refl _, Nat.le_refl _, fun _ => rfl, (ownR_spec (DVs.okAt ha 0 rfl) (ownI64_or hqv1104)).2.2.2⟩, trivial, trivial⟩ hy
          exact ⟨F1, H1, k0, k1, k2⟩⟩) (fun F1 F2 => rfl) (fun F L' => trivial)
    · cases hr
  · cases hr
/-! laws.markInt64S -/
noncomputable def laws_markInt64S_i1_l0_T (s : Unit) : Tree ((Unit) ⊕ (Unit)) :=
  (.br (decide ((0 : Int) < (0 : Int))) (
   .fail
  ) (
   .leaf (.inr ())
  ))

noncomputable def laws_markInt64S_i1_l0_g (s0 : Unit) : Option (Unit) := whileM (fun s => (laws_markInt64S_i1_l0_T s).run) s0
def laws_markInt64S_i1_l0_E (v1115 : Int) (s : Unit) : Sd := ([.nilslc,.int .i64 v1115,tp,tp,tp,.int .i64 (0 : Int),tp,tp,tp,tp,tp,tp,tp,tp,tp,tp,tp,tp,tp], [])
def laws_markInt64S_i1_l0_X (v1115 : Int) (x : Unit) : Out := (.normal, [tp,.int .i64 v1115,tp,tp,tp,tp,tp,tp,tp,tp,tp,tp,tp,tp,tp,tp,tp,tp,tp], [])
def laws_markInt64S_i1_l0_kill : List Nat := KL true [0,2,3,1,13]
def laws_markInt64S_i1_l0_nx : Exit → List Nat
  | .exit 0 => KL true [1,1,17]
  | .ret => KL true [4,1,14]
  | _ => []
noncomputable def laws_markInt64S_i1_LO (v1115 : Int) : LOr := fun id e L =>
  match id with
  | 0 => .need (normA 0 laws_markInt64S_i1_l0_kill e L = some (laws_markInt64S_i1_l0_E v1115 ())) (.call (laws_markInt64S_i1_l0_g ()) fun x => .leaf (laws_markInt64S_i1_l0_X v1115 x))
  | _ => .fail
noncomputable def laws_markInt64S_i1_tab : List (FuncId × DFn × Bool) := []
theorem laws_markInt64S_i1_hO : OrcOk Try.prog (tabD laws_markInt64S_i1_tab) (tabM laws_markInt64S_i1_tab) := tabD_nil _
theorem laws_markInt64S_i1_l0_be (v1115 : Int) (s : Unit) : bodyT TT (tabD laws_markInt64S_i1_tab) (tabM laws_markInt64S_i1_tab) (laws_markInt64S_i1_LO v1115) 0 laws_markInt64S_i1_l0_kill laws_markInt64S_i1_l0_nx (bodyOf Try.f24 0) 0 (laws_markInt64S_i1_l0_E v1115 s) = (laws_markInt64S_i1_l0_T s).bind fun y => .leaf (outS (laws_markInt64S_i1_l0_E v1115) (laws_markInt64S_i1_l0_X v1115) y) := by kernel_rfl
theorem laws_markInt64S_i1_l0_ok (v1115 : Int) : LSound Try.prog 0 (laws_markInt64S_i1_LO v1115) 0 (bodyOf Try.f24 0) := by
  intro e L out h
  exact lo_ok (E := laws_markInt64S_i1_l0_E v1115) (gT := laws_markInt64S_i1_l0_T) (X := laws_markInt64S_i1_l0_X v1115) (s0 := ()) tok laws_markInt64S_i1_hO mixed (LoopsOk_eq (l := []) (by kernel_rfl) trivial) (laws_markInt64S_i1_l0_be v1115) rfl (by intro x; rfl) h
noncomputable def laws_markInt64S_i1_T (v1115 : Int) : Tree (Int) :=
  (.need (some (laws_markInt64S_i1_l0_E v1115 ()) = some (laws_markInt64S_i1_l0_E v1115 ())) <|
  (.call (laws_markInt64S_i1_l0_g ()) fun v1118 =>
  .leaf v1115))

noncomputable def laws_markInt64S_i1_g (v1115 : Int) : Option (Int) := (laws_markInt64S_i1_T v1115).run
def laws_markInt64S_i1_enc (v1115 : Int) (y : Int) : Rs := (.int .i64 y, [])
theorem laws_markInt64S_i1_den (v1115 : Int) : (den TT (tabD laws_markInt64S_i1_tab) (tabM laws_markInt64S_i1_tab) (laws_markInt64S_i1_LO v1115) (codeOf Try.f24) ([.nilslc, .int .i64 v1115] ++ List.replicate (Try.f24.ntmps - ([.nilslc, .int .i64 v1115] : List DV).length) .undef) []).bind (retD TT Try.f24.results.toList 0) = (laws_markInt64S_i1_T v1115).bind fun y => .leaf (laws_markInt64S_i1_enc v1115 y) := by kernel_rfl
theorem laws_markInt64S_i1_fn (v1115 : Int) (F : Fr) (h0 : St F [] F.H0) (hA : DVs.Ok F [] [.nilslc, .int .i64 v1115]) {y : Int} (hy : laws_markInt64S_i1_g v1115 = some y) : ∃ F' H', Fwd 0 F F' [] (laws_markInt64S_i1_enc v1115 y).2 ∧ FnOk Try.prog 24 (DVs.av F [.nilslc, .int .i64 v1115]) F.H0 ((laws_markInt64S_i1_enc v1115 y).1.av F') H' ∧ St F' (laws_markInt64S_i1_enc v1115 y).2 H' ∧ (laws_markInt64S_i1_enc v1115 y).1.Ok F' (laws_markInt64S_i1_enc v1115 y).2 :=
  fn_fin tok laws_markInt64S_i1_hO mixed Try.func24 Try.call24 (by kernel_rfl) (LoopsOk_eq (l := [(0, bodyOf Try.f24 0)]) (by kernel_rfl) ⟨laws_markInt64S_i1_l0_ok v1115, trivial⟩) (laws_markInt64S_i1_den v1115) hy h0 hA
noncomputable def laws_markInt64S_i1_F : DFn := fun args L =>
  match args with
  | [.nilslc, .int .i64 v1115] =>
    .call (laws_markInt64S_i1_g v1115) fun y => .leaf (.int .i64 y, L)
  | _ => .fail
theorem laws_markInt64S_i1_Fok : COk Try.prog 24 laws_markInt64S_i1_F true := by
  intro F L H args r L' hs ha hr
  unfold laws_markInt64S_i1_F at hr
  split at hr
  · rename_i v1115
    simp only [Tree.run] at hr
    obtain ⟨y, hy, hr⟩ := Option.bind_eq_some_iff.1 hr
    simp only [Tree.run, Option.some.injEq, Prod.mk.injEq] at hr
    obtain ⟨rfl, rfl⟩ := hr
    exact call_ok0 hs (fun k => (([] : List AV)[k]?).getD .top) [.nilslc, .int .i64 v1115] [.nilslc, .int .i64 v1115] (fun F' h0 hi hρ => ⟨by simp [DVs.av, DV.av, BR.av, hρ], laws_markInt64S_i1_fn v1115 F' (st_nil hi) ⟨trivial, trivial, trivial⟩ hy⟩) rfl
  · cases hr
/-! laws.heldInt64S -/
noncomputable def laws_heldInt64S_l0_T (v1120 : List Int) (s : Int × Int) : Tree ((Int × Int) ⊕ ((Unit) ⊕ (Int))) :=
  (.br (decide (s.2 < ((v1120.length : Nat) : Int))) (
   (.grd (inb s.2 v1120.length) <|
   (.br (!decide (nth v1120 (Int.toNat s.2) = s.1)) (
    .leaf (.inr (.inl ()))
   ) (
    .leaf (.inl (IntKind.i64.wrap (s.1 + (1 : Int)), IntKind.i64.wrap (s.2 + (1 : Int))))
   )))
  ) (
   .leaf (.inr (.inr s.1))
  ))

noncomputable def laws_heldInt64S_l0_g (v1120 : List Int) (s0 : Int × Int) : Option ((Unit) ⊕ (Int)) := whileM (fun s => (laws_heldInt64S_l0_T v1120 s).run) s0
def laws_heldInt64S_l0_E (v1120 : List Int) (v1121 : Int) (s : Int × Int) : Sd := ([.bslc (BR.root 0) (.i64 v1120),.int .i64 s.1,tp,tp,tp,.int .i64 s.2,tp,tp,tp,tp,tp,tp,tp,tp,tp,tp,tp,tp,tp,tp,tp], [])
def laws_heldInt64S_l0_X (v1120 : List Int) (v1121 : Int) (x : (Unit) ⊕ (Int)) : Out := (match x with | .inl x => (.ret, [tp,tp,tp,tp,.int .i64 (-1 : Int),tp,tp,tp,tp,tp,tp,tp,tp,tp,tp,tp,tp,tp,tp,tp,tp], []) | .inr x => (.normal, [tp,.int .i64 x,tp,tp,tp,tp,tp,tp,tp,tp,tp,tp,tp,tp,tp,tp,tp,tp,tp,tp,tp], []))
def laws_heldInt64S_l0_kill : List Nat := KL true [0,2,3,1,15]
def laws_heldInt64S_l0_nx : Exit → List Nat
  | .exit 0 => KL true [1,1,19]
  | .ret => KL true [4,1,16]
  | _ => []
noncomputable def laws_heldInt64S_LO (v1120 : List Int) (v1121 : Int) : LOr := fun id e L =>
  match id with
  | 0 => .need (normA 0 laws_heldInt64S_l0_kill e L = some (laws_heldInt64S_l0_E v1120 v1121 ((gI (vAt e 1)), (gI (vAt e 5))))) (.call (laws_heldInt64S_l0_g v1120 ((gI (vAt e 1)), (gI (vAt e 5)))) fun x => .sum x (fun b0 => .leaf (laws_heldInt64S_l0_X v1120 v1121 (.inl b0))) (fun c0 => .leaf (laws_heldInt64S_l0_X v1120 v1121 (.inr c0))))
  | _ => .fail
noncomputable def laws_heldInt64S_tab : List (FuncId × DFn × Bool) := []
theorem laws_heldInt64S_hO : OrcOk Try.prog (tabD laws_heldInt64S_tab) (tabM laws_heldInt64S_tab) := tabD_nil _
theorem laws_heldInt64S_l0_be (v1120 : List Int) (v1121 : Int) (s : Int × Int) : bodyT TT (tabD laws_heldInt64S_tab) (tabM laws_heldInt64S_tab) (laws_heldInt64S_LO v1120 v1121) 0 laws_heldInt64S_l0_kill laws_heldInt64S_l0_nx (bodyOf Try.f25 0) 0 (laws_heldInt64S_l0_E v1120 v1121 s) = (laws_heldInt64S_l0_T v1120 s).bind fun y => .leaf (outS (laws_heldInt64S_l0_E v1120 v1121) (laws_heldInt64S_l0_X v1120 v1121) y) := by kernel_rfl
theorem laws_heldInt64S_l0_ok (v1120 : List Int) (v1121 : Int) : LSound Try.prog 0 (laws_heldInt64S_LO v1120 v1121) 0 (bodyOf Try.f25 0) := by
  intro e L out h
  exact lo_ok (E := laws_heldInt64S_l0_E v1120 v1121) (gT := laws_heldInt64S_l0_T v1120) (X := laws_heldInt64S_l0_X v1120 v1121) (s0 := ((gI (vAt e 1)), (gI (vAt e 5)))) tok laws_heldInt64S_hO mixed (LoopsOk_eq (l := []) (by kernel_rfl) trivial) (laws_heldInt64S_l0_be v1120 v1121) rfl (by intro x; (cases x with | inl b => rfl | inr x => exact rfl)) h
noncomputable def laws_heldInt64S_T (v1120 : List Int) (v1121 : Int) : Tree (Int) :=
  (.need (some (laws_heldInt64S_l0_E v1120 v1121 (v1121, (0 : Int))) = some (laws_heldInt64S_l0_E v1120 v1121 (v1121, (0 : Int)))) <|
  (.call (laws_heldInt64S_l0_g v1120 (v1121, (0 : Int))) fun v1128 =>
  (.sum v1128 (fun v1129 =>
   .leaf (-1 : Int)
  ) (fun v1130 =>
   .leaf v1130
  ))))

noncomputable def laws_heldInt64S_g (v1120 : List Int) (v1121 : Int) : Option (Int) := (laws_heldInt64S_T v1120 v1121).run
def laws_heldInt64S_enc (v1120 : List Int) (v1121 : Int) (y : Int) : Rs := (.int .i64 y, [])
theorem laws_heldInt64S_den (v1120 : List Int) (v1121 : Int) : (den TT (tabD laws_heldInt64S_tab) (tabM laws_heldInt64S_tab) (laws_heldInt64S_LO v1120 v1121) (codeOf Try.f25) ([.bslc (BR.root 0) (.i64 v1120), .int .i64 v1121] ++ List.replicate (Try.f25.ntmps - ([.bslc (BR.root 0) (.i64 v1120), .int .i64 v1121] : List DV).length) .undef) []).bind (retD TT Try.f25.results.toList 0) = (laws_heldInt64S_T v1120 v1121).bind fun y => .leaf (laws_heldInt64S_enc v1120 v1121 y) := by kernel_rfl
theorem laws_heldInt64S_fn (v1120 : List Int) (v1121 : Int) (F : Fr) (h0 : St F [] F.H0) (hA : DVs.Ok F [] [.bslc (BR.root 0) (.i64 v1120), .int .i64 v1121]) {y : Int} (hy : laws_heldInt64S_g v1120 v1121 = some y) : ∃ F' H', Fwd 0 F F' [] (laws_heldInt64S_enc v1120 v1121 y).2 ∧ FnOk Try.prog 25 (DVs.av F [.bslc (BR.root 0) (.i64 v1120), .int .i64 v1121]) F.H0 ((laws_heldInt64S_enc v1120 v1121 y).1.av F') H' ∧ St F' (laws_heldInt64S_enc v1120 v1121 y).2 H' ∧ (laws_heldInt64S_enc v1120 v1121 y).1.Ok F' (laws_heldInt64S_enc v1120 v1121 y).2 :=
  fn_fin tok laws_heldInt64S_hO mixed Try.func25 Try.call25 (by kernel_rfl) (LoopsOk_eq (l := [(0, bodyOf Try.f25 0)]) (by kernel_rfl) ⟨laws_heldInt64S_l0_ok v1120 v1121, trivial⟩) (laws_heldInt64S_den v1120 v1121) hy h0 hA
noncomputable def laws_heldInt64S_F : DFn := fun args L =>
  match args with
  | [a1, .int .i64 v1121] =>
    optT (rowI64 L a1) fun v1120 =>
    .call (laws_heldInt64S_g v1120 v1121) fun y => .leaf (.int .i64 y, L)
  | _ => .fail
theorem laws_heldInt64S_Fok : COk Try.prog 25 laws_heldInt64S_F true := by
  intro F L H args r L' hs ha hr
  unfold laws_heldInt64S_F at hr
  split at hr
  · rename_i a1 v1121
    obtain ⟨v1120, hv1120, hr⟩ := optT_run hr
    simp only [Tree.run] at hr
    obtain ⟨y, hy, hr⟩ := Option.bind_eq_some_iff.1 hr
    simp only [Tree.run, Option.some.injEq, Prod.mk.injEq] at hr
    obtain ⟨rfl, rfl⟩ := hr
    exact call_ok0 hs (fun k => (([a1.av F] : List AV)[k]?).getD .top) [a1, .int .i64 v1121] [.bslc (BR.root 0) (.i64 v1120), .int .i64 v1121] (fun F' h0 hi hρ => ⟨by simp [DVs.av, DV.av, BR.av, hρ], laws_heldInt64S_fn v1120 v1121 F' (st_nil hi) ⟨bslc_ok hi (by rw [h0, hρ]; exact rowI64_ok hs (DVs.okAt ha 0 rfl) hv1120), trivial, trivial⟩ hy⟩) rfl
  · cases hr
/-! laws.FnExactMirrorRank -/
noncomputable def laws_FnExactMirrorRank_LO (v1 : Int) (v2 : Int) (v3 : List Nat) (v4 : Nat) : LOr := fun id e L =>
  match id with
  | _ => .fail
noncomputable def laws_FnExactMirrorRank_tab : List (FuncId × DFn × Bool) := [(36, laws_szMatrix_F, true), (38, laws_toMatrix_F, true), (37, spec_MirrorRank_F, true), (39, impl_MirrorRank_F, true), (22, laws_eqInt64S_F, true), (40, laws_eqMatrix_F, true), (41, laws_markMatrix_F, false), (24, (orD (fun args => match args with | [.nilslc, _] => true | _ => false) laws_markInt64S_i1_F laws_markInt64S_F), false), (25, laws_heldInt64S_F, true)]
theorem laws_FnExactMirrorRank_hO : OrcOk Try.prog (tabD laws_FnExactMirrorRank_tab) (tabM laws_FnExactMirrorRank_tab) := tabD_cons laws_szMatrix_Fok (tabD_cons laws_toMatrix_Fok (tabD_cons spec_MirrorRank_Fok (tabD_cons impl_MirrorRank_Fok (tabD_cons laws_eqInt64S_Fok (tabD_cons laws_eqMatrix_Fok (tabD_cons laws_markMatrix_Fok (tabD_cons (orD_ok (COk.weak laws_markInt64S_i1_Fok) laws_markInt64S_Fok) (tabD_cons laws_heldInt64S_Fok (tabD_nil _)))))))))
noncomputable def laws_FnExactMirrorRank_T (v1 : Int) (v2 : Int) (v3 : List Nat) (v4 : Nat) : Tree (Bool) :=
  (.br (decide ((laws_szMatrix_v v3 (1048576 : Int)) < (0 : Int))) (
   .leaf true
  ) (
   (.call (laws_toMatrix_g v1 v2 v3) fun v22 =>
   (.call (spec_MirrorRank_g v22.1 v22.2.1 v22.2.2 v4) fun v655 =>
   (.sum v655 (fun v656 =>
    (.call (laws_toMatrix_g v1 v2 v3) fun v658 =>
    (.call (impl_MirrorRank_g v658.1 v658.2.1 v658.2.2 v4) fun v1043 =>
    (.sum v1043 (fun v1044 =>
     (.call (laws_eqInt64S_g ([] : List Int) ([] : List Int)) fun v1054 =>
     (.br (!v1054) (
      .leaf false
     ) (
      (.br (!decide ((0 : Int) = (0 : Int))) (
       .leaf false
      ) (
       (.br (!(false == false)) (
        .leaf false
       ) (
        (.call (laws_toMatrix_g v1 v2 v3) fun v1055 =>
        (.call (laws_eqMatrix_g v658.1 v658.2.1 v658.2.2 v1055.1 v1055.2.1 v1055.2.2) fun v1073 =>
        (.br (!v1073) (
         .leaf false
        ) (
         (.call (laws_markMatrix_g v658.2.2 (1 : Int)) fun v1098 =>
         (.grd (decide (v1098.2.length = v658.2.2.length)) <|
         (.br (decide (v1098.1 < (0 : Int))) (
          .leaf false
         ) (
          (.call (laws_eqInt64S_g ([] : List Int) ([] : List Int)) fun v1099 =>
          (.br (!v1099) (
           .leaf false
          ) (
           (.br (!decide ((0 : Int) = (0 : Int))) (
            .leaf false
           ) (
            (.br (!(false == false)) (
             .leaf false
            ) (
             (.call (laws_markInt64S_i1_g (1 : Int)) fun v1119 =>
             (.call (laws_heldInt64S_g ([] : List Int) (1 : Int)) fun v1131 =>
             (.br (decide (v1131 < (0 : Int))) (
              .leaf false
             ) (
              (.br (!decide (v1131 = v1119)) (
               .leaf false
              ) (
               (.call (laws_toMatrix_g v1 v2 v3) fun v1132 =>
               (.call (impl_MirrorRank_g v1132.1 v1132.2.1 v1132.2.2 v4) fun v1133 =>
               (.sum v1133 (fun v1134 =>
                (.call (laws_eqInt64S_g ([] : List Int) ([] : List Int)) fun v1136 =>
                (.br (!v1136) (
                 .leaf false
                ) (
                 (.br (!decide ((0 : Int) = (0 : Int))) (
                  .leaf false
                 ) (
                  (.br (!(false == false)) (
                   .leaf false
                  ) (
                   (.call (laws_heldInt64S_g ([] : List Int) (1 : Int)) fun v1137 =>
                   (.br (decide (v1137 < (0 : Int))) (
                    .leaf false
                   ) (
                    (.br (!decide (v1137 = v1119)) (
                     .leaf false
                    ) (
                     .leaf true
                    ))
                   )))
                  ))
                 ))
                )))
               ) (fun v1135 =>
                (.call (laws_eqInt64S_g v1135.2 ([] : List Int)) fun v1138 =>
                (.br (!v1138) (
                 .leaf false
                ) (
                 (.br (!decide (v1135.1 = (0 : Int))) (
                  .leaf false
                 ) (
                  (.br (!(true == false)) (
                   .leaf false
                  ) (
                   (.call (laws_heldInt64S_g ([] : List Int) (1 : Int)) fun v1139 =>
                   (.br (decide (v1139 < (0 : Int))) (
                    .leaf false
                   ) (
                    (.br (!decide (v1139 = v1119)) (
                     .leaf false
                    ) (
                     .leaf true
                    ))
                   )))
                  ))
                 ))
                )))
               ))))
              ))
             ))))
            ))
           ))
          )))
         ))))
        ))))
       ))
      ))
     )))
    ) (fun v1045 =>
     (.call (laws_eqInt64S_g v1045.2 ([] : List Int)) fun v1140 =>
     (.br (!v1140) (
      .leaf false
     ) (
      (.br (!decide (v1045.1 = (0 : Int))) (
       .leaf false
      ) (
       (.br (!(true == false)) (
        .leaf false
       ) (
        (.call (laws_toMatrix_g v1 v2 v3) fun v1141 =>
        (.call (laws_eqMatrix_g v658.1 v658.2.1 v658.2.2 v1141.1 v1141.2.1 v1141.2.2) fun v1142 =>
        (.br (!v1142) (
         .leaf false
        ) (
         (.call (laws_markMatrix_g v658.2.2 (1 : Int)) fun v1143 =>
         (.grd (decide (v1143.2.length = v658.2.2.length)) <|
         (.br (decide (v1143.1 < (0 : Int))) (
          .leaf false
         ) (
          (.call (laws_eqInt64S_g v1045.2 ([] : List Int)) fun v1144 =>
          (.br (!v1144) (
           .leaf false
          ) (
           (.br (!decide (v1045.1 = (0 : Int))) (
            .leaf false
           ) (
            (.br (!(true == false)) (
             .leaf false
            ) (
             (.call (laws_markInt64S_g v1045.2 (1 : Int)) fun v1145 =>
             (.grd (decide (v1145.2.length = v1045.2.length)) <|
             (.call (laws_heldInt64S_g v1145.2 (1 : Int)) fun v1146 =>
             (.br (decide (v1146 < (0 : Int))) (
              .leaf false
             ) (
              (.br (!decide (v1146 = v1145.1)) (
               .leaf false
              ) (
               (.call (laws_toMatrix_g v1 v2 v3) fun v1147 =>
               (.call (impl_MirrorRank_g v1147.1 v1147.2.1 v1147.2.2 v4) fun v1148 =>
               (.sum v1148 (fun v1149 =>
                (.call (laws_eqInt64S_g ([] : List Int) ([] : List Int)) fun v1151 =>
                (.br (!v1151) (
                 .leaf false
                ) (
                 (.br (!decide ((0 : Int) = (0 : Int))) (
                  .leaf false
                 ) (
                  (.br (!(false == false)) (
                   .leaf false
                  ) (
                   (.call (laws_heldInt64S_g v1145.2 (1 : Int)) fun v1152 =>
                   (.br (decide (v1152 < (0 : Int))) (
                    .leaf false
                   ) (
                    (.br (!decide (v1152 = v1145.1)) (
                     .leaf false
                    ) (
                     .leaf true
                    ))
                   )))
                  ))
                 ))
                )))
               ) (fun v1150 =>
                (.call (laws_eqInt64S_g v1150.2 ([] : List Int)) fun v1153 =>
                (.br (!v1153) (
                 .leaf false
                ) (
                 (.br (!decide (v1150.1 = (0 : Int))) (
                  .leaf false
                 ) (
                  (.br (!(true == false)) (
                   .leaf false
                  ) (
                   (.call (laws_heldInt64S_g v1145.2 (1 : Int)) fun v1154 =>
                   (.br (decide (v1154 < (0 : Int))) (
                    .leaf false
                   ) (
                    (.br (!decide (v1154 = v1145.1)) (
                     .leaf false
                    ) (
                     .leaf true
                    ))
                   )))
                  ))
                 ))
                )))
               ))))
              ))
             )))))
            ))
           ))
          )))
         ))))
        ))))
       ))
      ))
     )))
    ))))
   ) (fun v657 =>
    (.call (laws_toMatrix_g v1 v2 v3) fun v1155 =>
    (.call (impl_MirrorRank_g v1155.1 v1155.2.1 v1155.2.2 v4) fun v1156 =>
    (.sum v1156 (fun v1157 =>
     (.call (laws_eqInt64S_g ([] : List Int) v657.2) fun v1159 =>
     (.br (!v1159) (
      .leaf false
     ) (
      (.br (!decide ((0 : Int) = v657.1)) (
       .leaf false
      ) (
       (.br (!(false == true)) (
        .leaf false
       ) (
        (.call (laws_toMatrix_g v1 v2 v3) fun v1160 =>
        (.call (laws_eqMatrix_g v1155.1 v1155.2.1 v1155.2.2 v1160.1 v1160.2.1 v1160.2.2) fun v1161 =>
        (.br (!v1161) (
         .leaf false
        ) (
         (.call (laws_markMatrix_g v1155.2.2 (1 : Int)) fun v1162 =>
         (.grd (decide (v1162.2.length = v1155.2.2.length)) <|
         (.br (decide (v1162.1 < (0 : Int))) (
          .leaf false
         ) (
          (.call (laws_eqInt64S_g ([] : List Int) v657.2) fun v1163 =>
          (.br (!v1163) (
           .leaf false
          ) (
           (.br (!decide ((0 : Int) = v657.1)) (
            .leaf false
           ) (
            (.br (!(false == true)) (
             .leaf false
            ) (
             (.call (laws_markInt64S_i1_g (1 : Int)) fun v1164 =>
             (.call (laws_heldInt64S_g ([] : List Int) (1 : Int)) fun v1165 =>
             (.br (decide (v1165 < (0 : Int))) (
              .leaf false
             ) (
              (.br (!decide (v1165 = v1164)) (
               .leaf false
              ) (
               (.call (laws_toMatrix_g v1 v2 v3) fun v1166 =>
               (.call (impl_MirrorRank_g v1166.1 v1166.2.1 v1166.2.2 v4) fun v1167 =>
               (.sum v1167 (fun v1168 =>
                (.call (laws_eqInt64S_g ([] : List Int) v657.2) fun v1170 =>
                (.br (!v1170) (
                 .leaf false
                ) (
                 (.br (!decide ((0 : Int) = v657.1)) (
                  .leaf false
                 ) (
                  (.br (!(false == true)) (
                   .leaf false
                  ) (
                   (.call (laws_heldInt64S_g ([] : List Int) (1 : Int)) fun v1171 =>
                   (.br (decide (v1171 < (0 : Int))) (
                    .leaf false
                   ) (
                    (.br (!decide (v1171 = v1164)) (
                     .leaf false
                    ) (
                     .leaf true
                    ))
                   )))
                  ))
                 ))
                )))
               ) (fun v1169 =>
                (.call (laws_eqInt64S_g v1169.2 v657.2) fun v1172 =>
                (.br (!v1172) (
                 .leaf false
                ) (
                 (.br (!decide (v1169.1 = v657.1)) (
                  .leaf false
                 ) (
                  (.br (!(true == true)) (
                   .leaf false
                  ) (
                   (.call (laws_heldInt64S_g ([] : List Int) (1 : Int)) fun v1173 =>
                   (.br (decide (v1173 < (0 : Int))) (
                    .leaf false
                   ) (
                    (.br (!decide (v1173 = v1164)) (
                     .leaf false
                    ) (
                     .leaf true
                    ))
                   )))
                  ))
                 ))
                )))
               ))))
              ))
             ))))
            ))
           ))
          )))
         ))))
        ))))
       ))
      ))
     )))
    ) (fun v1158 =>
     (.call (laws_eqInt64S_g v1158.2 v657.2) fun v1174 =>
     (.br (!v1174) (
      .leaf false
     ) (
      (.br (!decide (v1158.1 = v657.1)) (
       .leaf false
      ) (
       (.br (!(true == true)) (
        .leaf false
       ) (
        (.call (laws_toMatrix_g v1 v2 v3) fun v1175 =>
        (.call (laws_eqMatrix_g v1155.1 v1155.2.1 v1155.2.2 v1175.1 v1175.2.1 v1175.2.2) fun v1176 =>
        (.br (!v1176) (
         .leaf false
        ) (
         (.call (laws_markMatrix_g v1155.2.2 (1 : Int)) fun v1177 =>
         (.grd (decide (v1177.2.length = v1155.2.2.length)) <|
         (.br (decide (v1177.1 < (0 : Int))) (
          .leaf false
         ) (
          (.call (laws_eqInt64S_g v1158.2 v657.2) fun v1178 =>
          (.br (!v1178) (
           .leaf false
          ) (
           (.br (!decide (v1158.1 = v657.1)) (
            .leaf false
           ) (
            (.br (!(true == true)) (
             .leaf false
            ) (
             (.call (laws_markInt64S_g v1158.2 (1 : Int)) fun v1179 =>
             (.grd (decide (v1179.2.length = v1158.2.length)) <|
             (.call (laws_heldInt64S_g v1179.2 (1 : Int)) fun v1180 =>
             (.br (decide (v1180 < (0 : Int))) (
              .leaf false
             ) (
              (.br (!decide (v1180 = v1179.1)) (
               .leaf false
              ) (
               (.call (laws_toMatrix_g v1 v2 v3) fun v1181 =>
               (.call (impl_MirrorRank_g v1181.1 v1181.2.1 v1181.2.2 v4) fun v1182 =>
               (.sum v1182 (fun v1183 =>
                (.call (laws_eqInt64S_g ([] : List Int) v657.2) fun v1185 =>
                (.br (!v1185) (
                 .leaf false
                ) (
                 (.br (!decide ((0 : Int) = v657.1)) (
                  .leaf false
                 ) (
                  (.br (!(false == true)) (
                   .leaf false
                  ) (
                   (.call (laws_heldInt64S_g v1179.2 (1 : Int)) fun v1186 =>
                   (.br (decide (v1186 < (0 : Int))) (
                    .leaf false
                   ) (
                    (.br (!decide (v1186 = v1179.1)) (
                     .leaf false
                    ) (
                     .leaf true
                    ))
                   )))
                  ))
                 ))
                )))
               ) (fun v1184 =>
                (.call (laws_eqInt64S_g v1184.2 v657.2) fun v1187 =>
                (.br (!v1187) (
                 .leaf false
                ) (
                 (.br (!decide (v1184.1 = v657.1)) (
                  .leaf false
                 ) (
                  (.br (!(true == true)) (
                   .leaf false
                  ) (
                   (.call (laws_heldInt64S_g v1179.2 (1 : Int)) fun v1188 =>
                   (.br (decide (v1188 < (0 : Int))) (
                    .leaf false
                   ) (
                    (.br (!decide (v1188 = v1179.1)) (
                     .leaf false
                    ) (
                     .leaf true
                    ))
                   )))
                  ))
                 ))
                )))
               ))))
              ))
             )))))
            ))
           ))
          )))
         ))))
        ))))
       ))
      ))
     )))
    ))))
   ))))
  ))

noncomputable def laws_FnExactMirrorRank_g (v1 : Int) (v2 : Int) (v3 : List Nat) (v4 : Nat) : Option (Bool) := (laws_FnExactMirrorRank_T v1 v2 v3 v4).run
def laws_FnExactMirrorRank_enc (v1 : Int) (v2 : Int) (v3 : List Nat) (v4 : Nat) (y : Bool) : Rs := (.bool y, [])
theorem laws_FnExactMirrorRank_den (v1 : Int) (v2 : Int) (v3 : List Nat) (v4 : Nat) : (den TT (tabD laws_FnExactMirrorRank_tab) (tabM laws_FnExactMirrorRank_tab) (laws_FnExactMirrorRank_LO v1 v2 v3 v4) (codeOf Try.f9) ([.agg [.int .i64 v1, .int .i64 v2, .bslc (BR.root 0) (.f32 v3)], .flt .f32 v4] ++ List.replicate (Try.f9.ntmps - ([.agg [.int .i64 v1, .int .i64 v2, .bslc (BR.root 0) (.f32 v3)], .flt .f32 v4] : List DV).length) .undef) []).bind (retD TT Try.f9.results.toList 0) = (laws_FnExactMirrorRank_T v1 v2 v3 v4).bind fun y => .leaf (laws_FnExactMirrorRank_enc v1 v2 v3 v4 y) := by kernel_rfl
theorem laws_FnExactMirrorRank_fn (v1 : Int) (v2 : Int) (v3 : List Nat) (v4 : Nat) (F : Fr) (h0 : St F [] F.H0) (hA : DVs.Ok F [] [.agg [.int .i64 v1, .int .i64 v2, .bslc (BR.root 0) (.f32 v3)], .flt .f32 v4]) {y : Bool} (hy : laws_FnExactMirrorRank_g v1 v2 v3 v4 = some y) : ∃ F' H', Fwd 0 F F' [] (laws_FnExactMirrorRank_enc v1 v2 v3 v4 y).2 ∧ FnOk Try.prog 9 (DVs.av F [.agg [.int .i64 v1, .int .i64 v2, .bslc (BR.root 0) (.f32 v3)], .flt .f32 v4]) F.H0 ((laws_FnExactMirrorRank_enc v1 v2 v3 v4 y).1.av F') H' ∧ St F' (laws_FnExactMirrorRank_enc v1 v2 v3 v4 y).2 H' ∧ (laws_FnExactMirrorRank_enc v1 v2 v3 v4 y).1.Ok F' (laws_FnExactMirrorRank_enc v1 v2 v3 v4 y).2 :=
  fn_fin tok laws_FnExactMirrorRank_hO mixed Try.func9 Try.call9 (by kernel_rfl) (LoopsOk_eq (l := []) (by kernel_rfl) trivial) (laws_FnExactMirrorRank_den v1 v2 v3 v4) hy h0 hA
noncomputable def laws_FnExactMirrorRank_F : DFn := fun args L =>
  match args with
  | [.agg [.int .i64 v1, .int .i64 v2, a1], .flt .f32 v4] =>
    optT (rowF32 L a1) fun v3 =>
    .call (laws_FnExactMirrorRank_g v1 v2 v3 v4) fun y => .leaf (.bool y, L)
  | _ => .fail
theorem laws_FnExactMirrorRank_Fok : COk Try.prog 9 laws_FnExactMirrorRank_F true := by
  intro F L H args r L' hs ha hr
  unfold laws_FnExactMirrorRank_F at hr
  split at hr
  · rename_i v1 v2 a1 v4
    obtain ⟨v3, hv3, hr⟩ := optT_run hr
    simp only [Tree.run] at hr
    obtain ⟨y, hy, hr⟩ := Option.bind_eq_some_iff.1 hr
    simp only [Tree.run, Option.some.injEq, Prod.mk.injEq] at hr
    obtain ⟨rfl, rfl⟩ := hr
    exact call_ok0 hs (fun k => (([a1.av F] : List AV)[k]?).getD .top) [.agg [.int .i64 v1, .int .i64 v2, a1], .flt .f32 v4] [.agg [.int .i64 v1, .int .i64 v2, .bslc (BR.root 0) (.f32 v3)], .flt .f32 v4] (fun F' h0 hi hρ => ⟨by simp [DVs.av, DV.av, BR.av, hρ], laws_FnExactMirrorRank_fn v1 v2 v3 v4 F' (st_nil hi) ⟨⟨trivial, trivial, bslc_ok hi (by rw [h0, hρ]; exact rowF32_ok hs (DVs.okAt (DVs.okAt ha 0 rfl) 2 rfl) hv3), trivial⟩, trivial, trivial⟩ hy⟩) rfl
  · cases hr
/-! laws.szFloat32S -/
noncomputable def laws_szFloat32S_len_LO (v1197 : Nat) (v1198 : Int) : LOr := fun id e L =>
  match id with
  | _ => .fail
noncomputable def laws_szFloat32S_len_tab : List (FuncId × DFn × Bool) := []
theorem laws_szFloat32S_len_hO : OrcOk Try.prog (tabD laws_szFloat32S_len_tab) (tabM laws_szFloat32S_len_tab) := tabD_nil _
noncomputable def laws_szFloat32S_len_T (v1197 : Nat) (v1198 : Int) : Tree (Int) :=
  (.br (decide (IntKind.i64.wrap (v1198 - ((v1197 : Nat) : Int)) < (0 : Int))) (
   .leaf (-1 : Int)
  ) (
   .leaf (IntKind.i64.wrap (v1198 - ((v1197 : Nat) : Int)))
  ))

noncomputable def laws_szFloat32S_len_g (v1197 : Nat) (v1198 : Int) : Option (Int) := (laws_szFloat32S_len_T v1197 v1198).run
def laws_szFloat32S_len_enc (v1197 : Nat) (v1198 : Int) (y : Int) : Rs := (.int .i64 y, [])
theorem laws_szFloat32S_len_den (v1197 : Nat) (v1198 : Int) : (den TT (tabD laws_szFloat32S_len_tab) (tabM laws_szFloat32S_len_tab) (laws_szFloat32S_len_LO v1197 v1198) (codeOf Try.f96) ([.hslc (BR.root 0) v1197, .int .i64 v1198] ++ List.replicate (Try.f96.ntmps - ([.hslc (BR.root 0) v1197, .int .i64 v1198] : List DV).length) .undef) []).bind (retD TT Try.f96.results.toList 0) = (laws_szFloat32S_len_T v1197 v1198).bind fun y => .leaf (laws_szFloat32S_len_enc v1197 v1198 y) := by kernel_rfl
theorem laws_szFloat32S_len_fn (v1197 : Nat) (v1198 : Int) (F : Fr) (h0 : St F [] F.H0) (hA : DVs.Ok F [] [.hslc (BR.root 0) v1197, .int .i64 v1198]) {y : Int} (hy : laws_szFloat32S_len_g v1197 v1198 = some y) : ∃ F' H', Fwd 0 F F' [] (laws_szFloat32S_len_enc v1197 v1198 y).2 ∧ FnOk Try.prog 96 (DVs.av F [.hslc (BR.root 0) v1197, .int .i64 v1198]) F.H0 ((laws_szFloat32S_len_enc v1197 v1198 y).1.av F') H' ∧ St F' (laws_szFloat32S_len_enc v1197 v1198 y).2 H' ∧ (laws_szFloat32S_len_enc v1197 v1198 y).1.Ok F' (laws_szFloat32S_len_enc v1197 v1198 y).2 :=
  fn_fin tok laws_szFloat32S_len_hO mixed Try.func96 Try.call96 (by kernel_rfl) (LoopsOk_eq (l := []) (by kernel_rfl) trivial) (laws_szFloat32S_len_den v1197 v1198) hy h0 hA
def laws_szFloat32S_len_v (v1197 : Nat) (v1198 : Int) : Int :=
  if (decide (IntKind.i64.wrap (v1198 - ((v1197 : Nat) : Int)) < (0 : Int))) = true then (
   (-1 : Int)
  ) else (
   IntKind.i64.wrap (v1198 - ((v1197 : Nat) : Int))
  )
theorem laws_szFloat32S_len_tot (v1197 : Nat) (v1198 : Int) : laws_szFloat32S_len_g v1197 v1198 = some (laws_szFloat32S_len_v v1197 v1198) := by
  unfold laws_szFloat32S_len_g laws_szFloat32S_len_T laws_szFloat32S_len_v
  simp only [Tree.run]
  repeat' (first | rfl | split)
noncomputable def laws_szFloat32S_len_F : DFn := fun args L =>
  match args with
  | [a1, .int .i64 v1198] =>
    optT (lenV L a1) fun v1197 =>
    .leaf (.int .i64 (laws_szFloat32S_len_v v1197 v1198), L)
  | _ => .fail
theorem laws_szFloat32S_len_Fok : COk Try.prog 96 laws_szFloat32S_len_F true := by
  intro F L H args r L' hs ha hr
  unfold laws_szFloat32S_len_F at hr
  split at hr
  · rename_i a1 v1198
    obtain ⟨v1197, hv1197, hr⟩ := optT_run hr
    have hy := laws_szFloat32S_len_tot v1197 v1198
    generalize laws_szFloat32S_len_v v1197 v1198 = y at hy hr
    simp only [Tree.run, Option.some.injEq, Prod.mk.injEq] at hr
    obtain ⟨rfl, rfl⟩ := hr
    exact call_ok0 hs (fun k => (([a1.av F] : List AV)[k]?).getD .top) [a1, .int .i64 v1198] [.hslc (BR.root 0) v1197, .int .i64 v1198] (fun F' h0 hi hρ => ⟨by simp [DVs.av, DV.av, BR.av, hρ], laws_szFloat32S_len_fn v1197 v1198 F' (st_nil hi) ⟨hslc_ok hi (by rw [h0, hρ]; exact lenV_ok hs (DVs.okAt ha 0 rfl) hv1197), trivial, trivial⟩ hy⟩) rfl
  · cases hr
/-! laws.szMatrix -/
noncomputable def laws_szMatrix_len_LO (v1193 : Int) (v1194 : Int) (v1195 : Nat) (v1196 : Int) : LOr := fun id e L =>
  match id with
  | _ => .fail
noncomputable def laws_szMatrix_len_tab : List (FuncId × DFn × Bool) := [(96, laws_szFloat32S_len_F, true)]
theorem laws_szMatrix_len_hO : OrcOk Try.prog (tabD laws_szMatrix_len_tab) (tabM laws_szMatrix_len_tab) := tabD_cons laws_szFloat32S_len_Fok (tabD_nil _)
noncomputable def laws_szMatrix_len_T (v1195 : Nat) (v1196 : Int) : Tree (Int) :=
  (.br (decide ((laws_szFloat32S_len_v v1195 v1196) < (0 : Int))) (
   .leaf (-1 : Int)
  ) (
   .leaf (laws_szFloat32S_len_v v1195 v1196)
  ))

noncomputable def laws_szMatrix_len_g (v1195 : Nat) (v1196 : Int) : Option (Int) := (laws_szMatrix_len_T v1195 v1196).run
def laws_szMatrix_len_enc (v1193 : Int) (v1194 : Int) (v1195 : Nat) (v1196 : Int) (y : Int) : Rs := (.int .i64 y, [])
theorem laws_szMatrix_len_den (v1193 : Int) (v1194 : Int) (v1195 : Nat) (v1196 : Int) : (den TT (tabD laws_szMatrix_len_tab) (tabM laws_szMatrix_len_tab) (laws_szMatrix_len_LO v1193 v1194 v1195 v1196) (codeOf Try.f36) ([.agg [.int .i64 v1193, .int .i64 v1194, .hslc (BR.root 0) v1195], .int .i64 v1196] ++ List.replicate (Try.f36.ntmps - ([.agg [.int .i64 v1193, .int .i64 v1194, .hslc (BR.root 0) v1195], .int .i64 v1196] : List DV).length) .undef) []).bind (retD TT Try.f36.results.toList 0) = (laws_szMatrix_len_T v1195 v1196).bind fun y => .leaf (laws_szMatrix_len_enc v1193 v1194 v1195 v1196 y) := by kernel_rfl
theorem laws_szMatrix_len_fn (v1193 : Int) (v1194 : Int) (v1195 : Nat) (v1196 : Int) (F : Fr) (h0 : St F [] F.H0) (hA : DVs.Ok F [] [.agg [.int .i64 v1193, .int .i64 v1194, .hslc (BR.root 0) v1195], .int .i64 v1196]) {y : Int} (hy : laws_szMatrix_len_g v1195 v1196 = some y) : ∃ F' H', Fwd 0 F F' [] (laws_szMatrix_len_enc v1193 v1194 v1195 v1196 y).2 ∧ FnOk Try.prog 36 (DVs.av F [.agg [.int .i64 v1193, .int .i64 v1194, .hslc (BR.root 0) v1195], .int .i64 v1196]) F.H0 ((laws_szMatrix_len_enc v1193 v1194 v1195 v1196 y).1.av F') H' ∧ St F' (laws_szMatrix_len_enc v1193 v1194 v1195 v1196 y).2 H' ∧ (laws_szMatrix_len_enc v1193 v1194 v1195 v1196 y).1.Ok F' (laws_szMatrix_len_enc v1193 v1194 v1195 v1196 y).2 :=
  fn_fin tok laws_szMatrix_len_hO mixed Try.func36 Try.call36 (by kernel_rfl) (LoopsOk_eq (l := []) (by kernel_rfl) trivial) (laws_szMatrix_len_den v1193 v1194 v1195 v1196) hy h0 hA
def laws_szMatrix_len_v (v1195 : Nat) (v1196 : Int) : Int :=
  if (decide ((laws_szFloat32S_len_v v1195 v1196) < (0 : Int))) = true then (
   (-1 : Int)
  ) else (
   (laws_szFloat32S_len_v v1195 v1196)
  )
theorem laws_szMatrix_len_tot (v1195 : Nat) (v1196 : Int) : laws_szMatrix_len_g v1195 v1196 = some (laws_szMatrix_len_v v1195 v1196) := by
  unfold laws_szMatrix_len_g laws_szMatrix_len_T laws_szMatrix_len_v
  simp only [Tree.run]
  repeat' (first | rfl | split)
noncomputable def laws_szMatrix_len_F : DFn := fun args L =>
  match args with
  | [.agg [.int .i64 v1193, .int .i64 v1194, a1], .int .i64 v1196] =>
    optT (lenV L a1) fun v1195 =>
    .leaf (.int .i64 (laws_szMatrix_len_v v1195 v1196), L)
  | _ => .fail
theorem laws_szMatrix_len_Fok : COk Try.prog 36 laws_szMatrix_len_F true := by
  intro F L H args r L' hs ha hr
  unfold laws_szMatrix_len_F at hr
  split at hr
  · rename_i v1193 v1194 a1 v1196
    obtain ⟨v1195, hv1195, hr⟩ := optT_run hr
    have hy := laws_szMatrix_len_tot v1195 v1196
    generalize laws_szMatrix_len_v v1195 v1196 = y at hy hr
    simp only [Tree.run, Option.some.injEq, Prod.mk.injEq] at hr
    obtain ⟨rfl, rfl⟩ := hr
    exact call_ok0 hs (fun k => (([a1.av F] : List AV)[k]?).getD .top) [.agg [.int .i64 v1193, .int .i64 v1194, a1], .int .i64 v1196] [.agg [.int .i64 v1193, .int .i64 v1194, .hslc (BR.root 0) v1195], .int .i64 v1196] (fun F' h0 hi hρ => ⟨by simp [DVs.av, DV.av, BR.av, hρ], laws_szMatrix_len_fn v1193 v1194 v1195 v1196 F' (st_nil hi) ⟨⟨trivial, trivial, hslc_ok hi (by rw [h0, hρ]; exact lenV_ok hs (DVs.okAt (DVs.okAt ha 0 rfl) 2 rfl) hv1195), trivial⟩, trivial, trivial⟩ hy⟩) rfl
  · cases hr
/-! laws.FnExactMirrorRank -/
noncomputable def laws_FnExactMirrorRank_len_LO (v1189 : Int) (v1190 : Int) (v1191 : Nat) (v1192 : Nat) : LOr := fun id e L =>
  match id with
  | _ => .fail
noncomputable def laws_FnExactMirrorRank_len_tab : List (FuncId × DFn × Bool) := [(36, laws_szMatrix_len_F, true)]
theorem laws_FnExactMirrorRank_len_hO : OrcOk Try.prog (tabD laws_FnExactMirrorRank_len_tab) (tabM laws_FnExactMirrorRank_len_tab) := tabD_cons laws_szMatrix_len_Fok (tabD_nil _)
noncomputable def laws_FnExactMirrorRank_len_T (v1191 : Nat) : Tree (Bool) :=
  (.br (decide ((laws_szMatrix_len_v v1191 (1048576 : Int)) < (0 : Int))) (
   .leaf true
  ) (
   .fail
  ))

noncomputable def laws_FnExactMirrorRank_len_g (v1191 : Nat) : Option (Bool) := (laws_FnExactMirrorRank_len_T v1191).run
def laws_FnExactMirrorRank_len_enc (v1189 : Int) (v1190 : Int) (v1191 : Nat) (v1192 : Nat) (y : Bool) : Rs := (.bool y, [])
theorem laws_FnExactMirrorRank_len_den (v1189 : Int) (v1190 : Int) (v1191 : Nat) (v1192 : Nat) : (den TT (tabD laws_FnExactMirrorRank_len_tab) (tabM laws_FnExactMirrorRank_len_tab) (laws_FnExactMirrorRank_len_LO v1189 v1190 v1191 v1192) (codeOf Try.f9) ([.agg [.int .i64 v1189, .int .i64 v1190, .hslc (BR.root 0) v1191], .flt .f32 v1192] ++ List.replicate (Try.f9.ntmps - ([.agg [.int .i64 v1189, .int .i64 v1190, .hslc (BR.root 0) v1191], .flt .f32 v1192] : List DV).length) .undef) []).bind (retD TT Try.f9.results.toList 0) = (laws_FnExactMirrorRank_len_T v1191).bind fun y => .leaf (laws_FnExactMirrorRank_len_enc v1189 v1190 v1191 v1192 y) := by kernel_rfl
theorem laws_FnExactMirrorRank_len_fn (v1189 : Int) (v1190 : Int) (v1191 : Nat) (v1192 : Nat) (F : Fr) (h0 : St F [] F.H0) (hA : DVs.Ok F [] [.agg [.int .i64 v1189, .int .i64 v1190, .hslc (BR.root 0) v1191], .flt .f32 v1192]) {y : Bool} (hy : laws_FnExactMirrorRank_len_g v1191 = some y) : ∃ F' H', Fwd 0 F F' [] (laws_FnExactMirrorRank_len_enc v1189 v1190 v1191 v1192 y).2 ∧ FnOk Try.prog 9 (DVs.av F [.agg [.int .i64 v1189, .int .i64 v1190, .hslc (BR.root 0) v1191], .flt .f32 v1192]) F.H0 ((laws_FnExactMirrorRank_len_enc v1189 v1190 v1191 v1192 y).1.av F') H' ∧ St F' (laws_FnExactMirrorRank_len_enc v1189 v1190 v1191 v1192 y).2 H' ∧ (laws_FnExactMirrorRank_len_enc v1189 v1190 v1191 v1192 y).1.Ok F' (laws_FnExactMirrorRank_len_enc v1189 v1190 v1191 v1192 y).2 :=
  fn_fin tok laws_FnExactMirrorRank_len_hO mixed Try.func9 Try.call9 (by kernel_rfl) (LoopsOk_eq (l := []) (by kernel_rfl) trivial) (laws_FnExactMirrorRank_len_den v1189 v1190 v1191 v1192) hy h0 hA
noncomputable def laws_FnExactMirrorRank_len_F : DFn := fun args L =>
  match args with
  | [.agg [.int .i64 v1189, .int .i64 v1190, a1], .flt .f32 v1192] =>
    optT (lenV L a1) fun v1191 =>
    .call (laws_FnExactMirrorRank_len_g v1191) fun y => .leaf (.bool y, L)
  | _ => .fail
theorem laws_FnExactMirrorRank_len_Fok : COk Try.prog 9 laws_FnExactMirrorRank_len_F true := by
  intro F L H args r L' hs ha hr
  unfold laws_FnExactMirrorRank_len_F at hr
  split at hr
  · rename_i v1189 v1190 a1 v1192
    obtain ⟨v1191, hv1191, hr⟩ := optT_run hr
    simp only [Tree.run] at hr
    obtain ⟨y, hy, hr⟩ := Option.bind_eq_some_iff.1 hr
    simp only [Tree.run, Option.some.injEq, Prod.mk.injEq] at hr
    obtain ⟨rfl, rfl⟩ := hr
    exact call_ok0 hs (fun k => (([a1.av F] : List AV)[k]?).getD .top) [.agg [.int .i64 v1189, .int .i64 v1190, a1], .flt .f32 v1192] [.agg [.int .i64 v1189, .int .i64 v1190, .hslc (BR.root 0) v1191], .flt .f32 v1192] (fun F' h0 hi hρ => ⟨by simp [DVs.av, DV.av, BR.av, hρ], laws_FnExactMirrorRank_len_fn v1189 v1190 v1191 v1192 F' (st_nil hi) ⟨⟨trivial, trivial, hslc_ok hi (by rw [h0, hρ]; exact lenV_ok hs (DVs.okAt (DVs.okAt ha 0 rfl) 2 rfl) hv1191), trivial⟩, trivial, trivial⟩ hy⟩) rfl
  · cases hr
end Go.Proofs.Ytimlecagkbbnpaa.AM
