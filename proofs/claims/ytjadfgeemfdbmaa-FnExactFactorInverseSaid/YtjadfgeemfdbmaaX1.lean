/- Functions: what they come to. -/
import Derived.Test.YtjadfgeemfdbmaaX0
set_option maxRecDepth 100000
set_option maxHeartbeats 4000000
set_option linter.unusedSimpArgs false
set_option linter.unusedVariables false
namespace Go.Proofs.Ytjadfgeemfdbmaa.AM
open Go.Proofs
/-! impl.newMatrix -/
noncomputable def impl_newMatrix_LO (v375 : Int) (v376 : Int) : LOr := fun id e L =>
  match id with
  | _ => .fail
noncomputable def impl_newMatrix_tab : List (FuncId × DFn × Bool) := []
theorem impl_newMatrix_hO : OrcOk Try.prog (tabD impl_newMatrix_tab) (tabM impl_newMatrix_tab) := tabD_nil _
noncomputable def impl_newMatrix_T (v375 : Int) (v376 : Int) : Tree (Int × Int) :=
  (.need (IntKind.i64.wrap (v375 * v376) = IntKind.i64.wrap (v375 * v376)) <|
  (.grd (inb (IntKind.i64.wrap (v375 * v376)) (maxN + 1)) <|
  .leaf (v375, v376)))

noncomputable def impl_newMatrix_g (v375 : Int) (v376 : Int) : Option (Int × Int) := (impl_newMatrix_T v375 v376).run
def impl_newMatrix_enc (v375 : Int) (v376 : Int) (y : Int × Int) : Rs := (.agg [.int .i64 y.1, .int .i64 y.2, .own 0 0 ((List.replicate (Int.toNat (IntKind.i64.wrap (v375 * v376))) (0 : Nat)).length)], [.row (.f32 (List.replicate (Int.toNat (IntKind.i64.wrap (v375 * v376))) (0 : Nat))) 0])
theorem impl_newMatrix_den (v375 : Int) (v376 : Int) : (den TT (tabD impl_newMatrix_tab) (tabM impl_newMatrix_tab) (impl_newMatrix_LO v375 v376) (codeOf Try.f125) ([.int .i64 v375, .int .i64 v376] ++ List.replicate (Try.f125.ntmps - ([.int .i64 v375, .int .i64 v376] : List DV).length) .undef) []).bind (retD TT Try.f125.results.toList 0) = (impl_newMatrix_T v375 v376).bind fun y => .leaf (impl_newMatrix_enc v375 v376 y) := by kernel_rfl
theorem impl_newMatrix_fn (v375 : Int) (v376 : Int) (F : Fr) (hm : F.ids.length = 0) (h0 : St F [] F.H0) (hA : DVs.Ok F [] [.int .i64 v375, .int .i64 v376]) {y : Int × Int} (hy : impl_newMatrix_g v375 v376 = some y) : ∃ H', FnOk Try.prog 125 (DVs.av F [.int .i64 v375, .int .i64 v376]) F.H0 ((impl_newMatrix_enc v375 v376 y).1.av F) H' ∧ St F (impl_newMatrix_enc v375 v376 y).2 H' ∧ (impl_newMatrix_enc v375 v376 y).1.Ok F (impl_newMatrix_enc v375 v376 y).2 :=
  fn_fin tok impl_newMatrix_hO mixed Try.func125 Try.call125 (by kernel_rfl) (LoopsOk_eq (l := []) (by kernel_rfl) trivial) (impl_newMatrix_den v375 v376) hy hm h0 hA
noncomputable def impl_newMatrix_F : DFn := fun args L =>
  match args with
  | [.int .i64 v375, .int .i64 v376] =>
    .call (impl_newMatrix_g v375 v376) fun y => .leaf (.agg [.int .i64 y.1, .int .i64 y.2, .own (L.length + 0) 0 ((List.replicate (Int.toNat (IntKind.i64.wrap (v375 * v376))) (0 : Nat)).length)], L ++ [.row (.f32 (List.replicate (Int.toNat (IntKind.i64.wrap (v375 * v376))) (0 : Nat))) 0])
  | _ => .fail
theorem impl_newMatrix_Fok : COk Try.prog 125 impl_newMatrix_F true := by
  intro F L H args r L' hs ha hr
  unfold impl_newMatrix_F at hr
  split at hr
  · rename_i v375 v376
    simp only [Tree.run] at hr
    obtain ⟨y, hy, hr⟩ := Option.bind_eq_some_iff.1 hr
    simp only [Tree.run, Option.some.injEq, Prod.mk.injEq] at hr
    obtain ⟨rfl, rfl⟩ := hr
    exact call_ok1 hs (fun k => (([] : List AV)[k]?).getD .top) [.int .i64 v375, .int .i64 v376] [.int .i64 v375, .int .i64 v376] (fun F' h0 hi hρ => ⟨by simp [DVs.av, DV.av, BR.av, hρ], impl_newMatrix_fn v375 v376 F' (by rw [hi]; rfl) (st_nil hi) ⟨trivial, trivial, trivial⟩ hy⟩) rfl rfl
  · cases hr
/-! impl.unit$1 -/
noncomputable def impl_unit_1_LO (v392 : Int) (v393 : Int) : LOr := fun id e L =>
  match id with
  | _ => .fail
noncomputable def impl_unit_1_tab : List (FuncId × DFn × Bool) := []
theorem impl_unit_1_hO : OrcOk Try.prog (tabD impl_unit_1_tab) (tabM impl_unit_1_tab) := tabD_nil _
noncomputable def impl_unit_1_T (v392 : Int) (v393 : Int) : Tree (Nat) :=
  (.br (decide (v392 = v393)) (
   .leaf (1065353216 : Nat)
  ) (
   .leaf (0 : Nat)
  ))

noncomputable def impl_unit_1_g (v392 : Int) (v393 : Int) : Option (Nat) := (impl_unit_1_T v392 v393).run
def impl_unit_1_enc (v392 : Int) (v393 : Int) (y : Nat) : Rs := (.flt .f32 y, [])
theorem impl_unit_1_den (v392 : Int) (v393 : Int) : (den TT (tabD impl_unit_1_tab) (tabM impl_unit_1_tab) (impl_unit_1_LO v392 v393) (codeOf Try.f143) ([.int .i64 v392, .int .i64 v393] ++ List.replicate (Try.f143.ntmps - ([.int .i64 v392, .int .i64 v393] : List DV).length) .undef) []).bind (retD TT Try.f143.results.toList 0) = (impl_unit_1_T v392 v393).bind fun y => .leaf (impl_unit_1_enc v392 v393 y) := by kernel_rfl
theorem impl_unit_1_fn (v392 : Int) (v393 : Int) (F : Fr) (hm : F.ids.length = 0) (h0 : St F [] F.H0) (hA : DVs.Ok F [] [.int .i64 v392, .int .i64 v393]) {y : Nat} (hy : impl_unit_1_g v392 v393 = some y) : ∃ H', FnOk Try.prog 143 (DVs.av F [.int .i64 v392, .int .i64 v393]) F.H0 ((impl_unit_1_enc v392 v393 y).1.av F) H' ∧ St F (impl_unit_1_enc v392 v393 y).2 H' ∧ (impl_unit_1_enc v392 v393 y).1.Ok F (impl_unit_1_enc v392 v393 y).2 :=
  fn_fin tok impl_unit_1_hO mixed Try.func143 Try.call143 (by kernel_rfl) (LoopsOk_eq (l := []) (by kernel_rfl) trivial) (impl_unit_1_den v392 v393) hy hm h0 hA
def impl_unit_1_v (v392 : Int) (v393 : Int) : Nat :=
  if (decide (v392 = v393)) = true then (
   (1065353216 : Nat)
  ) else (
   (0 : Nat)
  )
theorem impl_unit_1_tot (v392 : Int) (v393 : Int) : impl_unit_1_g v392 v393 = some (impl_unit_1_v v392 v393) := by
  unfold impl_unit_1_g impl_unit_1_T impl_unit_1_v
  simp only [Tree.run]
  repeat' (first | rfl | split)
noncomputable def impl_unit_1_F : DFn := fun args L =>
  match args with
  | [.int .i64 v392, .int .i64 v393] =>
    .leaf (.flt .f32 (impl_unit_1_v v392 v393), L)
  | _ => .fail
theorem impl_unit_1_Fok : COk Try.prog 143 impl_unit_1_F true := by
  intro F L H args r L' hs ha hr
  unfold impl_unit_1_F at hr
  split at hr
  · rename_i v392 v393
    have hy := impl_unit_1_tot v392 v393
    generalize impl_unit_1_v v392 v393 = y at hy hr
    simp only [Tree.run, Option.some.injEq, Prod.mk.injEq] at hr
    obtain ⟨rfl, rfl⟩ := hr
    exact call_ok0 hs (fun k => (([] : List AV)[k]?).getD .top) [.int .i64 v392, .int .i64 v393] [.int .i64 v392, .int .i64 v393] (fun F' h0 hi hρ => ⟨by simp [DVs.av, DV.av, BR.av, hρ], impl_unit_1_fn v392 v393 F' (by rw [hi]; rfl) (st_nil hi) ⟨trivial, trivial, trivial⟩ hy⟩) rfl
  · cases hr
/-! (impl.Matrix).set -/
noncomputable def impl_Matrix_set_LO (v400 : Int) (v401 : Int) (v402 : List Nat) (v403 : Int) (v404 : Int) (v405 : Nat) : LOr := fun id e L =>
  match id with
  | _ => .fail
noncomputable def impl_Matrix_set_tab : List (FuncId × DFn × Bool) := []
theorem impl_Matrix_set_hO : OrcOk Try.prog (tabD impl_Matrix_set_tab) (tabM impl_Matrix_set_tab) := tabD_nil _
noncomputable def impl_Matrix_set_T (v401 : Int) (v402 : List Nat) (v403 : Int) (v404 : Int) : Tree (Unit) :=
  (.grd (inb (IntKind.i64.wrap ((IntKind.i64.wrap (v403 * v401)) + v404)) v402.length) <|
  .leaf ())

noncomputable def impl_Matrix_set_g (v401 : Int) (v402 : List Nat) (v403 : Int) (v404 : Int) : Option (Unit) := (impl_Matrix_set_T v401 v402 v403 v404).run
def impl_Matrix_set_enc (v400 : Int) (v401 : Int) (v402 : List Nat) (v403 : Int) (v404 : Int) (v405 : Nat) (y : Unit) : Rs := (.tup [], [.row (.f32 (List.set v402 (Int.toNat (IntKind.i64.wrap ((IntKind.i64.wrap (v403 * v401)) + v404))) v405)) 0])
theorem impl_Matrix_set_den (v400 : Int) (v401 : Int) (v402 : List Nat) (v403 : Int) (v404 : Int) (v405 : Nat) : (den TT (tabD impl_Matrix_set_tab) (tabM impl_Matrix_set_tab) (impl_Matrix_set_LO v400 v401 v402 v403 v404 v405) (codeOf Try.f142) ([.agg [.int .i64 v400, .int .i64 v401, .own 0 0 v402.length], .int .i64 v403, .int .i64 v404, .flt .f32 v405] ++ List.replicate (Try.f142.ntmps - ([.agg [.int .i64 v400, .int .i64 v401, .own 0 0 v402.length], .int .i64 v403, .int .i64 v404, .flt .f32 v405] : List DV).length) .undef) [.row (.f32 v402) 0]).bind (retD TT Try.f142.results.toList 1) = (impl_Matrix_set_T v401 v402 v403 v404).bind fun y => .leaf (impl_Matrix_set_enc v400 v401 v402 v403 v404 v405 y) := by kernel_rfl
theorem impl_Matrix_set_fn (v400 : Int) (v401 : Int) (v402 : List Nat) (v403 : Int) (v404 : Int) (v405 : Nat) (F : Fr) (hm : F.ids.length = 1) (h0 : St F [.row (.f32 v402) 0] F.H0) (hA : DVs.Ok F [.row (.f32 v402) 0] [.agg [.int .i64 v400, .int .i64 v401, .own 0 0 v402.length], .int .i64 v403, .int .i64 v404, .flt .f32 v405]) {y : Unit} (hy : impl_Matrix_set_g v401 v402 v403 v404 = some y) : ∃ H', FnOk Try.prog 142 (DVs.av F [.agg [.int .i64 v400, .int .i64 v401, .own 0 0 v402.length], .int .i64 v403, .int .i64 v404, .flt .f32 v405]) F.H0 ((impl_Matrix_set_enc v400 v401 v402 v403 v404 v405 y).1.av F) H' ∧ St F (impl_Matrix_set_enc v400 v401 v402 v403 v404 v405 y).2 H' ∧ (impl_Matrix_set_enc v400 v401 v402 v403 v404 v405 y).1.Ok F (impl_Matrix_set_enc v400 v401 v402 v403 v404 v405 y).2 :=
  fn_fin tok impl_Matrix_set_hO mixed Try.func142 Try.call142 (by kernel_rfl) (LoopsOk_eq (l := []) (by kernel_rfl) trivial) (impl_Matrix_set_den v400 v401 v402 v403 v404 v405) hy hm h0 hA
noncomputable def impl_Matrix_set_F : DFn := fun args L =>
  match args with
  | [.agg [.int .i64 v400, .int .i64 v401, a1], .int .i64 v403, .int .i64 v404, .flt .f32 v405] =>
    optT (ownF32 L a1) fun qv402 =>
    (match sepB [qv402.1] [] with
    | true =>
    .call (impl_Matrix_set_g v401 qv402.2 v403 v404) fun y => .grd (decide ((List.set qv402.2 (Int.toNat (IntKind.i64.wrap ((IntKind.i64.wrap (v403 * v401)) + v404))) v405).length = qv402.2.length)) (.leaf (.tup [], setRows L ([qv402.1].zip [.f32 (List.set qv402.2 (Int.toNat (IntKind.i64.wrap ((IntKind.i64.wrap (v403 * v401)) + v404))) v405)])))
    | false => .fail)
  | _ => .fail
theorem impl_Matrix_set_Fok : COk Try.prog 142 impl_Matrix_set_F false := by
  intro F L H args r L' hs ha hr
  unfold impl_Matrix_set_F at hr
  split at hr
  · rename_i v400 v401 a1 v403 v404 v405
    obtain ⟨⟨jv402, v402⟩, hqv402, hr⟩ := optT_run hr
    simp only at hr
    split at hr
    · rename_i hsep
      obtain ⟨hnd, hsepv⟩ := sepB_spec hsep
      simp only [Tree.run] at hr
      obtain ⟨y, hy, hr⟩ := Option.bind_eq_some_iff.1 hr
      try simp only [Tree.run] at hr
      obtain ⟨hl0, hr⟩ := ite_run hr
      simp only [Option.some.injEq, Prod.mk.injEq] at hr
      obtain ⟨rfl, rfl⟩ := hr
      obtain ⟨hr0, hu0, ha0, hb0⟩ := (ownR_spec (DVs.okAt (DVs.okAt ha 0 rfl) 2 rfl) (ownF32_or hqv402))
      exact mut_ok hs (fun k => (([a1.av F] : List AV)[k]?).getD .top) [.agg [.int .i64 v400, .int .i64 v401, a1], .int .i64 v403, .int .i64 v404, .flt .f32 v405] [.agg [.int .i64 v400, .int .i64 v401, .own 0 0 v402.length], .int .i64 v403, .int .i64 v404, .flt .f32 v405] [jv402] [.f32 v402] [.f32 (List.set v402 (Int.toNat (IntKind.i64.wrap ((IntKind.i64.wrap (v403 * v401)) + v404))) v405)] hnd rfl rfl (fun i j q h1 h2 => by
          rcases i with _ | i
          · simp at h1 h2; subst h1; subst h2; exact hr0
          · simp at h1) (fun i q q' h1 h2 => by
          rcases i with _ | i
          · simp at h1 h2; subst h1; subst h2; exact of_decide_eq_true hl0
          · simp at h1) (fun j hj => by simp at hj; subst hj; simp [DVs.refs, DV.refs, hu0]) (fun F' h0 hi hρ hst hS => ⟨by (have ab0 : F'.abs 0 = F.abs jv402 := (by simp [Fr.abs, hi]); simp [DVs.av, DV.av, BR.av, hρ, Row.len, ha0, ab0]), by
          obtain ⟨H1, k1, k2, _⟩ := impl_Matrix_set_fn v400 v401 v402 v403 v404 v405 F' (by rw [hi]; rfl) hst ⟨⟨trivial, trivial, ⟨_, rfl, Nat.le_refl _, Nat.le_refl _, fun _ => rfl, (ownR_spec (DVs.okAt (DVs.okAt ha 0 rfl) 2 rfl) (ownF32_or hqv402)).2.2.2⟩, trivial⟩, trivial, trivial, trivial, trivial⟩ hy
          exact ⟨H1, k1, k2⟩⟩) (fun F' => rfl) (fun L' => trivial)
    · cases hr
  · cases hr
/-! impl.made -/
noncomputable def impl_made_l2_T (v383 : Int) (v459 : Int) (v461 : Int) (v462 : Int) (s : Int × (List Nat)) : Tree ((Int × (List Nat)) ⊕ ((List Nat))) :=
  (.br (decide (s.1 < v383)) (
   (.call (impl_Matrix_set_g v462 s.2 v459 s.1) fun v464 =>
   (.grd (decide ((List.set s.2 (Int.toNat (IntKind.i64.wrap ((IntKind.i64.wrap (v459 * v462)) + s.1))) (impl_unit_1_v v459 s.1)).length = s.2.length)) <|
   .leaf (.inl (IntKind.i64.wrap (s.1 + (1 : Int)), List.set s.2 (Int.toNat (IntKind.i64.wrap ((IntKind.i64.wrap (v459 * v462)) + s.1))) (impl_unit_1_v v459 s.1)))))
  ) (
   .leaf (.inr s.2)
  ))

noncomputable def impl_made_l2_g (v383 : Int) (v459 : Int) (v461 : Int) (v462 : Int) (s0 : Int × (List Nat)) : Option ((List Nat)) := whileM (fun s => (impl_made_l2_T v383 v459 v461 v462 s).run) s0
def impl_made_l2_E (v382 : Int) (v383 : Int) (v459 : Int) (v461 : Int) (v462 : Int) (s : Int × (List Nat)) : Sd := ([.top, .int .i64 v383, .fn 143 [], .top, .top, .top, .ptr 0 (0 : Nat) 0 (3 : Nat), .ptr 1 (0 : Nat) 0 (3 : Nat), .int .i64 v459, .top, .top, .top, .top, .int .i64 v382, .int .i64 v459, .top, .top, .int .i64 v383, .int .i64 s.1, .top, .top, .top, .top, .top, .top, .top, .top, .top, .top, .top, .top, .top], [.gen [.int .i64 (0 : Int), .int .i64 (0 : Int), .nilslc] false 0, .gen [.int .i64 v461, .int .i64 v462, .own 2 0 ((s.2).length)] false 0, .row (.f32 s.2) 0])
def impl_made_l2_X (v382 : Int) (v383 : Int) (v459 : Int) (v461 : Int) (v462 : Int) (x : (List Nat)) : Out := (.normal, [.top, .int .i64 v383, .fn 143 [], .top, .top, .top, .ptr 0 (0 : Nat) 0 (3 : Nat), .ptr 1 (0 : Nat) 0 (3 : Nat), .top, .top, .top, .top, .top, .int .i64 v382, .int .i64 v459, .top, .top, .top, .top, .top, .top, .top, .top, .top, .top, .top, .top, .top, .top, .top, .top, .top], [.gen [.int .i64 (0 : Int), .int .i64 (0 : Int), .nilslc] false 0, .gen [.int .i64 v461, .int .i64 v462, .own 2 0 ((x).length)] false 0, .row (.f32 x) 0])
def impl_made_l2_kill : List Nat := [1, 0, 0, 1, 1, 1, 0, 0, 0, 1, 1, 1, 1, 0, 0, 1, 1, 0, 0, 1, 1, 1, 1, 1, 1, 1, 1, 1, 1, 1, 1, 1]
def impl_made_l2_nx : Exit → List Nat
  | .exit 0 => [1, 1, 1, 1, 1, 1, 0, 0, 1, 1, 1, 1, 1, 1, 1, 1, 1, 1, 1, 1, 1, 1, 1, 1, 1, 1, 1, 1, 1, 1, 1, 1]
  | .exit 1 => [1, 0, 0, 1, 1, 1, 0, 0, 1, 1, 1, 1, 1, 0, 0, 1, 1, 1, 1, 1, 1, 1, 1, 1, 1, 1, 1, 1, 1, 1, 1, 1]
  | .exit 2 => [1, 0, 0, 1, 1, 1, 0, 0, 1, 1, 1, 1, 1, 0, 0, 1, 1, 1, 1, 1, 1, 1, 1, 1, 1, 1, 1, 1, 1, 1, 1, 1]
  | .ret => [1, 1, 1, 1, 1, 1, 0, 1, 1, 1, 1, 1, 1, 1, 1, 1, 1, 1, 1, 1, 1, 1, 1, 1, 1, 1, 1, 1, 1, 1, 1, 1]
  | _ => []
noncomputable def impl_made_l0_T (v382 : Int) (v383 : Int) (v444 : Int) (v445 : Int) (s : Int × (List Nat)) : Tree ((Int × (List Nat)) ⊕ ((List Nat))) :=
  (.br (decide (s.1 < v382)) (
   (.need (some (impl_made_l2_E v382 v383 s.1 v444 v445 ((0 : Int), s.2)) = some (impl_made_l2_E v382 v383 s.1 v444 v445 ((0 : Int), s.2))) <|
   (.call (impl_made_l2_g v383 s.1 v444 v445 ((0 : Int), s.2)) fun v465 =>
   .leaf (.inl (IntKind.i64.wrap (s.1 + (1 : Int)), v465))))
  ) (
   .leaf (.inr s.2)
  ))

noncomputable def impl_made_l0_g (v382 : Int) (v383 : Int) (v444 : Int) (v445 : Int) (s0 : Int × (List Nat)) : Option ((List Nat)) := whileM (fun s => (impl_made_l0_T v382 v383 v444 v445 s).run) s0
def impl_made_l0_E (v382 : Int) (v383 : Int) (v444 : Int) (v445 : Int) (s : Int × (List Nat)) : Sd := ([.top, .int .i64 v383, .fn 143 [], .top, .top, .top, .ptr 0 (0 : Nat) 0 (3 : Nat), .ptr 1 (0 : Nat) 0 (3 : Nat), .top, .top, .top, .top, .top, .int .i64 v382, .int .i64 s.1, .top, .top, .top, .top, .top, .top, .top, .top, .top, .top, .top, .top, .top, .top, .top, .top, .top], [.gen [.int .i64 (0 : Int), .int .i64 (0 : Int), .nilslc] false 0, .gen [.int .i64 v444, .int .i64 v445, .own 2 0 ((s.2).length)] false 0, .row (.f32 s.2) 0])
def impl_made_l0_X (v382 : Int) (v383 : Int) (v444 : Int) (v445 : Int) (x : (List Nat)) : Out := (.normal, [.top, .top, .top, .top, .top, .top, .ptr 0 (0 : Nat) 0 (3 : Nat), .ptr 1 (0 : Nat) 0 (3 : Nat), .top, .top, .top, .top, .top, .top, .top, .top, .top, .top, .top, .top, .top, .top, .top, .top, .top, .top, .top, .top, .top, .top, .top, .top], [.gen [.int .i64 (0 : Int), .int .i64 (0 : Int), .nilslc] false 0, .gen [.int .i64 v444, .int .i64 v445, .own 2 0 ((x).length)] false 0, .row (.f32 x) 0])
def impl_made_l0_kill : List Nat := [1, 0, 0, 1, 1, 1, 0, 0, 1, 1, 1, 1, 1, 0, 0, 1, 1, 1, 1, 1, 1, 1, 1, 1, 1, 1, 1, 1, 1, 1, 1, 1]
def impl_made_l0_nx : Exit → List Nat
  | .exit 0 => [1, 1, 1, 1, 1, 1, 0, 0, 1, 1, 1, 1, 1, 1, 1, 1, 1, 1, 1, 1, 1, 1, 1, 1, 1, 1, 1, 1, 1, 1, 1, 1]
  | .ret => [1, 1, 1, 1, 1, 1, 0, 1, 1, 1, 1, 1, 1, 1, 1, 1, 1, 1, 1, 1, 1, 1, 1, 1, 1, 1, 1, 1, 1, 1, 1, 1]
  | _ => []
noncomputable def impl_made_LO (v382 : Int) (v383 : Int) : LOr := fun id e L =>
  match id with
  | 2 => .need (normA 0 impl_made_l2_kill e L = some (impl_made_l2_E v382 v383 (gI (vAt e 8)) (gI (cAt L (vAt e 7) 0)) (gI (cAt L (vAt e 7) 1)) ((gI (vAt e 18)), (gRF L (cAt L (vAt e 7) 2))))) (.call (impl_made_l2_g v383 (gI (vAt e 8)) (gI (cAt L (vAt e 7) 0)) (gI (cAt L (vAt e 7) 1)) ((gI (vAt e 18)), (gRF L (cAt L (vAt e 7) 2)))) fun x => .leaf (impl_made_l2_X v382 v383 (gI (vAt e 8)) (gI (cAt L (vAt e 7) 0)) (gI (cAt L (vAt e 7) 1)) x))
  | 0 => .need (normA 0 impl_made_l0_kill e L = some (impl_made_l0_E v382 v383 (gI (cAt L (vAt e 7) 0)) (gI (cAt L (vAt e 7) 1)) ((gI (vAt e 14)), (gRF L (cAt L (vAt e 7) 2))))) (.call (impl_made_l0_g v382 v383 (gI (cAt L (vAt e 7) 0)) (gI (cAt L (vAt e 7) 1)) ((gI (vAt e 14)), (gRF L (cAt L (vAt e 7) 2)))) fun x => .leaf (impl_made_l0_X v382 v383 (gI (cAt L (vAt e 7) 0)) (gI (cAt L (vAt e 7) 1)) x))
  | _ => .fail
noncomputable def impl_made_tab : List (FuncId × DFn × Bool) := [(125, impl_newMatrix_F, true), (143, impl_unit_1_F, true), (142, impl_Matrix_set_F, false)]
theorem impl_made_hO : OrcOk Try.prog (tabD impl_made_tab) (tabM impl_made_tab) := tabD_cons impl_newMatrix_Fok (tabD_cons impl_unit_1_Fok (tabD_cons impl_Matrix_set_Fok (tabD_nil _)))
theorem impl_made_l2_be (v382 : Int) (v383 : Int) (v459 : Int) (v461 : Int) (v462 : Int) (s : Int × (List Nat)) : bodyT TT (tabD impl_made_tab) (tabM impl_made_tab) (impl_made_LO v382 v383) 0 impl_made_l2_kill impl_made_l2_nx (bodyOf Try.f91 2) 2 (impl_made_l2_E v382 v383 v459 v461 v462 s) = (impl_made_l2_T v383 v459 v461 v462 s).bind fun y => .leaf (outS (impl_made_l2_E v382 v383 v459 v461 v462) (impl_made_l2_X v382 v383 v459 v461 v462) y) := by kernel_rfl
theorem impl_made_l2_ok (v382 : Int) (v383 : Int) : LSound Try.prog 0 (impl_made_LO v382 v383) 2 (bodyOf Try.f91 2) := by
  intro e L out h
  exact lo_ok (E := impl_made_l2_E v382 v383 (gI (vAt e 8)) (gI (cAt L (vAt e 7) 0)) (gI (cAt L (vAt e 7) 1))) (gT := impl_made_l2_T v383 (gI (vAt e 8)) (gI (cAt L (vAt e 7) 0)) (gI (cAt L (vAt e 7) 1))) (X := impl_made_l2_X v382 v383 (gI (vAt e 8)) (gI (cAt L (vAt e 7) 0)) (gI (cAt L (vAt e 7) 1))) (s0 := ((gI (vAt e 18)), (gRF L (cAt L (vAt e 7) 2)))) tok impl_made_hO mixed (LoopsOk_eq (l := []) (by kernel_rfl) trivial) (impl_made_l2_be v382 v383 (gI (vAt e 8)) (gI (cAt L (vAt e 7) 0)) (gI (cAt L (vAt e 7) 1))) rfl (by intro x; rfl) h
theorem impl_made_l0_be (v382 : Int) (v383 : Int) (v444 : Int) (v445 : Int) (s : Int × (List Nat)) : bodyT TT (tabD impl_made_tab) (tabM impl_made_tab) (impl_made_LO v382 v383) 0 impl_made_l0_kill impl_made_l0_nx (bodyOf Try.f91 0) 0 (impl_made_l0_E v382 v383 v444 v445 s) = (impl_made_l0_T v382 v383 v444 v445 s).bind fun y => .leaf (outS (impl_made_l0_E v382 v383 v444 v445) (impl_made_l0_X v382 v383 v444 v445) y) := by kernel_rfl
theorem impl_made_l0_ok (v382 : Int) (v383 : Int) : LSound Try.prog 0 (impl_made_LO v382 v383) 0 (bodyOf Try.f91 0) := by
  intro e L out h
  exact lo_ok (E := impl_made_l0_E v382 v383 (gI (cAt L (vAt e 7) 0)) (gI (cAt L (vAt e 7) 1))) (gT := impl_made_l0_T v382 v383 (gI (cAt L (vAt e 7) 0)) (gI (cAt L (vAt e 7) 1))) (X := impl_made_l0_X v382 v383 (gI (cAt L (vAt e 7) 0)) (gI (cAt L (vAt e 7) 1))) (s0 := ((gI (vAt e 14)), (gRF L (cAt L (vAt e 7) 2)))) tok impl_made_hO mixed (LoopsOk_eq (l := [(2, bodyOf Try.f91 2)]) (by kernel_rfl) ⟨impl_made_l2_ok v382 v383, trivial⟩) (impl_made_l0_be v382 v383 (gI (cAt L (vAt e 7) 0)) (gI (cAt L (vAt e 7) 1))) rfl (by intro x; rfl) h
noncomputable def impl_made_T (v382 : Int) (v383 : Int) : Tree (Int × Int × (List Nat)) :=
  (.call (impl_newMatrix_g v382 v383) fun v384 =>
  (.need (some (impl_made_l0_E v382 v383 v384.1 v384.2 ((0 : Int), List.replicate (Int.toNat (IntKind.i64.wrap (v382 * v383))) (0 : Nat))) = some (impl_made_l0_E v382 v383 v384.1 v384.2 ((0 : Int), List.replicate (Int.toNat (IntKind.i64.wrap (v382 * v383))) (0 : Nat)))) <|
  (.call (impl_made_l0_g v382 v383 v384.1 v384.2 ((0 : Int), List.replicate (Int.toNat (IntKind.i64.wrap (v382 * v383))) (0 : Nat))) fun v466 =>
  .leaf (v384.1, v384.2, v466))))

noncomputable def impl_made_g (v382 : Int) (v383 : Int) : Option (Int × Int × (List Nat)) := (impl_made_T v382 v383).run
def impl_made_enc (v382 : Int) (v383 : Int) (y : Int × Int × (List Nat)) : Rs := (.agg [.int .i64 y.1, .int .i64 y.2.1, .own 0 0 ((y.2.2).length)], [.row (.f32 y.2.2) 0])
theorem impl_made_den (v382 : Int) (v383 : Int) : (den TT (tabD impl_made_tab) (tabM impl_made_tab) (impl_made_LO v382 v383) (codeOf Try.f91) ([.int .i64 v382, .int .i64 v383, .fn 143 []] ++ List.replicate (Try.f91.ntmps - ([.int .i64 v382, .int .i64 v383, .fn 143 []] : List DV).length) .undef) []).bind (retD TT Try.f91.results.toList 0) = (impl_made_T v382 v383).bind fun y => .leaf (impl_made_enc v382 v383 y) := by kernel_rfl
theorem impl_made_fn (v382 : Int) (v383 : Int) (F : Fr) (hm : F.ids.length = 0) (h0 : St F [] F.H0) (hA : DVs.Ok F [] [.int .i64 v382, .int .i64 v383, .fn 143 []]) {y : Int × Int × (List Nat)} (hy : impl_made_g v382 v383 = some y) : ∃ H', FnOk Try.prog 91 (DVs.av F [.int .i64 v382, .int .i64 v383, .fn 143 []]) F.H0 ((impl_made_enc v382 v383 y).1.av F) H' ∧ St F (impl_made_enc v382 v383 y).2 H' ∧ (impl_made_enc v382 v383 y).1.Ok F (impl_made_enc v382 v383 y).2 :=
  fn_fin tok impl_made_hO mixed Try.func91 Try.call91 (by kernel_rfl) (LoopsOk_eq (l := [(0, bodyOf Try.f91 0)]) (by kernel_rfl) ⟨impl_made_l0_ok v382 v383, trivial⟩) (impl_made_den v382 v383) hy hm h0 hA
noncomputable def impl_made_F : DFn := fun args L =>
  match args with
  | [.int .i64 v382, .int .i64 v383, .fn 143 []] =>
    .call (impl_made_g v382 v383) fun y => .leaf (.agg [.int .i64 y.1, .int .i64 y.2.1, .own (L.length + 0) 0 ((y.2.2).length)], L ++ [.row (.f32 y.2.2) 0])
  | _ => .fail
theorem impl_made_Fok : COk Try.prog 91 impl_made_F true := by
  intro F L H args r L' hs ha hr
  unfold impl_made_F at hr
  split at hr
  · rename_i v382 v383
    simp only [Tree.run] at hr
    obtain ⟨y, hy, hr⟩ := Option.bind_eq_some_iff.1 hr
    simp only [Tree.run, Option.some.injEq, Prod.mk.injEq] at hr
    obtain ⟨rfl, rfl⟩ := hr
    exact call_ok1 hs (fun k => (([] : List AV)[k]?).getD .top) [.int .i64 v382, .int .i64 v383, .fn 143 []] [.int .i64 v382, .int .i64 v383, .fn 143 []] (fun F' h0 hi hρ => ⟨by simp [DVs.av, DV.av, BR.av, hρ], impl_made_fn v382 v383 F' (by rw [hi]; rfl) (st_nil hi) ⟨trivial, trivial, trivial, trivial⟩ hy⟩) rfl rfl
  · cases hr
/-! impl.unit -/
noncomputable def impl_unit_LO (v381 : Int) : LOr := fun id e L =>
  match id with
  | _ => .fail
noncomputable def impl_unit_tab : List (FuncId × DFn × Bool) := [(91, impl_made_F, true)]
theorem impl_unit_hO : OrcOk Try.prog (tabD impl_unit_tab) (tabM impl_unit_tab) := tabD_cons impl_made_Fok (tabD_nil _)
noncomputable def impl_unit_T (v381 : Int) : Tree (Int × Int × (List Nat)) :=
  (.call (impl_made_g v381 v381) fun v467 =>
  .leaf (v467.1, v467.2.1, v467.2.2))

noncomputable def impl_unit_g (v381 : Int) : Option (Int × Int × (List Nat)) := (impl_unit_T v381).run
def impl_unit_enc (v381 : Int) (y : Int × Int × (List Nat)) : Rs := (.agg [.int .i64 y.1, .int .i64 y.2.1, .own 0 0 ((y.2.2).length)], [.row (.f32 y.2.2) 0])
theorem impl_unit_den (v381 : Int) : (den TT (tabD impl_unit_tab) (tabM impl_unit_tab) (impl_unit_LO v381) (codeOf Try.f94) ([.int .i64 v381] ++ List.replicate (Try.f94.ntmps - ([.int .i64 v381] : List DV).length) .undef) []).bind (retD TT Try.f94.results.toList 0) = (impl_unit_T v381).bind fun y => .leaf (impl_unit_enc v381 y) := by kernel_rfl
theorem impl_unit_fn (v381 : Int) (F : Fr) (hm : F.ids.length = 0) (h0 : St F [] F.H0) (hA : DVs.Ok F [] [.int .i64 v381]) {y : Int × Int × (List Nat)} (hy : impl_unit_g v381 = some y) : ∃ H', FnOk Try.prog 94 (DVs.av F [.int .i64 v381]) F.H0 ((impl_unit_enc v381 y).1.av F) H' ∧ St F (impl_unit_enc v381 y).2 H' ∧ (impl_unit_enc v381 y).1.Ok F (impl_unit_enc v381 y).2 :=
  fn_fin tok impl_unit_hO mixed Try.func94 Try.call94 (by kernel_rfl) (LoopsOk_eq (l := []) (by kernel_rfl) trivial) (impl_unit_den v381) hy hm h0 hA
noncomputable def impl_unit_F : DFn := fun args L =>
  match args with
  | [.int .i64 v381] =>
    .call (impl_unit_g v381) fun y => .leaf (.agg [.int .i64 y.1, .int .i64 y.2.1, .own (L.length + 0) 0 ((y.2.2).length)], L ++ [.row (.f32 y.2.2) 0])
  | _ => .fail
theorem impl_unit_Fok : COk Try.prog 94 impl_unit_F true := by
  intro F L H args r L' hs ha hr
  unfold impl_unit_F at hr
  split at hr
  · rename_i v381
    simp only [Tree.run] at hr
    obtain ⟨y, hy, hr⟩ := Option.bind_eq_some_iff.1 hr
    simp only [Tree.run, Option.some.injEq, Prod.mk.injEq] at hr
    obtain ⟨rfl, rfl⟩ := hr
    exact call_ok1 hs (fun k => (([] : List AV)[k]?).getD .top) [.int .i64 v381] [.int .i64 v381] (fun F' h0 hi hρ => ⟨by simp [DVs.av, DV.av, BR.av, hρ], impl_unit_fn v381 F' (by rw [hi]; rfl) (st_nil hi) ⟨trivial, trivial⟩ hy⟩) rfl rfl
  · cases hr
/-! (impl.Matrix).column -/
noncomputable def impl_Matrix_column_l0_T (v469 : Int) (v470 : Int) (v471 : List Nat) (v472 : Int) (s : Int × (List Nat)) : Tree ((Int × (List Nat)) ⊕ ((List Nat))) :=
  (.br (decide (s.1 < v469)) (
   (.call (impl_Matrix_at_g v470 v471 s.1 v472) fun v480 =>
   (.grd (fits (s.2 ++ ([v480] : List Nat)).length) <|
   .leaf (.inl (IntKind.i64.wrap (s.1 + (1 : Int)), s.2 ++ ([v480] : List Nat)))))
  ) (
   .leaf (.inr s.2)
  ))

noncomputable def impl_Matrix_column_l0_g (v469 : Int) (v470 : Int) (v471 : List Nat) (v472 : Int) (s0 : Int × (List Nat)) : Option ((List Nat)) := whileM (fun s => (impl_Matrix_column_l0_T v469 v470 v471 v472 s).run) s0
def impl_Matrix_column_l0_E (v469 : Int) (v470 : Int) (v471 : List Nat) (v472 : Int) (s : Int × (List Nat)) : Sd := ([.top, .int .i64 v472, .ptr 0 (0 : Nat) 0 (3 : Nat), .top, .top, .own 1 0 ((s.2).length), .top, .top, .top, .int .i64 v469, .int .i64 s.1, .top, .top, .top, .top, .top, .top, .top, .top, .top, .top, .top], [.gen [.int .i64 v469, .int .i64 v470, .bslc (BR.root 0) (.f32 v471)] false 0, .row (.f32 s.2) 0])
def impl_Matrix_column_l0_X (v469 : Int) (v470 : Int) (v471 : List Nat) (v472 : Int) (x : (List Nat)) : Out := (.normal, [.top, .top, .top, .top, .top, .own 0 0 ((x).length), .top, .top, .top, .top, .top, .top, .top, .top, .top, .top, .top, .top, .top, .top, .top, .top], [.row (.f32 x) 0])
def impl_Matrix_column_l0_kill : List Nat := [1, 0, 0, 1, 1, 0, 1, 1, 1, 0, 0, 1, 1, 1, 1, 1, 1, 1, 1, 1, 1, 1]
def impl_Matrix_column_l0_nx : Exit → List Nat
  | .exit 0 => [1, 1, 1, 1, 1, 0, 1, 1, 1, 1, 1, 1, 1, 1, 1, 1, 1, 1, 1, 1, 1, 1]
  | .ret => [1, 1, 1, 1, 0, 1, 1, 1, 1, 1, 1, 1, 1, 1, 1, 1, 1, 1, 1, 1, 1, 1]
  | _ => []
noncomputable def impl_Matrix_column_LO (v469 : Int) (v470 : Int) (v471 : List Nat) (v472 : Int) : LOr := fun id e L =>
  match id with
  | 0 => .need (normA 0 impl_Matrix_column_l0_kill e L = some (impl_Matrix_column_l0_E v469 v470 v471 v472 ((gI (vAt e 10)), (gRF L (vAt e 5))))) (.call (impl_Matrix_column_l0_g v469 v470 v471 v472 ((gI (vAt e 10)), (gRF L (vAt e 5)))) fun x => .leaf (impl_Matrix_column_l0_X v469 v470 v471 v472 x))
  | _ => .fail
noncomputable def impl_Matrix_column_tab : List (FuncId × DFn × Bool) := [(93, impl_Matrix_at_F, true)]
theorem impl_Matrix_column_hO : OrcOk Try.prog (tabD impl_Matrix_column_tab) (tabM impl_Matrix_column_tab) := tabD_cons impl_Matrix_at_Fok (tabD_nil _)
theorem impl_Matrix_column_l0_be (v469 : Int) (v470 : Int) (v471 : List Nat) (v472 : Int) (s : Int × (List Nat)) : bodyT TT (tabD impl_Matrix_column_tab) (tabM impl_Matrix_column_tab) (impl_Matrix_column_LO v469 v470 v471 v472) 0 impl_Matrix_column_l0_kill impl_Matrix_column_l0_nx (bodyOf Try.f128 0) 0 (impl_Matrix_column_l0_E v469 v470 v471 v472 s) = (impl_Matrix_column_l0_T v469 v470 v471 v472 s).bind fun y => .leaf (outS (impl_Matrix_column_l0_E v469 v470 v471 v472) (impl_Matrix_column_l0_X v469 v470 v471 v472) y) := by kernel_rfl
theorem impl_Matrix_column_l0_ok (v469 : Int) (v470 : Int) (v471 : List Nat) (v472 : Int) : LSound Try.prog 0 (impl_Matrix_column_LO v469 v470 v471 v472) 0 (bodyOf Try.f128 0) := by
  intro e L out h
  exact lo_ok (E := impl_Matrix_column_l0_E v469 v470 v471 v472) (gT := impl_Matrix_column_l0_T v469 v470 v471 v472) (X := impl_Matrix_column_l0_X v469 v470 v471 v472) (s0 := ((gI (vAt e 10)), (gRF L (vAt e 5)))) tok impl_Matrix_column_hO mixed (LoopsOk_eq (l := []) (by kernel_rfl) trivial) (impl_Matrix_column_l0_be v469 v470 v471 v472) rfl (by intro x; rfl) h
noncomputable def impl_Matrix_column_T (v469 : Int) (v470 : Int) (v471 : List Nat) (v472 : Int) : Tree ((List Nat)) :=
  (.need (some (impl_Matrix_column_l0_E v469 v470 v471 v472 ((0 : Int), ([] : List Nat))) = some (impl_Matrix_column_l0_E v469 v470 v471 v472 ((0 : Int), ([] : List Nat)))) <|
  (.call (impl_Matrix_column_l0_g v469 v470 v471 v472 ((0 : Int), ([] : List Nat))) fun v481 =>
  .leaf v481))

noncomputable def impl_Matrix_column_g (v469 : Int) (v470 : Int) (v471 : List Nat) (v472 : Int) : Option ((List Nat)) := (impl_Matrix_column_T v469 v470 v471 v472).run
def impl_Matrix_column_enc (v469 : Int) (v470 : Int) (v471 : List Nat) (v472 : Int) (y : (List Nat)) : Rs := (.own 0 0 ((y).length), [.row (.f32 y) 0])
theorem impl_Matrix_column_den (v469 : Int) (v470 : Int) (v471 : List Nat) (v472 : Int) : (den TT (tabD impl_Matrix_column_tab) (tabM impl_Matrix_column_tab) (impl_Matrix_column_LO v469 v470 v471 v472) (codeOf Try.f128) ([.agg [.int .i64 v469, .int .i64 v470, .bslc (BR.root 0) (.f32 v471)], .int .i64 v472] ++ List.replicate (Try.f128.ntmps - ([.agg [.int .i64 v469, .int .i64 v470, .bslc (BR.root 0) (.f32 v471)], .int .i64 v472] : List DV).length) .undef) []).bind (retD TT Try.f128.results.toList 0) = (impl_Matrix_column_T v469 v470 v471 v472).bind fun y => .leaf (impl_Matrix_column_enc v469 v470 v471 v472 y) := by kernel_rfl
theorem impl_Matrix_column_fn (v469 : Int) (v470 : Int) (v471 : List Nat) (v472 : Int) (F : Fr) (hm : F.ids.length = 0) (h0 : St F [] F.H0) (hA : DVs.Ok F [] [.agg [.int .i64 v469, .int .i64 v470, .bslc (BR.root 0) (.f32 v471)], .int .i64 v472]) {y : (List Nat)} (hy : impl_Matrix_column_g v469 v470 v471 v472 = some y) : ∃ H', FnOk Try.prog 128 (DVs.av F [.agg [.int .i64 v469, .int .i64 v470, .bslc (BR.root 0) (.f32 v471)], .int .i64 v472]) F.H0 ((impl_Matrix_column_enc v469 v470 v471 v472 y).1.av F) H' ∧ St F (impl_Matrix_column_enc v469 v470 v471 v472 y).2 H' ∧ (impl_Matrix_column_enc v469 v470 v471 v472 y).1.Ok F (impl_Matrix_column_enc v469 v470 v471 v472 y).2 :=
  fn_fin tok impl_Matrix_column_hO mixed Try.func128 Try.call128 (by kernel_rfl) (LoopsOk_eq (l := [(0, bodyOf Try.f128 0)]) (by kernel_rfl) ⟨impl_Matrix_column_l0_ok v469 v470 v471 v472, trivial⟩) (impl_Matrix_column_den v469 v470 v471 v472) hy hm h0 hA
noncomputable def impl_Matrix_column_F : DFn := fun args L =>
  match args with
  | [.agg [.int .i64 v469, .int .i64 v470, a1], .int .i64 v472] =>
    optT (rowF32 L a1) fun v471 =>
    .call (impl_Matrix_column_g v469 v470 v471 v472) fun y => .leaf (.own (L.length + 0) 0 ((y).length), L ++ [.row (.f32 y) 0])
  | _ => .fail
theorem impl_Matrix_column_Fok : COk Try.prog 128 impl_Matrix_column_F true := by
  intro F L H args r L' hs ha hr
  unfold impl_Matrix_column_F at hr
  split at hr
  · rename_i v469 v470 a1 v472
    obtain ⟨v471, hv471, hr⟩ := optT_run hr
    simp only [Tree.run] at hr
    obtain ⟨y, hy, hr⟩ := Option.bind_eq_some_iff.1 hr
    simp only [Tree.run, Option.some.injEq, Prod.mk.injEq] at hr
    obtain ⟨rfl, rfl⟩ := hr
    exact call_ok1 hs (fun k => (([a1.av F] : List AV)[k]?).getD .top) [.agg [.int .i64 v469, .int .i64 v470, a1], .int .i64 v472] [.agg [.int .i64 v469, .int .i64 v470, .bslc (BR.root 0) (.f32 v471)], .int .i64 v472] (fun F' h0 hi hρ => ⟨by simp [DVs.av, DV.av, BR.av, hρ], impl_Matrix_column_fn v469 v470 v471 v472 F' (by rw [hi]; rfl) (st_nil hi) ⟨⟨trivial, trivial, bslc_ok hi (by rw [h0, hρ]; exact rowF32_ok hs (DVs.okAt (DVs.okAt ha 0 rfl) 2 rfl) hv471), trivial⟩, trivial, trivial⟩ hy⟩) rfl rfl
  · cases hr
/-! impl.mul -/
noncomputable def impl_mul_LO (v507 : Nat) (v508 : Nat) : LOr := fun id e L =>
  match id with
  | _ => .fail
noncomputable def impl_mul_tab : List (FuncId × DFn × Bool) := []
theorem impl_mul_hO : OrcOk Try.prog (tabD impl_mul_tab) (tabM impl_mul_tab) := tabD_nil _
noncomputable def impl_mul_T (v507 : Nat) (v508 : Nat) : Tree (Nat) :=
  .leaf (fmul .f32 v507 v508)

noncomputable def impl_mul_g (v507 : Nat) (v508 : Nat) : Option (Nat) := (impl_mul_T v507 v508).run
def impl_mul_enc (v507 : Nat) (v508 : Nat) (y : Nat) : Rs := (.flt .f32 y, [])
theorem impl_mul_den (v507 : Nat) (v508 : Nat) : (den TT (tabD impl_mul_tab) (tabM impl_mul_tab) (impl_mul_LO v507 v508) (codeOf Try.f80) ([.flt .f32 v507, .flt .f32 v508] ++ List.replicate (Try.f80.ntmps - ([.flt .f32 v507, .flt .f32 v508] : List DV).length) .undef) []).bind (retD TT Try.f80.results.toList 0) = (impl_mul_T v507 v508).bind fun y => .leaf (impl_mul_enc v507 v508 y) := by kernel_rfl
theorem impl_mul_fn (v507 : Nat) (v508 : Nat) (F : Fr) (hm : F.ids.length = 0) (h0 : St F [] F.H0) (hA : DVs.Ok F [] [.flt .f32 v507, .flt .f32 v508]) {y : Nat} (hy : impl_mul_g v507 v508 = some y) : ∃ H', FnOk Try.prog 80 (DVs.av F [.flt .f32 v507, .flt .f32 v508]) F.H0 ((impl_mul_enc v507 v508 y).1.av F) H' ∧ St F (impl_mul_enc v507 v508 y).2 H' ∧ (impl_mul_enc v507 v508 y).1.Ok F (impl_mul_enc v507 v508 y).2 :=
  fn_fin tok impl_mul_hO mixed Try.func80 Try.call80 (by kernel_rfl) (LoopsOk_eq (l := []) (by kernel_rfl) trivial) (impl_mul_den v507 v508) hy hm h0 hA
def impl_mul_v (v507 : Nat) (v508 : Nat) : Nat :=
  fmul .f32 v507 v508
theorem impl_mul_tot (v507 : Nat) (v508 : Nat) : impl_mul_g v507 v508 = some (impl_mul_v v507 v508) := by
  unfold impl_mul_g impl_mul_T impl_mul_v
  simp only [Tree.run]
  repeat' (first | rfl | split)
noncomputable def impl_mul_F : DFn := fun args L =>
  match args with
  | [.flt .f32 v507, .flt .f32 v508] =>
    .leaf (.flt .f32 (impl_mul_v v507 v508), L)
  | _ => .fail
theorem impl_mul_Fok : COk Try.prog 80 impl_mul_F true := by
  intro F L H args r L' hs ha hr
  unfold impl_mul_F at hr
  split at hr
  · rename_i v507 v508
    have hy := impl_mul_tot v507 v508
    generalize impl_mul_v v507 v508 = y at hy hr
    simp only [Tree.run, Option.some.injEq, Prod.mk.injEq] at hr
    obtain ⟨rfl, rfl⟩ := hr
    exact call_ok0 hs (fun k => (([] : List AV)[k]?).getD .top) [.flt .f32 v507, .flt .f32 v508] [.flt .f32 v507, .flt .f32 v508] (fun F' h0 hi hρ => ⟨by simp [DVs.av, DV.av, BR.av, hρ], impl_mul_fn v507 v508 F' (by rw [hi]; rfl) (st_nil hi) ⟨trivial, trivial, trivial⟩ hy⟩) rfl
  · cases hr
/-! (impl.Matrix).lessRow -/
noncomputable def impl_Matrix_lessRow_l0_T (v497 : Int) (v498 : List Nat) (v500 : Int) (v502 : Int) (v503 : List Nat) (s : Nat × Int) : Tree ((Nat × Int) ⊕ (Nat)) :=
  (.br (decide (s.2 < v502)) (
   (.call (impl_Matrix_at_g v497 v498 v500 s.2) fun v514 =>
   (.grd (inb s.2 v503.length) <|
   .leaf (.inl (fsub .f32 s.1 (impl_mul_v v514 (nth v503 (Int.toNat s.2))), IntKind.i64.wrap (s.2 + (1 : Int))))))
  ) (
   .leaf (.inr s.1)
  ))

noncomputable def impl_Matrix_lessRow_l0_g (v497 : Int) (v498 : List Nat) (v500 : Int) (v502 : Int) (v503 : List Nat) (s0 : Nat × Int) : Option (Nat) := whileM (fun s => (impl_Matrix_lessRow_l0_T v497 v498 v500 v502 v503 s).run) s0
def impl_Matrix_lessRow_l0_E (v496 : Int) (v497 : Int) (v498 : List Nat) (v499 : Nat) (v500 : Int) (v501 : Int) (v502 : Int) (v503 : List Nat) (s : Nat × Int) : Sd := ([.top, .flt .f32 s.1, .int .i64 v500, .top, .int .i64 v502, .bslc (BR.root 1) (.f32 v503), .ptr 0 (0 : Nat) 0 (3 : Nat), .top, .top, .top, .top, .top, .top, .int .i64 s.2, .top, .top, .top, .top, .top, .top, .top, .top, .top, .top, .top, .top, .top, .top, .top, .top, .top, .top], [.gen [.int .i64 v496, .int .i64 v497, .bslc (BR.root 0) (.f32 v498)] false 0])
def impl_Matrix_lessRow_l0_X (v496 : Int) (v497 : Int) (v498 : List Nat) (v499 : Nat) (v500 : Int) (v501 : Int) (v502 : Int) (v503 : List Nat) (x : Nat) : Out := (.normal, [.top, .flt .f32 x, .top, .top, .top, .top, .top, .top, .top, .top, .top, .top, .top, .top, .top, .top, .top, .top, .top, .top, .top, .top, .top, .top, .top, .top, .top, .top, .top, .top, .top, .top], [])
def impl_Matrix_lessRow_l0_kill : List Nat := [1, 0, 0, 1, 0, 0, 0, 1, 1, 1, 1, 1, 1, 0, 1, 1, 1, 1, 1, 1, 1, 1, 1, 1, 1, 1, 1, 1, 1, 1, 1, 1]
def impl_Matrix_lessRow_l0_nx : Exit → List Nat
  | .exit 0 => [1, 0, 1, 1, 1, 1, 1, 1, 1, 1, 1, 1, 1, 1, 1, 1, 1, 1, 1, 1, 1, 1, 1, 1, 1, 1, 1, 1, 1, 1, 1, 1]
  | .ret => [1, 1, 1, 1, 1, 1, 1, 1, 1, 1, 1, 1, 0, 1, 1, 1, 1, 1, 1, 1, 1, 1, 1, 1, 1, 1, 1, 1, 1, 1, 1, 1]
  | _ => []
noncomputable def impl_Matrix_lessRow_LO (v496 : Int) (v497 : Int) (v498 : List Nat) (v499 : Nat) (v500 : Int) (v501 : Int) (v502 : Int) (v503 : List Nat) : LOr := fun id e L =>
  match id with
  | 0 => .need (normA 0 impl_Matrix_lessRow_l0_kill e L = some (impl_Matrix_lessRow_l0_E v496 v497 v498 v499 v500 v501 v502 v503 ((gF (vAt e 1)), (gI (vAt e 13))))) (.call (impl_Matrix_lessRow_l0_g v497 v498 v500 v502 v503 ((gF (vAt e 1)), (gI (vAt e 13)))) fun x => .leaf (impl_Matrix_lessRow_l0_X v496 v497 v498 v499 v500 v501 v502 v503 x))
  | _ => .fail
noncomputable def impl_Matrix_lessRow_tab : List (FuncId × DFn × Bool) := [(93, impl_Matrix_at_F, true), (80, impl_mul_F, true)]
theorem impl_Matrix_lessRow_hO : OrcOk Try.prog (tabD impl_Matrix_lessRow_tab) (tabM impl_Matrix_lessRow_tab) := tabD_cons impl_Matrix_at_Fok (tabD_cons impl_mul_Fok (tabD_nil _))
theorem impl_Matrix_lessRow_l0_be (v496 : Int) (v497 : Int) (v498 : List Nat) (v499 : Nat) (v500 : Int) (v501 : Int) (v502 : Int) (v503 : List Nat) (s : Nat × Int) : bodyT TT (tabD impl_Matrix_lessRow_tab) (tabM impl_Matrix_lessRow_tab) (impl_Matrix_lessRow_LO v496 v497 v498 v499 v500 v501 v502 v503) 0 impl_Matrix_lessRow_l0_kill impl_Matrix_lessRow_l0_nx (bodyOf Try.f160 0) 0 (impl_Matrix_lessRow_l0_E v496 v497 v498 v499 v500 v501 v502 v503 s) = (impl_Matrix_lessRow_l0_T v497 v498 v500 v502 v503 s).bind fun y => .leaf (outS (impl_Matrix_lessRow_l0_E v496 v497 v498 v499 v500 v501 v502 v503) (impl_Matrix_lessRow_l0_X v496 v497 v498 v499 v500 v501 v502 v503) y) := by kernel_rfl
theorem impl_Matrix_lessRow_l0_ok (v496 : Int) (v497 : Int) (v498 : List Nat) (v499 : Nat) (v500 : Int) (v501 : Int) (v502 : Int) (v503 : List Nat) : LSound Try.prog 0 (impl_Matrix_lessRow_LO v496 v497 v498 v499 v500 v501 v502 v503) 0 (bodyOf Try.f160 0) := by
  intro e L out h
  exact lo_ok (E := impl_Matrix_lessRow_l0_E v496 v497 v498 v499 v500 v501 v502 v503) (gT := impl_Matrix_lessRow_l0_T v497 v498 v500 v502 v503) (X := impl_Matrix_lessRow_l0_X v496 v497 v498 v499 v500 v501 v502 v503) (s0 := ((gF (vAt e 1)), (gI (vAt e 13)))) tok impl_Matrix_lessRow_hO mixed (LoopsOk_eq (l := []) (by kernel_rfl) trivial) (impl_Matrix_lessRow_l0_be v496 v497 v498 v499 v500 v501 v502 v503) rfl (by intro x; rfl) h
noncomputable def impl_Matrix_lessRow_T (v496 : Int) (v497 : Int) (v498 : List Nat) (v499 : Nat) (v500 : Int) (v501 : Int) (v502 : Int) (v503 : List Nat) : Tree (Nat) :=
  (.need (some (impl_Matrix_lessRow_l0_E v496 v497 v498 v499 v500 v501 v502 v503 (v499, v501)) = some (impl_Matrix_lessRow_l0_E v496 v497 v498 v499 v500 v501 v502 v503 (v499, v501))) <|
  (.call (impl_Matrix_lessRow_l0_g v497 v498 v500 v502 v503 (v499, v501)) fun v515 =>
  .leaf v515))

noncomputable def impl_Matrix_lessRow_g (v496 : Int) (v497 : Int) (v498 : List Nat) (v499 : Nat) (v500 : Int) (v501 : Int) (v502 : Int) (v503 : List Nat) : Option (Nat) := (impl_Matrix_lessRow_T v496 v497 v498 v499 v500 v501 v502 v503).run
def impl_Matrix_lessRow_enc (v496 : Int) (v497 : Int) (v498 : List Nat) (v499 : Nat) (v500 : Int) (v501 : Int) (v502 : Int) (v503 : List Nat) (y : Nat) : Rs := (.flt .f32 y, [])
theorem impl_Matrix_lessRow_den (v496 : Int) (v497 : Int) (v498 : List Nat) (v499 : Nat) (v500 : Int) (v501 : Int) (v502 : Int) (v503 : List Nat) : (den TT (tabD impl_Matrix_lessRow_tab) (tabM impl_Matrix_lessRow_tab) (impl_Matrix_lessRow_LO v496 v497 v498 v499 v500 v501 v502 v503) (codeOf Try.f160) ([.agg [.int .i64 v496, .int .i64 v497, .bslc (BR.root 0) (.f32 v498)], .flt .f32 v499, .int .i64 v500, .int .i64 v501, .int .i64 v502, .bslc (BR.root 1) (.f32 v503)] ++ List.replicate (Try.f160.ntmps - ([.agg [.int .i64 v496, .int .i64 v497, .bslc (BR.root 0) (.f32 v498)], .flt .f32 v499, .int .i64 v500, .int .i64 v501, .int .i64 v502, .bslc (BR.root 1) (.f32 v503)] : List DV).length) .undef) []).bind (retD TT Try.f160.results.toList 0) = (impl_Matrix_lessRow_T v496 v497 v498 v499 v500 v501 v502 v503).bind fun y => .leaf (impl_Matrix_lessRow_enc v496 v497 v498 v499 v500 v501 v502 v503 y) := by kernel_rfl
theorem impl_Matrix_lessRow_fn (v496 : Int) (v497 : Int) (v498 : List Nat) (v499 : Nat) (v500 : Int) (v501 : Int) (v502 : Int) (v503 : List Nat) (F : Fr) (hm : F.ids.length = 0) (h0 : St F [] F.H0) (hA : DVs.Ok F [] [.agg [.int .i64 v496, .int .i64 v497, .bslc (BR.root 0) (.f32 v498)], .flt .f32 v499, .int .i64 v500, .int .i64 v501, .int .i64 v502, .bslc (BR.root 1) (.f32 v503)]) {y : Nat} (hy : impl_Matrix_lessRow_g v496 v497 v498 v499 v500 v501 v502 v503 = some y) : ∃ H', FnOk Try.prog 160 (DVs.av F [.agg [.int .i64 v496, .int .i64 v497, .bslc (BR.root 0) (.f32 v498)], .flt .f32 v499, .int .i64 v500, .int .i64 v501, .int .i64 v502, .bslc (BR.root 1) (.f32 v503)]) F.H0 ((impl_Matrix_lessRow_enc v496 v497 v498 v499 v500 v501 v502 v503 y).1.av F) H' ∧ St F (impl_Matrix_lessRow_enc v496 v497 v498 v499 v500 v501 v502 v503 y).2 H' ∧ (impl_Matrix_lessRow_enc v496 v497 v498 v499 v500 v501 v502 v503 y).1.Ok F (impl_Matrix_lessRow_enc v496 v497 v498 v499 v500 v501 v502 v503 y).2 :=
  fn_fin tok impl_Matrix_lessRow_hO mixed Try.func160 Try.call160 (by kernel_rfl) (LoopsOk_eq (l := [(0, bodyOf Try.f160 0)]) (by kernel_rfl) ⟨impl_Matrix_lessRow_l0_ok v496 v497 v498 v499 v500 v501 v502 v503, trivial⟩) (impl_Matrix_lessRow_den v496 v497 v498 v499 v500 v501 v502 v503) hy hm h0 hA
noncomputable def impl_Matrix_lessRow_F : DFn := fun args L =>
  match args with
  | [.agg [.int .i64 v496, .int .i64 v497, a1], .flt .f32 v499, .int .i64 v500, .int .i64 v501, .int .i64 v502, a2] =>
    optT (rowF32 L a1) fun v498 =>
    optT (rowF32 L a2) fun v503 =>
    .call (impl_Matrix_lessRow_g v496 v497 v498 v499 v500 v501 v502 v503) fun y => .leaf (.flt .f32 y, L)
  | _ => .fail
theorem impl_Matrix_lessRow_Fok : COk Try.prog 160 impl_Matrix_lessRow_F true := by
  intro F L H args r L' hs ha hr
  unfold impl_Matrix_lessRow_F at hr
  split at hr
  · rename_i v496 v497 a1 v499 v500 v501 v502 a2
    obtain ⟨v498, hv498, hr⟩ := optT_run hr
    obtain ⟨v503, hv503, hr⟩ := optT_run hr
    simp only [Tree.run] at hr
    obtain ⟨y, hy, hr⟩ := Option.bind_eq_some_iff.1 hr
    simp only [Tree.run, Option.some.injEq, Prod.mk.injEq] at hr
    obtain ⟨rfl, rfl⟩ := hr
    exact call_ok0 hs (fun k => (([a1.av F, a2.av F] : List AV)[k]?).getD .top) [.agg [.int .i64 v496, .int .i64 v497, a1], .flt .f32 v499, .int .i64 v500, .int .i64 v501, .int .i64 v502, a2] [.agg [.int .i64 v496, .int .i64 v497, .bslc (BR.root 0) (.f32 v498)], .flt .f32 v499, .int .i64 v500, .int .i64 v501, .int .i64 v502, .bslc (BR.root 1) (.f32 v503)] (fun F' h0 hi hρ => ⟨by simp [DVs.av, DV.av, BR.av, hρ], impl_Matrix_lessRow_fn v496 v497 v498 v499 v500 v501 v502 v503 F' (by rw [hi]; rfl) (st_nil hi) ⟨⟨trivial, trivial, bslc_ok hi (by rw [h0, hρ]; exact rowF32_ok hs (DVs.okAt (DVs.okAt ha 0 rfl) 2 rfl) hv498), trivial⟩, trivial, trivial, trivial, trivial, bslc_ok hi (by rw [h0, hρ]; exact rowF32_ok hs (DVs.okAt ha 5 rfl) hv503), trivial⟩ hy⟩) rfl
  · cases hr
/-! slices.Clone[list of float32,float32] -/
noncomputable def slices_CloneF_LO (v528 : List Nat) : LOr := fun id e L =>
  match id with
  | _ => .fail
noncomputable def slices_CloneF_tab : List (FuncId × DFn × Bool) := []
theorem slices_CloneF_hO : OrcOk Try.prog (tabD slices_CloneF_tab) (tabM slices_CloneF_tab) := tabD_nil _
noncomputable def slices_CloneF_T (v528 : List Nat) : Tree (Unit) :=
  (.grd (decide (0 < v528.length)) <|
  (.grd (fits (([] : List Nat) ++ v528).length) <|
  .leaf ()))

noncomputable def slices_CloneF_g (v528 : List Nat) : Option (Unit) := (slices_CloneF_T v528).run
def slices_CloneF_enc (v528 : List Nat) (y : Unit) : Rs := (.own 0 0 ((([] : List Nat) ++ v528).length), [.row (.f32 (([] : List Nat) ++ v528)) 0])
theorem slices_CloneF_den (v528 : List Nat) : (den TT (tabD slices_CloneF_tab) (tabM slices_CloneF_tab) (slices_CloneF_LO v528) (codeOf Try.f76) ([.bslc (BR.root 0) (.f32 v528)] ++ List.replicate (Try.f76.ntmps - ([.bslc (BR.root 0) (.f32 v528)] : List DV).length) .undef) []).bind (retD TT Try.f76.results.toList 0) = (slices_CloneF_T v528).bind fun y => .leaf (slices_CloneF_enc v528 y) := by kernel_rfl
theorem slices_CloneF_fn (v528 : List Nat) (F : Fr) (hm : F.ids.length = 0) (h0 : St F [] F.H0) (hA : DVs.Ok F [] [.bslc (BR.root 0) (.f32 v528)]) {y : Unit} (hy : slices_CloneF_g v528 = some y) : ∃ H', FnOk Try.prog 76 (DVs.av F [.bslc (BR.root 0) (.f32 v528)]) F.H0 ((slices_CloneF_enc v528 y).1.av F) H' ∧ St F (slices_CloneF_enc v528 y).2 H' ∧ (slices_CloneF_enc v528 y).1.Ok F (slices_CloneF_enc v528 y).2 :=
  fn_fin tok slices_CloneF_hO mixed Try.func76 Try.call76 (by kernel_rfl) (LoopsOk_eq (l := []) (by kernel_rfl) trivial) (slices_CloneF_den v528) hy hm h0 hA
noncomputable def slices_CloneF_F : DFn := fun args L =>
  match args with
  | [a1] =>
    optT (rowF32 L a1) fun v528 =>
    .call (slices_CloneF_g v528) fun y => .leaf (.own (L.length + 0) 0 ((([] : List Nat) ++ v528).length), L ++ [.row (.f32 (([] : List Nat) ++ v528)) 0])
  | _ => .fail
theorem slices_CloneF_Fok : COk Try.prog 76 slices_CloneF_F true := by
  intro F L H args r L' hs ha hr
  unfold slices_CloneF_F at hr
  split at hr
  · rename_i a1
    obtain ⟨v528, hv528, hr⟩ := optT_run hr
    simp only [Tree.run] at hr
    obtain ⟨y, hy, hr⟩ := Option.bind_eq_some_iff.1 hr
    simp only [Tree.run, Option.some.injEq, Prod.mk.injEq] at hr
    obtain ⟨rfl, rfl⟩ := hr
    exact call_ok1 hs (fun k => (([a1.av F] : List AV)[k]?).getD .top) [a1] [.bslc (BR.root 0) (.f32 v528)] (fun F' h0 hi hρ => ⟨by simp [DVs.av, DV.av, BR.av, hρ], slices_CloneF_fn v528 F' (by rw [hi]; rfl) (st_nil hi) ⟨bslc_ok hi (by rw [h0, hρ]; exact rowF32_ok hs (DVs.okAt ha 0 rfl) hv528), trivial⟩ hy⟩) rfl rfl
  · cases hr
/-! (impl.Matrix).upperSolve -/
noncomputable def impl_Matrix_upperSolve_l0_T (v524 : Int) (v525 : Int) (v526 : List Nat) (s : Int × (List Nat)) : Tree ((Int × (List Nat)) ⊕ ((List Nat))) :=
  (.br (decide ((0 : Int) ≤ s.1)) (
   (.grd (inb s.1 ((s.2).length)) <|
   (.call (impl_Matrix_lessRow_g v524 v525 v526 (nth s.2 (Int.toNat s.1)) s.1 (IntKind.i64.wrap (s.1 + (1 : Int))) v525 s.2) fun v539 =>
   (.call (impl_Matrix_at_g v525 v526 s.1 s.1) fun v540 =>
   (.grd (inb s.1 ((s.2).length)) <|
   .leaf (.inl (IntKind.i64.wrap (s.1 - (1 : Int)), List.set s.2 (Int.toNat s.1) (fdiv .f32 v539 v540)))))))
  ) (
   .leaf (.inr s.2)
  ))

noncomputable def impl_Matrix_upperSolve_l0_g (v524 : Int) (v525 : Int) (v526 : List Nat) (s0 : Int × (List Nat)) : Option ((List Nat)) := whileM (fun s => (impl_Matrix_upperSolve_l0_T v524 v525 v526 s).run) s0
def impl_Matrix_upperSolve_l0_E (v524 : Int) (v525 : Int) (v526 : List Nat) (v527 : List Nat) (s : Int × (List Nat)) : Sd := ([.top, .top, .ptr 0 (0 : Nat) 0 (3 : Nat), .top, .top, .own 1 0 ((s.2).length), .int .i64 s.1, .top, .top, .top, .top, .top, .top, .top, .top, .top, .top, .top, .top, .top, .top, .top, .top, .top, .top, .top, .top, .top, .top, .top, .top, .top, .top, .top, .top, .top, .top], [.gen [.int .i64 v524, .int .i64 v525, .bslc (BR.root 0) (.f32 v526)] false 0, .row (.f32 s.2) 0])
def impl_Matrix_upperSolve_l0_X (v524 : Int) (v525 : Int) (v526 : List Nat) (v527 : List Nat) (x : (List Nat)) : Out := (.normal, [.top, .top, .top, .top, .top, .own 0 0 ((x).length), .top, .top, .top, .top, .top, .top, .top, .top, .top, .top, .top, .top, .top, .top, .top, .top, .top, .top, .top, .top, .top, .top, .top, .top, .top, .top, .top, .top, .top, .top, .top], [.row (.f32 x) 0])
def impl_Matrix_upperSolve_l0_kill : List Nat := [1, 1, 0, 1, 1, 0, 0, 1, 1, 1, 1, 1, 1, 1, 1, 1, 1, 1, 1, 1, 1, 1, 1, 1, 1, 1, 1, 1, 1, 1, 1, 1, 1, 1, 1, 1, 1]
def impl_Matrix_upperSolve_l0_nx : Exit → List Nat
  | .exit 0 => [1, 1, 1, 1, 1, 0, 1, 1, 1, 1, 1, 1, 1, 1, 1, 1, 1, 1, 1, 1, 1, 1, 1, 1, 1, 1, 1, 1, 1, 1, 1, 1, 1, 1, 1, 1, 1]
  | .ret => [1, 1, 1, 1, 0, 1, 1, 1, 1, 1, 1, 1, 1, 1, 1, 1, 1, 1, 1, 1, 1, 1, 1, 1, 1, 1, 1, 1, 1, 1, 1, 1, 1, 1, 1, 1, 1]
  | _ => []
noncomputable def impl_Matrix_upperSolve_LO (v524 : Int) (v525 : Int) (v526 : List Nat) (v527 : List Nat) : LOr := fun id e L =>
  match id with
  | 0 => .need (normA 0 impl_Matrix_upperSolve_l0_kill e L = some (impl_Matrix_upperSolve_l0_E v524 v525 v526 v527 ((gI (vAt e 6)), (gRF L (vAt e 5))))) (.call (impl_Matrix_upperSolve_l0_g v524 v525 v526 ((gI (vAt e 6)), (gRF L (vAt e 5)))) fun x => .leaf (impl_Matrix_upperSolve_l0_X v524 v525 v526 v527 x))
  | _ => .fail
noncomputable def impl_Matrix_upperSolve_tab : List (FuncId × DFn × Bool) := [(76, slices_CloneF_F, true), (160, impl_Matrix_lessRow_F, true), (93, impl_Matrix_at_F, true)]
theorem impl_Matrix_upperSolve_hO : OrcOk Try.prog (tabD impl_Matrix_upperSolve_tab) (tabM impl_Matrix_upperSolve_tab) := tabD_cons slices_CloneF_Fok (tabD_cons impl_Matrix_lessRow_Fok (tabD_cons impl_Matrix_at_Fok (tabD_nil _)))
theorem impl_Matrix_upperSolve_l0_be (v524 : Int) (v525 : Int) (v526 : List Nat) (v527 : List Nat) (s : Int × (List Nat)) : bodyT TT (tabD impl_Matrix_upperSolve_tab) (tabM impl_Matrix_upperSolve_tab) (impl_Matrix_upperSolve_LO v524 v525 v526 v527) 0 impl_Matrix_upperSolve_l0_kill impl_Matrix_upperSolve_l0_nx (bodyOf Try.f161 0) 0 (impl_Matrix_upperSolve_l0_E v524 v525 v526 v527 s) = (impl_Matrix_upperSolve_l0_T v524 v525 v526 s).bind fun y => .leaf (outS (impl_Matrix_upperSolve_l0_E v524 v525 v526 v527) (impl_Matrix_upperSolve_l0_X v524 v525 v526 v527) y) := by kernel_rfl
theorem impl_Matrix_upperSolve_l0_ok (v524 : Int) (v525 : Int) (v526 : List Nat) (v527 : List Nat) : LSound Try.prog 0 (impl_Matrix_upperSolve_LO v524 v525 v526 v527) 0 (bodyOf Try.f161 0) := by
  intro e L out h
  exact lo_ok (E := impl_Matrix_upperSolve_l0_E v524 v525 v526 v527) (gT := impl_Matrix_upperSolve_l0_T v524 v525 v526) (X := impl_Matrix_upperSolve_l0_X v524 v525 v526 v527) (s0 := ((gI (vAt e 6)), (gRF L (vAt e 5)))) tok impl_Matrix_upperSolve_hO mixed (LoopsOk_eq (l := []) (by kernel_rfl) trivial) (impl_Matrix_upperSolve_l0_be v524 v525 v526 v527) rfl (by intro x; rfl) h
noncomputable def impl_Matrix_upperSolve_T (v524 : Int) (v525 : Int) (v526 : List Nat) (v527 : List Nat) : Tree ((List Nat)) :=
  (.call (slices_CloneF_g v527) fun v529 =>
  (.need (some (impl_Matrix_upperSolve_l0_E v524 v525 v526 v527 (IntKind.i64.wrap (v524 - (1 : Int)), ([] : List Nat) ++ v527)) = some (impl_Matrix_upperSolve_l0_E v524 v525 v526 v527 (IntKind.i64.wrap (v524 - (1 : Int)), ([] : List Nat) ++ v527))) <|
  (.call (impl_Matrix_upperSolve_l0_g v524 v525 v526 (IntKind.i64.wrap (v524 - (1 : Int)), ([] : List Nat) ++ v527)) fun v541 =>
  .leaf v541)))

noncomputable def impl_Matrix_upperSolve_g (v524 : Int) (v525 : Int) (v526 : List Nat) (v527 : List Nat) : Option ((List Nat)) := (impl_Matrix_upperSolve_T v524 v525 v526 v527).run
def impl_Matrix_upperSolve_enc (v524 : Int) (v525 : Int) (v526 : List Nat) (v527 : List Nat) (y : (List Nat)) : Rs := (.own 0 0 ((y).length), [.row (.f32 y) 0])
theorem impl_Matrix_upperSolve_den (v524 : Int) (v525 : Int) (v526 : List Nat) (v527 : List Nat) : (den TT (tabD impl_Matrix_upperSolve_tab) (tabM impl_Matrix_upperSolve_tab) (impl_Matrix_upperSolve_LO v524 v525 v526 v527) (codeOf Try.f161) ([.agg [.int .i64 v524, .int .i64 v525, .bslc (BR.root 0) (.f32 v526)], .bslc (BR.root 1) (.f32 v527)] ++ List.replicate (Try.f161.ntmps - ([.agg [.int .i64 v524, .int .i64 v525, .bslc (BR.root 0) (.f32 v526)], .bslc (BR.root 1) (.f32 v527)] : List DV).length) .undef) []).bind (retD TT Try.f161.results.toList 0) = (impl_Matrix_upperSolve_T v524 v525 v526 v527).bind fun y => .leaf (impl_Matrix_upperSolve_enc v524 v525 v526 v527 y) := by kernel_rfl
theorem impl_Matrix_upperSolve_fn (v524 : Int) (v525 : Int) (v526 : List Nat) (v527 : List Nat) (F : Fr) (hm : F.ids.length = 0) (h0 : St F [] F.H0) (hA : DVs.Ok F [] [.agg [.int .i64 v524, .int .i64 v525, .bslc (BR.root 0) (.f32 v526)], .bslc (BR.root 1) (.f32 v527)]) {y : (List Nat)} (hy : impl_Matrix_upperSolve_g v524 v525 v526 v527 = some y) : ∃ H', FnOk Try.prog 161 (DVs.av F [.agg [.int .i64 v524, .int .i64 v525, .bslc (BR.root 0) (.f32 v526)], .bslc (BR.root 1) (.f32 v527)]) F.H0 ((impl_Matrix_upperSolve_enc v524 v525 v526 v527 y).1.av F) H' ∧ St F (impl_Matrix_upperSolve_enc v524 v525 v526 v527 y).2 H' ∧ (impl_Matrix_upperSolve_enc v524 v525 v526 v527 y).1.Ok F (impl_Matrix_upperSolve_enc v524 v525 v526 v527 y).2 :=
  fn_fin tok impl_Matrix_upperSolve_hO mixed Try.func161 Try.call161 (by kernel_rfl) (LoopsOk_eq (l := [(0, bodyOf Try.f161 0)]) (by kernel_rfl) ⟨impl_Matrix_upperSolve_l0_ok v524 v525 v526 v527, trivial⟩) (impl_Matrix_upperSolve_den v524 v525 v526 v527) hy hm h0 hA
noncomputable def impl_Matrix_upperSolve_F : DFn := fun args L =>
  match args with
  | [.agg [.int .i64 v524, .int .i64 v525, a1], a2] =>
    optT (rowF32 L a1) fun v526 =>
    optT (rowF32 L a2) fun v527 =>
    .call (impl_Matrix_upperSolve_g v524 v525 v526 v527) fun y => .leaf (.own (L.length + 0) 0 ((y).length), L ++ [.row (.f32 y) 0])
  | _ => .fail
theorem impl_Matrix_upperSolve_Fok : COk Try.prog 161 impl_Matrix_upperSolve_F true := by
  intro F L H args r L' hs ha hr
  unfold impl_Matrix_upperSolve_F at hr
  split at hr
  · rename_i v524 v525 a1 a2
    obtain ⟨v526, hv526, hr⟩ := optT_run hr
    obtain ⟨v527, hv527, hr⟩ := optT_run hr
    simp only [Tree.run] at hr
    obtain ⟨y, hy, hr⟩ := Option.bind_eq_some_iff.1 hr
    simp only [Tree.run, Option.some.injEq, Prod.mk.injEq] at hr
    obtain ⟨rfl, rfl⟩ := hr
    exact call_ok1 hs (fun k => (([a1.av F, a2.av F] : List AV)[k]?).getD .top) [.agg [.int .i64 v524, .int .i64 v525, a1], a2] [.agg [.int .i64 v524, .int .i64 v525, .bslc (BR.root 0) (.f32 v526)], .bslc (BR.root 1) (.f32 v527)] (fun F' h0 hi hρ => ⟨by simp [DVs.av, DV.av, BR.av, hρ], impl_Matrix_upperSolve_fn v524 v525 v526 v527 F' (by rw [hi]; rfl) (st_nil hi) ⟨⟨trivial, trivial, bslc_ok hi (by rw [h0, hρ]; exact rowF32_ok hs (DVs.okAt (DVs.okAt ha 0 rfl) 2 rfl) hv526), trivial⟩, bslc_ok hi (by rw [h0, hρ]; exact rowF32_ok hs (DVs.okAt ha 1 rfl) hv527), trivial⟩ hy⟩) rfl rfl
  · cases hr
/-! (impl.Factor).solve -/
noncomputable def impl_Factor_solve_l0_T (v486 : List Int) (v487 : List Nat) (s : Int × (List Nat)) : Tree ((Int × (List Nat)) ⊕ ((List Nat))) :=
  (.br (decide (s.1 < ((v486.length : Nat) : Int))) (
   (.grd (inb s.1 v486.length) <|
   (.grd (inb (nth v486 (Int.toNat s.1)) v487.length) <|
   (.grd (fits (s.2 ++ ([nth v487 (Int.toNat (nth v486 (Int.toNat s.1)))] : List Nat)).length) <|
   .leaf (.inl (IntKind.i64.wrap (s.1 + (1 : Int)), s.2 ++ ([nth v487 (Int.toNat (nth v486 (Int.toNat s.1)))] : List Nat))))))
  ) (
   .leaf (.inr s.2)
  ))

noncomputable def impl_Factor_solve_l0_g (v486 : List Int) (v487 : List Nat) (s0 : Int × (List Nat)) : Option ((List Nat)) := whileM (fun s => (impl_Factor_solve_l0_T v486 v487 s).run) s0
def impl_Factor_solve_l0_E (v483 : Int) (v484 : Int) (v485 : List Nat) (v486 : List Int) (v487 : List Nat) (s : Int × (List Nat)) : Sd := ([.top, .bslc (BR.root 2) (.f32 v487), .ptr 0 (0 : Nat) 0 (4 : Nat), .top, .top, .int .i64 v483, .own 1 0 ((s.2).length), .top, .top, .top, .top, .top, .top, .top, .top, .bslc (BR.root 1) (.i64 v486), .int .i64 ((v486.length : Nat) : Int), .int .i64 s.1, .top, .top, .top, .top, .top, .top, .top, .top, .top, .top, .top, .top, .top, .top, .top, .top, .top, .top, .top, .top, .top, .top, .top, .top, .top, .top, .top, .top, .top, .top, .top, .top, .top], [.gen [.int .i64 v483, .int .i64 v484, .bslc (BR.root 0) (.f32 v485), .bslc (BR.root 1) (.i64 v486)] false 0, .row (.f32 s.2) 0])
def impl_Factor_solve_l0_X (v483 : Int) (v484 : Int) (v485 : List Nat) (v486 : List Int) (v487 : List Nat) (x : (List Nat)) : Out := (.normal, [.top, .top, .ptr 0 (0 : Nat) 0 (4 : Nat), .top, .top, .int .i64 v483, .own 1 0 ((x).length), .top, .top, .top, .top, .top, .top, .top, .top, .top, .top, .top, .top, .top, .top, .top, .top, .top, .top, .top, .top, .top, .top, .top, .top, .top, .top, .top, .top, .top, .top, .top, .top, .top, .top, .top, .top, .top, .top, .top, .top, .top, .top, .top, .top], [.gen [.int .i64 v483, .int .i64 v484, .bslc (BR.root 0) (.f32 v485), .bslc (BR.root 1) (.i64 v486)] false 0, .row (.f32 x) 0])
def impl_Factor_solve_l0_kill : List Nat := [1, 0, 0, 1, 1, 0, 0, 1, 1, 1, 1, 1, 1, 1, 1, 0, 0, 0, 1, 1, 1, 1, 1, 1, 1, 1, 1, 1, 1, 1, 1, 1, 1, 1, 1, 1, 1, 1, 1, 1, 1, 1, 1, 1, 1, 1, 1, 1, 1, 1, 1]
def impl_Factor_solve_l0_nx : Exit → List Nat
  | .exit 0 => [1, 1, 0, 1, 1, 0, 0, 1, 1, 1, 1, 1, 1, 1, 1, 1, 1, 1, 1, 1, 1, 1, 1, 1, 1, 1, 1, 1, 1, 1, 1, 1, 1, 1, 1, 1, 1, 1, 1, 1, 1, 1, 1, 1, 1, 1, 1, 1, 1, 1, 1]
  | .ret => [1, 1, 1, 1, 0, 1, 1, 1, 1, 1, 1, 1, 1, 1, 1, 1, 1, 1, 1, 1, 1, 1, 1, 1, 1, 1, 1, 1, 1, 1, 1, 1, 1, 1, 1, 1, 1, 1, 1, 1, 1, 1, 1, 1, 1, 1, 1, 1, 1, 1, 1]
  | _ => []
noncomputable def impl_Factor_solve_l2_T (v483 : Int) (v484 : Int) (v485 : List Nat) (s : Int × (List Nat)) : Tree ((Int × (List Nat)) ⊕ ((List Nat))) :=
  (.br (decide (s.1 < v483)) (
   (.grd (inb s.1 ((s.2).length)) <|
   (.call (impl_Matrix_lessRow_g v483 v484 v485 (nth s.2 (Int.toNat s.1)) s.1 (0 : Int) s.1 s.2) fun v522 =>
   (.grd (inb s.1 ((s.2).length)) <|
   .leaf (.inl (IntKind.i64.wrap (s.1 + (1 : Int)), List.set s.2 (Int.toNat s.1) v522)))))
  ) (
   .leaf (.inr s.2)
  ))

noncomputable def impl_Factor_solve_l2_g (v483 : Int) (v484 : Int) (v485 : List Nat) (s0 : Int × (List Nat)) : Option ((List Nat)) := whileM (fun s => (impl_Factor_solve_l2_T v483 v484 v485 s).run) s0
def impl_Factor_solve_l2_E (v483 : Int) (v484 : Int) (v485 : List Nat) (v486 : List Int) (v487 : List Nat) (s : Int × (List Nat)) : Sd := ([.top, .top, .ptr 0 (0 : Nat) 0 (4 : Nat), .top, .top, .int .i64 v483, .own 1 0 ((s.2).length), .top, .top, .int .i64 s.1, .top, .top, .top, .top, .top, .top, .top, .top, .top, .top, .top, .top, .top, .top, .top, .top, .top, .top, .top, .top, .top, .top, .top, .top, .top, .top, .top, .top, .top, .top, .top, .top, .top, .top, .top, .top, .top, .top, .top, .top, .top], [.gen [.int .i64 v483, .int .i64 v484, .bslc (BR.root 0) (.f32 v485), .bslc (BR.root 1) (.i64 v486)] false 0, .row (.f32 s.2) 0])
def impl_Factor_solve_l2_X (v483 : Int) (v484 : Int) (v485 : List Nat) (v486 : List Int) (v487 : List Nat) (x : (List Nat)) : Out := (.normal, [.top, .top, .ptr 0 (0 : Nat) 0 (4 : Nat), .top, .top, .top, .own 1 0 ((x).length), .top, .top, .top, .top, .top, .top, .top, .top, .top, .top, .top, .top, .top, .top, .top, .top, .top, .top, .top, .top, .top, .top, .top, .top, .top, .top, .top, .top, .top, .top, .top, .top, .top, .top, .top, .top, .top, .top, .top, .top, .top, .top, .top, .top], [.gen [.int .i64 v483, .int .i64 v484, .bslc (BR.root 0) (.f32 v485), .bslc (BR.root 1) (.i64 v486)] false 0, .row (.f32 x) 0])
def impl_Factor_solve_l2_kill : List Nat := [1, 1, 0, 1, 1, 0, 0, 1, 1, 0, 1, 1, 1, 1, 1, 1, 1, 1, 1, 1, 1, 1, 1, 1, 1, 1, 1, 1, 1, 1, 1, 1, 1, 1, 1, 1, 1, 1, 1, 1, 1, 1, 1, 1, 1, 1, 1, 1, 1, 1, 1]
def impl_Factor_solve_l2_nx : Exit → List Nat
  | .exit 2 => [1, 1, 0, 1, 1, 1, 0, 1, 1, 1, 1, 1, 1, 1, 1, 1, 1, 1, 1, 1, 1, 1, 1, 1, 1, 1, 1, 1, 1, 1, 1, 1, 1, 1, 1, 1, 1, 1, 1, 1, 1, 1, 1, 1, 1, 1, 1, 1, 1, 1, 1]
  | .ret => [1, 1, 1, 1, 0, 1, 1, 1, 1, 1, 1, 1, 1, 1, 1, 1, 1, 1, 1, 1, 1, 1, 1, 1, 1, 1, 1, 1, 1, 1, 1, 1, 1, 1, 1, 1, 1, 1, 1, 1, 1, 1, 1, 1, 1, 1, 1, 1, 1, 1, 1]
  | _ => []
noncomputable def impl_Factor_solve_LO (v483 : Int) (v484 : Int) (v485 : List Nat) (v486 : List Int) (v487 : List Nat) : LOr := fun id e L =>
  match id with
  | 0 => .need (normA 0 impl_Factor_solve_l0_kill e L = some (impl_Factor_solve_l0_E v483 v484 v485 v486 v487 ((gI (vAt e 17)), (gRF L (vAt e 6))))) (.call (impl_Factor_solve_l0_g v486 v487 ((gI (vAt e 17)), (gRF L (vAt e 6)))) fun x => .leaf (impl_Factor_solve_l0_X v483 v484 v485 v486 v487 x))
  | 2 => .need (normA 0 impl_Factor_solve_l2_kill e L = some (impl_Factor_solve_l2_E v483 v484 v485 v486 v487 ((gI (vAt e 9)), (gRF L (vAt e 6))))) (.call (impl_Factor_solve_l2_g v483 v484 v485 ((gI (vAt e 9)), (gRF L (vAt e 6)))) fun x => .leaf (impl_Factor_solve_l2_X v483 v484 v485 v486 v487 x))
  | _ => .fail
noncomputable def impl_Factor_solve_tab : List (FuncId × DFn × Bool) := [(160, impl_Matrix_lessRow_F, true), (161, impl_Matrix_upperSolve_F, true)]
theorem impl_Factor_solve_hO : OrcOk Try.prog (tabD impl_Factor_solve_tab) (tabM impl_Factor_solve_tab) := tabD_cons impl_Matrix_lessRow_Fok (tabD_cons impl_Matrix_upperSolve_Fok (tabD_nil _))
theorem impl_Factor_solve_l0_be (v483 : Int) (v484 : Int) (v485 : List Nat) (v486 : List Int) (v487 : List Nat) (s : Int × (List Nat)) : bodyT TT (tabD impl_Factor_solve_tab) (tabM impl_Factor_solve_tab) (impl_Factor_solve_LO v483 v484 v485 v486 v487) 0 impl_Factor_solve_l0_kill impl_Factor_solve_l0_nx (bodyOf Try.f127 0) 0 (impl_Factor_solve_l0_E v483 v484 v485 v486 v487 s) = (impl_Factor_solve_l0_T v486 v487 s).bind fun y => .leaf (outS (impl_Factor_solve_l0_E v483 v484 v485 v486 v487) (impl_Factor_solve_l0_X v483 v484 v485 v486 v487) y) := by kernel_rfl
theorem impl_Factor_solve_l0_ok (v483 : Int) (v484 : Int) (v485 : List Nat) (v486 : List Int) (v487 : List Nat) : LSound Try.prog 0 (impl_Factor_solve_LO v483 v484 v485 v486 v487) 0 (bodyOf Try.f127 0) := by
  intro e L out h
  exact lo_ok (E := impl_Factor_solve_l0_E v483 v484 v485 v486 v487) (gT := impl_Factor_solve_l0_T v486 v487) (X := impl_Factor_solve_l0_X v483 v484 v485 v486 v487) (s0 := ((gI (vAt e 17)), (gRF L (vAt e 6)))) tok impl_Factor_solve_hO mixed (LoopsOk_eq (l := []) (by kernel_rfl) trivial) (impl_Factor_solve_l0_be v483 v484 v485 v486 v487) rfl (by intro x; rfl) h
theorem impl_Factor_solve_l2_be (v483 : Int) (v484 : Int) (v485 : List Nat) (v486 : List Int) (v487 : List Nat) (s : Int × (List Nat)) : bodyT TT (tabD impl_Factor_solve_tab) (tabM impl_Factor_solve_tab) (impl_Factor_solve_LO v483 v484 v485 v486 v487) 0 impl_Factor_solve_l2_kill impl_Factor_solve_l2_nx (bodyOf Try.f127 2) 2 (impl_Factor_solve_l2_E v483 v484 v485 v486 v487 s) = (impl_Factor_solve_l2_T v483 v484 v485 s).bind fun y => .leaf (outS (impl_Factor_solve_l2_E v483 v484 v485 v486 v487) (impl_Factor_solve_l2_X v483 v484 v485 v486 v487) y) := by kernel_rfl
theorem impl_Factor_solve_l2_ok (v483 : Int) (v484 : Int) (v485 : List Nat) (v486 : List Int) (v487 : List Nat) : LSound Try.prog 0 (impl_Factor_solve_LO v483 v484 v485 v486 v487) 2 (bodyOf Try.f127 2) := by
  intro e L out h
  exact lo_ok (E := impl_Factor_solve_l2_E v483 v484 v485 v486 v487) (gT := impl_Factor_solve_l2_T v483 v484 v485) (X := impl_Factor_solve_l2_X v483 v484 v485 v486 v487) (s0 := ((gI (vAt e 9)), (gRF L (vAt e 6)))) tok impl_Factor_solve_hO mixed (LoopsOk_eq (l := []) (by kernel_rfl) trivial) (impl_Factor_solve_l2_be v483 v484 v485 v486 v487) rfl (by intro x; rfl) h
noncomputable def impl_Factor_solve_T (v483 : Int) (v484 : Int) (v485 : List Nat) (v486 : List Int) (v487 : List Nat) : Tree ((List Nat)) :=
  (.need (some (impl_Factor_solve_l0_E v483 v484 v485 v486 v487 ((0 : Int), ([] : List Nat))) = some (impl_Factor_solve_l0_E v483 v484 v485 v486 v487 ((0 : Int), ([] : List Nat)))) <|
  (.call (impl_Factor_solve_l0_g v486 v487 ((0 : Int), ([] : List Nat))) fun v493 =>
  (.need (some (impl_Factor_solve_l2_E v483 v484 v485 v486 v487 ((1 : Int), v493)) = some (impl_Factor_solve_l2_E v483 v484 v485 v486 v487 ((1 : Int), v493))) <|
  (.call (impl_Factor_solve_l2_g v483 v484 v485 ((1 : Int), v493)) fun v523 =>
  (.call (impl_Matrix_upperSolve_g v483 v484 v485 v523) fun v542 =>
  .leaf v542)))))

noncomputable def impl_Factor_solve_g (v483 : Int) (v484 : Int) (v485 : List Nat) (v486 : List Int) (v487 : List Nat) : Option ((List Nat)) := (impl_Factor_solve_T v483 v484 v485 v486 v487).run
def impl_Factor_solve_enc (v483 : Int) (v484 : Int) (v485 : List Nat) (v486 : List Int) (v487 : List Nat) (y : (List Nat)) : Rs := (.own 0 0 ((y).length), [.row (.f32 y) 0])
theorem impl_Factor_solve_den (v483 : Int) (v484 : Int) (v485 : List Nat) (v486 : List Int) (v487 : List Nat) : (den TT (tabD impl_Factor_solve_tab) (tabM impl_Factor_solve_tab) (impl_Factor_solve_LO v483 v484 v485 v486 v487) (codeOf Try.f127) ([.agg [.int .i64 v483, .int .i64 v484, .bslc (BR.root 0) (.f32 v485), .bslc (BR.root 1) (.i64 v486)], .bslc (BR.root 2) (.f32 v487)] ++ List.replicate (Try.f127.ntmps - ([.agg [.int .i64 v483, .int .i64 v484, .bslc (BR.root 0) (.f32 v485), .bslc (BR.root 1) (.i64 v486)], .bslc (BR.root 2) (.f32 v487)] : List DV).length) .undef) []).bind (retD TT Try.f127.results.toList 0) = (impl_Factor_solve_T v483 v484 v485 v486 v487).bind fun y => .leaf (impl_Factor_solve_enc v483 v484 v485 v486 v487 y) := by kernel_rfl
theorem impl_Factor_solve_fn (v483 : Int) (v484 : Int) (v485 : List Nat) (v486 : List Int) (v487 : List Nat) (F : Fr) (hm : F.ids.length = 0) (h0 : St F [] F.H0) (hA : DVs.Ok F [] [.agg [.int .i64 v483, .int .i64 v484, .bslc (BR.root 0) (.f32 v485), .bslc (BR.root 1) (.i64 v486)], .bslc (BR.root 2) (.f32 v487)]) {y : (List Nat)} (hy : impl_Factor_solve_g v483 v484 v485 v486 v487 = some y) : ∃ H', FnOk Try.prog 127 (DVs.av F [.agg [.int .i64 v483, .int .i64 v484, .bslc (BR.root 0) (.f32 v485), .bslc (BR.root 1) (.i64 v486)], .bslc (BR.root 2) (.f32 v487)]) F.H0 ((impl_Factor_solve_enc v483 v484 v485 v486 v487 y).1.av F) H' ∧ St F (impl_Factor_solve_enc v483 v484 v485 v486 v487 y).2 H' ∧ (impl_Factor_solve_enc v483 v484 v485 v486 v487 y).1.Ok F (impl_Factor_solve_enc v483 v484 v485 v486 v487 y).2 :=
  fn_fin tok impl_Factor_solve_hO mixed Try.func127 Try.call127 (by kernel_rfl) (LoopsOk_eq (l := [(0, bodyOf Try.f127 0), (2, bodyOf Try.f127 2)]) (by kernel_rfl) ⟨impl_Factor_solve_l0_ok v483 v484 v485 v486 v487, impl_Factor_solve_l2_ok v483 v484 v485 v486 v487, trivial⟩) (impl_Factor_solve_den v483 v484 v485 v486 v487) hy hm h0 hA
noncomputable def impl_Factor_solve_F : DFn := fun args L =>
  match args with
  | [.agg [.int .i64 v483, .int .i64 v484, a1, a2], a3] =>
    optT (rowF32 L a1) fun v485 =>
    optT (rowI64 L a2) fun v486 =>
    optT (rowF32 L a3) fun v487 =>
    .call (impl_Factor_solve_g v483 v484 v485 v486 v487) fun y => .leaf (.own (L.length + 0) 0 ((y).length), L ++ [.row (.f32 y) 0])
  | _ => .fail
theorem impl_Factor_solve_Fok : COk Try.prog 127 impl_Factor_solve_F true := by
  intro F L H args r L' hs ha hr
  unfold impl_Factor_solve_F at hr
  split at hr
  · rename_i v483 v484 a1 a2 a3
    obtain ⟨v485, hv485, hr⟩ := optT_run hr
    obtain ⟨v486, hv486, hr⟩ := optT_run hr
    obtain ⟨v487, hv487, hr⟩ := optT_run hr
    simp only [Tree.run] at hr
    obtain ⟨y, hy, hr⟩ := Option.bind_eq_some_iff.1 hr
    simp only [Tree.run, Option.some.injEq, Prod.mk.injEq] at hr
    obtain ⟨rfl, rfl⟩ := hr
    exact call_ok1 hs (fun k => (([a1.av F, a2.av F, a3.av F] : List AV)[k]?).getD .top) [.agg [.int .i64 v483, .int .i64 v484, a1, a2], a3] [.agg [.int .i64 v483, .int .i64 v484, .bslc (BR.root 0) (.f32 v485), .bslc (BR.root 1) (.i64 v486)], .bslc (BR.root 2) (.f32 v487)] (fun F' h0 hi hρ => ⟨by simp [DVs.av, DV.av, BR.av, hρ], impl_Factor_solve_fn v483 v484 v485 v486 v487 F' (by rw [hi]; rfl) (st_nil hi) ⟨⟨trivial, trivial, bslc_ok hi (by rw [h0, hρ]; exact rowF32_ok hs (DVs.okAt (DVs.okAt ha 0 rfl) 2 rfl) hv485), bslc_ok hi (by rw [h0, hρ]; exact rowI64_ok hs (DVs.okAt (DVs.okAt ha 0 rfl) 3 rfl) hv486), trivial⟩, bslc_ok hi (by rw [h0, hρ]; exact rowF32_ok hs (DVs.okAt ha 1 rfl) hv487), trivial⟩ hy⟩) rfl rfl
  · cases hr
/-! (impl.Matrix).setColumn -/
noncomputable def impl_Matrix_setColumn_l0_T (v550 : Int) (v551 : Int) (v553 : Int) (v554 : List Nat) (s : Int × (List Nat)) : Tree ((Int × (List Nat)) ⊕ ((List Nat))) :=
  (.br (decide (s.1 < v550)) (
   (.grd (inb s.1 v554.length) <|
   (.call (impl_Matrix_set_g v551 s.2 s.1 v553) fun v562 =>
   (.grd (decide ((List.set s.2 (Int.toNat (IntKind.i64.wrap ((IntKind.i64.wrap (s.1 * v551)) + v553))) (nth v554 (Int.toNat s.1))).length = s.2.length)) <|
   .leaf (.inl (IntKind.i64.wrap (s.1 + (1 : Int)), List.set s.2 (Int.toNat (IntKind.i64.wrap ((IntKind.i64.wrap (s.1 * v551)) + v553))) (nth v554 (Int.toNat s.1)))))))
  ) (
   .leaf (.inr s.2)
  ))

noncomputable def impl_Matrix_setColumn_l0_g (v550 : Int) (v551 : Int) (v553 : Int) (v554 : List Nat) (s0 : Int × (List Nat)) : Option ((List Nat)) := whileM (fun s => (impl_Matrix_setColumn_l0_T v550 v551 v553 v554 s).run) s0
def impl_Matrix_setColumn_l0_E (v550 : Int) (v551 : Int) (v552 : List Nat) (v553 : Int) (v554 : List Nat) (s : Int × (List Nat)) : Sd := ([.top, .int .i64 v553, .bslc (BR.root 1) (.f32 v554), .ptr 1 (0 : Nat) 0 (3 : Nat), .top, .top, .top, .top, .int .i64 v550, .int .i64 s.1, .top, .top, .top, .top, .top, .top, .top, .top, .top, .top, .top], [.row (.f32 s.2) 0, .gen [.int .i64 v550, .int .i64 v551, .own 0 0 ((s.2).length)] false 0])
def impl_Matrix_setColumn_l0_X (v550 : Int) (v551 : Int) (v552 : List Nat) (v553 : Int) (v554 : List Nat) (x : (List Nat)) : Out := (.normal, [.top, .top, .top, .top, .top, .top, .top, .top, .top, .top, .top, .top, .top, .top, .top, .top, .top, .top, .top, .top, .top], [.row (.f32 x) 0])
def impl_Matrix_setColumn_l0_kill : List Nat := [1, 0, 0, 0, 1, 1, 1, 1, 0, 0, 1, 1, 1, 1, 1, 1, 1, 1, 1, 1, 1]
def impl_Matrix_setColumn_l0_nx : Exit → List Nat
  | .exit 0 => [1, 1, 1, 1, 1, 1, 1, 1, 1, 1, 1, 1, 1, 1, 1, 1, 1, 1, 1, 1, 1]
  | .ret => [1, 1, 1, 1, 1, 1, 1, 1, 1, 1, 1, 1, 1, 1, 1, 1, 1, 1, 1, 1, 1]
  | _ => []
noncomputable def impl_Matrix_setColumn_LO (v550 : Int) (v551 : Int) (v552 : List Nat) (v553 : Int) (v554 : List Nat) : LOr := fun id e L =>
  match id with
  | 0 => .need (normA 1 impl_Matrix_setColumn_l0_kill e L = some (impl_Matrix_setColumn_l0_E v550 v551 v552 v553 v554 ((gI (vAt e 9)), (gRF L (cAt L (vAt e 3) 2))))) (.call (impl_Matrix_setColumn_l0_g v550 v551 v553 v554 ((gI (vAt e 9)), (gRF L (cAt L (vAt e 3) 2)))) fun x => .leaf (impl_Matrix_setColumn_l0_X v550 v551 v552 v553 v554 x))
  | _ => .fail
noncomputable def impl_Matrix_setColumn_tab : List (FuncId × DFn × Bool) := [(142, impl_Matrix_set_F, false)]
theorem impl_Matrix_setColumn_hO : OrcOk Try.prog (tabD impl_Matrix_setColumn_tab) (tabM impl_Matrix_setColumn_tab) := tabD_cons impl_Matrix_set_Fok (tabD_nil _)
theorem impl_Matrix_setColumn_l0_be (v550 : Int) (v551 : Int) (v552 : List Nat) (v553 : Int) (v554 : List Nat) (s : Int × (List Nat)) : bodyT TT (tabD impl_Matrix_setColumn_tab) (tabM impl_Matrix_setColumn_tab) (impl_Matrix_setColumn_LO v550 v551 v552 v553 v554) 1 impl_Matrix_setColumn_l0_kill impl_Matrix_setColumn_l0_nx (bodyOf Try.f126 0) 0 (impl_Matrix_setColumn_l0_E v550 v551 v552 v553 v554 s) = (impl_Matrix_setColumn_l0_T v550 v551 v553 v554 s).bind fun y => .leaf (outS (impl_Matrix_setColumn_l0_E v550 v551 v552 v553 v554) (impl_Matrix_setColumn_l0_X v550 v551 v552 v553 v554) y) := by kernel_rfl
theorem impl_Matrix_setColumn_l0_ok (v550 : Int) (v551 : Int) (v552 : List Nat) (v553 : Int) (v554 : List Nat) : LSound Try.prog 1 (impl_Matrix_setColumn_LO v550 v551 v552 v553 v554) 0 (bodyOf Try.f126 0) := by
  intro e L out h
  exact lo_ok (E := impl_Matrix_setColumn_l0_E v550 v551 v552 v553 v554) (gT := impl_Matrix_setColumn_l0_T v550 v551 v553 v554) (X := impl_Matrix_setColumn_l0_X v550 v551 v552 v553 v554) (s0 := ((gI (vAt e 9)), (gRF L (cAt L (vAt e 3) 2)))) tok impl_Matrix_setColumn_hO mixed (LoopsOk_eq (l := []) (by kernel_rfl) trivial) (impl_Matrix_setColumn_l0_be v550 v551 v552 v553 v554) rfl (by intro x; rfl) h
noncomputable def impl_Matrix_setColumn_T (v550 : Int) (v551 : Int) (v552 : List Nat) (v553 : Int) (v554 : List Nat) : Tree ((List Nat)) :=
  (.need (some (impl_Matrix_setColumn_l0_E v550 v551 v552 v553 v554 ((0 : Int), v552)) = some (impl_Matrix_setColumn_l0_E v550 v551 v552 v553 v554 ((0 : Int), v552))) <|
  (.call (impl_Matrix_setColumn_l0_g v550 v551 v553 v554 ((0 : Int), v552)) fun v563 =>
  .leaf v563))

noncomputable def impl_Matrix_setColumn_g (v550 : Int) (v551 : Int) (v552 : List Nat) (v553 : Int) (v554 : List Nat) : Option ((List Nat)) := (impl_Matrix_setColumn_T v550 v551 v552 v553 v554).run
def impl_Matrix_setColumn_enc (v550 : Int) (v551 : Int) (v552 : List Nat) (v553 : Int) (v554 : List Nat) (y : (List Nat)) : Rs := (.tup [], [.row (.f32 y) 0])
theorem impl_Matrix_setColumn_den (v550 : Int) (v551 : Int) (v552 : List Nat) (v553 : Int) (v554 : List Nat) : (den TT (tabD impl_Matrix_setColumn_tab) (tabM impl_Matrix_setColumn_tab) (impl_Matrix_setColumn_LO v550 v551 v552 v553 v554) (codeOf Try.f126) ([.agg [.int .i64 v550, .int .i64 v551, .own 0 0 v552.length], .int .i64 v553, .bslc (BR.root 1) (.f32 v554)] ++ List.replicate (Try.f126.ntmps - ([.agg [.int .i64 v550, .int .i64 v551, .own 0 0 v552.length], .int .i64 v553, .bslc (BR.root 1) (.f32 v554)] : List DV).length) .undef) [.row (.f32 v552) 0]).bind (retD TT Try.f126.results.toList 1) = (impl_Matrix_setColumn_T v550 v551 v552 v553 v554).bind fun y => .leaf (impl_Matrix_setColumn_enc v550 v551 v552 v553 v554 y) := by kernel_rfl
theorem impl_Matrix_setColumn_fn (v550 : Int) (v551 : Int) (v552 : List Nat) (v553 : Int) (v554 : List Nat) (F : Fr) (hm : F.ids.length = 1) (h0 : St F [.row (.f32 v552) 0] F.H0) (hA : DVs.Ok F [.row (.f32 v552) 0] [.agg [.int .i64 v550, .int .i64 v551, .own 0 0 v552.length], .int .i64 v553, .bslc (BR.root 1) (.f32 v554)]) {y : (List Nat)} (hy : impl_Matrix_setColumn_g v550 v551 v552 v553 v554 = some y) : ∃ H', FnOk Try.prog 126 (DVs.av F [.agg [.int .i64 v550, .int .i64 v551, .own 0 0 v552.length], .int .i64 v553, .bslc (BR.root 1) (.f32 v554)]) F.H0 ((impl_Matrix_setColumn_enc v550 v551 v552 v553 v554 y).1.av F) H' ∧ St F (impl_Matrix_setColumn_enc v550 v551 v552 v553 v554 y).2 H' ∧ (impl_Matrix_setColumn_enc v550 v551 v552 v553 v554 y).1.Ok F (impl_Matrix_setColumn_enc v550 v551 v552 v553 v554 y).2 :=
  fn_fin tok impl_Matrix_setColumn_hO mixed Try.func126 Try.call126 (by kernel_rfl) (LoopsOk_eq (l := [(0, bodyOf Try.f126 0)]) (by kernel_rfl) ⟨impl_Matrix_setColumn_l0_ok v550 v551 v552 v553 v554, trivial⟩) (impl_Matrix_setColumn_den v550 v551 v552 v553 v554) hy hm h0 hA
noncomputable def impl_Matrix_setColumn_F : DFn := fun args L =>
  match args with
  | [.agg [.int .i64 v550, .int .i64 v551, a1], .int .i64 v553, a2] =>
    optT (ownF32 L a1) fun qv552 =>
    optT (rowF32 L a2) fun v554 =>
    (match sepB [qv552.1] [a2] with
    | true =>
    .call (impl_Matrix_setColumn_g v550 v551 qv552.2 v553 v554) fun y => .grd (decide (y.length = qv552.2.length)) (.leaf (.tup [], setRows L ([qv552.1].zip [.f32 y])))
    | false => .fail)
  | _ => .fail
theorem impl_Matrix_setColumn_Fok : COk Try.prog 126 impl_Matrix_setColumn_F false := by
  intro F L H args r L' hs ha hr
  unfold impl_Matrix_setColumn_F at hr
  split at hr
  · rename_i v550 v551 a1 v553 a2
    obtain ⟨⟨jv552, v552⟩, hqv552, hr⟩ := optT_run hr
    simp only at hr
    obtain ⟨v554, hv554, hr⟩ := optT_run hr
    split at hr
    · rename_i hsep
      obtain ⟨hnd, hsepv⟩ := sepB_spec hsep
      simp only [Tree.run] at hr
      obtain ⟨y, hy, hr⟩ := Option.bind_eq_some_iff.1 hr
      try simp only [Tree.run] at hr
      obtain ⟨hl0, hr⟩ := ite_run hr
      simp only [Option.some.injEq, Prod.mk.injEq] at hr
      obtain ⟨rfl, rfl⟩ := hr
      obtain ⟨hr0, hu0, ha0, hb0⟩ := (ownR_spec (DVs.okAt (DVs.okAt ha 0 rfl) 2 rfl) (ownF32_or hqv552))
      exact mut_ok hs (fun k => (([a1.av F, a2.av F] : List AV)[k]?).getD .top) [.agg [.int .i64 v550, .int .i64 v551, a1], .int .i64 v553, a2] [.agg [.int .i64 v550, .int .i64 v551, .own 0 0 v552.length], .int .i64 v553, .bslc (BR.root 1) (.f32 v554)] [jv552] [.f32 v552] [.f32 y] hnd rfl rfl (fun i j q h1 h2 => by
          rcases i with _ | i
          · simp at h1 h2; subst h1; subst h2; exact hr0
          · simp at h1) (fun i q q' h1 h2 => by
          rcases i with _ | i
          · simp at h1 h2; subst h1; subst h2; exact of_decide_eq_true hl0
          · simp at h1) (fun j hj => by simp at hj; subst hj; simp [DVs.refs, DV.refs, hu0]) (fun F' h0 hi hρ hst hS => ⟨by (have ab0 : F'.abs 0 = F.abs jv552 := (by simp [Fr.abs, hi]); simp [DVs.av, DV.av, BR.av, hρ, Row.len, ha0, ab0]), by
          obtain ⟨H1, k1, k2, _⟩ := impl_Matrix_setColumn_fn v550 v551 v552 v553 v554 F' (by rw [hi]; rfl) hst ⟨⟨trivial, trivial, ⟨_, rfl, Nat.le_refl _, Nat.le_refl _, fun _ => rfl, (ownR_spec (DVs.okAt (DVs.okAt ha 0 rfl) 2 rfl) (ownF32_or hqv552)).2.2.2⟩, trivial⟩, trivial, bslcM hS (by rw [hρ]; rfl) (hsepv a2 (by simp)) (DVs.okAt ha 2 rfl) (rowF32_or hv554), trivial⟩ hy
          exact ⟨H1, k1, k2⟩⟩) (fun F' => rfl) (fun L' => trivial)
    · cases hr
  · cases hr
/-! (impl.Matrix).valid -/
noncomputable def impl_Matrix_valid_LO (v582 : Int) (v583 : Int) (v584 : List Nat) : LOr := fun id e L =>
  match id with
  | _ => .fail
noncomputable def impl_Matrix_valid_tab : List (FuncId × DFn × Bool) := [(98, impl_ValidMatrix_F, true)]
theorem impl_Matrix_valid_hO : OrcOk Try.prog (tabD impl_Matrix_valid_tab) (tabM impl_Matrix_valid_tab) := tabD_cons impl_ValidMatrix_Fok (tabD_nil _)
noncomputable def impl_Matrix_valid_T (v582 : Int) (v583 : Int) (v584 : List Nat) : Tree ((Unit) ⊕ (Int × Int)) :=
  (.call (impl_ValidMatrix_g v582 v583 v584) fun v585 =>
  (.br (!v585) (
   .leaf (.inl ())
  ) (
   .leaf (.inr (v582, v583))
  )))

noncomputable def impl_Matrix_valid_g (v582 : Int) (v583 : Int) (v584 : List Nat) : Option ((Unit) ⊕ (Int × Int)) := (impl_Matrix_valid_T v582 v583 v584).run
def impl_Matrix_valid_enc (v582 : Int) (v583 : Int) (v584 : List Nat) (y : (Unit) ⊕ (Int × Int)) : Rs := (match y with | .inl y => (.tup [.agg [.int .i64 (0 : Int), .int .i64 (0 : Int), .nilslc], .lit false], []) | .inr y => (.tup [.agg [.int .i64 y.1, .int .i64 y.2, .bslc (BR.root 0) (.f32 v584)], .lit true], []))
theorem impl_Matrix_valid_den (v582 : Int) (v583 : Int) (v584 : List Nat) : (den TT (tabD impl_Matrix_valid_tab) (tabM impl_Matrix_valid_tab) (impl_Matrix_valid_LO v582 v583 v584) (codeOf Try.f129) ([.agg [.int .i64 v582, .int .i64 v583, .bslc (BR.root 0) (.f32 v584)]] ++ List.replicate (Try.f129.ntmps - ([.agg [.int .i64 v582, .int .i64 v583, .bslc (BR.root 0) (.f32 v584)]] : List DV).length) .undef) []).bind (retD TT Try.f129.results.toList 0) = (impl_Matrix_valid_T v582 v583 v584).bind fun y => .leaf (impl_Matrix_valid_enc v582 v583 v584 y) := by kernel_rfl
theorem impl_Matrix_valid_fn (v582 : Int) (v583 : Int) (v584 : List Nat) (F : Fr) (hm : F.ids.length = 0) (h0 : St F [] F.H0) (hA : DVs.Ok F [] [.agg [.int .i64 v582, .int .i64 v583, .bslc (BR.root 0) (.f32 v584)]]) {y : (Unit) ⊕ (Int × Int)} (hy : impl_Matrix_valid_g v582 v583 v584 = some y) : ∃ H', FnOk Try.prog 129 (DVs.av F [.agg [.int .i64 v582, .int .i64 v583, .bslc (BR.root 0) (.f32 v584)]]) F.H0 ((impl_Matrix_valid_enc v582 v583 v584 y).1.av F) H' ∧ St F (impl_Matrix_valid_enc v582 v583 v584 y).2 H' ∧ (impl_Matrix_valid_enc v582 v583 v584 y).1.Ok F (impl_Matrix_valid_enc v582 v583 v584 y).2 :=
  fn_fin tok impl_Matrix_valid_hO mixed Try.func129 Try.call129 (by kernel_rfl) (LoopsOk_eq (l := []) (by kernel_rfl) trivial) (impl_Matrix_valid_den v582 v583 v584) hy hm h0 hA
noncomputable def impl_Matrix_valid_F : DFn := fun args L =>
  match args with
  | [.agg [.int .i64 v582, .int .i64 v583, a1]] =>
    optT (rowF32 L a1) fun v584 =>
    .call (impl_Matrix_valid_g v582 v583 v584) fun y => .sum y (fun y0 => .leaf (.tup [.agg [.int .i64 (0 : Int), .int .i64 (0 : Int), .nilslc], .lit false], L)) (fun z0 => .leaf (.tup [.agg [.int .i64 z0.1, .int .i64 z0.2, a1], .lit true], L))
  | _ => .fail
theorem impl_Matrix_valid_Fok : COk Try.prog 129 impl_Matrix_valid_F true := by
  intro F L H args r L' hs ha hr
  unfold impl_Matrix_valid_F at hr
  split at hr
  · rename_i v582 v583 a1
    obtain ⟨v584, hv584, hr⟩ := optT_run hr
    simp only [Tree.run] at hr
    obtain ⟨y, hy, hr⟩ := Option.bind_eq_some_iff.1 hr
    cases y with
    | inl y =>
      simp only [Tree.run, Option.some.injEq, Prod.mk.injEq] at hr
      obtain ⟨rfl, rfl⟩ := hr
      exact call_ok0 hs (fun k => (([a1.av F] : List AV)[k]?).getD .top) [.agg [.int .i64 v582, .int .i64 v583, a1]] [.agg [.int .i64 v582, .int .i64 v583, .bslc (BR.root 0) (.f32 v584)]] (fun F' h0 hi hρ => ⟨by simp [DVs.av, DV.av, BR.av, hρ], impl_Matrix_valid_fn v582 v583 v584 F' (by rw [hi]; rfl) (st_nil hi) ⟨⟨trivial, trivial, bslc_ok hi (by rw [h0, hρ]; exact rowF32_ok hs (DVs.okAt (DVs.okAt ha 0 rfl) 2 rfl) hv584), trivial⟩, trivial⟩ hy⟩) rfl
    | inr y =>
      simp only [Tree.run, Option.some.injEq, Prod.mk.injEq] at hr
      obtain ⟨rfl, rfl⟩ := hr
      exact call_al0 hs (fun k => (([a1.av F] : List AV)[k]?).getD .top) [.agg [.int .i64 v582, .int .i64 v583, a1]] [.agg [.int .i64 v582, .int .i64 v583, .bslc (BR.root 0) (.f32 v584)]] (fun F' h0 hi hρ => ⟨by simp [DVs.av, DV.av, BR.av, hρ], impl_Matrix_valid_fn v582 v583 v584 F' (by rw [hi]; rfl) (st_nil hi) ⟨⟨trivial, trivial, bslc_ok hi (by rw [h0, hρ]; exact rowF32_ok hs (DVs.okAt (DVs.okAt ha 0 rfl) 2 rfl) hv584), trivial⟩, trivial⟩ hy⟩) (fun F' h0 hi hρ => by simp [impl_Matrix_valid_enc, DVs.av, DV.av, BR.av, hρ]) ⟨⟨trivial, trivial, (DVs.okAt (DVs.okAt ha 0 rfl) 2 rfl), trivial⟩, trivial, trivial⟩
  · cases hr
/-! impl.FactorInverse -/
noncomputable def impl_FactorInverse_l0_T (v302 : Int) (v303 : Int) (v304 : List Nat) (v305 : List Int) (v574 : Int) (v575 : Int) (s : Int × (List Nat)) : Tree ((Int × (List Nat)) ⊕ ((List Nat))) :=
  (.br (decide (s.1 < v302)) (
   (.call (impl_unit_g v302) fun v577 =>
   (.call (impl_Matrix_column_g v577.1 v577.2.1 v577.2.2 s.1) fun v578 =>
   (.call (impl_Factor_solve_g v302 v303 v304 v305 v578) fun v579 =>
   (.call (impl_Matrix_setColumn_g v574 v575 s.2 s.1 v579) fun v580 =>
   (.grd (decide (v580.length = s.2.length)) <|
   .leaf (.inl (IntKind.i64.wrap (s.1 + (1 : Int)), v580)))))))
  ) (
   .leaf (.inr s.2)
  ))

noncomputable def impl_FactorInverse_l0_g (v302 : Int) (v303 : Int) (v304 : List Nat) (v305 : List Int) (v574 : Int) (v575 : Int) (s0 : Int × (List Nat)) : Option ((List Nat)) := whileM (fun s => (impl_FactorInverse_l0_T v302 v303 v304 v305 v574 v575 s).run) s0
def impl_FactorInverse_l0_E (v302 : Int) (v303 : Int) (v304 : List Nat) (v305 : List Int) (v574 : Int) (v575 : Int) (s : Int × (List Nat)) : Sd := ([.top, .ptr 0 (0 : Nat) 0 (4 : Nat), .ptr 1 (0 : Nat) 0 (3 : Nat), .top, .int .i64 v302, .ptr 2 (0 : Nat) 0 (3 : Nat), .top, .top, .top, .top, .top, .top, .top, .top, .top, .top, .top, .int .i64 v302, .int .i64 s.1, .top, .top, .top, .top, .top, .top, .top, .top, .top, .top, .top, .top, .top, .top, .top, .top], [.gen [.int .i64 v302, .int .i64 v303, .bslc (BR.root 0) (.f32 v304), .bslc (BR.root 1) (.i64 v305)] false 0, .gen [.int .i64 (0 : Int), .int .i64 (0 : Int), .nilslc] false 0, .gen [.int .i64 v574, .int .i64 v575, .own 3 0 ((s.2).length)] false 0, .row (.f32 s.2) 0])
def impl_FactorInverse_l0_X (v302 : Int) (v303 : Int) (v304 : List Nat) (v305 : List Int) (v574 : Int) (v575 : Int) (x : (List Nat)) : Out := (.normal, [.top, .top, .ptr 0 (0 : Nat) 0 (3 : Nat), .top, .top, .ptr 1 (0 : Nat) 0 (3 : Nat), .top, .top, .top, .top, .top, .top, .top, .top, .top, .top, .top, .top, .top, .top, .top, .top, .top, .top, .top, .top, .top, .top, .top, .top, .top, .top, .top, .top, .top], [.gen [.int .i64 (0 : Int), .int .i64 (0 : Int), .nilslc] false 0, .gen [.int .i64 v574, .int .i64 v575, .own 2 0 ((x).length)] false 0, .row (.f32 x) 0])
def impl_FactorInverse_l0_kill : List Nat := [1, 0, 0, 1, 0, 0, 1, 1, 1, 1, 1, 1, 1, 1, 1, 1, 1, 0, 0, 1, 1, 1, 1, 1, 1, 1, 1, 1, 1, 1, 1, 1, 1, 1, 1]
def impl_FactorInverse_l0_nx : Exit → List Nat
  | .exit 0 => [1, 1, 0, 1, 1, 0, 1, 1, 1, 1, 1, 1, 1, 1, 1, 1, 1, 1, 1, 1, 1, 1, 1, 1, 1, 1, 1, 1, 1, 1, 1, 1, 1, 1, 1]
  | .ret => [1, 1, 0, 0, 1, 1, 1, 1, 1, 1, 1, 1, 1, 1, 1, 1, 1, 1, 1, 1, 1, 1, 1, 1, 1, 1, 1, 1, 1, 1, 1, 1, 1, 1, 1]
  | _ => []
noncomputable def impl_FactorInverse_LO (v302 : Int) (v303 : Int) (v304 : List Nat) (v305 : List Int) : LOr := fun id e L =>
  match id with
  | 0 => .need (normA 0 impl_FactorInverse_l0_kill e L = some (impl_FactorInverse_l0_E v302 v303 v304 v305 (gI (cAt L (vAt e 5) 0)) (gI (cAt L (vAt e 5) 1)) ((gI (vAt e 18)), (gRF L (cAt L (vAt e 5) 2))))) (.call (impl_FactorInverse_l0_g v302 v303 v304 v305 (gI (cAt L (vAt e 5) 0)) (gI (cAt L (vAt e 5) 1)) ((gI (vAt e 18)), (gRF L (cAt L (vAt e 5) 2)))) fun x => .leaf (impl_FactorInverse_l0_X v302 v303 v304 v305 (gI (cAt L (vAt e 5) 0)) (gI (cAt L (vAt e 5) 1)) x))
  | _ => .fail
noncomputable def impl_FactorInverse_tab : List (FuncId × DFn × Bool) := [(49, impl_ValidFactor_F, true), (125, impl_newMatrix_F, true), (94, impl_unit_F, true), (128, impl_Matrix_column_F, true), (127, impl_Factor_solve_F, true), (126, impl_Matrix_setColumn_F, false), (129, impl_Matrix_valid_F, true)]
theorem impl_FactorInverse_hO : OrcOk Try.prog (tabD impl_FactorInverse_tab) (tabM impl_FactorInverse_tab) := tabD_cons impl_ValidFactor_Fok (tabD_cons impl_newMatrix_Fok (tabD_cons impl_unit_Fok (tabD_cons impl_Matrix_column_Fok (tabD_cons impl_Factor_solve_Fok (tabD_cons impl_Matrix_setColumn_Fok (tabD_cons impl_Matrix_valid_Fok (tabD_nil _)))))))
theorem impl_FactorInverse_l0_be (v302 : Int) (v303 : Int) (v304 : List Nat) (v305 : List Int) (v574 : Int) (v575 : Int) (s : Int × (List Nat)) : bodyT TT (tabD impl_FactorInverse_tab) (tabM impl_FactorInverse_tab) (impl_FactorInverse_LO v302 v303 v304 v305) 0 impl_FactorInverse_l0_kill impl_FactorInverse_l0_nx (bodyOf Try.f62 0) 0 (impl_FactorInverse_l0_E v302 v303 v304 v305 v574 v575 s) = (impl_FactorInverse_l0_T v302 v303 v304 v305 v574 v575 s).bind fun y => .leaf (outS (impl_FactorInverse_l0_E v302 v303 v304 v305 v574 v575) (impl_FactorInverse_l0_X v302 v303 v304 v305 v574 v575) y) := by kernel_rfl
theorem impl_FactorInverse_l0_ok (v302 : Int) (v303 : Int) (v304 : List Nat) (v305 : List Int) : LSound Try.prog 0 (impl_FactorInverse_LO v302 v303 v304 v305) 0 (bodyOf Try.f62 0) := by
  intro e L out h
  exact lo_ok (E := impl_FactorInverse_l0_E v302 v303 v304 v305 (gI (cAt L (vAt e 5) 0)) (gI (cAt L (vAt e 5) 1))) (gT := impl_FactorInverse_l0_T v302 v303 v304 v305 (gI (cAt L (vAt e 5) 0)) (gI (cAt L (vAt e 5) 1))) (X := impl_FactorInverse_l0_X v302 v303 v304 v305 (gI (cAt L (vAt e 5) 0)) (gI (cAt L (vAt e 5) 1))) (s0 := ((gI (vAt e 18)), (gRF L (cAt L (vAt e 5) 2)))) tok impl_FactorInverse_hO mixed (LoopsOk_eq (l := []) (by kernel_rfl) trivial) (impl_FactorInverse_l0_be v302 v303 v304 v305 (gI (cAt L (vAt e 5) 0)) (gI (cAt L (vAt e 5) 1))) rfl (by intro x; rfl) h
noncomputable def impl_FactorInverse_T (v302 : Int) (v303 : Int) (v304 : List Nat) (v305 : List Int) : Tree ((Unit) ⊕ (Int × Int × (List Nat))) :=
  (.call (impl_ValidFactor_g v302 v303 v304 v305) fun v374 =>
  (.br (!v374) (
   .leaf (.inl ())
  ) (
   (.call (impl_newMatrix_g v302 v302) fun v377 =>
   (.need (some (impl_FactorInverse_l0_E v302 v303 v304 v305 v377.1 v377.2 ((0 : Int), List.replicate (Int.toNat (IntKind.i64.wrap (v302 * v302))) (0 : Nat))) = some (impl_FactorInverse_l0_E v302 v303 v304 v305 v377.1 v377.2 ((0 : Int), List.replicate (Int.toNat (IntKind.i64.wrap (v302 * v302))) (0 : Nat)))) <|
   (.call (impl_FactorInverse_l0_g v302 v303 v304 v305 v377.1 v377.2 ((0 : Int), List.replicate (Int.toNat (IntKind.i64.wrap (v302 * v302))) (0 : Nat))) fun v581 =>
   (.call (impl_Matrix_valid_g v377.1 v377.2 v581) fun v586 =>
   (.sum v586 (fun v587 =>
    .leaf (.inl ())
   ) (fun v588 =>
    .leaf (.inr (v588.1, v588.2, v581))
   ))))))
  )))

noncomputable def impl_FactorInverse_g (v302 : Int) (v303 : Int) (v304 : List Nat) (v305 : List Int) : Option ((Unit) ⊕ (Int × Int × (List Nat))) := (impl_FactorInverse_T v302 v303 v304 v305).run
def impl_FactorInverse_enc (v302 : Int) (v303 : Int) (v304 : List Nat) (v305 : List Int) (y : (Unit) ⊕ (Int × Int × (List Nat))) : Rs := (match y with | .inl y => (.tup [.agg [.int .i64 (0 : Int), .int .i64 (0 : Int), .nilslc], .lit false], []) | .inr y => (.tup [.agg [.int .i64 y.1, .int .i64 y.2.1, .own 0 0 ((y.2.2).length)], .lit true], [.row (.f32 y.2.2) 0]))
theorem impl_FactorInverse_den (v302 : Int) (v303 : Int) (v304 : List Nat) (v305 : List Int) : (den TT (tabD impl_FactorInverse_tab) (tabM impl_FactorInverse_tab) (impl_FactorInverse_LO v302 v303 v304 v305) (codeOf Try.f62) ([.agg [.int .i64 v302, .int .i64 v303, .bslc (BR.root 0) (.f32 v304), .bslc (BR.root 1) (.i64 v305)]] ++ List.replicate (Try.f62.ntmps - ([.agg [.int .i64 v302, .int .i64 v303, .bslc (BR.root 0) (.f32 v304), .bslc (BR.root 1) (.i64 v305)]] : List DV).length) .undef) []).bind (retD TT Try.f62.results.toList 0) = (impl_FactorInverse_T v302 v303 v304 v305).bind fun y => .leaf (impl_FactorInverse_enc v302 v303 v304 v305 y) := by kernel_rfl
theorem impl_FactorInverse_fn (v302 : Int) (v303 : Int) (v304 : List Nat) (v305 : List Int) (F : Fr) (hm : F.ids.length = 0) (h0 : St F [] F.H0) (hA : DVs.Ok F [] [.agg [.int .i64 v302, .int .i64 v303, .bslc (BR.root 0) (.f32 v304), .bslc (BR.root 1) (.i64 v305)]]) {y : (Unit) ⊕ (Int × Int × (List Nat))} (hy : impl_FactorInverse_g v302 v303 v304 v305 = some y) : ∃ H', FnOk Try.prog 62 (DVs.av F [.agg [.int .i64 v302, .int .i64 v303, .bslc (BR.root 0) (.f32 v304), .bslc (BR.root 1) (.i64 v305)]]) F.H0 ((impl_FactorInverse_enc v302 v303 v304 v305 y).1.av F) H' ∧ St F (impl_FactorInverse_enc v302 v303 v304 v305 y).2 H' ∧ (impl_FactorInverse_enc v302 v303 v304 v305 y).1.Ok F (impl_FactorInverse_enc v302 v303 v304 v305 y).2 :=
  fn_fin tok impl_FactorInverse_hO mixed Try.func62 Try.call62 (by kernel_rfl) (LoopsOk_eq (l := [(0, bodyOf Try.f62 0)]) (by kernel_rfl) ⟨impl_FactorInverse_l0_ok v302 v303 v304 v305, trivial⟩) (impl_FactorInverse_den v302 v303 v304 v305) hy hm h0 hA
noncomputable def impl_FactorInverse_F : DFn := fun args L =>
  match args with
  | [.agg [.int .i64 v302, .int .i64 v303, a1, a2]] =>
    optT (rowF32 L a1) fun v304 =>
    optT (rowI64 L a2) fun v305 =>
    .call (impl_FactorInverse_g v302 v303 v304 v305) fun y => .sum y (fun y0 => .leaf (.tup [.agg [.int .i64 (0 : Int), .int .i64 (0 : Int), .nilslc], .lit false], L)) (fun z0 => .leaf (.tup [.agg [.int .i64 z0.1, .int .i64 z0.2.1, .own (L.length + 0) 0 ((z0.2.2).length)], .lit true], L ++ [.row (.f32 z0.2.2) 0]))
  | _ => .fail
theorem impl_FactorInverse_Fok : COk Try.prog 62 impl_FactorInverse_F true := by
  intro F L H args r L' hs ha hr
  unfold impl_FactorInverse_F at hr
  split at hr
  · rename_i v302 v303 a1 a2
    obtain ⟨v304, hv304, hr⟩ := optT_run hr
    obtain ⟨v305, hv305, hr⟩ := optT_run hr
    simp only [Tree.run] at hr
    obtain ⟨y, hy, hr⟩ := Option.bind_eq_some_iff.1 hr
    cases y with
    | inl y =>
      simp only [Tree.run, Option.some.injEq, Prod.mk.injEq] at hr
      obtain ⟨rfl, rfl⟩ := hr
      exact call_ok0 hs (fun k => (([a1.av F, a2.av F] : List AV)[k]?).getD .top) [.agg [.int .i64 v302, .int .i64 v303, a1, a2]] [.agg [.int .i64 v302, .int .i64 v303, .bslc (BR.root 0) (.f32 v304), .bslc (BR.root 1) (.i64 v305)]] (fun F' h0 hi hρ => ⟨by simp [DVs.av, DV.av, BR.av, hρ], impl_FactorInverse_fn v302 v303 v304 v305 F' (by rw [hi]; rfl) (st_nil hi) ⟨⟨trivial, trivial, bslc_ok hi (by rw [h0, hρ]; exact rowF32_ok hs (DVs.okAt (DVs.okAt ha 0 rfl) 2 rfl) hv304), bslc_ok hi (by rw [h0, hρ]; exact rowI64_ok hs (DVs.okAt (DVs.okAt ha 0 rfl) 3 rfl) hv305), trivial⟩, trivial⟩ hy⟩) rfl
    | inr y =>
      simp only [Tree.run, Option.some.injEq, Prod.mk.injEq] at hr
      obtain ⟨rfl, rfl⟩ := hr
      exact call_ok1 hs (fun k => (([a1.av F, a2.av F] : List AV)[k]?).getD .top) [.agg [.int .i64 v302, .int .i64 v303, a1, a2]] [.agg [.int .i64 v302, .int .i64 v303, .bslc (BR.root 0) (.f32 v304), .bslc (BR.root 1) (.i64 v305)]] (fun F' h0 hi hρ => ⟨by simp [DVs.av, DV.av, BR.av, hρ], impl_FactorInverse_fn v302 v303 v304 v305 F' (by rw [hi]; rfl) (st_nil hi) ⟨⟨trivial, trivial, bslc_ok hi (by rw [h0, hρ]; exact rowF32_ok hs (DVs.okAt (DVs.okAt ha 0 rfl) 2 rfl) hv304), bslc_ok hi (by rw [h0, hρ]; exact rowI64_ok hs (DVs.okAt (DVs.okAt ha 0 rfl) 3 rfl) hv305), trivial⟩, trivial⟩ hy⟩) rfl rfl
  · cases hr
/-! laws.sameFloat -/
noncomputable def laws_sameFloat_LO (v601 : Nat) (v602 : Nat) : LOr := fun id e L =>
  match id with
  | _ => .fail
noncomputable def laws_sameFloat_tab : List (FuncId × DFn × Bool) := []
theorem laws_sameFloat_hO : OrcOk Try.prog (tabD laws_sameFloat_tab) (tabM laws_sameFloat_tab) := tabD_nil _
noncomputable def laws_sameFloat_T (v601 : Nat) (v602 : Nat) : Tree (Bool) :=
  (.br (!feq .f64 v601 v601) (
   (.br (!feq .f64 v601 v601) (
    .leaf (!feq .f64 v602 v602)
   ) (
    .leaf false
   ))
  ) (
   (.br (!feq .f64 v602 v602) (
    (.br (!feq .f64 v601 v601) (
     .leaf (!feq .f64 v602 v602)
    ) (
     .leaf false
    ))
   ) (
    (.br (feq .f64 v601 (0 : Nat)) (
     (.br (feq .f64 v602 (0 : Nat)) (
      .leaf ((fgrt .f64 (fdiv .f64 (4607182418800017408 : Nat) v601) (0 : Nat)) == (fgrt .f64 (fdiv .f64 (4607182418800017408 : Nat) v602) (0 : Nat)))
     ) (
      .leaf (feq .f64 v601 v602)
     ))
    ) (
     .leaf (feq .f64 v601 v602)
    ))
   ))
  ))

noncomputable def laws_sameFloat_g (v601 : Nat) (v602 : Nat) : Option (Bool) := (laws_sameFloat_T v601 v602).run
def laws_sameFloat_enc (v601 : Nat) (v602 : Nat) (y : Bool) : Rs := (.bool y, [])
theorem laws_sameFloat_den (v601 : Nat) (v602 : Nat) : (den TT (tabD laws_sameFloat_tab) (tabM laws_sameFloat_tab) (laws_sameFloat_LO v601 v602) (codeOf Try.f53) ([.flt .f64 v601, .flt .f64 v602] ++ List.replicate (Try.f53.ntmps - ([.flt .f64 v601, .flt .f64 v602] : List DV).length) .undef) []).bind (retD TT Try.f53.results.toList 0) = (laws_sameFloat_T v601 v602).bind fun y => .leaf (laws_sameFloat_enc v601 v602 y) := by kernel_rfl
theorem laws_sameFloat_fn (v601 : Nat) (v602 : Nat) (F : Fr) (hm : F.ids.length = 0) (h0 : St F [] F.H0) (hA : DVs.Ok F [] [.flt .f64 v601, .flt .f64 v602]) {y : Bool} (hy : laws_sameFloat_g v601 v602 = some y) : ∃ H', FnOk Try.prog 53 (DVs.av F [.flt .f64 v601, .flt .f64 v602]) F.H0 ((laws_sameFloat_enc v601 v602 y).1.av F) H' ∧ St F (laws_sameFloat_enc v601 v602 y).2 H' ∧ (laws_sameFloat_enc v601 v602 y).1.Ok F (laws_sameFloat_enc v601 v602 y).2 :=
  fn_fin tok laws_sameFloat_hO mixed Try.func53 Try.call53 (by kernel_rfl) (LoopsOk_eq (l := []) (by kernel_rfl) trivial) (laws_sameFloat_den v601 v602) hy hm h0 hA
def laws_sameFloat_v (v601 : Nat) (v602 : Nat) : Bool :=
  if (!feq .f64 v601 v601) = true then (
   if (!feq .f64 v601 v601) = true then (
    !feq .f64 v602 v602
   ) else (
    false
   )
  ) else (
   if (!feq .f64 v602 v602) = true then (
    if (!feq .f64 v601 v601) = true then (
     !feq .f64 v602 v602
    ) else (
     false
    )
   ) else (
    if (feq .f64 v601 (0 : Nat)) = true then (
     if (feq .f64 v602 (0 : Nat)) = true then (
      (fgrt .f64 (fdiv .f64 (4607182418800017408 : Nat) v601) (0 : Nat)) == (fgrt .f64 (fdiv .f64 (4607182418800017408 : Nat) v602) (0 : Nat))
     ) else (
      feq .f64 v601 v602
     )
    ) else (
     feq .f64 v601 v602
    )
   )
  )
theorem laws_sameFloat_tot (v601 : Nat) (v602 : Nat) : laws_sameFloat_g v601 v602 = some (laws_sameFloat_v v601 v602) := by
  unfold laws_sameFloat_g laws_sameFloat_T laws_sameFloat_v
  simp only [Tree.run]
  repeat' (first | rfl | split)
noncomputable def laws_sameFloat_F : DFn := fun args L =>
  match args with
  | [.flt .f64 v601, .flt .f64 v602] =>
    .leaf (.bool (laws_sameFloat_v v601 v602), L)
  | _ => .fail
theorem laws_sameFloat_Fok : COk Try.prog 53 laws_sameFloat_F true := by
  intro F L H args r L' hs ha hr
  unfold laws_sameFloat_F at hr
  split at hr
  · rename_i v601 v602
    have hy := laws_sameFloat_tot v601 v602
    generalize laws_sameFloat_v v601 v602 = y at hy hr
    simp only [Tree.run, Option.some.injEq, Prod.mk.injEq] at hr
    obtain ⟨rfl, rfl⟩ := hr
    exact call_ok0 hs (fun k => (([] : List AV)[k]?).getD .top) [.flt .f64 v601, .flt .f64 v602] [.flt .f64 v601, .flt .f64 v602] (fun F' h0 hi hρ => ⟨by simp [DVs.av, DV.av, BR.av, hρ], laws_sameFloat_fn v601 v602 F' (by rw [hi]; rfl) (st_nil hi) ⟨trivial, trivial, trivial⟩ hy⟩) rfl
  · cases hr
/-! laws.eqFloat32S -/
noncomputable def laws_eqFloat32S_l0_T (v598 : List Nat) (v599 : List Nat) (s : Int) : Tree ((Int) ⊕ ((Unit) ⊕ (Unit))) :=
  (.br (decide (s < ((v598.length : Nat) : Int))) (
   (.grd (inb s v598.length) <|
   (.grd (inb s v599.length) <|
   (.br (!(laws_sameFloat_v (wid (nth v598 (Int.toNat s))) (wid (nth v599 (Int.toNat s))))) (
    .leaf (.inr (.inl ()))
   ) (
    .leaf (.inl (IntKind.i64.wrap (s + (1 : Int))))
   ))))
  ) (
   .leaf (.inr (.inr ()))
  ))

noncomputable def laws_eqFloat32S_l0_g (v598 : List Nat) (v599 : List Nat) (s0 : Int) : Option ((Unit) ⊕ (Unit)) := whileM (fun s => (laws_eqFloat32S_l0_T v598 v599 s).run) s0
def laws_eqFloat32S_l0_E (v598 : List Nat) (v599 : List Nat) (s : Int) : Sd := ([.bslc (BR.root 0) (.f32 v598), .bslc (BR.root 1) (.f32 v599), .top, .top, .top, .int .i64 s, .top, .top, .top, .top, .top, .top, .top, .top, .top, .top, .top, .top, .top, .top, .top, .top, .top, .top, .top, .top, .top, .top, .top], [])
def laws_eqFloat32S_l0_X (v598 : List Nat) (v599 : List Nat) (x : (Unit) ⊕ (Unit)) : Out := (match x with | .inl x => (.ret, [.top, .top, .top, .top, .lit false, .top, .top, .top, .top, .top, .top, .top, .top, .top, .top, .top, .top, .top, .top, .top, .top, .top, .top, .top, .top, .top, .top, .top, .top], []) | .inr x => (.normal, [.top, .top, .top, .top, .top, .top, .top, .top, .top, .top, .top, .top, .top, .top, .top, .top, .top, .top, .top, .top, .top, .top, .top, .top, .top, .top, .top, .top, .top], []))
def laws_eqFloat32S_l0_kill : List Nat := [0, 0, 1, 1, 1, 0, 1, 1, 1, 1, 1, 1, 1, 1, 1, 1, 1, 1, 1, 1, 1, 1, 1, 1, 1, 1, 1, 1, 1]
def laws_eqFloat32S_l0_nx : Exit → List Nat
  | .exit 0 => [1, 1, 1, 1, 1, 1, 1, 1, 1, 1, 1, 1, 1, 1, 1, 1, 1, 1, 1, 1, 1, 1, 1, 1, 1, 1, 1, 1, 1]
  | .ret => [1, 1, 1, 1, 0, 1, 1, 1, 1, 1, 1, 1, 1, 1, 1, 1, 1, 1, 1, 1, 1, 1, 1, 1, 1, 1, 1, 1, 1]
  | _ => []
noncomputable def laws_eqFloat32S_LO (v598 : List Nat) (v599 : List Nat) : LOr := fun id e L =>
  match id with
  | 0 => .need (normA 0 laws_eqFloat32S_l0_kill e L = some (laws_eqFloat32S_l0_E v598 v599 (gI (vAt e 5)))) (.call (laws_eqFloat32S_l0_g v598 v599 (gI (vAt e 5))) fun x => .sum x (fun b0 => .leaf (laws_eqFloat32S_l0_X v598 v599 (.inl b0))) (fun c0 => .leaf (laws_eqFloat32S_l0_X v598 v599 (.inr c0))))
  | _ => .fail
noncomputable def laws_eqFloat32S_tab : List (FuncId × DFn × Bool) := [(53, laws_sameFloat_F, true)]
theorem laws_eqFloat32S_hO : OrcOk Try.prog (tabD laws_eqFloat32S_tab) (tabM laws_eqFloat32S_tab) := tabD_cons laws_sameFloat_Fok (tabD_nil _)
theorem laws_eqFloat32S_l0_be (v598 : List Nat) (v599 : List Nat) (s : Int) : bodyT TT (tabD laws_eqFloat32S_tab) (tabM laws_eqFloat32S_tab) (laws_eqFloat32S_LO v598 v599) 0 laws_eqFloat32S_l0_kill laws_eqFloat32S_l0_nx (bodyOf Try.f20 0) 0 (laws_eqFloat32S_l0_E v598 v599 s) = (laws_eqFloat32S_l0_T v598 v599 s).bind fun y => .leaf (outS (laws_eqFloat32S_l0_E v598 v599) (laws_eqFloat32S_l0_X v598 v599) y) := by kernel_rfl
theorem laws_eqFloat32S_l0_ok (v598 : List Nat) (v599 : List Nat) : LSound Try.prog 0 (laws_eqFloat32S_LO v598 v599) 0 (bodyOf Try.f20 0) := by
  intro e L out h
  exact lo_ok (E := laws_eqFloat32S_l0_E v598 v599) (gT := laws_eqFloat32S_l0_T v598 v599) (X := laws_eqFloat32S_l0_X v598 v599) (s0 := (gI (vAt e 5))) tok laws_eqFloat32S_hO mixed (LoopsOk_eq (l := []) (by kernel_rfl) trivial) (laws_eqFloat32S_l0_be v598 v599) rfl (by intro x; (cases x with | inl b => rfl | inr x => exact rfl)) h
noncomputable def laws_eqFloat32S_T (v598 : List Nat) (v599 : List Nat) : Tree (Bool) :=
  (.br (!decide (((v598.length : Nat) : Int) = ((v599.length : Nat) : Int))) (
   .leaf false
  ) (
   (.need (some (laws_eqFloat32S_l0_E v598 v599 (0 : Int)) = some (laws_eqFloat32S_l0_E v598 v599 (0 : Int))) <|
   (.call (laws_eqFloat32S_l0_g v598 v599 (0 : Int)) fun v605 =>
   (.sum v605 (fun v606 =>
    .leaf false
   ) (fun v607 =>
    .leaf true
   ))))
  ))

noncomputable def laws_eqFloat32S_g (v598 : List Nat) (v599 : List Nat) : Option (Bool) := (laws_eqFloat32S_T v598 v599).run
def laws_eqFloat32S_enc (v598 : List Nat) (v599 : List Nat) (y : Bool) : Rs := (.bool y, [])
theorem laws_eqFloat32S_den (v598 : List Nat) (v599 : List Nat) : (den TT (tabD laws_eqFloat32S_tab) (tabM laws_eqFloat32S_tab) (laws_eqFloat32S_LO v598 v599) (codeOf Try.f20) ([.bslc (BR.root 0) (.f32 v598), .bslc (BR.root 1) (.f32 v599)] ++ List.replicate (Try.f20.ntmps - ([.bslc (BR.root 0) (.f32 v598), .bslc (BR.root 1) (.f32 v599)] : List DV).length) .undef) []).bind (retD TT Try.f20.results.toList 0) = (laws_eqFloat32S_T v598 v599).bind fun y => .leaf (laws_eqFloat32S_enc v598 v599 y) := by kernel_rfl
theorem laws_eqFloat32S_fn (v598 : List Nat) (v599 : List Nat) (F : Fr) (hm : F.ids.length = 0) (h0 : St F [] F.H0) (hA : DVs.Ok F [] [.bslc (BR.root 0) (.f32 v598), .bslc (BR.root 1) (.f32 v599)]) {y : Bool} (hy : laws_eqFloat32S_g v598 v599 = some y) : ∃ H', FnOk Try.prog 20 (DVs.av F [.bslc (BR.root 0) (.f32 v598), .bslc (BR.root 1) (.f32 v599)]) F.H0 ((laws_eqFloat32S_enc v598 v599 y).1.av F) H' ∧ St F (laws_eqFloat32S_enc v598 v599 y).2 H' ∧ (laws_eqFloat32S_enc v598 v599 y).1.Ok F (laws_eqFloat32S_enc v598 v599 y).2 :=
  fn_fin tok laws_eqFloat32S_hO mixed Try.func20 Try.call20 (by kernel_rfl) (LoopsOk_eq (l := [(0, bodyOf Try.f20 0)]) (by kernel_rfl) ⟨laws_eqFloat32S_l0_ok v598 v599, trivial⟩) (laws_eqFloat32S_den v598 v599) hy hm h0 hA
noncomputable def laws_eqFloat32S_F : DFn := fun args L =>
  match args with
  | [a1, a2] =>
    optT (rowF32 L a1) fun v598 =>
    optT (rowF32 L a2) fun v599 =>
    .call (laws_eqFloat32S_g v598 v599) fun y => .leaf (.bool y, L)
  | _ => .fail
theorem laws_eqFloat32S_Fok : COk Try.prog 20 laws_eqFloat32S_F true := by
  intro F L H args r L' hs ha hr
  unfold laws_eqFloat32S_F at hr
  split at hr
  · rename_i a1 a2
    obtain ⟨v598, hv598, hr⟩ := optT_run hr
    obtain ⟨v599, hv599, hr⟩ := optT_run hr
    simp only [Tree.run] at hr
    obtain ⟨y, hy, hr⟩ := Option.bind_eq_some_iff.1 hr
    simp only [Tree.run, Option.some.injEq, Prod.mk.injEq] at hr
    obtain ⟨rfl, rfl⟩ := hr
    exact call_ok0 hs (fun k => (([a1.av F, a2.av F] : List AV)[k]?).getD .top) [a1, a2] [.bslc (BR.root 0) (.f32 v598), .bslc (BR.root 1) (.f32 v599)] (fun F' h0 hi hρ => ⟨by simp [DVs.av, DV.av, BR.av, hρ], laws_eqFloat32S_fn v598 v599 F' (by rw [hi]; rfl) (st_nil hi) ⟨bslc_ok hi (by rw [h0, hρ]; exact rowF32_ok hs (DVs.okAt ha 0 rfl) hv598), bslc_ok hi (by rw [h0, hρ]; exact rowF32_ok hs (DVs.okAt ha 1 rfl) hv599), trivial⟩ hy⟩) rfl
  · cases hr
/-! laws.eqMatrix -/
noncomputable def laws_eqMatrix_LO (v592 : Int) (v593 : Int) (v594 : List Nat) (v595 : Int) (v596 : Int) (v597 : List Nat) : LOr := fun id e L =>
  match id with
  | _ => .fail
noncomputable def laws_eqMatrix_tab : List (FuncId × DFn × Bool) := [(20, laws_eqFloat32S_F, true)]
theorem laws_eqMatrix_hO : OrcOk Try.prog (tabD laws_eqMatrix_tab) (tabM laws_eqMatrix_tab) := tabD_cons laws_eqFloat32S_Fok (tabD_nil _)
noncomputable def laws_eqMatrix_T (v592 : Int) (v593 : Int) (v594 : List Nat) (v595 : Int) (v596 : Int) (v597 : List Nat) : Tree (Bool) :=
  (.br (!decide (v592 = v595)) (
   .leaf false
  ) (
   (.br (!decide (v593 = v596)) (
    .leaf false
   ) (
    (.call (laws_eqFloat32S_g v594 v597) fun v608 =>
    (.br (!v608) (
     .leaf false
    ) (
     .leaf true
    )))
   ))
  ))

noncomputable def laws_eqMatrix_g (v592 : Int) (v593 : Int) (v594 : List Nat) (v595 : Int) (v596 : Int) (v597 : List Nat) : Option (Bool) := (laws_eqMatrix_T v592 v593 v594 v595 v596 v597).run
def laws_eqMatrix_enc (v592 : Int) (v593 : Int) (v594 : List Nat) (v595 : Int) (v596 : Int) (v597 : List Nat) (y : Bool) : Rs := (.bool y, [])
theorem laws_eqMatrix_den (v592 : Int) (v593 : Int) (v594 : List Nat) (v595 : Int) (v596 : Int) (v597 : List Nat) : (den TT (tabD laws_eqMatrix_tab) (tabM laws_eqMatrix_tab) (laws_eqMatrix_LO v592 v593 v594 v595 v596 v597) (codeOf Try.f33) ([.agg [.int .i64 v592, .int .i64 v593, .bslc (BR.root 0) (.f32 v594)], .agg [.int .i64 v595, .int .i64 v596, .bslc (BR.root 1) (.f32 v597)]] ++ List.replicate (Try.f33.ntmps - ([.agg [.int .i64 v592, .int .i64 v593, .bslc (BR.root 0) (.f32 v594)], .agg [.int .i64 v595, .int .i64 v596, .bslc (BR.root 1) (.f32 v597)]] : List DV).length) .undef) []).bind (retD TT Try.f33.results.toList 0) = (laws_eqMatrix_T v592 v593 v594 v595 v596 v597).bind fun y => .leaf (laws_eqMatrix_enc v592 v593 v594 v595 v596 v597 y) := by kernel_rfl
theorem laws_eqMatrix_fn (v592 : Int) (v593 : Int) (v594 : List Nat) (v595 : Int) (v596 : Int) (v597 : List Nat) (F : Fr) (hm : F.ids.length = 0) (h0 : St F [] F.H0) (hA : DVs.Ok F [] [.agg [.int .i64 v592, .int .i64 v593, .bslc (BR.root 0) (.f32 v594)], .agg [.int .i64 v595, .int .i64 v596, .bslc (BR.root 1) (.f32 v597)]]) {y : Bool} (hy : laws_eqMatrix_g v592 v593 v594 v595 v596 v597 = some y) : ∃ H', FnOk Try.prog 33 (DVs.av F [.agg [.int .i64 v592, .int .i64 v593, .bslc (BR.root 0) (.f32 v594)], .agg [.int .i64 v595, .int .i64 v596, .bslc (BR.root 1) (.f32 v597)]]) F.H0 ((laws_eqMatrix_enc v592 v593 v594 v595 v596 v597 y).1.av F) H' ∧ St F (laws_eqMatrix_enc v592 v593 v594 v595 v596 v597 y).2 H' ∧ (laws_eqMatrix_enc v592 v593 v594 v595 v596 v597 y).1.Ok F (laws_eqMatrix_enc v592 v593 v594 v595 v596 v597 y).2 :=
  fn_fin tok laws_eqMatrix_hO mixed Try.func33 Try.call33 (by kernel_rfl) (LoopsOk_eq (l := []) (by kernel_rfl) trivial) (laws_eqMatrix_den v592 v593 v594 v595 v596 v597) hy hm h0 hA
noncomputable def laws_eqMatrix_F : DFn := fun args L =>
  match args with
  | [.agg [.int .i64 v592, .int .i64 v593, a1], .agg [.int .i64 v595, .int .i64 v596, a2]] =>
    optT (rowF32 L a1) fun v594 =>
    optT (rowF32 L a2) fun v597 =>
    .call (laws_eqMatrix_g v592 v593 v594 v595 v596 v597) fun y => .leaf (.bool y, L)
  | _ => .fail
theorem laws_eqMatrix_Fok : COk Try.prog 33 laws_eqMatrix_F true := by
  intro F L H args r L' hs ha hr
  unfold laws_eqMatrix_F at hr
  split at hr
  · rename_i v592 v593 a1 v595 v596 a2
    obtain ⟨v594, hv594, hr⟩ := optT_run hr
    obtain ⟨v597, hv597, hr⟩ := optT_run hr
    simp only [Tree.run] at hr
    obtain ⟨y, hy, hr⟩ := Option.bind_eq_some_iff.1 hr
    simp only [Tree.run, Option.some.injEq, Prod.mk.injEq] at hr
    obtain ⟨rfl, rfl⟩ := hr
    exact call_ok0 hs (fun k => (([a1.av F, a2.av F] : List AV)[k]?).getD .top) [.agg [.int .i64 v592, .int .i64 v593, a1], .agg [.int .i64 v595, .int .i64 v596, a2]] [.agg [.int .i64 v592, .int .i64 v593, .bslc (BR.root 0) (.f32 v594)], .agg [.int .i64 v595, .int .i64 v596, .bslc (BR.root 1) (.f32 v597)]] (fun F' h0 hi hρ => ⟨by simp [DVs.av, DV.av, BR.av, hρ], laws_eqMatrix_fn v592 v593 v594 v595 v596 v597 F' (by rw [hi]; rfl) (st_nil hi) ⟨⟨trivial, trivial, bslc_ok hi (by rw [h0, hρ]; exact rowF32_ok hs (DVs.okAt (DVs.okAt ha 0 rfl) 2 rfl) hv594), trivial⟩, ⟨trivial, trivial, bslc_ok hi (by rw [h0, hρ]; exact rowF32_ok hs (DVs.okAt (DVs.okAt ha 1 rfl) 2 rfl) hv597), trivial⟩, trivial⟩ hy⟩) rfl
  · cases hr
/-! laws.eqInt64S -/
noncomputable def laws_eqInt64S_l0_T (v620 : List Int) (v621 : List Int) (s : Int) : Tree ((Int) ⊕ ((Unit) ⊕ (Unit))) :=
  (.br (decide (s < ((v620.length : Nat) : Int))) (
   (.grd (inb s v620.length) <|
   (.grd (inb s v621.length) <|
   (.br (!decide (nth v620 (Int.toNat s) = nth v621 (Int.toNat s))) (
    .leaf (.inr (.inl ()))
   ) (
    .leaf (.inl (IntKind.i64.wrap (s + (1 : Int))))
   ))))
  ) (
   .leaf (.inr (.inr ()))
  ))

noncomputable def laws_eqInt64S_l0_g (v620 : List Int) (v621 : List Int) (s0 : Int) : Option ((Unit) ⊕ (Unit)) := whileM (fun s => (laws_eqInt64S_l0_T v620 v621 s).run) s0
def laws_eqInt64S_l0_E (v620 : List Int) (v621 : List Int) (s : Int) : Sd := ([.bslc (BR.root 0) (.i64 v620), .bslc (BR.root 1) (.i64 v621), .top, .top, .top, .int .i64 s, .top, .top, .top, .top, .top, .top, .top, .top, .top, .top, .top, .top, .top, .top, .top, .top, .top, .top, .top, .top], [])
def laws_eqInt64S_l0_X (v620 : List Int) (v621 : List Int) (x : (Unit) ⊕ (Unit)) : Out := (match x with | .inl x => (.ret, [.top, .top, .top, .top, .lit false, .top, .top, .top, .top, .top, .top, .top, .top, .top, .top, .top, .top, .top, .top, .top, .top, .top, .top, .top, .top, .top], []) | .inr x => (.normal, [.top, .top, .top, .top, .top, .top, .top, .top, .top, .top, .top, .top, .top, .top, .top, .top, .top, .top, .top, .top, .top, .top, .top, .top, .top, .top], []))
def laws_eqInt64S_l0_kill : List Nat := [0, 0, 1, 1, 1, 0, 1, 1, 1, 1, 1, 1, 1, 1, 1, 1, 1, 1, 1, 1, 1, 1, 1, 1, 1, 1]
def laws_eqInt64S_l0_nx : Exit → List Nat
  | .exit 0 => [1, 1, 1, 1, 1, 1, 1, 1, 1, 1, 1, 1, 1, 1, 1, 1, 1, 1, 1, 1, 1, 1, 1, 1, 1, 1]
  | .ret => [1, 1, 1, 1, 0, 1, 1, 1, 1, 1, 1, 1, 1, 1, 1, 1, 1, 1, 1, 1, 1, 1, 1, 1, 1, 1]
  | _ => []
noncomputable def laws_eqInt64S_LO (v620 : List Int) (v621 : List Int) : LOr := fun id e L =>
  match id with
  | 0 => .need (normA 0 laws_eqInt64S_l0_kill e L = some (laws_eqInt64S_l0_E v620 v621 (gI (vAt e 5)))) (.call (laws_eqInt64S_l0_g v620 v621 (gI (vAt e 5))) fun x => .sum x (fun b0 => .leaf (laws_eqInt64S_l0_X v620 v621 (.inl b0))) (fun c0 => .leaf (laws_eqInt64S_l0_X v620 v621 (.inr c0))))
  | _ => .fail
noncomputable def laws_eqInt64S_tab : List (FuncId × DFn × Bool) := []
theorem laws_eqInt64S_hO : OrcOk Try.prog (tabD laws_eqInt64S_tab) (tabM laws_eqInt64S_tab) := tabD_nil _
theorem laws_eqInt64S_l0_be (v620 : List Int) (v621 : List Int) (s : Int) : bodyT TT (tabD laws_eqInt64S_tab) (tabM laws_eqInt64S_tab) (laws_eqInt64S_LO v620 v621) 0 laws_eqInt64S_l0_kill laws_eqInt64S_l0_nx (bodyOf Try.f44 0) 0 (laws_eqInt64S_l0_E v620 v621 s) = (laws_eqInt64S_l0_T v620 v621 s).bind fun y => .leaf (outS (laws_eqInt64S_l0_E v620 v621) (laws_eqInt64S_l0_X v620 v621) y) := by kernel_rfl
theorem laws_eqInt64S_l0_ok (v620 : List Int) (v621 : List Int) : LSound Try.prog 0 (laws_eqInt64S_LO v620 v621) 0 (bodyOf Try.f44 0) := by
  intro e L out h
  exact lo_ok (E := laws_eqInt64S_l0_E v620 v621) (gT := laws_eqInt64S_l0_T v620 v621) (X := laws_eqInt64S_l0_X v620 v621) (s0 := (gI (vAt e 5))) tok laws_eqInt64S_hO mixed (LoopsOk_eq (l := []) (by kernel_rfl) trivial) (laws_eqInt64S_l0_be v620 v621) rfl (by intro x; (cases x with | inl b => rfl | inr x => exact rfl)) h
noncomputable def laws_eqInt64S_T (v620 : List Int) (v621 : List Int) : Tree (Bool) :=
  (.br (!decide (((v620.length : Nat) : Int) = ((v621.length : Nat) : Int))) (
   .leaf false
  ) (
   (.need (some (laws_eqInt64S_l0_E v620 v621 (0 : Int)) = some (laws_eqInt64S_l0_E v620 v621 (0 : Int))) <|
   (.call (laws_eqInt64S_l0_g v620 v621 (0 : Int)) fun v625 =>
   (.sum v625 (fun v626 =>
    .leaf false
   ) (fun v627 =>
    .leaf true
   ))))
  ))

noncomputable def laws_eqInt64S_g (v620 : List Int) (v621 : List Int) : Option (Bool) := (laws_eqInt64S_T v620 v621).run
def laws_eqInt64S_enc (v620 : List Int) (v621 : List Int) (y : Bool) : Rs := (.bool y, [])
theorem laws_eqInt64S_den (v620 : List Int) (v621 : List Int) : (den TT (tabD laws_eqInt64S_tab) (tabM laws_eqInt64S_tab) (laws_eqInt64S_LO v620 v621) (codeOf Try.f44) ([.bslc (BR.root 0) (.i64 v620), .bslc (BR.root 1) (.i64 v621)] ++ List.replicate (Try.f44.ntmps - ([.bslc (BR.root 0) (.i64 v620), .bslc (BR.root 1) (.i64 v621)] : List DV).length) .undef) []).bind (retD TT Try.f44.results.toList 0) = (laws_eqInt64S_T v620 v621).bind fun y => .leaf (laws_eqInt64S_enc v620 v621 y) := by kernel_rfl
theorem laws_eqInt64S_fn (v620 : List Int) (v621 : List Int) (F : Fr) (hm : F.ids.length = 0) (h0 : St F [] F.H0) (hA : DVs.Ok F [] [.bslc (BR.root 0) (.i64 v620), .bslc (BR.root 1) (.i64 v621)]) {y : Bool} (hy : laws_eqInt64S_g v620 v621 = some y) : ∃ H', FnOk Try.prog 44 (DVs.av F [.bslc (BR.root 0) (.i64 v620), .bslc (BR.root 1) (.i64 v621)]) F.H0 ((laws_eqInt64S_enc v620 v621 y).1.av F) H' ∧ St F (laws_eqInt64S_enc v620 v621 y).2 H' ∧ (laws_eqInt64S_enc v620 v621 y).1.Ok F (laws_eqInt64S_enc v620 v621 y).2 :=
  fn_fin tok laws_eqInt64S_hO mixed Try.func44 Try.call44 (by kernel_rfl) (LoopsOk_eq (l := [(0, bodyOf Try.f44 0)]) (by kernel_rfl) ⟨laws_eqInt64S_l0_ok v620 v621, trivial⟩) (laws_eqInt64S_den v620 v621) hy hm h0 hA
noncomputable def laws_eqInt64S_F : DFn := fun args L =>
  match args with
  | [a1, a2] =>
    optT (rowI64 L a1) fun v620 =>
    optT (rowI64 L a2) fun v621 =>
    .call (laws_eqInt64S_g v620 v621) fun y => .leaf (.bool y, L)
  | _ => .fail
theorem laws_eqInt64S_Fok : COk Try.prog 44 laws_eqInt64S_F true := by
  intro F L H args r L' hs ha hr
  unfold laws_eqInt64S_F at hr
  split at hr
  · rename_i a1 a2
    obtain ⟨v620, hv620, hr⟩ := optT_run hr
    obtain ⟨v621, hv621, hr⟩ := optT_run hr
    simp only [Tree.run] at hr
    obtain ⟨y, hy, hr⟩ := Option.bind_eq_some_iff.1 hr
    simp only [Tree.run, Option.some.injEq, Prod.mk.injEq] at hr
    obtain ⟨rfl, rfl⟩ := hr
    exact call_ok0 hs (fun k => (([a1.av F, a2.av F] : List AV)[k]?).getD .top) [a1, a2] [.bslc (BR.root 0) (.i64 v620), .bslc (BR.root 1) (.i64 v621)] (fun F' h0 hi hρ => ⟨by simp [DVs.av, DV.av, BR.av, hρ], laws_eqInt64S_fn v620 v621 F' (by rw [hi]; rfl) (st_nil hi) ⟨bslc_ok hi (by rw [h0, hρ]; exact rowI64_ok hs (DVs.okAt ha 0 rfl) hv620), bslc_ok hi (by rw [h0, hρ]; exact rowI64_ok hs (DVs.okAt ha 1 rfl) hv621), trivial⟩ hy⟩) rfl
  · cases hr
/-! laws.eqFactor -/
noncomputable def laws_eqFactor_LO (v611 : Int) (v612 : Int) (v613 : List Nat) (v614 : List Int) (v615 : Int) (v616 : Int) (v617 : List Nat) (v618 : List Int) : LOr := fun id e L =>
  match id with
  | _ => .fail
noncomputable def laws_eqFactor_tab : List (FuncId × DFn × Bool) := [(33, laws_eqMatrix_F, true), (44, laws_eqInt64S_F, true)]
theorem laws_eqFactor_hO : OrcOk Try.prog (tabD laws_eqFactor_tab) (tabM laws_eqFactor_tab) := tabD_cons laws_eqMatrix_Fok (tabD_cons laws_eqInt64S_Fok (tabD_nil _))
noncomputable def laws_eqFactor_T (v611 : Int) (v612 : Int) (v613 : List Nat) (v614 : List Int) (v615 : Int) (v616 : Int) (v617 : List Nat) (v618 : List Int) : Tree (Bool) :=
  (.call (laws_eqMatrix_g v611 v612 v613 v615 v616 v617) fun v619 =>
  (.br (!v619) (
   .leaf false
  ) (
   (.call (laws_eqInt64S_g v614 v618) fun v628 =>
   (.br (!v628) (
    .leaf false
   ) (
    .leaf true
   )))
  )))

noncomputable def laws_eqFactor_g (v611 : Int) (v612 : Int) (v613 : List Nat) (v614 : List Int) (v615 : Int) (v616 : Int) (v617 : List Nat) (v618 : List Int) : Option (Bool) := (laws_eqFactor_T v611 v612 v613 v614 v615 v616 v617 v618).run
def laws_eqFactor_enc (v611 : Int) (v612 : Int) (v613 : List Nat) (v614 : List Int) (v615 : Int) (v616 : Int) (v617 : List Nat) (v618 : List Int) (y : Bool) : Rs := (.bool y, [])
theorem laws_eqFactor_den (v611 : Int) (v612 : Int) (v613 : List Nat) (v614 : List Int) (v615 : Int) (v616 : Int) (v617 : List Nat) (v618 : List Int) : (den TT (tabD laws_eqFactor_tab) (tabM laws_eqFactor_tab) (laws_eqFactor_LO v611 v612 v613 v614 v615 v616 v617 v618) (codeOf Try.f50) ([.agg [.int .i64 v611, .int .i64 v612, .bslc (BR.root 0) (.f32 v613), .bslc (BR.root 1) (.i64 v614)], .agg [.int .i64 v615, .int .i64 v616, .bslc (BR.root 2) (.f32 v617), .bslc (BR.root 3) (.i64 v618)]] ++ List.replicate (Try.f50.ntmps - ([.agg [.int .i64 v611, .int .i64 v612, .bslc (BR.root 0) (.f32 v613), .bslc (BR.root 1) (.i64 v614)], .agg [.int .i64 v615, .int .i64 v616, .bslc (BR.root 2) (.f32 v617), .bslc (BR.root 3) (.i64 v618)]] : List DV).length) .undef) []).bind (retD TT Try.f50.results.toList 0) = (laws_eqFactor_T v611 v612 v613 v614 v615 v616 v617 v618).bind fun y => .leaf (laws_eqFactor_enc v611 v612 v613 v614 v615 v616 v617 v618 y) := by kernel_rfl
theorem laws_eqFactor_fn (v611 : Int) (v612 : Int) (v613 : List Nat) (v614 : List Int) (v615 : Int) (v616 : Int) (v617 : List Nat) (v618 : List Int) (F : Fr) (hm : F.ids.length = 0) (h0 : St F [] F.H0) (hA : DVs.Ok F [] [.agg [.int .i64 v611, .int .i64 v612, .bslc (BR.root 0) (.f32 v613), .bslc (BR.root 1) (.i64 v614)], .agg [.int .i64 v615, .int .i64 v616, .bslc (BR.root 2) (.f32 v617), .bslc (BR.root 3) (.i64 v618)]]) {y : Bool} (hy : laws_eqFactor_g v611 v612 v613 v614 v615 v616 v617 v618 = some y) : ∃ H', FnOk Try.prog 50 (DVs.av F [.agg [.int .i64 v611, .int .i64 v612, .bslc (BR.root 0) (.f32 v613), .bslc (BR.root 1) (.i64 v614)], .agg [.int .i64 v615, .int .i64 v616, .bslc (BR.root 2) (.f32 v617), .bslc (BR.root 3) (.i64 v618)]]) F.H0 ((laws_eqFactor_enc v611 v612 v613 v614 v615 v616 v617 v618 y).1.av F) H' ∧ St F (laws_eqFactor_enc v611 v612 v613 v614 v615 v616 v617 v618 y).2 H' ∧ (laws_eqFactor_enc v611 v612 v613 v614 v615 v616 v617 v618 y).1.Ok F (laws_eqFactor_enc v611 v612 v613 v614 v615 v616 v617 v618 y).2 :=
  fn_fin tok laws_eqFactor_hO mixed Try.func50 Try.call50 (by kernel_rfl) (LoopsOk_eq (l := []) (by kernel_rfl) trivial) (laws_eqFactor_den v611 v612 v613 v614 v615 v616 v617 v618) hy hm h0 hA
noncomputable def laws_eqFactor_F : DFn := fun args L =>
  match args with
  | [.agg [.int .i64 v611, .int .i64 v612, a1, a2], .agg [.int .i64 v615, .int .i64 v616, a3, a4]] =>
    optT (rowF32 L a1) fun v613 =>
    optT (rowI64 L a2) fun v614 =>
    optT (rowF32 L a3) fun v617 =>
    optT (rowI64 L a4) fun v618 =>
    .call (laws_eqFactor_g v611 v612 v613 v614 v615 v616 v617 v618) fun y => .leaf (.bool y, L)
  | _ => .fail
theorem laws_eqFactor_Fok : COk Try.prog 50 laws_eqFactor_F true := by
  intro F L H args r L' hs ha hr
  unfold laws_eqFactor_F at hr
  split at hr
  · rename_i v611 v612 a1 a2 v615 v616 a3 a4
    obtain ⟨v613, hv613, hr⟩ := optT_run hr
    obtain ⟨v614, hv614, hr⟩ := optT_run hr
    obtain ⟨v617, hv617, hr⟩ := optT_run hr
    obtain ⟨v618, hv618, hr⟩ := optT_run hr
    simp only [Tree.run] at hr
    obtain ⟨y, hy, hr⟩ := Option.bind_eq_some_iff.1 hr
    simp only [Tree.run, Option.some.injEq, Prod.mk.injEq] at hr
    obtain ⟨rfl, rfl⟩ := hr
    exact call_ok0 hs (fun k => (([a1.av F, a2.av F, a3.av F, a4.av F] : List AV)[k]?).getD .top) [.agg [.int .i64 v611, .int .i64 v612, a1, a2], .agg [.int .i64 v615, .int .i64 v616, a3, a4]] [.agg [.int .i64 v611, .int .i64 v612, .bslc (BR.root 0) (.f32 v613), .bslc (BR.root 1) (.i64 v614)], .agg [.int .i64 v615, .int .i64 v616, .bslc (BR.root 2) (.f32 v617), .bslc (BR.root 3) (.i64 v618)]] (fun F' h0 hi hρ => ⟨by simp [DVs.av, DV.av, BR.av, hρ], laws_eqFactor_fn v611 v612 v613 v614 v615 v616 v617 v618 F' (by rw [hi]; rfl) (st_nil hi) ⟨⟨trivial, trivial, bslc_ok hi (by rw [h0, hρ]; exact rowF32_ok hs (DVs.okAt (DVs.okAt ha 0 rfl) 2 rfl) hv613), bslc_ok hi (by rw [h0, hρ]; exact rowI64_ok hs (DVs.okAt (DVs.okAt ha 0 rfl) 3 rfl) hv614), trivial⟩, ⟨trivial, trivial, bslc_ok hi (by rw [h0, hρ]; exact rowF32_ok hs (DVs.okAt (DVs.okAt ha 1 rfl) 2 rfl) hv617), bslc_ok hi (by rw [h0, hρ]; exact rowI64_ok hs (DVs.okAt (DVs.okAt ha 1 rfl) 3 rfl) hv618), trivial⟩, trivial⟩ hy⟩) rfl
  · cases hr
/-! laws.markFloat32S -/
noncomputable def laws_markFloat32S_l0_T (s : Int × Int × (List Nat)) : Tree ((Int × Int × (List Nat)) ⊕ (Int × (List Nat))) :=
  (.br (decide (s.2.1 < (((s.2.2).length : Nat) : Int))) (
   (.grd (inb s.2.1 ((s.2.2).length)) <|
   .leaf (.inl (IntKind.i64.wrap (s.1 + (1 : Int)), IntKind.i64.wrap (s.2.1 + (1 : Int)), List.set s.2.2 (Int.toNat s.2.1) (fofint .f32 s.1))))
  ) (
   .leaf (.inr (s.1, s.2.2))
  ))

noncomputable def laws_markFloat32S_l0_g (s0 : Int × Int × (List Nat)) : Option (Int × (List Nat)) := whileM (fun s => (laws_markFloat32S_l0_T s).run) s0
def laws_markFloat32S_l0_E (v643 : List Nat) (v644 : Int) (s : Int × Int × (List Nat)) : Sd := ([.own 0 0 ((s.2.2).length), .int .i64 s.1, .top, .top, .top, .int .i64 s.2.1, .top, .top, .top, .top, .top, .top, .top, .top, .top, .top, .top, .top, .top, .top], [.row (.f32 s.2.2) 0])
def laws_markFloat32S_l0_X (v643 : List Nat) (v644 : Int) (x : Int × (List Nat)) : Out := (.normal, [.top, .int .i64 x.1, .top, .top, .top, .top, .top, .top, .top, .top, .top, .top, .top, .top, .top, .top, .top, .top, .top, .top], [.row (.f32 x.2) 0])
def laws_markFloat32S_l0_kill : List Nat := [0, 0, 1, 1, 1, 0, 1, 1, 1, 1, 1, 1, 1, 1, 1, 1, 1, 1, 1, 1]
def laws_markFloat32S_l0_nx : Exit → List Nat
  | .exit 0 => [1, 0, 1, 1, 1, 1, 1, 1, 1, 1, 1, 1, 1, 1, 1, 1, 1, 1, 1, 1]
  | .ret => [1, 1, 1, 1, 0, 1, 1, 1, 1, 1, 1, 1, 1, 1, 1, 1, 1, 1, 1, 1]
  | _ => []
noncomputable def laws_markFloat32S_LO (v643 : List Nat) (v644 : Int) : LOr := fun id e L =>
  match id with
  | 0 => .need (normA 1 laws_markFloat32S_l0_kill e L = some (laws_markFloat32S_l0_E v643 v644 ((gI (vAt e 1)), (gI (vAt e 5)), (gRF L (vAt e 0))))) (.call (laws_markFloat32S_l0_g ((gI (vAt e 1)), (gI (vAt e 5)), (gRF L (vAt e 0)))) fun x => .leaf (laws_markFloat32S_l0_X v643 v644 x))
  | _ => .fail
noncomputable def laws_markFloat32S_tab : List (FuncId × DFn × Bool) := []
theorem laws_markFloat32S_hO : OrcOk Try.prog (tabD laws_markFloat32S_tab) (tabM laws_markFloat32S_tab) := tabD_nil _
theorem laws_markFloat32S_l0_be (v643 : List Nat) (v644 : Int) (s : Int × Int × (List Nat)) : bodyT TT (tabD laws_markFloat32S_tab) (tabM laws_markFloat32S_tab) (laws_markFloat32S_LO v643 v644) 1 laws_markFloat32S_l0_kill laws_markFloat32S_l0_nx (bodyOf Try.f23 0) 0 (laws_markFloat32S_l0_E v643 v644 s) = (laws_markFloat32S_l0_T s).bind fun y => .leaf (outS (laws_markFloat32S_l0_E v643 v644) (laws_markFloat32S_l0_X v643 v644) y) := by kernel_rfl
theorem laws_markFloat32S_l0_ok (v643 : List Nat) (v644 : Int) : LSound Try.prog 1 (laws_markFloat32S_LO v643 v644) 0 (bodyOf Try.f23 0) := by
  intro e L out h
  exact lo_ok (E := laws_markFloat32S_l0_E v643 v644) (gT := laws_markFloat32S_l0_T) (X := laws_markFloat32S_l0_X v643 v644) (s0 := ((gI (vAt e 1)), (gI (vAt e 5)), (gRF L (vAt e 0)))) tok laws_markFloat32S_hO mixed (LoopsOk_eq (l := []) (by kernel_rfl) trivial) (laws_markFloat32S_l0_be v643 v644) rfl (by intro x; rfl) h
noncomputable def laws_markFloat32S_T (v643 : List Nat) (v644 : Int) : Tree (Int × (List Nat)) :=
  (.need (some (laws_markFloat32S_l0_E v643 v644 (v644, (0 : Int), v643)) = some (laws_markFloat32S_l0_E v643 v644 (v644, (0 : Int), v643))) <|
  (.call (laws_markFloat32S_l0_g (v644, (0 : Int), v643)) fun v653 =>
  .leaf (v653.1, v653.2)))

noncomputable def laws_markFloat32S_g (v643 : List Nat) (v644 : Int) : Option (Int × (List Nat)) := (laws_markFloat32S_T v643 v644).run
def laws_markFloat32S_enc (v643 : List Nat) (v644 : Int) (y : Int × (List Nat)) : Rs := (.int .i64 y.1, [.row (.f32 y.2) 0])
theorem laws_markFloat32S_den (v643 : List Nat) (v644 : Int) : (den TT (tabD laws_markFloat32S_tab) (tabM laws_markFloat32S_tab) (laws_markFloat32S_LO v643 v644) (codeOf Try.f23) ([.own 0 0 v643.length, .int .i64 v644] ++ List.replicate (Try.f23.ntmps - ([.own 0 0 v643.length, .int .i64 v644] : List DV).length) .undef) [.row (.f32 v643) 0]).bind (retD TT Try.f23.results.toList 1) = (laws_markFloat32S_T v643 v644).bind fun y => .leaf (laws_markFloat32S_enc v643 v644 y) := by kernel_rfl
theorem laws_markFloat32S_fn (v643 : List Nat) (v644 : Int) (F : Fr) (hm : F.ids.length = 1) (h0 : St F [.row (.f32 v643) 0] F.H0) (hA : DVs.Ok F [.row (.f32 v643) 0] [.own 0 0 v643.length, .int .i64 v644]) {y : Int × (List Nat)} (hy : laws_markFloat32S_g v643 v644 = some y) : ∃ H', FnOk Try.prog 23 (DVs.av F [.own 0 0 v643.length, .int .i64 v644]) F.H0 ((laws_markFloat32S_enc v643 v644 y).1.av F) H' ∧ St F (laws_markFloat32S_enc v643 v644 y).2 H' ∧ (laws_markFloat32S_enc v643 v644 y).1.Ok F (laws_markFloat32S_enc v643 v644 y).2 :=
  fn_fin tok laws_markFloat32S_hO mixed Try.func23 Try.call23 (by kernel_rfl) (LoopsOk_eq (l := [(0, bodyOf Try.f23 0)]) (by kernel_rfl) ⟨laws_markFloat32S_l0_ok v643 v644, trivial⟩) (laws_markFloat32S_den v643 v644) hy hm h0 hA
noncomputable def laws_markFloat32S_F : DFn := fun args L =>
  match args with
  | [a1, .int .i64 v644] =>
    optT (ownF32 L a1) fun qv643 =>
    (match sepB [qv643.1] [] with
    | true =>
    .call (laws_markFloat32S_g qv643.2 v644) fun y => .grd (decide (y.2.length = qv643.2.length)) (.leaf (.int .i64 y.1, setRows L ([qv643.1].zip [.f32 y.2])))
    | false => .fail)
  | _ => .fail
theorem laws_markFloat32S_Fok : COk Try.prog 23 laws_markFloat32S_F false := by
  intro F L H args r L' hs ha hr
  unfold laws_markFloat32S_F at hr
  split at hr
  · rename_i a1 v644
    obtain ⟨⟨jv643, v643⟩, hqv643, hr⟩ := optT_run hr
    simp only at hr
    split at hr
    · rename_i hsep
      obtain ⟨hnd, hsepv⟩ := sepB_spec hsep
      simp only [Tree.run] at hr
      obtain ⟨y, hy, hr⟩ := Option.bind_eq_some_iff.1 hr
      try simp only [Tree.run] at hr
      obtain ⟨hl0, hr⟩ := ite_run hr
      simp only [Option.some.injEq, Prod.mk.injEq] at hr
      obtain ⟨rfl, rfl⟩ := hr
      obtain ⟨hr0, hu0, ha0, hb0⟩ := (ownR_spec (DVs.okAt ha 0 rfl) (ownF32_or hqv643))
      exact mut_ok hs (fun k => (([a1.av F] : List AV)[k]?).getD .top) [a1, .int .i64 v644] [.own 0 0 v643.length, .int .i64 v644] [jv643] [.f32 v643] [.f32 y.2] hnd rfl rfl (fun i j q h1 h2 => by
          rcases i with _ | i
          · simp at h1 h2; subst h1; subst h2; exact hr0
          · simp at h1) (fun i q q' h1 h2 => by
          rcases i with _ | i
          · simp at h1 h2; subst h1; subst h2; exact of_decide_eq_true hl0
          · simp at h1) (fun j hj => by simp at hj; subst hj; simp [DVs.refs, DV.refs, hu0]) (fun F' h0 hi hρ hst hS => ⟨by (have ab0 : F'.abs 0 = F.abs jv643 := (by simp [Fr.abs, hi]); simp [DVs.av, DV.av, BR.av, hρ, Row.len, ha0, ab0]), by
          obtain ⟨H1, k1, k2, _⟩ := laws_markFloat32S_fn v643 v644 F' (by rw [hi]; rfl) hst ⟨⟨_, rfl, Nat.le_refl _, Nat.le_refl _, fun _ => rfl, (ownR_spec (DVs.okAt ha 0 rfl) (ownF32_or hqv643)).2.2.2⟩, trivial, trivial⟩ hy
          exact ⟨H1, k1, k2⟩⟩) (fun F' => rfl) (fun L' => trivial)
    · cases hr
  · cases hr
/-! laws.markMatrix -/
noncomputable def laws_markMatrix_LO (v654 : Int) (v655 : Int) (v656 : List Nat) (v657 : Int) : LOr := fun id e L =>
  match id with
  | _ => .fail
noncomputable def laws_markMatrix_tab : List (FuncId × DFn × Bool) := [(23, laws_markFloat32S_F, false)]
theorem laws_markMatrix_hO : OrcOk Try.prog (tabD laws_markMatrix_tab) (tabM laws_markMatrix_tab) := tabD_cons laws_markFloat32S_Fok (tabD_nil _)
noncomputable def laws_markMatrix_T (v656 : List Nat) (v657 : Int) : Tree (Int × (List Nat)) :=
  (.call (laws_markFloat32S_g v656 v657) fun v658 =>
  (.grd (decide (v658.2.length = v656.length)) <|
  .leaf (v658.1, v658.2)))

noncomputable def laws_markMatrix_g (v656 : List Nat) (v657 : Int) : Option (Int × (List Nat)) := (laws_markMatrix_T v656 v657).run
def laws_markMatrix_enc (v654 : Int) (v655 : Int) (v656 : List Nat) (v657 : Int) (y : Int × (List Nat)) : Rs := (.int .i64 y.1, [.row (.f32 y.2) 0])
theorem laws_markMatrix_den (v654 : Int) (v655 : Int) (v656 : List Nat) (v657 : Int) : (den TT (tabD laws_markMatrix_tab) (tabM laws_markMatrix_tab) (laws_markMatrix_LO v654 v655 v656 v657) (codeOf Try.f34) ([.agg [.int .i64 v654, .int .i64 v655, .own 0 0 v656.length], .int .i64 v657] ++ List.replicate (Try.f34.ntmps - ([.agg [.int .i64 v654, .int .i64 v655, .own 0 0 v656.length], .int .i64 v657] : List DV).length) .undef) [.row (.f32 v656) 0]).bind (retD TT Try.f34.results.toList 1) = (laws_markMatrix_T v656 v657).bind fun y => .leaf (laws_markMatrix_enc v654 v655 v656 v657 y) := by kernel_rfl
theorem laws_markMatrix_fn (v654 : Int) (v655 : Int) (v656 : List Nat) (v657 : Int) (F : Fr) (hm : F.ids.length = 1) (h0 : St F [.row (.f32 v656) 0] F.H0) (hA : DVs.Ok F [.row (.f32 v656) 0] [.agg [.int .i64 v654, .int .i64 v655, .own 0 0 v656.length], .int .i64 v657]) {y : Int × (List Nat)} (hy : laws_markMatrix_g v656 v657 = some y) : ∃ H', FnOk Try.prog 34 (DVs.av F [.agg [.int .i64 v654, .int .i64 v655, .own 0 0 v656.length], .int .i64 v657]) F.H0 ((laws_markMatrix_enc v654 v655 v656 v657 y).1.av F) H' ∧ St F (laws_markMatrix_enc v654 v655 v656 v657 y).2 H' ∧ (laws_markMatrix_enc v654 v655 v656 v657 y).1.Ok F (laws_markMatrix_enc v654 v655 v656 v657 y).2 :=
  fn_fin tok laws_markMatrix_hO mixed Try.func34 Try.call34 (by kernel_rfl) (LoopsOk_eq (l := []) (by kernel_rfl) trivial) (laws_markMatrix_den v654 v655 v656 v657) hy hm h0 hA
noncomputable def laws_markMatrix_F : DFn := fun args L =>
  match args with
  | [.agg [.int .i64 v654, .int .i64 v655, a1], .int .i64 v657] =>
    optT (ownF32 L a1) fun qv656 =>
    (match sepB [qv656.1] [] with
    | true =>
    .call (laws_markMatrix_g qv656.2 v657) fun y => .grd (decide (y.2.length = qv656.2.length)) (.leaf (.int .i64 y.1, setRows L ([qv656.1].zip [.f32 y.2])))
    | false => .fail)
  | _ => .fail
theorem laws_markMatrix_Fok : COk Try.prog 34 laws_markMatrix_F false := by
  intro F L H args r L' hs ha hr
  unfold laws_markMatrix_F at hr
  split at hr
  · rename_i v654 v655 a1 v657
    obtain ⟨⟨jv656, v656⟩, hqv656, hr⟩ := optT_run hr
    simp only at hr
    split at hr
    · rename_i hsep
      obtain ⟨hnd, hsepv⟩ := sepB_spec hsep
      simp only [Tree.run] at hr
      obtain ⟨y, hy, hr⟩ := Option.bind_eq_some_iff.1 hr
      try simp only [Tree.run] at hr
      obtain ⟨hl0, hr⟩ := ite_run hr
      simp only [Option.some.injEq, Prod.mk.injEq] at hr
      obtain ⟨rfl, rfl⟩ := hr
      obtain ⟨hr0, hu0, ha0, hb0⟩ := (ownR_spec (DVs.okAt (DVs.okAt ha 0 rfl) 2 rfl) (ownF32_or hqv656))
      exact mut_ok hs (fun k => (([a1.av F] : List AV)[k]?).getD .top) [.agg [.int .i64 v654, .int .i64 v655, a1], .int .i64 v657] [.agg [.int .i64 v654, .int .i64 v655, .own 0 0 v656.length], .int .i64 v657] [jv656] [.f32 v656] [.f32 y.2] hnd rfl rfl (fun i j q h1 h2 => by
          rcases i with _ | i
          · simp at h1 h2; subst h1; subst h2; exact hr0
          · simp at h1) (fun i q q' h1 h2 => by
          rcases i with _ | i
          · simp at h1 h2; subst h1; subst h2; exact of_decide_eq_true hl0
          · simp at h1) (fun j hj => by simp at hj; subst hj; simp [DVs.refs, DV.refs, hu0]) (fun F' h0 hi hρ hst hS => ⟨by (have ab0 : F'.abs 0 = F.abs jv656 := (by simp [Fr.abs, hi]); simp [DVs.av, DV.av, BR.av, hρ, Row.len, ha0, ab0]), by
          obtain ⟨H1, k1, k2, _⟩ := laws_markMatrix_fn v654 v655 v656 v657 F' (by rw [hi]; rfl) hst ⟨⟨trivial, trivial, ⟨_, rfl, Nat.le_refl _, Nat.le_refl _, fun _ => rfl, (ownR_spec (DVs.okAt (DVs.okAt ha 0 rfl) 2 rfl) (ownF32_or hqv656)).2.2.2⟩, trivial⟩, trivial, trivial⟩ hy
          exact ⟨H1, k1, k2⟩⟩) (fun F' => rfl) (fun L' => trivial)
    · cases hr
  · cases hr
/-! laws.markInt64S -/
noncomputable def laws_markInt64S_l0_T (s : Int × Int × (List Int)) : Tree ((Int × Int × (List Int)) ⊕ (Int × (List Int))) :=
  (.br (decide (s.2.1 < (((s.2.2).length : Nat) : Int))) (
   (.grd (inb s.2.1 ((s.2.2).length)) <|
   .leaf (.inl (IntKind.i64.wrap (s.1 + (1 : Int)), IntKind.i64.wrap (s.2.1 + (1 : Int)), List.set s.2.2 (Int.toNat s.2.1) s.1)))
  ) (
   .leaf (.inr (s.1, s.2.2))
  ))

noncomputable def laws_markInt64S_l0_g (s0 : Int × Int × (List Int)) : Option (Int × (List Int)) := whileM (fun s => (laws_markInt64S_l0_T s).run) s0
def laws_markInt64S_l0_E (v669 : List Int) (v670 : Int) (s : Int × Int × (List Int)) : Sd := ([.own 0 0 ((s.2.2).length), .int .i64 s.1, .top, .top, .top, .int .i64 s.2.1, .top, .top, .top, .top, .top, .top, .top, .top, .top, .top, .top, .top, .top], [.row (.i64 s.2.2) 0])
def laws_markInt64S_l0_X (v669 : List Int) (v670 : Int) (x : Int × (List Int)) : Out := (.normal, [.top, .int .i64 x.1, .top, .top, .top, .top, .top, .top, .top, .top, .top, .top, .top, .top, .top, .top, .top, .top, .top], [.row (.i64 x.2) 0])
def laws_markInt64S_l0_kill : List Nat := [0, 0, 1, 1, 1, 0, 1, 1, 1, 1, 1, 1, 1, 1, 1, 1, 1, 1, 1]
def laws_markInt64S_l0_nx : Exit → List Nat
  | .exit 0 => [1, 0, 1, 1, 1, 1, 1, 1, 1, 1, 1, 1, 1, 1, 1, 1, 1, 1, 1]
  | .ret => [1, 1, 1, 1, 0, 1, 1, 1, 1, 1, 1, 1, 1, 1, 1, 1, 1, 1, 1]
  | _ => []
noncomputable def laws_markInt64S_LO (v669 : List Int) (v670 : Int) : LOr := fun id e L =>
  match id with
  | 0 => .need (normA 1 laws_markInt64S_l0_kill e L = some (laws_markInt64S_l0_E v669 v670 ((gI (vAt e 1)), (gI (vAt e 5)), (gRI L (vAt e 0))))) (.call (laws_markInt64S_l0_g ((gI (vAt e 1)), (gI (vAt e 5)), (gRI L (vAt e 0)))) fun x => .leaf (laws_markInt64S_l0_X v669 v670 x))
  | _ => .fail
noncomputable def laws_markInt64S_tab : List (FuncId × DFn × Bool) := []
theorem laws_markInt64S_hO : OrcOk Try.prog (tabD laws_markInt64S_tab) (tabM laws_markInt64S_tab) := tabD_nil _
theorem laws_markInt64S_l0_be (v669 : List Int) (v670 : Int) (s : Int × Int × (List Int)) : bodyT TT (tabD laws_markInt64S_tab) (tabM laws_markInt64S_tab) (laws_markInt64S_LO v669 v670) 1 laws_markInt64S_l0_kill laws_markInt64S_l0_nx (bodyOf Try.f45 0) 0 (laws_markInt64S_l0_E v669 v670 s) = (laws_markInt64S_l0_T s).bind fun y => .leaf (outS (laws_markInt64S_l0_E v669 v670) (laws_markInt64S_l0_X v669 v670) y) := by kernel_rfl
theorem laws_markInt64S_l0_ok (v669 : List Int) (v670 : Int) : LSound Try.prog 1 (laws_markInt64S_LO v669 v670) 0 (bodyOf Try.f45 0) := by
  intro e L out h
  exact lo_ok (E := laws_markInt64S_l0_E v669 v670) (gT := laws_markInt64S_l0_T) (X := laws_markInt64S_l0_X v669 v670) (s0 := ((gI (vAt e 1)), (gI (vAt e 5)), (gRI L (vAt e 0)))) tok laws_markInt64S_hO mixed (LoopsOk_eq (l := []) (by kernel_rfl) trivial) (laws_markInt64S_l0_be v669 v670) rfl (by intro x; rfl) h
noncomputable def laws_markInt64S_T (v669 : List Int) (v670 : Int) : Tree (Int × (List Int)) :=
  (.need (some (laws_markInt64S_l0_E v669 v670 (v670, (0 : Int), v669)) = some (laws_markInt64S_l0_E v669 v670 (v670, (0 : Int), v669))) <|
  (.call (laws_markInt64S_l0_g (v670, (0 : Int), v669)) fun v679 =>
  .leaf (v679.1, v679.2)))

noncomputable def laws_markInt64S_g (v669 : List Int) (v670 : Int) : Option (Int × (List Int)) := (laws_markInt64S_T v669 v670).run
def laws_markInt64S_enc (v669 : List Int) (v670 : Int) (y : Int × (List Int)) : Rs := (.int .i64 y.1, [.row (.i64 y.2) 0])
theorem laws_markInt64S_den (v669 : List Int) (v670 : Int) : (den TT (tabD laws_markInt64S_tab) (tabM laws_markInt64S_tab) (laws_markInt64S_LO v669 v670) (codeOf Try.f45) ([.own 0 0 v669.length, .int .i64 v670] ++ List.replicate (Try.f45.ntmps - ([.own 0 0 v669.length, .int .i64 v670] : List DV).length) .undef) [.row (.i64 v669) 0]).bind (retD TT Try.f45.results.toList 1) = (laws_markInt64S_T v669 v670).bind fun y => .leaf (laws_markInt64S_enc v669 v670 y) := by kernel_rfl
theorem laws_markInt64S_fn (v669 : List Int) (v670 : Int) (F : Fr) (hm : F.ids.length = 1) (h0 : St F [.row (.i64 v669) 0] F.H0) (hA : DVs.Ok F [.row (.i64 v669) 0] [.own 0 0 v669.length, .int .i64 v670]) {y : Int × (List Int)} (hy : laws_markInt64S_g v669 v670 = some y) : ∃ H', FnOk Try.prog 45 (DVs.av F [.own 0 0 v669.length, .int .i64 v670]) F.H0 ((laws_markInt64S_enc v669 v670 y).1.av F) H' ∧ St F (laws_markInt64S_enc v669 v670 y).2 H' ∧ (laws_markInt64S_enc v669 v670 y).1.Ok F (laws_markInt64S_enc v669 v670 y).2 :=
  fn_fin tok laws_markInt64S_hO mixed Try.func45 Try.call45 (by kernel_rfl) (LoopsOk_eq (l := [(0, bodyOf Try.f45 0)]) (by kernel_rfl) ⟨laws_markInt64S_l0_ok v669 v670, trivial⟩) (laws_markInt64S_den v669 v670) hy hm h0 hA
noncomputable def laws_markInt64S_F : DFn := fun args L =>
  match args with
  | [a1, .int .i64 v670] =>
    optT (ownI64 L a1) fun qv669 =>
    (match sepB [qv669.1] [] with
    | true =>
    .call (laws_markInt64S_g qv669.2 v670) fun y => .grd (decide (y.2.length = qv669.2.length)) (.leaf (.int .i64 y.1, setRows L ([qv669.1].zip [.i64 y.2])))
    | false => .fail)
  | _ => .fail
theorem laws_markInt64S_Fok : COk Try.prog 45 laws_markInt64S_F false := by
  intro F L H args r L' hs ha hr
  unfold laws_markInt64S_F at hr
  split at hr
  · rename_i a1 v670
    obtain ⟨⟨jv669, v669⟩, hqv669, hr⟩ := optT_run hr
    simp only at hr
    split at hr
    · rename_i hsep
      obtain ⟨hnd, hsepv⟩ := sepB_spec hsep
      simp only [Tree.run] at hr
      obtain ⟨y, hy, hr⟩ := Option.bind_eq_some_iff.1 hr
      try simp only [Tree.run] at hr
      obtain ⟨hl0, hr⟩ := ite_run hr
      simp only [Option.some.injEq, Prod.mk.injEq] at hr
      obtain ⟨rfl, rfl⟩ := hr
      obtain ⟨hr0, hu0, ha0, hb0⟩ := (ownR_spec (DVs.okAt ha 0 rfl) (ownI64_or hqv669))
      exact mut_ok hs (fun k => (([a1.av F] : List AV)[k]?).getD .top) [a1, .int .i64 v670] [.own 0 0 v669.length, .int .i64 v670] [jv669] [.i64 v669] [.i64 y.2] hnd rfl rfl (fun i j q h1 h2 => by
          rcases i with _ | i
          · simp at h1 h2; subst h1; subst h2; exact hr0
          · simp at h1) (fun i q q' h1 h2 => by
          rcases i with _ | i
          · simp at h1 h2; subst h1; subst h2; exact of_decide_eq_true hl0
          · simp at h1) (fun j hj => by simp at hj; subst hj; simp [DVs.refs, DV.refs, hu0]) (fun F' h0 hi hρ hst hS => ⟨by (have ab0 : F'.abs 0 = F.abs jv669 := (by simp [Fr.abs, hi]); simp [DVs.av, DV.av, BR.av, hρ, Row.len, ha0, ab0]), by
          obtain ⟨H1, k1, k2, _⟩ := laws_markInt64S_fn v669 v670 F' (by rw [hi]; rfl) hst ⟨⟨_, rfl, Nat.le_refl _, Nat.le_refl _, fun _ => rfl, (ownR_spec (DVs.okAt ha 0 rfl) (ownI64_or hqv669)).2.2.2⟩, trivial, trivial⟩ hy
          exact ⟨H1, k1, k2⟩⟩) (fun F' => rfl) (fun L' => trivial)
    · cases hr
  · cases hr
/-! laws.markFactor -/
noncomputable def laws_markFactor_LO (v680 : Int) (v681 : Int) (v682 : List Nat) (v683 : List Int) (v684 : Int) : LOr := fun id e L =>
  match id with
  | _ => .fail
noncomputable def laws_markFactor_tab : List (FuncId × DFn × Bool) := [(34, laws_markMatrix_F, false), (45, laws_markInt64S_F, false)]
theorem laws_markFactor_hO : OrcOk Try.prog (tabD laws_markFactor_tab) (tabM laws_markFactor_tab) := tabD_cons laws_markMatrix_Fok (tabD_cons laws_markInt64S_Fok (tabD_nil _))
noncomputable def laws_markFactor_T (v682 : List Nat) (v683 : List Int) (v684 : Int) : Tree (Int × (List Nat) × (List Int)) :=
  (.call (laws_markMatrix_g v682 v684) fun v685 =>
  (.grd (decide (v685.2.length = v682.length)) <|
  (.call (laws_markInt64S_g v683 v685.1) fun v686 =>
  (.grd (decide (v686.2.length = v683.length)) <|
  .leaf (v686.1, v685.2, v686.2)))))

noncomputable def laws_markFactor_g (v682 : List Nat) (v683 : List Int) (v684 : Int) : Option (Int × (List Nat) × (List Int)) := (laws_markFactor_T v682 v683 v684).run
def laws_markFactor_enc (v680 : Int) (v681 : Int) (v682 : List Nat) (v683 : List Int) (v684 : Int) (y : Int × (List Nat) × (List Int)) : Rs := (.int .i64 y.1, [.row (.f32 y.2.1) 0, .row (.i64 y.2.2) 0])
theorem laws_markFactor_den (v680 : Int) (v681 : Int) (v682 : List Nat) (v683 : List Int) (v684 : Int) : (den TT (tabD laws_markFactor_tab) (tabM laws_markFactor_tab) (laws_markFactor_LO v680 v681 v682 v683 v684) (codeOf Try.f56) ([.agg [.int .i64 v680, .int .i64 v681, .own 0 0 v682.length, .own 1 0 v683.length], .int .i64 v684] ++ List.replicate (Try.f56.ntmps - ([.agg [.int .i64 v680, .int .i64 v681, .own 0 0 v682.length, .own 1 0 v683.length], .int .i64 v684] : List DV).length) .undef) [.row (.f32 v682) 0, .row (.i64 v683) 0]).bind (retD TT Try.f56.results.toList 2) = (laws_markFactor_T v682 v683 v684).bind fun y => .leaf (laws_markFactor_enc v680 v681 v682 v683 v684 y) := by kernel_rfl
theorem laws_markFactor_fn (v680 : Int) (v681 : Int) (v682 : List Nat) (v683 : List Int) (v684 : Int) (F : Fr) (hm : F.ids.length = 2) (h0 : St F [.row (.f32 v682) 0, .row (.i64 v683) 0] F.H0) (hA : DVs.Ok F [.row (.f32 v682) 0, .row (.i64 v683) 0] [.agg [.int .i64 v680, .int .i64 v681, .own 0 0 v682.length, .own 1 0 v683.length], .int .i64 v684]) {y : Int × (List Nat) × (List Int)} (hy : laws_markFactor_g v682 v683 v684 = some y) : ∃ H', FnOk Try.prog 56 (DVs.av F [.agg [.int .i64 v680, .int .i64 v681, .own 0 0 v682.length, .own 1 0 v683.length], .int .i64 v684]) F.H0 ((laws_markFactor_enc v680 v681 v682 v683 v684 y).1.av F) H' ∧ St F (laws_markFactor_enc v680 v681 v682 v683 v684 y).2 H' ∧ (laws_markFactor_enc v680 v681 v682 v683 v684 y).1.Ok F (laws_markFactor_enc v680 v681 v682 v683 v684 y).2 :=
  fn_fin tok laws_markFactor_hO mixed Try.func56 Try.call56 (by kernel_rfl) (LoopsOk_eq (l := []) (by kernel_rfl) trivial) (laws_markFactor_den v680 v681 v682 v683 v684) hy hm h0 hA
noncomputable def laws_markFactor_F : DFn := fun args L =>
  match args with
  | [.agg [.int .i64 v680, .int .i64 v681, a1, a2], .int .i64 v684] =>
    optT (ownF32 L a1) fun qv682 =>
    optT (ownI64 L a2) fun qv683 =>
    (match sepB [qv682.1, qv683.1] [] with
    | true =>
    .call (laws_markFactor_g qv682.2 qv683.2 v684) fun y => .grd (decide (y.2.1.length = qv682.2.length)) (.grd (decide (y.2.2.length = qv683.2.length)) (.leaf (.int .i64 y.1, setRows L ([qv682.1, qv683.1].zip [.f32 y.2.1, .i64 y.2.2]))))
    | false => .fail)
  | _ => .fail
theorem laws_markFactor_Fok : COk Try.prog 56 laws_markFactor_F false := by
  intro F L H args r L' hs ha hr
  unfold laws_markFactor_F at hr
  split at hr
  · rename_i v680 v681 a1 a2 v684
    obtain ⟨⟨jv682, v682⟩, hqv682, hr⟩ := optT_run hr
    simp only at hr
    obtain ⟨⟨jv683, v683⟩, hqv683, hr⟩ := optT_run hr
    simp only at hr
    split at hr
    · rename_i hsep
      obtain ⟨hnd, hsepv⟩ := sepB_spec hsep
      simp only [Tree.run] at hr
      obtain ⟨y, hy, hr⟩ := Option.bind_eq_some_iff.1 hr
      try simp only [Tree.run] at hr
      obtain ⟨hl0, hr⟩ := ite_run hr
      obtain ⟨hl1, hr⟩ := ite_run hr
      simp only [Option.some.injEq, Prod.mk.injEq] at hr
      obtain ⟨rfl, rfl⟩ := hr
      obtain ⟨hr0, hu0, ha0, hb0⟩ := (ownR_spec (DVs.okAt (DVs.okAt ha 0 rfl) 2 rfl) (ownF32_or hqv682))
      obtain ⟨hr1, hu1, ha1, hb1⟩ := (ownR_spec (DVs.okAt (DVs.okAt ha 0 rfl) 3 rfl) (ownI64_or hqv683))
      exact mut_ok hs (fun k => (([a1.av F, a2.av F] : List AV)[k]?).getD .top) [.agg [.int .i64 v680, .int .i64 v681, a1, a2], .int .i64 v684] [.agg [.int .i64 v680, .int .i64 v681, .own 0 0 v682.length, .own 1 0 v683.length], .int .i64 v684] [jv682, jv683] [.f32 v682, .i64 v683] [.f32 y.2.1, .i64 y.2.2] hnd rfl rfl (fun i j q h1 h2 => by
          rcases i with _ | _ | i
          · simp at h1 h2; subst h1; subst h2; exact hr0
          · simp at h1 h2; subst h1; subst h2; exact hr1
          · simp at h1) (fun i q q' h1 h2 => by
          rcases i with _ | _ | i
          · simp at h1 h2; subst h1; subst h2; exact of_decide_eq_true hl0
          · simp at h1 h2; subst h1; subst h2; exact of_decide_eq_true hl1
          · simp at h1) (fun j hj => by simp at hj; rcases hj with rfl | rfl <;> simp [DVs.refs, DV.refs, hu0, hu1]) (fun F' h0 hi hρ hst hS => ⟨by (have ab0 : F'.abs 0 = F.abs jv682 := (by simp [Fr.abs, hi]); have ab1 : F'.abs 1 = F.abs jv683 := (by simp [Fr.abs, hi]); simp [DVs.av, DV.av, BR.av, hρ, Row.len, ha0, ab0, ha1, ab1]), by
          obtain ⟨H1, k1, k2, _⟩ := laws_markFactor_fn v680 v681 v682 v683 v684 F' (by rw [hi]; rfl) hst ⟨⟨trivial, trivial, ⟨_, rfl, Nat.le_refl _, Nat.le_refl _, fun _ => rfl, (ownR_spec (DVs.okAt (DVs.okAt ha 0 rfl) 2 rfl) (ownF32_or hqv682)).2.2.2⟩, ⟨_, rfl, Nat.le_refl _, Nat.le_refl _, fun _ => rfl, (ownR_spec (DVs.okAt (DVs.okAt ha 0 rfl) 3 rfl) (ownI64_or hqv683)).2.2.2⟩, trivial⟩, trivial, trivial⟩ hy
          exact ⟨H1, k1, k2⟩⟩) (fun F' => rfl) (fun L' => trivial)
    · cases hr
  · cases hr
/-! laws.markFloat32S -/
noncomputable def laws_markFloat32S_i1_l0_T (s : Unit) : Tree ((Unit) ⊕ (Unit)) :=
  (.br (decide ((0 : Int) < (0 : Int))) (
   .fail
  ) (
   .leaf (.inr ())
  ))

noncomputable def laws_markFloat32S_i1_l0_g (s0 : Unit) : Option (Unit) := whileM (fun s => (laws_markFloat32S_i1_l0_T s).run) s0
def laws_markFloat32S_i1_l0_E (v692 : Int) (s : Unit) : Sd := ([.nilslc, .int .i64 v692, .top, .top, .top, .int .i64 (0 : Int), .top, .top, .top, .top, .top, .top, .top, .top, .top, .top, .top, .top, .top, .top], [])
def laws_markFloat32S_i1_l0_X (v692 : Int) (x : Unit) : Out := (.normal, [.top, .int .i64 v692, .top, .top, .top, .top, .top, .top, .top, .top, .top, .top, .top, .top, .top, .top, .top, .top, .top, .top], [])
def laws_markFloat32S_i1_l0_kill : List Nat := [0, 0, 1, 1, 1, 0, 1, 1, 1, 1, 1, 1, 1, 1, 1, 1, 1, 1, 1, 1]
def laws_markFloat32S_i1_l0_nx : Exit → List Nat
  | .exit 0 => [1, 0, 1, 1, 1, 1, 1, 1, 1, 1, 1, 1, 1, 1, 1, 1, 1, 1, 1, 1]
  | .ret => [1, 1, 1, 1, 0, 1, 1, 1, 1, 1, 1, 1, 1, 1, 1, 1, 1, 1, 1, 1]
  | _ => []
noncomputable def laws_markFloat32S_i1_LO (v692 : Int) : LOr := fun id e L =>
  match id with
  | 0 => .need (normA 0 laws_markFloat32S_i1_l0_kill e L = some (laws_markFloat32S_i1_l0_E v692 ())) (.call (laws_markFloat32S_i1_l0_g ()) fun x => .leaf (laws_markFloat32S_i1_l0_X v692 x))
  | _ => .fail
noncomputable def laws_markFloat32S_i1_tab : List (FuncId × DFn × Bool) := []
theorem laws_markFloat32S_i1_hO : OrcOk Try.prog (tabD laws_markFloat32S_i1_tab) (tabM laws_markFloat32S_i1_tab) := tabD_nil _
theorem laws_markFloat32S_i1_l0_be (v692 : Int) (s : Unit) : bodyT TT (tabD laws_markFloat32S_i1_tab) (tabM laws_markFloat32S_i1_tab) (laws_markFloat32S_i1_LO v692) 0 laws_markFloat32S_i1_l0_kill laws_markFloat32S_i1_l0_nx (bodyOf Try.f23 0) 0 (laws_markFloat32S_i1_l0_E v692 s) = (laws_markFloat32S_i1_l0_T s).bind fun y => .leaf (outS (laws_markFloat32S_i1_l0_E v692) (laws_markFloat32S_i1_l0_X v692) y) := by kernel_rfl
theorem laws_markFloat32S_i1_l0_ok (v692 : Int) : LSound Try.prog 0 (laws_markFloat32S_i1_LO v692) 0 (bodyOf Try.f23 0) := by
  intro e L out h
  exact lo_ok (E := laws_markFloat32S_i1_l0_E v692) (gT := laws_markFloat32S_i1_l0_T) (X := laws_markFloat32S_i1_l0_X v692) (s0 := ()) tok laws_markFloat32S_i1_hO mixed (LoopsOk_eq (l := []) (by kernel_rfl) trivial) (laws_markFloat32S_i1_l0_be v692) rfl (by intro x; rfl) h
noncomputable def laws_markFloat32S_i1_T (v692 : Int) : Tree (Int) :=
  (.need (some (laws_markFloat32S_i1_l0_E v692 ()) = some (laws_markFloat32S_i1_l0_E v692 ())) <|
  (.call (laws_markFloat32S_i1_l0_g ()) fun v695 =>
  .leaf v692))

noncomputable def laws_markFloat32S_i1_g (v692 : Int) : Option (Int) := (laws_markFloat32S_i1_T v692).run
def laws_markFloat32S_i1_enc (v692 : Int) (y : Int) : Rs := (.int .i64 y, [])
theorem laws_markFloat32S_i1_den (v692 : Int) : (den TT (tabD laws_markFloat32S_i1_tab) (tabM laws_markFloat32S_i1_tab) (laws_markFloat32S_i1_LO v692) (codeOf Try.f23) ([.nilslc, .int .i64 v692] ++ List.replicate (Try.f23.ntmps - ([.nilslc, .int .i64 v692] : List DV).length) .undef) []).bind (retD TT Try.f23.results.toList 0) = (laws_markFloat32S_i1_T v692).bind fun y => .leaf (laws_markFloat32S_i1_enc v692 y) := by kernel_rfl
theorem laws_markFloat32S_i1_fn (v692 : Int) (F : Fr) (hm : F.ids.length = 0) (h0 : St F [] F.H0) (hA : DVs.Ok F [] [.nilslc, .int .i64 v692]) {y : Int} (hy : laws_markFloat32S_i1_g v692 = some y) : ∃ H', FnOk Try.prog 23 (DVs.av F [.nilslc, .int .i64 v692]) F.H0 ((laws_markFloat32S_i1_enc v692 y).1.av F) H' ∧ St F (laws_markFloat32S_i1_enc v692 y).2 H' ∧ (laws_markFloat32S_i1_enc v692 y).1.Ok F (laws_markFloat32S_i1_enc v692 y).2 :=
  fn_fin tok laws_markFloat32S_i1_hO mixed Try.func23 Try.call23 (by kernel_rfl) (LoopsOk_eq (l := [(0, bodyOf Try.f23 0)]) (by kernel_rfl) ⟨laws_markFloat32S_i1_l0_ok v692, trivial⟩) (laws_markFloat32S_i1_den v692) hy hm h0 hA
noncomputable def laws_markFloat32S_i1_F : DFn := fun args L =>
  match args with
  | [.nilslc, .int .i64 v692] =>
    .call (laws_markFloat32S_i1_g v692) fun y => .leaf (.int .i64 y, L)
  | _ => .fail
theorem laws_markFloat32S_i1_Fok : COk Try.prog 23 laws_markFloat32S_i1_F true := by
  intro F L H args r L' hs ha hr
  unfold laws_markFloat32S_i1_F at hr
  split at hr
  · rename_i v692
    simp only [Tree.run] at hr
    obtain ⟨y, hy, hr⟩ := Option.bind_eq_some_iff.1 hr
    simp only [Tree.run, Option.some.injEq, Prod.mk.injEq] at hr
    obtain ⟨rfl, rfl⟩ := hr
    exact call_ok0 hs (fun k => (([] : List AV)[k]?).getD .top) [.nilslc, .int .i64 v692] [.nilslc, .int .i64 v692] (fun F' h0 hi hρ => ⟨by simp [DVs.av, DV.av, BR.av, hρ], laws_markFloat32S_i1_fn v692 F' (by rw [hi]; rfl) (st_nil hi) ⟨trivial, trivial, trivial⟩ hy⟩) rfl
  · cases hr
/-! laws.markMatrix -/
noncomputable def laws_markMatrix_i1_LO (v689 : Int) (v690 : Int) (v691 : Int) : LOr := fun id e L =>
  match id with
  | _ => .fail
noncomputable def laws_markMatrix_i1_tab : List (FuncId × DFn × Bool) := [(23, laws_markFloat32S_i1_F, true)]
theorem laws_markMatrix_i1_hO : OrcOk Try.prog (tabD laws_markMatrix_i1_tab) (tabM laws_markMatrix_i1_tab) := tabD_cons laws_markFloat32S_i1_Fok (tabD_nil _)
noncomputable def laws_markMatrix_i1_T (v691 : Int) : Tree (Int) :=
  (.call (laws_markFloat32S_i1_g v691) fun v696 =>
  .leaf v696)

noncomputable def laws_markMatrix_i1_g (v691 : Int) : Option (Int) := (laws_markMatrix_i1_T v691).run
def laws_markMatrix_i1_enc (v689 : Int) (v690 : Int) (v691 : Int) (y : Int) : Rs := (.int .i64 y, [])
theorem laws_markMatrix_i1_den (v689 : Int) (v690 : Int) (v691 : Int) : (den TT (tabD laws_markMatrix_i1_tab) (tabM laws_markMatrix_i1_tab) (laws_markMatrix_i1_LO v689 v690 v691) (codeOf Try.f34) ([.agg [.int .i64 v689, .int .i64 v690, .nilslc], .int .i64 v691] ++ List.replicate (Try.f34.ntmps - ([.agg [.int .i64 v689, .int .i64 v690, .nilslc], .int .i64 v691] : List DV).length) .undef) []).bind (retD TT Try.f34.results.toList 0) = (laws_markMatrix_i1_T v691).bind fun y => .leaf (laws_markMatrix_i1_enc v689 v690 v691 y) := by kernel_rfl
theorem laws_markMatrix_i1_fn (v689 : Int) (v690 : Int) (v691 : Int) (F : Fr) (hm : F.ids.length = 0) (h0 : St F [] F.H0) (hA : DVs.Ok F [] [.agg [.int .i64 v689, .int .i64 v690, .nilslc], .int .i64 v691]) {y : Int} (hy : laws_markMatrix_i1_g v691 = some y) : ∃ H', FnOk Try.prog 34 (DVs.av F [.agg [.int .i64 v689, .int .i64 v690, .nilslc], .int .i64 v691]) F.H0 ((laws_markMatrix_i1_enc v689 v690 v691 y).1.av F) H' ∧ St F (laws_markMatrix_i1_enc v689 v690 v691 y).2 H' ∧ (laws_markMatrix_i1_enc v689 v690 v691 y).1.Ok F (laws_markMatrix_i1_enc v689 v690 v691 y).2 :=
  fn_fin tok laws_markMatrix_i1_hO mixed Try.func34 Try.call34 (by kernel_rfl) (LoopsOk_eq (l := []) (by kernel_rfl) trivial) (laws_markMatrix_i1_den v689 v690 v691) hy hm h0 hA
noncomputable def laws_markMatrix_i1_F : DFn := fun args L =>
  match args with
  | [.agg [.int .i64 v689, .int .i64 v690, .nilslc], .int .i64 v691] =>
    .call (laws_markMatrix_i1_g v691) fun y => .leaf (.int .i64 y, L)
  | _ => .fail
theorem laws_markMatrix_i1_Fok : COk Try.prog 34 laws_markMatrix_i1_F true := by
  intro F L H args r L' hs ha hr
  unfold laws_markMatrix_i1_F at hr
  split at hr
  · rename_i v689 v690 v691
    simp only [Tree.run] at hr
    obtain ⟨y, hy, hr⟩ := Option.bind_eq_some_iff.1 hr
    simp only [Tree.run, Option.some.injEq, Prod.mk.injEq] at hr
    obtain ⟨rfl, rfl⟩ := hr
    exact call_ok0 hs (fun k => (([] : List AV)[k]?).getD .top) [.agg [.int .i64 v689, .int .i64 v690, .nilslc], .int .i64 v691] [.agg [.int .i64 v689, .int .i64 v690, .nilslc], .int .i64 v691] (fun F' h0 hi hρ => ⟨by simp [DVs.av, DV.av, BR.av, hρ], laws_markMatrix_i1_fn v689 v690 v691 F' (by rw [hi]; rfl) (st_nil hi) ⟨⟨trivial, trivial, trivial, trivial⟩, trivial, trivial⟩ hy⟩) rfl
  · cases hr
/-! laws.heldFloat32S -/
noncomputable def laws_heldFloat32S_l0_T (v702 : List Nat) (s : Int × Int) : Tree ((Int × Int) ⊕ ((Unit) ⊕ (Int))) :=
  (.br (decide (s.2 < ((v702.length : Nat) : Int))) (
   (.grd (inb s.2 v702.length) <|
   (.br (!feq .f32 (nth v702 (Int.toNat s.2)) (fofint .f32 s.1)) (
    .leaf (.inr (.inl ()))
   ) (
    .leaf (.inl (IntKind.i64.wrap (s.1 + (1 : Int)), IntKind.i64.wrap (s.2 + (1 : Int))))
   )))
  ) (
   .leaf (.inr (.inr s.1))
  ))

noncomputable def laws_heldFloat32S_l0_g (v702 : List Nat) (s0 : Int × Int) : Option ((Unit) ⊕ (Int)) := whileM (fun s => (laws_heldFloat32S_l0_T v702 s).run) s0
def laws_heldFloat32S_l0_E (v702 : List Nat) (v703 : Int) (s : Int × Int) : Sd := ([.bslc (BR.root 0) (.f32 v702), .int .i64 s.1, .top, .top, .top, .int .i64 s.2, .top, .top, .top, .top, .top, .top, .top, .top, .top, .top, .top, .top, .top, .top, .top, .top], [])
def laws_heldFloat32S_l0_X (v702 : List Nat) (v703 : Int) (x : (Unit) ⊕ (Int)) : Out := (match x with | .inl x => (.ret, [.top, .top, .top, .top, .int .i64 (-1 : Int), .top, .top, .top, .top, .top, .top, .top, .top, .top, .top, .top, .top, .top, .top, .top, .top, .top], []) | .inr x => (.normal, [.top, .int .i64 x, .top, .top, .top, .top, .top, .top, .top, .top, .top, .top, .top, .top, .top, .top, .top, .top, .top, .top, .top, .top], []))
def laws_heldFloat32S_l0_kill : List Nat := [0, 0, 1, 1, 1, 0, 1, 1, 1, 1, 1, 1, 1, 1, 1, 1, 1, 1, 1, 1, 1, 1]
def laws_heldFloat32S_l0_nx : Exit → List Nat
  | .exit 0 => [1, 0, 1, 1, 1, 1, 1, 1, 1, 1, 1, 1, 1, 1, 1, 1, 1, 1, 1, 1, 1, 1]
  | .ret => [1, 1, 1, 1, 0, 1, 1, 1, 1, 1, 1, 1, 1, 1, 1, 1, 1, 1, 1, 1, 1, 1]
  | _ => []
noncomputable def laws_heldFloat32S_LO (v702 : List Nat) (v703 : Int) : LOr := fun id e L =>
  match id with
  | 0 => .need (normA 0 laws_heldFloat32S_l0_kill e L = some (laws_heldFloat32S_l0_E v702 v703 ((gI (vAt e 1)), (gI (vAt e 5))))) (.call (laws_heldFloat32S_l0_g v702 ((gI (vAt e 1)), (gI (vAt e 5)))) fun x => .sum x (fun b0 => .leaf (laws_heldFloat32S_l0_X v702 v703 (.inl b0))) (fun c0 => .leaf (laws_heldFloat32S_l0_X v702 v703 (.inr c0))))
  | _ => .fail
noncomputable def laws_heldFloat32S_tab : List (FuncId × DFn × Bool) := []
theorem laws_heldFloat32S_hO : OrcOk Try.prog (tabD laws_heldFloat32S_tab) (tabM laws_heldFloat32S_tab) := tabD_nil _
theorem laws_heldFloat32S_l0_be (v702 : List Nat) (v703 : Int) (s : Int × Int) : bodyT TT (tabD laws_heldFloat32S_tab) (tabM laws_heldFloat32S_tab) (laws_heldFloat32S_LO v702 v703) 0 laws_heldFloat32S_l0_kill laws_heldFloat32S_l0_nx (bodyOf Try.f24 0) 0 (laws_heldFloat32S_l0_E v702 v703 s) = (laws_heldFloat32S_l0_T v702 s).bind fun y => .leaf (outS (laws_heldFloat32S_l0_E v702 v703) (laws_heldFloat32S_l0_X v702 v703) y) := by kernel_rfl
theorem laws_heldFloat32S_l0_ok (v702 : List Nat) (v703 : Int) : LSound Try.prog 0 (laws_heldFloat32S_LO v702 v703) 0 (bodyOf Try.f24 0) := by
  intro e L out h
  exact lo_ok (E := laws_heldFloat32S_l0_E v702 v703) (gT := laws_heldFloat32S_l0_T v702) (X := laws_heldFloat32S_l0_X v702 v703) (s0 := ((gI (vAt e 1)), (gI (vAt e 5)))) tok laws_heldFloat32S_hO mixed (LoopsOk_eq (l := []) (by kernel_rfl) trivial) (laws_heldFloat32S_l0_be v702 v703) rfl (by intro x; (cases x with | inl b => rfl | inr x => exact rfl)) h
noncomputable def laws_heldFloat32S_T (v702 : List Nat) (v703 : Int) : Tree (Int) :=
  (.need (some (laws_heldFloat32S_l0_E v702 v703 (v703, (0 : Int))) = some (laws_heldFloat32S_l0_E v702 v703 (v703, (0 : Int)))) <|
  (.call (laws_heldFloat32S_l0_g v702 (v703, (0 : Int))) fun v710 =>
  (.sum v710 (fun v711 =>
   .leaf (-1 : Int)
  ) (fun v712 =>
   .leaf v712
  ))))

noncomputable def laws_heldFloat32S_g (v702 : List Nat) (v703 : Int) : Option (Int) := (laws_heldFloat32S_T v702 v703).run
def laws_heldFloat32S_enc (v702 : List Nat) (v703 : Int) (y : Int) : Rs := (.int .i64 y, [])
theorem laws_heldFloat32S_den (v702 : List Nat) (v703 : Int) : (den TT (tabD laws_heldFloat32S_tab) (tabM laws_heldFloat32S_tab) (laws_heldFloat32S_LO v702 v703) (codeOf Try.f24) ([.bslc (BR.root 0) (.f32 v702), .int .i64 v703] ++ List.replicate (Try.f24.ntmps - ([.bslc (BR.root 0) (.f32 v702), .int .i64 v703] : List DV).length) .undef) []).bind (retD TT Try.f24.results.toList 0) = (laws_heldFloat32S_T v702 v703).bind fun y => .leaf (laws_heldFloat32S_enc v702 v703 y) := by kernel_rfl
theorem laws_heldFloat32S_fn (v702 : List Nat) (v703 : Int) (F : Fr) (hm : F.ids.length = 0) (h0 : St F [] F.H0) (hA : DVs.Ok F [] [.bslc (BR.root 0) (.f32 v702), .int .i64 v703]) {y : Int} (hy : laws_heldFloat32S_g v702 v703 = some y) : ∃ H', FnOk Try.prog 24 (DVs.av F [.bslc (BR.root 0) (.f32 v702), .int .i64 v703]) F.H0 ((laws_heldFloat32S_enc v702 v703 y).1.av F) H' ∧ St F (laws_heldFloat32S_enc v702 v703 y).2 H' ∧ (laws_heldFloat32S_enc v702 v703 y).1.Ok F (laws_heldFloat32S_enc v702 v703 y).2 :=
  fn_fin tok laws_heldFloat32S_hO mixed Try.func24 Try.call24 (by kernel_rfl) (LoopsOk_eq (l := [(0, bodyOf Try.f24 0)]) (by kernel_rfl) ⟨laws_heldFloat32S_l0_ok v702 v703, trivial⟩) (laws_heldFloat32S_den v702 v703) hy hm h0 hA
noncomputable def laws_heldFloat32S_F : DFn := fun args L =>
  match args with
  | [a1, .int .i64 v703] =>
    optT (rowF32 L a1) fun v702 =>
    .call (laws_heldFloat32S_g v702 v703) fun y => .leaf (.int .i64 y, L)
  | _ => .fail
theorem laws_heldFloat32S_Fok : COk Try.prog 24 laws_heldFloat32S_F true := by
  intro F L H args r L' hs ha hr
  unfold laws_heldFloat32S_F at hr
  split at hr
  · rename_i a1 v703
    obtain ⟨v702, hv702, hr⟩ := optT_run hr
    simp only [Tree.run] at hr
    obtain ⟨y, hy, hr⟩ := Option.bind_eq_some_iff.1 hr
    simp only [Tree.run, Option.some.injEq, Prod.mk.injEq] at hr
    obtain ⟨rfl, rfl⟩ := hr
    exact call_ok0 hs (fun k => (([a1.av F] : List AV)[k]?).getD .top) [a1, .int .i64 v703] [.bslc (BR.root 0) (.f32 v702), .int .i64 v703] (fun F' h0 hi hρ => ⟨by simp [DVs.av, DV.av, BR.av, hρ], laws_heldFloat32S_fn v702 v703 F' (by rw [hi]; rfl) (st_nil hi) ⟨bslc_ok hi (by rw [h0, hρ]; exact rowF32_ok hs (DVs.okAt ha 0 rfl) hv702), trivial, trivial⟩ hy⟩) rfl
  · cases hr
/-! laws.heldMatrix -/
noncomputable def laws_heldMatrix_LO (v698 : Int) (v699 : Int) (v700 : List Nat) (v701 : Int) : LOr := fun id e L =>
  match id with
  | _ => .fail
noncomputable def laws_heldMatrix_tab : List (FuncId × DFn × Bool) := [(24, laws_heldFloat32S_F, true)]
theorem laws_heldMatrix_hO : OrcOk Try.prog (tabD laws_heldMatrix_tab) (tabM laws_heldMatrix_tab) := tabD_cons laws_heldFloat32S_Fok (tabD_nil _)
noncomputable def laws_heldMatrix_T (v700 : List Nat) (v701 : Int) : Tree (Int) :=
  (.call (laws_heldFloat32S_g v700 v701) fun v713 =>
  (.br (decide (v713 < (0 : Int))) (
   .leaf (-1 : Int)
  ) (
   .leaf v713
  )))

noncomputable def laws_heldMatrix_g (v700 : List Nat) (v701 : Int) : Option (Int) := (laws_heldMatrix_T v700 v701).run
def laws_heldMatrix_enc (v698 : Int) (v699 : Int) (v700 : List Nat) (v701 : Int) (y : Int) : Rs := (.int .i64 y, [])
theorem laws_heldMatrix_den (v698 : Int) (v699 : Int) (v700 : List Nat) (v701 : Int) : (den TT (tabD laws_heldMatrix_tab) (tabM laws_heldMatrix_tab) (laws_heldMatrix_LO v698 v699 v700 v701) (codeOf Try.f35) ([.agg [.int .i64 v698, .int .i64 v699, .bslc (BR.root 0) (.f32 v700)], .int .i64 v701] ++ List.replicate (Try.f35.ntmps - ([.agg [.int .i64 v698, .int .i64 v699, .bslc (BR.root 0) (.f32 v700)], .int .i64 v701] : List DV).length) .undef) []).bind (retD TT Try.f35.results.toList 0) = (laws_heldMatrix_T v700 v701).bind fun y => .leaf (laws_heldMatrix_enc v698 v699 v700 v701 y) := by kernel_rfl
theorem laws_heldMatrix_fn (v698 : Int) (v699 : Int) (v700 : List Nat) (v701 : Int) (F : Fr) (hm : F.ids.length = 0) (h0 : St F [] F.H0) (hA : DVs.Ok F [] [.agg [.int .i64 v698, .int .i64 v699, .bslc (BR.root 0) (.f32 v700)], .int .i64 v701]) {y : Int} (hy : laws_heldMatrix_g v700 v701 = some y) : ∃ H', FnOk Try.prog 35 (DVs.av F [.agg [.int .i64 v698, .int .i64 v699, .bslc (BR.root 0) (.f32 v700)], .int .i64 v701]) F.H0 ((laws_heldMatrix_enc v698 v699 v700 v701 y).1.av F) H' ∧ St F (laws_heldMatrix_enc v698 v699 v700 v701 y).2 H' ∧ (laws_heldMatrix_enc v698 v699 v700 v701 y).1.Ok F (laws_heldMatrix_enc v698 v699 v700 v701 y).2 :=
  fn_fin tok laws_heldMatrix_hO mixed Try.func35 Try.call35 (by kernel_rfl) (LoopsOk_eq (l := []) (by kernel_rfl) trivial) (laws_heldMatrix_den v698 v699 v700 v701) hy hm h0 hA
noncomputable def laws_heldMatrix_F : DFn := fun args L =>
  match args with
  | [.agg [.int .i64 v698, .int .i64 v699, a1], .int .i64 v701] =>
    optT (rowF32 L a1) fun v700 =>
    .call (laws_heldMatrix_g v700 v701) fun y => .leaf (.int .i64 y, L)
  | _ => .fail
theorem laws_heldMatrix_Fok : COk Try.prog 35 laws_heldMatrix_F true := by
  intro F L H args r L' hs ha hr
  unfold laws_heldMatrix_F at hr
  split at hr
  · rename_i v698 v699 a1 v701
    obtain ⟨v700, hv700, hr⟩ := optT_run hr
    simp only [Tree.run] at hr
    obtain ⟨y, hy, hr⟩ := Option.bind_eq_some_iff.1 hr
    simp only [Tree.run, Option.some.injEq, Prod.mk.injEq] at hr
    obtain ⟨rfl, rfl⟩ := hr
    exact call_ok0 hs (fun k => (([a1.av F] : List AV)[k]?).getD .top) [.agg [.int .i64 v698, .int .i64 v699, a1], .int .i64 v701] [.agg [.int .i64 v698, .int .i64 v699, .bslc (BR.root 0) (.f32 v700)], .int .i64 v701] (fun F' h0 hi hρ => ⟨by simp [DVs.av, DV.av, BR.av, hρ], laws_heldMatrix_fn v698 v699 v700 v701 F' (by rw [hi]; rfl) (st_nil hi) ⟨⟨trivial, trivial, bslc_ok hi (by rw [h0, hρ]; exact rowF32_ok hs (DVs.okAt (DVs.okAt ha 0 rfl) 2 rfl) hv700), trivial⟩, trivial, trivial⟩ hy⟩) rfl
  · cases hr
/-! laws.FnExactFactorInverse -/
noncomputable def laws_FnExactFactorInverse_LO (v1 : Int) (v2 : Int) (v3 : List Nat) (v4 : List Int) : LOr := fun id e L =>
  match id with
  | _ => .fail
noncomputable def laws_FnExactFactorInverse_tab : List (FuncId × DFn × Bool) := [(46, laws_szFactor_F, true), (48, laws_toFactor_F, true), (61, spec_FactorInverse_F, true), (62, impl_FactorInverse_F, true), (33, laws_eqMatrix_F, true), (50, laws_eqFactor_F, true), (56, laws_markFactor_F, false), (34, (orD (fun args => match args with | [.agg [_, _, .nilslc], _] => true | _ => false) laws_markMatrix_i1_F laws_markMatrix_F), false), (35, laws_heldMatrix_F, true)]
theorem laws_FnExactFactorInverse_hO : OrcOk Try.prog (tabD laws_FnExactFactorInverse_tab) (tabM laws_FnExactFactorInverse_tab) := tabD_cons laws_szFactor_Fok (tabD_cons laws_toFactor_Fok (tabD_cons spec_FactorInverse_Fok (tabD_cons impl_FactorInverse_Fok (tabD_cons laws_eqMatrix_Fok (tabD_cons laws_eqFactor_Fok (tabD_cons laws_markFactor_Fok (tabD_cons (orD_ok (COk.weak laws_markMatrix_i1_Fok) laws_markMatrix_Fok) (tabD_cons laws_heldMatrix_Fok (tabD_nil _)))))))))
noncomputable def laws_FnExactFactorInverse_T (v1 : Int) (v2 : Int) (v3 : List Nat) (v4 : List Int) : Tree (Bool) :=
  (.br (decide ((laws_szFactor_v v3 v4 (1048576 : Int)) < (0 : Int))) (
   .leaf true
  ) (
   (.call (laws_toFactor_g v1 v2 v3 v4) fun v42 =>
   (.call (spec_FactorInverse_g v42.1 v42.2.1 v42.2.2.1 v42.2.2.2) fun v298 =>
   (.sum v298 (fun v299 =>
    (.call (laws_toFactor_g v1 v2 v3 v4) fun v301 =>
    (.call (impl_FactorInverse_g v301.1 v301.2.1 v301.2.2.1 v301.2.2.2) fun v589 =>
    (.sum v589 (fun v590 =>
     (.call (laws_eqMatrix_g (0 : Int) (0 : Int) ([] : List Nat) (0 : Int) (0 : Int) ([] : List Nat)) fun v609 =>
     (.br (!v609) (
      .leaf false
     ) (
      (.br (!(false == false)) (
       .leaf false
      ) (
       (.call (laws_toFactor_g v1 v2 v3 v4) fun v610 =>
       (.call (laws_eqFactor_g v301.1 v301.2.1 v301.2.2.1 v301.2.2.2 v610.1 v610.2.1 v610.2.2.1 v610.2.2.2) fun v629 =>
       (.br (!v629) (
        .leaf false
       ) (
        (.call (laws_markFactor_g v301.2.2.1 v301.2.2.2 (1 : Int)) fun v687 =>
        (.grd (decide (v687.2.1.length = v301.2.2.1.length)) <|
        (.grd (decide (v687.2.2.length = v301.2.2.2.length)) <|
        (.br (decide (v687.1 < (0 : Int))) (
         .leaf false
        ) (
         (.call (laws_eqMatrix_g (0 : Int) (0 : Int) ([] : List Nat) (0 : Int) (0 : Int) ([] : List Nat)) fun v688 =>
         (.br (!v688) (
          .leaf false
         ) (
          (.br (!(false == false)) (
           .leaf false
          ) (
           (.call (laws_markMatrix_i1_g (1 : Int)) fun v697 =>
           (.call (laws_heldMatrix_g ([] : List Nat) (1 : Int)) fun v714 =>
           (.br (decide (v714 < (0 : Int))) (
            .leaf false
           ) (
            (.br (!decide (v714 = v697)) (
             .leaf false
            ) (
             (.call (laws_toFactor_g v1 v2 v3 v4) fun v715 =>
             (.call (impl_FactorInverse_g v715.1 v715.2.1 v715.2.2.1 v715.2.2.2) fun v716 =>
             (.sum v716 (fun v717 =>
              (.call (laws_eqMatrix_g (0 : Int) (0 : Int) ([] : List Nat) (0 : Int) (0 : Int) ([] : List Nat)) fun v719 =>
              (.br (!v719) (
               .leaf false
              ) (
               (.br (!(false == false)) (
                .leaf false
               ) (
                (.call (laws_heldMatrix_g ([] : List Nat) (1 : Int)) fun v720 =>
                (.br (decide (v720 < (0 : Int))) (
                 .leaf false
                ) (
                 (.br (!decide (v720 = v697)) (
                  .leaf false
                 ) (
                  .leaf true
                 ))
                )))
               ))
              )))
             ) (fun v718 =>
              (.call (laws_eqMatrix_g v718.1 v718.2.1 v718.2.2 (0 : Int) (0 : Int) ([] : List Nat)) fun v721 =>
              (.br (!v721) (
               .leaf false
              ) (
               (.br (!(true == false)) (
                .leaf false
               ) (
                (.call (laws_heldMatrix_g ([] : List Nat) (1 : Int)) fun v722 =>
                (.br (decide (v722 < (0 : Int))) (
                 .leaf false
                ) (
                 (.br (!decide (v722 = v697)) (
                  .leaf false
                 ) (
                  .leaf true
                 ))
                )))
               ))
              )))
             ))))
            ))
           ))))
          ))
         )))
        )))))
       ))))
      ))
     )))
    ) (fun v591 =>
     (.call (laws_eqMatrix_g v591.1 v591.2.1 v591.2.2 (0 : Int) (0 : Int) ([] : List Nat)) fun v723 =>
     (.br (!v723) (
      .leaf false
     ) (
      (.br (!(true == false)) (
       .leaf false
      ) (
       (.call (laws_toFactor_g v1 v2 v3 v4) fun v724 =>
       (.call (laws_eqFactor_g v301.1 v301.2.1 v301.2.2.1 v301.2.2.2 v724.1 v724.2.1 v724.2.2.1 v724.2.2.2) fun v725 =>
       (.br (!v725) (
        .leaf false
       ) (
        (.call (laws_markFactor_g v301.2.2.1 v301.2.2.2 (1 : Int)) fun v726 =>
        (.grd (decide (v726.2.1.length = v301.2.2.1.length)) <|
        (.grd (decide (v726.2.2.length = v301.2.2.2.length)) <|
        (.br (decide (v726.1 < (0 : Int))) (
         .leaf false
        ) (
         (.call (laws_eqMatrix_g v591.1 v591.2.1 v591.2.2 (0 : Int) (0 : Int) ([] : List Nat)) fun v727 =>
         (.br (!v727) (
          .leaf false
         ) (
          (.br (!(true == false)) (
           .leaf false
          ) (
           (.call (laws_markMatrix_g v591.2.2 (1 : Int)) fun v728 =>
           (.grd (decide (v728.2.length = v591.2.2.length)) <|
           (.call (laws_heldMatrix_g v728.2 (1 : Int)) fun v729 =>
           (.br (decide (v729 < (0 : Int))) (
            .leaf false
           ) (
            (.br (!decide (v729 = v728.1)) (
             .leaf false
            ) (
             (.call (laws_toFactor_g v1 v2 v3 v4) fun v730 =>
             (.call (impl_FactorInverse_g v730.1 v730.2.1 v730.2.2.1 v730.2.2.2) fun v731 =>
             (.sum v731 (fun v732 =>
              (.call (laws_eqMatrix_g (0 : Int) (0 : Int) ([] : List Nat) (0 : Int) (0 : Int) ([] : List Nat)) fun v734 =>
              (.br (!v734) (
               .leaf false
              ) (
               (.br (!(false == false)) (
                .leaf false
               ) (
                (.call (laws_heldMatrix_g v728.2 (1 : Int)) fun v735 =>
                (.br (decide (v735 < (0 : Int))) (
                 .leaf false
                ) (
                 (.br (!decide (v735 = v728.1)) (
                  .leaf false
                 ) (
                  .leaf true
                 ))
                )))
               ))
              )))
             ) (fun v733 =>
              (.call (laws_eqMatrix_g v733.1 v733.2.1 v733.2.2 (0 : Int) (0 : Int) ([] : List Nat)) fun v736 =>
              (.br (!v736) (
               .leaf false
              ) (
               (.br (!(true == false)) (
                .leaf false
               ) (
                (.call (laws_heldMatrix_g v728.2 (1 : Int)) fun v737 =>
                (.br (decide (v737 < (0 : Int))) (
                 .leaf false
                ) (
                 (.br (!decide (v737 = v728.1)) (
                  .leaf false
                 ) (
                  .leaf true
                 ))
                )))
               ))
              )))
             ))))
            ))
           )))))
          ))
         )))
        )))))
       ))))
      ))
     )))
    ))))
   ) (fun v300 =>
    (.call (laws_toFactor_g v1 v2 v3 v4) fun v738 =>
    (.call (impl_FactorInverse_g v738.1 v738.2.1 v738.2.2.1 v738.2.2.2) fun v739 =>
    (.sum v739 (fun v740 =>
     (.call (laws_eqMatrix_g (0 : Int) (0 : Int) ([] : List Nat) v300.1 v300.2.1 v300.2.2) fun v742 =>
     (.br (!v742) (
      .leaf false
     ) (
      (.br (!(false == true)) (
       .leaf false
      ) (
       (.call (laws_toFactor_g v1 v2 v3 v4) fun v743 =>
       (.call (laws_eqFactor_g v738.1 v738.2.1 v738.2.2.1 v738.2.2.2 v743.1 v743.2.1 v743.2.2.1 v743.2.2.2) fun v744 =>
       (.br (!v744) (
        .leaf false
       ) (
        (.call (laws_markFactor_g v738.2.2.1 v738.2.2.2 (1 : Int)) fun v745 =>
        (.grd (decide (v745.2.1.length = v738.2.2.1.length)) <|
        (.grd (decide (v745.2.2.length = v738.2.2.2.length)) <|
        (.br (decide (v745.1 < (0 : Int))) (
         .leaf false
        ) (
         (.call (laws_eqMatrix_g (0 : Int) (0 : Int) ([] : List Nat) v300.1 v300.2.1 v300.2.2) fun v746 =>
         (.br (!v746) (
          .leaf false
         ) (
          (.br (!(false == true)) (
           .leaf false
          ) (
           (.call (laws_markMatrix_i1_g (1 : Int)) fun v747 =>
           (.call (laws_heldMatrix_g ([] : List Nat) (1 : Int)) fun v748 =>
           (.br (decide (v748 < (0 : Int))) (
            .leaf false
           ) (
            (.br (!decide (v748 = v747)) (
             .leaf false
            ) (
             (.call (laws_toFactor_g v1 v2 v3 v4) fun v749 =>
             (.call (impl_FactorInverse_g v749.1 v749.2.1 v749.2.2.1 v749.2.2.2) fun v750 =>
             (.sum v750 (fun v751 =>
              (.call (laws_eqMatrix_g (0 : Int) (0 : Int) ([] : List Nat) v300.1 v300.2.1 v300.2.2) fun v753 =>
              (.br (!v753) (
               .leaf false
              ) (
               (.br (!(false == true)) (
                .leaf false
               ) (
                (.call (laws_heldMatrix_g ([] : List Nat) (1 : Int)) fun v754 =>
                (.br (decide (v754 < (0 : Int))) (
                 .leaf false
                ) (
                 (.br (!decide (v754 = v747)) (
                  .leaf false
                 ) (
                  .leaf true
                 ))
                )))
               ))
              )))
             ) (fun v752 =>
              (.call (laws_eqMatrix_g v752.1 v752.2.1 v752.2.2 v300.1 v300.2.1 v300.2.2) fun v755 =>
              (.br (!v755) (
               .leaf false
              ) (
               (.br (!(true == true)) (
                .leaf false
               ) (
                (.call (laws_heldMatrix_g ([] : List Nat) (1 : Int)) fun v756 =>
                (.br (decide (v756 < (0 : Int))) (
                 .leaf false
                ) (
                 (.br (!decide (v756 = v747)) (
                  .leaf false
                 ) (
                  .leaf true
                 ))
                )))
               ))
              )))
             ))))
            ))
           ))))
          ))
         )))
        )))))
       ))))
      ))
     )))
    ) (fun v741 =>
     (.call (laws_eqMatrix_g v741.1 v741.2.1 v741.2.2 v300.1 v300.2.1 v300.2.2) fun v757 =>
     (.br (!v757) (
      .leaf false
     ) (
      (.br (!(true == true)) (
       .leaf false
      ) (
       (.call (laws_toFactor_g v1 v2 v3 v4) fun v758 =>
       (.call (laws_eqFactor_g v738.1 v738.2.1 v738.2.2.1 v738.2.2.2 v758.1 v758.2.1 v758.2.2.1 v758.2.2.2) fun v759 =>
       (.br (!v759) (
        .leaf false
       ) (
        (.call (laws_markFactor_g v738.2.2.1 v738.2.2.2 (1 : Int)) fun v760 =>
        (.grd (decide (v760.2.1.length = v738.2.2.1.length)) <|
        (.grd (decide (v760.2.2.length = v738.2.2.2.length)) <|
        (.br (decide (v760.1 < (0 : Int))) (
         .leaf false
        ) (
         (.call (laws_eqMatrix_g v741.1 v741.2.1 v741.2.2 v300.1 v300.2.1 v300.2.2) fun v761 =>
         (.br (!v761) (
          .leaf false
         ) (
          (.br (!(true == true)) (
           .leaf false
          ) (
           (.call (laws_markMatrix_g v741.2.2 (1 : Int)) fun v762 =>
           (.grd (decide (v762.2.length = v741.2.2.length)) <|
           (.call (laws_heldMatrix_g v762.2 (1 : Int)) fun v763 =>
           (.br (decide (v763 < (0 : Int))) (
            .leaf false
           ) (
            (.br (!decide (v763 = v762.1)) (
             .leaf false
            ) (
             (.call (laws_toFactor_g v1 v2 v3 v4) fun v764 =>
             (.call (impl_FactorInverse_g v764.1 v764.2.1 v764.2.2.1 v764.2.2.2) fun v765 =>
             (.sum v765 (fun v766 =>
              (.call (laws_eqMatrix_g (0 : Int) (0 : Int) ([] : List Nat) v300.1 v300.2.1 v300.2.2) fun v768 =>
              (.br (!v768) (
               .leaf false
              ) (
               (.br (!(false == true)) (
                .leaf false
               ) (
                (.call (laws_heldMatrix_g v762.2 (1 : Int)) fun v769 =>
                (.br (decide (v769 < (0 : Int))) (
                 .leaf false
                ) (
                 (.br (!decide (v769 = v762.1)) (
                  .leaf false
                 ) (
                  .leaf true
                 ))
                )))
               ))
              )))
             ) (fun v767 =>
              (.call (laws_eqMatrix_g v767.1 v767.2.1 v767.2.2 v300.1 v300.2.1 v300.2.2) fun v770 =>
              (.br (!v770) (
               .leaf false
              ) (
               (.br (!(true == true)) (
                .leaf false
               ) (
                (.call (laws_heldMatrix_g v762.2 (1 : Int)) fun v771 =>
                (.br (decide (v771 < (0 : Int))) (
                 .leaf false
                ) (
                 (.br (!decide (v771 = v762.1)) (
                  .leaf false
                 ) (
                  .leaf true
                 ))
                )))
               ))
              )))
             ))))
            ))
           )))))
          ))
         )))
        )))))
       ))))
      ))
     )))
    ))))
   ))))
  ))

noncomputable def laws_FnExactFactorInverse_g (v1 : Int) (v2 : Int) (v3 : List Nat) (v4 : List Int) : Option (Bool) := (laws_FnExactFactorInverse_T v1 v2 v3 v4).run
def laws_FnExactFactorInverse_enc (v1 : Int) (v2 : Int) (v3 : List Nat) (v4 : List Int) (y : Bool) : Rs := (.bool y, [])
theorem laws_FnExactFactorInverse_den (v1 : Int) (v2 : Int) (v3 : List Nat) (v4 : List Int) : (den TT (tabD laws_FnExactFactorInverse_tab) (tabM laws_FnExactFactorInverse_tab) (laws_FnExactFactorInverse_LO v1 v2 v3 v4) (codeOf Try.f14) ([.agg [.int .i64 v1, .int .i64 v2, .bslc (BR.root 0) (.f32 v3), .bslc (BR.root 1) (.i64 v4)]] ++ List.replicate (Try.f14.ntmps - ([.agg [.int .i64 v1, .int .i64 v2, .bslc (BR.root 0) (.f32 v3), .bslc (BR.root 1) (.i64 v4)]] : List DV).length) .undef) []).bind (retD TT Try.f14.results.toList 0) = (laws_FnExactFactorInverse_T v1 v2 v3 v4).bind fun y => .leaf (laws_FnExactFactorInverse_enc v1 v2 v3 v4 y) := by kernel_rfl
theorem laws_FnExactFactorInverse_fn (v1 : Int) (v2 : Int) (v3 : List Nat) (v4 : List Int) (F : Fr) (hm : F.ids.length = 0) (h0 : St F [] F.H0) (hA : DVs.Ok F [] [.agg [.int .i64 v1, .int .i64 v2, .bslc (BR.root 0) (.f32 v3), .bslc (BR.root 1) (.i64 v4)]]) {y : Bool} (hy : laws_FnExactFactorInverse_g v1 v2 v3 v4 = some y) : ∃ H', FnOk Try.prog 14 (DVs.av F [.agg [.int .i64 v1, .int .i64 v2, .bslc (BR.root 0) (.f32 v3), .bslc (BR.root 1) (.i64 v4)]]) F.H0 ((laws_FnExactFactorInverse_enc v1 v2 v3 v4 y).1.av F) H' ∧ St F (laws_FnExactFactorInverse_enc v1 v2 v3 v4 y).2 H' ∧ (laws_FnExactFactorInverse_enc v1 v2 v3 v4 y).1.Ok F (laws_FnExactFactorInverse_enc v1 v2 v3 v4 y).2 :=
  fn_fin tok laws_FnExactFactorInverse_hO mixed Try.func14 Try.call14 (by kernel_rfl) (LoopsOk_eq (l := []) (by kernel_rfl) trivial) (laws_FnExactFactorInverse_den v1 v2 v3 v4) hy hm h0 hA
noncomputable def laws_FnExactFactorInverse_F : DFn := fun args L =>
  match args with
  | [.agg [.int .i64 v1, .int .i64 v2, a1, a2]] =>
    optT (rowF32 L a1) fun v3 =>
    optT (rowI64 L a2) fun v4 =>
    .call (laws_FnExactFactorInverse_g v1 v2 v3 v4) fun y => .leaf (.bool y, L)
  | _ => .fail
theorem laws_FnExactFactorInverse_Fok : COk Try.prog 14 laws_FnExactFactorInverse_F true := by
  intro F L H args r L' hs ha hr
  unfold laws_FnExactFactorInverse_F at hr
  split at hr
  · rename_i v1 v2 a1 a2
    obtain ⟨v3, hv3, hr⟩ := optT_run hr
    obtain ⟨v4, hv4, hr⟩ := optT_run hr
    simp only [Tree.run] at hr
    obtain ⟨y, hy, hr⟩ := Option.bind_eq_some_iff.1 hr
    simp only [Tree.run, Option.some.injEq, Prod.mk.injEq] at hr
    obtain ⟨rfl, rfl⟩ := hr
    exact call_ok0 hs (fun k => (([a1.av F, a2.av F] : List AV)[k]?).getD .top) [.agg [.int .i64 v1, .int .i64 v2, a1, a2]] [.agg [.int .i64 v1, .int .i64 v2, .bslc (BR.root 0) (.f32 v3), .bslc (BR.root 1) (.i64 v4)]] (fun F' h0 hi hρ => ⟨by simp [DVs.av, DV.av, BR.av, hρ], laws_FnExactFactorInverse_fn v1 v2 v3 v4 F' (by rw [hi]; rfl) (st_nil hi) ⟨⟨trivial, trivial, bslc_ok hi (by rw [h0, hρ]; exact rowF32_ok hs (DVs.okAt (DVs.okAt ha 0 rfl) 2 rfl) hv3), bslc_ok hi (by rw [h0, hρ]; exact rowI64_ok hs (DVs.okAt (DVs.okAt ha 0 rfl) 3 rfl) hv4), trivial⟩, trivial⟩ hy⟩) rfl
  · cases hr
/-! laws.szFloat32S -/
noncomputable def laws_szFloat32S_len_LO (v785 : Nat) (v786 : Int) : LOr := fun id e L =>
  match id with
  | _ => .fail
noncomputable def laws_szFloat32S_len_tab : List (FuncId × DFn × Bool) := []
theorem laws_szFloat32S_len_hO : OrcOk Try.prog (tabD laws_szFloat32S_len_tab) (tabM laws_szFloat32S_len_tab) := tabD_nil _
noncomputable def laws_szFloat32S_len_T (v785 : Nat) (v786 : Int) : Tree (Int) :=
  (.br (decide (IntKind.i64.wrap (v786 - ((v785 : Nat) : Int)) < (0 : Int))) (
   .leaf (-1 : Int)
  ) (
   .leaf (IntKind.i64.wrap (v786 - ((v785 : Nat) : Int)))
  ))

noncomputable def laws_szFloat32S_len_g (v785 : Nat) (v786 : Int) : Option (Int) := (laws_szFloat32S_len_T v785 v786).run
def laws_szFloat32S_len_enc (v785 : Nat) (v786 : Int) (y : Int) : Rs := (.int .i64 y, [])
theorem laws_szFloat32S_len_den (v785 : Nat) (v786 : Int) : (den TT (tabD laws_szFloat32S_len_tab) (tabM laws_szFloat32S_len_tab) (laws_szFloat32S_len_LO v785 v786) (codeOf Try.f64) ([.hslc (BR.root 0) v785, .int .i64 v786] ++ List.replicate (Try.f64.ntmps - ([.hslc (BR.root 0) v785, .int .i64 v786] : List DV).length) .undef) []).bind (retD TT Try.f64.results.toList 0) = (laws_szFloat32S_len_T v785 v786).bind fun y => .leaf (laws_szFloat32S_len_enc v785 v786 y) := by kernel_rfl
theorem laws_szFloat32S_len_fn (v785 : Nat) (v786 : Int) (F : Fr) (hm : F.ids.length = 0) (h0 : St F [] F.H0) (hA : DVs.Ok F [] [.hslc (BR.root 0) v785, .int .i64 v786]) {y : Int} (hy : laws_szFloat32S_len_g v785 v786 = some y) : ∃ H', FnOk Try.prog 64 (DVs.av F [.hslc (BR.root 0) v785, .int .i64 v786]) F.H0 ((laws_szFloat32S_len_enc v785 v786 y).1.av F) H' ∧ St F (laws_szFloat32S_len_enc v785 v786 y).2 H' ∧ (laws_szFloat32S_len_enc v785 v786 y).1.Ok F (laws_szFloat32S_len_enc v785 v786 y).2 :=
  fn_fin tok laws_szFloat32S_len_hO mixed Try.func64 Try.call64 (by kernel_rfl) (LoopsOk_eq (l := []) (by kernel_rfl) trivial) (laws_szFloat32S_len_den v785 v786) hy hm h0 hA
def laws_szFloat32S_len_v (v785 : Nat) (v786 : Int) : Int :=
  if (decide (IntKind.i64.wrap (v786 - ((v785 : Nat) : Int)) < (0 : Int))) = true then (
   (-1 : Int)
  ) else (
   IntKind.i64.wrap (v786 - ((v785 : Nat) : Int))
  )
theorem laws_szFloat32S_len_tot (v785 : Nat) (v786 : Int) : laws_szFloat32S_len_g v785 v786 = some (laws_szFloat32S_len_v v785 v786) := by
  unfold laws_szFloat32S_len_g laws_szFloat32S_len_T laws_szFloat32S_len_v
  simp only [Tree.run]
  repeat' (first | rfl | split)
noncomputable def laws_szFloat32S_len_F : DFn := fun args L =>
  match args with
  | [a1, .int .i64 v786] =>
    optT (lenV L a1) fun v785 =>
    .leaf (.int .i64 (laws_szFloat32S_len_v v785 v786), L)
  | _ => .fail
theorem laws_szFloat32S_len_Fok : COk Try.prog 64 laws_szFloat32S_len_F true := by
  intro F L H args r L' hs ha hr
  unfold laws_szFloat32S_len_F at hr
  split at hr
  · rename_i a1 v786
    obtain ⟨v785, hv785, hr⟩ := optT_run hr
    have hy := laws_szFloat32S_len_tot v785 v786
    generalize laws_szFloat32S_len_v v785 v786 = y at hy hr
    simp only [Tree.run, Option.some.injEq, Prod.mk.injEq] at hr
    obtain ⟨rfl, rfl⟩ := hr
    exact call_ok0 hs (fun k => (([a1.av F] : List AV)[k]?).getD .top) [a1, .int .i64 v786] [.hslc (BR.root 0) v785, .int .i64 v786] (fun F' h0 hi hρ => ⟨by simp [DVs.av, DV.av, BR.av, hρ], laws_szFloat32S_len_fn v785 v786 F' (by rw [hi]; rfl) (st_nil hi) ⟨hslc_ok hi (by rw [h0, hρ]; exact lenV_ok hs (DVs.okAt ha 0 rfl) hv785), trivial, trivial⟩ hy⟩) rfl
  · cases hr
/-! laws.szMatrix -/
noncomputable def laws_szMatrix_len_LO (v781 : Int) (v782 : Int) (v783 : Nat) (v784 : Int) : LOr := fun id e L =>
  match id with
  | _ => .fail
noncomputable def laws_szMatrix_len_tab : List (FuncId × DFn × Bool) := [(64, laws_szFloat32S_len_F, true)]
theorem laws_szMatrix_len_hO : OrcOk Try.prog (tabD laws_szMatrix_len_tab) (tabM laws_szMatrix_len_tab) := tabD_cons laws_szFloat32S_len_Fok (tabD_nil _)
noncomputable def laws_szMatrix_len_T (v783 : Nat) (v784 : Int) : Tree (Int) :=
  (.br (decide ((laws_szFloat32S_len_v v783 v784) < (0 : Int))) (
   .leaf (-1 : Int)
  ) (
   .leaf (laws_szFloat32S_len_v v783 v784)
  ))

noncomputable def laws_szMatrix_len_g (v783 : Nat) (v784 : Int) : Option (Int) := (laws_szMatrix_len_T v783 v784).run
def laws_szMatrix_len_enc (v781 : Int) (v782 : Int) (v783 : Nat) (v784 : Int) (y : Int) : Rs := (.int .i64 y, [])
theorem laws_szMatrix_len_den (v781 : Int) (v782 : Int) (v783 : Nat) (v784 : Int) : (den TT (tabD laws_szMatrix_len_tab) (tabM laws_szMatrix_len_tab) (laws_szMatrix_len_LO v781 v782 v783 v784) (codeOf Try.f29) ([.agg [.int .i64 v781, .int .i64 v782, .hslc (BR.root 0) v783], .int .i64 v784] ++ List.replicate (Try.f29.ntmps - ([.agg [.int .i64 v781, .int .i64 v782, .hslc (BR.root 0) v783], .int .i64 v784] : List DV).length) .undef) []).bind (retD TT Try.f29.results.toList 0) = (laws_szMatrix_len_T v783 v784).bind fun y => .leaf (laws_szMatrix_len_enc v781 v782 v783 v784 y) := by kernel_rfl
theorem laws_szMatrix_len_fn (v781 : Int) (v782 : Int) (v783 : Nat) (v784 : Int) (F : Fr) (hm : F.ids.length = 0) (h0 : St F [] F.H0) (hA : DVs.Ok F [] [.agg [.int .i64 v781, .int .i64 v782, .hslc (BR.root 0) v783], .int .i64 v784]) {y : Int} (hy : laws_szMatrix_len_g v783 v784 = some y) : ∃ H', FnOk Try.prog 29 (DVs.av F [.agg [.int .i64 v781, .int .i64 v782, .hslc (BR.root 0) v783], .int .i64 v784]) F.H0 ((laws_szMatrix_len_enc v781 v782 v783 v784 y).1.av F) H' ∧ St F (laws_szMatrix_len_enc v781 v782 v783 v784 y).2 H' ∧ (laws_szMatrix_len_enc v781 v782 v783 v784 y).1.Ok F (laws_szMatrix_len_enc v781 v782 v783 v784 y).2 :=
  fn_fin tok laws_szMatrix_len_hO mixed Try.func29 Try.call29 (by kernel_rfl) (LoopsOk_eq (l := []) (by kernel_rfl) trivial) (laws_szMatrix_len_den v781 v782 v783 v784) hy hm h0 hA
def laws_szMatrix_len_v (v783 : Nat) (v784 : Int) : Int :=
  if (decide ((laws_szFloat32S_len_v v783 v784) < (0 : Int))) = true then (
   (-1 : Int)
  ) else (
   (laws_szFloat32S_len_v v783 v784)
  )
theorem laws_szMatrix_len_tot (v783 : Nat) (v784 : Int) : laws_szMatrix_len_g v783 v784 = some (laws_szMatrix_len_v v783 v784) := by
  unfold laws_szMatrix_len_g laws_szMatrix_len_T laws_szMatrix_len_v
  simp only [Tree.run]
  repeat' (first | rfl | split)
noncomputable def laws_szMatrix_len_F : DFn := fun args L =>
  match args with
  | [.agg [.int .i64 v781, .int .i64 v782, a1], .int .i64 v784] =>
    optT (lenV L a1) fun v783 =>
    .leaf (.int .i64 (laws_szMatrix_len_v v783 v784), L)
  | _ => .fail
theorem laws_szMatrix_len_Fok : COk Try.prog 29 laws_szMatrix_len_F true := by
  intro F L H args r L' hs ha hr
  unfold laws_szMatrix_len_F at hr
  split at hr
  · rename_i v781 v782 a1 v784
    obtain ⟨v783, hv783, hr⟩ := optT_run hr
    have hy := laws_szMatrix_len_tot v783 v784
    generalize laws_szMatrix_len_v v783 v784 = y at hy hr
    simp only [Tree.run, Option.some.injEq, Prod.mk.injEq] at hr
    obtain ⟨rfl, rfl⟩ := hr
    exact call_ok0 hs (fun k => (([a1.av F] : List AV)[k]?).getD .top) [.agg [.int .i64 v781, .int .i64 v782, a1], .int .i64 v784] [.agg [.int .i64 v781, .int .i64 v782, .hslc (BR.root 0) v783], .int .i64 v784] (fun F' h0 hi hρ => ⟨by simp [DVs.av, DV.av, BR.av, hρ], laws_szMatrix_len_fn v781 v782 v783 v784 F' (by rw [hi]; rfl) (st_nil hi) ⟨⟨trivial, trivial, hslc_ok hi (by rw [h0, hρ]; exact lenV_ok hs (DVs.okAt (DVs.okAt ha 0 rfl) 2 rfl) hv783), trivial⟩, trivial, trivial⟩ hy⟩) rfl
  · cases hr
/-! laws.szInt64S -/
noncomputable def laws_szInt64S_len_LO (v787 : Nat) (v788 : Int) : LOr := fun id e L =>
  match id with
  | _ => .fail
noncomputable def laws_szInt64S_len_tab : List (FuncId × DFn × Bool) := []
theorem laws_szInt64S_len_hO : OrcOk Try.prog (tabD laws_szInt64S_len_tab) (tabM laws_szInt64S_len_tab) := tabD_nil _
noncomputable def laws_szInt64S_len_T (v787 : Nat) (v788 : Int) : Tree (Int) :=
  (.br (decide (IntKind.i64.wrap (v788 - ((v787 : Nat) : Int)) < (0 : Int))) (
   .leaf (-1 : Int)
  ) (
   .leaf (IntKind.i64.wrap (v788 - ((v787 : Nat) : Int)))
  ))

noncomputable def laws_szInt64S_len_g (v787 : Nat) (v788 : Int) : Option (Int) := (laws_szInt64S_len_T v787 v788).run
def laws_szInt64S_len_enc (v787 : Nat) (v788 : Int) (y : Int) : Rs := (.int .i64 y, [])
theorem laws_szInt64S_len_den (v787 : Nat) (v788 : Int) : (den TT (tabD laws_szInt64S_len_tab) (tabM laws_szInt64S_len_tab) (laws_szInt64S_len_LO v787 v788) (codeOf Try.f63) ([.hslc (BR.root 0) v787, .int .i64 v788] ++ List.replicate (Try.f63.ntmps - ([.hslc (BR.root 0) v787, .int .i64 v788] : List DV).length) .undef) []).bind (retD TT Try.f63.results.toList 0) = (laws_szInt64S_len_T v787 v788).bind fun y => .leaf (laws_szInt64S_len_enc v787 v788 y) := by kernel_rfl
theorem laws_szInt64S_len_fn (v787 : Nat) (v788 : Int) (F : Fr) (hm : F.ids.length = 0) (h0 : St F [] F.H0) (hA : DVs.Ok F [] [.hslc (BR.root 0) v787, .int .i64 v788]) {y : Int} (hy : laws_szInt64S_len_g v787 v788 = some y) : ∃ H', FnOk Try.prog 63 (DVs.av F [.hslc (BR.root 0) v787, .int .i64 v788]) F.H0 ((laws_szInt64S_len_enc v787 v788 y).1.av F) H' ∧ St F (laws_szInt64S_len_enc v787 v788 y).2 H' ∧ (laws_szInt64S_len_enc v787 v788 y).1.Ok F (laws_szInt64S_len_enc v787 v788 y).2 :=
  fn_fin tok laws_szInt64S_len_hO mixed Try.func63 Try.call63 (by kernel_rfl) (LoopsOk_eq (l := []) (by kernel_rfl) trivial) (laws_szInt64S_len_den v787 v788) hy hm h0 hA
def laws_szInt64S_len_v (v787 : Nat) (v788 : Int) : Int :=
  if (decide (IntKind.i64.wrap (v788 - ((v787 : Nat) : Int)) < (0 : Int))) = true then (
   (-1 : Int)
  ) else (
   IntKind.i64.wrap (v788 - ((v787 : Nat) : Int))
  )
theorem laws_szInt64S_len_tot (v787 : Nat) (v788 : Int) : laws_szInt64S_len_g v787 v788 = some (laws_szInt64S_len_v v787 v788) := by
  unfold laws_szInt64S_len_g laws_szInt64S_len_T laws_szInt64S_len_v
  simp only [Tree.run]
  repeat' (first | rfl | split)
noncomputable def laws_szInt64S_len_F : DFn := fun args L =>
  match args with
  | [a1, .int .i64 v788] =>
    optT (lenV L a1) fun v787 =>
    .leaf (.int .i64 (laws_szInt64S_len_v v787 v788), L)
  | _ => .fail
theorem laws_szInt64S_len_Fok : COk Try.prog 63 laws_szInt64S_len_F true := by
  intro F L H args r L' hs ha hr
  unfold laws_szInt64S_len_F at hr
  split at hr
  · rename_i a1 v788
    obtain ⟨v787, hv787, hr⟩ := optT_run hr
    have hy := laws_szInt64S_len_tot v787 v788
    generalize laws_szInt64S_len_v v787 v788 = y at hy hr
    simp only [Tree.run, Option.some.injEq, Prod.mk.injEq] at hr
    obtain ⟨rfl, rfl⟩ := hr
    exact call_ok0 hs (fun k => (([a1.av F] : List AV)[k]?).getD .top) [a1, .int .i64 v788] [.hslc (BR.root 0) v787, .int .i64 v788] (fun F' h0 hi hρ => ⟨by simp [DVs.av, DV.av, BR.av, hρ], laws_szInt64S_len_fn v787 v788 F' (by rw [hi]; rfl) (st_nil hi) ⟨hslc_ok hi (by rw [h0, hρ]; exact lenV_ok hs (DVs.okAt ha 0 rfl) hv787), trivial, trivial⟩ hy⟩) rfl
  · cases hr
/-! laws.szFactor -/
noncomputable def laws_szFactor_len_LO (v776 : Int) (v777 : Int) (v778 : Nat) (v779 : Nat) (v780 : Int) : LOr := fun id e L =>
  match id with
  | _ => .fail
noncomputable def laws_szFactor_len_tab : List (FuncId × DFn × Bool) := [(29, laws_szMatrix_len_F, true), (63, laws_szInt64S_len_F, true)]
theorem laws_szFactor_len_hO : OrcOk Try.prog (tabD laws_szFactor_len_tab) (tabM laws_szFactor_len_tab) := tabD_cons laws_szMatrix_len_Fok (tabD_cons laws_szInt64S_len_Fok (tabD_nil _))
noncomputable def laws_szFactor_len_T (v778 : Nat) (v779 : Nat) (v780 : Int) : Tree (Int) :=
  (.br (decide ((laws_szMatrix_len_v v778 v780) < (0 : Int))) (
   .leaf (-1 : Int)
  ) (
   (.br (decide ((laws_szInt64S_len_v v779 (laws_szMatrix_len_v v778 v780)) < (0 : Int))) (
    .leaf (-1 : Int)
   ) (
    .leaf (laws_szInt64S_len_v v779 (laws_szMatrix_len_v v778 v780))
   ))
  ))

noncomputable def laws_szFactor_len_g (v778 : Nat) (v779 : Nat) (v780 : Int) : Option (Int) := (laws_szFactor_len_T v778 v779 v780).run
def laws_szFactor_len_enc (v776 : Int) (v777 : Int) (v778 : Nat) (v779 : Nat) (v780 : Int) (y : Int) : Rs := (.int .i64 y, [])
theorem laws_szFactor_len_den (v776 : Int) (v777 : Int) (v778 : Nat) (v779 : Nat) (v780 : Int) : (den TT (tabD laws_szFactor_len_tab) (tabM laws_szFactor_len_tab) (laws_szFactor_len_LO v776 v777 v778 v779 v780) (codeOf Try.f46) ([.agg [.int .i64 v776, .int .i64 v777, .hslc (BR.root 0) v778, .hslc (BR.root 1) v779], .int .i64 v780] ++ List.replicate (Try.f46.ntmps - ([.agg [.int .i64 v776, .int .i64 v777, .hslc (BR.root 0) v778, .hslc (BR.root 1) v779], .int .i64 v780] : List DV).length) .undef) []).bind (retD TT Try.f46.results.toList 0) = (laws_szFactor_len_T v778 v779 v780).bind fun y => .leaf (laws_szFactor_len_enc v776 v777 v778 v779 v780 y) := by kernel_rfl
theorem laws_szFactor_len_fn (v776 : Int) (v777 : Int) (v778 : Nat) (v779 : Nat) (v780 : Int) (F : Fr) (hm : F.ids.length = 0) (h0 : St F [] F.H0) (hA : DVs.Ok F [] [.agg [.int .i64 v776, .int .i64 v777, .hslc (BR.root 0) v778, .hslc (BR.root 1) v779], .int .i64 v780]) {y : Int} (hy : laws_szFactor_len_g v778 v779 v780 = some y) : ∃ H', FnOk Try.prog 46 (DVs.av F [.agg [.int .i64 v776, .int .i64 v777, .hslc (BR.root 0) v778, .hslc (BR.root 1) v779], .int .i64 v780]) F.H0 ((laws_szFactor_len_enc v776 v777 v778 v779 v780 y).1.av F) H' ∧ St F (laws_szFactor_len_enc v776 v777 v778 v779 v780 y).2 H' ∧ (laws_szFactor_len_enc v776 v777 v778 v779 v780 y).1.Ok F (laws_szFactor_len_enc v776 v777 v778 v779 v780 y).2 :=
  fn_fin tok laws_szFactor_len_hO mixed Try.func46 Try.call46 (by kernel_rfl) (LoopsOk_eq (l := []) (by kernel_rfl) trivial) (laws_szFactor_len_den v776 v777 v778 v779 v780) hy hm h0 hA
def laws_szFactor_len_v (v778 : Nat) (v779 : Nat) (v780 : Int) : Int :=
  if (decide ((laws_szMatrix_len_v v778 v780) < (0 : Int))) = true then (
   (-1 : Int)
  ) else (
   if (decide ((laws_szInt64S_len_v v779 (laws_szMatrix_len_v v778 v780)) < (0 : Int))) = true then (
    (-1 : Int)
   ) else (
    (laws_szInt64S_len_v v779 (laws_szMatrix_len_v v778 v780))
   )
  )
theorem laws_szFactor_len_tot (v778 : Nat) (v779 : Nat) (v780 : Int) : laws_szFactor_len_g v778 v779 v780 = some (laws_szFactor_len_v v778 v779 v780) := by
  unfold laws_szFactor_len_g laws_szFactor_len_T laws_szFactor_len_v
  simp only [Tree.run]
  repeat' (first | rfl | split)
noncomputable def laws_szFactor_len_F : DFn := fun args L =>
  match args with
  | [.agg [.int .i64 v776, .int .i64 v777, a1, a2], .int .i64 v780] =>
    optT (lenV L a1) fun v778 =>
    optT (lenV L a2) fun v779 =>
    .leaf (.int .i64 (laws_szFactor_len_v v778 v779 v780), L)
  | _ => .fail
theorem laws_szFactor_len_Fok : COk Try.prog 46 laws_szFactor_len_F true := by
  intro F L H args r L' hs ha hr
  unfold laws_szFactor_len_F at hr
  split at hr
  · rename_i v776 v777 a1 a2 v780
    obtain ⟨v778, hv778, hr⟩ := optT_run hr
    obtain ⟨v779, hv779, hr⟩ := optT_run hr
    have hy := laws_szFactor_len_tot v778 v779 v780
    generalize laws_szFactor_len_v v778 v779 v780 = y at hy hr
    simp only [Tree.run, Option.some.injEq, Prod.mk.injEq] at hr
    obtain ⟨rfl, rfl⟩ := hr
    exact call_ok0 hs (fun k => (([a1.av F, a2.av F] : List AV)[k]?).getD .top) [.agg [.int .i64 v776, .int .i64 v777, a1, a2], .int .i64 v780] [.agg [.int .i64 v776, .int .i64 v777, .hslc (BR.root 0) v778, .hslc (BR.root 1) v779], .int .i64 v780] (fun F' h0 hi hρ => ⟨by simp [DVs.av, DV.av, BR.av, hρ], laws_szFactor_len_fn v776 v777 v778 v779 v780 F' (by rw [hi]; rfl) (st_nil hi) ⟨⟨trivial, trivial, hslc_ok hi (by rw [h0, hρ]; exact lenV_ok hs (DVs.okAt (DVs.okAt ha 0 rfl) 2 rfl) hv778), hslc_ok hi (by rw [h0, hρ]; exact lenV_ok hs (DVs.okAt (DVs.okAt ha 0 rfl) 3 rfl) hv779), trivial⟩, trivial, trivial⟩ hy⟩) rfl
  · cases hr
/-! laws.FnExactFactorInverse -/
noncomputable def laws_FnExactFactorInverse_len_LO (v772 : Int) (v773 : Int) (v774 : Nat) (v775 : Nat) : LOr := fun id e L =>
  match id with
  | _ => .fail
noncomputable def laws_FnExactFactorInverse_len_tab : List (FuncId × DFn × Bool) := [(46, laws_szFactor_len_F, true)]
theorem laws_FnExactFactorInverse_len_hO : OrcOk Try.prog (tabD laws_FnExactFactorInverse_len_tab) (tabM laws_FnExactFactorInverse_len_tab) := tabD_cons laws_szFactor_len_Fok (tabD_nil _)
noncomputable def laws_FnExactFactorInverse_len_T (v774 : Nat) (v775 : Nat) : Tree (Bool) :=
  (.br (decide ((laws_szFactor_len_v v774 v775 (1048576 : Int)) < (0 : Int))) (
   .leaf true
  ) (
   .fail
  ))

noncomputable def laws_FnExactFactorInverse_len_g (v774 : Nat) (v775 : Nat) : Option (Bool) := (laws_FnExactFactorInverse_len_T v774 v775).run
def laws_FnExactFactorInverse_len_enc (v772 : Int) (v773 : Int) (v774 : Nat) (v775 : Nat) (y : Bool) : Rs := (.bool y, [])
theorem laws_FnExactFactorInverse_len_den (v772 : Int) (v773 : Int) (v774 : Nat) (v775 : Nat) : (den TT (tabD laws_FnExactFactorInverse_len_tab) (tabM laws_FnExactFactorInverse_len_tab) (laws_FnExactFactorInverse_len_LO v772 v773 v774 v775) (codeOf Try.f14) ([.agg [.int .i64 v772, .int .i64 v773, .hslc (BR.root 0) v774, .hslc (BR.root 1) v775]] ++ List.replicate (Try.f14.ntmps - ([.agg [.int .i64 v772, .int .i64 v773, .hslc (BR.root 0) v774, .hslc (BR.root 1) v775]] : List DV).length) .undef) []).bind (retD TT Try.f14.results.toList 0) = (laws_FnExactFactorInverse_len_T v774 v775).bind fun y => .leaf (laws_FnExactFactorInverse_len_enc v772 v773 v774 v775 y) := by kernel_rfl
theorem laws_FnExactFactorInverse_len_fn (v772 : Int) (v773 : Int) (v774 : Nat) (v775 : Nat) (F : Fr) (hm : F.ids.length = 0) (h0 : St F [] F.H0) (hA : DVs.Ok F [] [.agg [.int .i64 v772, .int .i64 v773, .hslc (BR.root 0) v774, .hslc (BR.root 1) v775]]) {y : Bool} (hy : laws_FnExactFactorInverse_len_g v774 v775 = some y) : ∃ H', FnOk Try.prog 14 (DVs.av F [.agg [.int .i64 v772, .int .i64 v773, .hslc (BR.root 0) v774, .hslc (BR.root 1) v775]]) F.H0 ((laws_FnExactFactorInverse_len_enc v772 v773 v774 v775 y).1.av F) H' ∧ St F (laws_FnExactFactorInverse_len_enc v772 v773 v774 v775 y).2 H' ∧ (laws_FnExactFactorInverse_len_enc v772 v773 v774 v775 y).1.Ok F (laws_FnExactFactorInverse_len_enc v772 v773 v774 v775 y).2 :=
  fn_fin tok laws_FnExactFactorInverse_len_hO mixed Try.func14 Try.call14 (by kernel_rfl) (LoopsOk_eq (l := []) (by kernel_rfl) trivial) (laws_FnExactFactorInverse_len_den v772 v773 v774 v775) hy hm h0 hA
noncomputable def laws_FnExactFactorInverse_len_F : DFn := fun args L =>
  match args with
  | [.agg [.int .i64 v772, .int .i64 v773, a1, a2]] =>
    optT (lenV L a1) fun v774 =>
    optT (lenV L a2) fun v775 =>
    .call (laws_FnExactFactorInverse_len_g v774 v775) fun y => .leaf (.bool y, L)
  | _ => .fail
theorem laws_FnExactFactorInverse_len_Fok : COk Try.prog 14 laws_FnExactFactorInverse_len_F true := by
  intro F L H args r L' hs ha hr
  unfold laws_FnExactFactorInverse_len_F at hr
  split at hr
  · rename_i v772 v773 a1 a2
    obtain ⟨v774, hv774, hr⟩ := optT_run hr
    obtain ⟨v775, hv775, hr⟩ := optT_run hr
    simp only [Tree.run] at hr
    obtain ⟨y, hy, hr⟩ := Option.bind_eq_some_iff.1 hr
    simp only [Tree.run, Option.some.injEq, Prod.mk.injEq] at hr
    obtain ⟨rfl, rfl⟩ := hr
    exact call_ok0 hs (fun k => (([a1.av F, a2.av F] : List AV)[k]?).getD .top) [.agg [.int .i64 v772, .int .i64 v773, a1, a2]] [.agg [.int .i64 v772, .int .i64 v773, .hslc (BR.root 0) v774, .hslc (BR.root 1) v775]] (fun F' h0 hi hρ => ⟨by simp [DVs.av, DV.av, BR.av, hρ], laws_FnExactFactorInverse_len_fn v772 v773 v774 v775 F' (by rw [hi]; rfl) (st_nil hi) ⟨⟨trivial, trivial, hslc_ok hi (by rw [h0, hρ]; exact lenV_ok hs (DVs.okAt (DVs.okAt ha 0 rfl) 2 rfl) hv774), hslc_ok hi (by rw [h0, hρ]; exact lenV_ok hs (DVs.okAt (DVs.okAt ha 0 rfl) 3 rfl) hv775), trivial⟩, trivial⟩ hy⟩) rfl
  · cases hr
end Go.Proofs.Ytjadfgeemfdbmaa.AM
