/- Functions: what they come to. -/
import Derived.Test.YtbjnjaclmcpbbaaX0
set_option maxRecDepth 100000
set_option maxHeartbeats 4000000
set_option linter.unusedSimpArgs false
set_option linter.unusedVariables false
namespace Go.Proofs.Ytbjnjaclmcpbbaa.AM
open Go.Proofs
/-! (impl.Whole).minor -/
noncomputable def impl_Whole_minor_i2_l0_T (v403 : Int) (v404 : Int) (v405 : List Int) (v406 : List Int) (v407 : List Int) (s : Int × Int × Int) : Tree ((Int × Int × Int) ⊕ (Int)) :=
  (.br (decide (s.2.2 < ((v407.length : Nat) : Int))) (
   (.grd (inb s.2.2 v407.length) <|
   (.grd (inb (0 : Int) v406.length) <|
   (.call (impl_Whole_at_g v404 v405 (nth v406 (Int.toNat (0 : Int))) (nth v407 (Int.toNat s.2.2))) fun v459 =>
   (.br (!decide (v459 = (0 : Int))) (
    (.grd (sok (1 : Int) ((v406.length : Nat) : Int) v406.length) <|
    (.call (slices_CloneI_g v407) fun v460 =>
    (.call (slices_DeleteI_g (([] : List Int) ++ v407) s.2.2 (IntKind.i64.wrap (s.2.2 + (1 : Int)))) fun v461 =>
    (.sum v461 (fun v462 =>
     (.grd (decide ((([] : List Int) ++ v407).length = (([] : List Int) ++ v407).length)) <|
     (.call (impl_Whole_minor_i3_g v403 v404 v405 (AM.sub v406 (1 : Int) ((v406.length : Nat) : Int)) (([] : List Int) ++ v407)) fun v464 =>
     .leaf (.inl (IntKind.i64.wrap (s.1 + (IntKind.i64.wrap ((IntKind.i64.wrap (s.2.1 * v459)) * v464))), IntKind.i64.wrap (0 - s.2.1), IntKind.i64.wrap (s.2.2 + (1 : Int))))))
    ) (fun v463 =>
     (.grd (decide ((overL (overL (([] : List Int) ++ v407) ((Int.toNat (0 : Int)) + (Int.toNat s.2.2 - Int.toNat (0 : Int))) (AM.sub (([] : List Int) ++ v407) ((Int.toNat (IntKind.i64.wrap (s.2.2 + (1 : Int))) : Nat) : Int) (((Int.toNat (IntKind.i64.wrap (s.2.2 + (1 : Int)))) + (Int.toNat (((([] : List Int) ++ v407).length : Nat) : Int) - Int.toNat (IntKind.i64.wrap (s.2.2 + (1 : Int)))) : Nat) : Int))) ((Int.toNat (0 : Int)) + Int.toNat (((Int.toNat s.2.2 - Int.toNat (0 : Int)) + (AM.sub (([] : List Int) ++ v407) ((Int.toNat (IntKind.i64.wrap (s.2.2 + (1 : Int))) : Nat) : Int) (((Int.toNat (IntKind.i64.wrap (s.2.2 + (1 : Int)))) + (Int.toNat (((([] : List Int) ++ v407).length : Nat) : Int) - Int.toNat (IntKind.i64.wrap (s.2.2 + (1 : Int)))) : Nat) : Int)).length : Nat) : Int)) (List.replicate (Int.toNat (((([] : List Int) ++ v407).length : Nat) : Int) - Int.toNat (((Int.toNat s.2.2 - Int.toNat (0 : Int)) + (AM.sub (([] : List Int) ++ v407) ((Int.toNat (IntKind.i64.wrap (s.2.2 + (1 : Int))) : Nat) : Int) (((Int.toNat (IntKind.i64.wrap (s.2.2 + (1 : Int)))) + (Int.toNat (((([] : List Int) ++ v407).length : Nat) : Int) - Int.toNat (IntKind.i64.wrap (s.2.2 + (1 : Int)))) : Nat) : Int)).length : Nat) : Int)) (0 : Int))).length = (([] : List Int) ++ v407).length)) <|
     (.call (impl_Whole_minor_i3_g v403 v404 v405 (AM.sub v406 (1 : Int) ((v406.length : Nat) : Int)) (AM.sub (overL (overL (([] : List Int) ++ v407) ((Int.toNat (0 : Int)) + (Int.toNat s.2.2 - Int.toNat (0 : Int))) (AM.sub (([] : List Int) ++ v407) ((Int.toNat (IntKind.i64.wrap (s.2.2 + (1 : Int))) : Nat) : Int) (((Int.toNat (IntKind.i64.wrap (s.2.2 + (1 : Int)))) + (Int.toNat (((([] : List Int) ++ v407).length : Nat) : Int) - Int.toNat (IntKind.i64.wrap (s.2.2 + (1 : Int)))) : Nat) : Int))) ((Int.toNat (0 : Int)) + Int.toNat (((Int.toNat s.2.2 - Int.toNat (0 : Int)) + (AM.sub (([] : List Int) ++ v407) ((Int.toNat (IntKind.i64.wrap (s.2.2 + (1 : Int))) : Nat) : Int) (((Int.toNat (IntKind.i64.wrap (s.2.2 + (1 : Int)))) + (Int.toNat (((([] : List Int) ++ v407).length : Nat) : Int) - Int.toNat (IntKind.i64.wrap (s.2.2 + (1 : Int)))) : Nat) : Int)).length : Nat) : Int)) (List.replicate (Int.toNat (((([] : List Int) ++ v407).length : Nat) : Int) - Int.toNat (((Int.toNat s.2.2 - Int.toNat (0 : Int)) + (AM.sub (([] : List Int) ++ v407) ((Int.toNat (IntKind.i64.wrap (s.2.2 + (1 : Int))) : Nat) : Int) (((Int.toNat (IntKind.i64.wrap (s.2.2 + (1 : Int)))) + (Int.toNat (((([] : List Int) ++ v407).length : Nat) : Int) - Int.toNat (IntKind.i64.wrap (s.2.2 + (1 : Int)))) : Nat) : Int)).length : Nat) : Int)) (0 : Int))) ((v463.1 : Nat) : Int) ((v463.1 + v463.2 : Nat) : Int))) fun v465 =>
     .leaf (.inl (IntKind.i64.wrap (s.1 + (IntKind.i64.wrap ((IntKind.i64.wrap (s.2.1 * v459)) * v465))), IntKind.i64.wrap (0 - s.2.1), IntKind.i64.wrap (s.2.2 + (1 : Int))))))
    )))))
   ) (
    .leaf (.inl (s.1, IntKind.i64.wrap (0 - s.2.1), IntKind.i64.wrap (s.2.2 + (1 : Int))))
   )))))
  ) (
   .leaf (.inr s.1)
  ))

noncomputable def impl_Whole_minor_i2_l0_g (v403 : Int) (v404 : Int) (v405 : List Int) (v406 : List Int) (v407 : List Int) (s0 : Int × Int × Int) : Option (Int) := whileM (fun s => (impl_Whole_minor_i2_l0_T v403 v404 v405 v406 v407 s).run) s0
def impl_Whole_minor_i2_l0_E (v403 : Int) (v404 : Int) (v405 : List Int) (v406 : List Int) (v407 : List Int) (s : Int × Int × Int) : Sd := ([.top, .bslc (BR.root 1) (.i64 v406), .bslc (BR.root 2) (.i64 v407), .ptr 0 (0 : Nat) 0 (3 : Nat), .top, .top, .top, .int .i64 s.1, .int .i64 s.2.1, .top, .top, .top, .top, .top, .top, .bslc (BR.root 2) (.i64 v407), .int .i64 ((v407.length : Nat) : Int), .int .i64 s.2.2, .top, .top, .top, .top, .top, .top, .top, .top, .top, .top, .top, .top, .top, .top, .top, .top, .top, .top, .top, .top, .top, .top, .top, .top, .top, .top, .top, .top, .top, .top, .top, .top], [.gen [.int .i64 v403, .int .i64 v404, .bslc (BR.root 0) (.i64 v405)] false 0])
def impl_Whole_minor_i2_l0_X (v403 : Int) (v404 : Int) (v405 : List Int) (v406 : List Int) (v407 : List Int) (x : Int) : Out := (.normal, [.top, .top, .top, .top, .top, .top, .top, .int .i64 x, .top, .top, .top, .top, .top, .top, .top, .top, .top, .top, .top, .top, .top, .top, .top, .top, .top, .top, .top, .top, .top, .top, .top, .top, .top, .top, .top, .top, .top, .top, .top, .top, .top, .top, .top, .top, .top, .top, .top, .top, .top, .top], [])
def impl_Whole_minor_i2_l0_kill : List Nat := [1, 0, 0, 0, 1, 1, 1, 0, 0, 1, 1, 1, 1, 1, 1, 0, 0, 0, 1, 1, 1, 1, 1, 1, 1, 1, 1, 1, 1, 1, 1, 1, 1, 1, 1, 1, 1, 1, 1, 1, 1, 1, 1, 1, 1, 1, 1, 1, 1, 1]
def impl_Whole_minor_i2_l0_nx : Exit → List Nat
  | .exit 0 => [1, 1, 1, 1, 1, 1, 1, 0, 1, 1, 1, 1, 1, 1, 1, 1, 1, 1, 1, 1, 1, 1, 1, 1, 1, 1, 1, 1, 1, 1, 1, 1, 1, 1, 1, 1, 1, 1, 1, 1, 1, 1, 1, 1, 1, 1, 1, 1, 1, 1]
  | .ret => [1, 1, 1, 1, 1, 1, 0, 1, 1, 1, 1, 1, 1, 1, 1, 1, 1, 1, 1, 1, 1, 1, 1, 1, 1, 1, 1, 1, 1, 1, 1, 1, 1, 1, 1, 1, 1, 1, 1, 1, 1, 1, 1, 1, 1, 1, 1, 1, 1, 1]
  | _ => []
noncomputable def impl_Whole_minor_i2_LO (v403 : Int) (v404 : Int) (v405 : List Int) (v406 : List Int) (v407 : List Int) : LOr := fun id e L =>
  match id with
  | 0 => .need (normA 0 impl_Whole_minor_i2_l0_kill e L = some (impl_Whole_minor_i2_l0_E v403 v404 v405 v406 v407 ((gI (vAt e 7)), (gI (vAt e 8)), (gI (vAt e 17))))) (.call (impl_Whole_minor_i2_l0_g v403 v404 v405 v406 v407 ((gI (vAt e 7)), (gI (vAt e 8)), (gI (vAt e 17)))) fun x => .leaf (impl_Whole_minor_i2_l0_X v403 v404 v405 v406 v407 x))
  | _ => .fail
noncomputable def impl_Whole_minor_i2_tab : List (FuncId × DFn × Bool) := [(114, impl_Whole_at_F, true), (99, slices_CloneI_F, true), (142, slices_DeleteI_F, false), (81, impl_Whole_minor_i3_F, true)]
theorem impl_Whole_minor_i2_hO : OrcOk Try.prog (tabD impl_Whole_minor_i2_tab) (tabM impl_Whole_minor_i2_tab) := tabD_cons impl_Whole_at_Fok (tabD_cons slices_CloneI_Fok (tabD_cons slices_DeleteI_Fok (tabD_cons impl_Whole_minor_i3_Fok (tabD_nil _))))
theorem impl_Whole_minor_i2_l0_be (v403 : Int) (v404 : Int) (v405 : List Int) (v406 : List Int) (v407 : List Int) (s : Int × Int × Int) : bodyT TT (tabD impl_Whole_minor_i2_tab) (tabM impl_Whole_minor_i2_tab) (impl_Whole_minor_i2_LO v403 v404 v405 v406 v407) 0 impl_Whole_minor_i2_l0_kill impl_Whole_minor_i2_l0_nx (bodyOf Try.f81 0) 0 (impl_Whole_minor_i2_l0_E v403 v404 v405 v406 v407 s) = (impl_Whole_minor_i2_l0_T v403 v404 v405 v406 v407 s).bind fun y => .leaf (outS (impl_Whole_minor_i2_l0_E v403 v404 v405 v406 v407) (impl_Whole_minor_i2_l0_X v403 v404 v405 v406 v407) y) := by kernel_rfl
theorem impl_Whole_minor_i2_l0_ok (v403 : Int) (v404 : Int) (v405 : List Int) (v406 : List Int) (v407 : List Int) : LSound Try.prog 0 (impl_Whole_minor_i2_LO v403 v404 v405 v406 v407) 0 (bodyOf Try.f81 0) := by
  intro e L out h
  exact lo_ok (E := impl_Whole_minor_i2_l0_E v403 v404 v405 v406 v407) (gT := impl_Whole_minor_i2_l0_T v403 v404 v405 v406 v407) (X := impl_Whole_minor_i2_l0_X v403 v404 v405 v406 v407) (s0 := ((gI (vAt e 7)), (gI (vAt e 8)), (gI (vAt e 17)))) tok impl_Whole_minor_i2_hO mixed (LoopsOk_eq (l := []) (by kernel_rfl) trivial) (impl_Whole_minor_i2_l0_be v403 v404 v405 v406 v407) rfl (by intro x; rfl) h
noncomputable def impl_Whole_minor_i2_T (v403 : Int) (v404 : Int) (v405 : List Int) (v406 : List Int) (v407 : List Int) : Tree (Int) :=
  (.br (decide (((v406.length : Nat) : Int) = (0 : Int))) (
   .leaf (1 : Int)
  ) (
   (.need (some (impl_Whole_minor_i2_l0_E v403 v404 v405 v406 v407 ((0 : Int), (1 : Int), (0 : Int))) = some (impl_Whole_minor_i2_l0_E v403 v404 v405 v406 v407 ((0 : Int), (1 : Int), (0 : Int)))) <|
   (.call (impl_Whole_minor_i2_l0_g v403 v404 v405 v406 v407 ((0 : Int), (1 : Int), (0 : Int))) fun v466 =>
   .leaf v466))
  ))

noncomputable def impl_Whole_minor_i2_g (v403 : Int) (v404 : Int) (v405 : List Int) (v406 : List Int) (v407 : List Int) : Option (Int) := (impl_Whole_minor_i2_T v403 v404 v405 v406 v407).run
def impl_Whole_minor_i2_enc (v403 : Int) (v404 : Int) (v405 : List Int) (v406 : List Int) (v407 : List Int) (y : Int) : Rs := (.int .i64 y, [])
theorem impl_Whole_minor_i2_den (v403 : Int) (v404 : Int) (v405 : List Int) (v406 : List Int) (v407 : List Int) : (den TT (tabD impl_Whole_minor_i2_tab) (tabM impl_Whole_minor_i2_tab) (impl_Whole_minor_i2_LO v403 v404 v405 v406 v407) (codeOf Try.f81) ([.agg [.int .i64 v403, .int .i64 v404, .bslc (BR.root 0) (.i64 v405)], .bslc (BR.root 1) (.i64 v406), .bslc (BR.root 2) (.i64 v407)] ++ List.replicate (Try.f81.ntmps - ([.agg [.int .i64 v403, .int .i64 v404, .bslc (BR.root 0) (.i64 v405)], .bslc (BR.root 1) (.i64 v406), .bslc (BR.root 2) (.i64 v407)] : List DV).length) .undef) []).bind (retD TT Try.f81.results.toList 0) = (impl_Whole_minor_i2_T v403 v404 v405 v406 v407).bind fun y => .leaf (impl_Whole_minor_i2_enc v403 v404 v405 v406 v407 y) := by kernel_rfl
theorem impl_Whole_minor_i2_fn (v403 : Int) (v404 : Int) (v405 : List Int) (v406 : List Int) (v407 : List Int) (F : Fr) (hm : F.ids.length = 0) (h0 : St F [] F.H0) (hA : DVs.Ok F [] [.agg [.int .i64 v403, .int .i64 v404, .bslc (BR.root 0) (.i64 v405)], .bslc (BR.root 1) (.i64 v406), .bslc (BR.root 2) (.i64 v407)]) {y : Int} (hy : impl_Whole_minor_i2_g v403 v404 v405 v406 v407 = some y) : ∃ H', FnOk Try.prog 81 (DVs.av F [.agg [.int .i64 v403, .int .i64 v404, .bslc (BR.root 0) (.i64 v405)], .bslc (BR.root 1) (.i64 v406), .bslc (BR.root 2) (.i64 v407)]) F.H0 ((impl_Whole_minor_i2_enc v403 v404 v405 v406 v407 y).1.av F) H' ∧ St F (impl_Whole_minor_i2_enc v403 v404 v405 v406 v407 y).2 H' ∧ (impl_Whole_minor_i2_enc v403 v404 v405 v406 v407 y).1.Ok F (impl_Whole_minor_i2_enc v403 v404 v405 v406 v407 y).2 :=
  fn_fin tok impl_Whole_minor_i2_hO mixed Try.func81 Try.call81 (by kernel_rfl) (LoopsOk_eq (l := [(0, bodyOf Try.f81 0)]) (by kernel_rfl) ⟨impl_Whole_minor_i2_l0_ok v403 v404 v405 v406 v407, trivial⟩) (impl_Whole_minor_i2_den v403 v404 v405 v406 v407) hy hm h0 hA
noncomputable def impl_Whole_minor_i2_F : DFn := fun args L =>
  match args with
  | [.agg [.int .i64 v403, .int .i64 v404, a1], a2, a3] =>
    optT (rowI64 L a1) fun v405 =>
    optT (rowI64 L a2) fun v406 =>
    optT (rowI64 L a3) fun v407 =>
    .call (impl_Whole_minor_i2_g v403 v404 v405 v406 v407) fun y => .leaf (.int .i64 y, L)
  | _ => .fail
theorem impl_Whole_minor_i2_Fok : COk Try.prog 81 impl_Whole_minor_i2_F true := by
  intro F L H args r L' hs ha hr
  unfold impl_Whole_minor_i2_F at hr
  split at hr
  · rename_i v403 v404 a1 a2 a3
    obtain ⟨v405, hv405, hr⟩ := optT_run hr
    obtain ⟨v406, hv406, hr⟩ := optT_run hr
    obtain ⟨v407, hv407, hr⟩ := optT_run hr
    simp only [Tree.run] at hr
    obtain ⟨y, hy, hr⟩ := Option.bind_eq_some_iff.1 hr
    simp only [Tree.run, Option.some.injEq, Prod.mk.injEq] at hr
    obtain ⟨rfl, rfl⟩ := hr
    exact call_ok0 hs (fun k => (([a1.av F, a2.av F, a3.av F] : List AV)[k]?).getD .top) [.agg [.int .i64 v403, .int .i64 v404, a1], a2, a3] [.agg [.int .i64 v403, .int .i64 v404, .bslc (BR.root 0) (.i64 v405)], .bslc (BR.root 1) (.i64 v406), .bslc (BR.root 2) (.i64 v407)] (fun F' h0 hi hρ => ⟨by simp [DVs.av, DV.av, BR.av, hρ], impl_Whole_minor_i2_fn v403 v404 v405 v406 v407 F' (by rw [hi]; rfl) (st_nil hi) ⟨⟨trivial, trivial, bslc_ok hi (by rw [h0, hρ]; exact rowI64_ok hs (DVs.okAt (DVs.okAt ha 0 rfl) 2 rfl) hv405), trivial⟩, bslc_ok hi (by rw [h0, hρ]; exact rowI64_ok hs (DVs.okAt ha 1 rfl) hv406), bslc_ok hi (by rw [h0, hρ]; exact rowI64_ok hs (DVs.okAt ha 2 rfl) hv407), trivial⟩ hy⟩) rfl
  · cases hr
/-! (impl.Whole).minor -/
noncomputable def impl_Whole_minor_i1_l0_T (v390 : Int) (v391 : Int) (v392 : List Int) (v393 : List Int) (v394 : List Int) (s : Int × Int × Int) : Tree ((Int × Int × Int) ⊕ (Int)) :=
  (.br (decide (s.2.2 < ((v394.length : Nat) : Int))) (
   (.grd (inb s.2.2 v394.length) <|
   (.grd (inb (0 : Int) v393.length) <|
   (.call (impl_Whole_at_g v391 v392 (nth v393 (Int.toNat (0 : Int))) (nth v394 (Int.toNat s.2.2))) fun v482 =>
   (.br (!decide (v482 = (0 : Int))) (
    (.grd (sok (1 : Int) ((v393.length : Nat) : Int) v393.length) <|
    (.call (slices_CloneI_g v394) fun v483 =>
    (.call (slices_DeleteI_g (([] : List Int) ++ v394) s.2.2 (IntKind.i64.wrap (s.2.2 + (1 : Int)))) fun v484 =>
    (.sum v484 (fun v485 =>
     (.grd (decide ((([] : List Int) ++ v394).length = (([] : List Int) ++ v394).length)) <|
     (.call (impl_Whole_minor_i2_g v390 v391 v392 (AM.sub v393 (1 : Int) ((v393.length : Nat) : Int)) (([] : List Int) ++ v394)) fun v487 =>
     .leaf (.inl (IntKind.i64.wrap (s.1 + (IntKind.i64.wrap ((IntKind.i64.wrap (s.2.1 * v482)) * v487))), IntKind.i64.wrap (0 - s.2.1), IntKind.i64.wrap (s.2.2 + (1 : Int))))))
    ) (fun v486 =>
     (.grd (decide ((overL (overL (([] : List Int) ++ v394) ((Int.toNat (0 : Int)) + (Int.toNat s.2.2 - Int.toNat (0 : Int))) (AM.sub (([] : List Int) ++ v394) ((Int.toNat (IntKind.i64.wrap (s.2.2 + (1 : Int))) : Nat) : Int) (((Int.toNat (IntKind.i64.wrap (s.2.2 + (1 : Int)))) + (Int.toNat (((([] : List Int) ++ v394).length : Nat) : Int) - Int.toNat (IntKind.i64.wrap (s.2.2 + (1 : Int)))) : Nat) : Int))) ((Int.toNat (0 : Int)) + Int.toNat (((Int.toNat s.2.2 - Int.toNat (0 : Int)) + (AM.sub (([] : List Int) ++ v394) ((Int.toNat (IntKind.i64.wrap (s.2.2 + (1 : Int))) : Nat) : Int) (((Int.toNat (IntKind.i64.wrap (s.2.2 + (1 : Int)))) + (Int.toNat (((([] : List Int) ++ v394).length : Nat) : Int) - Int.toNat (IntKind.i64.wrap (s.2.2 + (1 : Int)))) : Nat) : Int)).length : Nat) : Int)) (List.replicate (Int.toNat (((([] : List Int) ++ v394).length : Nat) : Int) - Int.toNat (((Int.toNat s.2.2 - Int.toNat (0 : Int)) + (AM.sub (([] : List Int) ++ v394) ((Int.toNat (IntKind.i64.wrap (s.2.2 + (1 : Int))) : Nat) : Int) (((Int.toNat (IntKind.i64.wrap (s.2.2 + (1 : Int)))) + (Int.toNat (((([] : List Int) ++ v394).length : Nat) : Int) - Int.toNat (IntKind.i64.wrap (s.2.2 + (1 : Int)))) : Nat) : Int)).length : Nat) : Int)) (0 : Int))).length = (([] : List Int) ++ v394).length)) <|
     (.call (impl_Whole_minor_i2_g v390 v391 v392 (AM.sub v393 (1 : Int) ((v393.length : Nat) : Int)) (AM.sub (overL (overL (([] : List Int) ++ v394) ((Int.toNat (0 : Int)) + (Int.toNat s.2.2 - Int.toNat (0 : Int))) (AM.sub (([] : List Int) ++ v394) ((Int.toNat (IntKind.i64.wrap (s.2.2 + (1 : Int))) : Nat) : Int) (((Int.toNat (IntKind.i64.wrap (s.2.2 + (1 : Int)))) + (Int.toNat (((([] : List Int) ++ v394).length : Nat) : Int) - Int.toNat (IntKind.i64.wrap (s.2.2 + (1 : Int)))) : Nat) : Int))) ((Int.toNat (0 : Int)) + Int.toNat (((Int.toNat s.2.2 - Int.toNat (0 : Int)) + (AM.sub (([] : List Int) ++ v394) ((Int.toNat (IntKind.i64.wrap (s.2.2 + (1 : Int))) : Nat) : Int) (((Int.toNat (IntKind.i64.wrap (s.2.2 + (1 : Int)))) + (Int.toNat (((([] : List Int) ++ v394).length : Nat) : Int) - Int.toNat (IntKind.i64.wrap (s.2.2 + (1 : Int)))) : Nat) : Int)).length : Nat) : Int)) (List.replicate (Int.toNat (((([] : List Int) ++ v394).length : Nat) : Int) - Int.toNat (((Int.toNat s.2.2 - Int.toNat (0 : Int)) + (AM.sub (([] : List Int) ++ v394) ((Int.toNat (IntKind.i64.wrap (s.2.2 + (1 : Int))) : Nat) : Int) (((Int.toNat (IntKind.i64.wrap (s.2.2 + (1 : Int)))) + (Int.toNat (((([] : List Int) ++ v394).length : Nat) : Int) - Int.toNat (IntKind.i64.wrap (s.2.2 + (1 : Int)))) : Nat) : Int)).length : Nat) : Int)) (0 : Int))) ((v486.1 : Nat) : Int) ((v486.1 + v486.2 : Nat) : Int))) fun v488 =>
     .leaf (.inl (IntKind.i64.wrap (s.1 + (IntKind.i64.wrap ((IntKind.i64.wrap (s.2.1 * v482)) * v488))), IntKind.i64.wrap (0 - s.2.1), IntKind.i64.wrap (s.2.2 + (1 : Int))))))
    )))))
   ) (
    .leaf (.inl (s.1, IntKind.i64.wrap (0 - s.2.1), IntKind.i64.wrap (s.2.2 + (1 : Int))))
   )))))
  ) (
   .leaf (.inr s.1)
  ))

noncomputable def impl_Whole_minor_i1_l0_g (v390 : Int) (v391 : Int) (v392 : List Int) (v393 : List Int) (v394 : List Int) (s0 : Int × Int × Int) : Option (Int) := whileM (fun s => (impl_Whole_minor_i1_l0_T v390 v391 v392 v393 v394 s).run) s0
def impl_Whole_minor_i1_l0_E (v390 : Int) (v391 : Int) (v392 : List Int) (v393 : List Int) (v394 : List Int) (s : Int × Int × Int) : Sd := ([.top, .bslc (BR.root 1) (.i64 v393), .bslc (BR.root 2) (.i64 v394), .ptr 0 (0 : Nat) 0 (3 : Nat), .top, .top, .top, .int .i64 s.1, .int .i64 s.2.1, .top, .top, .top, .top, .top, .top, .bslc (BR.root 2) (.i64 v394), .int .i64 ((v394.length : Nat) : Int), .int .i64 s.2.2, .top, .top, .top, .top, .top, .top, .top, .top, .top, .top, .top, .top, .top, .top, .top, .top, .top, .top, .top, .top, .top, .top, .top, .top, .top, .top, .top, .top, .top, .top, .top, .top], [.gen [.int .i64 v390, .int .i64 v391, .bslc (BR.root 0) (.i64 v392)] false 0])
def impl_Whole_minor_i1_l0_X (v390 : Int) (v391 : Int) (v392 : List Int) (v393 : List Int) (v394 : List Int) (x : Int) : Out := (.normal, [.top, .top, .top, .top, .top, .top, .top, .int .i64 x, .top, .top, .top, .top, .top, .top, .top, .top, .top, .top, .top, .top, .top, .top, .top, .top, .top, .top, .top, .top, .top, .top, .top, .top, .top, .top, .top, .top, .top, .top, .top, .top, .top, .top, .top, .top, .top, .top, .top, .top, .top, .top], [])
def impl_Whole_minor_i1_l0_kill : List Nat := [1, 0, 0, 0, 1, 1, 1, 0, 0, 1, 1, 1, 1, 1, 1, 0, 0, 0, 1, 1, 1, 1, 1, 1, 1, 1, 1, 1, 1, 1, 1, 1, 1, 1, 1, 1, 1, 1, 1, 1, 1, 1, 1, 1, 1, 1, 1, 1, 1, 1]
def impl_Whole_minor_i1_l0_nx : Exit → List Nat
  | .exit 0 => [1, 1, 1, 1, 1, 1, 1, 0, 1, 1, 1, 1, 1, 1, 1, 1, 1, 1, 1, 1, 1, 1, 1, 1, 1, 1, 1, 1, 1, 1, 1, 1, 1, 1, 1, 1, 1, 1, 1, 1, 1, 1, 1, 1, 1, 1, 1, 1, 1, 1]
  | .ret => [1, 1, 1, 1, 1, 1, 0, 1, 1, 1, 1, 1, 1, 1, 1, 1, 1, 1, 1, 1, 1, 1, 1, 1, 1, 1, 1, 1, 1, 1, 1, 1, 1, 1, 1, 1, 1, 1, 1, 1, 1, 1, 1, 1, 1, 1, 1, 1, 1, 1]
  | _ => []
noncomputable def impl_Whole_minor_i1_LO (v390 : Int) (v391 : Int) (v392 : List Int) (v393 : List Int) (v394 : List Int) : LOr := fun id e L =>
  match id with
  | 0 => .need (normA 0 impl_Whole_minor_i1_l0_kill e L = some (impl_Whole_minor_i1_l0_E v390 v391 v392 v393 v394 ((gI (vAt e 7)), (gI (vAt e 8)), (gI (vAt e 17))))) (.call (impl_Whole_minor_i1_l0_g v390 v391 v392 v393 v394 ((gI (vAt e 7)), (gI (vAt e 8)), (gI (vAt e 17)))) fun x => .leaf (impl_Whole_minor_i1_l0_X v390 v391 v392 v393 v394 x))
  | _ => .fail
noncomputable def impl_Whole_minor_i1_tab : List (FuncId × DFn × Bool) := [(114, impl_Whole_at_F, true), (99, slices_CloneI_F, true), (142, slices_DeleteI_F, false), (81, impl_Whole_minor_i2_F, true)]
theorem impl_Whole_minor_i1_hO : OrcOk Try.prog (tabD impl_Whole_minor_i1_tab) (tabM impl_Whole_minor_i1_tab) := tabD_cons impl_Whole_at_Fok (tabD_cons slices_CloneI_Fok (tabD_cons slices_DeleteI_Fok (tabD_cons impl_Whole_minor_i2_Fok (tabD_nil _))))
theorem impl_Whole_minor_i1_l0_be (v390 : Int) (v391 : Int) (v392 : List Int) (v393 : List Int) (v394 : List Int) (s : Int × Int × Int) : bodyT TT (tabD impl_Whole_minor_i1_tab) (tabM impl_Whole_minor_i1_tab) (impl_Whole_minor_i1_LO v390 v391 v392 v393 v394) 0 impl_Whole_minor_i1_l0_kill impl_Whole_minor_i1_l0_nx (bodyOf Try.f81 0) 0 (impl_Whole_minor_i1_l0_E v390 v391 v392 v393 v394 s) = (impl_Whole_minor_i1_l0_T v390 v391 v392 v393 v394 s).bind fun y => .leaf (outS (impl_Whole_minor_i1_l0_E v390 v391 v392 v393 v394) (impl_Whole_minor_i1_l0_X v390 v391 v392 v393 v394) y) := by kernel_rfl
theorem impl_Whole_minor_i1_l0_ok (v390 : Int) (v391 : Int) (v392 : List Int) (v393 : List Int) (v394 : List Int) : LSound Try.prog 0 (impl_Whole_minor_i1_LO v390 v391 v392 v393 v394) 0 (bodyOf Try.f81 0) := by
  intro e L out h
  exact lo_ok (E := impl_Whole_minor_i1_l0_E v390 v391 v392 v393 v394) (gT := impl_Whole_minor_i1_l0_T v390 v391 v392 v393 v394) (X := impl_Whole_minor_i1_l0_X v390 v391 v392 v393 v394) (s0 := ((gI (vAt e 7)), (gI (vAt e 8)), (gI (vAt e 17)))) tok impl_Whole_minor_i1_hO mixed (LoopsOk_eq (l := []) (by kernel_rfl) trivial) (impl_Whole_minor_i1_l0_be v390 v391 v392 v393 v394) rfl (by intro x; rfl) h
noncomputable def impl_Whole_minor_i1_T (v390 : Int) (v391 : Int) (v392 : List Int) (v393 : List Int) (v394 : List Int) : Tree (Int) :=
  (.br (decide (((v393.length : Nat) : Int) = (0 : Int))) (
   .leaf (1 : Int)
  ) (
   (.need (some (impl_Whole_minor_i1_l0_E v390 v391 v392 v393 v394 ((0 : Int), (1 : Int), (0 : Int))) = some (impl_Whole_minor_i1_l0_E v390 v391 v392 v393 v394 ((0 : Int), (1 : Int), (0 : Int)))) <|
   (.call (impl_Whole_minor_i1_l0_g v390 v391 v392 v393 v394 ((0 : Int), (1 : Int), (0 : Int))) fun v489 =>
   .leaf v489))
  ))

noncomputable def impl_Whole_minor_i1_g (v390 : Int) (v391 : Int) (v392 : List Int) (v393 : List Int) (v394 : List Int) : Option (Int) := (impl_Whole_minor_i1_T v390 v391 v392 v393 v394).run
def impl_Whole_minor_i1_enc (v390 : Int) (v391 : Int) (v392 : List Int) (v393 : List Int) (v394 : List Int) (y : Int) : Rs := (.int .i64 y, [])
theorem impl_Whole_minor_i1_den (v390 : Int) (v391 : Int) (v392 : List Int) (v393 : List Int) (v394 : List Int) : (den TT (tabD impl_Whole_minor_i1_tab) (tabM impl_Whole_minor_i1_tab) (impl_Whole_minor_i1_LO v390 v391 v392 v393 v394) (codeOf Try.f81) ([.agg [.int .i64 v390, .int .i64 v391, .bslc (BR.root 0) (.i64 v392)], .bslc (BR.root 1) (.i64 v393), .bslc (BR.root 2) (.i64 v394)] ++ List.replicate (Try.f81.ntmps - ([.agg [.int .i64 v390, .int .i64 v391, .bslc (BR.root 0) (.i64 v392)], .bslc (BR.root 1) (.i64 v393), .bslc (BR.root 2) (.i64 v394)] : List DV).length) .undef) []).bind (retD TT Try.f81.results.toList 0) = (impl_Whole_minor_i1_T v390 v391 v392 v393 v394).bind fun y => .leaf (impl_Whole_minor_i1_enc v390 v391 v392 v393 v394 y) := by kernel_rfl
theorem impl_Whole_minor_i1_fn (v390 : Int) (v391 : Int) (v392 : List Int) (v393 : List Int) (v394 : List Int) (F : Fr) (hm : F.ids.length = 0) (h0 : St F [] F.H0) (hA : DVs.Ok F [] [.agg [.int .i64 v390, .int .i64 v391, .bslc (BR.root 0) (.i64 v392)], .bslc (BR.root 1) (.i64 v393), .bslc (BR.root 2) (.i64 v394)]) {y : Int} (hy : impl_Whole_minor_i1_g v390 v391 v392 v393 v394 = some y) : ∃ H', FnOk Try.prog 81 (DVs.av F [.agg [.int .i64 v390, .int .i64 v391, .bslc (BR.root 0) (.i64 v392)], .bslc (BR.root 1) (.i64 v393), .bslc (BR.root 2) (.i64 v394)]) F.H0 ((impl_Whole_minor_i1_enc v390 v391 v392 v393 v394 y).1.av F) H' ∧ St F (impl_Whole_minor_i1_enc v390 v391 v392 v393 v394 y).2 H' ∧ (impl_Whole_minor_i1_enc v390 v391 v392 v393 v394 y).1.Ok F (impl_Whole_minor_i1_enc v390 v391 v392 v393 v394 y).2 :=
  fn_fin tok impl_Whole_minor_i1_hO mixed Try.func81 Try.call81 (by kernel_rfl) (LoopsOk_eq (l := [(0, bodyOf Try.f81 0)]) (by kernel_rfl) ⟨impl_Whole_minor_i1_l0_ok v390 v391 v392 v393 v394, trivial⟩) (impl_Whole_minor_i1_den v390 v391 v392 v393 v394) hy hm h0 hA
noncomputable def impl_Whole_minor_i1_F : DFn := fun args L =>
  match args with
  | [.agg [.int .i64 v390, .int .i64 v391, a1], a2, a3] =>
    optT (rowI64 L a1) fun v392 =>
    optT (rowI64 L a2) fun v393 =>
    optT (rowI64 L a3) fun v394 =>
    .call (impl_Whole_minor_i1_g v390 v391 v392 v393 v394) fun y => .leaf (.int .i64 y, L)
  | _ => .fail
theorem impl_Whole_minor_i1_Fok : COk Try.prog 81 impl_Whole_minor_i1_F true := by
  intro F L H args r L' hs ha hr
  unfold impl_Whole_minor_i1_F at hr
  split at hr
  · rename_i v390 v391 a1 a2 a3
    obtain ⟨v392, hv392, hr⟩ := optT_run hr
    obtain ⟨v393, hv393, hr⟩ := optT_run hr
    obtain ⟨v394, hv394, hr⟩ := optT_run hr
    simp only [Tree.run] at hr
    obtain ⟨y, hy, hr⟩ := Option.bind_eq_some_iff.1 hr
    simp only [Tree.run, Option.some.injEq, Prod.mk.injEq] at hr
    obtain ⟨rfl, rfl⟩ := hr
    exact call_ok0 hs (fun k => (([a1.av F, a2.av F, a3.av F] : List AV)[k]?).getD .top) [.agg [.int .i64 v390, .int .i64 v391, a1], a2, a3] [.agg [.int .i64 v390, .int .i64 v391, .bslc (BR.root 0) (.i64 v392)], .bslc (BR.root 1) (.i64 v393), .bslc (BR.root 2) (.i64 v394)] (fun F' h0 hi hρ => ⟨by simp [DVs.av, DV.av, BR.av, hρ], impl_Whole_minor_i1_fn v390 v391 v392 v393 v394 F' (by rw [hi]; rfl) (st_nil hi) ⟨⟨trivial, trivial, bslc_ok hi (by rw [h0, hρ]; exact rowI64_ok hs (DVs.okAt (DVs.okAt ha 0 rfl) 2 rfl) hv392), trivial⟩, bslc_ok hi (by rw [h0, hρ]; exact rowI64_ok hs (DVs.okAt ha 1 rfl) hv393), bslc_ok hi (by rw [h0, hρ]; exact rowI64_ok hs (DVs.okAt ha 2 rfl) hv394), trivial⟩ hy⟩) rfl
  · cases hr
/-! (impl.Whole).minor -/
noncomputable def impl_Whole_minor_l0_T (v365 : Int) (v366 : Int) (v367 : List Int) (v368 : List Int) (v369 : List Int) (s : Int × Int × Int) : Tree ((Int × Int × Int) ⊕ (Int)) :=
  (.br (decide (s.2.2 < ((v369.length : Nat) : Int))) (
   (.grd (inb s.2.2 v369.length) <|
   (.grd (inb (0 : Int) v368.length) <|
   (.call (impl_Whole_at_g v366 v367 (nth v368 (Int.toNat (0 : Int))) (nth v369 (Int.toNat s.2.2))) fun v505 =>
   (.br (!decide (v505 = (0 : Int))) (
    (.grd (sok (1 : Int) ((v368.length : Nat) : Int) v368.length) <|
    (.call (slices_CloneI_g v369) fun v506 =>
    (.call (slices_DeleteI_g (([] : List Int) ++ v369) s.2.2 (IntKind.i64.wrap (s.2.2 + (1 : Int)))) fun v507 =>
    (.sum v507 (fun v508 =>
     (.grd (decide ((([] : List Int) ++ v369).length = (([] : List Int) ++ v369).length)) <|
     (.call (impl_Whole_minor_i1_g v365 v366 v367 (AM.sub v368 (1 : Int) ((v368.length : Nat) : Int)) (([] : List Int) ++ v369)) fun v510 =>
     .leaf (.inl (IntKind.i64.wrap (s.1 + (IntKind.i64.wrap ((IntKind.i64.wrap (s.2.1 * v505)) * v510))), IntKind.i64.wrap (0 - s.2.1), IntKind.i64.wrap (s.2.2 + (1 : Int))))))
    ) (fun v509 =>
     (.grd (decide ((overL (overL (([] : List Int) ++ v369) ((Int.toNat (0 : Int)) + (Int.toNat s.2.2 - Int.toNat (0 : Int))) (AM.sub (([] : List Int) ++ v369) ((Int.toNat (IntKind.i64.wrap (s.2.2 + (1 : Int))) : Nat) : Int) (((Int.toNat (IntKind.i64.wrap (s.2.2 + (1 : Int)))) + (Int.toNat (((([] : List Int) ++ v369).length : Nat) : Int) - Int.toNat (IntKind.i64.wrap (s.2.2 + (1 : Int)))) : Nat) : Int))) ((Int.toNat (0 : Int)) + Int.toNat (((Int.toNat s.2.2 - Int.toNat (0 : Int)) + (AM.sub (([] : List Int) ++ v369) ((Int.toNat (IntKind.i64.wrap (s.2.2 + (1 : Int))) : Nat) : Int) (((Int.toNat (IntKind.i64.wrap (s.2.2 + (1 : Int)))) + (Int.toNat (((([] : List Int) ++ v369).length : Nat) : Int) - Int.toNat (IntKind.i64.wrap (s.2.2 + (1 : Int)))) : Nat) : Int)).length : Nat) : Int)) (List.replicate (Int.toNat (((([] : List Int) ++ v369).length : Nat) : Int) - Int.toNat (((Int.toNat s.2.2 - Int.toNat (0 : Int)) + (AM.sub (([] : List Int) ++ v369) ((Int.toNat (IntKind.i64.wrap (s.2.2 + (1 : Int))) : Nat) : Int) (((Int.toNat (IntKind.i64.wrap (s.2.2 + (1 : Int)))) + (Int.toNat (((([] : List Int) ++ v369).length : Nat) : Int) - Int.toNat (IntKind.i64.wrap (s.2.2 + (1 : Int)))) : Nat) : Int)).length : Nat) : Int)) (0 : Int))).length = (([] : List Int) ++ v369).length)) <|
     (.call (impl_Whole_minor_i1_g v365 v366 v367 (AM.sub v368 (1 : Int) ((v368.length : Nat) : Int)) (AM.sub (overL (overL (([] : List Int) ++ v369) ((Int.toNat (0 : Int)) + (Int.toNat s.2.2 - Int.toNat (0 : Int))) (AM.sub (([] : List Int) ++ v369) ((Int.toNat (IntKind.i64.wrap (s.2.2 + (1 : Int))) : Nat) : Int) (((Int.toNat (IntKind.i64.wrap (s.2.2 + (1 : Int)))) + (Int.toNat (((([] : List Int) ++ v369).length : Nat) : Int) - Int.toNat (IntKind.i64.wrap (s.2.2 + (1 : Int)))) : Nat) : Int))) ((Int.toNat (0 : Int)) + Int.toNat (((Int.toNat s.2.2 - Int.toNat (0 : Int)) + (AM.sub (([] : List Int) ++ v369) ((Int.toNat (IntKind.i64.wrap (s.2.2 + (1 : Int))) : Nat) : Int) (((Int.toNat (IntKind.i64.wrap (s.2.2 + (1 : Int)))) + (Int.toNat (((([] : List Int) ++ v369).length : Nat) : Int) - Int.toNat (IntKind.i64.wrap (s.2.2 + (1 : Int)))) : Nat) : Int)).length : Nat) : Int)) (List.replicate (Int.toNat (((([] : List Int) ++ v369).length : Nat) : Int) - Int.toNat (((Int.toNat s.2.2 - Int.toNat (0 : Int)) + (AM.sub (([] : List Int) ++ v369) ((Int.toNat (IntKind.i64.wrap (s.2.2 + (1 : Int))) : Nat) : Int) (((Int.toNat (IntKind.i64.wrap (s.2.2 + (1 : Int)))) + (Int.toNat (((([] : List Int) ++ v369).length : Nat) : Int) - Int.toNat (IntKind.i64.wrap (s.2.2 + (1 : Int)))) : Nat) : Int)).length : Nat) : Int)) (0 : Int))) ((v509.1 : Nat) : Int) ((v509.1 + v509.2 : Nat) : Int))) fun v511 =>
     .leaf (.inl (IntKind.i64.wrap (s.1 + (IntKind.i64.wrap ((IntKind.i64.wrap (s.2.1 * v505)) * v511))), IntKind.i64.wrap (0 - s.2.1), IntKind.i64.wrap (s.2.2 + (1 : Int))))))
    )))))
   ) (
    .leaf (.inl (s.1, IntKind.i64.wrap (0 - s.2.1), IntKind.i64.wrap (s.2.2 + (1 : Int))))
   )))))
  ) (
   .leaf (.inr s.1)
  ))

noncomputable def impl_Whole_minor_l0_g (v365 : Int) (v366 : Int) (v367 : List Int) (v368 : List Int) (v369 : List Int) (s0 : Int × Int × Int) : Option (Int) := whileM (fun s => (impl_Whole_minor_l0_T v365 v366 v367 v368 v369 s).run) s0
def impl_Whole_minor_l0_E (v365 : Int) (v366 : Int) (v367 : List Int) (v368 : List Int) (v369 : List Int) (s : Int × Int × Int) : Sd := ([.top, .bslc (BR.root 1) (.i64 v368), .bslc (BR.root 2) (.i64 v369), .ptr 0 (0 : Nat) 0 (3 : Nat), .top, .top, .top, .int .i64 s.1, .int .i64 s.2.1, .top, .top, .top, .top, .top, .top, .bslc (BR.root 2) (.i64 v369), .int .i64 ((v369.length : Nat) : Int), .int .i64 s.2.2, .top, .top, .top, .top, .top, .top, .top, .top, .top, .top, .top, .top, .top, .top, .top, .top, .top, .top, .top, .top, .top, .top, .top, .top, .top, .top, .top, .top, .top, .top, .top, .top], [.gen [.int .i64 v365, .int .i64 v366, .bslc (BR.root 0) (.i64 v367)] false 0])
def impl_Whole_minor_l0_X (v365 : Int) (v366 : Int) (v367 : List Int) (v368 : List Int) (v369 : List Int) (x : Int) : Out := (.normal, [.top, .top, .top, .top, .top, .top, .top, .int .i64 x, .top, .top, .top, .top, .top, .top, .top, .top, .top, .top, .top, .top, .top, .top, .top, .top, .top, .top, .top, .top, .top, .top, .top, .top, .top, .top, .top, .top, .top, .top, .top, .top, .top, .top, .top, .top, .top, .top, .top, .top, .top, .top], [])
def impl_Whole_minor_l0_kill : List Nat := [1, 0, 0, 0, 1, 1, 1, 0, 0, 1, 1, 1, 1, 1, 1, 0, 0, 0, 1, 1, 1, 1, 1, 1, 1, 1, 1, 1, 1, 1, 1, 1, 1, 1, 1, 1, 1, 1, 1, 1, 1, 1, 1, 1, 1, 1, 1, 1, 1, 1]
def impl_Whole_minor_l0_nx : Exit → List Nat
  | .exit 0 => [1, 1, 1, 1, 1, 1, 1, 0, 1, 1, 1, 1, 1, 1, 1, 1, 1, 1, 1, 1, 1, 1, 1, 1, 1, 1, 1, 1, 1, 1, 1, 1, 1, 1, 1, 1, 1, 1, 1, 1, 1, 1, 1, 1, 1, 1, 1, 1, 1, 1]
  | .ret => [1, 1, 1, 1, 1, 1, 0, 1, 1, 1, 1, 1, 1, 1, 1, 1, 1, 1, 1, 1, 1, 1, 1, 1, 1, 1, 1, 1, 1, 1, 1, 1, 1, 1, 1, 1, 1, 1, 1, 1, 1, 1, 1, 1, 1, 1, 1, 1, 1, 1]
  | _ => []
noncomputable def impl_Whole_minor_LO (v365 : Int) (v366 : Int) (v367 : List Int) (v368 : List Int) (v369 : List Int) : LOr := fun id e L =>
  match id with
  | 0 => .need (normA 0 impl_Whole_minor_l0_kill e L = some (impl_Whole_minor_l0_E v365 v366 v367 v368 v369 ((gI (vAt e 7)), (gI (vAt e 8)), (gI (vAt e 17))))) (.call (impl_Whole_minor_l0_g v365 v366 v367 v368 v369 ((gI (vAt e 7)), (gI (vAt e 8)), (gI (vAt e 17)))) fun x => .leaf (impl_Whole_minor_l0_X v365 v366 v367 v368 v369 x))
  | _ => .fail
noncomputable def impl_Whole_minor_tab : List (FuncId × DFn × Bool) := [(114, impl_Whole_at_F, true), (99, slices_CloneI_F, true), (142, slices_DeleteI_F, false), (81, impl_Whole_minor_i1_F, true)]
theorem impl_Whole_minor_hO : OrcOk Try.prog (tabD impl_Whole_minor_tab) (tabM impl_Whole_minor_tab) := tabD_cons impl_Whole_at_Fok (tabD_cons slices_CloneI_Fok (tabD_cons slices_DeleteI_Fok (tabD_cons impl_Whole_minor_i1_Fok (tabD_nil _))))
theorem impl_Whole_minor_l0_be (v365 : Int) (v366 : Int) (v367 : List Int) (v368 : List Int) (v369 : List Int) (s : Int × Int × Int) : bodyT TT (tabD impl_Whole_minor_tab) (tabM impl_Whole_minor_tab) (impl_Whole_minor_LO v365 v366 v367 v368 v369) 0 impl_Whole_minor_l0_kill impl_Whole_minor_l0_nx (bodyOf Try.f81 0) 0 (impl_Whole_minor_l0_E v365 v366 v367 v368 v369 s) = (impl_Whole_minor_l0_T v365 v366 v367 v368 v369 s).bind fun y => .leaf (outS (impl_Whole_minor_l0_E v365 v366 v367 v368 v369) (impl_Whole_minor_l0_X v365 v366 v367 v368 v369) y) := by kernel_rfl
theorem impl_Whole_minor_l0_ok (v365 : Int) (v366 : Int) (v367 : List Int) (v368 : List Int) (v369 : List Int) : LSound Try.prog 0 (impl_Whole_minor_LO v365 v366 v367 v368 v369) 0 (bodyOf Try.f81 0) := by
  intro e L out h
  exact lo_ok (E := impl_Whole_minor_l0_E v365 v366 v367 v368 v369) (gT := impl_Whole_minor_l0_T v365 v366 v367 v368 v369) (X := impl_Whole_minor_l0_X v365 v366 v367 v368 v369) (s0 := ((gI (vAt e 7)), (gI (vAt e 8)), (gI (vAt e 17)))) tok impl_Whole_minor_hO mixed (LoopsOk_eq (l := []) (by kernel_rfl) trivial) (impl_Whole_minor_l0_be v365 v366 v367 v368 v369) rfl (by intro x; rfl) h
noncomputable def impl_Whole_minor_T (v365 : Int) (v366 : Int) (v367 : List Int) (v368 : List Int) (v369 : List Int) : Tree (Int) :=
  (.br (decide (((v368.length : Nat) : Int) = (0 : Int))) (
   .leaf (1 : Int)
  ) (
   (.need (some (impl_Whole_minor_l0_E v365 v366 v367 v368 v369 ((0 : Int), (1 : Int), (0 : Int))) = some (impl_Whole_minor_l0_E v365 v366 v367 v368 v369 ((0 : Int), (1 : Int), (0 : Int)))) <|
   (.call (impl_Whole_minor_l0_g v365 v366 v367 v368 v369 ((0 : Int), (1 : Int), (0 : Int))) fun v512 =>
   .leaf v512))
  ))

noncomputable def impl_Whole_minor_g (v365 : Int) (v366 : Int) (v367 : List Int) (v368 : List Int) (v369 : List Int) : Option (Int) := (impl_Whole_minor_T v365 v366 v367 v368 v369).run
def impl_Whole_minor_enc (v365 : Int) (v366 : Int) (v367 : List Int) (v368 : List Int) (v369 : List Int) (y : Int) : Rs := (.int .i64 y, [])
theorem impl_Whole_minor_den (v365 : Int) (v366 : Int) (v367 : List Int) (v368 : List Int) (v369 : List Int) : (den TT (tabD impl_Whole_minor_tab) (tabM impl_Whole_minor_tab) (impl_Whole_minor_LO v365 v366 v367 v368 v369) (codeOf Try.f81) ([.agg [.int .i64 v365, .int .i64 v366, .bslc (BR.root 0) (.i64 v367)], .bslc (BR.root 1) (.i64 v368), .bslc (BR.root 2) (.i64 v369)] ++ List.replicate (Try.f81.ntmps - ([.agg [.int .i64 v365, .int .i64 v366, .bslc (BR.root 0) (.i64 v367)], .bslc (BR.root 1) (.i64 v368), .bslc (BR.root 2) (.i64 v369)] : List DV).length) .undef) []).bind (retD TT Try.f81.results.toList 0) = (impl_Whole_minor_T v365 v366 v367 v368 v369).bind fun y => .leaf (impl_Whole_minor_enc v365 v366 v367 v368 v369 y) := by kernel_rfl
theorem impl_Whole_minor_fn (v365 : Int) (v366 : Int) (v367 : List Int) (v368 : List Int) (v369 : List Int) (F : Fr) (hm : F.ids.length = 0) (h0 : St F [] F.H0) (hA : DVs.Ok F [] [.agg [.int .i64 v365, .int .i64 v366, .bslc (BR.root 0) (.i64 v367)], .bslc (BR.root 1) (.i64 v368), .bslc (BR.root 2) (.i64 v369)]) {y : Int} (hy : impl_Whole_minor_g v365 v366 v367 v368 v369 = some y) : ∃ H', FnOk Try.prog 81 (DVs.av F [.agg [.int .i64 v365, .int .i64 v366, .bslc (BR.root 0) (.i64 v367)], .bslc (BR.root 1) (.i64 v368), .bslc (BR.root 2) (.i64 v369)]) F.H0 ((impl_Whole_minor_enc v365 v366 v367 v368 v369 y).1.av F) H' ∧ St F (impl_Whole_minor_enc v365 v366 v367 v368 v369 y).2 H' ∧ (impl_Whole_minor_enc v365 v366 v367 v368 v369 y).1.Ok F (impl_Whole_minor_enc v365 v366 v367 v368 v369 y).2 :=
  fn_fin tok impl_Whole_minor_hO mixed Try.func81 Try.call81 (by kernel_rfl) (LoopsOk_eq (l := [(0, bodyOf Try.f81 0)]) (by kernel_rfl) ⟨impl_Whole_minor_l0_ok v365 v366 v367 v368 v369, trivial⟩) (impl_Whole_minor_den v365 v366 v367 v368 v369) hy hm h0 hA
noncomputable def impl_Whole_minor_F : DFn := fun args L =>
  match args with
  | [.agg [.int .i64 v365, .int .i64 v366, a1], a2, a3] =>
    optT (rowI64 L a1) fun v367 =>
    optT (rowI64 L a2) fun v368 =>
    optT (rowI64 L a3) fun v369 =>
    .call (impl_Whole_minor_g v365 v366 v367 v368 v369) fun y => .leaf (.int .i64 y, L)
  | _ => .fail
theorem impl_Whole_minor_Fok : COk Try.prog 81 impl_Whole_minor_F true := by
  intro F L H args r L' hs ha hr
  unfold impl_Whole_minor_F at hr
  split at hr
  · rename_i v365 v366 a1 a2 a3
    obtain ⟨v367, hv367, hr⟩ := optT_run hr
    obtain ⟨v368, hv368, hr⟩ := optT_run hr
    obtain ⟨v369, hv369, hr⟩ := optT_run hr
    simp only [Tree.run] at hr
    obtain ⟨y, hy, hr⟩ := Option.bind_eq_some_iff.1 hr
    simp only [Tree.run, Option.some.injEq, Prod.mk.injEq] at hr
    obtain ⟨rfl, rfl⟩ := hr
    exact call_ok0 hs (fun k => (([a1.av F, a2.av F, a3.av F] : List AV)[k]?).getD .top) [.agg [.int .i64 v365, .int .i64 v366, a1], a2, a3] [.agg [.int .i64 v365, .int .i64 v366, .bslc (BR.root 0) (.i64 v367)], .bslc (BR.root 1) (.i64 v368), .bslc (BR.root 2) (.i64 v369)] (fun F' h0 hi hρ => ⟨by simp [DVs.av, DV.av, BR.av, hρ], impl_Whole_minor_fn v365 v366 v367 v368 v369 F' (by rw [hi]; rfl) (st_nil hi) ⟨⟨trivial, trivial, bslc_ok hi (by rw [h0, hρ]; exact rowI64_ok hs (DVs.okAt (DVs.okAt ha 0 rfl) 2 rfl) hv367), trivial⟩, bslc_ok hi (by rw [h0, hρ]; exact rowI64_ok hs (DVs.okAt ha 1 rfl) hv368), bslc_ok hi (by rw [h0, hρ]; exact rowI64_ok hs (DVs.okAt ha 2 rfl) hv369), trivial⟩ hy⟩) rfl
  · cases hr
/-! impl.AdjointOf$1 -/
noncomputable def impl_AdjointOf_1_LO (v314 : Int) (v315 : Int) (v316 : Int) (v317 : Int) (v318 : List Int) : LOr := fun id e L =>
  match id with
  | _ => .fail
noncomputable def impl_AdjointOf_1_tab : List (FuncId × DFn × Bool) := [(88, impl_without_F, true), (81, impl_Whole_minor_F, true)]
theorem impl_AdjointOf_1_hO : OrcOk Try.prog (tabD impl_AdjointOf_1_tab) (tabM impl_AdjointOf_1_tab) := tabD_cons impl_without_Fok (tabD_cons impl_Whole_minor_Fok (tabD_nil _))
noncomputable def impl_AdjointOf_1_T (v314 : Int) (v315 : Int) (v316 : Int) (v317 : Int) (v318 : List Int) : Tree (Int) :=
  (.call (impl_without_g v316 v315) fun v359 =>
  (.sum v359 (fun v360 =>
   (.call (impl_without_g v316 v314) fun v362 =>
   (.sum v362 (fun v363 =>
    (.call (impl_Whole_minor_g v316 v317 v318 v360 v363) fun v513 =>
    (.grd (!decide ((2 : Int) = 0)) <|
    (.br (decide (Int.tmod (IntKind.i64.wrap (v314 + v315)) (2 : Int) = (1 : Int))) (
     .leaf (IntKind.i64.wrap (0 - v513))
    ) (
     .leaf v513
    ))))
   ) (fun v364 =>
    (.call (impl_Whole_minor_g v316 v317 v318 v360 (AM.sub v364.2.2 ((v364.1 : Nat) : Int) ((v364.1 + v364.2.1 : Nat) : Int))) fun v514 =>
    (.grd (!decide ((2 : Int) = 0)) <|
    (.br (decide (Int.tmod (IntKind.i64.wrap (v314 + v315)) (2 : Int) = (1 : Int))) (
     .leaf (IntKind.i64.wrap (0 - v514))
    ) (
     .leaf v514
    ))))
   )))
  ) (fun v361 =>
   (.call (impl_without_g v316 v314) fun v515 =>
   (.sum v515 (fun v516 =>
    (.call (impl_Whole_minor_g v316 v317 v318 (AM.sub v361.2.2 ((v361.1 : Nat) : Int) ((v361.1 + v361.2.1 : Nat) : Int)) v516) fun v518 =>
    (.grd (!decide ((2 : Int) = 0)) <|
    (.br (decide (Int.tmod (IntKind.i64.wrap (v314 + v315)) (2 : Int) = (1 : Int))) (
     .leaf (IntKind.i64.wrap (0 - v518))
    ) (
     .leaf v518
    ))))
   ) (fun v517 =>
    (.call (impl_Whole_minor_g v316 v317 v318 (AM.sub v361.2.2 ((v361.1 : Nat) : Int) ((v361.1 + v361.2.1 : Nat) : Int)) (AM.sub v517.2.2 ((v517.1 : Nat) : Int) ((v517.1 + v517.2.1 : Nat) : Int))) fun v519 =>
    (.grd (!decide ((2 : Int) = 0)) <|
    (.br (decide (Int.tmod (IntKind.i64.wrap (v314 + v315)) (2 : Int) = (1 : Int))) (
     .leaf (IntKind.i64.wrap (0 - v519))
    ) (
     .leaf v519
    ))))
   )))
  )))

noncomputable def impl_AdjointOf_1_g (v314 : Int) (v315 : Int) (v316 : Int) (v317 : Int) (v318 : List Int) : Option (Int) := (impl_AdjointOf_1_T v314 v315 v316 v317 v318).run
def impl_AdjointOf_1_enc (v314 : Int) (v315 : Int) (v316 : Int) (v317 : Int) (v318 : List Int) (y : Int) : Rs := (.int .i64 y, [])
theorem impl_AdjointOf_1_den (v314 : Int) (v315 : Int) (v316 : Int) (v317 : Int) (v318 : List Int) : (den TT (tabD impl_AdjointOf_1_tab) (tabM impl_AdjointOf_1_tab) (impl_AdjointOf_1_LO v314 v315 v316 v317 v318) (codeOf Try.f87) ([.int .i64 v314, .int .i64 v315, .bptr (BR.root 0) [.int .i64 v316, .int .i64 v317, .bslc (BR.root 1) (.i64 v318)]] ++ List.replicate (Try.f87.ntmps - ([.int .i64 v314, .int .i64 v315, .bptr (BR.root 0) [.int .i64 v316, .int .i64 v317, .bslc (BR.root 1) (.i64 v318)]] : List DV).length) .undef) []).bind (retD TT Try.f87.results.toList 0) = (impl_AdjointOf_1_T v314 v315 v316 v317 v318).bind fun y => .leaf (impl_AdjointOf_1_enc v314 v315 v316 v317 v318 y) := by kernel_rfl
theorem impl_AdjointOf_1_fn (v314 : Int) (v315 : Int) (v316 : Int) (v317 : Int) (v318 : List Int) (F : Fr) (hm : F.ids.length = 0) (h0 : St F [] F.H0) (hA : DVs.Ok F [] [.int .i64 v314, .int .i64 v315, .bptr (BR.root 0) [.int .i64 v316, .int .i64 v317, .bslc (BR.root 1) (.i64 v318)]]) {y : Int} (hy : impl_AdjointOf_1_g v314 v315 v316 v317 v318 = some y) : ∃ H', FnOk Try.prog 87 (DVs.av F [.int .i64 v314, .int .i64 v315, .bptr (BR.root 0) [.int .i64 v316, .int .i64 v317, .bslc (BR.root 1) (.i64 v318)]]) F.H0 ((impl_AdjointOf_1_enc v314 v315 v316 v317 v318 y).1.av F) H' ∧ St F (impl_AdjointOf_1_enc v314 v315 v316 v317 v318 y).2 H' ∧ (impl_AdjointOf_1_enc v314 v315 v316 v317 v318 y).1.Ok F (impl_AdjointOf_1_enc v314 v315 v316 v317 v318 y).2 :=
  fn_fin tok impl_AdjointOf_1_hO mixed Try.func87 Try.call87 (by kernel_rfl) (LoopsOk_eq (l := []) (by kernel_rfl) trivial) (impl_AdjointOf_1_den v314 v315 v316 v317 v318) hy hm h0 hA
noncomputable def impl_AdjointOf_1_F : DFn := fun args L =>
  match args with
  | [.int .i64 v314, .int .i64 v315, a1] =>
    optT (cellsOf L 3 a1) fun cs0 =>
    (match cs0 with
    | [.int .i64 v316, .int .i64 v317, a2] =>
    optT (rowI64 L a2) fun v318 =>
    .call (impl_AdjointOf_1_g v314 v315 v316 v317 v318) fun y => .leaf (.int .i64 y, L)
    | _ => .fail)
  | _ => .fail
theorem impl_AdjointOf_1_Fok : COk Try.prog 87 impl_AdjointOf_1_F true := by
  intro F L H args r L' hs ha hr
  unfold impl_AdjointOf_1_F at hr
  split at hr
  · rename_i v314 v315 a1
    obtain ⟨cs0, hcp0, hr⟩ := optT_run hr
    split at hr
    · rename_i v316 v317 a2
      obtain ⟨v318, hv318, hr⟩ := optT_run hr
      simp only [Tree.run] at hr
      obtain ⟨y, hy, hr⟩ := Option.bind_eq_some_iff.1 hr
      simp only [Tree.run, Option.some.injEq, Prod.mk.injEq] at hr
      obtain ⟨rfl, rfl⟩ := hr
      exact call_ok0 hs (fun k => (([a1.av F, a2.av F] : List AV)[k]?).getD .top) [.int .i64 v314, .int .i64 v315, a1] [.int .i64 v314, .int .i64 v315, .bptr (BR.root 0) [.int .i64 v316, .int .i64 v317, .bslc (BR.root 1) (.i64 v318)]] (fun F' h0 hi hρ => ⟨by simp [DVs.av, DV.av, BR.av, hρ], impl_AdjointOf_1_fn v314 v315 v316 v317 v318 F' (by rw [hi]; rfl) (st_nil hi) ⟨trivial, trivial, bptr_ok hi (by rw [h0]; simpa [DVs.av, DV.av, BR.av, hρ] using (cellsOf_ok hs (DVs.okAt ha 2 rfl) hcp0).1) ⟨trivial, trivial, bslc_ok hi (by rw [h0, hρ]; exact rowI64_ok hs (DVs.okAt (cellsOf_ok hs (DVs.okAt ha 2 rfl) hcp0).2 2 rfl) hv318), trivial⟩, trivial⟩ hy⟩) rfl
    · cases hr
  · cases hr
/-! impl.wholeBy -/
noncomputable def impl_wholeBy_l2_T (v307 : Int) (v308 : Int) (v309 : Int) (v310 : List Int) (v599 : Int) (s : (Int) ⊕ (Int × (List Int))) : Tree (((Int) ⊕ (Int × (List Int))) ⊕ ((Unit) ⊕ ((List Int)))) :=
  (match s with
  | .inl s => (
  (.br (decide (s < v307)) (
   (.call (impl_AdjointOf_1_g v599 s v308 v309 v310) fun v609 =>
   (.grd (fits ([v609] : List Int).length) <|
   (.br (decide (([v609] : List Int).length = 0)) (
    .fail
   ) (
    .leaf (.inl (.inr (IntKind.i64.wrap (s + (1 : Int)), ([v609] : List Int))))
   ))))
  ) (
   .leaf (.inr (.inl ()))
  )))
  | .inr s => (
  (.br (decide (s.1 < v307)) (
   (.call (impl_AdjointOf_1_g v599 s.1 v308 v309 v310) fun v610 =>
   (.grd (fits (s.2 ++ ([v610] : List Int)).length) <|
   .leaf (.inl (.inr (IntKind.i64.wrap (s.1 + (1 : Int)), s.2 ++ ([v610] : List Int))))))
  ) (
   .leaf (.inr (.inr s.2))
  ))))

noncomputable def impl_wholeBy_l2_g (v307 : Int) (v308 : Int) (v309 : Int) (v310 : List Int) (v599 : Int) (s0 : (Int) ⊕ (Int × (List Int))) : Option ((Unit) ⊕ ((List Int))) := whileM (fun s => (impl_wholeBy_l2_T v307 v308 v309 v310 v599 s).run) s0
def impl_wholeBy_l2_E (v306 : Int) (v307 : Int) (v308 : Int) (v309 : Int) (v310 : List Int) (v599 : Int) (s : (Int) ⊕ (Int × (List Int))) : Sd := (match s with | .inl s => ( ([.top, .int .i64 v307, .fn 87 [.bptr (BR.root 0) [.int .i64 v308, .int .i64 v309, .bslc (BR.root 1) (.i64 v310)]], .top, .top, .top, .ptr 0 (0 : Nat) 0 (3 : Nat), .ptr 1 (0 : Nat) 0 (3 : Nat), .int .i64 v599, .top, .top, .top, .top, .int .i64 v306, .int .i64 v599, .top, .top, .int .i64 v307, .int .i64 s, .top, .top, .top, .top, .top, .top, .top, .top, .top, .top, .top, .top, .top, .top], [.gen [.int .i64 (0 : Int), .int .i64 (0 : Int), .nilslc] false 0, .gen [.int .i64 v306, .int .i64 v307, .nilslc] false 0])) | .inr s => ( ([.top, .int .i64 v307, .fn 87 [.bptr (BR.root 0) [.int .i64 v308, .int .i64 v309, .bslc (BR.root 1) (.i64 v310)]], .top, .top, .top, .ptr 0 (0 : Nat) 0 (3 : Nat), .ptr 1 (0 : Nat) 0 (3 : Nat), .int .i64 v599, .top, .top, .top, .top, .int .i64 v306, .int .i64 v599, .top, .top, .int .i64 v307, .int .i64 s.1, .top, .top, .top, .top, .top, .top, .top, .top, .top, .top, .top, .top, .top, .top], [.gen [.int .i64 (0 : Int), .int .i64 (0 : Int), .nilslc] false 0, .gen [.int .i64 v306, .int .i64 v307, .own 2 0 ((s.2).length)] false 0, .row (.i64 s.2) 0]))) 
def impl_wholeBy_l2_X (v306 : Int) (v307 : Int) (v308 : Int) (v309 : Int) (v310 : List Int) (v599 : Int) (x : (Unit) ⊕ ((List Int))) : Out := (match x with | .inl x => (.normal, [.top, .int .i64 v307, .fn 87 [.bptr (BR.root 0) [.int .i64 v308, .int .i64 v309, .bslc (BR.root 1) (.i64 v310)]], .top, .top, .top, .ptr 0 (0 : Nat) 0 (3 : Nat), .ptr 1 (0 : Nat) 0 (3 : Nat), .top, .top, .top, .top, .top, .int .i64 v306, .int .i64 v599, .top, .top, .top, .top, .top, .top, .top, .top, .top, .top, .top, .top, .top, .top, .top, .top, .top, .top], [.gen [.int .i64 (0 : Int), .int .i64 (0 : Int), .nilslc] false 0, .gen [.int .i64 v306, .int .i64 v307, .nilslc] false 0]) | .inr x => (.normal, [.top, .int .i64 v307, .fn 87 [.bptr (BR.root 0) [.int .i64 v308, .int .i64 v309, .bslc (BR.root 1) (.i64 v310)]], .top, .top, .top, .ptr 0 (0 : Nat) 0 (3 : Nat), .ptr 1 (0 : Nat) 0 (3 : Nat), .top, .top, .top, .top, .top, .int .i64 v306, .int .i64 v599, .top, .top, .top, .top, .top, .top, .top, .top, .top, .top, .top, .top, .top, .top, .top, .top, .top, .top], [.gen [.int .i64 (0 : Int), .int .i64 (0 : Int), .nilslc] false 0, .gen [.int .i64 v306, .int .i64 v307, .own 2 0 ((x).length)] false 0, .row (.i64 x) 0]))
def impl_wholeBy_l2_kill : List Nat := [1, 0, 0, 1, 1, 1, 0, 0, 0, 1, 1, 1, 1, 0, 0, 1, 1, 0, 0, 1, 1, 1, 1, 1, 1, 1, 1, 1, 1, 1, 1, 1, 1]
def impl_wholeBy_l2_nx : Exit → List Nat
  | .exit 0 => [1, 1, 1, 1, 1, 1, 0, 0, 1, 1, 1, 1, 1, 1, 1, 1, 1, 1, 1, 1, 1, 1, 1, 1, 1, 1, 1, 1, 1, 1, 1, 1, 1]
  | .exit 1 => [1, 0, 0, 1, 1, 1, 0, 0, 1, 1, 1, 1, 1, 0, 0, 1, 1, 1, 1, 1, 1, 1, 1, 1, 1, 1, 1, 1, 1, 1, 1, 1, 1]
  | .exit 2 => [1, 0, 0, 1, 1, 1, 0, 0, 1, 1, 1, 1, 1, 0, 0, 1, 1, 1, 1, 1, 1, 1, 1, 1, 1, 1, 1, 1, 1, 1, 1, 1, 1]
  | .ret => [1, 1, 1, 1, 1, 1, 0, 1, 1, 1, 1, 1, 1, 1, 1, 1, 1, 1, 1, 1, 1, 1, 1, 1, 1, 1, 1, 1, 1, 1, 1, 1, 1]
  | _ => []
noncomputable def impl_wholeBy_l2_1_T (v307 : Int) (v308 : Int) (v309 : Int) (v310 : List Int) (v622 : Int) (s : Int × (List Int)) : Tree ((Int × (List Int)) ⊕ ((List Int))) :=
  (.br (decide (s.1 < v307)) (
   (.call (impl_AdjointOf_1_g v622 s.1 v308 v309 v310) fun v625 =>
   (.grd (fits (s.2 ++ ([v625] : List Int)).length) <|
   .leaf (.inl (IntKind.i64.wrap (s.1 + (1 : Int)), s.2 ++ ([v625] : List Int)))))
  ) (
   .leaf (.inr s.2)
  ))

noncomputable def impl_wholeBy_l2_1_g (v307 : Int) (v308 : Int) (v309 : Int) (v310 : List Int) (v622 : Int) (s0 : Int × (List Int)) : Option ((List Int)) := whileM (fun s => (impl_wholeBy_l2_1_T v307 v308 v309 v310 v622 s).run) s0
def impl_wholeBy_l2_1_E (v306 : Int) (v307 : Int) (v308 : Int) (v309 : Int) (v310 : List Int) (v622 : Int) (s : Int × (List Int)) : Sd := ([.top, .int .i64 v307, .fn 87 [.bptr (BR.root 0) [.int .i64 v308, .int .i64 v309, .bslc (BR.root 1) (.i64 v310)]], .top, .top, .top, .ptr 0 (0 : Nat) 0 (3 : Nat), .ptr 1 (0 : Nat) 0 (3 : Nat), .int .i64 v622, .top, .top, .top, .top, .int .i64 v306, .int .i64 v622, .top, .top, .int .i64 v307, .int .i64 s.1, .top, .top, .top, .top, .top, .top, .top, .top, .top, .top, .top, .top, .top, .top], [.gen [.int .i64 (0 : Int), .int .i64 (0 : Int), .nilslc] false 0, .gen [.int .i64 v306, .int .i64 v307, .own 2 0 ((s.2).length)] false 0, .row (.i64 s.2) 0])
def impl_wholeBy_l2_1_X (v306 : Int) (v307 : Int) (v308 : Int) (v309 : Int) (v310 : List Int) (v622 : Int) (x : (List Int)) : Out := (.normal, [.top, .int .i64 v307, .fn 87 [.bptr (BR.root 0) [.int .i64 v308, .int .i64 v309, .bslc (BR.root 1) (.i64 v310)]], .top, .top, .top, .ptr 0 (0 : Nat) 0 (3 : Nat), .ptr 1 (0 : Nat) 0 (3 : Nat), .top, .top, .top, .top, .top, .int .i64 v306, .int .i64 v622, .top, .top, .top, .top, .top, .top, .top, .top, .top, .top, .top, .top, .top, .top, .top, .top, .top, .top], [.gen [.int .i64 (0 : Int), .int .i64 (0 : Int), .nilslc] false 0, .gen [.int .i64 v306, .int .i64 v307, .own 2 0 ((x).length)] false 0, .row (.i64 x) 0])
def impl_wholeBy_l2_1_kill : List Nat := [1, 0, 0, 1, 1, 1, 0, 0, 0, 1, 1, 1, 1, 0, 0, 1, 1, 0, 0, 1, 1, 1, 1, 1, 1, 1, 1, 1, 1, 1, 1, 1, 1]
def impl_wholeBy_l2_1_nx : Exit → List Nat
  | .exit 0 => [1, 1, 1, 1, 1, 1, 0, 0, 1, 1, 1, 1, 1, 1, 1, 1, 1, 1, 1, 1, 1, 1, 1, 1, 1, 1, 1, 1, 1, 1, 1, 1, 1]
  | .exit 1 => [1, 0, 0, 1, 1, 1, 0, 0, 1, 1, 1, 1, 1, 0, 0, 1, 1, 1, 1, 1, 1, 1, 1, 1, 1, 1, 1, 1, 1, 1, 1, 1, 1]
  | .exit 2 => [1, 0, 0, 1, 1, 1, 0, 0, 1, 1, 1, 1, 1, 0, 0, 1, 1, 1, 1, 1, 1, 1, 1, 1, 1, 1, 1, 1, 1, 1, 1, 1, 1]
  | .ret => [1, 1, 1, 1, 1, 1, 0, 1, 1, 1, 1, 1, 1, 1, 1, 1, 1, 1, 1, 1, 1, 1, 1, 1, 1, 1, 1, 1, 1, 1, 1, 1, 1]
  | _ => []
noncomputable def impl_wholeBy_l0_T (v306 : Int) (v307 : Int) (v308 : Int) (v309 : Int) (v310 : List Int) (s : (Int) ⊕ (Int × (List Int))) : Tree (((Int) ⊕ (Int × (List Int))) ⊕ ((Unit) ⊕ ((List Int)))) :=
  (match s with
  | .inl s => (
  (.br (decide (s < v306)) (
   (.need (some (impl_wholeBy_l2_E v306 v307 v308 v309 v310 s (.inl (0 : Int))) = some (impl_wholeBy_l2_E v306 v307 v308 v309 v310 s (.inl (0 : Int)))) <|
   (.call (impl_wholeBy_l2_g v307 v308 v309 v310 s (.inl (0 : Int))) fun v611 =>
   (.sum v611 (fun v612 =>
    .leaf (.inl (.inl (IntKind.i64.wrap (s + (1 : Int)))))
   ) (fun v613 =>
    .leaf (.inl (.inr (IntKind.i64.wrap (s + (1 : Int)), v613)))
   ))))
  ) (
   .leaf (.inr (.inl ()))
  )))
  | .inr s => (
  (.br (decide (s.1 < v306)) (
   (.need (some (impl_wholeBy_l2_1_E v306 v307 v308 v309 v310 s.1 ((0 : Int), s.2)) = some (impl_wholeBy_l2_1_E v306 v307 v308 v309 v310 s.1 ((0 : Int), s.2))) <|
   (.call (impl_wholeBy_l2_1_g v307 v308 v309 v310 s.1 ((0 : Int), s.2)) fun v626 =>
   .leaf (.inl (.inr (IntKind.i64.wrap (s.1 + (1 : Int)), v626)))))
  ) (
   .leaf (.inr (.inr s.2))
  ))))

noncomputable def impl_wholeBy_l0_g (v306 : Int) (v307 : Int) (v308 : Int) (v309 : Int) (v310 : List Int) (s0 : (Int) ⊕ (Int × (List Int))) : Option ((Unit) ⊕ ((List Int))) := whileM (fun s => (impl_wholeBy_l0_T v306 v307 v308 v309 v310 s).run) s0
def impl_wholeBy_l0_E (v306 : Int) (v307 : Int) (v308 : Int) (v309 : Int) (v310 : List Int) (s : (Int) ⊕ (Int × (List Int))) : Sd := (match s with | .inl s => ( ([.top, .int .i64 v307, .fn 87 [.bptr (BR.root 0) [.int .i64 v308, .int .i64 v309, .bslc (BR.root 1) (.i64 v310)]], .top, .top, .top, .ptr 0 (0 : Nat) 0 (3 : Nat), .ptr 1 (0 : Nat) 0 (3 : Nat), .top, .top, .top, .top, .top, .int .i64 v306, .int .i64 s, .top, .top, .top, .top, .top, .top, .top, .top, .top, .top, .top, .top, .top, .top, .top, .top, .top, .top], [.gen [.int .i64 (0 : Int), .int .i64 (0 : Int), .nilslc] false 0, .gen [.int .i64 v306, .int .i64 v307, .nilslc] false 0])) | .inr s => ( ([.top, .int .i64 v307, .fn 87 [.bptr (BR.root 0) [.int .i64 v308, .int .i64 v309, .bslc (BR.root 1) (.i64 v310)]], .top, .top, .top, .ptr 0 (0 : Nat) 0 (3 : Nat), .ptr 1 (0 : Nat) 0 (3 : Nat), .top, .top, .top, .top, .top, .int .i64 v306, .int .i64 s.1, .top, .top, .top, .top, .top, .top, .top, .top, .top, .top, .top, .top, .top, .top, .top, .top, .top, .top], [.gen [.int .i64 (0 : Int), .int .i64 (0 : Int), .nilslc] false 0, .gen [.int .i64 v306, .int .i64 v307, .own 2 0 ((s.2).length)] false 0, .row (.i64 s.2) 0]))) 
def impl_wholeBy_l0_X (v306 : Int) (v307 : Int) (v308 : Int) (v309 : Int) (v310 : List Int) (x : (Unit) ⊕ ((List Int))) : Out := (match x with | .inl x => (.normal, [.top, .top, .top, .top, .top, .top, .ptr 0 (0 : Nat) 0 (3 : Nat), .ptr 1 (0 : Nat) 0 (3 : Nat), .top, .top, .top, .top, .top, .top, .top, .top, .top, .top, .top, .top, .top, .top, .top, .top, .top, .top, .top, .top, .top, .top, .top, .top, .top], [.gen [.int .i64 (0 : Int), .int .i64 (0 : Int), .nilslc] false 0, .gen [.int .i64 v306, .int .i64 v307, .nilslc] false 0]) | .inr x => (.normal, [.top, .top, .top, .top, .top, .top, .ptr 0 (0 : Nat) 0 (3 : Nat), .ptr 1 (0 : Nat) 0 (3 : Nat), .top, .top, .top, .top, .top, .top, .top, .top, .top, .top, .top, .top, .top, .top, .top, .top, .top, .top, .top, .top, .top, .top, .top, .top, .top], [.gen [.int .i64 (0 : Int), .int .i64 (0 : Int), .nilslc] false 0, .gen [.int .i64 v306, .int .i64 v307, .own 2 0 ((x).length)] false 0, .row (.i64 x) 0]))
def impl_wholeBy_l0_kill : List Nat := [1, 0, 0, 1, 1, 1, 0, 0, 1, 1, 1, 1, 1, 0, 0, 1, 1, 1, 1, 1, 1, 1, 1, 1, 1, 1, 1, 1, 1, 1, 1, 1, 1]
def impl_wholeBy_l0_nx : Exit → List Nat
  | .exit 0 => [1, 1, 1, 1, 1, 1, 0, 0, 1, 1, 1, 1, 1, 1, 1, 1, 1, 1, 1, 1, 1, 1, 1, 1, 1, 1, 1, 1, 1, 1, 1, 1, 1]
  | .ret => [1, 1, 1, 1, 1, 1, 0, 1, 1, 1, 1, 1, 1, 1, 1, 1, 1, 1, 1, 1, 1, 1, 1, 1, 1, 1, 1, 1, 1, 1, 1, 1, 1]
  | _ => []
noncomputable def impl_wholeBy_LO (v306 : Int) (v307 : Int) (v308 : Int) (v309 : Int) (v310 : List Int) : LOr := fun id e L =>
  match id with
  | 2 => (match (match (cAt L (vAt e 7) 2) with | .nilslc => true | _ => false) with | true => .need (normA 0 impl_wholeBy_l2_kill e L = some (impl_wholeBy_l2_E v306 v307 v308 v309 v310 (gI (vAt e 8)) (.inl (gI (vAt e 18))))) (.call (impl_wholeBy_l2_g v307 v308 v309 v310 (gI (vAt e 8)) (.inl (gI (vAt e 18)))) fun x => .sum x (fun b0 => .leaf (impl_wholeBy_l2_X v306 v307 v308 v309 v310 (gI (vAt e 8)) (.inl b0))) (fun c0 => .leaf (impl_wholeBy_l2_X v306 v307 v308 v309 v310 (gI (vAt e 8)) (.inr c0)))) | false => .need (normA 0 impl_wholeBy_l2_1_kill e L = some (impl_wholeBy_l2_1_E v306 v307 v308 v309 v310 (gI (vAt e 8)) ((gI (vAt e 18)), (gRI L (cAt L (vAt e 7) 2))))) (.call (impl_wholeBy_l2_1_g v307 v308 v309 v310 (gI (vAt e 8)) ((gI (vAt e 18)), (gRI L (cAt L (vAt e 7) 2)))) fun x => .leaf (impl_wholeBy_l2_1_X v306 v307 v308 v309 v310 (gI (vAt e 8)) x)))
  | 0 => .need (normA 0 impl_wholeBy_l0_kill e L = some (impl_wholeBy_l0_E v306 v307 v308 v309 v310 (.inl (gI (vAt e 14))))) (.call (impl_wholeBy_l0_g v306 v307 v308 v309 v310 (.inl (gI (vAt e 14)))) fun x => .sum x (fun b0 => .leaf (impl_wholeBy_l0_X v306 v307 v308 v309 v310 (.inl b0))) (fun c0 => .leaf (impl_wholeBy_l0_X v306 v307 v308 v309 v310 (.inr c0))))
  | _ => .fail
noncomputable def impl_wholeBy_tab : List (FuncId × DFn × Bool) := [(87, impl_AdjointOf_1_F, true)]
theorem impl_wholeBy_hO : OrcOk Try.prog (tabD impl_wholeBy_tab) (tabM impl_wholeBy_tab) := tabD_cons impl_AdjointOf_1_Fok (tabD_nil _)
theorem impl_wholeBy_l2_be0 (v306 : Int) (v307 : Int) (v308 : Int) (v309 : Int) (v310 : List Int) (v599 : Int) (s : Int) : bodyT TT (tabD impl_wholeBy_tab) (tabM impl_wholeBy_tab) (impl_wholeBy_LO v306 v307 v308 v309 v310) 0 impl_wholeBy_l2_kill impl_wholeBy_l2_nx (bodyOf Try.f86 2) 2 (impl_wholeBy_l2_E v306 v307 v308 v309 v310 v599 (.inl s)) = (impl_wholeBy_l2_T v307 v308 v309 v310 v599 (.inl s)).bind fun y => .leaf (outS (impl_wholeBy_l2_E v306 v307 v308 v309 v310 v599) (impl_wholeBy_l2_X v306 v307 v308 v309 v310 v599) y) := by kernel_rfl
theorem impl_wholeBy_l2_be1 (v306 : Int) (v307 : Int) (v308 : Int) (v309 : Int) (v310 : List Int) (v599 : Int) (s : Int × (List Int)) : bodyT TT (tabD impl_wholeBy_tab) (tabM impl_wholeBy_tab) (impl_wholeBy_LO v306 v307 v308 v309 v310) 0 impl_wholeBy_l2_kill impl_wholeBy_l2_nx (bodyOf Try.f86 2) 2 (impl_wholeBy_l2_E v306 v307 v308 v309 v310 v599 (.inr s)) = (impl_wholeBy_l2_T v307 v308 v309 v310 v599 (.inr s)).bind fun y => .leaf (outS (impl_wholeBy_l2_E v306 v307 v308 v309 v310 v599) (impl_wholeBy_l2_X v306 v307 v308 v309 v310 v599) y) := by kernel_rfl
theorem impl_wholeBy_l2_be (v306 : Int) (v307 : Int) (v308 : Int) (v309 : Int) (v310 : List Int) (v599 : Int) (s : (Int) ⊕ (Int × (List Int))) : bodyT TT (tabD impl_wholeBy_tab) (tabM impl_wholeBy_tab) (impl_wholeBy_LO v306 v307 v308 v309 v310) 0 impl_wholeBy_l2_kill impl_wholeBy_l2_nx (bodyOf Try.f86 2) 2 (impl_wholeBy_l2_E v306 v307 v308 v309 v310 v599 s) = (impl_wholeBy_l2_T v307 v308 v309 v310 v599 s).bind fun y => .leaf (outS (impl_wholeBy_l2_E v306 v307 v308 v309 v310 v599) (impl_wholeBy_l2_X v306 v307 v308 v309 v310 v599) y) := by 
  rcases s with s | s
  · exact impl_wholeBy_l2_be0 v306 v307 v308 v309 v310 v599 s
  · exact impl_wholeBy_l2_be1 v306 v307 v308 v309 v310 v599 s
theorem impl_wholeBy_l2_1_be (v306 : Int) (v307 : Int) (v308 : Int) (v309 : Int) (v310 : List Int) (v622 : Int) (s : Int × (List Int)) : bodyT TT (tabD impl_wholeBy_tab) (tabM impl_wholeBy_tab) (impl_wholeBy_LO v306 v307 v308 v309 v310) 0 impl_wholeBy_l2_1_kill impl_wholeBy_l2_1_nx (bodyOf Try.f86 2) 2 (impl_wholeBy_l2_1_E v306 v307 v308 v309 v310 v622 s) = (impl_wholeBy_l2_1_T v307 v308 v309 v310 v622 s).bind fun y => .leaf (outS (impl_wholeBy_l2_1_E v306 v307 v308 v309 v310 v622) (impl_wholeBy_l2_1_X v306 v307 v308 v309 v310 v622) y) := by kernel_rfl
theorem impl_wholeBy_l2_ok (v306 : Int) (v307 : Int) (v308 : Int) (v309 : Int) (v310 : List Int) : LSound Try.prog 0 (impl_wholeBy_LO v306 v307 v308 v309 v310) 2 (bodyOf Try.f86 2) := by
  intro e L out h
  change (match (match (cAt L (vAt e 7) 2) with | .nilslc => true | _ => false) with | true => _ | false => _ : Tree Out).run = some out at h
  split at h
  · exact lo_ok (E := impl_wholeBy_l2_E v306 v307 v308 v309 v310 (gI (vAt e 8))) (gT := impl_wholeBy_l2_T v307 v308 v309 v310 (gI (vAt e 8))) (X := impl_wholeBy_l2_X v306 v307 v308 v309 v310 (gI (vAt e 8))) (s0 := .inl (gI (vAt e 18))) tok impl_wholeBy_hO mixed (LoopsOk_eq (l := []) (by kernel_rfl) trivial) (impl_wholeBy_l2_be v306 v307 v308 v309 v310 (gI (vAt e 8))) rfl (by intro x; (cases x with | inl b => rfl | inr x => exact rfl)) h
  ·
    exact lo_ok (E := impl_wholeBy_l2_1_E v306 v307 v308 v309 v310 (gI (vAt e 8))) (gT := impl_wholeBy_l2_1_T v307 v308 v309 v310 (gI (vAt e 8))) (X := impl_wholeBy_l2_1_X v306 v307 v308 v309 v310 (gI (vAt e 8))) (s0 := ((gI (vAt e 18)), (gRI L (cAt L (vAt e 7) 2)))) tok impl_wholeBy_hO mixed (LoopsOk_eq (l := []) (by kernel_rfl) trivial) (impl_wholeBy_l2_1_be v306 v307 v308 v309 v310 (gI (vAt e 8))) rfl (by intro x; rfl) h
theorem impl_wholeBy_l0_be0 (v306 : Int) (v307 : Int) (v308 : Int) (v309 : Int) (v310 : List Int) (s : Int) : bodyT TT (tabD impl_wholeBy_tab) (tabM impl_wholeBy_tab) (impl_wholeBy_LO v306 v307 v308 v309 v310) 0 impl_wholeBy_l0_kill impl_wholeBy_l0_nx (bodyOf Try.f86 0) 0 (impl_wholeBy_l0_E v306 v307 v308 v309 v310 (.inl s)) = (impl_wholeBy_l0_T v306 v307 v308 v309 v310 (.inl s)).bind fun y => .leaf (outS (impl_wholeBy_l0_E v306 v307 v308 v309 v310) (impl_wholeBy_l0_X v306 v307 v308 v309 v310) y) := by kernel_rfl
theorem impl_wholeBy_l0_be1 (v306 : Int) (v307 : Int) (v308 : Int) (v309 : Int) (v310 : List Int) (s : Int × (List Int)) : bodyT TT (tabD impl_wholeBy_tab) (tabM impl_wholeBy_tab) (impl_wholeBy_LO v306 v307 v308 v309 v310) 0 impl_wholeBy_l0_kill impl_wholeBy_l0_nx (bodyOf Try.f86 0) 0 (impl_wholeBy_l0_E v306 v307 v308 v309 v310 (.inr s)) = (impl_wholeBy_l0_T v306 v307 v308 v309 v310 (.inr s)).bind fun y => .leaf (outS (impl_wholeBy_l0_E v306 v307 v308 v309 v310) (impl_wholeBy_l0_X v306 v307 v308 v309 v310) y) := by kernel_rfl
theorem impl_wholeBy_l0_be (v306 : Int) (v307 : Int) (v308 : Int) (v309 : Int) (v310 : List Int) (s : (Int) ⊕ (Int × (List Int))) : bodyT TT (tabD impl_wholeBy_tab) (tabM impl_wholeBy_tab) (impl_wholeBy_LO v306 v307 v308 v309 v310) 0 impl_wholeBy_l0_kill impl_wholeBy_l0_nx (bodyOf Try.f86 0) 0 (impl_wholeBy_l0_E v306 v307 v308 v309 v310 s) = (impl_wholeBy_l0_T v306 v307 v308 v309 v310 s).bind fun y => .leaf (outS (impl_wholeBy_l0_E v306 v307 v308 v309 v310) (impl_wholeBy_l0_X v306 v307 v308 v309 v310) y) := by 
  rcases s with s | s
  · exact impl_wholeBy_l0_be0 v306 v307 v308 v309 v310 s
  · exact impl_wholeBy_l0_be1 v306 v307 v308 v309 v310 s
theorem impl_wholeBy_l0_ok (v306 : Int) (v307 : Int) (v308 : Int) (v309 : Int) (v310 : List Int) : LSound Try.prog 0 (impl_wholeBy_LO v306 v307 v308 v309 v310) 0 (bodyOf Try.f86 0) := by
  intro e L out h
  exact lo_ok (E := impl_wholeBy_l0_E v306 v307 v308 v309 v310) (gT := impl_wholeBy_l0_T v306 v307 v308 v309 v310) (X := impl_wholeBy_l0_X v306 v307 v308 v309 v310) (s0 := .inl (gI (vAt e 14))) tok impl_wholeBy_hO mixed (LoopsOk_eq (l := [(2, bodyOf Try.f86 2)]) (by kernel_rfl) ⟨impl_wholeBy_l2_ok v306 v307 v308 v309 v310, trivial⟩) (impl_wholeBy_l0_be v306 v307 v308 v309 v310) rfl (by intro x; (cases x with | inl b => rfl | inr x => exact rfl)) h
noncomputable def impl_wholeBy_T (v306 : Int) (v307 : Int) (v308 : Int) (v309 : Int) (v310 : List Int) : Tree ((Int × Int) ⊕ (Int × Int × (List Int))) :=
  (.need (some (impl_wholeBy_l0_E v306 v307 v308 v309 v310 (.inl (0 : Int))) = some (impl_wholeBy_l0_E v306 v307 v308 v309 v310 (.inl (0 : Int)))) <|
  (.call (impl_wholeBy_l0_g v306 v307 v308 v309 v310 (.inl (0 : Int))) fun v627 =>
  (.sum v627 (fun v628 =>
   .leaf (.inl (v306, v307))
  ) (fun v629 =>
   .leaf (.inr (v306, v307, v629))
  ))))

noncomputable def impl_wholeBy_g (v306 : Int) (v307 : Int) (v308 : Int) (v309 : Int) (v310 : List Int) : Option ((Int × Int) ⊕ (Int × Int × (List Int))) := (impl_wholeBy_T v306 v307 v308 v309 v310).run
def impl_wholeBy_enc (v306 : Int) (v307 : Int) (v308 : Int) (v309 : Int) (v310 : List Int) (y : (Int × Int) ⊕ (Int × Int × (List Int))) : Rs := (match y with | .inl y => (.agg [.int .i64 y.1, .int .i64 y.2, .nilslc], []) | .inr y => (.agg [.int .i64 y.1, .int .i64 y.2.1, .own 0 0 ((y.2.2).length)], [.row (.i64 y.2.2) 0]))
theorem impl_wholeBy_den (v306 : Int) (v307 : Int) (v308 : Int) (v309 : Int) (v310 : List Int) : (den TT (tabD impl_wholeBy_tab) (tabM impl_wholeBy_tab) (impl_wholeBy_LO v306 v307 v308 v309 v310) (codeOf Try.f86) ([.int .i64 v306, .int .i64 v307, .fn 87 [.bptr (BR.root 0) [.int .i64 v308, .int .i64 v309, .bslc (BR.root 1) (.i64 v310)]]] ++ List.replicate (Try.f86.ntmps - ([.int .i64 v306, .int .i64 v307, .fn 87 [.bptr (BR.root 0) [.int .i64 v308, .int .i64 v309, .bslc (BR.root 1) (.i64 v310)]]] : List DV).length) .undef) []).bind (retD TT Try.f86.results.toList 0) = (impl_wholeBy_T v306 v307 v308 v309 v310).bind fun y => .leaf (impl_wholeBy_enc v306 v307 v308 v309 v310 y) := by kernel_rfl
theorem impl_wholeBy_fn (v306 : Int) (v307 : Int) (v308 : Int) (v309 : Int) (v310 : List Int) (F : Fr) (hm : F.ids.length = 0) (h0 : St F [] F.H0) (hA : DVs.Ok F [] [.int .i64 v306, .int .i64 v307, .fn 87 [.bptr (BR.root 0) [.int .i64 v308, .int .i64 v309, .bslc (BR.root 1) (.i64 v310)]]]) {y : (Int × Int) ⊕ (Int × Int × (List Int))} (hy : impl_wholeBy_g v306 v307 v308 v309 v310 = some y) : ∃ H', FnOk Try.prog 86 (DVs.av F [.int .i64 v306, .int .i64 v307, .fn 87 [.bptr (BR.root 0) [.int .i64 v308, .int .i64 v309, .bslc (BR.root 1) (.i64 v310)]]]) F.H0 ((impl_wholeBy_enc v306 v307 v308 v309 v310 y).1.av F) H' ∧ St F (impl_wholeBy_enc v306 v307 v308 v309 v310 y).2 H' ∧ (impl_wholeBy_enc v306 v307 v308 v309 v310 y).1.Ok F (impl_wholeBy_enc v306 v307 v308 v309 v310 y).2 :=
  fn_fin tok impl_wholeBy_hO mixed Try.func86 Try.call86 (by kernel_rfl) (LoopsOk_eq (l := [(0, bodyOf Try.f86 0)]) (by kernel_rfl) ⟨impl_wholeBy_l0_ok v306 v307 v308 v309 v310, trivial⟩) (impl_wholeBy_den v306 v307 v308 v309 v310) hy hm h0 hA
noncomputable def impl_wholeBy_F : DFn := fun args L =>
  match args with
  | [.int .i64 v306, .int .i64 v307, .fn 87 [a1]] =>
    optT (cellsOf L 3 a1) fun cs0 =>
    (match cs0 with
    | [.int .i64 v308, .int .i64 v309, a2] =>
    optT (rowI64 L a2) fun v310 =>
    .call (impl_wholeBy_g v306 v307 v308 v309 v310) fun y => .sum y (fun y0 => .leaf (.agg [.int .i64 y0.1, .int .i64 y0.2, .nilslc], L)) (fun z0 => .leaf (.agg [.int .i64 z0.1, .int .i64 z0.2.1, .own (L.length + 0) 0 ((z0.2.2).length)], L ++ [.row (.i64 z0.2.2) 0]))
    | _ => .fail)
  | _ => .fail
theorem impl_wholeBy_Fok : COk Try.prog 86 impl_wholeBy_F true := by
  intro F L H args r L' hs ha hr
  unfold impl_wholeBy_F at hr
  split at hr
  · rename_i v306 v307 a1
    obtain ⟨cs0, hcp0, hr⟩ := optT_run hr
    split at hr
    · rename_i v308 v309 a2
      obtain ⟨v310, hv310, hr⟩ := optT_run hr
      simp only [Tree.run] at hr
      obtain ⟨y, hy, hr⟩ := Option.bind_eq_some_iff.1 hr
      cases y with
      | inl y =>
        simp only [Tree.run, Option.some.injEq, Prod.mk.injEq] at hr
        obtain ⟨rfl, rfl⟩ := hr
        exact call_ok0 hs (fun k => (([a1.av F, a2.av F] : List AV)[k]?).getD .top) [.int .i64 v306, .int .i64 v307, .fn 87 [a1]] [.int .i64 v306, .int .i64 v307, .fn 87 [.bptr (BR.root 0) [.int .i64 v308, .int .i64 v309, .bslc (BR.root 1) (.i64 v310)]]] (fun F' h0 hi hρ => ⟨by simp [DVs.av, DV.av, BR.av, hρ], impl_wholeBy_fn v306 v307 v308 v309 v310 F' (by rw [hi]; rfl) (st_nil hi) ⟨trivial, trivial, ⟨bptr_ok hi (by rw [h0]; simpa [DVs.av, DV.av, BR.av, hρ] using (cellsOf_ok hs (DVs.okAt (DVs.okAt ha 2 rfl) 0 rfl) hcp0).1) ⟨trivial, trivial, bslc_ok hi (by rw [h0, hρ]; exact rowI64_ok hs (DVs.okAt (cellsOf_ok hs (DVs.okAt (DVs.okAt ha 2 rfl) 0 rfl) hcp0).2 2 rfl) hv310), trivial⟩, trivial⟩, trivial⟩ hy⟩) rfl
      | inr y =>
        simp only [Tree.run, Option.some.injEq, Prod.mk.injEq] at hr
        obtain ⟨rfl, rfl⟩ := hr
        exact call_ok1 hs (fun k => (([a1.av F, a2.av F] : List AV)[k]?).getD .top) [.int .i64 v306, .int .i64 v307, .fn 87 [a1]] [.int .i64 v306, .int .i64 v307, .fn 87 [.bptr (BR.root 0) [.int .i64 v308, .int .i64 v309, .bslc (BR.root 1) (.i64 v310)]]] (fun F' h0 hi hρ => ⟨by simp [DVs.av, DV.av, BR.av, hρ], impl_wholeBy_fn v306 v307 v308 v309 v310 F' (by rw [hi]; rfl) (st_nil hi) ⟨trivial, trivial, ⟨bptr_ok hi (by rw [h0]; simpa [DVs.av, DV.av, BR.av, hρ] using (cellsOf_ok hs (DVs.okAt (DVs.okAt ha 2 rfl) 0 rfl) hcp0).1) ⟨trivial, trivial, bslc_ok hi (by rw [h0, hρ]; exact rowI64_ok hs (DVs.okAt (cellsOf_ok hs (DVs.okAt (DVs.okAt ha 2 rfl) 0 rfl) hcp0).2 2 rfl) hv310), trivial⟩, trivial⟩, trivial⟩ hy⟩) rfl rfl
    · cases hr
  · cases hr
/-! impl.ValidWhole -/
noncomputable def impl_ValidWhole_LO (v636 : Int) (v637 : Int) (v638 : List Int) : LOr := fun id e L =>
  match id with
  | _ => .fail
noncomputable def impl_ValidWhole_tab : List (FuncId × DFn × Bool) := [(135, impl_isWhole_F, true)]
theorem impl_ValidWhole_hO : OrcOk Try.prog (tabD impl_ValidWhole_tab) (tabM impl_ValidWhole_tab) := tabD_cons impl_isWhole_Fok (tabD_nil _)
noncomputable def impl_ValidWhole_T (v636 : Int) (v637 : Int) (v638 : List Int) : Tree (Bool) :=
  (.call (impl_isWhole_g v636 v637 v638 (1000000 : Int)) fun v639 =>
  .leaf v639)

noncomputable def impl_ValidWhole_g (v636 : Int) (v637 : Int) (v638 : List Int) : Option (Bool) := (impl_ValidWhole_T v636 v637 v638).run
def impl_ValidWhole_enc (v636 : Int) (v637 : Int) (v638 : List Int) (y : Bool) : Rs := (.bool y, [])
theorem impl_ValidWhole_den (v636 : Int) (v637 : Int) (v638 : List Int) : (den TT (tabD impl_ValidWhole_tab) (tabM impl_ValidWhole_tab) (impl_ValidWhole_LO v636 v637 v638) (codeOf Try.f65) ([.agg [.int .i64 v636, .int .i64 v637, .bslc (BR.root 0) (.i64 v638)]] ++ List.replicate (Try.f65.ntmps - ([.agg [.int .i64 v636, .int .i64 v637, .bslc (BR.root 0) (.i64 v638)]] : List DV).length) .undef) []).bind (retD TT Try.f65.results.toList 0) = (impl_ValidWhole_T v636 v637 v638).bind fun y => .leaf (impl_ValidWhole_enc v636 v637 v638 y) := by kernel_rfl
theorem impl_ValidWhole_fn (v636 : Int) (v637 : Int) (v638 : List Int) (F : Fr) (hm : F.ids.length = 0) (h0 : St F [] F.H0) (hA : DVs.Ok F [] [.agg [.int .i64 v636, .int .i64 v637, .bslc (BR.root 0) (.i64 v638)]]) {y : Bool} (hy : impl_ValidWhole_g v636 v637 v638 = some y) : ∃ H', FnOk Try.prog 65 (DVs.av F [.agg [.int .i64 v636, .int .i64 v637, .bslc (BR.root 0) (.i64 v638)]]) F.H0 ((impl_ValidWhole_enc v636 v637 v638 y).1.av F) H' ∧ St F (impl_ValidWhole_enc v636 v637 v638 y).2 H' ∧ (impl_ValidWhole_enc v636 v637 v638 y).1.Ok F (impl_ValidWhole_enc v636 v637 v638 y).2 :=
  fn_fin tok impl_ValidWhole_hO mixed Try.func65 Try.call65 (by kernel_rfl) (LoopsOk_eq (l := []) (by kernel_rfl) trivial) (impl_ValidWhole_den v636 v637 v638) hy hm h0 hA
noncomputable def impl_ValidWhole_F : DFn := fun args L =>
  match args with
  | [.agg [.int .i64 v636, .int .i64 v637, a1]] =>
    optT (rowI64 L a1) fun v638 =>
    .call (impl_ValidWhole_g v636 v637 v638) fun y => .leaf (.bool y, L)
  | _ => .fail
theorem impl_ValidWhole_Fok : COk Try.prog 65 impl_ValidWhole_F true := by
  intro F L H args r L' hs ha hr
  unfold impl_ValidWhole_F at hr
  split at hr
  · rename_i v636 v637 a1
    obtain ⟨v638, hv638, hr⟩ := optT_run hr
    simp only [Tree.run] at hr
    obtain ⟨y, hy, hr⟩ := Option.bind_eq_some_iff.1 hr
    simp only [Tree.run, Option.some.injEq, Prod.mk.injEq] at hr
    obtain ⟨rfl, rfl⟩ := hr
    exact call_ok0 hs (fun k => (([a1.av F] : List AV)[k]?).getD .top) [.agg [.int .i64 v636, .int .i64 v637, a1]] [.agg [.int .i64 v636, .int .i64 v637, .bslc (BR.root 0) (.i64 v638)]] (fun F' h0 hi hρ => ⟨by simp [DVs.av, DV.av, BR.av, hρ], impl_ValidWhole_fn v636 v637 v638 F' (by rw [hi]; rfl) (st_nil hi) ⟨⟨trivial, trivial, bslc_ok hi (by rw [h0, hρ]; exact rowI64_ok hs (DVs.okAt (DVs.okAt ha 0 rfl) 2 rfl) hv638), trivial⟩, trivial⟩ hy⟩) rfl
  · cases hr
/-! (impl.Whole).valid -/
noncomputable def impl_Whole_valid_LO (v633 : Int) (v634 : Int) (v635 : List Int) : LOr := fun id e L =>
  match id with
  | _ => .fail
noncomputable def impl_Whole_valid_tab : List (FuncId × DFn × Bool) := [(65, impl_ValidWhole_F, true)]
theorem impl_Whole_valid_hO : OrcOk Try.prog (tabD impl_Whole_valid_tab) (tabM impl_Whole_valid_tab) := tabD_cons impl_ValidWhole_Fok (tabD_nil _)
noncomputable def impl_Whole_valid_T (v633 : Int) (v634 : Int) (v635 : List Int) : Tree ((Unit) ⊕ (Int × Int)) :=
  (.call (impl_ValidWhole_g v633 v634 v635) fun v640 =>
  (.br (!v640) (
   .leaf (.inl ())
  ) (
   .leaf (.inr (v633, v634))
  )))

noncomputable def impl_Whole_valid_g (v633 : Int) (v634 : Int) (v635 : List Int) : Option ((Unit) ⊕ (Int × Int)) := (impl_Whole_valid_T v633 v634 v635).run
def impl_Whole_valid_enc (v633 : Int) (v634 : Int) (v635 : List Int) (y : (Unit) ⊕ (Int × Int)) : Rs := (match y with | .inl y => (.tup [.agg [.int .i64 (0 : Int), .int .i64 (0 : Int), .nilslc], .lit false], []) | .inr y => (.tup [.agg [.int .i64 y.1, .int .i64 y.2, .bslc (BR.root 0) (.i64 v635)], .lit true], []))
theorem impl_Whole_valid_den (v633 : Int) (v634 : Int) (v635 : List Int) : (den TT (tabD impl_Whole_valid_tab) (tabM impl_Whole_valid_tab) (impl_Whole_valid_LO v633 v634 v635) (codeOf Try.f89) ([.agg [.int .i64 v633, .int .i64 v634, .bslc (BR.root 0) (.i64 v635)]] ++ List.replicate (Try.f89.ntmps - ([.agg [.int .i64 v633, .int .i64 v634, .bslc (BR.root 0) (.i64 v635)]] : List DV).length) .undef) []).bind (retD TT Try.f89.results.toList 0) = (impl_Whole_valid_T v633 v634 v635).bind fun y => .leaf (impl_Whole_valid_enc v633 v634 v635 y) := by kernel_rfl
theorem impl_Whole_valid_fn (v633 : Int) (v634 : Int) (v635 : List Int) (F : Fr) (hm : F.ids.length = 0) (h0 : St F [] F.H0) (hA : DVs.Ok F [] [.agg [.int .i64 v633, .int .i64 v634, .bslc (BR.root 0) (.i64 v635)]]) {y : (Unit) ⊕ (Int × Int)} (hy : impl_Whole_valid_g v633 v634 v635 = some y) : ∃ H', FnOk Try.prog 89 (DVs.av F [.agg [.int .i64 v633, .int .i64 v634, .bslc (BR.root 0) (.i64 v635)]]) F.H0 ((impl_Whole_valid_enc v633 v634 v635 y).1.av F) H' ∧ St F (impl_Whole_valid_enc v633 v634 v635 y).2 H' ∧ (impl_Whole_valid_enc v633 v634 v635 y).1.Ok F (impl_Whole_valid_enc v633 v634 v635 y).2 :=
  fn_fin tok impl_Whole_valid_hO mixed Try.func89 Try.call89 (by kernel_rfl) (LoopsOk_eq (l := []) (by kernel_rfl) trivial) (impl_Whole_valid_den v633 v634 v635) hy hm h0 hA
noncomputable def impl_Whole_valid_F : DFn := fun args L =>
  match args with
  | [.agg [.int .i64 v633, .int .i64 v634, a1]] =>
    optT (rowI64 L a1) fun v635 =>
    .call (impl_Whole_valid_g v633 v634 v635) fun y => .sum y (fun y0 => .leaf (.tup [.agg [.int .i64 (0 : Int), .int .i64 (0 : Int), .nilslc], .lit false], L)) (fun z0 => .leaf (.tup [.agg [.int .i64 z0.1, .int .i64 z0.2, a1], .lit true], L))
  | _ => .fail
theorem impl_Whole_valid_Fok : COk Try.prog 89 impl_Whole_valid_F true := by
  intro F L H args r L' hs ha hr
  unfold impl_Whole_valid_F at hr
  split at hr
  · rename_i v633 v634 a1
    obtain ⟨v635, hv635, hr⟩ := optT_run hr
    simp only [Tree.run] at hr
    obtain ⟨y, hy, hr⟩ := Option.bind_eq_some_iff.1 hr
    cases y with
    | inl y =>
      simp only [Tree.run, Option.some.injEq, Prod.mk.injEq] at hr
      obtain ⟨rfl, rfl⟩ := hr
      exact call_ok0 hs (fun k => (([a1.av F] : List AV)[k]?).getD .top) [.agg [.int .i64 v633, .int .i64 v634, a1]] [.agg [.int .i64 v633, .int .i64 v634, .bslc (BR.root 0) (.i64 v635)]] (fun F' h0 hi hρ => ⟨by simp [DVs.av, DV.av, BR.av, hρ], impl_Whole_valid_fn v633 v634 v635 F' (by rw [hi]; rfl) (st_nil hi) ⟨⟨trivial, trivial, bslc_ok hi (by rw [h0, hρ]; exact rowI64_ok hs (DVs.okAt (DVs.okAt ha 0 rfl) 2 rfl) hv635), trivial⟩, trivial⟩ hy⟩) rfl
    | inr y =>
      simp only [Tree.run, Option.some.injEq, Prod.mk.injEq] at hr
      obtain ⟨rfl, rfl⟩ := hr
      exact call_al0 hs (fun k => (([a1.av F] : List AV)[k]?).getD .top) [.agg [.int .i64 v633, .int .i64 v634, a1]] [.agg [.int .i64 v633, .int .i64 v634, .bslc (BR.root 0) (.i64 v635)]] (fun F' h0 hi hρ => ⟨by simp [DVs.av, DV.av, BR.av, hρ], impl_Whole_valid_fn v633 v634 v635 F' (by rw [hi]; rfl) (st_nil hi) ⟨⟨trivial, trivial, bslc_ok hi (by rw [h0, hρ]; exact rowI64_ok hs (DVs.okAt (DVs.okAt ha 0 rfl) 2 rfl) hv635), trivial⟩, trivial⟩ hy⟩) (fun F' h0 hi hρ => by simp [impl_Whole_valid_enc, DVs.av, DV.av, BR.av, hρ]) ⟨⟨trivial, trivial, (DVs.okAt (DVs.okAt ha 0 rfl) 2 rfl), trivial⟩, trivial, trivial⟩
  · cases hr
/-! impl.AdjointOf -/
noncomputable def impl_AdjointOf_LO (v269 : Int) (v270 : Int) (v271 : List Int) : LOr := fun id e L =>
  match id with
  | _ => .fail
noncomputable def impl_AdjointOf_tab : List (FuncId × DFn × Bool) := [(78, impl_isLow_F, true), (86, impl_wholeBy_F, true), (89, impl_Whole_valid_F, true)]
theorem impl_AdjointOf_hO : OrcOk Try.prog (tabD impl_AdjointOf_tab) (tabM impl_AdjointOf_tab) := tabD_cons impl_isLow_Fok (tabD_cons impl_wholeBy_Fok (tabD_cons impl_Whole_valid_Fok (tabD_nil _)))
noncomputable def impl_AdjointOf_T (v269 : Int) (v270 : Int) (v271 : List Int) : Tree ((Unit) ⊕ ((Int × Int) ⊕ (Int × Int × (List Int)))) :=
  (.call (impl_isLow_g v269 v270 v271) fun v305 =>
  (.br (!v305) (
   .leaf (.inl ())
  ) (
   (.br (!decide (v269 = v270)) (
    .leaf (.inl ())
   ) (
    (.br (decide ((4 : Int) < v269)) (
     .leaf (.inl ())
    ) (
     (.call (impl_wholeBy_g v269 v269 v269 v270 v271) fun v630 =>
     (.sum v630 (fun v631 =>
      (.call (impl_Whole_valid_g v631.1 v631.2 ([] : List Int)) fun v641 =>
      (.sum v641 (fun v642 =>
       .leaf (.inl ())
      ) (fun v643 =>
       .leaf (.inr (.inl (v643.1, v643.2)))
      )))
     ) (fun v632 =>
      (.call (impl_Whole_valid_g v632.1 v632.2.1 v632.2.2) fun v644 =>
      (.sum v644 (fun v645 =>
       .leaf (.inl ())
      ) (fun v646 =>
       .leaf (.inr (.inr (v646.1, v646.2, v632.2.2)))
      )))
     )))
    ))
   ))
  )))

noncomputable def impl_AdjointOf_g (v269 : Int) (v270 : Int) (v271 : List Int) : Option ((Unit) ⊕ ((Int × Int) ⊕ (Int × Int × (List Int)))) := (impl_AdjointOf_T v269 v270 v271).run
def impl_AdjointOf_enc (v269 : Int) (v270 : Int) (v271 : List Int) (y : (Unit) ⊕ ((Int × Int) ⊕ (Int × Int × (List Int)))) : Rs := (match y with | .inl y => (.tup [.agg [.int .i64 (0 : Int), .int .i64 (0 : Int), .nilslc], .lit false], []) | .inr y => (match y with | .inl y => (.tup [.agg [.int .i64 y.1, .int .i64 y.2, .nilslc], .lit true], []) | .inr y => (.tup [.agg [.int .i64 y.1, .int .i64 y.2.1, .own 0 0 ((y.2.2).length)], .lit true], [.row (.i64 y.2.2) 0])))
theorem impl_AdjointOf_den (v269 : Int) (v270 : Int) (v271 : List Int) : (den TT (tabD impl_AdjointOf_tab) (tabM impl_AdjointOf_tab) (impl_AdjointOf_LO v269 v270 v271) (codeOf Try.f37) ([.agg [.int .i64 v269, .int .i64 v270, .bslc (BR.root 0) (.i64 v271)]] ++ List.replicate (Try.f37.ntmps - ([.agg [.int .i64 v269, .int .i64 v270, .bslc (BR.root 0) (.i64 v271)]] : List DV).length) .undef) []).bind (retD TT Try.f37.results.toList 0) = (impl_AdjointOf_T v269 v270 v271).bind fun y => .leaf (impl_AdjointOf_enc v269 v270 v271 y) := by kernel_rfl
theorem impl_AdjointOf_fn (v269 : Int) (v270 : Int) (v271 : List Int) (F : Fr) (hm : F.ids.length = 0) (h0 : St F [] F.H0) (hA : DVs.Ok F [] [.agg [.int .i64 v269, .int .i64 v270, .bslc (BR.root 0) (.i64 v271)]]) {y : (Unit) ⊕ ((Int × Int) ⊕ (Int × Int × (List Int)))} (hy : impl_AdjointOf_g v269 v270 v271 = some y) : ∃ H', FnOk Try.prog 37 (DVs.av F [.agg [.int .i64 v269, .int .i64 v270, .bslc (BR.root 0) (.i64 v271)]]) F.H0 ((impl_AdjointOf_enc v269 v270 v271 y).1.av F) H' ∧ St F (impl_AdjointOf_enc v269 v270 v271 y).2 H' ∧ (impl_AdjointOf_enc v269 v270 v271 y).1.Ok F (impl_AdjointOf_enc v269 v270 v271 y).2 :=
  fn_fin tok impl_AdjointOf_hO mixed Try.func37 Try.call37 (by kernel_rfl) (LoopsOk_eq (l := []) (by kernel_rfl) trivial) (impl_AdjointOf_den v269 v270 v271) hy hm h0 hA
noncomputable def impl_AdjointOf_F : DFn := fun args L =>
  match args with
  | [.agg [.int .i64 v269, .int .i64 v270, a1]] =>
    optT (rowI64 L a1) fun v271 =>
    .call (impl_AdjointOf_g v269 v270 v271) fun y => .sum y (fun y0 => .leaf (.tup [.agg [.int .i64 (0 : Int), .int .i64 (0 : Int), .nilslc], .lit false], L)) (fun z0 => .sum z0 (fun y1 => .leaf (.tup [.agg [.int .i64 y1.1, .int .i64 y1.2, .nilslc], .lit true], L)) (fun z1 => .leaf (.tup [.agg [.int .i64 z1.1, .int .i64 z1.2.1, .own (L.length + 0) 0 ((z1.2.2).length)], .lit true], L ++ [.row (.i64 z1.2.2) 0])))
  | _ => .fail
theorem impl_AdjointOf_Fok : COk Try.prog 37 impl_AdjointOf_F true := by
  intro F L H args r L' hs ha hr
  unfold impl_AdjointOf_F at hr
  split at hr
  · rename_i v269 v270 a1
    obtain ⟨v271, hv271, hr⟩ := optT_run hr
    simp only [Tree.run] at hr
    obtain ⟨y, hy, hr⟩ := Option.bind_eq_some_iff.1 hr
    cases y with
    | inl y =>
      simp only [Tree.run, Option.some.injEq, Prod.mk.injEq] at hr
      obtain ⟨rfl, rfl⟩ := hr
      exact call_ok0 hs (fun k => (([a1.av F] : List AV)[k]?).getD .top) [.agg [.int .i64 v269, .int .i64 v270, a1]] [.agg [.int .i64 v269, .int .i64 v270, .bslc (BR.root 0) (.i64 v271)]] (fun F' h0 hi hρ => ⟨by simp [DVs.av, DV.av, BR.av, hρ], impl_AdjointOf_fn v269 v270 v271 F' (by rw [hi]; rfl) (st_nil hi) ⟨⟨trivial, trivial, bslc_ok hi (by rw [h0, hρ]; exact rowI64_ok hs (DVs.okAt (DVs.okAt ha 0 rfl) 2 rfl) hv271), trivial⟩, trivial⟩ hy⟩) rfl
    | inr y =>
      cases y with
      | inl y =>
        simp only [Tree.run, Option.some.injEq, Prod.mk.injEq] at hr
        obtain ⟨rfl, rfl⟩ := hr
        exact call_ok0 hs (fun k => (([a1.av F] : List AV)[k]?).getD .top) [.agg [.int .i64 v269, .int .i64 v270, a1]] [.agg [.int .i64 v269, .int .i64 v270, .bslc (BR.root 0) (.i64 v271)]] (fun F' h0 hi hρ => ⟨by simp [DVs.av, DV.av, BR.av, hρ], impl_AdjointOf_fn v269 v270 v271 F' (by rw [hi]; rfl) (st_nil hi) ⟨⟨trivial, trivial, bslc_ok hi (by rw [h0, hρ]; exact rowI64_ok hs (DVs.okAt (DVs.okAt ha 0 rfl) 2 rfl) hv271), trivial⟩, trivial⟩ hy⟩) rfl
      | inr y =>
        simp only [Tree.run, Option.some.injEq, Prod.mk.injEq] at hr
        obtain ⟨rfl, rfl⟩ := hr
        exact call_ok1 hs (fun k => (([a1.av F] : List AV)[k]?).getD .top) [.agg [.int .i64 v269, .int .i64 v270, a1]] [.agg [.int .i64 v269, .int .i64 v270, .bslc (BR.root 0) (.i64 v271)]] (fun F' h0 hi hρ => ⟨by simp [DVs.av, DV.av, BR.av, hρ], impl_AdjointOf_fn v269 v270 v271 F' (by rw [hi]; rfl) (st_nil hi) ⟨⟨trivial, trivial, bslc_ok hi (by rw [h0, hρ]; exact rowI64_ok hs (DVs.okAt (DVs.okAt ha 0 rfl) 2 rfl) hv271), trivial⟩, trivial⟩ hy⟩) rfl rfl
  · cases hr
/-! laws.eqInt64S -/
noncomputable def laws_eqInt64S_l0_T (v656 : List Int) (v657 : List Int) (s : Int) : Tree ((Int) ⊕ ((Unit) ⊕ (Unit))) :=
  (.br (decide (s < ((v656.length : Nat) : Int))) (
   (.grd (inb s v656.length) <|
   (.grd (inb s v657.length) <|
   (.br (!decide (nth v656 (Int.toNat s) = nth v657 (Int.toNat s))) (
    .leaf (.inr (.inl ()))
   ) (
    .leaf (.inl (IntKind.i64.wrap (s + (1 : Int))))
   ))))
  ) (
   .leaf (.inr (.inr ()))
  ))

noncomputable def laws_eqInt64S_l0_g (v656 : List Int) (v657 : List Int) (s0 : Int) : Option ((Unit) ⊕ (Unit)) := whileM (fun s => (laws_eqInt64S_l0_T v656 v657 s).run) s0
def laws_eqInt64S_l0_E (v656 : List Int) (v657 : List Int) (s : Int) : Sd := ([.bslc (BR.root 0) (.i64 v656), .bslc (BR.root 1) (.i64 v657), .top, .top, .top, .int .i64 s, .top, .top, .top, .top, .top, .top, .top, .top, .top, .top, .top, .top, .top, .top, .top, .top, .top, .top, .top, .top], [])
def laws_eqInt64S_l0_X (v656 : List Int) (v657 : List Int) (x : (Unit) ⊕ (Unit)) : Out := (match x with | .inl x => (.ret, [.top, .top, .top, .top, .lit false, .top, .top, .top, .top, .top, .top, .top, .top, .top, .top, .top, .top, .top, .top, .top, .top, .top, .top, .top, .top, .top], []) | .inr x => (.normal, [.top, .top, .top, .top, .top, .top, .top, .top, .top, .top, .top, .top, .top, .top, .top, .top, .top, .top, .top, .top, .top, .top, .top, .top, .top, .top], []))
def laws_eqInt64S_l0_kill : List Nat := [0, 0, 1, 1, 1, 0, 1, 1, 1, 1, 1, 1, 1, 1, 1, 1, 1, 1, 1, 1, 1, 1, 1, 1, 1, 1]
def laws_eqInt64S_l0_nx : Exit → List Nat
  | .exit 0 => [1, 1, 1, 1, 1, 1, 1, 1, 1, 1, 1, 1, 1, 1, 1, 1, 1, 1, 1, 1, 1, 1, 1, 1, 1, 1]
  | .ret => [1, 1, 1, 1, 0, 1, 1, 1, 1, 1, 1, 1, 1, 1, 1, 1, 1, 1, 1, 1, 1, 1, 1, 1, 1, 1]
  | _ => []
noncomputable def laws_eqInt64S_LO (v656 : List Int) (v657 : List Int) : LOr := fun id e L =>
  match id with
  | 0 => .need (normA 0 laws_eqInt64S_l0_kill e L = some (laws_eqInt64S_l0_E v656 v657 (gI (vAt e 5)))) (.call (laws_eqInt64S_l0_g v656 v657 (gI (vAt e 5))) fun x => .sum x (fun b0 => .leaf (laws_eqInt64S_l0_X v656 v657 (.inl b0))) (fun c0 => .leaf (laws_eqInt64S_l0_X v656 v657 (.inr c0))))
  | _ => .fail
noncomputable def laws_eqInt64S_tab : List (FuncId × DFn × Bool) := []
theorem laws_eqInt64S_hO : OrcOk Try.prog (tabD laws_eqInt64S_tab) (tabM laws_eqInt64S_tab) := tabD_nil _
theorem laws_eqInt64S_l0_be (v656 : List Int) (v657 : List Int) (s : Int) : bodyT TT (tabD laws_eqInt64S_tab) (tabM laws_eqInt64S_tab) (laws_eqInt64S_LO v656 v657) 0 laws_eqInt64S_l0_kill laws_eqInt64S_l0_nx (bodyOf Try.f25 0) 0 (laws_eqInt64S_l0_E v656 v657 s) = (laws_eqInt64S_l0_T v656 v657 s).bind fun y => .leaf (outS (laws_eqInt64S_l0_E v656 v657) (laws_eqInt64S_l0_X v656 v657) y) := by kernel_rfl
theorem laws_eqInt64S_l0_ok (v656 : List Int) (v657 : List Int) : LSound Try.prog 0 (laws_eqInt64S_LO v656 v657) 0 (bodyOf Try.f25 0) := by
  intro e L out h
  exact lo_ok (E := laws_eqInt64S_l0_E v656 v657) (gT := laws_eqInt64S_l0_T v656 v657) (X := laws_eqInt64S_l0_X v656 v657) (s0 := (gI (vAt e 5))) tok laws_eqInt64S_hO mixed (LoopsOk_eq (l := []) (by kernel_rfl) trivial) (laws_eqInt64S_l0_be v656 v657) rfl (by intro x; (cases x with | inl b => rfl | inr x => exact rfl)) h
noncomputable def laws_eqInt64S_T (v656 : List Int) (v657 : List Int) : Tree (Bool) :=
  (.br (!decide (((v656.length : Nat) : Int) = ((v657.length : Nat) : Int))) (
   .leaf false
  ) (
   (.need (some (laws_eqInt64S_l0_E v656 v657 (0 : Int)) = some (laws_eqInt64S_l0_E v656 v657 (0 : Int))) <|
   (.call (laws_eqInt64S_l0_g v656 v657 (0 : Int)) fun v661 =>
   (.sum v661 (fun v662 =>
    .leaf false
   ) (fun v663 =>
    .leaf true
   ))))
  ))

noncomputable def laws_eqInt64S_g (v656 : List Int) (v657 : List Int) : Option (Bool) := (laws_eqInt64S_T v656 v657).run
def laws_eqInt64S_enc (v656 : List Int) (v657 : List Int) (y : Bool) : Rs := (.bool y, [])
theorem laws_eqInt64S_den (v656 : List Int) (v657 : List Int) : (den TT (tabD laws_eqInt64S_tab) (tabM laws_eqInt64S_tab) (laws_eqInt64S_LO v656 v657) (codeOf Try.f25) ([.bslc (BR.root 0) (.i64 v656), .bslc (BR.root 1) (.i64 v657)] ++ List.replicate (Try.f25.ntmps - ([.bslc (BR.root 0) (.i64 v656), .bslc (BR.root 1) (.i64 v657)] : List DV).length) .undef) []).bind (retD TT Try.f25.results.toList 0) = (laws_eqInt64S_T v656 v657).bind fun y => .leaf (laws_eqInt64S_enc v656 v657 y) := by kernel_rfl
theorem laws_eqInt64S_fn (v656 : List Int) (v657 : List Int) (F : Fr) (hm : F.ids.length = 0) (h0 : St F [] F.H0) (hA : DVs.Ok F [] [.bslc (BR.root 0) (.i64 v656), .bslc (BR.root 1) (.i64 v657)]) {y : Bool} (hy : laws_eqInt64S_g v656 v657 = some y) : ∃ H', FnOk Try.prog 25 (DVs.av F [.bslc (BR.root 0) (.i64 v656), .bslc (BR.root 1) (.i64 v657)]) F.H0 ((laws_eqInt64S_enc v656 v657 y).1.av F) H' ∧ St F (laws_eqInt64S_enc v656 v657 y).2 H' ∧ (laws_eqInt64S_enc v656 v657 y).1.Ok F (laws_eqInt64S_enc v656 v657 y).2 :=
  fn_fin tok laws_eqInt64S_hO mixed Try.func25 Try.call25 (by kernel_rfl) (LoopsOk_eq (l := [(0, bodyOf Try.f25 0)]) (by kernel_rfl) ⟨laws_eqInt64S_l0_ok v656 v657, trivial⟩) (laws_eqInt64S_den v656 v657) hy hm h0 hA
noncomputable def laws_eqInt64S_F : DFn := fun args L =>
  match args with
  | [a1, a2] =>
    optT (rowI64 L a1) fun v656 =>
    optT (rowI64 L a2) fun v657 =>
    .call (laws_eqInt64S_g v656 v657) fun y => .leaf (.bool y, L)
  | _ => .fail
theorem laws_eqInt64S_Fok : COk Try.prog 25 laws_eqInt64S_F true := by
  intro F L H args r L' hs ha hr
  unfold laws_eqInt64S_F at hr
  split at hr
  · rename_i a1 a2
    obtain ⟨v656, hv656, hr⟩ := optT_run hr
    obtain ⟨v657, hv657, hr⟩ := optT_run hr
    simp only [Tree.run] at hr
    obtain ⟨y, hy, hr⟩ := Option.bind_eq_some_iff.1 hr
    simp only [Tree.run, Option.some.injEq, Prod.mk.injEq] at hr
    obtain ⟨rfl, rfl⟩ := hr
    exact call_ok0 hs (fun k => (([a1.av F, a2.av F] : List AV)[k]?).getD .top) [a1, a2] [.bslc (BR.root 0) (.i64 v656), .bslc (BR.root 1) (.i64 v657)] (fun F' h0 hi hρ => ⟨by simp [DVs.av, DV.av, BR.av, hρ], laws_eqInt64S_fn v656 v657 F' (by rw [hi]; rfl) (st_nil hi) ⟨bslc_ok hi (by rw [h0, hρ]; exact rowI64_ok hs (DVs.okAt ha 0 rfl) hv656), bslc_ok hi (by rw [h0, hρ]; exact rowI64_ok hs (DVs.okAt ha 1 rfl) hv657), trivial⟩ hy⟩) rfl
  · cases hr
/-! laws.eqWhole -/
noncomputable def laws_eqWhole_LO (v650 : Int) (v651 : Int) (v652 : List Int) (v653 : Int) (v654 : Int) (v655 : List Int) : LOr := fun id e L =>
  match id with
  | _ => .fail
noncomputable def laws_eqWhole_tab : List (FuncId × DFn × Bool) := [(25, laws_eqInt64S_F, true)]
theorem laws_eqWhole_hO : OrcOk Try.prog (tabD laws_eqWhole_tab) (tabM laws_eqWhole_tab) := tabD_cons laws_eqInt64S_Fok (tabD_nil _)
noncomputable def laws_eqWhole_T (v650 : Int) (v651 : Int) (v652 : List Int) (v653 : Int) (v654 : Int) (v655 : List Int) : Tree (Bool) :=
  (.br (!decide (v650 = v653)) (
   .leaf false
  ) (
   (.br (!decide (v651 = v654)) (
    .leaf false
   ) (
    (.call (laws_eqInt64S_g v652 v655) fun v664 =>
    (.br (!v664) (
     .leaf false
    ) (
     .leaf true
    )))
   ))
  ))

noncomputable def laws_eqWhole_g (v650 : Int) (v651 : Int) (v652 : List Int) (v653 : Int) (v654 : Int) (v655 : List Int) : Option (Bool) := (laws_eqWhole_T v650 v651 v652 v653 v654 v655).run
def laws_eqWhole_enc (v650 : Int) (v651 : Int) (v652 : List Int) (v653 : Int) (v654 : Int) (v655 : List Int) (y : Bool) : Rs := (.bool y, [])
theorem laws_eqWhole_den (v650 : Int) (v651 : Int) (v652 : List Int) (v653 : Int) (v654 : Int) (v655 : List Int) : (den TT (tabD laws_eqWhole_tab) (tabM laws_eqWhole_tab) (laws_eqWhole_LO v650 v651 v652 v653 v654 v655) (codeOf Try.f19) ([.agg [.int .i64 v650, .int .i64 v651, .bslc (BR.root 0) (.i64 v652)], .agg [.int .i64 v653, .int .i64 v654, .bslc (BR.root 1) (.i64 v655)]] ++ List.replicate (Try.f19.ntmps - ([.agg [.int .i64 v650, .int .i64 v651, .bslc (BR.root 0) (.i64 v652)], .agg [.int .i64 v653, .int .i64 v654, .bslc (BR.root 1) (.i64 v655)]] : List DV).length) .undef) []).bind (retD TT Try.f19.results.toList 0) = (laws_eqWhole_T v650 v651 v652 v653 v654 v655).bind fun y => .leaf (laws_eqWhole_enc v650 v651 v652 v653 v654 v655 y) := by kernel_rfl
theorem laws_eqWhole_fn (v650 : Int) (v651 : Int) (v652 : List Int) (v653 : Int) (v654 : Int) (v655 : List Int) (F : Fr) (hm : F.ids.length = 0) (h0 : St F [] F.H0) (hA : DVs.Ok F [] [.agg [.int .i64 v650, .int .i64 v651, .bslc (BR.root 0) (.i64 v652)], .agg [.int .i64 v653, .int .i64 v654, .bslc (BR.root 1) (.i64 v655)]]) {y : Bool} (hy : laws_eqWhole_g v650 v651 v652 v653 v654 v655 = some y) : ∃ H', FnOk Try.prog 19 (DVs.av F [.agg [.int .i64 v650, .int .i64 v651, .bslc (BR.root 0) (.i64 v652)], .agg [.int .i64 v653, .int .i64 v654, .bslc (BR.root 1) (.i64 v655)]]) F.H0 ((laws_eqWhole_enc v650 v651 v652 v653 v654 v655 y).1.av F) H' ∧ St F (laws_eqWhole_enc v650 v651 v652 v653 v654 v655 y).2 H' ∧ (laws_eqWhole_enc v650 v651 v652 v653 v654 v655 y).1.Ok F (laws_eqWhole_enc v650 v651 v652 v653 v654 v655 y).2 :=
  fn_fin tok laws_eqWhole_hO mixed Try.func19 Try.call19 (by kernel_rfl) (LoopsOk_eq (l := []) (by kernel_rfl) trivial) (laws_eqWhole_den v650 v651 v652 v653 v654 v655) hy hm h0 hA
noncomputable def laws_eqWhole_F : DFn := fun args L =>
  match args with
  | [.agg [.int .i64 v650, .int .i64 v651, a1], .agg [.int .i64 v653, .int .i64 v654, a2]] =>
    optT (rowI64 L a1) fun v652 =>
    optT (rowI64 L a2) fun v655 =>
    .call (laws_eqWhole_g v650 v651 v652 v653 v654 v655) fun y => .leaf (.bool y, L)
  | _ => .fail
theorem laws_eqWhole_Fok : COk Try.prog 19 laws_eqWhole_F true := by
  intro F L H args r L' hs ha hr
  unfold laws_eqWhole_F at hr
  split at hr
  · rename_i v650 v651 a1 v653 v654 a2
    obtain ⟨v652, hv652, hr⟩ := optT_run hr
    obtain ⟨v655, hv655, hr⟩ := optT_run hr
    simp only [Tree.run] at hr
    obtain ⟨y, hy, hr⟩ := Option.bind_eq_some_iff.1 hr
    simp only [Tree.run, Option.some.injEq, Prod.mk.injEq] at hr
    obtain ⟨rfl, rfl⟩ := hr
    exact call_ok0 hs (fun k => (([a1.av F, a2.av F] : List AV)[k]?).getD .top) [.agg [.int .i64 v650, .int .i64 v651, a1], .agg [.int .i64 v653, .int .i64 v654, a2]] [.agg [.int .i64 v650, .int .i64 v651, .bslc (BR.root 0) (.i64 v652)], .agg [.int .i64 v653, .int .i64 v654, .bslc (BR.root 1) (.i64 v655)]] (fun F' h0 hi hρ => ⟨by simp [DVs.av, DV.av, BR.av, hρ], laws_eqWhole_fn v650 v651 v652 v653 v654 v655 F' (by rw [hi]; rfl) (st_nil hi) ⟨⟨trivial, trivial, bslc_ok hi (by rw [h0, hρ]; exact rowI64_ok hs (DVs.okAt (DVs.okAt ha 0 rfl) 2 rfl) hv652), trivial⟩, ⟨trivial, trivial, bslc_ok hi (by rw [h0, hρ]; exact rowI64_ok hs (DVs.okAt (DVs.okAt ha 1 rfl) 2 rfl) hv655), trivial⟩, trivial⟩ hy⟩) rfl
  · cases hr
/-! laws.markInt64S -/
noncomputable def laws_markInt64S_l0_T (s : Int × Int × (List Int)) : Tree ((Int × Int × (List Int)) ⊕ (Int × (List Int))) :=
  (.br (decide (s.2.1 < (((s.2.2).length : Nat) : Int))) (
   (.grd (inb s.2.1 ((s.2.2).length)) <|
   .leaf (.inl (IntKind.i64.wrap (s.1 + (1 : Int)), IntKind.i64.wrap (s.2.1 + (1 : Int)), List.set s.2.2 (Int.toNat s.2.1) s.1)))
  ) (
   .leaf (.inr (s.1, s.2.2))
  ))

noncomputable def laws_markInt64S_l0_g (s0 : Int × Int × (List Int)) : Option (Int × (List Int)) := whileM (fun s => (laws_markInt64S_l0_T s).run) s0
def laws_markInt64S_l0_E (v676 : List Int) (v677 : Int) (s : Int × Int × (List Int)) : Sd := ([.own 0 0 ((s.2.2).length), .int .i64 s.1, .top, .top, .top, .int .i64 s.2.1, .top, .top, .top, .top, .top, .top, .top, .top, .top, .top, .top, .top, .top], [.row (.i64 s.2.2) 0])
def laws_markInt64S_l0_X (v676 : List Int) (v677 : Int) (x : Int × (List Int)) : Out := (.normal, [.top, .int .i64 x.1, .top, .top, .top, .top, .top, .top, .top, .top, .top, .top, .top, .top, .top, .top, .top, .top, .top], [.row (.i64 x.2) 0])
def laws_markInt64S_l0_kill : List Nat := [0, 0, 1, 1, 1, 0, 1, 1, 1, 1, 1, 1, 1, 1, 1, 1, 1, 1, 1]
def laws_markInt64S_l0_nx : Exit → List Nat
  | .exit 0 => [1, 0, 1, 1, 1, 1, 1, 1, 1, 1, 1, 1, 1, 1, 1, 1, 1, 1, 1]
  | .ret => [1, 1, 1, 1, 0, 1, 1, 1, 1, 1, 1, 1, 1, 1, 1, 1, 1, 1, 1]
  | _ => []
noncomputable def laws_markInt64S_LO (v676 : List Int) (v677 : Int) : LOr := fun id e L =>
  match id with
  | 0 => .need (normA 1 laws_markInt64S_l0_kill e L = some (laws_markInt64S_l0_E v676 v677 ((gI (vAt e 1)), (gI (vAt e 5)), (gRI L (vAt e 0))))) (.call (laws_markInt64S_l0_g ((gI (vAt e 1)), (gI (vAt e 5)), (gRI L (vAt e 0)))) fun x => .leaf (laws_markInt64S_l0_X v676 v677 x))
  | _ => .fail
noncomputable def laws_markInt64S_tab : List (FuncId × DFn × Bool) := []
theorem laws_markInt64S_hO : OrcOk Try.prog (tabD laws_markInt64S_tab) (tabM laws_markInt64S_tab) := tabD_nil _
theorem laws_markInt64S_l0_be (v676 : List Int) (v677 : Int) (s : Int × Int × (List Int)) : bodyT TT (tabD laws_markInt64S_tab) (tabM laws_markInt64S_tab) (laws_markInt64S_LO v676 v677) 1 laws_markInt64S_l0_kill laws_markInt64S_l0_nx (bodyOf Try.f27 0) 0 (laws_markInt64S_l0_E v676 v677 s) = (laws_markInt64S_l0_T s).bind fun y => .leaf (outS (laws_markInt64S_l0_E v676 v677) (laws_markInt64S_l0_X v676 v677) y) := by kernel_rfl
theorem laws_markInt64S_l0_ok (v676 : List Int) (v677 : Int) : LSound Try.prog 1 (laws_markInt64S_LO v676 v677) 0 (bodyOf Try.f27 0) := by
  intro e L out h
  exact lo_ok (E := laws_markInt64S_l0_E v676 v677) (gT := laws_markInt64S_l0_T) (X := laws_markInt64S_l0_X v676 v677) (s0 := ((gI (vAt e 1)), (gI (vAt e 5)), (gRI L (vAt e 0)))) tok laws_markInt64S_hO mixed (LoopsOk_eq (l := []) (by kernel_rfl) trivial) (laws_markInt64S_l0_be v676 v677) rfl (by intro x; rfl) h
noncomputable def laws_markInt64S_T (v676 : List Int) (v677 : Int) : Tree (Int × (List Int)) :=
  (.need (some (laws_markInt64S_l0_E v676 v677 (v677, (0 : Int), v676)) = some (laws_markInt64S_l0_E v676 v677 (v677, (0 : Int), v676))) <|
  (.call (laws_markInt64S_l0_g (v677, (0 : Int), v676)) fun v686 =>
  .leaf (v686.1, v686.2)))

noncomputable def laws_markInt64S_g (v676 : List Int) (v677 : Int) : Option (Int × (List Int)) := (laws_markInt64S_T v676 v677).run
def laws_markInt64S_enc (v676 : List Int) (v677 : Int) (y : Int × (List Int)) : Rs := (.int .i64 y.1, [.row (.i64 y.2) 0])
theorem laws_markInt64S_den (v676 : List Int) (v677 : Int) : (den TT (tabD laws_markInt64S_tab) (tabM laws_markInt64S_tab) (laws_markInt64S_LO v676 v677) (codeOf Try.f27) ([.own 0 0 v676.length, .int .i64 v677] ++ List.replicate (Try.f27.ntmps - ([.own 0 0 v676.length, .int .i64 v677] : List DV).length) .undef) [.row (.i64 v676) 0]).bind (retD TT Try.f27.results.toList 1) = (laws_markInt64S_T v676 v677).bind fun y => .leaf (laws_markInt64S_enc v676 v677 y) := by kernel_rfl
theorem laws_markInt64S_fn (v676 : List Int) (v677 : Int) (F : Fr) (hm : F.ids.length = 1) (h0 : St F [.row (.i64 v676) 0] F.H0) (hA : DVs.Ok F [.row (.i64 v676) 0] [.own 0 0 v676.length, .int .i64 v677]) {y : Int × (List Int)} (hy : laws_markInt64S_g v676 v677 = some y) : ∃ H', FnOk Try.prog 27 (DVs.av F [.own 0 0 v676.length, .int .i64 v677]) F.H0 ((laws_markInt64S_enc v676 v677 y).1.av F) H' ∧ St F (laws_markInt64S_enc v676 v677 y).2 H' ∧ (laws_markInt64S_enc v676 v677 y).1.Ok F (laws_markInt64S_enc v676 v677 y).2 :=
  fn_fin tok laws_markInt64S_hO mixed Try.func27 Try.call27 (by kernel_rfl) (LoopsOk_eq (l := [(0, bodyOf Try.f27 0)]) (by kernel_rfl) ⟨laws_markInt64S_l0_ok v676 v677, trivial⟩) (laws_markInt64S_den v676 v677) hy hm h0 hA
noncomputable def laws_markInt64S_F : DFn := fun args L =>
  match args with
  | [a1, .int .i64 v677] =>
    optT (ownI64 L a1) fun qv676 =>
    (match sepB [qv676.1] [] with
    | true =>
    .call (laws_markInt64S_g qv676.2 v677) fun y => .grd (decide (y.2.length = qv676.2.length)) (.leaf (.int .i64 y.1, setRows L ([qv676.1].zip [.i64 y.2])))
    | false => .fail)
  | _ => .fail
theorem laws_markInt64S_Fok : COk Try.prog 27 laws_markInt64S_F false := by
  intro F L H args r L' hs ha hr
  unfold laws_markInt64S_F at hr
  split at hr
  · rename_i a1 v677
    obtain ⟨⟨jv676, v676⟩, hqv676, hr⟩ := optT_run hr
    simp only at hr
    split at hr
    · rename_i hsep
      obtain ⟨hnd, hsepv⟩ := sepB_spec hsep
      simp only [Tree.run] at hr
      obtain ⟨y, hy, hr⟩ := Option.bind_eq_some_iff.1 hr
      try simp only [Tree.run] at hr
      obtain ⟨hl0, hr⟩ := ite_run hr
      simp only [Option.some.injEq, Prod.mk.injEq] at hr
      obtain ⟨rfl, rfl⟩ := hr
      obtain ⟨hr0, hu0, ha0, hb0⟩ := (ownR_spec (DVs.okAt ha 0 rfl) (ownI64_or hqv676))
      exact mut_ok hs (fun k => (([a1.av F] : List AV)[k]?).getD .top) [a1, .int .i64 v677] [.own 0 0 v676.length, .int .i64 v677] [jv676] [.i64 v676] [.i64 y.2] hnd rfl rfl (fun i j q h1 h2 => by
          rcases i with _ | i
          · simp at h1 h2; subst h1; subst h2; exact hr0
          · simp at h1) (fun i q q' h1 h2 => by
          rcases i with _ | i
          · simp at h1 h2; subst h1; subst h2; first | exact of_decide_eq_true hl0 | rfl
          · simp at h1) (fun j hj => by simp at hj; subst hj; simp [DVs.refs, DV.refs, hu0]) (fun F' h0 hi hρ hst hS => ⟨by (have ab0 : F'.abs 0 = F.abs jv676 := (by simp [Fr.abs, hi]); simp [DVs.av, DV.av, BR.av, hρ, Row.len, ha0, ab0]), by
          obtain ⟨H1, k1, k2, _⟩ := laws_markInt64S_fn v676 v677 F' (by rw [hi]; rfl) hst ⟨⟨_, rfl, Nat.le_refl _, Nat.le_refl _, fun _ => rfl, (ownR_spec (DVs.okAt ha 0 rfl) (ownI64_or hqv676)).2.2.2⟩, trivial, trivial⟩ hy
          exact ⟨H1, k1, k2⟩⟩) (fun F' => rfl) (fun L' => trivial)
    · cases hr
  · cases hr
/-! laws.markWhole -/
noncomputable def laws_markWhole_LO (v687 : Int) (v688 : Int) (v689 : List Int) (v690 : Int) : LOr := fun id e L =>
  match id with
  | _ => .fail
noncomputable def laws_markWhole_tab : List (FuncId × DFn × Bool) := [(27, laws_markInt64S_F, false)]
theorem laws_markWhole_hO : OrcOk Try.prog (tabD laws_markWhole_tab) (tabM laws_markWhole_tab) := tabD_cons laws_markInt64S_Fok (tabD_nil _)
noncomputable def laws_markWhole_T (v689 : List Int) (v690 : Int) : Tree (Int × (List Int)) :=
  (.call (laws_markInt64S_g v689 v690) fun v691 =>
  (.grd (decide (v691.2.length = v689.length)) <|
  .leaf (v691.1, v691.2)))

noncomputable def laws_markWhole_g (v689 : List Int) (v690 : Int) : Option (Int × (List Int)) := (laws_markWhole_T v689 v690).run
def laws_markWhole_enc (v687 : Int) (v688 : Int) (v689 : List Int) (v690 : Int) (y : Int × (List Int)) : Rs := (.int .i64 y.1, [.row (.i64 y.2) 0])
theorem laws_markWhole_den (v687 : Int) (v688 : Int) (v689 : List Int) (v690 : Int) : (den TT (tabD laws_markWhole_tab) (tabM laws_markWhole_tab) (laws_markWhole_LO v687 v688 v689 v690) (codeOf Try.f26) ([.agg [.int .i64 v687, .int .i64 v688, .own 0 0 v689.length], .int .i64 v690] ++ List.replicate (Try.f26.ntmps - ([.agg [.int .i64 v687, .int .i64 v688, .own 0 0 v689.length], .int .i64 v690] : List DV).length) .undef) [.row (.i64 v689) 0]).bind (retD TT Try.f26.results.toList 1) = (laws_markWhole_T v689 v690).bind fun y => .leaf (laws_markWhole_enc v687 v688 v689 v690 y) := by kernel_rfl
theorem laws_markWhole_fn (v687 : Int) (v688 : Int) (v689 : List Int) (v690 : Int) (F : Fr) (hm : F.ids.length = 1) (h0 : St F [.row (.i64 v689) 0] F.H0) (hA : DVs.Ok F [.row (.i64 v689) 0] [.agg [.int .i64 v687, .int .i64 v688, .own 0 0 v689.length], .int .i64 v690]) {y : Int × (List Int)} (hy : laws_markWhole_g v689 v690 = some y) : ∃ H', FnOk Try.prog 26 (DVs.av F [.agg [.int .i64 v687, .int .i64 v688, .own 0 0 v689.length], .int .i64 v690]) F.H0 ((laws_markWhole_enc v687 v688 v689 v690 y).1.av F) H' ∧ St F (laws_markWhole_enc v687 v688 v689 v690 y).2 H' ∧ (laws_markWhole_enc v687 v688 v689 v690 y).1.Ok F (laws_markWhole_enc v687 v688 v689 v690 y).2 :=
  fn_fin tok laws_markWhole_hO mixed Try.func26 Try.call26 (by kernel_rfl) (LoopsOk_eq (l := []) (by kernel_rfl) trivial) (laws_markWhole_den v687 v688 v689 v690) hy hm h0 hA
noncomputable def laws_markWhole_F : DFn := fun args L =>
  match args with
  | [.agg [.int .i64 v687, .int .i64 v688, a1], .int .i64 v690] =>
    optT (ownI64 L a1) fun qv689 =>
    (match sepB [qv689.1] [] with
    | true =>
    .call (laws_markWhole_g qv689.2 v690) fun y => .grd (decide (y.2.length = qv689.2.length)) (.leaf (.int .i64 y.1, setRows L ([qv689.1].zip [.i64 y.2])))
    | false => .fail)
  | _ => .fail
theorem laws_markWhole_Fok : COk Try.prog 26 laws_markWhole_F false := by
  intro F L H args r L' hs ha hr
  unfold laws_markWhole_F at hr
  split at hr
  · rename_i v687 v688 a1 v690
    obtain ⟨⟨jv689, v689⟩, hqv689, hr⟩ := optT_run hr
    simp only at hr
    split at hr
    · rename_i hsep
      obtain ⟨hnd, hsepv⟩ := sepB_spec hsep
      simp only [Tree.run] at hr
      obtain ⟨y, hy, hr⟩ := Option.bind_eq_some_iff.1 hr
      try simp only [Tree.run] at hr
      obtain ⟨hl0, hr⟩ := ite_run hr
      simp only [Option.some.injEq, Prod.mk.injEq] at hr
      obtain ⟨rfl, rfl⟩ := hr
      obtain ⟨hr0, hu0, ha0, hb0⟩ := (ownR_spec (DVs.okAt (DVs.okAt ha 0 rfl) 2 rfl) (ownI64_or hqv689))
      exact mut_ok hs (fun k => (([a1.av F] : List AV)[k]?).getD .top) [.agg [.int .i64 v687, .int .i64 v688, a1], .int .i64 v690] [.agg [.int .i64 v687, .int .i64 v688, .own 0 0 v689.length], .int .i64 v690] [jv689] [.i64 v689] [.i64 y.2] hnd rfl rfl (fun i j q h1 h2 => by
          rcases i with _ | i
          · simp at h1 h2; subst h1; subst h2; exact hr0
          · simp at h1) (fun i q q' h1 h2 => by
          rcases i with _ | i
          · simp at h1 h2; subst h1; subst h2; first | exact of_decide_eq_true hl0 | rfl
          · simp at h1) (fun j hj => by simp at hj; subst hj; simp [DVs.refs, DV.refs, hu0]) (fun F' h0 hi hρ hst hS => ⟨by (have ab0 : F'.abs 0 = F.abs jv689 := (by simp [Fr.abs, hi]); simp [DVs.av, DV.av, BR.av, hρ, Row.len, ha0, ab0]), by
          obtain ⟨H1, k1, k2, _⟩ := laws_markWhole_fn v687 v688 v689 v690 F' (by rw [hi]; rfl) hst ⟨⟨trivial, trivial, ⟨_, rfl, Nat.le_refl _, Nat.le_refl _, fun _ => rfl, (ownR_spec (DVs.okAt (DVs.okAt ha 0 rfl) 2 rfl) (ownI64_or hqv689)).2.2.2⟩, trivial⟩, trivial, trivial⟩ hy
          exact ⟨H1, k1, k2⟩⟩) (fun F' => rfl) (fun L' => trivial)
    · cases hr
  · cases hr
/-! laws.markInt64S -/
noncomputable def laws_markInt64S_i1_l0_T (s : Unit) : Tree ((Unit) ⊕ (Unit)) :=
  (.br (decide ((0 : Int) < (0 : Int))) (
   .fail
  ) (
   .leaf (.inr ())
  ))

noncomputable def laws_markInt64S_i1_l0_g (s0 : Unit) : Option (Unit) := whileM (fun s => (laws_markInt64S_i1_l0_T s).run) s0
def laws_markInt64S_i1_l0_E (v697 : Int) (s : Unit) : Sd := ([.nilslc, .int .i64 v697, .top, .top, .top, .int .i64 (0 : Int), .top, .top, .top, .top, .top, .top, .top, .top, .top, .top, .top, .top, .top], [])
def laws_markInt64S_i1_l0_X (v697 : Int) (x : Unit) : Out := (.normal, [.top, .int .i64 v697, .top, .top, .top, .top, .top, .top, .top, .top, .top, .top, .top, .top, .top, .top, .top, .top, .top], [])
def laws_markInt64S_i1_l0_kill : List Nat := [0, 0, 1, 1, 1, 0, 1, 1, 1, 1, 1, 1, 1, 1, 1, 1, 1, 1, 1]
def laws_markInt64S_i1_l0_nx : Exit → List Nat
  | .exit 0 => [1, 0, 1, 1, 1, 1, 1, 1, 1, 1, 1, 1, 1, 1, 1, 1, 1, 1, 1]
  | .ret => [1, 1, 1, 1, 0, 1, 1, 1, 1, 1, 1, 1, 1, 1, 1, 1, 1, 1, 1]
  | _ => []
noncomputable def laws_markInt64S_i1_LO (v697 : Int) : LOr := fun id e L =>
  match id with
  | 0 => .need (normA 0 laws_markInt64S_i1_l0_kill e L = some (laws_markInt64S_i1_l0_E v697 ())) (.call (laws_markInt64S_i1_l0_g ()) fun x => .leaf (laws_markInt64S_i1_l0_X v697 x))
  | _ => .fail
noncomputable def laws_markInt64S_i1_tab : List (FuncId × DFn × Bool) := []
theorem laws_markInt64S_i1_hO : OrcOk Try.prog (tabD laws_markInt64S_i1_tab) (tabM laws_markInt64S_i1_tab) := tabD_nil _
theorem laws_markInt64S_i1_l0_be (v697 : Int) (s : Unit) : bodyT TT (tabD laws_markInt64S_i1_tab) (tabM laws_markInt64S_i1_tab) (laws_markInt64S_i1_LO v697) 0 laws_markInt64S_i1_l0_kill laws_markInt64S_i1_l0_nx (bodyOf Try.f27 0) 0 (laws_markInt64S_i1_l0_E v697 s) = (laws_markInt64S_i1_l0_T s).bind fun y => .leaf (outS (laws_markInt64S_i1_l0_E v697) (laws_markInt64S_i1_l0_X v697) y) := by kernel_rfl
theorem laws_markInt64S_i1_l0_ok (v697 : Int) : LSound Try.prog 0 (laws_markInt64S_i1_LO v697) 0 (bodyOf Try.f27 0) := by
  intro e L out h
  exact lo_ok (E := laws_markInt64S_i1_l0_E v697) (gT := laws_markInt64S_i1_l0_T) (X := laws_markInt64S_i1_l0_X v697) (s0 := ()) tok laws_markInt64S_i1_hO mixed (LoopsOk_eq (l := []) (by kernel_rfl) trivial) (laws_markInt64S_i1_l0_be v697) rfl (by intro x; rfl) h
noncomputable def laws_markInt64S_i1_T (v697 : Int) : Tree (Int) :=
  (.need (some (laws_markInt64S_i1_l0_E v697 ()) = some (laws_markInt64S_i1_l0_E v697 ())) <|
  (.call (laws_markInt64S_i1_l0_g ()) fun v700 =>
  .leaf v697))

noncomputable def laws_markInt64S_i1_g (v697 : Int) : Option (Int) := (laws_markInt64S_i1_T v697).run
def laws_markInt64S_i1_enc (v697 : Int) (y : Int) : Rs := (.int .i64 y, [])
theorem laws_markInt64S_i1_den (v697 : Int) : (den TT (tabD laws_markInt64S_i1_tab) (tabM laws_markInt64S_i1_tab) (laws_markInt64S_i1_LO v697) (codeOf Try.f27) ([.nilslc, .int .i64 v697] ++ List.replicate (Try.f27.ntmps - ([.nilslc, .int .i64 v697] : List DV).length) .undef) []).bind (retD TT Try.f27.results.toList 0) = (laws_markInt64S_i1_T v697).bind fun y => .leaf (laws_markInt64S_i1_enc v697 y) := by kernel_rfl
theorem laws_markInt64S_i1_fn (v697 : Int) (F : Fr) (hm : F.ids.length = 0) (h0 : St F [] F.H0) (hA : DVs.Ok F [] [.nilslc, .int .i64 v697]) {y : Int} (hy : laws_markInt64S_i1_g v697 = some y) : ∃ H', FnOk Try.prog 27 (DVs.av F [.nilslc, .int .i64 v697]) F.H0 ((laws_markInt64S_i1_enc v697 y).1.av F) H' ∧ St F (laws_markInt64S_i1_enc v697 y).2 H' ∧ (laws_markInt64S_i1_enc v697 y).1.Ok F (laws_markInt64S_i1_enc v697 y).2 :=
  fn_fin tok laws_markInt64S_i1_hO mixed Try.func27 Try.call27 (by kernel_rfl) (LoopsOk_eq (l := [(0, bodyOf Try.f27 0)]) (by kernel_rfl) ⟨laws_markInt64S_i1_l0_ok v697, trivial⟩) (laws_markInt64S_i1_den v697) hy hm h0 hA
noncomputable def laws_markInt64S_i1_F : DFn := fun args L =>
  match args with
  | [.nilslc, .int .i64 v697] =>
    .call (laws_markInt64S_i1_g v697) fun y => .leaf (.int .i64 y, L)
  | _ => .fail
theorem laws_markInt64S_i1_Fok : COk Try.prog 27 laws_markInt64S_i1_F true := by
  intro F L H args r L' hs ha hr
  unfold laws_markInt64S_i1_F at hr
  split at hr
  · rename_i v697
    simp only [Tree.run] at hr
    obtain ⟨y, hy, hr⟩ := Option.bind_eq_some_iff.1 hr
    simp only [Tree.run, Option.some.injEq, Prod.mk.injEq] at hr
    obtain ⟨rfl, rfl⟩ := hr
    exact call_ok0 hs (fun k => (([] : List AV)[k]?).getD .top) [.nilslc, .int .i64 v697] [.nilslc, .int .i64 v697] (fun F' h0 hi hρ => ⟨by simp [DVs.av, DV.av, BR.av, hρ], laws_markInt64S_i1_fn v697 F' (by rw [hi]; rfl) (st_nil hi) ⟨trivial, trivial, trivial⟩ hy⟩) rfl
  · cases hr
/-! laws.markWhole -/
noncomputable def laws_markWhole_i1_LO (v694 : Int) (v695 : Int) (v696 : Int) : LOr := fun id e L =>
  match id with
  | _ => .fail
noncomputable def laws_markWhole_i1_tab : List (FuncId × DFn × Bool) := [(27, laws_markInt64S_i1_F, true)]
theorem laws_markWhole_i1_hO : OrcOk Try.prog (tabD laws_markWhole_i1_tab) (tabM laws_markWhole_i1_tab) := tabD_cons laws_markInt64S_i1_Fok (tabD_nil _)
noncomputable def laws_markWhole_i1_T (v696 : Int) : Tree (Int) :=
  (.call (laws_markInt64S_i1_g v696) fun v701 =>
  .leaf v701)

noncomputable def laws_markWhole_i1_g (v696 : Int) : Option (Int) := (laws_markWhole_i1_T v696).run
def laws_markWhole_i1_enc (v694 : Int) (v695 : Int) (v696 : Int) (y : Int) : Rs := (.int .i64 y, [])
theorem laws_markWhole_i1_den (v694 : Int) (v695 : Int) (v696 : Int) : (den TT (tabD laws_markWhole_i1_tab) (tabM laws_markWhole_i1_tab) (laws_markWhole_i1_LO v694 v695 v696) (codeOf Try.f26) ([.agg [.int .i64 v694, .int .i64 v695, .nilslc], .int .i64 v696] ++ List.replicate (Try.f26.ntmps - ([.agg [.int .i64 v694, .int .i64 v695, .nilslc], .int .i64 v696] : List DV).length) .undef) []).bind (retD TT Try.f26.results.toList 0) = (laws_markWhole_i1_T v696).bind fun y => .leaf (laws_markWhole_i1_enc v694 v695 v696 y) := by kernel_rfl
theorem laws_markWhole_i1_fn (v694 : Int) (v695 : Int) (v696 : Int) (F : Fr) (hm : F.ids.length = 0) (h0 : St F [] F.H0) (hA : DVs.Ok F [] [.agg [.int .i64 v694, .int .i64 v695, .nilslc], .int .i64 v696]) {y : Int} (hy : laws_markWhole_i1_g v696 = some y) : ∃ H', FnOk Try.prog 26 (DVs.av F [.agg [.int .i64 v694, .int .i64 v695, .nilslc], .int .i64 v696]) F.H0 ((laws_markWhole_i1_enc v694 v695 v696 y).1.av F) H' ∧ St F (laws_markWhole_i1_enc v694 v695 v696 y).2 H' ∧ (laws_markWhole_i1_enc v694 v695 v696 y).1.Ok F (laws_markWhole_i1_enc v694 v695 v696 y).2 :=
  fn_fin tok laws_markWhole_i1_hO mixed Try.func26 Try.call26 (by kernel_rfl) (LoopsOk_eq (l := []) (by kernel_rfl) trivial) (laws_markWhole_i1_den v694 v695 v696) hy hm h0 hA
noncomputable def laws_markWhole_i1_F : DFn := fun args L =>
  match args with
  | [.agg [.int .i64 v694, .int .i64 v695, .nilslc], .int .i64 v696] =>
    .call (laws_markWhole_i1_g v696) fun y => .leaf (.int .i64 y, L)
  | _ => .fail
theorem laws_markWhole_i1_Fok : COk Try.prog 26 laws_markWhole_i1_F true := by
  intro F L H args r L' hs ha hr
  unfold laws_markWhole_i1_F at hr
  split at hr
  · rename_i v694 v695 v696
    simp only [Tree.run] at hr
    obtain ⟨y, hy, hr⟩ := Option.bind_eq_some_iff.1 hr
    simp only [Tree.run, Option.some.injEq, Prod.mk.injEq] at hr
    obtain ⟨rfl, rfl⟩ := hr
    exact call_ok0 hs (fun k => (([] : List AV)[k]?).getD .top) [.agg [.int .i64 v694, .int .i64 v695, .nilslc], .int .i64 v696] [.agg [.int .i64 v694, .int .i64 v695, .nilslc], .int .i64 v696] (fun F' h0 hi hρ => ⟨by simp [DVs.av, DV.av, BR.av, hρ], laws_markWhole_i1_fn v694 v695 v696 F' (by rw [hi]; rfl) (st_nil hi) ⟨⟨trivial, trivial, trivial, trivial⟩, trivial, trivial⟩ hy⟩) rfl
  · cases hr
/-! laws.heldInt64S -/
noncomputable def laws_heldInt64S_l0_T (v707 : List Int) (s : Int × Int) : Tree ((Int × Int) ⊕ ((Unit) ⊕ (Int))) :=
  (.br (decide (s.2 < ((v707.length : Nat) : Int))) (
   (.grd (inb s.2 v707.length) <|
   (.br (!decide (nth v707 (Int.toNat s.2) = s.1)) (
    .leaf (.inr (.inl ()))
   ) (
    .leaf (.inl (IntKind.i64.wrap (s.1 + (1 : Int)), IntKind.i64.wrap (s.2 + (1 : Int))))
   )))
  ) (
   .leaf (.inr (.inr s.1))
  ))

noncomputable def laws_heldInt64S_l0_g (v707 : List Int) (s0 : Int × Int) : Option ((Unit) ⊕ (Int)) := whileM (fun s => (laws_heldInt64S_l0_T v707 s).run) s0
def laws_heldInt64S_l0_E (v707 : List Int) (v708 : Int) (s : Int × Int) : Sd := ([.bslc (BR.root 0) (.i64 v707), .int .i64 s.1, .top, .top, .top, .int .i64 s.2, .top, .top, .top, .top, .top, .top, .top, .top, .top, .top, .top, .top, .top, .top, .top], [])
def laws_heldInt64S_l0_X (v707 : List Int) (v708 : Int) (x : (Unit) ⊕ (Int)) : Out := (match x with | .inl x => (.ret, [.top, .top, .top, .top, .int .i64 (-1 : Int), .top, .top, .top, .top, .top, .top, .top, .top, .top, .top, .top, .top, .top, .top, .top, .top], []) | .inr x => (.normal, [.top, .int .i64 x, .top, .top, .top, .top, .top, .top, .top, .top, .top, .top, .top, .top, .top, .top, .top, .top, .top, .top, .top], []))
def laws_heldInt64S_l0_kill : List Nat := [0, 0, 1, 1, 1, 0, 1, 1, 1, 1, 1, 1, 1, 1, 1, 1, 1, 1, 1, 1, 1]
def laws_heldInt64S_l0_nx : Exit → List Nat
  | .exit 0 => [1, 0, 1, 1, 1, 1, 1, 1, 1, 1, 1, 1, 1, 1, 1, 1, 1, 1, 1, 1, 1]
  | .ret => [1, 1, 1, 1, 0, 1, 1, 1, 1, 1, 1, 1, 1, 1, 1, 1, 1, 1, 1, 1, 1]
  | _ => []
noncomputable def laws_heldInt64S_LO (v707 : List Int) (v708 : Int) : LOr := fun id e L =>
  match id with
  | 0 => .need (normA 0 laws_heldInt64S_l0_kill e L = some (laws_heldInt64S_l0_E v707 v708 ((gI (vAt e 1)), (gI (vAt e 5))))) (.call (laws_heldInt64S_l0_g v707 ((gI (vAt e 1)), (gI (vAt e 5)))) fun x => .sum x (fun b0 => .leaf (laws_heldInt64S_l0_X v707 v708 (.inl b0))) (fun c0 => .leaf (laws_heldInt64S_l0_X v707 v708 (.inr c0))))
  | _ => .fail
noncomputable def laws_heldInt64S_tab : List (FuncId × DFn × Bool) := []
theorem laws_heldInt64S_hO : OrcOk Try.prog (tabD laws_heldInt64S_tab) (tabM laws_heldInt64S_tab) := tabD_nil _
theorem laws_heldInt64S_l0_be (v707 : List Int) (v708 : Int) (s : Int × Int) : bodyT TT (tabD laws_heldInt64S_tab) (tabM laws_heldInt64S_tab) (laws_heldInt64S_LO v707 v708) 0 laws_heldInt64S_l0_kill laws_heldInt64S_l0_nx (bodyOf Try.f28 0) 0 (laws_heldInt64S_l0_E v707 v708 s) = (laws_heldInt64S_l0_T v707 s).bind fun y => .leaf (outS (laws_heldInt64S_l0_E v707 v708) (laws_heldInt64S_l0_X v707 v708) y) := by kernel_rfl
theorem laws_heldInt64S_l0_ok (v707 : List Int) (v708 : Int) : LSound Try.prog 0 (laws_heldInt64S_LO v707 v708) 0 (bodyOf Try.f28 0) := by
  intro e L out h
  exact lo_ok (E := laws_heldInt64S_l0_E v707 v708) (gT := laws_heldInt64S_l0_T v707) (X := laws_heldInt64S_l0_X v707 v708) (s0 := ((gI (vAt e 1)), (gI (vAt e 5)))) tok laws_heldInt64S_hO mixed (LoopsOk_eq (l := []) (by kernel_rfl) trivial) (laws_heldInt64S_l0_be v707 v708) rfl (by intro x; (cases x with | inl b => rfl | inr x => exact rfl)) h
noncomputable def laws_heldInt64S_T (v707 : List Int) (v708 : Int) : Tree (Int) :=
  (.need (some (laws_heldInt64S_l0_E v707 v708 (v708, (0 : Int))) = some (laws_heldInt64S_l0_E v707 v708 (v708, (0 : Int)))) <|
  (.call (laws_heldInt64S_l0_g v707 (v708, (0 : Int))) fun v715 =>
  (.sum v715 (fun v716 =>
   .leaf (-1 : Int)
  ) (fun v717 =>
   .leaf v717
  ))))

noncomputable def laws_heldInt64S_g (v707 : List Int) (v708 : Int) : Option (Int) := (laws_heldInt64S_T v707 v708).run
def laws_heldInt64S_enc (v707 : List Int) (v708 : Int) (y : Int) : Rs := (.int .i64 y, [])
theorem laws_heldInt64S_den (v707 : List Int) (v708 : Int) : (den TT (tabD laws_heldInt64S_tab) (tabM laws_heldInt64S_tab) (laws_heldInt64S_LO v707 v708) (codeOf Try.f28) ([.bslc (BR.root 0) (.i64 v707), .int .i64 v708] ++ List.replicate (Try.f28.ntmps - ([.bslc (BR.root 0) (.i64 v707), .int .i64 v708] : List DV).length) .undef) []).bind (retD TT Try.f28.results.toList 0) = (laws_heldInt64S_T v707 v708).bind fun y => .leaf (laws_heldInt64S_enc v707 v708 y) := by kernel_rfl
theorem laws_heldInt64S_fn (v707 : List Int) (v708 : Int) (F : Fr) (hm : F.ids.length = 0) (h0 : St F [] F.H0) (hA : DVs.Ok F [] [.bslc (BR.root 0) (.i64 v707), .int .i64 v708]) {y : Int} (hy : laws_heldInt64S_g v707 v708 = some y) : ∃ H', FnOk Try.prog 28 (DVs.av F [.bslc (BR.root 0) (.i64 v707), .int .i64 v708]) F.H0 ((laws_heldInt64S_enc v707 v708 y).1.av F) H' ∧ St F (laws_heldInt64S_enc v707 v708 y).2 H' ∧ (laws_heldInt64S_enc v707 v708 y).1.Ok F (laws_heldInt64S_enc v707 v708 y).2 :=
  fn_fin tok laws_heldInt64S_hO mixed Try.func28 Try.call28 (by kernel_rfl) (LoopsOk_eq (l := [(0, bodyOf Try.f28 0)]) (by kernel_rfl) ⟨laws_heldInt64S_l0_ok v707 v708, trivial⟩) (laws_heldInt64S_den v707 v708) hy hm h0 hA
noncomputable def laws_heldInt64S_F : DFn := fun args L =>
  match args with
  | [a1, .int .i64 v708] =>
    optT (rowI64 L a1) fun v707 =>
    .call (laws_heldInt64S_g v707 v708) fun y => .leaf (.int .i64 y, L)
  | _ => .fail
theorem laws_heldInt64S_Fok : COk Try.prog 28 laws_heldInt64S_F true := by
  intro F L H args r L' hs ha hr
  unfold laws_heldInt64S_F at hr
  split at hr
  · rename_i a1 v708
    obtain ⟨v707, hv707, hr⟩ := optT_run hr
    simp only [Tree.run] at hr
    obtain ⟨y, hy, hr⟩ := Option.bind_eq_some_iff.1 hr
    simp only [Tree.run, Option.some.injEq, Prod.mk.injEq] at hr
    obtain ⟨rfl, rfl⟩ := hr
    exact call_ok0 hs (fun k => (([a1.av F] : List AV)[k]?).getD .top) [a1, .int .i64 v708] [.bslc (BR.root 0) (.i64 v707), .int .i64 v708] (fun F' h0 hi hρ => ⟨by simp [DVs.av, DV.av, BR.av, hρ], laws_heldInt64S_fn v707 v708 F' (by rw [hi]; rfl) (st_nil hi) ⟨bslc_ok hi (by rw [h0, hρ]; exact rowI64_ok hs (DVs.okAt ha 0 rfl) hv707), trivial, trivial⟩ hy⟩) rfl
  · cases hr
/-! laws.heldWhole -/
noncomputable def laws_heldWhole_LO (v703 : Int) (v704 : Int) (v705 : List Int) (v706 : Int) : LOr := fun id e L =>
  match id with
  | _ => .fail
noncomputable def laws_heldWhole_tab : List (FuncId × DFn × Bool) := [(28, laws_heldInt64S_F, true)]
theorem laws_heldWhole_hO : OrcOk Try.prog (tabD laws_heldWhole_tab) (tabM laws_heldWhole_tab) := tabD_cons laws_heldInt64S_Fok (tabD_nil _)
noncomputable def laws_heldWhole_T (v705 : List Int) (v706 : Int) : Tree (Int) :=
  (.call (laws_heldInt64S_g v705 v706) fun v718 =>
  (.br (decide (v718 < (0 : Int))) (
   .leaf (-1 : Int)
  ) (
   .leaf v718
  )))

noncomputable def laws_heldWhole_g (v705 : List Int) (v706 : Int) : Option (Int) := (laws_heldWhole_T v705 v706).run
def laws_heldWhole_enc (v703 : Int) (v704 : Int) (v705 : List Int) (v706 : Int) (y : Int) : Rs := (.int .i64 y, [])
theorem laws_heldWhole_den (v703 : Int) (v704 : Int) (v705 : List Int) (v706 : Int) : (den TT (tabD laws_heldWhole_tab) (tabM laws_heldWhole_tab) (laws_heldWhole_LO v703 v704 v705 v706) (codeOf Try.f38) ([.agg [.int .i64 v703, .int .i64 v704, .bslc (BR.root 0) (.i64 v705)], .int .i64 v706] ++ List.replicate (Try.f38.ntmps - ([.agg [.int .i64 v703, .int .i64 v704, .bslc (BR.root 0) (.i64 v705)], .int .i64 v706] : List DV).length) .undef) []).bind (retD TT Try.f38.results.toList 0) = (laws_heldWhole_T v705 v706).bind fun y => .leaf (laws_heldWhole_enc v703 v704 v705 v706 y) := by kernel_rfl
theorem laws_heldWhole_fn (v703 : Int) (v704 : Int) (v705 : List Int) (v706 : Int) (F : Fr) (hm : F.ids.length = 0) (h0 : St F [] F.H0) (hA : DVs.Ok F [] [.agg [.int .i64 v703, .int .i64 v704, .bslc (BR.root 0) (.i64 v705)], .int .i64 v706]) {y : Int} (hy : laws_heldWhole_g v705 v706 = some y) : ∃ H', FnOk Try.prog 38 (DVs.av F [.agg [.int .i64 v703, .int .i64 v704, .bslc (BR.root 0) (.i64 v705)], .int .i64 v706]) F.H0 ((laws_heldWhole_enc v703 v704 v705 v706 y).1.av F) H' ∧ St F (laws_heldWhole_enc v703 v704 v705 v706 y).2 H' ∧ (laws_heldWhole_enc v703 v704 v705 v706 y).1.Ok F (laws_heldWhole_enc v703 v704 v705 v706 y).2 :=
  fn_fin tok laws_heldWhole_hO mixed Try.func38 Try.call38 (by kernel_rfl) (LoopsOk_eq (l := []) (by kernel_rfl) trivial) (laws_heldWhole_den v703 v704 v705 v706) hy hm h0 hA
noncomputable def laws_heldWhole_F : DFn := fun args L =>
  match args with
  | [.agg [.int .i64 v703, .int .i64 v704, a1], .int .i64 v706] =>
    optT (rowI64 L a1) fun v705 =>
    .call (laws_heldWhole_g v705 v706) fun y => .leaf (.int .i64 y, L)
  | _ => .fail
theorem laws_heldWhole_Fok : COk Try.prog 38 laws_heldWhole_F true := by
  intro F L H args r L' hs ha hr
  unfold laws_heldWhole_F at hr
  split at hr
  · rename_i v703 v704 a1 v706
    obtain ⟨v705, hv705, hr⟩ := optT_run hr
    simp only [Tree.run] at hr
    obtain ⟨y, hy, hr⟩ := Option.bind_eq_some_iff.1 hr
    simp only [Tree.run, Option.some.injEq, Prod.mk.injEq] at hr
    obtain ⟨rfl, rfl⟩ := hr
    exact call_ok0 hs (fun k => (([a1.av F] : List AV)[k]?).getD .top) [.agg [.int .i64 v703, .int .i64 v704, a1], .int .i64 v706] [.agg [.int .i64 v703, .int .i64 v704, .bslc (BR.root 0) (.i64 v705)], .int .i64 v706] (fun F' h0 hi hρ => ⟨by simp [DVs.av, DV.av, BR.av, hρ], laws_heldWhole_fn v703 v704 v705 v706 F' (by rw [hi]; rfl) (st_nil hi) ⟨⟨trivial, trivial, bslc_ok hi (by rw [h0, hρ]; exact rowI64_ok hs (DVs.okAt (DVs.okAt ha 0 rfl) 2 rfl) hv705), trivial⟩, trivial, trivial⟩ hy⟩) rfl
  · cases hr
/-! laws.FnExactAdjointOf -/
noncomputable def laws_FnExactAdjointOf_LO (v1 : Int) (v2 : Int) (v3 : List Int) : LOr := fun id e L =>
  match id with
  | _ => .fail
noncomputable def laws_FnExactAdjointOf_tab : List (FuncId × DFn × Bool) := [(15, laws_szWhole_F, true), (17, laws_toWhole_F, true), (36, spec_AdjointOf_F, true), (37, impl_AdjointOf_F, true), (19, laws_eqWhole_F, true), (26, (orD (fun args => match args with | [.agg [_, _, .nilslc], _] => true | _ => false) laws_markWhole_i1_F laws_markWhole_F), false), (38, laws_heldWhole_F, true)]
theorem laws_FnExactAdjointOf_hO : OrcOk Try.prog (tabD laws_FnExactAdjointOf_tab) (tabM laws_FnExactAdjointOf_tab) := tabD_cons laws_szWhole_Fok (tabD_cons laws_toWhole_Fok (tabD_cons spec_AdjointOf_Fok (tabD_cons impl_AdjointOf_Fok (tabD_cons laws_eqWhole_Fok (tabD_cons (orD_ok (COk.weak laws_markWhole_i1_Fok) laws_markWhole_Fok) (tabD_cons laws_heldWhole_Fok (tabD_nil _)))))))
noncomputable def laws_FnExactAdjointOf_T (v1 : Int) (v2 : Int) (v3 : List Int) : Tree (Bool) :=
  (.br (decide ((laws_szWhole_v v3 (1048576 : Int)) < (0 : Int))) (
   .leaf true
  ) (
   (.call (laws_toWhole_g v1 v2 v3) fun v21 =>
   (.call (spec_AdjointOf_g v21.1 v21.2.1 v21.2.2) fun v265 =>
   (.sum v265 (fun v266 =>
    (.call (laws_toWhole_g v1 v2 v3) fun v268 =>
    (.call (impl_AdjointOf_g v268.1 v268.2.1 v268.2.2) fun v647 =>
    (.sum v647 (fun v648 =>
     (.call (laws_eqWhole_g (0 : Int) (0 : Int) ([] : List Int) (0 : Int) (0 : Int) ([] : List Int)) fun v665 =>
     (.br (!v665) (
      .leaf false
     ) (
      (.br (!(false == false)) (
       .leaf false
      ) (
       (.call (laws_toWhole_g v1 v2 v3) fun v666 =>
       (.call (laws_eqWhole_g v268.1 v268.2.1 v268.2.2 v666.1 v666.2.1 v666.2.2) fun v667 =>
       (.br (!v667) (
        .leaf false
       ) (
        (.call (laws_markWhole_g v268.2.2 (1 : Int)) fun v692 =>
        (.grd (decide (v692.2.length = v268.2.2.length)) <|
        (.br (decide (v692.1 < (0 : Int))) (
         .leaf false
        ) (
         (.call (laws_eqWhole_g (0 : Int) (0 : Int) ([] : List Int) (0 : Int) (0 : Int) ([] : List Int)) fun v693 =>
         (.br (!v693) (
          .leaf false
         ) (
          (.br (!(false == false)) (
           .leaf false
          ) (
           (.call (laws_markWhole_i1_g (1 : Int)) fun v702 =>
           (.call (laws_heldWhole_g ([] : List Int) (1 : Int)) fun v719 =>
           (.br (decide (v719 < (0 : Int))) (
            .leaf false
           ) (
            (.br (!decide (v719 = v702)) (
             .leaf false
            ) (
             (.call (laws_toWhole_g v1 v2 v3) fun v720 =>
             (.call (impl_AdjointOf_g v720.1 v720.2.1 v720.2.2) fun v721 =>
             (.sum v721 (fun v722 =>
              (.call (laws_eqWhole_g (0 : Int) (0 : Int) ([] : List Int) (0 : Int) (0 : Int) ([] : List Int)) fun v724 =>
              (.br (!v724) (
               .leaf false
              ) (
               (.br (!(false == false)) (
                .leaf false
               ) (
                (.call (laws_heldWhole_g ([] : List Int) (1 : Int)) fun v725 =>
                (.br (decide (v725 < (0 : Int))) (
                 .leaf false
                ) (
                 (.br (!decide (v725 = v702)) (
                  .leaf false
                 ) (
                  .leaf true
                 ))
                )))
               ))
              )))
             ) (fun v723 =>
              (.sum v723 (fun v726 =>
               (.call (laws_eqWhole_g v726.1 v726.2 ([] : List Int) (0 : Int) (0 : Int) ([] : List Int)) fun v728 =>
               (.br (!v728) (
                .leaf false
               ) (
                (.br (!(true == false)) (
                 .leaf false
                ) (
                 (.call (laws_heldWhole_g ([] : List Int) (1 : Int)) fun v729 =>
                 (.br (decide (v729 < (0 : Int))) (
                  .leaf false
                 ) (
                  (.br (!decide (v729 = v702)) (
                   .leaf false
                  ) (
                   .leaf true
                  ))
                 )))
                ))
               )))
              ) (fun v727 =>
               (.call (laws_eqWhole_g v727.1 v727.2.1 v727.2.2 (0 : Int) (0 : Int) ([] : List Int)) fun v730 =>
               (.br (!v730) (
                .leaf false
               ) (
                (.br (!(true == false)) (
                 .leaf false
                ) (
                 (.call (laws_heldWhole_g ([] : List Int) (1 : Int)) fun v731 =>
                 (.br (decide (v731 < (0 : Int))) (
                  .leaf false
                 ) (
                  (.br (!decide (v731 = v702)) (
                   .leaf false
                  ) (
                   .leaf true
                  ))
                 )))
                ))
               )))
              ))
             ))))
            ))
           ))))
          ))
         )))
        ))))
       ))))
      ))
     )))
    ) (fun v649 =>
     (.sum v649 (fun v732 =>
      (.call (laws_eqWhole_g v732.1 v732.2 ([] : List Int) (0 : Int) (0 : Int) ([] : List Int)) fun v734 =>
      (.br (!v734) (
       .leaf false
      ) (
       (.br (!(true == false)) (
        .leaf false
       ) (
        (.call (laws_toWhole_g v1 v2 v3) fun v735 =>
        (.call (laws_eqWhole_g v268.1 v268.2.1 v268.2.2 v735.1 v735.2.1 v735.2.2) fun v736 =>
        (.br (!v736) (
         .leaf false
        ) (
         (.call (laws_markWhole_g v268.2.2 (1 : Int)) fun v737 =>
         (.grd (decide (v737.2.length = v268.2.2.length)) <|
         (.br (decide (v737.1 < (0 : Int))) (
          .leaf false
         ) (
          (.call (laws_eqWhole_g v732.1 v732.2 ([] : List Int) (0 : Int) (0 : Int) ([] : List Int)) fun v738 =>
          (.br (!v738) (
           .leaf false
          ) (
           (.br (!(true == false)) (
            .leaf false
           ) (
            (.call (laws_markWhole_i1_g (1 : Int)) fun v739 =>
            (.call (laws_heldWhole_g ([] : List Int) (1 : Int)) fun v740 =>
            (.br (decide (v740 < (0 : Int))) (
             .leaf false
            ) (
             (.br (!decide (v740 = v739)) (
              .leaf false
             ) (
              (.call (laws_toWhole_g v1 v2 v3) fun v741 =>
              (.call (impl_AdjointOf_g v741.1 v741.2.1 v741.2.2) fun v742 =>
              (.sum v742 (fun v743 =>
               (.call (laws_eqWhole_g (0 : Int) (0 : Int) ([] : List Int) (0 : Int) (0 : Int) ([] : List Int)) fun v745 =>
               (.br (!v745) (
                .leaf false
               ) (
                (.br (!(false == false)) (
                 .leaf false
                ) (
                 (.call (laws_heldWhole_g ([] : List Int) (1 : Int)) fun v746 =>
                 (.br (decide (v746 < (0 : Int))) (
                  .leaf false
                 ) (
                  (.br (!decide (v746 = v739)) (
                   .leaf false
                  ) (
                   .leaf true
                  ))
                 )))
                ))
               )))
              ) (fun v744 =>
               (.sum v744 (fun v747 =>
                (.call (laws_eqWhole_g v747.1 v747.2 ([] : List Int) (0 : Int) (0 : Int) ([] : List Int)) fun v749 =>
                (.br (!v749) (
                 .leaf false
                ) (
                 (.br (!(true == false)) (
                  .leaf false
                 ) (
                  (.call (laws_heldWhole_g ([] : List Int) (1 : Int)) fun v750 =>
                  (.br (decide (v750 < (0 : Int))) (
                   .leaf false
                  ) (
                   (.br (!decide (v750 = v739)) (
                    .leaf false
                   ) (
                    .leaf true
                   ))
                  )))
                 ))
                )))
               ) (fun v748 =>
                (.call (laws_eqWhole_g v748.1 v748.2.1 v748.2.2 (0 : Int) (0 : Int) ([] : List Int)) fun v751 =>
                (.br (!v751) (
                 .leaf false
                ) (
                 (.br (!(true == false)) (
                  .leaf false
                 ) (
                  (.call (laws_heldWhole_g ([] : List Int) (1 : Int)) fun v752 =>
                  (.br (decide (v752 < (0 : Int))) (
                   .leaf false
                  ) (
                   (.br (!decide (v752 = v739)) (
                    .leaf false
                   ) (
                    .leaf true
                   ))
                  )))
                 ))
                )))
               ))
              ))))
             ))
            ))))
           ))
          )))
         ))))
        ))))
       ))
      )))
     ) (fun v733 =>
      (.call (laws_eqWhole_g v733.1 v733.2.1 v733.2.2 (0 : Int) (0 : Int) ([] : List Int)) fun v753 =>
      (.br (!v753) (
       .leaf false
      ) (
       (.br (!(true == false)) (
        .leaf false
       ) (
        (.call (laws_toWhole_g v1 v2 v3) fun v754 =>
        (.call (laws_eqWhole_g v268.1 v268.2.1 v268.2.2 v754.1 v754.2.1 v754.2.2) fun v755 =>
        (.br (!v755) (
         .leaf false
        ) (
         (.call (laws_markWhole_g v268.2.2 (1 : Int)) fun v756 =>
         (.grd (decide (v756.2.length = v268.2.2.length)) <|
         (.br (decide (v756.1 < (0 : Int))) (
          .leaf false
         ) (
          (.call (laws_eqWhole_g v733.1 v733.2.1 v733.2.2 (0 : Int) (0 : Int) ([] : List Int)) fun v757 =>
          (.br (!v757) (
           .leaf false
          ) (
           (.br (!(true == false)) (
            .leaf false
           ) (
            (.call (laws_markWhole_g v733.2.2 (1 : Int)) fun v758 =>
            (.grd (decide (v758.2.length = v733.2.2.length)) <|
            (.call (laws_heldWhole_g v758.2 (1 : Int)) fun v759 =>
            (.br (decide (v759 < (0 : Int))) (
             .leaf false
            ) (
             (.br (!decide (v759 = v758.1)) (
              .leaf false
             ) (
              (.call (laws_toWhole_g v1 v2 v3) fun v760 =>
              (.call (impl_AdjointOf_g v760.1 v760.2.1 v760.2.2) fun v761 =>
              (.sum v761 (fun v762 =>
               (.call (laws_eqWhole_g (0 : Int) (0 : Int) ([] : List Int) (0 : Int) (0 : Int) ([] : List Int)) fun v764 =>
               (.br (!v764) (
                .leaf false
               ) (
                (.br (!(false == false)) (
                 .leaf false
                ) (
                 (.call (laws_heldWhole_g v758.2 (1 : Int)) fun v765 =>
                 (.br (decide (v765 < (0 : Int))) (
                  .leaf false
                 ) (
                  (.br (!decide (v765 = v758.1)) (
                   .leaf false
                  ) (
                   .leaf true
                  ))
                 )))
                ))
               )))
              ) (fun v763 =>
               (.sum v763 (fun v766 =>
                (.call (laws_eqWhole_g v766.1 v766.2 ([] : List Int) (0 : Int) (0 : Int) ([] : List Int)) fun v768 =>
                (.br (!v768) (
                 .leaf false
                ) (
                 (.br (!(true == false)) (
                  .leaf false
                 ) (
                  (.call (laws_heldWhole_g v758.2 (1 : Int)) fun v769 =>
                  (.br (decide (v769 < (0 : Int))) (
                   .leaf false
                  ) (
                   (.br (!decide (v769 = v758.1)) (
                    .leaf false
                   ) (
                    .leaf true
                   ))
                  )))
                 ))
                )))
               ) (fun v767 =>
                (.call (laws_eqWhole_g v767.1 v767.2.1 v767.2.2 (0 : Int) (0 : Int) ([] : List Int)) fun v770 =>
                (.br (!v770) (
                 .leaf false
                ) (
                 (.br (!(true == false)) (
                  .leaf false
                 ) (
                  (.call (laws_heldWhole_g v758.2 (1 : Int)) fun v771 =>
                  (.br (decide (v771 < (0 : Int))) (
                   .leaf false
                  ) (
                   (.br (!decide (v771 = v758.1)) (
                    .leaf false
                   ) (
                    .leaf true
                   ))
                  )))
                 ))
                )))
               ))
              ))))
             ))
            )))))
           ))
          )))
         ))))
        ))))
       ))
      )))
     ))
    ))))
   ) (fun v267 =>
    (.call (laws_toWhole_g v1 v2 v3) fun v772 =>
    (.call (impl_AdjointOf_g v772.1 v772.2.1 v772.2.2) fun v773 =>
    (.sum v773 (fun v774 =>
     (.call (laws_eqWhole_g (0 : Int) (0 : Int) ([] : List Int) v267.1 v267.2.1 v267.2.2) fun v776 =>
     (.br (!v776) (
      .leaf false
     ) (
      (.br (!(false == true)) (
       .leaf false
      ) (
       (.call (laws_toWhole_g v1 v2 v3) fun v777 =>
       (.call (laws_eqWhole_g v772.1 v772.2.1 v772.2.2 v777.1 v777.2.1 v777.2.2) fun v778 =>
       (.br (!v778) (
        .leaf false
       ) (
        (.call (laws_markWhole_g v772.2.2 (1 : Int)) fun v779 =>
        (.grd (decide (v779.2.length = v772.2.2.length)) <|
        (.br (decide (v779.1 < (0 : Int))) (
         .leaf false
        ) (
         (.call (laws_eqWhole_g (0 : Int) (0 : Int) ([] : List Int) v267.1 v267.2.1 v267.2.2) fun v780 =>
         (.br (!v780) (
          .leaf false
         ) (
          (.br (!(false == true)) (
           .leaf false
          ) (
           (.call (laws_markWhole_i1_g (1 : Int)) fun v781 =>
           (.call (laws_heldWhole_g ([] : List Int) (1 : Int)) fun v782 =>
           (.br (decide (v782 < (0 : Int))) (
            .leaf false
           ) (
            (.br (!decide (v782 = v781)) (
             .leaf false
            ) (
             (.call (laws_toWhole_g v1 v2 v3) fun v783 =>
             (.call (impl_AdjointOf_g v783.1 v783.2.1 v783.2.2) fun v784 =>
             (.sum v784 (fun v785 =>
              (.call (laws_eqWhole_g (0 : Int) (0 : Int) ([] : List Int) v267.1 v267.2.1 v267.2.2) fun v787 =>
              (.br (!v787) (
               .leaf false
              ) (
               (.br (!(false == true)) (
                .leaf false
               ) (
                (.call (laws_heldWhole_g ([] : List Int) (1 : Int)) fun v788 =>
                (.br (decide (v788 < (0 : Int))) (
                 .leaf false
                ) (
                 (.br (!decide (v788 = v781)) (
                  .leaf false
                 ) (
                  .leaf true
                 ))
                )))
               ))
              )))
             ) (fun v786 =>
              (.sum v786 (fun v789 =>
               (.call (laws_eqWhole_g v789.1 v789.2 ([] : List Int) v267.1 v267.2.1 v267.2.2) fun v791 =>
               (.br (!v791) (
                .leaf false
               ) (
                (.br (!(true == true)) (
                 .leaf false
                ) (
                 (.call (laws_heldWhole_g ([] : List Int) (1 : Int)) fun v792 =>
                 (.br (decide (v792 < (0 : Int))) (
                  .leaf false
                 ) (
                  (.br (!decide (v792 = v781)) (
                   .leaf false
                  ) (
                   .leaf true
                  ))
                 )))
                ))
               )))
              ) (fun v790 =>
               (.call (laws_eqWhole_g v790.1 v790.2.1 v790.2.2 v267.1 v267.2.1 v267.2.2) fun v793 =>
               (.br (!v793) (
                .leaf false
               ) (
                (.br (!(true == true)) (
                 .leaf false
                ) (
                 (.call (laws_heldWhole_g ([] : List Int) (1 : Int)) fun v794 =>
                 (.br (decide (v794 < (0 : Int))) (
                  .leaf false
                 ) (
                  (.br (!decide (v794 = v781)) (
                   .leaf false
                  ) (
                   .leaf true
                  ))
                 )))
                ))
               )))
              ))
             ))))
            ))
           ))))
          ))
         )))
        ))))
       ))))
      ))
     )))
    ) (fun v775 =>
     (.sum v775 (fun v795 =>
      (.call (laws_eqWhole_g v795.1 v795.2 ([] : List Int) v267.1 v267.2.1 v267.2.2) fun v797 =>
      (.br (!v797) (
       .leaf false
      ) (
       (.br (!(true == true)) (
        .leaf false
       ) (
        (.call (laws_toWhole_g v1 v2 v3) fun v798 =>
        (.call (laws_eqWhole_g v772.1 v772.2.1 v772.2.2 v798.1 v798.2.1 v798.2.2) fun v799 =>
        (.br (!v799) (
         .leaf false
        ) (
         (.call (laws_markWhole_g v772.2.2 (1 : Int)) fun v800 =>
         (.grd (decide (v800.2.length = v772.2.2.length)) <|
         (.br (decide (v800.1 < (0 : Int))) (
          .leaf false
         ) (
          (.call (laws_eqWhole_g v795.1 v795.2 ([] : List Int) v267.1 v267.2.1 v267.2.2) fun v801 =>
          (.br (!v801) (
           .leaf false
          ) (
           (.br (!(true == true)) (
            .leaf false
           ) (
            (.call (laws_markWhole_i1_g (1 : Int)) fun v802 =>
            (.call (laws_heldWhole_g ([] : List Int) (1 : Int)) fun v803 =>
            (.br (decide (v803 < (0 : Int))) (
             .leaf false
            ) (
             (.br (!decide (v803 = v802)) (
              .leaf false
             ) (
              (.call (laws_toWhole_g v1 v2 v3) fun v804 =>
              (.call (impl_AdjointOf_g v804.1 v804.2.1 v804.2.2) fun v805 =>
              (.sum v805 (fun v806 =>
               (.call (laws_eqWhole_g (0 : Int) (0 : Int) ([] : List Int) v267.1 v267.2.1 v267.2.2) fun v808 =>
               (.br (!v808) (
                .leaf false
               ) (
                (.br (!(false == true)) (
                 .leaf false
                ) (
                 (.call (laws_heldWhole_g ([] : List Int) (1 : Int)) fun v809 =>
                 (.br (decide (v809 < (0 : Int))) (
                  .leaf false
                 ) (
                  (.br (!decide (v809 = v802)) (
                   .leaf false
                  ) (
                   .leaf true
                  ))
                 )))
                ))
               )))
              ) (fun v807 =>
               (.sum v807 (fun v810 =>
                (.call (laws_eqWhole_g v810.1 v810.2 ([] : List Int) v267.1 v267.2.1 v267.2.2) fun v812 =>
                (.br (!v812) (
                 .leaf false
                ) (
                 (.br (!(true == true)) (
                  .leaf false
                 ) (
                  (.call (laws_heldWhole_g ([] : List Int) (1 : Int)) fun v813 =>
                  (.br (decide (v813 < (0 : Int))) (
                   .leaf false
                  ) (
                   (.br (!decide (v813 = v802)) (
                    .leaf false
                   ) (
                    .leaf true
                   ))
                  )))
                 ))
                )))
               ) (fun v811 =>
                (.call (laws_eqWhole_g v811.1 v811.2.1 v811.2.2 v267.1 v267.2.1 v267.2.2) fun v814 =>
                (.br (!v814) (
                 .leaf false
                ) (
                 (.br (!(true == true)) (
                  .leaf false
                 ) (
                  (.call (laws_heldWhole_g ([] : List Int) (1 : Int)) fun v815 =>
                  (.br (decide (v815 < (0 : Int))) (
                   .leaf false
                  ) (
                   (.br (!decide (v815 = v802)) (
                    .leaf false
                   ) (
                    .leaf true
                   ))
                  )))
                 ))
                )))
               ))
              ))))
             ))
            ))))
           ))
          )))
         ))))
        ))))
       ))
      )))
     ) (fun v796 =>
      (.call (laws_eqWhole_g v796.1 v796.2.1 v796.2.2 v267.1 v267.2.1 v267.2.2) fun v816 =>
      (.br (!v816) (
       .leaf false
      ) (
       (.br (!(true == true)) (
        .leaf false
       ) (
        (.call (laws_toWhole_g v1 v2 v3) fun v817 =>
        (.call (laws_eqWhole_g v772.1 v772.2.1 v772.2.2 v817.1 v817.2.1 v817.2.2) fun v818 =>
        (.br (!v818) (
         .leaf false
        ) (
         (.call (laws_markWhole_g v772.2.2 (1 : Int)) fun v819 =>
         (.grd (decide (v819.2.length = v772.2.2.length)) <|
         (.br (decide (v819.1 < (0 : Int))) (
          .leaf false
         ) (
          (.call (laws_eqWhole_g v796.1 v796.2.1 v796.2.2 v267.1 v267.2.1 v267.2.2) fun v820 =>
          (.br (!v820) (
           .leaf false
          ) (
           (.br (!(true == true)) (
            .leaf false
           ) (
            (.call (laws_markWhole_g v796.2.2 (1 : Int)) fun v821 =>
            (.grd (decide (v821.2.length = v796.2.2.length)) <|
            (.call (laws_heldWhole_g v821.2 (1 : Int)) fun v822 =>
            (.br (decide (v822 < (0 : Int))) (
             .leaf false
            ) (
             (.br (!decide (v822 = v821.1)) (
              .leaf false
             ) (
              (.call (laws_toWhole_g v1 v2 v3) fun v823 =>
              (.call (impl_AdjointOf_g v823.1 v823.2.1 v823.2.2) fun v824 =>
              (.sum v824 (fun v825 =>
               (.call (laws_eqWhole_g (0 : Int) (0 : Int) ([] : List Int) v267.1 v267.2.1 v267.2.2) fun v827 =>
               (.br (!v827) (
                .leaf false
               ) (
                (.br (!(false == true)) (
                 .leaf false
                ) (
                 (.call (laws_heldWhole_g v821.2 (1 : Int)) fun v828 =>
                 (.br (decide (v828 < (0 : Int))) (
                  .leaf false
                 ) (
                  (.br (!decide (v828 = v821.1)) (
                   .leaf false
                  ) (
                   .leaf true
                  ))
                 )))
                ))
               )))
              ) (fun v826 =>
               (.sum v826 (fun v829 =>
                (.call (laws_eqWhole_g v829.1 v829.2 ([] : List Int) v267.1 v267.2.1 v267.2.2) fun v831 =>
                (.br (!v831) (
                 .leaf false
                ) (
                 (.br (!(true == true)) (
                  .leaf false
                 ) (
                  (.call (laws_heldWhole_g v821.2 (1 : Int)) fun v832 =>
                  (.br (decide (v832 < (0 : Int))) (
                   .leaf false
                  ) (
                   (.br (!decide (v832 = v821.1)) (
                    .leaf false
                   ) (
                    .leaf true
                   ))
                  )))
                 ))
                )))
               ) (fun v830 =>
                (.call (laws_eqWhole_g v830.1 v830.2.1 v830.2.2 v267.1 v267.2.1 v267.2.2) fun v833 =>
                (.br (!v833) (
                 .leaf false
                ) (
                 (.br (!(true == true)) (
                  .leaf false
                 ) (
                  (.call (laws_heldWhole_g v821.2 (1 : Int)) fun v834 =>
                  (.br (decide (v834 < (0 : Int))) (
                   .leaf false
                  ) (
                   (.br (!decide (v834 = v821.1)) (
                    .leaf false
                   ) (
                    .leaf true
                   ))
                  )))
                 ))
                )))
               ))
              ))))
             ))
            )))))
           ))
          )))
         ))))
        ))))
       ))
      )))
     ))
    ))))
   ))))
  ))

noncomputable def laws_FnExactAdjointOf_g (v1 : Int) (v2 : Int) (v3 : List Int) : Option (Bool) := (laws_FnExactAdjointOf_T v1 v2 v3).run
def laws_FnExactAdjointOf_enc (v1 : Int) (v2 : Int) (v3 : List Int) (y : Bool) : Rs := (.bool y, [])
theorem laws_FnExactAdjointOf_den (v1 : Int) (v2 : Int) (v3 : List Int) : (den TT (tabD laws_FnExactAdjointOf_tab) (tabM laws_FnExactAdjointOf_tab) (laws_FnExactAdjointOf_LO v1 v2 v3) (codeOf Try.f8) ([.agg [.int .i64 v1, .int .i64 v2, .bslc (BR.root 0) (.i64 v3)]] ++ List.replicate (Try.f8.ntmps - ([.agg [.int .i64 v1, .int .i64 v2, .bslc (BR.root 0) (.i64 v3)]] : List DV).length) .undef) []).bind (retD TT Try.f8.results.toList 0) = (laws_FnExactAdjointOf_T v1 v2 v3).bind fun y => .leaf (laws_FnExactAdjointOf_enc v1 v2 v3 y) := by kernel_rfl
theorem laws_FnExactAdjointOf_fn (v1 : Int) (v2 : Int) (v3 : List Int) (F : Fr) (hm : F.ids.length = 0) (h0 : St F [] F.H0) (hA : DVs.Ok F [] [.agg [.int .i64 v1, .int .i64 v2, .bslc (BR.root 0) (.i64 v3)]]) {y : Bool} (hy : laws_FnExactAdjointOf_g v1 v2 v3 = some y) : ∃ H', FnOk Try.prog 8 (DVs.av F [.agg [.int .i64 v1, .int .i64 v2, .bslc (BR.root 0) (.i64 v3)]]) F.H0 ((laws_FnExactAdjointOf_enc v1 v2 v3 y).1.av F) H' ∧ St F (laws_FnExactAdjointOf_enc v1 v2 v3 y).2 H' ∧ (laws_FnExactAdjointOf_enc v1 v2 v3 y).1.Ok F (laws_FnExactAdjointOf_enc v1 v2 v3 y).2 :=
  fn_fin tok laws_FnExactAdjointOf_hO mixed Try.func8 Try.call8 (by kernel_rfl) (LoopsOk_eq (l := []) (by kernel_rfl) trivial) (laws_FnExactAdjointOf_den v1 v2 v3) hy hm h0 hA
noncomputable def laws_FnExactAdjointOf_F : DFn := fun args L =>
  match args with
  | [.agg [.int .i64 v1, .int .i64 v2, a1]] =>
    optT (rowI64 L a1) fun v3 =>
    .call (laws_FnExactAdjointOf_g v1 v2 v3) fun y => .leaf (.bool y, L)
  | _ => .fail
theorem laws_FnExactAdjointOf_Fok : COk Try.prog 8 laws_FnExactAdjointOf_F true := by
  intro F L H args r L' hs ha hr
  unfold laws_FnExactAdjointOf_F at hr
  split at hr
  · rename_i v1 v2 a1
    obtain ⟨v3, hv3, hr⟩ := optT_run hr
    simp only [Tree.run] at hr
    obtain ⟨y, hy, hr⟩ := Option.bind_eq_some_iff.1 hr
    simp only [Tree.run, Option.some.injEq, Prod.mk.injEq] at hr
    obtain ⟨rfl, rfl⟩ := hr
    exact call_ok0 hs (fun k => (([a1.av F] : List AV)[k]?).getD .top) [.agg [.int .i64 v1, .int .i64 v2, a1]] [.agg [.int .i64 v1, .int .i64 v2, .bslc (BR.root 0) (.i64 v3)]] (fun F' h0 hi hρ => ⟨by simp [DVs.av, DV.av, BR.av, hρ], laws_FnExactAdjointOf_fn v1 v2 v3 F' (by rw [hi]; rfl) (st_nil hi) ⟨⟨trivial, trivial, bslc_ok hi (by rw [h0, hρ]; exact rowI64_ok hs (DVs.okAt (DVs.okAt ha 0 rfl) 2 rfl) hv3), trivial⟩, trivial⟩ hy⟩) rfl
  · cases hr
/-! laws.szInt64S -/
noncomputable def laws_szInt64S_len_LO (v842 : Nat) (v843 : Int) : LOr := fun id e L =>
  match id with
  | _ => .fail
noncomputable def laws_szInt64S_len_tab : List (FuncId × DFn × Bool) := []
theorem laws_szInt64S_len_hO : OrcOk Try.prog (tabD laws_szInt64S_len_tab) (tabM laws_szInt64S_len_tab) := tabD_nil _
noncomputable def laws_szInt64S_len_T (v842 : Nat) (v843 : Int) : Tree (Int) :=
  (.br (decide (IntKind.i64.wrap (v843 - ((v842 : Nat) : Int)) < (0 : Int))) (
   .leaf (-1 : Int)
  ) (
   .leaf (IntKind.i64.wrap (v843 - ((v842 : Nat) : Int)))
  ))

noncomputable def laws_szInt64S_len_g (v842 : Nat) (v843 : Int) : Option (Int) := (laws_szInt64S_len_T v842 v843).run
def laws_szInt64S_len_enc (v842 : Nat) (v843 : Int) (y : Int) : Rs := (.int .i64 y, [])
theorem laws_szInt64S_len_den (v842 : Nat) (v843 : Int) : (den TT (tabD laws_szInt64S_len_tab) (tabM laws_szInt64S_len_tab) (laws_szInt64S_len_LO v842 v843) (codeOf Try.f61) ([.hslc (BR.root 0) v842, .int .i64 v843] ++ List.replicate (Try.f61.ntmps - ([.hslc (BR.root 0) v842, .int .i64 v843] : List DV).length) .undef) []).bind (retD TT Try.f61.results.toList 0) = (laws_szInt64S_len_T v842 v843).bind fun y => .leaf (laws_szInt64S_len_enc v842 v843 y) := by kernel_rfl
theorem laws_szInt64S_len_fn (v842 : Nat) (v843 : Int) (F : Fr) (hm : F.ids.length = 0) (h0 : St F [] F.H0) (hA : DVs.Ok F [] [.hslc (BR.root 0) v842, .int .i64 v843]) {y : Int} (hy : laws_szInt64S_len_g v842 v843 = some y) : ∃ H', FnOk Try.prog 61 (DVs.av F [.hslc (BR.root 0) v842, .int .i64 v843]) F.H0 ((laws_szInt64S_len_enc v842 v843 y).1.av F) H' ∧ St F (laws_szInt64S_len_enc v842 v843 y).2 H' ∧ (laws_szInt64S_len_enc v842 v843 y).1.Ok F (laws_szInt64S_len_enc v842 v843 y).2 :=
  fn_fin tok laws_szInt64S_len_hO mixed Try.func61 Try.call61 (by kernel_rfl) (LoopsOk_eq (l := []) (by kernel_rfl) trivial) (laws_szInt64S_len_den v842 v843) hy hm h0 hA
def laws_szInt64S_len_v (v842 : Nat) (v843 : Int) : Int :=
  if (decide (IntKind.i64.wrap (v843 - ((v842 : Nat) : Int)) < (0 : Int))) = true then (
   (-1 : Int)
  ) else (
   IntKind.i64.wrap (v843 - ((v842 : Nat) : Int))
  )
theorem laws_szInt64S_len_tot (v842 : Nat) (v843 : Int) : laws_szInt64S_len_g v842 v843 = some (laws_szInt64S_len_v v842 v843) := by
  unfold laws_szInt64S_len_g laws_szInt64S_len_T laws_szInt64S_len_v
  simp only [Tree.run]
  repeat' (first | rfl | split)
noncomputable def laws_szInt64S_len_F : DFn := fun args L =>
  match args with
  | [a1, .int .i64 v843] =>
    optT (lenV L a1) fun v842 =>
    .leaf (.int .i64 (laws_szInt64S_len_v v842 v843), L)
  | _ => .fail
theorem laws_szInt64S_len_Fok : COk Try.prog 61 laws_szInt64S_len_F true := by
  intro F L H args r L' hs ha hr
  unfold laws_szInt64S_len_F at hr
  split at hr
  · rename_i a1 v843
    obtain ⟨v842, hv842, hr⟩ := optT_run hr
    have hy := laws_szInt64S_len_tot v842 v843
    generalize laws_szInt64S_len_v v842 v843 = y at hy hr
    simp only [Tree.run, Option.some.injEq, Prod.mk.injEq] at hr
    obtain ⟨rfl, rfl⟩ := hr
    exact call_ok0 hs (fun k => (([a1.av F] : List AV)[k]?).getD .top) [a1, .int .i64 v843] [.hslc (BR.root 0) v842, .int .i64 v843] (fun F' h0 hi hρ => ⟨by simp [DVs.av, DV.av, BR.av, hρ], laws_szInt64S_len_fn v842 v843 F' (by rw [hi]; rfl) (st_nil hi) ⟨hslc_ok hi (by rw [h0, hρ]; exact lenV_ok hs (DVs.okAt ha 0 rfl) hv842), trivial, trivial⟩ hy⟩) rfl
  · cases hr
/-! laws.szWhole -/
noncomputable def laws_szWhole_len_LO (v838 : Int) (v839 : Int) (v840 : Nat) (v841 : Int) : LOr := fun id e L =>
  match id with
  | _ => .fail
noncomputable def laws_szWhole_len_tab : List (FuncId × DFn × Bool) := [(61, laws_szInt64S_len_F, true)]
theorem laws_szWhole_len_hO : OrcOk Try.prog (tabD laws_szWhole_len_tab) (tabM laws_szWhole_len_tab) := tabD_cons laws_szInt64S_len_Fok (tabD_nil _)
noncomputable def laws_szWhole_len_T (v840 : Nat) (v841 : Int) : Tree (Int) :=
  (.br (decide ((laws_szInt64S_len_v v840 v841) < (0 : Int))) (
   .leaf (-1 : Int)
  ) (
   .leaf (laws_szInt64S_len_v v840 v841)
  ))

noncomputable def laws_szWhole_len_g (v840 : Nat) (v841 : Int) : Option (Int) := (laws_szWhole_len_T v840 v841).run
def laws_szWhole_len_enc (v838 : Int) (v839 : Int) (v840 : Nat) (v841 : Int) (y : Int) : Rs := (.int .i64 y, [])
theorem laws_szWhole_len_den (v838 : Int) (v839 : Int) (v840 : Nat) (v841 : Int) : (den TT (tabD laws_szWhole_len_tab) (tabM laws_szWhole_len_tab) (laws_szWhole_len_LO v838 v839 v840 v841) (codeOf Try.f15) ([.agg [.int .i64 v838, .int .i64 v839, .hslc (BR.root 0) v840], .int .i64 v841] ++ List.replicate (Try.f15.ntmps - ([.agg [.int .i64 v838, .int .i64 v839, .hslc (BR.root 0) v840], .int .i64 v841] : List DV).length) .undef) []).bind (retD TT Try.f15.results.toList 0) = (laws_szWhole_len_T v840 v841).bind fun y => .leaf (laws_szWhole_len_enc v838 v839 v840 v841 y) := by kernel_rfl
theorem laws_szWhole_len_fn (v838 : Int) (v839 : Int) (v840 : Nat) (v841 : Int) (F : Fr) (hm : F.ids.length = 0) (h0 : St F [] F.H0) (hA : DVs.Ok F [] [.agg [.int .i64 v838, .int .i64 v839, .hslc (BR.root 0) v840], .int .i64 v841]) {y : Int} (hy : laws_szWhole_len_g v840 v841 = some y) : ∃ H', FnOk Try.prog 15 (DVs.av F [.agg [.int .i64 v838, .int .i64 v839, .hslc (BR.root 0) v840], .int .i64 v841]) F.H0 ((laws_szWhole_len_enc v838 v839 v840 v841 y).1.av F) H' ∧ St F (laws_szWhole_len_enc v838 v839 v840 v841 y).2 H' ∧ (laws_szWhole_len_enc v838 v839 v840 v841 y).1.Ok F (laws_szWhole_len_enc v838 v839 v840 v841 y).2 :=
  fn_fin tok laws_szWhole_len_hO mixed Try.func15 Try.call15 (by kernel_rfl) (LoopsOk_eq (l := []) (by kernel_rfl) trivial) (laws_szWhole_len_den v838 v839 v840 v841) hy hm h0 hA
def laws_szWhole_len_v (v840 : Nat) (v841 : Int) : Int :=
  if (decide ((laws_szInt64S_len_v v840 v841) < (0 : Int))) = true then (
   (-1 : Int)
  ) else (
   (laws_szInt64S_len_v v840 v841)
  )
theorem laws_szWhole_len_tot (v840 : Nat) (v841 : Int) : laws_szWhole_len_g v840 v841 = some (laws_szWhole_len_v v840 v841) := by
  unfold laws_szWhole_len_g laws_szWhole_len_T laws_szWhole_len_v
  simp only [Tree.run]
  repeat' (first | rfl | split)
noncomputable def laws_szWhole_len_F : DFn := fun args L =>
  match args with
  | [.agg [.int .i64 v838, .int .i64 v839, a1], .int .i64 v841] =>
    optT (lenV L a1) fun v840 =>
    .leaf (.int .i64 (laws_szWhole_len_v v840 v841), L)
  | _ => .fail
theorem laws_szWhole_len_Fok : COk Try.prog 15 laws_szWhole_len_F true := by
  intro F L H args r L' hs ha hr
  unfold laws_szWhole_len_F at hr
  split at hr
  · rename_i v838 v839 a1 v841
    obtain ⟨v840, hv840, hr⟩ := optT_run hr
    have hy := laws_szWhole_len_tot v840 v841
    generalize laws_szWhole_len_v v840 v841 = y at hy hr
    simp only [Tree.run, Option.some.injEq, Prod.mk.injEq] at hr
    obtain ⟨rfl, rfl⟩ := hr
    exact call_ok0 hs (fun k => (([a1.av F] : List AV)[k]?).getD .top) [.agg [.int .i64 v838, .int .i64 v839, a1], .int .i64 v841] [.agg [.int .i64 v838, .int .i64 v839, .hslc (BR.root 0) v840], .int .i64 v841] (fun F' h0 hi hρ => ⟨by simp [DVs.av, DV.av, BR.av, hρ], laws_szWhole_len_fn v838 v839 v840 v841 F' (by rw [hi]; rfl) (st_nil hi) ⟨⟨trivial, trivial, hslc_ok hi (by rw [h0, hρ]; exact lenV_ok hs (DVs.okAt (DVs.okAt ha 0 rfl) 2 rfl) hv840), trivial⟩, trivial, trivial⟩ hy⟩) rfl
  · cases hr
/-! laws.FnExactAdjointOf -/
noncomputable def laws_FnExactAdjointOf_len_LO (v835 : Int) (v836 : Int) (v837 : Nat) : LOr := fun id e L =>
  match id with
  | _ => .fail
noncomputable def laws_FnExactAdjointOf_len_tab : List (FuncId × DFn × Bool) := [(15, laws_szWhole_len_F, true)]
theorem laws_FnExactAdjointOf_len_hO : OrcOk Try.prog (tabD laws_FnExactAdjointOf_len_tab) (tabM laws_FnExactAdjointOf_len_tab) := tabD_cons laws_szWhole_len_Fok (tabD_nil _)
noncomputable def laws_FnExactAdjointOf_len_T (v837 : Nat) : Tree (Bool) :=
  (.br (decide ((laws_szWhole_len_v v837 (1048576 : Int)) < (0 : Int))) (
   .leaf true
  ) (
   .fail
  ))

noncomputable def laws_FnExactAdjointOf_len_g (v837 : Nat) : Option (Bool) := (laws_FnExactAdjointOf_len_T v837).run
def laws_FnExactAdjointOf_len_enc (v835 : Int) (v836 : Int) (v837 : Nat) (y : Bool) : Rs := (.bool y, [])
theorem laws_FnExactAdjointOf_len_den (v835 : Int) (v836 : Int) (v837 : Nat) : (den TT (tabD laws_FnExactAdjointOf_len_tab) (tabM laws_FnExactAdjointOf_len_tab) (laws_FnExactAdjointOf_len_LO v835 v836 v837) (codeOf Try.f8) ([.agg [.int .i64 v835, .int .i64 v836, .hslc (BR.root 0) v837]] ++ List.replicate (Try.f8.ntmps - ([.agg [.int .i64 v835, .int .i64 v836, .hslc (BR.root 0) v837]] : List DV).length) .undef) []).bind (retD TT Try.f8.results.toList 0) = (laws_FnExactAdjointOf_len_T v837).bind fun y => .leaf (laws_FnExactAdjointOf_len_enc v835 v836 v837 y) := by kernel_rfl
theorem laws_FnExactAdjointOf_len_fn (v835 : Int) (v836 : Int) (v837 : Nat) (F : Fr) (hm : F.ids.length = 0) (h0 : St F [] F.H0) (hA : DVs.Ok F [] [.agg [.int .i64 v835, .int .i64 v836, .hslc (BR.root 0) v837]]) {y : Bool} (hy : laws_FnExactAdjointOf_len_g v837 = some y) : ∃ H', FnOk Try.prog 8 (DVs.av F [.agg [.int .i64 v835, .int .i64 v836, .hslc (BR.root 0) v837]]) F.H0 ((laws_FnExactAdjointOf_len_enc v835 v836 v837 y).1.av F) H' ∧ St F (laws_FnExactAdjointOf_len_enc v835 v836 v837 y).2 H' ∧ (laws_FnExactAdjointOf_len_enc v835 v836 v837 y).1.Ok F (laws_FnExactAdjointOf_len_enc v835 v836 v837 y).2 :=
  fn_fin tok laws_FnExactAdjointOf_len_hO mixed Try.func8 Try.call8 (by kernel_rfl) (LoopsOk_eq (l := []) (by kernel_rfl) trivial) (laws_FnExactAdjointOf_len_den v835 v836 v837) hy hm h0 hA
noncomputable def laws_FnExactAdjointOf_len_F : DFn := fun args L =>
  match args with
  | [.agg [.int .i64 v835, .int .i64 v836, a1]] =>
    optT (lenV L a1) fun v837 =>
    .call (laws_FnExactAdjointOf_len_g v837) fun y => .leaf (.bool y, L)
  | _ => .fail
theorem laws_FnExactAdjointOf_len_Fok : COk Try.prog 8 laws_FnExactAdjointOf_len_F true := by
  intro F L H args r L' hs ha hr
  unfold laws_FnExactAdjointOf_len_F at hr
  split at hr
  · rename_i v835 v836 a1
    obtain ⟨v837, hv837, hr⟩ := optT_run hr
    simp only [Tree.run] at hr
    obtain ⟨y, hy, hr⟩ := Option.bind_eq_some_iff.1 hr
    simp only [Tree.run, Option.some.injEq, Prod.mk.injEq] at hr
    obtain ⟨rfl, rfl⟩ := hr
    exact call_ok0 hs (fun k => (([a1.av F] : List AV)[k]?).getD .top) [.agg [.int .i64 v835, .int .i64 v836, a1]] [.agg [.int .i64 v835, .int .i64 v836, .hslc (BR.root 0) v837]] (fun F' h0 hi hρ => ⟨by simp [DVs.av, DV.av, BR.av, hρ], laws_FnExactAdjointOf_len_fn v835 v836 v837 F' (by rw [hi]; rfl) (st_nil hi) ⟨⟨trivial, trivial, hslc_ok hi (by rw [h0, hρ]; exact lenV_ok hs (DVs.okAt (DVs.okAt ha 0 rfl) 2 rfl) hv837), trivial⟩, trivial⟩ hy⟩) rfl
  · cases hr
end Go.Proofs.Ytbjnjaclmcpbbaa.AM
