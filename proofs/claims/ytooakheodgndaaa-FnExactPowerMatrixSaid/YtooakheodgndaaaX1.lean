/- Functions: what they come to. -/
import Derived.Test.YtooakheodgndaaaX0
set_option maxRecDepth 100000
set_option maxHeartbeats 4000000
set_option linter.unusedSimpArgs false
set_option linter.unusedVariables false
namespace Go.Proofs.Ytooakheodgndaaa.AM
open Go.Proofs
/-! impl.made -/
noncomputable def impl_made_i1_l2_T (v339 : Int) (v341 : Int) (v342 : List Nat) (v343 : Int) (v344 : Int) (v345 : List Nat) (v461 : Int) (v463 : Int) (v464 : Int) (s : Int × (List Nat)) : Tree ((Int × (List Nat)) ⊕ ((List Nat))) :=
  (.br (decide (s.1 < v339)) (
   (.call (impl_product_1_g v461 s.1 v341 v342 v343 v344 v345) fun v466 =>
   (.call (impl_Matrix_set_g v464 s.2 v461 s.1) fun v467 =>
   (.grd (decide ((List.set s.2 (Int.toNat (IntKind.i64.wrap ((IntKind.i64.wrap (v461 * v464)) + s.1))) v466).length = s.2.length)) <|
   .leaf (.inl (IntKind.i64.wrap (s.1 + (1 : Int)), List.set s.2 (Int.toNat (IntKind.i64.wrap ((IntKind.i64.wrap (v461 * v464)) + s.1))) v466)))))
  ) (
   .leaf (.inr s.2)
  ))

noncomputable def impl_made_i1_l2_g (v339 : Int) (v341 : Int) (v342 : List Nat) (v343 : Int) (v344 : Int) (v345 : List Nat) (v461 : Int) (v463 : Int) (v464 : Int) (s0 : Int × (List Nat)) : Option ((List Nat)) := whileM (fun s => (impl_made_i1_l2_T v339 v341 v342 v343 v344 v345 v461 v463 v464 s).run) s0
def impl_made_i1_l2_E (v338 : Int) (v339 : Int) (v340 : Int) (v341 : Int) (v342 : List Nat) (v343 : Int) (v344 : Int) (v345 : List Nat) (v461 : Int) (v463 : Int) (v464 : Int) (s : Int × (List Nat)) : Sd := ([.top, .int .i64 v339, .fn 169 [.bptr (BR.root 0) [.int .i64 v340, .int .i64 v341, .bslc (BR.root 1) (.f32 v342)], .bptr (BR.root 2) [.int .i64 v343, .int .i64 v344, .bslc (BR.root 3) (.f32 v345)]], .top, .top, .top, .ptr 0 (0 : Nat) 0 (3 : Nat), .ptr 1 (0 : Nat) 0 (3 : Nat), .int .i64 v461, .top, .top, .top, .top, .int .i64 v338, .int .i64 v461, .top, .top, .int .i64 v339, .int .i64 s.1, .top, .top, .top, .top, .top, .top, .top, .top, .top, .top, .top, .top, .top], [.gen [.int .i64 (0 : Int), .int .i64 (0 : Int), .nilslc] false 0, .gen [.int .i64 v463, .int .i64 v464, .own 2 0 ((s.2).length)] false 0, .row (.f32 s.2) 0])
def impl_made_i1_l2_X (v338 : Int) (v339 : Int) (v340 : Int) (v341 : Int) (v342 : List Nat) (v343 : Int) (v344 : Int) (v345 : List Nat) (v461 : Int) (v463 : Int) (v464 : Int) (x : (List Nat)) : Out := (.normal, [.top, .int .i64 v339, .fn 169 [.bptr (BR.root 0) [.int .i64 v340, .int .i64 v341, .bslc (BR.root 1) (.f32 v342)], .bptr (BR.root 2) [.int .i64 v343, .int .i64 v344, .bslc (BR.root 3) (.f32 v345)]], .top, .top, .top, .ptr 0 (0 : Nat) 0 (3 : Nat), .ptr 1 (0 : Nat) 0 (3 : Nat), .top, .top, .top, .top, .top, .int .i64 v338, .int .i64 v461, .top, .top, .top, .top, .top, .top, .top, .top, .top, .top, .top, .top, .top, .top, .top, .top, .top], [.gen [.int .i64 (0 : Int), .int .i64 (0 : Int), .nilslc] false 0, .gen [.int .i64 v463, .int .i64 v464, .own 2 0 ((x).length)] false 0, .row (.f32 x) 0])
def impl_made_i1_l2_kill : List Nat := [1, 0, 0, 1, 1, 1, 0, 0, 0, 1, 1, 1, 1, 0, 0, 1, 1, 0, 0, 1, 1, 1, 1, 1, 1, 1, 1, 1, 1, 1, 1, 1]
def impl_made_i1_l2_nx : Exit → List Nat
  | .exit 0 => [1, 1, 1, 1, 1, 1, 0, 0, 1, 1, 1, 1, 1, 1, 1, 1, 1, 1, 1, 1, 1, 1, 1, 1, 1, 1, 1, 1, 1, 1, 1, 1]
  | .exit 1 => [1, 0, 0, 1, 1, 1, 0, 0, 1, 1, 1, 1, 1, 0, 0, 1, 1, 1, 1, 1, 1, 1, 1, 1, 1, 1, 1, 1, 1, 1, 1, 1]
  | .exit 2 => [1, 0, 0, 1, 1, 1, 0, 0, 1, 1, 1, 1, 1, 0, 0, 1, 1, 1, 1, 1, 1, 1, 1, 1, 1, 1, 1, 1, 1, 1, 1, 1]
  | .ret => [1, 1, 1, 1, 1, 1, 0, 1, 1, 1, 1, 1, 1, 1, 1, 1, 1, 1, 1, 1, 1, 1, 1, 1, 1, 1, 1, 1, 1, 1, 1, 1]
  | _ => []
noncomputable def impl_made_i1_l0_T (v338 : Int) (v339 : Int) (v340 : Int) (v341 : Int) (v342 : List Nat) (v343 : Int) (v344 : Int) (v345 : List Nat) (v444 : Int) (v445 : Int) (s : Int × (List Nat)) : Tree ((Int × (List Nat)) ⊕ ((List Nat))) :=
  (.br (decide (s.1 < v338)) (
   (.need (some (impl_made_i1_l2_E v338 v339 v340 v341 v342 v343 v344 v345 s.1 v444 v445 ((0 : Int), s.2)) = some (impl_made_i1_l2_E v338 v339 v340 v341 v342 v343 v344 v345 s.1 v444 v445 ((0 : Int), s.2))) <|
   (.call (impl_made_i1_l2_g v339 v341 v342 v343 v344 v345 s.1 v444 v445 ((0 : Int), s.2)) fun v468 =>
   .leaf (.inl (IntKind.i64.wrap (s.1 + (1 : Int)), v468))))
  ) (
   .leaf (.inr s.2)
  ))

noncomputable def impl_made_i1_l0_g (v338 : Int) (v339 : Int) (v340 : Int) (v341 : Int) (v342 : List Nat) (v343 : Int) (v344 : Int) (v345 : List Nat) (v444 : Int) (v445 : Int) (s0 : Int × (List Nat)) : Option ((List Nat)) := whileM (fun s => (impl_made_i1_l0_T v338 v339 v340 v341 v342 v343 v344 v345 v444 v445 s).run) s0
def impl_made_i1_l0_E (v338 : Int) (v339 : Int) (v340 : Int) (v341 : Int) (v342 : List Nat) (v343 : Int) (v344 : Int) (v345 : List Nat) (v444 : Int) (v445 : Int) (s : Int × (List Nat)) : Sd := ([.top, .int .i64 v339, .fn 169 [.bptr (BR.root 0) [.int .i64 v340, .int .i64 v341, .bslc (BR.root 1) (.f32 v342)], .bptr (BR.root 2) [.int .i64 v343, .int .i64 v344, .bslc (BR.root 3) (.f32 v345)]], .top, .top, .top, .ptr 0 (0 : Nat) 0 (3 : Nat), .ptr 1 (0 : Nat) 0 (3 : Nat), .top, .top, .top, .top, .top, .int .i64 v338, .int .i64 s.1, .top, .top, .top, .top, .top, .top, .top, .top, .top, .top, .top, .top, .top, .top, .top, .top, .top], [.gen [.int .i64 (0 : Int), .int .i64 (0 : Int), .nilslc] false 0, .gen [.int .i64 v444, .int .i64 v445, .own 2 0 ((s.2).length)] false 0, .row (.f32 s.2) 0])
def impl_made_i1_l0_X (v338 : Int) (v339 : Int) (v340 : Int) (v341 : Int) (v342 : List Nat) (v343 : Int) (v344 : Int) (v345 : List Nat) (v444 : Int) (v445 : Int) (x : (List Nat)) : Out := (.normal, [.top, .top, .top, .top, .top, .top, .ptr 0 (0 : Nat) 0 (3 : Nat), .ptr 1 (0 : Nat) 0 (3 : Nat), .top, .top, .top, .top, .top, .top, .top, .top, .top, .top, .top, .top, .top, .top, .top, .top, .top, .top, .top, .top, .top, .top, .top, .top], [.gen [.int .i64 (0 : Int), .int .i64 (0 : Int), .nilslc] false 0, .gen [.int .i64 v444, .int .i64 v445, .own 2 0 ((x).length)] false 0, .row (.f32 x) 0])
def impl_made_i1_l0_kill : List Nat := [1, 0, 0, 1, 1, 1, 0, 0, 1, 1, 1, 1, 1, 0, 0, 1, 1, 1, 1, 1, 1, 1, 1, 1, 1, 1, 1, 1, 1, 1, 1, 1]
def impl_made_i1_l0_nx : Exit → List Nat
  | .exit 0 => [1, 1, 1, 1, 1, 1, 0, 0, 1, 1, 1, 1, 1, 1, 1, 1, 1, 1, 1, 1, 1, 1, 1, 1, 1, 1, 1, 1, 1, 1, 1, 1]
  | .ret => [1, 1, 1, 1, 1, 1, 0, 1, 1, 1, 1, 1, 1, 1, 1, 1, 1, 1, 1, 1, 1, 1, 1, 1, 1, 1, 1, 1, 1, 1, 1, 1]
  | _ => []
noncomputable def impl_made_i1_LO (v338 : Int) (v339 : Int) (v340 : Int) (v341 : Int) (v342 : List Nat) (v343 : Int) (v344 : Int) (v345 : List Nat) : LOr := fun id e L =>
  match id with
  | 2 => .need (normA 0 impl_made_i1_l2_kill e L = some (impl_made_i1_l2_E v338 v339 v340 v341 v342 v343 v344 v345 (gI (vAt e 8)) (gI (cAt L (vAt e 7) 0)) (gI (cAt L (vAt e 7) 1)) ((gI (vAt e 18)), (gRF L (cAt L (vAt e 7) 2))))) (.call (impl_made_i1_l2_g v339 v341 v342 v343 v344 v345 (gI (vAt e 8)) (gI (cAt L (vAt e 7) 0)) (gI (cAt L (vAt e 7) 1)) ((gI (vAt e 18)), (gRF L (cAt L (vAt e 7) 2)))) fun x => .leaf (impl_made_i1_l2_X v338 v339 v340 v341 v342 v343 v344 v345 (gI (vAt e 8)) (gI (cAt L (vAt e 7) 0)) (gI (cAt L (vAt e 7) 1)) x))
  | 0 => .need (normA 0 impl_made_i1_l0_kill e L = some (impl_made_i1_l0_E v338 v339 v340 v341 v342 v343 v344 v345 (gI (cAt L (vAt e 7) 0)) (gI (cAt L (vAt e 7) 1)) ((gI (vAt e 14)), (gRF L (cAt L (vAt e 7) 2))))) (.call (impl_made_i1_l0_g v338 v339 v340 v341 v342 v343 v344 v345 (gI (cAt L (vAt e 7) 0)) (gI (cAt L (vAt e 7) 1)) ((gI (vAt e 14)), (gRF L (cAt L (vAt e 7) 2)))) fun x => .leaf (impl_made_i1_l0_X v338 v339 v340 v341 v342 v343 v344 v345 (gI (cAt L (vAt e 7) 0)) (gI (cAt L (vAt e 7) 1)) x))
  | _ => .fail
noncomputable def impl_made_i1_tab : List (FuncId × DFn × Bool) := [(117, impl_newMatrix_F, true), (169, impl_product_1_F, true), (66, impl_Matrix_set_F, false)]
theorem impl_made_i1_hO : OrcOk Try.prog (tabD impl_made_i1_tab) (tabM impl_made_i1_tab) := tabD_cons impl_newMatrix_Fok (tabD_cons impl_product_1_Fok (tabD_cons impl_Matrix_set_Fok (tabD_nil _)))
theorem impl_made_i1_l2_be (v338 : Int) (v339 : Int) (v340 : Int) (v341 : Int) (v342 : List Nat) (v343 : Int) (v344 : Int) (v345 : List Nat) (v461 : Int) (v463 : Int) (v464 : Int) (s : Int × (List Nat)) : bodyT TT (tabD impl_made_i1_tab) (tabM impl_made_i1_tab) (impl_made_i1_LO v338 v339 v340 v341 v342 v343 v344 v345) 0 impl_made_i1_l2_kill impl_made_i1_l2_nx (bodyOf Try.f78 2) 2 (impl_made_i1_l2_E v338 v339 v340 v341 v342 v343 v344 v345 v461 v463 v464 s) = (impl_made_i1_l2_T v339 v341 v342 v343 v344 v345 v461 v463 v464 s).bind fun y => .leaf (outS (impl_made_i1_l2_E v338 v339 v340 v341 v342 v343 v344 v345 v461 v463 v464) (impl_made_i1_l2_X v338 v339 v340 v341 v342 v343 v344 v345 v461 v463 v464) y) := by kernel_rfl
theorem impl_made_i1_l2_ok (v338 : Int) (v339 : Int) (v340 : Int) (v341 : Int) (v342 : List Nat) (v343 : Int) (v344 : Int) (v345 : List Nat) : LSound Try.prog 0 (impl_made_i1_LO v338 v339 v340 v341 v342 v343 v344 v345) 2 (bodyOf Try.f78 2) := by
  intro e L out h
  exact lo_ok (E := impl_made_i1_l2_E v338 v339 v340 v341 v342 v343 v344 v345 (gI (vAt e 8)) (gI (cAt L (vAt e 7) 0)) (gI (cAt L (vAt e 7) 1))) (gT := impl_made_i1_l2_T v339 v341 v342 v343 v344 v345 (gI (vAt e 8)) (gI (cAt L (vAt e 7) 0)) (gI (cAt L (vAt e 7) 1))) (X := impl_made_i1_l2_X v338 v339 v340 v341 v342 v343 v344 v345 (gI (vAt e 8)) (gI (cAt L (vAt e 7) 0)) (gI (cAt L (vAt e 7) 1))) (s0 := ((gI (vAt e 18)), (gRF L (cAt L (vAt e 7) 2)))) tok impl_made_i1_hO mixed (LoopsOk_eq (l := []) (by kernel_rfl) trivial) (impl_made_i1_l2_be v338 v339 v340 v341 v342 v343 v344 v345 (gI (vAt e 8)) (gI (cAt L (vAt e 7) 0)) (gI (cAt L (vAt e 7) 1))) rfl (by intro x; rfl) h
theorem impl_made_i1_l0_be (v338 : Int) (v339 : Int) (v340 : Int) (v341 : Int) (v342 : List Nat) (v343 : Int) (v344 : Int) (v345 : List Nat) (v444 : Int) (v445 : Int) (s : Int × (List Nat)) : bodyT TT (tabD impl_made_i1_tab) (tabM impl_made_i1_tab) (impl_made_i1_LO v338 v339 v340 v341 v342 v343 v344 v345) 0 impl_made_i1_l0_kill impl_made_i1_l0_nx (bodyOf Try.f78 0) 0 (impl_made_i1_l0_E v338 v339 v340 v341 v342 v343 v344 v345 v444 v445 s) = (impl_made_i1_l0_T v338 v339 v340 v341 v342 v343 v344 v345 v444 v445 s).bind fun y => .leaf (outS (impl_made_i1_l0_E v338 v339 v340 v341 v342 v343 v344 v345 v444 v445) (impl_made_i1_l0_X v338 v339 v340 v341 v342 v343 v344 v345 v444 v445) y) := by kernel_rfl
theorem impl_made_i1_l0_ok (v338 : Int) (v339 : Int) (v340 : Int) (v341 : Int) (v342 : List Nat) (v343 : Int) (v344 : Int) (v345 : List Nat) : LSound Try.prog 0 (impl_made_i1_LO v338 v339 v340 v341 v342 v343 v344 v345) 0 (bodyOf Try.f78 0) := by
  intro e L out h
  exact lo_ok (E := impl_made_i1_l0_E v338 v339 v340 v341 v342 v343 v344 v345 (gI (cAt L (vAt e 7) 0)) (gI (cAt L (vAt e 7) 1))) (gT := impl_made_i1_l0_T v338 v339 v340 v341 v342 v343 v344 v345 (gI (cAt L (vAt e 7) 0)) (gI (cAt L (vAt e 7) 1))) (X := impl_made_i1_l0_X v338 v339 v340 v341 v342 v343 v344 v345 (gI (cAt L (vAt e 7) 0)) (gI (cAt L (vAt e 7) 1))) (s0 := ((gI (vAt e 14)), (gRF L (cAt L (vAt e 7) 2)))) tok impl_made_i1_hO mixed (LoopsOk_eq (l := [(2, bodyOf Try.f78 2)]) (by kernel_rfl) ⟨impl_made_i1_l2_ok v338 v339 v340 v341 v342 v343 v344 v345, trivial⟩) (impl_made_i1_l0_be v338 v339 v340 v341 v342 v343 v344 v345 (gI (cAt L (vAt e 7) 0)) (gI (cAt L (vAt e 7) 1))) rfl (by intro x; rfl) h
noncomputable def impl_made_i1_T (v338 : Int) (v339 : Int) (v340 : Int) (v341 : Int) (v342 : List Nat) (v343 : Int) (v344 : Int) (v345 : List Nat) : Tree (Int × Int × (List Nat)) :=
  (.call (impl_newMatrix_g v338 v339) fun v346 =>
  (.need (some (impl_made_i1_l0_E v338 v339 v340 v341 v342 v343 v344 v345 v346.1 v346.2 ((0 : Int), List.replicate (Int.toNat (IntKind.i64.wrap (v338 * v339))) (0 : Nat))) = some (impl_made_i1_l0_E v338 v339 v340 v341 v342 v343 v344 v345 v346.1 v346.2 ((0 : Int), List.replicate (Int.toNat (IntKind.i64.wrap (v338 * v339))) (0 : Nat)))) <|
  (.call (impl_made_i1_l0_g v338 v339 v340 v341 v342 v343 v344 v345 v346.1 v346.2 ((0 : Int), List.replicate (Int.toNat (IntKind.i64.wrap (v338 * v339))) (0 : Nat))) fun v469 =>
  .leaf (v346.1, v346.2, v469))))

noncomputable def impl_made_i1_g (v338 : Int) (v339 : Int) (v340 : Int) (v341 : Int) (v342 : List Nat) (v343 : Int) (v344 : Int) (v345 : List Nat) : Option (Int × Int × (List Nat)) := (impl_made_i1_T v338 v339 v340 v341 v342 v343 v344 v345).run
def impl_made_i1_enc (v338 : Int) (v339 : Int) (v340 : Int) (v341 : Int) (v342 : List Nat) (v343 : Int) (v344 : Int) (v345 : List Nat) (y : Int × Int × (List Nat)) : Rs := (.agg [.int .i64 y.1, .int .i64 y.2.1, .own 0 0 ((y.2.2).length)], [.row (.f32 y.2.2) 0])
theorem impl_made_i1_den (v338 : Int) (v339 : Int) (v340 : Int) (v341 : Int) (v342 : List Nat) (v343 : Int) (v344 : Int) (v345 : List Nat) : (den TT (tabD impl_made_i1_tab) (tabM impl_made_i1_tab) (impl_made_i1_LO v338 v339 v340 v341 v342 v343 v344 v345) (codeOf Try.f78) ([.int .i64 v338, .int .i64 v339, .fn 169 [.bptr (BR.root 0) [.int .i64 v340, .int .i64 v341, .bslc (BR.root 1) (.f32 v342)], .bptr (BR.root 2) [.int .i64 v343, .int .i64 v344, .bslc (BR.root 3) (.f32 v345)]]] ++ List.replicate (Try.f78.ntmps - ([.int .i64 v338, .int .i64 v339, .fn 169 [.bptr (BR.root 0) [.int .i64 v340, .int .i64 v341, .bslc (BR.root 1) (.f32 v342)], .bptr (BR.root 2) [.int .i64 v343, .int .i64 v344, .bslc (BR.root 3) (.f32 v345)]]] : List DV).length) .undef) []).bind (retD TT Try.f78.results.toList 0) = (impl_made_i1_T v338 v339 v340 v341 v342 v343 v344 v345).bind fun y => .leaf (impl_made_i1_enc v338 v339 v340 v341 v342 v343 v344 v345 y) := by kernel_rfl
theorem impl_made_i1_fn (v338 : Int) (v339 : Int) (v340 : Int) (v341 : Int) (v342 : List Nat) (v343 : Int) (v344 : Int) (v345 : List Nat) (F : Fr) (hm : F.ids.length = 0) (h0 : St F [] F.H0) (hA : DVs.Ok F [] [.int .i64 v338, .int .i64 v339, .fn 169 [.bptr (BR.root 0) [.int .i64 v340, .int .i64 v341, .bslc (BR.root 1) (.f32 v342)], .bptr (BR.root 2) [.int .i64 v343, .int .i64 v344, .bslc (BR.root 3) (.f32 v345)]]]) {y : Int × Int × (List Nat)} (hy : impl_made_i1_g v338 v339 v340 v341 v342 v343 v344 v345 = some y) : ∃ H', FnOk Try.prog 78 (DVs.av F [.int .i64 v338, .int .i64 v339, .fn 169 [.bptr (BR.root 0) [.int .i64 v340, .int .i64 v341, .bslc (BR.root 1) (.f32 v342)], .bptr (BR.root 2) [.int .i64 v343, .int .i64 v344, .bslc (BR.root 3) (.f32 v345)]]]) F.H0 ((impl_made_i1_enc v338 v339 v340 v341 v342 v343 v344 v345 y).1.av F) H' ∧ St F (impl_made_i1_enc v338 v339 v340 v341 v342 v343 v344 v345 y).2 H' ∧ (impl_made_i1_enc v338 v339 v340 v341 v342 v343 v344 v345 y).1.Ok F (impl_made_i1_enc v338 v339 v340 v341 v342 v343 v344 v345 y).2 :=
  fn_fin tok impl_made_i1_hO mixed Try.func78 Try.call78 (by kernel_rfl) (LoopsOk_eq (l := [(0, bodyOf Try.f78 0)]) (by kernel_rfl) ⟨impl_made_i1_l0_ok v338 v339 v340 v341 v342 v343 v344 v345, trivial⟩) (impl_made_i1_den v338 v339 v340 v341 v342 v343 v344 v345) hy hm h0 hA
noncomputable def impl_made_i1_F : DFn := fun args L =>
  match args with
  | [.int .i64 v338, .int .i64 v339, .fn 169 [a1, a3]] =>
    optT (cellsOf L 3 a1) fun cs0 =>
    (match cs0 with
    | [.int .i64 v340, .int .i64 v341, a2] =>
    optT (rowF32 L a2) fun v342 =>
    optT (cellsOf L 3 a3) fun cs2 =>
    (match cs2 with
    | [.int .i64 v343, .int .i64 v344, a4] =>
    optT (rowF32 L a4) fun v345 =>
    .call (impl_made_i1_g v338 v339 v340 v341 v342 v343 v344 v345) fun y => .leaf (.agg [.int .i64 y.1, .int .i64 y.2.1, .own (L.length + 0) 0 ((y.2.2).length)], L ++ [.row (.f32 y.2.2) 0])
    | _ => .fail)
    | _ => .fail)
  | _ => .fail
theorem impl_made_i1_Fok : COk Try.prog 78 impl_made_i1_F true := by
  intro F L H args r L' hs ha hr
  unfold impl_made_i1_F at hr
  split at hr
  · rename_i v338 v339 a1 a3
    obtain ⟨cs0, hcp0, hr⟩ := optT_run hr
    split at hr
    · rename_i v340 v341 a2
      obtain ⟨v342, hv342, hr⟩ := optT_run hr
      obtain ⟨cs2, hcp2, hr⟩ := optT_run hr
      split at hr
      · rename_i v343 v344 a4
        obtain ⟨v345, hv345, hr⟩ := optT_run hr
        simp only [Tree.run] at hr
        obtain ⟨y, hy, hr⟩ := Option.bind_eq_some_iff.1 hr
        simp only [Tree.run, Option.some.injEq, Prod.mk.injEq] at hr
        obtain ⟨rfl, rfl⟩ := hr
        exact call_ok1 hs (fun k => (([a1.av F, a2.av F, a3.av F, a4.av F] : List AV)[k]?).getD .top) [.int .i64 v338, .int .i64 v339, .fn 169 [a1, a3]] [.int .i64 v338, .int .i64 v339, .fn 169 [.bptr (BR.root 0) [.int .i64 v340, .int .i64 v341, .bslc (BR.root 1) (.f32 v342)], .bptr (BR.root 2) [.int .i64 v343, .int .i64 v344, .bslc (BR.root 3) (.f32 v345)]]] (fun F' h0 hi hρ => ⟨by simp [DVs.av, DV.av, BR.av, hρ], impl_made_i1_fn v338 v339 v340 v341 v342 v343 v344 v345 F' (by rw [hi]; rfl) (st_nil hi) ⟨trivial, trivial, ⟨bptr_ok hi (by rw [h0]; simpa [DVs.av, DV.av, BR.av, hρ] using (cellsOf_ok hs (DVs.okAt (DVs.okAt ha 2 rfl) 0 rfl) hcp0).1) ⟨trivial, trivial, bslc_ok hi (by rw [h0, hρ]; exact rowF32_ok hs (DVs.okAt (cellsOf_ok hs (DVs.okAt (DVs.okAt ha 2 rfl) 0 rfl) hcp0).2 2 rfl) hv342), trivial⟩, bptr_ok hi (by rw [h0]; simpa [DVs.av, DV.av, BR.av, hρ] using (cellsOf_ok hs (DVs.okAt (DVs.okAt ha 2 rfl) 1 rfl) hcp2).1) ⟨trivial, trivial, bslc_ok hi (by rw [h0, hρ]; exact rowF32_ok hs (DVs.okAt (cellsOf_ok hs (DVs.okAt (DVs.okAt ha 2 rfl) 1 rfl) hcp2).2 2 rfl) hv345), trivial⟩, trivial⟩, trivial⟩ hy⟩) rfl rfl
      · cases hr
    · cases hr
  · cases hr
/-! impl.product -/
noncomputable def impl_product_LO (v332 : Int) (v333 : Int) (v334 : List Nat) (v335 : Int) (v336 : Int) (v337 : List Nat) : LOr := fun id e L =>
  match id with
  | _ => .fail
noncomputable def impl_product_tab : List (FuncId × DFn × Bool) := [(78, impl_made_i1_F, true)]
theorem impl_product_hO : OrcOk Try.prog (tabD impl_product_tab) (tabM impl_product_tab) := tabD_cons impl_made_i1_Fok (tabD_nil _)
noncomputable def impl_product_T (v332 : Int) (v333 : Int) (v334 : List Nat) (v335 : Int) (v336 : Int) (v337 : List Nat) : Tree (Int × Int × (List Nat)) :=
  (.call (impl_made_i1_g v332 v336 v332 v333 v334 v335 v336 v337) fun v470 =>
  .leaf (v470.1, v470.2.1, v470.2.2))

noncomputable def impl_product_g (v332 : Int) (v333 : Int) (v334 : List Nat) (v335 : Int) (v336 : Int) (v337 : List Nat) : Option (Int × Int × (List Nat)) := (impl_product_T v332 v333 v334 v335 v336 v337).run
def impl_product_enc (v332 : Int) (v333 : Int) (v334 : List Nat) (v335 : Int) (v336 : Int) (v337 : List Nat) (y : Int × Int × (List Nat)) : Rs := (.agg [.int .i64 y.1, .int .i64 y.2.1, .own 0 0 ((y.2.2).length)], [.row (.f32 y.2.2) 0])
theorem impl_product_den (v332 : Int) (v333 : Int) (v334 : List Nat) (v335 : Int) (v336 : Int) (v337 : List Nat) : (den TT (tabD impl_product_tab) (tabM impl_product_tab) (impl_product_LO v332 v333 v334 v335 v336 v337) (codeOf Try.f140) ([.agg [.int .i64 v332, .int .i64 v333, .bslc (BR.root 0) (.f32 v334)], .agg [.int .i64 v335, .int .i64 v336, .bslc (BR.root 1) (.f32 v337)]] ++ List.replicate (Try.f140.ntmps - ([.agg [.int .i64 v332, .int .i64 v333, .bslc (BR.root 0) (.f32 v334)], .agg [.int .i64 v335, .int .i64 v336, .bslc (BR.root 1) (.f32 v337)]] : List DV).length) .undef) []).bind (retD TT Try.f140.results.toList 0) = (impl_product_T v332 v333 v334 v335 v336 v337).bind fun y => .leaf (impl_product_enc v332 v333 v334 v335 v336 v337 y) := by kernel_rfl
theorem impl_product_fn (v332 : Int) (v333 : Int) (v334 : List Nat) (v335 : Int) (v336 : Int) (v337 : List Nat) (F : Fr) (hm : F.ids.length = 0) (h0 : St F [] F.H0) (hA : DVs.Ok F [] [.agg [.int .i64 v332, .int .i64 v333, .bslc (BR.root 0) (.f32 v334)], .agg [.int .i64 v335, .int .i64 v336, .bslc (BR.root 1) (.f32 v337)]]) {y : Int × Int × (List Nat)} (hy : impl_product_g v332 v333 v334 v335 v336 v337 = some y) : ∃ H', FnOk Try.prog 140 (DVs.av F [.agg [.int .i64 v332, .int .i64 v333, .bslc (BR.root 0) (.f32 v334)], .agg [.int .i64 v335, .int .i64 v336, .bslc (BR.root 1) (.f32 v337)]]) F.H0 ((impl_product_enc v332 v333 v334 v335 v336 v337 y).1.av F) H' ∧ St F (impl_product_enc v332 v333 v334 v335 v336 v337 y).2 H' ∧ (impl_product_enc v332 v333 v334 v335 v336 v337 y).1.Ok F (impl_product_enc v332 v333 v334 v335 v336 v337 y).2 :=
  fn_fin tok impl_product_hO mixed Try.func140 Try.call140 (by kernel_rfl) (LoopsOk_eq (l := []) (by kernel_rfl) trivial) (impl_product_den v332 v333 v334 v335 v336 v337) hy hm h0 hA
noncomputable def impl_product_F : DFn := fun args L =>
  match args with
  | [.agg [.int .i64 v332, .int .i64 v333, a1], .agg [.int .i64 v335, .int .i64 v336, a2]] =>
    optT (rowF32 L a1) fun v334 =>
    optT (rowF32 L a2) fun v337 =>
    .call (impl_product_g v332 v333 v334 v335 v336 v337) fun y => .leaf (.agg [.int .i64 y.1, .int .i64 y.2.1, .own (L.length + 0) 0 ((y.2.2).length)], L ++ [.row (.f32 y.2.2) 0])
  | _ => .fail
theorem impl_product_Fok : COk Try.prog 140 impl_product_F true := by
  intro F L H args r L' hs ha hr
  unfold impl_product_F at hr
  split at hr
  · rename_i v332 v333 a1 v335 v336 a2
    obtain ⟨v334, hv334, hr⟩ := optT_run hr
    obtain ⟨v337, hv337, hr⟩ := optT_run hr
    simp only [Tree.run] at hr
    obtain ⟨y, hy, hr⟩ := Option.bind_eq_some_iff.1 hr
    simp only [Tree.run, Option.some.injEq, Prod.mk.injEq] at hr
    obtain ⟨rfl, rfl⟩ := hr
    exact call_ok1 hs (fun k => (([a1.av F, a2.av F] : List AV)[k]?).getD .top) [.agg [.int .i64 v332, .int .i64 v333, a1], .agg [.int .i64 v335, .int .i64 v336, a2]] [.agg [.int .i64 v332, .int .i64 v333, .bslc (BR.root 0) (.f32 v334)], .agg [.int .i64 v335, .int .i64 v336, .bslc (BR.root 1) (.f32 v337)]] (fun F' h0 hi hρ => ⟨by simp [DVs.av, DV.av, BR.av, hρ], impl_product_fn v332 v333 v334 v335 v336 v337 F' (by rw [hi]; rfl) (st_nil hi) ⟨⟨trivial, trivial, bslc_ok hi (by rw [h0, hρ]; exact rowF32_ok hs (DVs.okAt (DVs.okAt ha 0 rfl) 2 rfl) hv334), trivial⟩, ⟨trivial, trivial, bslc_ok hi (by rw [h0, hρ]; exact rowF32_ok hs (DVs.okAt (DVs.okAt ha 1 rfl) 2 rfl) hv337), trivial⟩, trivial⟩ hy⟩) rfl rfl
  · cases hr
/-! (impl.Matrix).valid -/
noncomputable def impl_Matrix_valid_LO (v472 : Int) (v473 : Int) (v474 : List Nat) : LOr := fun id e L =>
  match id with
  | _ => .fail
noncomputable def impl_Matrix_valid_tab : List (FuncId × DFn × Bool) := [(67, impl_ValidMatrix_F, true)]
theorem impl_Matrix_valid_hO : OrcOk Try.prog (tabD impl_Matrix_valid_tab) (tabM impl_Matrix_valid_tab) := tabD_cons impl_ValidMatrix_Fok (tabD_nil _)
noncomputable def impl_Matrix_valid_T (v472 : Int) (v473 : Int) (v474 : List Nat) : Tree ((Unit) ⊕ (Int × Int)) :=
  (.call (impl_ValidMatrix_g v472 v473 v474) fun v475 =>
  (.br (!v475) (
   .leaf (.inl ())
  ) (
   .leaf (.inr (v472, v473))
  )))

noncomputable def impl_Matrix_valid_g (v472 : Int) (v473 : Int) (v474 : List Nat) : Option ((Unit) ⊕ (Int × Int)) := (impl_Matrix_valid_T v472 v473 v474).run
def impl_Matrix_valid_enc (v472 : Int) (v473 : Int) (v474 : List Nat) (y : (Unit) ⊕ (Int × Int)) : Rs := (match y with | .inl y => (.tup [.agg [.int .i64 (0 : Int), .int .i64 (0 : Int), .nilslc], .lit false], []) | .inr y => (.tup [.agg [.int .i64 y.1, .int .i64 y.2, .bslc (BR.root 0) (.f32 v474)], .lit true], []))
theorem impl_Matrix_valid_den (v472 : Int) (v473 : Int) (v474 : List Nat) : (den TT (tabD impl_Matrix_valid_tab) (tabM impl_Matrix_valid_tab) (impl_Matrix_valid_LO v472 v473 v474) (codeOf Try.f83) ([.agg [.int .i64 v472, .int .i64 v473, .bslc (BR.root 0) (.f32 v474)]] ++ List.replicate (Try.f83.ntmps - ([.agg [.int .i64 v472, .int .i64 v473, .bslc (BR.root 0) (.f32 v474)]] : List DV).length) .undef) []).bind (retD TT Try.f83.results.toList 0) = (impl_Matrix_valid_T v472 v473 v474).bind fun y => .leaf (impl_Matrix_valid_enc v472 v473 v474 y) := by kernel_rfl
theorem impl_Matrix_valid_fn (v472 : Int) (v473 : Int) (v474 : List Nat) (F : Fr) (hm : F.ids.length = 0) (h0 : St F [] F.H0) (hA : DVs.Ok F [] [.agg [.int .i64 v472, .int .i64 v473, .bslc (BR.root 0) (.f32 v474)]]) {y : (Unit) ⊕ (Int × Int)} (hy : impl_Matrix_valid_g v472 v473 v474 = some y) : ∃ H', FnOk Try.prog 83 (DVs.av F [.agg [.int .i64 v472, .int .i64 v473, .bslc (BR.root 0) (.f32 v474)]]) F.H0 ((impl_Matrix_valid_enc v472 v473 v474 y).1.av F) H' ∧ St F (impl_Matrix_valid_enc v472 v473 v474 y).2 H' ∧ (impl_Matrix_valid_enc v472 v473 v474 y).1.Ok F (impl_Matrix_valid_enc v472 v473 v474 y).2 :=
  fn_fin tok impl_Matrix_valid_hO mixed Try.func83 Try.call83 (by kernel_rfl) (LoopsOk_eq (l := []) (by kernel_rfl) trivial) (impl_Matrix_valid_den v472 v473 v474) hy hm h0 hA
noncomputable def impl_Matrix_valid_F : DFn := fun args L =>
  match args with
  | [.agg [.int .i64 v472, .int .i64 v473, a1]] =>
    optT (rowF32 L a1) fun v474 =>
    .call (impl_Matrix_valid_g v472 v473 v474) fun y => .sum y (fun y0 => .leaf (.tup [.agg [.int .i64 (0 : Int), .int .i64 (0 : Int), .nilslc], .lit false], L)) (fun z0 => .leaf (.tup [.agg [.int .i64 z0.1, .int .i64 z0.2, a1], .lit true], L))
  | _ => .fail
theorem impl_Matrix_valid_Fok : COk Try.prog 83 impl_Matrix_valid_F true := by
  intro F L H args r L' hs ha hr
  unfold impl_Matrix_valid_F at hr
  split at hr
  · rename_i v472 v473 a1
    obtain ⟨v474, hv474, hr⟩ := optT_run hr
    simp only [Tree.run] at hr
    obtain ⟨y, hy, hr⟩ := Option.bind_eq_some_iff.1 hr
    cases y with
    | inl y =>
      simp only [Tree.run, Option.some.injEq, Prod.mk.injEq] at hr
      obtain ⟨rfl, rfl⟩ := hr
      exact call_ok0 hs (fun k => (([a1.av F] : List AV)[k]?).getD .top) [.agg [.int .i64 v472, .int .i64 v473, a1]] [.agg [.int .i64 v472, .int .i64 v473, .bslc (BR.root 0) (.f32 v474)]] (fun F' h0 hi hρ => ⟨by simp [DVs.av, DV.av, BR.av, hρ], impl_Matrix_valid_fn v472 v473 v474 F' (by rw [hi]; rfl) (st_nil hi) ⟨⟨trivial, trivial, bslc_ok hi (by rw [h0, hρ]; exact rowF32_ok hs (DVs.okAt (DVs.okAt ha 0 rfl) 2 rfl) hv474), trivial⟩, trivial⟩ hy⟩) rfl
    | inr y =>
      simp only [Tree.run, Option.some.injEq, Prod.mk.injEq] at hr
      obtain ⟨rfl, rfl⟩ := hr
      exact call_al0 hs (fun k => (([a1.av F] : List AV)[k]?).getD .top) [.agg [.int .i64 v472, .int .i64 v473, a1]] [.agg [.int .i64 v472, .int .i64 v473, .bslc (BR.root 0) (.f32 v474)]] (fun F' h0 hi hρ => ⟨by simp [DVs.av, DV.av, BR.av, hρ], impl_Matrix_valid_fn v472 v473 v474 F' (by rw [hi]; rfl) (st_nil hi) ⟨⟨trivial, trivial, bslc_ok hi (by rw [h0, hρ]; exact rowF32_ok hs (DVs.okAt (DVs.okAt ha 0 rfl) 2 rfl) hv474), trivial⟩, trivial⟩ hy⟩) (fun F' h0 hi hρ => by simp [impl_Matrix_valid_enc, DVs.av, DV.av, BR.av, hρ]) ⟨⟨trivial, trivial, (DVs.okAt (DVs.okAt ha 0 rfl) 2 rfl), trivial⟩, trivial, trivial⟩
  · cases hr
/-! impl.MulMatrices -/
noncomputable def impl_MulMatrices_LO (v317 : Int) (v318 : Int) (v319 : List Nat) (v320 : Int) (v321 : Int) (v322 : List Nat) : LOr := fun id e L =>
  match id with
  | _ => .fail
noncomputable def impl_MulMatrices_tab : List (FuncId × DFn × Bool) := [(76, impl_areFactors_F, true), (140, impl_product_F, true), (83, impl_Matrix_valid_F, true)]
theorem impl_MulMatrices_hO : OrcOk Try.prog (tabD impl_MulMatrices_tab) (tabM impl_MulMatrices_tab) := tabD_cons impl_areFactors_Fok (tabD_cons impl_product_Fok (tabD_cons impl_Matrix_valid_Fok (tabD_nil _)))
noncomputable def impl_MulMatrices_T (v317 : Int) (v318 : Int) (v319 : List Nat) (v320 : Int) (v321 : Int) (v322 : List Nat) : Tree ((Unit) ⊕ (Int × Int × (List Nat))) :=
  (.call (impl_areFactors_g v317 v318 v319 v320 v321 v322) fun v331 =>
  (.br (!v331) (
   .leaf (.inl ())
  ) (
   (.call (impl_product_g v317 v318 v319 v320 v321 v322) fun v471 =>
   (.call (impl_Matrix_valid_g v471.1 v471.2.1 v471.2.2) fun v476 =>
   (.sum v476 (fun v477 =>
    .leaf (.inl ())
   ) (fun v478 =>
    .leaf (.inr (v478.1, v478.2, v471.2.2))
   ))))
  )))

noncomputable def impl_MulMatrices_g (v317 : Int) (v318 : Int) (v319 : List Nat) (v320 : Int) (v321 : Int) (v322 : List Nat) : Option ((Unit) ⊕ (Int × Int × (List Nat))) := (impl_MulMatrices_T v317 v318 v319 v320 v321 v322).run
def impl_MulMatrices_enc (v317 : Int) (v318 : Int) (v319 : List Nat) (v320 : Int) (v321 : Int) (v322 : List Nat) (y : (Unit) ⊕ (Int × Int × (List Nat))) : Rs := (match y with | .inl y => (.tup [.agg [.int .i64 (0 : Int), .int .i64 (0 : Int), .nilslc], .lit false], []) | .inr y => (.tup [.agg [.int .i64 y.1, .int .i64 y.2.1, .own 0 0 ((y.2.2).length)], .lit true], [.row (.f32 y.2.2) 0]))
theorem impl_MulMatrices_den (v317 : Int) (v318 : Int) (v319 : List Nat) (v320 : Int) (v321 : Int) (v322 : List Nat) : (den TT (tabD impl_MulMatrices_tab) (tabM impl_MulMatrices_tab) (impl_MulMatrices_LO v317 v318 v319 v320 v321 v322) (codeOf Try.f74) ([.agg [.int .i64 v317, .int .i64 v318, .bslc (BR.root 0) (.f32 v319)], .agg [.int .i64 v320, .int .i64 v321, .bslc (BR.root 1) (.f32 v322)]] ++ List.replicate (Try.f74.ntmps - ([.agg [.int .i64 v317, .int .i64 v318, .bslc (BR.root 0) (.f32 v319)], .agg [.int .i64 v320, .int .i64 v321, .bslc (BR.root 1) (.f32 v322)]] : List DV).length) .undef) []).bind (retD TT Try.f74.results.toList 0) = (impl_MulMatrices_T v317 v318 v319 v320 v321 v322).bind fun y => .leaf (impl_MulMatrices_enc v317 v318 v319 v320 v321 v322 y) := by kernel_rfl
theorem impl_MulMatrices_fn (v317 : Int) (v318 : Int) (v319 : List Nat) (v320 : Int) (v321 : Int) (v322 : List Nat) (F : Fr) (hm : F.ids.length = 0) (h0 : St F [] F.H0) (hA : DVs.Ok F [] [.agg [.int .i64 v317, .int .i64 v318, .bslc (BR.root 0) (.f32 v319)], .agg [.int .i64 v320, .int .i64 v321, .bslc (BR.root 1) (.f32 v322)]]) {y : (Unit) ⊕ (Int × Int × (List Nat))} (hy : impl_MulMatrices_g v317 v318 v319 v320 v321 v322 = some y) : ∃ H', FnOk Try.prog 74 (DVs.av F [.agg [.int .i64 v317, .int .i64 v318, .bslc (BR.root 0) (.f32 v319)], .agg [.int .i64 v320, .int .i64 v321, .bslc (BR.root 1) (.f32 v322)]]) F.H0 ((impl_MulMatrices_enc v317 v318 v319 v320 v321 v322 y).1.av F) H' ∧ St F (impl_MulMatrices_enc v317 v318 v319 v320 v321 v322 y).2 H' ∧ (impl_MulMatrices_enc v317 v318 v319 v320 v321 v322 y).1.Ok F (impl_MulMatrices_enc v317 v318 v319 v320 v321 v322 y).2 :=
  fn_fin tok impl_MulMatrices_hO mixed Try.func74 Try.call74 (by kernel_rfl) (LoopsOk_eq (l := []) (by kernel_rfl) trivial) (impl_MulMatrices_den v317 v318 v319 v320 v321 v322) hy hm h0 hA
noncomputable def impl_MulMatrices_F : DFn := fun args L =>
  match args with
  | [.agg [.int .i64 v317, .int .i64 v318, a1], .agg [.int .i64 v320, .int .i64 v321, a2]] =>
    optT (rowF32 L a1) fun v319 =>
    optT (rowF32 L a2) fun v322 =>
    .call (impl_MulMatrices_g v317 v318 v319 v320 v321 v322) fun y => .sum y (fun y0 => .leaf (.tup [.agg [.int .i64 (0 : Int), .int .i64 (0 : Int), .nilslc], .lit false], L)) (fun z0 => .leaf (.tup [.agg [.int .i64 z0.1, .int .i64 z0.2.1, .own (L.length + 0) 0 ((z0.2.2).length)], .lit true], L ++ [.row (.f32 z0.2.2) 0]))
  | _ => .fail
theorem impl_MulMatrices_Fok : COk Try.prog 74 impl_MulMatrices_F true := by
  intro F L H args r L' hs ha hr
  unfold impl_MulMatrices_F at hr
  split at hr
  · rename_i v317 v318 a1 v320 v321 a2
    obtain ⟨v319, hv319, hr⟩ := optT_run hr
    obtain ⟨v322, hv322, hr⟩ := optT_run hr
    simp only [Tree.run] at hr
    obtain ⟨y, hy, hr⟩ := Option.bind_eq_some_iff.1 hr
    cases y with
    | inl y =>
      simp only [Tree.run, Option.some.injEq, Prod.mk.injEq] at hr
      obtain ⟨rfl, rfl⟩ := hr
      exact call_ok0 hs (fun k => (([a1.av F, a2.av F] : List AV)[k]?).getD .top) [.agg [.int .i64 v317, .int .i64 v318, a1], .agg [.int .i64 v320, .int .i64 v321, a2]] [.agg [.int .i64 v317, .int .i64 v318, .bslc (BR.root 0) (.f32 v319)], .agg [.int .i64 v320, .int .i64 v321, .bslc (BR.root 1) (.f32 v322)]] (fun F' h0 hi hρ => ⟨by simp [DVs.av, DV.av, BR.av, hρ], impl_MulMatrices_fn v317 v318 v319 v320 v321 v322 F' (by rw [hi]; rfl) (st_nil hi) ⟨⟨trivial, trivial, bslc_ok hi (by rw [h0, hρ]; exact rowF32_ok hs (DVs.okAt (DVs.okAt ha 0 rfl) 2 rfl) hv319), trivial⟩, ⟨trivial, trivial, bslc_ok hi (by rw [h0, hρ]; exact rowF32_ok hs (DVs.okAt (DVs.okAt ha 1 rfl) 2 rfl) hv322), trivial⟩, trivial⟩ hy⟩) rfl
    | inr y =>
      simp only [Tree.run, Option.some.injEq, Prod.mk.injEq] at hr
      obtain ⟨rfl, rfl⟩ := hr
      exact call_ok1 hs (fun k => (([a1.av F, a2.av F] : List AV)[k]?).getD .top) [.agg [.int .i64 v317, .int .i64 v318, a1], .agg [.int .i64 v320, .int .i64 v321, a2]] [.agg [.int .i64 v317, .int .i64 v318, .bslc (BR.root 0) (.f32 v319)], .agg [.int .i64 v320, .int .i64 v321, .bslc (BR.root 1) (.f32 v322)]] (fun F' h0 hi hρ => ⟨by simp [DVs.av, DV.av, BR.av, hρ], impl_MulMatrices_fn v317 v318 v319 v320 v321 v322 F' (by rw [hi]; rfl) (st_nil hi) ⟨⟨trivial, trivial, bslc_ok hi (by rw [h0, hρ]; exact rowF32_ok hs (DVs.okAt (DVs.okAt ha 0 rfl) 2 rfl) hv319), trivial⟩, ⟨trivial, trivial, bslc_ok hi (by rw [h0, hρ]; exact rowF32_ok hs (DVs.okAt (DVs.okAt ha 1 rfl) 2 rfl) hv322), trivial⟩, trivial⟩ hy⟩) rfl rfl
  · cases hr
/-! impl.PowerMatrix -/
noncomputable def impl_PowerMatrix_l0_T (v188 : Int) (v189 : Int) (v190 : List Nat) (s : (Int × Int × Int × (List Nat)) ⊕ (Int × Int × Int × Int × Int × (List Nat) × (List Nat))) : Tree (((Int × Int × Int × (List Nat)) ⊕ (Int × Int × Int × Int × Int × (List Nat) × (List Nat))) ⊕ ((Unit) ⊕ (Int × Int × (List Nat)))) :=
  (match s with
  | .inl s => (
  (.br (decide ((0 : Int) < s.1)) (
   (.grd (!decide ((2 : Int) = 0)) <|
   (.br (decide (Int.tmod s.1 (2 : Int) = (1 : Int))) (
    (.call (impl_MulMatrices_g s.2.1 s.2.2.1 s.2.2.2 v188 v189 v190) fun v538 =>
    (.sum v538 (fun v539 =>
     .leaf (.inr (.inl ()))
    ) (fun v540 =>
     (.grd (!decide ((2 : Int) = 0)) <|
     (.br (decide ((0 : Int) < IntKind.i64.wrap (Int.tdiv s.1 (2 : Int)))) (
      (.call (impl_MulMatrices_g v188 v189 v190 v188 v189 v190) fun v541 =>
      (.sum v541 (fun v542 =>
       .leaf (.inr (.inl ()))
      ) (fun v543 =>
       .leaf (.inl (.inr (IntKind.i64.wrap (Int.tdiv s.1 (2 : Int)), v540.1, v540.2.1, v543.1, v543.2.1, v540.2.2, v543.2.2)))
      )))
     ) (
      .leaf (.inl (.inl (IntKind.i64.wrap (Int.tdiv s.1 (2 : Int)), v540.1, v540.2.1, v540.2.2)))
     )))
    )))
   ) (
    (.grd (!decide ((2 : Int) = 0)) <|
    (.br (decide ((0 : Int) < IntKind.i64.wrap (Int.tdiv s.1 (2 : Int)))) (
     (.call (impl_MulMatrices_g v188 v189 v190 v188 v189 v190) fun v544 =>
     (.sum v544 (fun v545 =>
      .leaf (.inr (.inl ()))
     ) (fun v546 =>
      .leaf (.inl (.inr (IntKind.i64.wrap (Int.tdiv s.1 (2 : Int)), s.2.1, s.2.2.1, v546.1, v546.2.1, s.2.2.2, v546.2.2)))
     )))
    ) (
     .leaf (.inl (.inl (IntKind.i64.wrap (Int.tdiv s.1 (2 : Int)), s.2.1, s.2.2.1, s.2.2.2)))
    )))
   )))
  ) (
   .leaf (.inr (.inr (s.2.1, s.2.2.1, s.2.2.2)))
  )))
  | .inr s => (
  (.br (decide ((0 : Int) < s.1)) (
   (.grd (!decide ((2 : Int) = 0)) <|
   (.br (decide (Int.tmod s.1 (2 : Int) = (1 : Int))) (
    (.call (impl_MulMatrices_g s.2.1 s.2.2.1 s.2.2.2.2.2.1 s.2.2.2.1 s.2.2.2.2.1 s.2.2.2.2.2.2) fun v547 =>
    (.sum v547 (fun v548 =>
     .leaf (.inr (.inl ()))
    ) (fun v549 =>
     (.grd (!decide ((2 : Int) = 0)) <|
     (.br (decide ((0 : Int) < IntKind.i64.wrap (Int.tdiv s.1 (2 : Int)))) (
      (.call (impl_MulMatrices_g s.2.2.2.1 s.2.2.2.2.1 s.2.2.2.2.2.2 s.2.2.2.1 s.2.2.2.2.1 s.2.2.2.2.2.2) fun v550 =>
      (.sum v550 (fun v551 =>
       .leaf (.inr (.inl ()))
      ) (fun v552 =>
       .leaf (.inl (.inr (IntKind.i64.wrap (Int.tdiv s.1 (2 : Int)), v549.1, v549.2.1, v552.1, v552.2.1, v549.2.2, v552.2.2)))
      )))
     ) (
      .leaf (.inl (.inr (IntKind.i64.wrap (Int.tdiv s.1 (2 : Int)), v549.1, v549.2.1, s.2.2.2.1, s.2.2.2.2.1, v549.2.2, s.2.2.2.2.2.2)))
     )))
    )))
   ) (
    (.grd (!decide ((2 : Int) = 0)) <|
    (.br (decide ((0 : Int) < IntKind.i64.wrap (Int.tdiv s.1 (2 : Int)))) (
     (.call (impl_MulMatrices_g s.2.2.2.1 s.2.2.2.2.1 s.2.2.2.2.2.2 s.2.2.2.1 s.2.2.2.2.1 s.2.2.2.2.2.2) fun v553 =>
     (.sum v553 (fun v554 =>
      .leaf (.inr (.inl ()))
     ) (fun v555 =>
      .leaf (.inl (.inr (IntKind.i64.wrap (Int.tdiv s.1 (2 : Int)), s.2.1, s.2.2.1, v555.1, v555.2.1, s.2.2.2.2.2.1, v555.2.2)))
     )))
    ) (
     .leaf (.inl (.inr (IntKind.i64.wrap (Int.tdiv s.1 (2 : Int)), s.2.1, s.2.2.1, s.2.2.2.1, s.2.2.2.2.1, s.2.2.2.2.2.1, s.2.2.2.2.2.2)))
    )))
   )))
  ) (
   .leaf (.inr (.inr (s.2.1, s.2.2.1, s.2.2.2.2.2.1)))
  ))))

noncomputable def impl_PowerMatrix_l0_g (v188 : Int) (v189 : Int) (v190 : List Nat) (s0 : (Int × Int × Int × (List Nat)) ⊕ (Int × Int × Int × Int × Int × (List Nat) × (List Nat))) : Option ((Unit) ⊕ (Int × Int × (List Nat))) := whileM (fun s => (impl_PowerMatrix_l0_T v188 v189 v190 s).run) s0
def impl_PowerMatrix_l0_E (v188 : Int) (v189 : Int) (v190 : List Nat) (v191 : Int) (s : (Int × Int × Int × (List Nat)) ⊕ (Int × Int × Int × Int × Int × (List Nat) × (List Nat))) : Sd := (match s with | .inl s => ( ([.top, .int .i64 s.1, .top, .top, .ptr 0 (0 : Nat) 0 (3 : Nat), .top, .ptr 1 (0 : Nat) 0 (3 : Nat), .ptr 2 (0 : Nat) 0 (3 : Nat), .top, .top, .top, .top, .top, .top, .top, .top, .top, .top, .top, .top, .top, .top, .top, .top, .top, .top, .top, .top, .top, .top, .top, .top, .top, .top, .top, .top, .top, .top, .top, .top, .top, .top, .top, .top, .top, .top, .top, .top, .top, .top], [.gen [.int .i64 (0 : Int), .int .i64 (0 : Int), .nilslc] false 0, .gen [.int .i64 s.2.1, .int .i64 s.2.2.1, .own 3 0 ((s.2.2.2).length)] false 0, .gen [.int .i64 v188, .int .i64 v189, .bslc (BR.root 0) (.f32 v190)] false 0, .row (.f32 s.2.2.2) 0])) | .inr s => ( ([.top, .int .i64 s.1, .top, .top, .ptr 0 (0 : Nat) 0 (3 : Nat), .top, .ptr 1 (0 : Nat) 0 (3 : Nat), .ptr 2 (0 : Nat) 0 (3 : Nat), .top, .top, .top, .top, .top, .top, .top, .top, .top, .top, .top, .top, .top, .top, .top, .top, .top, .top, .top, .top, .top, .top, .top, .top, .top, .top, .top, .top, .top, .top, .top, .top, .top, .top, .top, .top, .top, .top, .top, .top, .top, .top], [.gen [.int .i64 (0 : Int), .int .i64 (0 : Int), .nilslc] false 0, .gen [.int .i64 s.2.1, .int .i64 s.2.2.1, .own 3 0 ((s.2.2.2.2.2.1).length)] false 0, .gen [.int .i64 s.2.2.2.1, .int .i64 s.2.2.2.2.1, .own 4 0 ((s.2.2.2.2.2.2).length)] false 0, .row (.f32 s.2.2.2.2.2.1) 0, .row (.f32 s.2.2.2.2.2.2) 0]))) 
def impl_PowerMatrix_l0_X (v188 : Int) (v189 : Int) (v190 : List Nat) (v191 : Int) (x : (Unit) ⊕ (Int × Int × (List Nat))) : Out := (match x with | .inl x => (.ret, [.top, .top, .top, .top, .ptr 0 (0 : Nat) 0 (3 : Nat), .lit false, .top, .top, .top, .top, .top, .top, .top, .top, .top, .top, .top, .top, .top, .top, .top, .top, .top, .top, .top, .top, .top, .top, .top, .top, .top, .top, .top, .top, .top, .top, .top, .top, .top, .top, .top, .top, .top, .top, .top, .top, .top, .top, .top, .top], [.gen [.int .i64 (0 : Int), .int .i64 (0 : Int), .nilslc] false 0]) | .inr x => (.normal, [.top, .top, .top, .top, .ptr 0 (0 : Nat) 0 (3 : Nat), .top, .ptr 1 (0 : Nat) 0 (3 : Nat), .top, .top, .top, .top, .top, .top, .top, .top, .top, .top, .top, .top, .top, .top, .top, .top, .top, .top, .top, .top, .top, .top, .top, .top, .top, .top, .top, .top, .top, .top, .top, .top, .top, .top, .top, .top, .top, .top, .top, .top, .top, .top, .top], [.gen [.int .i64 (0 : Int), .int .i64 (0 : Int), .nilslc] false 0, .gen [.int .i64 x.1, .int .i64 x.2.1, .own 2 0 ((x.2.2).length)] false 0, .row (.f32 x.2.2) 0]))
def impl_PowerMatrix_l0_kill : List Nat := [1, 0, 1, 1, 0, 1, 0, 0, 1, 1, 1, 1, 1, 1, 1, 1, 1, 1, 1, 1, 1, 1, 1, 1, 1, 1, 1, 1, 1, 1, 1, 1, 1, 1, 1, 1, 1, 1, 1, 1, 1, 1, 1, 1, 1, 1, 1, 1, 1, 1]
def impl_PowerMatrix_l0_nx : Exit → List Nat
  | .exit 0 => [1, 1, 1, 1, 0, 1, 0, 1, 1, 1, 1, 1, 1, 1, 1, 1, 1, 1, 1, 1, 1, 1, 1, 1, 1, 1, 1, 1, 1, 1, 1, 1, 1, 1, 1, 1, 1, 1, 1, 1, 1, 1, 1, 1, 1, 1, 1, 1, 1, 1]
  | .ret => [1, 1, 1, 1, 0, 0, 1, 1, 1, 1, 1, 1, 1, 1, 1, 1, 1, 1, 1, 1, 1, 1, 1, 1, 1, 1, 1, 1, 1, 1, 1, 1, 1, 1, 1, 1, 1, 1, 1, 1, 1, 1, 1, 1, 1, 1, 1, 1, 1, 1]
  | _ => []
noncomputable def impl_PowerMatrix_LO (v188 : Int) (v189 : Int) (v190 : List Nat) (v191 : Int) : LOr := fun id e L =>
  match id with
  | 0 => .need (normA 0 impl_PowerMatrix_l0_kill e L = some (impl_PowerMatrix_l0_E v188 v189 v190 v191 (.inl ((gI (vAt e 1)), (gI (cAt L (vAt e 6) 0)), (gI (cAt L (vAt e 6) 1)), (gRF L (cAt L (vAt e 6) 2)))))) (.call (impl_PowerMatrix_l0_g v188 v189 v190 (.inl ((gI (vAt e 1)), (gI (cAt L (vAt e 6) 0)), (gI (cAt L (vAt e 6) 1)), (gRF L (cAt L (vAt e 6) 2))))) fun x => .sum x (fun b0 => .leaf (impl_PowerMatrix_l0_X v188 v189 v190 v191 (.inl b0))) (fun c0 => .leaf (impl_PowerMatrix_l0_X v188 v189 v190 v191 (.inr c0))))
  | _ => .fail
noncomputable def impl_PowerMatrix_tab : List (FuncId × DFn × Bool) := [(62, impl_isSquare_F, true), (73, impl_inRange_F, true), (63, impl_unit_F, true), (74, impl_MulMatrices_F, true)]
theorem impl_PowerMatrix_hO : OrcOk Try.prog (tabD impl_PowerMatrix_tab) (tabM impl_PowerMatrix_tab) := tabD_cons impl_isSquare_Fok (tabD_cons impl_inRange_Fok (tabD_cons impl_unit_Fok (tabD_cons impl_MulMatrices_Fok (tabD_nil _))))
theorem impl_PowerMatrix_l0_be0 (v188 : Int) (v189 : Int) (v190 : List Nat) (v191 : Int) (s : Int × Int × Int × (List Nat)) : bodyT TT (tabD impl_PowerMatrix_tab) (tabM impl_PowerMatrix_tab) (impl_PowerMatrix_LO v188 v189 v190 v191) 0 impl_PowerMatrix_l0_kill impl_PowerMatrix_l0_nx (bodyOf Try.f41 0) 0 (impl_PowerMatrix_l0_E v188 v189 v190 v191 (.inl s)) = (impl_PowerMatrix_l0_T v188 v189 v190 (.inl s)).bind fun y => .leaf (outS (impl_PowerMatrix_l0_E v188 v189 v190 v191) (impl_PowerMatrix_l0_X v188 v189 v190 v191) y) := by kernel_rfl
theorem impl_PowerMatrix_l0_be1 (v188 : Int) (v189 : Int) (v190 : List Nat) (v191 : Int) (s : Int × Int × Int × Int × Int × (List Nat) × (List Nat)) : bodyT TT (tabD impl_PowerMatrix_tab) (tabM impl_PowerMatrix_tab) (impl_PowerMatrix_LO v188 v189 v190 v191) 0 impl_PowerMatrix_l0_kill impl_PowerMatrix_l0_nx (bodyOf Try.f41 0) 0 (impl_PowerMatrix_l0_E v188 v189 v190 v191 (.inr s)) = (impl_PowerMatrix_l0_T v188 v189 v190 (.inr s)).bind fun y => .leaf (outS (impl_PowerMatrix_l0_E v188 v189 v190 v191) (impl_PowerMatrix_l0_X v188 v189 v190 v191) y) := by kernel_rfl
theorem impl_PowerMatrix_l0_be (v188 : Int) (v189 : Int) (v190 : List Nat) (v191 : Int) (s : (Int × Int × Int × (List Nat)) ⊕ (Int × Int × Int × Int × Int × (List Nat) × (List Nat))) : bodyT TT (tabD impl_PowerMatrix_tab) (tabM impl_PowerMatrix_tab) (impl_PowerMatrix_LO v188 v189 v190 v191) 0 impl_PowerMatrix_l0_kill impl_PowerMatrix_l0_nx (bodyOf Try.f41 0) 0 (impl_PowerMatrix_l0_E v188 v189 v190 v191 s) = (impl_PowerMatrix_l0_T v188 v189 v190 s).bind fun y => .leaf (outS (impl_PowerMatrix_l0_E v188 v189 v190 v191) (impl_PowerMatrix_l0_X v188 v189 v190 v191) y) := by 
  rcases s with s | s
  · exact impl_PowerMatrix_l0_be0 v188 v189 v190 v191 s
  · exact impl_PowerMatrix_l0_be1 v188 v189 v190 v191 s
theorem impl_PowerMatrix_l0_ok (v188 : Int) (v189 : Int) (v190 : List Nat) (v191 : Int) : LSound Try.prog 0 (impl_PowerMatrix_LO v188 v189 v190 v191) 0 (bodyOf Try.f41 0) := by
  intro e L out h
  exact lo_ok (E := impl_PowerMatrix_l0_E v188 v189 v190 v191) (gT := impl_PowerMatrix_l0_T v188 v189 v190) (X := impl_PowerMatrix_l0_X v188 v189 v190 v191) (s0 := .inl ((gI (vAt e 1)), (gI (cAt L (vAt e 6) 0)), (gI (cAt L (vAt e 6) 1)), (gRF L (cAt L (vAt e 6) 2)))) tok impl_PowerMatrix_hO mixed (LoopsOk_eq (l := []) (by kernel_rfl) trivial) (impl_PowerMatrix_l0_be v188 v189 v190 v191) rfl (by intro x; (cases x with | inl b => rfl | inr x => exact rfl)) h
noncomputable def impl_PowerMatrix_T (v188 : Int) (v189 : Int) (v190 : List Nat) (v191 : Int) : Tree ((Unit) ⊕ (Int × Int × (List Nat))) :=
  (.call (impl_isSquare_g v188 v189 v190) fun v222 =>
  (.br (!v222) (
   .leaf (.inl ())
  ) (
   (.br (!(impl_inRange_v v191 (0 : Int) (64 : Int))) (
    .leaf (.inl ())
   ) (
    (.call (impl_unit_g v188) fun v312 =>
    (.need (some (impl_PowerMatrix_l0_E v188 v189 v190 v191 (.inl (v191, v312.1, v312.2.1, v312.2.2))) = some (impl_PowerMatrix_l0_E v188 v189 v190 v191 (.inl (v191, v312.1, v312.2.1, v312.2.2)))) <|
    (.call (impl_PowerMatrix_l0_g v188 v189 v190 (.inl (v191, v312.1, v312.2.1, v312.2.2))) fun v556 =>
    (.sum v556 (fun v557 =>
     .leaf (.inl ())
    ) (fun v558 =>
     .leaf (.inr (v558.1, v558.2.1, v558.2.2))
    )))))
   ))
  )))

noncomputable def impl_PowerMatrix_g (v188 : Int) (v189 : Int) (v190 : List Nat) (v191 : Int) : Option ((Unit) ⊕ (Int × Int × (List Nat))) := (impl_PowerMatrix_T v188 v189 v190 v191).run
def impl_PowerMatrix_enc (v188 : Int) (v189 : Int) (v190 : List Nat) (v191 : Int) (y : (Unit) ⊕ (Int × Int × (List Nat))) : Rs := (match y with | .inl y => (.tup [.agg [.int .i64 (0 : Int), .int .i64 (0 : Int), .nilslc], .lit false], []) | .inr y => (.tup [.agg [.int .i64 y.1, .int .i64 y.2.1, .own 0 0 ((y.2.2).length)], .lit true], [.row (.f32 y.2.2) 0]))
theorem impl_PowerMatrix_den (v188 : Int) (v189 : Int) (v190 : List Nat) (v191 : Int) : (den TT (tabD impl_PowerMatrix_tab) (tabM impl_PowerMatrix_tab) (impl_PowerMatrix_LO v188 v189 v190 v191) (codeOf Try.f41) ([.agg [.int .i64 v188, .int .i64 v189, .bslc (BR.root 0) (.f32 v190)], .int .i64 v191] ++ List.replicate (Try.f41.ntmps - ([.agg [.int .i64 v188, .int .i64 v189, .bslc (BR.root 0) (.f32 v190)], .int .i64 v191] : List DV).length) .undef) []).bind (retD TT Try.f41.results.toList 0) = (impl_PowerMatrix_T v188 v189 v190 v191).bind fun y => .leaf (impl_PowerMatrix_enc v188 v189 v190 v191 y) := by kernel_rfl
theorem impl_PowerMatrix_fn (v188 : Int) (v189 : Int) (v190 : List Nat) (v191 : Int) (F : Fr) (hm : F.ids.length = 0) (h0 : St F [] F.H0) (hA : DVs.Ok F [] [.agg [.int .i64 v188, .int .i64 v189, .bslc (BR.root 0) (.f32 v190)], .int .i64 v191]) {y : (Unit) ⊕ (Int × Int × (List Nat))} (hy : impl_PowerMatrix_g v188 v189 v190 v191 = some y) : ∃ H', FnOk Try.prog 41 (DVs.av F [.agg [.int .i64 v188, .int .i64 v189, .bslc (BR.root 0) (.f32 v190)], .int .i64 v191]) F.H0 ((impl_PowerMatrix_enc v188 v189 v190 v191 y).1.av F) H' ∧ St F (impl_PowerMatrix_enc v188 v189 v190 v191 y).2 H' ∧ (impl_PowerMatrix_enc v188 v189 v190 v191 y).1.Ok F (impl_PowerMatrix_enc v188 v189 v190 v191 y).2 :=
  fn_fin tok impl_PowerMatrix_hO mixed Try.func41 Try.call41 (by kernel_rfl) (LoopsOk_eq (l := [(0, bodyOf Try.f41 0)]) (by kernel_rfl) ⟨impl_PowerMatrix_l0_ok v188 v189 v190 v191, trivial⟩) (impl_PowerMatrix_den v188 v189 v190 v191) hy hm h0 hA
noncomputable def impl_PowerMatrix_F : DFn := fun args L =>
  match args with
  | [.agg [.int .i64 v188, .int .i64 v189, a1], .int .i64 v191] =>
    optT (rowF32 L a1) fun v190 =>
    .call (impl_PowerMatrix_g v188 v189 v190 v191) fun y => .sum y (fun y0 => .leaf (.tup [.agg [.int .i64 (0 : Int), .int .i64 (0 : Int), .nilslc], .lit false], L)) (fun z0 => .leaf (.tup [.agg [.int .i64 z0.1, .int .i64 z0.2.1, .own (L.length + 0) 0 ((z0.2.2).length)], .lit true], L ++ [.row (.f32 z0.2.2) 0]))
  | _ => .fail
theorem impl_PowerMatrix_Fok : COk Try.prog 41 impl_PowerMatrix_F true := by
  intro F L H args r L' hs ha hr
  unfold impl_PowerMatrix_F at hr
  split at hr
  · rename_i v188 v189 a1 v191
    obtain ⟨v190, hv190, hr⟩ := optT_run hr
    simp only [Tree.run] at hr
    obtain ⟨y, hy, hr⟩ := Option.bind_eq_some_iff.1 hr
    cases y with
    | inl y =>
      simp only [Tree.run, Option.some.injEq, Prod.mk.injEq] at hr
      obtain ⟨rfl, rfl⟩ := hr
      exact call_ok0 hs (fun k => (([a1.av F] : List AV)[k]?).getD .top) [.agg [.int .i64 v188, .int .i64 v189, a1], .int .i64 v191] [.agg [.int .i64 v188, .int .i64 v189, .bslc (BR.root 0) (.f32 v190)], .int .i64 v191] (fun F' h0 hi hρ => ⟨by simp [DVs.av, DV.av, BR.av, hρ], impl_PowerMatrix_fn v188 v189 v190 v191 F' (by rw [hi]; rfl) (st_nil hi) ⟨⟨trivial, trivial, bslc_ok hi (by rw [h0, hρ]; exact rowF32_ok hs (DVs.okAt (DVs.okAt ha 0 rfl) 2 rfl) hv190), trivial⟩, trivial, trivial⟩ hy⟩) rfl
    | inr y =>
      simp only [Tree.run, Option.some.injEq, Prod.mk.injEq] at hr
      obtain ⟨rfl, rfl⟩ := hr
      exact call_ok1 hs (fun k => (([a1.av F] : List AV)[k]?).getD .top) [.agg [.int .i64 v188, .int .i64 v189, a1], .int .i64 v191] [.agg [.int .i64 v188, .int .i64 v189, .bslc (BR.root 0) (.f32 v190)], .int .i64 v191] (fun F' h0 hi hρ => ⟨by simp [DVs.av, DV.av, BR.av, hρ], impl_PowerMatrix_fn v188 v189 v190 v191 F' (by rw [hi]; rfl) (st_nil hi) ⟨⟨trivial, trivial, bslc_ok hi (by rw [h0, hρ]; exact rowF32_ok hs (DVs.okAt (DVs.okAt ha 0 rfl) 2 rfl) hv190), trivial⟩, trivial, trivial⟩ hy⟩) rfl rfl
  · cases hr
/-! laws.sameFloat -/
noncomputable def laws_sameFloat_LO (v571 : Nat) (v572 : Nat) : LOr := fun id e L =>
  match id with
  | _ => .fail
noncomputable def laws_sameFloat_tab : List (FuncId × DFn × Bool) := []
theorem laws_sameFloat_hO : OrcOk Try.prog (tabD laws_sameFloat_tab) (tabM laws_sameFloat_tab) := tabD_nil _
noncomputable def laws_sameFloat_T (v571 : Nat) (v572 : Nat) : Tree (Bool) :=
  (.br (!feq .f64 v571 v571) (
   (.br (!feq .f64 v571 v571) (
    .leaf (!feq .f64 v572 v572)
   ) (
    .leaf false
   ))
  ) (
   (.br (!feq .f64 v572 v572) (
    (.br (!feq .f64 v571 v571) (
     .leaf (!feq .f64 v572 v572)
    ) (
     .leaf false
    ))
   ) (
    (.br (feq .f64 v571 (0 : Nat)) (
     (.br (feq .f64 v572 (0 : Nat)) (
      .leaf ((fgrt .f64 (fdiv .f64 (4607182418800017408 : Nat) v571) (0 : Nat)) == (fgrt .f64 (fdiv .f64 (4607182418800017408 : Nat) v572) (0 : Nat)))
     ) (
      .leaf (feq .f64 v571 v572)
     ))
    ) (
     .leaf (feq .f64 v571 v572)
    ))
   ))
  ))

noncomputable def laws_sameFloat_g (v571 : Nat) (v572 : Nat) : Option (Bool) := (laws_sameFloat_T v571 v572).run
def laws_sameFloat_enc (v571 : Nat) (v572 : Nat) (y : Bool) : Rs := (.bool y, [])
theorem laws_sameFloat_den (v571 : Nat) (v572 : Nat) : (den TT (tabD laws_sameFloat_tab) (tabM laws_sameFloat_tab) (laws_sameFloat_LO v571 v572) (codeOf Try.f31) ([.flt .f64 v571, .flt .f64 v572] ++ List.replicate (Try.f31.ntmps - ([.flt .f64 v571, .flt .f64 v572] : List DV).length) .undef) []).bind (retD TT Try.f31.results.toList 0) = (laws_sameFloat_T v571 v572).bind fun y => .leaf (laws_sameFloat_enc v571 v572 y) := by kernel_rfl
theorem laws_sameFloat_fn (v571 : Nat) (v572 : Nat) (F : Fr) (hm : F.ids.length = 0) (h0 : St F [] F.H0) (hA : DVs.Ok F [] [.flt .f64 v571, .flt .f64 v572]) {y : Bool} (hy : laws_sameFloat_g v571 v572 = some y) : ∃ H', FnOk Try.prog 31 (DVs.av F [.flt .f64 v571, .flt .f64 v572]) F.H0 ((laws_sameFloat_enc v571 v572 y).1.av F) H' ∧ St F (laws_sameFloat_enc v571 v572 y).2 H' ∧ (laws_sameFloat_enc v571 v572 y).1.Ok F (laws_sameFloat_enc v571 v572 y).2 :=
  fn_fin tok laws_sameFloat_hO mixed Try.func31 Try.call31 (by kernel_rfl) (LoopsOk_eq (l := []) (by kernel_rfl) trivial) (laws_sameFloat_den v571 v572) hy hm h0 hA
def laws_sameFloat_v (v571 : Nat) (v572 : Nat) : Bool :=
  if (!feq .f64 v571 v571) = true then (
   if (!feq .f64 v571 v571) = true then (
    !feq .f64 v572 v572
   ) else (
    false
   )
  ) else (
   if (!feq .f64 v572 v572) = true then (
    if (!feq .f64 v571 v571) = true then (
     !feq .f64 v572 v572
    ) else (
     false
    )
   ) else (
    if (feq .f64 v571 (0 : Nat)) = true then (
     if (feq .f64 v572 (0 : Nat)) = true then (
      (fgrt .f64 (fdiv .f64 (4607182418800017408 : Nat) v571) (0 : Nat)) == (fgrt .f64 (fdiv .f64 (4607182418800017408 : Nat) v572) (0 : Nat))
     ) else (
      feq .f64 v571 v572
     )
    ) else (
     feq .f64 v571 v572
    )
   )
  )
theorem laws_sameFloat_tot (v571 : Nat) (v572 : Nat) : laws_sameFloat_g v571 v572 = some (laws_sameFloat_v v571 v572) := by
  unfold laws_sameFloat_g laws_sameFloat_T laws_sameFloat_v
  simp only [Tree.run]
  repeat' (first | rfl | split)
noncomputable def laws_sameFloat_F : DFn := fun args L =>
  match args with
  | [.flt .f64 v571, .flt .f64 v572] =>
    .leaf (.bool (laws_sameFloat_v v571 v572), L)
  | _ => .fail
theorem laws_sameFloat_Fok : COk Try.prog 31 laws_sameFloat_F true := by
  intro F L H args r L' hs ha hr
  unfold laws_sameFloat_F at hr
  split at hr
  · rename_i v571 v572
    have hy := laws_sameFloat_tot v571 v572
    generalize laws_sameFloat_v v571 v572 = y at hy hr
    simp only [Tree.run, Option.some.injEq, Prod.mk.injEq] at hr
    obtain ⟨rfl, rfl⟩ := hr
    exact call_ok0 hs (fun k => (([] : List AV)[k]?).getD .top) [.flt .f64 v571, .flt .f64 v572] [.flt .f64 v571, .flt .f64 v572] (fun F' h0 hi hρ => ⟨by simp [DVs.av, DV.av, BR.av, hρ], laws_sameFloat_fn v571 v572 F' (by rw [hi]; rfl) (st_nil hi) ⟨trivial, trivial, trivial⟩ hy⟩) rfl
  · cases hr
/-! laws.eqFloat32S -/
noncomputable def laws_eqFloat32S_l0_T (v568 : List Nat) (v569 : List Nat) (s : Int) : Tree ((Int) ⊕ ((Unit) ⊕ (Unit))) :=
  (.br (decide (s < ((v568.length : Nat) : Int))) (
   (.grd (inb s v568.length) <|
   (.grd (inb s v569.length) <|
   (.br (!(laws_sameFloat_v (wid (nth v568 (Int.toNat s))) (wid (nth v569 (Int.toNat s))))) (
    .leaf (.inr (.inl ()))
   ) (
    .leaf (.inl (IntKind.i64.wrap (s + (1 : Int))))
   ))))
  ) (
   .leaf (.inr (.inr ()))
  ))

noncomputable def laws_eqFloat32S_l0_g (v568 : List Nat) (v569 : List Nat) (s0 : Int) : Option ((Unit) ⊕ (Unit)) := whileM (fun s => (laws_eqFloat32S_l0_T v568 v569 s).run) s0
def laws_eqFloat32S_l0_E (v568 : List Nat) (v569 : List Nat) (s : Int) : Sd := ([.bslc (BR.root 0) (.f32 v568), .bslc (BR.root 1) (.f32 v569), .top, .top, .top, .int .i64 s, .top, .top, .top, .top, .top, .top, .top, .top, .top, .top, .top, .top, .top, .top, .top, .top, .top, .top, .top, .top, .top, .top, .top], [])
def laws_eqFloat32S_l0_X (v568 : List Nat) (v569 : List Nat) (x : (Unit) ⊕ (Unit)) : Out := (match x with | .inl x => (.ret, [.top, .top, .top, .top, .lit false, .top, .top, .top, .top, .top, .top, .top, .top, .top, .top, .top, .top, .top, .top, .top, .top, .top, .top, .top, .top, .top, .top, .top, .top], []) | .inr x => (.normal, [.top, .top, .top, .top, .top, .top, .top, .top, .top, .top, .top, .top, .top, .top, .top, .top, .top, .top, .top, .top, .top, .top, .top, .top, .top, .top, .top, .top, .top], []))
def laws_eqFloat32S_l0_kill : List Nat := [0, 0, 1, 1, 1, 0, 1, 1, 1, 1, 1, 1, 1, 1, 1, 1, 1, 1, 1, 1, 1, 1, 1, 1, 1, 1, 1, 1, 1]
def laws_eqFloat32S_l0_nx : Exit → List Nat
  | .exit 0 => [1, 1, 1, 1, 1, 1, 1, 1, 1, 1, 1, 1, 1, 1, 1, 1, 1, 1, 1, 1, 1, 1, 1, 1, 1, 1, 1, 1, 1]
  | .ret => [1, 1, 1, 1, 0, 1, 1, 1, 1, 1, 1, 1, 1, 1, 1, 1, 1, 1, 1, 1, 1, 1, 1, 1, 1, 1, 1, 1, 1]
  | _ => []
noncomputable def laws_eqFloat32S_LO (v568 : List Nat) (v569 : List Nat) : LOr := fun id e L =>
  match id with
  | 0 => .need (normA 0 laws_eqFloat32S_l0_kill e L = some (laws_eqFloat32S_l0_E v568 v569 (gI (vAt e 5)))) (.call (laws_eqFloat32S_l0_g v568 v569 (gI (vAt e 5))) fun x => .sum x (fun b0 => .leaf (laws_eqFloat32S_l0_X v568 v569 (.inl b0))) (fun c0 => .leaf (laws_eqFloat32S_l0_X v568 v569 (.inr c0))))
  | _ => .fail
noncomputable def laws_eqFloat32S_tab : List (FuncId × DFn × Bool) := [(31, laws_sameFloat_F, true)]
theorem laws_eqFloat32S_hO : OrcOk Try.prog (tabD laws_eqFloat32S_tab) (tabM laws_eqFloat32S_tab) := tabD_cons laws_sameFloat_Fok (tabD_nil _)
theorem laws_eqFloat32S_l0_be (v568 : List Nat) (v569 : List Nat) (s : Int) : bodyT TT (tabD laws_eqFloat32S_tab) (tabM laws_eqFloat32S_tab) (laws_eqFloat32S_LO v568 v569) 0 laws_eqFloat32S_l0_kill laws_eqFloat32S_l0_nx (bodyOf Try.f20 0) 0 (laws_eqFloat32S_l0_E v568 v569 s) = (laws_eqFloat32S_l0_T v568 v569 s).bind fun y => .leaf (outS (laws_eqFloat32S_l0_E v568 v569) (laws_eqFloat32S_l0_X v568 v569) y) := by kernel_rfl
theorem laws_eqFloat32S_l0_ok (v568 : List Nat) (v569 : List Nat) : LSound Try.prog 0 (laws_eqFloat32S_LO v568 v569) 0 (bodyOf Try.f20 0) := by
  intro e L out h
  exact lo_ok (E := laws_eqFloat32S_l0_E v568 v569) (gT := laws_eqFloat32S_l0_T v568 v569) (X := laws_eqFloat32S_l0_X v568 v569) (s0 := (gI (vAt e 5))) tok laws_eqFloat32S_hO mixed (LoopsOk_eq (l := []) (by kernel_rfl) trivial) (laws_eqFloat32S_l0_be v568 v569) rfl (by intro x; (cases x with | inl b => rfl | inr x => exact rfl)) h
noncomputable def laws_eqFloat32S_T (v568 : List Nat) (v569 : List Nat) : Tree (Bool) :=
  (.br (!decide (((v568.length : Nat) : Int) = ((v569.length : Nat) : Int))) (
   .leaf false
  ) (
   (.need (some (laws_eqFloat32S_l0_E v568 v569 (0 : Int)) = some (laws_eqFloat32S_l0_E v568 v569 (0 : Int))) <|
   (.call (laws_eqFloat32S_l0_g v568 v569 (0 : Int)) fun v575 =>
   (.sum v575 (fun v576 =>
    .leaf false
   ) (fun v577 =>
    .leaf true
   ))))
  ))

noncomputable def laws_eqFloat32S_g (v568 : List Nat) (v569 : List Nat) : Option (Bool) := (laws_eqFloat32S_T v568 v569).run
def laws_eqFloat32S_enc (v568 : List Nat) (v569 : List Nat) (y : Bool) : Rs := (.bool y, [])
theorem laws_eqFloat32S_den (v568 : List Nat) (v569 : List Nat) : (den TT (tabD laws_eqFloat32S_tab) (tabM laws_eqFloat32S_tab) (laws_eqFloat32S_LO v568 v569) (codeOf Try.f20) ([.bslc (BR.root 0) (.f32 v568), .bslc (BR.root 1) (.f32 v569)] ++ List.replicate (Try.f20.ntmps - ([.bslc (BR.root 0) (.f32 v568), .bslc (BR.root 1) (.f32 v569)] : List DV).length) .undef) []).bind (retD TT Try.f20.results.toList 0) = (laws_eqFloat32S_T v568 v569).bind fun y => .leaf (laws_eqFloat32S_enc v568 v569 y) := by kernel_rfl
theorem laws_eqFloat32S_fn (v568 : List Nat) (v569 : List Nat) (F : Fr) (hm : F.ids.length = 0) (h0 : St F [] F.H0) (hA : DVs.Ok F [] [.bslc (BR.root 0) (.f32 v568), .bslc (BR.root 1) (.f32 v569)]) {y : Bool} (hy : laws_eqFloat32S_g v568 v569 = some y) : ∃ H', FnOk Try.prog 20 (DVs.av F [.bslc (BR.root 0) (.f32 v568), .bslc (BR.root 1) (.f32 v569)]) F.H0 ((laws_eqFloat32S_enc v568 v569 y).1.av F) H' ∧ St F (laws_eqFloat32S_enc v568 v569 y).2 H' ∧ (laws_eqFloat32S_enc v568 v569 y).1.Ok F (laws_eqFloat32S_enc v568 v569 y).2 :=
  fn_fin tok laws_eqFloat32S_hO mixed Try.func20 Try.call20 (by kernel_rfl) (LoopsOk_eq (l := [(0, bodyOf Try.f20 0)]) (by kernel_rfl) ⟨laws_eqFloat32S_l0_ok v568 v569, trivial⟩) (laws_eqFloat32S_den v568 v569) hy hm h0 hA
noncomputable def laws_eqFloat32S_F : DFn := fun args L =>
  match args with
  | [a1, a2] =>
    optT (rowF32 L a1) fun v568 =>
    optT (rowF32 L a2) fun v569 =>
    .call (laws_eqFloat32S_g v568 v569) fun y => .leaf (.bool y, L)
  | _ => .fail
theorem laws_eqFloat32S_Fok : COk Try.prog 20 laws_eqFloat32S_F true := by
  intro F L H args r L' hs ha hr
  unfold laws_eqFloat32S_F at hr
  split at hr
  · rename_i a1 a2
    obtain ⟨v568, hv568, hr⟩ := optT_run hr
    obtain ⟨v569, hv569, hr⟩ := optT_run hr
    simp only [Tree.run] at hr
    obtain ⟨y, hy, hr⟩ := Option.bind_eq_some_iff.1 hr
    simp only [Tree.run, Option.some.injEq, Prod.mk.injEq] at hr
    obtain ⟨rfl, rfl⟩ := hr
    exact call_ok0 hs (fun k => (([a1.av F, a2.av F] : List AV)[k]?).getD .top) [a1, a2] [.bslc (BR.root 0) (.f32 v568), .bslc (BR.root 1) (.f32 v569)] (fun F' h0 hi hρ => ⟨by simp [DVs.av, DV.av, BR.av, hρ], laws_eqFloat32S_fn v568 v569 F' (by rw [hi]; rfl) (st_nil hi) ⟨bslc_ok hi (by rw [h0, hρ]; exact rowF32_ok hs (DVs.okAt ha 0 rfl) hv568), bslc_ok hi (by rw [h0, hρ]; exact rowF32_ok hs (DVs.okAt ha 1 rfl) hv569), trivial⟩ hy⟩) rfl
  · cases hr
/-! laws.eqMatrix -/
noncomputable def laws_eqMatrix_LO (v562 : Int) (v563 : Int) (v564 : List Nat) (v565 : Int) (v566 : Int) (v567 : List Nat) : LOr := fun id e L =>
  match id with
  | _ => .fail
noncomputable def laws_eqMatrix_tab : List (FuncId × DFn × Bool) := [(20, laws_eqFloat32S_F, true)]
theorem laws_eqMatrix_hO : OrcOk Try.prog (tabD laws_eqMatrix_tab) (tabM laws_eqMatrix_tab) := tabD_cons laws_eqFloat32S_Fok (tabD_nil _)
noncomputable def laws_eqMatrix_T (v562 : Int) (v563 : Int) (v564 : List Nat) (v565 : Int) (v566 : Int) (v567 : List Nat) : Tree (Bool) :=
  (.br (!decide (v562 = v565)) (
   .leaf false
  ) (
   (.br (!decide (v563 = v566)) (
    .leaf false
   ) (
    (.call (laws_eqFloat32S_g v564 v567) fun v578 =>
    (.br (!v578) (
     .leaf false
    ) (
     .leaf true
    )))
   ))
  ))

noncomputable def laws_eqMatrix_g (v562 : Int) (v563 : Int) (v564 : List Nat) (v565 : Int) (v566 : Int) (v567 : List Nat) : Option (Bool) := (laws_eqMatrix_T v562 v563 v564 v565 v566 v567).run
def laws_eqMatrix_enc (v562 : Int) (v563 : Int) (v564 : List Nat) (v565 : Int) (v566 : Int) (v567 : List Nat) (y : Bool) : Rs := (.bool y, [])
theorem laws_eqMatrix_den (v562 : Int) (v563 : Int) (v564 : List Nat) (v565 : Int) (v566 : Int) (v567 : List Nat) : (den TT (tabD laws_eqMatrix_tab) (tabM laws_eqMatrix_tab) (laws_eqMatrix_LO v562 v563 v564 v565 v566 v567) (codeOf Try.f19) ([.agg [.int .i64 v562, .int .i64 v563, .bslc (BR.root 0) (.f32 v564)], .agg [.int .i64 v565, .int .i64 v566, .bslc (BR.root 1) (.f32 v567)]] ++ List.replicate (Try.f19.ntmps - ([.agg [.int .i64 v562, .int .i64 v563, .bslc (BR.root 0) (.f32 v564)], .agg [.int .i64 v565, .int .i64 v566, .bslc (BR.root 1) (.f32 v567)]] : List DV).length) .undef) []).bind (retD TT Try.f19.results.toList 0) = (laws_eqMatrix_T v562 v563 v564 v565 v566 v567).bind fun y => .leaf (laws_eqMatrix_enc v562 v563 v564 v565 v566 v567 y) := by kernel_rfl
theorem laws_eqMatrix_fn (v562 : Int) (v563 : Int) (v564 : List Nat) (v565 : Int) (v566 : Int) (v567 : List Nat) (F : Fr) (hm : F.ids.length = 0) (h0 : St F [] F.H0) (hA : DVs.Ok F [] [.agg [.int .i64 v562, .int .i64 v563, .bslc (BR.root 0) (.f32 v564)], .agg [.int .i64 v565, .int .i64 v566, .bslc (BR.root 1) (.f32 v567)]]) {y : Bool} (hy : laws_eqMatrix_g v562 v563 v564 v565 v566 v567 = some y) : ∃ H', FnOk Try.prog 19 (DVs.av F [.agg [.int .i64 v562, .int .i64 v563, .bslc (BR.root 0) (.f32 v564)], .agg [.int .i64 v565, .int .i64 v566, .bslc (BR.root 1) (.f32 v567)]]) F.H0 ((laws_eqMatrix_enc v562 v563 v564 v565 v566 v567 y).1.av F) H' ∧ St F (laws_eqMatrix_enc v562 v563 v564 v565 v566 v567 y).2 H' ∧ (laws_eqMatrix_enc v562 v563 v564 v565 v566 v567 y).1.Ok F (laws_eqMatrix_enc v562 v563 v564 v565 v566 v567 y).2 :=
  fn_fin tok laws_eqMatrix_hO mixed Try.func19 Try.call19 (by kernel_rfl) (LoopsOk_eq (l := []) (by kernel_rfl) trivial) (laws_eqMatrix_den v562 v563 v564 v565 v566 v567) hy hm h0 hA
noncomputable def laws_eqMatrix_F : DFn := fun args L =>
  match args with
  | [.agg [.int .i64 v562, .int .i64 v563, a1], .agg [.int .i64 v565, .int .i64 v566, a2]] =>
    optT (rowF32 L a1) fun v564 =>
    optT (rowF32 L a2) fun v567 =>
    .call (laws_eqMatrix_g v562 v563 v564 v565 v566 v567) fun y => .leaf (.bool y, L)
  | _ => .fail
theorem laws_eqMatrix_Fok : COk Try.prog 19 laws_eqMatrix_F true := by
  intro F L H args r L' hs ha hr
  unfold laws_eqMatrix_F at hr
  split at hr
  · rename_i v562 v563 a1 v565 v566 a2
    obtain ⟨v564, hv564, hr⟩ := optT_run hr
    obtain ⟨v567, hv567, hr⟩ := optT_run hr
    simp only [Tree.run] at hr
    obtain ⟨y, hy, hr⟩ := Option.bind_eq_some_iff.1 hr
    simp only [Tree.run, Option.some.injEq, Prod.mk.injEq] at hr
    obtain ⟨rfl, rfl⟩ := hr
    exact call_ok0 hs (fun k => (([a1.av F, a2.av F] : List AV)[k]?).getD .top) [.agg [.int .i64 v562, .int .i64 v563, a1], .agg [.int .i64 v565, .int .i64 v566, a2]] [.agg [.int .i64 v562, .int .i64 v563, .bslc (BR.root 0) (.f32 v564)], .agg [.int .i64 v565, .int .i64 v566, .bslc (BR.root 1) (.f32 v567)]] (fun F' h0 hi hρ => ⟨by simp [DVs.av, DV.av, BR.av, hρ], laws_eqMatrix_fn v562 v563 v564 v565 v566 v567 F' (by rw [hi]; rfl) (st_nil hi) ⟨⟨trivial, trivial, bslc_ok hi (by rw [h0, hρ]; exact rowF32_ok hs (DVs.okAt (DVs.okAt ha 0 rfl) 2 rfl) hv564), trivial⟩, ⟨trivial, trivial, bslc_ok hi (by rw [h0, hρ]; exact rowF32_ok hs (DVs.okAt (DVs.okAt ha 1 rfl) 2 rfl) hv567), trivial⟩, trivial⟩ hy⟩) rfl
  · cases hr
/-! laws.markFloat32S -/
noncomputable def laws_markFloat32S_l0_T (s : Int × Int × (List Nat)) : Tree ((Int × Int × (List Nat)) ⊕ (Int × (List Nat))) :=
  (.br (decide (s.2.1 < (((s.2.2).length : Nat) : Int))) (
   (.grd (inb s.2.1 ((s.2.2).length)) <|
   .leaf (.inl (IntKind.i64.wrap (s.1 + (1 : Int)), IntKind.i64.wrap (s.2.1 + (1 : Int)), List.set s.2.2 (Int.toNat s.2.1) (fofint .f32 s.1))))
  ) (
   .leaf (.inr (s.1, s.2.2))
  ))

noncomputable def laws_markFloat32S_l0_g (s0 : Int × Int × (List Nat)) : Option (Int × (List Nat)) := whileM (fun s => (laws_markFloat32S_l0_T s).run) s0
def laws_markFloat32S_l0_E (v590 : List Nat) (v591 : Int) (s : Int × Int × (List Nat)) : Sd := ([.own 0 0 ((s.2.2).length), .int .i64 s.1, .top, .top, .top, .int .i64 s.2.1, .top, .top, .top, .top, .top, .top, .top, .top, .top, .top, .top, .top, .top, .top], [.row (.f32 s.2.2) 0])
def laws_markFloat32S_l0_X (v590 : List Nat) (v591 : Int) (x : Int × (List Nat)) : Out := (.normal, [.top, .int .i64 x.1, .top, .top, .top, .top, .top, .top, .top, .top, .top, .top, .top, .top, .top, .top, .top, .top, .top, .top], [.row (.f32 x.2) 0])
def laws_markFloat32S_l0_kill : List Nat := [0, 0, 1, 1, 1, 0, 1, 1, 1, 1, 1, 1, 1, 1, 1, 1, 1, 1, 1, 1]
def laws_markFloat32S_l0_nx : Exit → List Nat
  | .exit 0 => [1, 0, 1, 1, 1, 1, 1, 1, 1, 1, 1, 1, 1, 1, 1, 1, 1, 1, 1, 1]
  | .ret => [1, 1, 1, 1, 0, 1, 1, 1, 1, 1, 1, 1, 1, 1, 1, 1, 1, 1, 1, 1]
  | _ => []
noncomputable def laws_markFloat32S_LO (v590 : List Nat) (v591 : Int) : LOr := fun id e L =>
  match id with
  | 0 => .need (normA 1 laws_markFloat32S_l0_kill e L = some (laws_markFloat32S_l0_E v590 v591 ((gI (vAt e 1)), (gI (vAt e 5)), (gRF L (vAt e 0))))) (.call (laws_markFloat32S_l0_g ((gI (vAt e 1)), (gI (vAt e 5)), (gRF L (vAt e 0)))) fun x => .leaf (laws_markFloat32S_l0_X v590 v591 x))
  | _ => .fail
noncomputable def laws_markFloat32S_tab : List (FuncId × DFn × Bool) := []
theorem laws_markFloat32S_hO : OrcOk Try.prog (tabD laws_markFloat32S_tab) (tabM laws_markFloat32S_tab) := tabD_nil _
theorem laws_markFloat32S_l0_be (v590 : List Nat) (v591 : Int) (s : Int × Int × (List Nat)) : bodyT TT (tabD laws_markFloat32S_tab) (tabM laws_markFloat32S_tab) (laws_markFloat32S_LO v590 v591) 1 laws_markFloat32S_l0_kill laws_markFloat32S_l0_nx (bodyOf Try.f22 0) 0 (laws_markFloat32S_l0_E v590 v591 s) = (laws_markFloat32S_l0_T s).bind fun y => .leaf (outS (laws_markFloat32S_l0_E v590 v591) (laws_markFloat32S_l0_X v590 v591) y) := by kernel_rfl
theorem laws_markFloat32S_l0_ok (v590 : List Nat) (v591 : Int) : LSound Try.prog 1 (laws_markFloat32S_LO v590 v591) 0 (bodyOf Try.f22 0) := by
  intro e L out h
  exact lo_ok (E := laws_markFloat32S_l0_E v590 v591) (gT := laws_markFloat32S_l0_T) (X := laws_markFloat32S_l0_X v590 v591) (s0 := ((gI (vAt e 1)), (gI (vAt e 5)), (gRF L (vAt e 0)))) tok laws_markFloat32S_hO mixed (LoopsOk_eq (l := []) (by kernel_rfl) trivial) (laws_markFloat32S_l0_be v590 v591) rfl (by intro x; rfl) h
noncomputable def laws_markFloat32S_T (v590 : List Nat) (v591 : Int) : Tree (Int × (List Nat)) :=
  (.need (some (laws_markFloat32S_l0_E v590 v591 (v591, (0 : Int), v590)) = some (laws_markFloat32S_l0_E v590 v591 (v591, (0 : Int), v590))) <|
  (.call (laws_markFloat32S_l0_g (v591, (0 : Int), v590)) fun v600 =>
  .leaf (v600.1, v600.2)))

noncomputable def laws_markFloat32S_g (v590 : List Nat) (v591 : Int) : Option (Int × (List Nat)) := (laws_markFloat32S_T v590 v591).run
def laws_markFloat32S_enc (v590 : List Nat) (v591 : Int) (y : Int × (List Nat)) : Rs := (.int .i64 y.1, [.row (.f32 y.2) 0])
theorem laws_markFloat32S_den (v590 : List Nat) (v591 : Int) : (den TT (tabD laws_markFloat32S_tab) (tabM laws_markFloat32S_tab) (laws_markFloat32S_LO v590 v591) (codeOf Try.f22) ([.own 0 0 v590.length, .int .i64 v591] ++ List.replicate (Try.f22.ntmps - ([.own 0 0 v590.length, .int .i64 v591] : List DV).length) .undef) [.row (.f32 v590) 0]).bind (retD TT Try.f22.results.toList 1) = (laws_markFloat32S_T v590 v591).bind fun y => .leaf (laws_markFloat32S_enc v590 v591 y) := by kernel_rfl
theorem laws_markFloat32S_fn (v590 : List Nat) (v591 : Int) (F : Fr) (hm : F.ids.length = 1) (h0 : St F [.row (.f32 v590) 0] F.H0) (hA : DVs.Ok F [.row (.f32 v590) 0] [.own 0 0 v590.length, .int .i64 v591]) {y : Int × (List Nat)} (hy : laws_markFloat32S_g v590 v591 = some y) : ∃ H', FnOk Try.prog 22 (DVs.av F [.own 0 0 v590.length, .int .i64 v591]) F.H0 ((laws_markFloat32S_enc v590 v591 y).1.av F) H' ∧ St F (laws_markFloat32S_enc v590 v591 y).2 H' ∧ (laws_markFloat32S_enc v590 v591 y).1.Ok F (laws_markFloat32S_enc v590 v591 y).2 :=
  fn_fin tok laws_markFloat32S_hO mixed Try.func22 Try.call22 (by kernel_rfl) (LoopsOk_eq (l := [(0, bodyOf Try.f22 0)]) (by kernel_rfl) ⟨laws_markFloat32S_l0_ok v590 v591, trivial⟩) (laws_markFloat32S_den v590 v591) hy hm h0 hA
noncomputable def laws_markFloat32S_F : DFn := fun args L =>
  match args with
  | [a1, .int .i64 v591] =>
    optT (ownF32 L a1) fun qv590 =>
    (match sepB [qv590.1] [] with
    | true =>
    .call (laws_markFloat32S_g qv590.2 v591) fun y => .grd (decide (y.2.length = qv590.2.length)) (.leaf (.int .i64 y.1, setRows L ([qv590.1].zip [.f32 y.2])))
    | false => .fail)
  | _ => .fail
theorem laws_markFloat32S_Fok : COk Try.prog 22 laws_markFloat32S_F false := by
  intro F L H args r L' hs ha hr
  unfold laws_markFloat32S_F at hr
  split at hr
  · rename_i a1 v591
    obtain ⟨⟨jv590, v590⟩, hqv590, hr⟩ := optT_run hr
    simp only at hr
    split at hr
    · rename_i hsep
      obtain ⟨hnd, hsepv⟩ := sepB_spec hsep
      simp only [Tree.run] at hr
      obtain ⟨y, hy, hr⟩ := Option.bind_eq_some_iff.1 hr
      try simp only [Tree.run] at hr
      obtain ⟨hl0, hr⟩ := ite_run hr
      simp only [Option.some.injEq, Prod.mk.injEq] at hr
      obtain ⟨rfl, rfl⟩ := hr
      obtain ⟨hr0, hu0, ha0, hb0⟩ := (ownR_spec (DVs.okAt ha 0 rfl) (ownF32_or hqv590))
      exact mut_ok hs (fun k => (([a1.av F] : List AV)[k]?).getD .top) [a1, .int .i64 v591] [.own 0 0 v590.length, .int .i64 v591] [jv590] [.f32 v590] [.f32 y.2] hnd rfl rfl (fun i j q h1 h2 => by
          rcases i with _ | i
          · simp at h1 h2; subst h1; subst h2; exact hr0
          · simp at h1) (fun i q q' h1 h2 => by
          rcases i with _ | i
          · simp at h1 h2; subst h1; subst h2; exact of_decide_eq_true hl0
          · simp at h1) (fun j hj => by simp at hj; subst hj; simp [DVs.refs, DV.refs, hu0]) (fun F' h0 hi hρ hst hS => ⟨by (have ab0 : F'.abs 0 = F.abs jv590 := (by simp [Fr.abs, hi]); simp [DVs.av, DV.av, BR.av, hρ, Row.len, ha0, ab0]), by
          obtain ⟨H1, k1, k2, _⟩ := laws_markFloat32S_fn v590 v591 F' (by rw [hi]; rfl) hst ⟨⟨_, rfl, Nat.le_refl _, Nat.le_refl _, fun _ => rfl, (ownR_spec (DVs.okAt ha 0 rfl) (ownF32_or hqv590)).2.2.2⟩, trivial, trivial⟩ hy
          exact ⟨H1, k1, k2⟩⟩) (fun F' => rfl) (fun L' => trivial)
    · cases hr
  · cases hr
/-! laws.markMatrix -/
noncomputable def laws_markMatrix_LO (v601 : Int) (v602 : Int) (v603 : List Nat) (v604 : Int) : LOr := fun id e L =>
  match id with
  | _ => .fail
noncomputable def laws_markMatrix_tab : List (FuncId × DFn × Bool) := [(22, laws_markFloat32S_F, false)]
theorem laws_markMatrix_hO : OrcOk Try.prog (tabD laws_markMatrix_tab) (tabM laws_markMatrix_tab) := tabD_cons laws_markFloat32S_Fok (tabD_nil _)
noncomputable def laws_markMatrix_T (v603 : List Nat) (v604 : Int) : Tree (Int × (List Nat)) :=
  (.call (laws_markFloat32S_g v603 v604) fun v605 =>
  (.grd (decide (v605.2.length = v603.length)) <|
  .leaf (v605.1, v605.2)))

noncomputable def laws_markMatrix_g (v603 : List Nat) (v604 : Int) : Option (Int × (List Nat)) := (laws_markMatrix_T v603 v604).run
def laws_markMatrix_enc (v601 : Int) (v602 : Int) (v603 : List Nat) (v604 : Int) (y : Int × (List Nat)) : Rs := (.int .i64 y.1, [.row (.f32 y.2) 0])
theorem laws_markMatrix_den (v601 : Int) (v602 : Int) (v603 : List Nat) (v604 : Int) : (den TT (tabD laws_markMatrix_tab) (tabM laws_markMatrix_tab) (laws_markMatrix_LO v601 v602 v603 v604) (codeOf Try.f21) ([.agg [.int .i64 v601, .int .i64 v602, .own 0 0 v603.length], .int .i64 v604] ++ List.replicate (Try.f21.ntmps - ([.agg [.int .i64 v601, .int .i64 v602, .own 0 0 v603.length], .int .i64 v604] : List DV).length) .undef) [.row (.f32 v603) 0]).bind (retD TT Try.f21.results.toList 1) = (laws_markMatrix_T v603 v604).bind fun y => .leaf (laws_markMatrix_enc v601 v602 v603 v604 y) := by kernel_rfl
theorem laws_markMatrix_fn (v601 : Int) (v602 : Int) (v603 : List Nat) (v604 : Int) (F : Fr) (hm : F.ids.length = 1) (h0 : St F [.row (.f32 v603) 0] F.H0) (hA : DVs.Ok F [.row (.f32 v603) 0] [.agg [.int .i64 v601, .int .i64 v602, .own 0 0 v603.length], .int .i64 v604]) {y : Int × (List Nat)} (hy : laws_markMatrix_g v603 v604 = some y) : ∃ H', FnOk Try.prog 21 (DVs.av F [.agg [.int .i64 v601, .int .i64 v602, .own 0 0 v603.length], .int .i64 v604]) F.H0 ((laws_markMatrix_enc v601 v602 v603 v604 y).1.av F) H' ∧ St F (laws_markMatrix_enc v601 v602 v603 v604 y).2 H' ∧ (laws_markMatrix_enc v601 v602 v603 v604 y).1.Ok F (laws_markMatrix_enc v601 v602 v603 v604 y).2 :=
  fn_fin tok laws_markMatrix_hO mixed Try.func21 Try.call21 (by kernel_rfl) (LoopsOk_eq (l := []) (by kernel_rfl) trivial) (laws_markMatrix_den v601 v602 v603 v604) hy hm h0 hA
noncomputable def laws_markMatrix_F : DFn := fun args L =>
  match args with
  | [.agg [.int .i64 v601, .int .i64 v602, a1], .int .i64 v604] =>
    optT (ownF32 L a1) fun qv603 =>
    (match sepB [qv603.1] [] with
    | true =>
    .call (laws_markMatrix_g qv603.2 v604) fun y => .grd (decide (y.2.length = qv603.2.length)) (.leaf (.int .i64 y.1, setRows L ([qv603.1].zip [.f32 y.2])))
    | false => .fail)
  | _ => .fail
theorem laws_markMatrix_Fok : COk Try.prog 21 laws_markMatrix_F false := by
  intro F L H args r L' hs ha hr
  unfold laws_markMatrix_F at hr
  split at hr
  · rename_i v601 v602 a1 v604
    obtain ⟨⟨jv603, v603⟩, hqv603, hr⟩ := optT_run hr
    simp only at hr
    split at hr
    · rename_i hsep
      obtain ⟨hnd, hsepv⟩ := sepB_spec hsep
      simp only [Tree.run] at hr
      obtain ⟨y, hy, hr⟩ := Option.bind_eq_some_iff.1 hr
      try simp only [Tree.run] at hr
      obtain ⟨hl0, hr⟩ := ite_run hr
      simp only [Option.some.injEq, Prod.mk.injEq] at hr
      obtain ⟨rfl, rfl⟩ := hr
      obtain ⟨hr0, hu0, ha0, hb0⟩ := (ownR_spec (DVs.okAt (DVs.okAt ha 0 rfl) 2 rfl) (ownF32_or hqv603))
      exact mut_ok hs (fun k => (([a1.av F] : List AV)[k]?).getD .top) [.agg [.int .i64 v601, .int .i64 v602, a1], .int .i64 v604] [.agg [.int .i64 v601, .int .i64 v602, .own 0 0 v603.length], .int .i64 v604] [jv603] [.f32 v603] [.f32 y.2] hnd rfl rfl (fun i j q h1 h2 => by
          rcases i with _ | i
          · simp at h1 h2; subst h1; subst h2; exact hr0
          · simp at h1) (fun i q q' h1 h2 => by
          rcases i with _ | i
          · simp at h1 h2; subst h1; subst h2; exact of_decide_eq_true hl0
          · simp at h1) (fun j hj => by simp at hj; subst hj; simp [DVs.refs, DV.refs, hu0]) (fun F' h0 hi hρ hst hS => ⟨by (have ab0 : F'.abs 0 = F.abs jv603 := (by simp [Fr.abs, hi]); simp [DVs.av, DV.av, BR.av, hρ, Row.len, ha0, ab0]), by
          obtain ⟨H1, k1, k2, _⟩ := laws_markMatrix_fn v601 v602 v603 v604 F' (by rw [hi]; rfl) hst ⟨⟨trivial, trivial, ⟨_, rfl, Nat.le_refl _, Nat.le_refl _, fun _ => rfl, (ownR_spec (DVs.okAt (DVs.okAt ha 0 rfl) 2 rfl) (ownF32_or hqv603)).2.2.2⟩, trivial⟩, trivial, trivial⟩ hy
          exact ⟨H1, k1, k2⟩⟩) (fun F' => rfl) (fun L' => trivial)
    · cases hr
  · cases hr
/-! laws.markFloat32S -/
noncomputable def laws_markFloat32S_i1_l0_T (s : Unit) : Tree ((Unit) ⊕ (Unit)) :=
  (.br (decide ((0 : Int) < (0 : Int))) (
   .fail
  ) (
   .leaf (.inr ())
  ))

noncomputable def laws_markFloat32S_i1_l0_g (s0 : Unit) : Option (Unit) := whileM (fun s => (laws_markFloat32S_i1_l0_T s).run) s0
def laws_markFloat32S_i1_l0_E (v611 : Int) (s : Unit) : Sd := ([.nilslc, .int .i64 v611, .top, .top, .top, .int .i64 (0 : Int), .top, .top, .top, .top, .top, .top, .top, .top, .top, .top, .top, .top, .top, .top], [])
def laws_markFloat32S_i1_l0_X (v611 : Int) (x : Unit) : Out := (.normal, [.top, .int .i64 v611, .top, .top, .top, .top, .top, .top, .top, .top, .top, .top, .top, .top, .top, .top, .top, .top, .top, .top], [])
def laws_markFloat32S_i1_l0_kill : List Nat := [0, 0, 1, 1, 1, 0, 1, 1, 1, 1, 1, 1, 1, 1, 1, 1, 1, 1, 1, 1]
def laws_markFloat32S_i1_l0_nx : Exit → List Nat
  | .exit 0 => [1, 0, 1, 1, 1, 1, 1, 1, 1, 1, 1, 1, 1, 1, 1, 1, 1, 1, 1, 1]
  | .ret => [1, 1, 1, 1, 0, 1, 1, 1, 1, 1, 1, 1, 1, 1, 1, 1, 1, 1, 1, 1]
  | _ => []
noncomputable def laws_markFloat32S_i1_LO (v611 : Int) : LOr := fun id e L =>
  match id with
  | 0 => .need (normA 0 laws_markFloat32S_i1_l0_kill e L = some (laws_markFloat32S_i1_l0_E v611 ())) (.call (laws_markFloat32S_i1_l0_g ()) fun x => .leaf (laws_markFloat32S_i1_l0_X v611 x))
  | _ => .fail
noncomputable def laws_markFloat32S_i1_tab : List (FuncId × DFn × Bool) := []
theorem laws_markFloat32S_i1_hO : OrcOk Try.prog (tabD laws_markFloat32S_i1_tab) (tabM laws_markFloat32S_i1_tab) := tabD_nil _
theorem laws_markFloat32S_i1_l0_be (v611 : Int) (s : Unit) : bodyT TT (tabD laws_markFloat32S_i1_tab) (tabM laws_markFloat32S_i1_tab) (laws_markFloat32S_i1_LO v611) 0 laws_markFloat32S_i1_l0_kill laws_markFloat32S_i1_l0_nx (bodyOf Try.f22 0) 0 (laws_markFloat32S_i1_l0_E v611 s) = (laws_markFloat32S_i1_l0_T s).bind fun y => .leaf (outS (laws_markFloat32S_i1_l0_E v611) (laws_markFloat32S_i1_l0_X v611) y) := by kernel_rfl
theorem laws_markFloat32S_i1_l0_ok (v611 : Int) : LSound Try.prog 0 (laws_markFloat32S_i1_LO v611) 0 (bodyOf Try.f22 0) := by
  intro e L out h
  exact lo_ok (E := laws_markFloat32S_i1_l0_E v611) (gT := laws_markFloat32S_i1_l0_T) (X := laws_markFloat32S_i1_l0_X v611) (s0 := ()) tok laws_markFloat32S_i1_hO mixed (LoopsOk_eq (l := []) (by kernel_rfl) trivial) (laws_markFloat32S_i1_l0_be v611) rfl (by intro x; rfl) h
noncomputable def laws_markFloat32S_i1_T (v611 : Int) : Tree (Int) :=
  (.need (some (laws_markFloat32S_i1_l0_E v611 ()) = some (laws_markFloat32S_i1_l0_E v611 ())) <|
  (.call (laws_markFloat32S_i1_l0_g ()) fun v614 =>
  .leaf v611))

noncomputable def laws_markFloat32S_i1_g (v611 : Int) : Option (Int) := (laws_markFloat32S_i1_T v611).run
def laws_markFloat32S_i1_enc (v611 : Int) (y : Int) : Rs := (.int .i64 y, [])
theorem laws_markFloat32S_i1_den (v611 : Int) : (den TT (tabD laws_markFloat32S_i1_tab) (tabM laws_markFloat32S_i1_tab) (laws_markFloat32S_i1_LO v611) (codeOf Try.f22) ([.nilslc, .int .i64 v611] ++ List.replicate (Try.f22.ntmps - ([.nilslc, .int .i64 v611] : List DV).length) .undef) []).bind (retD TT Try.f22.results.toList 0) = (laws_markFloat32S_i1_T v611).bind fun y => .leaf (laws_markFloat32S_i1_enc v611 y) := by kernel_rfl
theorem laws_markFloat32S_i1_fn (v611 : Int) (F : Fr) (hm : F.ids.length = 0) (h0 : St F [] F.H0) (hA : DVs.Ok F [] [.nilslc, .int .i64 v611]) {y : Int} (hy : laws_markFloat32S_i1_g v611 = some y) : ∃ H', FnOk Try.prog 22 (DVs.av F [.nilslc, .int .i64 v611]) F.H0 ((laws_markFloat32S_i1_enc v611 y).1.av F) H' ∧ St F (laws_markFloat32S_i1_enc v611 y).2 H' ∧ (laws_markFloat32S_i1_enc v611 y).1.Ok F (laws_markFloat32S_i1_enc v611 y).2 :=
  fn_fin tok laws_markFloat32S_i1_hO mixed Try.func22 Try.call22 (by kernel_rfl) (LoopsOk_eq (l := [(0, bodyOf Try.f22 0)]) (by kernel_rfl) ⟨laws_markFloat32S_i1_l0_ok v611, trivial⟩) (laws_markFloat32S_i1_den v611) hy hm h0 hA
noncomputable def laws_markFloat32S_i1_F : DFn := fun args L =>
  match args with
  | [.nilslc, .int .i64 v611] =>
    .call (laws_markFloat32S_i1_g v611) fun y => .leaf (.int .i64 y, L)
  | _ => .fail
theorem laws_markFloat32S_i1_Fok : COk Try.prog 22 laws_markFloat32S_i1_F true := by
  intro F L H args r L' hs ha hr
  unfold laws_markFloat32S_i1_F at hr
  split at hr
  · rename_i v611
    simp only [Tree.run] at hr
    obtain ⟨y, hy, hr⟩ := Option.bind_eq_some_iff.1 hr
    simp only [Tree.run, Option.some.injEq, Prod.mk.injEq] at hr
    obtain ⟨rfl, rfl⟩ := hr
    exact call_ok0 hs (fun k => (([] : List AV)[k]?).getD .top) [.nilslc, .int .i64 v611] [.nilslc, .int .i64 v611] (fun F' h0 hi hρ => ⟨by simp [DVs.av, DV.av, BR.av, hρ], laws_markFloat32S_i1_fn v611 F' (by rw [hi]; rfl) (st_nil hi) ⟨trivial, trivial, trivial⟩ hy⟩) rfl
  · cases hr
/-! laws.markMatrix -/
noncomputable def laws_markMatrix_i1_LO (v608 : Int) (v609 : Int) (v610 : Int) : LOr := fun id e L =>
  match id with
  | _ => .fail
noncomputable def laws_markMatrix_i1_tab : List (FuncId × DFn × Bool) := [(22, laws_markFloat32S_i1_F, true)]
theorem laws_markMatrix_i1_hO : OrcOk Try.prog (tabD laws_markMatrix_i1_tab) (tabM laws_markMatrix_i1_tab) := tabD_cons laws_markFloat32S_i1_Fok (tabD_nil _)
noncomputable def laws_markMatrix_i1_T (v610 : Int) : Tree (Int) :=
  (.call (laws_markFloat32S_i1_g v610) fun v615 =>
  .leaf v615)

noncomputable def laws_markMatrix_i1_g (v610 : Int) : Option (Int) := (laws_markMatrix_i1_T v610).run
def laws_markMatrix_i1_enc (v608 : Int) (v609 : Int) (v610 : Int) (y : Int) : Rs := (.int .i64 y, [])
theorem laws_markMatrix_i1_den (v608 : Int) (v609 : Int) (v610 : Int) : (den TT (tabD laws_markMatrix_i1_tab) (tabM laws_markMatrix_i1_tab) (laws_markMatrix_i1_LO v608 v609 v610) (codeOf Try.f21) ([.agg [.int .i64 v608, .int .i64 v609, .nilslc], .int .i64 v610] ++ List.replicate (Try.f21.ntmps - ([.agg [.int .i64 v608, .int .i64 v609, .nilslc], .int .i64 v610] : List DV).length) .undef) []).bind (retD TT Try.f21.results.toList 0) = (laws_markMatrix_i1_T v610).bind fun y => .leaf (laws_markMatrix_i1_enc v608 v609 v610 y) := by kernel_rfl
theorem laws_markMatrix_i1_fn (v608 : Int) (v609 : Int) (v610 : Int) (F : Fr) (hm : F.ids.length = 0) (h0 : St F [] F.H0) (hA : DVs.Ok F [] [.agg [.int .i64 v608, .int .i64 v609, .nilslc], .int .i64 v610]) {y : Int} (hy : laws_markMatrix_i1_g v610 = some y) : ∃ H', FnOk Try.prog 21 (DVs.av F [.agg [.int .i64 v608, .int .i64 v609, .nilslc], .int .i64 v610]) F.H0 ((laws_markMatrix_i1_enc v608 v609 v610 y).1.av F) H' ∧ St F (laws_markMatrix_i1_enc v608 v609 v610 y).2 H' ∧ (laws_markMatrix_i1_enc v608 v609 v610 y).1.Ok F (laws_markMatrix_i1_enc v608 v609 v610 y).2 :=
  fn_fin tok laws_markMatrix_i1_hO mixed Try.func21 Try.call21 (by kernel_rfl) (LoopsOk_eq (l := []) (by kernel_rfl) trivial) (laws_markMatrix_i1_den v608 v609 v610) hy hm h0 hA
noncomputable def laws_markMatrix_i1_F : DFn := fun args L =>
  match args with
  | [.agg [.int .i64 v608, .int .i64 v609, .nilslc], .int .i64 v610] =>
    .call (laws_markMatrix_i1_g v610) fun y => .leaf (.int .i64 y, L)
  | _ => .fail
theorem laws_markMatrix_i1_Fok : COk Try.prog 21 laws_markMatrix_i1_F true := by
  intro F L H args r L' hs ha hr
  unfold laws_markMatrix_i1_F at hr
  split at hr
  · rename_i v608 v609 v610
    simp only [Tree.run] at hr
    obtain ⟨y, hy, hr⟩ := Option.bind_eq_some_iff.1 hr
    simp only [Tree.run, Option.some.injEq, Prod.mk.injEq] at hr
    obtain ⟨rfl, rfl⟩ := hr
    exact call_ok0 hs (fun k => (([] : List AV)[k]?).getD .top) [.agg [.int .i64 v608, .int .i64 v609, .nilslc], .int .i64 v610] [.agg [.int .i64 v608, .int .i64 v609, .nilslc], .int .i64 v610] (fun F' h0 hi hρ => ⟨by simp [DVs.av, DV.av, BR.av, hρ], laws_markMatrix_i1_fn v608 v609 v610 F' (by rw [hi]; rfl) (st_nil hi) ⟨⟨trivial, trivial, trivial, trivial⟩, trivial, trivial⟩ hy⟩) rfl
  · cases hr
/-! laws.heldFloat32S -/
noncomputable def laws_heldFloat32S_l0_T (v621 : List Nat) (s : Int × Int) : Tree ((Int × Int) ⊕ ((Unit) ⊕ (Int))) :=
  (.br (decide (s.2 < ((v621.length : Nat) : Int))) (
   (.grd (inb s.2 v621.length) <|
   (.br (!feq .f32 (nth v621 (Int.toNat s.2)) (fofint .f32 s.1)) (
    .leaf (.inr (.inl ()))
   ) (
    .leaf (.inl (IntKind.i64.wrap (s.1 + (1 : Int)), IntKind.i64.wrap (s.2 + (1 : Int))))
   )))
  ) (
   .leaf (.inr (.inr s.1))
  ))

noncomputable def laws_heldFloat32S_l0_g (v621 : List Nat) (s0 : Int × Int) : Option ((Unit) ⊕ (Int)) := whileM (fun s => (laws_heldFloat32S_l0_T v621 s).run) s0
def laws_heldFloat32S_l0_E (v621 : List Nat) (v622 : Int) (s : Int × Int) : Sd := ([.bslc (BR.root 0) (.f32 v621), .int .i64 s.1, .top, .top, .top, .int .i64 s.2, .top, .top, .top, .top, .top, .top, .top, .top, .top, .top, .top, .top, .top, .top, .top, .top], [])
def laws_heldFloat32S_l0_X (v621 : List Nat) (v622 : Int) (x : (Unit) ⊕ (Int)) : Out := (match x with | .inl x => (.ret, [.top, .top, .top, .top, .int .i64 (-1 : Int), .top, .top, .top, .top, .top, .top, .top, .top, .top, .top, .top, .top, .top, .top, .top, .top, .top], []) | .inr x => (.normal, [.top, .int .i64 x, .top, .top, .top, .top, .top, .top, .top, .top, .top, .top, .top, .top, .top, .top, .top, .top, .top, .top, .top, .top], []))
def laws_heldFloat32S_l0_kill : List Nat := [0, 0, 1, 1, 1, 0, 1, 1, 1, 1, 1, 1, 1, 1, 1, 1, 1, 1, 1, 1, 1, 1]
def laws_heldFloat32S_l0_nx : Exit → List Nat
  | .exit 0 => [1, 0, 1, 1, 1, 1, 1, 1, 1, 1, 1, 1, 1, 1, 1, 1, 1, 1, 1, 1, 1, 1]
  | .ret => [1, 1, 1, 1, 0, 1, 1, 1, 1, 1, 1, 1, 1, 1, 1, 1, 1, 1, 1, 1, 1, 1]
  | _ => []
noncomputable def laws_heldFloat32S_LO (v621 : List Nat) (v622 : Int) : LOr := fun id e L =>
  match id with
  | 0 => .need (normA 0 laws_heldFloat32S_l0_kill e L = some (laws_heldFloat32S_l0_E v621 v622 ((gI (vAt e 1)), (gI (vAt e 5))))) (.call (laws_heldFloat32S_l0_g v621 ((gI (vAt e 1)), (gI (vAt e 5)))) fun x => .sum x (fun b0 => .leaf (laws_heldFloat32S_l0_X v621 v622 (.inl b0))) (fun c0 => .leaf (laws_heldFloat32S_l0_X v621 v622 (.inr c0))))
  | _ => .fail
noncomputable def laws_heldFloat32S_tab : List (FuncId × DFn × Bool) := []
theorem laws_heldFloat32S_hO : OrcOk Try.prog (tabD laws_heldFloat32S_tab) (tabM laws_heldFloat32S_tab) := tabD_nil _
theorem laws_heldFloat32S_l0_be (v621 : List Nat) (v622 : Int) (s : Int × Int) : bodyT TT (tabD laws_heldFloat32S_tab) (tabM laws_heldFloat32S_tab) (laws_heldFloat32S_LO v621 v622) 0 laws_heldFloat32S_l0_kill laws_heldFloat32S_l0_nx (bodyOf Try.f24 0) 0 (laws_heldFloat32S_l0_E v621 v622 s) = (laws_heldFloat32S_l0_T v621 s).bind fun y => .leaf (outS (laws_heldFloat32S_l0_E v621 v622) (laws_heldFloat32S_l0_X v621 v622) y) := by kernel_rfl
theorem laws_heldFloat32S_l0_ok (v621 : List Nat) (v622 : Int) : LSound Try.prog 0 (laws_heldFloat32S_LO v621 v622) 0 (bodyOf Try.f24 0) := by
  intro e L out h
  exact lo_ok (E := laws_heldFloat32S_l0_E v621 v622) (gT := laws_heldFloat32S_l0_T v621) (X := laws_heldFloat32S_l0_X v621 v622) (s0 := ((gI (vAt e 1)), (gI (vAt e 5)))) tok laws_heldFloat32S_hO mixed (LoopsOk_eq (l := []) (by kernel_rfl) trivial) (laws_heldFloat32S_l0_be v621 v622) rfl (by intro x; (cases x with | inl b => rfl | inr x => exact rfl)) h
noncomputable def laws_heldFloat32S_T (v621 : List Nat) (v622 : Int) : Tree (Int) :=
  (.need (some (laws_heldFloat32S_l0_E v621 v622 (v622, (0 : Int))) = some (laws_heldFloat32S_l0_E v621 v622 (v622, (0 : Int)))) <|
  (.call (laws_heldFloat32S_l0_g v621 (v622, (0 : Int))) fun v629 =>
  (.sum v629 (fun v630 =>
   .leaf (-1 : Int)
  ) (fun v631 =>
   .leaf v631
  ))))

noncomputable def laws_heldFloat32S_g (v621 : List Nat) (v622 : Int) : Option (Int) := (laws_heldFloat32S_T v621 v622).run
def laws_heldFloat32S_enc (v621 : List Nat) (v622 : Int) (y : Int) : Rs := (.int .i64 y, [])
theorem laws_heldFloat32S_den (v621 : List Nat) (v622 : Int) : (den TT (tabD laws_heldFloat32S_tab) (tabM laws_heldFloat32S_tab) (laws_heldFloat32S_LO v621 v622) (codeOf Try.f24) ([.bslc (BR.root 0) (.f32 v621), .int .i64 v622] ++ List.replicate (Try.f24.ntmps - ([.bslc (BR.root 0) (.f32 v621), .int .i64 v622] : List DV).length) .undef) []).bind (retD TT Try.f24.results.toList 0) = (laws_heldFloat32S_T v621 v622).bind fun y => .leaf (laws_heldFloat32S_enc v621 v622 y) := by kernel_rfl
theorem laws_heldFloat32S_fn (v621 : List Nat) (v622 : Int) (F : Fr) (hm : F.ids.length = 0) (h0 : St F [] F.H0) (hA : DVs.Ok F [] [.bslc (BR.root 0) (.f32 v621), .int .i64 v622]) {y : Int} (hy : laws_heldFloat32S_g v621 v622 = some y) : ∃ H', FnOk Try.prog 24 (DVs.av F [.bslc (BR.root 0) (.f32 v621), .int .i64 v622]) F.H0 ((laws_heldFloat32S_enc v621 v622 y).1.av F) H' ∧ St F (laws_heldFloat32S_enc v621 v622 y).2 H' ∧ (laws_heldFloat32S_enc v621 v622 y).1.Ok F (laws_heldFloat32S_enc v621 v622 y).2 :=
  fn_fin tok laws_heldFloat32S_hO mixed Try.func24 Try.call24 (by kernel_rfl) (LoopsOk_eq (l := [(0, bodyOf Try.f24 0)]) (by kernel_rfl) ⟨laws_heldFloat32S_l0_ok v621 v622, trivial⟩) (laws_heldFloat32S_den v621 v622) hy hm h0 hA
noncomputable def laws_heldFloat32S_F : DFn := fun args L =>
  match args with
  | [a1, .int .i64 v622] =>
    optT (rowF32 L a1) fun v621 =>
    .call (laws_heldFloat32S_g v621 v622) fun y => .leaf (.int .i64 y, L)
  | _ => .fail
theorem laws_heldFloat32S_Fok : COk Try.prog 24 laws_heldFloat32S_F true := by
  intro F L H args r L' hs ha hr
  unfold laws_heldFloat32S_F at hr
  split at hr
  · rename_i a1 v622
    obtain ⟨v621, hv621, hr⟩ := optT_run hr
    simp only [Tree.run] at hr
    obtain ⟨y, hy, hr⟩ := Option.bind_eq_some_iff.1 hr
    simp only [Tree.run, Option.some.injEq, Prod.mk.injEq] at hr
    obtain ⟨rfl, rfl⟩ := hr
    exact call_ok0 hs (fun k => (([a1.av F] : List AV)[k]?).getD .top) [a1, .int .i64 v622] [.bslc (BR.root 0) (.f32 v621), .int .i64 v622] (fun F' h0 hi hρ => ⟨by simp [DVs.av, DV.av, BR.av, hρ], laws_heldFloat32S_fn v621 v622 F' (by rw [hi]; rfl) (st_nil hi) ⟨bslc_ok hi (by rw [h0, hρ]; exact rowF32_ok hs (DVs.okAt ha 0 rfl) hv621), trivial, trivial⟩ hy⟩) rfl
  · cases hr
/-! laws.heldMatrix -/
noncomputable def laws_heldMatrix_LO (v617 : Int) (v618 : Int) (v619 : List Nat) (v620 : Int) : LOr := fun id e L =>
  match id with
  | _ => .fail
noncomputable def laws_heldMatrix_tab : List (FuncId × DFn × Bool) := [(24, laws_heldFloat32S_F, true)]
theorem laws_heldMatrix_hO : OrcOk Try.prog (tabD laws_heldMatrix_tab) (tabM laws_heldMatrix_tab) := tabD_cons laws_heldFloat32S_Fok (tabD_nil _)
noncomputable def laws_heldMatrix_T (v619 : List Nat) (v620 : Int) : Tree (Int) :=
  (.call (laws_heldFloat32S_g v619 v620) fun v632 =>
  (.br (decide (v632 < (0 : Int))) (
   .leaf (-1 : Int)
  ) (
   .leaf v632
  )))

noncomputable def laws_heldMatrix_g (v619 : List Nat) (v620 : Int) : Option (Int) := (laws_heldMatrix_T v619 v620).run
def laws_heldMatrix_enc (v617 : Int) (v618 : Int) (v619 : List Nat) (v620 : Int) (y : Int) : Rs := (.int .i64 y, [])
theorem laws_heldMatrix_den (v617 : Int) (v618 : Int) (v619 : List Nat) (v620 : Int) : (den TT (tabD laws_heldMatrix_tab) (tabM laws_heldMatrix_tab) (laws_heldMatrix_LO v617 v618 v619 v620) (codeOf Try.f23) ([.agg [.int .i64 v617, .int .i64 v618, .bslc (BR.root 0) (.f32 v619)], .int .i64 v620] ++ List.replicate (Try.f23.ntmps - ([.agg [.int .i64 v617, .int .i64 v618, .bslc (BR.root 0) (.f32 v619)], .int .i64 v620] : List DV).length) .undef) []).bind (retD TT Try.f23.results.toList 0) = (laws_heldMatrix_T v619 v620).bind fun y => .leaf (laws_heldMatrix_enc v617 v618 v619 v620 y) := by kernel_rfl
theorem laws_heldMatrix_fn (v617 : Int) (v618 : Int) (v619 : List Nat) (v620 : Int) (F : Fr) (hm : F.ids.length = 0) (h0 : St F [] F.H0) (hA : DVs.Ok F [] [.agg [.int .i64 v617, .int .i64 v618, .bslc (BR.root 0) (.f32 v619)], .int .i64 v620]) {y : Int} (hy : laws_heldMatrix_g v619 v620 = some y) : ∃ H', FnOk Try.prog 23 (DVs.av F [.agg [.int .i64 v617, .int .i64 v618, .bslc (BR.root 0) (.f32 v619)], .int .i64 v620]) F.H0 ((laws_heldMatrix_enc v617 v618 v619 v620 y).1.av F) H' ∧ St F (laws_heldMatrix_enc v617 v618 v619 v620 y).2 H' ∧ (laws_heldMatrix_enc v617 v618 v619 v620 y).1.Ok F (laws_heldMatrix_enc v617 v618 v619 v620 y).2 :=
  fn_fin tok laws_heldMatrix_hO mixed Try.func23 Try.call23 (by kernel_rfl) (LoopsOk_eq (l := []) (by kernel_rfl) trivial) (laws_heldMatrix_den v617 v618 v619 v620) hy hm h0 hA
noncomputable def laws_heldMatrix_F : DFn := fun args L =>
  match args with
  | [.agg [.int .i64 v617, .int .i64 v618, a1], .int .i64 v620] =>
    optT (rowF32 L a1) fun v619 =>
    .call (laws_heldMatrix_g v619 v620) fun y => .leaf (.int .i64 y, L)
  | _ => .fail
theorem laws_heldMatrix_Fok : COk Try.prog 23 laws_heldMatrix_F true := by
  intro F L H args r L' hs ha hr
  unfold laws_heldMatrix_F at hr
  split at hr
  · rename_i v617 v618 a1 v620
    obtain ⟨v619, hv619, hr⟩ := optT_run hr
    simp only [Tree.run] at hr
    obtain ⟨y, hy, hr⟩ := Option.bind_eq_some_iff.1 hr
    simp only [Tree.run, Option.some.injEq, Prod.mk.injEq] at hr
    obtain ⟨rfl, rfl⟩ := hr
    exact call_ok0 hs (fun k => (([a1.av F] : List AV)[k]?).getD .top) [.agg [.int .i64 v617, .int .i64 v618, a1], .int .i64 v620] [.agg [.int .i64 v617, .int .i64 v618, .bslc (BR.root 0) (.f32 v619)], .int .i64 v620] (fun F' h0 hi hρ => ⟨by simp [DVs.av, DV.av, BR.av, hρ], laws_heldMatrix_fn v617 v618 v619 v620 F' (by rw [hi]; rfl) (st_nil hi) ⟨⟨trivial, trivial, bslc_ok hi (by rw [h0, hρ]; exact rowF32_ok hs (DVs.okAt (DVs.okAt ha 0 rfl) 2 rfl) hv619), trivial⟩, trivial, trivial⟩ hy⟩) rfl
  · cases hr
/-! laws.FnExactPowerMatrix -/
noncomputable def laws_FnExactPowerMatrix_LO (v1 : Int) (v2 : Int) (v3 : List Nat) (v4 : Int) : LOr := fun id e L =>
  match id with
  | _ => .fail
noncomputable def laws_FnExactPowerMatrix_tab : List (FuncId × DFn × Bool) := [(15, laws_szMatrix_F, true), (17, laws_toMatrix_F, true), (40, spec_PowerMatrix_F, true), (41, impl_PowerMatrix_F, true), (19, laws_eqMatrix_F, true), (21, (orD (fun args => match args with | [.agg [_, _, .nilslc], _] => true | _ => false) laws_markMatrix_i1_F laws_markMatrix_F), false), (23, laws_heldMatrix_F, true)]
theorem laws_FnExactPowerMatrix_hO : OrcOk Try.prog (tabD laws_FnExactPowerMatrix_tab) (tabM laws_FnExactPowerMatrix_tab) := tabD_cons laws_szMatrix_Fok (tabD_cons laws_toMatrix_Fok (tabD_cons spec_PowerMatrix_Fok (tabD_cons impl_PowerMatrix_Fok (tabD_cons laws_eqMatrix_Fok (tabD_cons (orD_ok (COk.weak laws_markMatrix_i1_Fok) laws_markMatrix_Fok) (tabD_cons laws_heldMatrix_Fok (tabD_nil _)))))))
noncomputable def laws_FnExactPowerMatrix_T (v1 : Int) (v2 : Int) (v3 : List Nat) (v4 : Int) : Tree (Bool) :=
  (.br (decide ((laws_szMatrix_v v3 (1048576 : Int)) < (0 : Int))) (
   .leaf true
  ) (
   (.call (laws_toMatrix_g v1 v2 v3) fun v22 =>
   (.call (spec_PowerMatrix_g v22.1 v22.2.1 v22.2.2 v4) fun v184 =>
   (.sum v184 (fun v185 =>
    (.call (laws_toMatrix_g v1 v2 v3) fun v187 =>
    (.call (impl_PowerMatrix_g v187.1 v187.2.1 v187.2.2 v4) fun v559 =>
    (.sum v559 (fun v560 =>
     (.call (laws_eqMatrix_g (0 : Int) (0 : Int) ([] : List Nat) (0 : Int) (0 : Int) ([] : List Nat)) fun v579 =>
     (.br (!v579) (
      .leaf false
     ) (
      (.br (!(false == false)) (
       .leaf false
      ) (
       (.call (laws_toMatrix_g v1 v2 v3) fun v580 =>
       (.call (laws_eqMatrix_g v187.1 v187.2.1 v187.2.2 v580.1 v580.2.1 v580.2.2) fun v581 =>
       (.br (!v581) (
        .leaf false
       ) (
        (.call (laws_markMatrix_g v187.2.2 (1 : Int)) fun v606 =>
        (.grd (decide (v606.2.length = v187.2.2.length)) <|
        (.br (decide (v606.1 < (0 : Int))) (
         .leaf false
        ) (
         (.call (laws_eqMatrix_g (0 : Int) (0 : Int) ([] : List Nat) (0 : Int) (0 : Int) ([] : List Nat)) fun v607 =>
         (.br (!v607) (
          .leaf false
         ) (
          (.br (!(false == false)) (
           .leaf false
          ) (
           (.call (laws_markMatrix_i1_g (1 : Int)) fun v616 =>
           (.call (laws_heldMatrix_g ([] : List Nat) (1 : Int)) fun v633 =>
           (.br (decide (v633 < (0 : Int))) (
            .leaf false
           ) (
            (.br (!decide (v633 = v616)) (
             .leaf false
            ) (
             (.call (laws_toMatrix_g v1 v2 v3) fun v634 =>
             (.call (impl_PowerMatrix_g v634.1 v634.2.1 v634.2.2 v4) fun v635 =>
             (.sum v635 (fun v636 =>
              (.call (laws_eqMatrix_g (0 : Int) (0 : Int) ([] : List Nat) (0 : Int) (0 : Int) ([] : List Nat)) fun v638 =>
              (.br (!v638) (
               .leaf false
              ) (
               (.br (!(false == false)) (
                .leaf false
               ) (
                (.call (laws_heldMatrix_g ([] : List Nat) (1 : Int)) fun v639 =>
                (.br (decide (v639 < (0 : Int))) (
                 .leaf false
                ) (
                 (.br (!decide (v639 = v616)) (
                  .leaf false
                 ) (
                  .leaf true
                 ))
                )))
               ))
              )))
             ) (fun v637 =>
              (.call (laws_eqMatrix_g v637.1 v637.2.1 v637.2.2 (0 : Int) (0 : Int) ([] : List Nat)) fun v640 =>
              (.br (!v640) (
               .leaf false
              ) (
               (.br (!(true == false)) (
                .leaf false
               ) (
                (.call (laws_heldMatrix_g ([] : List Nat) (1 : Int)) fun v641 =>
                (.br (decide (v641 < (0 : Int))) (
                 .leaf false
                ) (
                 (.br (!decide (v641 = v616)) (
                  .leaf false
                 ) (
                  .leaf true
                 ))
                )))
               ))
              )))
             ))))
            ))
           ))))
          ))
         )))
        ))))
       ))))
      ))
     )))
    ) (fun v561 =>
     (.call (laws_eqMatrix_g v561.1 v561.2.1 v561.2.2 (0 : Int) (0 : Int) ([] : List Nat)) fun v642 =>
     (.br (!v642) (
      .leaf false
     ) (
      (.br (!(true == false)) (
       .leaf false
      ) (
       (.call (laws_toMatrix_g v1 v2 v3) fun v643 =>
       (.call (laws_eqMatrix_g v187.1 v187.2.1 v187.2.2 v643.1 v643.2.1 v643.2.2) fun v644 =>
       (.br (!v644) (
        .leaf false
       ) (
        (.call (laws_markMatrix_g v187.2.2 (1 : Int)) fun v645 =>
        (.grd (decide (v645.2.length = v187.2.2.length)) <|
        (.br (decide (v645.1 < (0 : Int))) (
         .leaf false
        ) (
         (.call (laws_eqMatrix_g v561.1 v561.2.1 v561.2.2 (0 : Int) (0 : Int) ([] : List Nat)) fun v646 =>
         (.br (!v646) (
          .leaf false
         ) (
          (.br (!(true == false)) (
           .leaf false
          ) (
           (.call (laws_markMatrix_g v561.2.2 (1 : Int)) fun v647 =>
           (.grd (decide (v647.2.length = v561.2.2.length)) <|
           (.call (laws_heldMatrix_g v647.2 (1 : Int)) fun v648 =>
           (.br (decide (v648 < (0 : Int))) (
            .leaf false
           ) (
            (.br (!decide (v648 = v647.1)) (
             .leaf false
            ) (
             (.call (laws_toMatrix_g v1 v2 v3) fun v649 =>
             (.call (impl_PowerMatrix_g v649.1 v649.2.1 v649.2.2 v4) fun v650 =>
             (.sum v650 (fun v651 =>
              (.call (laws_eqMatrix_g (0 : Int) (0 : Int) ([] : List Nat) (0 : Int) (0 : Int) ([] : List Nat)) fun v653 =>
              (.br (!v653) (
               .leaf false
              ) (
               (.br (!(false == false)) (
                .leaf false
               ) (
                (.call (laws_heldMatrix_g v647.2 (1 : Int)) fun v654 =>
                (.br (decide (v654 < (0 : Int))) (
                 .leaf false
                ) (
                 (.br (!decide (v654 = v647.1)) (
                  .leaf false
                 ) (
                  .leaf true
                 ))
                )))
               ))
              )))
             ) (fun v652 =>
              (.call (laws_eqMatrix_g v652.1 v652.2.1 v652.2.2 (0 : Int) (0 : Int) ([] : List Nat)) fun v655 =>
              (.br (!v655) (
               .leaf false
              ) (
               (.br (!(true == false)) (
                .leaf false
               ) (
                (.call (laws_heldMatrix_g v647.2 (1 : Int)) fun v656 =>
                (.br (decide (v656 < (0 : Int))) (
                 .leaf false
                ) (
                 (.br (!decide (v656 = v647.1)) (
                  .leaf false
                 ) (
                  .leaf true
                 ))
                )))
               ))
              )))
             ))))
            ))
           )))))
          ))
         )))
        ))))
       ))))
      ))
     )))
    ))))
   ) (fun v186 =>
    (.call (laws_toMatrix_g v1 v2 v3) fun v657 =>
    (.call (impl_PowerMatrix_g v657.1 v657.2.1 v657.2.2 v4) fun v658 =>
    (.sum v658 (fun v659 =>
     (.call (laws_eqMatrix_g (0 : Int) (0 : Int) ([] : List Nat) v186.1 v186.2.1 v186.2.2) fun v661 =>
     (.br (!v661) (
      .leaf false
     ) (
      (.br (!(false == true)) (
       .leaf false
      ) (
       (.call (laws_toMatrix_g v1 v2 v3) fun v662 =>
       (.call (laws_eqMatrix_g v657.1 v657.2.1 v657.2.2 v662.1 v662.2.1 v662.2.2) fun v663 =>
       (.br (!v663) (
        .leaf false
       ) (
        (.call (laws_markMatrix_g v657.2.2 (1 : Int)) fun v664 =>
        (.grd (decide (v664.2.length = v657.2.2.length)) <|
        (.br (decide (v664.1 < (0 : Int))) (
         .leaf false
        ) (
         (.call (laws_eqMatrix_g (0 : Int) (0 : Int) ([] : List Nat) v186.1 v186.2.1 v186.2.2) fun v665 =>
         (.br (!v665) (
          .leaf false
         ) (
          (.br (!(false == true)) (
           .leaf false
          ) (
           (.call (laws_markMatrix_i1_g (1 : Int)) fun v666 =>
           (.call (laws_heldMatrix_g ([] : List Nat) (1 : Int)) fun v667 =>
           (.br (decide (v667 < (0 : Int))) (
            .leaf false
           ) (
            (.br (!decide (v667 = v666)) (
             .leaf false
            ) (
             (.call (laws_toMatrix_g v1 v2 v3) fun v668 =>
             (.call (impl_PowerMatrix_g v668.1 v668.2.1 v668.2.2 v4) fun v669 =>
             (.sum v669 (fun v670 =>
              (.call (laws_eqMatrix_g (0 : Int) (0 : Int) ([] : List Nat) v186.1 v186.2.1 v186.2.2) fun v672 =>
              (.br (!v672) (
               .leaf false
              ) (
               (.br (!(false == true)) (
                .leaf false
               ) (
                (.call (laws_heldMatrix_g ([] : List Nat) (1 : Int)) fun v673 =>
                (.br (decide (v673 < (0 : Int))) (
                 .leaf false
                ) (
                 (.br (!decide (v673 = v666)) (
                  .leaf false
                 ) (
                  .leaf true
                 ))
                )))
               ))
              )))
             ) (fun v671 =>
              (.call (laws_eqMatrix_g v671.1 v671.2.1 v671.2.2 v186.1 v186.2.1 v186.2.2) fun v674 =>
              (.br (!v674) (
               .leaf false
              ) (
               (.br (!(true == true)) (
                .leaf false
               ) (
                (.call (laws_heldMatrix_g ([] : List Nat) (1 : Int)) fun v675 =>
                (.br (decide (v675 < (0 : Int))) (
                 .leaf false
                ) (
                 (.br (!decide (v675 = v666)) (
                  .leaf false
                 ) (
                  .leaf true
                 ))
                )))
               ))
              )))
             ))))
            ))
           ))))
          ))
         )))
        ))))
       ))))
      ))
     )))
    ) (fun v660 =>
     (.call (laws_eqMatrix_g v660.1 v660.2.1 v660.2.2 v186.1 v186.2.1 v186.2.2) fun v676 =>
     (.br (!v676) (
      .leaf false
     ) (
      (.br (!(true == true)) (
       .leaf false
      ) (
       (.call (laws_toMatrix_g v1 v2 v3) fun v677 =>
       (.call (laws_eqMatrix_g v657.1 v657.2.1 v657.2.2 v677.1 v677.2.1 v677.2.2) fun v678 =>
       (.br (!v678) (
        .leaf false
       ) (
        (.call (laws_markMatrix_g v657.2.2 (1 : Int)) fun v679 =>
        (.grd (decide (v679.2.length = v657.2.2.length)) <|
        (.br (decide (v679.1 < (0 : Int))) (
         .leaf false
        ) (
         (.call (laws_eqMatrix_g v660.1 v660.2.1 v660.2.2 v186.1 v186.2.1 v186.2.2) fun v680 =>
         (.br (!v680) (
          .leaf false
         ) (
          (.br (!(true == true)) (
           .leaf false
          ) (
           (.call (laws_markMatrix_g v660.2.2 (1 : Int)) fun v681 =>
           (.grd (decide (v681.2.length = v660.2.2.length)) <|
           (.call (laws_heldMatrix_g v681.2 (1 : Int)) fun v682 =>
           (.br (decide (v682 < (0 : Int))) (
            .leaf false
           ) (
            (.br (!decide (v682 = v681.1)) (
             .leaf false
            ) (
             (.call (laws_toMatrix_g v1 v2 v3) fun v683 =>
             (.call (impl_PowerMatrix_g v683.1 v683.2.1 v683.2.2 v4) fun v684 =>
             (.sum v684 (fun v685 =>
              (.call (laws_eqMatrix_g (0 : Int) (0 : Int) ([] : List Nat) v186.1 v186.2.1 v186.2.2) fun v687 =>
              (.br (!v687) (
               .leaf false
              ) (
               (.br (!(false == true)) (
                .leaf false
               ) (
                (.call (laws_heldMatrix_g v681.2 (1 : Int)) fun v688 =>
                (.br (decide (v688 < (0 : Int))) (
                 .leaf false
                ) (
                 (.br (!decide (v688 = v681.1)) (
                  .leaf false
                 ) (
                  .leaf true
                 ))
                )))
               ))
              )))
             ) (fun v686 =>
              (.call (laws_eqMatrix_g v686.1 v686.2.1 v686.2.2 v186.1 v186.2.1 v186.2.2) fun v689 =>
              (.br (!v689) (
               .leaf false
              ) (
               (.br (!(true == true)) (
                .leaf false
               ) (
                (.call (laws_heldMatrix_g v681.2 (1 : Int)) fun v690 =>
                (.br (decide (v690 < (0 : Int))) (
                 .leaf false
                ) (
                 (.br (!decide (v690 = v681.1)) (
                  .leaf false
                 ) (
                  .leaf true
                 ))
                )))
               ))
              )))
             ))))
            ))
           )))))
          ))
         )))
        ))))
       ))))
      ))
     )))
    ))))
   ))))
  ))

noncomputable def laws_FnExactPowerMatrix_g (v1 : Int) (v2 : Int) (v3 : List Nat) (v4 : Int) : Option (Bool) := (laws_FnExactPowerMatrix_T v1 v2 v3 v4).run
def laws_FnExactPowerMatrix_enc (v1 : Int) (v2 : Int) (v3 : List Nat) (v4 : Int) (y : Bool) : Rs := (.bool y, [])
theorem laws_FnExactPowerMatrix_den (v1 : Int) (v2 : Int) (v3 : List Nat) (v4 : Int) : (den TT (tabD laws_FnExactPowerMatrix_tab) (tabM laws_FnExactPowerMatrix_tab) (laws_FnExactPowerMatrix_LO v1 v2 v3 v4) (codeOf Try.f9) ([.agg [.int .i64 v1, .int .i64 v2, .bslc (BR.root 0) (.f32 v3)], .int .i64 v4] ++ List.replicate (Try.f9.ntmps - ([.agg [.int .i64 v1, .int .i64 v2, .bslc (BR.root 0) (.f32 v3)], .int .i64 v4] : List DV).length) .undef) []).bind (retD TT Try.f9.results.toList 0) = (laws_FnExactPowerMatrix_T v1 v2 v3 v4).bind fun y => .leaf (laws_FnExactPowerMatrix_enc v1 v2 v3 v4 y) := by kernel_rfl
theorem laws_FnExactPowerMatrix_fn (v1 : Int) (v2 : Int) (v3 : List Nat) (v4 : Int) (F : Fr) (hm : F.ids.length = 0) (h0 : St F [] F.H0) (hA : DVs.Ok F [] [.agg [.int .i64 v1, .int .i64 v2, .bslc (BR.root 0) (.f32 v3)], .int .i64 v4]) {y : Bool} (hy : laws_FnExactPowerMatrix_g v1 v2 v3 v4 = some y) : ∃ H', FnOk Try.prog 9 (DVs.av F [.agg [.int .i64 v1, .int .i64 v2, .bslc (BR.root 0) (.f32 v3)], .int .i64 v4]) F.H0 ((laws_FnExactPowerMatrix_enc v1 v2 v3 v4 y).1.av F) H' ∧ St F (laws_FnExactPowerMatrix_enc v1 v2 v3 v4 y).2 H' ∧ (laws_FnExactPowerMatrix_enc v1 v2 v3 v4 y).1.Ok F (laws_FnExactPowerMatrix_enc v1 v2 v3 v4 y).2 :=
  fn_fin tok laws_FnExactPowerMatrix_hO mixed Try.func9 Try.call9 (by kernel_rfl) (LoopsOk_eq (l := []) (by kernel_rfl) trivial) (laws_FnExactPowerMatrix_den v1 v2 v3 v4) hy hm h0 hA
noncomputable def laws_FnExactPowerMatrix_F : DFn := fun args L =>
  match args with
  | [.agg [.int .i64 v1, .int .i64 v2, a1], .int .i64 v4] =>
    optT (rowF32 L a1) fun v3 =>
    .call (laws_FnExactPowerMatrix_g v1 v2 v3 v4) fun y => .leaf (.bool y, L)
  | _ => .fail
theorem laws_FnExactPowerMatrix_Fok : COk Try.prog 9 laws_FnExactPowerMatrix_F true := by
  intro F L H args r L' hs ha hr
  unfold laws_FnExactPowerMatrix_F at hr
  split at hr
  · rename_i v1 v2 a1 v4
    obtain ⟨v3, hv3, hr⟩ := optT_run hr
    simp only [Tree.run] at hr
    obtain ⟨y, hy, hr⟩ := Option.bind_eq_some_iff.1 hr
    simp only [Tree.run, Option.some.injEq, Prod.mk.injEq] at hr
    obtain ⟨rfl, rfl⟩ := hr
    exact call_ok0 hs (fun k => (([a1.av F] : List AV)[k]?).getD .top) [.agg [.int .i64 v1, .int .i64 v2, a1], .int .i64 v4] [.agg [.int .i64 v1, .int .i64 v2, .bslc (BR.root 0) (.f32 v3)], .int .i64 v4] (fun F' h0 hi hρ => ⟨by simp [DVs.av, DV.av, BR.av, hρ], laws_FnExactPowerMatrix_fn v1 v2 v3 v4 F' (by rw [hi]; rfl) (st_nil hi) ⟨⟨trivial, trivial, bslc_ok hi (by rw [h0, hρ]; exact rowF32_ok hs (DVs.okAt (DVs.okAt ha 0 rfl) 2 rfl) hv3), trivial⟩, trivial, trivial⟩ hy⟩) rfl
  · cases hr
/-! laws.szFloat32S -/
noncomputable def laws_szFloat32S_len_LO (v699 : Nat) (v700 : Int) : LOr := fun id e L =>
  match id with
  | _ => .fail
noncomputable def laws_szFloat32S_len_tab : List (FuncId × DFn × Bool) := []
theorem laws_szFloat32S_len_hO : OrcOk Try.prog (tabD laws_szFloat32S_len_tab) (tabM laws_szFloat32S_len_tab) := tabD_nil _
noncomputable def laws_szFloat32S_len_T (v699 : Nat) (v700 : Int) : Tree (Int) :=
  (.br (decide (IntKind.i64.wrap (v700 - ((v699 : Nat) : Int)) < (0 : Int))) (
   .leaf (-1 : Int)
  ) (
   .leaf (IntKind.i64.wrap (v700 - ((v699 : Nat) : Int)))
  ))

noncomputable def laws_szFloat32S_len_g (v699 : Nat) (v700 : Int) : Option (Int) := (laws_szFloat32S_len_T v699 v700).run
def laws_szFloat32S_len_enc (v699 : Nat) (v700 : Int) (y : Int) : Rs := (.int .i64 y, [])
theorem laws_szFloat32S_len_den (v699 : Nat) (v700 : Int) : (den TT (tabD laws_szFloat32S_len_tab) (tabM laws_szFloat32S_len_tab) (laws_szFloat32S_len_LO v699 v700) (codeOf Try.f56) ([.hslc (BR.root 0) v699, .int .i64 v700] ++ List.replicate (Try.f56.ntmps - ([.hslc (BR.root 0) v699, .int .i64 v700] : List DV).length) .undef) []).bind (retD TT Try.f56.results.toList 0) = (laws_szFloat32S_len_T v699 v700).bind fun y => .leaf (laws_szFloat32S_len_enc v699 v700 y) := by kernel_rfl
theorem laws_szFloat32S_len_fn (v699 : Nat) (v700 : Int) (F : Fr) (hm : F.ids.length = 0) (h0 : St F [] F.H0) (hA : DVs.Ok F [] [.hslc (BR.root 0) v699, .int .i64 v700]) {y : Int} (hy : laws_szFloat32S_len_g v699 v700 = some y) : ∃ H', FnOk Try.prog 56 (DVs.av F [.hslc (BR.root 0) v699, .int .i64 v700]) F.H0 ((laws_szFloat32S_len_enc v699 v700 y).1.av F) H' ∧ St F (laws_szFloat32S_len_enc v699 v700 y).2 H' ∧ (laws_szFloat32S_len_enc v699 v700 y).1.Ok F (laws_szFloat32S_len_enc v699 v700 y).2 :=
  fn_fin tok laws_szFloat32S_len_hO mixed Try.func56 Try.call56 (by kernel_rfl) (LoopsOk_eq (l := []) (by kernel_rfl) trivial) (laws_szFloat32S_len_den v699 v700) hy hm h0 hA
def laws_szFloat32S_len_v (v699 : Nat) (v700 : Int) : Int :=
  if (decide (IntKind.i64.wrap (v700 - ((v699 : Nat) : Int)) < (0 : Int))) = true then (
   (-1 : Int)
  ) else (
   IntKind.i64.wrap (v700 - ((v699 : Nat) : Int))
  )
theorem laws_szFloat32S_len_tot (v699 : Nat) (v700 : Int) : laws_szFloat32S_len_g v699 v700 = some (laws_szFloat32S_len_v v699 v700) := by
  unfold laws_szFloat32S_len_g laws_szFloat32S_len_T laws_szFloat32S_len_v
  simp only [Tree.run]
  repeat' (first | rfl | split)
noncomputable def laws_szFloat32S_len_F : DFn := fun args L =>
  match args with
  | [a1, .int .i64 v700] =>
    optT (lenV L a1) fun v699 =>
    .leaf (.int .i64 (laws_szFloat32S_len_v v699 v700), L)
  | _ => .fail
theorem laws_szFloat32S_len_Fok : COk Try.prog 56 laws_szFloat32S_len_F true := by
  intro F L H args r L' hs ha hr
  unfold laws_szFloat32S_len_F at hr
  split at hr
  · rename_i a1 v700
    obtain ⟨v699, hv699, hr⟩ := optT_run hr
    have hy := laws_szFloat32S_len_tot v699 v700
    generalize laws_szFloat32S_len_v v699 v700 = y at hy hr
    simp only [Tree.run, Option.some.injEq, Prod.mk.injEq] at hr
    obtain ⟨rfl, rfl⟩ := hr
    exact call_ok0 hs (fun k => (([a1.av F] : List AV)[k]?).getD .top) [a1, .int .i64 v700] [.hslc (BR.root 0) v699, .int .i64 v700] (fun F' h0 hi hρ => ⟨by simp [DVs.av, DV.av, BR.av, hρ], laws_szFloat32S_len_fn v699 v700 F' (by rw [hi]; rfl) (st_nil hi) ⟨hslc_ok hi (by rw [h0, hρ]; exact lenV_ok hs (DVs.okAt ha 0 rfl) hv699), trivial, trivial⟩ hy⟩) rfl
  · cases hr
/-! laws.szMatrix -/
noncomputable def laws_szMatrix_len_LO (v695 : Int) (v696 : Int) (v697 : Nat) (v698 : Int) : LOr := fun id e L =>
  match id with
  | _ => .fail
noncomputable def laws_szMatrix_len_tab : List (FuncId × DFn × Bool) := [(56, laws_szFloat32S_len_F, true)]
theorem laws_szMatrix_len_hO : OrcOk Try.prog (tabD laws_szMatrix_len_tab) (tabM laws_szMatrix_len_tab) := tabD_cons laws_szFloat32S_len_Fok (tabD_nil _)
noncomputable def laws_szMatrix_len_T (v697 : Nat) (v698 : Int) : Tree (Int) :=
  (.br (decide ((laws_szFloat32S_len_v v697 v698) < (0 : Int))) (
   .leaf (-1 : Int)
  ) (
   .leaf (laws_szFloat32S_len_v v697 v698)
  ))

noncomputable def laws_szMatrix_len_g (v697 : Nat) (v698 : Int) : Option (Int) := (laws_szMatrix_len_T v697 v698).run
def laws_szMatrix_len_enc (v695 : Int) (v696 : Int) (v697 : Nat) (v698 : Int) (y : Int) : Rs := (.int .i64 y, [])
theorem laws_szMatrix_len_den (v695 : Int) (v696 : Int) (v697 : Nat) (v698 : Int) : (den TT (tabD laws_szMatrix_len_tab) (tabM laws_szMatrix_len_tab) (laws_szMatrix_len_LO v695 v696 v697 v698) (codeOf Try.f15) ([.agg [.int .i64 v695, .int .i64 v696, .hslc (BR.root 0) v697], .int .i64 v698] ++ List.replicate (Try.f15.ntmps - ([.agg [.int .i64 v695, .int .i64 v696, .hslc (BR.root 0) v697], .int .i64 v698] : List DV).length) .undef) []).bind (retD TT Try.f15.results.toList 0) = (laws_szMatrix_len_T v697 v698).bind fun y => .leaf (laws_szMatrix_len_enc v695 v696 v697 v698 y) := by kernel_rfl
theorem laws_szMatrix_len_fn (v695 : Int) (v696 : Int) (v697 : Nat) (v698 : Int) (F : Fr) (hm : F.ids.length = 0) (h0 : St F [] F.H0) (hA : DVs.Ok F [] [.agg [.int .i64 v695, .int .i64 v696, .hslc (BR.root 0) v697], .int .i64 v698]) {y : Int} (hy : laws_szMatrix_len_g v697 v698 = some y) : ∃ H', FnOk Try.prog 15 (DVs.av F [.agg [.int .i64 v695, .int .i64 v696, .hslc (BR.root 0) v697], .int .i64 v698]) F.H0 ((laws_szMatrix_len_enc v695 v696 v697 v698 y).1.av F) H' ∧ St F (laws_szMatrix_len_enc v695 v696 v697 v698 y).2 H' ∧ (laws_szMatrix_len_enc v695 v696 v697 v698 y).1.Ok F (laws_szMatrix_len_enc v695 v696 v697 v698 y).2 :=
  fn_fin tok laws_szMatrix_len_hO mixed Try.func15 Try.call15 (by kernel_rfl) (LoopsOk_eq (l := []) (by kernel_rfl) trivial) (laws_szMatrix_len_den v695 v696 v697 v698) hy hm h0 hA
def laws_szMatrix_len_v (v697 : Nat) (v698 : Int) : Int :=
  if (decide ((laws_szFloat32S_len_v v697 v698) < (0 : Int))) = true then (
   (-1 : Int)
  ) else (
   (laws_szFloat32S_len_v v697 v698)
  )
theorem laws_szMatrix_len_tot (v697 : Nat) (v698 : Int) : laws_szMatrix_len_g v697 v698 = some (laws_szMatrix_len_v v697 v698) := by
  unfold laws_szMatrix_len_g laws_szMatrix_len_T laws_szMatrix_len_v
  simp only [Tree.run]
  repeat' (first | rfl | split)
noncomputable def laws_szMatrix_len_F : DFn := fun args L =>
  match args with
  | [.agg [.int .i64 v695, .int .i64 v696, a1], .int .i64 v698] =>
    optT (lenV L a1) fun v697 =>
    .leaf (.int .i64 (laws_szMatrix_len_v v697 v698), L)
  | _ => .fail
theorem laws_szMatrix_len_Fok : COk Try.prog 15 laws_szMatrix_len_F true := by
  intro F L H args r L' hs ha hr
  unfold laws_szMatrix_len_F at hr
  split at hr
  · rename_i v695 v696 a1 v698
    obtain ⟨v697, hv697, hr⟩ := optT_run hr
    have hy := laws_szMatrix_len_tot v697 v698
    generalize laws_szMatrix_len_v v697 v698 = y at hy hr
    simp only [Tree.run, Option.some.injEq, Prod.mk.injEq] at hr
    obtain ⟨rfl, rfl⟩ := hr
    exact call_ok0 hs (fun k => (([a1.av F] : List AV)[k]?).getD .top) [.agg [.int .i64 v695, .int .i64 v696, a1], .int .i64 v698] [.agg [.int .i64 v695, .int .i64 v696, .hslc (BR.root 0) v697], .int .i64 v698] (fun F' h0 hi hρ => ⟨by simp [DVs.av, DV.av, BR.av, hρ], laws_szMatrix_len_fn v695 v696 v697 v698 F' (by rw [hi]; rfl) (st_nil hi) ⟨⟨trivial, trivial, hslc_ok hi (by rw [h0, hρ]; exact lenV_ok hs (DVs.okAt (DVs.okAt ha 0 rfl) 2 rfl) hv697), trivial⟩, trivial, trivial⟩ hy⟩) rfl
  · cases hr
/-! laws.FnExactPowerMatrix -/
noncomputable def laws_FnExactPowerMatrix_len_LO (v691 : Int) (v692 : Int) (v693 : Nat) (v694 : Int) : LOr := fun id e L =>
  match id with
  | _ => .fail
noncomputable def laws_FnExactPowerMatrix_len_tab : List (FuncId × DFn × Bool) := [(15, laws_szMatrix_len_F, true)]
theorem laws_FnExactPowerMatrix_len_hO : OrcOk Try.prog (tabD laws_FnExactPowerMatrix_len_tab) (tabM laws_FnExactPowerMatrix_len_tab) := tabD_cons laws_szMatrix_len_Fok (tabD_nil _)
noncomputable def laws_FnExactPowerMatrix_len_T (v693 : Nat) : Tree (Bool) :=
  (.br (decide ((laws_szMatrix_len_v v693 (1048576 : Int)) < (0 : Int))) (
   .leaf true
  ) (
   .fail
  ))

noncomputable def laws_FnExactPowerMatrix_len_g (v693 : Nat) : Option (Bool) := (laws_FnExactPowerMatrix_len_T v693).run
def laws_FnExactPowerMatrix_len_enc (v691 : Int) (v692 : Int) (v693 : Nat) (v694 : Int) (y : Bool) : Rs := (.bool y, [])
theorem laws_FnExactPowerMatrix_len_den (v691 : Int) (v692 : Int) (v693 : Nat) (v694 : Int) : (den TT (tabD laws_FnExactPowerMatrix_len_tab) (tabM laws_FnExactPowerMatrix_len_tab) (laws_FnExactPowerMatrix_len_LO v691 v692 v693 v694) (codeOf Try.f9) ([.agg [.int .i64 v691, .int .i64 v692, .hslc (BR.root 0) v693], .int .i64 v694] ++ List.replicate (Try.f9.ntmps - ([.agg [.int .i64 v691, .int .i64 v692, .hslc (BR.root 0) v693], .int .i64 v694] : List DV).length) .undef) []).bind (retD TT Try.f9.results.toList 0) = (laws_FnExactPowerMatrix_len_T v693).bind fun y => .leaf (laws_FnExactPowerMatrix_len_enc v691 v692 v693 v694 y) := by kernel_rfl
theorem laws_FnExactPowerMatrix_len_fn (v691 : Int) (v692 : Int) (v693 : Nat) (v694 : Int) (F : Fr) (hm : F.ids.length = 0) (h0 : St F [] F.H0) (hA : DVs.Ok F [] [.agg [.int .i64 v691, .int .i64 v692, .hslc (BR.root 0) v693], .int .i64 v694]) {y : Bool} (hy : laws_FnExactPowerMatrix_len_g v693 = some y) : ∃ H', FnOk Try.prog 9 (DVs.av F [.agg [.int .i64 v691, .int .i64 v692, .hslc (BR.root 0) v693], .int .i64 v694]) F.H0 ((laws_FnExactPowerMatrix_len_enc v691 v692 v693 v694 y).1.av F) H' ∧ St F (laws_FnExactPowerMatrix_len_enc v691 v692 v693 v694 y).2 H' ∧ (laws_FnExactPowerMatrix_len_enc v691 v692 v693 v694 y).1.Ok F (laws_FnExactPowerMatrix_len_enc v691 v692 v693 v694 y).2 :=
  fn_fin tok laws_FnExactPowerMatrix_len_hO mixed Try.func9 Try.call9 (by kernel_rfl) (LoopsOk_eq (l := []) (by kernel_rfl) trivial) (laws_FnExactPowerMatrix_len_den v691 v692 v693 v694) hy hm h0 hA
noncomputable def laws_FnExactPowerMatrix_len_F : DFn := fun args L =>
  match args with
  | [.agg [.int .i64 v691, .int .i64 v692, a1], .int .i64 v694] =>
    optT (lenV L a1) fun v693 =>
    .call (laws_FnExactPowerMatrix_len_g v693) fun y => .leaf (.bool y, L)
  | _ => .fail
theorem laws_FnExactPowerMatrix_len_Fok : COk Try.prog 9 laws_FnExactPowerMatrix_len_F true := by
  intro F L H args r L' hs ha hr
  unfold laws_FnExactPowerMatrix_len_F at hr
  split at hr
  · rename_i v691 v692 a1 v694
    obtain ⟨v693, hv693, hr⟩ := optT_run hr
    simp only [Tree.run] at hr
    obtain ⟨y, hy, hr⟩ := Option.bind_eq_some_iff.1 hr
    simp only [Tree.run, Option.some.injEq, Prod.mk.injEq] at hr
    obtain ⟨rfl, rfl⟩ := hr
    exact call_ok0 hs (fun k => (([a1.av F] : List AV)[k]?).getD .top) [.agg [.int .i64 v691, .int .i64 v692, a1], .int .i64 v694] [.agg [.int .i64 v691, .int .i64 v692, .hslc (BR.root 0) v693], .int .i64 v694] (fun F' h0 hi hρ => ⟨by simp [DVs.av, DV.av, BR.av, hρ], laws_FnExactPowerMatrix_len_fn v691 v692 v693 v694 F' (by rw [hi]; rfl) (st_nil hi) ⟨⟨trivial, trivial, hslc_ok hi (by rw [h0, hρ]; exact lenV_ok hs (DVs.okAt (DVs.okAt ha 0 rfl) 2 rfl) hv693), trivial⟩, trivial, trivial⟩ hy⟩) rfl
  · cases hr
end Go.Proofs.Ytooakheodgndaaa.AM
