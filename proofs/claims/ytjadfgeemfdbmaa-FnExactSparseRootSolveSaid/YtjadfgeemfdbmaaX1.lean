/- Functions: what they come to. -/
import Derived.Test.YtjadfgeemfdbmaaX0
set_option maxRecDepth 100000
set_option maxHeartbeats 4000000
set_option linter.unusedSimpArgs false
set_option linter.unusedVariables false
namespace Go.Proofs.Ytjadfgeemfdbmaa.AM
open Go.Proofs
/-! impl.ValidSparse -/
noncomputable def impl_ValidSparse_l2_T (v234 : List Int) (v235 : List Int) (v316 : Int) (s : Int) : Tree ((Int) ⊕ ((Unit) ⊕ (Unit))) :=
  (.grd (inb (IntKind.i64.wrap (v316 + (1 : Int))) v234.length) <|
  (.br (decide (s < nth v234 (Int.toNat (IntKind.i64.wrap (v316 + (1 : Int)))))) (
   (.grd (inb (IntKind.i64.wrap (s - (1 : Int))) v235.length) <|
   (.grd (inb s v235.length) <|
   (.br (decide (nth v235 (Int.toNat s) ≤ nth v235 (Int.toNat (IntKind.i64.wrap (s - (1 : Int)))))) (
    .leaf (.inr (.inl ()))
   ) (
    .leaf (.inl (IntKind.i64.wrap (s + (1 : Int))))
   ))))
  ) (
   .leaf (.inr (.inr ()))
  )))

noncomputable def impl_ValidSparse_l2_g (v234 : List Int) (v235 : List Int) (v316 : Int) (s0 : Int) : Option ((Unit) ⊕ (Unit)) := whileM (fun s => (impl_ValidSparse_l2_T v234 v235 v316 s).run) s0
def impl_ValidSparse_l2_E (v233 : Int) (v234 : List Int) (v235 : List Int) (v236 : List Nat) (v316 : Int) (s : Int) : Sd := ([.top, .ptr 0 (0 : Nat) 0 (4 : Nat), .top, .top, .int .i64 v316, .int .i64 s, .top, .top, .top, .top, .top, .top, .top, .top, .top, .top, .top, .top, .top, .top, .top, .top, .top, .top, .top, .top, .top, .top, .top, .top, .top, .top, .top, .top, .top, .top, .top, .top, .top, .top, .top, .top, .top, .top, .top, .top, .top, .top, .top, .top, .top, .top, .top, .top, .top, .top, .top, .top, .top, .top, .top, .top, .top, .top, .top, .top, .top, .top, .top, .top, .top, .top, .int .i64 v233, .int .i64 v316, .top, .top, .top, .top, .top, .top, .top, .top, .top, .top, .top, .top, .top, .top, .top, .top, .top, .top, .top, .top, .top, .top, .top, .top, .top, .top, .top, .top, .top, .top, .top], [.gen [.int .i64 v233, .bslc (BR.root 0) (.i64 v234), .bslc (BR.root 1) (.i64 v235), .bslc (BR.root 2) (.f32 v236)] false 0])
def impl_ValidSparse_l2_X (v233 : Int) (v234 : List Int) (v235 : List Int) (v236 : List Nat) (v316 : Int) (x : (Unit) ⊕ (Unit)) : Out := (match x with | .inl x => (.ret, [.top, .top, .lit false, .top, .top, .top, .top, .top, .top, .top, .top, .top, .top, .top, .top, .top, .top, .top, .top, .top, .top, .top, .top, .top, .top, .top, .top, .top, .top, .top, .top, .top, .top, .top, .top, .top, .top, .top, .top, .top, .top, .top, .top, .top, .top, .top, .top, .top, .top, .top, .top, .top, .top, .top, .top, .top, .top, .top, .top, .top, .top, .top, .top, .top, .top, .top, .top, .top, .top, .top, .top, .top, .top, .top, .top, .top, .top, .top, .top, .top, .top, .top, .top, .top, .top, .top, .top, .top, .top, .top, .top, .top, .top, .top, .top, .top, .top, .top, .top, .top, .top, .top, .top, .top, .top], []) | .inr x => (.normal, [.top, .ptr 0 (0 : Nat) 0 (4 : Nat), .top, .top, .top, .top, .top, .top, .top, .top, .top, .top, .top, .top, .top, .top, .top, .top, .top, .top, .top, .top, .top, .top, .top, .top, .top, .top, .top, .top, .top, .top, .top, .top, .top, .top, .top, .top, .top, .top, .top, .top, .top, .top, .top, .top, .top, .top, .top, .top, .top, .top, .top, .top, .top, .top, .top, .top, .top, .top, .top, .top, .top, .top, .top, .top, .top, .top, .top, .top, .top, .top, .int .i64 v233, .int .i64 v316, .top, .top, .top, .top, .top, .top, .top, .top, .top, .top, .top, .top, .top, .top, .top, .top, .top, .top, .top, .top, .top, .top, .top, .top, .top, .top, .top, .top, .top, .top, .top], [.gen [.int .i64 v233, .bslc (BR.root 0) (.i64 v234), .bslc (BR.root 1) (.i64 v235), .bslc (BR.root 2) (.f32 v236)] false 0]))
def impl_ValidSparse_l2_kill : List Nat := [1, 0, 1, 1, 0, 0, 1, 1, 1, 1, 1, 1, 1, 1, 1, 1, 1, 1, 1, 1, 1, 1, 1, 1, 1, 1, 1, 1, 1, 1, 1, 1, 1, 1, 1, 1, 1, 1, 1, 1, 1, 1, 1, 1, 1, 1, 1, 1, 1, 1, 1, 1, 1, 1, 1, 1, 1, 1, 1, 1, 1, 1, 1, 1, 1, 1, 1, 1, 1, 1, 1, 1, 0, 0, 1, 1, 1, 1, 1, 1, 1, 1, 1, 1, 1, 1, 1, 1, 1, 1, 1, 1, 1, 1, 1, 1, 1, 1, 1, 1, 1, 1, 1, 1, 1]
def impl_ValidSparse_l2_nx : Exit → List Nat
  | .exit 0 => [1, 1, 1, 1, 1, 1, 1, 1, 1, 1, 1, 1, 1, 1, 1, 1, 1, 1, 1, 1, 1, 1, 1, 1, 1, 1, 1, 1, 1, 1, 1, 1, 1, 1, 1, 1, 1, 1, 1, 1, 1, 1, 1, 1, 1, 1, 1, 1, 1, 1, 1, 1, 1, 1, 1, 1, 1, 1, 1, 1, 1, 1, 1, 1, 1, 1, 1, 1, 1, 1, 1, 1, 1, 1, 1, 1, 1, 1, 1, 1, 1, 1, 1, 1, 1, 1, 1, 1, 1, 1, 1, 1, 1, 1, 1, 1, 1, 1, 1, 1, 1, 1, 1, 1, 1]
  | .exit 1 => [1, 0, 1, 1, 1, 1, 1, 1, 1, 1, 1, 1, 1, 1, 1, 1, 1, 1, 1, 1, 1, 1, 1, 1, 1, 1, 1, 1, 1, 1, 1, 1, 1, 1, 1, 1, 1, 1, 1, 1, 1, 1, 1, 1, 1, 1, 1, 1, 1, 1, 1, 1, 1, 1, 1, 1, 1, 1, 1, 1, 1, 1, 1, 1, 1, 1, 1, 1, 1, 1, 1, 1, 0, 0, 1, 1, 1, 1, 1, 1, 1, 1, 1, 1, 1, 1, 1, 1, 1, 1, 1, 1, 1, 1, 1, 1, 1, 1, 1, 1, 1, 1, 1, 1, 1]
  | .exit 2 => [1, 0, 1, 1, 1, 1, 1, 1, 1, 1, 1, 1, 1, 1, 1, 1, 1, 1, 1, 1, 1, 1, 1, 1, 1, 1, 1, 1, 1, 1, 1, 1, 1, 1, 1, 1, 1, 1, 1, 1, 1, 1, 1, 1, 1, 1, 1, 1, 1, 1, 1, 1, 1, 1, 1, 1, 1, 1, 1, 1, 1, 1, 1, 1, 1, 1, 1, 1, 1, 1, 1, 1, 0, 0, 1, 1, 1, 1, 1, 1, 1, 1, 1, 1, 1, 1, 1, 1, 1, 1, 1, 1, 1, 1, 1, 1, 1, 1, 1, 1, 1, 1, 1, 1, 1]
  | .ret => [1, 1, 0, 1, 1, 1, 1, 1, 1, 1, 1, 1, 1, 1, 1, 1, 1, 1, 1, 1, 1, 1, 1, 1, 1, 1, 1, 1, 1, 1, 1, 1, 1, 1, 1, 1, 1, 1, 1, 1, 1, 1, 1, 1, 1, 1, 1, 1, 1, 1, 1, 1, 1, 1, 1, 1, 1, 1, 1, 1, 1, 1, 1, 1, 1, 1, 1, 1, 1, 1, 1, 1, 1, 1, 1, 1, 1, 1, 1, 1, 1, 1, 1, 1, 1, 1, 1, 1, 1, 1, 1, 1, 1, 1, 1, 1, 1, 1, 1, 1, 1, 1, 1, 1, 1]
  | _ => []
noncomputable def impl_ValidSparse_l0_T (v233 : Int) (v234 : List Int) (v235 : List Int) (v236 : List Nat) (s : Int) : Tree ((Int) ⊕ ((Unit) ⊕ (Unit))) :=
  (.br (decide (s < v233)) (
   (.grd (inb s v234.length) <|
   (.need (some (impl_ValidSparse_l2_E v233 v234 v235 v236 s (IntKind.i64.wrap ((nth v234 (Int.toNat s)) + (1 : Int)))) = some (impl_ValidSparse_l2_E v233 v234 v235 v236 s (IntKind.i64.wrap ((nth v234 (Int.toNat s)) + (1 : Int))))) <|
   (.call (impl_ValidSparse_l2_g v234 v235 s (IntKind.i64.wrap ((nth v234 (Int.toNat s)) + (1 : Int)))) fun v318 =>
   (.sum v318 (fun v319 =>
    .leaf (.inr (.inl ()))
   ) (fun v320 =>
    .leaf (.inl (IntKind.i64.wrap (s + (1 : Int))))
   )))))
  ) (
   .leaf (.inr (.inr ()))
  ))

noncomputable def impl_ValidSparse_l0_g (v233 : Int) (v234 : List Int) (v235 : List Int) (v236 : List Nat) (s0 : Int) : Option ((Unit) ⊕ (Unit)) := whileM (fun s => (impl_ValidSparse_l0_T v233 v234 v235 v236 s).run) s0
def impl_ValidSparse_l0_E (v233 : Int) (v234 : List Int) (v235 : List Int) (v236 : List Nat) (s : Int) : Sd := ([.top, .ptr 0 (0 : Nat) 0 (4 : Nat), .top, .top, .top, .top, .top, .top, .top, .top, .top, .top, .top, .top, .top, .top, .top, .top, .top, .top, .top, .top, .top, .top, .top, .top, .top, .top, .top, .top, .top, .top, .top, .top, .top, .top, .top, .top, .top, .top, .top, .top, .top, .top, .top, .top, .top, .top, .top, .top, .top, .top, .top, .top, .top, .top, .top, .top, .top, .top, .top, .top, .top, .top, .top, .top, .top, .top, .top, .top, .top, .top, .int .i64 v233, .int .i64 s, .top, .top, .top, .top, .top, .top, .top, .top, .top, .top, .top, .top, .top, .top, .top, .top, .top, .top, .top, .top, .top, .top, .top, .top, .top, .top, .top, .top, .top, .top, .top], [.gen [.int .i64 v233, .bslc (BR.root 0) (.i64 v234), .bslc (BR.root 1) (.i64 v235), .bslc (BR.root 2) (.f32 v236)] false 0])
def impl_ValidSparse_l0_X (v233 : Int) (v234 : List Int) (v235 : List Int) (v236 : List Nat) (x : (Unit) ⊕ (Unit)) : Out := (match x with | .inl x => (.ret, [.top, .top, .lit false, .top, .top, .top, .top, .top, .top, .top, .top, .top, .top, .top, .top, .top, .top, .top, .top, .top, .top, .top, .top, .top, .top, .top, .top, .top, .top, .top, .top, .top, .top, .top, .top, .top, .top, .top, .top, .top, .top, .top, .top, .top, .top, .top, .top, .top, .top, .top, .top, .top, .top, .top, .top, .top, .top, .top, .top, .top, .top, .top, .top, .top, .top, .top, .top, .top, .top, .top, .top, .top, .top, .top, .top, .top, .top, .top, .top, .top, .top, .top, .top, .top, .top, .top, .top, .top, .top, .top, .top, .top, .top, .top, .top, .top, .top, .top, .top, .top, .top, .top, .top, .top, .top], []) | .inr x => (.normal, [.top, .top, .top, .top, .top, .top, .top, .top, .top, .top, .top, .top, .top, .top, .top, .top, .top, .top, .top, .top, .top, .top, .top, .top, .top, .top, .top, .top, .top, .top, .top, .top, .top, .top, .top, .top, .top, .top, .top, .top, .top, .top, .top, .top, .top, .top, .top, .top, .top, .top, .top, .top, .top, .top, .top, .top, .top, .top, .top, .top, .top, .top, .top, .top, .top, .top, .top, .top, .top, .top, .top, .top, .top, .top, .top, .top, .top, .top, .top, .top, .top, .top, .top, .top, .top, .top, .top, .top, .top, .top, .top, .top, .top, .top, .top, .top, .top, .top, .top, .top, .top, .top, .top, .top, .top], []))
def impl_ValidSparse_l0_kill : List Nat := [1, 0, 1, 1, 1, 1, 1, 1, 1, 1, 1, 1, 1, 1, 1, 1, 1, 1, 1, 1, 1, 1, 1, 1, 1, 1, 1, 1, 1, 1, 1, 1, 1, 1, 1, 1, 1, 1, 1, 1, 1, 1, 1, 1, 1, 1, 1, 1, 1, 1, 1, 1, 1, 1, 1, 1, 1, 1, 1, 1, 1, 1, 1, 1, 1, 1, 1, 1, 1, 1, 1, 1, 0, 0, 1, 1, 1, 1, 1, 1, 1, 1, 1, 1, 1, 1, 1, 1, 1, 1, 1, 1, 1, 1, 1, 1, 1, 1, 1, 1, 1, 1, 1, 1, 1]
def impl_ValidSparse_l0_nx : Exit → List Nat
  | .exit 0 => [1, 1, 1, 1, 1, 1, 1, 1, 1, 1, 1, 1, 1, 1, 1, 1, 1, 1, 1, 1, 1, 1, 1, 1, 1, 1, 1, 1, 1, 1, 1, 1, 1, 1, 1, 1, 1, 1, 1, 1, 1, 1, 1, 1, 1, 1, 1, 1, 1, 1, 1, 1, 1, 1, 1, 1, 1, 1, 1, 1, 1, 1, 1, 1, 1, 1, 1, 1, 1, 1, 1, 1, 1, 1, 1, 1, 1, 1, 1, 1, 1, 1, 1, 1, 1, 1, 1, 1, 1, 1, 1, 1, 1, 1, 1, 1, 1, 1, 1, 1, 1, 1, 1, 1, 1]
  | .ret => [1, 1, 0, 1, 1, 1, 1, 1, 1, 1, 1, 1, 1, 1, 1, 1, 1, 1, 1, 1, 1, 1, 1, 1, 1, 1, 1, 1, 1, 1, 1, 1, 1, 1, 1, 1, 1, 1, 1, 1, 1, 1, 1, 1, 1, 1, 1, 1, 1, 1, 1, 1, 1, 1, 1, 1, 1, 1, 1, 1, 1, 1, 1, 1, 1, 1, 1, 1, 1, 1, 1, 1, 1, 1, 1, 1, 1, 1, 1, 1, 1, 1, 1, 1, 1, 1, 1, 1, 1, 1, 1, 1, 1, 1, 1, 1, 1, 1, 1, 1, 1, 1, 1, 1, 1]
  | _ => []
noncomputable def impl_ValidSparse_LO (v233 : Int) (v234 : List Int) (v235 : List Int) (v236 : List Nat) : LOr := fun id e L =>
  match id with
  | 2 => .need (normA 0 impl_ValidSparse_l2_kill e L = some (impl_ValidSparse_l2_E v233 v234 v235 v236 (gI (vAt e 4)) (gI (vAt e 5)))) (.call (impl_ValidSparse_l2_g v234 v235 (gI (vAt e 4)) (gI (vAt e 5))) fun x => .sum x (fun b0 => .leaf (impl_ValidSparse_l2_X v233 v234 v235 v236 (gI (vAt e 4)) (.inl b0))) (fun c0 => .leaf (impl_ValidSparse_l2_X v233 v234 v235 v236 (gI (vAt e 4)) (.inr c0))))
  | 0 => .need (normA 0 impl_ValidSparse_l0_kill e L = some (impl_ValidSparse_l0_E v233 v234 v235 v236 (gI (vAt e 73)))) (.call (impl_ValidSparse_l0_g v233 v234 v235 v236 (gI (vAt e 73))) fun x => .sum x (fun b0 => .leaf (impl_ValidSparse_l0_X v233 v234 v235 v236 (.inl b0))) (fun c0 => .leaf (impl_ValidSparse_l0_X v233 v234 v235 v236 (.inr c0))))
  | _ => .fail
noncomputable def impl_ValidSparse_tab : List (FuncId × DFn × Bool) := [(109, impl_lengthI_F, true), (72, impl_inRange_F, true), (162, slices_IsSortedI_F, true), (163, impl_allIn_F, true), (135, impl_areFinite_F, true)]
theorem impl_ValidSparse_hO : OrcOk Try.prog (tabD impl_ValidSparse_tab) (tabM impl_ValidSparse_tab) := tabD_cons impl_lengthI_Fok (tabD_cons impl_inRange_Fok (tabD_cons slices_IsSortedI_Fok (tabD_cons impl_allIn_Fok (tabD_cons impl_areFinite_Fok (tabD_nil _)))))
theorem impl_ValidSparse_l2_be (v233 : Int) (v234 : List Int) (v235 : List Int) (v236 : List Nat) (v316 : Int) (s : Int) : bodyT TT (tabD impl_ValidSparse_tab) (tabM impl_ValidSparse_tab) (impl_ValidSparse_LO v233 v234 v235 v236) 0 impl_ValidSparse_l2_kill impl_ValidSparse_l2_nx (bodyOf Try.f132 2) 2 (impl_ValidSparse_l2_E v233 v234 v235 v236 v316 s) = (impl_ValidSparse_l2_T v234 v235 v316 s).bind fun y => .leaf (outS (impl_ValidSparse_l2_E v233 v234 v235 v236 v316) (impl_ValidSparse_l2_X v233 v234 v235 v236 v316) y) := by kernel_rfl
theorem impl_ValidSparse_l2_ok (v233 : Int) (v234 : List Int) (v235 : List Int) (v236 : List Nat) : LSound Try.prog 0 (impl_ValidSparse_LO v233 v234 v235 v236) 2 (bodyOf Try.f132 2) := by
  intro e L out h
  exact lo_ok (E := impl_ValidSparse_l2_E v233 v234 v235 v236 (gI (vAt e 4))) (gT := impl_ValidSparse_l2_T v234 v235 (gI (vAt e 4))) (X := impl_ValidSparse_l2_X v233 v234 v235 v236 (gI (vAt e 4))) (s0 := (gI (vAt e 5))) tok impl_ValidSparse_hO mixed (LoopsOk_eq (l := []) (by kernel_rfl) trivial) (impl_ValidSparse_l2_be v233 v234 v235 v236 (gI (vAt e 4))) rfl (by intro x; (cases x with | inl b => rfl | inr x => exact rfl)) h
theorem impl_ValidSparse_l0_be (v233 : Int) (v234 : List Int) (v235 : List Int) (v236 : List Nat) (s : Int) : bodyT TT (tabD impl_ValidSparse_tab) (tabM impl_ValidSparse_tab) (impl_ValidSparse_LO v233 v234 v235 v236) 0 impl_ValidSparse_l0_kill impl_ValidSparse_l0_nx (bodyOf Try.f132 0) 0 (impl_ValidSparse_l0_E v233 v234 v235 v236 s) = (impl_ValidSparse_l0_T v233 v234 v235 v236 s).bind fun y => .leaf (outS (impl_ValidSparse_l0_E v233 v234 v235 v236) (impl_ValidSparse_l0_X v233 v234 v235 v236) y) := by kernel_rfl
theorem impl_ValidSparse_l0_ok (v233 : Int) (v234 : List Int) (v235 : List Int) (v236 : List Nat) : LSound Try.prog 0 (impl_ValidSparse_LO v233 v234 v235 v236) 0 (bodyOf Try.f132 0) := by
  intro e L out h
  exact lo_ok (E := impl_ValidSparse_l0_E v233 v234 v235 v236) (gT := impl_ValidSparse_l0_T v233 v234 v235 v236) (X := impl_ValidSparse_l0_X v233 v234 v235 v236) (s0 := (gI (vAt e 73))) tok impl_ValidSparse_hO mixed (LoopsOk_eq (l := [(2, bodyOf Try.f132 2)]) (by kernel_rfl) ⟨impl_ValidSparse_l2_ok v233 v234 v235 v236, trivial⟩) (impl_ValidSparse_l0_be v233 v234 v235 v236) rfl (by intro x; (cases x with | inl b => rfl | inr x => exact rfl)) h
noncomputable def impl_ValidSparse_T (v233 : Int) (v234 : List Int) (v235 : List Int) (v236 : List Nat) : Tree (Bool) :=
  (.br (!(impl_inRange_v v233 (1 : Int) (32 : Int))) (
   .leaf false
  ) (
   (.br (!decide ((impl_lengthI_v v234) = IntKind.i64.wrap (v233 + (1 : Int)))) (
    .leaf false
   ) (
    (.br (decide ((512 : Int) < (impl_lengthI_v v235))) (
     .leaf false
    ) (
     (.br (!decide (((v236.length : Nat) : Int) = ((v235.length : Nat) : Int))) (
      .leaf false
     ) (
      (.grd (inb (0 : Int) v234.length) <|
      (.br (!decide (nth v234 (Int.toNat (0 : Int)) = (0 : Int))) (
       .leaf false
      ) (
       (.grd (inb v233 v234.length) <|
       (.br (!decide (nth v234 (Int.toNat v233) = (impl_lengthI_v v235))) (
        .leaf false
       ) (
        (.call (slices_IsSortedI_g v234) fun v251 =>
        (.br (!v251) (
         .leaf false
        ) (
         (.call (impl_allIn_g v235 (0 : Int) (IntKind.i64.wrap (v233 - (1 : Int)))) fun v272 =>
         (.br (!v272) (
          .leaf false
         ) (
          (.call (impl_areFinite_g v236) fun v290 =>
          (.br (!v290) (
           .leaf false
          ) (
           (.need (some (impl_ValidSparse_l0_E v233 v234 v235 v236 (0 : Int)) = some (impl_ValidSparse_l0_E v233 v234 v235 v236 (0 : Int))) <|
           (.call (impl_ValidSparse_l0_g v233 v234 v235 v236 (0 : Int)) fun v321 =>
           (.sum v321 (fun v322 =>
            .leaf false
           ) (fun v323 =>
            .leaf true
           ))))
          )))
         )))
        )))
       )))
      )))
     ))
    ))
   ))
  ))

noncomputable def impl_ValidSparse_g (v233 : Int) (v234 : List Int) (v235 : List Int) (v236 : List Nat) : Option (Bool) := (impl_ValidSparse_T v233 v234 v235 v236).run
def impl_ValidSparse_enc (v233 : Int) (v234 : List Int) (v235 : List Int) (v236 : List Nat) (y : Bool) : Rs := (.bool y, [])
theorem impl_ValidSparse_den (v233 : Int) (v234 : List Int) (v235 : List Int) (v236 : List Nat) : (den TT (tabD impl_ValidSparse_tab) (tabM impl_ValidSparse_tab) (impl_ValidSparse_LO v233 v234 v235 v236) (codeOf Try.f132) ([.agg [.int .i64 v233, .bslc (BR.root 0) (.i64 v234), .bslc (BR.root 1) (.i64 v235), .bslc (BR.root 2) (.f32 v236)]] ++ List.replicate (Try.f132.ntmps - ([.agg [.int .i64 v233, .bslc (BR.root 0) (.i64 v234), .bslc (BR.root 1) (.i64 v235), .bslc (BR.root 2) (.f32 v236)]] : List DV).length) .undef) []).bind (retD TT Try.f132.results.toList 0) = (impl_ValidSparse_T v233 v234 v235 v236).bind fun y => .leaf (impl_ValidSparse_enc v233 v234 v235 v236 y) := by kernel_rfl
theorem impl_ValidSparse_fn (v233 : Int) (v234 : List Int) (v235 : List Int) (v236 : List Nat) (F : Fr) (hm : F.ids.length = 0) (h0 : St F [] F.H0) (hA : DVs.Ok F [] [.agg [.int .i64 v233, .bslc (BR.root 0) (.i64 v234), .bslc (BR.root 1) (.i64 v235), .bslc (BR.root 2) (.f32 v236)]]) {y : Bool} (hy : impl_ValidSparse_g v233 v234 v235 v236 = some y) : ∃ H', FnOk Try.prog 132 (DVs.av F [.agg [.int .i64 v233, .bslc (BR.root 0) (.i64 v234), .bslc (BR.root 1) (.i64 v235), .bslc (BR.root 2) (.f32 v236)]]) F.H0 ((impl_ValidSparse_enc v233 v234 v235 v236 y).1.av F) H' ∧ St F (impl_ValidSparse_enc v233 v234 v235 v236 y).2 H' ∧ (impl_ValidSparse_enc v233 v234 v235 v236 y).1.Ok F (impl_ValidSparse_enc v233 v234 v235 v236 y).2 :=
  fn_fin tok impl_ValidSparse_hO mixed Try.func132 Try.call132 (by kernel_rfl) (LoopsOk_eq (l := [(0, bodyOf Try.f132 0)]) (by kernel_rfl) ⟨impl_ValidSparse_l0_ok v233 v234 v235 v236, trivial⟩) (impl_ValidSparse_den v233 v234 v235 v236) hy hm h0 hA
noncomputable def impl_ValidSparse_F : DFn := fun args L =>
  match args with
  | [.agg [.int .i64 v233, a1, a2, a3]] =>
    optT (rowI64 L a1) fun v234 =>
    optT (rowI64 L a2) fun v235 =>
    optT (rowF32 L a3) fun v236 =>
    .call (impl_ValidSparse_g v233 v234 v235 v236) fun y => .leaf (.bool y, L)
  | _ => .fail
theorem impl_ValidSparse_Fok : COk Try.prog 132 impl_ValidSparse_F true := by
  intro F L H args r L' hs ha hr
  unfold impl_ValidSparse_F at hr
  split at hr
  · rename_i v233 a1 a2 a3
    obtain ⟨v234, hv234, hr⟩ := optT_run hr
    obtain ⟨v235, hv235, hr⟩ := optT_run hr
    obtain ⟨v236, hv236, hr⟩ := optT_run hr
    simp only [Tree.run] at hr
    obtain ⟨y, hy, hr⟩ := Option.bind_eq_some_iff.1 hr
    simp only [Tree.run, Option.some.injEq, Prod.mk.injEq] at hr
    obtain ⟨rfl, rfl⟩ := hr
    exact call_ok0 hs (fun k => (([a1.av F, a2.av F, a3.av F] : List AV)[k]?).getD .top) [.agg [.int .i64 v233, a1, a2, a3]] [.agg [.int .i64 v233, .bslc (BR.root 0) (.i64 v234), .bslc (BR.root 1) (.i64 v235), .bslc (BR.root 2) (.f32 v236)]] (fun F' h0 hi hρ => ⟨by simp [DVs.av, DV.av, BR.av, hρ], impl_ValidSparse_fn v233 v234 v235 v236 F' (by rw [hi]; rfl) (st_nil hi) ⟨⟨trivial, bslc_ok hi (by rw [h0, hρ]; exact rowI64_ok hs (DVs.okAt (DVs.okAt ha 0 rfl) 1 rfl) hv234), bslc_ok hi (by rw [h0, hρ]; exact rowI64_ok hs (DVs.okAt (DVs.okAt ha 0 rfl) 2 rfl) hv235), bslc_ok hi (by rw [h0, hρ]; exact rowF32_ok hs (DVs.okAt (DVs.okAt ha 0 rfl) 3 rfl) hv236), trivial⟩, trivial⟩ hy⟩) rfl
  · cases hr
/-! impl.isLowerRoot -/
noncomputable def impl_isLowerRoot_l0_T (v229 : Int) (v230 : List Int) (v231 : List Int) (v232 : List Nat) (s : Int) : Tree ((Int) ⊕ ((Unit) ⊕ (Unit))) :=
  (.br (decide (s < v229)) (
   (.grd (inb (IntKind.i64.wrap (s + (1 : Int))) v230.length) <|
   (.grd (inb s v230.length) <|
   (.br (decide (IntKind.i64.wrap ((nth v230 (Int.toNat (IntKind.i64.wrap (s + (1 : Int))))) - (1 : Int)) < nth v230 (Int.toNat s))) (
    .leaf (.inr (.inl ()))
   ) (
    (.grd (inb (IntKind.i64.wrap ((nth v230 (Int.toNat (IntKind.i64.wrap (s + (1 : Int))))) - (1 : Int))) v231.length) <|
    (.br (!decide (nth v231 (Int.toNat (IntKind.i64.wrap ((nth v230 (Int.toNat (IntKind.i64.wrap (s + (1 : Int))))) - (1 : Int)))) = s)) (
     .leaf (.inr (.inl ()))
    ) (
     (.grd (inb (IntKind.i64.wrap ((nth v230 (Int.toNat (IntKind.i64.wrap (s + (1 : Int))))) - (1 : Int))) v232.length) <|
     (.br (fless .f32 (nth v232 (Int.toNat (IntKind.i64.wrap ((nth v230 (Int.toNat (IntKind.i64.wrap (s + (1 : Int))))) - (1 : Int))))) (0 : Nat) || feq .f32 (nth v232 (Int.toNat (IntKind.i64.wrap ((nth v230 (Int.toNat (IntKind.i64.wrap (s + (1 : Int))))) - (1 : Int))))) (0 : Nat)) (
      .leaf (.inr (.inl ()))
     ) (
      .leaf (.inl (IntKind.i64.wrap (s + (1 : Int))))
     )))
    )))
   ))))
  ) (
   .leaf (.inr (.inr ()))
  ))

noncomputable def impl_isLowerRoot_l0_g (v229 : Int) (v230 : List Int) (v231 : List Int) (v232 : List Nat) (s0 : Int) : Option ((Unit) ⊕ (Unit)) := whileM (fun s => (impl_isLowerRoot_l0_T v229 v230 v231 v232 s).run) s0
def impl_isLowerRoot_l0_E (v229 : Int) (v230 : List Int) (v231 : List Int) (v232 : List Nat) (s : Int) : Sd := ([.top, .ptr 0 (0 : Nat) 0 (4 : Nat), .top, .top, .top, .top, .top, .top, .top, .int .i64 v229, .int .i64 s, .top, .top, .top, .top, .top, .top, .top, .top, .top, .top, .top, .top, .top, .top, .top, .top, .top, .top, .top, .top, .top, .top, .top, .top, .top, .top, .top, .top, .top, .top, .top, .top, .top, .top], [.gen [.int .i64 v229, .bslc (BR.root 0) (.i64 v230), .bslc (BR.root 1) (.i64 v231), .bslc (BR.root 2) (.f32 v232)] false 0])
def impl_isLowerRoot_l0_X (v229 : Int) (v230 : List Int) (v231 : List Int) (v232 : List Nat) (x : (Unit) ⊕ (Unit)) : Out := (match x with | .inl x => (.ret, [.top, .top, .lit false, .top, .top, .top, .top, .top, .top, .top, .top, .top, .top, .top, .top, .top, .top, .top, .top, .top, .top, .top, .top, .top, .top, .top, .top, .top, .top, .top, .top, .top, .top, .top, .top, .top, .top, .top, .top, .top, .top, .top, .top, .top, .top], []) | .inr x => (.normal, [.top, .top, .top, .top, .top, .top, .top, .top, .top, .top, .top, .top, .top, .top, .top, .top, .top, .top, .top, .top, .top, .top, .top, .top, .top, .top, .top, .top, .top, .top, .top, .top, .top, .top, .top, .top, .top, .top, .top, .top, .top, .top, .top, .top, .top], []))
def impl_isLowerRoot_l0_kill : List Nat := [1, 0, 1, 1, 1, 1, 1, 1, 1, 0, 0, 1, 1, 1, 1, 1, 1, 1, 1, 1, 1, 1, 1, 1, 1, 1, 1, 1, 1, 1, 1, 1, 1, 1, 1, 1, 1, 1, 1, 1, 1, 1, 1, 1, 1]
def impl_isLowerRoot_l0_nx : Exit → List Nat
  | .exit 0 => [1, 1, 1, 1, 1, 1, 1, 1, 1, 1, 1, 1, 1, 1, 1, 1, 1, 1, 1, 1, 1, 1, 1, 1, 1, 1, 1, 1, 1, 1, 1, 1, 1, 1, 1, 1, 1, 1, 1, 1, 1, 1, 1, 1, 1]
  | .ret => [1, 1, 0, 1, 1, 1, 1, 1, 1, 1, 1, 1, 1, 1, 1, 1, 1, 1, 1, 1, 1, 1, 1, 1, 1, 1, 1, 1, 1, 1, 1, 1, 1, 1, 1, 1, 1, 1, 1, 1, 1, 1, 1, 1, 1]
  | _ => []
noncomputable def impl_isLowerRoot_LO (v229 : Int) (v230 : List Int) (v231 : List Int) (v232 : List Nat) : LOr := fun id e L =>
  match id with
  | 0 => .need (normA 0 impl_isLowerRoot_l0_kill e L = some (impl_isLowerRoot_l0_E v229 v230 v231 v232 (gI (vAt e 10)))) (.call (impl_isLowerRoot_l0_g v229 v230 v231 v232 (gI (vAt e 10))) fun x => .sum x (fun b0 => .leaf (impl_isLowerRoot_l0_X v229 v230 v231 v232 (.inl b0))) (fun c0 => .leaf (impl_isLowerRoot_l0_X v229 v230 v231 v232 (.inr c0))))
  | _ => .fail
noncomputable def impl_isLowerRoot_tab : List (FuncId × DFn × Bool) := [(132, impl_ValidSparse_F, true)]
theorem impl_isLowerRoot_hO : OrcOk Try.prog (tabD impl_isLowerRoot_tab) (tabM impl_isLowerRoot_tab) := tabD_cons impl_ValidSparse_Fok (tabD_nil _)
theorem impl_isLowerRoot_l0_be (v229 : Int) (v230 : List Int) (v231 : List Int) (v232 : List Nat) (s : Int) : bodyT TT (tabD impl_isLowerRoot_tab) (tabM impl_isLowerRoot_tab) (impl_isLowerRoot_LO v229 v230 v231 v232) 0 impl_isLowerRoot_l0_kill impl_isLowerRoot_l0_nx (bodyOf Try.f75 0) 0 (impl_isLowerRoot_l0_E v229 v230 v231 v232 s) = (impl_isLowerRoot_l0_T v229 v230 v231 v232 s).bind fun y => .leaf (outS (impl_isLowerRoot_l0_E v229 v230 v231 v232) (impl_isLowerRoot_l0_X v229 v230 v231 v232) y) := by kernel_rfl
theorem impl_isLowerRoot_l0_ok (v229 : Int) (v230 : List Int) (v231 : List Int) (v232 : List Nat) : LSound Try.prog 0 (impl_isLowerRoot_LO v229 v230 v231 v232) 0 (bodyOf Try.f75 0) := by
  intro e L out h
  exact lo_ok (E := impl_isLowerRoot_l0_E v229 v230 v231 v232) (gT := impl_isLowerRoot_l0_T v229 v230 v231 v232) (X := impl_isLowerRoot_l0_X v229 v230 v231 v232) (s0 := (gI (vAt e 10))) tok impl_isLowerRoot_hO mixed (LoopsOk_eq (l := []) (by kernel_rfl) trivial) (impl_isLowerRoot_l0_be v229 v230 v231 v232) rfl (by intro x; (cases x with | inl b => rfl | inr x => exact rfl)) h
noncomputable def impl_isLowerRoot_T (v229 : Int) (v230 : List Int) (v231 : List Int) (v232 : List Nat) : Tree (Bool) :=
  (.call (impl_ValidSparse_g v229 v230 v231 v232) fun v324 =>
  (.br (!v324) (
   .leaf false
  ) (
   (.need (some (impl_isLowerRoot_l0_E v229 v230 v231 v232 (0 : Int)) = some (impl_isLowerRoot_l0_E v229 v230 v231 v232 (0 : Int))) <|
   (.call (impl_isLowerRoot_l0_g v229 v230 v231 v232 (0 : Int)) fun v328 =>
   (.sum v328 (fun v329 =>
    .leaf false
   ) (fun v330 =>
    .leaf true
   ))))
  )))

noncomputable def impl_isLowerRoot_g (v229 : Int) (v230 : List Int) (v231 : List Int) (v232 : List Nat) : Option (Bool) := (impl_isLowerRoot_T v229 v230 v231 v232).run
def impl_isLowerRoot_enc (v229 : Int) (v230 : List Int) (v231 : List Int) (v232 : List Nat) (y : Bool) : Rs := (.bool y, [])
theorem impl_isLowerRoot_den (v229 : Int) (v230 : List Int) (v231 : List Int) (v232 : List Nat) : (den TT (tabD impl_isLowerRoot_tab) (tabM impl_isLowerRoot_tab) (impl_isLowerRoot_LO v229 v230 v231 v232) (codeOf Try.f75) ([.agg [.int .i64 v229, .bslc (BR.root 0) (.i64 v230), .bslc (BR.root 1) (.i64 v231), .bslc (BR.root 2) (.f32 v232)]] ++ List.replicate (Try.f75.ntmps - ([.agg [.int .i64 v229, .bslc (BR.root 0) (.i64 v230), .bslc (BR.root 1) (.i64 v231), .bslc (BR.root 2) (.f32 v232)]] : List DV).length) .undef) []).bind (retD TT Try.f75.results.toList 0) = (impl_isLowerRoot_T v229 v230 v231 v232).bind fun y => .leaf (impl_isLowerRoot_enc v229 v230 v231 v232 y) := by kernel_rfl
theorem impl_isLowerRoot_fn (v229 : Int) (v230 : List Int) (v231 : List Int) (v232 : List Nat) (F : Fr) (hm : F.ids.length = 0) (h0 : St F [] F.H0) (hA : DVs.Ok F [] [.agg [.int .i64 v229, .bslc (BR.root 0) (.i64 v230), .bslc (BR.root 1) (.i64 v231), .bslc (BR.root 2) (.f32 v232)]]) {y : Bool} (hy : impl_isLowerRoot_g v229 v230 v231 v232 = some y) : ∃ H', FnOk Try.prog 75 (DVs.av F [.agg [.int .i64 v229, .bslc (BR.root 0) (.i64 v230), .bslc (BR.root 1) (.i64 v231), .bslc (BR.root 2) (.f32 v232)]]) F.H0 ((impl_isLowerRoot_enc v229 v230 v231 v232 y).1.av F) H' ∧ St F (impl_isLowerRoot_enc v229 v230 v231 v232 y).2 H' ∧ (impl_isLowerRoot_enc v229 v230 v231 v232 y).1.Ok F (impl_isLowerRoot_enc v229 v230 v231 v232 y).2 :=
  fn_fin tok impl_isLowerRoot_hO mixed Try.func75 Try.call75 (by kernel_rfl) (LoopsOk_eq (l := [(0, bodyOf Try.f75 0)]) (by kernel_rfl) ⟨impl_isLowerRoot_l0_ok v229 v230 v231 v232, trivial⟩) (impl_isLowerRoot_den v229 v230 v231 v232) hy hm h0 hA
noncomputable def impl_isLowerRoot_F : DFn := fun args L =>
  match args with
  | [.agg [.int .i64 v229, a1, a2, a3]] =>
    optT (rowI64 L a1) fun v230 =>
    optT (rowI64 L a2) fun v231 =>
    optT (rowF32 L a3) fun v232 =>
    .call (impl_isLowerRoot_g v229 v230 v231 v232) fun y => .leaf (.bool y, L)
  | _ => .fail
theorem impl_isLowerRoot_Fok : COk Try.prog 75 impl_isLowerRoot_F true := by
  intro F L H args r L' hs ha hr
  unfold impl_isLowerRoot_F at hr
  split at hr
  · rename_i v229 a1 a2 a3
    obtain ⟨v230, hv230, hr⟩ := optT_run hr
    obtain ⟨v231, hv231, hr⟩ := optT_run hr
    obtain ⟨v232, hv232, hr⟩ := optT_run hr
    simp only [Tree.run] at hr
    obtain ⟨y, hy, hr⟩ := Option.bind_eq_some_iff.1 hr
    simp only [Tree.run, Option.some.injEq, Prod.mk.injEq] at hr
    obtain ⟨rfl, rfl⟩ := hr
    exact call_ok0 hs (fun k => (([a1.av F, a2.av F, a3.av F] : List AV)[k]?).getD .top) [.agg [.int .i64 v229, a1, a2, a3]] [.agg [.int .i64 v229, .bslc (BR.root 0) (.i64 v230), .bslc (BR.root 1) (.i64 v231), .bslc (BR.root 2) (.f32 v232)]] (fun F' h0 hi hρ => ⟨by simp [DVs.av, DV.av, BR.av, hρ], impl_isLowerRoot_fn v229 v230 v231 v232 F' (by rw [hi]; rfl) (st_nil hi) ⟨⟨trivial, bslc_ok hi (by rw [h0, hρ]; exact rowI64_ok hs (DVs.okAt (DVs.okAt ha 0 rfl) 1 rfl) hv230), bslc_ok hi (by rw [h0, hρ]; exact rowI64_ok hs (DVs.okAt (DVs.okAt ha 0 rfl) 2 rfl) hv231), bslc_ok hi (by rw [h0, hρ]; exact rowF32_ok hs (DVs.okAt (DVs.okAt ha 0 rfl) 3 rfl) hv232), trivial⟩, trivial⟩ hy⟩) rfl
  · cases hr
/-! impl.length[float32] -/
noncomputable def impl_lengthF_LO (v339 : List Nat) : LOr := fun id e L =>
  match id with
  | _ => .fail
noncomputable def impl_lengthF_tab : List (FuncId × DFn × Bool) := []
theorem impl_lengthF_hO : OrcOk Try.prog (tabD impl_lengthF_tab) (tabM impl_lengthF_tab) := tabD_nil _
noncomputable def impl_lengthF_T (v339 : List Nat) : Tree (Int) :=
  .leaf ((v339.length : Nat) : Int)

noncomputable def impl_lengthF_g (v339 : List Nat) : Option (Int) := (impl_lengthF_T v339).run
def impl_lengthF_enc (v339 : List Nat) (y : Int) : Rs := (.int .i64 y, [])
theorem impl_lengthF_den (v339 : List Nat) : (den TT (tabD impl_lengthF_tab) (tabM impl_lengthF_tab) (impl_lengthF_LO v339) (codeOf Try.f134) ([.bslc (BR.root 0) (.f32 v339)] ++ List.replicate (Try.f134.ntmps - ([.bslc (BR.root 0) (.f32 v339)] : List DV).length) .undef) []).bind (retD TT Try.f134.results.toList 0) = (impl_lengthF_T v339).bind fun y => .leaf (impl_lengthF_enc v339 y) := by kernel_rfl
theorem impl_lengthF_fn (v339 : List Nat) (F : Fr) (hm : F.ids.length = 0) (h0 : St F [] F.H0) (hA : DVs.Ok F [] [.bslc (BR.root 0) (.f32 v339)]) {y : Int} (hy : impl_lengthF_g v339 = some y) : ∃ H', FnOk Try.prog 134 (DVs.av F [.bslc (BR.root 0) (.f32 v339)]) F.H0 ((impl_lengthF_enc v339 y).1.av F) H' ∧ St F (impl_lengthF_enc v339 y).2 H' ∧ (impl_lengthF_enc v339 y).1.Ok F (impl_lengthF_enc v339 y).2 :=
  fn_fin tok impl_lengthF_hO mixed Try.func134 Try.call134 (by kernel_rfl) (LoopsOk_eq (l := []) (by kernel_rfl) trivial) (impl_lengthF_den v339) hy hm h0 hA
def impl_lengthF_v (v339 : List Nat) : Int :=
  ((v339.length : Nat) : Int)
theorem impl_lengthF_tot (v339 : List Nat) : impl_lengthF_g v339 = some (impl_lengthF_v v339) := by
  unfold impl_lengthF_g impl_lengthF_T impl_lengthF_v
  simp only [Tree.run]
  repeat' (first | rfl | split)
noncomputable def impl_lengthF_F : DFn := fun args L =>
  match args with
  | [a1] =>
    optT (rowF32 L a1) fun v339 =>
    .leaf (.int .i64 (impl_lengthF_v v339), L)
  | _ => .fail
theorem impl_lengthF_Fok : COk Try.prog 134 impl_lengthF_F true := by
  intro F L H args r L' hs ha hr
  unfold impl_lengthF_F at hr
  split at hr
  · rename_i a1
    obtain ⟨v339, hv339, hr⟩ := optT_run hr
    have hy := impl_lengthF_tot v339
    generalize impl_lengthF_v v339 = y at hy hr
    simp only [Tree.run, Option.some.injEq, Prod.mk.injEq] at hr
    obtain ⟨rfl, rfl⟩ := hr
    exact call_ok0 hs (fun k => (([a1.av F] : List AV)[k]?).getD .top) [a1] [.bslc (BR.root 0) (.f32 v339)] (fun F' h0 hi hρ => ⟨by simp [DVs.av, DV.av, BR.av, hρ], impl_lengthF_fn v339 F' (by rw [hi]; rfl) (st_nil hi) ⟨bslc_ok hi (by rw [h0, hρ]; exact rowF32_ok hs (DVs.okAt ha 0 rfl) hv339), trivial⟩ hy⟩) rfl
  · cases hr
/-! impl.IsVector -/
noncomputable def impl_IsVector_LO (v338 : List Nat) : LOr := fun id e L =>
  match id with
  | _ => .fail
noncomputable def impl_IsVector_tab : List (FuncId × DFn × Bool) := [(134, impl_lengthF_F, true), (72, impl_inRange_F, true), (135, impl_areFinite_F, true)]
theorem impl_IsVector_hO : OrcOk Try.prog (tabD impl_IsVector_tab) (tabM impl_IsVector_tab) := tabD_cons impl_lengthF_Fok (tabD_cons impl_inRange_Fok (tabD_cons impl_areFinite_Fok (tabD_nil _)))
noncomputable def impl_IsVector_T (v338 : List Nat) : Tree (Bool) :=
  (.br (impl_inRange_v (impl_lengthF_v v338) (1 : Int) (256 : Int)) (
   (.call (impl_areFinite_g v338) fun v340 =>
   .leaf v340)
  ) (
   .leaf false
  ))

noncomputable def impl_IsVector_g (v338 : List Nat) : Option (Bool) := (impl_IsVector_T v338).run
def impl_IsVector_enc (v338 : List Nat) (y : Bool) : Rs := (.bool y, [])
theorem impl_IsVector_den (v338 : List Nat) : (den TT (tabD impl_IsVector_tab) (tabM impl_IsVector_tab) (impl_IsVector_LO v338) (codeOf Try.f133) ([.bslc (BR.root 0) (.f32 v338)] ++ List.replicate (Try.f133.ntmps - ([.bslc (BR.root 0) (.f32 v338)] : List DV).length) .undef) []).bind (retD TT Try.f133.results.toList 0) = (impl_IsVector_T v338).bind fun y => .leaf (impl_IsVector_enc v338 y) := by kernel_rfl
theorem impl_IsVector_fn (v338 : List Nat) (F : Fr) (hm : F.ids.length = 0) (h0 : St F [] F.H0) (hA : DVs.Ok F [] [.bslc (BR.root 0) (.f32 v338)]) {y : Bool} (hy : impl_IsVector_g v338 = some y) : ∃ H', FnOk Try.prog 133 (DVs.av F [.bslc (BR.root 0) (.f32 v338)]) F.H0 ((impl_IsVector_enc v338 y).1.av F) H' ∧ St F (impl_IsVector_enc v338 y).2 H' ∧ (impl_IsVector_enc v338 y).1.Ok F (impl_IsVector_enc v338 y).2 :=
  fn_fin tok impl_IsVector_hO mixed Try.func133 Try.call133 (by kernel_rfl) (LoopsOk_eq (l := []) (by kernel_rfl) trivial) (impl_IsVector_den v338) hy hm h0 hA
noncomputable def impl_IsVector_F : DFn := fun args L =>
  match args with
  | [a1] =>
    optT (rowF32 L a1) fun v338 =>
    .call (impl_IsVector_g v338) fun y => .leaf (.bool y, L)
  | _ => .fail
theorem impl_IsVector_Fok : COk Try.prog 133 impl_IsVector_F true := by
  intro F L H args r L' hs ha hr
  unfold impl_IsVector_F at hr
  split at hr
  · rename_i a1
    obtain ⟨v338, hv338, hr⟩ := optT_run hr
    simp only [Tree.run] at hr
    obtain ⟨y, hy, hr⟩ := Option.bind_eq_some_iff.1 hr
    simp only [Tree.run, Option.some.injEq, Prod.mk.injEq] at hr
    obtain ⟨rfl, rfl⟩ := hr
    exact call_ok0 hs (fun k => (([a1.av F] : List AV)[k]?).getD .top) [a1] [.bslc (BR.root 0) (.f32 v338)] (fun F' h0 hi hρ => ⟨by simp [DVs.av, DV.av, BR.av, hρ], impl_IsVector_fn v338 F' (by rw [hi]; rfl) (st_nil hi) ⟨bslc_ok hi (by rw [h0, hρ]; exact rowF32_ok hs (DVs.okAt ha 0 rfl) hv338), trivial⟩ hy⟩) rfl
  · cases hr
/-! (impl.Sparse).takes -/
noncomputable def impl_Sparse_takes_LO (v332 : Int) (v333 : List Int) (v334 : List Int) (v335 : List Nat) (v336 : List Nat) : LOr := fun id e L =>
  match id with
  | _ => .fail
noncomputable def impl_Sparse_takes_tab : List (FuncId × DFn × Bool) := [(132, impl_ValidSparse_F, true), (133, impl_IsVector_F, true), (134, impl_lengthF_F, true)]
theorem impl_Sparse_takes_hO : OrcOk Try.prog (tabD impl_Sparse_takes_tab) (tabM impl_Sparse_takes_tab) := tabD_cons impl_ValidSparse_Fok (tabD_cons impl_IsVector_Fok (tabD_cons impl_lengthF_Fok (tabD_nil _)))
noncomputable def impl_Sparse_takes_T (v332 : Int) (v333 : List Int) (v334 : List Int) (v335 : List Nat) (v336 : List Nat) : Tree (Bool) :=
  (.call (impl_ValidSparse_g v332 v333 v334 v335) fun v337 =>
  (.br v337 (
   (.call (impl_IsVector_g v336) fun v341 =>
   (.br v341 (
    .leaf (decide ((impl_lengthF_v v336) = v332))
   ) (
    .leaf false
   )))
  ) (
   .leaf false
  )))

noncomputable def impl_Sparse_takes_g (v332 : Int) (v333 : List Int) (v334 : List Int) (v335 : List Nat) (v336 : List Nat) : Option (Bool) := (impl_Sparse_takes_T v332 v333 v334 v335 v336).run
def impl_Sparse_takes_enc (v332 : Int) (v333 : List Int) (v334 : List Int) (v335 : List Nat) (v336 : List Nat) (y : Bool) : Rs := (.bool y, [])
theorem impl_Sparse_takes_den (v332 : Int) (v333 : List Int) (v334 : List Int) (v335 : List Nat) (v336 : List Nat) : (den TT (tabD impl_Sparse_takes_tab) (tabM impl_Sparse_takes_tab) (impl_Sparse_takes_LO v332 v333 v334 v335 v336) (codeOf Try.f68) ([.agg [.int .i64 v332, .bslc (BR.root 0) (.i64 v333), .bslc (BR.root 1) (.i64 v334), .bslc (BR.root 2) (.f32 v335)], .bslc (BR.root 3) (.f32 v336)] ++ List.replicate (Try.f68.ntmps - ([.agg [.int .i64 v332, .bslc (BR.root 0) (.i64 v333), .bslc (BR.root 1) (.i64 v334), .bslc (BR.root 2) (.f32 v335)], .bslc (BR.root 3) (.f32 v336)] : List DV).length) .undef) []).bind (retD TT Try.f68.results.toList 0) = (impl_Sparse_takes_T v332 v333 v334 v335 v336).bind fun y => .leaf (impl_Sparse_takes_enc v332 v333 v334 v335 v336 y) := by kernel_rfl
theorem impl_Sparse_takes_fn (v332 : Int) (v333 : List Int) (v334 : List Int) (v335 : List Nat) (v336 : List Nat) (F : Fr) (hm : F.ids.length = 0) (h0 : St F [] F.H0) (hA : DVs.Ok F [] [.agg [.int .i64 v332, .bslc (BR.root 0) (.i64 v333), .bslc (BR.root 1) (.i64 v334), .bslc (BR.root 2) (.f32 v335)], .bslc (BR.root 3) (.f32 v336)]) {y : Bool} (hy : impl_Sparse_takes_g v332 v333 v334 v335 v336 = some y) : ∃ H', FnOk Try.prog 68 (DVs.av F [.agg [.int .i64 v332, .bslc (BR.root 0) (.i64 v333), .bslc (BR.root 1) (.i64 v334), .bslc (BR.root 2) (.f32 v335)], .bslc (BR.root 3) (.f32 v336)]) F.H0 ((impl_Sparse_takes_enc v332 v333 v334 v335 v336 y).1.av F) H' ∧ St F (impl_Sparse_takes_enc v332 v333 v334 v335 v336 y).2 H' ∧ (impl_Sparse_takes_enc v332 v333 v334 v335 v336 y).1.Ok F (impl_Sparse_takes_enc v332 v333 v334 v335 v336 y).2 :=
  fn_fin tok impl_Sparse_takes_hO mixed Try.func68 Try.call68 (by kernel_rfl) (LoopsOk_eq (l := []) (by kernel_rfl) trivial) (impl_Sparse_takes_den v332 v333 v334 v335 v336) hy hm h0 hA
noncomputable def impl_Sparse_takes_F : DFn := fun args L =>
  match args with
  | [.agg [.int .i64 v332, a1, a2, a3], a4] =>
    optT (rowI64 L a1) fun v333 =>
    optT (rowI64 L a2) fun v334 =>
    optT (rowF32 L a3) fun v335 =>
    optT (rowF32 L a4) fun v336 =>
    .call (impl_Sparse_takes_g v332 v333 v334 v335 v336) fun y => .leaf (.bool y, L)
  | _ => .fail
theorem impl_Sparse_takes_Fok : COk Try.prog 68 impl_Sparse_takes_F true := by
  intro F L H args r L' hs ha hr
  unfold impl_Sparse_takes_F at hr
  split at hr
  · rename_i v332 a1 a2 a3 a4
    obtain ⟨v333, hv333, hr⟩ := optT_run hr
    obtain ⟨v334, hv334, hr⟩ := optT_run hr
    obtain ⟨v335, hv335, hr⟩ := optT_run hr
    obtain ⟨v336, hv336, hr⟩ := optT_run hr
    simp only [Tree.run] at hr
    obtain ⟨y, hy, hr⟩ := Option.bind_eq_some_iff.1 hr
    simp only [Tree.run, Option.some.injEq, Prod.mk.injEq] at hr
    obtain ⟨rfl, rfl⟩ := hr
    exact call_ok0 hs (fun k => (([a1.av F, a2.av F, a3.av F, a4.av F] : List AV)[k]?).getD .top) [.agg [.int .i64 v332, a1, a2, a3], a4] [.agg [.int .i64 v332, .bslc (BR.root 0) (.i64 v333), .bslc (BR.root 1) (.i64 v334), .bslc (BR.root 2) (.f32 v335)], .bslc (BR.root 3) (.f32 v336)] (fun F' h0 hi hρ => ⟨by simp [DVs.av, DV.av, BR.av, hρ], impl_Sparse_takes_fn v332 v333 v334 v335 v336 F' (by rw [hi]; rfl) (st_nil hi) ⟨⟨trivial, bslc_ok hi (by rw [h0, hρ]; exact rowI64_ok hs (DVs.okAt (DVs.okAt ha 0 rfl) 1 rfl) hv333), bslc_ok hi (by rw [h0, hρ]; exact rowI64_ok hs (DVs.okAt (DVs.okAt ha 0 rfl) 2 rfl) hv334), bslc_ok hi (by rw [h0, hρ]; exact rowF32_ok hs (DVs.okAt (DVs.okAt ha 0 rfl) 3 rfl) hv335), trivial⟩, bslc_ok hi (by rw [h0, hρ]; exact rowF32_ok hs (DVs.okAt ha 1 rfl) hv336), trivial⟩ hy⟩) rfl
  · cases hr
/-! slices.Clone[list of float32,float32] -/
noncomputable def slices_CloneF_LO (v343 : List Nat) : LOr := fun id e L =>
  match id with
  | _ => .fail
noncomputable def slices_CloneF_tab : List (FuncId × DFn × Bool) := []
theorem slices_CloneF_hO : OrcOk Try.prog (tabD slices_CloneF_tab) (tabM slices_CloneF_tab) := tabD_nil _
noncomputable def slices_CloneF_T (v343 : List Nat) : Tree (Unit) :=
  (.grd (decide (0 < v343.length)) <|
  (.grd (fits (([] : List Nat) ++ v343).length) <|
  .leaf ()))

noncomputable def slices_CloneF_g (v343 : List Nat) : Option (Unit) := (slices_CloneF_T v343).run
def slices_CloneF_enc (v343 : List Nat) (y : Unit) : Rs := (.own 0 0 ((([] : List Nat) ++ v343).length), [.row (.f32 (([] : List Nat) ++ v343)) 0])
theorem slices_CloneF_den (v343 : List Nat) : (den TT (tabD slices_CloneF_tab) (tabM slices_CloneF_tab) (slices_CloneF_LO v343) (codeOf Try.f76) ([.bslc (BR.root 0) (.f32 v343)] ++ List.replicate (Try.f76.ntmps - ([.bslc (BR.root 0) (.f32 v343)] : List DV).length) .undef) []).bind (retD TT Try.f76.results.toList 0) = (slices_CloneF_T v343).bind fun y => .leaf (slices_CloneF_enc v343 y) := by kernel_rfl
theorem slices_CloneF_fn (v343 : List Nat) (F : Fr) (hm : F.ids.length = 0) (h0 : St F [] F.H0) (hA : DVs.Ok F [] [.bslc (BR.root 0) (.f32 v343)]) {y : Unit} (hy : slices_CloneF_g v343 = some y) : ∃ H', FnOk Try.prog 76 (DVs.av F [.bslc (BR.root 0) (.f32 v343)]) F.H0 ((slices_CloneF_enc v343 y).1.av F) H' ∧ St F (slices_CloneF_enc v343 y).2 H' ∧ (slices_CloneF_enc v343 y).1.Ok F (slices_CloneF_enc v343 y).2 :=
  fn_fin tok slices_CloneF_hO mixed Try.func76 Try.call76 (by kernel_rfl) (LoopsOk_eq (l := []) (by kernel_rfl) trivial) (slices_CloneF_den v343) hy hm h0 hA
noncomputable def slices_CloneF_F : DFn := fun args L =>
  match args with
  | [a1] =>
    optT (rowF32 L a1) fun v343 =>
    .call (slices_CloneF_g v343) fun y => .leaf (.own (L.length + 0) 0 ((([] : List Nat) ++ v343).length), L ++ [.row (.f32 (([] : List Nat) ++ v343)) 0])
  | _ => .fail
theorem slices_CloneF_Fok : COk Try.prog 76 slices_CloneF_F true := by
  intro F L H args r L' hs ha hr
  unfold slices_CloneF_F at hr
  split at hr
  · rename_i a1
    obtain ⟨v343, hv343, hr⟩ := optT_run hr
    simp only [Tree.run] at hr
    obtain ⟨y, hy, hr⟩ := Option.bind_eq_some_iff.1 hr
    simp only [Tree.run, Option.some.injEq, Prod.mk.injEq] at hr
    obtain ⟨rfl, rfl⟩ := hr
    exact call_ok1 hs (fun k => (([a1.av F] : List AV)[k]?).getD .top) [a1] [.bslc (BR.root 0) (.f32 v343)] (fun F' h0 hi hρ => ⟨by simp [DVs.av, DV.av, BR.av, hρ], slices_CloneF_fn v343 F' (by rw [hi]; rfl) (st_nil hi) ⟨bslc_ok hi (by rw [h0, hρ]; exact rowF32_ok hs (DVs.okAt ha 0 rfl) hv343), trivial⟩ hy⟩) rfl rfl
  · cases hr
/-! impl.mul -/
noncomputable def impl_mul_LO (v358 : Nat) (v359 : Nat) : LOr := fun id e L =>
  match id with
  | _ => .fail
noncomputable def impl_mul_tab : List (FuncId × DFn × Bool) := []
theorem impl_mul_hO : OrcOk Try.prog (tabD impl_mul_tab) (tabM impl_mul_tab) := tabD_nil _
noncomputable def impl_mul_T (v358 : Nat) (v359 : Nat) : Tree (Nat) :=
  .leaf (fmul .f32 v358 v359)

noncomputable def impl_mul_g (v358 : Nat) (v359 : Nat) : Option (Nat) := (impl_mul_T v358 v359).run
def impl_mul_enc (v358 : Nat) (v359 : Nat) (y : Nat) : Rs := (.flt .f32 y, [])
theorem impl_mul_den (v358 : Nat) (v359 : Nat) : (den TT (tabD impl_mul_tab) (tabM impl_mul_tab) (impl_mul_LO v358 v359) (codeOf Try.f80) ([.flt .f32 v358, .flt .f32 v359] ++ List.replicate (Try.f80.ntmps - ([.flt .f32 v358, .flt .f32 v359] : List DV).length) .undef) []).bind (retD TT Try.f80.results.toList 0) = (impl_mul_T v358 v359).bind fun y => .leaf (impl_mul_enc v358 v359 y) := by kernel_rfl
theorem impl_mul_fn (v358 : Nat) (v359 : Nat) (F : Fr) (hm : F.ids.length = 0) (h0 : St F [] F.H0) (hA : DVs.Ok F [] [.flt .f32 v358, .flt .f32 v359]) {y : Nat} (hy : impl_mul_g v358 v359 = some y) : ∃ H', FnOk Try.prog 80 (DVs.av F [.flt .f32 v358, .flt .f32 v359]) F.H0 ((impl_mul_enc v358 v359 y).1.av F) H' ∧ St F (impl_mul_enc v358 v359 y).2 H' ∧ (impl_mul_enc v358 v359 y).1.Ok F (impl_mul_enc v358 v359 y).2 :=
  fn_fin tok impl_mul_hO mixed Try.func80 Try.call80 (by kernel_rfl) (LoopsOk_eq (l := []) (by kernel_rfl) trivial) (impl_mul_den v358 v359) hy hm h0 hA
def impl_mul_v (v358 : Nat) (v359 : Nat) : Nat :=
  fmul .f32 v358 v359
theorem impl_mul_tot (v358 : Nat) (v359 : Nat) : impl_mul_g v358 v359 = some (impl_mul_v v358 v359) := by
  unfold impl_mul_g impl_mul_T impl_mul_v
  simp only [Tree.run]
  repeat' (first | rfl | split)
noncomputable def impl_mul_F : DFn := fun args L =>
  match args with
  | [.flt .f32 v358, .flt .f32 v359] =>
    .leaf (.flt .f32 (impl_mul_v v358 v359), L)
  | _ => .fail
theorem impl_mul_Fok : COk Try.prog 80 impl_mul_F true := by
  intro F L H args r L' hs ha hr
  unfold impl_mul_F at hr
  split at hr
  · rename_i v358 v359
    have hy := impl_mul_tot v358 v359
    generalize impl_mul_v v358 v359 = y at hy hr
    simp only [Tree.run, Option.some.injEq, Prod.mk.injEq] at hr
    obtain ⟨rfl, rfl⟩ := hr
    exact call_ok0 hs (fun k => (([] : List AV)[k]?).getD .top) [.flt .f32 v358, .flt .f32 v359] [.flt .f32 v358, .flt .f32 v359] (fun F' h0 hi hρ => ⟨by simp [DVs.av, DV.av, BR.av, hρ], impl_mul_fn v358 v359 F' (by rw [hi]; rfl) (st_nil hi) ⟨trivial, trivial, trivial⟩ hy⟩) rfl
  · cases hr
/-! impl.SparseRootSolve$2 -/
noncomputable def impl_SparseRootSolve_2_LO (v360 : Int) (v361 : Nat) (v362 : Int) (v363 : List Nat) : LOr := fun id e L =>
  match id with
  | _ => .fail
noncomputable def impl_SparseRootSolve_2_tab : List (FuncId × DFn × Bool) := [(80, impl_mul_F, true)]
theorem impl_SparseRootSolve_2_hO : OrcOk Try.prog (tabD impl_SparseRootSolve_2_tab) (tabM impl_SparseRootSolve_2_tab) := tabD_cons impl_mul_Fok (tabD_nil _)
noncomputable def impl_SparseRootSolve_2_T (v360 : Int) (v361 : Nat) (v362 : Int) (v363 : List Nat) : Tree ((List Nat)) :=
  (.br (decide (v360 < v362)) (
   (.grd (inb v362 v363.length) <|
   (.grd (inb v360 v363.length) <|
   (.grd (inb v362 v363.length) <|
   .leaf (List.set v363 (Int.toNat v362) (fsub .f32 (nth v363 (Int.toNat v362)) (impl_mul_v v361 (nth v363 (Int.toNat v360))))))))
  ) (
   .leaf v363
  ))

noncomputable def impl_SparseRootSolve_2_g (v360 : Int) (v361 : Nat) (v362 : Int) (v363 : List Nat) : Option ((List Nat)) := (impl_SparseRootSolve_2_T v360 v361 v362 v363).run
def impl_SparseRootSolve_2_enc (v360 : Int) (v361 : Nat) (v362 : Int) (v363 : List Nat) (y : (List Nat)) : Rs := (.tup [], [.gen [.own 1 0 ((y).length)] false 0, .row (.f32 y) 0])
theorem impl_SparseRootSolve_2_den (v360 : Int) (v361 : Nat) (v362 : Int) (v363 : List Nat) : (den TT (tabD impl_SparseRootSolve_2_tab) (tabM impl_SparseRootSolve_2_tab) (impl_SparseRootSolve_2_LO v360 v361 v362 v363) (codeOf Try.f79) ([.int .i64 v360, .flt .f32 v361, .bptr (BR.root 0) [.int .i64 v362], .ptr 0 (0 : Nat) 0 (1 : Nat)] ++ List.replicate (Try.f79.ntmps - ([.int .i64 v360, .flt .f32 v361, .bptr (BR.root 0) [.int .i64 v362], .ptr 0 (0 : Nat) 0 (1 : Nat)] : List DV).length) .undef) [.gen [.own 1 0 v363.length] false 0, .row (.f32 v363) 0]).bind (retD TT Try.f79.results.toList 2) = (impl_SparseRootSolve_2_T v360 v361 v362 v363).bind fun y => .leaf (impl_SparseRootSolve_2_enc v360 v361 v362 v363 y) := by kernel_rfl
theorem impl_SparseRootSolve_2_fn (v360 : Int) (v361 : Nat) (v362 : Int) (v363 : List Nat) (F : Fr) (hm : F.ids.length = 2) (h0 : St F [.gen [.own 1 0 v363.length] false 0, .row (.f32 v363) 0] F.H0) (hA : DVs.Ok F [.gen [.own 1 0 v363.length] false 0, .row (.f32 v363) 0] [.int .i64 v360, .flt .f32 v361, .bptr (BR.root 0) [.int .i64 v362], .ptr 0 (0 : Nat) 0 (1 : Nat)]) {y : (List Nat)} (hy : impl_SparseRootSolve_2_g v360 v361 v362 v363 = some y) : ∃ H', FnOk Try.prog 79 (DVs.av F [.int .i64 v360, .flt .f32 v361, .bptr (BR.root 0) [.int .i64 v362], .ptr 0 (0 : Nat) 0 (1 : Nat)]) F.H0 ((impl_SparseRootSolve_2_enc v360 v361 v362 v363 y).1.av F) H' ∧ St F (impl_SparseRootSolve_2_enc v360 v361 v362 v363 y).2 H' ∧ (impl_SparseRootSolve_2_enc v360 v361 v362 v363 y).1.Ok F (impl_SparseRootSolve_2_enc v360 v361 v362 v363 y).2 :=
  fn_fin tok impl_SparseRootSolve_2_hO mixed Try.func79 Try.call79 (by kernel_rfl) (LoopsOk_eq (l := []) (by kernel_rfl) trivial) (impl_SparseRootSolve_2_den v360 v361 v362 v363) hy hm h0 hA
noncomputable def impl_SparseRootSolve_2_F : DFn := fun args L =>
  match args with
  | [.int .i64 v360, .flt .f32 v361, a1, a2] =>
    optT (cellsOf L 1 a1) fun cs0 =>
    (match cs0 with
    | [.int .i64 v362] =>
    optT (genOf L 1 false a2) fun qg1 =>
    (match qg1.2 with
    | [a3] =>
    optT (ownF32 L a3) fun qv363 =>
    (match sepB [qg1.1, qv363.1] [DV.tip a1] with
    | true =>
    .call (impl_SparseRootSolve_2_g v360 v361 v362 qv363.2) fun y => .grd (decide (y.length = qv363.2.length)) (.leaf (.tup [], setB L [(qg1.1, .gen [.own qv363.1 (verAt L qv363.1) ((y).length)] false (verAt L qg1.1)), (qv363.1, .row (.f32 y) (verAt L qv363.1))] ++ []))
    | false => .fail)
    | _ => .fail)
    | _ => .fail)
  | _ => .fail
theorem impl_SparseRootSolve_2_Fok : COk Try.prog 79 impl_SparseRootSolve_2_F false := by
  intro F L H args r L' hs ha hr
  unfold impl_SparseRootSolve_2_F at hr
  split at hr
  · rename_i v360 v361 a1 a2
    obtain ⟨cs0, hcp0, hr⟩ := optT_run hr
    split at hr
    · rename_i v362
      obtain ⟨⟨jg1, cg1⟩, hg1, hr⟩ := optT_run hr
      simp only at hr
      split at hr
      · rename_i a3
        obtain ⟨hge1, hgu1, hga1, hgn1, hgc1, hgf1⟩ := genOf_spec hs (DVs.okAt ha 3 rfl) hg1
        obtain ⟨⟨jv363, v363⟩, hqv363, hr⟩ := optT_run hr
        simp only at hr
        split at hr
        · rename_i hsep
          obtain ⟨hnd, hsepv⟩ := sepB_spec hsep
          simp only [Tree.run] at hr
          obtain ⟨y, hy, hr⟩ := Option.bind_eq_some_iff.1 hr
          try simp only [Tree.run] at hr
          obtain ⟨hl0, hr⟩ := ite_run hr
          simp only [Option.some.injEq, Prod.mk.injEq] at hr
          obtain ⟨rfl, rfl⟩ := hr
          obtain ⟨hr1, hu1, ha1, hb1⟩ := (ownR_spec (DVs.okAt hgc1 0 rfl) (ownF32_or hqv363))
          exact mutG_ok hs [a1, a2, a3] ⟨(DVs.okAt ha 2 rfl), (DVs.okAt ha 3 rfl), (DVs.okAt hgc1 0 rfl), trivial⟩ [.int .i64 v360, .flt .f32 v361, a1, a2] [.int .i64 v360, .flt .f32 v361, .bptr (BR.root 0) [.int .i64 v362], .ptr 0 (0 : Nat) 0 (1 : Nat)] [jg1, jv363] [verAt L jg1, verAt L jv363] [.gen [.own 1 0 v363.length] false 0, .row (.f32 v363) 0] [.gen [.own 1 0 ((y).length)] false 0, .row (.f32 y) 0] [.gen [.own jv363 (verAt L jv363) ((y).length)] false (verAt L jg1), .row (.f32 y) (verAt L jv363)] [] hnd rfl rfl (fun j hj => by
              simp at hj
              rcases hj with rfl | rfl
              · exact ex_lt hge1
              · exact ex_lt hr1) (fun j hj => by
              simp at hj
              rcases hj with rfl | rfl
              · exact reach_refs (by simp [DVs.refs, DV.refs, hgu1])
              · exact reach_1 (deep_mem (by simp [DVs.refs, DV.refs, hgu1]) hge1 (by simp [DVs.refs, DV.refs, hu1]))) (fun F' h0 hi hρ ab hS => by
              have ab0 := ab 0 _ rfl; have ab1 := ab 1 _ rfl;
              refine ⟨fun i j b' h1 h2 => ?_, by simp [DBlk.blk, DVs.av, DV.av, BR.av, hρ, Row.len, hga1, ab0, ha1, ab1], fun hst => impl_SparseRootSolve_2_fn v360 v361 v362 v363 F' (by rw [hi]; rfl) hst ⟨trivial, trivial, (bptrM hS (by rw [hρ]; rfl) (hsepv (DV.tip a1) (by simp)) (DVs.okAt ha 2 rfl) hcp0 (by simp [DBlk.blk, DVs.av, DV.av, BR.av, hρ, Row.len, hga1, ab0, ha1, ab1]) ⟨trivial, trivial⟩), ⟨_, rfl, Nat.le_refl _, by decide, Nat.le_refl _, fun _ => rfl⟩, trivial⟩ hy⟩
              rcases i with _ | _ | i
              · simp at h1 h2; subst h1; subst h2; obtain ⟨ver_, hv_⟩ := hge1; exact ⟨_, hv_, by simp [DBlk.blk, DVs.av, DV.av, BR.av, hρ, Row.len, hga1, ab0, ha1, ab1], ⟨⟨⟨_, rfl, Nat.le_refl _, Nat.le_refl _, fun _ => rfl, (ownR_spec (DVs.okAt hgc1 0 rfl) (ownF32_or hqv363)).2.2.2⟩, trivial⟩, fun hf => by cases hf⟩⟩
              · simp at h1 h2; subst h1; subst h2; obtain ⟨ver_, hv_⟩ := hr1; exact ⟨_, hv_, rfl, hb1⟩
              · simp at h1) rfl rfl (fun i j b b' h1 h2 h3 => by
              rcases i with _ | _ | i
              · simp at h1; subst h1; cases h3; exact growG hge1 rfl h2
              · simp at h1; subst h1; cases h3; exact growK hr1 (of_decide_eq_true hl0) h2
              · simp at h1)
        · cases hr
      · cases hr
    · cases hr
  · cases hr
/-! (impl.Sparse).each -/
noncomputable def impl_Sparse_each_l0_T (v373 : List Int) (v374 : List Int) (v375 : List Nat) (v376 : Int) (v377 : Int) (s : Int × (List Nat)) : Tree ((Int × (List Nat)) ⊕ ((List Nat))) :=
  (.grd (inb (IntKind.i64.wrap (v376 + (1 : Int))) v373.length) <|
  (.br (decide (s.1 < nth v373 (Int.toNat (IntKind.i64.wrap (v376 + (1 : Int)))))) (
   (.grd (inb s.1 v374.length) <|
   (.grd (inb s.1 v375.length) <|
   (.call (impl_SparseRootSolve_2_g (nth v374 (Int.toNat s.1)) (nth v375 (Int.toNat s.1)) v377 s.2) fun v386 =>
   (.grd (decide (v386.length = s.2.length)) <|
   .leaf (.inl (IntKind.i64.wrap (s.1 + (1 : Int)), v386))))))
  ) (
   .leaf (.inr s.2)
  )))

noncomputable def impl_Sparse_each_l0_g (v373 : List Int) (v374 : List Int) (v375 : List Nat) (v376 : Int) (v377 : Int) (s0 : Int × (List Nat)) : Option ((List Nat)) := whileM (fun s => (impl_Sparse_each_l0_T v373 v374 v375 v376 v377 s).run) s0
def impl_Sparse_each_l0_E (v372 : Int) (v373 : List Int) (v374 : List Int) (v375 : List Nat) (v376 : Int) (v377 : Int) (v378 : List Nat) (s : Int × (List Nat)) : Sd := ([.top, .int .i64 v376, .fn 79 [.bptr (BR.root 3) [.int .i64 v377], .ptr 0 (0 : Nat) 0 (1 : Nat)], .ptr 2 (0 : Nat) 0 (4 : Nat), .top, .top, .int .i64 s.1, .top, .top, .top, .top, .top, .top, .top, .top, .top, .top, .top, .top, .top, .top, .top, .top, .top, .top, .top, .top, .top, .top, .top, .top, .top, .top, .top], [.gen [.own 1 0 ((s.2).length)] false 0, .row (.f32 s.2) 0, .gen [.int .i64 v372, .bslc (BR.root 0) (.i64 v373), .bslc (BR.root 1) (.i64 v374), .bslc (BR.root 2) (.f32 v375)] false 0])
def impl_Sparse_each_l0_X (v372 : Int) (v373 : List Int) (v374 : List Int) (v375 : List Nat) (v376 : Int) (v377 : Int) (v378 : List Nat) (x : (List Nat)) : Out := (.normal, [.top, .top, .top, .top, .top, .top, .top, .top, .top, .top, .top, .top, .top, .top, .top, .top, .top, .top, .top, .top, .top, .top, .top, .top, .top, .top, .top, .top, .top, .top, .top, .top, .top, .top], [.gen [.own 1 0 ((x).length)] false 0, .row (.f32 x) 0])
def impl_Sparse_each_l0_kill : List Nat := [1, 0, 0, 0, 1, 1, 0, 1, 1, 1, 1, 1, 1, 1, 1, 1, 1, 1, 1, 1, 1, 1, 1, 1, 1, 1, 1, 1, 1, 1, 1, 1, 1, 1]
def impl_Sparse_each_l0_nx : Exit → List Nat
  | .exit 0 => [1, 1, 1, 1, 1, 1, 1, 1, 1, 1, 1, 1, 1, 1, 1, 1, 1, 1, 1, 1, 1, 1, 1, 1, 1, 1, 1, 1, 1, 1, 1, 1, 1, 1]
  | .ret => [1, 1, 1, 1, 1, 1, 1, 1, 1, 1, 1, 1, 1, 1, 1, 1, 1, 1, 1, 1, 1, 1, 1, 1, 1, 1, 1, 1, 1, 1, 1, 1, 1, 1]
  | _ => []
noncomputable def impl_Sparse_each_LO (v372 : Int) (v373 : List Int) (v374 : List Int) (v375 : List Nat) (v376 : Int) (v377 : Int) (v378 : List Nat) : LOr := fun id e L =>
  match id with
  | 0 => .need (normA 2 impl_Sparse_each_l0_kill e L = some (impl_Sparse_each_l0_E v372 v373 v374 v375 v376 v377 v378 ((gI (vAt e 6)), (gRF L (cAt L (aAt (vAt e 2) 1) 0))))) (.call (impl_Sparse_each_l0_g v373 v374 v375 v376 v377 ((gI (vAt e 6)), (gRF L (cAt L (aAt (vAt e 2) 1) 0)))) fun x => .leaf (impl_Sparse_each_l0_X v372 v373 v374 v375 v376 v377 v378 x))
  | _ => .fail
noncomputable def impl_Sparse_each_tab : List (FuncId × DFn × Bool) := [(79, impl_SparseRootSolve_2_F, false)]
theorem impl_Sparse_each_hO : OrcOk Try.prog (tabD impl_Sparse_each_tab) (tabM impl_Sparse_each_tab) := tabD_cons impl_SparseRootSolve_2_Fok (tabD_nil _)
theorem impl_Sparse_each_l0_be (v372 : Int) (v373 : List Int) (v374 : List Int) (v375 : List Nat) (v376 : Int) (v377 : Int) (v378 : List Nat) (s : Int × (List Nat)) : bodyT TT (tabD impl_Sparse_each_tab) (tabM impl_Sparse_each_tab) (impl_Sparse_each_LO v372 v373 v374 v375 v376 v377 v378) 2 impl_Sparse_each_l0_kill impl_Sparse_each_l0_nx (bodyOf Try.f78 0) 0 (impl_Sparse_each_l0_E v372 v373 v374 v375 v376 v377 v378 s) = (impl_Sparse_each_l0_T v373 v374 v375 v376 v377 s).bind fun y => .leaf (outS (impl_Sparse_each_l0_E v372 v373 v374 v375 v376 v377 v378) (impl_Sparse_each_l0_X v372 v373 v374 v375 v376 v377 v378) y) := by kernel_rfl
theorem impl_Sparse_each_l0_ok (v372 : Int) (v373 : List Int) (v374 : List Int) (v375 : List Nat) (v376 : Int) (v377 : Int) (v378 : List Nat) : LSound Try.prog 2 (impl_Sparse_each_LO v372 v373 v374 v375 v376 v377 v378) 0 (bodyOf Try.f78 0) := by
  intro e L out h
  exact lo_ok (E := impl_Sparse_each_l0_E v372 v373 v374 v375 v376 v377 v378) (gT := impl_Sparse_each_l0_T v373 v374 v375 v376 v377) (X := impl_Sparse_each_l0_X v372 v373 v374 v375 v376 v377 v378) (s0 := ((gI (vAt e 6)), (gRF L (cAt L (aAt (vAt e 2) 1) 0)))) tok impl_Sparse_each_hO mixed (LoopsOk_eq (l := []) (by kernel_rfl) trivial) (impl_Sparse_each_l0_be v372 v373 v374 v375 v376 v377 v378) rfl (by intro x; rfl) h
noncomputable def impl_Sparse_each_T (v372 : Int) (v373 : List Int) (v374 : List Int) (v375 : List Nat) (v376 : Int) (v377 : Int) (v378 : List Nat) : Tree ((List Nat)) :=
  (.grd (inb v376 v373.length) <|
  (.need (some (impl_Sparse_each_l0_E v372 v373 v374 v375 v376 v377 v378 (nth v373 (Int.toNat v376), v378)) = some (impl_Sparse_each_l0_E v372 v373 v374 v375 v376 v377 v378 (nth v373 (Int.toNat v376), v378))) <|
  (.call (impl_Sparse_each_l0_g v373 v374 v375 v376 v377 (nth v373 (Int.toNat v376), v378)) fun v387 =>
  .leaf v387)))

noncomputable def impl_Sparse_each_g (v372 : Int) (v373 : List Int) (v374 : List Int) (v375 : List Nat) (v376 : Int) (v377 : Int) (v378 : List Nat) : Option ((List Nat)) := (impl_Sparse_each_T v372 v373 v374 v375 v376 v377 v378).run
def impl_Sparse_each_enc (v372 : Int) (v373 : List Int) (v374 : List Int) (v375 : List Nat) (v376 : Int) (v377 : Int) (v378 : List Nat) (y : (List Nat)) : Rs := (.tup [], [.gen [.own 1 0 ((y).length)] false 0, .row (.f32 y) 0])
theorem impl_Sparse_each_den (v372 : Int) (v373 : List Int) (v374 : List Int) (v375 : List Nat) (v376 : Int) (v377 : Int) (v378 : List Nat) : (den TT (tabD impl_Sparse_each_tab) (tabM impl_Sparse_each_tab) (impl_Sparse_each_LO v372 v373 v374 v375 v376 v377 v378) (codeOf Try.f78) ([.agg [.int .i64 v372, .bslc (BR.root 0) (.i64 v373), .bslc (BR.root 1) (.i64 v374), .bslc (BR.root 2) (.f32 v375)], .int .i64 v376, .fn 79 [.bptr (BR.root 3) [.int .i64 v377], .ptr 0 (0 : Nat) 0 (1 : Nat)]] ++ List.replicate (Try.f78.ntmps - ([.agg [.int .i64 v372, .bslc (BR.root 0) (.i64 v373), .bslc (BR.root 1) (.i64 v374), .bslc (BR.root 2) (.f32 v375)], .int .i64 v376, .fn 79 [.bptr (BR.root 3) [.int .i64 v377], .ptr 0 (0 : Nat) 0 (1 : Nat)]] : List DV).length) .undef) [.gen [.own 1 0 v378.length] false 0, .row (.f32 v378) 0]).bind (retD TT Try.f78.results.toList 2) = (impl_Sparse_each_T v372 v373 v374 v375 v376 v377 v378).bind fun y => .leaf (impl_Sparse_each_enc v372 v373 v374 v375 v376 v377 v378 y) := by kernel_rfl
theorem impl_Sparse_each_fn (v372 : Int) (v373 : List Int) (v374 : List Int) (v375 : List Nat) (v376 : Int) (v377 : Int) (v378 : List Nat) (F : Fr) (hm : F.ids.length = 2) (h0 : St F [.gen [.own 1 0 v378.length] false 0, .row (.f32 v378) 0] F.H0) (hA : DVs.Ok F [.gen [.own 1 0 v378.length] false 0, .row (.f32 v378) 0] [.agg [.int .i64 v372, .bslc (BR.root 0) (.i64 v373), .bslc (BR.root 1) (.i64 v374), .bslc (BR.root 2) (.f32 v375)], .int .i64 v376, .fn 79 [.bptr (BR.root 3) [.int .i64 v377], .ptr 0 (0 : Nat) 0 (1 : Nat)]]) {y : (List Nat)} (hy : impl_Sparse_each_g v372 v373 v374 v375 v376 v377 v378 = some y) : ∃ H', FnOk Try.prog 78 (DVs.av F [.agg [.int .i64 v372, .bslc (BR.root 0) (.i64 v373), .bslc (BR.root 1) (.i64 v374), .bslc (BR.root 2) (.f32 v375)], .int .i64 v376, .fn 79 [.bptr (BR.root 3) [.int .i64 v377], .ptr 0 (0 : Nat) 0 (1 : Nat)]]) F.H0 ((impl_Sparse_each_enc v372 v373 v374 v375 v376 v377 v378 y).1.av F) H' ∧ St F (impl_Sparse_each_enc v372 v373 v374 v375 v376 v377 v378 y).2 H' ∧ (impl_Sparse_each_enc v372 v373 v374 v375 v376 v377 v378 y).1.Ok F (impl_Sparse_each_enc v372 v373 v374 v375 v376 v377 v378 y).2 :=
  fn_fin tok impl_Sparse_each_hO mixed Try.func78 Try.call78 (by kernel_rfl) (LoopsOk_eq (l := [(0, bodyOf Try.f78 0)]) (by kernel_rfl) ⟨impl_Sparse_each_l0_ok v372 v373 v374 v375 v376 v377 v378, trivial⟩) (impl_Sparse_each_den v372 v373 v374 v375 v376 v377 v378) hy hm h0 hA
noncomputable def impl_Sparse_each_F : DFn := fun args L =>
  match args with
  | [.agg [.int .i64 v372, a1, a2, a3], .int .i64 v376, .fn 79 [a4, a5]] =>
    optT (rowI64 L a1) fun v373 =>
    optT (rowI64 L a2) fun v374 =>
    optT (rowF32 L a3) fun v375 =>
    optT (cellsOf L 1 a4) fun cs3 =>
    (match cs3 with
    | [.int .i64 v377] =>
    optT (genOf L 1 false a5) fun qg4 =>
    (match qg4.2 with
    | [a6] =>
    optT (ownF32 L a6) fun qv378 =>
    (match sepB [qg4.1, qv378.1] [a1, a2, a3, DV.tip a4] with
    | true =>
    .call (impl_Sparse_each_g v372 v373 v374 v375 v376 v377 qv378.2) fun y => .grd (decide (y.length = qv378.2.length)) (.leaf (.tup [], setB L [(qg4.1, .gen [.own qv378.1 (verAt L qv378.1) ((y).length)] false (verAt L qg4.1)), (qv378.1, .row (.f32 y) (verAt L qv378.1))] ++ []))
    | false => .fail)
    | _ => .fail)
    | _ => .fail)
  | _ => .fail
theorem impl_Sparse_each_Fok : COk Try.prog 78 impl_Sparse_each_F false := by
  intro F L H args r L' hs ha hr
  unfold impl_Sparse_each_F at hr
  split at hr
  · rename_i v372 a1 a2 a3 v376 a4 a5
    obtain ⟨v373, hv373, hr⟩ := optT_run hr
    obtain ⟨v374, hv374, hr⟩ := optT_run hr
    obtain ⟨v375, hv375, hr⟩ := optT_run hr
    obtain ⟨cs3, hcp3, hr⟩ := optT_run hr
    split at hr
    · rename_i v377
      obtain ⟨⟨jg4, cg4⟩, hg4, hr⟩ := optT_run hr
      simp only at hr
      split at hr
      · rename_i a6
        obtain ⟨hge4, hgu4, hga4, hgn4, hgc4, hgf4⟩ := genOf_spec hs (DVs.okAt (DVs.okAt ha 2 rfl) 1 rfl) hg4
        obtain ⟨⟨jv378, v378⟩, hqv378, hr⟩ := optT_run hr
        simp only at hr
        split at hr
        · rename_i hsep
          obtain ⟨hnd, hsepv⟩ := sepB_spec hsep
          simp only [Tree.run] at hr
          obtain ⟨y, hy, hr⟩ := Option.bind_eq_some_iff.1 hr
          try simp only [Tree.run] at hr
          obtain ⟨hl0, hr⟩ := ite_run hr
          simp only [Option.some.injEq, Prod.mk.injEq] at hr
          obtain ⟨rfl, rfl⟩ := hr
          obtain ⟨hr1, hu1, ha1, hb1⟩ := (ownR_spec (DVs.okAt hgc4 0 rfl) (ownF32_or hqv378))
          exact mutG_ok hs [a1, a2, a3, a4, a5, a6] ⟨(DVs.okAt (DVs.okAt ha 0 rfl) 1 rfl), (DVs.okAt (DVs.okAt ha 0 rfl) 2 rfl), (DVs.okAt (DVs.okAt ha 0 rfl) 3 rfl), (DVs.okAt (DVs.okAt ha 2 rfl) 0 rfl), (DVs.okAt (DVs.okAt ha 2 rfl) 1 rfl), (DVs.okAt hgc4 0 rfl), trivial⟩ [.agg [.int .i64 v372, a1, a2, a3], .int .i64 v376, .fn 79 [a4, a5]] [.agg [.int .i64 v372, .bslc (BR.root 0) (.i64 v373), .bslc (BR.root 1) (.i64 v374), .bslc (BR.root 2) (.f32 v375)], .int .i64 v376, .fn 79 [.bptr (BR.root 3) [.int .i64 v377], .ptr 0 (0 : Nat) 0 (1 : Nat)]] [jg4, jv378] [verAt L jg4, verAt L jv378] [.gen [.own 1 0 v378.length] false 0, .row (.f32 v378) 0] [.gen [.own 1 0 ((y).length)] false 0, .row (.f32 y) 0] [.gen [.own jv378 (verAt L jv378) ((y).length)] false (verAt L jg4), .row (.f32 y) (verAt L jv378)] [] hnd rfl rfl (fun j hj => by
              simp at hj
              rcases hj with rfl | rfl
              · exact ex_lt hge4
              · exact ex_lt hr1) (fun j hj => by
              simp at hj
              rcases hj with rfl | rfl
              · exact reach_refs (by simp [DVs.refs, DV.refs, hgu4])
              · exact reach_1 (deep_mem (by simp [DVs.refs, DV.refs, hgu4]) hge4 (by simp [DVs.refs, DV.refs, hu1]))) (fun F' h0 hi hρ ab hS => by
              have ab0 := ab 0 _ rfl; have ab1 := ab 1 _ rfl;
              refine ⟨fun i j b' h1 h2 => ?_, by simp [DBlk.blk, DVs.av, DV.av, BR.av, hρ, Row.len, hga4, ab0, ha1, ab1], fun hst => impl_Sparse_each_fn v372 v373 v374 v375 v376 v377 v378 F' (by rw [hi]; rfl) hst ⟨⟨trivial, bslcM hS (by rw [hρ]; rfl) (hsepv a1 (by simp)) (DVs.okAt (DVs.okAt ha 0 rfl) 1 rfl) (rowI64_or hv373), bslcM hS (by rw [hρ]; rfl) (hsepv a2 (by simp)) (DVs.okAt (DVs.okAt ha 0 rfl) 2 rfl) (rowI64_or hv374), bslcM hS (by rw [hρ]; rfl) (hsepv a3 (by simp)) (DVs.okAt (DVs.okAt ha 0 rfl) 3 rfl) (rowF32_or hv375), trivial⟩, trivial, ⟨(bptrM hS (by rw [hρ]; rfl) (hsepv (DV.tip a4) (by simp)) (DVs.okAt (DVs.okAt ha 2 rfl) 0 rfl) hcp3 (by simp [DBlk.blk, DVs.av, DV.av, BR.av, hρ, Row.len, hga4, ab0, ha1, ab1]) ⟨trivial, trivial⟩), ⟨_, rfl, Nat.le_refl _, by decide, Nat.le_refl _, fun _ => rfl⟩, trivial⟩, trivial⟩ hy⟩
              rcases i with _ | _ | i
              · simp at h1 h2; subst h1; subst h2; obtain ⟨ver_, hv_⟩ := hge4; exact ⟨_, hv_, by simp [DBlk.blk, DVs.av, DV.av, BR.av, hρ, Row.len, hga4, ab0, ha1, ab1], ⟨⟨⟨_, rfl, Nat.le_refl _, Nat.le_refl _, fun _ => rfl, (ownR_spec (DVs.okAt hgc4 0 rfl) (ownF32_or hqv378)).2.2.2⟩, trivial⟩, fun hf => by cases hf⟩⟩
              · simp at h1 h2; subst h1; subst h2; obtain ⟨ver_, hv_⟩ := hr1; exact ⟨_, hv_, rfl, hb1⟩
              · simp at h1) rfl rfl (fun i j b b' h1 h2 h3 => by
              rcases i with _ | _ | i
              · simp at h1; subst h1; cases h3; exact growG hge4 rfl h2
              · simp at h1; subst h1; cases h3; exact growK hr1 (of_decide_eq_true hl0) h2
              · simp at h1)
        · cases hr
      · cases hr
    · cases hr
  · cases hr
/-! impl.SparseRootSolve$1 -/
noncomputable def impl_SparseRootSolve_1_LO (v389 : Int) (v390 : Int) (v391 : List Int) (v392 : List Int) (v393 : List Nat) : LOr := fun id e L =>
  match id with
  | _ => .fail
noncomputable def impl_SparseRootSolve_1_tab : List (FuncId × DFn × Bool) := []
theorem impl_SparseRootSolve_1_hO : OrcOk Try.prog (tabD impl_SparseRootSolve_1_tab) (tabM impl_SparseRootSolve_1_tab) := tabD_nil _
noncomputable def impl_SparseRootSolve_1_T (v389 : Int) (v391 : List Int) (v393 : List Nat) : Tree (Nat) :=
  (.grd (inb (IntKind.i64.wrap (v389 + (1 : Int))) v391.length) <|
  (.grd (inb (IntKind.i64.wrap ((nth v391 (Int.toNat (IntKind.i64.wrap (v389 + (1 : Int))))) - (1 : Int))) v393.length) <|
  .leaf (nth v393 (Int.toNat (IntKind.i64.wrap ((nth v391 (Int.toNat (IntKind.i64.wrap (v389 + (1 : Int))))) - (1 : Int)))))))

noncomputable def impl_SparseRootSolve_1_g (v389 : Int) (v391 : List Int) (v393 : List Nat) : Option (Nat) := (impl_SparseRootSolve_1_T v389 v391 v393).run
def impl_SparseRootSolve_1_enc (v389 : Int) (v390 : Int) (v391 : List Int) (v392 : List Int) (v393 : List Nat) (y : Nat) : Rs := (.flt .f32 y, [])
theorem impl_SparseRootSolve_1_den (v389 : Int) (v390 : Int) (v391 : List Int) (v392 : List Int) (v393 : List Nat) : (den TT (tabD impl_SparseRootSolve_1_tab) (tabM impl_SparseRootSolve_1_tab) (impl_SparseRootSolve_1_LO v389 v390 v391 v392 v393) (codeOf Try.f77) ([.int .i64 v389, .bptr (BR.root 0) [.int .i64 v390, .bslc (BR.root 1) (.i64 v391), .bslc (BR.root 2) (.i64 v392), .bslc (BR.root 3) (.f32 v393)]] ++ List.replicate (Try.f77.ntmps - ([.int .i64 v389, .bptr (BR.root 0) [.int .i64 v390, .bslc (BR.root 1) (.i64 v391), .bslc (BR.root 2) (.i64 v392), .bslc (BR.root 3) (.f32 v393)]] : List DV).length) .undef) []).bind (retD TT Try.f77.results.toList 0) = (impl_SparseRootSolve_1_T v389 v391 v393).bind fun y => .leaf (impl_SparseRootSolve_1_enc v389 v390 v391 v392 v393 y) := by kernel_rfl
theorem impl_SparseRootSolve_1_fn (v389 : Int) (v390 : Int) (v391 : List Int) (v392 : List Int) (v393 : List Nat) (F : Fr) (hm : F.ids.length = 0) (h0 : St F [] F.H0) (hA : DVs.Ok F [] [.int .i64 v389, .bptr (BR.root 0) [.int .i64 v390, .bslc (BR.root 1) (.i64 v391), .bslc (BR.root 2) (.i64 v392), .bslc (BR.root 3) (.f32 v393)]]) {y : Nat} (hy : impl_SparseRootSolve_1_g v389 v391 v393 = some y) : ∃ H', FnOk Try.prog 77 (DVs.av F [.int .i64 v389, .bptr (BR.root 0) [.int .i64 v390, .bslc (BR.root 1) (.i64 v391), .bslc (BR.root 2) (.i64 v392), .bslc (BR.root 3) (.f32 v393)]]) F.H0 ((impl_SparseRootSolve_1_enc v389 v390 v391 v392 v393 y).1.av F) H' ∧ St F (impl_SparseRootSolve_1_enc v389 v390 v391 v392 v393 y).2 H' ∧ (impl_SparseRootSolve_1_enc v389 v390 v391 v392 v393 y).1.Ok F (impl_SparseRootSolve_1_enc v389 v390 v391 v392 v393 y).2 :=
  fn_fin tok impl_SparseRootSolve_1_hO mixed Try.func77 Try.call77 (by kernel_rfl) (LoopsOk_eq (l := []) (by kernel_rfl) trivial) (impl_SparseRootSolve_1_den v389 v390 v391 v392 v393) hy hm h0 hA
noncomputable def impl_SparseRootSolve_1_F : DFn := fun args L =>
  match args with
  | [.int .i64 v389, a1] =>
    optT (cellsOf L 4 a1) fun cs0 =>
    (match cs0 with
    | [.int .i64 v390, a2, a3, a4] =>
    optT (rowI64 L a2) fun v391 =>
    optT (rowI64 L a3) fun v392 =>
    optT (rowF32 L a4) fun v393 =>
    .call (impl_SparseRootSolve_1_g v389 v391 v393) fun y => .leaf (.flt .f32 y, L)
    | _ => .fail)
  | _ => .fail
theorem impl_SparseRootSolve_1_Fok : COk Try.prog 77 impl_SparseRootSolve_1_F true := by
  intro F L H args r L' hs ha hr
  unfold impl_SparseRootSolve_1_F at hr
  split at hr
  · rename_i v389 a1
    obtain ⟨cs0, hcp0, hr⟩ := optT_run hr
    split at hr
    · rename_i v390 a2 a3 a4
      obtain ⟨v391, hv391, hr⟩ := optT_run hr
      obtain ⟨v392, hv392, hr⟩ := optT_run hr
      obtain ⟨v393, hv393, hr⟩ := optT_run hr
      simp only [Tree.run] at hr
      obtain ⟨y, hy, hr⟩ := Option.bind_eq_some_iff.1 hr
      simp only [Tree.run, Option.some.injEq, Prod.mk.injEq] at hr
      obtain ⟨rfl, rfl⟩ := hr
      exact call_ok0 hs (fun k => (([a1.av F, a2.av F, a3.av F, a4.av F] : List AV)[k]?).getD .top) [.int .i64 v389, a1] [.int .i64 v389, .bptr (BR.root 0) [.int .i64 v390, .bslc (BR.root 1) (.i64 v391), .bslc (BR.root 2) (.i64 v392), .bslc (BR.root 3) (.f32 v393)]] (fun F' h0 hi hρ => ⟨by simp [DVs.av, DV.av, BR.av, hρ], impl_SparseRootSolve_1_fn v389 v390 v391 v392 v393 F' (by rw [hi]; rfl) (st_nil hi) ⟨trivial, bptr_ok hi (by rw [h0]; simpa [DVs.av, DV.av, BR.av, hρ] using (cellsOf_ok hs (DVs.okAt ha 1 rfl) hcp0).1) ⟨trivial, bslc_ok hi (by rw [h0, hρ]; exact rowI64_ok hs (DVs.okAt (cellsOf_ok hs (DVs.okAt ha 1 rfl) hcp0).2 1 rfl) hv391), bslc_ok hi (by rw [h0, hρ]; exact rowI64_ok hs (DVs.okAt (cellsOf_ok hs (DVs.okAt ha 1 rfl) hcp0).2 2 rfl) hv392), bslc_ok hi (by rw [h0, hρ]; exact rowF32_ok hs (DVs.okAt (cellsOf_ok hs (DVs.okAt ha 1 rfl) hcp0).2 3 rfl) hv393), trivial⟩, trivial⟩ hy⟩) rfl
    · cases hr
  · cases hr
/-! impl.SparseRootSolve$3 -/
noncomputable def impl_SparseRootSolve_3_LO (v418 : Int) (v419 : Nat) (v420 : Int) (v421 : List Nat) : LOr := fun id e L =>
  match id with
  | _ => .fail
noncomputable def impl_SparseRootSolve_3_tab : List (FuncId × DFn × Bool) := [(80, impl_mul_F, true)]
theorem impl_SparseRootSolve_3_hO : OrcOk Try.prog (tabD impl_SparseRootSolve_3_tab) (tabM impl_SparseRootSolve_3_tab) := tabD_cons impl_mul_Fok (tabD_nil _)
noncomputable def impl_SparseRootSolve_3_T (v418 : Int) (v419 : Nat) (v420 : Int) (v421 : List Nat) : Tree ((List Nat)) :=
  (.br (decide (v418 < v420)) (
   (.grd (inb v418 v421.length) <|
   (.grd (inb v420 v421.length) <|
   (.grd (inb v418 v421.length) <|
   .leaf (List.set v421 (Int.toNat v418) (fsub .f32 (nth v421 (Int.toNat v418)) (impl_mul_v v419 (nth v421 (Int.toNat v420))))))))
  ) (
   .leaf v421
  ))

noncomputable def impl_SparseRootSolve_3_g (v418 : Int) (v419 : Nat) (v420 : Int) (v421 : List Nat) : Option ((List Nat)) := (impl_SparseRootSolve_3_T v418 v419 v420 v421).run
def impl_SparseRootSolve_3_enc (v418 : Int) (v419 : Nat) (v420 : Int) (v421 : List Nat) (y : (List Nat)) : Rs := (.tup [], [.gen [.own 1 0 ((y).length)] false 0, .row (.f32 y) 0])
theorem impl_SparseRootSolve_3_den (v418 : Int) (v419 : Nat) (v420 : Int) (v421 : List Nat) : (den TT (tabD impl_SparseRootSolve_3_tab) (tabM impl_SparseRootSolve_3_tab) (impl_SparseRootSolve_3_LO v418 v419 v420 v421) (codeOf Try.f81) ([.int .i64 v418, .flt .f32 v419, .bptr (BR.root 0) [.int .i64 v420], .ptr 0 (0 : Nat) 0 (1 : Nat)] ++ List.replicate (Try.f81.ntmps - ([.int .i64 v418, .flt .f32 v419, .bptr (BR.root 0) [.int .i64 v420], .ptr 0 (0 : Nat) 0 (1 : Nat)] : List DV).length) .undef) [.gen [.own 1 0 v421.length] false 0, .row (.f32 v421) 0]).bind (retD TT Try.f81.results.toList 2) = (impl_SparseRootSolve_3_T v418 v419 v420 v421).bind fun y => .leaf (impl_SparseRootSolve_3_enc v418 v419 v420 v421 y) := by kernel_rfl
theorem impl_SparseRootSolve_3_fn (v418 : Int) (v419 : Nat) (v420 : Int) (v421 : List Nat) (F : Fr) (hm : F.ids.length = 2) (h0 : St F [.gen [.own 1 0 v421.length] false 0, .row (.f32 v421) 0] F.H0) (hA : DVs.Ok F [.gen [.own 1 0 v421.length] false 0, .row (.f32 v421) 0] [.int .i64 v418, .flt .f32 v419, .bptr (BR.root 0) [.int .i64 v420], .ptr 0 (0 : Nat) 0 (1 : Nat)]) {y : (List Nat)} (hy : impl_SparseRootSolve_3_g v418 v419 v420 v421 = some y) : ∃ H', FnOk Try.prog 81 (DVs.av F [.int .i64 v418, .flt .f32 v419, .bptr (BR.root 0) [.int .i64 v420], .ptr 0 (0 : Nat) 0 (1 : Nat)]) F.H0 ((impl_SparseRootSolve_3_enc v418 v419 v420 v421 y).1.av F) H' ∧ St F (impl_SparseRootSolve_3_enc v418 v419 v420 v421 y).2 H' ∧ (impl_SparseRootSolve_3_enc v418 v419 v420 v421 y).1.Ok F (impl_SparseRootSolve_3_enc v418 v419 v420 v421 y).2 :=
  fn_fin tok impl_SparseRootSolve_3_hO mixed Try.func81 Try.call81 (by kernel_rfl) (LoopsOk_eq (l := []) (by kernel_rfl) trivial) (impl_SparseRootSolve_3_den v418 v419 v420 v421) hy hm h0 hA
noncomputable def impl_SparseRootSolve_3_F : DFn := fun args L =>
  match args with
  | [.int .i64 v418, .flt .f32 v419, a1, a2] =>
    optT (cellsOf L 1 a1) fun cs0 =>
    (match cs0 with
    | [.int .i64 v420] =>
    optT (genOf L 1 false a2) fun qg1 =>
    (match qg1.2 with
    | [a3] =>
    optT (ownF32 L a3) fun qv421 =>
    (match sepB [qg1.1, qv421.1] [DV.tip a1] with
    | true =>
    .call (impl_SparseRootSolve_3_g v418 v419 v420 qv421.2) fun y => .grd (decide (y.length = qv421.2.length)) (.leaf (.tup [], setB L [(qg1.1, .gen [.own qv421.1 (verAt L qv421.1) ((y).length)] false (verAt L qg1.1)), (qv421.1, .row (.f32 y) (verAt L qv421.1))] ++ []))
    | false => .fail)
    | _ => .fail)
    | _ => .fail)
  | _ => .fail
theorem impl_SparseRootSolve_3_Fok : COk Try.prog 81 impl_SparseRootSolve_3_F false := by
  intro F L H args r L' hs ha hr
  unfold impl_SparseRootSolve_3_F at hr
  split at hr
  · rename_i v418 v419 a1 a2
    obtain ⟨cs0, hcp0, hr⟩ := optT_run hr
    split at hr
    · rename_i v420
      obtain ⟨⟨jg1, cg1⟩, hg1, hr⟩ := optT_run hr
      simp only at hr
      split at hr
      · rename_i a3
        obtain ⟨hge1, hgu1, hga1, hgn1, hgc1, hgf1⟩ := genOf_spec hs (DVs.okAt ha 3 rfl) hg1
        obtain ⟨⟨jv421, v421⟩, hqv421, hr⟩ := optT_run hr
        simp only at hr
        split at hr
        · rename_i hsep
          obtain ⟨hnd, hsepv⟩ := sepB_spec hsep
          simp only [Tree.run] at hr
          obtain ⟨y, hy, hr⟩ := Option.bind_eq_some_iff.1 hr
          try simp only [Tree.run] at hr
          obtain ⟨hl0, hr⟩ := ite_run hr
          simp only [Option.some.injEq, Prod.mk.injEq] at hr
          obtain ⟨rfl, rfl⟩ := hr
          obtain ⟨hr1, hu1, ha1, hb1⟩ := (ownR_spec (DVs.okAt hgc1 0 rfl) (ownF32_or hqv421))
          exact mutG_ok hs [a1, a2, a3] ⟨(DVs.okAt ha 2 rfl), (DVs.okAt ha 3 rfl), (DVs.okAt hgc1 0 rfl), trivial⟩ [.int .i64 v418, .flt .f32 v419, a1, a2] [.int .i64 v418, .flt .f32 v419, .bptr (BR.root 0) [.int .i64 v420], .ptr 0 (0 : Nat) 0 (1 : Nat)] [jg1, jv421] [verAt L jg1, verAt L jv421] [.gen [.own 1 0 v421.length] false 0, .row (.f32 v421) 0] [.gen [.own 1 0 ((y).length)] false 0, .row (.f32 y) 0] [.gen [.own jv421 (verAt L jv421) ((y).length)] false (verAt L jg1), .row (.f32 y) (verAt L jv421)] [] hnd rfl rfl (fun j hj => by
              simp at hj
              rcases hj with rfl | rfl
              · exact ex_lt hge1
              · exact ex_lt hr1) (fun j hj => by
              simp at hj
              rcases hj with rfl | rfl
              · exact reach_refs (by simp [DVs.refs, DV.refs, hgu1])
              · exact reach_1 (deep_mem (by simp [DVs.refs, DV.refs, hgu1]) hge1 (by simp [DVs.refs, DV.refs, hu1]))) (fun F' h0 hi hρ ab hS => by
              have ab0 := ab 0 _ rfl; have ab1 := ab 1 _ rfl;
              refine ⟨fun i j b' h1 h2 => ?_, by simp [DBlk.blk, DVs.av, DV.av, BR.av, hρ, Row.len, hga1, ab0, ha1, ab1], fun hst => impl_SparseRootSolve_3_fn v418 v419 v420 v421 F' (by rw [hi]; rfl) hst ⟨trivial, trivial, (bptrM hS (by rw [hρ]; rfl) (hsepv (DV.tip a1) (by simp)) (DVs.okAt ha 2 rfl) hcp0 (by simp [DBlk.blk, DVs.av, DV.av, BR.av, hρ, Row.len, hga1, ab0, ha1, ab1]) ⟨trivial, trivial⟩), ⟨_, rfl, Nat.le_refl _, by decide, Nat.le_refl _, fun _ => rfl⟩, trivial⟩ hy⟩
              rcases i with _ | _ | i
              · simp at h1 h2; subst h1; subst h2; obtain ⟨ver_, hv_⟩ := hge1; exact ⟨_, hv_, by simp [DBlk.blk, DVs.av, DV.av, BR.av, hρ, Row.len, hga1, ab0, ha1, ab1], ⟨⟨⟨_, rfl, Nat.le_refl _, Nat.le_refl _, fun _ => rfl, (ownR_spec (DVs.okAt hgc1 0 rfl) (ownF32_or hqv421)).2.2.2⟩, trivial⟩, fun hf => by cases hf⟩⟩
              · simp at h1 h2; subst h1; subst h2; obtain ⟨ver_, hv_⟩ := hr1; exact ⟨_, hv_, rfl, hb1⟩
              · simp at h1) rfl rfl (fun i j b b' h1 h2 h3 => by
              rcases i with _ | _ | i
              · simp at h1; subst h1; cases h3; exact growG hge1 rfl h2
              · simp at h1; subst h1; cases h3; exact growK hr1 (of_decide_eq_true hl0) h2
              · simp at h1)
        · cases hr
      · cases hr
    · cases hr
  · cases hr
/-! (impl.Sparse).each -/
noncomputable def impl_Sparse_each_i1_l0_T (v431 : List Int) (v432 : List Int) (v433 : List Nat) (v434 : Int) (v435 : Int) (s : Int × (List Nat)) : Tree ((Int × (List Nat)) ⊕ ((List Nat))) :=
  (.grd (inb (IntKind.i64.wrap (v434 + (1 : Int))) v431.length) <|
  (.br (decide (s.1 < nth v431 (Int.toNat (IntKind.i64.wrap (v434 + (1 : Int)))))) (
   (.grd (inb s.1 v432.length) <|
   (.grd (inb s.1 v433.length) <|
   (.call (impl_SparseRootSolve_3_g (nth v432 (Int.toNat s.1)) (nth v433 (Int.toNat s.1)) v435 s.2) fun v444 =>
   (.grd (decide (v444.length = s.2.length)) <|
   .leaf (.inl (IntKind.i64.wrap (s.1 + (1 : Int)), v444))))))
  ) (
   .leaf (.inr s.2)
  )))

noncomputable def impl_Sparse_each_i1_l0_g (v431 : List Int) (v432 : List Int) (v433 : List Nat) (v434 : Int) (v435 : Int) (s0 : Int × (List Nat)) : Option ((List Nat)) := whileM (fun s => (impl_Sparse_each_i1_l0_T v431 v432 v433 v434 v435 s).run) s0
def impl_Sparse_each_i1_l0_E (v430 : Int) (v431 : List Int) (v432 : List Int) (v433 : List Nat) (v434 : Int) (v435 : Int) (v436 : List Nat) (s : Int × (List Nat)) : Sd := ([.top, .int .i64 v434, .fn 81 [.bptr (BR.root 3) [.int .i64 v435], .ptr 0 (0 : Nat) 0 (1 : Nat)], .ptr 2 (0 : Nat) 0 (4 : Nat), .top, .top, .int .i64 s.1, .top, .top, .top, .top, .top, .top, .top, .top, .top, .top, .top, .top, .top, .top, .top, .top, .top, .top, .top, .top, .top, .top, .top, .top, .top, .top, .top], [.gen [.own 1 0 ((s.2).length)] false 0, .row (.f32 s.2) 0, .gen [.int .i64 v430, .bslc (BR.root 0) (.i64 v431), .bslc (BR.root 1) (.i64 v432), .bslc (BR.root 2) (.f32 v433)] false 0])
def impl_Sparse_each_i1_l0_X (v430 : Int) (v431 : List Int) (v432 : List Int) (v433 : List Nat) (v434 : Int) (v435 : Int) (v436 : List Nat) (x : (List Nat)) : Out := (.normal, [.top, .top, .top, .top, .top, .top, .top, .top, .top, .top, .top, .top, .top, .top, .top, .top, .top, .top, .top, .top, .top, .top, .top, .top, .top, .top, .top, .top, .top, .top, .top, .top, .top, .top], [.gen [.own 1 0 ((x).length)] false 0, .row (.f32 x) 0])
def impl_Sparse_each_i1_l0_kill : List Nat := [1, 0, 0, 0, 1, 1, 0, 1, 1, 1, 1, 1, 1, 1, 1, 1, 1, 1, 1, 1, 1, 1, 1, 1, 1, 1, 1, 1, 1, 1, 1, 1, 1, 1]
def impl_Sparse_each_i1_l0_nx : Exit → List Nat
  | .exit 0 => [1, 1, 1, 1, 1, 1, 1, 1, 1, 1, 1, 1, 1, 1, 1, 1, 1, 1, 1, 1, 1, 1, 1, 1, 1, 1, 1, 1, 1, 1, 1, 1, 1, 1]
  | .ret => [1, 1, 1, 1, 1, 1, 1, 1, 1, 1, 1, 1, 1, 1, 1, 1, 1, 1, 1, 1, 1, 1, 1, 1, 1, 1, 1, 1, 1, 1, 1, 1, 1, 1]
  | _ => []
noncomputable def impl_Sparse_each_i1_LO (v430 : Int) (v431 : List Int) (v432 : List Int) (v433 : List Nat) (v434 : Int) (v435 : Int) (v436 : List Nat) : LOr := fun id e L =>
  match id with
  | 0 => .need (normA 2 impl_Sparse_each_i1_l0_kill e L = some (impl_Sparse_each_i1_l0_E v430 v431 v432 v433 v434 v435 v436 ((gI (vAt e 6)), (gRF L (cAt L (aAt (vAt e 2) 1) 0))))) (.call (impl_Sparse_each_i1_l0_g v431 v432 v433 v434 v435 ((gI (vAt e 6)), (gRF L (cAt L (aAt (vAt e 2) 1) 0)))) fun x => .leaf (impl_Sparse_each_i1_l0_X v430 v431 v432 v433 v434 v435 v436 x))
  | _ => .fail
noncomputable def impl_Sparse_each_i1_tab : List (FuncId × DFn × Bool) := [(81, impl_SparseRootSolve_3_F, false)]
theorem impl_Sparse_each_i1_hO : OrcOk Try.prog (tabD impl_Sparse_each_i1_tab) (tabM impl_Sparse_each_i1_tab) := tabD_cons impl_SparseRootSolve_3_Fok (tabD_nil _)
theorem impl_Sparse_each_i1_l0_be (v430 : Int) (v431 : List Int) (v432 : List Int) (v433 : List Nat) (v434 : Int) (v435 : Int) (v436 : List Nat) (s : Int × (List Nat)) : bodyT TT (tabD impl_Sparse_each_i1_tab) (tabM impl_Sparse_each_i1_tab) (impl_Sparse_each_i1_LO v430 v431 v432 v433 v434 v435 v436) 2 impl_Sparse_each_i1_l0_kill impl_Sparse_each_i1_l0_nx (bodyOf Try.f78 0) 0 (impl_Sparse_each_i1_l0_E v430 v431 v432 v433 v434 v435 v436 s) = (impl_Sparse_each_i1_l0_T v431 v432 v433 v434 v435 s).bind fun y => .leaf (outS (impl_Sparse_each_i1_l0_E v430 v431 v432 v433 v434 v435 v436) (impl_Sparse_each_i1_l0_X v430 v431 v432 v433 v434 v435 v436) y) := by kernel_rfl
theorem impl_Sparse_each_i1_l0_ok (v430 : Int) (v431 : List Int) (v432 : List Int) (v433 : List Nat) (v434 : Int) (v435 : Int) (v436 : List Nat) : LSound Try.prog 2 (impl_Sparse_each_i1_LO v430 v431 v432 v433 v434 v435 v436) 0 (bodyOf Try.f78 0) := by
  intro e L out h
  exact lo_ok (E := impl_Sparse_each_i1_l0_E v430 v431 v432 v433 v434 v435 v436) (gT := impl_Sparse_each_i1_l0_T v431 v432 v433 v434 v435) (X := impl_Sparse_each_i1_l0_X v430 v431 v432 v433 v434 v435 v436) (s0 := ((gI (vAt e 6)), (gRF L (cAt L (aAt (vAt e 2) 1) 0)))) tok impl_Sparse_each_i1_hO mixed (LoopsOk_eq (l := []) (by kernel_rfl) trivial) (impl_Sparse_each_i1_l0_be v430 v431 v432 v433 v434 v435 v436) rfl (by intro x; rfl) h
noncomputable def impl_Sparse_each_i1_T (v430 : Int) (v431 : List Int) (v432 : List Int) (v433 : List Nat) (v434 : Int) (v435 : Int) (v436 : List Nat) : Tree ((List Nat)) :=
  (.grd (inb v434 v431.length) <|
  (.need (some (impl_Sparse_each_i1_l0_E v430 v431 v432 v433 v434 v435 v436 (nth v431 (Int.toNat v434), v436)) = some (impl_Sparse_each_i1_l0_E v430 v431 v432 v433 v434 v435 v436 (nth v431 (Int.toNat v434), v436))) <|
  (.call (impl_Sparse_each_i1_l0_g v431 v432 v433 v434 v435 (nth v431 (Int.toNat v434), v436)) fun v445 =>
  .leaf v445)))

noncomputable def impl_Sparse_each_i1_g (v430 : Int) (v431 : List Int) (v432 : List Int) (v433 : List Nat) (v434 : Int) (v435 : Int) (v436 : List Nat) : Option ((List Nat)) := (impl_Sparse_each_i1_T v430 v431 v432 v433 v434 v435 v436).run
def impl_Sparse_each_i1_enc (v430 : Int) (v431 : List Int) (v432 : List Int) (v433 : List Nat) (v434 : Int) (v435 : Int) (v436 : List Nat) (y : (List Nat)) : Rs := (.tup [], [.gen [.own 1 0 ((y).length)] false 0, .row (.f32 y) 0])
theorem impl_Sparse_each_i1_den (v430 : Int) (v431 : List Int) (v432 : List Int) (v433 : List Nat) (v434 : Int) (v435 : Int) (v436 : List Nat) : (den TT (tabD impl_Sparse_each_i1_tab) (tabM impl_Sparse_each_i1_tab) (impl_Sparse_each_i1_LO v430 v431 v432 v433 v434 v435 v436) (codeOf Try.f78) ([.agg [.int .i64 v430, .bslc (BR.root 0) (.i64 v431), .bslc (BR.root 1) (.i64 v432), .bslc (BR.root 2) (.f32 v433)], .int .i64 v434, .fn 81 [.bptr (BR.root 3) [.int .i64 v435], .ptr 0 (0 : Nat) 0 (1 : Nat)]] ++ List.replicate (Try.f78.ntmps - ([.agg [.int .i64 v430, .bslc (BR.root 0) (.i64 v431), .bslc (BR.root 1) (.i64 v432), .bslc (BR.root 2) (.f32 v433)], .int .i64 v434, .fn 81 [.bptr (BR.root 3) [.int .i64 v435], .ptr 0 (0 : Nat) 0 (1 : Nat)]] : List DV).length) .undef) [.gen [.own 1 0 v436.length] false 0, .row (.f32 v436) 0]).bind (retD TT Try.f78.results.toList 2) = (impl_Sparse_each_i1_T v430 v431 v432 v433 v434 v435 v436).bind fun y => .leaf (impl_Sparse_each_i1_enc v430 v431 v432 v433 v434 v435 v436 y) := by kernel_rfl
theorem impl_Sparse_each_i1_fn (v430 : Int) (v431 : List Int) (v432 : List Int) (v433 : List Nat) (v434 : Int) (v435 : Int) (v436 : List Nat) (F : Fr) (hm : F.ids.length = 2) (h0 : St F [.gen [.own 1 0 v436.length] false 0, .row (.f32 v436) 0] F.H0) (hA : DVs.Ok F [.gen [.own 1 0 v436.length] false 0, .row (.f32 v436) 0] [.agg [.int .i64 v430, .bslc (BR.root 0) (.i64 v431), .bslc (BR.root 1) (.i64 v432), .bslc (BR.root 2) (.f32 v433)], .int .i64 v434, .fn 81 [.bptr (BR.root 3) [.int .i64 v435], .ptr 0 (0 : Nat) 0 (1 : Nat)]]) {y : (List Nat)} (hy : impl_Sparse_each_i1_g v430 v431 v432 v433 v434 v435 v436 = some y) : ∃ H', FnOk Try.prog 78 (DVs.av F [.agg [.int .i64 v430, .bslc (BR.root 0) (.i64 v431), .bslc (BR.root 1) (.i64 v432), .bslc (BR.root 2) (.f32 v433)], .int .i64 v434, .fn 81 [.bptr (BR.root 3) [.int .i64 v435], .ptr 0 (0 : Nat) 0 (1 : Nat)]]) F.H0 ((impl_Sparse_each_i1_enc v430 v431 v432 v433 v434 v435 v436 y).1.av F) H' ∧ St F (impl_Sparse_each_i1_enc v430 v431 v432 v433 v434 v435 v436 y).2 H' ∧ (impl_Sparse_each_i1_enc v430 v431 v432 v433 v434 v435 v436 y).1.Ok F (impl_Sparse_each_i1_enc v430 v431 v432 v433 v434 v435 v436 y).2 :=
  fn_fin tok impl_Sparse_each_i1_hO mixed Try.func78 Try.call78 (by kernel_rfl) (LoopsOk_eq (l := [(0, bodyOf Try.f78 0)]) (by kernel_rfl) ⟨impl_Sparse_each_i1_l0_ok v430 v431 v432 v433 v434 v435 v436, trivial⟩) (impl_Sparse_each_i1_den v430 v431 v432 v433 v434 v435 v436) hy hm h0 hA
noncomputable def impl_Sparse_each_i1_F : DFn := fun args L =>
  match args with
  | [.agg [.int .i64 v430, a1, a2, a3], .int .i64 v434, .fn 81 [a4, a5]] =>
    optT (rowI64 L a1) fun v431 =>
    optT (rowI64 L a2) fun v432 =>
    optT (rowF32 L a3) fun v433 =>
    optT (cellsOf L 1 a4) fun cs3 =>
    (match cs3 with
    | [.int .i64 v435] =>
    optT (genOf L 1 false a5) fun qg4 =>
    (match qg4.2 with
    | [a6] =>
    optT (ownF32 L a6) fun qv436 =>
    (match sepB [qg4.1, qv436.1] [a1, a2, a3, DV.tip a4] with
    | true =>
    .call (impl_Sparse_each_i1_g v430 v431 v432 v433 v434 v435 qv436.2) fun y => .grd (decide (y.length = qv436.2.length)) (.leaf (.tup [], setB L [(qg4.1, .gen [.own qv436.1 (verAt L qv436.1) ((y).length)] false (verAt L qg4.1)), (qv436.1, .row (.f32 y) (verAt L qv436.1))] ++ []))
    | false => .fail)
    | _ => .fail)
    | _ => .fail)
  | _ => .fail
theorem impl_Sparse_each_i1_Fok : COk Try.prog 78 impl_Sparse_each_i1_F false := by
  intro F L H args r L' hs ha hr
  unfold impl_Sparse_each_i1_F at hr
  split at hr
  · rename_i v430 a1 a2 a3 v434 a4 a5
    obtain ⟨v431, hv431, hr⟩ := optT_run hr
    obtain ⟨v432, hv432, hr⟩ := optT_run hr
    obtain ⟨v433, hv433, hr⟩ := optT_run hr
    obtain ⟨cs3, hcp3, hr⟩ := optT_run hr
    split at hr
    · rename_i v435
      obtain ⟨⟨jg4, cg4⟩, hg4, hr⟩ := optT_run hr
      simp only at hr
      split at hr
      · rename_i a6
        obtain ⟨hge4, hgu4, hga4, hgn4, hgc4, hgf4⟩ := genOf_spec hs (DVs.okAt (DVs.okAt ha 2 rfl) 1 rfl) hg4
        obtain ⟨⟨jv436, v436⟩, hqv436, hr⟩ := optT_run hr
        simp only at hr
        split at hr
        · rename_i hsep
          obtain ⟨hnd, hsepv⟩ := sepB_spec hsep
          simp only [Tree.run] at hr
          obtain ⟨y, hy, hr⟩ := Option.bind_eq_some_iff.1 hr
          try simp only [Tree.run] at hr
          obtain ⟨hl0, hr⟩ := ite_run hr
          simp only [Option.some.injEq, Prod.mk.injEq] at hr
          obtain ⟨rfl, rfl⟩ := hr
          obtain ⟨hr1, hu1, ha1, hb1⟩ := (ownR_spec (DVs.okAt hgc4 0 rfl) (ownF32_or hqv436))
          exact mutG_ok hs [a1, a2, a3, a4, a5, a6] ⟨(DVs.okAt (DVs.okAt ha 0 rfl) 1 rfl), (DVs.okAt (DVs.okAt ha 0 rfl) 2 rfl), (DVs.okAt (DVs.okAt ha 0 rfl) 3 rfl), (DVs.okAt (DVs.okAt ha 2 rfl) 0 rfl), (DVs.okAt (DVs.okAt ha 2 rfl) 1 rfl), (DVs.okAt hgc4 0 rfl), trivial⟩ [.agg [.int .i64 v430, a1, a2, a3], .int .i64 v434, .fn 81 [a4, a5]] [.agg [.int .i64 v430, .bslc (BR.root 0) (.i64 v431), .bslc (BR.root 1) (.i64 v432), .bslc (BR.root 2) (.f32 v433)], .int .i64 v434, .fn 81 [.bptr (BR.root 3) [.int .i64 v435], .ptr 0 (0 : Nat) 0 (1 : Nat)]] [jg4, jv436] [verAt L jg4, verAt L jv436] [.gen [.own 1 0 v436.length] false 0, .row (.f32 v436) 0] [.gen [.own 1 0 ((y).length)] false 0, .row (.f32 y) 0] [.gen [.own jv436 (verAt L jv436) ((y).length)] false (verAt L jg4), .row (.f32 y) (verAt L jv436)] [] hnd rfl rfl (fun j hj => by
              simp at hj
              rcases hj with rfl | rfl
              · exact ex_lt hge4
              · exact ex_lt hr1) (fun j hj => by
              simp at hj
              rcases hj with rfl | rfl
              · exact reach_refs (by simp [DVs.refs, DV.refs, hgu4])
              · exact reach_1 (deep_mem (by simp [DVs.refs, DV.refs, hgu4]) hge4 (by simp [DVs.refs, DV.refs, hu1]))) (fun F' h0 hi hρ ab hS => by
              have ab0 := ab 0 _ rfl; have ab1 := ab 1 _ rfl;
              refine ⟨fun i j b' h1 h2 => ?_, by simp [DBlk.blk, DVs.av, DV.av, BR.av, hρ, Row.len, hga4, ab0, ha1, ab1], fun hst => impl_Sparse_each_i1_fn v430 v431 v432 v433 v434 v435 v436 F' (by rw [hi]; rfl) hst ⟨⟨trivial, bslcM hS (by rw [hρ]; rfl) (hsepv a1 (by simp)) (DVs.okAt (DVs.okAt ha 0 rfl) 1 rfl) (rowI64_or hv431), bslcM hS (by rw [hρ]; rfl) (hsepv a2 (by simp)) (DVs.okAt (DVs.okAt ha 0 rfl) 2 rfl) (rowI64_or hv432), bslcM hS (by rw [hρ]; rfl) (hsepv a3 (by simp)) (DVs.okAt (DVs.okAt ha 0 rfl) 3 rfl) (rowF32_or hv433), trivial⟩, trivial, ⟨(bptrM hS (by rw [hρ]; rfl) (hsepv (DV.tip a4) (by simp)) (DVs.okAt (DVs.okAt ha 2 rfl) 0 rfl) hcp3 (by simp [DBlk.blk, DVs.av, DV.av, BR.av, hρ, Row.len, hga4, ab0, ha1, ab1]) ⟨trivial, trivial⟩), ⟨_, rfl, Nat.le_refl _, by decide, Nat.le_refl _, fun _ => rfl⟩, trivial⟩, trivial⟩ hy⟩
              rcases i with _ | _ | i
              · simp at h1 h2; subst h1; subst h2; obtain ⟨ver_, hv_⟩ := hge4; exact ⟨_, hv_, by simp [DBlk.blk, DVs.av, DV.av, BR.av, hρ, Row.len, hga4, ab0, ha1, ab1], ⟨⟨⟨_, rfl, Nat.le_refl _, Nat.le_refl _, fun _ => rfl, (ownR_spec (DVs.okAt hgc4 0 rfl) (ownF32_or hqv436)).2.2.2⟩, trivial⟩, fun hf => by cases hf⟩⟩
              · simp at h1 h2; subst h1; subst h2; obtain ⟨ver_, hv_⟩ := hr1; exact ⟨_, hv_, rfl, hb1⟩
              · simp at h1) rfl rfl (fun i j b b' h1 h2 h3 => by
              rcases i with _ | _ | i
              · simp at h1; subst h1; cases h3; exact growG hge4 rfl h2
              · simp at h1; subst h1; cases h3; exact growK hr1 (of_decide_eq_true hl0) h2
              · simp at h1)
        · cases hr
      · cases hr
    · cases hr
  · cases hr
/-! impl.allFinite -/
noncomputable def impl_allFinite_LO (v456 : List Nat) : LOr := fun id e L =>
  match id with
  | _ => .fail
noncomputable def impl_allFinite_tab : List (FuncId × DFn × Bool) := [(135, impl_areFinite_F, true)]
theorem impl_allFinite_hO : OrcOk Try.prog (tabD impl_allFinite_tab) (tabM impl_allFinite_tab) := tabD_cons impl_areFinite_Fok (tabD_nil _)
noncomputable def impl_allFinite_T (v456 : List Nat) : Tree ((Unit) ⊕ (Unit)) :=
  (.call (impl_areFinite_g v456) fun v457 =>
  (.br (!v457) (
   .leaf (.inl ())
  ) (
   .leaf (.inr ())
  )))

noncomputable def impl_allFinite_g (v456 : List Nat) : Option ((Unit) ⊕ (Unit)) := (impl_allFinite_T v456).run
def impl_allFinite_enc (v456 : List Nat) (y : (Unit) ⊕ (Unit)) : Rs := (match y with | .inl y => (.tup [.nilslc, .lit false], []) | .inr y => (.tup [.bslc (BR.root 0) (.f32 v456), .lit true], []))
theorem impl_allFinite_den (v456 : List Nat) : (den TT (tabD impl_allFinite_tab) (tabM impl_allFinite_tab) (impl_allFinite_LO v456) (codeOf Try.f69) ([.bslc (BR.root 0) (.f32 v456)] ++ List.replicate (Try.f69.ntmps - ([.bslc (BR.root 0) (.f32 v456)] : List DV).length) .undef) []).bind (retD TT Try.f69.results.toList 0) = (impl_allFinite_T v456).bind fun y => .leaf (impl_allFinite_enc v456 y) := by kernel_rfl
theorem impl_allFinite_fn (v456 : List Nat) (F : Fr) (hm : F.ids.length = 0) (h0 : St F [] F.H0) (hA : DVs.Ok F [] [.bslc (BR.root 0) (.f32 v456)]) {y : (Unit) ⊕ (Unit)} (hy : impl_allFinite_g v456 = some y) : ∃ H', FnOk Try.prog 69 (DVs.av F [.bslc (BR.root 0) (.f32 v456)]) F.H0 ((impl_allFinite_enc v456 y).1.av F) H' ∧ St F (impl_allFinite_enc v456 y).2 H' ∧ (impl_allFinite_enc v456 y).1.Ok F (impl_allFinite_enc v456 y).2 :=
  fn_fin tok impl_allFinite_hO mixed Try.func69 Try.call69 (by kernel_rfl) (LoopsOk_eq (l := []) (by kernel_rfl) trivial) (impl_allFinite_den v456) hy hm h0 hA
noncomputable def impl_allFinite_F : DFn := fun args L =>
  match args with
  | [a1] =>
    optT (rowF32 L a1) fun v456 =>
    .call (impl_allFinite_g v456) fun y => .sum y (fun y0 => .leaf (.tup [.nilslc, .lit false], L)) (fun z0 => .leaf (.tup [a1, .lit true], L))
  | _ => .fail
theorem impl_allFinite_Fok : COk Try.prog 69 impl_allFinite_F true := by
  intro F L H args r L' hs ha hr
  unfold impl_allFinite_F at hr
  split at hr
  · rename_i a1
    obtain ⟨v456, hv456, hr⟩ := optT_run hr
    simp only [Tree.run] at hr
    obtain ⟨y, hy, hr⟩ := Option.bind_eq_some_iff.1 hr
    cases y with
    | inl y =>
      simp only [Tree.run, Option.some.injEq, Prod.mk.injEq] at hr
      obtain ⟨rfl, rfl⟩ := hr
      exact call_ok0 hs (fun k => (([a1.av F] : List AV)[k]?).getD .top) [a1] [.bslc (BR.root 0) (.f32 v456)] (fun F' h0 hi hρ => ⟨by simp [DVs.av, DV.av, BR.av, hρ], impl_allFinite_fn v456 F' (by rw [hi]; rfl) (st_nil hi) ⟨bslc_ok hi (by rw [h0, hρ]; exact rowF32_ok hs (DVs.okAt ha 0 rfl) hv456), trivial⟩ hy⟩) rfl
    | inr y =>
      simp only [Tree.run, Option.some.injEq, Prod.mk.injEq] at hr
      obtain ⟨rfl, rfl⟩ := hr
      exact call_al0 hs (fun k => (([a1.av F] : List AV)[k]?).getD .top) [a1] [.bslc (BR.root 0) (.f32 v456)] (fun F' h0 hi hρ => ⟨by simp [DVs.av, DV.av, BR.av, hρ], impl_allFinite_fn v456 F' (by rw [hi]; rfl) (st_nil hi) ⟨bslc_ok hi (by rw [h0, hρ]; exact rowF32_ok hs (DVs.okAt ha 0 rfl) hv456), trivial⟩ hy⟩) (fun F' h0 hi hρ => by simp [impl_allFinite_enc, DVs.av, DV.av, BR.av, hρ]) ⟨(DVs.okAt ha 0 rfl), trivial, trivial⟩
  · cases hr
/-! impl.SparseRootSolve -/
noncomputable def impl_SparseRootSolve_l0_T (v224 : Int) (v225 : List Int) (v226 : List Int) (v227 : List Nat) (s : Int × (List Nat)) : Tree ((Int × (List Nat)) ⊕ ((List Nat))) :=
  (.br (decide (s.1 < v224)) (
   (.call (impl_Sparse_each_g v224 v225 v226 v227 s.1 s.1 s.2) fun v401 =>
   (.grd (decide (v401.length = s.2.length)) <|
   (.grd (inb s.1 ((v401).length)) <|
   (.call (impl_SparseRootSolve_1_g s.1 v225 v227) fun v402 =>
   (.grd (inb s.1 ((v401).length)) <|
   .leaf (.inl (IntKind.i64.wrap (s.1 + (1 : Int)), List.set v401 (Int.toNat s.1) (fdiv .f32 (nth v401 (Int.toNat s.1)) v402))))))))
  ) (
   .leaf (.inr s.2)
  ))

noncomputable def impl_SparseRootSolve_l0_g (v224 : Int) (v225 : List Int) (v226 : List Int) (v227 : List Nat) (s0 : Int × (List Nat)) : Option ((List Nat)) := whileM (fun s => (impl_SparseRootSolve_l0_T v224 v225 v226 v227 s).run) s0
def impl_SparseRootSolve_l0_E (v224 : Int) (v225 : List Int) (v226 : List Int) (v227 : List Nat) (v228 : List Nat) (s : Int × (List Nat)) : Sd := ([.top, .top, .ptr 0 (0 : Nat) 0 (4 : Nat), .top, .top, .top, .ptr 1 (0 : Nat) 0 (1 : Nat), .fn 77 [.ptr 0 (0 : Nat) 0 (4 : Nat)], .top, .top, .top, .top, .top, .top, .top, .top, .top, .top, .top, .top, .top, .top, .top, .int .i64 v224, .int .i64 s.1, .top, .top, .top, .top, .top, .top, .top, .top, .top, .top, .top, .top, .top, .top, .top, .top, .top, .top, .top, .top, .top, .top, .top, .top, .top, .top, .top, .top, .top, .top, .top, .top, .top, .top, .top, .top, .top, .top, .top, .top, .top], [.gen [.int .i64 v224, .bslc (BR.root 0) (.i64 v225), .bslc (BR.root 1) (.i64 v226), .bslc (BR.root 2) (.f32 v227)] false 0, .gen [.own 2 0 ((s.2).length)] false 0, .row (.f32 s.2) 0])
def impl_SparseRootSolve_l0_X (v224 : Int) (v225 : List Int) (v226 : List Int) (v227 : List Nat) (v228 : List Nat) (x : (List Nat)) : Out := (.normal, [.top, .top, .ptr 0 (0 : Nat) 0 (4 : Nat), .top, .top, .top, .ptr 1 (0 : Nat) 0 (1 : Nat), .fn 77 [.ptr 0 (0 : Nat) 0 (4 : Nat)], .top, .top, .top, .top, .top, .top, .top, .top, .top, .top, .top, .top, .top, .top, .top, .top, .top, .top, .top, .top, .top, .top, .top, .top, .top, .top, .top, .top, .top, .top, .top, .top, .top, .top, .top, .top, .top, .top, .top, .top, .top, .top, .top, .top, .top, .top, .top, .top, .top, .top, .top, .top, .top, .top, .top, .top, .top, .top], [.gen [.int .i64 v224, .bslc (BR.root 0) (.i64 v225), .bslc (BR.root 1) (.i64 v226), .bslc (BR.root 2) (.f32 v227)] false 0, .gen [.own 2 0 ((x).length)] false 0, .row (.f32 x) 0])
def impl_SparseRootSolve_l0_kill : List Nat := [1, 1, 0, 1, 1, 1, 0, 0, 1, 1, 1, 1, 1, 1, 1, 1, 1, 1, 1, 1, 1, 1, 1, 0, 0, 1, 1, 1, 1, 1, 1, 1, 1, 1, 1, 1, 1, 1, 1, 1, 1, 1, 1, 1, 1, 1, 1, 1, 1, 1, 1, 1, 1, 1, 1, 1, 1, 1, 1, 1, 1, 1, 1, 1, 1, 1]
def impl_SparseRootSolve_l0_nx : Exit → List Nat
  | .exit 0 => [1, 1, 0, 1, 1, 1, 0, 0, 1, 1, 1, 1, 1, 1, 1, 1, 1, 1, 1, 1, 1, 1, 1, 1, 1, 1, 1, 1, 1, 1, 1, 1, 1, 1, 1, 1, 1, 1, 1, 1, 1, 1, 1, 1, 1, 1, 1, 1, 1, 1, 1, 1, 1, 1, 1, 1, 1, 1, 1, 1, 1, 1, 1, 1, 1, 1]
  | .ret => [1, 1, 1, 1, 0, 0, 1, 1, 1, 1, 1, 1, 1, 1, 1, 1, 1, 1, 1, 1, 1, 1, 1, 1, 1, 1, 1, 1, 1, 1, 1, 1, 1, 1, 1, 1, 1, 1, 1, 1, 1, 1, 1, 1, 1, 1, 1, 1, 1, 1, 1, 1, 1, 1, 1, 1, 1, 1, 1, 1, 1, 1, 1, 1, 1, 1]
  | _ => []
noncomputable def impl_SparseRootSolve_l2_T (v224 : Int) (v225 : List Int) (v226 : List Int) (v227 : List Nat) (s : Int × (List Nat)) : Tree ((Int × (List Nat)) ⊕ ((List Nat))) :=
  (.br (decide ((0 : Int) ≤ s.1)) (
   (.grd (inb s.1 ((s.2).length)) <|
   (.call (impl_SparseRootSolve_1_g s.1 v225 v227) fun v453 =>
   (.grd (inb s.1 ((s.2).length)) <|
   (.call (impl_Sparse_each_i1_g v224 v225 v226 v227 s.1 s.1 (List.set s.2 (Int.toNat s.1) (fdiv .f32 (nth s.2 (Int.toNat s.1)) v453))) fun v454 =>
   (.grd (decide (v454.length = (List.set s.2 (Int.toNat s.1) (fdiv .f32 (nth s.2 (Int.toNat s.1)) v453)).length)) <|
   .leaf (.inl (IntKind.i64.wrap (s.1 - (1 : Int)), v454)))))))
  ) (
   .leaf (.inr s.2)
  ))

noncomputable def impl_SparseRootSolve_l2_g (v224 : Int) (v225 : List Int) (v226 : List Int) (v227 : List Nat) (s0 : Int × (List Nat)) : Option ((List Nat)) := whileM (fun s => (impl_SparseRootSolve_l2_T v224 v225 v226 v227 s).run) s0
def impl_SparseRootSolve_l2_E (v224 : Int) (v225 : List Int) (v226 : List Int) (v227 : List Nat) (v228 : List Nat) (s : Int × (List Nat)) : Sd := ([.top, .top, .ptr 0 (0 : Nat) 0 (4 : Nat), .top, .top, .top, .ptr 1 (0 : Nat) 0 (1 : Nat), .fn 77 [.ptr 0 (0 : Nat) 0 (4 : Nat)], .top, .ptr 2 (0 : Nat) 0 (1 : Nat), .top, .top, .top, .top, .top, .top, .top, .top, .top, .top, .top, .top, .top, .top, .top, .top, .top, .top, .top, .top, .top, .top, .top, .top, .top, .top, .top, .top, .top, .top, .top, .top, .top, .top, .top, .top, .top, .top, .top, .top, .top, .top, .top, .top, .top, .top, .top, .top, .top, .top, .top, .top, .top, .top, .top, .top], [.gen [.int .i64 v224, .bslc (BR.root 0) (.i64 v225), .bslc (BR.root 1) (.i64 v226), .bslc (BR.root 2) (.f32 v227)] false 0, .gen [.own 3 0 ((s.2).length)] false 0, .gen [.int .i64 s.1] true 0, .row (.f32 s.2) 0])
def impl_SparseRootSolve_l2_X (v224 : Int) (v225 : List Int) (v226 : List Int) (v227 : List Nat) (v228 : List Nat) (x : (List Nat)) : Out := (.normal, [.top, .top, .top, .top, .top, .top, .ptr 0 (0 : Nat) 0 (1 : Nat), .top, .top, .top, .top, .top, .top, .top, .top, .top, .top, .top, .top, .top, .top, .top, .top, .top, .top, .top, .top, .top, .top, .top, .top, .top, .top, .top, .top, .top, .top, .top, .top, .top, .top, .top, .top, .top, .top, .top, .top, .top, .top, .top, .top, .top, .top, .top, .top, .top, .top, .top, .top, .top, .top, .top, .top, .top, .top, .top], [.gen [.own 1 0 ((x).length)] false 0, .row (.f32 x) 0])
def impl_SparseRootSolve_l2_kill : List Nat := [1, 1, 0, 1, 1, 1, 0, 0, 1, 0, 1, 1, 1, 1, 1, 1, 1, 1, 1, 1, 1, 1, 1, 1, 1, 1, 1, 1, 1, 1, 1, 1, 1, 1, 1, 1, 1, 1, 1, 1, 1, 1, 1, 1, 1, 1, 1, 1, 1, 1, 1, 1, 1, 1, 1, 1, 1, 1, 1, 1, 1, 1, 1, 1, 1, 1]
def impl_SparseRootSolve_l2_nx : Exit → List Nat
  | .exit 2 => [1, 1, 1, 1, 1, 1, 0, 1, 1, 1, 1, 1, 1, 1, 1, 1, 1, 1, 1, 1, 1, 1, 1, 1, 1, 1, 1, 1, 1, 1, 1, 1, 1, 1, 1, 1, 1, 1, 1, 1, 1, 1, 1, 1, 1, 1, 1, 1, 1, 1, 1, 1, 1, 1, 1, 1, 1, 1, 1, 1, 1, 1, 1, 1, 1, 1]
  | .ret => [1, 1, 1, 1, 0, 0, 1, 1, 1, 1, 1, 1, 1, 1, 1, 1, 1, 1, 1, 1, 1, 1, 1, 1, 1, 1, 1, 1, 1, 1, 1, 1, 1, 1, 1, 1, 1, 1, 1, 1, 1, 1, 1, 1, 1, 1, 1, 1, 1, 1, 1, 1, 1, 1, 1, 1, 1, 1, 1, 1, 1, 1, 1, 1, 1, 1]
  | _ => []
noncomputable def impl_SparseRootSolve_LO (v224 : Int) (v225 : List Int) (v226 : List Int) (v227 : List Nat) (v228 : List Nat) : LOr := fun id e L =>
  match id with
  | 0 => .need (normA 0 impl_SparseRootSolve_l0_kill e L = some (impl_SparseRootSolve_l0_E v224 v225 v226 v227 v228 ((gI (vAt e 24)), (gRF L (cAt L (vAt e 6) 0))))) (.call (impl_SparseRootSolve_l0_g v224 v225 v226 v227 ((gI (vAt e 24)), (gRF L (cAt L (vAt e 6) 0)))) fun x => .leaf (impl_SparseRootSolve_l0_X v224 v225 v226 v227 v228 x))
  | 2 => .need (normA 0 impl_SparseRootSolve_l2_kill e L = some (impl_SparseRootSolve_l2_E v224 v225 v226 v227 v228 ((gI (cAt L (vAt e 9) 0)), (gRF L (cAt L (vAt e 6) 0))))) (.call (impl_SparseRootSolve_l2_g v224 v225 v226 v227 ((gI (cAt L (vAt e 9) 0)), (gRF L (cAt L (vAt e 6) 0)))) fun x => .leaf (impl_SparseRootSolve_l2_X v224 v225 v226 v227 v228 x))
  | _ => .fail
noncomputable def impl_SparseRootSolve_tab : List (FuncId × DFn × Bool) := [(75, impl_isLowerRoot_F, true), (68, impl_Sparse_takes_F, true), (76, slices_CloneF_F, true), (78, (orD (fun args => match args with | [_, _, .fn 79 _] => true | _ => false) impl_Sparse_each_F impl_Sparse_each_i1_F), false), (77, impl_SparseRootSolve_1_F, true), (69, impl_allFinite_F, true)]
theorem impl_SparseRootSolve_hO : OrcOk Try.prog (tabD impl_SparseRootSolve_tab) (tabM impl_SparseRootSolve_tab) := tabD_cons impl_isLowerRoot_Fok (tabD_cons impl_Sparse_takes_Fok (tabD_cons slices_CloneF_Fok (tabD_cons (orD_ok impl_Sparse_each_Fok impl_Sparse_each_i1_Fok) (tabD_cons impl_SparseRootSolve_1_Fok (tabD_cons impl_allFinite_Fok (tabD_nil _))))))
theorem impl_SparseRootSolve_l0_be (v224 : Int) (v225 : List Int) (v226 : List Int) (v227 : List Nat) (v228 : List Nat) (s : Int × (List Nat)) : bodyT TT (tabD impl_SparseRootSolve_tab) (tabM impl_SparseRootSolve_tab) (impl_SparseRootSolve_LO v224 v225 v226 v227 v228) 0 impl_SparseRootSolve_l0_kill impl_SparseRootSolve_l0_nx (bodyOf Try.f28 0) 0 (impl_SparseRootSolve_l0_E v224 v225 v226 v227 v228 s) = (impl_SparseRootSolve_l0_T v224 v225 v226 v227 s).bind fun y => .leaf (outS (impl_SparseRootSolve_l0_E v224 v225 v226 v227 v228) (impl_SparseRootSolve_l0_X v224 v225 v226 v227 v228) y) := by kernel_rfl
theorem impl_SparseRootSolve_l0_ok (v224 : Int) (v225 : List Int) (v226 : List Int) (v227 : List Nat) (v228 : List Nat) : LSound Try.prog 0 (impl_SparseRootSolve_LO v224 v225 v226 v227 v228) 0 (bodyOf Try.f28 0) := by
  intro e L out h
  exact lo_ok (E := impl_SparseRootSolve_l0_E v224 v225 v226 v227 v228) (gT := impl_SparseRootSolve_l0_T v224 v225 v226 v227) (X := impl_SparseRootSolve_l0_X v224 v225 v226 v227 v228) (s0 := ((gI (vAt e 24)), (gRF L (cAt L (vAt e 6) 0)))) tok impl_SparseRootSolve_hO mixed (LoopsOk_eq (l := []) (by kernel_rfl) trivial) (impl_SparseRootSolve_l0_be v224 v225 v226 v227 v228) rfl (by intro x; rfl) h
theorem impl_SparseRootSolve_l2_be (v224 : Int) (v225 : List Int) (v226 : List Int) (v227 : List Nat) (v228 : List Nat) (s : Int × (List Nat)) : bodyT TT (tabD impl_SparseRootSolve_tab) (tabM impl_SparseRootSolve_tab) (impl_SparseRootSolve_LO v224 v225 v226 v227 v228) 0 impl_SparseRootSolve_l2_kill impl_SparseRootSolve_l2_nx (bodyOf Try.f28 2) 2 (impl_SparseRootSolve_l2_E v224 v225 v226 v227 v228 s) = (impl_SparseRootSolve_l2_T v224 v225 v226 v227 s).bind fun y => .leaf (outS (impl_SparseRootSolve_l2_E v224 v225 v226 v227 v228) (impl_SparseRootSolve_l2_X v224 v225 v226 v227 v228) y) := by kernel_rfl
theorem impl_SparseRootSolve_l2_ok (v224 : Int) (v225 : List Int) (v226 : List Int) (v227 : List Nat) (v228 : List Nat) : LSound Try.prog 0 (impl_SparseRootSolve_LO v224 v225 v226 v227 v228) 2 (bodyOf Try.f28 2) := by
  intro e L out h
  exact lo_ok (E := impl_SparseRootSolve_l2_E v224 v225 v226 v227 v228) (gT := impl_SparseRootSolve_l2_T v224 v225 v226 v227) (X := impl_SparseRootSolve_l2_X v224 v225 v226 v227 v228) (s0 := ((gI (cAt L (vAt e 9) 0)), (gRF L (cAt L (vAt e 6) 0)))) tok impl_SparseRootSolve_hO mixed (LoopsOk_eq (l := []) (by kernel_rfl) trivial) (impl_SparseRootSolve_l2_be v224 v225 v226 v227 v228) rfl (by intro x; rfl) h
noncomputable def impl_SparseRootSolve_T (v224 : Int) (v225 : List Int) (v226 : List Int) (v227 : List Nat) (v228 : List Nat) : Tree ((Unit) ⊕ ((List Nat))) :=
  (.call (impl_isLowerRoot_g v224 v225 v226 v227) fun v331 =>
  (.br (!v331) (
   .leaf (.inl ())
  ) (
   (.call (impl_Sparse_takes_g v224 v225 v226 v227 v228) fun v342 =>
   (.br (!v342) (
    .leaf (.inl ())
   ) (
    (.call (slices_CloneF_g v228) fun v344 =>
    (.need (some (impl_SparseRootSolve_l0_E v224 v225 v226 v227 v228 ((0 : Int), ([] : List Nat) ++ v228)) = some (impl_SparseRootSolve_l0_E v224 v225 v226 v227 v228 ((0 : Int), ([] : List Nat) ++ v228))) <|
    (.call (impl_SparseRootSolve_l0_g v224 v225 v226 v227 ((0 : Int), ([] : List Nat) ++ v228)) fun v403 =>
    (.need (some (impl_SparseRootSolve_l2_E v224 v225 v226 v227 v228 (IntKind.i64.wrap (v224 - (1 : Int)), v403)) = some (impl_SparseRootSolve_l2_E v224 v225 v226 v227 v228 (IntKind.i64.wrap (v224 - (1 : Int)), v403))) <|
    (.call (impl_SparseRootSolve_l2_g v224 v225 v226 v227 (IntKind.i64.wrap (v224 - (1 : Int)), v403)) fun v455 =>
    (.call (impl_allFinite_g v455) fun v458 =>
    (.sum v458 (fun v459 =>
     .leaf (.inl ())
    ) (fun v460 =>
     .leaf (.inr v455)
    ))))))))
   )))
  )))

noncomputable def impl_SparseRootSolve_g (v224 : Int) (v225 : List Int) (v226 : List Int) (v227 : List Nat) (v228 : List Nat) : Option ((Unit) ⊕ ((List Nat))) := (impl_SparseRootSolve_T v224 v225 v226 v227 v228).run
def impl_SparseRootSolve_enc (v224 : Int) (v225 : List Int) (v226 : List Int) (v227 : List Nat) (v228 : List Nat) (y : (Unit) ⊕ ((List Nat))) : Rs := (match y with | .inl y => (.tup [.nilslc, .lit false], []) | .inr y => (.tup [.own 0 0 ((y).length), .lit true], [.row (.f32 y) 0]))
theorem impl_SparseRootSolve_den (v224 : Int) (v225 : List Int) (v226 : List Int) (v227 : List Nat) (v228 : List Nat) : (den TT (tabD impl_SparseRootSolve_tab) (tabM impl_SparseRootSolve_tab) (impl_SparseRootSolve_LO v224 v225 v226 v227 v228) (codeOf Try.f28) ([.agg [.int .i64 v224, .bslc (BR.root 0) (.i64 v225), .bslc (BR.root 1) (.i64 v226), .bslc (BR.root 2) (.f32 v227)], .bslc (BR.root 3) (.f32 v228)] ++ List.replicate (Try.f28.ntmps - ([.agg [.int .i64 v224, .bslc (BR.root 0) (.i64 v225), .bslc (BR.root 1) (.i64 v226), .bslc (BR.root 2) (.f32 v227)], .bslc (BR.root 3) (.f32 v228)] : List DV).length) .undef) []).bind (retD TT Try.f28.results.toList 0) = (impl_SparseRootSolve_T v224 v225 v226 v227 v228).bind fun y => .leaf (impl_SparseRootSolve_enc v224 v225 v226 v227 v228 y) := by kernel_rfl
theorem impl_SparseRootSolve_fn (v224 : Int) (v225 : List Int) (v226 : List Int) (v227 : List Nat) (v228 : List Nat) (F : Fr) (hm : F.ids.length = 0) (h0 : St F [] F.H0) (hA : DVs.Ok F [] [.agg [.int .i64 v224, .bslc (BR.root 0) (.i64 v225), .bslc (BR.root 1) (.i64 v226), .bslc (BR.root 2) (.f32 v227)], .bslc (BR.root 3) (.f32 v228)]) {y : (Unit) ⊕ ((List Nat))} (hy : impl_SparseRootSolve_g v224 v225 v226 v227 v228 = some y) : ∃ H', FnOk Try.prog 28 (DVs.av F [.agg [.int .i64 v224, .bslc (BR.root 0) (.i64 v225), .bslc (BR.root 1) (.i64 v226), .bslc (BR.root 2) (.f32 v227)], .bslc (BR.root 3) (.f32 v228)]) F.H0 ((impl_SparseRootSolve_enc v224 v225 v226 v227 v228 y).1.av F) H' ∧ St F (impl_SparseRootSolve_enc v224 v225 v226 v227 v228 y).2 H' ∧ (impl_SparseRootSolve_enc v224 v225 v226 v227 v228 y).1.Ok F (impl_SparseRootSolve_enc v224 v225 v226 v227 v228 y).2 :=
  fn_fin tok impl_SparseRootSolve_hO mixed Try.func28 Try.call28 (by kernel_rfl) (LoopsOk_eq (l := [(0, bodyOf Try.f28 0), (2, bodyOf Try.f28 2)]) (by kernel_rfl) ⟨impl_SparseRootSolve_l0_ok v224 v225 v226 v227 v228, impl_SparseRootSolve_l2_ok v224 v225 v226 v227 v228, trivial⟩) (impl_SparseRootSolve_den v224 v225 v226 v227 v228) hy hm h0 hA
noncomputable def impl_SparseRootSolve_F : DFn := fun args L =>
  match args with
  | [.agg [.int .i64 v224, a1, a2, a3], a4] =>
    optT (rowI64 L a1) fun v225 =>
    optT (rowI64 L a2) fun v226 =>
    optT (rowF32 L a3) fun v227 =>
    optT (rowF32 L a4) fun v228 =>
    .call (impl_SparseRootSolve_g v224 v225 v226 v227 v228) fun y => .sum y (fun y0 => .leaf (.tup [.nilslc, .lit false], L)) (fun z0 => .leaf (.tup [.own (L.length + 0) 0 ((z0).length), .lit true], L ++ [.row (.f32 z0) 0]))
  | _ => .fail
theorem impl_SparseRootSolve_Fok : COk Try.prog 28 impl_SparseRootSolve_F true := by
  intro F L H args r L' hs ha hr
  unfold impl_SparseRootSolve_F at hr
  split at hr
  · rename_i v224 a1 a2 a3 a4
    obtain ⟨v225, hv225, hr⟩ := optT_run hr
    obtain ⟨v226, hv226, hr⟩ := optT_run hr
    obtain ⟨v227, hv227, hr⟩ := optT_run hr
    obtain ⟨v228, hv228, hr⟩ := optT_run hr
    simp only [Tree.run] at hr
    obtain ⟨y, hy, hr⟩ := Option.bind_eq_some_iff.1 hr
    cases y with
    | inl y =>
      simp only [Tree.run, Option.some.injEq, Prod.mk.injEq] at hr
      obtain ⟨rfl, rfl⟩ := hr
      exact call_ok0 hs (fun k => (([a1.av F, a2.av F, a3.av F, a4.av F] : List AV)[k]?).getD .top) [.agg [.int .i64 v224, a1, a2, a3], a4] [.agg [.int .i64 v224, .bslc (BR.root 0) (.i64 v225), .bslc (BR.root 1) (.i64 v226), .bslc (BR.root 2) (.f32 v227)], .bslc (BR.root 3) (.f32 v228)] (fun F' h0 hi hρ => ⟨by simp [DVs.av, DV.av, BR.av, hρ], impl_SparseRootSolve_fn v224 v225 v226 v227 v228 F' (by rw [hi]; rfl) (st_nil hi) ⟨⟨trivial, bslc_ok hi (by rw [h0, hρ]; exact rowI64_ok hs (DVs.okAt (DVs.okAt ha 0 rfl) 1 rfl) hv225), bslc_ok hi (by rw [h0, hρ]; exact rowI64_ok hs (DVs.okAt (DVs.okAt ha 0 rfl) 2 rfl) hv226), bslc_ok hi (by rw [h0, hρ]; exact rowF32_ok hs (DVs.okAt (DVs.okAt ha 0 rfl) 3 rfl) hv227), trivial⟩, bslc_ok hi (by rw [h0, hρ]; exact rowF32_ok hs (DVs.okAt ha 1 rfl) hv228), trivial⟩ hy⟩) rfl
    | inr y =>
      simp only [Tree.run, Option.some.injEq, Prod.mk.injEq] at hr
      obtain ⟨rfl, rfl⟩ := hr
      exact call_ok1 hs (fun k => (([a1.av F, a2.av F, a3.av F, a4.av F] : List AV)[k]?).getD .top) [.agg [.int .i64 v224, a1, a2, a3], a4] [.agg [.int .i64 v224, .bslc (BR.root 0) (.i64 v225), .bslc (BR.root 1) (.i64 v226), .bslc (BR.root 2) (.f32 v227)], .bslc (BR.root 3) (.f32 v228)] (fun F' h0 hi hρ => ⟨by simp [DVs.av, DV.av, BR.av, hρ], impl_SparseRootSolve_fn v224 v225 v226 v227 v228 F' (by rw [hi]; rfl) (st_nil hi) ⟨⟨trivial, bslc_ok hi (by rw [h0, hρ]; exact rowI64_ok hs (DVs.okAt (DVs.okAt ha 0 rfl) 1 rfl) hv225), bslc_ok hi (by rw [h0, hρ]; exact rowI64_ok hs (DVs.okAt (DVs.okAt ha 0 rfl) 2 rfl) hv226), bslc_ok hi (by rw [h0, hρ]; exact rowF32_ok hs (DVs.okAt (DVs.okAt ha 0 rfl) 3 rfl) hv227), trivial⟩, bslc_ok hi (by rw [h0, hρ]; exact rowF32_ok hs (DVs.okAt ha 1 rfl) hv228), trivial⟩ hy⟩) rfl rfl
  · cases hr
/-! laws.sameFloat -/
noncomputable def laws_sameFloat_LO (v467 : Nat) (v468 : Nat) : LOr := fun id e L =>
  match id with
  | _ => .fail
noncomputable def laws_sameFloat_tab : List (FuncId × DFn × Bool) := []
theorem laws_sameFloat_hO : OrcOk Try.prog (tabD laws_sameFloat_tab) (tabM laws_sameFloat_tab) := tabD_nil _
noncomputable def laws_sameFloat_T (v467 : Nat) (v468 : Nat) : Tree (Bool) :=
  (.br (!feq .f64 v467 v467) (
   (.br (!feq .f64 v467 v467) (
    .leaf (!feq .f64 v468 v468)
   ) (
    .leaf false
   ))
  ) (
   (.br (!feq .f64 v468 v468) (
    (.br (!feq .f64 v467 v467) (
     .leaf (!feq .f64 v468 v468)
    ) (
     .leaf false
    ))
   ) (
    (.br (feq .f64 v467 (0 : Nat)) (
     (.br (feq .f64 v468 (0 : Nat)) (
      .leaf ((fgrt .f64 (fdiv .f64 (4607182418800017408 : Nat) v467) (0 : Nat)) == (fgrt .f64 (fdiv .f64 (4607182418800017408 : Nat) v468) (0 : Nat)))
     ) (
      .leaf (feq .f64 v467 v468)
     ))
    ) (
     .leaf (feq .f64 v467 v468)
    ))
   ))
  ))

noncomputable def laws_sameFloat_g (v467 : Nat) (v468 : Nat) : Option (Bool) := (laws_sameFloat_T v467 v468).run
def laws_sameFloat_enc (v467 : Nat) (v468 : Nat) (y : Bool) : Rs := (.bool y, [])
theorem laws_sameFloat_den (v467 : Nat) (v468 : Nat) : (den TT (tabD laws_sameFloat_tab) (tabM laws_sameFloat_tab) (laws_sameFloat_LO v467 v468) (codeOf Try.f53) ([.flt .f64 v467, .flt .f64 v468] ++ List.replicate (Try.f53.ntmps - ([.flt .f64 v467, .flt .f64 v468] : List DV).length) .undef) []).bind (retD TT Try.f53.results.toList 0) = (laws_sameFloat_T v467 v468).bind fun y => .leaf (laws_sameFloat_enc v467 v468 y) := by kernel_rfl
theorem laws_sameFloat_fn (v467 : Nat) (v468 : Nat) (F : Fr) (hm : F.ids.length = 0) (h0 : St F [] F.H0) (hA : DVs.Ok F [] [.flt .f64 v467, .flt .f64 v468]) {y : Bool} (hy : laws_sameFloat_g v467 v468 = some y) : ∃ H', FnOk Try.prog 53 (DVs.av F [.flt .f64 v467, .flt .f64 v468]) F.H0 ((laws_sameFloat_enc v467 v468 y).1.av F) H' ∧ St F (laws_sameFloat_enc v467 v468 y).2 H' ∧ (laws_sameFloat_enc v467 v468 y).1.Ok F (laws_sameFloat_enc v467 v468 y).2 :=
  fn_fin tok laws_sameFloat_hO mixed Try.func53 Try.call53 (by kernel_rfl) (LoopsOk_eq (l := []) (by kernel_rfl) trivial) (laws_sameFloat_den v467 v468) hy hm h0 hA
def laws_sameFloat_v (v467 : Nat) (v468 : Nat) : Bool :=
  if (!feq .f64 v467 v467) = true then (
   if (!feq .f64 v467 v467) = true then (
    !feq .f64 v468 v468
   ) else (
    false
   )
  ) else (
   if (!feq .f64 v468 v468) = true then (
    if (!feq .f64 v467 v467) = true then (
     !feq .f64 v468 v468
    ) else (
     false
    )
   ) else (
    if (feq .f64 v467 (0 : Nat)) = true then (
     if (feq .f64 v468 (0 : Nat)) = true then (
      (fgrt .f64 (fdiv .f64 (4607182418800017408 : Nat) v467) (0 : Nat)) == (fgrt .f64 (fdiv .f64 (4607182418800017408 : Nat) v468) (0 : Nat))
     ) else (
      feq .f64 v467 v468
     )
    ) else (
     feq .f64 v467 v468
    )
   )
  )
theorem laws_sameFloat_tot (v467 : Nat) (v468 : Nat) : laws_sameFloat_g v467 v468 = some (laws_sameFloat_v v467 v468) := by
  unfold laws_sameFloat_g laws_sameFloat_T laws_sameFloat_v
  simp only [Tree.run]
  repeat' (first | rfl | split)
noncomputable def laws_sameFloat_F : DFn := fun args L =>
  match args with
  | [.flt .f64 v467, .flt .f64 v468] =>
    .leaf (.bool (laws_sameFloat_v v467 v468), L)
  | _ => .fail
theorem laws_sameFloat_Fok : COk Try.prog 53 laws_sameFloat_F true := by
  intro F L H args r L' hs ha hr
  unfold laws_sameFloat_F at hr
  split at hr
  · rename_i v467 v468
    have hy := laws_sameFloat_tot v467 v468
    generalize laws_sameFloat_v v467 v468 = y at hy hr
    simp only [Tree.run, Option.some.injEq, Prod.mk.injEq] at hr
    obtain ⟨rfl, rfl⟩ := hr
    exact call_ok0 hs (fun k => (([] : List AV)[k]?).getD .top) [.flt .f64 v467, .flt .f64 v468] [.flt .f64 v467, .flt .f64 v468] (fun F' h0 hi hρ => ⟨by simp [DVs.av, DV.av, BR.av, hρ], laws_sameFloat_fn v467 v468 F' (by rw [hi]; rfl) (st_nil hi) ⟨trivial, trivial, trivial⟩ hy⟩) rfl
  · cases hr
/-! laws.eqFloat32S -/
noncomputable def laws_eqFloat32S_l0_T (v464 : List Nat) (v465 : List Nat) (s : Int) : Tree ((Int) ⊕ ((Unit) ⊕ (Unit))) :=
  (.br (decide (s < ((v464.length : Nat) : Int))) (
   (.grd (inb s v464.length) <|
   (.grd (inb s v465.length) <|
   (.br (!(laws_sameFloat_v (wid (nth v464 (Int.toNat s))) (wid (nth v465 (Int.toNat s))))) (
    .leaf (.inr (.inl ()))
   ) (
    .leaf (.inl (IntKind.i64.wrap (s + (1 : Int))))
   ))))
  ) (
   .leaf (.inr (.inr ()))
  ))

noncomputable def laws_eqFloat32S_l0_g (v464 : List Nat) (v465 : List Nat) (s0 : Int) : Option ((Unit) ⊕ (Unit)) := whileM (fun s => (laws_eqFloat32S_l0_T v464 v465 s).run) s0
def laws_eqFloat32S_l0_E (v464 : List Nat) (v465 : List Nat) (s : Int) : Sd := ([.bslc (BR.root 0) (.f32 v464), .bslc (BR.root 1) (.f32 v465), .top, .top, .top, .int .i64 s, .top, .top, .top, .top, .top, .top, .top, .top, .top, .top, .top, .top, .top, .top, .top, .top, .top, .top, .top, .top, .top, .top, .top], [])
def laws_eqFloat32S_l0_X (v464 : List Nat) (v465 : List Nat) (x : (Unit) ⊕ (Unit)) : Out := (match x with | .inl x => (.ret, [.top, .top, .top, .top, .lit false, .top, .top, .top, .top, .top, .top, .top, .top, .top, .top, .top, .top, .top, .top, .top, .top, .top, .top, .top, .top, .top, .top, .top, .top], []) | .inr x => (.normal, [.top, .top, .top, .top, .top, .top, .top, .top, .top, .top, .top, .top, .top, .top, .top, .top, .top, .top, .top, .top, .top, .top, .top, .top, .top, .top, .top, .top, .top], []))
def laws_eqFloat32S_l0_kill : List Nat := [0, 0, 1, 1, 1, 0, 1, 1, 1, 1, 1, 1, 1, 1, 1, 1, 1, 1, 1, 1, 1, 1, 1, 1, 1, 1, 1, 1, 1]
def laws_eqFloat32S_l0_nx : Exit → List Nat
  | .exit 0 => [1, 1, 1, 1, 1, 1, 1, 1, 1, 1, 1, 1, 1, 1, 1, 1, 1, 1, 1, 1, 1, 1, 1, 1, 1, 1, 1, 1, 1]
  | .ret => [1, 1, 1, 1, 0, 1, 1, 1, 1, 1, 1, 1, 1, 1, 1, 1, 1, 1, 1, 1, 1, 1, 1, 1, 1, 1, 1, 1, 1]
  | _ => []
noncomputable def laws_eqFloat32S_LO (v464 : List Nat) (v465 : List Nat) : LOr := fun id e L =>
  match id with
  | 0 => .need (normA 0 laws_eqFloat32S_l0_kill e L = some (laws_eqFloat32S_l0_E v464 v465 (gI (vAt e 5)))) (.call (laws_eqFloat32S_l0_g v464 v465 (gI (vAt e 5))) fun x => .sum x (fun b0 => .leaf (laws_eqFloat32S_l0_X v464 v465 (.inl b0))) (fun c0 => .leaf (laws_eqFloat32S_l0_X v464 v465 (.inr c0))))
  | _ => .fail
noncomputable def laws_eqFloat32S_tab : List (FuncId × DFn × Bool) := [(53, laws_sameFloat_F, true)]
theorem laws_eqFloat32S_hO : OrcOk Try.prog (tabD laws_eqFloat32S_tab) (tabM laws_eqFloat32S_tab) := tabD_cons laws_sameFloat_Fok (tabD_nil _)
theorem laws_eqFloat32S_l0_be (v464 : List Nat) (v465 : List Nat) (s : Int) : bodyT TT (tabD laws_eqFloat32S_tab) (tabM laws_eqFloat32S_tab) (laws_eqFloat32S_LO v464 v465) 0 laws_eqFloat32S_l0_kill laws_eqFloat32S_l0_nx (bodyOf Try.f20 0) 0 (laws_eqFloat32S_l0_E v464 v465 s) = (laws_eqFloat32S_l0_T v464 v465 s).bind fun y => .leaf (outS (laws_eqFloat32S_l0_E v464 v465) (laws_eqFloat32S_l0_X v464 v465) y) := by kernel_rfl
theorem laws_eqFloat32S_l0_ok (v464 : List Nat) (v465 : List Nat) : LSound Try.prog 0 (laws_eqFloat32S_LO v464 v465) 0 (bodyOf Try.f20 0) := by
  intro e L out h
  exact lo_ok (E := laws_eqFloat32S_l0_E v464 v465) (gT := laws_eqFloat32S_l0_T v464 v465) (X := laws_eqFloat32S_l0_X v464 v465) (s0 := (gI (vAt e 5))) tok laws_eqFloat32S_hO mixed (LoopsOk_eq (l := []) (by kernel_rfl) trivial) (laws_eqFloat32S_l0_be v464 v465) rfl (by intro x; (cases x with | inl b => rfl | inr x => exact rfl)) h
noncomputable def laws_eqFloat32S_T (v464 : List Nat) (v465 : List Nat) : Tree (Bool) :=
  (.br (!decide (((v464.length : Nat) : Int) = ((v465.length : Nat) : Int))) (
   .leaf false
  ) (
   (.need (some (laws_eqFloat32S_l0_E v464 v465 (0 : Int)) = some (laws_eqFloat32S_l0_E v464 v465 (0 : Int))) <|
   (.call (laws_eqFloat32S_l0_g v464 v465 (0 : Int)) fun v471 =>
   (.sum v471 (fun v472 =>
    .leaf false
   ) (fun v473 =>
    .leaf true
   ))))
  ))

noncomputable def laws_eqFloat32S_g (v464 : List Nat) (v465 : List Nat) : Option (Bool) := (laws_eqFloat32S_T v464 v465).run
def laws_eqFloat32S_enc (v464 : List Nat) (v465 : List Nat) (y : Bool) : Rs := (.bool y, [])
theorem laws_eqFloat32S_den (v464 : List Nat) (v465 : List Nat) : (den TT (tabD laws_eqFloat32S_tab) (tabM laws_eqFloat32S_tab) (laws_eqFloat32S_LO v464 v465) (codeOf Try.f20) ([.bslc (BR.root 0) (.f32 v464), .bslc (BR.root 1) (.f32 v465)] ++ List.replicate (Try.f20.ntmps - ([.bslc (BR.root 0) (.f32 v464), .bslc (BR.root 1) (.f32 v465)] : List DV).length) .undef) []).bind (retD TT Try.f20.results.toList 0) = (laws_eqFloat32S_T v464 v465).bind fun y => .leaf (laws_eqFloat32S_enc v464 v465 y) := by kernel_rfl
theorem laws_eqFloat32S_fn (v464 : List Nat) (v465 : List Nat) (F : Fr) (hm : F.ids.length = 0) (h0 : St F [] F.H0) (hA : DVs.Ok F [] [.bslc (BR.root 0) (.f32 v464), .bslc (BR.root 1) (.f32 v465)]) {y : Bool} (hy : laws_eqFloat32S_g v464 v465 = some y) : ∃ H', FnOk Try.prog 20 (DVs.av F [.bslc (BR.root 0) (.f32 v464), .bslc (BR.root 1) (.f32 v465)]) F.H0 ((laws_eqFloat32S_enc v464 v465 y).1.av F) H' ∧ St F (laws_eqFloat32S_enc v464 v465 y).2 H' ∧ (laws_eqFloat32S_enc v464 v465 y).1.Ok F (laws_eqFloat32S_enc v464 v465 y).2 :=
  fn_fin tok laws_eqFloat32S_hO mixed Try.func20 Try.call20 (by kernel_rfl) (LoopsOk_eq (l := [(0, bodyOf Try.f20 0)]) (by kernel_rfl) ⟨laws_eqFloat32S_l0_ok v464 v465, trivial⟩) (laws_eqFloat32S_den v464 v465) hy hm h0 hA
noncomputable def laws_eqFloat32S_F : DFn := fun args L =>
  match args with
  | [a1, a2] =>
    optT (rowF32 L a1) fun v464 =>
    optT (rowF32 L a2) fun v465 =>
    .call (laws_eqFloat32S_g v464 v465) fun y => .leaf (.bool y, L)
  | _ => .fail
theorem laws_eqFloat32S_Fok : COk Try.prog 20 laws_eqFloat32S_F true := by
  intro F L H args r L' hs ha hr
  unfold laws_eqFloat32S_F at hr
  split at hr
  · rename_i a1 a2
    obtain ⟨v464, hv464, hr⟩ := optT_run hr
    obtain ⟨v465, hv465, hr⟩ := optT_run hr
    simp only [Tree.run] at hr
    obtain ⟨y, hy, hr⟩ := Option.bind_eq_some_iff.1 hr
    simp only [Tree.run, Option.some.injEq, Prod.mk.injEq] at hr
    obtain ⟨rfl, rfl⟩ := hr
    exact call_ok0 hs (fun k => (([a1.av F, a2.av F] : List AV)[k]?).getD .top) [a1, a2] [.bslc (BR.root 0) (.f32 v464), .bslc (BR.root 1) (.f32 v465)] (fun F' h0 hi hρ => ⟨by simp [DVs.av, DV.av, BR.av, hρ], laws_eqFloat32S_fn v464 v465 F' (by rw [hi]; rfl) (st_nil hi) ⟨bslc_ok hi (by rw [h0, hρ]; exact rowF32_ok hs (DVs.okAt ha 0 rfl) hv464), bslc_ok hi (by rw [h0, hρ]; exact rowF32_ok hs (DVs.okAt ha 1 rfl) hv465), trivial⟩ hy⟩) rfl
  · cases hr
/-! laws.eqInt64S -/
noncomputable def laws_eqInt64S_l0_T (v484 : List Int) (v485 : List Int) (s : Int) : Tree ((Int) ⊕ ((Unit) ⊕ (Unit))) :=
  (.br (decide (s < ((v484.length : Nat) : Int))) (
   (.grd (inb s v484.length) <|
   (.grd (inb s v485.length) <|
   (.br (!decide (nth v484 (Int.toNat s) = nth v485 (Int.toNat s))) (
    .leaf (.inr (.inl ()))
   ) (
    .leaf (.inl (IntKind.i64.wrap (s + (1 : Int))))
   ))))
  ) (
   .leaf (.inr (.inr ()))
  ))

noncomputable def laws_eqInt64S_l0_g (v484 : List Int) (v485 : List Int) (s0 : Int) : Option ((Unit) ⊕ (Unit)) := whileM (fun s => (laws_eqInt64S_l0_T v484 v485 s).run) s0
def laws_eqInt64S_l0_E (v484 : List Int) (v485 : List Int) (s : Int) : Sd := ([.bslc (BR.root 0) (.i64 v484), .bslc (BR.root 1) (.i64 v485), .top, .top, .top, .int .i64 s, .top, .top, .top, .top, .top, .top, .top, .top, .top, .top, .top, .top, .top, .top, .top, .top, .top, .top, .top, .top], [])
def laws_eqInt64S_l0_X (v484 : List Int) (v485 : List Int) (x : (Unit) ⊕ (Unit)) : Out := (match x with | .inl x => (.ret, [.top, .top, .top, .top, .lit false, .top, .top, .top, .top, .top, .top, .top, .top, .top, .top, .top, .top, .top, .top, .top, .top, .top, .top, .top, .top, .top], []) | .inr x => (.normal, [.top, .top, .top, .top, .top, .top, .top, .top, .top, .top, .top, .top, .top, .top, .top, .top, .top, .top, .top, .top, .top, .top, .top, .top, .top, .top], []))
def laws_eqInt64S_l0_kill : List Nat := [0, 0, 1, 1, 1, 0, 1, 1, 1, 1, 1, 1, 1, 1, 1, 1, 1, 1, 1, 1, 1, 1, 1, 1, 1, 1]
def laws_eqInt64S_l0_nx : Exit → List Nat
  | .exit 0 => [1, 1, 1, 1, 1, 1, 1, 1, 1, 1, 1, 1, 1, 1, 1, 1, 1, 1, 1, 1, 1, 1, 1, 1, 1, 1]
  | .ret => [1, 1, 1, 1, 0, 1, 1, 1, 1, 1, 1, 1, 1, 1, 1, 1, 1, 1, 1, 1, 1, 1, 1, 1, 1, 1]
  | _ => []
noncomputable def laws_eqInt64S_LO (v484 : List Int) (v485 : List Int) : LOr := fun id e L =>
  match id with
  | 0 => .need (normA 0 laws_eqInt64S_l0_kill e L = some (laws_eqInt64S_l0_E v484 v485 (gI (vAt e 5)))) (.call (laws_eqInt64S_l0_g v484 v485 (gI (vAt e 5))) fun x => .sum x (fun b0 => .leaf (laws_eqInt64S_l0_X v484 v485 (.inl b0))) (fun c0 => .leaf (laws_eqInt64S_l0_X v484 v485 (.inr c0))))
  | _ => .fail
noncomputable def laws_eqInt64S_tab : List (FuncId × DFn × Bool) := []
theorem laws_eqInt64S_hO : OrcOk Try.prog (tabD laws_eqInt64S_tab) (tabM laws_eqInt64S_tab) := tabD_nil _
theorem laws_eqInt64S_l0_be (v484 : List Int) (v485 : List Int) (s : Int) : bodyT TT (tabD laws_eqInt64S_tab) (tabM laws_eqInt64S_tab) (laws_eqInt64S_LO v484 v485) 0 laws_eqInt64S_l0_kill laws_eqInt64S_l0_nx (bodyOf Try.f44 0) 0 (laws_eqInt64S_l0_E v484 v485 s) = (laws_eqInt64S_l0_T v484 v485 s).bind fun y => .leaf (outS (laws_eqInt64S_l0_E v484 v485) (laws_eqInt64S_l0_X v484 v485) y) := by kernel_rfl
theorem laws_eqInt64S_l0_ok (v484 : List Int) (v485 : List Int) : LSound Try.prog 0 (laws_eqInt64S_LO v484 v485) 0 (bodyOf Try.f44 0) := by
  intro e L out h
  exact lo_ok (E := laws_eqInt64S_l0_E v484 v485) (gT := laws_eqInt64S_l0_T v484 v485) (X := laws_eqInt64S_l0_X v484 v485) (s0 := (gI (vAt e 5))) tok laws_eqInt64S_hO mixed (LoopsOk_eq (l := []) (by kernel_rfl) trivial) (laws_eqInt64S_l0_be v484 v485) rfl (by intro x; (cases x with | inl b => rfl | inr x => exact rfl)) h
noncomputable def laws_eqInt64S_T (v484 : List Int) (v485 : List Int) : Tree (Bool) :=
  (.br (!decide (((v484.length : Nat) : Int) = ((v485.length : Nat) : Int))) (
   .leaf false
  ) (
   (.need (some (laws_eqInt64S_l0_E v484 v485 (0 : Int)) = some (laws_eqInt64S_l0_E v484 v485 (0 : Int))) <|
   (.call (laws_eqInt64S_l0_g v484 v485 (0 : Int)) fun v489 =>
   (.sum v489 (fun v490 =>
    .leaf false
   ) (fun v491 =>
    .leaf true
   ))))
  ))

noncomputable def laws_eqInt64S_g (v484 : List Int) (v485 : List Int) : Option (Bool) := (laws_eqInt64S_T v484 v485).run
def laws_eqInt64S_enc (v484 : List Int) (v485 : List Int) (y : Bool) : Rs := (.bool y, [])
theorem laws_eqInt64S_den (v484 : List Int) (v485 : List Int) : (den TT (tabD laws_eqInt64S_tab) (tabM laws_eqInt64S_tab) (laws_eqInt64S_LO v484 v485) (codeOf Try.f44) ([.bslc (BR.root 0) (.i64 v484), .bslc (BR.root 1) (.i64 v485)] ++ List.replicate (Try.f44.ntmps - ([.bslc (BR.root 0) (.i64 v484), .bslc (BR.root 1) (.i64 v485)] : List DV).length) .undef) []).bind (retD TT Try.f44.results.toList 0) = (laws_eqInt64S_T v484 v485).bind fun y => .leaf (laws_eqInt64S_enc v484 v485 y) := by kernel_rfl
theorem laws_eqInt64S_fn (v484 : List Int) (v485 : List Int) (F : Fr) (hm : F.ids.length = 0) (h0 : St F [] F.H0) (hA : DVs.Ok F [] [.bslc (BR.root 0) (.i64 v484), .bslc (BR.root 1) (.i64 v485)]) {y : Bool} (hy : laws_eqInt64S_g v484 v485 = some y) : ∃ H', FnOk Try.prog 44 (DVs.av F [.bslc (BR.root 0) (.i64 v484), .bslc (BR.root 1) (.i64 v485)]) F.H0 ((laws_eqInt64S_enc v484 v485 y).1.av F) H' ∧ St F (laws_eqInt64S_enc v484 v485 y).2 H' ∧ (laws_eqInt64S_enc v484 v485 y).1.Ok F (laws_eqInt64S_enc v484 v485 y).2 :=
  fn_fin tok laws_eqInt64S_hO mixed Try.func44 Try.call44 (by kernel_rfl) (LoopsOk_eq (l := [(0, bodyOf Try.f44 0)]) (by kernel_rfl) ⟨laws_eqInt64S_l0_ok v484 v485, trivial⟩) (laws_eqInt64S_den v484 v485) hy hm h0 hA
noncomputable def laws_eqInt64S_F : DFn := fun args L =>
  match args with
  | [a1, a2] =>
    optT (rowI64 L a1) fun v484 =>
    optT (rowI64 L a2) fun v485 =>
    .call (laws_eqInt64S_g v484 v485) fun y => .leaf (.bool y, L)
  | _ => .fail
theorem laws_eqInt64S_Fok : COk Try.prog 44 laws_eqInt64S_F true := by
  intro F L H args r L' hs ha hr
  unfold laws_eqInt64S_F at hr
  split at hr
  · rename_i a1 a2
    obtain ⟨v484, hv484, hr⟩ := optT_run hr
    obtain ⟨v485, hv485, hr⟩ := optT_run hr
    simp only [Tree.run] at hr
    obtain ⟨y, hy, hr⟩ := Option.bind_eq_some_iff.1 hr
    simp only [Tree.run, Option.some.injEq, Prod.mk.injEq] at hr
    obtain ⟨rfl, rfl⟩ := hr
    exact call_ok0 hs (fun k => (([a1.av F, a2.av F] : List AV)[k]?).getD .top) [a1, a2] [.bslc (BR.root 0) (.i64 v484), .bslc (BR.root 1) (.i64 v485)] (fun F' h0 hi hρ => ⟨by simp [DVs.av, DV.av, BR.av, hρ], laws_eqInt64S_fn v484 v485 F' (by rw [hi]; rfl) (st_nil hi) ⟨bslc_ok hi (by rw [h0, hρ]; exact rowI64_ok hs (DVs.okAt ha 0 rfl) hv484), bslc_ok hi (by rw [h0, hρ]; exact rowI64_ok hs (DVs.okAt ha 1 rfl) hv485), trivial⟩ hy⟩) rfl
  · cases hr
/-! laws.eqSparse -/
noncomputable def laws_eqSparse_LO (v476 : Int) (v477 : List Int) (v478 : List Int) (v479 : List Nat) (v480 : Int) (v481 : List Int) (v482 : List Int) (v483 : List Nat) : LOr := fun id e L =>
  match id with
  | _ => .fail
noncomputable def laws_eqSparse_tab : List (FuncId × DFn × Bool) := [(44, laws_eqInt64S_F, true), (20, laws_eqFloat32S_F, true)]
theorem laws_eqSparse_hO : OrcOk Try.prog (tabD laws_eqSparse_tab) (tabM laws_eqSparse_tab) := tabD_cons laws_eqInt64S_Fok (tabD_cons laws_eqFloat32S_Fok (tabD_nil _))
noncomputable def laws_eqSparse_T (v476 : Int) (v477 : List Int) (v478 : List Int) (v479 : List Nat) (v480 : Int) (v481 : List Int) (v482 : List Int) (v483 : List Nat) : Tree (Bool) :=
  (.br (!decide (v476 = v480)) (
   .leaf false
  ) (
   (.call (laws_eqInt64S_g v477 v481) fun v492 =>
   (.br (!v492) (
    .leaf false
   ) (
    (.call (laws_eqInt64S_g v478 v482) fun v493 =>
    (.br (!v493) (
     .leaf false
    ) (
     (.call (laws_eqFloat32S_g v479 v483) fun v494 =>
     (.br (!v494) (
      .leaf false
     ) (
      .leaf true
     )))
    )))
   )))
  ))

noncomputable def laws_eqSparse_g (v476 : Int) (v477 : List Int) (v478 : List Int) (v479 : List Nat) (v480 : Int) (v481 : List Int) (v482 : List Int) (v483 : List Nat) : Option (Bool) := (laws_eqSparse_T v476 v477 v478 v479 v480 v481 v482 v483).run
def laws_eqSparse_enc (v476 : Int) (v477 : List Int) (v478 : List Int) (v479 : List Nat) (v480 : Int) (v481 : List Int) (v482 : List Int) (v483 : List Nat) (y : Bool) : Rs := (.bool y, [])
theorem laws_eqSparse_den (v476 : Int) (v477 : List Int) (v478 : List Int) (v479 : List Nat) (v480 : Int) (v481 : List Int) (v482 : List Int) (v483 : List Nat) : (den TT (tabD laws_eqSparse_tab) (tabM laws_eqSparse_tab) (laws_eqSparse_LO v476 v477 v478 v479 v480 v481 v482 v483) (codeOf Try.f21) ([.agg [.int .i64 v476, .bslc (BR.root 0) (.i64 v477), .bslc (BR.root 1) (.i64 v478), .bslc (BR.root 2) (.f32 v479)], .agg [.int .i64 v480, .bslc (BR.root 3) (.i64 v481), .bslc (BR.root 4) (.i64 v482), .bslc (BR.root 5) (.f32 v483)]] ++ List.replicate (Try.f21.ntmps - ([.agg [.int .i64 v476, .bslc (BR.root 0) (.i64 v477), .bslc (BR.root 1) (.i64 v478), .bslc (BR.root 2) (.f32 v479)], .agg [.int .i64 v480, .bslc (BR.root 3) (.i64 v481), .bslc (BR.root 4) (.i64 v482), .bslc (BR.root 5) (.f32 v483)]] : List DV).length) .undef) []).bind (retD TT Try.f21.results.toList 0) = (laws_eqSparse_T v476 v477 v478 v479 v480 v481 v482 v483).bind fun y => .leaf (laws_eqSparse_enc v476 v477 v478 v479 v480 v481 v482 v483 y) := by kernel_rfl
theorem laws_eqSparse_fn (v476 : Int) (v477 : List Int) (v478 : List Int) (v479 : List Nat) (v480 : Int) (v481 : List Int) (v482 : List Int) (v483 : List Nat) (F : Fr) (hm : F.ids.length = 0) (h0 : St F [] F.H0) (hA : DVs.Ok F [] [.agg [.int .i64 v476, .bslc (BR.root 0) (.i64 v477), .bslc (BR.root 1) (.i64 v478), .bslc (BR.root 2) (.f32 v479)], .agg [.int .i64 v480, .bslc (BR.root 3) (.i64 v481), .bslc (BR.root 4) (.i64 v482), .bslc (BR.root 5) (.f32 v483)]]) {y : Bool} (hy : laws_eqSparse_g v476 v477 v478 v479 v480 v481 v482 v483 = some y) : ∃ H', FnOk Try.prog 21 (DVs.av F [.agg [.int .i64 v476, .bslc (BR.root 0) (.i64 v477), .bslc (BR.root 1) (.i64 v478), .bslc (BR.root 2) (.f32 v479)], .agg [.int .i64 v480, .bslc (BR.root 3) (.i64 v481), .bslc (BR.root 4) (.i64 v482), .bslc (BR.root 5) (.f32 v483)]]) F.H0 ((laws_eqSparse_enc v476 v477 v478 v479 v480 v481 v482 v483 y).1.av F) H' ∧ St F (laws_eqSparse_enc v476 v477 v478 v479 v480 v481 v482 v483 y).2 H' ∧ (laws_eqSparse_enc v476 v477 v478 v479 v480 v481 v482 v483 y).1.Ok F (laws_eqSparse_enc v476 v477 v478 v479 v480 v481 v482 v483 y).2 :=
  fn_fin tok laws_eqSparse_hO mixed Try.func21 Try.call21 (by kernel_rfl) (LoopsOk_eq (l := []) (by kernel_rfl) trivial) (laws_eqSparse_den v476 v477 v478 v479 v480 v481 v482 v483) hy hm h0 hA
noncomputable def laws_eqSparse_F : DFn := fun args L =>
  match args with
  | [.agg [.int .i64 v476, a1, a2, a3], .agg [.int .i64 v480, a4, a5, a6]] =>
    optT (rowI64 L a1) fun v477 =>
    optT (rowI64 L a2) fun v478 =>
    optT (rowF32 L a3) fun v479 =>
    optT (rowI64 L a4) fun v481 =>
    optT (rowI64 L a5) fun v482 =>
    optT (rowF32 L a6) fun v483 =>
    .call (laws_eqSparse_g v476 v477 v478 v479 v480 v481 v482 v483) fun y => .leaf (.bool y, L)
  | _ => .fail
theorem laws_eqSparse_Fok : COk Try.prog 21 laws_eqSparse_F true := by
  intro F L H args r L' hs ha hr
  unfold laws_eqSparse_F at hr
  split at hr
  · rename_i v476 a1 a2 a3 v480 a4 a5 a6
    obtain ⟨v477, hv477, hr⟩ := optT_run hr
    obtain ⟨v478, hv478, hr⟩ := optT_run hr
    obtain ⟨v479, hv479, hr⟩ := optT_run hr
    obtain ⟨v481, hv481, hr⟩ := optT_run hr
    obtain ⟨v482, hv482, hr⟩ := optT_run hr
    obtain ⟨v483, hv483, hr⟩ := optT_run hr
    simp only [Tree.run] at hr
    obtain ⟨y, hy, hr⟩ := Option.bind_eq_some_iff.1 hr
    simp only [Tree.run, Option.some.injEq, Prod.mk.injEq] at hr
    obtain ⟨rfl, rfl⟩ := hr
    exact call_ok0 hs (fun k => (([a1.av F, a2.av F, a3.av F, a4.av F, a5.av F, a6.av F] : List AV)[k]?).getD .top) [.agg [.int .i64 v476, a1, a2, a3], .agg [.int .i64 v480, a4, a5, a6]] [.agg [.int .i64 v476, .bslc (BR.root 0) (.i64 v477), .bslc (BR.root 1) (.i64 v478), .bslc (BR.root 2) (.f32 v479)], .agg [.int .i64 v480, .bslc (BR.root 3) (.i64 v481), .bslc (BR.root 4) (.i64 v482), .bslc (BR.root 5) (.f32 v483)]] (fun F' h0 hi hρ => ⟨by simp [DVs.av, DV.av, BR.av, hρ], laws_eqSparse_fn v476 v477 v478 v479 v480 v481 v482 v483 F' (by rw [hi]; rfl) (st_nil hi) ⟨⟨trivial, bslc_ok hi (by rw [h0, hρ]; exact rowI64_ok hs (DVs.okAt (DVs.okAt ha 0 rfl) 1 rfl) hv477), bslc_ok hi (by rw [h0, hρ]; exact rowI64_ok hs (DVs.okAt (DVs.okAt ha 0 rfl) 2 rfl) hv478), bslc_ok hi (by rw [h0, hρ]; exact rowF32_ok hs (DVs.okAt (DVs.okAt ha 0 rfl) 3 rfl) hv479), trivial⟩, ⟨trivial, bslc_ok hi (by rw [h0, hρ]; exact rowI64_ok hs (DVs.okAt (DVs.okAt ha 1 rfl) 1 rfl) hv481), bslc_ok hi (by rw [h0, hρ]; exact rowI64_ok hs (DVs.okAt (DVs.okAt ha 1 rfl) 2 rfl) hv482), bslc_ok hi (by rw [h0, hρ]; exact rowF32_ok hs (DVs.okAt (DVs.okAt ha 1 rfl) 3 rfl) hv483), trivial⟩, trivial⟩ hy⟩) rfl
  · cases hr
/-! laws.markInt64S -/
noncomputable def laws_markInt64S_l0_T (s : Int × Int × (List Int)) : Tree ((Int × Int × (List Int)) ⊕ (Int × (List Int))) :=
  (.br (decide (s.2.1 < (((s.2.2).length : Nat) : Int))) (
   (.grd (inb s.2.1 ((s.2.2).length)) <|
   .leaf (.inl (IntKind.i64.wrap (s.1 + (1 : Int)), IntKind.i64.wrap (s.2.1 + (1 : Int)), List.set s.2.2 (Int.toNat s.2.1) s.1)))
  ) (
   .leaf (.inr (s.1, s.2.2))
  ))

noncomputable def laws_markInt64S_l0_g (s0 : Int × Int × (List Int)) : Option (Int × (List Int)) := whileM (fun s => (laws_markInt64S_l0_T s).run) s0
def laws_markInt64S_l0_E (v507 : List Int) (v508 : Int) (s : Int × Int × (List Int)) : Sd := ([.own 0 0 ((s.2.2).length), .int .i64 s.1, .top, .top, .top, .int .i64 s.2.1, .top, .top, .top, .top, .top, .top, .top, .top, .top, .top, .top, .top, .top], [.row (.i64 s.2.2) 0])
def laws_markInt64S_l0_X (v507 : List Int) (v508 : Int) (x : Int × (List Int)) : Out := (.normal, [.top, .int .i64 x.1, .top, .top, .top, .top, .top, .top, .top, .top, .top, .top, .top, .top, .top, .top, .top, .top, .top], [.row (.i64 x.2) 0])
def laws_markInt64S_l0_kill : List Nat := [0, 0, 1, 1, 1, 0, 1, 1, 1, 1, 1, 1, 1, 1, 1, 1, 1, 1, 1]
def laws_markInt64S_l0_nx : Exit → List Nat
  | .exit 0 => [1, 0, 1, 1, 1, 1, 1, 1, 1, 1, 1, 1, 1, 1, 1, 1, 1, 1, 1]
  | .ret => [1, 1, 1, 1, 0, 1, 1, 1, 1, 1, 1, 1, 1, 1, 1, 1, 1, 1, 1]
  | _ => []
noncomputable def laws_markInt64S_LO (v507 : List Int) (v508 : Int) : LOr := fun id e L =>
  match id with
  | 0 => .need (normA 1 laws_markInt64S_l0_kill e L = some (laws_markInt64S_l0_E v507 v508 ((gI (vAt e 1)), (gI (vAt e 5)), (gRI L (vAt e 0))))) (.call (laws_markInt64S_l0_g ((gI (vAt e 1)), (gI (vAt e 5)), (gRI L (vAt e 0)))) fun x => .leaf (laws_markInt64S_l0_X v507 v508 x))
  | _ => .fail
noncomputable def laws_markInt64S_tab : List (FuncId × DFn × Bool) := []
theorem laws_markInt64S_hO : OrcOk Try.prog (tabD laws_markInt64S_tab) (tabM laws_markInt64S_tab) := tabD_nil _
theorem laws_markInt64S_l0_be (v507 : List Int) (v508 : Int) (s : Int × Int × (List Int)) : bodyT TT (tabD laws_markInt64S_tab) (tabM laws_markInt64S_tab) (laws_markInt64S_LO v507 v508) 1 laws_markInt64S_l0_kill laws_markInt64S_l0_nx (bodyOf Try.f45 0) 0 (laws_markInt64S_l0_E v507 v508 s) = (laws_markInt64S_l0_T s).bind fun y => .leaf (outS (laws_markInt64S_l0_E v507 v508) (laws_markInt64S_l0_X v507 v508) y) := by kernel_rfl
theorem laws_markInt64S_l0_ok (v507 : List Int) (v508 : Int) : LSound Try.prog 1 (laws_markInt64S_LO v507 v508) 0 (bodyOf Try.f45 0) := by
  intro e L out h
  exact lo_ok (E := laws_markInt64S_l0_E v507 v508) (gT := laws_markInt64S_l0_T) (X := laws_markInt64S_l0_X v507 v508) (s0 := ((gI (vAt e 1)), (gI (vAt e 5)), (gRI L (vAt e 0)))) tok laws_markInt64S_hO mixed (LoopsOk_eq (l := []) (by kernel_rfl) trivial) (laws_markInt64S_l0_be v507 v508) rfl (by intro x; rfl) h
noncomputable def laws_markInt64S_T (v507 : List Int) (v508 : Int) : Tree (Int × (List Int)) :=
  (.need (some (laws_markInt64S_l0_E v507 v508 (v508, (0 : Int), v507)) = some (laws_markInt64S_l0_E v507 v508 (v508, (0 : Int), v507))) <|
  (.call (laws_markInt64S_l0_g (v508, (0 : Int), v507)) fun v517 =>
  .leaf (v517.1, v517.2)))

noncomputable def laws_markInt64S_g (v507 : List Int) (v508 : Int) : Option (Int × (List Int)) := (laws_markInt64S_T v507 v508).run
def laws_markInt64S_enc (v507 : List Int) (v508 : Int) (y : Int × (List Int)) : Rs := (.int .i64 y.1, [.row (.i64 y.2) 0])
theorem laws_markInt64S_den (v507 : List Int) (v508 : Int) : (den TT (tabD laws_markInt64S_tab) (tabM laws_markInt64S_tab) (laws_markInt64S_LO v507 v508) (codeOf Try.f45) ([.own 0 0 v507.length, .int .i64 v508] ++ List.replicate (Try.f45.ntmps - ([.own 0 0 v507.length, .int .i64 v508] : List DV).length) .undef) [.row (.i64 v507) 0]).bind (retD TT Try.f45.results.toList 1) = (laws_markInt64S_T v507 v508).bind fun y => .leaf (laws_markInt64S_enc v507 v508 y) := by kernel_rfl
theorem laws_markInt64S_fn (v507 : List Int) (v508 : Int) (F : Fr) (hm : F.ids.length = 1) (h0 : St F [.row (.i64 v507) 0] F.H0) (hA : DVs.Ok F [.row (.i64 v507) 0] [.own 0 0 v507.length, .int .i64 v508]) {y : Int × (List Int)} (hy : laws_markInt64S_g v507 v508 = some y) : ∃ H', FnOk Try.prog 45 (DVs.av F [.own 0 0 v507.length, .int .i64 v508]) F.H0 ((laws_markInt64S_enc v507 v508 y).1.av F) H' ∧ St F (laws_markInt64S_enc v507 v508 y).2 H' ∧ (laws_markInt64S_enc v507 v508 y).1.Ok F (laws_markInt64S_enc v507 v508 y).2 :=
  fn_fin tok laws_markInt64S_hO mixed Try.func45 Try.call45 (by kernel_rfl) (LoopsOk_eq (l := [(0, bodyOf Try.f45 0)]) (by kernel_rfl) ⟨laws_markInt64S_l0_ok v507 v508, trivial⟩) (laws_markInt64S_den v507 v508) hy hm h0 hA
noncomputable def laws_markInt64S_F : DFn := fun args L =>
  match args with
  | [a1, .int .i64 v508] =>
    optT (ownI64 L a1) fun qv507 =>
    (match sepB [qv507.1] [] with
    | true =>
    .call (laws_markInt64S_g qv507.2 v508) fun y => .grd (decide (y.2.length = qv507.2.length)) (.leaf (.int .i64 y.1, setRows L ([qv507.1].zip [.i64 y.2])))
    | false => .fail)
  | _ => .fail
theorem laws_markInt64S_Fok : COk Try.prog 45 laws_markInt64S_F false := by
  intro F L H args r L' hs ha hr
  unfold laws_markInt64S_F at hr
  split at hr
  · rename_i a1 v508
    obtain ⟨⟨jv507, v507⟩, hqv507, hr⟩ := optT_run hr
    simp only at hr
    split at hr
    · rename_i hsep
      obtain ⟨hnd, hsepv⟩ := sepB_spec hsep
      simp only [Tree.run] at hr
      obtain ⟨y, hy, hr⟩ := Option.bind_eq_some_iff.1 hr
      try simp only [Tree.run] at hr
      obtain ⟨hl0, hr⟩ := ite_run hr
      simp only [Option.some.injEq, Prod.mk.injEq] at hr
      obtain ⟨rfl, rfl⟩ := hr
      obtain ⟨hr0, hu0, ha0, hb0⟩ := (ownR_spec (DVs.okAt ha 0 rfl) (ownI64_or hqv507))
      exact mut_ok hs (fun k => (([a1.av F] : List AV)[k]?).getD .top) [a1, .int .i64 v508] [.own 0 0 v507.length, .int .i64 v508] [jv507] [.i64 v507] [.i64 y.2] hnd rfl rfl (fun i j q h1 h2 => by
          rcases i with _ | i
          · simp at h1 h2; subst h1; subst h2; exact hr0
          · simp at h1) (fun i q q' h1 h2 => by
          rcases i with _ | i
          · simp at h1 h2; subst h1; subst h2; exact of_decide_eq_true hl0
          · simp at h1) (fun j hj => by simp at hj; subst hj; simp [DVs.refs, DV.refs, hu0]) (fun F' h0 hi hρ hst hS => ⟨by (have ab0 : F'.abs 0 = F.abs jv507 := (by simp [Fr.abs, hi]); simp [DVs.av, DV.av, BR.av, hρ, Row.len, ha0, ab0]), by
          obtain ⟨H1, k1, k2, _⟩ := laws_markInt64S_fn v507 v508 F' (by rw [hi]; rfl) hst ⟨⟨_, rfl, Nat.le_refl _, Nat.le_refl _, fun _ => rfl, (ownR_spec (DVs.okAt ha 0 rfl) (ownI64_or hqv507)).2.2.2⟩, trivial, trivial⟩ hy
          exact ⟨H1, k1, k2⟩⟩) (fun F' => rfl) (fun L' => trivial)
    · cases hr
  · cases hr
/-! laws.markFloat32S -/
noncomputable def laws_markFloat32S_l0_T (s : Int × Int × (List Nat)) : Tree ((Int × Int × (List Nat)) ⊕ (Int × (List Nat))) :=
  (.br (decide (s.2.1 < (((s.2.2).length : Nat) : Int))) (
   (.grd (inb s.2.1 ((s.2.2).length)) <|
   .leaf (.inl (IntKind.i64.wrap (s.1 + (1 : Int)), IntKind.i64.wrap (s.2.1 + (1 : Int)), List.set s.2.2 (Int.toNat s.2.1) (fofint .f32 s.1))))
  ) (
   .leaf (.inr (s.1, s.2.2))
  ))

noncomputable def laws_markFloat32S_l0_g (s0 : Int × Int × (List Nat)) : Option (Int × (List Nat)) := whileM (fun s => (laws_markFloat32S_l0_T s).run) s0
def laws_markFloat32S_l0_E (v535 : List Nat) (v536 : Int) (s : Int × Int × (List Nat)) : Sd := ([.own 0 0 ((s.2.2).length), .int .i64 s.1, .top, .top, .top, .int .i64 s.2.1, .top, .top, .top, .top, .top, .top, .top, .top, .top, .top, .top, .top, .top, .top], [.row (.f32 s.2.2) 0])
def laws_markFloat32S_l0_X (v535 : List Nat) (v536 : Int) (x : Int × (List Nat)) : Out := (.normal, [.top, .int .i64 x.1, .top, .top, .top, .top, .top, .top, .top, .top, .top, .top, .top, .top, .top, .top, .top, .top, .top, .top], [.row (.f32 x.2) 0])
def laws_markFloat32S_l0_kill : List Nat := [0, 0, 1, 1, 1, 0, 1, 1, 1, 1, 1, 1, 1, 1, 1, 1, 1, 1, 1, 1]
def laws_markFloat32S_l0_nx : Exit → List Nat
  | .exit 0 => [1, 0, 1, 1, 1, 1, 1, 1, 1, 1, 1, 1, 1, 1, 1, 1, 1, 1, 1, 1]
  | .ret => [1, 1, 1, 1, 0, 1, 1, 1, 1, 1, 1, 1, 1, 1, 1, 1, 1, 1, 1, 1]
  | _ => []
noncomputable def laws_markFloat32S_LO (v535 : List Nat) (v536 : Int) : LOr := fun id e L =>
  match id with
  | 0 => .need (normA 1 laws_markFloat32S_l0_kill e L = some (laws_markFloat32S_l0_E v535 v536 ((gI (vAt e 1)), (gI (vAt e 5)), (gRF L (vAt e 0))))) (.call (laws_markFloat32S_l0_g ((gI (vAt e 1)), (gI (vAt e 5)), (gRF L (vAt e 0)))) fun x => .leaf (laws_markFloat32S_l0_X v535 v536 x))
  | _ => .fail
noncomputable def laws_markFloat32S_tab : List (FuncId × DFn × Bool) := []
theorem laws_markFloat32S_hO : OrcOk Try.prog (tabD laws_markFloat32S_tab) (tabM laws_markFloat32S_tab) := tabD_nil _
theorem laws_markFloat32S_l0_be (v535 : List Nat) (v536 : Int) (s : Int × Int × (List Nat)) : bodyT TT (tabD laws_markFloat32S_tab) (tabM laws_markFloat32S_tab) (laws_markFloat32S_LO v535 v536) 1 laws_markFloat32S_l0_kill laws_markFloat32S_l0_nx (bodyOf Try.f23 0) 0 (laws_markFloat32S_l0_E v535 v536 s) = (laws_markFloat32S_l0_T s).bind fun y => .leaf (outS (laws_markFloat32S_l0_E v535 v536) (laws_markFloat32S_l0_X v535 v536) y) := by kernel_rfl
theorem laws_markFloat32S_l0_ok (v535 : List Nat) (v536 : Int) : LSound Try.prog 1 (laws_markFloat32S_LO v535 v536) 0 (bodyOf Try.f23 0) := by
  intro e L out h
  exact lo_ok (E := laws_markFloat32S_l0_E v535 v536) (gT := laws_markFloat32S_l0_T) (X := laws_markFloat32S_l0_X v535 v536) (s0 := ((gI (vAt e 1)), (gI (vAt e 5)), (gRF L (vAt e 0)))) tok laws_markFloat32S_hO mixed (LoopsOk_eq (l := []) (by kernel_rfl) trivial) (laws_markFloat32S_l0_be v535 v536) rfl (by intro x; rfl) h
noncomputable def laws_markFloat32S_T (v535 : List Nat) (v536 : Int) : Tree (Int × (List Nat)) :=
  (.need (some (laws_markFloat32S_l0_E v535 v536 (v536, (0 : Int), v535)) = some (laws_markFloat32S_l0_E v535 v536 (v536, (0 : Int), v535))) <|
  (.call (laws_markFloat32S_l0_g (v536, (0 : Int), v535)) fun v545 =>
  .leaf (v545.1, v545.2)))

noncomputable def laws_markFloat32S_g (v535 : List Nat) (v536 : Int) : Option (Int × (List Nat)) := (laws_markFloat32S_T v535 v536).run
def laws_markFloat32S_enc (v535 : List Nat) (v536 : Int) (y : Int × (List Nat)) : Rs := (.int .i64 y.1, [.row (.f32 y.2) 0])
theorem laws_markFloat32S_den (v535 : List Nat) (v536 : Int) : (den TT (tabD laws_markFloat32S_tab) (tabM laws_markFloat32S_tab) (laws_markFloat32S_LO v535 v536) (codeOf Try.f23) ([.own 0 0 v535.length, .int .i64 v536] ++ List.replicate (Try.f23.ntmps - ([.own 0 0 v535.length, .int .i64 v536] : List DV).length) .undef) [.row (.f32 v535) 0]).bind (retD TT Try.f23.results.toList 1) = (laws_markFloat32S_T v535 v536).bind fun y => .leaf (laws_markFloat32S_enc v535 v536 y) := by kernel_rfl
theorem laws_markFloat32S_fn (v535 : List Nat) (v536 : Int) (F : Fr) (hm : F.ids.length = 1) (h0 : St F [.row (.f32 v535) 0] F.H0) (hA : DVs.Ok F [.row (.f32 v535) 0] [.own 0 0 v535.length, .int .i64 v536]) {y : Int × (List Nat)} (hy : laws_markFloat32S_g v535 v536 = some y) : ∃ H', FnOk Try.prog 23 (DVs.av F [.own 0 0 v535.length, .int .i64 v536]) F.H0 ((laws_markFloat32S_enc v535 v536 y).1.av F) H' ∧ St F (laws_markFloat32S_enc v535 v536 y).2 H' ∧ (laws_markFloat32S_enc v535 v536 y).1.Ok F (laws_markFloat32S_enc v535 v536 y).2 :=
  fn_fin tok laws_markFloat32S_hO mixed Try.func23 Try.call23 (by kernel_rfl) (LoopsOk_eq (l := [(0, bodyOf Try.f23 0)]) (by kernel_rfl) ⟨laws_markFloat32S_l0_ok v535 v536, trivial⟩) (laws_markFloat32S_den v535 v536) hy hm h0 hA
noncomputable def laws_markFloat32S_F : DFn := fun args L =>
  match args with
  | [a1, .int .i64 v536] =>
    optT (ownF32 L a1) fun qv535 =>
    (match sepB [qv535.1] [] with
    | true =>
    .call (laws_markFloat32S_g qv535.2 v536) fun y => .grd (decide (y.2.length = qv535.2.length)) (.leaf (.int .i64 y.1, setRows L ([qv535.1].zip [.f32 y.2])))
    | false => .fail)
  | _ => .fail
theorem laws_markFloat32S_Fok : COk Try.prog 23 laws_markFloat32S_F false := by
  intro F L H args r L' hs ha hr
  unfold laws_markFloat32S_F at hr
  split at hr
  · rename_i a1 v536
    obtain ⟨⟨jv535, v535⟩, hqv535, hr⟩ := optT_run hr
    simp only at hr
    split at hr
    · rename_i hsep
      obtain ⟨hnd, hsepv⟩ := sepB_spec hsep
      simp only [Tree.run] at hr
      obtain ⟨y, hy, hr⟩ := Option.bind_eq_some_iff.1 hr
      try simp only [Tree.run] at hr
      obtain ⟨hl0, hr⟩ := ite_run hr
      simp only [Option.some.injEq, Prod.mk.injEq] at hr
      obtain ⟨rfl, rfl⟩ := hr
      obtain ⟨hr0, hu0, ha0, hb0⟩ := (ownR_spec (DVs.okAt ha 0 rfl) (ownF32_or hqv535))
      exact mut_ok hs (fun k => (([a1.av F] : List AV)[k]?).getD .top) [a1, .int .i64 v536] [.own 0 0 v535.length, .int .i64 v536] [jv535] [.f32 v535] [.f32 y.2] hnd rfl rfl (fun i j q h1 h2 => by
          rcases i with _ | i
          · simp at h1 h2; subst h1; subst h2; exact hr0
          · simp at h1) (fun i q q' h1 h2 => by
          rcases i with _ | i
          · simp at h1 h2; subst h1; subst h2; exact of_decide_eq_true hl0
          · simp at h1) (fun j hj => by simp at hj; subst hj; simp [DVs.refs, DV.refs, hu0]) (fun F' h0 hi hρ hst hS => ⟨by (have ab0 : F'.abs 0 = F.abs jv535 := (by simp [Fr.abs, hi]); simp [DVs.av, DV.av, BR.av, hρ, Row.len, ha0, ab0]), by
          obtain ⟨H1, k1, k2, _⟩ := laws_markFloat32S_fn v535 v536 F' (by rw [hi]; rfl) hst ⟨⟨_, rfl, Nat.le_refl _, Nat.le_refl _, fun _ => rfl, (ownR_spec (DVs.okAt ha 0 rfl) (ownF32_or hqv535)).2.2.2⟩, trivial, trivial⟩ hy
          exact ⟨H1, k1, k2⟩⟩) (fun F' => rfl) (fun L' => trivial)
    · cases hr
  · cases hr
/-! laws.markSparse -/
noncomputable def laws_markSparse_LO (v546 : Int) (v547 : List Int) (v548 : List Int) (v549 : List Nat) (v550 : Int) : LOr := fun id e L =>
  match id with
  | _ => .fail
noncomputable def laws_markSparse_tab : List (FuncId × DFn × Bool) := [(45, laws_markInt64S_F, false), (23, laws_markFloat32S_F, false)]
theorem laws_markSparse_hO : OrcOk Try.prog (tabD laws_markSparse_tab) (tabM laws_markSparse_tab) := tabD_cons laws_markInt64S_Fok (tabD_cons laws_markFloat32S_Fok (tabD_nil _))
noncomputable def laws_markSparse_T (v547 : List Int) (v548 : List Int) (v549 : List Nat) (v550 : Int) : Tree (Int × (List Int) × (List Int) × (List Nat)) :=
  (.call (laws_markInt64S_g v547 v550) fun v551 =>
  (.grd (decide (v551.2.length = v547.length)) <|
  (.call (laws_markInt64S_g v548 v551.1) fun v552 =>
  (.grd (decide (v552.2.length = v548.length)) <|
  (.call (laws_markFloat32S_g v549 v552.1) fun v553 =>
  (.grd (decide (v553.2.length = v549.length)) <|
  .leaf (v553.1, v551.2, v552.2, v553.2)))))))

noncomputable def laws_markSparse_g (v547 : List Int) (v548 : List Int) (v549 : List Nat) (v550 : Int) : Option (Int × (List Int) × (List Int) × (List Nat)) := (laws_markSparse_T v547 v548 v549 v550).run
def laws_markSparse_enc (v546 : Int) (v547 : List Int) (v548 : List Int) (v549 : List Nat) (v550 : Int) (y : Int × (List Int) × (List Int) × (List Nat)) : Rs := (.int .i64 y.1, [.row (.i64 y.2.1) 0, .row (.i64 y.2.2.1) 0, .row (.f32 y.2.2.2) 0])
theorem laws_markSparse_den (v546 : Int) (v547 : List Int) (v548 : List Int) (v549 : List Nat) (v550 : Int) : (den TT (tabD laws_markSparse_tab) (tabM laws_markSparse_tab) (laws_markSparse_LO v546 v547 v548 v549 v550) (codeOf Try.f22) ([.agg [.int .i64 v546, .own 0 0 v547.length, .own 1 0 v548.length, .own 2 0 v549.length], .int .i64 v550] ++ List.replicate (Try.f22.ntmps - ([.agg [.int .i64 v546, .own 0 0 v547.length, .own 1 0 v548.length, .own 2 0 v549.length], .int .i64 v550] : List DV).length) .undef) [.row (.i64 v547) 0, .row (.i64 v548) 0, .row (.f32 v549) 0]).bind (retD TT Try.f22.results.toList 3) = (laws_markSparse_T v547 v548 v549 v550).bind fun y => .leaf (laws_markSparse_enc v546 v547 v548 v549 v550 y) := by kernel_rfl
theorem laws_markSparse_fn (v546 : Int) (v547 : List Int) (v548 : List Int) (v549 : List Nat) (v550 : Int) (F : Fr) (hm : F.ids.length = 3) (h0 : St F [.row (.i64 v547) 0, .row (.i64 v548) 0, .row (.f32 v549) 0] F.H0) (hA : DVs.Ok F [.row (.i64 v547) 0, .row (.i64 v548) 0, .row (.f32 v549) 0] [.agg [.int .i64 v546, .own 0 0 v547.length, .own 1 0 v548.length, .own 2 0 v549.length], .int .i64 v550]) {y : Int × (List Int) × (List Int) × (List Nat)} (hy : laws_markSparse_g v547 v548 v549 v550 = some y) : ∃ H', FnOk Try.prog 22 (DVs.av F [.agg [.int .i64 v546, .own 0 0 v547.length, .own 1 0 v548.length, .own 2 0 v549.length], .int .i64 v550]) F.H0 ((laws_markSparse_enc v546 v547 v548 v549 v550 y).1.av F) H' ∧ St F (laws_markSparse_enc v546 v547 v548 v549 v550 y).2 H' ∧ (laws_markSparse_enc v546 v547 v548 v549 v550 y).1.Ok F (laws_markSparse_enc v546 v547 v548 v549 v550 y).2 :=
  fn_fin tok laws_markSparse_hO mixed Try.func22 Try.call22 (by kernel_rfl) (LoopsOk_eq (l := []) (by kernel_rfl) trivial) (laws_markSparse_den v546 v547 v548 v549 v550) hy hm h0 hA
noncomputable def laws_markSparse_F : DFn := fun args L =>
  match args with
  | [.agg [.int .i64 v546, a1, a2, a3], .int .i64 v550] =>
    optT (ownI64 L a1) fun qv547 =>
    optT (ownI64 L a2) fun qv548 =>
    optT (ownF32 L a3) fun qv549 =>
    (match sepB [qv547.1, qv548.1, qv549.1] [] with
    | true =>
    .call (laws_markSparse_g qv547.2 qv548.2 qv549.2 v550) fun y => .grd (decide (y.2.1.length = qv547.2.length)) (.grd (decide (y.2.2.1.length = qv548.2.length)) (.grd (decide (y.2.2.2.length = qv549.2.length)) (.leaf (.int .i64 y.1, setRows L ([qv547.1, qv548.1, qv549.1].zip [.i64 y.2.1, .i64 y.2.2.1, .f32 y.2.2.2])))))
    | false => .fail)
  | _ => .fail
theorem laws_markSparse_Fok : COk Try.prog 22 laws_markSparse_F false := by
  intro F L H args r L' hs ha hr
  unfold laws_markSparse_F at hr
  split at hr
  · rename_i v546 a1 a2 a3 v550
    obtain ⟨⟨jv547, v547⟩, hqv547, hr⟩ := optT_run hr
    simp only at hr
    obtain ⟨⟨jv548, v548⟩, hqv548, hr⟩ := optT_run hr
    simp only at hr
    obtain ⟨⟨jv549, v549⟩, hqv549, hr⟩ := optT_run hr
    simp only at hr
    split at hr
    · rename_i hsep
      obtain ⟨hnd, hsepv⟩ := sepB_spec hsep
      simp only [Tree.run] at hr
      obtain ⟨y, hy, hr⟩ := Option.bind_eq_some_iff.1 hr
      try simp only [Tree.run] at hr
      obtain ⟨hl0, hr⟩ := ite_run hr
      obtain ⟨hl1, hr⟩ := ite_run hr
      obtain ⟨hl2, hr⟩ := ite_run hr
      simp only [Option.some.injEq, Prod.mk.injEq] at hr
      obtain ⟨rfl, rfl⟩ := hr
      obtain ⟨hr0, hu0, ha0, hb0⟩ := (ownR_spec (DVs.okAt (DVs.okAt ha 0 rfl) 1 rfl) (ownI64_or hqv547))
      obtain ⟨hr1, hu1, ha1, hb1⟩ := (ownR_spec (DVs.okAt (DVs.okAt ha 0 rfl) 2 rfl) (ownI64_or hqv548))
      obtain ⟨hr2, hu2, ha2, hb2⟩ := (ownR_spec (DVs.okAt (DVs.okAt ha 0 rfl) 3 rfl) (ownF32_or hqv549))
      exact mut_ok hs (fun k => (([a1.av F, a2.av F, a3.av F] : List AV)[k]?).getD .top) [.agg [.int .i64 v546, a1, a2, a3], .int .i64 v550] [.agg [.int .i64 v546, .own 0 0 v547.length, .own 1 0 v548.length, .own 2 0 v549.length], .int .i64 v550] [jv547, jv548, jv549] [.i64 v547, .i64 v548, .f32 v549] [.i64 y.2.1, .i64 y.2.2.1, .f32 y.2.2.2] hnd rfl rfl (fun i j q h1 h2 => by
          rcases i with _ | _ | _ | i
          · simp at h1 h2; subst h1; subst h2; exact hr0
          · simp at h1 h2; subst h1; subst h2; exact hr1
          · simp at h1 h2; subst h1; subst h2; exact hr2
          · simp at h1) (fun i q q' h1 h2 => by
          rcases i with _ | _ | _ | i
          · simp at h1 h2; subst h1; subst h2; exact of_decide_eq_true hl0
          · simp at h1 h2; subst h1; subst h2; exact of_decide_eq_true hl1
          · simp at h1 h2; subst h1; subst h2; exact of_decide_eq_true hl2
          · simp at h1) (fun j hj => by simp at hj; rcases hj with rfl | rfl | rfl <;> simp [DVs.refs, DV.refs, hu0, hu1, hu2]) (fun F' h0 hi hρ hst hS => ⟨by (have ab0 : F'.abs 0 = F.abs jv547 := (by simp [Fr.abs, hi]); have ab1 : F'.abs 1 = F.abs jv548 := (by simp [Fr.abs, hi]); have ab2 : F'.abs 2 = F.abs jv549 := (by simp [Fr.abs, hi]); simp [DVs.av, DV.av, BR.av, hρ, Row.len, ha0, ab0, ha1, ab1, ha2, ab2]), by
          obtain ⟨H1, k1, k2, _⟩ := laws_markSparse_fn v546 v547 v548 v549 v550 F' (by rw [hi]; rfl) hst ⟨⟨trivial, ⟨_, rfl, Nat.le_refl _, Nat.le_refl _, fun _ => rfl, (ownR_spec (DVs.okAt (DVs.okAt ha 0 rfl) 1 rfl) (ownI64_or hqv547)).2.2.2⟩, ⟨_, rfl, Nat.le_refl _, Nat.le_refl _, fun _ => rfl, (ownR_spec (DVs.okAt (DVs.okAt ha 0 rfl) 2 rfl) (ownI64_or hqv548)).2.2.2⟩, ⟨_, rfl, Nat.le_refl _, Nat.le_refl _, fun _ => rfl, (ownR_spec (DVs.okAt (DVs.okAt ha 0 rfl) 3 rfl) (ownF32_or hqv549)).2.2.2⟩, trivial⟩, trivial, trivial⟩ hy
          exact ⟨H1, k1, k2⟩⟩) (fun F' => rfl) (fun L' => trivial)
    · cases hr
  · cases hr
/-! laws.markFloat32S -/
noncomputable def laws_markFloat32S_i1_l0_T (s : Unit) : Tree ((Unit) ⊕ (Unit)) :=
  (.br (decide ((0 : Int) < (0 : Int))) (
   .fail
  ) (
   .leaf (.inr ())
  ))

noncomputable def laws_markFloat32S_i1_l0_g (s0 : Unit) : Option (Unit) := whileM (fun s => (laws_markFloat32S_i1_l0_T s).run) s0
def laws_markFloat32S_i1_l0_E (v557 : Int) (s : Unit) : Sd := ([.nilslc, .int .i64 v557, .top, .top, .top, .int .i64 (0 : Int), .top, .top, .top, .top, .top, .top, .top, .top, .top, .top, .top, .top, .top, .top], [])
def laws_markFloat32S_i1_l0_X (v557 : Int) (x : Unit) : Out := (.normal, [.top, .int .i64 v557, .top, .top, .top, .top, .top, .top, .top, .top, .top, .top, .top, .top, .top, .top, .top, .top, .top, .top], [])
def laws_markFloat32S_i1_l0_kill : List Nat := [0, 0, 1, 1, 1, 0, 1, 1, 1, 1, 1, 1, 1, 1, 1, 1, 1, 1, 1, 1]
def laws_markFloat32S_i1_l0_nx : Exit → List Nat
  | .exit 0 => [1, 0, 1, 1, 1, 1, 1, 1, 1, 1, 1, 1, 1, 1, 1, 1, 1, 1, 1, 1]
  | .ret => [1, 1, 1, 1, 0, 1, 1, 1, 1, 1, 1, 1, 1, 1, 1, 1, 1, 1, 1, 1]
  | _ => []
noncomputable def laws_markFloat32S_i1_LO (v557 : Int) : LOr := fun id e L =>
  match id with
  | 0 => .need (normA 0 laws_markFloat32S_i1_l0_kill e L = some (laws_markFloat32S_i1_l0_E v557 ())) (.call (laws_markFloat32S_i1_l0_g ()) fun x => .leaf (laws_markFloat32S_i1_l0_X v557 x))
  | _ => .fail
noncomputable def laws_markFloat32S_i1_tab : List (FuncId × DFn × Bool) := []
theorem laws_markFloat32S_i1_hO : OrcOk Try.prog (tabD laws_markFloat32S_i1_tab) (tabM laws_markFloat32S_i1_tab) := tabD_nil _
theorem laws_markFloat32S_i1_l0_be (v557 : Int) (s : Unit) : bodyT TT (tabD laws_markFloat32S_i1_tab) (tabM laws_markFloat32S_i1_tab) (laws_markFloat32S_i1_LO v557) 0 laws_markFloat32S_i1_l0_kill laws_markFloat32S_i1_l0_nx (bodyOf Try.f23 0) 0 (laws_markFloat32S_i1_l0_E v557 s) = (laws_markFloat32S_i1_l0_T s).bind fun y => .leaf (outS (laws_markFloat32S_i1_l0_E v557) (laws_markFloat32S_i1_l0_X v557) y) := by kernel_rfl
theorem laws_markFloat32S_i1_l0_ok (v557 : Int) : LSound Try.prog 0 (laws_markFloat32S_i1_LO v557) 0 (bodyOf Try.f23 0) := by
  intro e L out h
  exact lo_ok (E := laws_markFloat32S_i1_l0_E v557) (gT := laws_markFloat32S_i1_l0_T) (X := laws_markFloat32S_i1_l0_X v557) (s0 := ()) tok laws_markFloat32S_i1_hO mixed (LoopsOk_eq (l := []) (by kernel_rfl) trivial) (laws_markFloat32S_i1_l0_be v557) rfl (by intro x; rfl) h
noncomputable def laws_markFloat32S_i1_T (v557 : Int) : Tree (Int) :=
  (.need (some (laws_markFloat32S_i1_l0_E v557 ()) = some (laws_markFloat32S_i1_l0_E v557 ())) <|
  (.call (laws_markFloat32S_i1_l0_g ()) fun v560 =>
  .leaf v557))

noncomputable def laws_markFloat32S_i1_g (v557 : Int) : Option (Int) := (laws_markFloat32S_i1_T v557).run
def laws_markFloat32S_i1_enc (v557 : Int) (y : Int) : Rs := (.int .i64 y, [])
theorem laws_markFloat32S_i1_den (v557 : Int) : (den TT (tabD laws_markFloat32S_i1_tab) (tabM laws_markFloat32S_i1_tab) (laws_markFloat32S_i1_LO v557) (codeOf Try.f23) ([.nilslc, .int .i64 v557] ++ List.replicate (Try.f23.ntmps - ([.nilslc, .int .i64 v557] : List DV).length) .undef) []).bind (retD TT Try.f23.results.toList 0) = (laws_markFloat32S_i1_T v557).bind fun y => .leaf (laws_markFloat32S_i1_enc v557 y) := by kernel_rfl
theorem laws_markFloat32S_i1_fn (v557 : Int) (F : Fr) (hm : F.ids.length = 0) (h0 : St F [] F.H0) (hA : DVs.Ok F [] [.nilslc, .int .i64 v557]) {y : Int} (hy : laws_markFloat32S_i1_g v557 = some y) : ∃ H', FnOk Try.prog 23 (DVs.av F [.nilslc, .int .i64 v557]) F.H0 ((laws_markFloat32S_i1_enc v557 y).1.av F) H' ∧ St F (laws_markFloat32S_i1_enc v557 y).2 H' ∧ (laws_markFloat32S_i1_enc v557 y).1.Ok F (laws_markFloat32S_i1_enc v557 y).2 :=
  fn_fin tok laws_markFloat32S_i1_hO mixed Try.func23 Try.call23 (by kernel_rfl) (LoopsOk_eq (l := [(0, bodyOf Try.f23 0)]) (by kernel_rfl) ⟨laws_markFloat32S_i1_l0_ok v557, trivial⟩) (laws_markFloat32S_i1_den v557) hy hm h0 hA
noncomputable def laws_markFloat32S_i1_F : DFn := fun args L =>
  match args with
  | [.nilslc, .int .i64 v557] =>
    .call (laws_markFloat32S_i1_g v557) fun y => .leaf (.int .i64 y, L)
  | _ => .fail
theorem laws_markFloat32S_i1_Fok : COk Try.prog 23 laws_markFloat32S_i1_F true := by
  intro F L H args r L' hs ha hr
  unfold laws_markFloat32S_i1_F at hr
  split at hr
  · rename_i v557
    simp only [Tree.run] at hr
    obtain ⟨y, hy, hr⟩ := Option.bind_eq_some_iff.1 hr
    simp only [Tree.run, Option.some.injEq, Prod.mk.injEq] at hr
    obtain ⟨rfl, rfl⟩ := hr
    exact call_ok0 hs (fun k => (([] : List AV)[k]?).getD .top) [.nilslc, .int .i64 v557] [.nilslc, .int .i64 v557] (fun F' h0 hi hρ => ⟨by simp [DVs.av, DV.av, BR.av, hρ], laws_markFloat32S_i1_fn v557 F' (by rw [hi]; rfl) (st_nil hi) ⟨trivial, trivial, trivial⟩ hy⟩) rfl
  · cases hr
/-! laws.heldFloat32S -/
noncomputable def laws_heldFloat32S_l0_T (v562 : List Nat) (s : Int × Int) : Tree ((Int × Int) ⊕ ((Unit) ⊕ (Int))) :=
  (.br (decide (s.2 < ((v562.length : Nat) : Int))) (
   (.grd (inb s.2 v562.length) <|
   (.br (!feq .f32 (nth v562 (Int.toNat s.2)) (fofint .f32 s.1)) (
    .leaf (.inr (.inl ()))
   ) (
    .leaf (.inl (IntKind.i64.wrap (s.1 + (1 : Int)), IntKind.i64.wrap (s.2 + (1 : Int))))
   )))
  ) (
   .leaf (.inr (.inr s.1))
  ))

noncomputable def laws_heldFloat32S_l0_g (v562 : List Nat) (s0 : Int × Int) : Option ((Unit) ⊕ (Int)) := whileM (fun s => (laws_heldFloat32S_l0_T v562 s).run) s0
def laws_heldFloat32S_l0_E (v562 : List Nat) (v563 : Int) (s : Int × Int) : Sd := ([.bslc (BR.root 0) (.f32 v562), .int .i64 s.1, .top, .top, .top, .int .i64 s.2, .top, .top, .top, .top, .top, .top, .top, .top, .top, .top, .top, .top, .top, .top, .top, .top], [])
def laws_heldFloat32S_l0_X (v562 : List Nat) (v563 : Int) (x : (Unit) ⊕ (Int)) : Out := (match x with | .inl x => (.ret, [.top, .top, .top, .top, .int .i64 (-1 : Int), .top, .top, .top, .top, .top, .top, .top, .top, .top, .top, .top, .top, .top, .top, .top, .top, .top], []) | .inr x => (.normal, [.top, .int .i64 x, .top, .top, .top, .top, .top, .top, .top, .top, .top, .top, .top, .top, .top, .top, .top, .top, .top, .top, .top, .top], []))
def laws_heldFloat32S_l0_kill : List Nat := [0, 0, 1, 1, 1, 0, 1, 1, 1, 1, 1, 1, 1, 1, 1, 1, 1, 1, 1, 1, 1, 1]
def laws_heldFloat32S_l0_nx : Exit → List Nat
  | .exit 0 => [1, 0, 1, 1, 1, 1, 1, 1, 1, 1, 1, 1, 1, 1, 1, 1, 1, 1, 1, 1, 1, 1]
  | .ret => [1, 1, 1, 1, 0, 1, 1, 1, 1, 1, 1, 1, 1, 1, 1, 1, 1, 1, 1, 1, 1, 1]
  | _ => []
noncomputable def laws_heldFloat32S_LO (v562 : List Nat) (v563 : Int) : LOr := fun id e L =>
  match id with
  | 0 => .need (normA 0 laws_heldFloat32S_l0_kill e L = some (laws_heldFloat32S_l0_E v562 v563 ((gI (vAt e 1)), (gI (vAt e 5))))) (.call (laws_heldFloat32S_l0_g v562 ((gI (vAt e 1)), (gI (vAt e 5)))) fun x => .sum x (fun b0 => .leaf (laws_heldFloat32S_l0_X v562 v563 (.inl b0))) (fun c0 => .leaf (laws_heldFloat32S_l0_X v562 v563 (.inr c0))))
  | _ => .fail
noncomputable def laws_heldFloat32S_tab : List (FuncId × DFn × Bool) := []
theorem laws_heldFloat32S_hO : OrcOk Try.prog (tabD laws_heldFloat32S_tab) (tabM laws_heldFloat32S_tab) := tabD_nil _
theorem laws_heldFloat32S_l0_be (v562 : List Nat) (v563 : Int) (s : Int × Int) : bodyT TT (tabD laws_heldFloat32S_tab) (tabM laws_heldFloat32S_tab) (laws_heldFloat32S_LO v562 v563) 0 laws_heldFloat32S_l0_kill laws_heldFloat32S_l0_nx (bodyOf Try.f24 0) 0 (laws_heldFloat32S_l0_E v562 v563 s) = (laws_heldFloat32S_l0_T v562 s).bind fun y => .leaf (outS (laws_heldFloat32S_l0_E v562 v563) (laws_heldFloat32S_l0_X v562 v563) y) := by kernel_rfl
theorem laws_heldFloat32S_l0_ok (v562 : List Nat) (v563 : Int) : LSound Try.prog 0 (laws_heldFloat32S_LO v562 v563) 0 (bodyOf Try.f24 0) := by
  intro e L out h
  exact lo_ok (E := laws_heldFloat32S_l0_E v562 v563) (gT := laws_heldFloat32S_l0_T v562) (X := laws_heldFloat32S_l0_X v562 v563) (s0 := ((gI (vAt e 1)), (gI (vAt e 5)))) tok laws_heldFloat32S_hO mixed (LoopsOk_eq (l := []) (by kernel_rfl) trivial) (laws_heldFloat32S_l0_be v562 v563) rfl (by intro x; (cases x with | inl b => rfl | inr x => exact rfl)) h
noncomputable def laws_heldFloat32S_T (v562 : List Nat) (v563 : Int) : Tree (Int) :=
  (.need (some (laws_heldFloat32S_l0_E v562 v563 (v563, (0 : Int))) = some (laws_heldFloat32S_l0_E v562 v563 (v563, (0 : Int)))) <|
  (.call (laws_heldFloat32S_l0_g v562 (v563, (0 : Int))) fun v570 =>
  (.sum v570 (fun v571 =>
   .leaf (-1 : Int)
  ) (fun v572 =>
   .leaf v572
  ))))

noncomputable def laws_heldFloat32S_g (v562 : List Nat) (v563 : Int) : Option (Int) := (laws_heldFloat32S_T v562 v563).run
def laws_heldFloat32S_enc (v562 : List Nat) (v563 : Int) (y : Int) : Rs := (.int .i64 y, [])
theorem laws_heldFloat32S_den (v562 : List Nat) (v563 : Int) : (den TT (tabD laws_heldFloat32S_tab) (tabM laws_heldFloat32S_tab) (laws_heldFloat32S_LO v562 v563) (codeOf Try.f24) ([.bslc (BR.root 0) (.f32 v562), .int .i64 v563] ++ List.replicate (Try.f24.ntmps - ([.bslc (BR.root 0) (.f32 v562), .int .i64 v563] : List DV).length) .undef) []).bind (retD TT Try.f24.results.toList 0) = (laws_heldFloat32S_T v562 v563).bind fun y => .leaf (laws_heldFloat32S_enc v562 v563 y) := by kernel_rfl
theorem laws_heldFloat32S_fn (v562 : List Nat) (v563 : Int) (F : Fr) (hm : F.ids.length = 0) (h0 : St F [] F.H0) (hA : DVs.Ok F [] [.bslc (BR.root 0) (.f32 v562), .int .i64 v563]) {y : Int} (hy : laws_heldFloat32S_g v562 v563 = some y) : ∃ H', FnOk Try.prog 24 (DVs.av F [.bslc (BR.root 0) (.f32 v562), .int .i64 v563]) F.H0 ((laws_heldFloat32S_enc v562 v563 y).1.av F) H' ∧ St F (laws_heldFloat32S_enc v562 v563 y).2 H' ∧ (laws_heldFloat32S_enc v562 v563 y).1.Ok F (laws_heldFloat32S_enc v562 v563 y).2 :=
  fn_fin tok laws_heldFloat32S_hO mixed Try.func24 Try.call24 (by kernel_rfl) (LoopsOk_eq (l := [(0, bodyOf Try.f24 0)]) (by kernel_rfl) ⟨laws_heldFloat32S_l0_ok v562 v563, trivial⟩) (laws_heldFloat32S_den v562 v563) hy hm h0 hA
noncomputable def laws_heldFloat32S_F : DFn := fun args L =>
  match args with
  | [a1, .int .i64 v563] =>
    optT (rowF32 L a1) fun v562 =>
    .call (laws_heldFloat32S_g v562 v563) fun y => .leaf (.int .i64 y, L)
  | _ => .fail
theorem laws_heldFloat32S_Fok : COk Try.prog 24 laws_heldFloat32S_F true := by
  intro F L H args r L' hs ha hr
  unfold laws_heldFloat32S_F at hr
  split at hr
  · rename_i a1 v563
    obtain ⟨v562, hv562, hr⟩ := optT_run hr
    simp only [Tree.run] at hr
    obtain ⟨y, hy, hr⟩ := Option.bind_eq_some_iff.1 hr
    simp only [Tree.run, Option.some.injEq, Prod.mk.injEq] at hr
    obtain ⟨rfl, rfl⟩ := hr
    exact call_ok0 hs (fun k => (([a1.av F] : List AV)[k]?).getD .top) [a1, .int .i64 v563] [.bslc (BR.root 0) (.f32 v562), .int .i64 v563] (fun F' h0 hi hρ => ⟨by simp [DVs.av, DV.av, BR.av, hρ], laws_heldFloat32S_fn v562 v563 F' (by rw [hi]; rfl) (st_nil hi) ⟨bslc_ok hi (by rw [h0, hρ]; exact rowF32_ok hs (DVs.okAt ha 0 rfl) hv562), trivial, trivial⟩ hy⟩) rfl
  · cases hr
/-! laws.FnExactSparseRootSolve -/
noncomputable def laws_FnExactSparseRootSolve_LO (v1 : Int) (v2 : List Int) (v3 : List Int) (v4 : List Nat) (v5 : List Nat) : LOr := fun id e L =>
  match id with
  | _ => .fail
noncomputable def laws_FnExactSparseRootSolve_tab : List (FuncId × DFn × Bool) := [(15, laws_szSparse_F, true), (17, laws_toSparse_F, true), (18, laws_toFloat32S_F, true), (27, spec_SparseRootSolve_F, true), (28, impl_SparseRootSolve_F, true), (20, laws_eqFloat32S_F, true), (21, laws_eqSparse_F, true), (22, laws_markSparse_F, false), (23, (orD (fun args => match args with | [.nilslc, _] => true | _ => false) laws_markFloat32S_i1_F laws_markFloat32S_F), false), (24, laws_heldFloat32S_F, true)]
theorem laws_FnExactSparseRootSolve_hO : OrcOk Try.prog (tabD laws_FnExactSparseRootSolve_tab) (tabM laws_FnExactSparseRootSolve_tab) := tabD_cons laws_szSparse_Fok (tabD_cons laws_toSparse_Fok (tabD_cons laws_toFloat32S_Fok (tabD_cons spec_SparseRootSolve_Fok (tabD_cons impl_SparseRootSolve_Fok (tabD_cons laws_eqFloat32S_Fok (tabD_cons laws_eqSparse_Fok (tabD_cons laws_markSparse_Fok (tabD_cons (orD_ok (COk.weak laws_markFloat32S_i1_Fok) laws_markFloat32S_Fok) (tabD_cons laws_heldFloat32S_Fok (tabD_nil _))))))))))
noncomputable def laws_FnExactSparseRootSolve_T (v1 : Int) (v2 : List Int) (v3 : List Int) (v4 : List Nat) (v5 : List Nat) : Tree (Bool) :=
  (.br (decide ((1048576 : Int) < ((v5.length : Nat) : Int))) (
   .leaf true
  ) (
   (.br (decide ((laws_szSparse_v v2 v3 v4 (1048576 : Int)) < (0 : Int))) (
    .leaf true
   ) (
    (.call (laws_toSparse_g v1 v2 v3 v4) fun v36 =>
    (.call (laws_toFloat32S_g v5) fun v37 =>
    (.call (spec_SparseRootSolve_g v36.1 v36.2.1 v36.2.2.1 v36.2.2.2 v37) fun v219 =>
    (.sum v219 (fun v220 =>
     (.call (laws_toSparse_g v1 v2 v3 v4) fun v222 =>
     (.call (laws_toFloat32S_g v5) fun v223 =>
     (.call (impl_SparseRootSolve_g v222.1 v222.2.1 v222.2.2.1 v222.2.2.2 v223) fun v461 =>
     (.sum v461 (fun v462 =>
      (.call (laws_eqFloat32S_g ([] : List Nat) ([] : List Nat)) fun v474 =>
      (.br (!v474) (
       .leaf false
      ) (
       (.br (!(false == false)) (
        .leaf false
       ) (
        (.call (laws_toSparse_g v1 v2 v3 v4) fun v475 =>
        (.call (laws_eqSparse_g v222.1 v222.2.1 v222.2.2.1 v222.2.2.2 v475.1 v475.2.1 v475.2.2.1 v475.2.2.2) fun v495 =>
        (.br (!v495) (
         .leaf false
        ) (
         (.call (laws_toFloat32S_g v5) fun v496 =>
         (.call (laws_eqFloat32S_g v223 v496) fun v497 =>
         (.br (!v497) (
          .leaf false
         ) (
          (.call (laws_markSparse_g v222.2.1 v222.2.2.1 v222.2.2.2 (1 : Int)) fun v554 =>
          (.grd (decide (v554.2.1.length = v222.2.1.length)) <|
          (.grd (decide (v554.2.2.1.length = v222.2.2.1.length)) <|
          (.grd (decide (v554.2.2.2.length = v222.2.2.2.length)) <|
          (.call (laws_markFloat32S_g v223 v554.1) fun v555 =>
          (.grd (decide (v555.2.length = v223.length)) <|
          (.br (decide (v555.1 < (0 : Int))) (
           .leaf false
          ) (
           (.call (laws_eqFloat32S_g ([] : List Nat) ([] : List Nat)) fun v556 =>
           (.br (!v556) (
            .leaf false
           ) (
            (.br (!(false == false)) (
             .leaf false
            ) (
             (.call (laws_markFloat32S_i1_g (1 : Int)) fun v561 =>
             (.call (laws_heldFloat32S_g ([] : List Nat) (1 : Int)) fun v573 =>
             (.br (decide (v573 < (0 : Int))) (
              .leaf false
             ) (
              (.br (!decide (v573 = v561)) (
               .leaf false
              ) (
               (.call (laws_toSparse_g v1 v2 v3 v4) fun v574 =>
               (.call (laws_toFloat32S_g v5) fun v575 =>
               (.call (impl_SparseRootSolve_g v574.1 v574.2.1 v574.2.2.1 v574.2.2.2 v575) fun v576 =>
               (.sum v576 (fun v577 =>
                (.call (laws_eqFloat32S_g ([] : List Nat) ([] : List Nat)) fun v579 =>
                (.br (!v579) (
                 .leaf false
                ) (
                 (.br (!(false == false)) (
                  .leaf false
                 ) (
                  (.call (laws_heldFloat32S_g ([] : List Nat) (1 : Int)) fun v580 =>
                  (.br (decide (v580 < (0 : Int))) (
                   .leaf false
                  ) (
                   (.br (!decide (v580 = v561)) (
                    .leaf false
                   ) (
                    .leaf true
                   ))
                  )))
                 ))
                )))
               ) (fun v578 =>
                (.call (laws_eqFloat32S_g v578 ([] : List Nat)) fun v581 =>
                (.br (!v581) (
                 .leaf false
                ) (
                 (.br (!(true == false)) (
                  .leaf false
                 ) (
                  (.call (laws_heldFloat32S_g ([] : List Nat) (1 : Int)) fun v582 =>
                  (.br (decide (v582 < (0 : Int))) (
                   .leaf false
                  ) (
                   (.br (!decide (v582 = v561)) (
                    .leaf false
                   ) (
                    .leaf true
                   ))
                  )))
                 ))
                )))
               )))))
              ))
             ))))
            ))
           )))
          ))))))))
         ))))
        ))))
       ))
      )))
     ) (fun v463 =>
      (.call (laws_eqFloat32S_g v463 ([] : List Nat)) fun v583 =>
      (.br (!v583) (
       .leaf false
      ) (
       (.br (!(true == false)) (
        .leaf false
       ) (
        (.call (laws_toSparse_g v1 v2 v3 v4) fun v584 =>
        (.call (laws_eqSparse_g v222.1 v222.2.1 v222.2.2.1 v222.2.2.2 v584.1 v584.2.1 v584.2.2.1 v584.2.2.2) fun v585 =>
        (.br (!v585) (
         .leaf false
        ) (
         (.call (laws_toFloat32S_g v5) fun v586 =>
         (.call (laws_eqFloat32S_g v223 v586) fun v587 =>
         (.br (!v587) (
          .leaf false
         ) (
          (.call (laws_markSparse_g v222.2.1 v222.2.2.1 v222.2.2.2 (1 : Int)) fun v588 =>
          (.grd (decide (v588.2.1.length = v222.2.1.length)) <|
          (.grd (decide (v588.2.2.1.length = v222.2.2.1.length)) <|
          (.grd (decide (v588.2.2.2.length = v222.2.2.2.length)) <|
          (.call (laws_markFloat32S_g v223 v588.1) fun v589 =>
          (.grd (decide (v589.2.length = v223.length)) <|
          (.br (decide (v589.1 < (0 : Int))) (
           .leaf false
          ) (
           (.call (laws_eqFloat32S_g v463 ([] : List Nat)) fun v590 =>
           (.br (!v590) (
            .leaf false
           ) (
            (.br (!(true == false)) (
             .leaf false
            ) (
             (.call (laws_markFloat32S_g v463 (1 : Int)) fun v591 =>
             (.grd (decide (v591.2.length = v463.length)) <|
             (.call (laws_heldFloat32S_g v591.2 (1 : Int)) fun v592 =>
             (.br (decide (v592 < (0 : Int))) (
              .leaf false
             ) (
              (.br (!decide (v592 = v591.1)) (
               .leaf false
              ) (
               (.call (laws_toSparse_g v1 v2 v3 v4) fun v593 =>
               (.call (laws_toFloat32S_g v5) fun v594 =>
               (.call (impl_SparseRootSolve_g v593.1 v593.2.1 v593.2.2.1 v593.2.2.2 v594) fun v595 =>
               (.sum v595 (fun v596 =>
                (.call (laws_eqFloat32S_g ([] : List Nat) ([] : List Nat)) fun v598 =>
                (.br (!v598) (
                 .leaf false
                ) (
                 (.br (!(false == false)) (
                  .leaf false
                 ) (
                  (.call (laws_heldFloat32S_g v591.2 (1 : Int)) fun v599 =>
                  (.br (decide (v599 < (0 : Int))) (
                   .leaf false
                  ) (
                   (.br (!decide (v599 = v591.1)) (
                    .leaf false
                   ) (
                    .leaf true
                   ))
                  )))
                 ))
                )))
               ) (fun v597 =>
                (.call (laws_eqFloat32S_g v597 ([] : List Nat)) fun v600 =>
                (.br (!v600) (
                 .leaf false
                ) (
                 (.br (!(true == false)) (
                  .leaf false
                 ) (
                  (.call (laws_heldFloat32S_g v591.2 (1 : Int)) fun v601 =>
                  (.br (decide (v601 < (0 : Int))) (
                   .leaf false
                  ) (
                   (.br (!decide (v601 = v591.1)) (
                    .leaf false
                   ) (
                    .leaf true
                   ))
                  )))
                 ))
                )))
               )))))
              ))
             )))))
            ))
           )))
          ))))))))
         ))))
        ))))
       ))
      )))
     )))))
    ) (fun v221 =>
     (.call (laws_toSparse_g v1 v2 v3 v4) fun v602 =>
     (.call (laws_toFloat32S_g v5) fun v603 =>
     (.call (impl_SparseRootSolve_g v602.1 v602.2.1 v602.2.2.1 v602.2.2.2 v603) fun v604 =>
     (.sum v604 (fun v605 =>
      (.call (laws_eqFloat32S_g ([] : List Nat) v221) fun v607 =>
      (.br (!v607) (
       .leaf false
      ) (
       (.br (!(false == true)) (
        .leaf false
       ) (
        (.call (laws_toSparse_g v1 v2 v3 v4) fun v608 =>
        (.call (laws_eqSparse_g v602.1 v602.2.1 v602.2.2.1 v602.2.2.2 v608.1 v608.2.1 v608.2.2.1 v608.2.2.2) fun v609 =>
        (.br (!v609) (
         .leaf false
        ) (
         (.call (laws_toFloat32S_g v5) fun v610 =>
         (.call (laws_eqFloat32S_g v603 v610) fun v611 =>
         (.br (!v611) (
          .leaf false
         ) (
          (.call (laws_markSparse_g v602.2.1 v602.2.2.1 v602.2.2.2 (1 : Int)) fun v612 =>
          (.grd (decide (v612.2.1.length = v602.2.1.length)) <|
          (.grd (decide (v612.2.2.1.length = v602.2.2.1.length)) <|
          (.grd (decide (v612.2.2.2.length = v602.2.2.2.length)) <|
          (.call (laws_markFloat32S_g v603 v612.1) fun v613 =>
          (.grd (decide (v613.2.length = v603.length)) <|
          (.br (decide (v613.1 < (0 : Int))) (
           .leaf false
          ) (
           (.call (laws_eqFloat32S_g ([] : List Nat) v221) fun v614 =>
           (.br (!v614) (
            .leaf false
           ) (
            (.br (!(false == true)) (
             .leaf false
            ) (
             (.call (laws_markFloat32S_i1_g (1 : Int)) fun v615 =>
             (.call (laws_heldFloat32S_g ([] : List Nat) (1 : Int)) fun v616 =>
             (.br (decide (v616 < (0 : Int))) (
              .leaf false
             ) (
              (.br (!decide (v616 = v615)) (
               .leaf false
              ) (
               (.call (laws_toSparse_g v1 v2 v3 v4) fun v617 =>
               (.call (laws_toFloat32S_g v5) fun v618 =>
               (.call (impl_SparseRootSolve_g v617.1 v617.2.1 v617.2.2.1 v617.2.2.2 v618) fun v619 =>
               (.sum v619 (fun v620 =>
                (.call (laws_eqFloat32S_g ([] : List Nat) v221) fun v622 =>
                (.br (!v622) (
                 .leaf false
                ) (
                 (.br (!(false == true)) (
                  .leaf false
                 ) (
                  (.call (laws_heldFloat32S_g ([] : List Nat) (1 : Int)) fun v623 =>
                  (.br (decide (v623 < (0 : Int))) (
                   .leaf false
                  ) (
                   (.br (!decide (v623 = v615)) (
                    .leaf false
                   ) (
                    .leaf true
                   ))
                  )))
                 ))
                )))
               ) (fun v621 =>
                (.call (laws_eqFloat32S_g v621 v221) fun v624 =>
                (.br (!v624) (
                 .leaf false
                ) (
                 (.br (!(true == true)) (
                  .leaf false
                 ) (
                  (.call (laws_heldFloat32S_g ([] : List Nat) (1 : Int)) fun v625 =>
                  (.br (decide (v625 < (0 : Int))) (
                   .leaf false
                  ) (
                   (.br (!decide (v625 = v615)) (
                    .leaf false
                   ) (
                    .leaf true
                   ))
                  )))
                 ))
                )))
               )))))
              ))
             ))))
            ))
           )))
          ))))))))
         ))))
        ))))
       ))
      )))
     ) (fun v606 =>
      (.call (laws_eqFloat32S_g v606 v221) fun v626 =>
      (.br (!v626) (
       .leaf false
      ) (
       (.br (!(true == true)) (
        .leaf false
       ) (
        (.call (laws_toSparse_g v1 v2 v3 v4) fun v627 =>
        (.call (laws_eqSparse_g v602.1 v602.2.1 v602.2.2.1 v602.2.2.2 v627.1 v627.2.1 v627.2.2.1 v627.2.2.2) fun v628 =>
        (.br (!v628) (
         .leaf false
        ) (
         (.call (laws_toFloat32S_g v5) fun v629 =>
         (.call (laws_eqFloat32S_g v603 v629) fun v630 =>
         (.br (!v630) (
          .leaf false
         ) (
          (.call (laws_markSparse_g v602.2.1 v602.2.2.1 v602.2.2.2 (1 : Int)) fun v631 =>
          (.grd (decide (v631.2.1.length = v602.2.1.length)) <|
          (.grd (decide (v631.2.2.1.length = v602.2.2.1.length)) <|
          (.grd (decide (v631.2.2.2.length = v602.2.2.2.length)) <|
          (.call (laws_markFloat32S_g v603 v631.1) fun v632 =>
          (.grd (decide (v632.2.length = v603.length)) <|
          (.br (decide (v632.1 < (0 : Int))) (
           .leaf false
          ) (
           (.call (laws_eqFloat32S_g v606 v221) fun v633 =>
           (.br (!v633) (
            .leaf false
           ) (
            (.br (!(true == true)) (
             .leaf false
            ) (
             (.call (laws_markFloat32S_g v606 (1 : Int)) fun v634 =>
             (.grd (decide (v634.2.length = v606.length)) <|
             (.call (laws_heldFloat32S_g v634.2 (1 : Int)) fun v635 =>
             (.br (decide (v635 < (0 : Int))) (
              .leaf false
             ) (
              (.br (!decide (v635 = v634.1)) (
               .leaf false
              ) (
               (.call (laws_toSparse_g v1 v2 v3 v4) fun v636 =>
               (.call (laws_toFloat32S_g v5) fun v637 =>
               (.call (impl_SparseRootSolve_g v636.1 v636.2.1 v636.2.2.1 v636.2.2.2 v637) fun v638 =>
               (.sum v638 (fun v639 =>
                (.call (laws_eqFloat32S_g ([] : List Nat) v221) fun v641 =>
                (.br (!v641) (
                 .leaf false
                ) (
                 (.br (!(false == true)) (
                  .leaf false
                 ) (
                  (.call (laws_heldFloat32S_g v634.2 (1 : Int)) fun v642 =>
                  (.br (decide (v642 < (0 : Int))) (
                   .leaf false
                  ) (
                   (.br (!decide (v642 = v634.1)) (
                    .leaf false
                   ) (
                    .leaf true
                   ))
                  )))
                 ))
                )))
               ) (fun v640 =>
                (.call (laws_eqFloat32S_g v640 v221) fun v643 =>
                (.br (!v643) (
                 .leaf false
                ) (
                 (.br (!(true == true)) (
                  .leaf false
                 ) (
                  (.call (laws_heldFloat32S_g v634.2 (1 : Int)) fun v644 =>
                  (.br (decide (v644 < (0 : Int))) (
                   .leaf false
                  ) (
                   (.br (!decide (v644 = v634.1)) (
                    .leaf false
                   ) (
                    .leaf true
                   ))
                  )))
                 ))
                )))
               )))))
              ))
             )))))
            ))
           )))
          ))))))))
         ))))
        ))))
       ))
      )))
     )))))
    )))))
   ))
  ))

noncomputable def laws_FnExactSparseRootSolve_g (v1 : Int) (v2 : List Int) (v3 : List Int) (v4 : List Nat) (v5 : List Nat) : Option (Bool) := (laws_FnExactSparseRootSolve_T v1 v2 v3 v4 v5).run
def laws_FnExactSparseRootSolve_enc (v1 : Int) (v2 : List Int) (v3 : List Int) (v4 : List Nat) (v5 : List Nat) (y : Bool) : Rs := (.bool y, [])
theorem laws_FnExactSparseRootSolve_den (v1 : Int) (v2 : List Int) (v3 : List Int) (v4 : List Nat) (v5 : List Nat) : (den TT (tabD laws_FnExactSparseRootSolve_tab) (tabM laws_FnExactSparseRootSolve_tab) (laws_FnExactSparseRootSolve_LO v1 v2 v3 v4 v5) (codeOf Try.f5) ([.agg [.int .i64 v1, .bslc (BR.root 0) (.i64 v2), .bslc (BR.root 1) (.i64 v3), .bslc (BR.root 2) (.f32 v4)], .bslc (BR.root 3) (.f32 v5)] ++ List.replicate (Try.f5.ntmps - ([.agg [.int .i64 v1, .bslc (BR.root 0) (.i64 v2), .bslc (BR.root 1) (.i64 v3), .bslc (BR.root 2) (.f32 v4)], .bslc (BR.root 3) (.f32 v5)] : List DV).length) .undef) []).bind (retD TT Try.f5.results.toList 0) = (laws_FnExactSparseRootSolve_T v1 v2 v3 v4 v5).bind fun y => .leaf (laws_FnExactSparseRootSolve_enc v1 v2 v3 v4 v5 y) := by kernel_rfl
theorem laws_FnExactSparseRootSolve_fn (v1 : Int) (v2 : List Int) (v3 : List Int) (v4 : List Nat) (v5 : List Nat) (F : Fr) (hm : F.ids.length = 0) (h0 : St F [] F.H0) (hA : DVs.Ok F [] [.agg [.int .i64 v1, .bslc (BR.root 0) (.i64 v2), .bslc (BR.root 1) (.i64 v3), .bslc (BR.root 2) (.f32 v4)], .bslc (BR.root 3) (.f32 v5)]) {y : Bool} (hy : laws_FnExactSparseRootSolve_g v1 v2 v3 v4 v5 = some y) : ∃ H', FnOk Try.prog 5 (DVs.av F [.agg [.int .i64 v1, .bslc (BR.root 0) (.i64 v2), .bslc (BR.root 1) (.i64 v3), .bslc (BR.root 2) (.f32 v4)], .bslc (BR.root 3) (.f32 v5)]) F.H0 ((laws_FnExactSparseRootSolve_enc v1 v2 v3 v4 v5 y).1.av F) H' ∧ St F (laws_FnExactSparseRootSolve_enc v1 v2 v3 v4 v5 y).2 H' ∧ (laws_FnExactSparseRootSolve_enc v1 v2 v3 v4 v5 y).1.Ok F (laws_FnExactSparseRootSolve_enc v1 v2 v3 v4 v5 y).2 :=
  fn_fin tok laws_FnExactSparseRootSolve_hO mixed Try.func5 Try.call5 (by kernel_rfl) (LoopsOk_eq (l := []) (by kernel_rfl) trivial) (laws_FnExactSparseRootSolve_den v1 v2 v3 v4 v5) hy hm h0 hA
noncomputable def laws_FnExactSparseRootSolve_F : DFn := fun args L =>
  match args with
  | [.agg [.int .i64 v1, a1, a2, a3], a4] =>
    optT (rowI64 L a1) fun v2 =>
    optT (rowI64 L a2) fun v3 =>
    optT (rowF32 L a3) fun v4 =>
    optT (rowF32 L a4) fun v5 =>
    .call (laws_FnExactSparseRootSolve_g v1 v2 v3 v4 v5) fun y => .leaf (.bool y, L)
  | _ => .fail
theorem laws_FnExactSparseRootSolve_Fok : COk Try.prog 5 laws_FnExactSparseRootSolve_F true := by
  intro F L H args r L' hs ha hr
  unfold laws_FnExactSparseRootSolve_F at hr
  split at hr
  · rename_i v1 a1 a2 a3 a4
    obtain ⟨v2, hv2, hr⟩ := optT_run hr
    obtain ⟨v3, hv3, hr⟩ := optT_run hr
    obtain ⟨v4, hv4, hr⟩ := optT_run hr
    obtain ⟨v5, hv5, hr⟩ := optT_run hr
    simp only [Tree.run] at hr
    obtain ⟨y, hy, hr⟩ := Option.bind_eq_some_iff.1 hr
    simp only [Tree.run, Option.some.injEq, Prod.mk.injEq] at hr
    obtain ⟨rfl, rfl⟩ := hr
    exact call_ok0 hs (fun k => (([a1.av F, a2.av F, a3.av F, a4.av F] : List AV)[k]?).getD .top) [.agg [.int .i64 v1, a1, a2, a3], a4] [.agg [.int .i64 v1, .bslc (BR.root 0) (.i64 v2), .bslc (BR.root 1) (.i64 v3), .bslc (BR.root 2) (.f32 v4)], .bslc (BR.root 3) (.f32 v5)] (fun F' h0 hi hρ => ⟨by simp [DVs.av, DV.av, BR.av, hρ], laws_FnExactSparseRootSolve_fn v1 v2 v3 v4 v5 F' (by rw [hi]; rfl) (st_nil hi) ⟨⟨trivial, bslc_ok hi (by rw [h0, hρ]; exact rowI64_ok hs (DVs.okAt (DVs.okAt ha 0 rfl) 1 rfl) hv2), bslc_ok hi (by rw [h0, hρ]; exact rowI64_ok hs (DVs.okAt (DVs.okAt ha 0 rfl) 2 rfl) hv3), bslc_ok hi (by rw [h0, hρ]; exact rowF32_ok hs (DVs.okAt (DVs.okAt ha 0 rfl) 3 rfl) hv4), trivial⟩, bslc_ok hi (by rw [h0, hρ]; exact rowF32_ok hs (DVs.okAt ha 1 rfl) hv5), trivial⟩ hy⟩) rfl
  · cases hr
/-! laws.szInt64S -/
noncomputable def laws_szInt64S_len_LO (v655 : Nat) (v656 : Int) : LOr := fun id e L =>
  match id with
  | _ => .fail
noncomputable def laws_szInt64S_len_tab : List (FuncId × DFn × Bool) := []
theorem laws_szInt64S_len_hO : OrcOk Try.prog (tabD laws_szInt64S_len_tab) (tabM laws_szInt64S_len_tab) := tabD_nil _
noncomputable def laws_szInt64S_len_T (v655 : Nat) (v656 : Int) : Tree (Int) :=
  (.br (decide (IntKind.i64.wrap (v656 - ((v655 : Nat) : Int)) < (0 : Int))) (
   .leaf (-1 : Int)
  ) (
   .leaf (IntKind.i64.wrap (v656 - ((v655 : Nat) : Int)))
  ))

noncomputable def laws_szInt64S_len_g (v655 : Nat) (v656 : Int) : Option (Int) := (laws_szInt64S_len_T v655 v656).run
def laws_szInt64S_len_enc (v655 : Nat) (v656 : Int) (y : Int) : Rs := (.int .i64 y, [])
theorem laws_szInt64S_len_den (v655 : Nat) (v656 : Int) : (den TT (tabD laws_szInt64S_len_tab) (tabM laws_szInt64S_len_tab) (laws_szInt64S_len_LO v655 v656) (codeOf Try.f63) ([.hslc (BR.root 0) v655, .int .i64 v656] ++ List.replicate (Try.f63.ntmps - ([.hslc (BR.root 0) v655, .int .i64 v656] : List DV).length) .undef) []).bind (retD TT Try.f63.results.toList 0) = (laws_szInt64S_len_T v655 v656).bind fun y => .leaf (laws_szInt64S_len_enc v655 v656 y) := by kernel_rfl
theorem laws_szInt64S_len_fn (v655 : Nat) (v656 : Int) (F : Fr) (hm : F.ids.length = 0) (h0 : St F [] F.H0) (hA : DVs.Ok F [] [.hslc (BR.root 0) v655, .int .i64 v656]) {y : Int} (hy : laws_szInt64S_len_g v655 v656 = some y) : ∃ H', FnOk Try.prog 63 (DVs.av F [.hslc (BR.root 0) v655, .int .i64 v656]) F.H0 ((laws_szInt64S_len_enc v655 v656 y).1.av F) H' ∧ St F (laws_szInt64S_len_enc v655 v656 y).2 H' ∧ (laws_szInt64S_len_enc v655 v656 y).1.Ok F (laws_szInt64S_len_enc v655 v656 y).2 :=
  fn_fin tok laws_szInt64S_len_hO mixed Try.func63 Try.call63 (by kernel_rfl) (LoopsOk_eq (l := []) (by kernel_rfl) trivial) (laws_szInt64S_len_den v655 v656) hy hm h0 hA
def laws_szInt64S_len_v (v655 : Nat) (v656 : Int) : Int :=
  if (decide (IntKind.i64.wrap (v656 - ((v655 : Nat) : Int)) < (0 : Int))) = true then (
   (-1 : Int)
  ) else (
   IntKind.i64.wrap (v656 - ((v655 : Nat) : Int))
  )
theorem laws_szInt64S_len_tot (v655 : Nat) (v656 : Int) : laws_szInt64S_len_g v655 v656 = some (laws_szInt64S_len_v v655 v656) := by
  unfold laws_szInt64S_len_g laws_szInt64S_len_T laws_szInt64S_len_v
  simp only [Tree.run]
  repeat' (first | rfl | split)
noncomputable def laws_szInt64S_len_F : DFn := fun args L =>
  match args with
  | [a1, .int .i64 v656] =>
    optT (lenV L a1) fun v655 =>
    .leaf (.int .i64 (laws_szInt64S_len_v v655 v656), L)
  | _ => .fail
theorem laws_szInt64S_len_Fok : COk Try.prog 63 laws_szInt64S_len_F true := by
  intro F L H args r L' hs ha hr
  unfold laws_szInt64S_len_F at hr
  split at hr
  · rename_i a1 v656
    obtain ⟨v655, hv655, hr⟩ := optT_run hr
    have hy := laws_szInt64S_len_tot v655 v656
    generalize laws_szInt64S_len_v v655 v656 = y at hy hr
    simp only [Tree.run, Option.some.injEq, Prod.mk.injEq] at hr
    obtain ⟨rfl, rfl⟩ := hr
    exact call_ok0 hs (fun k => (([a1.av F] : List AV)[k]?).getD .top) [a1, .int .i64 v656] [.hslc (BR.root 0) v655, .int .i64 v656] (fun F' h0 hi hρ => ⟨by simp [DVs.av, DV.av, BR.av, hρ], laws_szInt64S_len_fn v655 v656 F' (by rw [hi]; rfl) (st_nil hi) ⟨hslc_ok hi (by rw [h0, hρ]; exact lenV_ok hs (DVs.okAt ha 0 rfl) hv655), trivial, trivial⟩ hy⟩) rfl
  · cases hr
/-! laws.szFloat32S -/
noncomputable def laws_szFloat32S_len_LO (v657 : Nat) (v658 : Int) : LOr := fun id e L =>
  match id with
  | _ => .fail
noncomputable def laws_szFloat32S_len_tab : List (FuncId × DFn × Bool) := []
theorem laws_szFloat32S_len_hO : OrcOk Try.prog (tabD laws_szFloat32S_len_tab) (tabM laws_szFloat32S_len_tab) := tabD_nil _
noncomputable def laws_szFloat32S_len_T (v657 : Nat) (v658 : Int) : Tree (Int) :=
  (.br (decide (IntKind.i64.wrap (v658 - ((v657 : Nat) : Int)) < (0 : Int))) (
   .leaf (-1 : Int)
  ) (
   .leaf (IntKind.i64.wrap (v658 - ((v657 : Nat) : Int)))
  ))

noncomputable def laws_szFloat32S_len_g (v657 : Nat) (v658 : Int) : Option (Int) := (laws_szFloat32S_len_T v657 v658).run
def laws_szFloat32S_len_enc (v657 : Nat) (v658 : Int) (y : Int) : Rs := (.int .i64 y, [])
theorem laws_szFloat32S_len_den (v657 : Nat) (v658 : Int) : (den TT (tabD laws_szFloat32S_len_tab) (tabM laws_szFloat32S_len_tab) (laws_szFloat32S_len_LO v657 v658) (codeOf Try.f64) ([.hslc (BR.root 0) v657, .int .i64 v658] ++ List.replicate (Try.f64.ntmps - ([.hslc (BR.root 0) v657, .int .i64 v658] : List DV).length) .undef) []).bind (retD TT Try.f64.results.toList 0) = (laws_szFloat32S_len_T v657 v658).bind fun y => .leaf (laws_szFloat32S_len_enc v657 v658 y) := by kernel_rfl
theorem laws_szFloat32S_len_fn (v657 : Nat) (v658 : Int) (F : Fr) (hm : F.ids.length = 0) (h0 : St F [] F.H0) (hA : DVs.Ok F [] [.hslc (BR.root 0) v657, .int .i64 v658]) {y : Int} (hy : laws_szFloat32S_len_g v657 v658 = some y) : ∃ H', FnOk Try.prog 64 (DVs.av F [.hslc (BR.root 0) v657, .int .i64 v658]) F.H0 ((laws_szFloat32S_len_enc v657 v658 y).1.av F) H' ∧ St F (laws_szFloat32S_len_enc v657 v658 y).2 H' ∧ (laws_szFloat32S_len_enc v657 v658 y).1.Ok F (laws_szFloat32S_len_enc v657 v658 y).2 :=
  fn_fin tok laws_szFloat32S_len_hO mixed Try.func64 Try.call64 (by kernel_rfl) (LoopsOk_eq (l := []) (by kernel_rfl) trivial) (laws_szFloat32S_len_den v657 v658) hy hm h0 hA
def laws_szFloat32S_len_v (v657 : Nat) (v658 : Int) : Int :=
  if (decide (IntKind.i64.wrap (v658 - ((v657 : Nat) : Int)) < (0 : Int))) = true then (
   (-1 : Int)
  ) else (
   IntKind.i64.wrap (v658 - ((v657 : Nat) : Int))
  )
theorem laws_szFloat32S_len_tot (v657 : Nat) (v658 : Int) : laws_szFloat32S_len_g v657 v658 = some (laws_szFloat32S_len_v v657 v658) := by
  unfold laws_szFloat32S_len_g laws_szFloat32S_len_T laws_szFloat32S_len_v
  simp only [Tree.run]
  repeat' (first | rfl | split)
noncomputable def laws_szFloat32S_len_F : DFn := fun args L =>
  match args with
  | [a1, .int .i64 v658] =>
    optT (lenV L a1) fun v657 =>
    .leaf (.int .i64 (laws_szFloat32S_len_v v657 v658), L)
  | _ => .fail
theorem laws_szFloat32S_len_Fok : COk Try.prog 64 laws_szFloat32S_len_F true := by
  intro F L H args r L' hs ha hr
  unfold laws_szFloat32S_len_F at hr
  split at hr
  · rename_i a1 v658
    obtain ⟨v657, hv657, hr⟩ := optT_run hr
    have hy := laws_szFloat32S_len_tot v657 v658
    generalize laws_szFloat32S_len_v v657 v658 = y at hy hr
    simp only [Tree.run, Option.some.injEq, Prod.mk.injEq] at hr
    obtain ⟨rfl, rfl⟩ := hr
    exact call_ok0 hs (fun k => (([a1.av F] : List AV)[k]?).getD .top) [a1, .int .i64 v658] [.hslc (BR.root 0) v657, .int .i64 v658] (fun F' h0 hi hρ => ⟨by simp [DVs.av, DV.av, BR.av, hρ], laws_szFloat32S_len_fn v657 v658 F' (by rw [hi]; rfl) (st_nil hi) ⟨hslc_ok hi (by rw [h0, hρ]; exact lenV_ok hs (DVs.okAt ha 0 rfl) hv657), trivial, trivial⟩ hy⟩) rfl
  · cases hr
/-! laws.szSparse -/
noncomputable def laws_szSparse_len_LO (v650 : Int) (v651 : Nat) (v652 : Nat) (v653 : Nat) (v654 : Int) : LOr := fun id e L =>
  match id with
  | _ => .fail
noncomputable def laws_szSparse_len_tab : List (FuncId × DFn × Bool) := [(63, laws_szInt64S_len_F, true), (64, laws_szFloat32S_len_F, true)]
theorem laws_szSparse_len_hO : OrcOk Try.prog (tabD laws_szSparse_len_tab) (tabM laws_szSparse_len_tab) := tabD_cons laws_szInt64S_len_Fok (tabD_cons laws_szFloat32S_len_Fok (tabD_nil _))
noncomputable def laws_szSparse_len_T (v651 : Nat) (v652 : Nat) (v653 : Nat) (v654 : Int) : Tree (Int) :=
  (.br (decide ((laws_szInt64S_len_v v651 v654) < (0 : Int))) (
   .leaf (-1 : Int)
  ) (
   (.br (decide ((laws_szInt64S_len_v v652 (laws_szInt64S_len_v v651 v654)) < (0 : Int))) (
    .leaf (-1 : Int)
   ) (
    (.br (decide ((laws_szFloat32S_len_v v653 (laws_szInt64S_len_v v652 (laws_szInt64S_len_v v651 v654))) < (0 : Int))) (
     .leaf (-1 : Int)
    ) (
     .leaf (laws_szFloat32S_len_v v653 (laws_szInt64S_len_v v652 (laws_szInt64S_len_v v651 v654)))
    ))
   ))
  ))

noncomputable def laws_szSparse_len_g (v651 : Nat) (v652 : Nat) (v653 : Nat) (v654 : Int) : Option (Int) := (laws_szSparse_len_T v651 v652 v653 v654).run
def laws_szSparse_len_enc (v650 : Int) (v651 : Nat) (v652 : Nat) (v653 : Nat) (v654 : Int) (y : Int) : Rs := (.int .i64 y, [])
theorem laws_szSparse_len_den (v650 : Int) (v651 : Nat) (v652 : Nat) (v653 : Nat) (v654 : Int) : (den TT (tabD laws_szSparse_len_tab) (tabM laws_szSparse_len_tab) (laws_szSparse_len_LO v650 v651 v652 v653 v654) (codeOf Try.f15) ([.agg [.int .i64 v650, .hslc (BR.root 0) v651, .hslc (BR.root 1) v652, .hslc (BR.root 2) v653], .int .i64 v654] ++ List.replicate (Try.f15.ntmps - ([.agg [.int .i64 v650, .hslc (BR.root 0) v651, .hslc (BR.root 1) v652, .hslc (BR.root 2) v653], .int .i64 v654] : List DV).length) .undef) []).bind (retD TT Try.f15.results.toList 0) = (laws_szSparse_len_T v651 v652 v653 v654).bind fun y => .leaf (laws_szSparse_len_enc v650 v651 v652 v653 v654 y) := by kernel_rfl
theorem laws_szSparse_len_fn (v650 : Int) (v651 : Nat) (v652 : Nat) (v653 : Nat) (v654 : Int) (F : Fr) (hm : F.ids.length = 0) (h0 : St F [] F.H0) (hA : DVs.Ok F [] [.agg [.int .i64 v650, .hslc (BR.root 0) v651, .hslc (BR.root 1) v652, .hslc (BR.root 2) v653], .int .i64 v654]) {y : Int} (hy : laws_szSparse_len_g v651 v652 v653 v654 = some y) : ∃ H', FnOk Try.prog 15 (DVs.av F [.agg [.int .i64 v650, .hslc (BR.root 0) v651, .hslc (BR.root 1) v652, .hslc (BR.root 2) v653], .int .i64 v654]) F.H0 ((laws_szSparse_len_enc v650 v651 v652 v653 v654 y).1.av F) H' ∧ St F (laws_szSparse_len_enc v650 v651 v652 v653 v654 y).2 H' ∧ (laws_szSparse_len_enc v650 v651 v652 v653 v654 y).1.Ok F (laws_szSparse_len_enc v650 v651 v652 v653 v654 y).2 :=
  fn_fin tok laws_szSparse_len_hO mixed Try.func15 Try.call15 (by kernel_rfl) (LoopsOk_eq (l := []) (by kernel_rfl) trivial) (laws_szSparse_len_den v650 v651 v652 v653 v654) hy hm h0 hA
def laws_szSparse_len_v (v651 : Nat) (v652 : Nat) (v653 : Nat) (v654 : Int) : Int :=
  if (decide ((laws_szInt64S_len_v v651 v654) < (0 : Int))) = true then (
   (-1 : Int)
  ) else (
   if (decide ((laws_szInt64S_len_v v652 (laws_szInt64S_len_v v651 v654)) < (0 : Int))) = true then (
    (-1 : Int)
   ) else (
    if (decide ((laws_szFloat32S_len_v v653 (laws_szInt64S_len_v v652 (laws_szInt64S_len_v v651 v654))) < (0 : Int))) = true then (
     (-1 : Int)
    ) else (
     (laws_szFloat32S_len_v v653 (laws_szInt64S_len_v v652 (laws_szInt64S_len_v v651 v654)))
    )
   )
  )
theorem laws_szSparse_len_tot (v651 : Nat) (v652 : Nat) (v653 : Nat) (v654 : Int) : laws_szSparse_len_g v651 v652 v653 v654 = some (laws_szSparse_len_v v651 v652 v653 v654) := by
  unfold laws_szSparse_len_g laws_szSparse_len_T laws_szSparse_len_v
  simp only [Tree.run]
  repeat' (first | rfl | split)
noncomputable def laws_szSparse_len_F : DFn := fun args L =>
  match args with
  | [.agg [.int .i64 v650, a1, a2, a3], .int .i64 v654] =>
    optT (lenV L a1) fun v651 =>
    optT (lenV L a2) fun v652 =>
    optT (lenV L a3) fun v653 =>
    .leaf (.int .i64 (laws_szSparse_len_v v651 v652 v653 v654), L)
  | _ => .fail
theorem laws_szSparse_len_Fok : COk Try.prog 15 laws_szSparse_len_F true := by
  intro F L H args r L' hs ha hr
  unfold laws_szSparse_len_F at hr
  split at hr
  · rename_i v650 a1 a2 a3 v654
    obtain ⟨v651, hv651, hr⟩ := optT_run hr
    obtain ⟨v652, hv652, hr⟩ := optT_run hr
    obtain ⟨v653, hv653, hr⟩ := optT_run hr
    have hy := laws_szSparse_len_tot v651 v652 v653 v654
    generalize laws_szSparse_len_v v651 v652 v653 v654 = y at hy hr
    simp only [Tree.run, Option.some.injEq, Prod.mk.injEq] at hr
    obtain ⟨rfl, rfl⟩ := hr
    exact call_ok0 hs (fun k => (([a1.av F, a2.av F, a3.av F] : List AV)[k]?).getD .top) [.agg [.int .i64 v650, a1, a2, a3], .int .i64 v654] [.agg [.int .i64 v650, .hslc (BR.root 0) v651, .hslc (BR.root 1) v652, .hslc (BR.root 2) v653], .int .i64 v654] (fun F' h0 hi hρ => ⟨by simp [DVs.av, DV.av, BR.av, hρ], laws_szSparse_len_fn v650 v651 v652 v653 v654 F' (by rw [hi]; rfl) (st_nil hi) ⟨⟨trivial, hslc_ok hi (by rw [h0, hρ]; exact lenV_ok hs (DVs.okAt (DVs.okAt ha 0 rfl) 1 rfl) hv651), hslc_ok hi (by rw [h0, hρ]; exact lenV_ok hs (DVs.okAt (DVs.okAt ha 0 rfl) 2 rfl) hv652), hslc_ok hi (by rw [h0, hρ]; exact lenV_ok hs (DVs.okAt (DVs.okAt ha 0 rfl) 3 rfl) hv653), trivial⟩, trivial, trivial⟩ hy⟩) rfl
  · cases hr
/-! laws.FnExactSparseRootSolve -/
noncomputable def laws_FnExactSparseRootSolve_len_LO (v645 : Int) (v646 : Nat) (v647 : Nat) (v648 : Nat) (v649 : Nat) : LOr := fun id e L =>
  match id with
  | _ => .fail
noncomputable def laws_FnExactSparseRootSolve_len_tab : List (FuncId × DFn × Bool) := [(15, laws_szSparse_len_F, true)]
theorem laws_FnExactSparseRootSolve_len_hO : OrcOk Try.prog (tabD laws_FnExactSparseRootSolve_len_tab) (tabM laws_FnExactSparseRootSolve_len_tab) := tabD_cons laws_szSparse_len_Fok (tabD_nil _)
noncomputable def laws_FnExactSparseRootSolve_len_T (v646 : Nat) (v647 : Nat) (v648 : Nat) (v649 : Nat) : Tree (Bool) :=
  (.br (decide ((1048576 : Int) < ((v649 : Nat) : Int))) (
   .leaf true
  ) (
   (.br (decide ((laws_szSparse_len_v v646 v647 v648 (1048576 : Int)) < (0 : Int))) (
    .leaf true
   ) (
    .fail
   ))
  ))

noncomputable def laws_FnExactSparseRootSolve_len_g (v646 : Nat) (v647 : Nat) (v648 : Nat) (v649 : Nat) : Option (Bool) := (laws_FnExactSparseRootSolve_len_T v646 v647 v648 v649).run
def laws_FnExactSparseRootSolve_len_enc (v645 : Int) (v646 : Nat) (v647 : Nat) (v648 : Nat) (v649 : Nat) (y : Bool) : Rs := (.bool y, [])
theorem laws_FnExactSparseRootSolve_len_den (v645 : Int) (v646 : Nat) (v647 : Nat) (v648 : Nat) (v649 : Nat) : (den TT (tabD laws_FnExactSparseRootSolve_len_tab) (tabM laws_FnExactSparseRootSolve_len_tab) (laws_FnExactSparseRootSolve_len_LO v645 v646 v647 v648 v649) (codeOf Try.f5) ([.agg [.int .i64 v645, .hslc (BR.root 0) v646, .hslc (BR.root 1) v647, .hslc (BR.root 2) v648], .hslc (BR.root 3) v649] ++ List.replicate (Try.f5.ntmps - ([.agg [.int .i64 v645, .hslc (BR.root 0) v646, .hslc (BR.root 1) v647, .hslc (BR.root 2) v648], .hslc (BR.root 3) v649] : List DV).length) .undef) []).bind (retD TT Try.f5.results.toList 0) = (laws_FnExactSparseRootSolve_len_T v646 v647 v648 v649).bind fun y => .leaf (laws_FnExactSparseRootSolve_len_enc v645 v646 v647 v648 v649 y) := by kernel_rfl
theorem laws_FnExactSparseRootSolve_len_fn (v645 : Int) (v646 : Nat) (v647 : Nat) (v648 : Nat) (v649 : Nat) (F : Fr) (hm : F.ids.length = 0) (h0 : St F [] F.H0) (hA : DVs.Ok F [] [.agg [.int .i64 v645, .hslc (BR.root 0) v646, .hslc (BR.root 1) v647, .hslc (BR.root 2) v648], .hslc (BR.root 3) v649]) {y : Bool} (hy : laws_FnExactSparseRootSolve_len_g v646 v647 v648 v649 = some y) : ∃ H', FnOk Try.prog 5 (DVs.av F [.agg [.int .i64 v645, .hslc (BR.root 0) v646, .hslc (BR.root 1) v647, .hslc (BR.root 2) v648], .hslc (BR.root 3) v649]) F.H0 ((laws_FnExactSparseRootSolve_len_enc v645 v646 v647 v648 v649 y).1.av F) H' ∧ St F (laws_FnExactSparseRootSolve_len_enc v645 v646 v647 v648 v649 y).2 H' ∧ (laws_FnExactSparseRootSolve_len_enc v645 v646 v647 v648 v649 y).1.Ok F (laws_FnExactSparseRootSolve_len_enc v645 v646 v647 v648 v649 y).2 :=
  fn_fin tok laws_FnExactSparseRootSolve_len_hO mixed Try.func5 Try.call5 (by kernel_rfl) (LoopsOk_eq (l := []) (by kernel_rfl) trivial) (laws_FnExactSparseRootSolve_len_den v645 v646 v647 v648 v649) hy hm h0 hA
noncomputable def laws_FnExactSparseRootSolve_len_F : DFn := fun args L =>
  match args with
  | [.agg [.int .i64 v645, a1, a2, a3], a4] =>
    optT (lenV L a1) fun v646 =>
    optT (lenV L a2) fun v647 =>
    optT (lenV L a3) fun v648 =>
    optT (lenV L a4) fun v649 =>
    .call (laws_FnExactSparseRootSolve_len_g v646 v647 v648 v649) fun y => .leaf (.bool y, L)
  | _ => .fail
theorem laws_FnExactSparseRootSolve_len_Fok : COk Try.prog 5 laws_FnExactSparseRootSolve_len_F true := by
  intro F L H args r L' hs ha hr
  unfold laws_FnExactSparseRootSolve_len_F at hr
  split at hr
  · rename_i v645 a1 a2 a3 a4
    obtain ⟨v646, hv646, hr⟩ := optT_run hr
    obtain ⟨v647, hv647, hr⟩ := optT_run hr
    obtain ⟨v648, hv648, hr⟩ := optT_run hr
    obtain ⟨v649, hv649, hr⟩ := optT_run hr
    simp only [Tree.run] at hr
    obtain ⟨y, hy, hr⟩ := Option.bind_eq_some_iff.1 hr
    simp only [Tree.run, Option.some.injEq, Prod.mk.injEq] at hr
    obtain ⟨rfl, rfl⟩ := hr
    exact call_ok0 hs (fun k => (([a1.av F, a2.av F, a3.av F, a4.av F] : List AV)[k]?).getD .top) [.agg [.int .i64 v645, a1, a2, a3], a4] [.agg [.int .i64 v645, .hslc (BR.root 0) v646, .hslc (BR.root 1) v647, .hslc (BR.root 2) v648], .hslc (BR.root 3) v649] (fun F' h0 hi hρ => ⟨by simp [DVs.av, DV.av, BR.av, hρ], laws_FnExactSparseRootSolve_len_fn v645 v646 v647 v648 v649 F' (by rw [hi]; rfl) (st_nil hi) ⟨⟨trivial, hslc_ok hi (by rw [h0, hρ]; exact lenV_ok hs (DVs.okAt (DVs.okAt ha 0 rfl) 1 rfl) hv646), hslc_ok hi (by rw [h0, hρ]; exact lenV_ok hs (DVs.okAt (DVs.okAt ha 0 rfl) 2 rfl) hv647), hslc_ok hi (by rw [h0, hρ]; exact lenV_ok hs (DVs.okAt (DVs.okAt ha 0 rfl) 3 rfl) hv648), trivial⟩, hslc_ok hi (by rw [h0, hρ]; exact lenV_ok hs (DVs.okAt ha 1 rfl) hv649), trivial⟩ hy⟩) rfl
  · cases hr
end Go.Proofs.Ytjadfgeemfdbmaa.AM
