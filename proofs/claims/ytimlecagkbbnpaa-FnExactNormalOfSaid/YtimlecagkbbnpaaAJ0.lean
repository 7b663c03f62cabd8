/- Adjoints: lists of places, by running them. -/
import Derived.Test.YtimlecagkbbnpaaWH0
set_option linter.unusedSimpArgs false
set_option linter.unusedVariables false
set_option maxHeartbeats 1000000
set_option maxRecDepth 100000
namespace Go.Proofs.Ytimlecagkbbnpaa.AM

/-- A loop run for some rounds. -/
def runN {σ ρ : Type} (T : σ → Option (σ ⊕ ρ)) : Nat → σ → Option ρ
  | 0, _ => none
  | f + 1, s => match T s with
    | some (.inl s') => runN T f s'
    | some (.inr r) => some r
    | none => none
theorem runN_ok {σ ρ : Type} {T : σ → Option (σ ⊕ ρ)} : ∀ (f : Nat) (s : σ) (r : ρ), runN T f s = some r → whileM T s = some r := by
  intro f
  induction f with
  | zero => intro s r h; cases h
  | succ f ih =>
    intro s r h
    unfold runN at h
    rw [whileM_eq]
    split at h
    · rename_i s' hs; rw [hs]; exact ih s' r h
    · rename_i r' hs; rw [hs]; exact h
    · cases h
/-- What slices.Delete leaves of a list. -/
theorem del_list (C : List Int) (i : Nat) (h : i < C.length) : AM.sub (overL (overL C i (C.drop (i + 1))) (C.length - 1) [(0 : Int)]) 0 ((C.length - 1 : Nat) : Int) = C.take i ++ C.drop (i + 1) := by
  have l1 : (C.take i ++ C.drop (i + 1)).length = C.length - 1 := by simp; omega
  have l2 : (overL C i (C.drop (i + 1))).length = C.length := by simp [overL]; omega
  have e : overL (overL C i (C.drop (i + 1))) (C.length - 1) [(0 : Int)] = (C.take i ++ C.drop (i + 1)) ++ [0] := by
    have d : (overL C i (C.drop (i + 1))).drop (C.length - 1 + 1) = [] := List.drop_eq_nil_of_le (by rw [l2]; omega)
    have t : (overL C i (C.drop (i + 1))).take (C.length - 1) = C.take i ++ C.drop (i + 1) := by
      unfold overL
      rw [← l1, List.take_left']
      rfl
    show (overL C i (C.drop (i + 1))).take (C.length - 1) ++ [0] ++ (overL C i (C.drop (i + 1))).drop (C.length - 1 + 1) = _
    rw [d, t, List.append_nil]
  rw [e]
  unfold AM.sub
  simp only [Int.toNat_natCast, Int.toNat_zero, List.drop_zero, Nat.sub_zero]
  rw [← l1, List.take_left']
  rfl
end Go.Proofs.Ytimlecagkbbnpaa.AM
