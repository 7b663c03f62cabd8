/- More pure words. -/
import Derived.Test.YthdmkdkbfhoahaaD17
set_option linter.unusedSimpArgs false
set_option linter.unusedVariables false
namespace Go.Proofs.Ythdmkdkbfhoahaa.AM

/-- A walk of n steps whose every state is known. -/
theorem whileM_fix {τ ρ : Type} {T : τ → Option (τ ⊕ ρ)} (st : Nat → τ) {n : Nat} {r : ρ} (hT : ∀ i, i < n → T (st i) = some (.inl (st (i + 1)))) (he : T (st n) = some (.inr r)) : whileM T (st 0) = some r :=
  (whileM_for (T := T) (σ := Unit) (fun i _ => st i) (fun _ s => s) (fun _ _ => True) (s := ()) (r := fun _ => r) trivial (fun i _ hi _ => ⟨hT i hi, trivial⟩) (fun _ _ => he)).1

/-- A walk whose states are known till it stops by a test. -/
theorem whileM_stop {τ ρ : Type} {T : τ → Option (τ ⊕ ρ)} (st : Nat → τ) {n : Nat} {p : Nat → Bool} {a b : ρ} (hT : ∀ i, i < n → T (st i) = if p i = true then some (.inr a) else some (.inl (st (i + 1)))) (he : T (st n) = some (.inr b)) :
    whileM T (st 0) = some (if ((List.range n).any p) = true then a else b) := by
  have key : ∀ d i, i + d = n → whileM T (st i) = some (if ((List.range' i d).any p) = true then a else b) := by
    intro d
    induction d with
    | zero =>
      intro i hi
      rw [whileM_eq]
      have : i = n := by omega
      subst this
      simp [he]
    | succ d ih =>
      intro i hi
      rw [whileM_eq, hT i (by omega)]
      cases hp : p i with
      | true => simp [List.range'_succ, hp]
      | false =>
        simp only [Bool.false_eq_true, if_false]
        rw [ih (i + 1) (by omega)]
        simp only [List.range'_succ, List.any_cons, hp, Bool.false_or]
  have := key n 0 (by omega)
  rw [List.range_eq_range']
  exact this
theorem nth_map_range {α : Type} [Inhabited α] (f : Nat → α) (n p : Nat) (h : p < n) : nth ((List.range n).map f) p = f p := by
  rw [nth_of _ _ (by simpa using h)]; simp
theorem take_nth {α : Type} [Inhabited α] (xs : List α) (k : Nat) (h : k < xs.length) : xs.take k ++ [nth xs k] = xs.take (k + 1) := by
  rw [nth_of xs k h, List.take_succ_eq_append_getElem h]
theorem tmod_inb {x : Int} {n : Nat} (h0 : 0 ≤ x) (hn : 0 < n) : inb (Int.tmod x n) n = true :=
  inb_iff.2 ⟨Int.tmod_nonneg _ h0, Int.tmod_lt_of_pos _ (by omega)⟩
/-- A square of side n, one row after another. -/
def sq {α : Type} (n : Nat) (f : Nat → Nat → α) : List α := (List.range (n * n)).map fun p => f (p / n) (p % n)
@[simp] theorem sq_length {α : Type} (n : Nat) (f : Nat → Nat → α) : (sq n f).length = n * n := by simp [sq]
theorem sq_lt {n i k : Nat} (hi : i < n) (hk : k < n) : i * n + k < n * n := by
  have : i * n + n ≤ n * n := by
    have := Nat.mul_le_mul_right n (show i + 1 ≤ n from hi)
    rw [Nat.add_mul] at this; omega
  omega
theorem sq_nth {α : Type} [Inhabited α] (n : Nat) (f : Nat → Nat → α) {i k : Nat} (hi : i < n) (hk : k < n) : nth (sq n f) (i * n + k) = f i k := by
  rw [sq, nth_map_range _ _ _ (sq_lt hi hk)]
  have h1 : (i * n + k) / n = i := by
    rw [Nat.mul_comm, Nat.mul_add_div (by omega), Nat.div_eq_of_lt hk]; rfl
  have h2 : (i * n + k) % n = k := by rw [Nat.mul_comm, Nat.mul_add_mod, Nat.mod_eq_of_lt hk]
  simp only [h1, h2]
theorem sq_mem {α : Type} (n : Nat) (f : Nat → Nat → α) {v : α} (h : v ∈ sq n f) : ∃ i k, i < n ∧ k < n ∧ v = f i k := by
  simp only [sq, List.mem_map, List.mem_range] at h
  obtain ⟨p, hp, rfl⟩ := h
  have hn : 0 < n := by cases n with | zero => simp at hp | succ n => omega
  exact ⟨p / n, p % n, Nat.div_lt_of_lt_mul hp, Nat.mod_lt _ hn, rfl⟩
end Go.Proofs.Ythdmkdkbfhoahaa.AM
