/- Words for the pure side: integers, loops that count, rows that are filled or marked. -/
import Derived.Test.YtmgpbchacndndaaD16
set_option linter.unusedSimpArgs false
set_option linter.unusedVariables false
namespace Go.Proofs.Ytmgpbchacndndaa.AM
open Ieee

theorem isNan_f32' (b : Nat) : isNan .f32 b = decide (2139095040 < b % 2147483648) := by
  unfold isNan FloatKind.decode FloatKind.format Ieee.Format.read
  have e1 : Ieee.single.signWeight = 2147483648 := by kernel_rfl
  have e2 : Ieee.single.binade = 8388608 := by kernel_rfl
  have e3 : Ieee.single.infRung = 2139095040 := by kernel_rfl
  simp only [e1, e2, e3]
  split
  · simp [Datum.isNaN]; omega
  · split
    · simp [Datum.isNaN]; omega
    · split
      · simp [Datum.isNaN]; omega
      · simp [Datum.isNaN]; omega

theorem word_ok (neg : Bool) (r : Nat) (h : r ≤ 2139095040) : isNan .f32 (single.word neg r) = false := by
  rw [isNan_f32']
  have e1 : single.signWeight = 2147483648 := by kernel_rfl
  unfold Format.word
  rw [e1]
  simp
  split <;> omega

theorem fofint_num (n : Int) : isNan .f32 (fofint .f32 n) = false := by
  have h : isNan .f32 (FloatKind.f32.nearest n) = false := by
    show isNan .f32 (single.write (.number (decide (n < 0)) n.natAbs 0)) = false
    unfold Format.write Format.nearest
    simp only
    split
    · exact word_ok _ _ (by omega)
    · refine word_ok _ _ ?_
      have e3 : single.infRung = 2139095040 := by kernel_rfl
      rw [e3]; exact Nat.min_le_right _ _
  unfold fofint
  rw [canon_num h]; exact h

theorem feq_self {k : FloatKind} {x : Nat} (h : isNan k x = false) : feq k x x = true := by
  unfold feq
  have e : ∀ x y, k.format.order x y = (k.decode x).order (k.decode y) := by intro x y; cases k <;> rfl
  rw [e]
  unfold isNan at h
  cases hd : k.decode x with
  | number s m i => simp [Datum.order]
  | infinity s => cases s <;> rfl
  | nan s f => rw [hd] at h; cases h
@[simp] theorem fofint_self (n : Int) : feq .f32 (fofint .f32 n) (fofint .f32 n) = true := feq_self (fofint_num n)


theorem w64 {n : Int} (h1 : -9223372036854775808 ≤ n) (h2 : n < 9223372036854775808) : IntKind.i64.wrap n = n := by
  rw [IntKind.wrap_i64]; omega
/-- Small numbers. -/
def small (n : Int) : Prop := -4611686018427387904 ≤ n ∧ n ≤ 4611686018427387904
theorem w_succ {k : Nat} (h : k < 4611686018427387904) : IntKind.i64.wrap ((k : Int) + 1) = ((k + 1 : Nat) : Int) := by
  rw [w64 (by omega) (by omega)]; omega
@[simp] theorem inb_nat (k n : Nat) : inb (k : Int) n = decide (k < n) := by
  unfold inb
  have : decide ((0 : Int) ≤ k) = true := by simp
  rw [this]; simp
@[simp] theorem lt_nat (k n : Nat) : decide ((k : Int) < (n : Int)) = decide (k < n) := by simp
theorem nth_set_eq {α : Type} [Inhabited α] (xs : List α) (i : Nat) (v : α) (h : i < xs.length) : nth (xs.set i v) i = v := by
  rw [nth_of _ _ (by simpa using h)]; simp
theorem nth_set_ne {α : Type} [Inhabited α] (xs : List α) (i j : Nat) (v : α) (h : i ≠ j) : nth (xs.set i v) j = nth xs j := by
  unfold nth
  simp [List.getD_eq_getElem?_getD, List.getElem?_set_ne h]
theorem ext_nth {α : Type} [Inhabited α] {xs ys : List α} (hl : xs.length = ys.length) (h : ∀ i, i < xs.length → nth xs i = nth ys i) : xs = ys := by
  refine List.ext_getElem hl fun i h1 h2 => ?_
  have := h i h1
  rwa [nth_of _ _ h1, nth_of _ _ h2] at this

/-- A row of length n whose first k cells are told. -/
def fill {α : Type} (d : α) (xs : List α) (k : Nat) : List α := xs.take k ++ List.replicate (xs.length - k) d
@[simp] theorem fill_length {α : Type} (d : α) (xs : List α) (k : Nat) : (fill d xs k).length = xs.length := by simp [fill]; omega
theorem fill_zero {α : Type} (d : α) (xs : List α) : fill d xs 0 = List.replicate xs.length d := by simp [fill]
theorem fill_full {α : Type} (d : α) (xs : List α) : fill d xs xs.length = xs := by simp [fill]
theorem fill_set {α : Type} [Inhabited α] (d : α) (xs : List α) (k : Nat) (h : k < xs.length) : (fill d xs k).set k (nth xs k) = fill d xs (k + 1) := by
  rw [nth_of xs k h]
  unfold fill
  obtain ⟨m, hm⟩ : ∃ m, xs.length = k + 1 + m := ⟨xs.length - (k + 1), by omega⟩
  have e1 : xs.length - k = m + 1 := by omega
  have e2 : xs.length - (k + 1) = m := by omega
  rw [e1, e2, List.replicate_succ, List.set_append_right _ _ (by simp; omega)]
  have e3 : k - (xs.take k).length = 0 := by simp; omega
  rw [e3, List.set_cons_zero, List.take_succ_eq_append_getElem h, List.append_assoc]
  rfl

/-- n, n+1, .. as numbers. -/
def marks (n : Int) (len : Nat) : List Nat := (List.range len).map fun (i : Nat) => fofint .f32 (n + i)
@[simp] theorem marks_length (n : Int) (k : Nat) : (marks n k).length = k := by simp [marks]
/-- The same for integers. -/
def marksI (n : Int) (len : Nat) : List Int := (List.range len).map fun (i : Nat) => n + i
def markedI (n : Int) (xs : List Int) (k : Nat) : List Int := marksI n k ++ xs.drop k
@[simp] theorem marksI_length (n : Int) (k : Nat) : (marksI n k).length = k := by simp [marksI]
theorem markedI_length (n : Int) (xs : List Int) (k : Nat) (h : k ≤ xs.length) : (markedI n xs k).length = xs.length := by simp [markedI]; omega
theorem markedI_zero (n : Int) (xs : List Int) : markedI n xs 0 = xs := by simp [markedI, marksI]
theorem markedI_full (n : Int) (xs : List Int) : markedI n xs xs.length = marksI n xs.length := by simp [markedI]
theorem markedI_set (n : Int) (xs : List Int) (k : Nat) (h : k < xs.length) : (markedI n xs k).set k (n + k) = markedI n xs (k + 1) := by
  unfold markedI
  rw [List.set_append_right _ _ (by simp), marksI_length, Nat.sub_self, List.drop_eq_getElem_cons h, List.set_cons_zero]
  simp [marksI, List.range_succ]
theorem marksI_nth (n : Int) (len k : Nat) (h : k < len) : nth (marksI n len) k = n + k := by
  rw [nth_of _ _ (by simp; exact h)]; simp [marksI]

/-- A loop over 0, 1, .. that ends early where p holds. -/
theorem whileM_scan {ρ : Type} {T : Int → Option (Int ⊕ ρ)} {n : Nat} {p : Nat → Bool} {a b : ρ} (hT : ∀ i, i < n → T (i : Int) = if p i = true then some (.inr a) else some (.inl ((i + 1 : Nat) : Int))) (he : T (n : Int) = some (.inr b)) :
    whileM T 0 = some (if ((List.range n).any p) = true then a else b) := by
  have key : ∀ d i, i + d = n → whileM T (i : Int) = some (if ((List.range' i d).any p) = true then a else b) := by
    intro d
    induction d with
    | zero =>
      intro i hi
      have : i = n := by omega
      subst this
      rw [whileM_eq, he]; simp
    | succ d ih =>
      intro i hi
      rw [whileM_eq, hT i (by omega)]
      cases hp : p i with
      | true => simp [List.range'_succ, hp]
      | false =>
        simp only [Bool.false_eq_true, if_false]
        rw [ih (i + 1) (by omega)]
        simp only [List.range'_succ, List.any_cons, hp, Bool.false_or]
  have := key n 0 (by omega)
  simpa [List.range_eq_range'] using this
/-- A loop over 0, 1, .. that carries a state and is not left early. -/
def iterN {σ : Type} (f : Nat → σ → σ) : Nat → σ → σ
  | 0, a => a
  | n + 1, a => f n (iterN f n a)
theorem whileM_for {σ τ ρ : Type} {T : τ → Option (τ ⊕ ρ)} (enc : Nat → σ → τ) (f : Nat → σ → σ) (I : Nat → σ → Prop) {n : Nat} {s : σ} {r : σ → ρ} (h0 : I 0 s)
    (hT : ∀ i s, i < n → I i s → T (enc i s) = some (.inl (enc (i + 1) (f i s))) ∧ I (i + 1) (f i s)) (he : ∀ s, I n s → T (enc n s) = some (.inr (r s))) :
    whileM T (enc 0 s) = some (r (iterN f n s)) ∧ I n (iterN f n s) := by
  have hI : ∀ i, i ≤ n → I i (iterN f i s) := by
    intro i
    induction i with
    | zero => intro _; exact h0
    | succ i ih => intro hi; exact (hT i _ (by omega) (ih (by omega))).2
  refine ⟨?_, hI n (Nat.le_refl _)⟩
  exact whileM_count T (fun i => enc i (iterN f i s)) n _ (fun i hi => (hT i _ hi (hI i (by omega))).1) (he _ (hI n (Nat.le_refl _)))
/-- A loop over 0, 1, .. that ends early with the place where p holds. -/
theorem whileM_find {ρ : Type} {T : Int → Option (Int ⊕ ρ)} {n : Nat} {p : Nat → Bool} {a : Nat → ρ} {b : ρ} (hT : ∀ i, i < n → T (i : Int) = if p i = true then some (.inr (a i)) else some (.inl ((i + 1 : Nat) : Int))) (he : T (n : Int) = some (.inr b)) :
    whileM T 0 = some (match (List.range n).find? p with | some i => a i | none => b) := by
  have key : ∀ d i, i + d = n → whileM T (i : Int) = some (match (List.range' i d).find? p with | some i => a i | none => b) := by
    intro d
    induction d with
    | zero =>
      intro i hi
      have : i = n := by omega
      subst this
      rw [whileM_eq, he]; simp
    | succ d ih =>
      intro i hi
      rw [whileM_eq, hT i (by omega)]
      cases hp : p i with
      | true => simp [List.range'_succ, hp]
      | false =>
        simp only [Bool.false_eq_true, if_false]
        rw [ih (i + 1) (by omega)]
        simp only [List.range'_succ, List.find?_cons, hp]
  have := key n 0 (by omega)
  simpa [List.range_eq_range'] using this
theorem any_range {α : Type} [Inhabited α] (q : α → Bool) (xs : List α) : (List.range xs.length).any (fun i => q (nth xs i)) = xs.any q := by
  rw [Bool.eq_iff_iff, List.any_eq_true, List.any_eq_true]
  constructor
  · rintro ⟨i, hi, h⟩
    rw [List.mem_range] at hi
    rw [nth_of _ _ hi] at h
    exact ⟨_, List.getElem_mem hi, h⟩
  · rintro ⟨x, hx, h⟩
    obtain ⟨i, hi, rfl⟩ := List.getElem_of_mem hx
    exact ⟨i, by simpa using hi, by rw [nth_of _ _ hi]; exact h⟩
theorem any_not {α : Type} (q : α → Bool) (xs : List α) : (xs.any fun x => !q x) = !xs.all q := by
  induction xs with
  | nil => rfl
  | cons x xs ih => simp [ih, Bool.not_and]
theorem find_any (n : Nat) (p : Nat → Bool) : ((List.range n).find? p).isSome = (List.range n).any p := by
  rw [Bool.eq_iff_iff, List.find?_isSome, List.any_eq_true]
end Go.Proofs.Ytmgpbchacndndaa.AM
