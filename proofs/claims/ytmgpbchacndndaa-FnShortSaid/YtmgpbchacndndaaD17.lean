import Derived.Test.YtmgpbchacndndaaD16
set_option linter.unusedSimpArgs false
set_option linter.unusedVariables false
namespace Go.Proofs.Ytmgpbchacndndaa.AM
open Ieee
theorem Abr_ (b : Nat) : isNan .f32 b = decide (2139095040 < b % 2147483648) := by
  unfold isNan FloatKind.decode FloatKind.format Ieee.Format.read
  have e1 : Ieee.single.signWeight = 2147483648 := by kernel_rfl
  have e2 : Ieee.single.binade = 8388608 := by kernel_rfl
  have e3 : Ieee.single.infRung = 2139095040 := by kernel_rfl
  simp only [e1, e2, e3]
  split
  · simp [Datum.isNaN]; omega
  · split
    · simp [Datum.isNaN]; omega
    · split
      · simp [Datum.isNaN]; omega
      · simp [Datum.isNaN]; omega
theorem Yz_ (neg : Bool) (r : Nat) (h : r ≤ 2139095040) : isNan .f32 (single.word neg r) = false := by
  rw [Abr_]
  have e1 : single.signWeight = 2147483648 := by kernel_rfl
  unfold Format.word
  rw [e1]
  simp
  split <;> omega
theorem Ad2_ (n : Int) : isNan .f32 (Bm_ .f32 n) = false := by
  have h : isNan .f32 (FloatKind.f32.nearest n) = false := by
    show isNan .f32 (single.write (.number (decide (n < 0)) n.natAbs 0)) = false
    unfold Format.write Format.nearest
    simp only
    split
    · exact Yz_ _ _ (by omega)
    · refine Yz_ _ _ ?_
      have e3 : single.infRung = 2139095040 := by kernel_rfl
      rw [e3]; exact Nat.min_le_right _ _
  unfold Bm_
  rw [Kq_ h]; exact h
theorem Aa5_ {k : FloatKind} {x : Nat} (h : isNan k x = false) : feq k x x = true := by
  unfold feq
  have e : ∀ x y, k.format.order x y = (k.decode x).order (k.decode y) := by intro x y; cases k <;> rfl
  rw [e]
  unfold isNan at h
  cases hd : k.decode x with
  | number s m i => simp [Datum.order]
  | infinity s => cases s <;> rfl
  | nan s f => rw [hd] at h; cases h
@[simp] theorem Arc_ (n : Int) : feq .f32 (Bm_ .f32 n) (Bm_ .f32 n) = true := Aa5_ (Ad2_ n)
theorem w64 {n : Int} (h1 : -9223372036854775808 ≤ n) (h2 : n < 9223372036854775808) : IntKind.i64.wrap n = n := by
  rw [IntKind.wrap_i64]; omega
def small (n : Int) : Prop := -4611686018427387904 ≤ n ∧ n ≤ 4611686018427387904
theorem A7_ {k : Nat} (h : k < 4611686018427387904) : IntKind.i64.wrap ((k : Int) + 1) = ((k + 1 : Nat) : Int) := by
  rw [w64 (by omega) (by omega)]; omega
@[simp] theorem Aq_ (k n : Nat) : inb (k : Int) n = decide (k < n) := by
  unfold inb
  have : decide ((0 : Int) ≤ k) = true := by simp
  rw [this]; simp
@[simp] theorem Ar_ (k n : Nat) : decide ((k : Int) < (n : Int)) = decide (k < n) := by simp
theorem Z4_ {α : Type} [Inhabited α] (xs : List α) (i : Nat) (v : α) (h : i < xs.length) : nth (xs.set i v) i = v := by
  rw [Ao_ _ _ (by simpa using h)]; simp
theorem Ahj_ {α : Type} [Inhabited α] (xs : List α) (i j : Nat) (v : α) (h : i ≠ j) : nth (xs.set i v) j = nth xs j := by
  unfold nth
  simp [List.getD_eq_getElem?_getD, List.getElem?_set_ne h]
theorem Pg_ {α : Type} [Inhabited α] {xs ys : List α} (hl : xs.length = ys.length) (h : ∀ i, i < xs.length → nth xs i = nth ys i) : xs = ys := by
  refine List.ext_getElem hl fun i h1 h2 => ?_
  have := h i h1
  rwa [Ao_ _ _ h1, Ao_ _ _ h2] at this
def fill {α : Type} (d : α) (xs : List α) (k : Nat) : List α := xs.take k ++ List.replicate (xs.length - k) d
@[simp] theorem Ark_ {α : Type} (d : α) (xs : List α) (k : Nat) : (fill d xs k).length = xs.length := by simp [fill]; omega
def marks (n : Int) (len : Nat) : List Nat := (List.range len).map fun (i : Nat) => Bm_ .f32 (n + i)
@[simp] theorem Arm_ (n : Int) (k : Nat) : (marks n k).length = k := by simp [marks]
def Ty_ (n : Int) (len : Nat) : List Int := (List.range len).map fun (i : Nat) => n + i
@[simp] theorem Arf_ (n : Int) (k : Nat) : (Ty_ n k).length = k := by simp [Ty_]
def iterN {σ : Type} (f : Nat → σ → σ) : Nat → σ → σ
  | 0, a => a
  | n + 1, a => f n (iterN f n a)
theorem Ai4_ {σ τ ρ : Type} {T : τ → Option (τ ⊕ ρ)} (enc : Nat → σ → τ) (f : Nat → σ → σ) (I : Nat → σ → Prop) {n : Nat} {s : σ} {r : σ → ρ} (h0 : I 0 s)
    (hT : ∀ i s, i < n → I i s → T (enc i s) = some (.inl (enc (i + 1) (f i s))) ∧ I (i + 1) (f i s)) (he : ∀ s, I n s → T (enc n s) = some (.inr (r s))) :
    Af_ T (enc 0 s) = some (r (iterN f n s)) ∧ I n (iterN f n s) := by
  have hI : ∀ i, i ≤ n → I i (iterN f i s) := by
    intro i
    induction i with
    | zero => intro _; exact h0
    | succ i ih => intro hi; exact (hT i _ (by omega) (ih (by omega))).2
  refine ⟨?_, hI n (Nat.le_refl _)⟩
  exact Ad7_ T (fun i => enc i (iterN f i s)) n _ (fun i hi => (hT i _ hi (hI i (by omega))).1) (he _ (hI n (Nat.le_refl _)))
theorem Ana_ {ρ : Type} {T : Int → Option (Int ⊕ ρ)} {n : Nat} {p : Nat → Bool} {a : Nat → ρ} {b : ρ} (hT : ∀ i, i < n → T (i : Int) = if p i = true then some (.inr (a i)) else some (.inl ((i + 1 : Nat) : Int))) (he : T (n : Int) = some (.inr b)) :
    Af_ T 0 = some (match (List.range n).find? p with | some i => a i | none => b) := by
  have key : ∀ d i, i + d = n → Af_ T (i : Int) = some (match (List.range' i d).find? p with | some i => a i | none => b) := by
    intro d
    induction d with
    | zero =>
      intro i hi
      have : i = n := by omega
      subst this
      rw [Ch_, he]; simp
    | succ d ih =>
      intro i hi
      rw [Ch_, hT i (by omega)]
      cases hp : p i with
      | true => simp [List.range'_succ, hp]
      | false =>
        simp only [Bool.false_eq_true, if_false]
        rw [ih (i + 1) (by omega)]
        simp only [List.range'_succ, List.find?_cons, hp]
  have := key n 0 (by omega)
  simpa [List.range_eq_range'] using this
theorem Af3_ {α : Type} [Inhabited α] (q : α → Bool) (xs : List α) : (List.range xs.length).any (fun i => q (nth xs i)) = xs.any q := by
  rw [Bool.eq_iff_iff, List.any_eq_true, List.any_eq_true]
  constructor
  · rintro ⟨i, hi, h⟩
    rw [List.mem_range] at hi
    rw [Ao_ _ _ hi] at h
    exact ⟨_, List.getElem_mem hi, h⟩
  · rintro ⟨x, hx, h⟩
    obtain ⟨i, hi, rfl⟩ := List.getElem_of_mem hx
    exact ⟨i, by simpa using hi, by rw [Ao_ _ _ hi]; exact h⟩
theorem Akr_ {α : Type} (q : α → Bool) (xs : List α) : (xs.any fun x => !q x) = !xs.all q := by
  induction xs with
  | nil => rfl
  | cons x xs ih => simp [ih, Bool.not_and]
theorem Al4_ (n : Nat) (p : Nat → Bool) : ((List.range n).find? p).isSome = (List.range n).any p := by
  rw [Bool.eq_iff_iff, List.find?_isSome, List.any_eq_true]
end Go.Proofs.Ytmgpbchacndndaa.AM
