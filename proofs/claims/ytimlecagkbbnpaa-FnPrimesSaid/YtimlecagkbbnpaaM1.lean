/- Matrices of any shape: the words of both sides. -/
import Derived.Test.YtimlecagkbbnpaaM0
set_option linter.unusedSimpArgs false
set_option linter.unusedVariables false
namespace Go.Proofs.Ytimlecagkbbnpaa.AM

/-- n rows of m each. -/
def rc {α : Type} (n m : Nat) (f : Nat → Nat → α) : List α := (List.range (n * m)).map fun p => f (p / m) (p % m)
@[simp] theorem rc_length {α : Type} (n m : Nat) (f : Nat → Nat → α) : (rc n m f).length = n * m := by simp [rc]
theorem rc_lt {n m i k : Nat} (hi : i < n) (hk : k < m) : i * m + k < n * m := by
  have h := Nat.mul_le_mul_right m (show i + 1 ≤ n from hi)
  rw [Nat.add_mul] at h; omega
theorem rc_div {m i k : Nat} (hk : k < m) : (i * m + k) / m = i := by
  rw [Nat.mul_comm, Nat.mul_add_div (by omega), Nat.div_eq_of_lt hk]; rfl
theorem rc_mod {m i k : Nat} (hk : k < m) : (i * m + k) % m = k := by
  rw [Nat.mul_comm, Nat.mul_add_mod, Nat.mod_eq_of_lt hk]
theorem rc_nth {α : Type} [Inhabited α] {n m : Nat} (f : Nat → Nat → α) {i k : Nat} (hi : i < n) (hk : k < m) : nth (rc n m f) (i * m + k) = f i k := by
  rw [rc, nth_map_range _ _ _ (rc_lt hi hk)]
  simp only [rc_div hk, rc_mod hk]
theorem rc_of {n m p : Nat} (hp : p < n * m) : p / m < n ∧ p % m < m ∧ p / m * m + p % m = p := by
  have hm : 0 < m := by
    rcases Nat.eq_zero_or_pos m with h | h
    · subst h; simp at hp
    · exact h
  exact ⟨(Nat.div_lt_iff_lt_mul hm).2 hp, Nat.mod_lt _ hm, by rw [Nat.mul_comm]; exact Nat.div_add_mod p m⟩
theorem rc_ext {α : Type} [Inhabited α] {n m : Nat} {f : Nat → Nat → α} {xs : List α} (hl : xs.length = n * m) (h : ∀ i k, i < n → k < m → nth xs (i * m + k) = f i k) : xs = rc n m f := by
  refine ext_nth (by rw [hl, rc_length]) fun p hp => ?_
  rw [hl] at hp
  obtain ⟨h1, h2, h3⟩ := rc_of hp
  rw [← h3, h _ _ h1 h2, rc_nth f h1 h2]
theorem rc_congr {α : Type} {n m : Nat} {f g : Nat → Nat → α} (h : ∀ i k, i < n → k < m → f i k = g i k) : rc n m f = rc n m g := by
  unfold rc
  refine List.map_congr_left fun p hp => ?_
  obtain ⟨h1, h2, _⟩ := rc_of (List.mem_range.1 hp)
  exact h _ _ h1 h2
theorem le144 {n m : Nat} (hn : n ≤ 12) (hm : m ≤ 12) : n * m ≤ 144 := Nat.mul_le_mul hn hm
theorem mulw {n m : Nat} (hn : n ≤ 12) (hm : m ≤ 12) : IntKind.i64.wrap ((n : Int) * (m : Int)) = ((n * m : Nat) : Int) := by
  have h := le144 hn hm
  have : ((n : Int) * m) = ((n * m : Nat) : Int) := by simp
  rw [this, w64 (by omega) (by omega)]
theorem atw {n m i k : Nat} (hi : i < n) (hk : k < m) (hn : n ≤ 12) (hm : m ≤ 12) : IntKind.i64.wrap ((IntKind.i64.wrap ((i : Int) * (m : Int))) + (k : Int)) = ((i * m + k : Nat) : Int) := by
  have h := le144 hn hm
  have h2 := rc_lt hi hk
  rw [mulw (by omega) hm, w64 (by omega) (by omega)]; omega
theorem tdivN (p m : Nat) : Int.tdiv (p : Int) (m : Int) = ((p / m : Nat) : Int) := rfl
theorem tmodN (p m : Nat) : Int.tmod (p : Int) (m : Int) = ((p % m : Nat) : Int) := rfl
theorem wN {p : Nat} (h : p ≤ 4611686018427387904) : IntKind.i64.wrap (p : Int) = (p : Int) := w64 (by omega) (by omega)
theorem w1 {k : Nat} (h : k ≤ 1000) : IntKind.i64.wrap ((k : Int) + 1) = ((k + 1 : Nat) : Int) := w_succ (by omega)
theorem fitsN {n : Nat} (h : n ≤ 1000) : fits n = true := fits_iff.2 (by unfold maxN; omega)
theorem nth_sub {xs : List Nat} {a b j : Nat} (h : a + j < b) (hb : b ≤ xs.length) : nth (AM.sub xs (a : Int) (b : Int)) j = nth xs (a + j) := by
  have h1 : j < (AM.sub xs (a : Int) (b : Int)).length := by
    rw [sub_length (sok_iff.2 ⟨by omega, by omega, by omega⟩)]; omega
  rw [nth_of _ _ h1, nth_of _ _ (show a + j < xs.length by omega)]
  simp [AM.sub]
theorem dotN_congr {f g : Nat → Nat} : ∀ (n : Nat), (∀ i, i < n → f i = g i) → dotN f n = dotN g n
  | 0, _ => rfl
  | n + 1, h => by simp only [dotN]; rw [dotN_congr n fun i hi => h i (by omega), h n (by omega)]

/-- A valid matrix. -/
def vm (r c : Int) (xs : List Nat) : Bool := decide (1 ≤ r) && decide (r ≤ 12) && (decide (1 ≤ c) && decide (c ≤ 12)) && decide ((xs.length : Int) = IntKind.i64.wrap (r * c)) && xs.all sfin
theorem vm_shape {r c : Int} {xs : List Nat} (h : vm r c xs = true) : ∃ n m : Nat, r = (n : Int) ∧ c = (m : Int) ∧ 1 ≤ n ∧ n ≤ 12 ∧ 1 ≤ m ∧ m ≤ 12 ∧ xs.length = n * m ∧ xs.all sfin = true := by
  simp only [vm, Bool.and_eq_true, decide_eq_true_eq] at h
  obtain ⟨⟨⟨⟨h1, h2⟩, h3, h4⟩, h5⟩, h6⟩ := h
  refine ⟨r.toNat, c.toNat, by omega, by omega, by omega, by omega, by omega, by omega, ?_, h6⟩
  have e1 : r = (r.toNat : Int) := by omega
  have e2 : c = (c.toNat : Int) := by omega
  rw [e1, e2, mulw (by omega) (by omega)] at h5
  exact Int.ofNat.inj h5
theorem vm_nat {n m : Nat} {xs : List Nat} (h1 : 1 ≤ n) (h2 : n ≤ 12) (h3 : 1 ≤ m) (h4 : m ≤ 12) (h5 : xs.length = n * m) : vm n m xs = xs.all sfin := by
  have c1 : decide ((1 : Int) ≤ (n : Int)) = true := by simp; omega
  have c2 : decide ((n : Int) ≤ 12) = true := by simp; omega
  have c3 : decide ((1 : Int) ≤ (m : Int)) = true := by simp; omega
  have c4 : decide ((m : Int) ≤ 12) = true := by simp; omega
  have c5 : decide ((xs.length : Int) = ((n * m : Nat) : Int)) = true := by rw [h5]; simp
  simp only [vm, c1, c2, c3, c4, mulw h2 h4, c5, Bool.true_and]
/-- A list made by appending. -/
theorem app_gen {T : Int × List Nat → Option ((Int × List Nat) ⊕ List Nat)} {n : Nat} {f : Nat → Nat} (h : ∀ (i : Nat) (s : List Nat), i < n → s.length = i → T ((i : Int), s) = some (.inl (((i + 1 : Nat) : Int), s ++ [f i])))
    (he : ∀ s : List Nat, T ((n : Int), s) = some (.inr s)) : whileM T ((0 : Int), []) = some ((List.range n).map f) := by
  refine whileM_fix (T := T) (n := n) (r := (List.range n).map f) (fun i => ((i : Int), (List.range i).map f)) ?_ (he _)
  intro i hi
  rw [h i _ hi (by simp), List.range_succ, List.map_append]; rfl
/-- A matrix made by appending. -/
theorem flat_gen {T : Int × List Nat → Option ((Int × List Nat) ⊕ List Nat)} {n m : Nat} {f : Nat → Nat → Nat} (h : ∀ (p : Nat) (s : List Nat), p < n * m → s.length = p → T ((p : Int), s) = some (.inl (((p + 1 : Nat) : Int), s ++ [f (p / m) (p % m)])))
    (he : ∀ s : List Nat, T (((n * m : Nat) : Int), s) = some (.inr s)) : whileM T ((0 : Int), []) = some (rc n m f) := app_gen h he
/-- A matrix made number by number. -/
theorem made_gen {T0 : Int × List Nat → Option ((Int × List Nat) ⊕ List Nat)} {T2 : Int → Int × List Nat → Option ((Int × List Nat) ⊕ List Nat)} {n m : Nat} {f : Nat → Nat → Nat}
    (h2 : ∀ (i k : Nat) (s : List Nat), i < n → k < m → s.length = n * m → T2 i ((k : Int), s) = some (.inl (((k + 1 : Nat) : Int), s.set (i * m + k) (f i k))))
    (h2e : ∀ (i : Nat) (s : List Nat), i < n → T2 i ((m : Int), s) = some (.inr s))
    (h0 : ∀ (i : Nat) (s s' : List Nat), i < n → whileM (T2 i) ((0 : Int), s) = some s' → T0 ((i : Int), s) = some (.inl (((i + 1 : Nat) : Int), s')))
    (h0e : ∀ s : List Nat, T0 ((n : Int), s) = some (.inr s)) : whileM T0 ((0 : Int), List.replicate (n * m) 0) = some (rc n m f) := by
  have row : ∀ i, i < n → whileM (T2 i) ((0 : Int), fill 0 (rc n m f) (i * m)) = some (fill 0 (rc n m f) ((i + 1) * m)) := by
    intro i hi
    refine Eq.trans ?_ (whileM_fix (T := T2 i) (n := m) (r := fill 0 (rc n m f) ((i + 1) * m)) (fun k => ((k : Int), fill 0 (rc n m f) (i * m + k))) ?_ ?_)
    · simp
    · intro k hk
      have hp := rc_lt hi hk
      show T2 i ((k : Int), fill 0 (rc n m f) (i * m + k)) = some (.inl (((k + 1 : Nat) : Int), fill 0 (rc n m f) (i * m + (k + 1))))
      rw [h2 i k _ hi hk (by simp)]
      have := fill_set 0 (rc n m f) (i * m + k) (by simpa using hp)
      rw [rc_nth f hi hk] at this
      rw [this]; rfl
    · show T2 i ((m : Int), fill 0 (rc n m f) (i * m + m)) = _
      rw [h2e i _ hi]
      rw [show (i + 1) * m = i * m + m by rw [Nat.add_mul, Nat.one_mul]]
  have := whileM_fix (T := T0) (n := n) (r := rc n m f) (fun i => ((i : Int), fill 0 (rc n m f) (i * m))) (fun i hi => h0 i _ _ hi (row i hi)) (by
    have := fill_full (0 : Nat) (rc n m f)
    rw [rc_length] at this
    show T0 ((n : Int), fill 0 (rc n m f) (n * m)) = _
    rw [this]; exact h0e _)
  rw [← this]
  simp [fill_zero]
/-- A column. -/
def colL (n m : Nat) (M : List Nat) (k : Nat) : List Nat := (List.range n).map fun i => nth M (i * m + k)
@[simp] theorem colL_length (n m : Nat) (M : List Nat) (k : Nat) : (colL n m M k).length = n := by simp [colL]
theorem colL_nth {n m : Nat} {M : List Nat} {k i : Nat} (hi : i < n) : nth (colL n m M k) i = nth M (i * m + k) := nth_map_range _ _ _ hi
/-- A row. -/
def rowL (m : Nat) (M : List Nat) (i : Nat) : List Nat := AM.sub M ((i * m : Nat) : Int) (((i + 1) * m : Nat) : Int)
theorem rowL_length {n m i : Nat} {M : List Nat} (hi : i < n) (hn : n ≤ 12) (hm : m ≤ 12) (hM : M.length = n * m) : (rowL m M i).length = m :=
  row_length hi (by have := le144 hn hm; unfold maxN; omega) hM
theorem rowL_nth {n m i j : Nat} {M : List Nat} (hi : i < n) (hj : j < m) (hM : M.length = n * m) : nth (rowL m M i) j = nth M (i * m + j) := by
  have h2 : (i + 1) * m = i * m + m := by rw [Nat.add_mul, Nat.one_mul]
  have h3 := Nat.mul_le_mul_right m (show i + 1 ≤ n from hi)
  exact nth_sub (by omega) (by omega)

/-- The product. -/
noncomputable def mulL (n m q : Nat) (A B : List Nat) : List Nat := rc n q fun i k => dotN (fun j => fmul .f32 (nth A (i * m + j)) (nth B (j * q + k))) m
@[simp] theorem mulL_length (n m q : Nat) (A B : List Nat) : (mulL n m q A B).length = n * q := by simp [mulL]
end Go.Proofs.Ytimlecagkbbnpaa.AM
