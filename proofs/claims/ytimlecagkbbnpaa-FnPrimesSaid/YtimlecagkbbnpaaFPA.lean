/- OPM OP0 OPN OPV -/
import Derived.Test.YtimlecagkbbnpaaD17
import Derived.Test.YtimlecagkbbnpaaOV0
set_option linter.unusedSimpArgs false
set_option linter.unusedVariables false
set_option maxHeartbeats 2000000
set_option maxRecDepth 100000
namespace Go.Proofs.Ytimlecagkbbnpaa.AM

/-- A row times a vector. -/
def dotZ (f x : Nat → Int) : Nat → Int
  | 0 => 0
  | m + 1 => dotZ f x m + f m * x m
theorem dotZ_congr {f g x y : Nat → Int} : ∀ (m : Nat), (∀ k, k < m → f k * x k = g k * y k) → dotZ f x m = dotZ g y m
  | 0, _ => rfl
  | m + 1, h => by
    simp only [dotZ]
    rw [dotZ_congr m fun k hk => h k (by omega), h m (by omega)]
theorem dotZ_lin (f g x : Nat → Int) (a : Int) : ∀ m, dotZ (fun k => f k - a * g k) x m = dotZ f x m - a * dotZ g x m
  | 0 => by simp [dotZ]
  | m + 1 => by
    simp only [dotZ]
    rw [dotZ_lin f g x a m, Int.sub_mul, Int.mul_add, Int.mul_assoc]
    omega
theorem dotZ_scale (f x : Nat → Int) (a : Int) : ∀ m, dotZ (fun k => f k * a) x m = dotZ f x m * a
  | 0 => by simp [dotZ]
  | m + 1 => by
    simp only [dotZ]
    rw [dotZ_scale f x a m, Int.add_mul]
    congr 1
    rw [Int.mul_assoc, Int.mul_comm a, ← Int.mul_assoc]
theorem dotZ_mod {p : Int} (f g x : Nat → Int) : ∀ m, (∀ k, k < m → p ∣ f k - g k) → p ∣ dotZ f x m - dotZ g x m
  | 0, _ => by simp [dotZ]
  | m + 1, h => by
    simp only [dotZ]
    have h1 := dotZ_mod f g x m fun k hk => h k (by omega)
    have h2 : p ∣ f m * x m - g m * x m := by rw [← Int.sub_mul]; exact Int.dvd_trans (h m (by omega)) (Int.dvd_mul_right _ _)
    have := Int.dvd_add h1 h2
    rw [show dotZ f x m + f m * x m - (dotZ g x m + g m * x m) = dotZ f x m - dotZ g x m + (f m * x m - g m * x m) by omega]
    exact this
theorem dotZ_zero {f x : Nat → Int} : ∀ (m : Nat), (∀ k, k < m → f k * x k = 0) → dotZ f x m = 0
  | 0, _ => rfl
  | m + 1, h => by simp only [dotZ]; rw [dotZ_zero m fun k hk => h k (by omega), h m (by omega)]; rfl
theorem dotZ_one {f x : Nat → Int} {q : Nat} : ∀ (m : Nat), q < m → (∀ k, k < m → k ≠ q → f k * x k = 0) → dotZ f x m = f q * x q
  | 0, hq, _ => by omega
  | m + 1, hq, h => by
    simp only [dotZ]
    by_cases e : q = m
    · subst e; rw [dotZ_zero q fun k hk => h k (by omega) (by omega)]; omega
    · rw [dotZ_one m (by omega) fun k hk hne => h k (by omega) hne, h m (by omega) (by omega)]; omega
theorem dotZ_two {f x : Nat → Int} {q c : Nat} (hne : q ≠ c) : ∀ (m : Nat), q < m → c < m → (∀ k, k < m → k ≠ q → k ≠ c → f k * x k = 0) → dotZ f x m = f q * x q + f c * x c
  | 0, hq, _, _ => by omega
  | m + 1, hq, hc, h => by
    simp only [dotZ]
    by_cases e : q = m
    · subst e; rw [dotZ_one q (q := c) (by omega) fun k hk hk2 => h k (by omega) (by omega) hk2]; omega
    · by_cases e2 : c = m
      · subst e2; rw [dotZ_one c (q := q) (by omega) fun k hk hk2 => h k (by omega) hk2 (by omega)]
      · rw [dotZ_two hne m (by omega) (by omega) fun k hk h1 h2 => h k (by omega) h1 h2, h m (by omega) (fun e3 => e e3.symm) (fun e3 => e2 e3.symm)]; omega
theorem dvd_shift {p a b : Int} (h : p ∣ a - b) : p ∣ a ↔ p ∣ b :=
  ⟨fun h1 => by have := Int.dvd_sub h1 h; rwa [show a - (a - b) = b by omega] at this, fun h1 => by have := Int.dvd_add h h1; rwa [show a - b + b = a by omega] at this⟩
theorem mod_dvd (a p : Int) : p ∣ a % p - a := by
  refine ⟨-(a / p), ?_⟩
  have := Int.emod_add_mul_ediv a p
  rw [Int.mul_neg]; omega
theorem mod_dvd' (a p : Int) : p ∣ a - a % p := by
  refine ⟨a / p, ?_⟩
  have := Int.emod_add_mul_ediv a p
  omega

/-- Rows that elimination over p has come to, up to the column j. -/
structure Rr (n m p j : Nat) (M A : Nat → Nat → Int) (pn : List Nat) : Prop where
  bnd : ∀ i, i < n → ∀ k, k < m → 0 ≤ M i k ∧ M i k < p
  len : pn.length ≤ n
  lt : ∀ t, t < pn.length → nth pn t < j
  inj : ∀ t s, t < pn.length → s < pn.length → nth pn t = nth pn s → t = s
  one : ∀ t, t < pn.length → M t (nth pn t) = 1
  oth : ∀ t, t < pn.length → ∀ i, i < n → i ≠ t → M i (nth pn t) = 0
  zero : ∀ i, pn.length ≤ i → i < n → ∀ k, k < j → M i k = 0
  eqv : ∀ x : Nat → Int, (∀ i, i < n → (p : Int) ∣ dotZ (M i) x m) ↔ (∀ i, i < n → (p : Int) ∣ dotZ (A i) x m)
theorem Rr.skip {n m p j : Nat} {M A : Nat → Nat → Int} {pn : List Nat} (h : Rr n m p j M A pn) (hz : ∀ i, pn.length ≤ i → i < n → M i j = 0) : Rr n m p (j + 1) M A pn :=
  ⟨h.bnd, h.len, fun t ht => Nat.lt_succ_of_lt (h.lt t ht), h.inj, h.one, h.oth, fun i h1 h2 k hk => by
    by_cases e : k = j
    · subst e; exact hz i h1 h2
    · exact h.zero i h1 h2 k (by omega), h.eqv⟩
theorem nth_snoc {α : Type} [Inhabited α] (xs : List α) (x : α) (t : Nat) (h : t ≤ xs.length) : nth (xs ++ [x]) t = if t < xs.length then nth xs t else x := by
  rw [nth_of _ _ (by simp; omega)]
  split
  · rename_i hl; rw [List.getElem_append_left hl, nth_of _ _ hl]
  · have : t = xs.length := by omega
    subst this; simp
/-- Rows b and r change their places. -/
def swp (M : Nat → Nat → Int) (b r i k : Nat) : Int := if i = r then M b k else if i = b then M r k else M i k
theorem Rr.step {n m p j r b : Nat} {M A M' : Nat → Nat → Int} {pn : List Nat} (h : Rr n m p j M A pn) (hp : 2 ≤ p) (hj : j < m) (hr : pn.length = r) (hb : r ≤ b) (hbn : b < n) {v : Int} (hinv : (M b j * v) % (p : Int) = 1)
    (hM : ∀ i, i < n → ∀ k, k < m → M' i k = if i = r then (M b k * v) % (p : Int) else (swp M b r i k - swp M b r i j * ((M b k * v) % (p : Int))) % (p : Int)) : Rr n m p (j + 1) M' A (pn ++ [j]) := by
  have hrn : r < n := by omega
  have hp0 : (0 : Int) < p := by omega
  have hlen : (pn ++ [j]).length = r + 1 := by simp [hr]
  have hnt : ∀ t, t < r + 1 → nth (pn ++ [j]) t = if t < r then nth pn t else j := fun t ht => by rw [nth_snoc _ _ _ (by omega), hr]
  have hR : ∀ k, k < m → M' r k = (M b k * v) % (p : Int) := fun k hk => by rw [hM r hrn k hk, if_pos rfl]
  have hO : ∀ i, i < n → i ≠ r → ∀ k, k < m → M' i k = (swp M b r i k - swp M b r i j * ((M b k * v) % (p : Int))) % (p : Int) := fun i hi hne k hk => by rw [hM i hi k hk, if_neg hne]
  have z0 : (0 : Int) % (p : Int) = 0 := Int.zero_emod _
  have old : ∀ t, t < r → nth pn t < j ∧ (M b (nth pn t) * v) % (p : Int) = 0 := fun t ht => by
    have h1 := h.lt t (by omega)
    refine ⟨h1, ?_⟩
    rw [h.oth t (by omega) b hbn (by omega), Int.zero_mul, z0]
  have swr : ∀ i, i < n → ∀ k, k < m → 0 ≤ swp M b r i k ∧ swp M b r i k < p := fun i hi k hk => by
    unfold swp
    split
    · exact h.bnd b hbn k hk
    · split
      · exact h.bnd r hrn k hk
      · exact h.bnd i hi k hk
  refine ⟨fun i hi k hk => ?_, by omega, fun t ht => ?_, fun t s ht hs e => ?_, fun t ht => ?_, fun t ht i hi hne => ?_, fun i hi hin k hk => ?_, fun x => ?_⟩
  · rw [hM i hi k hk]
    split <;> exact ⟨Int.emod_nonneg _ (by omega), Int.emod_lt_of_pos _ hp0⟩
  · rw [hlen] at ht
    rw [hnt t ht]
    split
    · have := h.lt t (by omega); omega
    · omega
  · rw [hlen] at ht hs
    rw [hnt t ht, hnt s hs] at e
    by_cases ht1 : t < r <;> by_cases hs1 : s < r
    · rw [if_pos ht1, if_pos hs1] at e; exact h.inj t s (by omega) (by omega) e
    · rw [if_pos ht1, if_neg hs1] at e; have := h.lt t (by omega); omega
    · rw [if_neg ht1, if_pos hs1] at e; have := h.lt s (by omega); omega
    · omega
  · rw [hlen] at ht
    rw [hnt t ht]
    by_cases ht1 : t < r
    · rw [if_pos ht1]
      obtain ⟨o1, o2⟩ := old t ht1
      rw [hO t (by omega) (by omega) _ (by omega), o2, Int.mul_zero, Int.sub_zero]
      unfold swp
      rw [if_neg (by omega), if_neg (by omega), h.one t (by omega)]
      exact Int.emod_eq_of_lt (by omega) (by omega)
    · rw [if_neg ht1]
      have : t = r := by omega
      subst this
      rw [hR j hj]; exact hinv
  · rw [hlen] at ht
    rw [hnt t ht]
    by_cases ht1 : t < r
    · rw [if_pos ht1]
      obtain ⟨o1, o2⟩ := old t ht1
      by_cases hir : i = r
      · subst hir; rw [hR _ (by omega)]; exact o2
      · rw [hO i hi hir _ (by omega), o2, Int.mul_zero, Int.sub_zero]
        unfold swp
        rw [if_neg hir]
        split
        · rw [h.oth t (by omega) r hrn (by omega)]; exact z0
        · rw [h.oth t (by omega) i hi hne]; exact z0
    · rw [if_neg ht1]
      have : t = r := by omega
      subst this
      rw [hO i hi hne j hj, hinv, Int.mul_one, Int.sub_self]; exact z0
  · rw [hlen] at hi
    have hir : i ≠ r := by omega
    by_cases e : k = j
    · subst e
      rw [hO i hin hir k hj, hinv, Int.mul_one, Int.sub_self]; exact z0
    · rw [hO i hin hir k (by omega)]
      have e1 : M b k = 0 := h.zero b (by omega) hbn k (by omega)
      have e2 : swp M b r i k = 0 := by
        unfold swp
        rw [if_neg hir]
        split
        · exact h.zero r (by omega) hrn k (by omega)
        · exact h.zero i (by omega) hin k (by omega)
      rw [e1, e2, Int.zero_mul, z0, Int.mul_zero, Int.sub_zero]; exact z0
  · refine Iff.trans ?_ (h.eqv x)
    -- the new row and the old one
    have dR : (p : Int) ∣ dotZ (M' r) x m - dotZ (M b) x m * v := by
      rw [← dotZ_scale]
      exact dotZ_mod _ _ x m fun k hk => by rw [hR k hk]; exact mod_dvd _ _
    have dO : ∀ i, i < n → i ≠ r → (p : Int) ∣ dotZ (M' i) x m - (dotZ (swp M b r i) x m - swp M b r i j * dotZ (M' r) x m) := fun i hi hne => by
      rw [← dotZ_lin]
      exact dotZ_mod _ _ x m fun k hk => by rw [hO i hi hne k hk, hR k hk]; exact mod_dvd _ _
    constructor
    · intro hall
      have hr0 := hall r hrn
      have hMb : (p : Int) ∣ dotZ (M b) x m := by
        have h1 : (p : Int) ∣ dotZ (M b) x m * v := (dvd_shift dR).1 hr0
        have h2 : (p : Int) ∣ dotZ (M b) x m * v * M b j := Int.dvd_trans h1 (Int.dvd_mul_right _ _)
        have h3 : (p : Int) ∣ dotZ (M b) x m * (M b j * v) - dotZ (M b) x m * 1 := by
          rw [← Int.mul_sub]
          refine Int.dvd_trans ?_ (Int.dvd_mul_left _ _)
          have := mod_dvd' (M b j * v) p
          rw [hinv] at this; exact this
        have h4 : dotZ (M b) x m * v * M b j = dotZ (M b) x m * (M b j * v) := by rw [Int.mul_assoc, Int.mul_comm v]
        rw [h4] at h2
        have := (dvd_shift h3).1 h2
        rwa [Int.mul_one] at this
      have hsw : ∀ i, i < n → i ≠ r → (p : Int) ∣ dotZ (swp M b r i) x m := fun i hi hne => by
        have h1 := (dvd_shift (dO i hi hne)).1 (hall i hi)
        have h2 : (p : Int) ∣ swp M b r i j * dotZ (M' r) x m := Int.dvd_trans hr0 (Int.dvd_mul_left _ _)
        have := Int.dvd_add h1 h2
        rwa [show dotZ (swp M b r i) x m - swp M b r i j * dotZ (M' r) x m + swp M b r i j * dotZ (M' r) x m = dotZ (swp M b r i) x m by omega] at this
      intro i hi
      by_cases hib : i = b
      · subst hib; exact hMb
      · by_cases hir : i = r
        · subst hir
          have := hsw b hbn (fun e => hib e.symm)
          have e2 : dotZ (swp M b i b) x m = dotZ (M i) x m := dotZ_congr m fun k hk => by unfold swp; rw [if_neg (fun e => hib e.symm), if_pos rfl]
          rwa [e2] at this
        · have := hsw i hi hir
          have e2 : dotZ (swp M b r i) x m = dotZ (M i) x m := dotZ_congr m fun k hk => by unfold swp; rw [if_neg hir, if_neg hib]
          rwa [e2] at this
    · intro hall
      have hr0 : (p : Int) ∣ dotZ (M' r) x m := (dvd_shift dR).2 (Int.dvd_trans (hall b hbn) (Int.dvd_mul_right _ _))
      intro i hi
      by_cases hir : i = r
      · subst hir; exact hr0
      · refine (dvd_shift (dO i hi hir)).2 (Int.dvd_sub ?_ (Int.dvd_trans hr0 (Int.dvd_mul_left _ _)))
        by_cases hib : i = b
        · subst hib
          have e2 : dotZ (swp M i r i) x m = dotZ (M r) x m := dotZ_congr m fun k hk => by unfold swp; rw [if_neg hir, if_pos rfl]
          rw [e2]; exact hall r hrn
        · have e2 : dotZ (swp M b r i) x m = dotZ (M i) x m := dotZ_congr m fun k hk => by unfold swp; rw [if_neg hir, if_neg hib]
          rw [e2]; exact hall i hi

/-- A column without a pivot leads to a vector that all rows lead to nothing. -/
theorem Rr.null {n m p c : Nat} {M A : Nat → Nat → Int} {pn : List Nat} (h : Rr n m p m M A pn) (hc : c < m) (hf : ∀ t, t < pn.length → nth pn t ≠ c) {x : Nat → Int} (x1 : x c = 1) (x2 : ∀ t, t < pn.length → x (nth pn t) = (0 - M t c) % (p : Int))
    (x3 : ∀ k, k < m → k ≠ c → (∀ t, t < pn.length → k ≠ nth pn t) → x k = 0) : ∀ i, i < n → (p : Int) ∣ dotZ (A i) x m := by
  refine (h.eqv x).1 fun i hi => ?_
  by_cases hir : i < pn.length
  · have hq := h.lt i hir
    rw [dotZ_two (q := nth pn i) (c := c) (hf i hir) m hq hc fun k hk h1 h2 => ?_]
    · rw [h.one i hir, x1, x2 i hir, Int.one_mul, Int.mul_one]
      have := mod_dvd (0 - M i c) p
      rw [show (0 - M i c) % (p : Int) + M i c = (0 - M i c) % (p : Int) - (0 - M i c) by omega]
      exact this
    · by_cases hk2 : ∀ t, t < pn.length → k ≠ nth pn t
      · rw [x3 k hk h2 hk2, Int.mul_zero]
      · obtain ⟨t, ht⟩ : ∃ t, ¬ (t < pn.length → k ≠ nth pn t) := Classical.not_forall.1 hk2
        have ht1 : t < pn.length := Classical.byContradiction fun hh => ht fun h' => absurd h' hh
        have ht2 : k = nth pn t := Classical.byContradiction fun hh => ht fun _ => hh
        subst ht2
        rw [h.oth t ht1 i hi (fun e => h1 (by rw [e])), Int.zero_mul]
  · rw [dotZ_zero m fun k hk => by rw [h.zero i (by omega) hi k hk, Int.zero_mul]]
    exact Int.dvd_zero _
/-- With one more column: the numbers of the pivots' rows in it solve, if anything solves. -/
theorem Rr.solve {n c p : Nat} {M A : Nat → Nat → Int} {pn : List Nat} (h : Rr n (c + 1) p c M A pn) {u : Nat → Int} (hu : ∀ i, i < n → (p : Int) ∣ dotZ (A i) u c - A i c) :
    (∀ i, pn.length ≤ i → i < n → M i c = 0) ∧ ∀ x : Nat → Int, (∀ t, t < pn.length → x (nth pn t) = M t c) → (∀ k, k < c → (∀ t, t < pn.length → k ≠ nth pn t) → x k = 0) → ∀ i, i < n → (p : Int) ∣ dotZ (A i) x c - A i c := by
  have ext : ∀ (f x : Nat → Int), dotZ f (fun k => if k = c then -1 else x k) (c + 1) = dotZ f x c - f c := fun f x => by
    simp only [dotZ, if_true]
    rw [dotZ_congr (g := f) (y := x) c fun k hk => by rw [if_neg (by omega)]]
    omega
  have hz : ∀ i, pn.length ≤ i → i < n → M i c = 0 := fun i h1 h2 => by
    have := (h.eqv (fun k => if k = c then -1 else u k)).2 (fun i hi => by rw [ext]; exact hu i hi) i h2
    rw [ext, dotZ_zero c fun k hk => by rw [h.zero i h1 h2 k hk, Int.zero_mul]] at this
    obtain ⟨b1, b2⟩ := h.bnd i h2 c (by omega)
    obtain ⟨q, hq⟩ := this
    by_cases hM : M i c = 0
    · exact hM
    · exfalso
      have h3 : (p : Int) ∣ M i c := ⟨-q, by rw [Int.mul_neg]; omega⟩
      have := Int.le_of_dvd (by omega) h3
      omega
  refine ⟨hz, fun x x1 x2 => ?_⟩
  have := (h.eqv (fun k => if k = c then -1 else x k)).1 (fun i hi => by
    rw [ext]
    by_cases hir : i < pn.length
    · have hq := h.lt i hir
      rw [dotZ_one (q := nth pn i) c hq fun k hk h1 => ?_]
      · rw [h.one i hir, x1 i hir, Int.one_mul, Int.sub_self]; exact Int.dvd_zero _
      · by_cases hk2 : ∀ t, t < pn.length → k ≠ nth pn t
        · rw [x2 k hk hk2, Int.mul_zero]
        · obtain ⟨t, ht⟩ : ∃ t, ¬ (t < pn.length → k ≠ nth pn t) := Classical.not_forall.1 hk2
          have ht1 : t < pn.length := Classical.byContradiction fun hh => ht fun h' => absurd h' hh
          have ht2 : k = nth pn t := Classical.byContradiction fun hh => ht fun _ => hh
          subst ht2
          rw [h.oth t ht1 i hi (fun e => h1 (by rw [e])), Int.zero_mul]
    · rw [dotZ_zero c fun k hk => by rw [h.zero i (by omega) hi k hk, Int.zero_mul], hz i (by omega) hi]
      exact Int.dvd_zero _)
  intro i hi
  have h1 := this i hi
  rw [ext] at h1
  exact h1
/-- How many columns have no pivot. -/
def freeN (pn : List Nat) : Nat → Nat
  | 0 => 0
  | c + 1 => freeN pn c + if c ∈ pn then 0 else 1
theorem freeN_congr {a b : List Nat} : ∀ c, (∀ k, k < c → (k ∈ a ↔ k ∈ b)) → freeN a c = freeN b c
  | 0, _ => rfl
  | c + 1, h => by
    simp only [freeN]
    rw [freeN_congr c fun k hk => h k (by omega)]
    by_cases hc : c ∈ a
    · rw [if_pos hc, if_pos ((h c (by omega)).1 hc)]
    · rw [if_neg hc, if_neg (fun h' => hc ((h c (by omega)).2 h'))]
theorem freeN_sum : ∀ (c : Nat) (pn : List Nat), pn.Pairwise (· < ·) → (∀ q ∈ pn, q < c) → freeN pn c + pn.length = c
  | 0, pn, _, h => by
    cases pn with
    | nil => rfl
    | cons a l => have := h a (by simp); omega
  | c + 1, pn, hs, h => by
    by_cases hc : c ∈ pn
    · obtain ⟨l, hl⟩ : ∃ l, pn = l ++ [c] := by
        rcases List.eq_nil_or_concat pn with h0 | ⟨l, a, ha⟩
        · rw [h0] at hc; cases hc
        · have ha : pn = l ++ [a] := by rw [ha]; simp
          refine ⟨l, ?_⟩
          rw [ha] at hs hc h
          have h1 := (List.pairwise_append.1 hs).2.2
          rcases List.mem_append.1 hc with h2 | h2
          · have h3 := h1 c h2 a (by simp)
            have h4 := h a (by simp)
            omega
          · rw [ha]; simp at h2; rw [h2]
      subst hl
      have h1 := List.pairwise_append.1 hs
      have h2 : ∀ q ∈ l, q < c := fun q hq => h1.2.2 q hq c (by simp)
      have ih := freeN_sum c l h1.1 h2
      simp only [freeN]
      rw [if_pos hc, freeN_congr (b := l) c fun k hk => by simp; omega]
      simp; omega
    · have h2 : ∀ q ∈ pn, q < c := fun q hq => by
        have := h q hq
        rcases Nat.lt_or_ge q c with hl | hl
        · exact hl
        · have : q = c := by omega
          subst this; exact absurd hq hc
      have ih := freeN_sum c pn hs h2
      simp only [freeN]
      rw [if_neg hc]; omega
/-- What stands in row i, column k. -/
def ent (pool : List (List Int)) (ix : List Nat) (i k : Nat) : Int := nth (nget pool (nth ix i)) k
/-- No two rows are one. -/
def InjI (n : Nat) (ix : List Nat) : Prop := ∀ i j, i < n → j < n → nth ix i = nth ix j → i = j
theorem ptE {pool : List (List Int)} {k j q l : Nat} {x : Int} (h1 : 1 ≤ k) (h2 : k ≤ pool.length) (hj : j < (nget pool k).length) : nth (nget (pt pool k j x) q) l = if q = k ∧ l = j then x else nth (nget pool q) l := by
  unfold AM.pt
  rw [nget_set h1 h2]
  by_cases e : q = k
  · subst e
    rw [if_pos rfl]
    by_cases e2 : l = j
    · subst e2; rw [nth_set_eq _ _ _ hj, if_pos ⟨rfl, rfl⟩]
    · rw [nth_set_ne _ _ _ _ (fun h => e2 h.symm), if_neg (fun h => e2 h.2)]
  · rw [if_neg e, if_neg (fun h => e h.1)]
/-- The first row from a on that has a number other than 0 in a column; those before have 0. -/
theorem findZ {T : Int → Option (Int ⊕ Int)} {n m p c : Nat} {pool : List (List Int)} {ix : List Nat} (hS : Shape n m p pool ix) (hc : c < m)
    (hT : ∀ i : Nat, i < n → T (i : Int) = if nth (nget pool (nth ix i)) c = 0 then some (.inl ((i + 1 : Nat) : Int)) else some (.inr (i : Int))) (he : T (n : Int) = some (.inr (n : Int))) :
    ∀ (d a : Nat), a + d = n → ∃ b : Nat, whileM T (a : Int) = some (b : Int) ∧ a ≤ b ∧ b ≤ n ∧ (b < n → nth (nget pool (nth ix b)) c ≠ 0) ∧ ∀ i, a ≤ i → i < b → nth (nget pool (nth ix i)) c = 0
  | 0, a, h => by
    have : a = n := by omega
    subst this
    exact ⟨a, wi_inr he, Nat.le_refl _, Nat.le_refl _, fun h => by omega, fun i h1 h2 => by omega⟩
  | d + 1, a, h => by
    have h1 := hT a (by omega)
    by_cases e : nth (nget pool (nth ix a)) c = 0
    · rw [if_pos e] at h1
      obtain ⟨b, k1, k2, k3, k4, k5⟩ := findZ hS hc hT he d (a + 1) (by omega)
      refine ⟨b, wi_inl h1 k1, by omega, k3, k4, fun i g1 g2 => ?_⟩
      by_cases e2 : i = a
      · subst e2; exact e
      · exact k5 i (by omega) g2
    · rw [if_neg e] at h1
      exact ⟨a, wi_inr h1, Nat.le_refl _, by omega, fun _ => e, fun i g1 g2 => by omega⟩
theorem injS {n m p a r : Nat} {pool : List (List Int)} {ix : List Nat} (h : Shape n m p pool ix) (hi : InjI n ix) (ha : a < n) (hr : r < n) : InjI n (swI ix a r) := by
  have hil := h.il
  have hv : ∀ i, i < n → nth (swI ix a r) i = if i = r then nth ix a else if i = a then nth ix r else nth ix i := fun i hin => by
    unfold swI
    by_cases e : i = r
    · subst e; rw [nth_set_eq _ _ _ (by simp; omega), if_pos rfl]
    · rw [nth_set_ne _ _ _ _ (fun h => e h.symm), if_neg e]
      by_cases e2 : i = a
      · subst e2; rw [nth_set_eq _ _ _ (by omega), if_pos rfl]
      · rw [nth_set_ne _ _ _ _ (fun h => e2 h.symm), if_neg e2]
  intro i j h1 h2 e
  rw [hv i h1, hv j h2] at e
  have k1 := hi a r ha hr
  have k2 := hi a j ha h2
  have k3 := hi r j hr h2
  have k4 := hi i a h1 ha
  have k5 := hi i r h1 hr
  have k6 := hi i j h1 h2
  have k7 := hi r a hr ha
  split at e <;> split at e <;> (try split at e) <;> (try split at e) <;> first | omega | (have := k1 e; omega) | (have := k2 e; omega) | (have := k3 e; omega) | (have := k4 e; omega) | (have := k5 e; omega) | (have := k6 e; omega) | (have := k7 e; omega)
theorem entS {n m p b r : Nat} {pool : List (List Int)} {ix : List Nat} (h : Shape n m p pool ix) (hb : b < n) (hr : r < n) : ∀ i, i < n → ∀ k, ent pool (swI ix b r) i k = swp (ent pool ix) b r i k := fun i hi k => by
  have hil := h.il
  unfold ent swp swI
  by_cases e : i = r
  · subst e; rw [nth_set_eq _ _ _ (by simp; omega), if_pos rfl]
  · rw [nth_set_ne _ _ _ _ (fun h => e h.symm), if_neg e]
    by_cases e2 : i = b
    · subst e2; rw [nth_set_eq _ _ _ (by omega), if_pos rfl]
    · rw [nth_set_ne _ _ _ _ (fun h => e2 h.symm), if_neg e2]
theorem injO (n : Nat) : InjI n (ixO n) := fun i j hi hj e => by
  unfold ixO at e
  rw [nth_map_range _ _ _ hi, nth_map_range _ _ _ hj] at e
  omega
theorem entO {n : Nat} (c p : Nat) (xs v : List Int) {i : Nat} (hi : i < n) (k : Nat) : ent (poolO c p xs v n) (ixO n) i k = nth (rowO c p xs v i) k := by
  unfold ent
  have : nth (ixO n) i = i + 1 := by unfold ixO; rw [nth_map_range _ _ _ hi]
  rw [this]
  simp only [nget, poolO]
  rw [nth_map_range _ _ _ hi]
theorem rowO_mod {c p : Nat} {xs : List Int} {i k : Nat} (hk : k < c) : (p : Int) ∣ nth (rowO c p xs [] i) k - nth xs (i * c + k) := by
  unfold rowO
  rw [List.append_nil, nth_map_range _ _ _ hk]
  exact mod_dvd _ _
theorem rowO_mod2 {c p : Nat} {xs l : List Int} {a : Int} {i k : Nat} (hk : k < c + 1) : (p : Int) ∣ nth (rowO c p xs (a :: l) i) k - (if k < c then nth xs (i * c + k) else nth (a :: l) i) := by
  unfold rowO
  rw [nth_snoc _ _ _ (by simp; omega)]
  simp only [List.length_map, List.length_range]
  split
  · rename_i h; rw [nth_map_range _ _ _ h]; exact mod_dvd _ _
  · exact mod_dvd _ _
/-- The beginning. -/
theorem rr0 {n m p : Nat} {pool : List (List Int)} {ix : List Nat} {A : Nat → Nat → Int} (h : Shape n m p pool ix) (hA : ∀ i, i < n → ∀ k, k < m → (p : Int) ∣ ent pool ix i k - A i k) : Rr n m p 0 (ent pool ix) A [] := by
  refine ⟨fun i hi k hk => ?_, Nat.zero_le _, fun t ht => by simp at ht, fun t s ht => by simp at ht, fun t ht => by simp at ht, fun t ht => by simp at ht, fun i _ _ k hk => by omega, fun x => ?_⟩
  · obtain ⟨h1, h2⟩ := h.ib i hi
    exact h.rb _ h1 h2 k hk
  · constructor
    · intro hx i hi
      exact (dvd_shift (dotZ_mod _ _ x m fun k hk => hA i hi k hk)).1 (hx i hi)
    · intro hx i hi
      exact (dvd_shift (dotZ_mod _ _ x m fun k hk => hA i hi k hk)).2 (hx i hi)
theorem e8_i1 {n m p r b : Nat} {pool : List (List Int)} {ix : List Nat} (h2 : 2 ≤ p) (h9 : p ≤ 997) (hm : m ≤ 7) (hS : Shape n m p pool ix) (hr : r < n) (hb : b < p) (d cc : Int) (pv : List Int) :
    ∃ pool', impl_Whole_over_i1_l8_g p d cc r b m ix pv ((0 : Int), pool) = some pool' ∧ Shape n m p pool' ix ∧ ∀ q, 1 ≤ q → q ≤ n → ∀ l, l < m → nth (nget pool' q) l = if q = nth ix r then (nth (nget pool q) l * (b : Int)) % (p : Int) else nth (nget pool q) l := by
  have e0 : decide ((p : Int) = 0) = false := decide_eq_false (by omega)
  obtain ⟨q1, q2⟩ := hS.ib r hr
  obtain ⟨s', k1, k3, k4⟩ := for1 (T := fun s => (impl_Whole_over_i1_l8_T p d cc r b m ix pv s).run) (n := m)
    (fun j s => Shape n m p s ix ∧ ∀ q, 1 ≤ q → q ≤ n → ∀ l, l < m → nth (nget s q) l = if q = nth ix r ∧ l < j then (nth (nget pool q) l * (b : Int)) % (p : Int) else nth (nget pool q) l) id
    (fun j s hj ⟨h, hE⟩ => by
      have hl := h.rl _ q1 q2
      have hpl : s.length = n := h.pl
      obtain ⟨x0, x1⟩ := h.rb _ q1 q2 j hj
      have hx0 := hE _ q1 q2 j hj
      rw [if_neg (by omega)] at hx0
      obtain ⟨x, hx⟩ : ∃ x : Nat, nth (nget s (nth ix r)) j = (x : Int) := ⟨(nth (nget s (nth ix r)) j).toNat, by omega⟩
      have hxb : x * b ≤ 997 * 997 := Nat.mul_le_mul (by omega) (by omega)
      have e1 : Int.tmod (IntKind.i64.wrap (nth (nget s (nth ix r)) j * (b : Int))) (p : Int) = ((x * b % p : Nat) : Int) := by rw [hx, mulN, wN (by omega), tmodN]
      have hlt : x * b % p < p := Nat.mod_lt _ (by omega)
      refine ⟨pt s (nth ix r) j ((x * b % p : Nat) : Int), ?_, h.pt q1 q2 hj ⟨by omega, by omega⟩, fun q g1 g2 l hlm => ?_⟩
      · simp only [impl_Whole_over_i1_l8_T, Tree.run, inb_nat, h.il, hr, hl, lt_nat', hj, decide_true, if_true, e0, Bool.not_false, Int.toNat_natCast, e1, w_succ (show j < 4611686018427387904 by omega)]
        rfl
      · rw [ptE (by omega) (by omega) (by omega)]
        by_cases c1 : q = nth ix r ∧ l = j
        · obtain ⟨rfl, rfl⟩ := c1
          rw [if_pos ⟨rfl, rfl⟩, if_pos ⟨rfl, by omega⟩, ← hx0, hx, mulN, Int.natCast_emod]
        · rw [if_neg c1, hE q g1 g2 l hlm]
          by_cases c2 : q = nth ix r ∧ l < j
          · rw [if_pos c2, if_pos ⟨c2.1, by omega⟩]
          · rw [if_neg c2, if_neg (fun c3 => c2 ⟨c3.1, by
              have : l ≠ j := fun e => c1 ⟨c3.1, e⟩
              omega⟩)])
    (fun s h => by
      simp only [impl_Whole_over_i1_l8_T, Tree.run, lt_nat', Nat.lt_irrefl, decide_false, Bool.false_eq_true, if_false]
      rfl) pool ⟨hS, fun q _ _ l _ => by rw [if_neg (by omega)]⟩
  refine ⟨s', k1, k3, fun q g1 g2 l hlm => ?_⟩
  rw [k4 q g1 g2 l hlm]
  by_cases c1 : q = nth ix r
  · rw [if_pos ⟨c1, hlm⟩, if_pos c1]
  · rw [if_neg (fun c => c1 c.1), if_neg c1]
theorem e12_i1 {n m p r i : Nat} {pool : List (List Int)} {ix : List Nat} (h2 : 2 ≤ p) (h9 : p ≤ 997) (hm : m ≤ 7) (hS : Shape n m p pool ix) (hr : r < n) (hi : i < n) (hne : nth ix i ≠ nth ix r) (q : Int) (hq : 0 ≤ q ∧ q < p) (d cc e : Int) (pv : List Int) :
    ∃ pool', impl_Whole_over_i1_l12_g p d cc r (nth ix i) q e i m ix pv ((0 : Int), pool) = some pool' ∧ Shape n m p pool' ix ∧ ∀ z, 1 ≤ z → z ≤ n → ∀ l, l < m → nth (nget pool' z) l = if z = nth ix i then (nth (nget pool z) l - q * nth (nget pool (nth ix r)) l) % (p : Int) else nth (nget pool z) l := by
  obtain ⟨q1, q2⟩ := hS.ib r hr
  obtain ⟨p1, p2⟩ := hS.ib i hi
  obtain ⟨s', k1, k3, k4⟩ := for1 (T := fun s => (impl_Whole_over_i1_l12_T p d cc r (nth ix i) q e i m ix pv s).run) (n := m)
    (fun j s => Shape n m p s ix ∧ ∀ z, 1 ≤ z → z ≤ n → ∀ l, l < m → nth (nget s z) l = if z = nth ix i ∧ l < j then (nth (nget pool z) l - q * nth (nget pool (nth ix r)) l) % (p : Int) else nth (nget pool z) l) id
    (fun j s hj ⟨h, hE⟩ => by
      have hl := h.rl _ q1 q2
      have hl' := h.rl _ p1 p2
      have hpl : s.length = n := h.pl
      have hx0 := hE _ p1 p2 j hj
      rw [if_neg (by omega)] at hx0
      have hy0 := hE _ q1 q2 j hj
      rw [if_neg (fun c => hne c.1.symm)] at hy0
      obtain ⟨x0, x1⟩ := h.rb _ p1 p2 j hj
      obtain ⟨y0, y1⟩ := h.rb _ q1 q2 j hj
      have hqy : q * nth (nget s (nth ix r)) j ≤ 997 * 997 := Int.mul_le_mul (by omega) (by omega) y0 (by omega)
      have hqy0 : 0 ≤ q * nth (nget s (nth ix r)) j := Int.mul_nonneg hq.1 y0
      have w1 : IntKind.i64.wrap (q * nth (nget s (nth ix r)) j) = q * nth (nget s (nth ix r)) j := w64 (by omega) (by omega)
      have w2 : IntKind.i64.wrap (nth (nget s (nth ix i)) j - q * nth (nget s (nth ix r)) j) = nth (nget s (nth ix i)) j - q * nth (nget s (nth ix r)) j := w64 (by omega) (by omega)
      refine ⟨pt s (nth ix i) j ((nth (nget s (nth ix i)) j - q * nth (nget s (nth ix r)) j) % p), ?_, h.pt p1 p2 hj (md_range _ (by omega)), fun z g1 g2 l hlm => ?_⟩
      · simp only [impl_Whole_over_i1_l12_T, Tree.run, inb_nat, h.il, hr, hi, hl, hl', lt_nat', hj, decide_true, if_true, Int.toNat_natCast, w1, w2, restI _ h2 h9, Option.bind_some, w_succ (show j < 4611686018427387904 by omega)]
        rfl
      · rw [ptE (by omega) (by omega) (by omega)]
        by_cases c1 : z = nth ix i ∧ l = j
        · obtain ⟨rfl, rfl⟩ := c1
          rw [if_pos ⟨rfl, rfl⟩, if_pos ⟨rfl, by omega⟩, hx0, hy0]
        · rw [if_neg c1, hE z g1 g2 l hlm]
          by_cases c2 : z = nth ix i ∧ l < j
          · rw [if_pos c2, if_pos ⟨c2.1, by omega⟩]
          · rw [if_neg c2, if_neg (fun c3 => c2 ⟨c3.1, by
              have : l ≠ j := fun e => c1 ⟨c3.1, e⟩
              omega⟩)])
    (fun s h => by
      simp only [impl_Whole_over_i1_l12_T, Tree.run, lt_nat', Nat.lt_irrefl, decide_false, Bool.false_eq_true, if_false]
      rfl) pool ⟨hS, fun z _ _ l _ => by rw [if_neg (by omega)]⟩
  refine ⟨s', k1, k3, fun z g1 g2 l hlm => ?_⟩
  rw [k4 z g1 g2 l hlm]
  by_cases c1 : z = nth ix i
  · rw [if_pos ⟨c1, hlm⟩, if_pos c1]
  · rw [if_neg (fun c => c1 c.1), if_neg c1]
theorem e10_i1 {n m p r c : Nat} {pool : List (List Int)} {ix : List Nat} (h2 : 2 ≤ p) (h9 : p ≤ 997) (hm : m ≤ 7) (hn : n ≤ 6) (hS : Shape n m p pool ix) (hinj : InjI n ix) (hr : r < n) (hc : c < m) (d : Int) (pv : List Int) (a1 a2 : Int) (xs v : List Int) :
    ∃ pool', impl_Whole_over_i1_l10_g a1 a2 xs p d c r n ix pv ((0 : Int), pool) = some pool' ∧ Shape n m p pool' ix ∧ ∀ z, z < n → ∀ l, l < m → ent pool' ix z l = if z = r then ent pool ix z l else (ent pool ix z l - ent pool ix z c * ent pool ix r l) % (p : Int) := by
  obtain ⟨s', k1, k3, k4⟩ := for1 (T := fun s => (impl_Whole_over_i1_l10_T a1 a2 xs p d c r n ix pv s).run) (n := n)
    (fun i s => Shape n m p s ix ∧ ∀ z, z < n → ∀ l, l < m → ent s ix z l = if z < i ∧ z ≠ r then (ent pool ix z l - ent pool ix z c * ent pool ix r l) % (p : Int) else ent pool ix z l) id
    (fun i s hi ⟨h, hE⟩ => by
      obtain ⟨p1, p2⟩ := h.ib i hi
      have hl := h.rl _ p1 p2
      have hw := w_succ (show i < 4611686018427387904 by omega)
      by_cases hne : i = r
      · subst hne
        refine ⟨s, ?_, h, fun z hz l hlm => ?_⟩
        · simp only [impl_Whole_over_i1_l10_T, Tree.run, inb_nat, h.il, hi, hc, hl, lt_nat', decide_true, if_true, Int.toNat_natCast, Bool.not_true, Bool.false_eq_true, if_false, hw]
        · rw [hE z hz l hlm]
          by_cases c1 : z < i ∧ z ≠ i
          · rw [if_pos c1, if_pos ⟨by omega, c1.2⟩]
          · rw [if_neg c1, if_neg (by omega)]
      · have en : decide ((i : Int) = (r : Int)) = false := decide_eq_false (by omega)
        have hin : nth ix i ≠ nth ix r := fun e => hne (hinj i r hi hr e)
        have hi0 : ∀ l, l < m → ent s ix i l = ent pool ix i l := fun l hlm => by rw [hE i hi l hlm, if_neg (by omega)]
        have hr0 : ∀ l, l < m → ent s ix r l = ent pool ix r l := fun l hlm => by rw [hE r hr l hlm, if_neg (by omega)]
        by_cases hz : nth (nget s (nth ix i)) c = 0
        · have hz' : ent pool ix i c = 0 := by rw [← hi0 c hc]; exact hz
          refine ⟨s, ?_, h, fun z hz2 l hlm => ?_⟩
          · simp only [impl_Whole_over_i1_l10_T, Tree.run, inb_nat, h.il, hi, hc, hl, lt_nat', decide_true, if_true, Int.toNat_natCast, hz, en, Bool.not_true, Bool.not_false, Bool.false_eq_true, if_false, hw]
          · rw [hE z hz2 l hlm]
            by_cases c1 : z = i
            · subst c1
              rw [if_neg (by omega), if_pos ⟨by omega, hne⟩, hz', Int.zero_mul, Int.sub_zero]
              have := hS.rb _ p1 p2 l hlm
              exact (Int.emod_eq_of_lt this.1 this.2).symm
            · by_cases c2 : z < i ∧ z ≠ r
              · rw [if_pos c2, if_pos ⟨by omega, c2.2⟩]
              · rw [if_neg c2, if_neg (by omega)]
        · have hzd : decide (nth (nget s (nth ix i)) c = 0) = false := decide_eq_false hz
          have hb := h.rb _ p1 p2 c hc
          obtain ⟨s', g2, g3, g4⟩ := e12_i1 h2 h9 hm h hr hi hin (nth (nget s (nth ix i)) c) hb d c n pv
          refine ⟨s', ?_, g3, fun z hz2 l hlm => ?_⟩
          · simp only [impl_Whole_over_i1_l10_T, Tree.run, inb_nat, h.il, hi, hc, hl, lt_nat', decide_true, if_true, Int.toNat_natCast, hzd, en, g2, Bool.not_true, Bool.not_false, Bool.false_eq_true, if_false, Option.bind_some, hw]
          · obtain ⟨z1, z2⟩ := h.ib z hz2
            unfold ent
            rw [g4 _ z1 z2 l hlm]
            by_cases c1 : z = i
            · subst c1
              rw [if_pos rfl, if_pos ⟨by omega, hne⟩]
              have e1 := hi0 l hlm
              have e2 := hi0 c hc
              have e3 := hr0 l hlm
              unfold ent at e1 e2 e3
              rw [e1, e2, e3]
            · rw [if_neg (fun e => c1 (hinj z i hz2 hi e))]
              have e1 := hE z hz2 l hlm
              unfold ent at e1
              rw [e1]
              by_cases c2 : z < i ∧ z ≠ r
              · rw [if_pos c2, if_pos ⟨by omega, c2.2⟩]
              · rw [if_neg c2, if_neg (by omega)])
    (fun s h => by
      simp only [impl_Whole_over_i1_l10_T, Tree.run, lt_nat', Nat.lt_irrefl, decide_false, Bool.false_eq_true, if_false]
      rfl) pool ⟨hS, fun z _ l _ => by rw [if_neg (by omega)]⟩
  refine ⟨s', k1, k3, fun z hz l hlm => ?_⟩
  rw [k4 z hz l hlm]
  by_cases c1 : z = r
  · rw [if_neg (fun c => c.2 c1), if_pos c1]
  · rw [if_pos ⟨hz, c1⟩, if_neg c1]
theorem e6_i1 {n m p c a : Nat} {pool : List (List Int)} {ix : List Nat} (hn : n ≤ 6) (hS : Shape n m p pool ix) (hc : c < m) (ha : a ≤ n) (d r0 : Int) (pv : List Int) :
    ∃ b : Nat, impl_Whole_over_i1_l6_g d c r0 pool ix pv a = some (b : Int) ∧ a ≤ b ∧ b ≤ n ∧ (b < n → nth (nget pool (nth ix b)) c ≠ 0) ∧ ∀ i, a ≤ i → i < b → nth (nget pool (nth ix i)) c = 0 := by
  exact findZ (T := fun s => (impl_Whole_over_i1_l6_T d c r0 pool ix pv s).run) hS hc
    (fun i hi => by
      obtain ⟨p1, p2⟩ := hS.ib i hi
      have hl := hS.rl _ p1 p2
      simp only [impl_Whole_over_i1_l6_T, Tree.run, lt_nat', hS.il, hi, hc, hl, inb_nat, decide_true, if_true, Int.toNat_natCast, w_succ (show i < 4611686018427387904 by omega)]
      by_cases e : nth (nget pool (nth ix i)) c = 0 <;> simp [e])
    (by simp only [impl_Whole_over_i1_l6_T, Tree.run, lt_nat', hS.il, Nat.lt_irrefl, decide_false, Bool.false_eq_true, if_false]) (n - a) a (by omega)
theorem e4_i1 {n m p c : Nat} (hp : prB p = true) (hm : m ≤ 7) (hn : n ≤ 6) (hcm : c ≤ m) (A : Nat → Nat → Int) (xs v : List Int) : ∀ (d j : Nat) (det : Int) (pool : List (List Int)) (ix pn : List Nat), j + d = c → Ov n m p j pool ix pn → InjI n ix → Rr n m p j (ent pool ix) A pn →
    ∃ det' pool' ix' pn', impl_Whole_over_i1_l4_g n c xs p (det, (j : Int), pool, ix, ints pn) = some (det', pool', ix', ints pn') ∧ Ov n m p c pool' ix' pn' ∧ InjI n ix' ∧ Rr n m p c (ent pool' ix') A pn'
  | 0, j, det, pool, ix, pn, hd, hO, hI, hR => by
    have : j = c := by omega
    subst this
    refine ⟨det, pool, ix, pn, ?_, hO, hI, hR⟩
    refine wi_inr (T := fun s => (impl_Whole_over_i1_l4_T n j xs p s).run) ?_
    simp only [impl_Whole_over_i1_l4_T, Tree.run, lt_nat', Nat.lt_irrefl, decide_false, Bool.false_eq_true, if_false]
  | d + 1, j, det, pool, ix, pn, hd, hO, hInj, hR => by
    obtain ⟨h2, h9⟩ := prB_le hp
    have hS := hO.sh
    have hj : j < c := by omega
    have hjm : j < m := by omega
    have e0 : decide ((p : Int) = 0) = false := decide_eq_false (by omega)
    have hw := w_succ (show j < 4611686018427387904 by omega)
    obtain ⟨pv, hpv⟩ : ∃ pv, pv = ints pn := ⟨_, rfl⟩
    obtain ⟨r, hr⟩ : ∃ r, pv.length = r := ⟨_, rfl⟩
    have hrn : r = pn.length := by rw [← hr, hpv]; simp [ints]
    have hrl := hO.pl
    obtain ⟨b, f2, f3, f4, f5, f6⟩ := e6_i1 hn hS hjm (show r ≤ n by omega) det r pv
    rw [← hpv]
    by_cases hbn : b = n
    · subst hbn
      have hO' : Ov b m p (j + 1) pool ix pn := ⟨hS, hrl, fun q hq => by have := hO.pb q hq; omega, hO.ps⟩
      have hR' : Rr b m p (j + 1) (ent pool ix) A pn := hR.skip fun i h1 h2 => f6 i (by omega) h2
      obtain ⟨det', pool', ix', pn', k2, k3⟩ := e4_i1 hp hm hn hcm A xs v d (j + 1) 0 pool ix pn (by omega) hO' hInj hR'
      rw [← hpv] at k2
      refine ⟨det', pool', ix', pn', ?_, k3⟩
      refine wi_inl (T := fun s => (impl_Whole_over_i1_l4_T b c xs p s).run) ?_ k2
      simp only [impl_Whole_over_i1_l4_T, Tree.run, lt_nat', hj, decide_true, if_true, hr, f2, Option.bind_some, hS.il, hw]
    · have hb : b < n := by omega
      have hrr : r < n := by omega
      have hne := f5 hb
      obtain ⟨b1, b2⟩ := hS.ib b hb
      obtain ⟨x0, x1⟩ := hS.rb _ b1 b2 j hjm
      have hbl := hS.rl _ b1 b2
      obtain ⟨a, ha⟩ : ∃ a : Nat, nth (nget pool (nth ix b)) j = (a : Int) := ⟨(nth (nget pool (nth ix b)) j).toNat, by omega⟩
      have ha0 : 0 < a := by omega
      have hap : a < p := by omega
      have c2 : decide ((b : Int) = (n : Int)) = false := decide_eq_false (by omega)
      have hfit : fits (pv ++ ([(j : Int)] : List Int)).length = true := by
        have : (pv ++ ([(j : Int)] : List Int)).length = r + 1 := by simp [hr]
        rw [this]; exact fitsN (by omega)
      have hints : pv ++ ([(j : Int)] : List Int) = ints (pn ++ [j]) := by rw [hpv]; simp [ints]
      have hinv : (ent pool ix b j * (bk a p : Int)) % (p : Int) = 1 := by
        have h1 := ferm hp ha0 hap
        have : ent pool ix b j = (a : Int) := ha
        rw [this, mulN, ← Int.natCast_emod]
        exact congrArg Int.ofNat h1
      have next : ∀ (pool2 : List (List Int)) (ix2 : List Nat), Shape n m p pool2 ix2 → Ov n m p (j + 1) pool2 ix2 (pn ++ [j]) := fun pool2 ix2 h => by
        refine ⟨h, by simp; omega, fun q hq => ?_, ?_⟩
        · rcases List.mem_append.1 hq with h | h
          · have := hO.pb q h; omega
          · have := List.mem_singleton.1 h; omega
        · refine List.pairwise_append.2 ⟨hO.ps, List.pairwise_singleton _ _, fun x hx y hy => ?_⟩
          have := List.mem_singleton.1 hy
          have := hO.pb x hx
          omega
      by_cases hbr : b = r
      · -- no exchange
        have c3 : decide ((b : Int) = (r : Int)) = true := decide_eq_true (by omega)
        obtain ⟨P8, g2, g3, g3e⟩ := e8_i1 h2 h9 hm hS hrr (bk_lt (a := a) (p := p) (by omega)) (Int.tmod (IntKind.i64.wrap (det * (a : Int))) p) j pv
        obtain ⟨P10, g5, g6, g6e⟩ := e10_i1 h2 h9 hm hn g3 hInj hrr hjm (Int.tmod (IntKind.i64.wrap (det * (a : Int))) p) pv n c xs v
        have hR' : Rr n m p (j + 1) (ent P10 ix) A (pn ++ [j]) := hR.step h2 hjm hrn.symm (by omega) hb hinv fun i hi k hk => by
          rw [g6e i hi k hk]
          have hs : ∀ z, z < n → ∀ l, l < m → ent P8 ix z l = if z = r then (ent pool ix z l * (bk a p : Int)) % (p : Int) else ent pool ix z l := fun z hz l hl => by
            obtain ⟨z1, z2⟩ := hS.ib z hz
            unfold ent
            rw [g3e _ z1 z2 l hl]
            by_cases c1 : z = r
            · subst c1; rw [if_pos rfl, if_pos rfl]
            · rw [if_neg (fun e => c1 (hInj z r hz hrr e)), if_neg c1]
          subst hbr
          by_cases c1 : i = b
          · rw [if_pos c1, if_pos c1, hs i hi k hk, if_pos c1, c1]
          · rw [if_neg c1, if_neg c1, hs i hi k hk, hs i hi j hjm, hs b hb k hk, if_neg c1, if_neg c1, if_pos rfl]
            unfold swp
            rw [if_neg c1, if_neg c1, if_neg c1, if_neg c1]
        obtain ⟨det', pool', ix', pn', k2, k3⟩ := e4_i1 hp hm hn hcm A xs v d (j + 1) (Int.tmod (IntKind.i64.wrap (det * (a : Int))) p) P10 ix (pn ++ [j]) (by omega) (next _ _ g6) hInj hR'
        rw [← hints] at k2
        rw [hbr] at ha hbl
        refine ⟨det', pool', ix', pn', ?_, k3⟩
        refine wi_inl (T := fun s => (impl_Whole_over_i1_l4_T n c xs p s).run) ?_ k2
        simp only [impl_Whole_over_i1_l4_T, Tree.run, lt_nat', hj, decide_true, if_true, hr, f2, Option.bind_some, hS.il, c2, c3, Bool.not_true, Bool.not_false, Bool.false_eq_true, if_false, hw, inb_nat, hrr, hbl, hjm, e0, Int.toNat_natCast, ha, backI hp ha0 hap, g2, g5, hfit]
      · -- two rows change their places
        have c3 : decide ((b : Int) = (r : Int)) = false := decide_eq_false (by omega)
        obtain ⟨hS', hsw⟩ := hS.swap hb hrr
        have hInj' := injS hS hInj hb hrr
        have hent := entS hS (b := b) (r := r) hb hrr
        obtain ⟨I, hI⟩ : ∃ I, I = swI ix b r := ⟨_, rfl⟩
        rw [← hI] at hS' hsw hInj' hent
        have hI' : (ix.set b (nth ix r)).set r (nth ix b) = I := hI.symm
        rw [← hsw] at ha hbl
        obtain ⟨D, hD⟩ : ∃ D, D = IntKind.i64.wrap (0 - det) % (p : Int) := ⟨_, rfl⟩
        obtain ⟨P8, g2, g3, g3e⟩ := e8_i1 h2 h9 hm hS' hrr (bk_lt (a := a) (p := p) (by omega)) (Int.tmod (IntKind.i64.wrap (D * (a : Int))) p) j pv
        obtain ⟨P10, g5, g6, g6e⟩ := e10_i1 h2 h9 hm hn g3 hInj' hrr hjm (Int.tmod (IntKind.i64.wrap (D * (a : Int))) p) pv n c xs v
        have hR' : Rr n m p (j + 1) (ent P10 I) A (pn ++ [j]) := hR.step h2 hjm hrn.symm f3 hb hinv fun i hi k hk => by
          rw [g6e i hi k hk]
          have hs : ∀ z, z < n → ∀ l, l < m → ent P8 I z l = if z = r then (ent pool I z l * (bk a p : Int)) % (p : Int) else ent pool I z l := fun z hz l hl => by
            obtain ⟨z1, z2⟩ := hS'.ib z hz
            unfold ent
            rw [g3e _ z1 z2 l hl]
            by_cases c1 : z = r
            · subst c1; rw [if_pos rfl, if_pos rfl]
            · rw [if_neg (fun e => c1 (hInj' z r hz hrr e)), if_neg c1]
          have hrk : ent pool I r k = ent pool ix b k := by rw [hent r hrr]; unfold swp; rw [if_pos rfl]
          by_cases c1 : i = r
          · rw [if_pos c1, if_pos c1, hs i hi k hk, if_pos c1, c1, hrk]
          · rw [if_neg c1, if_neg c1, hs i hi k hk, hs i hi j hjm, hs r hrr k hk, if_neg c1, if_neg c1, if_pos rfl, hrk, hent i hi, hent i hi]
        obtain ⟨det', pool', ix', pn', k2, k3⟩ := e4_i1 hp hm hn hcm A xs v d (j + 1) (Int.tmod (IntKind.i64.wrap (D * (a : Int))) p) P10 I (pn ++ [j]) (by omega) (next _ _ g6) hInj' hR'
        rw [← hints] at k2
        refine ⟨det', pool', ix', pn', ?_, k3⟩
        refine wi_inl (T := fun s => (impl_Whole_over_i1_l4_T n c xs p s).run) ?_ k2
        simp only [impl_Whole_over_i1_l4_T, Tree.run, lt_nat', hj, decide_true, if_true, hr, f2, Option.bind_some, hS.il, c2, c3, Bool.not_true, Bool.not_false, Bool.false_eq_true, if_false, hw, inb_nat, hb, hrr, restI _ h2 h9, ← hD, hI', hS'.il, hbl, hjm, e0, Int.toNat_natCast, ha, backI hp ha0 hap, g2, g5, hfit]
theorem l2I_i1 {p : Nat} (h2 : 2 ≤ p) (h9 : p ≤ 997) {ys : List Int} (hl : ys.length ≤ 1000) (i : Int) (pool : List (List Int)) (ix : List Nat) : impl_Whole_over_i1_l2_g p i (ys.length : Nat) pool ix ((0 : Int), ys) = some (ys.map fun y => y % (p : Int)) := by
  refine mapG (T := fun s => (impl_Whole_over_i1_l2_T p i (ys.length : Nat) pool ix s).run) (f := fun y => y % (p : Int)) (fun k s hk hs => ?_) fun s hs => ?_
  · simp only [impl_Whole_over_i1_l2_T, Tree.run, lt_nat', hk, hs, inb_nat, decide_true, if_true, Int.toNat_natCast, Option.bind_some, restI _ h2 h9, w_succ (show k < 4611686018427387904 by omega)]
  · simp only [impl_Whole_over_i1_l2_T, Tree.run, lt_nat', Nat.lt_irrefl, decide_false, Bool.false_eq_true, if_false]
theorem e0_i1 {n c p : Nat} {xs : List Int} (h2 : 2 ≤ p) (h9 : p ≤ 997) (hn : n ≤ 6) (h1 : 1 ≤ c) (hc : c ≤ 6) (hx : xs.length = n * c) :
    impl_Whole_over_i1_l0_g n c xs p ((0 : Int), ([] : List (List Int)), ([] : List Nat)) = some (poolO c p xs [] n, ixO n) := by
  obtain ⟨s', k2, k3⟩ := for1 (T := fun s => (impl_Whole_over_i1_l0_T n c xs p s).run) (n := n) (fun i s => s = (poolO c p xs [] i, ixO i)) id
    (fun i s hi h => by
      subst h
      have hw := w_succ (show i < 4611686018427387904 by omega)
      have hfit : fits (i + 1) = true := fitsN (by omega)
      obtain ⟨r1, r2, r3, r4⟩ := rowWI hi h1 hn hc hx
      rw [hw] at r3
      have hrow : (AM.sub xs ((i * c : Nat) : Int) (((i + 1) * c : Nat) : Int)).map (fun y => y % (p : Int)) = rowO c p xs [] i := by
        unfold rowO
        rw [List.append_nil]
        have h3 := Nat.mul_le_mul_right c (show i + 1 ≤ n from hi)
        have h4 : (i + 1) * c = i * c + c := by rw [Nat.add_mul, Nat.one_mul]
        refine ext_nth (by rw [List.length_map, List.length_map, r4, List.length_range]) fun j hj => ?_
        have hj' : j < c := by rw [List.length_map, r4] at hj; exact hj
        rw [nth_map_range _ _ _ hj', nth_of _ _ hj, List.getElem_map, ← nth_of _ _ (by rw [r4]; exact hj'), nthSubG (by omega) (by omega)]
      have hL := l2I_i1 h2 h9 (ys := AM.sub xs ((i * c : Nat) : Int) (((i + 1) * c : Nat) : Int)) (by rw [r4]; omega) i (poolO c p xs [] i) (ixO i)
      rw [hrow] at hL
      refine ⟨_, ?_, rfl⟩
      simp only [impl_Whole_over_i1_l0_T, Tree.run, lt_nat', hi, decide_true, if_true, r1, r2, r3, List.nil_append, hL, Option.bind_some, ixO_len, hfit, hw, poolO_succ, ixO_succ])
    (fun s h => by
      subst h
      simp only [impl_Whole_over_i1_l0_T, Tree.run, lt_nat', Nat.lt_irrefl, decide_false, Bool.false_eq_true, if_false]
      rfl) _ rfl
  subst k3
  exact k2
theorem overE_i1 {n c p : Nat} {xs : List Int} (hp : prB p = true) (hn : n ≤ 6) (h1 : 1 ≤ c) (hc : c ≤ 6) (hx : xs.length = n * c) :
    ∃ det pool ix pn, impl_Whole_over_i1_g n c xs p = some (det, pool, ix, ints pn) ∧ Ov n c p c pool ix pn ∧ Rr n c p c (ent pool ix) (fun i k => nth xs (i * c + k)) pn := by
  obtain ⟨h2, h9⟩ := prB_le hp
  have a2 := e0_i1 h2 h9 hn h1 hc hx
  obtain ⟨det, pool, ix, pn, k2, k3, _, k4⟩ := e4_i1 hp (show c ≤ 7 by omega) hn (Nat.le_refl c) (fun i k => nth xs (i * c + k)) xs [] c 0 1 (poolO c p xs [] n) (ixO n) [] (Nat.zero_add _) ⟨shapeO (by omega) xs [], Nat.zero_le _, by simp, .nil⟩ (injO n)
    (rr0 (shapeO (by omega) xs []) fun i hi k hk => by rw [entO c p xs [] hi]; exact rowO_mod hk)
  have e : ((0 : Nat) : Int) = 0 := rfl
  have e2 : ints [] = [] := rfl
  rw [e, e2] at k2
  refine ⟨det, pool, ix, pn, ?_, k3, k4⟩
  simp only [impl_Whole_over_i1_g, impl_Whole_over_i1_T, Tree.run, a2, k2, Option.bind_some, if_true]
theorem e8 {n m p r b : Nat} {pool : List (List Int)} {ix : List Nat} (h2 : 2 ≤ p) (h9 : p ≤ 997) (hm : m ≤ 7) (hS : Shape n m p pool ix) (hr : r < n) (hb : b < p) (d cc : Int) (pv : List Int) :
    ∃ pool', impl_Whole_over_l8_g p d cc r b m ix pv ((0 : Int), pool) = some pool' ∧ Shape n m p pool' ix ∧ ∀ q, 1 ≤ q → q ≤ n → ∀ l, l < m → nth (nget pool' q) l = if q = nth ix r then (nth (nget pool q) l * (b : Int)) % (p : Int) else nth (nget pool q) l := by
  have e0 : decide ((p : Int) = 0) = false := decide_eq_false (by omega)
  obtain ⟨q1, q2⟩ := hS.ib r hr
  obtain ⟨s', k1, k3, k4⟩ := for1 (T := fun s => (impl_Whole_over_l8_T p d cc r b m ix pv s).run) (n := m)
    (fun j s => Shape n m p s ix ∧ ∀ q, 1 ≤ q → q ≤ n → ∀ l, l < m → nth (nget s q) l = if q = nth ix r ∧ l < j then (nth (nget pool q) l * (b : Int)) % (p : Int) else nth (nget pool q) l) id
    (fun j s hj ⟨h, hE⟩ => by
      have hl := h.rl _ q1 q2
      have hpl : s.length = n := h.pl
      obtain ⟨x0, x1⟩ := h.rb _ q1 q2 j hj
      have hx0 := hE _ q1 q2 j hj
      rw [if_neg (by omega)] at hx0
      obtain ⟨x, hx⟩ : ∃ x : Nat, nth (nget s (nth ix r)) j = (x : Int) := ⟨(nth (nget s (nth ix r)) j).toNat, by omega⟩
      have hxb : x * b ≤ 997 * 997 := Nat.mul_le_mul (by omega) (by omega)
      have e1 : Int.tmod (IntKind.i64.wrap (nth (nget s (nth ix r)) j * (b : Int))) (p : Int) = ((x * b % p : Nat) : Int) := by rw [hx, mulN, wN (by omega), tmodN]
      have hlt : x * b % p < p := Nat.mod_lt _ (by omega)
      refine ⟨pt s (nth ix r) j ((x * b % p : Nat) : Int), ?_, h.pt q1 q2 hj ⟨by omega, by omega⟩, fun q g1 g2 l hlm => ?_⟩
      · simp only [impl_Whole_over_l8_T, Tree.run, inb_nat, h.il, hr, hl, lt_nat', hj, decide_true, if_true, e0, Bool.not_false, Int.toNat_natCast, e1, w_succ (show j < 4611686018427387904 by omega)]
        rfl
      · rw [ptE (by omega) (by omega) (by omega)]
        by_cases c1 : q = nth ix r ∧ l = j
        · obtain ⟨rfl, rfl⟩ := c1
          rw [if_pos ⟨rfl, rfl⟩, if_pos ⟨rfl, by omega⟩, ← hx0, hx, mulN, Int.natCast_emod]
        · rw [if_neg c1, hE q g1 g2 l hlm]
          by_cases c2 : q = nth ix r ∧ l < j
          · rw [if_pos c2, if_pos ⟨c2.1, by omega⟩]
          · rw [if_neg c2, if_neg (fun c3 => c2 ⟨c3.1, by
              have : l ≠ j := fun e => c1 ⟨c3.1, e⟩
              omega⟩)])
    (fun s h => by
      simp only [impl_Whole_over_l8_T, Tree.run, lt_nat', Nat.lt_irrefl, decide_false, Bool.false_eq_true, if_false]
      rfl) pool ⟨hS, fun q _ _ l _ => by rw [if_neg (by omega)]⟩
  refine ⟨s', k1, k3, fun q g1 g2 l hlm => ?_⟩
  rw [k4 q g1 g2 l hlm]
  by_cases c1 : q = nth ix r
  · rw [if_pos ⟨c1, hlm⟩, if_pos c1]
  · rw [if_neg (fun c => c1 c.1), if_neg c1]
theorem e12 {n m p r i : Nat} {pool : List (List Int)} {ix : List Nat} (h2 : 2 ≤ p) (h9 : p ≤ 997) (hm : m ≤ 7) (hS : Shape n m p pool ix) (hr : r < n) (hi : i < n) (hne : nth ix i ≠ nth ix r) (q : Int) (hq : 0 ≤ q ∧ q < p) (d cc e : Int) (pv : List Int) :
    ∃ pool', impl_Whole_over_l12_g p d cc r (nth ix i) q e i m ix pv ((0 : Int), pool) = some pool' ∧ Shape n m p pool' ix ∧ ∀ z, 1 ≤ z → z ≤ n → ∀ l, l < m → nth (nget pool' z) l = if z = nth ix i then (nth (nget pool z) l - q * nth (nget pool (nth ix r)) l) % (p : Int) else nth (nget pool z) l := by
  obtain ⟨q1, q2⟩ := hS.ib r hr
  obtain ⟨p1, p2⟩ := hS.ib i hi
  obtain ⟨s', k1, k3, k4⟩ := for1 (T := fun s => (impl_Whole_over_l12_T p d cc r (nth ix i) q e i m ix pv s).run) (n := m)
    (fun j s => Shape n m p s ix ∧ ∀ z, 1 ≤ z → z ≤ n → ∀ l, l < m → nth (nget s z) l = if z = nth ix i ∧ l < j then (nth (nget pool z) l - q * nth (nget pool (nth ix r)) l) % (p : Int) else nth (nget pool z) l) id
    (fun j s hj ⟨h, hE⟩ => by
      have hl := h.rl _ q1 q2
      have hl' := h.rl _ p1 p2
      have hpl : s.length = n := h.pl
      have hx0 := hE _ p1 p2 j hj
      rw [if_neg (by omega)] at hx0
      have hy0 := hE _ q1 q2 j hj
      rw [if_neg (fun c => hne c.1.symm)] at hy0
      obtain ⟨x0, x1⟩ := h.rb _ p1 p2 j hj
      obtain ⟨y0, y1⟩ := h.rb _ q1 q2 j hj
      have hqy : q * nth (nget s (nth ix r)) j ≤ 997 * 997 := Int.mul_le_mul (by omega) (by omega) y0 (by omega)
      have hqy0 : 0 ≤ q * nth (nget s (nth ix r)) j := Int.mul_nonneg hq.1 y0
      have w1 : IntKind.i64.wrap (q * nth (nget s (nth ix r)) j) = q * nth (nget s (nth ix r)) j := w64 (by omega) (by omega)
      have w2 : IntKind.i64.wrap (nth (nget s (nth ix i)) j - q * nth (nget s (nth ix r)) j) = nth (nget s (nth ix i)) j - q * nth (nget s (nth ix r)) j := w64 (by omega) (by omega)
      refine ⟨pt s (nth ix i) j ((nth (nget s (nth ix i)) j - q * nth (nget s (nth ix r)) j) % p), ?_, h.pt p1 p2 hj (md_range _ (by omega)), fun z g1 g2 l hlm => ?_⟩
      · simp only [impl_Whole_over_l12_T, Tree.run, inb_nat, h.il, hr, hi, hl, hl', lt_nat', hj, decide_true, if_true, Int.toNat_natCast, w1, w2, restI _ h2 h9, Option.bind_some, w_succ (show j < 4611686018427387904 by omega)]
        rfl
      · rw [ptE (by omega) (by omega) (by omega)]
        by_cases c1 : z = nth ix i ∧ l = j
        · obtain ⟨rfl, rfl⟩ := c1
          rw [if_pos ⟨rfl, rfl⟩, if_pos ⟨rfl, by omega⟩, hx0, hy0]
        · rw [if_neg c1, hE z g1 g2 l hlm]
          by_cases c2 : z = nth ix i ∧ l < j
          · rw [if_pos c2, if_pos ⟨c2.1, by omega⟩]
          · rw [if_neg c2, if_neg (fun c3 => c2 ⟨c3.1, by
              have : l ≠ j := fun e => c1 ⟨c3.1, e⟩
              omega⟩)])
    (fun s h => by
      simp only [impl_Whole_over_l12_T, Tree.run, lt_nat', Nat.lt_irrefl, decide_false, Bool.false_eq_true, if_false]
      rfl) pool ⟨hS, fun z _ _ l _ => by rw [if_neg (by omega)]⟩
  refine ⟨s', k1, k3, fun z g1 g2 l hlm => ?_⟩
  rw [k4 z g1 g2 l hlm]
  by_cases c1 : z = nth ix i
  · rw [if_pos ⟨c1, hlm⟩, if_pos c1]
  · rw [if_neg (fun c => c1 c.1), if_neg c1]
theorem e10 {n m p r c : Nat} {pool : List (List Int)} {ix : List Nat} (h2 : 2 ≤ p) (h9 : p ≤ 997) (hm : m ≤ 7) (hn : n ≤ 6) (hS : Shape n m p pool ix) (hinj : InjI n ix) (hr : r < n) (hc : c < m) (d : Int) (pv : List Int) (a1 a2 : Int) (xs v : List Int) :
    ∃ pool', impl_Whole_over_l10_g a1 a2 xs p v d c r n ix pv ((0 : Int), pool) = some pool' ∧ Shape n m p pool' ix ∧ ∀ z, z < n → ∀ l, l < m → ent pool' ix z l = if z = r then ent pool ix z l else (ent pool ix z l - ent pool ix z c * ent pool ix r l) % (p : Int) := by
  obtain ⟨s', k1, k3, k4⟩ := for1 (T := fun s => (impl_Whole_over_l10_T a1 a2 xs p v d c r n ix pv s).run) (n := n)
    (fun i s => Shape n m p s ix ∧ ∀ z, z < n → ∀ l, l < m → ent s ix z l = if z < i ∧ z ≠ r then (ent pool ix z l - ent pool ix z c * ent pool ix r l) % (p : Int) else ent pool ix z l) id
    (fun i s hi ⟨h, hE⟩ => by
      obtain ⟨p1, p2⟩ := h.ib i hi
      have hl := h.rl _ p1 p2
      have hw := w_succ (show i < 4611686018427387904 by omega)
      by_cases hne : i = r
      · subst hne
        refine ⟨s, ?_, h, fun z hz l hlm => ?_⟩
        · simp only [impl_Whole_over_l10_T, Tree.run, inb_nat, h.il, hi, hc, hl, lt_nat', decide_true, if_true, Int.toNat_natCast, Bool.not_true, Bool.false_eq_true, if_false, hw]
        · rw [hE z hz l hlm]
          by_cases c1 : z < i ∧ z ≠ i
          · rw [if_pos c1, if_pos ⟨by omega, c1.2⟩]
          · rw [if_neg c1, if_neg (by omega)]
      · have en : decide ((i : Int) = (r : Int)) = false := decide_eq_false (by omega)
        have hin : nth ix i ≠ nth ix r := fun e => hne (hinj i r hi hr e)
        have hi0 : ∀ l, l < m → ent s ix i l = ent pool ix i l := fun l hlm => by rw [hE i hi l hlm, if_neg (by omega)]
        have hr0 : ∀ l, l < m → ent s ix r l = ent pool ix r l := fun l hlm => by rw [hE r hr l hlm, if_neg (by omega)]
        by_cases hz : nth (nget s (nth ix i)) c = 0
        · have hz' : ent pool ix i c = 0 := by rw [← hi0 c hc]; exact hz
          refine ⟨s, ?_, h, fun z hz2 l hlm => ?_⟩
          · simp only [impl_Whole_over_l10_T, Tree.run, inb_nat, h.il, hi, hc, hl, lt_nat', decide_true, if_true, Int.toNat_natCast, hz, en, Bool.not_true, Bool.not_false, Bool.false_eq_true, if_false, hw]
          · rw [hE z hz2 l hlm]
            by_cases c1 : z = i
            · subst c1
              rw [if_neg (by omega), if_pos ⟨by omega, hne⟩, hz', Int.zero_mul, Int.sub_zero]
              have := hS.rb _ p1 p2 l hlm
              exact (Int.emod_eq_of_lt this.1 this.2).symm
            · by_cases c2 : z < i ∧ z ≠ r
              · rw [if_pos c2, if_pos ⟨by omega, c2.2⟩]
              · rw [if_neg c2, if_neg (by omega)]
        · have hzd : decide (nth (nget s (nth ix i)) c = 0) = false := decide_eq_false hz
          have hb := h.rb _ p1 p2 c hc
          obtain ⟨s', g2, g3, g4⟩ := e12 h2 h9 hm h hr hi hin (nth (nget s (nth ix i)) c) hb d c n pv
          refine ⟨s', ?_, g3, fun z hz2 l hlm => ?_⟩
          · simp only [impl_Whole_over_l10_T, Tree.run, inb_nat, h.il, hi, hc, hl, lt_nat', decide_true, if_true, Int.toNat_natCast, hzd, en, g2, Bool.not_true, Bool.not_false, Bool.false_eq_true, if_false, Option.bind_some, hw]
          · obtain ⟨z1, z2⟩ := h.ib z hz2
            unfold ent
            rw [g4 _ z1 z2 l hlm]
            by_cases c1 : z = i
            · subst c1
              rw [if_pos rfl, if_pos ⟨by omega, hne⟩]
              have e1 := hi0 l hlm
              have e2 := hi0 c hc
              have e3 := hr0 l hlm
              unfold ent at e1 e2 e3
              rw [e1, e2, e3]
            · rw [if_neg (fun e => c1 (hinj z i hz2 hi e))]
              have e1 := hE z hz2 l hlm
              unfold ent at e1
              rw [e1]
              by_cases c2 : z < i ∧ z ≠ r
              · rw [if_pos c2, if_pos ⟨by omega, c2.2⟩]
              · rw [if_neg c2, if_neg (by omega)])
    (fun s h => by
      simp only [impl_Whole_over_l10_T, Tree.run, lt_nat', Nat.lt_irrefl, decide_false, Bool.false_eq_true, if_false]
      rfl) pool ⟨hS, fun z _ l _ => by rw [if_neg (by omega)]⟩
  refine ⟨s', k1, k3, fun z hz l hlm => ?_⟩
  rw [k4 z hz l hlm]
  by_cases c1 : z = r
  · rw [if_neg (fun c => c.2 c1), if_pos c1]
  · rw [if_pos ⟨hz, c1⟩, if_neg c1]
theorem e6 {n m p c a : Nat} {pool : List (List Int)} {ix : List Nat} (hn : n ≤ 6) (hS : Shape n m p pool ix) (hc : c < m) (ha : a ≤ n) (d r0 : Int) (pv : List Int) :
    ∃ b : Nat, impl_Whole_over_l6_g d c r0 pool ix pv a = some (b : Int) ∧ a ≤ b ∧ b ≤ n ∧ (b < n → nth (nget pool (nth ix b)) c ≠ 0) ∧ ∀ i, a ≤ i → i < b → nth (nget pool (nth ix i)) c = 0 := by
  exact findZ (T := fun s => (impl_Whole_over_l6_T d c r0 pool ix pv s).run) hS hc
    (fun i hi => by
      obtain ⟨p1, p2⟩ := hS.ib i hi
      have hl := hS.rl _ p1 p2
      simp only [impl_Whole_over_l6_T, Tree.run, lt_nat', hS.il, hi, hc, hl, inb_nat, decide_true, if_true, Int.toNat_natCast, w_succ (show i < 4611686018427387904 by omega)]
      by_cases e : nth (nget pool (nth ix i)) c = 0 <;> simp [e])
    (by simp only [impl_Whole_over_l6_T, Tree.run, lt_nat', hS.il, Nat.lt_irrefl, decide_false, Bool.false_eq_true, if_false]) (n - a) a (by omega)
theorem e4 {n m p c : Nat} (hp : prB p = true) (hm : m ≤ 7) (hn : n ≤ 6) (hcm : c ≤ m) (A : Nat → Nat → Int) (xs v : List Int) : ∀ (d j : Nat) (det : Int) (pool : List (List Int)) (ix pn : List Nat), j + d = c → Ov n m p j pool ix pn → InjI n ix → Rr n m p j (ent pool ix) A pn →
    ∃ det' pool' ix' pn', impl_Whole_over_l4_g n c xs p v (det, (j : Int), pool, ix, ints pn) = some (det', pool', ix', ints pn') ∧ Ov n m p c pool' ix' pn' ∧ InjI n ix' ∧ Rr n m p c (ent pool' ix') A pn'
  | 0, j, det, pool, ix, pn, hd, hO, hI, hR => by
    have : j = c := by omega
    subst this
    refine ⟨det, pool, ix, pn, ?_, hO, hI, hR⟩
    refine wi_inr (T := fun s => (impl_Whole_over_l4_T n j xs p v s).run) ?_
    simp only [impl_Whole_over_l4_T, Tree.run, lt_nat', Nat.lt_irrefl, decide_false, Bool.false_eq_true, if_false]
  | d + 1, j, det, pool, ix, pn, hd, hO, hInj, hR => by
    obtain ⟨h2, h9⟩ := prB_le hp
    have hS := hO.sh
    have hj : j < c := by omega
    have hjm : j < m := by omega
    have e0 : decide ((p : Int) = 0) = false := decide_eq_false (by omega)
    have hw := w_succ (show j < 4611686018427387904 by omega)
    obtain ⟨pv, hpv⟩ : ∃ pv, pv = ints pn := ⟨_, rfl⟩
    obtain ⟨r, hr⟩ : ∃ r, pv.length = r := ⟨_, rfl⟩
    have hrn : r = pn.length := by rw [← hr, hpv]; simp [ints]
    have hrl := hO.pl
    obtain ⟨b, f2, f3, f4, f5, f6⟩ := e6 hn hS hjm (show r ≤ n by omega) det r pv
    rw [← hpv]
    by_cases hbn : b = n
    · subst hbn
      have hO' : Ov b m p (j + 1) pool ix pn := ⟨hS, hrl, fun q hq => by have := hO.pb q hq; omega, hO.ps⟩
      have hR' : Rr b m p (j + 1) (ent pool ix) A pn := hR.skip fun i h1 h2 => f6 i (by omega) h2
      obtain ⟨det', pool', ix', pn', k2, k3⟩ := e4 hp hm hn hcm A xs v d (j + 1) 0 pool ix pn (by omega) hO' hInj hR'
      rw [← hpv] at k2
      refine ⟨det', pool', ix', pn', ?_, k3⟩
      refine wi_inl (T := fun s => (impl_Whole_over_l4_T b c xs p v s).run) ?_ k2
      simp only [impl_Whole_over_l4_T, Tree.run, lt_nat', hj, decide_true, if_true, hr, f2, Option.bind_some, hS.il, hw]
    · have hb : b < n := by omega
      have hrr : r < n := by omega
      have hne := f5 hb
      obtain ⟨b1, b2⟩ := hS.ib b hb
      obtain ⟨x0, x1⟩ := hS.rb _ b1 b2 j hjm
      have hbl := hS.rl _ b1 b2
      obtain ⟨a, ha⟩ : ∃ a : Nat, nth (nget pool (nth ix b)) j = (a : Int) := ⟨(nth (nget pool (nth ix b)) j).toNat, by omega⟩
      have ha0 : 0 < a := by omega
      have hap : a < p := by omega
      have c2 : decide ((b : Int) = (n : Int)) = false := decide_eq_false (by omega)
      have hfit : fits (pv ++ ([(j : Int)] : List Int)).length = true := by
        have : (pv ++ ([(j : Int)] : List Int)).length = r + 1 := by simp [hr]
        rw [this]; exact fitsN (by omega)
      have hints : pv ++ ([(j : Int)] : List Int) = ints (pn ++ [j]) := by rw [hpv]; simp [ints]
      have hinv : (ent pool ix b j * (bk a p : Int)) % (p : Int) = 1 := by
        have h1 := ferm hp ha0 hap
        have : ent pool ix b j = (a : Int) := ha
        rw [this, mulN, ← Int.natCast_emod]
        exact congrArg Int.ofNat h1
      have next : ∀ (pool2 : List (List Int)) (ix2 : List Nat), Shape n m p pool2 ix2 → Ov n m p (j + 1) pool2 ix2 (pn ++ [j]) := fun pool2 ix2 h => by
        refine ⟨h, by simp; omega, fun q hq => ?_, ?_⟩
        · rcases List.mem_append.1 hq with h | h
          · have := hO.pb q h; omega
          · have := List.mem_singleton.1 h; omega
        · refine List.pairwise_append.2 ⟨hO.ps, List.pairwise_singleton _ _, fun x hx y hy => ?_⟩
          have := List.mem_singleton.1 hy
          have := hO.pb x hx
          omega
      by_cases hbr : b = r
      · -- no exchange
        have c3 : decide ((b : Int) = (r : Int)) = true := decide_eq_true (by omega)
        obtain ⟨P8, g2, g3, g3e⟩ := e8 h2 h9 hm hS hrr (bk_lt (a := a) (p := p) (by omega)) (Int.tmod (IntKind.i64.wrap (det * (a : Int))) p) j pv
        obtain ⟨P10, g5, g6, g6e⟩ := e10 h2 h9 hm hn g3 hInj hrr hjm (Int.tmod (IntKind.i64.wrap (det * (a : Int))) p) pv n c xs v
        have hR' : Rr n m p (j + 1) (ent P10 ix) A (pn ++ [j]) := hR.step h2 hjm hrn.symm (by omega) hb hinv fun i hi k hk => by
          rw [g6e i hi k hk]
          have hs : ∀ z, z < n → ∀ l, l < m → ent P8 ix z l = if z = r then (ent pool ix z l * (bk a p : Int)) % (p : Int) else ent pool ix z l := fun z hz l hl => by
            obtain ⟨z1, z2⟩ := hS.ib z hz
            unfold ent
            rw [g3e _ z1 z2 l hl]
            by_cases c1 : z = r
            · subst c1; rw [if_pos rfl, if_pos rfl]
            · rw [if_neg (fun e => c1 (hInj z r hz hrr e)), if_neg c1]
          subst hbr
          by_cases c1 : i = b
          · rw [if_pos c1, if_pos c1, hs i hi k hk, if_pos c1, c1]
          · rw [if_neg c1, if_neg c1, hs i hi k hk, hs i hi j hjm, hs b hb k hk, if_neg c1, if_neg c1, if_pos rfl]
            unfold swp
            rw [if_neg c1, if_neg c1, if_neg c1, if_neg c1]
        obtain ⟨det', pool', ix', pn', k2, k3⟩ := e4 hp hm hn hcm A xs v d (j + 1) (Int.tmod (IntKind.i64.wrap (det * (a : Int))) p) P10 ix (pn ++ [j]) (by omega) (next _ _ g6) hInj hR'
        rw [← hints] at k2
        rw [hbr] at ha hbl
        refine ⟨det', pool', ix', pn', ?_, k3⟩
        refine wi_inl (T := fun s => (impl_Whole_over_l4_T n c xs p v s).run) ?_ k2
        simp only [impl_Whole_over_l4_T, Tree.run, lt_nat', hj, decide_true, if_true, hr, f2, Option.bind_some, hS.il, c2, c3, Bool.not_true, Bool.not_false, Bool.false_eq_true, if_false, hw, inb_nat, hrr, hbl, hjm, e0, Int.toNat_natCast, ha, backI hp ha0 hap, g2, g5, hfit]
      · -- two rows change their places
        have c3 : decide ((b : Int) = (r : Int)) = false := decide_eq_false (by omega)
        obtain ⟨hS', hsw⟩ := hS.swap hb hrr
        have hInj' := injS hS hInj hb hrr
        have hent := entS hS (b := b) (r := r) hb hrr
        obtain ⟨I, hI⟩ : ∃ I, I = swI ix b r := ⟨_, rfl⟩
        rw [← hI] at hS' hsw hInj' hent
        have hI' : (ix.set b (nth ix r)).set r (nth ix b) = I := hI.symm
        rw [← hsw] at ha hbl
        obtain ⟨D, hD⟩ : ∃ D, D = IntKind.i64.wrap (0 - det) % (p : Int) := ⟨_, rfl⟩
        obtain ⟨P8, g2, g3, g3e⟩ := e8 h2 h9 hm hS' hrr (bk_lt (a := a) (p := p) (by omega)) (Int.tmod (IntKind.i64.wrap (D * (a : Int))) p) j pv
        obtain ⟨P10, g5, g6, g6e⟩ := e10 h2 h9 hm hn g3 hInj' hrr hjm (Int.tmod (IntKind.i64.wrap (D * (a : Int))) p) pv n c xs v
        have hR' : Rr n m p (j + 1) (ent P10 I) A (pn ++ [j]) := hR.step h2 hjm hrn.symm f3 hb hinv fun i hi k hk => by
          rw [g6e i hi k hk]
          have hs : ∀ z, z < n → ∀ l, l < m → ent P8 I z l = if z = r then (ent pool I z l * (bk a p : Int)) % (p : Int) else ent pool I z l := fun z hz l hl => by
            obtain ⟨z1, z2⟩ := hS'.ib z hz
            unfold ent
            rw [g3e _ z1 z2 l hl]
            by_cases c1 : z = r
            · subst c1; rw [if_pos rfl, if_pos rfl]
            · rw [if_neg (fun e => c1 (hInj' z r hz hrr e)), if_neg c1]
          have hrk : ent pool I r k = ent pool ix b k := by rw [hent r hrr]; unfold swp; rw [if_pos rfl]
          by_cases c1 : i = r
          · rw [if_pos c1, if_pos c1, hs i hi k hk, if_pos c1, c1, hrk]
          · rw [if_neg c1, if_neg c1, hs i hi k hk, hs i hi j hjm, hs r hrr k hk, if_neg c1, if_neg c1, if_pos rfl, hrk, hent i hi, hent i hi]
        obtain ⟨det', pool', ix', pn', k2, k3⟩ := e4 hp hm hn hcm A xs v d (j + 1) (Int.tmod (IntKind.i64.wrap (D * (a : Int))) p) P10 I (pn ++ [j]) (by omega) (next _ _ g6) hInj' hR'
        rw [← hints] at k2
        refine ⟨det', pool', ix', pn', ?_, k3⟩
        refine wi_inl (T := fun s => (impl_Whole_over_l4_T n c xs p v s).run) ?_ k2
        simp only [impl_Whole_over_l4_T, Tree.run, lt_nat', hj, decide_true, if_true, hr, f2, Option.bind_some, hS.il, c2, c3, Bool.not_true, Bool.not_false, Bool.false_eq_true, if_false, hw, inb_nat, hb, hrr, restI _ h2 h9, ← hD, hI', hS'.il, hbl, hjm, e0, Int.toNat_natCast, ha, backI hp ha0 hap, g2, g5, hfit]
theorem l2I {p : Nat} (h2 : 2 ≤ p) (h9 : p ≤ 997) {ys : List Int} (hl : ys.length ≤ 1000) (i : Int) (pool : List (List Int)) (ix : List Nat) : impl_Whole_over_l2_g p i (ys.length : Nat) pool ix ((0 : Int), ys) = some (ys.map fun y => y % (p : Int)) := by
  refine mapG (T := fun s => (impl_Whole_over_l2_T p i (ys.length : Nat) pool ix s).run) (f := fun y => y % (p : Int)) (fun k s hk hs => ?_) fun s hs => ?_
  · simp only [impl_Whole_over_l2_T, Tree.run, lt_nat', hk, hs, inb_nat, decide_true, if_true, Int.toNat_natCast, Option.bind_some, restI _ h2 h9, w_succ (show k < 4611686018427387904 by omega)]
  · simp only [impl_Whole_over_l2_T, Tree.run, lt_nat', Nat.lt_irrefl, decide_false, Bool.false_eq_true, if_false]
theorem e0 {n c p : Nat} {xs : List Int} {a : Int} {l : List Int} (h2 : 2 ≤ p) (h9 : p ≤ 997) (hn : n ≤ 6) (h1 : 1 ≤ c) (hc : c ≤ 6) (hx : xs.length = n * c) (hv : (a :: l).length = n) :
    impl_Whole_over_l0_g n c xs p (a :: l) ((0 : Int), ([] : List (List Int)), ([] : List Nat)) = some (poolO c p xs (a :: l) n, ixO n) := by
  obtain ⟨v, hvv⟩ : ∃ v, v = a :: l := ⟨_, rfl⟩
  have hvp : decide (0 < v.length) = true := by rw [hvv]; simp
  have hrv : ∀ i, rowO c p xs v i = ((List.range c).map fun k => nth xs (i * c + k) % (p : Int)) ++ [nth v i % (p : Int)] := fun i => by rw [hvv]; rfl
  rw [← hvv] at hv ⊢
  obtain ⟨s', k2, k3⟩ := for1 (T := fun s => (impl_Whole_over_l0_T n c xs p v s).run) (n := n) (fun i s => s = (poolO c p xs v i, ixO i)) id
    (fun i s hi h => by
      subst h
      have hw := w_succ (show i < 4611686018427387904 by omega)
      have hfit : fits (i + 1) = true := fitsN (by omega)
      obtain ⟨r1, r2, r3, r4⟩ := rowWI hi h1 hn hc hx
      rw [hw] at r3
      have hrow : (AM.sub xs ((i * c : Nat) : Int) (((i + 1) * c : Nat) : Int) ++ [nth v i]).map (fun y => y % (p : Int)) = rowO c p xs v i := by
        rw [hrv, List.map_append]
        congr 1
        have h3 := Nat.mul_le_mul_right c (show i + 1 ≤ n from hi)
        have h4 : (i + 1) * c = i * c + c := by rw [Nat.add_mul, Nat.one_mul]
        refine ext_nth (by rw [List.length_map, List.length_map, r4, List.length_range]) fun j hj => ?_
        have hj' : j < c := by rw [List.length_map, r4] at hj; exact hj
        rw [nth_map_range _ _ _ hj', nth_of _ _ hj, List.getElem_map, ← nth_of _ _ (by rw [r4]; exact hj'), nthSubG (by omega) (by omega)]
      have hlen : (AM.sub xs ((i * c : Nat) : Int) (((i + 1) * c : Nat) : Int) ++ [nth v i]).length = c + 1 := by rw [List.length_append, r4]; rfl
      have hL := l2I h2 h9 (ys := AM.sub xs ((i * c : Nat) : Int) (((i + 1) * c : Nat) : Int) ++ [nth v i]) (by rw [hlen]; omega) i (poolO c p xs v i) (ixO i)
      rw [hrow] at hL
      have hfit2 : fits (AM.sub xs ((i * c : Nat) : Int) (((i + 1) * c : Nat) : Int) ++ [nth v i]).length = true := fitsN (by rw [hlen]; omega)
      have hiv : decide (i < v.length) = true := decide_eq_true (by omega)
      refine ⟨_, ?_, rfl⟩
      simp only [impl_Whole_over_l0_T, Tree.run, lt_nat', hi, decide_true, if_true, r1, r2, r3, List.nil_append, hvp, inb_nat, hiv, Int.toNat_natCast, hfit2, hL, Option.bind_some, ixO_len, hfit, hw, poolO_succ, ixO_succ])
    (fun s h => by
      subst h
      simp only [impl_Whole_over_l0_T, Tree.run, lt_nat', Nat.lt_irrefl, decide_false, Bool.false_eq_true, if_false]
      rfl) _ rfl
  subst k3
  exact k2
theorem overE {n c p : Nat} {xs v : List Int} (hp : prB p = true) (hn0 : 1 ≤ n) (hn : n ≤ 6) (h1 : 1 ≤ c) (hc : c ≤ 6) (hx : xs.length = n * c) (hv : v.length = n) :
    ∃ det pool ix pn, impl_Whole_over_g n c xs p v = some (det, pool, ix, ints pn) ∧ Ov n (c + 1) p c pool ix pn ∧ Rr n (c + 1) p c (ent pool ix) (fun i k => if k < c then nth xs (i * c + k) else nth v i) pn := by
  obtain ⟨h2, h9⟩ := prB_le hp
  cases v with
  | nil => simp at hv; omega
  | cons a l =>
    have a2 := e0 h2 h9 hn h1 hc hx hv
    obtain ⟨det, pool, ix, pn, k2, k3, _, k4⟩ := e4 hp (show c + 1 ≤ 7 by omega) hn (Nat.le_succ c) (fun i k => if k < c then nth xs (i * c + k) else nth (a :: l) i) xs (a :: l) c 0 1 (poolO c p xs (a :: l) n) (ixO n) [] (Nat.zero_add _) ⟨shapeO (by omega) xs (a :: l), Nat.zero_le _, by simp, .nil⟩ (injO n)
      (rr0 (shapeO (by omega) xs (a :: l)) fun i hi k hk => by rw [entO c p xs (a :: l) hi]; exact rowO_mod2 hk)
    have e : ((0 : Nat) : Int) = 0 := rfl
    have e2 : ints [] = [] := rfl
    rw [e, e2] at k2
    refine ⟨det, pool, ix, pn, ?_, k3, k4⟩
    simp only [impl_Whole_over_g, impl_Whole_over_T, Tree.run, a2, k2, Option.bind_some, if_true]
end Go.Proofs.Ytimlecagkbbnpaa.AM
