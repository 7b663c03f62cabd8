/- NM8 NM9 NMA QFnNorms -/
import Derived.Test.YtbnakafnaeafiaaNNB
import Derived.Test.YtbnakafnaeafiaaNNA
set_option linter.unusedSimpArgs false
set_option linter.unusedVariables false
set_option maxHeartbeats 4000000
namespace Go.Proofs.Ytbnakafnaeafiaa.AM
open Ieee

/-- The greatest of the first sizes. -/
def mx (a : Nat → Int) : Nat → Nat
  | 0 => 0
  | k + 1 => if mx a k < (a k).natAbs then (a k).natAbs else mx a k
theorem mx_le {a : Nat → Int} {B : Nat} : ∀ n, (∀ k, k < n → (a k).natAbs ≤ B) → mx a n ≤ B
  | 0, _ => Nat.zero_le _
  | n + 1, h => by
    have := mx_le n fun k hk => h k (by omega)
    have := h n (by omega)
    simp only [mx]; split <;> assumption
theorem mx_ge {a : Nat → Int} : ∀ n k, k < n → (a k).natAbs ≤ mx a n
  | 0, k, h => by omega
  | n + 1, k, h => by
    simp only [mx]
    by_cases e : k = n
    · subst e; split <;> omega
    · have := mx_ge (a := a) n k (by omega)
      split <;> omega
theorem sq_abs (z : Int) : z * z = ((z.natAbs * z.natAbs : Nat) : Int) := by
  rw [Int.natCast_mul]
  rcases Int.natAbs_eq z with h | h
  · rw [← h]
  · have : z * z = (-z) * (-z) := by rw [Int.neg_mul_neg]
    rw [this]
    have e : -z = (z.natAbs : Int) := by omega
    rw [e]
/-- The sum of squares. -/
def sS (a : Nat → Int) : Nat → Nat
  | 0 => 0
  | k + 1 => sS a k + (a k).natAbs * (a k).natAbs
theorem sS_eq (a : Nat → Int) : ∀ k, dS a a k = ((sS a k : Nat) : Int)
  | 0 => rfl
  | k + 1 => by simp only [dS, sS]; rw [sS_eq a k, sq_abs]; omega
theorem mx_sq (a : Nat → Int) : ∀ n, mx a n * mx a n ≤ sS a n
  | 0 => Nat.le_refl _
  | n + 1 => by
    have := mx_sq a n
    simp only [mx, sS]; split
    · omega
    · exact Nat.le_trans this (Nat.le_add_right _ _)
theorem sS_le {a : Nat → Int} (ha : ∀ k, Sm (a k)) : ∀ n, sS a n ≤ 256 * n
  | 0 => Nat.le_refl _
  | n + 1 => by
    have := sS_le ha n
    obtain ⟨h1, h2⟩ := ha n
    have : (a n).natAbs * (a n).natAbs ≤ 16 * 16 := Nat.mul_le_mul (by omega) (by omega)
    simp only [sS]; omega
theorem aS_ge (q : Nat → Nat → Int) (i : Nat) : ∀ m k, k < m → (q i k).natAbs ≤ aS q i m
  | 0, k, h => by omega
  | m + 1, k, h => by
    simp only [aS]
    by_cases e : k = m
    · subst e; omega
    · have := aS_ge q i m k (by omega); omega
theorem aS_up {q : Nat → Nat → Int} {i B : Nat} : ∀ m, (∀ k, k < m → (q i k).natAbs ≤ B) → aS q i m ≤ B * m
  | 0, _ => Nat.zero_le _
  | m + 1, h => by
    have := aS_up m fun k hk => h k (by omega)
    have := h m (by omega)
    simp only [aS, Nat.mul_succ]; omega
theorem mS_up {q : Nat → Nat → Int} {m B : Nat} : ∀ n, (∀ i, i < n → aS q i m ≤ B) → mS q m n ≤ B
  | 0, _ => Nat.zero_le _
  | n + 1, h => by
    have := mS_up n fun i hi => h i (by omega)
    have := h n (by omega)
    simp only [mS]; split <;> assumption
theorem dS_up {a v : Nat → Int} {Z : Nat} {q : Nat → Nat → Int} {i : Nat} (hq : ∀ k, q i k = a k) : ∀ m, (∀ k, k < m → (v k).natAbs ≤ Z) → (dS a v m).natAbs ≤ aS q i m * Z
  | 0, _ => by simp [dS, aS]
  | m + 1, h => by
    have h1 := dS_up hq m fun k hk => h k (by omega)
    have h2 := h m (by omega)
    have h3 : (a m * v m).natAbs ≤ (a m).natAbs * Z := by rw [Int.natAbs_mul]; exact Nat.mul_le_mul_left _ h2
    simp only [dS, aS, hq, Nat.add_mul]; omega
/-- A matrix, number after number. -/
def fl (m : Nat) (q : Nat → Nat → Int) (p : Nat) : Int := q (p / m) (p % m)
theorem fl_at {m i k : Nat} (q : Nat → Nat → Int) (hk : k < m) : fl m q (i * m + k) = q i k := by
  unfold fl; rw [rc_div hk, rc_mod hk]
theorem sS_add (a : Nat → Int) (p : Nat) : ∀ k, sS a (p + k) = sS a p + sS (fun j => a (p + j)) k
  | 0 => rfl
  | k + 1 => by
    show sS a (p + k) + (a (p + k)).natAbs * (a (p + k)).natAbs = _
    rw [sS_add a p k]; simp only [sS]; omega
theorem sS_row {q : Nat → Nat → Int} {m i C : Nat} (hC : ∀ k, k < m → (q i k).natAbs ≤ C) : ∀ k, k ≤ m → sS (fun j => fl m q (i * m + j)) k ≤ aS q i k * C
  | 0, _ => Nat.zero_le _
  | k + 1, h => by
    have := sS_row hC k (by omega)
    have h2 := hC k (by omega)
    have h3 : (q i k).natAbs * (q i k).natAbs ≤ (q i k).natAbs * C := Nat.mul_le_mul_left _ h2
    simp only [sS, aS, Nat.add_mul]
    rw [fl_at q (show k < m by omega)]
    omega
theorem sS_rows {q : Nat → Nat → Int} {m R C : Nat} : ∀ n, (∀ i k, i < n → k < m → (q i k).natAbs ≤ C) → (∀ i, i < n → aS q i m ≤ R) → sS (fl m q) (n * m) ≤ n * (R * C)
  | 0, _, _ => by simp [sS]
  | n + 1, hC, hR => by
    have h1 := sS_rows n (fun i k hi hk => hC i k (by omega) hk) (fun i hi => hR i (by omega))
    have h2 := sS_row (q := q) (m := m) (i := n) (C := C) (fun k hk => hC n k (by omega) hk) m (Nat.le_refl _)
    have h3 := Nat.mul_le_mul_right C (hR n (by omega))
    rw [Nat.add_mul, Nat.one_mul, sS_add, Nat.add_mul, Nat.one_mul]
    omega
theorem norms_el {n m : Nat} {q : Nat → Nat → Int} (hq : ∀ i k, Sm (q i k)) (n1 : 1 ≤ n) (n5 : n ≤ 5) (m1 : 1 ≤ m) (m5 : m ≤ 5) :
    mx (fl m q) (n * m) ≤ mS q m n ∧ mx (fl m q) (n * m) ≤ mS (fun i k => q k i) n m ∧ mx (fl m q) (n * m) ≤ 16 ∧ mx (fl m q) (n * m) * mx (fl m q) (n * m) ≤ sS (fl m q) (n * m) ∧
    sS (fl m q) (n * m) ≤ mS q m n * mS (fun i k => q k i) n m * 5 ∧ mS q m n ≤ mx (fl m q) (n * m) * m ∧ sS (fl m q) (n * m) ≤ 6400 ∧ mS q m n ≤ 80 ∧ mS (fun i k => q k i) n m ≤ 80 := by
  have hnm : n * m ≤ 5 * 5 := Nat.mul_le_mul n5 m5
  have hq' : ∀ i k, Sm ((fun i k => q k i) i k) := fun i k => hq k i
  have a1 : ∀ i k, i < n → k < m → (q i k).natAbs ≤ mS q m n := fun i k hi hk => Nat.le_trans (aS_ge q i m k hk) (mS_ge q m n i hi)
  have a2 : ∀ i k, i < n → k < m → (q i k).natAbs ≤ mS (fun i k => q k i) n m := fun i k hi hk => Nat.le_trans (aS_ge (fun i k => q k i) k n i hi) (mS_ge _ n m k hk)
  have a3 : ∀ i k, i < n → k < m → (q i k).natAbs ≤ mx (fl m q) (n * m) := fun i k hi hk => by
    have := mx_ge (a := fl m q) (n * m) (i * m + k) (rc_lt hi hk)
    rwa [fl_at q hk] at this
  refine ⟨mx_le _ fun p hp => ?_, mx_le _ fun p hp => ?_, mx_le _ fun p hp => ?_, mx_sq _ _, ?_, ?_, ?_, ?_, ?_⟩
  · obtain ⟨h1, h2, h3⟩ := rc_of hp
    exact a1 _ _ h1 h2
  · obtain ⟨h1, h2, h3⟩ := rc_of hp
    exact a2 _ _ h1 h2
  · obtain ⟨h1, h2⟩ := hq (p / m) (p % m)
    show (q (p / m) (p % m)).natAbs ≤ 16
    omega
  · have h1 := sS_rows (q := q) (m := m) (R := mS q m n) (C := mS (fun i k => q k i) n m) n a2 (fun i hi => mS_ge q m n i hi)
    have h2 := Nat.mul_le_mul_right (mS q m n * mS (fun i k => q k i) n m) n5
    omega
  · exact mS_up n fun i hi => aS_up m fun k hk => a3 i k hi hk
  · have := sS_le (a := fl m q) (fun p => hq _ _) (n * m)
    omega
  · have := mS_le hq m n; omega
  · have := mS_le hq' n m; omega
theorem qM_flat {n m p : Nat} (q : Nat → Nat → Int) (hp : p < n * m) : nth (qM n m q) p = W4 (fl m q p) (-2) := by
  unfold qM rc fl
  rw [nth_map_range _ _ _ hp]
theorem sfin_isn {x : Nat} (h : isn single x) : sfin x = true := by
  rw [sfin_iff]
  obtain ⟨s, m, i, h⟩ := h
  unfold isNum
  have h : FloatKind.f32.decode x = .number s m i := h
  rw [h]
theorem whole_run {n m : Nat} {q : Nat → Nat → Int} (hq : ∀ i k, Sm (q i k)) (n1 : 1 ≤ n) (n5 : n ≤ 5) (m1 : 1 ≤ m) (m5 : m ≤ 5) :
    ∃ w d, impl_WholeNorm_g n m (qM n m q) = some (.inr w) ∧ isn single w ∧ 0 ≤ d ∧ d ≤ 21 ∧ 16 * (d * d) - ((sS (fl m q) (n * m) : Nat) : Rat) ≤ 1 / 1000000000 ∧ ((sS (fl m q) (n * m) : Nat) : Rat) - 16 * (d * d) ≤ 1 / 1000000000 ∧ V single w - d ≤ 1 / 500000 ∧ d - V single w ≤ 1 / 500000 := by
  have hnm : n * m ≤ 5 * 5 := Nat.mul_le_mul n5 m5
  have hs := sS_le (a := fl m q) (fun p => hq _ _) (n * m)
  obtain ⟨w, d, g1, g2, g3⟩ := root_ok (S := sS (fl m q) (n * m)) (by omega)
  refine ⟨w, d, ?_, g2, g3⟩
  have hd := dot_run (m := n * m) (a := fl m q) (b := fl m q) (fun p => hq _ _) (fun p => hq _ _) (by omega) (xs := qM n m q) (ys := qM n m q) (qM_len _ _ _) (qM_len _ _ _) (fun k hk => qM_flat q hk) (fun k hk => qM_flat q hk)
  rw [sS_eq] at hd
  have hw : wid (W4 ((sS (fl m q) (n * m) : Nat) : Int) (-4)) = W8 ((sS (fl m q) (n * m) : Nat) : Int) (-4) := wid_W (by omega) (by omega) (by omega)
  have hr : impl_RootNumber_g (W4 ((sS (fl m q) (n * m) : Nat) : Int) (-4)) = some w := by
    simp only [impl_RootNumber_g, impl_RootNumber_T, Tree.run, hw, math_Sqrt_v, g1, Option.bind_some]
  have hf : impl_finite_v w = .inr w := by
    unfold impl_finite_v
    rw [finI, sfin_isn g2]
    rfl
  simp only [impl_WholeNorm_g, impl_WholeNorm_T, impl_norm_g, impl_norm_T, Tree.run, qM_ok hq n1 n5 m1 m5, hd, hr, hf, Option.bind_some, Bool.not_true, Bool.false_eq_true, if_false]
theorem gap_run {z : Int} (hz : z.natAbs < 16777216) (p : Int) (h0 : -149 ≤ p) (h1 : p ≤ 100) : laws_r8Gap_v (wid (W4 z p)) 0 = W8 (z.natAbs : Int) p := by
  unfold laws_r8Gap_v
  rw [wid_W hz h0 h1]
  exact gap8 (by omega) (by omega) (by omega)
theorem mx_step {a : Nat → Int} (ha : ∀ k, Sm (a k)) (k : Nat) : fmaxA .f64 (W8 (mx a k : Nat) (-2)) (W8 ((a k).natAbs : Nat) (-2)) = W8 (mx a (k + 1) : Nat) (-2) := by
  have hb := mx_le (a := a) (B := 16) k fun j _ => by obtain ⟨h1, h2⟩ := ha j; omega
  obtain ⟨h1, h2⟩ := ha k
  rw [max8 (by omega) (by omega) (by omega) (by omega)]
  congr 1
  simp only [mx]
  by_cases c : mx a k < (a k).natAbs
  · rw [if_pos c, if_pos (by omega)]
  · rw [if_neg c, if_neg (by omega)]
theorem most_run {a : Nat → Int} (ha : ∀ k, Sm (a k)) {xs : List Nat} {N : Nat} (hl : xs.length = N) (hN : N ≤ 1000) (hx : ∀ k, k < N → nth xs k = W4 (a k) (-2)) (v1 v2 v3 : Nat) (v4 v5 : Int) (v6 v7 : List Nat) :
    laws_FnNorms_l0_g v1 v2 v3 v4 v5 v6 v7 xs ((0 : Nat), (0 : Int)) = some (W8 (mx a N : Nat) (-2)) := by
  have := whileM_fix (T := fun s => (laws_FnNorms_l0_T v1 v2 v3 v4 v5 v6 v7 xs s).run) (n := N) (r := W8 (mx a N : Nat) (-2)) (fun k => (W8 (mx a k : Nat) (-2), ((k : Nat) : Int)))
    (fun k hk => by
      have hlt : decide (((k : Nat) : Int) < ((N : Nat) : Int)) = true := decide_eq_true (by omega)
      obtain ⟨h1, h2⟩ := ha k
      simp only [laws_FnNorms_l0_T, Tree.run, hl, hlt, if_true, inb_nat, hk, decide_true, Int.toNat_natCast, hx k hk, gap_run (show (a k).natAbs < 16777216 by omega) (-2) (by omega) (by omega), mx_step ha, w_succ (show k < 4611686018427387904 by omega)])
    (by
      have hlt : decide (((N : Nat) : Int) < ((N : Nat) : Int)) = false := decide_eq_false (by omega)
      simp only [laws_FnNorms_l0_T, Tree.run, hl, hlt, Bool.false_eq_true, if_false])
  have e0 : W8 ((mx a 0 : Nat) : Int) (-2) = 0 := W8_zero _
  rw [e0] at this
  exact this
theorem size_run {a : Nat → Int} (ha : ∀ k, Sm (a k)) {xs : List Nat} {N : Nat} (hl : xs.length = N) (hN : N ≤ 1000) (hx : ∀ k, k < N → nth xs k = W4 (a k) (-2)) (v1 v2 v3 v0 : Nat) (v4 v5 : Int) (v6 v7 : List Nat) :
    laws_FnNorms_l2_g v1 v2 v3 v0 v4 v5 xs v6 v7 ((0 : Nat), (0 : Int)) = some (W8 (mx a N : Nat) (-2)) := by
  have := whileM_fix (T := fun s => (laws_FnNorms_l2_T v1 v2 v3 v0 v4 v5 xs v6 v7 s).run) (n := N) (r := W8 (mx a N : Nat) (-2)) (fun k => (W8 (mx a k : Nat) (-2), ((k : Nat) : Int)))
    (fun k hk => by
      have hlt : decide (((k : Nat) : Int) < ((N : Nat) : Int)) = true := decide_eq_true (by omega)
      obtain ⟨h1, h2⟩ := ha k
      simp only [laws_FnNorms_l2_T, Tree.run, hl, hlt, if_true, inb_nat, hk, decide_true, Int.toNat_natCast, hx k hk, gap_run (show (a k).natAbs < 16777216 by omega) (-2) (by omega) (by omega), mx_step ha, w_succ (show k < 4611686018427387904 by omega)])
    (by
      have hlt : decide (((N : Nat) : Int) < ((N : Nat) : Int)) = false := decide_eq_false (by omega)
      simp only [laws_FnNorms_l2_T, Tree.run, hl, hlt, Bool.false_eq_true, if_false])
  have e0 : W8 ((mx a 0 : Nat) : Int) (-2) = 0 := W8_zero _
  rw [e0] at this
  exact this
theorem bound_run {b : Nat → Int} {R Z : Nat} (hR : R ≤ 80) (hZ : Z ≤ 16) {xs : List Nat} {N : Nat} (hl : xs.length = N) (hN : N ≤ 1000) (hx : ∀ k, k < N → nth xs k = W4 (b k) (-4)) (hb : ∀ k, k < N → (b k).natAbs ≤ R * Z) (v2 v3 v4 : Nat) (v5 v6 : Int) (v7 : List Nat) :
    laws_FnNorms_l4_g (W4 (R : Nat) (-2)) v2 v3 v4 (W8 (Z : Nat) (-2)) v5 v6 xs v7 (0 : Int) = some (.inr ()) :=
  whileM_fix (T := fun s => (laws_FnNorms_l4_T (W4 (R : Nat) (-2)) v2 v3 v4 (W8 (Z : Nat) (-2)) v5 v6 xs v7 s).run) (n := N) (r := .inr ()) (fun k => ((k : Nat) : Int))
    (fun k hk => by
      have hlt : decide (((k : Nat) : Int) < ((N : Nat) : Int)) = true := decide_eq_true (by omega)
      have hbk := hb k hk
      have hRZ : R * Z ≤ 80 * 16 := Nat.mul_le_mul hR hZ
      have hw : wid (W4 (R : Nat) (-2)) = W8 (R : Nat) (-2) := wid_W (by omega) (by omega) (by omega)
      have hlaw := lawA hR (show Z ≤ 80 by omega) hbk
      simp only [laws_FnNorms_l4_T, Tree.run, hl, hlt, if_true, inb_nat, hk, decide_true, Int.toNat_natCast, hx k hk, gap_run (show (b k).natAbs < 16777216 by omega) (-4) (by omega) (by omega), hw, hlaw, Bool.false_eq_true, if_false, w_succ (show k < 4611686018427387904 by omega)])
    (by
      have hlt : decide (((N : Nat) : Int) < ((N : Nat) : Int)) = false := decide_eq_false (by omega)
      simp only [laws_FnNorms_l4_T, Tree.run, hl, hlt, Bool.false_eq_true, if_false])
/-- The next seed. -/
def nxs (s : Int) : Int := Int.tmod (IntKind.i64.wrap ((IntKind.i64.wrap ((1103515245 : Int) * s)) + (12345 : Int))) (2147483648 : Int)
/-- The number drawn. -/
def vls (s : Int) : Nat := fdiv .f32 (fofint .f32 (IntKind.i64.wrap ((IntKind.i64.wrap (Int.tdiv (nxs s) (65536 : Int))) - (16384 : Int)))) (1182793728 : Nat)
def sqs (s : Int) : Nat → Int
  | 0 => s
  | k + 1 => nxs (sqs s k)
theorem sqs_add (s : Int) (a : Nat) : ∀ b, sqs (sqs s a) b = sqs s (a + b)
  | 0 => rfl
  | b + 1 => by show nxs (sqs (sqs s a) b) = nxs (sqs s (a + b)); rw [sqs_add s a b]
theorem draw1 (s : Int) : impl_DrawnMatrix_1_i1_g s = some (vls s, nxs s) := by
  have h1 : decide ((2147483648 : Int) = 0) = false := rfl
  have h2 : decide ((65536 : Int) = 0) = false := rfl
  simp only [impl_DrawnMatrix_1_i1_g, impl_DrawnMatrix_1_i1_T, Tree.run, h1, h2, Bool.not_false, if_true]
  rfl
/-- The numbers drawn. -/
def drL (n m : Nat) (s : Int) : List Nat := rc n m fun i k => vls (sqs s (i * m + k))
theorem draw_run {n m : Nat} (hn : n ≤ 12) (hm : m ≤ 12) (s : Int) : impl_made_i1_g n m s = some ((n : Int), (m : Int), sqs s (n * m), drL n m s) := by
  have hlen : (drL n m s).length = n * m := rc_length _ _ _
  have row : ∀ i, i < n → impl_made_i1_l2_g m i n m ((0 : Int), sqs s (i * m), fill 0 (drL n m s) (i * m)) = some (sqs s ((i + 1) * m), fill 0 (drL n m s) ((i + 1) * m)) := by
    intro i hi
    have e1 : (i + 1) * m = i * m + m := by rw [Nat.add_mul, Nat.one_mul]
    have := whileM_fix (T := fun st => (impl_made_i1_l2_T m i n m st).run) (n := m) (r := (sqs s ((i + 1) * m), fill 0 (drL n m s) ((i + 1) * m))) (fun k => ((k : Int), sqs s (i * m + k), fill 0 (drL n m s) (i * m + k)))
      (fun k hk => by
        have hp := rc_lt hi hk
        have hset := fill_set 0 (drL n m s) (i * m + k) (by rw [hlen]; exact hp)
        have hnth : nth (drL n m s) (i * m + k) = vls (sqs s (i * m + k)) := rc_nth _ hi hk
        rw [hnth] at hset
        have hfl : (fill 0 (drL n m s) (i * m + k)).length = n * m := by rw [fill_length, hlen]
        simp only [impl_made_i1_l2_T, Tree.run, lt_nat, hk, decide_true, if_true, draw1, setR hi hk hn hm hfl, Option.bind_some, atw hi hk hn hm, Int.toNat_natCast, List.length_set, w1 (show k ≤ 1000 by omega), hset]
        rfl)
      (by simp only [impl_made_i1_l2_T, Tree.run, lt_nat, Nat.lt_irrefl, decide_false, Bool.false_eq_true, if_false, e1])
    show whileM (fun st => (impl_made_i1_l2_T m i n m st).run) _ = _
    simpa using this
  have := whileM_fix (T := fun st => (impl_made_i1_l0_T n m s n m st).run) (n := n) (r := (sqs s (n * m), drL n m s)) (fun i => ((i : Int), sqs s (i * m), fill 0 (drL n m s) (i * m)))
    (fun i hi => by
      simp only [impl_made_i1_l0_T, Tree.run, lt_nat, hi, decide_true, if_true, row i hi, Option.bind_some, w1 (show i ≤ 1000 by omega)])
    (by
      have hf := fill_full (0 : Nat) (drL n m s)
      rw [hlen] at hf
      simp only [impl_made_i1_l0_T, Tree.run, lt_nat, Nat.lt_irrefl, decide_false, Bool.false_eq_true, if_false, hf])
  have this : impl_made_i1_l0_g n m s n m ((0 : Int), s, List.replicate (n * m) (0 : Nat)) = some (sqs s (n * m), drL n m s) := by
    have e : fill 0 (drL n m s) (0 * m) = List.replicate (n * m) 0 := by rw [Nat.zero_mul, fill_zero, hlen]
    have e2 : sqs s (0 * m) = s := by rw [Nat.zero_mul]; rfl
    rw [← this]
    show whileM _ _ = whileM _ (((0 : Nat) : Int), sqs s (0 * m), fill 0 (drL n m s) (0 * m))
    rw [e, e2]; rfl
  simp only [impl_made_i1_g, impl_made_i1_T, Tree.run, newR hn hm, mulw hn hm, Int.toNat_natCast, Option.bind_some, if_true, this]
theorem drawn_run {n m : Nat} (n1 : 1 ≤ n) (hn : n ≤ 12) (m1 : 1 ≤ m) (hm : m ≤ 12) {s : Int} (s0 : 0 ≤ s) (s1 : s ≤ 2147483647) : impl_DrawnMatrix_g n m s = some (.inr ((n : Int), (m : Int), sqs s (n * m), drL n m s)) := by
  have h1 : decide ((1 : Int) ≤ ((n : Nat) : Int)) = true := decide_eq_true (by omega)
  have h2 : decide (((n : Nat) : Int) ≤ 12) = true := decide_eq_true (by omega)
  have h3 : decide ((1 : Int) ≤ ((m : Nat) : Int)) = true := decide_eq_true (by omega)
  have h4 : decide (((m : Nat) : Int) ≤ 12) = true := decide_eq_true (by omega)
  have h5 : decide (0 ≤ s) = true := decide_eq_true s0
  have h6 : decide (s ≤ 2147483647) = true := decide_eq_true s1
  simp only [impl_DrawnMatrix_g, impl_DrawnMatrix_T, Tree.run, impl_isSide_v, inR, h1, h2, h3, h4, h5, h6, Bool.and_self, Bool.not_true, Bool.false_eq_true, if_false, draw_run hn hm, Option.bind_some]
/-- Seeds stay seeds. -/
theorem nxs_ok {s : Int} (s0 : 0 ≤ s) (s1 : s ≤ 2147483647) : 0 ≤ nxs s ∧ nxs s ≤ 2147483647 := by
  unfold nxs
  rw [w64 (n := (1103515245 : Int) * s) (by omega) (by omega), w64 (by omega) (by omega), Int.tmod_eq_emod_of_nonneg (by omega)]
  omega
theorem sqs_ok {s : Int} (s0 : 0 ≤ s) (s1 : s ≤ 2147483647) : ∀ k, 0 ≤ sqs s k ∧ sqs s k ≤ 2147483647
  | 0 => ⟨s0, s1⟩
  | k + 1 => by
    obtain ⟨h1, h2⟩ := sqs_ok s0 s1 k
    exact nxs_ok h1 h2
/-- What is drawn lies from -1 up to below 1. -/
theorem vls_ok {s : Int} (s0 : 0 ≤ s) (s1 : s ≤ 2147483647) : isn single (vls s) ∧ -1 ≤ V single (vls s) ∧ V single (vls s) < 1 := by
  obtain ⟨n0, n1⟩ := nxs_ok s0 s1
  obtain ⟨z, hz⟩ : ∃ z, z = IntKind.i64.wrap ((IntKind.i64.wrap (Int.tdiv (nxs s) (65536 : Int))) - (16384 : Int)) := ⟨_, rfl⟩
  have hz2 : -16384 ≤ z ∧ z ≤ 16383 := by
    rw [hz, Int.tdiv_eq_ediv_of_nonneg n0, w64 (n := nxs s / 65536) (by omega) (by omega), w64 (by omega) (by omega)]
    omega
  have hI := W4_isp (z := z) (p := 0) (by omega) (by omega) (by omega)
  obtain ⟨i1, i2⟩ := is_val hI.is
  have hof : fofint .f32 z = W4 z 0 := by
    show canon .f32 (single.nearest (decide (z < 0)) z.natAbs 0) = _
    exact canon4 i1
  have hv : vls s = fdiv .f32 (W4 z 0) 1182793728 := by unfold vls; rw [← hz, hof]
  rw [hv]
  by_cases c : z = -16384
  · rw [c]
    have hm1 : fdiv .f32 (W4 (-16384) 0) 1182793728 = 3212836864 := by kernel_rfl
    have hr : single.read 3212836864 = .number true 8388608 (-23) := by kernel_rfl
    rw [hm1]
    have hV : V single 3212836864 = -1 := by
      unfold V; rw [hr, val_num]
      have h1 := P2_inv (p := -23) (n := 23) rfl
      have e : ((2 ^ 23 : Nat) : Rat) = 8388608 := rfl
      have e2 : ((8388608 : Nat) : Rat) = 8388608 := rfl
      rw [e] at h1
      rw [e2]; simp only [if_true]; grind
    rw [hV]
    exact ⟨⟨_, _, _, hr⟩, by grind, by grind⟩
  · have hr : single.read 1182793728 = .number false 8388608 (-9) := by kernel_rfl
    have hk : isn single 1182793728 := ⟨_, _, _, hr⟩
    have hkv : V single 1182793728 = 16384 := by
      unfold V; rw [hr, val_num]
      have h1 := P2_inv (p := -9) (n := 9) rfl
      have e : ((2 ^ 9 : Nat) : Rat) = 512 := rfl
      have e2 : ((8388608 : Nat) : Rat) = 8388608 := rfl
      rw [e] at h1
      rw [e2]; simp only [Bool.false_eq_true, if_false]; grind
    rw [P2_zero] at i2
    have z1 : ((-16383 : Int) : Rat) ≤ (z : Rat) := Rat.intCast_le_intCast.2 (by omega)
    have z2 : (z : Rat) ≤ ((16383 : Int) : Rat) := Rat.intCast_le_intCast.2 (by omega)
    have e1 : ((-16383 : Int) : Rat) = -16383 := rfl
    have e2 : ((16383 : Int) : Rat) = 16383 := rfl
    rw [e1] at z1
    rw [e2] at z2
    obtain ⟨p1, p2⟩ := big_P2
    obtain ⟨q1, q2, q3⟩ := e4_lin
    obtain ⟨q, hq⟩ : ∃ q : Rat, q * 16384 = (z : Rat) := ⟨(z : Rat) / 16384, by grind⟩
    obtain ⟨w, g1, g2, g3, g4⟩ := div_er top4 i1 hk (by rw [hkv]; decide) (q := q) (B := 1) (by rw [hkv, i2, hq]; grind) (by grind) (by grind) (by grind)
    have ew : fdiv .f32 (W4 z 0) 1182793728 = w := by
      show fres .f32 (single.div _ _) = _
      rw [g1]; exact canon4 g2
    rw [ew]
    exact ⟨g2, by grind, by grind⟩
theorem ord4 {x y : Nat} (hx : isn single x) (hy : isn single y) : fless .f32 x y = decide (V single x < V single y) ∧ fgrt .f32 x y = decide (V single y < V single x) ∧ feq .f32 x y = decide (V single x = V single y) := by
  have h : FloatKind.f32.format.order x y = some (if V single x < V single y then .lt else if V single x = V single y then .eq else .gt) := order_val hx hy
  unfold fless fgrt feq
  rw [h]
  by_cases c : V single x < V single y
  · rw [if_pos c, decide_eq_true c, decide_eq_false (by grind), decide_eq_false (by grind)]; exact ⟨rfl, rfl, rfl⟩
  · rw [if_neg c, decide_eq_false c]
    by_cases c2 : V single x = V single y
    · rw [if_pos c2, decide_eq_true c2, decide_eq_false (by grind)]; exact ⟨rfl, rfl, rfl⟩
    · rw [if_neg c2, decide_eq_false c2, decide_eq_true (by grind)]; exact ⟨rfl, rfl, rfl⟩
theorem one4 : isn single 1065353216 ∧ V single 1065353216 = 1 ∧ isn single 3212836864 ∧ V single 3212836864 = -1 := by
  have r1 : single.read 1065353216 = .number false 8388608 (-23) := by kernel_rfl
  have r2 : single.read 3212836864 = .number true 8388608 (-23) := by kernel_rfl
  have h1 := P2_inv (p := -23) (n := 23) rfl
  have e : ((2 ^ 23 : Nat) : Rat) = 8388608 := rfl
  have e2 : ((8388608 : Nat) : Rat) = 8388608 := rfl
  rw [e] at h1
  refine ⟨⟨_, _, _, r1⟩, ?_, ⟨_, _, _, r2⟩, ?_⟩
  · unfold V; rw [r1, val_num, e2]; simp only [Bool.false_eq_true, if_false]; grind
  · unfold V; rw [r2, val_num, e2]; simp only [if_true]; grind
theorem vls_cmp {s : Int} (s0 : 0 ≤ s) (s1 : s ≤ 2147483647) : feq .f32 (vls s) (vls s) = true ∧ fless .f32 (vls s) 3212836864 = false ∧ (fgrt .f32 (vls s) 1065353216 || feq .f32 (vls s) 1065353216) = false := by
  obtain ⟨h1, h2, h3⟩ := vls_ok s0 s1
  obtain ⟨k1, k2, k3, k4⟩ := one4
  obtain ⟨_, _, a3⟩ := ord4 h1 h1
  obtain ⟨b1, _, _⟩ := ord4 h1 k3
  obtain ⟨_, c2, c3⟩ := ord4 h1 k1
  rw [a3, b1, c2, c3, k2, k4, decide_eq_true rfl, decide_eq_false (by grind), decide_eq_false (by grind), decide_eq_false (by grind)]
  exact ⟨rfl, rfl, rfl⟩
theorem drL_nth {n m p : Nat} (s : Int) (hp : p < n * m) : nth (drL n m s) p = vls (sqs s p) := by
  unfold drL rc
  rw [nth_map_range _ _ _ hp]
  obtain ⟨_, _, h⟩ := rc_of hp
  show vls (sqs s (p / m * m + p % m)) = _
  rw [h]
theorem comp_run {s : Int} (s0 : 0 ≤ s) (s1 : s ≤ 2147483647) (a1 a2 a3 a4 a5 a6 a7 a8 : Int) :
    laws_FnNorms_l6_g a1 a2 a3 a4 a5 a6 a7 a8 (drL 2 3 s) (drL 3 2 s) (drL 1 3 s) (drL 1 3 (sqs s 3)) (0 : Int) = some (.inr ()) := by
  have l1 : (drL 2 3 s).length = 6 := rc_length _ _ _
  have l2 : (drL 3 2 s).length = 6 := rc_length _ _ _
  have l3 : (drL 1 3 s).length = 3 := rc_length _ _ _
  have l4 : (drL 1 3 (sqs s 3)).length = 3 := rc_length _ _ _
  refine whileM_fix (T := fun st => (laws_FnNorms_l6_T a1 a2 a3 a4 a5 a6 a7 a8 (drL 2 3 s) (drL 3 2 s) (drL 1 3 s) (drL 1 3 (sqs s 3)) st).run) (n := 6) (r := .inr ()) (fun k => ((k : Nat) : Int)) (fun k hk => ?_) ?_
  · have hlt : decide (((k : Nat) : Int) < 6) = true := decide_eq_true (by omega)
    obtain ⟨q0, q1⟩ := sqs_ok s0 s1 k
    obtain ⟨c1, c2, c3⟩ := vls_cmp q0 q1
    have n1 := drL_nth (n := 2) (m := 3) s (show k < 2 * 3 by omega)
    have n2 := drL_nth (n := 3) (m := 2) s (show k < 3 * 2 by omega)
    by_cases h : k < 3
    · have n3 := drL_nth (n := 1) (m := 3) s (show k < 1 * 3 by omega)
      have d1 : decide (((k : Nat) : Int) < 3) = true := decide_eq_true (by omega)
      have d2 : decide ((3 : Int) ≤ ((k : Nat) : Int)) = false := decide_eq_false (by omega)
      simp only [laws_FnNorms_l6_T, Tree.run, hlt, if_true, inb_nat, l1, l2, l3, l4, hk, h, decide_true, Int.toNat_natCast, n1, n2, n3, c1, c2, c3, d1, d2, Bool.not_true, Bool.false_eq_true, if_false, w_succ (show k < 4611686018427387904 by omega)]
    · have n4 := drL_nth (n := 1) (m := 3) (sqs s 3) (show k - 3 < 1 * 3 by omega)
      rw [sqs_add, show 3 + (k - 3) = k by omega] at n4
      have d1 : decide (((k : Nat) : Int) < 3) = false := decide_eq_false (by omega)
      have d2 : decide ((3 : Int) ≤ ((k : Nat) : Int)) = true := decide_eq_true (by omega)
      have w3 : IntKind.i64.wrap (((k : Nat) : Int) - 3) = ((k - 3 : Nat) : Int) := by rw [w64 (by omega) (by omega)]; omega
      simp only [laws_FnNorms_l6_T, Tree.run, hlt, if_true, w3, inb_nat, l1, l2, l3, l4, hk, show k - 3 < 3 by omega, decide_true, Int.toNat_natCast, n1, n2, n4, c1, c2, c3, d1, d2, Bool.not_true, Bool.false_eq_true, if_false, w_succ (show k < 4611686018427387904 by omega)]
  · have hlt : decide ((((6 : Nat) : Nat) : Int) < 6) = false := decide_eq_false (by omega)
    simp only [laws_FnNorms_l6_T, Tree.run, hlt, Bool.false_eq_true, if_false]
/-- Hilbert's numbers. -/
def hbl (j : Nat) : Nat := fdiv .f32 1065353216 (fofint .f32 ((j : Int) + 1))
theorem hbl_tab : ((List.range 12).all fun j => sfin (hbl j)) = true := by kernel_rfl
theorem hbl_one : hbl 0 = 1065353216 := by kernel_rfl
theorem hbl_fin {j : Nat} (h : j < 12) : sfin (hbl j) = true := List.all_eq_true.1 hbl_tab j (List.mem_range.2 h)
def hbL (n : Nat) : List Nat := rc n n fun i k => hbl (i + k)
theorem hbL_len (n : Nat) : (hbL n).length = n * n := rc_length _ _ _
theorem hbL_fin {n : Nat} (hn : n ≤ 6) : (hbL n).all sfin = true := by
  rw [List.all_eq_true]
  intro x hx
  unfold hbL rc at hx
  rw [List.mem_map] at hx
  obtain ⟨p, hp, rfl⟩ := hx
  obtain ⟨h1, h2, _⟩ := rc_of (List.mem_range.1 hp)
  exact hbl_fin (by omega)
theorem hbL_nth {n i k : Nat} (hi : i < n) (hk : k < n) : nth (hbL n) (i * n + k) = hbl (i + k) := rc_nth _ hi hk
theorem hil1 {i k : Nat} (hi : i ≤ 1000) (hk : k ≤ 1000) : impl_HilbertMatrix_1_v (i : Int) (k : Int) = hbl (i + k) := by
  unfold impl_HilbertMatrix_1_v hbl
  rw [w64 (n := ((i : Int) + (k : Int))) (by omega) (by omega), w64 (by omega) (by omega), Int.natCast_add]
theorem hil_run {n : Nat} (n1 : 1 ≤ n) (hn : n ≤ 6) : impl_HilbertMatrix_g n = some (.inr ((n : Int), (n : Int), hbL n)) := by
  have : impl_made_i2_l0_g n n n n ((0 : Int), List.replicate (n * n) 0) = some (hbL n) := by
    refine made_gen (T0 := fun s => (impl_made_i2_l0_T n n n n s).run) (T2 := fun i s => (impl_made_i2_l2_T n i n n s).run) (n := n) (m := n) ?_ ?_ ?_ ?_
    · intro i k s hi hk hs
      simp only [impl_made_i2_l2_T, Tree.run, lt_nat, hk, decide_true, if_true, hil1 (show i ≤ 1000 by omega) (show k ≤ 1000 by omega), setR hi hk (show n ≤ 12 by omega) (show n ≤ 12 by omega) hs, Option.bind_some, atw hi hk (show n ≤ 12 by omega) (show n ≤ 12 by omega), Int.toNat_natCast, List.length_set, w1 (show k ≤ 1000 by omega)]
    · intro i s hi; simp [impl_made_i2_l2_T, Tree.run]
    · intro i s s' hi h
      have h' : impl_made_i2_l2_g n i n n ((0 : Int), s) = some s' := h
      simp only [impl_made_i2_l0_T, Tree.run, lt_nat, hi, decide_true, if_true, h', Option.bind_some, w1 (show i ≤ 1000 by omega)]
    · intro s; simp [impl_made_i2_l0_T, Tree.run]
  have h1 : decide ((1 : Int) ≤ ((n : Nat) : Int)) = true := decide_eq_true (by omega)
  have h2 : decide (((n : Nat) : Int) ≤ 12) = true := decide_eq_true (by omega)
  simp only [impl_HilbertMatrix_g, impl_HilbertMatrix_T, impl_made_i2_g, impl_made_i2_T, Tree.run, impl_isSide_v, inR, h1, h2, Bool.and_self, Bool.not_true, Bool.false_eq_true, if_false, newR (show n ≤ 12 by omega) (show n ≤ 12 by omega), mulw (show n ≤ 12 by omega) (show n ≤ 12 by omega), Int.toNat_natCast, this, Option.bind_some, if_true]
theorem hil_ok {n : Nat} (n1 : 1 ≤ n) (hn : n ≤ 6) : impl_ValidMatrix_g n n (hbL n) = some true := by
  have hnn : n * n ≤ 6 * 6 := Nat.mul_le_mul hn hn
  rw [vmI _ _ _ (by rw [hbL_len]; unfold maxN; omega), vm_nat n1 (by omega) n1 (by omega) (hbL_len n), hbL_fin hn]
theorem hil_flip {n : Nat} (n1 : 1 ≤ n) (hn : n ≤ 6) : impl_FlipMatrix_g n n (hbL n) = some (.inr ((n : Int), (n : Int), hbL n)) := by
  have hf := flipI (n := n) (m := n) (q := hbL n) (by omega) (by omega) (hbL_len n)
  have e : flipL n n (hbL n) = hbL n := by
    unfold flipL
    conv => rhs; unfold hbL
    exact rc_congr fun i k hi hk => by rw [hbL_nth hk hi, Nat.add_comm]
  rw [e] at hf
  simp only [impl_FlipMatrix_g, impl_FlipMatrix_T, Tree.run, hil_ok n1 hn, hf, Option.bind_some, Bool.not_true, Bool.false_eq_true, if_false]
theorem nan_of {x : Nat} (h : sfin x = true) : isNan .f32 x = false := by
  rw [sfin_iff] at h
  unfold isNum at h
  unfold isNan
  cases hd : FloatKind.f32.decode x with
  | number s m i => rfl
  | infinity s => rw [hd] at h; cases h
  | nan s p => rw [hd] at h; cases h
theorem isn_of {x : Nat} (h : sfin x = true) : isn single x := by
  rw [sfin_iff] at h
  unfold isNum at h
  have e : FloatKind.f32.decode x = single.read x := rfl
  rw [e] at h
  cases hd : single.read x with
  | number s m i => exact ⟨s, m, i, hd⟩
  | infinity s => rw [hd] at h; cases h
  | nan s p => rw [hd] at h; cases h
theorem same1 {x : Nat} (h : sfin x = true) : impl_SameNumber_g x x = some true := by
  have hn := feq_self (nan_of h)
  obtain ⟨s, m, i, hw⟩ := (wid_val (isn_of h)).1
  have hs : isNan .f64 (wid x) = false := by
    unfold isNan
    show (double.read (wid x)).isNaN = false
    rw [hw]; rfl
  simp only [impl_SameNumber_g, impl_SameNumber_T, math_Signbit_g, math_Signbit_T, Tree.run, hn, hs, Bool.not_true, Bool.not_false, Bool.false_eq_true, if_false, if_true, Option.bind_some, beq_self_eq_true]
theorem same_run {n : Nat} {xs : List Nat} (hx : xs.all sfin = true) (hl : xs.length ≤ 1000) (c d : Int) : impl_SameMatrix_g c d xs c d xs = some true := by
  have : slices_EqualFunc_float32_float32_float32_float32_l0_g xs xs (0 : Int) = some (.inr ()) :=
    whileM_fix (T := fun st => (slices_EqualFunc_float32_float32_float32_float32_l0_T xs xs st).run) (n := xs.length) (r := .inr ()) (fun k => ((k : Nat) : Int)) (fun k hk => by
      have hf : sfin (nth xs k) = true := by rw [nth_of _ _ hk]; exact List.all_eq_true.1 hx _ (List.getElem_mem hk)
      simp only [slices_EqualFunc_float32_float32_float32_float32_l0_T, Tree.run, lt_nat, inb_nat, hk, decide_true, if_true, Int.toNat_natCast, same1 hf, Option.bind_some, Bool.not_true, Bool.false_eq_true, if_false, w_succ (show k < 4611686018427387904 by omega)])
      (by simp only [slices_EqualFunc_float32_float32_float32_float32_l0_T, Tree.run, lt_nat, Nat.lt_irrefl, decide_false, Bool.false_eq_true, if_false])
  simp only [impl_SameMatrix_g, impl_SameMatrix_T, impl_sameNumbers_g, impl_sameNumbers_T, slices_EqualFunc_float32_float32_float32_float32_g, slices_EqualFunc_float32_float32_float32_float32_T, Tree.run, decide_true, Bool.not_true, Bool.false_eq_true, if_false, if_true, this, Option.bind_some]
theorem sym_run {n : Nat} (n1 : 1 ≤ n) (hn : n ≤ 6) : impl_IsSymmetric_g n n (hbL n) = some true := by
  have row : ∀ i, i < n → impl_IsSymmetric_l2_g n (hbL n) i (0 : Int) = some (.inr ()) := fun i hi =>
    whileM_fix (T := fun st => (impl_IsSymmetric_l2_T n (hbL n) i st).run) (n := i) (r := .inr ()) (fun k => ((k : Nat) : Int)) (fun k hk => by
      have a1 := atI (n := n) (m := n) (M := hbL n) hi (show k < n by omega) (by omega) (by omega) (hbL_len n)
      have a2 := atI (n := n) (m := n) (M := hbL n) (show k < n by omega) hi (by omega) (by omega) (hbL_len n)
      rw [hbL_nth hi (by omega)] at a1
      rw [hbL_nth (by omega) hi, Nat.add_comm] at a2
      have hs := nan_of (hbl_fin (j := i + k) (by omega))
      obtain ⟨x, hx⟩ : ∃ x, x = hbl (i + k) := ⟨_, rfl⟩
      rw [← hx] at a1 a2 hs
      replace hs := feq_self hs
      clear hx
      simp only [impl_IsSymmetric_l2_T, Tree.run, lt_nat, hk, decide_true, if_true, a1, a2, hs, Option.bind_some, Bool.not_true, Bool.false_eq_true, if_false, w_succ (show k < 4611686018427387904 by omega)])
      (by simp only [impl_IsSymmetric_l2_T, Tree.run, lt_nat, Nat.lt_irrefl, decide_false, Bool.false_eq_true, if_false])
  have : impl_IsSymmetric_l0_g n n (hbL n) (0 : Int) = some (.inr ()) :=
    whileM_fix (T := fun st => (impl_IsSymmetric_l0_T n n (hbL n) st).run) (n := n) (r := .inr ()) (fun k => ((k : Nat) : Int)) (fun i hi => by
      simp only [impl_IsSymmetric_l0_T, Tree.run, lt_nat, hi, decide_true, if_true, row i hi, Option.bind_some, w_succ (show i < 4611686018427387904 by omega)])
      (by simp only [impl_IsSymmetric_l0_T, Tree.run, lt_nat, Nat.lt_irrefl, decide_false, Bool.false_eq_true, if_false])
  simp only [impl_IsSymmetric_g, impl_IsSymmetric_T, impl_isSquare_g, impl_isSquare_T, Tree.run, hil_ok n1 hn, decide_true, Option.bind_some, if_true, Bool.not_true, Bool.false_eq_true, if_false, this]
theorem norms_join {v1 v2 : List Int} {n m f1 f2 : Int} {A Vv P F : List Nat} {r c w fr most size : Nat} {x s sa sb y k : Int} {B1 B2 B3 B4 H H2 : List Nat} {b1 b2 b3 b4 b5 b6 b7 b8 h1 h2 : Int}
    (hb : laws_r8Long_v v1 v2 = false) (hM : spec_R8Matrix_g v1 = some (n, m, A)) (hrow : impl_RowNorm_g n m A = some (.inr r)) (hcol : impl_ColumnNorm_g n m A = some (.inr c)) (hwh : impl_WholeNorm_g n m A = some (.inr w))
    (hflip : impl_FlipMatrix_g n m A = some (.inr (f1, f2, F))) (hfr : impl_RowNorm_g f1 f2 F = some (.inr fr)) (hV : spec_R8Vector_g v2 m = some Vv) (htm : impl_TimesVector_g n m A Vv = some (.inr P))
    (hself : feq .f32 fr c = true) (hlen2 : decide (((P.length : Nat) : Int) = n) = true) (hl0 : laws_FnNorms_l0_g r c w n m Vv P A ((0 : Nat), (0 : Int)) = some most) (hl2 : laws_FnNorms_l2_g r c w most n m Vv P A ((0 : Nat), (0 : Int)) = some size)
    (hl4 : laws_FnNorms_l4_g r c w most size n m P A (0 : Int) = some (.inr ())) (t1 : fless .f64 (wid r) most = false) (t2 : fless .f64 (wid c) most = false) (t3 : fless .f64 (wid w) (fsub .f64 most 4562254508917369340) = false)
    (t4 : fgrt .f64 (wid r) (fadd .f64 (fmul .f64 most (fofint .f64 m)) 4562254508917369340) = false) (t5 : fgrt .f64 (fmul .f64 (wid w) (wid w)) (fadd .f64 (fmul .f64 (fmul .f64 (wid r) (wid c)) 4617315517961601024) 4576918229304087675) = false)
    (x1 : laws_r8At_g v2 40 256 = some x) (hs : IntKind.i64.wrap ((IntKind.i64.wrap (x * (7919 : Int))) + (5 : Int)) = s)
    (g1 : impl_DrawnMatrix_g 2 3 s = some (.inr (b1, b2, sb, B1))) (g2 : impl_DrawnMatrix_g 3 2 s = some (.inr (b3, b4, sb, B2))) (g3 : impl_DrawnMatrix_g 1 3 s = some (.inr (b5, b6, sa, B3))) (g4 : impl_DrawnMatrix_g 1 3 sa = some (.inr (b7, b8, sb, B4)))
    (l1 : decide (((B1.length : Nat) : Int) = 6) = true) (l2 : decide (((B2.length : Nat) : Int) = 6) = true) (l3 : decide (((B3.length : Nat) : Int) = 3) = true) (l4 : decide (((B4.length : Nat) : Int) = 3) = true)
    (hl6 : laws_FnNorms_l6_g b1 b2 b3 b4 b5 b6 b7 b8 B1 B2 B3 B4 (0 : Int) = some (.inr ())) (y1 : laws_r8At_g v2 41 6 = some y) (hk : IntKind.i64.wrap ((1 : Int) + y) = k)
    (p1 : impl_HilbertMatrix_g k = some (.inr (k, k, H))) (p2 : impl_FlipMatrix_g k k H = some (.inr (h1, h2, H2))) (p3 : impl_SameMatrix_g k k H h1 h2 H2 = some true) (p7 : inb (0 : Int) H.length = true) (p5 : feq .f32 (nth H (Int.toNat (0 : Int))) 1065353216 = true) (p4 : impl_IsSymmetric_g k k H = some true) :
    laws_FnNorms_g v1 v2 = some true := by

  simp only [laws_FnNorms_g, laws_FnNorms_T, Tree.run, hb, Bool.false_eq_true, if_false, hM, hrow, hcol, hwh, hflip, hfr, hV, htm, hself, hlen2, hl0, hl2, hl4, t1, t2, t3, t4, t5, x1, hs, g1, g2, g3, g4, l1, l2, l3, l4, hl6, y1, hk, p1, p2, p3, p4, p5, p7, decide_true, Option.bind_some, if_true, Bool.not_true, Bool.not_false]
theorem norms_law (v1 : List Int) (v2 : List Int) (h1 : v1.length ≤ maxN) (w1 : ∀ x ∈ v1, 0 ≤ x ∧ x < 256) (h2 : v2.length ≤ maxN) (w2 : ∀ x ∈ v2, 0 ≤ x ∧ x < 256) : laws_FnNorms_g v1 v2 = some true := by
  cases hb : laws_r8Long_v v1 v2 with
  | true => simp only [laws_FnNorms_g, laws_FnNorms_T, Tree.run, hb, if_true]
  | false =>
    have hlen : v1.length ≤ 48 ∧ v2.length ≤ 48 := by
      unfold laws_r8Long_v at hb
      split at hb
      · cases hb
      · rename_i q1
        simp only [decide_eq_true_eq] at q1
        simp only [decide_eq_false_iff_not] at hb
        omega
    have b1 : Byt v1 := w1
    have b2 : Byt v2 := w2
    obtain ⟨n, m, q, n1, n5, m1, m5, hq, hM⟩ := mat_ok b1 (by omega)
    have hM : spec_R8Matrix_g v1 = some ((n : Int), (m : Int), qM n m q) := hM
    have hq' : ∀ i k, Sm ((fun i k => q k i) i k) := fun i k => hq k i
    obtain ⟨v, hv, hV⟩ := vec_ok b2 (by omega) m (by omega)
    have hV : spec_R8Vector_g v2 (m : Int) = some (qV m v) := hV
    have hrow := rowN_run hq n1 n5 m1 m5
    have hcol := colN_run hq n1 n5 m1 m5
    obtain ⟨w, d, hwh, d0, d1, d2, d3, d4, d5, d6⟩ := whole_run hq n1 n5 m1 m5
    have hflip := flip_run hq n1 n5 m1 m5
    have hfr := rowN_run hq' m1 m5 n1 n5
    have htm := times_run hq hv n1 n5 m1 m5
    obtain ⟨e1, e2, e3, e4, e5, e6, e7, e8, e9⟩ := norms_el hq n1 n5 m1 m5
    have hnm : n * m ≤ 5 * 5 := Nat.mul_le_mul n5 m5
    obtain ⟨R, hR⟩ : ∃ R, R = mS q m n := ⟨_, rfl⟩
    obtain ⟨C, hC⟩ : ∃ C, C = mS (fun i k => q k i) n m := ⟨_, rfl⟩
    obtain ⟨M, hMx⟩ : ∃ M, M = mx (fl m q) (n * m) := ⟨_, rfl⟩
    obtain ⟨Z, hZ⟩ : ∃ Z, Z = mx v m := ⟨_, rfl⟩
    rw [← hR] at hrow e1 e5 e6 e8
    rw [← hC] at hcol hfr e2 e5 e9
    rw [← hMx] at e1 e2 e3 e4 e6
    have hZ16 : Z ≤ 16 := by rw [hZ]; exact mx_le _ fun k _ => by obtain ⟨a, b⟩ := hv k; omega
    have hself : feq .f32 (W4 (C : Nat) (-2)) (W4 (C : Nat) (-2)) = true := feq_self (is_num4 (W4_isp (by omega) (by omega) (by omega)).is)
    have hl0 := most_run (a := fl m q) (fun p => hq _ _) (xs := qM n m q) (N := n * m) (qM_len _ _ _) (by omega) (fun k hk => qM_flat q hk) (W4 (R : Nat) (-2)) (W4 (C : Nat) (-2)) w n m (qV m v) (qP n m q v)
    have hl2 := size_run (a := v) hv (xs := qV m v) (N := m) (qV_len _ _) (by omega) (fun k hk => qV_nth v hk) (W4 (R : Nat) (-2)) (W4 (C : Nat) (-2)) w (W8 (M : Nat) (-2)) n m (qP n m q v) (qM n m q)
    rw [← hMx] at hl0
    rw [← hZ] at hl2
    have hl4 := bound_run (b := fun i => dS (q i) v m) (R := R) (Z := Z) e8 hZ16 (xs := qP n m q v) (N := n) (qP_len _ _ _ _) (by omega) (fun k hk => by unfold qP; rw [nth_map_range _ _ _ hk]) (fun k hk => by
      have a1 := dS_up (q := q) (i := k) (a := q k) (v := v) (Z := Z) (fun _ => rfl) m (fun j hj => by rw [hZ]; exact mx_ge m j hj)
      have a2 := mS_ge q m n k hk
      rw [← hR] at a2
      exact Nat.le_trans a1 (Nat.mul_le_mul_right _ a2)) (W4 (C : Nat) (-2)) w (W8 (M : Nat) (-2)) n m (qM n m q)
    have wR : wid (W4 (R : Nat) (-2)) = W8 (R : Nat) (-2) := wid_W (by omega) (by omega) (by omega)
    have wC : wid (W4 (C : Nat) (-2)) = W8 (C : Nat) (-2) := wid_W (by omega) (by omega) (by omega)
    have t1 : fless .f64 (W8 (R : Nat) (-2)) (W8 (M : Nat) (-2)) = false := by
      rw [less8 (W8_isp (z := (R : Nat)) (p := -2) (by omega) (by omega) (by omega)).is (W8_isp (z := (M : Nat)) (p := -2) (by omega) (by omega) (by omega)).is]
      exact decide_eq_false (by omega)
    have t2 : fless .f64 (W8 (C : Nat) (-2)) (W8 (M : Nat) (-2)) = false := by
      rw [less8 (W8_isp (z := (C : Nat)) (p := -2) (by omega) (by omega) (by omega)).is (W8_isp (z := (M : Nat)) (p := -2) (by omega) (by omega) (by omega)).is]
      exact decide_eq_false (by omega)
    have t3 := lawC (M := M) d0 d1 d4 d6 e3 e4
    have t4 := lawB (R := R) (M := M) (m := m) e3 (by omega) e6
    have t5 := lawD (R := R) (C := C) d0 d1 d2 d3 d5 d6 e8 e9 e5
    obtain ⟨x, x1, x2, x3⟩ := r8At_ok b2 (by omega) 40 256 (by omega) (by omega)
    obtain ⟨y, y1, y2, y3⟩ := r8At_ok b2 (by omega) 41 6 (by omega) (by omega)
    obtain ⟨s, hs⟩ : ∃ s, s = IntKind.i64.wrap ((IntKind.i64.wrap (x * (7919 : Int))) + (5 : Int)) := ⟨_, rfl⟩
    have hs2 : 0 ≤ s ∧ s ≤ 2147483647 := by
      rw [hs, w64 (n := x * 7919) (by omega) (by omega), w64 (by omega) (by omega)]; omega
    obtain ⟨s0, s1⟩ := hs2
    have g1 := drawn_run (n := 2) (m := 3) (by omega) (by omega) (by omega) (by omega) s0 s1
    have g2 := drawn_run (n := 3) (m := 2) (by omega) (by omega) (by omega) (by omega) s0 s1
    have g3 := drawn_run (n := 1) (m := 3) (by omega) (by omega) (by omega) (by omega) s0 s1
    obtain ⟨u0, u1⟩ := sqs_ok s0 s1 3
    have g4 := drawn_run (n := 1) (m := 3) (by omega) (by omega) (by omega) (by omega) u0 u1
    rw [sqs_add] at g4
    have g1 : impl_DrawnMatrix_g 2 3 s = some (.inr (2, 3, sqs s 6, drL 2 3 s)) := g1
    have g2 : impl_DrawnMatrix_g 3 2 s = some (.inr (3, 2, sqs s 6, drL 3 2 s)) := g2
    have g3 : impl_DrawnMatrix_g 1 3 s = some (.inr (1, 3, sqs s 3, drL 1 3 s)) := g3
    have g4 : impl_DrawnMatrix_g 1 3 (sqs s 3) = some (.inr (1, 3, sqs s 6, drL 1 3 (sqs s 3))) := g4
    have l1 : decide ((((drL 2 3 s).length : Nat) : Int) = 6) = true := decide_eq_true (by rw [show (drL 2 3 s).length = 6 from rc_length _ _ _]; rfl)
    have l2 : decide ((((drL 3 2 s).length : Nat) : Int) = 6) = true := decide_eq_true (by rw [show (drL 3 2 s).length = 6 from rc_length _ _ _]; rfl)
    have l3 : decide ((((drL 1 3 s).length : Nat) : Int) = 3) = true := decide_eq_true (by rw [show (drL 1 3 s).length = 3 from rc_length _ _ _]; rfl)
    have l4 : decide ((((drL 1 3 (sqs s 3)).length : Nat) : Int) = 3) = true := decide_eq_true (by rw [show (drL 1 3 (sqs s 3)).length = 3 from rc_length _ _ _]; rfl)
    have hl6 := comp_run s0 s1 2 3 3 2 1 3 1 3
    obtain ⟨k, hk⟩ : ∃ k : Nat, IntKind.i64.wrap ((1 : Int) + y) = (k : Int) ∧ 1 ≤ k ∧ k ≤ 6 := ⟨(1 + y).toNat, by rw [w64 (by omega) (by omega)]; omega, by omega, by omega⟩
    obtain ⟨hk, k1, k6⟩ := hk
    have p1 := hil_run k1 k6
    have p2 := hil_flip k1 k6
    have hkk : k * k ≤ 6 * 6 := Nat.mul_le_mul k6 k6
    have p3 := same_run (n := k) (xs := hbL k) (hbL_fin k6) (by rw [hbL_len]; omega) k k
    have p4 := sym_run k1 k6
    have p5 : nth (hbL k) 0 = 1065353216 := by
      have := hbL_nth (n := k) (i := 0) (k := 0) (by omega) (by omega)
      rw [Nat.zero_mul] at this
      rw [this]; exact hbl_one
    have p6 : feq .f32 1065353216 1065353216 = true := by kernel_rfl
    have p7 : inb (0 : Int) (hbL k).length = true := inb_iff.2 ⟨by omega, by rw [hbL_len]; have := Nat.mul_le_mul k1 k1; omega⟩
    have hlen2 : decide ((((qP n m q v).length : Nat) : Int) = ((n : Nat) : Int)) = true := decide_eq_true (by rw [qP_len])
    rw [← wR] at t1 t4
    rw [← wC] at t2
    rw [← wR, ← wC] at t5
    have p5 : feq .f32 (nth (hbL k) (Int.toNat (0 : Int))) 1065353216 = true := by
      show feq .f32 (nth (hbL k) 0) 1065353216 = true
      rw [p5]; exact p6
    exact norms_join hb hM hrow hcol hwh hflip hfr hV htm hself hlen2 hl0 hl2 hl4 t1 t2 t3 t4 t5 x1 hs.symm g1 g2 g3 g4 l1 l2 l3 l4 hl6 y1 hk p1 p2 p3 p7 p5 p4
theorem norms_lawL (a b : Nat) (ha : a < 9223372036854775808) (hb : b < 9223372036854775808) (big : maxN < a ∨ maxN < b) : laws_FnNorms_len_g a b = some true := by
  have : laws_r8Long_len_v a b = true := by
    unfold maxN at big
    unfold laws_r8Long_len_v
    by_cases h : (48 : Int) < ((a : Nat) : Int)
    · rw [if_pos (decide_eq_true h)]
    · rw [if_neg (by simpa using h)]; exact decide_eq_true (by omega)
  simp only [laws_FnNorms_len_g, laws_FnNorms_len_T, Tree.run, this, if_true]
end Go.Proofs.Ytbnakafnaeafiaa.AM
