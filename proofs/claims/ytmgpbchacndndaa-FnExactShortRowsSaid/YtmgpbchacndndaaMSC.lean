/- GV4 GV5 GV6 GS0 GS1 GS2 QShortRows -/
import Derived.Test.YtmgpbchacndndaaMSA
import Derived.Test.YtmgpbchacndndaaBase
import Derived.Test.YtmgpbchacndndaaMSB
set_option linter.unusedSimpArgs false
set_option linter.unusedVariables false
set_option maxHeartbeats 2000000
namespace Go.Proofs.Ytmgpbchacndndaa.AM
open Ieee

theorem dn_pos (n d : Nat) : Toward.down.cut false n d * 2 ^ d ≤ n ∧ n < (Toward.down.cut false n d + 1) * 2 ^ d := by
  unfold Toward.cut
  simp only [Bool.false_and, Bool.toNat_false, Nat.add_zero, Nat.one_shiftLeft]
  by_cases hd : d ≤ n.log2 + 2
  · rw [Nat.min_eq_left hd]
    have h1 := Nat.div_add_mod n (2 ^ d)
    have h2 := Nat.mod_lt n (Nat.two_pow_pos d)
    rw [Nat.mul_comm] at h1
    rw [Nat.add_mul, Nat.one_mul]; omega
  · rw [Nat.min_eq_right (by omega)]
    have h1 : n < 2 ^ (n.log2 + 1) := by
      by_cases h0 : n = 0
      · rw [h0]; exact Nat.two_pow_pos _
      · exact pow_lt_log h0
    have h2 : 2 ^ (n.log2 + 1) ≤ 2 ^ (n.log2 + 2) := Nat.pow_le_pow_right (by decide) (by omega)
    have h3 : 2 ^ (n.log2 + 2) ≤ 2 ^ d := Nat.pow_le_pow_right (by decide) (by omega)
    rw [Nat.div_eq_of_lt (by omega)]; omega
theorem dn_neg (n d : Nat) : n ≤ Toward.down.cut true n d * 2 ^ d ∧ Toward.down.cut true n d * 2 ^ d < n + 2 ^ d := by
  unfold Toward.cut
  simp only [Bool.true_and, Nat.one_shiftLeft]
  have hp := Nat.two_pow_pos d
  by_cases hd : d ≤ n.log2 + 2
  · rw [Nat.min_eq_left hd]
    have h1 := Nat.div_add_mod n (2 ^ d)
    have h2 := Nat.mod_lt n (Nat.two_pow_pos d)
    rw [Nat.mul_comm] at h1
    by_cases c : n % 2 ^ d = 0
    · rw [c]; simp only [bne_self_eq_false, Bool.toNat_false, Nat.add_zero]; omega
    · rw [show (n % 2 ^ d != 0) = true by simp [c]]
      simp only [Bool.toNat_true, Nat.add_mul, Nat.one_mul]; omega
  · rw [Nat.min_eq_right (by omega)]
    have h1 : n < 2 ^ (n.log2 + 1) := by
      by_cases h0 : n = 0
      · rw [h0]; exact Nat.two_pow_pos _
      · exact pow_lt_log h0
    have h2 : 2 ^ (n.log2 + 1) ≤ 2 ^ (n.log2 + 2) := Nat.pow_le_pow_right (by decide) (by omega)
    have h3 : 2 ^ (n.log2 + 2) ≤ 2 ^ d := Nat.pow_le_pow_right (by decide) (by omega)
    rw [Nat.div_eq_of_lt (by omega), Nat.mod_eq_of_lt (by omega)]
    by_cases c : n = 0
    · rw [c]; simp; exact hp
    · rw [show (n != 0) = true by simp [c]]
      simp only [Bool.toNat_true, Nat.zero_add, Nat.one_mul]; omega
theorem zr_cut (s : Bool) (K d : Nat) : Toward.zero.cut s (K * 2 ^ d) d = K := by
  unfold Toward.cut
  simp only [Bool.toNat_false, Nat.add_zero, Nat.one_shiftLeft]
  by_cases h0 : K = 0
  · rw [h0, Nat.zero_mul, Nat.zero_div]
  · have : d ≤ (K * 2 ^ d).log2 + 2 := by rw [log_mul h0]; omega
    rw [Nat.min_eq_left this, Nat.mul_div_cancel _ (Nat.two_pow_pos d)]
/-- m * 2 ^ i, cut into a whole number of 2 ^ -d. -/
theorem shl_val (m : Nat) (i : Int) : ((m <<< i.toNat : Nat) : Rat) = (m : Rat) * P2 i * P2 ((-i).toNat : Int) := by
  rw [Nat.shiftLeft_eq, Rat.natCast_mul, ← P2_nat, Rat.mul_assoc, ← P2_add]
  congr 2; omega
theorem whole_back (s : Bool) {K : Nat} (hK : K < 9007199254740992) : ∃ m i, double.read (double.nearest s K 0) = .number s m i ∧ (m : Rat) * P2 i = (K : Rat) := by
  by_cases h0 : K = 0
  · subst h0
    rw [nearest_zero]
    have hb : 0 < double.binade := Nat.two_pow_pos _
    obtain ⟨g1, g2⟩ := read_word double s (r := 0) (by rw [t1]; decide)
    refine ⟨0, double.leastPlace, ?_, ?_⟩
    · unfold Format.read
      dsimp only
      rw [g1, g2, if_pos hb]
    · have : ((0 : Nat) : Rat) = 0 := rfl
      rw [this]; grind
  · have hL : K.log2 ≤ 52 := log_le (by omega)
    have hf : double.fractionBits = 52 := rfl
    obtain ⟨k, i, h1, _, _, h4⟩ := near_val double s h0 0 (by
      rw [t2, t3, t4, hf]
      have h2 : (max ((0 : Int) + (K.log2 : Int) - ((52 : Nat) : Int)) (-1074) - -1074).toNat + 3 ≤ 2047 := by omega
      exact Nat.mul_le_mul_right 4503599627370496 h2) (by rw [t1, t3]; decide)
    refine ⟨k, i, h1, ?_⟩
    rw [h4 (by rw [t4, hf]; omega), P2_zero]; grind
theorem floor_val {z : Nat} (hz : N8 z) (h1 : V8 z ≤ 1000000000) (h2 : -V8 z ≤ 1000000000) : ∃ q : Int, isNan .f64 z = false ∧ ftoint .f64 (ffloor z) .i64 = some q ∧ (q : Rat) ≤ V8 z ∧ V8 z < (q : Rat) + 1 := by
  obtain ⟨s, m, i, hr⟩ := hz
  have hv : V8 z = (if s then -(m : Rat) else (m : Rat)) * P2 i := by show val (double.read z) = _; rw [hr]; rfl
  have hnan : isNan .f64 z = false := by
    unfold isNan
    show (double.read z).isNaN = false
    rw [hr]; rfl
  obtain ⟨n, hn⟩ : ∃ n, n = m <<< i.toNat := ⟨_, rfl⟩
  obtain ⟨d, hd⟩ : ∃ d, d = (-i).toNat := ⟨_, rfl⟩
  obtain ⟨K, hK⟩ : ∃ K, K = Toward.down.cut s n d := ⟨_, rfl⟩
  have hsh := shl_val m i
  rw [← hn, ← hd] at hsh
  have hdp := P2_pos (d : Int)
  have hd2 : ((2 ^ d : Nat) : Rat) = P2 (d : Int) := (P2_nat d).symm
  have hm0 := mag_pos m i
  -- K is small, and the floor
  have key : ∃ q : Int, signed s K 0 = q ∧ (q : Rat) ≤ V8 z ∧ V8 z < (q : Rat) + 1 := by
    refine ⟨_, rfl, ?_⟩
    rw [signed_rat, show ((0 : Nat) : Int) = 0 from rfl, P2_zero, hv]
    cases s with
    | false =>
      obtain ⟨c1, c2⟩ := dn_pos n d
      rw [← hK] at c1 c2
      have c1 := Rat.natCast_le_natCast.2 c1
      have c2 := Rat.natCast_lt_natCast.2 c2
      simp only [Rat.natCast_mul, Rat.natCast_add, hd2] at c1 c2
      have o1 : ((1 : Nat) : Rat) = 1 := rfl
      rw [o1] at c2
      rw [hsh] at c1 c2
      simp only [Bool.false_eq_true, if_false]
      refine ⟨?_, ?_⟩
      · have := Rat.le_of_mul_le_mul_right c1 hdp; grind
      · have := Rat.lt_of_mul_lt_mul_right c2 (Rat.le_of_lt hdp); grind
    | true =>
      obtain ⟨c1, c2⟩ := dn_neg n d
      rw [← hK] at c1 c2
      have c1 := Rat.natCast_le_natCast.2 c1
      have c2 := Rat.natCast_lt_natCast.2 c2
      simp only [Rat.natCast_mul, Rat.natCast_add, hd2] at c1 c2
      rw [hsh] at c1 c2
      simp only [if_true]
      have c2' : (K : Rat) * P2 (d : Int) < ((m : Rat) * P2 i + 1) * P2 (d : Int) := by grind
      refine ⟨?_, ?_⟩
      · have := Rat.le_of_mul_le_mul_right c1 hdp; grind
      · have := Rat.lt_of_mul_lt_mul_right c2' (Rat.le_of_lt hdp); grind
  obtain ⟨q, hq, q1, q2⟩ := key
  have hqb : -2000000000 ≤ q ∧ q ≤ 2000000000 := by
    have a1 : ((-2000000000 : Int) : Rat) ≤ (q : Rat) := by
      have : ((-2000000000 : Int) : Rat) = -2000000000 := rfl
      rw [this]; grind
    have a2 : (q : Rat) ≤ ((2000000000 : Int) : Rat) := by
      have : ((2000000000 : Int) : Rat) = 2000000000 := rfl
      rw [this]; grind
    exact ⟨Rat.intCast_le_intCast.1 a1, Rat.intCast_le_intCast.1 a2⟩
  have hKb : K < 9007199254740992 := by
    have e : signed s K 0 = (if s then -(K : Int) else (K : Int)) := by unfold signed; rw [Nat.shiftLeft_zero]
    rw [e] at hq
    cases s
    · simp only [Bool.false_eq_true, if_false] at hq; omega
    · simp only [if_true] at hq; omega
  obtain ⟨m', i', b1, b2⟩ := whole_back s hKb
  have hdec : FloatKind.f64.decode z = .number s m i := hr
  have hff : ffloor z = double.nearest s K 0 := by
    unfold ffloor
    rw [hdec]
    show canon .f64 (double.nearest s (Toward.down.cut s (m <<< i.toNat) (-i).toNat) 0) = _
    rw [← hn, ← hd, ← hK]
    exact canon8 ⟨_, _, _, b1⟩
  have hcut : m' <<< i'.toNat = K * 2 ^ (-i').toNat := by
    have := shl_val m' i'
    rw [b2, P2_nat, ← Rat.natCast_mul] at this
    exact Rat.natCast_inj.1 this
  refine ⟨q, hnan, ?_, q1, q2⟩
  unfold ftoint
  have hdec2 : FloatKind.f64.decode (ffloor z) = .number s m' i' := by rw [hff]; exact b1
  rw [hdec2]
  have hti : Datum.toInt .zero (.number s m' i') = some q := by
    unfold Datum.toInt Datum.integral
    dsimp only
    rw [hcut, zr_cut, hq]
  rw [hti]
  have l1 : IntKind.i64.min = -9223372036854775808 := by decide
  have l2 : IntKind.i64.max = 9223372036854775807 := by decide
  simp only [l1, l2]
  rw [if_pos ⟨by omega, by omega⟩]
/-- A whole number as a double. -/
theorem of_val {z : Int} (hz : z.natAbs < 9007199254740992) : N8 (fofint .f64 z) ∧ V8 (fofint .f64 z) = (z : Rat) := by
  obtain ⟨h1, h2⟩ := W8_val (z := z) (p := 0) hz (by omega) (by omega)
  have e : fofint .f64 z = W8 z 0 := by
    show canon .f64 (double.nearest (decide (z < 0)) z.natAbs 0) = _
    exact canon8 h1
  rw [e]
  exact ⟨h1, by rw [h2, P2_zero]; grind⟩
/-- Whole numbers, as rationals and as doubles. -/
def wq (w : Nat → Nat → Int) : Nat → Nat → Rat := fun i t => (w i t : Rat)
def xq (w : Nat → Nat → Int) : Nat → Nat → Nat := fun i t => fofint .f64 (w i t)
/-- Rows below k are reduced. -/
structure RInv (n c k : Nat) (M : Rat) (w : Nat → Nat → Int) (r mu : Nat → Nat → Rat) : Prop where
  dec : Dec n c (wq w) r mu
  max : ∀ i, i < n → dt c (r i) (r i) ≤ M
  par : ∀ i, i < k → ∀ j, j < i → mu i j ≤ 51 / 100 ∧ -mu i j ≤ 51 / 100
  lov : ∀ i, i + 1 < k → 9 * dt c (r i) (r i) ≤ 20 * dt c (r (i + 1)) (r (i + 1))
theorem sig_ex (R : Rat) : ∃ s : Rat, 1 / 2 ≤ s ∧ s ≤ 500 ∧ (1 / 5 ≤ R → R ≤ 65536 → R ≤ s * s ∧ s * s ≤ 4 * R) := by
  by_cases h0 : R ≤ 1 / 4
  · exact ⟨1 / 2, by grind, by grind, fun _ _ => ⟨by grind, by grind⟩⟩
  by_cases h1 : R ≤ 1
  · exact ⟨1, by grind, by grind, fun _ _ => ⟨by grind, by grind⟩⟩
  by_cases h2 : R ≤ 4
  · exact ⟨2, by grind, by grind, fun _ _ => ⟨by grind, by grind⟩⟩
  by_cases h3 : R ≤ 16
  · exact ⟨4, by grind, by grind, fun _ _ => ⟨by grind, by grind⟩⟩
  by_cases h4 : R ≤ 64
  · exact ⟨8, by grind, by grind, fun _ _ => ⟨by grind, by grind⟩⟩
  by_cases h5 : R ≤ 256
  · exact ⟨16, by grind, by grind, fun _ _ => ⟨by grind, by grind⟩⟩
  by_cases h6 : R ≤ 1024
  · exact ⟨32, by grind, by grind, fun _ _ => ⟨by grind, by grind⟩⟩
  by_cases h7 : R ≤ 4096
  · exact ⟨64, by grind, by grind, fun _ _ => ⟨by grind, by grind⟩⟩
  by_cases h8 : R ≤ 16384
  · exact ⟨128, by grind, by grind, fun _ _ => ⟨by grind, by grind⟩⟩
  · exact ⟨256, by grind, by grind, fun _ _ => ⟨by grind, by grind⟩⟩
/-- Sizes for all rows. -/
theorem sig_all (R : Nat → Rat) : ∃ si : Nat → Rat, ∀ j, 1 / 2 ≤ si j ∧ si j ≤ 500 ∧ (1 / 5 ≤ R j → R j ≤ 65536 → R j ≤ si j * si j ∧ si j * si j ≤ 4 * R j) :=
  ⟨fun j => Classical.choose (sig_ex (R j)), fun j => Classical.choose_spec (sig_ex (R j))⟩
theorem Near.mono {c : Nat} {y : Nat → Nat} {r : Nat → Rat} {si et et' : Rat} (h : Near c y r si et) (g : et ≤ et') : Near c y r si et' :=
  ⟨h.num, h.er.mono (Rat.mul_le_mul_of_nonneg_right g (by have := h.s1; grind)), h.lo, h.hi, h.s1, h.s2⟩
theorem sm3 (f : Nat → Rat) : sm 0 f = 0 ∧ sm 1 f = 0 + f 0 ∧ sm 2 f = 0 + f 0 + f 1 ∧ sm 3 f = 0 + f 0 + f 1 + f 2 := ⟨rfl, rfl, rfl, rfl⟩
theorem sq_part {m : Rat} (h1 : m ≤ 51 / 100) (h2 : -m ≤ 51 / 100) : m * m ≤ 27 / 100 := by
  rcases Rat.le_total (a := 0) (b := m) with h | h
  · have := sq_le h h1; grind
  · have := sq_le (show 0 ≤ -m by grind) h2; grind
/-- The upright parts are not small. -/
theorem RInv.low {n c k : Nat} {M : Rat} {w : Nat → Nat → Int} {r mu : Nat → Nat → Rat} (h : RInv n c k M w r mu) (hk : k ≤ 3) (h0 : 1 ≤ dt c (r 0) (r 0)) : ∀ j, j < k → 1 / 5 ≤ dt c (r j) (r j) := by
  intro j hj
  have a1 : 1 < k → 9 / 20 ≤ dt c (r 1) (r 1) := fun h1 => by have := h.lov 0 (by omega); grind
  have a2 : 2 < k → 1 / 5 ≤ dt c (r 2) (r 2) := fun h2 => by have := h.lov 1 (by omega); have := a1 (by omega); grind
  rcases Nat.lt_or_ge j 1 with g | g
  · rw [show j = 0 by omega]; grind
  · rcases Nat.lt_or_ge j 2 with g2 | g2
    · rw [show j = 1 by omega]; have := a1 (by omega); grind
    · rw [show j = 2 by omega]; exact a2 (by omega)
/-- A reduced row is not much longer than its upright part. -/
theorem RInv.row {n c k : Nat} {M : Rat} {w : Nat → Nat → Int} {r mu : Nat → Nat → Rat} (h : RInv n c k M w r mu) (hk : k ≤ 3) (hn : k ≤ n) {j : Nat} (hj : j < k) : dt c (wq w j) (wq w j) ≤ 4 * dt c (r j) (r j) := by
  rw [h.dec.norm (by omega)]
  obtain ⟨s0, s1, s2, _⟩ := sm3 fun l => mu j l * mu j l * dt c (r l) (r l)
  have n0 := dt_nn c (r 0)
  have n1 := dt_nn c (r 1)
  rcases Nat.lt_or_ge j 1 with g | g
  · obtain rfl : j = 0 := by omega
    rw [s0]; have := dt_nn c (r 0); grind
  · rcases Nat.lt_or_ge j 2 with g2 | g2
    · obtain rfl : j = 1 := by omega
      obtain ⟨p1, p2⟩ := h.par 1 hj 0 (by omega)
      have q := Rat.mul_le_mul_of_nonneg_right (sq_part p1 p2) n0
      have := h.lov 0 (by omega)
      rw [s1]; grind
    · obtain rfl : j = 2 := by omega
      obtain ⟨p1, p2⟩ := h.par 2 hj 0 (by omega)
      obtain ⟨p3, p4⟩ := h.par 2 hj 1 (by omega)
      have q := Rat.mul_le_mul_of_nonneg_right (sq_part p1 p2) n0
      have q2 := Rat.mul_le_mul_of_nonneg_right (sq_part p3 p4) n1
      have := h.lov 0 (by omega)
      have := h.lov 1 (by omega)
      rw [s2]; grind
theorem words {c : Nat} {w : Nat → Nat → Int} {i : Nat} {al : Rat} (h : Nb c (wq w i) al) (ha : al ≤ 1000000) : (∀ t, t < c → (w i t).natAbs ≤ 1000000) ∧ (∀ t, t < c → N8 (xq w i t)) ∧ ∀ t, t < c → V8 (xq w i t) = wq w i t := by
  have b : ∀ t, t < c → (w i t).natAbs ≤ 1000000 := fun t ht => by
    obtain ⟨h1, h2⟩ := h.comp ht
    have a1 : (w i t : Rat) ≤ ((1000000 : Int) : Rat) := by
      have : ((1000000 : Int) : Rat) = 1000000 := rfl
      rw [this]; show wq w i t ≤ _; grind
    have a2 : ((-1000000 : Int) : Rat) ≤ (w i t : Rat) := by
      have : ((-1000000 : Int) : Rat) = -1000000 := rfl
      rw [this]; show _ ≤ wq w i t; grind
    have := Rat.intCast_le_intCast.1 a1
    have := Rat.intCast_le_intCast.1 a2
    omega
  exact ⟨b, fun t ht => (of_val (by have := b t ht; omega)).1, fun t ht => (of_val (by have := b t ht; omega)).2⟩
theorem near_one {n c k : Nat} {M : Rat} {w : Nat → Nat → Int} {r mu : Nat → Nat → Rat} (hc : c ≤ 6) (h : RInv n c k M w r mu) (hk : k ≤ 3) (hn : k ≤ n) (hM : M ≤ 60000) (h0 : 1 ≤ dt c (r 0) (r 0)) {si : Nat → Rat}
    (hs : ∀ j, 1 / 2 ≤ si j ∧ si j ≤ 500 ∧ (1 / 5 ≤ dt c (r j) (r j) → dt c (r j) (r j) ≤ 65536 → dt c (r j) (r j) ≤ si j * si j ∧ si j * si j ≤ 4 * dt c (r j) (r j))) {j : Nat} (hj : j < k) {et et' : Rat} (et0 : 0 ≤ et) (et1 : et ≤ 1 / 100000)
    (hp : ∀ i, i < j → Near c (Bg (xq w) c i) (r i) (si i) et) (he : 2 * (j : Rat) * (1700 * E8 + 45 * et) ≤ et') : Near c (Bg (xq w) c j) (r j) (si j) et' ∧ Nb c (wq w j) (2 * si j) := by
  have hlo := h.low hk h0 j hj
  have hmx := h.max j (by omega)
  obtain ⟨s1, s2, s3⟩ := hs j
  obtain ⟨s4, s5⟩ := s3 hlo (by grind)
  have hrow := h.row hk hn hj
  have hNb : Nb c (wq w j) (2 * si j) := ⟨by grind, by grind⟩
  obtain ⟨_, x1, x2⟩ := words hNb (by grind)
  obtain ⟨g1, g2, g3⟩ := row_er hc (x := xq w j) (B := Bg (xq w) c) (u := wq w j) (r := r) (si := si) (mu := mu j) x1 x2 hNb (by grind) (by grind) et0 et1 (n := j) (by omega) hp (fun l hl => (h.dec.dot (by omega) hl).symm) j (Nat.le_refl _)
  refine ⟨⟨fun t ht => by rw [Bg_eq _ _ _ _ ht]; exact g1 t ht, (g2.congr fun t ht => ?_).mono ?_, s4, s5, by grind, by grind⟩, hNb⟩
  · rw [Bg_eq _ _ _ _ ht, h.dec.1 j (by omega) t ht]; grind
  · have := Rat.mul_le_mul_of_nonneg_right he (show 0 ≤ si j by grind)
    grind
/-- All reduced rows' upright parts are near, in doubles. -/
theorem near_all {n c k : Nat} {M : Rat} {w : Nat → Nat → Int} {r mu : Nat → Nat → Rat} (hc : c ≤ 6) (h : RInv n c k M w r mu) (hk : k ≤ 3) (hn : k ≤ n) (hM : M ≤ 60000) (h0 : 1 ≤ dt c (r 0) (r 0)) :
    ∃ si : Nat → Rat, ∀ j, j < k → 1 / 2 ≤ si j ∧ si j ≤ 500 ∧ Nb c (wq w j) (2 * si j) ∧ Near c (Bg (xq w) c j) (r j) (si j) (1 / 10000000000) := by
  obtain ⟨hE0, hE⟩ := E8_lin
  obtain ⟨si, hs⟩ := sig_all fun j => dt c (r j) (r j)
  have e0 : ((0 : Nat) : Rat) = 0 := rfl
  have e1 : ((1 : Nat) : Rat) = 1 := rfl
  have e2 : ((2 : Nat) : Rat) = 2 := rfl
  have r0 : 0 < k → Near c (Bg (xq w) c 0) (r 0) (si 0) 0 ∧ Nb c (wq w 0) (2 * si 0) := fun g => near_one hc h hk hn hM h0 hs g (et := 0) (by grind) (by grind) (fun i hi => by omega) (by rw [e0]; grind)
  have r1 : 1 < k → Near c (Bg (xq w) c 1) (r 1) (si 1) (3400 * E8) ∧ Nb c (wq w 1) (2 * si 1) := fun g => near_one hc h hk hn hM h0 hs g (et := 0) (by grind) (by grind) (fun i hi => by
    obtain rfl : i = 0 := by omega
    exact (r0 (by omega)).1) (by rw [e1]; grind)
  have r2 : 2 < k → Near c (Bg (xq w) c 2) (r 2) (si 2) (1 / 10000000000) ∧ Nb c (wq w 2) (2 * si 2) := fun g => near_one hc h hk hn hM h0 hs g (et := 3400 * E8) (by grind) (by grind) (fun i hi => by
    rcases Nat.lt_or_ge i 1 with g1 | g1
    · obtain rfl : i = 0 := by omega
      exact (r0 (by omega)).1.mono (by grind)
    · obtain rfl : i = 1 := by omega
      exact (r1 (by omega)).1) (by rw [e2]; grind)
  refine ⟨si, fun j hj => ?_⟩
  obtain ⟨s1, s2, _⟩ := hs j
  refine ⟨s1, s2, ?_⟩
  rcases Nat.lt_or_ge j 1 with g1 | g1
  · obtain rfl : j = 0 := by omega
    obtain ⟨a, b⟩ := r0 hj
    exact ⟨b, a.mono (by grind)⟩
  · rcases Nat.lt_or_ge j 2 with g2 | g2
    · obtain rfl : j = 1 := by omega
      obtain ⟨a, b⟩ := r1 hj
      exact ⟨b, a.mono (by grind)⟩
    · obtain rfl : j = 2 := by omega
      obtain ⟨a, b⟩ := r2 hj
      exact ⟨b, a⟩
theorem P2_neg {p : Int} {n : Nat} (h : p = -(n : Int)) : P2 p * ((2 ^ n : Nat) : Rat) = 1 := by
  rw [← P2_nat, ← P2_add, show p + (n : Int) = 0 by omega, P2_zero]
theorem cst_val {x m n : Nat} (h : double.read x = .number false m (-(n : Int))) : N8 x ∧ V8 x * ((2 ^ n : Nat) : Rat) = (m : Rat) := by
  refine ⟨⟨_, _, _, h⟩, ?_⟩
  have : V8 x = (m : Rat) * P2 (-(n : Int)) := by show val (double.read x) = _; rw [h]; rfl
  rw [this, Rat.mul_assoc, P2_neg rfl]; grind
theorem half_val : N8 4602678819172646912 ∧ V8 4602678819172646912 = 1 / 2 := by
  obtain ⟨h1, h2⟩ := cst_val (x := 4602678819172646912) (m := 4503599627370496) (n := 53) (by kernel_rfl)
  have e1 : ((2 ^ 53 : Nat) : Rat) = 9007199254740992 := rfl
  have e2 : ((4503599627370496 : Nat) : Rat) = 4503599627370496 := rfl
  rw [e1, e2] at h2
  generalize V8 4602678819172646912 = v at *
  exact ⟨h1, by grind⟩
theorem q75_val : N8 4604930618986332160 ∧ V8 4604930618986332160 = 3 / 4 := by
  obtain ⟨h1, h2⟩ := cst_val (x := 4604930618986332160) (m := 6755399441055744) (n := 53) (by kernel_rfl)
  have e1 : ((2 ^ 53 : Nat) : Rat) = 9007199254740992 := rfl
  have e2 : ((6755399441055744 : Nat) : Rat) = 6755399441055744 := rfl
  rw [e1, e2] at h2
  generalize V8 4604930618986332160 = v at *
  exact ⟨h1, by grind⟩
/-- A row's part, in doubles and in truth. -/
theorem part_near {c : Nat} (hc : c ≤ 6) {x y : Nat → Nat} {u r : Nat → Rat} {al si mu : Rat} (hx : ∀ t, t < c → N8 (x t)) (hxu : ∀ t, t < c → V8 (x t) = u t) (hu : Nb c u al) (al1 : 1 ≤ al) (al2 : al ≤ 60000) (hN : Near c y r si (1 / 10000000000)) (s1 : 1 / 2 ≤ si) (hmu : mu * dt c r r = dt c u r) :
    N8 (fpart x y c) ∧ (V8 (fpart x y c) - mu) * 100000000 ≤ al ∧ (mu - V8 (fpart x y c)) * 100000000 ≤ al ∧ V8 (fpart x y c) * si ≤ 3 * al ∧ -(V8 (fpart x y c) * si) ≤ 3 * al := by
  obtain ⟨hE0, hE⟩ := E8_lin
  obtain ⟨g1, g2, g3, g4, g5, _⟩ := step_er hc hx hxu hu hN.num hN.er rfl hN.lo hN.hi (by grind) hN.s2 (by grind) (by grind) (et := 1 / 10000000000) (by grind) (by grind) hmu
  have hk : al * (1600 * E8 + 40 * (1 / 10000000000)) ≤ al * (1 / 200000000) := Rat.mul_le_mul_of_nonneg_left (by grind) (by grind)
  have key : ∀ X : Rat, X * si ≤ al * (1 / 200000000) → X * 100000000 ≤ al := fun X h => by
    rcases Rat.le_total (a := X) (b := 0) with g | g
    · grind
    · have := Rat.mul_le_mul_of_nonneg_left s1 g
      grind
  exact ⟨g1, key _ (Rat.le_trans g2 hk), key _ (Rat.le_trans g3 hk), g4, g5⟩
def tkI (w : Nat → Nat → Int) (k j : Nat) (q : Int) : Nat → Nat → Int := fun i t => if i = k then w k t - q * w j t else w i t
theorem wq_tk (w : Nat → Nat → Int) (k j : Nat) (q : Int) : wq (tkI w k j q) = tk (wq w) k j (q : Rat) := by
  funext i t
  unfold wq tkI tk
  by_cases e : i = k
  · rw [if_pos e, if_pos e, Rat.intCast_sub, Rat.intCast_mul]
  · rw [if_neg e, if_neg e]
theorem red_step {n c k : Nat} {M : Rat} {w : Nat → Nat → Int} {r mu : Nat → Nat → Rat} (hc : c ≤ 6) (h : RInv n c k M w r mu) (hk : k ≤ 3) (hn : k < n) (hM : M ≤ 60000) (h0 : 1 ≤ dt c (r 0) (r 0)) {al : Rat} (hN : Nb c (wq w k) al) (al1 : 1 ≤ al) (al2 : al ≤ 60000) {j : Nat} (hj : j < k) :
    ∃ q : Int, isNan .f64 (fadd .f64 (fpart (xq w k) (Bg (xq w) c j) c) 4602678819172646912) = false ∧ ftoint .f64 (ffloor (fadd .f64 (fpart (xq w k) (Bg (xq w) c j) c) 4602678819172646912)) .i64 = some q ∧
      -1000000 ≤ q ∧ q ≤ 1000000 ∧ mu k j - q ≤ 51 / 100 ∧ (q : Rat) - mu k j ≤ 51 / 100 ∧ Nb c (wq (tkI w k j q) k) (7 * al + 1600) ∧ Nb c (wq w j) 1000 := by
  obtain ⟨hE0, hE⟩ := E8_lin
  have hbig := big1000
  obtain ⟨si, hsi⟩ := near_all hc h hk (by omega) hM h0
  obtain ⟨s1, s2, s3, s4⟩ := hsi j hj
  obtain ⟨_, x1, x2⟩ := words hN (by grind)
  obtain ⟨p1, p2, p3, p4, p5⟩ := part_near hc x1 x2 hN al1 al2 s4 s1 (h.dec.dot (by omega) hj).symm
  obtain ⟨c1, c2⟩ := half_val
  generalize fpart (xq w k) (Bg (xq w) c j) c = p at *
  have key : ∀ X : Rat, X * si j ≤ 3 * al → X ≤ 360000 := fun X h => by
    rcases Rat.le_total (a := X) (b := 0) with g | g
    · grind
    · have := Rat.mul_le_mul_of_nonneg_left s1 g
      grind
  have b1 := key _ p4
  have b2 := key (-V8 p) (by grind)
  obtain ⟨f1, f2, f3⟩ := fadd_er p1 c1 (B := 400000) (by rw [c2]; grind) (by rw [c2]; grind) (by grind)
  rw [c2] at f2 f3
  generalize fadd .f64 p 4602678819172646912 = f at *
  obtain ⟨q, q1, q2, q3, q4⟩ := floor_val f1 (by grind) (by grind)
  refine ⟨q, q1, q2, ?_, ?_, by grind, by grind, ?_, s3.mono (by grind)⟩
  · have : ((-1000000 : Int) : Rat) ≤ (q : Rat) := by
      have : ((-1000000 : Int) : Rat) = -1000000 := rfl
      rw [this]; grind
    exact Rat.intCast_le_intCast.1 this
  · have : (q : Rat) ≤ ((1000000 : Int) : Rat) := by
      have : ((1000000 : Int) : Rat) = 1000000 := rfl
      rw [this]; grind
    exact Rat.intCast_le_intCast.1 this
  · -- the new row
    have e : ∀ t, wq (tkI w k j q) k t = wq w k t - (q : Rat) * wq w j t := fun t => by rw [wq_tk]; unfold tk; rw [if_pos rfl]
    obtain ⟨Q, hQ⟩ : ∃ Q : Rat, Q * si j = 3 * al + 8 / 5 * si j := ⟨(3 * al + 8 / 5 * si j) / si j, Rat.div_mul_cancel (by grind)⟩
    have div : ∀ a b : Rat, a * si j ≤ b * si j → a ≤ b := fun a b h => Rat.le_of_mul_le_mul_right h (by grind)
    have d1 : (q : Rat) * si j ≤ (V8 p + 8 / 5) * si j := Rat.mul_le_mul_of_nonneg_right (by grind) (by grind)
    have d2 : -(q : Rat) * si j ≤ (-V8 p + 8 / 5) * si j := Rat.mul_le_mul_of_nonneg_right (by grind) (by grind)
    have k1 : (q : Rat) ≤ Q := div _ _ (by grind)
    have k2 : -(q : Rat) ≤ Q := div _ _ (by grind)
    refine ((hN.sub (s3.mul k1 k2)).congr fun t _ => (e t).symm).mono ?_
    have : Q * (2 * si j) = 2 * (Q * si j) := by grind
    rw [this, hQ]; grind
/-- The rows are reduced below k, and row k's parts from j on are small. -/
structure MInv (n c k j : Nat) (M : Rat) (w : Nat → Nat → Int) (r mu : Nat → Nat → Rat) : Prop where
  red : RInv n c k M w r mu
  row : ∀ l, j ≤ l → l < k → mu k l ≤ 51 / 100 ∧ -mu k l ≤ 51 / 100
theorem MInv.take {n c k j : Nat} {M : Rat} {w : Nat → Nat → Int} {r mu : Nat → Nat → Rat} (h : MInv n c k (j + 1) M w r mu) (hn : k < n) (hj : j < k) {q : Int} (h1 : mu k j - q ≤ 51 / 100) (h2 : (q : Rat) - mu k j ≤ 51 / 100) : MInv n c k j M (tkI w k j q) r (tkm mu k j q) := by
  refine ⟨⟨?_, h.red.max, fun i hi l hl => ?_, h.red.lov⟩, fun l hl hlk => ?_⟩
  · rw [wq_tk]; exact dec_take h.red.dec hn hj _
  · have : tkm mu k j q i l = mu i l := by unfold tkm; rw [if_neg (by omega)]
    rw [this]; exact h.red.par i hi l hl
  · by_cases e : l = j
    · subst e
      have : tkm mu k l q k l = mu k l - q := by unfold tkm; rw [if_pos rfl, if_neg (by omega), if_pos rfl]; grind
      rw [this]; constructor <;> grind
    · have : tkm mu k j q k l = mu k l := by unfold tkm; rw [if_pos rfl, if_neg (by omega), if_neg e]; grind
      rw [this]; exact h.row l (by omega) hlk
theorem MInv.keep {n c k j : Nat} {M : Rat} {w : Nat → Nat → Int} {r mu : Nat → Nat → Rat} (h : MInv n c k (j + 1) M w r mu) {q : Int} (hq : q = 0) (h1 : mu k j - q ≤ 51 / 100) (h2 : (q : Rat) - mu k j ≤ 51 / 100) : MInv n c k j M w r mu := by
  refine ⟨h.red, fun l hl hlk => ?_⟩
  by_cases e : l = j
  · subst e
    subst hq
    have : ((0 : Int) : Rat) = 0 := rfl
    rw [this] at h1 h2
    constructor <;> grind
  · exact h.row l (by omega) hlk
/-- A row whose parts are small is short. -/
theorem MInv.short {n c k : Nat} {M : Rat} {w : Nat → Nat → Int} {r mu : Nat → Nat → Rat} (h : MInv n c k 0 M w r mu) (hk : k ≤ 3) (hn : k < n) (hM : M ≤ 60000) : Nb c (wq w k) 350 ∧ dt c (wq w k) (wq w k) ≤ 2 * M := by
  have hs : sm k (fun l => mu k l * mu k l * dt c (r l) (r l)) ≤ 81 / 100 * M := by
    have M0 : 0 ≤ M := Rat.le_trans (dt_nn c (r k)) (h.red.max k hn)
    have h1 : sm k (fun l => mu k l * mu k l * dt c (r l) (r l)) ≤ sm k (fun _ => 27 / 100 * M) := sm_le k fun l hl => by
      obtain ⟨p1, p2⟩ := h.row l (by omega) hl
      have a1 := Rat.mul_le_mul_of_nonneg_right (sq_part p1 p2) (dt_nn c (r l))
      have a2 := h.red.max l (by omega)
      grind
    rw [sm_const] at h1
    have h3 : (k : Rat) ≤ ((3 : Nat) : Rat) := Rat.natCast_le_natCast.2 hk
    have e3 : ((3 : Nat) : Rat) = 3 := rfl
    rw [e3] at h3
    have := Rat.mul_le_mul_of_nonneg_right h3 (show 0 ≤ 27 / 100 * M by grind)
    grind
  have hd := h.red.dec.norm hn
  have hm := h.red.max k hn
  have M0 : 0 ≤ M := Rat.le_trans (dt_nn c (r k)) hm
  exact ⟨⟨by grind, by grind⟩, by grind⟩
/-- The words of the test whether row a + 1 stays behind row a. -/
noncomputable def lvX (w : Nat → Nat → Int) (c k : Nat) : Nat := fdot (Bg (xq w) c k) (Bg (xq w) c k) c
noncomputable def lvR (w : Nat → Nat → Int) (c k a : Nat) : Nat := fmul .f64 (fsub .f64 4604930618986332160 (fmul .f64 (fpart (xq w k) (Bg (xq w) c a) c) (fpart (xq w k) (Bg (xq w) c a) c))) (lvX w c a)
theorem lov_test {n c a : Nat} {M : Rat} {w : Nat → Nat → Int} {r mu : Nat → Nat → Rat} (hc : c ≤ 6) (h : MInv n c (a + 1) 0 M w r mu) (hk : a + 1 ≤ 3) (hn : a + 1 < n) (hM : M ≤ 60000) (h0 : 1 ≤ dt c (r 0) (r 0)) :
    ((fgrt .f64 (lvX w c (a + 1)) (lvR w c (a + 1) a) || feq .f64 (lvX w c (a + 1)) (lvR w c (a + 1) a)) = true → 9 * dt c (r a) (r a) ≤ 20 * dt c (r (a + 1)) (r (a + 1))) ∧
    ((fgrt .f64 (lvX w c (a + 1)) (lvR w c (a + 1) a) || feq .f64 (lvX w c (a + 1)) (lvR w c (a + 1) a)) = false → dt c (r (a + 1)) (r (a + 1)) + mu (a + 1) a * mu (a + 1) a * dt c (r a) (r a) ≤ dt c (r a) (r a)) := by
  obtain ⟨hE0, hE⟩ := E8_lin
  have hbig := big1000
  obtain ⟨si, hsi⟩ := near_all hc h.red hk (by omega) hM h0
  obtain ⟨hN, _⟩ := h.short hk hn hM
  obtain ⟨_, x1, x2⟩ := words hN (by grind)
  -- row a + 1
  obtain ⟨g1, g2, _⟩ := row_er hc (x := xq w (a + 1)) (B := Bg (xq w) c) (u := wq w (a + 1)) (r := r) (si := si) (mu := mu (a + 1)) (et := 1 / 10000000000) x1 x2 hN (by grind) (by grind) (by grind) (by grind) (n := a + 1) hk (fun j hj => (hsi j hj).2.2.2) (fun l hl => (h.red.dec.dot hn hl).symm) (a + 1) (Nat.le_refl _)
  have a3 : ((a + 1 : Nat) : Rat) ≤ ((3 : Nat) : Rat) := Rat.natCast_le_natCast.2 hk
  have e3 : ((3 : Nat) : Rat) = 3 := rfl
  rw [e3] at a3
  have ha0 : 0 ≤ ((a + 1 : Nat) : Rat) := Rat.natCast_nonneg
  have gN : ∀ t, t < c → N8 (Bg (xq w) c (a + 1) t) := fun t ht => by rw [Bg_eq _ _ _ _ ht]; exact g1 t ht
  have gE : Nb c (fun t => V8 (Bg (xq w) c (a + 1) t) - r (a + 1) t) (1 / 200000) := by
    refine (g2.congr fun t ht => ?_).mono ?_
    · rw [Bg_eq _ _ _ _ ht, h.red.dec.1 (a + 1) hn t ht]; grind
    · have := Rat.mul_le_mul_of_nonneg_right a3 (show 0 ≤ 350 * (1700 * E8 + 45 * (1 / 10000000000)) by grind)
      grind
  have hRk := h.red.max (a + 1) hn
  have hr : Nb c (r (a + 1)) 245 := ⟨by grind, by grind⟩
  have hl : Nb c (fun t => V8 (Bg (xq w) c (a + 1) t)) 250 := ((hr.add gE).congr fun t _ => by grind).mono (by grind)
  obtain ⟨d1, d2, d3⟩ := fdot_ok hc gN gN hl hl (by grind) (by grind) (by grind) (by grind)
  have e2 : dt c (fun t => V8 (Bg (xq w) c (a + 1) t)) (fun t => V8 (Bg (xq w) c (a + 1) t)) = dt c (r (a + 1)) (r (a + 1)) + 2 * dt c (r (a + 1)) (fun t => V8 (Bg (xq w) c (a + 1) t) - r (a + 1) t) + dt c (fun t => V8 (Bg (xq w) c (a + 1) t) - r (a + 1) t) (fun t => V8 (Bg (xq w) c (a + 1) t) - r (a + 1) t) := by
    have := dt_quad c (r (a + 1)) (fun t => V8 (Bg (xq w) c (a + 1) t) - r (a + 1) t) 1
    rw [dt_congr (u := fun t => V8 (Bg (xq w) c (a + 1) t)) (u' := fun t => r (a + 1) t + 1 * (V8 (Bg (xq w) c (a + 1) t) - r (a + 1) t)) (v := fun t => V8 (Bg (xq w) c (a + 1) t)) (v' := fun t => r (a + 1) t + 1 * (V8 (Bg (xq w) c (a + 1) t) - r (a + 1) t)) (fun t _ => by grind) (fun t _ => by grind), this]; grind
  obtain ⟨f3, f4⟩ := hr.dot gE
  have f5 := gE.2
  have f6 := dt_nn c (fun t => V8 (Bg (xq w) c (a + 1) t) - r (a + 1) t)
  rw [e2] at d2 d3
  have X0 : N8 (lvX w c (a + 1)) := d1
  have X1 : V8 (lvX w c (a + 1)) - dt c (r (a + 1)) (r (a + 1)) ≤ 1 / 400 := by show V8 (fdot _ _ c) - _ ≤ _; grind
  have X2 : dt c (r (a + 1)) (r (a + 1)) - V8 (lvX w c (a + 1)) ≤ 1 / 400 := by show _ - V8 (fdot _ _ c) ≤ _; grind
  -- row a
  obtain ⟨s1, s2, s3, s4⟩ := hsi a (by omega)
  have hdot := (h.red.dec.dot (j := a) hn (by omega)).symm
  obtain ⟨p1, p2, p3, _, _⟩ := part_near hc x1 x2 hN (by grind) (by grind) s4 s1 hdot
  obtain ⟨_, _, _, _, _, y1, y2, y3⟩ := step_er hc x1 x2 hN s4.num s4.er rfl s4.lo s4.hi (by grind) s4.s2 (by grind) (by grind) (et := 1 / 10000000000) (by grind) (by grind) hdot
  have hlow := h.red.low hk h0 a (by omega)
  have hhi := h.red.max a (by omega)
  have hss := s4.hi
  have yb : si a * si a * (120 * E8 + 3 * (1 / 10000000000)) ≤ dt c (r a) (r a) / 100000000 := by
    have h1 := Rat.mul_le_mul_of_nonneg_right hss (show 0 ≤ 120 * E8 + 3 * (1 / 10000000000) by grind)
    have h2 : 4 * dt c (r a) (r a) * (120 * E8 + 3 * (1 / 10000000000)) ≤ 4 * dt c (r a) (r a) * (1 / 1000000000) := Rat.mul_le_mul_of_nonneg_left (by grind) (by grind)
    grind
  have Y0 : N8 (lvX w c a) := y3
  have Y1 : V8 (lvX w c a) - dt c (r a) (r a) ≤ dt c (r a) (r a) / 100000000 := by show V8 (fdot _ _ c) - _ ≤ _; grind
  have Y2 : dt c (r a) (r a) - V8 (lvX w c a) ≤ dt c (r a) (r a) / 100000000 := by show _ - V8 (fdot _ _ c) ≤ _; grind
  obtain ⟨m1, m2⟩ := h.row a (by omega) (by omega)
  have hm2 := sq_part m1 m2
  obtain ⟨c1, c2⟩ := q75_val
  have hR : lvR w c (a + 1) a = fmul .f64 (fsub .f64 4604930618986332160 (fmul .f64 (fpart (xq w (a + 1)) (Bg (xq w) c a) c) (fpart (xq w (a + 1)) (Bg (xq w) c a) c))) (lvX w c a) := rfl
  rw [hR]
  have hTT := T_le (s := 1 / 1000) (r := 1 / 1000) (by grind) (by grind)
  have hT0 := T8_pos
  clear d1 d2 d3 e2 f3 f4 f5 f6 hl hr hRk gE gN g1 g2 hR y1 y2 y3 s4 s3 hsi hdot hss yb x1 x2 hN a3 e3 ha0 hE0
  generalize fpart (xq w (a + 1)) (Bg (xq w) c a) c = t at *
  generalize lvX w c a = Y at *
  generalize lvX w c (a + 1) = X at *
  generalize dt c (r a) (r a) = A at *
  generalize dt c (r (a + 1)) (r (a + 1)) = K at *
  generalize mu (a + 1) a = m at *
  have hE0 := E8_lin.1
  -- t * t
  have tt : V8 t * V8 t - m * m ≤ 1 / 100000 ∧ m * m - V8 t * V8 t ≤ 1 / 100000 := by
    have e : V8 t * V8 t - m * m = (V8 t - m) * (V8 t - m) + 2 * (m * (V8 t - m)) := by grind
    have b1 : V8 t - m ≤ 35 / 10000000 := by grind
    have b2 : -(V8 t - m) ≤ 35 / 10000000 := by grind
    obtain ⟨i1, i2⟩ := am m1 m2 b1 b2
    obtain ⟨i3, i4⟩ := am b1 b2 b1 b2
    constructor <;> grind
  obtain ⟨t1, t2⟩ := tt
  obtain ⟨u1, u2, u3⟩ := fmul_er p1 p1 (B := 1) (by grind) (by have := sq_nn (V8 t); grind) (by grind)
  have mm0 := sq_nn m
  generalize fmul .f64 t t = tt at *
  obtain ⟨v1, v2, v3⟩ := fsub_er c1 u1 (B := 1) (by rw [c2]; grind) (by rw [c2]; grind) (by grind)
  rw [c2] at v2 v3
  generalize fsub .f64 4604930618986332160 tt = s at *
  -- s is near 3/4 - m*m
  have w1 : V8 s - (3 / 4 - m * m) ≤ 1 / 50000 := by grind
  have w2 : (3 / 4 - m * m) - V8 s ≤ 1 / 50000 := by grind
  have hs0 : 0 ≤ V8 s := by grind
  have hs1 : V8 s ≤ 1 := by grind
  have A0 : 0 < A := by grind
  have hY0 : 0 ≤ V8 Y := by grind
  have hY1 : V8 Y ≤ 2 * A := by grind
  have sy := Rat.mul_le_mul_of_nonneg_right hs1 hY0
  have sy0 := Rat.mul_nonneg hs0 hY0
  obtain ⟨z1, z2, z3⟩ := fmul_er v1 Y0 (B := 2 * A) (by grind) (by grind) (by grind)
  -- the product
  have k1 : V8 s * V8 Y - (3 / 4 - m * m) * A ≤ 1 / 20000 * A := by
    have i1 := Rat.mul_le_mul_of_nonneg_right w1 hY0
    have i2 := Rat.mul_le_mul_of_nonneg_left Y1 (show 0 ≤ 3 / 4 - m * m by grind)
    have i3 := Rat.mul_le_mul_of_nonneg_right (show 3 / 4 - m * m ≤ 1 by grind) (show 0 ≤ A / 100000000 by grind)
    grind
  have k2 : (3 / 4 - m * m) * A - V8 s * V8 Y ≤ 1 / 20000 * A := by
    have i1 := Rat.mul_le_mul_of_nonneg_right w2 hY0
    have i2 := Rat.mul_le_mul_of_nonneg_left Y2 (show 0 ≤ 3 / 4 - m * m by grind)
    have i3 := Rat.mul_le_mul_of_nonneg_right (show 3 / 4 - m * m ≤ 1 by grind) (show 0 ≤ A / 100000000 by grind)
    grind
  have k3 : 2 * A * E8 + T8 ≤ 1 / 20000 * A := by
    have i1 := Rat.mul_le_mul_of_nonneg_right (show E8 ≤ 1 / 100000000 by grind) (show 0 ≤ A by grind)
    grind
  generalize fmul .f64 s Y = Rr at *
  rw [fgrt_val X0 z1, feq_val X0 z1]
  have mA : m * m * A ≤ 27 / 100 * A := Rat.mul_le_mul_of_nonneg_right hm2 (Rat.le_of_lt A0)
  have mA0 := Rat.mul_nonneg mm0 (Rat.le_of_lt A0)
  have z2 : V8 Rr - V8 s * V8 Y ≤ 1 / 20000 * A := Rat.le_trans z2 k3
  have z3 : V8 s * V8 Y - V8 Rr ≤ 1 / 20000 * A := Rat.le_trans z3 k3
  clear u1 u2 u3 v1 v2 v3 w1 w2 t1 t2 sy sy0 p1 p2 p3 hY0 hY1 hs0 hs1 k3 hTT hT0 hE hbig hm2 mm0 m1 m2 c1 c2 Y1 Y2 hM hhi h0 hE0
  generalize V8 s * V8 Y = SY at *
  constructor
  · intro hh
    rw [Bool.or_eq_true, decide_eq_true_eq, decide_eq_true_eq] at hh
    have hge : V8 Rr ≤ V8 X := by
      rcases hh with g | g
      · exact Rat.le_of_lt g
      · rw [g]; exact Rat.le_refl
    grind
  · intro hh
    rw [Bool.or_eq_false_iff, decide_eq_false_iff_not, decide_eq_false_iff_not] at hh
    have hlt : V8 X ≤ V8 Rr := by grind
    grind
/-- The numbers of a list, by rows. -/
def wf (m : Nat) (W : List Int) : Nat → Nat → Int := fun i t => nth W (i * m + t)
noncomputable def BL (x : Nat → Nat → Nat) (m j : Nat) : List Nat := (List.range m).map fun t => Bg x m j t
noncomputable def PL (x : Nat → Nat → Nat) (m i : Nat) : List Nat := (List.range i).map fun j => fpart (x i) (Bg x m j) m
noncomputable def poolB (x : Nat → Nat → Nat) (m i : Nat) : List (List Nat) := (List.range i).map fun j => BL x m j
noncomputable def poolP (x : Nat → Nat → Nat) (m i : Nat) : List (List Nat) := (List.range i).map fun j => PL x m j
def idxs (i : Nat) : List Nat := (List.range i).map fun j => j + 1
theorem mr_snoc {α : Type} (f : Nat → α) (i : Nat) : (List.range i).map f ++ [f i] = (List.range (i + 1)).map f := by
  rw [List.range_succ, List.map_append]; rfl
theorem idxs_nth {i j : Nat} (h : j < i) : nth (idxs i) j = j + 1 := nth_map_range _ _ _ h
theorem idxs_len (i : Nat) : (idxs i).length = i := by simp [idxs]
theorem poolB_len (x : Nat → Nat → Nat) (m i : Nat) : (poolB x m i).length = i := by simp [poolB]
theorem poolP_len (x : Nat → Nat → Nat) (m i : Nat) : (poolP x m i).length = i := by simp [poolP]
theorem BL_len (x : Nat → Nat → Nat) (m j : Nat) : (BL x m j).length = m := by simp [BL]
theorem PL_len (x : Nat → Nat → Nat) (m i : Nat) : (PL x m i).length = i := by simp [PL]
theorem BL_nth {x : Nat → Nat → Nat} {m j t : Nat} (h : t < m) : nth (BL x m j) t = Bg x m j t := nth_map_range _ _ _ h
theorem PL_nth {x : Nat → Nat → Nat} {m i j : Nat} (h : j < i) : nth (PL x m i) j = fpart (x i) (Bg x m j) m := nth_map_range _ _ _ h
theorem poolB_get {x : Nat → Nat → Nat} {m i j : Nat} (h : j < i) : nget (poolB x m i) (j + 1) = BL x m j := nth_map_range _ _ _ h
theorem poolP_get {x : Nat → Nat → Nat} {m i j : Nat} (h : j < i) : nget (poolP x m i) (j + 1) = PL x m j := nth_map_range _ _ _ h
theorem dotI64 {xs ys : List Nat} (h : xs.length ≤ ys.length) (hx : xs.length ≤ 1000) : impl_dot64_g xs ys = some (fdot (nth xs) (nth ys) xs.length) := by
  have : impl_dot64_l0_g xs ys ((0 : Nat), (0 : Int)) = some (fdot (nth xs) (nth ys) xs.length) :=
    whileM_fix (T := fun s => (impl_dot64_l0_T xs ys s).run) (n := xs.length) (r := fdot (nth xs) (nth ys) xs.length) (fun k => (fdot (nth xs) (nth ys) k, ((k : Nat) : Int)))
      (fun k hk => by
        simp only [impl_dot64_l0_T, Tree.run, lt_nat, inb_nat, hk, show k < ys.length by omega, decide_true, if_true, Int.toNat_natCast, impl_mul64_v, w_succ (show k < 4611686018427387904 by omega)]
        rfl)
      (by simp only [impl_dot64_l0_T, Tree.run, lt_nat, Nat.lt_irrefl, decide_false, Bool.false_eq_true, if_false])
  simp only [impl_dot64_g, impl_dot64_T, Tree.run, if_true, this, Option.bind_some]
theorem dotS64 {xs ys : List Nat} (h : xs.length ≤ ys.length) (hx : xs.length ≤ 1000) : spec_l06Dot_g xs ys = some (fdot (nth xs) (nth ys) xs.length) := by
  have : spec_l06Dot_l0_g xs ys ((0 : Nat), (0 : Int)) = some (fdot (nth xs) (nth ys) xs.length) :=
    whileM_fix (T := fun s => (spec_l06Dot_l0_T xs ys s).run) (n := xs.length) (r := fdot (nth xs) (nth ys) xs.length) (fun k => (fdot (nth xs) (nth ys) k, ((k : Nat) : Int)))
      (fun k hk => by
        simp only [spec_l06Dot_l0_T, Tree.run, lt_nat, inb_nat, hk, show k < ys.length by omega, decide_true, if_true, Int.toNat_natCast, w_succ (show k < 4611686018427387904 by omega)]
        rfl)
      (by simp only [spec_l06Dot_l0_T, Tree.run, lt_nat, Nat.lt_irrefl, decide_false, Bool.false_eq_true, if_false])
  simp only [spec_l06Dot_g, spec_l06Dot_T, Tree.run, if_true, this, Option.bind_some]
theorem fdot_rows {x : Nat → Nat} {y : Nat → Nat} {m : Nat} : fdot (nth ((List.range m).map x)) (nth ((List.range m).map y)) m = fdot x y m :=
  fdot_congr m (fun t ht => nth_map_range _ _ _ ht) (fun t ht => nth_map_range _ _ _ ht)
/-- A row of numbers. -/
def rowX (x : Nat → Nat → Nat) (m i : Nat) : List Nat := (List.range m).map (x i)
theorem rowX_len (x : Nat → Nat → Nat) (m i : Nat) : (rowX x m i).length = m := by simp [rowX]
noncomputable def LL (x : Nat → Nat → Nat) (m i j : Nat) : List Nat := (List.range m).map fun t => lft (x i) (Bg x m) m j t
theorem LL_len (x : Nat → Nat → Nat) (m i j : Nat) : (LL x m i j).length = m := by simp [LL]
noncomputable def QL (x : Nat → Nat → Nat) (m i j : Nat) : List Nat := (List.range j).map fun l => fpart (x i) (Bg x m l) m
theorem LL_full (x : Nat → Nat → Nat) (m i : Nat) : LL x m i i = BL x m i := List.map_congr_left fun t ht => (Bg_eq x m i t (List.mem_range.1 ht)).symm
/-- A list on its way from f to g. -/
def mixL (f g : Nat → Nat) (m s : Nat) : List Nat := (List.range m).map fun t => if t < s then g t else f t
theorem mixL_len (f g : Nat → Nat) (m s : Nat) : (mixL f g m s).length = m := by simp [mixL]
theorem mixL_nth {f g : Nat → Nat} {m s : Nat} (h : s < m) : nth (mixL f g m s) s = f s := by
  unfold mixL; rw [nth_map_range _ _ _ h, if_neg (Nat.lt_irrefl s)]
theorem mixL_set {f g : Nat → Nat} {m s : Nat} (h : s < m) : (mixL f g m s).set s (g s) = mixL f g m (s + 1) := by
  refine ext_nth (by simp [mixL]) fun t ht => ?_
  have ht : t < m := by simpa [mixL] using ht
  rw [setG (by rw [mixL_len]; exact h)]
  unfold mixL
  rw [nth_map_range _ _ _ ht, nth_map_range _ _ _ ht]
  by_cases e : s = t
  · subst e; rw [if_pos rfl, if_pos (by omega)]
  · rw [if_neg e]
    by_cases c : t < s
    · rw [if_pos c, if_pos (by omega)]
    · rw [if_neg c, if_neg (by omega)]
theorem mixL_zero (f g : Nat → Nat) (m : Nat) : mixL f g m 0 = (List.range m).map f := List.map_congr_left fun t _ => by rw [if_neg (by omega)]
theorem mixL_full (f g : Nat → Nat) (m : Nat) : mixL f g m m = (List.range m).map g := List.map_congr_left fun t ht => by rw [if_pos (List.mem_range.1 ht)]
theorem w_at {n m i t : Nat} {W : List Int} (hi : i < n) (ht : t < m) (hW : W.length = n * m) : i * m + t < W.length := by rw [hW]; exact rc_lt hi ht
theorem nth_subG {α : Type} [Inhabited α] {xs : List α} {a b j : Nat} (h : a + j < b) (hb : b ≤ xs.length) : nth (AM.sub xs (a : Int) (b : Int)) j = nth xs (a + j) := by
  have h1 : j < (AM.sub xs (a : Int) (b : Int)).length := by
    rw [sub_length (sok_iff.2 ⟨by omega, by omega, by omega⟩)]; omega
  rw [nth_of _ _ h1, nth_of _ _ (show a + j < xs.length by omega)]
  simp [AM.sub]
theorem upI4 {x : Nat → Nat → Nat} {n m i : Nat} (hi : i < n) (hn : n ≤ 6) (hm : m ≤ 6) (v0 v1 : Int) (W : List Int) (p1 : List (List Nat)) (p2 : List Nat) :
    impl_Whole_upright_l4_g v0 v1 W (i : Int) (i : Int) (poolB x m i) (idxs i) p1 p2 (rowX x m i) ((0 : Int), rowX x m i, ([] : List Nat)) = some (BL x m i, PL x m i) := by
  have := whileM_fix (T := fun s => (impl_Whole_upright_l4_T v0 v1 W (i : Int) (i : Int) (poolB x m i) (idxs i) p1 p2 (rowX x m i) s).run) (n := i) (r := (BL x m i, PL x m i)) (fun j => (((j : Nat) : Int), LL x m i j, QL x m i j))
    (fun j hj => by
      have d1 : impl_dot64_g (rowX x m i) (BL x m j) = some (fdot (x i) (Bg x m j) m) := by
        rw [dotI64 (by rw [rowX_len, BL_len]; omega) (by rw [rowX_len]; omega), rowX_len]; exact congrArg some fdot_rows
      have d2 : impl_dot64_g (BL x m j) (BL x m j) = some (fdot (Bg x m j) (Bg x m j) m) := by
        rw [dotI64 (by omega) (by rw [BL_len]; omega), BL_len]; exact congrArg some fdot_rows
      have hp : fdiv .f64 (fdot (x i) (Bg x m j) m) (fdot (Bg x m j) (Bg x m j) m) = fpart (x i) (Bg x m j) m := rfl
      have l6 : impl_Whole_upright_l6_g (j + 1) (fpart (x i) (Bg x m j) m) (i : Int) (i : Int) (j : Int) (((LL x m i j).length : Nat) : Int) (poolB x m i) (idxs i) p1 p2 (rowX x m i) (QL x m i j) ((0 : Int), LL x m i j) = some (LL x m i (j + 1)) := by
        rw [LL_len]
        have := whileM_fix (T := fun s => (impl_Whole_upright_l6_T (j + 1) (fpart (x i) (Bg x m j) m) (i : Int) (i : Int) (j : Int) (m : Int) (poolB x m i) (idxs i) p1 p2 (rowX x m i) (QL x m i j) s).run) (n := m) (r := LL x m i (j + 1)) (fun t => (((t : Nat) : Int), mixL (fun t => lft (x i) (Bg x m) m j t) (fun t => lft (x i) (Bg x m) m (j + 1) t) m t))
          (fun t ht => by
            have hs := mixL_set (f := fun t => lft (x i) (Bg x m) m j t) (g := fun t => lft (x i) (Bg x m) m (j + 1) t) ht
            have hg : fsub .f64 (lft (x i) (Bg x m) m j t) (fmul .f64 (fpart (x i) (Bg x m j) m) (Bg x m j t)) = lft (x i) (Bg x m) m (j + 1) t := rfl
            simp only [impl_Whole_upright_l6_T, Tree.run, lt_nat, ht, decide_true, if_true, inb_nat, mixL_len, poolB_get hj, BL_len, Int.toNat_natCast, mixL_nth ht, BL_nth ht, impl_mul64_v, hg, hs, w_succ (show t < 4611686018427387904 by omega)])
          (by
            simp only [impl_Whole_upright_l6_T, Tree.run, lt_nat, Nat.lt_irrefl, decide_false, Bool.false_eq_true, if_false, mixL_full]
            rfl)
        rw [mixL_zero] at this
        exact this
      have hq : QL x m i j ++ [fpart (x i) (Bg x m j) m] = QL x m i (j + 1) := mr_snoc _ _
      have hf : fits (QL x m i (j + 1)).length = true := fitsN (by simp [QL]; omega)
      simp only [impl_Whole_upright_l4_T, Tree.run, lt_nat, hj, decide_true, if_true, inb_nat, idxs_len, Int.toNat_natCast, idxs_nth hj, poolB_get hj, d1, d2, hp, l6, hq, hf, Option.bind_some, w_succ (show j < 4611686018427387904 by omega)])
    (by
      have hq : QL x m i i = PL x m i := rfl
      simp only [impl_Whole_upright_l4_T, Tree.run, lt_nat, Nat.lt_irrefl, decide_false, Bool.false_eq_true, if_false, LL_full, hq])
  exact this
theorem upS4 {x : Nat → Nat → Nat} {n m i : Nat} (hi : i < n) (hn : n ≤ 6) (hm : m ≤ 6) (v0 v1 : Int) (W : List Int) (p1 : List (List Nat)) (p2 : List Nat) :
    spec_l06Parts_l4_g v0 v1 W (i : Int) (poolB x m i) (idxs i) p1 p2 (rowX x m i) ((0 : Int), rowX x m i, ([] : List Nat)) = some (BL x m i, PL x m i) := by
  have := whileM_fix (T := fun s => (spec_l06Parts_l4_T v0 v1 W (i : Int) (poolB x m i) (idxs i) p1 p2 (rowX x m i) s).run) (n := i) (r := (BL x m i, PL x m i)) (fun j => (((j : Nat) : Int), LL x m i j, QL x m i j))
    (fun j hj => by
      have d1 : spec_l06Dot_g (rowX x m i) (BL x m j) = some (fdot (x i) (Bg x m j) m) := by
        rw [dotS64 (by rw [rowX_len, BL_len]; omega) (by rw [rowX_len]; omega), rowX_len]; exact congrArg some fdot_rows
      have d2 : spec_l06Dot_g (BL x m j) (BL x m j) = some (fdot (Bg x m j) (Bg x m j) m) := by
        rw [dotS64 (by omega) (by rw [BL_len]; omega), BL_len]; exact congrArg some fdot_rows
      have hp : fdiv .f64 (fdot (x i) (Bg x m j) m) (fdot (Bg x m j) (Bg x m j) m) = fpart (x i) (Bg x m j) m := rfl
      have l6 : spec_l06Parts_l6_g (i : Int) (j : Int) (fpart (x i) (Bg x m j) m) (poolB x m i) (idxs i) p1 p2 (rowX x m i) (QL x m i j) ((0 : Int), LL x m i j) = some (LL x m i (j + 1)) := by
        have := whileM_fix (T := fun s => (spec_l06Parts_l6_T (i : Int) (j : Int) (fpart (x i) (Bg x m j) m) (poolB x m i) (idxs i) p1 p2 (rowX x m i) (QL x m i j) s).run) (n := m) (r := LL x m i (j + 1)) (fun t => (((t : Nat) : Int), mixL (fun t => lft (x i) (Bg x m) m j t) (fun t => lft (x i) (Bg x m) m (j + 1) t) m t))
          (fun t ht => by
            have hs := mixL_set (f := fun t => lft (x i) (Bg x m) m j t) (g := fun t => lft (x i) (Bg x m) m (j + 1) t) ht
            have hg : fsub .f64 (lft (x i) (Bg x m) m j t) (fmul .f64 (fpart (x i) (Bg x m j) m) (Bg x m j t)) = lft (x i) (Bg x m) m (j + 1) t := rfl
            simp only [spec_l06Parts_l6_T, Tree.run, lt_nat, ht, hj, decide_true, if_true, inb_nat, mixL_len, idxs_len, idxs_nth hj, poolB_get hj, BL_len, Int.toNat_natCast, mixL_nth ht, BL_nth ht, hg, hs, w_succ (show t < 4611686018427387904 by omega)])
          (by
            simp only [spec_l06Parts_l6_T, Tree.run, mixL_len, List.length_map, List.length_range, lt_nat, Nat.lt_irrefl, decide_false, Bool.false_eq_true, if_false, mixL_full]
            rfl)
        rw [mixL_zero] at this
        exact this
      have hq : QL x m i j ++ [fpart (x i) (Bg x m j) m] = QL x m i (j + 1) := mr_snoc _ _
      have hf : fits (QL x m i (j + 1)).length = true := fitsN (by simp [QL]; omega)
      simp only [spec_l06Parts_l4_T, Tree.run, lt_nat, hj, decide_true, if_true, inb_nat, idxs_len, Int.toNat_natCast, idxs_nth hj, poolB_get hj, d1, d2, hp, l6, hq, hf, Option.bind_some, w_succ (show j < 4611686018427387904 by omega)])
    (by
      have hq : QL x m i i = PL x m i := rfl
      simp only [spec_l06Parts_l4_T, Tree.run, lt_nat, Nat.lt_irrefl, decide_false, Bool.false_eq_true, if_false, LL_full, hq])
  exact this
/-- What making upright comes to: the rows and parts, or nothing. -/
noncomputable def upR (x : Nat → Nat → Nat) (n m : Nat) : Unit ⊕ (List (List Nat) × List Nat × List (List Nat) × List Nat) :=
  if ((List.range n).any fun i => !fgrt .f64 (fdot (Bg x m i) (Bg x m i) m) 0) = true then .inl () else .inr (poolB x m n, idxs n, poolP x m n, idxs n)
theorem i36 {n m : Nat} (hn : n ≤ 6) (hm : m ≤ 6) : IntKind.i64.wrap ((n : Int) * (m : Int)) = ((n * m : Nat) : Int) := by
  have := le36 hn hm
  rw [← Int.natCast_mul, w64 (by omega) (by omega)]
theorem upI {n m : Nat} {W : List Int} (n1 : 1 ≤ n) (hn : n ≤ 6) (m1 : 1 ≤ m) (hm : m ≤ 6) (hW : W.length = n * m) : impl_Whole_upright_g n m W = some (upR (xq (wf m W)) n m) := by
  obtain ⟨x, hx⟩ : ∃ x, x = xq (wf m W) := ⟨_, rfl⟩
  rw [← hx]
  have h36 := le36 hn hm
  have := whileM_stop (T := fun s => (impl_Whole_upright_l0_T n m W s).run) (n := n) (p := fun i => !fgrt .f64 (fdot (Bg x m i) (Bg x m i) m) 0) (a := .inl ()) (b := .inr (poolB x m n, idxs n, poolP x m n, idxs n)) (fun i => (((i : Nat) : Int), poolB x m i, idxs i, poolP x m i, idxs i))
    (fun i hi => by
      have r1 : IntKind.i64.wrap ((i : Int) * (m : Int)) = ((i * m : Nat) : Int) := i36 (by omega) hm
      have r2 : IntKind.i64.wrap (((i + 1 : Nat) : Int) * (m : Int)) = (((i + 1) * m : Nat) : Int) := i36 (by omega) hm
      have hle : (i + 1) * m ≤ n * m := Nat.mul_le_mul_right m hi
      have hsm : (i + 1) * m = i * m + m := by rw [Nat.add_mul, Nat.one_mul]
      have hok : sok ((i * m : Nat) : Int) (((i + 1) * m : Nat) : Int) W.length = true := sok_iff.2 ⟨by omega, by omega, by omega⟩
      have hl : (AM.sub W ((i * m : Nat) : Int) (((i + 1) * m : Nat) : Int)).length = m := by rw [sub_length hok]; omega
      have hcl : slices_CloneI_g (AM.sub W ((i * m : Nat) : Int) (((i + 1) * m : Nat) : Int)) = some () := by
        have q1 : decide (0 < (AM.sub W ((i * m : Nat) : Int) (((i + 1) * m : Nat) : Int)).length) = true := by rw [hl]; exact decide_eq_true m1
        have q2 : fits (AM.sub W ((i * m : Nat) : Int) (((i + 1) * m : Nat) : Int)).length = true := fitsN (by rw [hl]; omega)
        simp only [slices_CloneI_g, slices_CloneI_T, Tree.run, List.nil_append, q1, q2, if_true]
      have hrow : impl_Whole_row_g m W (i : Int) = some () := by
        simp only [impl_Whole_row_g, impl_Whole_row_T, Tree.run, w_succ (show i < 4611686018427387904 by omega), r1, r2, hok, hcl, if_true, Option.bind_some]
      have hnth : ∀ t, t < m → nth (AM.sub W ((i * m : Nat) : Int) (((i + 1) * m : Nat) : Int)) t = nth W (i * m + t) := fun t ht => by
        exact nth_subG (by omega) (by omega)
      have l2 : impl_Whole_upright_l2_g (i : Int) (m : Int) (poolB x m i) (idxs i) (poolP x m i) (idxs i) (AM.sub W ((i * m : Nat) : Int) (((i + 1) * m : Nat) : Int)) ((0 : Int), ([] : List Nat)) = some (rowX x m i) := by
        refine app_gen (T := fun s => (impl_Whole_upright_l2_T (i : Int) (m : Int) (poolB x m i) (idxs i) (poolP x m i) (idxs i) (AM.sub W ((i * m : Nat) : Int) (((i + 1) * m : Nat) : Int)) s).run) (fun t s ht hs => ?_) (fun s => ?_)
        · have hf : fits (s ++ [x i t]).length = true := fitsN (by rw [List.length_append, hs]; simp; omega)
          have he : fofint .f64 (nth W (i * m + t)) = x i t := by rw [hx]; rfl
          simp only [impl_Whole_upright_l2_T, Tree.run, lt_nat, ht, decide_true, if_true, inb_nat, hl, Int.toNat_natCast, hnth t ht, he, hf, w_succ (show t < 4611686018427387904 by omega)]
        · simp only [impl_Whole_upright_l2_T, Tree.run, lt_nat, Nat.lt_irrefl, decide_false, Bool.false_eq_true, if_false]
      have hc2 : slices_Clone_float64_float64_g (rowX x m i) = some () := by
        have q1 : decide (0 < (rowX x m i).length) = true := by rw [rowX_len]; exact decide_eq_true m1
        have q2 : fits (rowX x m i).length = true := fitsN (by rw [rowX_len]; omega)
        simp only [slices_Clone_float64_float64_g, slices_Clone_float64_float64_T, Tree.run, List.nil_append, q1, q2, if_true]
      have l4 := upI4 (x := x) hi hn hm n m W (poolP x m i) (idxs i)
      have d : impl_dot64_g (BL x m i) (BL x m i) = some (fdot (Bg x m i) (Bg x m i) m) := by
        rw [dotI64 (by omega) (by rw [BL_len]; omega), BL_len]; exact congrArg some fdot_rows
      have f1 : fits (i + 1) = true := fitsN (by omega)
      have s1 : poolB x m i ++ [BL x m i] = poolB x m (i + 1) := mr_snoc _ _
      have s2 : poolP x m i ++ [PL x m i] = poolP x m (i + 1) := mr_snoc _ _
      have s3 : idxs i ++ [i + 1] = idxs (i + 1) := mr_snoc _ _
      cases hp : fgrt .f64 (fdot (Bg x m i) (Bg x m i) m) 0 with
      | true => simp only [impl_Whole_upright_l0_T, Tree.run, lt_nat, hi, decide_true, if_true, hrow, w_succ (show i < 4611686018427387904 by omega), r1, r2, List.nil_append, hl, l2, hc2, idxs_len, l4, d, hp, f1, poolB_len, poolP_len, s1, s2, s3, Option.bind_some, Bool.not_true, Bool.false_eq_true, if_false]
      | false => simp only [impl_Whole_upright_l0_T, Tree.run, lt_nat, hi, decide_true, if_true, hrow, w_succ (show i < 4611686018427387904 by omega), r1, r2, List.nil_append, hl, l2, hc2, idxs_len, l4, d, hp, Option.bind_some, Bool.not_false])
    (by simp only [impl_Whole_upright_l0_T, Tree.run, lt_nat, Nat.lt_irrefl, decide_false, Bool.false_eq_true, if_false])
  have this : impl_Whole_upright_l0_g n m W ((0 : Int), ([] : List (List Nat)), ([] : List Nat), ([] : List (List Nat)), ([] : List Nat)) = _ := this
  unfold upR
  cases hp : ((List.range n).any fun i => !fgrt .f64 (fdot (Bg x m i) (Bg x m i) m) 0) with
  | true =>
    rw [hp, if_pos rfl] at this
    simp only [impl_Whole_upright_g, impl_Whole_upright_T, Tree.run, if_true, this, Option.bind_some]
  | false =>
    rw [hp, if_neg (by decide)] at this
    simp only [impl_Whole_upright_g, impl_Whole_upright_T, Tree.run, if_true, this, Option.bind_some, Bool.false_eq_true, if_false]
theorem upS {n m : Nat} {W : List Int} (n1 : 1 ≤ n) (hn : n ≤ 6) (m1 : 1 ≤ m) (hm : m ≤ 6) (hW : W.length = n * m) : spec_l06Parts_g n m W = some (upR (xq (wf m W)) n m) := by
  obtain ⟨x, hx⟩ : ∃ x, x = xq (wf m W) := ⟨_, rfl⟩
  rw [← hx]
  have h36 := le36 hn hm
  have := whileM_stop (T := fun s => (spec_l06Parts_l0_T n m W s).run) (n := n) (p := fun i => !fgrt .f64 (fdot (Bg x m i) (Bg x m i) m) 0) (a := .inl ()) (b := .inr (poolB x m n, idxs n, poolP x m n, idxs n)) (fun i => (((i : Nat) : Int), poolB x m i, idxs i, poolP x m i, idxs i))
    (fun i hi => by
      have l2 : spec_l06Parts_l2_g m W (i : Int) (poolB x m i) (idxs i) (poolP x m i) (idxs i) ((0 : Int), ([] : List Nat)) = some (rowX x m i) := by
        refine app_gen (T := fun s => (spec_l06Parts_l2_T m W (i : Int) (poolB x m i) (idxs i) (poolP x m i) (idxs i) s).run) (fun t s ht hs => ?_) (fun s => ?_)
        · have hf : fits (s ++ [x i t]).length = true := fitsN (by rw [List.length_append, hs]; simp; omega)
          have he : fofint .f64 (nth W (i * m + t)) = x i t := by rw [hx]; rfl
          have ha := atWS hi ht hn hm hW
          simp only [spec_l06Parts_l2_T, Tree.run, lt_nat, ht, decide_true, if_true, ha, Option.bind_some, he, hf, w_succ (show t < 4611686018427387904 by omega)]
        · simp only [spec_l06Parts_l2_T, Tree.run, lt_nat, Nat.lt_irrefl, decide_false, Bool.false_eq_true, if_false]
      have hfr : fits (rowX x m i).length = true := fitsN (by rw [rowX_len]; omega)
      have l4 := upS4 (x := x) hi hn hm n m W (poolP x m i) (idxs i)
      have d : spec_l06Dot_g (BL x m i) (BL x m i) = some (fdot (Bg x m i) (Bg x m i) m) := by
        rw [dotS64 (by omega) (by rw [BL_len]; omega), BL_len]; exact congrArg some fdot_rows
      have f1 : fits (i + 1) = true := fitsN (by omega)
      have s1 : poolB x m i ++ [BL x m i] = poolB x m (i + 1) := mr_snoc _ _
      have s2 : poolP x m i ++ [PL x m i] = poolP x m (i + 1) := mr_snoc _ _
      have s3 : idxs i ++ [i + 1] = idxs (i + 1) := mr_snoc _ _
      cases hp : fgrt .f64 (fdot (Bg x m i) (Bg x m i) m) 0 with
      | true => simp only [spec_l06Parts_l0_T, Tree.run, lt_nat, hi, decide_true, if_true, List.nil_append, l2, hfr, l4, d, hp, f1, idxs_len, poolB_len, poolP_len, s1, s2, s3, Option.bind_some, Bool.not_true, Bool.false_eq_true, if_false, w_succ (show i < 4611686018427387904 by omega)]
      | false => simp only [spec_l06Parts_l0_T, Tree.run, lt_nat, hi, decide_true, if_true, List.nil_append, l2, hfr, l4, d, hp, Option.bind_some, Bool.not_false])
    (by simp only [spec_l06Parts_l0_T, Tree.run, lt_nat, Nat.lt_irrefl, decide_false, Bool.false_eq_true, if_false])
  have this : spec_l06Parts_l0_g n m W ((0 : Int), ([] : List (List Nat)), ([] : List Nat), ([] : List (List Nat)), ([] : List Nat)) = _ := this
  unfold upR
  cases hp : ((List.range n).any fun i => !fgrt .f64 (fdot (Bg x m i) (Bg x m i) m) 0) with
  | true =>
    rw [hp, if_pos rfl] at this
    simp only [spec_l06Parts_g, spec_l06Parts_T, Tree.run, if_true, this, Option.bind_some]
  | false =>
    rw [hp, if_neg (by decide)] at this
    simp only [spec_l06Parts_g, spec_l06Parts_T, Tree.run, if_true, this, Option.bind_some, Bool.false_eq_true, if_false]
theorem Dec.congr {n c : Nat} {w w' r mu : Nat → Nat → Rat} (h : Dec n c w r mu) (g : ∀ i, i < n → ∀ t, t < c → w i t = w' i t) : Dec n c w' r mu :=
  ⟨fun i hi t ht => by rw [← g i hi t ht]; exact h.1 i hi t ht, h.2⟩
theorem RInv.congr {n c k : Nat} {M : Rat} {w w' : Nat → Nat → Int} {r mu : Nat → Nat → Rat} (h : RInv n c k M w r mu) (g : ∀ i, i < n → ∀ t, t < c → w i t = w' i t) : RInv n c k M w' r mu :=
  ⟨h.dec.congr fun i hi t ht => by unfold wq; rw [g i hi t ht], h.max, h.par, h.lov⟩
theorem MInv.congr {n c k j : Nat} {M : Rat} {w w' : Nat → Nat → Int} {r mu : Nat → Nat → Rat} (h : MInv n c k j M w r mu) (g : ∀ i, i < n → ∀ t, t < c → w i t = w' i t) : MInv n c k j M w' r mu :=
  ⟨h.red.congr g, h.row⟩
theorem wq_congr {c i : Nat} {w w' : Nat → Nat → Int} (g : ∀ t, t < c → w i t = w' i t) : ∀ t, t < c → wq w i t = wq w' i t := fun t ht => by unfold wq; rw [g t ht]
def xcI (w : Nat → Nat → Int) (a : Nat) : Nat → Nat → Int := fun i => if i = a then w (a + 1) else if i = a + 1 then w a else w i
theorem wq_xc (w : Nat → Nat → Int) (a : Nat) : wq (xcI w a) = xc (wq w) a := by
  funext i t
  unfold wq xcI xc
  by_cases e : i = a
  · rw [if_pos e, if_pos e]
  · rw [if_neg e, if_neg e]
    by_cases e2 : i = a + 1
    · rw [if_pos e2, if_pos e2]
    · rw [if_neg e2, if_neg e2]
/-- What is kept through all that is done. -/
structure Kept (n m : Nat) (P : (Nat → Nat → Int) → Prop) : Prop where
  congr : ∀ w w', (∀ i, i < n → ∀ t, t < m → w i t = w' i t) → P w → P w'
  take : ∀ w k j q, j < k → k < n → P w → P (tkI w k j q)
  swap : ∀ w a, a + 1 < n → P w → P (xcI w a)
/-- How long the row may be that is worked on. -/
def aL : Nat → Rat
  | 0 => 350
  | s + 1 => 7 * aL s + 1600
theorem aL_le : aL 0 = 350 ∧ aL 1 = 4050 ∧ aL 2 = 29950 ∧ aL 3 = 211250 := by
  refine ⟨rfl, ?_, ?_, ?_⟩ <;> simp only [aL] <;> grind
/-- Rows that could not be made upright. -/
def Flat (n m : Nat) (M : Rat) (P : (Nat → Nat → Int) → Prop) : Prop :=
  ∃ W k r mu, W.length = n * m ∧ 1 ≤ k ∧ k ≤ 3 ∧ k < n ∧ RInv n m k M (wf m W) r mu ∧ P (wf m W) ∧ (∀ i, i < n → i ≠ k → dt m (wq (wf m W) i) (wq (wf m W) i) ≤ 2 * M) ∧ Nb m (wq (wf m W) k) 300000 ∧ ((List.range n).any fun i => !fgrt .f64 (fdot (Bg (xq (wf m W)) m i) (Bg (xq (wf m W)) m i) m) 0) = true
theorem take_wf {n m k j : Nat} {q : Int} {W : List Int} (hk : k < n) (hj : j < n) (hm : m ≤ 6) (hn : n ≤ 6) (q0 : -1000000 ≤ q) (q1 : q ≤ 1000000) (h1 : ∀ t, t < m → (wf m W k t).natAbs ≤ 1000000) (h2 : ∀ t, t < m → (wf m W j t).natAbs ≤ 1000000) :
    ∀ i, i < n → ∀ t, t < m → tkI (wf m W) k j q i t = wf m (takeL n m W k j q) i t := fun i hi t ht => by
  show _ = nth (takeL n m W k j q) (i * m + t)
  rw [takeL_nth hi ht]
  unfold tkI
  by_cases e : i = k
  · rw [if_pos e, if_pos e]
    have a1 := h1 t ht
    have a2 := h2 t ht
    have e1 : wf m W k t = nth W (k * m + t) := rfl
    have e2 : wf m W j t = nth W (j * m + t) := rfl
    rw [e1] at a1 ⊢
    rw [e2] at a2 ⊢
    have b : (q * nth W (j * m + t)).natAbs ≤ 1000000 * 1000000 := by rw [Int.natAbs_mul]; exact Nat.mul_le_mul (by omega) a2
    rw [w64 (n := q * nth W (j * m + t)) (by omega) (by omega), w64 (by omega) (by omega)]
  · rw [if_neg e, if_neg e]; rfl
theorem swap_wf {n m a : Nat} {W : List Int} (ha : a + 1 < n) : ∀ i, i < n → ∀ t, t < m → xcI (wf m W) a i t = wf m (swapL n m W (a + 1) a) i t := fun i hi t ht => by
  show _ = nth (swapL n m W (a + 1) a) (i * m + t)
  rw [swapL_nth hi ht]
  unfold xcI sw
  by_cases e : i = a
  · rw [if_pos e, if_neg (by omega), if_pos e]; rfl
  · by_cases e2 : i = a + 1
    · rw [if_neg e, if_pos e2, if_pos e2]; rfl
    · rw [if_neg e, if_neg e2, if_neg e2, if_neg e]; rfl
theorem row0 {n m k : Nat} {M : Rat} {W : List Int} {r mu : Nat → Nat → Rat} (h : RInv n m k M (wf m W) r mu) (hn : 1 ≤ n) (hany : ((List.range n).any fun i => !fgrt .f64 (fdot (Bg (xq (wf m W)) m i) (Bg (xq (wf m W)) m i) m) 0) = false) : 1 ≤ dt m (r 0) (r 0) := by
  have hr : dt m (r 0) (r 0) = dt m (wq (wf m W) 0) (wq (wf m W) 0) := by
    have e := h.dec.1 0 (by omega)
    have g : ∀ t, t < m → r 0 t = wq (wf m W) 0 t := fun t ht => by rw [e t ht]; show _ = r 0 t + 0; grind
    exact dt_congr g g
  rw [hr]
  have h0 : fgrt .f64 (fdot (Bg (xq (wf m W)) m 0) (Bg (xq (wf m W)) m 0) m) 0 = true := by
    have := List.any_eq_false.1 hany 0 (List.mem_range.2 (by omega))
    simpa using this
  by_cases hz : ∀ t, t < m → wf m W 0 t = 0
  · exfalso
    have hb : ∀ t, t < m → Bg (xq (wf m W)) m 0 t = 0 := fun t ht => by
      rw [Bg_eq _ _ _ _ ht]
      show fofint .f64 (wf m W 0 t) = 0
      rw [hz t ht]; kernel_rfl
    have hd : ∀ k, k ≤ m → fdot (Bg (xq (wf m W)) m 0) (Bg (xq (wf m W)) m 0) k = 0 := fun k => by
      induction k with
      | zero => intro _; rfl
      | succ k ih =>
        intro hk
        simp only [fdot]
        rw [ih (by omega), hb k (by omega)]; kernel_rfl
    rw [hd m (Nat.le_refl _)] at h0
    have : fgrt .f64 0 0 = false := by kernel_rfl
    rw [this] at h0; cases h0
  · obtain ⟨t, ht⟩ := Classical.not_forall.1 hz
    obtain ⟨ht, h1⟩ := Classical.not_imp.1 ht
    have h2 : wq (wf m W) 0 t * wq (wf m W) 0 t ≤ dt m (wq (wf m W) 0) (wq (wf m W) 0) := sm_term (f := fun t => wq (wf m W) 0 t * wq (wf m W) 0 t) m (fun i _ => sq_nn _) t ht
    have h3 : (1 : Int) ≤ wf m W 0 t * wf m W 0 t := by
      have := Int.mul_self_le_mul_self (a := 1) (b := ((wf m W 0 t).natAbs : Int)) (by omega) (by omega)
      rw [Int.natAbs_mul_self' ] at this
      simpa using this
    have h4 := Rat.intCast_le_intCast.2 h3
    rw [Rat.intCast_mul] at h4
    have e1 : ((1 : Int) : Rat) = 1 := rfl
    rw [e1] at h4
    exact Rat.le_trans h4 h2
theorem redB {n m k : Nat} {M : Rat} {P : (Nat → Nat → Int) → Prop} (hP : Kept n m P) (n4 : n ≤ 4) (m1 : 1 ≤ m) (m6 : m ≤ 6) (k1 : 1 ≤ k) (hk : k < n) (hM : M ≤ 60000) (x1 x2 x3 : Int) : ∀ (d : Nat) (W : List Int) (r mu : Nat → Nat → Rat), d ≤ k → W.length = n * m → MInv n m k d M (wf m W) r mu → P (wf m W) →
    (∀ i, i < n → i ≠ k → dt m (wq (wf m W) i) (wq (wf m W) i) ≤ 2 * M) → Nb m (wq (wf m W) k) (aL (k - d)) → 1 ≤ dt m (r 0) (r 0) → ((List.range n).any fun i => !fgrt .f64 (fdot (Bg (xq (wf m W)) m i) (Bg (xq (wf m W)) m i) m) 0) = false →
    (Flat n m M P ∧ impl_ShortRows_l2_g n m (k : Int) x1 ((d : Int) - 1, poolB (xq (wf m W)) m n, idxs n, poolP (xq (wf m W)) m n, idxs n, W) = some (.inl ()) ∧ spec_ShortRows_l2_g (k : Int) x2 ((d : Int) - 1, (n : Int), (m : Int), poolB (xq (wf m W)) m n, idxs n, poolP (xq (wf m W)) m n, idxs n, W) = some (.inl ())) ∨
    ∃ (W' : List Int) (mu' : Nat → Nat → Rat), W'.length = n * m ∧ MInv n m k 0 M (wf m W') r mu' ∧ P (wf m W') ∧ (∀ i, i < n → dt m (wq (wf m W') i) (wq (wf m W') i) ≤ 2 * M) ∧ ((List.range n).any fun i => !fgrt .f64 (fdot (Bg (xq (wf m W')) m i) (Bg (xq (wf m W')) m i) m) 0) = false ∧
      impl_ShortRows_l2_g n m (k : Int) x1 ((d : Int) - 1, poolB (xq (wf m W)) m n, idxs n, poolP (xq (wf m W)) m n, idxs n, W) = some (.inr (poolB (xq (wf m W')) m n, idxs n, poolP (xq (wf m W')) m n, idxs n, W')) ∧
      spec_ShortRows_l2_g (k : Int) x2 ((d : Int) - 1, (n : Int), (m : Int), poolB (xq (wf m W)) m n, idxs n, poolP (xq (wf m W)) m n, idxs n, W) = some (.inr ((n : Int), (m : Int), poolB (xq (wf m W')) m n, idxs n, poolP (xq (wf m W')) m n, idxs n, W'))
  | 0, W, r, mu, hd, hW, hI, hPW, hR, hN, h0, hany => by
    refine .inr ⟨W, mu, hW, hI, hPW, fun i hi => ?_, hany, ?_, ?_⟩
    · by_cases e : i = k
      · rw [e]; exact (hI.short (by omega) hk hM).2
      · exact hR i hi e
    · refine wi_inr (T := fun s => (impl_ShortRows_l2_T n m (k : Int) x1 s).run) ?_
      have c : decide ((0 : Int) ≤ ((0 : Nat) : Int) - 1) = false := by decide
      simp only [impl_ShortRows_l2_T, Tree.run, c, Bool.false_eq_true, if_false]
    · refine wi_inr (T := fun s => (spec_ShortRows_l2_T (k : Int) x2 s).run) ?_
      have c : decide ((0 : Int) ≤ ((0 : Nat) : Int) - 1) = false := by decide
      simp only [spec_ShortRows_l2_T, Tree.run, c, Bool.false_eq_true, if_false]
  | d + 1, W, r, mu, hd, hW, hI, hPW, hR, hN, h0, hany => by
    obtain ⟨b0, b1, b2, b3⟩ := aL_le
    have hal : 1 ≤ aL (k - (d + 1)) ∧ aL (k - (d + 1)) ≤ 60000 := by
      rcases Nat.lt_or_ge (k - (d + 1)) 1 with g | g
      · rw [show k - (d + 1) = 0 by omega, b0]; constructor <;> grind
      · rcases Nat.lt_or_ge (k - (d + 1)) 2 with g2 | g2
        · rw [show k - (d + 1) = 1 by omega, b1]; constructor <;> grind
        · rw [show k - (d + 1) = 2 by omega, b2]; constructor <;> grind
    have ha3 : aL (k - d) ≤ 300000 := by
      rcases Nat.lt_or_ge (k - d) 2 with g | g
      · rw [show k - d = 1 by omega, b1]; grind
      · rcases Nat.lt_or_ge (k - d) 3 with g2 | g2
        · rw [show k - d = 2 by omega, b2]; grind
        · rw [show k - d = 3 by omega, b3]; grind
    have hstep : aL (k - d) = 7 * aL (k - (d + 1)) + 1600 := by
      rw [show k - d = (k - (d + 1)) + 1 by omega]; rfl
    obtain ⟨q, q1, q2, q3, q4, q5, q6, q7, q8⟩ := red_step m6 hI.red (by omega) hk hM h0 hN hal.1 hal.2 (j := d) (by omega)
    rw [← hstep] at q7
    have e1 : (((d + 1 : Nat) : Int) - 1) = (d : Int) := by omega
    have ed : IntKind.i64.wrap ((d : Int) - 1) = (d : Int) - 1 := w64 (by omega) (by omega)
    rw [e1]
    have hnn := PL_nth (x := xq (wf m W)) (m := m) (i := k) (j := d) (by omega)
    have hfl : math_Floor_g (fadd .f64 (fpart (xq (wf m W) k) (Bg (xq (wf m W)) m d) m) 4602678819172646912) = some (ffloor (fadd .f64 (fpart (xq (wf m W) k) (Bg (xq (wf m W)) m d) m) 4602678819172646912)) := by
      simp only [math_Floor_g, math_Floor_T, Tree.run, q1, Bool.not_false, if_true]
    have c0 : decide ((0 : Int) ≤ (d : Int)) = true := decide_eq_true (by omega)
    have hkd : d < k := by omega
    by_cases hq : q = 0
    · -- nothing is taken
      have hI' := hI.keep hq q5 q6
      have cq : decide (q = 0) = true := decide_eq_true hq
      have hN' : Nb m (wq (wf m W) k) (aL (k - d)) := hN.mono (by rw [hstep]; have := hal.1; grind)
      rcases redB hP n4 m1 m6 k1 hk hM x1 x2 x3 d W r mu (by omega) hW hI' hPW hR hN' h0 hany with ⟨hF, i1, i2⟩ | ⟨W', mu', w1, w2, w3, w4, w5, i1, i2⟩
      · refine .inl ⟨hF, ?_, ?_⟩
        · refine wi_inl (T := fun s => (impl_ShortRows_l2_T n m (k : Int) x1 s).run) ?_ i1
          simp only [impl_ShortRows_l2_T, Tree.run, c0, if_true, inb_nat, idxs_len, hk, decide_true, Int.toNat_natCast, idxs_nth hk, poolP_get hk, PL_len, hkd, hnn, hfl, q2, Option.bind_some, cq, ed]
        · refine wi_inl (T := fun s => (spec_ShortRows_l2_T (k : Int) x2 s).run) ?_ i2
          simp only [spec_ShortRows_l2_T, Tree.run, c0, if_true, inb_nat, idxs_len, hk, decide_true, Int.toNat_natCast, idxs_nth hk, poolP_get hk, PL_len, hkd, hnn, hfl, q2, Option.bind_some, cq, ed]
      · refine .inr ⟨W', mu', w1, w2, w3, w4, w5, ?_, ?_⟩
        · refine wi_inl (T := fun s => (impl_ShortRows_l2_T n m (k : Int) x1 s).run) ?_ i1
          simp only [impl_ShortRows_l2_T, Tree.run, c0, if_true, inb_nat, idxs_len, hk, decide_true, Int.toNat_natCast, idxs_nth hk, poolP_get hk, PL_len, hkd, hnn, hfl, q2, Option.bind_some, cq, ed]
        · refine wi_inl (T := fun s => (spec_ShortRows_l2_T (k : Int) x2 s).run) ?_ i2
          simp only [spec_ShortRows_l2_T, Tree.run, c0, if_true, inb_nat, idxs_len, hk, decide_true, Int.toNat_natCast, idxs_nth hk, poolP_get hk, PL_len, hkd, hnn, hfl, q2, Option.bind_some, cq, ed]
    · have cq : decide (q = 0) = false := decide_eq_false hq
      obtain ⟨bk, _, _⟩ := words hN (by have := hal.2; grind)
      obtain ⟨bj, _, _⟩ := words q8 (by grind)
      have hwf := take_wf (q := q) (W := W) hk (show d < n by omega) m6 (by omega) q3 q4 bk bj
      obtain ⟨W2, hW2⟩ : ∃ W2, W2 = takeL n m W k d q := ⟨_, rfl⟩
      rw [← hW2] at hwf
      have hl2 : W2.length = n * m := by rw [hW2]; exact rc_length _ _ _
      have hI2 : MInv n m k d M (wf m W2) r (tkm mu k d q) := (hI.take hk hkd q5 q6).congr hwf
      have hP2 : P (wf m W2) := hP.congr _ _ hwf (hP.take _ _ _ _ hkd hk hPW)
      have hR2 : ∀ i, i < n → i ≠ k → dt m (wq (wf m W2) i) (wq (wf m W2) i) ≤ 2 * M := fun i hi e => by
        have g : ∀ t, t < m → wq (wf m W2) i t = wq (wf m W) i t := fun t ht => by
          unfold wq; rw [← hwf i hi t ht]; unfold tkI; rw [if_neg e]
        rw [dt_congr g g]; exact hR i hi e
      have hN2 : Nb m (wq (wf m W2) k) (aL (k - d)) := q7.congr (wq_congr fun t ht => hwf k hk t ht)
      have tI : impl_Whole_takeRow_g n m W (k : Int) (d : Int) q = some W2 := by rw [hW2]; exact takeI hk (by omega) (by omega) m6 hW
      have tS : spec_l06Take_g n m W (k : Int) (d : Int) q = some ((n : Int), (m : Int), W2) := by rw [hW2]; exact takeS hk (by omega) (by omega) m6 hW
      have hlen : decide (W2.length = W.length) = true := decide_eq_true (by rw [hl2, hW])
      have uI := upI (W := W2) (show 1 ≤ n by omega) (show n ≤ 6 by omega) m1 m6 hl2
      have uS := upS (W := W2) (show 1 ≤ n by omega) (show n ≤ 6 by omega) m1 m6 hl2
      unfold upR at uI uS
      cases hany2 : ((List.range n).any fun i => !fgrt .f64 (fdot (Bg (xq (wf m W2)) m i) (Bg (xq (wf m W2)) m i) m) 0) with
      | true =>
        rw [hany2, if_pos rfl] at uI uS
        refine .inl ⟨⟨W2, k, r, _, hl2, k1, by omega, hk, hI2.red, hP2, hR2, hN2.mono ha3, hany2⟩, ?_, ?_⟩
        · refine wi_inr (T := fun s => (impl_ShortRows_l2_T n m (k : Int) x1 s).run) ?_
          simp only [impl_ShortRows_l2_T, Tree.run, c0, if_true, inb_nat, idxs_len, hk, decide_true, Int.toNat_natCast, idxs_nth hk, poolP_get hk, PL_len, hkd, hnn, hfl, q2, Option.bind_some, cq, Bool.false_eq_true, if_false, tI, hlen, uI]
        · refine wi_inr (T := fun s => (spec_ShortRows_l2_T (k : Int) x2 s).run) ?_
          simp only [spec_ShortRows_l2_T, Tree.run, c0, if_true, inb_nat, idxs_len, hk, decide_true, Int.toNat_natCast, idxs_nth hk, poolP_get hk, PL_len, hkd, hnn, hfl, q2, Option.bind_some, cq, Bool.false_eq_true, if_false, tS, hlen, uS]
      | false =>
        rw [hany2, if_neg (by decide)] at uI uS
        rcases redB hP n4 m1 m6 k1 hk hM x1 x2 x3 d W2 r _ (by omega) hl2 hI2 hP2 hR2 hN2 h0 hany2 with ⟨hF, i1, i2⟩ | ⟨W', mu', w1, w2, w3, w4, w5, i1, i2⟩
        · refine .inl ⟨hF, ?_, ?_⟩
          · refine wi_inl (T := fun s => (impl_ShortRows_l2_T n m (k : Int) x1 s).run) ?_ i1
            simp only [impl_ShortRows_l2_T, Tree.run, c0, if_true, inb_nat, idxs_len, hk, decide_true, Int.toNat_natCast, idxs_nth hk, poolP_get hk, PL_len, hkd, hnn, hfl, q2, Option.bind_some, cq, Bool.false_eq_true, if_false, tI, hlen, uI, ed]
          · refine wi_inl (T := fun s => (spec_ShortRows_l2_T (k : Int) x2 s).run) ?_ i2
            simp only [spec_ShortRows_l2_T, Tree.run, c0, if_true, inb_nat, idxs_len, hk, decide_true, Int.toNat_natCast, idxs_nth hk, poolP_get hk, PL_len, hkd, hnn, hfl, q2, Option.bind_some, cq, Bool.false_eq_true, if_false, tS, hlen, uS, ed]
        · refine .inr ⟨W', mu', w1, w2, w3, w4, w5, ?_, ?_⟩
          · refine wi_inl (T := fun s => (impl_ShortRows_l2_T n m (k : Int) x1 s).run) ?_ i1
            simp only [impl_ShortRows_l2_T, Tree.run, c0, if_true, inb_nat, idxs_len, hk, decide_true, Int.toNat_natCast, idxs_nth hk, poolP_get hk, PL_len, hkd, hnn, hfl, q2, Option.bind_some, cq, Bool.false_eq_true, if_false, tI, hlen, uI, ed]
          · refine wi_inl (T := fun s => (spec_ShortRows_l2_T (k : Int) x2 s).run) ?_ i2
            simp only [spec_ShortRows_l2_T, Tree.run, c0, if_true, inb_nat, idxs_len, hk, decide_true, Int.toNat_natCast, idxs_nth hk, poolP_get hk, PL_len, hkd, hnn, hfl, q2, Option.bind_some, cq, Bool.false_eq_true, if_false, tS, hlen, uS, ed]
theorem rinv_up {n c k : Nat} {M : Rat} {w : Nat → Nat → Int} {r mu : Nat → Nat → Rat} (h : MInv n c (k + 1) 0 M w r mu) (g : 9 * dt c (r k) (r k) ≤ 20 * dt c (r (k + 1)) (r (k + 1))) : RInv n c (k + 2) M w r mu := by
  refine ⟨h.red.dec, h.red.max, fun i hi j hj => ?_, fun i hi => ?_⟩
  · by_cases e : i = k + 1
    · subst e; exact h.row j (by omega) hj
    · exact h.red.par i (by omega) j hj
  · by_cases e : i = k
    · subst e; exact g
    · exact h.red.lov i (by omega)
theorem rinv_down {n c a : Nat} {M : Rat} {w : Nat → Nat → Int} {r mu : Nat → Nat → Rat} (h : MInv n c (a + 1) 0 M w r mu) (ha : a + 1 < n) (g : dt c (r (a + 1)) (r (a + 1)) + mu (a + 1) a * mu (a + 1) a * dt c (r a) (r a) ≤ dt c (r a) (r a)) : ∃ r' mu', RInv n c (max 1 a) M (xcI w a) r' mu' := by
  obtain ⟨r', mu', d1, d2, d3, d4, d5⟩ := dec_swap h.red.dec ha
  have hmx := h.red.max a (by omega)
  refine ⟨r', mu', by rw [wq_xc]; exact d1, fun i hi => ?_, fun i hi j hj => ?_, fun i hi => ?_⟩
  · by_cases e : i = a
    · rw [e, d4]; exact Rat.le_trans g hmx
    · by_cases e2 : i = a + 1
      · rw [e2]; exact Rat.le_trans d5 hmx
      · rw [d2 i e e2]; exact h.red.max i hi
  · rw [d3 i (by omega)]; exact h.red.par i (by omega) j hj
  · rw [d2 i (by omega) (by omega), d2 (i + 1) (by omega) (by omega)]; exact h.red.lov i (by omega)
theorem mainB {n m : Nat} {M : Rat} {P : (Nat → Nat → Int) → Prop} (hP : Kept n m P) (n1 : 1 ≤ n) (n4 : n ≤ 4) (m1 : 1 ≤ m) (m6 : m ≤ 6) (hM : M ≤ 60000) (V : List Int) (x0 x1 : Int) {steps : Nat} (hs : steps ≤ 1000) : ∀ (d done k : Nat) (W : List Int) (r mu : Nat → Nat → Rat), done + d = steps → 1 ≤ k → W.length = n * m → RInv n m k M (wf m W) r mu → P (wf m W) →
    (∀ i, i < n → dt m (wq (wf m W) i) (wq (wf m W) i) ≤ 2 * M) →
    (((∃ W k r mu, W.length = n * m ∧ 1 ≤ k ∧ k ≤ 3 ∧ k < n ∧ RInv n m k M (wf m W) r mu ∧ P (wf m W) ∧ (∀ i, i < n → i ≠ k → dt m (wq (wf m W) i) (wq (wf m W) i) ≤ 2 * M) ∧ Nb m (wq (wf m W) k) 300000 ∧ ((List.range n).any fun i => !fgrt .f64 (fdot (Bg (xq (wf m W)) m i) (Bg (xq (wf m W)) m i) m) 0) = true)) ∧
      impl_ShortRows_l0_g n m V (steps : Int) ((k : Int), (done : Int), W) = some (.inl ()) ∧ spec_ShortRows_l0_g n m V (steps : Int) ((k : Int), (done : Int), (n : Int), (m : Int), W) = some (.inl ())) ∨
    ∃ (t : Nat) (W' : List Int), t ≤ steps ∧ W'.length = n * m ∧ P (wf m W') ∧ (∀ i, i < n → dt m (wq (wf m W') i) (wq (wf m W') i) ≤ 2 * M) ∧
      impl_ShortRows_l0_g n m V (steps : Int) ((k : Int), (done : Int), W) = some (.inr ((t : Int), W')) ∧ spec_ShortRows_l0_g n m V (steps : Int) ((k : Int), (done : Int), (n : Int), (m : Int), W) = some (.inr ((t : Int), (n : Int), (m : Int), W'))
  | 0, done, k, W, r, mu, hd, k1, hW, hI, hPW, hR => by
    have c : decide ((done : Int) < (steps : Int)) = false := decide_eq_false (by omega)
    refine .inr ⟨done, W, by omega, hW, hPW, hR, wi_inr (T := fun s => (impl_ShortRows_l0_T n m V (steps : Int) s).run) ?_, wi_inr (T := fun s => (spec_ShortRows_l0_T n m V (steps : Int) s).run) ?_⟩
    · simp only [impl_ShortRows_l0_T, Tree.run, c, Bool.false_eq_true, if_false]
    · simp only [spec_ShortRows_l0_T, Tree.run, c, Bool.false_eq_true, if_false]
  | d + 1, done, k, W, r, mu, hd, k1, hW, hI, hPW, hR => by
    have c : decide ((done : Int) < (steps : Int)) = true := decide_eq_true (by omega)
    by_cases hk : k < n
    · have ck : decide ((k : Int) < (n : Int)) = true := decide_eq_true (by omega)
      have uI := upI (W := W) n1 (show n ≤ 6 by omega) m1 m6 hW
      have uS := upS (W := W) n1 (show n ≤ 6 by omega) m1 m6 hW
      unfold upR at uI uS
      have hNk : Nb m (wq (wf m W) k) 350 := ⟨by grind, by have := hR k hk; grind⟩
      cases hany : ((List.range n).any fun i => !fgrt .f64 (fdot (Bg (xq (wf m W)) m i) (Bg (xq (wf m W)) m i) m) 0) with
      | true =>
        rw [hany, if_pos rfl] at uI uS
        refine .inl ⟨⟨W, k, r, mu, hW, k1, by omega, hk, hI, hPW, fun i hi _ => hR i hi, hNk.mono (by grind), hany⟩, wi_inr (T := fun s => (impl_ShortRows_l0_T n m V (steps : Int) s).run) ?_, wi_inr (T := fun s => (spec_ShortRows_l0_T n m V (steps : Int) s).run) ?_⟩
        · simp only [impl_ShortRows_l0_T, Tree.run, c, ck, if_true, uI, Option.bind_some]
        · simp only [spec_ShortRows_l0_T, Tree.run, c, ck, if_true, uS, Option.bind_some]
      | false =>
        rw [hany, if_neg (by decide)] at uI uS
        have h0 := row0 hI n1 hany
        obtain ⟨a, rfl⟩ : ∃ a, k = a + 1 := ⟨k - 1, by omega⟩
        have hMI : MInv n m (a + 1) (a + 1) M (wf m W) r mu := ⟨hI, fun l h1 h2 => by omega⟩
        have e1' : ((a + 1 : Nat) : Int) - 1 = (a : Int) := by omega
        have e1 : IntKind.i64.wrap (((a + 1 : Nat) : Int) - 1) = (a : Int) := by rw [e1']; exact w64 (by omega) (by omega)
        have ed : IntKind.i64.wrap ((done : Int) + 1) = ((done + 1 : Nat) : Int) := w_succ (by omega)
        rcases redB hP n4 m1 m6 (by omega) hk hM (done : Int) 0 0 (a + 1) W r mu (Nat.le_refl _) hW hMI hPW (fun i hi _ => hR i hi) (by rw [Nat.sub_self]; exact hNk) h0 hany with ⟨hF, i1, i2⟩ | ⟨W', mu', w1, w2, w3, w4, w5, i1, i2⟩
        · refine .inl ⟨hF, wi_inr (T := fun s => (impl_ShortRows_l0_T n m V (steps : Int) s).run) ?_, wi_inr (T := fun s => (spec_ShortRows_l0_T n m V (steps : Int) s).run) ?_⟩
          · rw [e1'] at i1
            simp only [impl_ShortRows_l0_T, Tree.run, c, ck, if_true, uI, Option.bind_some, e1, i1]
          · rw [e1'] at i2
            have i2' : spec_ShortRows_l2_g ((a + 1 : Nat) : Int) (done : Int) ((a : Int), (n : Int), (m : Int), poolB (xq (wf m W)) m n, idxs n, poolP (xq (wf m W)) m n, idxs n, W) = some (.inl ()) := i2
            simp only [spec_ShortRows_l0_T, Tree.run, c, ck, if_true, uS, Option.bind_some, e1, i2']
        · rw [e1'] at i1 i2
          have i2' : spec_ShortRows_l2_g ((a + 1 : Nat) : Int) (done : Int) ((a : Int), (n : Int), (m : Int), poolB (xq (wf m W)) m n, idxs n, poolP (xq (wf m W)) m n, idxs n, W) = some (.inr ((n : Int), (m : Int), poolB (xq (wf m W')) m n, idxs n, poolP (xq (wf m W')) m n, idxs n, W')) := i2
          have dk : impl_dot64_g (BL (xq (wf m W')) m (a + 1)) (BL (xq (wf m W')) m (a + 1)) = some (lvX (wf m W') m (a + 1)) := by
            rw [dotI64 (by omega) (by rw [BL_len]; omega), BL_len]; exact congrArg some fdot_rows
          have da : impl_dot64_g (BL (xq (wf m W')) m a) (BL (xq (wf m W')) m a) = some (lvX (wf m W') m a) := by
            rw [dotI64 (by omega) (by rw [BL_len]; omega), BL_len]; exact congrArg some fdot_rows
          have sk : spec_l06Dot_g (BL (xq (wf m W')) m (a + 1)) (BL (xq (wf m W')) m (a + 1)) = some (lvX (wf m W') m (a + 1)) := by
            rw [dotS64 (by omega) (by rw [BL_len]; omega), BL_len]; exact congrArg some fdot_rows
          have sa : spec_l06Dot_g (BL (xq (wf m W')) m a) (BL (xq (wf m W')) m a) = some (lvX (wf m W') m a) := by
            rw [dotS64 (by omega) (by rw [BL_len]; omega), BL_len]; exact congrArg some fdot_rows
          have hpart := PL_nth (x := xq (wf m W')) (m := m) (i := a + 1) (j := a) (by omega)
          have ha1 : a < a + 1 := by omega
          have han : a < n := by omega
          obtain ⟨lt1, lt2⟩ := lov_test m6 w2 (by omega) hk hM h0
          have hlr : fmul .f64 (fsub .f64 4604930618986332160 (fmul .f64 (fpart (xq (wf m W') (a + 1)) (Bg (xq (wf m W')) m a) m) (fpart (xq (wf m W') (a + 1)) (Bg (xq (wf m W')) m a) m))) (lvX (wf m W') m a) = lvR (wf m W') m (a + 1) a := rfl
          cases ht : (fgrt .f64 (lvX (wf m W') m (a + 1)) (lvR (wf m W') m (a + 1) a) || feq .f64 (lvX (wf m W') m (a + 1)) (lvR (wf m W') m (a + 1) a)) with
          | true =>
            have hI' := rinv_up w2 (lt1 ht)
            have ek : IntKind.i64.wrap (((a + 1 : Nat) : Int) + 1) = ((a + 2 : Nat) : Int) := by rw [w64 (by omega) (by omega)]; omega
            have sI : (impl_ShortRows_l0_T n m V (steps : Int) (((a + 1 : Nat) : Int), (done : Int), W)).run = some (.inl (((a + 2 : Nat) : Int), ((done + 1 : Nat) : Int), W')) := by
              simp only [impl_ShortRows_l0_T, Tree.run, c, ck, if_true, uI, Option.bind_some, e1, i1, inb_nat, idxs_len, hk, decide_true, Int.toNat_natCast, idxs_nth hk, poolB_get hk, dk, han, idxs_nth han, poolB_get han, da, poolP_get hk, PL_len, ha1, hpart, impl_mul64_v, hlr, ht, ek, ed]
            have sS : (spec_ShortRows_l0_T n m V (steps : Int) (((a + 1 : Nat) : Int), (done : Int), (n : Int), (m : Int), W)).run = some (.inl (((a + 2 : Nat) : Int), ((done + 1 : Nat) : Int), (n : Int), (m : Int), W')) := by
              simp only [spec_ShortRows_l0_T, Tree.run, c, ck, if_true, uS, Option.bind_some, e1, i2', inb_nat, idxs_len, hk, decide_true, Int.toNat_natCast, idxs_nth hk, poolB_get hk, sk, han, idxs_nth han, poolB_get han, sa, poolP_get hk, PL_len, ha1, hpart, hlr, ht, ek, ed]
            rcases mainB hP n1 n4 m1 m6 hM V x0 x1 hs d (done + 1) (a + 2) W' r mu' (by omega) (by omega) w1 hI' w3 w4 with ⟨hF, j1, j2⟩ | ⟨t, W3, t1, t2, t3, t4, j1, j2⟩
            · exact .inl ⟨hF, wi_inl (T := fun s => (impl_ShortRows_l0_T n m V (steps : Int) s).run) sI j1, wi_inl (T := fun s => (spec_ShortRows_l0_T n m V (steps : Int) s).run) sS j2⟩
            · exact .inr ⟨t, W3, t1, t2, t3, t4, wi_inl (T := fun s => (impl_ShortRows_l0_T n m V (steps : Int) s).run) sI j1, wi_inl (T := fun s => (spec_ShortRows_l0_T n m V (steps : Int) s).run) sS j2⟩
          | false =>
            obtain ⟨r2, mu2, hI2⟩ := rinv_down w2 hk (lt2 ht)
            have hsw := swap_wf (n := n) (m := m) (a := a) (W := W') hk
            obtain ⟨W2, hW2⟩ : ∃ W2, W2 = swapL n m W' (a + 1) a := ⟨_, rfl⟩
            rw [← hW2] at hsw
            have hl2 : W2.length = n * m := by rw [hW2]; exact rc_length _ _ _
            have tI : impl_Whole_swapRows_g n m W' ((a + 1 : Nat) : Int) (a : Int) = some W2 := by rw [hW2]; exact swapI hk han (by omega) m6 w1
            have tS : spec_l06Swap_g n m W' ((a + 1 : Nat) : Int) (a : Int) = some ((n : Int), (m : Int), W2) := by rw [hW2]; exact swapS hk han (by omega) m6 w1
            have hlen : decide (W2.length = W'.length) = true := decide_eq_true (by rw [hl2, w1])
            have em : imax (1 : Int) (a : Int) = ((max 1 a : Nat) : Int) := by
              unfold imax; rw [Nat.max_def]; split <;> split <;> omega
            have em2 : spec_l00Max_v (1 : Int) (a : Int) = ((max 1 a : Nat) : Int) := by
              unfold spec_l00Max_v; rw [Nat.max_def]
              by_cases g : 1 ≤ a
              · rw [if_pos g]; simp <;> omega
              · rw [if_neg g]; simp <;> omega
            have sI : (impl_ShortRows_l0_T n m V (steps : Int) (((a + 1 : Nat) : Int), (done : Int), W)).run = some (.inl (((max 1 a : Nat) : Int), ((done + 1 : Nat) : Int), W2)) := by
              simp only [impl_ShortRows_l0_T, Tree.run, c, ck, if_true, uI, Option.bind_some, e1, i1, inb_nat, idxs_len, hk, decide_true, Int.toNat_natCast, idxs_nth hk, poolB_get hk, dk, han, idxs_nth han, poolB_get han, da, poolP_get hk, PL_len, ha1, hpart, impl_mul64_v, hlr, ht, Bool.false_eq_true, if_false, tI, hlen, em, ed]
            have sS : (spec_ShortRows_l0_T n m V (steps : Int) (((a + 1 : Nat) : Int), (done : Int), (n : Int), (m : Int), W)).run = some (.inl (((max 1 a : Nat) : Int), ((done + 1 : Nat) : Int), (n : Int), (m : Int), W2)) := by
              simp only [spec_ShortRows_l0_T, Tree.run, c, ck, if_true, uS, Option.bind_some, e1, i2', inb_nat, idxs_len, hk, decide_true, Int.toNat_natCast, idxs_nth hk, poolB_get hk, sk, han, idxs_nth han, poolB_get han, sa, poolP_get hk, PL_len, ha1, hpart, hlr, ht, Bool.false_eq_true, if_false, tS, hlen, em2, ed]
            have hR2 : ∀ i, i < n → dt m (wq (wf m W2) i) (wq (wf m W2) i) ≤ 2 * M := fun i hi => by
              have g : ∀ t, t < m → wq (wf m W2) i t = wq (xcI (wf m W') a) i t := fun t ht => by unfold wq; rw [hsw i hi t ht]
              rw [dt_congr g g, wq_xc]
              unfold xc
              by_cases q1 : i = a
              · rw [if_pos q1]; exact w4 _ hk
              · rw [if_neg q1]
                by_cases q2 : i = a + 1
                · rw [if_pos q2]; exact w4 _ han
                · rw [if_neg q2]; exact w4 _ hi
            rcases mainB hP n1 n4 m1 m6 hM V x0 x1 hs d (done + 1) (max 1 a) W2 r2 mu2 (by omega) (by omega) hl2 (hI2.congr hsw) (hP.congr _ _ hsw (hP.swap _ _ hk w3)) hR2 with ⟨hF, j1, j2⟩ | ⟨t, W3, t1, t2, t3, t4, j1, j2⟩
            · exact .inl ⟨hF, wi_inl (T := fun s => (impl_ShortRows_l0_T n m V (steps : Int) s).run) sI j1, wi_inl (T := fun s => (spec_ShortRows_l0_T n m V (steps : Int) s).run) sS j2⟩
            · exact .inr ⟨t, W3, t1, t2, t3, t4, wi_inl (T := fun s => (impl_ShortRows_l0_T n m V (steps : Int) s).run) sI j1, wi_inl (T := fun s => (spec_ShortRows_l0_T n m V (steps : Int) s).run) sS j2⟩
    · have ck : decide ((k : Int) < (n : Int)) = false := decide_eq_false (by omega)
      refine .inr ⟨done, W, by omega, hW, hPW, hR, wi_inr (T := fun s => (impl_ShortRows_l0_T n m V (steps : Int) s).run) ?_, wi_inr (T := fun s => (spec_ShortRows_l0_T n m V (steps : Int) s).run) ?_⟩
      · simp only [impl_ShortRows_l0_T, Tree.run, c, ck, if_true, Bool.false_eq_true, if_false]
      · simp only [spec_ShortRows_l0_T, Tree.run, c, ck, if_true, Bool.false_eq_true, if_false]
theorem low_norm {n m : Nat} {B : Int} {W : List Int} (hn : n ≤ 6) (hm : m ≤ 6) (hW : W.length = n * m) (hb : bndB B W = true) {i : Nat} (hi : i < n) : dt m (wq (wf m W) i) (wq (wf m W) i) ≤ 6 * ((B * B : Int) : Rat) := by
  have h1 : dt m (wq (wf m W) i) (wq (wf m W) i) ≤ sm m (fun _ => ((B * B : Int) : Rat)) := sm_le m fun t ht => by
    obtain ⟨a1, a2⟩ := bnd_iff.1 hb (i * m + t) (w_at hi ht hW)
    have e : wq (wf m W) i t = ((nth W (i * m + t) : Int) : Rat) := rfl
    rw [e, ← Rat.intCast_mul]
    refine Rat.intCast_le_intCast.2 ?_
    have : (nth W (i * m + t)).natAbs * (nth W (i * m + t)).natAbs ≤ B.natAbs * B.natAbs := Nat.mul_le_mul (by omega) (by omega)
    rw [← Int.natAbs_mul_self' (nth W (i * m + t)), ← Int.natAbs_mul_self' B, ← Int.natCast_mul, ← Int.natCast_mul]
    exact Int.ofNat_le.2 this
  rw [sm_const] at h1
  have h2 : (m : Rat) ≤ ((6 : Nat) : Rat) := Rat.natCast_le_natCast.2 hm
  have h3 : ((6 : Nat) : Rat) = 6 := rfl
  rw [h3] at h2
  have h4 : 0 ≤ ((B * B : Int) : Rat) := by rw [Rat.intCast_mul]; exact sq_nn _
  have := Rat.mul_le_mul_of_nonneg_right h2 h4
  exact Rat.le_trans h1 this
theorem start {n m : Nat} {M : Rat} {W : List Int} (h : ∀ i, i < n → dt m (wq (wf m W) i) (wq (wf m W) i) ≤ M) : ∃ r mu, RInv n m 1 M (wf m W) r mu := by
  obtain ⟨r, mu, hd⟩ := dec_ex m (wq (wf m W)) n
  refine ⟨r, mu, hd, fun i hi => ?_, fun i hi j hj => by omega, fun i hi => by omega⟩
  have hn := hd.norm hi
  have : 0 ≤ sm i (fun j => mu i j * mu i j * dt m (r j) (r j)) := sm_nonneg i fun j hj => Rat.mul_nonneg (sq_nn _) (dt_nn _ _)
  have := h i hi
  grind
theorem end_low {n m : Nat} {W : List Int} (n1 : 1 ≤ n) (hn : n ≤ 6) (m1 : 1 ≤ m) (hm : m ≤ 6) (hW : W.length = n * m) (h : ∀ i, i < n → dt m (wq (wf m W) i) (wq (wf m W) i) ≤ 2 * 60000) : whB 1000000 n m W = true := by
  rw [wh_nat n1 hn m1 hm hW, bnd_iff]
  intro p hp
  rw [hW] at hp
  obtain ⟨p1, p2, p3⟩ := rc_of hp
  have hN : Nb m (wq (wf m W) (p / m)) 350 := ⟨by grind, by have := h _ p1; grind⟩
  obtain ⟨b, _, _⟩ := words hN (by grind)
  have := b _ p2
  have e : wf m W (p / m) (p % m) = nth W p := by show nth W (p / m * m + p % m) = _; rw [p3]
  rw [e] at this
  omega
theorem kept_true (n m : Nat) : Kept n m fun _ => True := ⟨fun _ _ _ _ => trivial, fun _ _ _ _ _ _ _ => trivial, fun _ _ _ _ => trivial⟩
theorem sh_both (x0 x1 : Int) (x2 : List Int) (x3 : Int) (h2 : x2.length ≤ maxN) :
    (impl_ShortRows_g x0 x1 x2 x3 = some (.inl ()) ∧ spec_ShortRows_g x0 x1 x2 x3 = some (.inl ())) ∨
    ∃ (n m t : Int) (W : List Int), impl_ShortRows_g x0 x1 x2 x3 = some (.inr (n, m, t, W)) ∧ spec_ShortRows_g x0 x1 x2 x3 = some (.inr (n, m, t, W)) ∧ W.length ≤ 36 := by
  have lI : impl_isLow_g x0 x1 x2 = some (whB 100 x0 x1 x2) := by
    simp only [impl_isLow_g, impl_isLow_T, Tree.run, whI 100 x0 x1 x2 h2 (by omega) (by omega), Option.bind_some]
  have lS : spec_l06Low_g x0 x1 x2 = some (whB 100 x0 x1 x2) := by
    simp only [spec_l06Low_g, spec_l06Low_T, Tree.run, whS 100 x0 x1 x2 h2 (by omega) (by omega), Option.bind_some]
  cases hv : whB 100 x0 x1 x2 with
  | false =>
    rw [hv] at lI lS
    refine .inl ⟨?_, ?_⟩
    · simp only [impl_ShortRows_g, impl_ShortRows_T, Tree.run, lI, Option.bind_some, Bool.not_false, if_true]
    · simp only [spec_ShortRows_g, spec_ShortRows_T, Tree.run, lS, Option.bind_some, Bool.not_false, if_true]
  | true =>
    rw [hv] at lI lS
    obtain ⟨n, m, rfl, rfl, n1, n6, m1, m6, hl, hb⟩ := wh_shape hv
    have h36 := le36 n6 m6
    have em : imin (4 : Int) (m : Int) = ((min 4 m : Nat) : Int) := by
      unfold imin; rw [Nat.min_def]; split <;> split <;> omega
    by_cases c4 : 4 < n
    · have d1 : decide (imin (4 : Int) (m : Int) < (n : Int)) = true := decide_eq_true (by rw [em]; omega)
      have d2 : decide ((4 : Int) < (n : Int)) = true := decide_eq_true (by omega)
      refine .inl ⟨?_, ?_⟩
      · simp only [impl_ShortRows_g, impl_ShortRows_T, Tree.run, lI, d1, Option.bind_some, Bool.not_true, Bool.false_eq_true, if_false, if_true]
      · simp only [spec_ShortRows_g, spec_ShortRows_T, Tree.run, lS, d2, Option.bind_some, Bool.not_true, Bool.false_eq_true, if_false, if_true]
    have d2 : decide ((4 : Int) < (n : Int)) = false := decide_eq_false (by omega)
    by_cases cm : m < n
    · have d1 : decide (imin (4 : Int) (m : Int) < (n : Int)) = true := decide_eq_true (by rw [em]; omega)
      have d3 : decide ((m : Int) < (n : Int)) = true := decide_eq_true (by omega)
      refine .inl ⟨?_, ?_⟩
      · simp only [impl_ShortRows_g, impl_ShortRows_T, Tree.run, lI, d1, Option.bind_some, Bool.not_true, Bool.false_eq_true, if_false, if_true]
      · simp only [spec_ShortRows_g, spec_ShortRows_T, Tree.run, lS, d2, d3, Option.bind_some, Bool.not_true, Bool.false_eq_true, if_false, if_true]
    have d1 : decide (imin (4 : Int) (m : Int) < (n : Int)) = false := decide_eq_false (by rw [em]; omega)
    have d3 : decide ((m : Int) < (n : Int)) = false := decide_eq_false (by omega)
    have rI : impl_inRange_v x3 (0 : Int) (1000 : Int) = (decide (0 ≤ x3) && decide (x3 ≤ 1000)) := inR _ _ _
    have rS : spec_l00In_v x3 (0 : Int) (1000 : Int) = (decide (0 ≤ x3) && decide (x3 ≤ 1000)) := in00 _ _ _
    cases hr : (decide (0 ≤ x3) && decide (x3 ≤ 1000)) with
    | false =>
      rw [hr] at rI rS
      refine .inl ⟨?_, ?_⟩
      · simp only [impl_ShortRows_g, impl_ShortRows_T, Tree.run, lI, d1, rI, Option.bind_some, Bool.not_true, Bool.not_false, Bool.false_eq_true, if_false, if_true]
      · simp only [spec_ShortRows_g, spec_ShortRows_T, Tree.run, lS, d2, d3, rS, Option.bind_some, Bool.not_true, Bool.not_false, Bool.false_eq_true, if_false, if_true]
    | true =>
      rw [hr] at rI rS
      simp only [Bool.and_eq_true, decide_eq_true_eq] at hr
      obtain ⟨s, rfl⟩ : ∃ s : Nat, x3 = (s : Int) := ⟨x3.toNat, by omega⟩
      have cl : slices_CloneI_g x2 = some () := by
        have q1 : decide (0 < x2.length) = true := decide_eq_true (by rw [hl]; exact Nat.mul_pos n1 m1)
        have q2 : fits x2.length = true := fitsN (by omega)
        simp only [slices_CloneI_g, slices_CloneI_T, Tree.run, List.nil_append, q1, q2, if_true]
      have ow : spec_l06Own_g n m x2 = some ((n : Int), (m : Int)) := by
        have q2 : fits x2.length = true := fitsN (by omega)
        simp only [spec_l06Own_g, spec_l06Own_T, Tree.run, List.nil_append, q2, if_true]
      have hnorm : ∀ i, i < n → dt m (wq (wf m x2) i) (wq (wf m x2) i) ≤ 60000 := fun i hi => by
        have h := low_norm n6 m6 hl hb hi
        have e : (((100 : Int) * 100 : Int) : Rat) = 10000 := rfl
        rw [e] at h; grind
      obtain ⟨r, mu, hI⟩ := start hnorm
      rcases mainB (kept_true n m) n1 (by omega) m1 m6 (M := 60000) (by grind) x2 0 0 (steps := s) (by omega) s 0 1 x2 r mu (by omega) (by omega) hl hI trivial (fun i hi => by have := hnorm i hi; grind) with ⟨_, g1, g2⟩ | ⟨t, W, t1, t2, _, t4, g1, g2⟩
      · refine .inl ⟨?_, ?_⟩
        · have g1' : impl_ShortRows_l0_g n m x2 (s : Int) ((1 : Int), (0 : Int), x2) = some (.inl ()) := g1
          simp only [impl_ShortRows_g, impl_ShortRows_T, Tree.run, lI, d1, rI, cl, List.nil_append, g1', Option.bind_some, Bool.not_true, Bool.false_eq_true, if_false, if_true]
        · have g2' : spec_ShortRows_l0_g n m x2 (s : Int) ((1 : Int), (0 : Int), (n : Int), (m : Int), x2) = some (.inl ()) := g2
          simp only [spec_ShortRows_g, spec_ShortRows_T, Tree.run, lS, d2, d3, rS, ow, List.nil_append, g2', Option.bind_some, Bool.not_true, Bool.false_eq_true, if_false, if_true]
      · have hend := end_low n1 n6 m1 m6 t2 t4
        have hWm : W.length ≤ maxN := by unfold maxN; omega
        have vI := vwI n m W hWm
        have vS := whS 1000000 n m W hWm (by omega) (by omega)
        rw [hend] at vI vS
        refine .inr ⟨n, m, t, W, ?_, ?_, by omega⟩
        · have g1' : impl_ShortRows_l0_g n m x2 (s : Int) ((1 : Int), (0 : Int), x2) = some (.inr ((t : Int), W)) := g1
          simp only [impl_ShortRows_g, impl_ShortRows_T, Tree.run, lI, d1, rI, cl, List.nil_append, g1', vI, Option.bind_some, Bool.not_true, Bool.false_eq_true, if_false, if_true]
        · have g2' : spec_ShortRows_l0_g n m x2 (s : Int) ((1 : Int), (0 : Int), (n : Int), (m : Int), x2) = some (.inr ((t : Int), (n : Int), (m : Int), W)) := g2
          simp only [spec_ShortRows_g, spec_ShortRows_T, spec_l06Give_g, spec_l06Give_T, Tree.run, lS, d2, d3, rS, ow, List.nil_append, g2', vS, Option.bind_some, Bool.not_true, Bool.false_eq_true, if_false, if_true]
theorem sh_law (x0 x1 : Int) (x2 : List Int) (x3 : Int) (h0 : -9223372036854775808 ≤ x0 ∧ x0 < 9223372036854775808) (h1 : -9223372036854775808 ≤ x1 ∧ x1 < 9223372036854775808) (h2 : x2.length ≤ maxN) (h3 : -9223372036854775808 ≤ x3 ∧ x3 < 9223372036854775808) : laws_FnExactShortRows_g x0 x1 x2 x3 = some true := by
  have q2 := h2
  unfold maxN at q2
  have en := eqW_self 0 0 [] (by simp [maxN])
  have hn := heldW_nil 1 (by omega) (by omega)
  have m0 := markW_ok x2 (1) h2 (by omega) (by omega)
  have g1 : decide (((1 : Int) + x2.length : Int) < 0) = false := by simp; omega
  have t0 := toW_ok x0 x1 x2 h2
  have e0 := eqW_self x0 x1 x2 h2
  cases z0 : decide (laws_szWhole_v x2 (1048576 : Int) < 0)
  case true => simp only [laws_FnExactShortRows_g, laws_FnExactShortRows_T, Tree.run, z0, Bool.false_eq_true, if_false, if_true]
  rcases sh_both x0 x1 x2 x3 h2 with ⟨i1, i2⟩ | ⟨a, b, t, H, i1, i2, l1⟩
  · simp only [laws_FnExactShortRows_g, laws_FnExactShortRows_T, Tree.run, z0, i1, i2, en, hn, markW_nil, m0, t0, e0, g1, Option.bind_some, Bool.false_eq_true, if_false, if_true, decide_true, Bool.not_true, Bool.not_false, beq_self_eq_true, marks_length, marksI_length]
    first | done | simp [Tree.run]
  · have hd0 : H.length ≤ maxN := by unfold maxN; omega
    have md0 := markW_ok H (1) hd0 (by omega) (by omega)
    have hl0 := heldW_ok (1) H.length hd0 (by omega) (by omega)
    have g20 : decide (((1 : Int) + H.length : Int) < 0) = false := by simp; omega
    have ea := eqW_self a b H hd0
    simp only [laws_FnExactShortRows_g, laws_FnExactShortRows_T, Tree.run, z0, i1, i2, en, hn, markW_nil, m0, t0, e0, g1, md0, hl0, g20, ea, Option.bind_some, Bool.false_eq_true, if_false, if_true, decide_true, Bool.not_true, Bool.not_false, beq_self_eq_true, marks_length, marksI_length]
    first | done | simp [Tree.run]
theorem sh_lawL (x0 x1 : Int) (x2 : Nat) (x3 : Int) (h0 : -9223372036854775808 ≤ x0 ∧ x0 < 9223372036854775808) (h1 : -9223372036854775808 ≤ x1 ∧ x1 < 9223372036854775808) (h2 : x2 < 9223372036854775808) (h3 : -9223372036854775808 ≤ x3 ∧ x3 < 9223372036854775808) (big : maxN < x2) : laws_FnExactShortRows_len_g x2 = some true := by
  have e := szW_len x2 (1048576) h2 (by omega) (by omega) big
  simp [laws_FnExactShortRows_len_g, laws_FnExactShortRows_len_T, Tree.run, e]
end Go.Proofs.Ytmgpbchacndndaa.AM
