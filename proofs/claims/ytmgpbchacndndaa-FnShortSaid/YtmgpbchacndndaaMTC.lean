import Derived.Test.YtmgpbchacndndaaMSA
import Derived.Test.YtmgpbchacndndaaBase
import Derived.Test.YtmgpbchacndndaaMTB
set_option linter.unusedSimpArgs false
set_option linter.unusedVariables false
set_option maxHeartbeats 4000000
set_option maxRecDepth 100000
namespace Go.Proofs.Ytmgpbchacndndaa.AM
open Ieee
theorem Zj_ (n d : Nat) : Toward.down.cut false n d * 2 ^ d ≤ n ∧ n < (Toward.down.cut false n d + 1) * 2 ^ d := by
  unfold Toward.cut
  simp only [Bool.false_and, Bool.toNat_false, Nat.add_zero, Nat.one_shiftLeft]
  by_cases hd : d ≤ n.log2 + 2
  · rw [Nat.min_eq_left hd]
    have h1 := Nat.div_add_mod n (2 ^ d)
    have h2 := Nat.mod_lt n (Nat.two_pow_pos d)
    rw [Nat.mul_comm] at h1
    rw [Nat.add_mul, Nat.one_mul]; omega
  · rw [Nat.min_eq_right (by omega)]
    have h1 : n < 2 ^ (n.log2 + 1) := by
      by_cases h0 : n = 0
      · rw [h0]; exact Nat.two_pow_pos _
      · exact Ej_ h0
    have h2 : 2 ^ (n.log2 + 1) ≤ 2 ^ (n.log2 + 2) := Nat.pow_le_pow_right (by decide) (by omega)
    have h3 : 2 ^ (n.log2 + 2) ≤ 2 ^ d := Nat.pow_le_pow_right (by decide) (by omega)
    rw [Nat.div_eq_of_lt (by omega)]; omega
theorem Anf_ (n d : Nat) : n ≤ Toward.down.cut true n d * 2 ^ d ∧ Toward.down.cut true n d * 2 ^ d < n + 2 ^ d := by
  unfold Toward.cut
  simp only [Bool.true_and, Nat.one_shiftLeft]
  have hp := Nat.two_pow_pos d
  by_cases hd : d ≤ n.log2 + 2
  · rw [Nat.min_eq_left hd]
    have h1 := Nat.div_add_mod n (2 ^ d)
    have h2 := Nat.mod_lt n (Nat.two_pow_pos d)
    rw [Nat.mul_comm] at h1
    by_cases c : n % 2 ^ d = 0
    · rw [c]; simp only [bne_self_eq_false, Bool.toNat_false, Nat.add_zero]; omega
    · rw [show (n % 2 ^ d != 0) = true by simp [c]]
      simp only [Bool.toNat_true, Nat.add_mul, Nat.one_mul]; omega
  · rw [Nat.min_eq_right (by omega)]
    have h1 : n < 2 ^ (n.log2 + 1) := by
      by_cases h0 : n = 0
      · rw [h0]; exact Nat.two_pow_pos _
      · exact Ej_ h0
    have h2 : 2 ^ (n.log2 + 1) ≤ 2 ^ (n.log2 + 2) := Nat.pow_le_pow_right (by decide) (by omega)
    have h3 : 2 ^ (n.log2 + 2) ≤ 2 ^ d := Nat.pow_le_pow_right (by decide) (by omega)
    rw [Nat.div_eq_of_lt (by omega), Nat.mod_eq_of_lt (by omega)]
    by_cases c : n = 0
    · rw [c]; simp; exact hp
    · rw [show (n != 0) = true by simp [c]]
      simp only [Bool.toNat_true, Nat.zero_add, Nat.one_mul]; omega
theorem Apd_ (s : Bool) (K d : Nat) : Toward.zero.cut s (K * 2 ^ d) d = K := by
  unfold Toward.cut
  simp only [Bool.toNat_false, Nat.add_zero, Nat.one_shiftLeft]
  by_cases h0 : K = 0
  · rw [h0, Nat.zero_mul, Nat.zero_div]
  · have : d ≤ (K * 2 ^ d).log2 + 2 := by rw [Ou_ h0]; omega
    rw [Nat.min_eq_left this, Nat.mul_div_cancel _ (Nat.two_pow_pos d)]
theorem Xm_ (m : Nat) (i : Int) : ((m <<< i.toNat : Nat) : Rat) = (m : Rat) * P2 i * P2 ((-i).toNat : Int) := by
  rw [Nat.shiftLeft_eq, Rat.natCast_mul, ← Br_, Rat.mul_assoc, ← Az_]
  congr 2; omega
theorem Air_ (s : Bool) {K : Nat} (hK : K < 9007199254740992) : ∃ m i, double.read (double.nearest s K 0) = .number s m i ∧ (m : Rat) * P2 i = (K : Rat) := by
  by_cases h0 : K = 0
  · subst h0
    rw [Qw_]
    have hb : 0 < double.binade := Nat.two_pow_pos _
    obtain ⟨g1, g2⟩ := Ma_ double s (r := 0) (by rw [t1]; decide)
    refine ⟨0, double.leastPlace, ?_, ?_⟩
    · unfold Format.read
      dsimp only
      rw [g1, g2, if_pos hb]
    · have : ((0 : Nat) : Rat) = 0 := rfl
      rw [this]; grind
  · have hL : K.log2 ≤ 52 := Yl_ (by omega)
    have hf : double.fractionBits = 52 := rfl
    obtain ⟨k, i, h1, _, _, h4⟩ := Y6_ double s h0 0 (by
      rw [t2, t3, t4, hf]
      have h2 : (max ((0 : Int) + (K.log2 : Int) - ((52 : Nat) : Int)) (-1074) - -1074).toNat + 3 ≤ 2047 := by omega
      exact Nat.mul_le_mul_right 4503599627370496 h2) (by rw [t1, t3]; decide)
    refine ⟨k, i, h1, ?_⟩
    rw [h4 (by rw [t4, hf]; omega), Ez_]; grind
theorem Apm_ {z : Nat} (hz : N8 z) (h1 : V8 z ≤ 1000000000) (h2 : -V8 z ≤ 1000000000) : ∃ q : Int, isNan .f64 z = false ∧ Cn_ .f64 (C3_ z) .i64 = some q ∧ (q : Rat) ≤ V8 z ∧ V8 z < (q : Rat) + 1 := by
  obtain ⟨s, m, i, hr⟩ := hz
  have hv : V8 z = (if s then -(m : Rat) else (m : Rat)) * P2 i := by show val (double.read z) = _; rw [hr]; rfl
  have hnan : isNan .f64 z = false := by
    unfold isNan
    show (double.read z).isNaN = false
    rw [hr]; rfl
  obtain ⟨n, hn⟩ : ∃ n, n = m <<< i.toNat := ⟨_, rfl⟩
  obtain ⟨d, hd⟩ : ∃ d, d = (-i).toNat := ⟨_, rfl⟩
  obtain ⟨K, hK⟩ : ∃ K, K = Toward.down.cut s n d := ⟨_, rfl⟩
  have hsh := Xm_ m i
  rw [← hn, ← hd] at hsh
  have hdp := Bo_ (d : Int)
  have hd2 : ((2 ^ d : Nat) : Rat) = P2 (d : Int) := (Br_ d).symm
  have hm0 := Sw_ m i
  -- K is small, and the floor
  have key : ∃ q : Int, signed s K 0 = q ∧ (q : Rat) ≤ V8 z ∧ V8 z < (q : Rat) + 1 := by
    refine ⟨_, rfl, ?_⟩
    rw [Jp_, show ((0 : Nat) : Int) = 0 from rfl, Ez_, hv]
    cases s with
    | false =>
      obtain ⟨c1, c2⟩ := Zj_ n d
      rw [← hK] at c1 c2
      have c1 := Rat.natCast_le_natCast.2 c1
      have c2 := Rat.natCast_lt_natCast.2 c2
      simp only [Rat.natCast_mul, Rat.natCast_add, hd2] at c1 c2
      have o1 : ((1 : Nat) : Rat) = 1 := rfl
      rw [o1] at c2
      rw [hsh] at c1 c2
      simp only [Bool.false_eq_true, if_false]
      refine ⟨?_, ?_⟩
      · have := Rat.le_of_mul_le_mul_right c1 hdp; grind
      · have := Rat.lt_of_mul_lt_mul_right c2 (Rat.le_of_lt hdp); grind
    | true =>
      obtain ⟨c1, c2⟩ := Anf_ n d
      rw [← hK] at c1 c2
      have c1 := Rat.natCast_le_natCast.2 c1
      have c2 := Rat.natCast_lt_natCast.2 c2
      simp only [Rat.natCast_mul, Rat.natCast_add, hd2] at c1 c2
      rw [hsh] at c1 c2
      simp only [if_true]
      have c2' : (K : Rat) * P2 (d : Int) < ((m : Rat) * P2 i + 1) * P2 (d : Int) := by grind
      refine ⟨?_, ?_⟩
      · have := Rat.le_of_mul_le_mul_right c1 hdp; grind
      · have := Rat.lt_of_mul_lt_mul_right c2' (Rat.le_of_lt hdp); grind
  obtain ⟨q, hq, q1, q2⟩ := key
  have hqb : -2000000000 ≤ q ∧ q ≤ 2000000000 := by
    have a1 : ((-2000000000 : Int) : Rat) ≤ (q : Rat) := by
      have : ((-2000000000 : Int) : Rat) = -2000000000 := rfl
      rw [this]; grind
    have a2 : (q : Rat) ≤ ((2000000000 : Int) : Rat) := by
      have : ((2000000000 : Int) : Rat) = 2000000000 := rfl
      rw [this]; grind
    exact ⟨Rat.intCast_le_intCast.1 a1, Rat.intCast_le_intCast.1 a2⟩
  have hKb : K < 9007199254740992 := by
    have e : signed s K 0 = (if s then -(K : Int) else (K : Int)) := by unfold signed; rw [Nat.shiftLeft_zero]
    rw [e] at hq
    cases s
    · simp only [Bool.false_eq_true, if_false] at hq; omega
    · simp only [if_true] at hq; omega
  obtain ⟨m', i', b1, b2⟩ := Air_ s hKb
  have hdec : FloatKind.f64.decode z = .number s m i := hr
  have hff : C3_ z = double.nearest s K 0 := by
    unfold C3_
    rw [hdec]
    show canon .f64 (double.nearest s (Toward.down.cut s (m <<< i.toNat) (-i).toNat) 0) = _
    rw [← hn, ← hd, ← hK]
    exact Hp_ ⟨_, _, _, b1⟩
  have hcut : m' <<< i'.toNat = K * 2 ^ (-i').toNat := by
    have := Xm_ m' i'
    rw [b2, Br_, ← Rat.natCast_mul] at this
    exact Rat.natCast_inj.1 this
  refine ⟨q, hnan, ?_, q1, q2⟩
  unfold Cn_
  have hdec2 : FloatKind.f64.decode (C3_ z) = .number s m' i' := by rw [hff]; exact b1
  rw [hdec2]
  have hti : Datum.toInt .zero (.number s m' i') = some q := by
    unfold Datum.toInt Datum.integral
    dsimp only
    rw [hcut, Apd_, hq]
  rw [hti]
  have l1 : IntKind.i64.min = -9223372036854775808 := by decide
  have l2 : IntKind.i64.max = 9223372036854775807 := by decide
  simp only [l1, l2]
  rw [if_pos ⟨by omega, by omega⟩]
theorem Vq_ {z : Int} (hz : z.natAbs < 9007199254740992) : N8 (Bm_ .f64 z) ∧ V8 (Bm_ .f64 z) = (z : Rat) := by
  obtain ⟨h1, h2⟩ := Ae8_ (z := z) (p := 0) hz (by omega) (by omega)
  have e : Bm_ .f64 z = W8 z 0 := by
    show canon .f64 (double.nearest (decide (z < 0)) z.natAbs 0) = _
    exact Hp_ h1
  rw [e]
  exact ⟨h1, by rw [h2, Ez_]; grind⟩
def wq (w : Nat → Nat → Int) : Nat → Nat → Rat := fun i t => (w i t : Rat)
def xq (w : Nat → Nat → Int) : Nat → Nat → Nat := fun i t => Bm_ .f64 (w i t)
structure RInv (n c k : Nat) (M : Rat) (w : Nat → Nat → Int) (r mu : Nat → Nat → Rat) : Prop where
  dec : Dec n c (wq w) r mu
  max : ∀ i, i < n → dt c (r i) (r i) ≤ M
  par : ∀ i, i < k → ∀ j, j < i → mu i j ≤ 51 / 100 ∧ -mu i j ≤ 51 / 100
  lov : ∀ i, i + 1 < k → 9 * dt c (r i) (r i) ≤ 20 * dt c (r (i + 1)) (r (i + 1))
theorem Kt_ (R : Rat) : ∃ s : Rat, 1 / 2 ≤ s ∧ s ≤ 500 ∧ (1 / 5 ≤ R → R ≤ 65536 → R ≤ s * s ∧ s * s ≤ 4 * R) := by
  by_cases h0 : R ≤ 1 / 4
  · exact ⟨1 / 2, by grind, by grind, fun _ _ => ⟨by grind, by grind⟩⟩
  by_cases h1 : R ≤ 1
  · exact ⟨1, by grind, by grind, fun _ _ => ⟨by grind, by grind⟩⟩
  by_cases h2 : R ≤ 4
  · exact ⟨2, by grind, by grind, fun _ _ => ⟨by grind, by grind⟩⟩
  by_cases h3 : R ≤ 16
  · exact ⟨4, by grind, by grind, fun _ _ => ⟨by grind, by grind⟩⟩
  by_cases h4 : R ≤ 64
  · exact ⟨8, by grind, by grind, fun _ _ => ⟨by grind, by grind⟩⟩
  by_cases h5 : R ≤ 256
  · exact ⟨16, by grind, by grind, fun _ _ => ⟨by grind, by grind⟩⟩
  by_cases h6 : R ≤ 1024
  · exact ⟨32, by grind, by grind, fun _ _ => ⟨by grind, by grind⟩⟩
  by_cases h7 : R ≤ 4096
  · exact ⟨64, by grind, by grind, fun _ _ => ⟨by grind, by grind⟩⟩
  by_cases h8 : R ≤ 16384
  · exact ⟨128, by grind, by grind, fun _ _ => ⟨by grind, by grind⟩⟩
  · exact ⟨256, by grind, by grind, fun _ _ => ⟨by grind, by grind⟩⟩
theorem Akh_ (R : Nat → Rat) : ∃ si : Nat → Rat, ∀ j, 1 / 2 ≤ si j ∧ si j ≤ 500 ∧ (1 / 5 ≤ R j → R j ≤ 65536 → R j ≤ si j * si j ∧ si j * si j ≤ 4 * R j) :=
  ⟨fun j => Classical.choose (Kt_ (R j)), fun j => Classical.choose_spec (Kt_ (R j))⟩
theorem Near.mono {c : Nat} {y : Nat → Nat} {r : Nat → Rat} {si et et' : Rat} (h : Near c y r si et) (g : et ≤ et') : Near c y r si et' :=
  ⟨h.num, h.er.mono (Rat.mul_le_mul_of_nonneg_right g (by have := h.s1; grind)), h.lo, h.hi, h.s1, h.s2⟩
theorem sm3 (f : Nat → Rat) : sm 0 f = 0 ∧ sm 1 f = 0 + f 0 ∧ sm 2 f = 0 + f 0 + f 1 ∧ sm 3 f = 0 + f 0 + f 1 + f 2 := ⟨rfl, rfl, rfl, rfl⟩
theorem J9_ {m : Rat} (h1 : m ≤ 51 / 100) (h2 : -m ≤ 51 / 100) : m * m ≤ 27 / 100 := by
  rcases Rat.le_total (a := 0) (b := m) with h | h
  · have := sq_le h h1; grind
  · have := sq_le (show 0 ≤ -m by grind) h2; grind
theorem RInv.low {n c k : Nat} {M : Rat} {w : Nat → Nat → Int} {r mu : Nat → Nat → Rat} (h : RInv n c k M w r mu) (hk : k ≤ 3) (h0 : 1 ≤ dt c (r 0) (r 0)) : ∀ j, j < k → 1 / 5 ≤ dt c (r j) (r j) := by
  intro j hj
  have a1 : 1 < k → 9 / 20 ≤ dt c (r 1) (r 1) := fun h1 => by have := h.lov 0 (by omega); grind
  have a2 : 2 < k → 1 / 5 ≤ dt c (r 2) (r 2) := fun h2 => by have := h.lov 1 (by omega); have := a1 (by omega); grind
  rcases Nat.lt_or_ge j 1 with g | g
  · rw [show j = 0 by omega]; grind
  · rcases Nat.lt_or_ge j 2 with g2 | g2
    · rw [show j = 1 by omega]; have := a1 (by omega); grind
    · rw [show j = 2 by omega]; exact a2 (by omega)
theorem RInv.row {n c k : Nat} {M : Rat} {w : Nat → Nat → Int} {r mu : Nat → Nat → Rat} (h : RInv n c k M w r mu) (hk : k ≤ 3) (hn : k ≤ n) {j : Nat} (hj : j < k) : dt c (wq w j) (wq w j) ≤ 4 * dt c (r j) (r j) := by
  rw [h.dec.norm (by omega)]
  obtain ⟨s0, s1, s2, _⟩ := sm3 fun l => mu j l * mu j l * dt c (r l) (r l)
  have n0 := dt_nn c (r 0)
  have n1 := dt_nn c (r 1)
  rcases Nat.lt_or_ge j 1 with g | g
  · obtain rfl : j = 0 := by omega
    rw [s0]; have := dt_nn c (r 0); grind
  · rcases Nat.lt_or_ge j 2 with g2 | g2
    · obtain rfl : j = 1 := by omega
      obtain ⟨p1, p2⟩ := h.par 1 hj 0 (by omega)
      have q := Rat.mul_le_mul_of_nonneg_right (J9_ p1 p2) n0
      have := h.lov 0 (by omega)
      rw [s1]; grind
    · obtain rfl : j = 2 := by omega
      obtain ⟨p1, p2⟩ := h.par 2 hj 0 (by omega)
      obtain ⟨p3, p4⟩ := h.par 2 hj 1 (by omega)
      have q := Rat.mul_le_mul_of_nonneg_right (J9_ p1 p2) n0
      have q2 := Rat.mul_le_mul_of_nonneg_right (J9_ p3 p4) n1
      have := h.lov 0 (by omega)
      have := h.lov 1 (by omega)
      rw [s2]; grind
theorem words {c : Nat} {w : Nat → Nat → Int} {i : Nat} {al : Rat} (h : Nb c (wq w i) al) (ha : al ≤ 1000000) : (∀ t, t < c → (w i t).natAbs ≤ 1000000) ∧ (∀ t, t < c → N8 (xq w i t)) ∧ ∀ t, t < c → V8 (xq w i t) = wq w i t := by
  have b : ∀ t, t < c → (w i t).natAbs ≤ 1000000 := fun t ht => by
    obtain ⟨h1, h2⟩ := h.comp ht
    have a1 : (w i t : Rat) ≤ ((1000000 : Int) : Rat) := by
      have : ((1000000 : Int) : Rat) = 1000000 := rfl
      rw [this]; show wq w i t ≤ _; grind
    have a2 : ((-1000000 : Int) : Rat) ≤ (w i t : Rat) := by
      have : ((-1000000 : Int) : Rat) = -1000000 := rfl
      rw [this]; show _ ≤ wq w i t; grind
    have := Rat.intCast_le_intCast.1 a1
    have := Rat.intCast_le_intCast.1 a2
    omega
  exact ⟨b, fun t ht => (Vq_ (by have := b t ht; omega)).1, fun t ht => (Vq_ (by have := b t ht; omega)).2⟩
theorem Qs_ {n c k : Nat} {M : Rat} {w : Nat → Nat → Int} {r mu : Nat → Nat → Rat} (hc : c ≤ 6) (h : RInv n c k M w r mu) (hk : k ≤ 3) (hn : k ≤ n) (hM : M ≤ 60000) (h0 : 1 ≤ dt c (r 0) (r 0)) {si : Nat → Rat}
    (hs : ∀ j, 1 / 2 ≤ si j ∧ si j ≤ 500 ∧ (1 / 5 ≤ dt c (r j) (r j) → dt c (r j) (r j) ≤ 65536 → dt c (r j) (r j) ≤ si j * si j ∧ si j * si j ≤ 4 * dt c (r j) (r j))) {j : Nat} (hj : j < k) {et et' : Rat} (et0 : 0 ≤ et) (et1 : et ≤ 1 / 100000)
    (hp : ∀ i, i < j → Near c (Bg (xq w) c i) (r i) (si i) et) (he : 2 * (j : Rat) * (1700 * E8 + 45 * et) ≤ et') : Near c (Bg (xq w) c j) (r j) (si j) et' ∧ Nb c (wq w j) (2 * si j) := by
  have hlo := h.low hk h0 j hj
  have hmx := h.max j (by omega)
  obtain ⟨s1, s2, s3⟩ := hs j
  obtain ⟨s4, s5⟩ := s3 hlo (by grind)
  have hrow := h.row hk hn hj
  have hNb : Nb c (wq w j) (2 * si j) := ⟨by grind, by grind⟩
  obtain ⟨_, x1, x2⟩ := words hNb (by grind)
  obtain ⟨g1, g2, g3⟩ := Nd_ hc (x := xq w j) (B := Bg (xq w) c) (u := wq w j) (r := r) (si := si) (mu := mu j) x1 x2 hNb (by grind) (by grind) et0 et1 (n := j) (by omega) hp (fun l hl => (h.dec.dot (by omega) hl).symm) j (Nat.le_refl _)
  refine ⟨⟨fun t ht => by rw [Bg_eq _ _ _ _ ht]; exact g1 t ht, (g2.congr fun t ht => ?_).mono ?_, s4, s5, by grind, by grind⟩, hNb⟩
  · rw [Bg_eq _ _ _ _ ht, h.dec.1 j (by omega) t ht]; grind
  · have := Rat.mul_le_mul_of_nonneg_right he (show 0 ≤ si j by grind)
    grind
theorem Yv_ {n c k : Nat} {M : Rat} {w : Nat → Nat → Int} {r mu : Nat → Nat → Rat} (hc : c ≤ 6) (h : RInv n c k M w r mu) (hk : k ≤ 3) (hn : k ≤ n) (hM : M ≤ 60000) (h0 : 1 ≤ dt c (r 0) (r 0)) :
    ∃ si : Nat → Rat, ∀ j, j < k → 1 / 2 ≤ si j ∧ si j ≤ 500 ∧ Nb c (wq w j) (2 * si j) ∧ Near c (Bg (xq w) c j) (r j) (si j) (1 / 10000000000) := by
  obtain ⟨hE0, hE⟩ := Cc_
  obtain ⟨si, hs⟩ := Akh_ fun j => dt c (r j) (r j)
  have e0 : ((0 : Nat) : Rat) = 0 := rfl
  have e1 : ((1 : Nat) : Rat) = 1 := rfl
  have e2 : ((2 : Nat) : Rat) = 2 := rfl
  have r0 : 0 < k → Near c (Bg (xq w) c 0) (r 0) (si 0) 0 ∧ Nb c (wq w 0) (2 * si 0) := fun g => Qs_ hc h hk hn hM h0 hs g (et := 0) (by grind) (by grind) (fun i hi => by omega) (by rw [e0]; grind)
  have r1 : 1 < k → Near c (Bg (xq w) c 1) (r 1) (si 1) (3400 * E8) ∧ Nb c (wq w 1) (2 * si 1) := fun g => Qs_ hc h hk hn hM h0 hs g (et := 0) (by grind) (by grind) (fun i hi => by
    obtain rfl : i = 0 := by omega
    exact (r0 (by omega)).1) (by rw [e1]; grind)
  have r2 : 2 < k → Near c (Bg (xq w) c 2) (r 2) (si 2) (1 / 10000000000) ∧ Nb c (wq w 2) (2 * si 2) := fun g => Qs_ hc h hk hn hM h0 hs g (et := 3400 * E8) (by grind) (by grind) (fun i hi => by
    rcases Nat.lt_or_ge i 1 with g1 | g1
    · obtain rfl : i = 0 := by omega
      exact (r0 (by omega)).1.mono (by grind)
    · obtain rfl : i = 1 := by omega
      exact (r1 (by omega)).1) (by rw [e2]; grind)
  refine ⟨si, fun j hj => ?_⟩
  obtain ⟨s1, s2, _⟩ := hs j
  refine ⟨s1, s2, ?_⟩
  rcases Nat.lt_or_ge j 1 with g1 | g1
  · obtain rfl : j = 0 := by omega
    obtain ⟨a, b⟩ := r0 hj
    exact ⟨b, a.mono (by grind)⟩
  · rcases Nat.lt_or_ge j 2 with g2 | g2
    · obtain rfl : j = 1 := by omega
      obtain ⟨a, b⟩ := r1 hj
      exact ⟨b, a.mono (by grind)⟩
    · obtain rfl : j = 2 := by omega
      obtain ⟨a, b⟩ := r2 hj
      exact ⟨b, a⟩
theorem Aj8_ {p : Int} {n : Nat} (h : p = -(n : Int)) : P2 p * ((2 ^ n : Nat) : Rat) = 1 := by
  rw [← Br_, ← Az_, show p + (n : Int) = 0 by omega, Ez_]
theorem Vx_ {x m n : Nat} (h : double.read x = .number false m (-(n : Int))) : N8 x ∧ V8 x * ((2 ^ n : Nat) : Rat) = (m : Rat) := by
  refine ⟨⟨_, _, _, h⟩, ?_⟩
  have : V8 x = (m : Rat) * P2 (-(n : Int)) := by show val (double.read x) = _; rw [h]; rfl
  rw [this, Rat.mul_assoc, Aj8_ rfl]; grind
theorem Ali_ : N8 4602678819172646912 ∧ V8 4602678819172646912 = 1 / 2 := by
  obtain ⟨h1, h2⟩ := Vx_ (x := 4602678819172646912) (m := 4503599627370496) (n := 53) (by kernel_rfl)
  have e1 : ((2 ^ 53 : Nat) : Rat) = 9007199254740992 := rfl
  have e2 : ((4503599627370496 : Nat) : Rat) = 4503599627370496 := rfl
  rw [e1, e2] at h2
  generalize V8 4602678819172646912 = v at *
  exact ⟨h1, by grind⟩
theorem Z3_ : N8 4604930618986332160 ∧ V8 4604930618986332160 = 3 / 4 := by
  obtain ⟨h1, h2⟩ := Vx_ (x := 4604930618986332160) (m := 6755399441055744) (n := 53) (by kernel_rfl)
  have e1 : ((2 ^ 53 : Nat) : Rat) = 9007199254740992 := rfl
  have e2 : ((6755399441055744 : Nat) : Rat) = 6755399441055744 := rfl
  rw [e1, e2] at h2
  generalize V8 4604930618986332160 = v at *
  exact ⟨h1, by grind⟩
theorem Ug_ {c : Nat} (hc : c ≤ 6) {x y : Nat → Nat} {u r : Nat → Rat} {al si mu : Rat} (hx : ∀ t, t < c → N8 (x t)) (hxu : ∀ t, t < c → V8 (x t) = u t) (hu : Nb c u al) (al1 : 1 ≤ al) (al2 : al ≤ 60000) (hN : Near c y r si (1 / 10000000000)) (s1 : 1 / 2 ≤ si) (hmu : mu * dt c r r = dt c u r) :
    N8 (fpart x y c) ∧ (V8 (fpart x y c) - mu) * 100000000 ≤ al ∧ (mu - V8 (fpart x y c)) * 100000000 ≤ al ∧ V8 (fpart x y c) * si ≤ 3 * al ∧ -(V8 (fpart x y c) * si) ≤ 3 * al := by
  obtain ⟨hE0, hE⟩ := Cc_
  obtain ⟨g1, g2, g3, g4, g5, _⟩ := Oz_ hc hx hxu hu hN.num hN.er rfl hN.lo hN.hi (by grind) hN.s2 (by grind) (by grind) (et := 1 / 10000000000) (by grind) (by grind) hmu
  have hk : al * (1600 * E8 + 40 * (1 / 10000000000)) ≤ al * (1 / 200000000) := Rat.mul_le_mul_of_nonneg_left (by grind) (by grind)
  have key : ∀ X : Rat, X * si ≤ al * (1 / 200000000) → X * 100000000 ≤ al := fun X h => by
    rcases Rat.le_total (a := X) (b := 0) with g | g
    · grind
    · have := Rat.mul_le_mul_of_nonneg_left s1 g
      grind
  exact ⟨g1, key _ (Rat.le_trans g2 hk), key _ (Rat.le_trans g3 hk), g4, g5⟩
def tkI (w : Nat → Nat → Int) (k j : Nat) (q : Int) : Nat → Nat → Int := fun i t => if i = k then w k t - q * w j t else w i t
theorem wq_tk (w : Nat → Nat → Int) (k j : Nat) (q : Int) : wq (tkI w k j q) = tk (wq w) k j (q : Rat) := by
  funext i t
  unfold wq tkI tk
  by_cases e : i = k
  · rw [if_pos e, if_pos e, Rat.intCast_sub, Rat.intCast_mul]
  · rw [if_neg e, if_neg e]
theorem Aqp_ {n c k : Nat} {M : Rat} {w : Nat → Nat → Int} {r mu : Nat → Nat → Rat} (hc : c ≤ 6) (h : RInv n c k M w r mu) (hk : k ≤ 3) (hn : k < n) (hM : M ≤ 60000) (h0 : 1 ≤ dt c (r 0) (r 0)) {al : Rat} (hN : Nb c (wq w k) al) (al1 : 1 ≤ al) (al2 : al ≤ 60000) {j : Nat} (hj : j < k) :
    ∃ q : Int, isNan .f64 (fadd .f64 (fpart (xq w k) (Bg (xq w) c j) c) 4602678819172646912) = false ∧ Cn_ .f64 (C3_ (fadd .f64 (fpart (xq w k) (Bg (xq w) c j) c) 4602678819172646912)) .i64 = some q ∧
      -1000000 ≤ q ∧ q ≤ 1000000 ∧ mu k j - q ≤ 51 / 100 ∧ (q : Rat) - mu k j ≤ 51 / 100 ∧ Nb c (wq (tkI w k j q) k) (7 * al + 1600) ∧ Nb c (wq w j) 1000 := by
  obtain ⟨hE0, hE⟩ := Cc_
  have hbig := Kw_
  obtain ⟨si, hsi⟩ := Yv_ hc h hk (by omega) hM h0
  obtain ⟨s1, s2, s3, s4⟩ := hsi j hj
  obtain ⟨_, x1, x2⟩ := words hN (by grind)
  obtain ⟨p1, p2, p3, p4, p5⟩ := Ug_ hc x1 x2 hN al1 al2 s4 s1 (h.dec.dot (by omega) hj).symm
  obtain ⟨c1, c2⟩ := Ali_
  generalize fpart (xq w k) (Bg (xq w) c j) c = p at *
  have key : ∀ X : Rat, X * si j ≤ 3 * al → X ≤ 360000 := fun X h => by
    rcases Rat.le_total (a := X) (b := 0) with g | g
    · grind
    · have := Rat.mul_le_mul_of_nonneg_left s1 g
      grind
  have b1 := key _ p4
  have b2 := key (-V8 p) (by grind)
  obtain ⟨f1, f2, f3⟩ := W7_ p1 c1 (B := 400000) (by rw [c2]; grind) (by rw [c2]; grind) (by grind)
  rw [c2] at f2 f3
  generalize fadd .f64 p 4602678819172646912 = f at *
  obtain ⟨q, q1, q2, q3, q4⟩ := Apm_ f1 (by grind) (by grind)
  refine ⟨q, q1, q2, ?_, ?_, by grind, by grind, ?_, s3.mono (by grind)⟩
  · have : ((-1000000 : Int) : Rat) ≤ (q : Rat) := by
      have : ((-1000000 : Int) : Rat) = -1000000 := rfl
      rw [this]; grind
    exact Rat.intCast_le_intCast.1 this
  · have : (q : Rat) ≤ ((1000000 : Int) : Rat) := by
      have : ((1000000 : Int) : Rat) = 1000000 := rfl
      rw [this]; grind
    exact Rat.intCast_le_intCast.1 this
  · -- the new row
    have e : ∀ t, wq (tkI w k j q) k t = wq w k t - (q : Rat) * wq w j t := fun t => by rw [wq_tk]; unfold tk; rw [if_pos rfl]
    obtain ⟨Q, hQ⟩ : ∃ Q : Rat, Q * si j = 3 * al + 8 / 5 * si j := ⟨(3 * al + 8 / 5 * si j) / si j, Rat.div_mul_cancel (by grind)⟩
    have div : ∀ a b : Rat, a * si j ≤ b * si j → a ≤ b := fun a b h => Rat.le_of_mul_le_mul_right h (by grind)
    have d1 : (q : Rat) * si j ≤ (V8 p + 8 / 5) * si j := Rat.mul_le_mul_of_nonneg_right (by grind) (by grind)
    have d2 : -(q : Rat) * si j ≤ (-V8 p + 8 / 5) * si j := Rat.mul_le_mul_of_nonneg_right (by grind) (by grind)
    have k1 : (q : Rat) ≤ Q := div _ _ (by grind)
    have k2 : -(q : Rat) ≤ Q := div _ _ (by grind)
    refine ((hN.sub (s3.mul k1 k2)).congr fun t _ => (e t).symm).mono ?_
    have : Q * (2 * si j) = 2 * (Q * si j) := by grind
    rw [this, hQ]; grind
structure MInv (n c k j : Nat) (M : Rat) (w : Nat → Nat → Int) (r mu : Nat → Nat → Rat) : Prop where
  red : RInv n c k M w r mu
  row : ∀ l, j ≤ l → l < k → mu k l ≤ 51 / 100 ∧ -mu k l ≤ 51 / 100
theorem MInv.take {n c k j : Nat} {M : Rat} {w : Nat → Nat → Int} {r mu : Nat → Nat → Rat} (h : MInv n c k (j + 1) M w r mu) (hn : k < n) (hj : j < k) {q : Int} (h1 : mu k j - q ≤ 51 / 100) (h2 : (q : Rat) - mu k j ≤ 51 / 100) : MInv n c k j M (tkI w k j q) r (tkm mu k j q) := by
  refine ⟨⟨?_, h.red.max, fun i hi l hl => ?_, h.red.lov⟩, fun l hl hlk => ?_⟩
  · rw [wq_tk]; exact Amg_ h.red.dec hn hj _
  · have : tkm mu k j q i l = mu i l := by unfold tkm; rw [if_neg (by omega)]
    rw [this]; exact h.red.par i hi l hl
  · by_cases e : l = j
    · subst e
      have : tkm mu k l q k l = mu k l - q := by unfold tkm; rw [if_pos rfl, if_neg (by omega), if_pos rfl]; grind
      rw [this]; constructor <;> grind
    · have : tkm mu k j q k l = mu k l := by unfold tkm; rw [if_pos rfl, if_neg (by omega), if_neg e]; grind
      rw [this]; exact h.row l (by omega) hlk
theorem MInv.keep {n c k j : Nat} {M : Rat} {w : Nat → Nat → Int} {r mu : Nat → Nat → Rat} (h : MInv n c k (j + 1) M w r mu) {q : Int} (hq : q = 0) (h1 : mu k j - q ≤ 51 / 100) (h2 : (q : Rat) - mu k j ≤ 51 / 100) : MInv n c k j M w r mu := by
  refine ⟨h.red, fun l hl hlk => ?_⟩
  by_cases e : l = j
  · subst e
    subst hq
    have : ((0 : Int) : Rat) = 0 := rfl
    rw [this] at h1 h2
    constructor <;> grind
  · exact h.row l (by omega) hlk
theorem MInv.short {n c k : Nat} {M : Rat} {w : Nat → Nat → Int} {r mu : Nat → Nat → Rat} (h : MInv n c k 0 M w r mu) (hk : k ≤ 3) (hn : k < n) (hM : M ≤ 60000) : Nb c (wq w k) 350 ∧ dt c (wq w k) (wq w k) ≤ 2 * M := by
  have hs : sm k (fun l => mu k l * mu k l * dt c (r l) (r l)) ≤ 81 / 100 * M := by
    have M0 : 0 ≤ M := Rat.le_trans (dt_nn c (r k)) (h.red.max k hn)
    have h1 : sm k (fun l => mu k l * mu k l * dt c (r l) (r l)) ≤ sm k (fun _ => 27 / 100 * M) := sm_le k fun l hl => by
      obtain ⟨p1, p2⟩ := h.row l (by omega) hl
      have a1 := Rat.mul_le_mul_of_nonneg_right (J9_ p1 p2) (dt_nn c (r l))
      have a2 := h.red.max l (by omega)
      grind
    rw [N7_] at h1
    have h3 : (k : Rat) ≤ ((3 : Nat) : Rat) := Rat.natCast_le_natCast.2 hk
    have e3 : ((3 : Nat) : Rat) = 3 := rfl
    rw [e3] at h3
    have := Rat.mul_le_mul_of_nonneg_right h3 (show 0 ≤ 27 / 100 * M by grind)
    grind
  have hd := h.red.dec.norm hn
  have hm := h.red.max k hn
  have M0 : 0 ≤ M := Rat.le_trans (dt_nn c (r k)) hm
  exact ⟨⟨by grind, by grind⟩, by grind⟩
noncomputable def lvX (w : Nat → Nat → Int) (c k : Nat) : Nat := fdot (Bg (xq w) c k) (Bg (xq w) c k) c
noncomputable def lvR (w : Nat → Nat → Int) (c k a : Nat) : Nat := fmul .f64 (fsub .f64 4604930618986332160 (fmul .f64 (fpart (xq w k) (Bg (xq w) c a) c) (fpart (xq w k) (Bg (xq w) c a) c))) (lvX w c a)
theorem Agw_ {n c a : Nat} {M : Rat} {w : Nat → Nat → Int} {r mu : Nat → Nat → Rat} (hc : c ≤ 6) (h : MInv n c (a + 1) 0 M w r mu) (hk : a + 1 ≤ 3) (hn : a + 1 < n) (hM : M ≤ 60000) (h0 : 1 ≤ dt c (r 0) (r 0)) :
    ((fgrt .f64 (lvX w c (a + 1)) (lvR w c (a + 1) a) || feq .f64 (lvX w c (a + 1)) (lvR w c (a + 1) a)) = true → 9 * dt c (r a) (r a) ≤ 20 * dt c (r (a + 1)) (r (a + 1))) ∧
    ((fgrt .f64 (lvX w c (a + 1)) (lvR w c (a + 1) a) || feq .f64 (lvX w c (a + 1)) (lvR w c (a + 1) a)) = false → dt c (r (a + 1)) (r (a + 1)) + mu (a + 1) a * mu (a + 1) a * dt c (r a) (r a) ≤ dt c (r a) (r a)) := by
  obtain ⟨hE0, hE⟩ := Cc_
  have hbig := Kw_
  obtain ⟨si, hsi⟩ := Yv_ hc h.red hk (by omega) hM h0
  obtain ⟨hN, _⟩ := h.short hk hn hM
  obtain ⟨_, x1, x2⟩ := words hN (by grind)
  -- row a + 1
  obtain ⟨g1, g2, _⟩ := Nd_ hc (x := xq w (a + 1)) (B := Bg (xq w) c) (u := wq w (a + 1)) (r := r) (si := si) (mu := mu (a + 1)) (et := 1 / 10000000000) x1 x2 hN (by grind) (by grind) (by grind) (by grind) (n := a + 1) hk (fun j hj => (hsi j hj).2.2.2) (fun l hl => (h.red.dec.dot hn hl).symm) (a + 1) (Nat.le_refl _)
  have a3 : ((a + 1 : Nat) : Rat) ≤ ((3 : Nat) : Rat) := Rat.natCast_le_natCast.2 hk
  have e3 : ((3 : Nat) : Rat) = 3 := rfl
  rw [e3] at a3
  have ha0 : 0 ≤ ((a + 1 : Nat) : Rat) := Rat.natCast_nonneg
  have gN : ∀ t, t < c → N8 (Bg (xq w) c (a + 1) t) := fun t ht => by rw [Bg_eq _ _ _ _ ht]; exact g1 t ht
  have gE : Nb c (fun t => V8 (Bg (xq w) c (a + 1) t) - r (a + 1) t) (1 / 200000) := by
    refine (g2.congr fun t ht => ?_).mono ?_
    · rw [Bg_eq _ _ _ _ ht, h.red.dec.1 (a + 1) hn t ht]; grind
    · have := Rat.mul_le_mul_of_nonneg_right a3 (show 0 ≤ 350 * (1700 * E8 + 45 * (1 / 10000000000)) by grind)
      grind
  have hRk := h.red.max (a + 1) hn
  have hr : Nb c (r (a + 1)) 245 := ⟨by grind, by grind⟩
  have hl : Nb c (fun t => V8 (Bg (xq w) c (a + 1) t)) 250 := ((hr.add gE).congr fun t _ => by grind).mono (by grind)
  obtain ⟨d1, d2, d3⟩ := Mc_ hc gN gN hl hl (by grind) (by grind) (by grind) (by grind)
  have e2 : dt c (fun t => V8 (Bg (xq w) c (a + 1) t)) (fun t => V8 (Bg (xq w) c (a + 1) t)) = dt c (r (a + 1)) (r (a + 1)) + 2 * dt c (r (a + 1)) (fun t => V8 (Bg (xq w) c (a + 1) t) - r (a + 1) t) + dt c (fun t => V8 (Bg (xq w) c (a + 1) t) - r (a + 1) t) (fun t => V8 (Bg (xq w) c (a + 1) t) - r (a + 1) t) := by
    have := K3_ c (r (a + 1)) (fun t => V8 (Bg (xq w) c (a + 1) t) - r (a + 1) t) 1
    rw [Bh_ (u := fun t => V8 (Bg (xq w) c (a + 1) t)) (u' := fun t => r (a + 1) t + 1 * (V8 (Bg (xq w) c (a + 1) t) - r (a + 1) t)) (v := fun t => V8 (Bg (xq w) c (a + 1) t)) (v' := fun t => r (a + 1) t + 1 * (V8 (Bg (xq w) c (a + 1) t) - r (a + 1) t)) (fun t _ => by grind) (fun t _ => by grind), this]; grind
  obtain ⟨f3, f4⟩ := hr.dot gE
  have f5 := gE.2
  have f6 := dt_nn c (fun t => V8 (Bg (xq w) c (a + 1) t) - r (a + 1) t)
  rw [e2] at d2 d3
  have X0 : N8 (lvX w c (a + 1)) := d1
  have X1 : V8 (lvX w c (a + 1)) - dt c (r (a + 1)) (r (a + 1)) ≤ 1 / 400 := by show V8 (fdot _ _ c) - _ ≤ _; grind
  have X2 : dt c (r (a + 1)) (r (a + 1)) - V8 (lvX w c (a + 1)) ≤ 1 / 400 := by show _ - V8 (fdot _ _ c) ≤ _; grind
  -- row a
  obtain ⟨s1, s2, s3, s4⟩ := hsi a (by omega)
  have hdot := (h.red.dec.dot (j := a) hn (by omega)).symm
  obtain ⟨p1, p2, p3, _, _⟩ := Ug_ hc x1 x2 hN (by grind) (by grind) s4 s1 hdot
  obtain ⟨_, _, _, _, _, y1, y2, y3⟩ := Oz_ hc x1 x2 hN s4.num s4.er rfl s4.lo s4.hi (by grind) s4.s2 (by grind) (by grind) (et := 1 / 10000000000) (by grind) (by grind) hdot
  have hlow := h.red.low hk h0 a (by omega)
  have hhi := h.red.max a (by omega)
  have hss := s4.hi
  have yb : si a * si a * (120 * E8 + 3 * (1 / 10000000000)) ≤ dt c (r a) (r a) / 100000000 := by
    have h1 := Rat.mul_le_mul_of_nonneg_right hss (show 0 ≤ 120 * E8 + 3 * (1 / 10000000000) by grind)
    have h2 : 4 * dt c (r a) (r a) * (120 * E8 + 3 * (1 / 10000000000)) ≤ 4 * dt c (r a) (r a) * (1 / 1000000000) := Rat.mul_le_mul_of_nonneg_left (by grind) (by grind)
    grind
  have Y0 : N8 (lvX w c a) := y3
  have Y1 : V8 (lvX w c a) - dt c (r a) (r a) ≤ dt c (r a) (r a) / 100000000 := by show V8 (fdot _ _ c) - _ ≤ _; grind
  have Y2 : dt c (r a) (r a) - V8 (lvX w c a) ≤ dt c (r a) (r a) / 100000000 := by show _ - V8 (fdot _ _ c) ≤ _; grind
  obtain ⟨m1, m2⟩ := h.row a (by omega) (by omega)
  have hm2 := J9_ m1 m2
  obtain ⟨c1, c2⟩ := Z3_
  have hR : lvR w c (a + 1) a = fmul .f64 (fsub .f64 4604930618986332160 (fmul .f64 (fpart (xq w (a + 1)) (Bg (xq w) c a) c) (fpart (xq w (a + 1)) (Bg (xq w) c a) c))) (lvX w c a) := rfl
  rw [hR]
  have hTT := T_le (s := 1 / 1000) (r := 1 / 1000) (by grind) (by grind)
  have hT0 := Tn_
  clear d1 d2 d3 e2 f3 f4 f5 f6 hl hr hRk gE gN g1 g2 hR y1 y2 y3 s4 s3 hsi hdot hss yb x1 x2 hN a3 e3 ha0 hE0
  generalize fpart (xq w (a + 1)) (Bg (xq w) c a) c = t at *
  generalize lvX w c a = Y at *
  generalize lvX w c (a + 1) = X at *
  generalize dt c (r a) (r a) = A at *
  generalize dt c (r (a + 1)) (r (a + 1)) = K at *
  generalize mu (a + 1) a = m at *
  have hE0 := Cc_.1
  -- t * t
  have tt : V8 t * V8 t - m * m ≤ 1 / 100000 ∧ m * m - V8 t * V8 t ≤ 1 / 100000 := by
    have e : V8 t * V8 t - m * m = (V8 t - m) * (V8 t - m) + 2 * (m * (V8 t - m)) := by grind
    have b1 : V8 t - m ≤ 35 / 10000000 := by grind
    have b2 : -(V8 t - m) ≤ 35 / 10000000 := by grind
    obtain ⟨i1, i2⟩ := am m1 m2 b1 b2
    obtain ⟨i3, i4⟩ := am b1 b2 b1 b2
    constructor <;> grind
  obtain ⟨t1, t2⟩ := tt
  obtain ⟨u1, u2, u3⟩ := Mt_ p1 p1 (B := 1) (by grind) (by have := sq_nn (V8 t); grind) (by grind)
  have mm0 := sq_nn m
  generalize fmul .f64 t t = tt at *
  obtain ⟨v1, v2, v3⟩ := Xg_ c1 u1 (B := 1) (by rw [c2]; grind) (by rw [c2]; grind) (by grind)
  rw [c2] at v2 v3
  generalize fsub .f64 4604930618986332160 tt = s at *
  -- s is near 3/4 - m*m
  have w1 : V8 s - (3 / 4 - m * m) ≤ 1 / 50000 := by grind
  have w2 : (3 / 4 - m * m) - V8 s ≤ 1 / 50000 := by grind
  have hs0 : 0 ≤ V8 s := by grind
  have hs1 : V8 s ≤ 1 := by grind
  have A0 : 0 < A := by grind
  have hY0 : 0 ≤ V8 Y := by grind
  have hY1 : V8 Y ≤ 2 * A := by grind
  have sy := Rat.mul_le_mul_of_nonneg_right hs1 hY0
  have sy0 := Rat.mul_nonneg hs0 hY0
  obtain ⟨z1, z2, z3⟩ := Mt_ v1 Y0 (B := 2 * A) (by grind) (by grind) (by grind)
  -- the product
  have k1 : V8 s * V8 Y - (3 / 4 - m * m) * A ≤ 1 / 20000 * A := by
    have i1 := Rat.mul_le_mul_of_nonneg_right w1 hY0
    have i2 := Rat.mul_le_mul_of_nonneg_left Y1 (show 0 ≤ 3 / 4 - m * m by grind)
    have i3 := Rat.mul_le_mul_of_nonneg_right (show 3 / 4 - m * m ≤ 1 by grind) (show 0 ≤ A / 100000000 by grind)
    grind
  have k2 : (3 / 4 - m * m) * A - V8 s * V8 Y ≤ 1 / 20000 * A := by
    have i1 := Rat.mul_le_mul_of_nonneg_right w2 hY0
    have i2 := Rat.mul_le_mul_of_nonneg_left Y2 (show 0 ≤ 3 / 4 - m * m by grind)
    have i3 := Rat.mul_le_mul_of_nonneg_right (show 3 / 4 - m * m ≤ 1 by grind) (show 0 ≤ A / 100000000 by grind)
    grind
  have k3 : 2 * A * E8 + T8 ≤ 1 / 20000 * A := by
    have i1 := Rat.mul_le_mul_of_nonneg_right (show E8 ≤ 1 / 100000000 by grind) (show 0 ≤ A by grind)
    grind
  generalize fmul .f64 s Y = Rr at *
  rw [Xa_ X0 z1, Apk_ X0 z1]
  have mA : m * m * A ≤ 27 / 100 * A := Rat.mul_le_mul_of_nonneg_right hm2 (Rat.le_of_lt A0)
  have mA0 := Rat.mul_nonneg mm0 (Rat.le_of_lt A0)
  have z2 : V8 Rr - V8 s * V8 Y ≤ 1 / 20000 * A := Rat.le_trans z2 k3
  have z3 : V8 s * V8 Y - V8 Rr ≤ 1 / 20000 * A := Rat.le_trans z3 k3
  clear u1 u2 u3 v1 v2 v3 w1 w2 t1 t2 sy sy0 p1 p2 p3 hY0 hY1 hs0 hs1 k3 hTT hT0 hE hbig hm2 mm0 m1 m2 c1 c2 Y1 Y2 hM hhi h0 hE0
  generalize V8 s * V8 Y = SY at *
  constructor
  · intro hh
    rw [Bool.or_eq_true, decide_eq_true_eq, decide_eq_true_eq] at hh
    have hge : V8 Rr ≤ V8 X := by
      rcases hh with g | g
      · exact Rat.le_of_lt g
      · rw [g]; exact Rat.le_refl
    grind
  · intro hh
    rw [Bool.or_eq_false_iff, decide_eq_false_iff_not, decide_eq_false_iff_not] at hh
    have hlt : V8 X ≤ V8 Rr := by grind
    grind
def dtI (n : Nat) (w : Nat → Nat → Int) : Int :=
  match n with
  | 1 => w 0 0
  | 2 => w 0 0 * w 1 1 - w 0 1 * w 1 0
  | 3 => w 0 0 * (w 1 1 * w 2 2 - w 1 2 * w 2 1) - w 0 1 * (w 1 0 * w 2 2 - w 1 2 * w 2 0) + w 0 2 * (w 1 0 * w 2 1 - w 1 1 * w 2 0)
  | _ => 0
theorem Aq1_ {n : Nat} {w w' : Nat → Nat → Int} (g : ∀ i, i < n → ∀ t, t < n → w i t = w' i t) : dtI n w = dtI n w' := by
  match n, g with
  | 0, _ => rfl
  | 1, g => simp only [dtI]; rw [g 0 (by omega) 0 (by omega)]
  | 2, g => simp only [dtI]; rw [g 0 (by omega) 0 (by omega), g 0 (by omega) 1 (by omega), g 1 (by omega) 0 (by omega), g 1 (by omega) 1 (by omega)]
  | 3, g => simp only [dtI]; rw [g 0 (by omega) 0 (by omega), g 0 (by omega) 1 (by omega), g 0 (by omega) 2 (by omega), g 1 (by omega) 0 (by omega), g 1 (by omega) 1 (by omega), g 1 (by omega) 2 (by omega), g 2 (by omega) 0 (by omega), g 2 (by omega) 1 (by omega), g 2 (by omega) 2 (by omega)]
  | n + 4, _ => rfl
theorem Afu_ {n : Nat} (hn : n ≤ 3) (w : Nat → Nat → Int) {k j : Nat} (q : Int) (hj : j < k) (hk : k < n) : dtI n (tkI w k j q) = dtI n w := by
  have cases3 : (n = 2 ∧ k = 1 ∧ j = 0) ∨ (n = 3 ∧ k = 1 ∧ j = 0) ∨ (n = 3 ∧ k = 2 ∧ j = 0) ∨ (n = 3 ∧ k = 2 ∧ j = 1) := by omega
  rcases cases3 with ⟨rfl, rfl, rfl⟩ | ⟨rfl, rfl, rfl⟩ | ⟨rfl, rfl, rfl⟩ | ⟨rfl, rfl, rfl⟩ <;> simp [dtI, tkI] <;> grind
def xcI' (w : Nat → Nat → Int) (a : Nat) : Nat → Nat → Int := fun i => if i = a then w (a + 1) else if i = a + 1 then w a else w i
theorem Ap5_ {n : Nat} (hn : n ≤ 3) (w : Nat → Nat → Int) {a : Nat} (ha : a + 1 < n) : dtI n (xcI' w a) = - dtI n w := by
  have cases3 : (n = 2 ∧ a = 0) ∨ (n = 3 ∧ a = 0) ∨ (n = 3 ∧ a = 1) := by omega
  rcases cases3 with ⟨rfl, rfl⟩ | ⟨rfl, rfl⟩ | ⟨rfl, rfl⟩ <;> simp [dtI, xcI'] <;> grind
theorem dt2 (u v : Nat → Rat) : dt 2 u v = 0 + u 0 * v 0 + u 1 * v 1 := rfl
theorem dt3 (u v : Nat → Rat) : dt 3 u v = 0 + u 0 * v 0 + u 1 * v 1 + u 2 * v 2 := rfl
theorem gram2 {r0 r1 : Nat → Rat} (h : dt 2 r1 r0 = 0) : (r0 0 * r1 1 - r0 1 * r1 0) * (r0 0 * r1 1 - r0 1 * r1 0) = dt 2 r0 r0 * dt 2 r1 r1 := by
  rw [dt2] at h
  rw [dt2, dt2]
  have : (r0 0 * r1 1 - r0 1 * r1 0) * (r0 0 * r1 1 - r0 1 * r1 0) = (0 + r0 0 * r0 0 + r0 1 * r0 1) * (0 + r1 0 * r1 0 + r1 1 * r1 1) - (0 + r1 0 * r0 0 + r1 1 * r0 1) * (0 + r1 0 * r0 0 + r1 1 * r0 1) := by grind
  rw [this, h]; grind
theorem gram3 {a b c : Nat → Rat} (h1 : dt 3 b a = 0) (h2 : dt 3 c a = 0) (h3 : dt 3 c b = 0) :
    (a 0 * (b 1 * c 2 - b 2 * c 1) - a 1 * (b 0 * c 2 - b 2 * c 0) + a 2 * (b 0 * c 1 - b 1 * c 0)) * (a 0 * (b 1 * c 2 - b 2 * c 1) - a 1 * (b 0 * c 2 - b 2 * c 0) + a 2 * (b 0 * c 1 - b 1 * c 0)) = dt 3 a a * dt 3 b b * dt 3 c c := by
  rw [dt3] at h1 h2 h3
  rw [dt3, dt3, dt3]
  obtain ⟨A, hA⟩ : ∃ A, A = 0 + a 0 * a 0 + a 1 * a 1 + a 2 * a 2 := ⟨_, rfl⟩
  obtain ⟨B, hB⟩ : ∃ A, A = 0 + b 0 * b 0 + b 1 * b 1 + b 2 * b 2 := ⟨_, rfl⟩
  obtain ⟨C, hC⟩ : ∃ A, A = 0 + c 0 * c 0 + c 1 * c 1 + c 2 * c 2 := ⟨_, rfl⟩
  obtain ⟨X, hX⟩ : ∃ A, A = 0 + b 0 * a 0 + b 1 * a 1 + b 2 * a 2 := ⟨_, rfl⟩
  obtain ⟨Y, hY⟩ : ∃ A, A = 0 + c 0 * a 0 + c 1 * a 1 + c 2 * a 2 := ⟨_, rfl⟩
  obtain ⟨Z, hZ⟩ : ∃ A, A = 0 + c 0 * b 0 + c 1 * b 1 + c 2 * b 2 := ⟨_, rfl⟩
  have key : (a 0 * (b 1 * c 2 - b 2 * c 1) - a 1 * (b 0 * c 2 - b 2 * c 0) + a 2 * (b 0 * c 1 - b 1 * c 0)) * (a 0 * (b 1 * c 2 - b 2 * c 1) - a 1 * (b 0 * c 2 - b 2 * c 0) + a 2 * (b 0 * c 1 - b 1 * c 0)) = A * (B * C - Z * Z) - X * (X * C - Y * Z) + Y * (X * Z - Y * B) := by
    rw [hA, hB, hC, hX, hY, hZ]
    clear h1 h2 h3 hA hB hC hX hY hZ
    generalize a 0 = a0
    generalize a 1 = a1
    generalize a 2 = a2
    generalize b 0 = b0
    generalize b 1 = b1
    generalize b 2 = b2
    generalize c 0 = c0
    generalize c 1 = c1
    generalize c 2 = c2
    grind
  rw [key, ← hA, ← hB, ← hC]
  rw [← hX] at h1
  rw [← hY] at h2
  rw [← hZ] at h3
  rw [h1, h2, h3]; grind
theorem Sm_ {z : Int} (h : z ≠ 0) : (1 : Rat) ≤ ((z : Int) : Rat) * ((z : Int) : Rat) := by
  have h3 : (1 : Int) ≤ z * z := by
    rw [← Int.natAbs_mul_self' z]
    have : 1 ≤ z.natAbs := by omega
    have := Nat.mul_le_mul this this
    omega
  have h4 := Rat.intCast_le_intCast.2 h3
  rw [Rat.intCast_mul] at h4
  have e1 : ((1 : Int) : Rat) = 1 := rfl
  rwa [e1] at h4
theorem prod2 {w : Nat → Nat → Int} {r mu : Nat → Nat → Rat} (h : Dec 2 2 (wq w) r mu) (hd : dtI 2 w ≠ 0) : 1 ≤ dt 2 (r 0) (r 0) * dt 2 (r 1) (r 1) := by
  rw [← gram2 (h.2 1 (by omega) 0 (by omega))]
  have e : r 0 0 * r 1 1 - r 0 1 * r 1 0 = ((dtI 2 w : Int) : Rat) := by
    have a0 := h.1 0 (by omega) 0 (by omega)
    have a1 := h.1 0 (by omega) 1 (by omega)
    have b0 := h.1 1 (by omega) 0 (by omega)
    have b1 := h.1 1 (by omega) 1 (by omega)
    simp only [sm, wq] at a0 a1 b0 b1
    simp only [dtI, Rat.intCast_sub, Rat.intCast_mul]
    rw [a0, a1, b0, b1]; grind
  rw [e]; exact Sm_ hd
theorem prod3 {w : Nat → Nat → Int} {r mu : Nat → Nat → Rat} (h : Dec 3 3 (wq w) r mu) (hd : dtI 3 w ≠ 0) : 1 ≤ dt 3 (r 0) (r 0) * dt 3 (r 1) (r 1) * dt 3 (r 2) (r 2) := by
  rw [← gram3 (h.2 1 (by omega) 0 (by omega)) (h.2 2 (by omega) 0 (by omega)) (h.2 2 (by omega) 1 (by omega))]
  have e : r 0 0 * (r 1 1 * r 2 2 - r 1 2 * r 2 1) - r 0 1 * (r 1 0 * r 2 2 - r 1 2 * r 2 0) + r 0 2 * (r 1 0 * r 2 1 - r 1 1 * r 2 0) = ((dtI 3 w : Int) : Rat) := by
    have a0 := h.1 0 (by omega) 0 (by omega)
    have a1 := h.1 0 (by omega) 1 (by omega)
    have a2 := h.1 0 (by omega) 2 (by omega)
    have b0 := h.1 1 (by omega) 0 (by omega)
    have b1 := h.1 1 (by omega) 1 (by omega)
    have b2 := h.1 1 (by omega) 2 (by omega)
    have c0 := h.1 2 (by omega) 0 (by omega)
    have c1 := h.1 2 (by omega) 1 (by omega)
    have c2 := h.1 2 (by omega) 2 (by omega)
    simp only [sm, wq] at a0 a1 a2 b0 b1 b2 c0 c1 c2
    simp only [dtI, Rat.intCast_sub, Rat.intCast_mul, Rat.intCast_add]
    rw [a0, a1, a2, b0, b1, b2, c0, c1, c2]
    clear a0 a1 a2 b0 b1 b2 c0 c1 c2 h hd
    generalize mu 1 0 = m10
    generalize mu 2 0 = m20
    generalize mu 2 1 = m21
    generalize r 0 0 = r00
    generalize r 0 1 = r01
    generalize r 0 2 = r02
    generalize r 1 0 = r10
    generalize r 1 1 = r11
    generalize r 1 2 = r12
    generalize r 2 0 = r20
    generalize r 2 1 = r21
    generalize r 2 2 = r22
    grind
  rw [e]; exact Sm_ hd
theorem Te_ {R : Rat} (h1 : 1 / 600000 ≤ R) (h2 : R ≤ 65536) : ∃ s : Rat, 1 / 1000 ≤ s ∧ s ≤ 500 ∧ R ≤ s * s ∧ s * s ≤ 4 * R := by
  by_cases g : 1 / 5 ≤ R
  · obtain ⟨s, a, b, c⟩ := Kt_ R
    obtain ⟨d, e⟩ := c g h2
    exact ⟨s, by grind, b, d, e⟩
  by_cases c9 : 1 / 16 ≤ R
  · exact ⟨1 / 2, by grind, by grind, by grind, by grind⟩
  by_cases c8 : 1 / 64 ≤ R
  · exact ⟨1 / 4, by grind, by grind, by grind, by grind⟩
  by_cases c7 : 1 / 256 ≤ R
  · exact ⟨1 / 8, by grind, by grind, by grind, by grind⟩
  by_cases c6 : 1 / 1024 ≤ R
  · exact ⟨1 / 16, by grind, by grind, by grind, by grind⟩
  by_cases c5 : 1 / 4096 ≤ R
  · exact ⟨1 / 32, by grind, by grind, by grind, by grind⟩
  by_cases c4 : 1 / 16384 ≤ R
  · exact ⟨1 / 64, by grind, by grind, by grind, by grind⟩
  by_cases c3 : 1 / 65536 ≤ R
  · exact ⟨1 / 128, by grind, by grind, by grind, by grind⟩
  by_cases c2 : 1 / 262144 ≤ R
  · exact ⟨1 / 256, by grind, by grind, by grind, by grind⟩
  · exact ⟨1 / 512, by grind, by grind, by grind, by grind⟩
theorem D5_ {c : Nat} (hc : c ≤ 6) {y : Nat → Nat} {r : Nat → Rat} {si et : Rat} (h : Near c y r si et) (et0 : 0 ≤ et) (et1 : et ≤ 1 / 20) (hR : 0 < dt c r r) : fgrt .f64 (fdot y y c) 0 = true := by
  obtain ⟨hE0, hE⟩ := Cc_
  have sip : 0 < si := by have := h.s1; grind
  have hr : Nb c r si := ⟨Rat.le_of_lt sip, h.lo⟩
  have hes : et * si ≤ si / 20 := by have := Rat.mul_le_mul_of_nonneg_right et1 (Rat.le_of_lt sip); grind
  have hes0 : 0 ≤ et * si := Rat.mul_nonneg et0 (Rat.le_of_lt sip)
  have he : Nb c (fun t => V8 (y t) - r t) (si / 20) := h.er.mono hes
  have hl : Nb c (fun t => V8 (y t)) (2 * si) := ((hr.add he).congr fun t _ => by grind).mono (by grind)
  have s1 := h.s1
  have s2 := h.s2
  obtain ⟨b1, b2, b3⟩ := Mc_ hc h.num h.num hl hl (by grind) (by grind) (by grind) (by grind)
  have e2 : dt c (fun t => V8 (y t)) (fun t => V8 (y t)) = dt c r r + 2 * dt c r (fun t => V8 (y t) - r t) + dt c (fun t => V8 (y t) - r t) (fun t => V8 (y t) - r t) := by
    have := K3_ c r (fun t => V8 (y t) - r t) 1
    rw [Bh_ (u := fun t => V8 (y t)) (u' := fun t => r t + 1 * (V8 (y t) - r t)) (v := fun t => V8 (y t)) (v' := fun t => r t + 1 * (V8 (y t) - r t)) (fun t _ => by grind) (fun t _ => by grind), this]; grind
  obtain ⟨f3, f4⟩ := hr.dot he
  have f6 := dt_nn c (fun t => V8 (y t) - r t)
  have hhi := h.hi
  obtain ⟨z1, z2⟩ := Wi_
  rw [Xa_ b1 z1, z2]
  refine decide_eq_true ?_
  rw [e2] at b3
  have hss : 0 < si * si := Rat.mul_pos sip sip
  have hsE : 9007199254740992 * (si * si * E8) ≤ si * si := by have := Rat.mul_le_mul_of_nonneg_left hE (Rat.le_of_lt hss); grind
  grind
def wf (m : Nat) (W : List Int) : Nat → Nat → Int := fun i t => nth W (i * m + t)
noncomputable def BL (x : Nat → Nat → Nat) (m j : Nat) : List Nat := (List.range m).map fun t => Bg x m j t
noncomputable def PL (x : Nat → Nat → Nat) (m i : Nat) : List Nat := (List.range i).map fun j => fpart (x i) (Bg x m j) m
noncomputable def poolB (x : Nat → Nat → Nat) (m i : Nat) : List (List Nat) := (List.range i).map fun j => BL x m j
noncomputable def poolP (x : Nat → Nat → Nat) (m i : Nat) : List (List Nat) := (List.range i).map fun j => PL x m j
def idxs (i : Nat) : List Nat := (List.range i).map fun j => j + 1
theorem My_ {α : Type} (f : Nat → α) (i : Nat) : (List.range i).map f ++ [f i] = (List.range (i + 1)).map f := by
  rw [List.range_succ, List.map_append]; rfl
theorem Co_ {i j : Nat} (h : j < i) : nth (idxs i) j = j + 1 := A8_ _ _ _ h
theorem Cu_ (i : Nat) : (idxs i).length = i := by simp [idxs]
theorem Ako_ (x : Nat → Nat → Nat) (m i : Nat) : (poolB x m i).length = i := by simp [poolB]
theorem Aq0_ (x : Nat → Nat → Nat) (m i : Nat) : (poolP x m i).length = i := by simp [poolP]
theorem Ct_ (x : Nat → Nat → Nat) (m j : Nat) : (BL x m j).length = m := by simp [BL]
theorem Ef_ (x : Nat → Nat → Nat) (m i : Nat) : (PL x m i).length = i := by simp [PL]
theorem Ab7_ {x : Nat → Nat → Nat} {m j t : Nat} (h : t < m) : nth (BL x m j) t = Bg x m j t := A8_ _ _ _ h
theorem Uo_ {x : Nat → Nat → Nat} {m i j : Nat} (h : j < i) : nth (PL x m i) j = fpart (x i) (Bg x m j) m := A8_ _ _ _ h
theorem Hx_ {x : Nat → Nat → Nat} {m i j : Nat} (h : j < i) : nget (poolB x m i) (j + 1) = BL x m j := A8_ _ _ _ h
theorem E3_ {x : Nat → Nat → Nat} {m i j : Nat} (h : j < i) : nget (poolP x m i) (j + 1) = PL x m j := A8_ _ _ _ h
theorem Kp_ {xs ys : List Nat} (h : xs.length ≤ ys.length) (hx : xs.length ≤ 1000) : Bt_ xs ys = some (fdot (nth xs) (nth ys) xs.length) := by
  have : Ox_ xs ys ((0 : Nat), (0 : Int)) = some (fdot (nth xs) (nth ys) xs.length) :=
    Bv_ (T := fun s => (Gl_ xs ys s).run) (n := xs.length) (r := fdot (nth xs) (nth ys) xs.length) (fun k => (fdot (nth xs) (nth ys) k, ((k : Nat) : Int)))
      (fun k hk => by
        simp only [Gl_, Tree.run, Ar_, Aq_, hk, show k < ys.length by omega, decide_true, if_true, Int.toNat_natCast, Bu_, A7_ (show k < 4611686018427387904 by omega)]
        rfl)
      (by simp only [Gl_, Tree.run, Ar_, Nat.lt_irrefl, decide_false, Bool.false_eq_true, if_false])
  simp only [Bt_, Rt_, Tree.run, if_true, this, Option.bind_some]
theorem Ks_ {x : Nat → Nat} {y : Nat → Nat} {m : Nat} : fdot (nth ((List.range m).map x)) (nth ((List.range m).map y)) m = fdot x y m :=
  Nj_ m (fun t ht => A8_ _ _ _ ht) (fun t ht => A8_ _ _ _ ht)
def rowX (x : Nat → Nat → Nat) (m i : Nat) : List Nat := (List.range m).map (x i)
theorem J1_ (x : Nat → Nat → Nat) (m i : Nat) : (rowX x m i).length = m := by simp [rowX]
noncomputable def LL (x : Nat → Nat → Nat) (m i j : Nat) : List Nat := (List.range m).map fun t => lft (x i) (Bg x m) m j t
theorem Aae_ (x : Nat → Nat → Nat) (m i j : Nat) : (LL x m i j).length = m := by simp [LL]
noncomputable def QL (x : Nat → Nat → Nat) (m i j : Nat) : List Nat := (List.range j).map fun l => fpart (x i) (Bg x m l) m
theorem Agv_ (x : Nat → Nat → Nat) (m i : Nat) : LL x m i i = BL x m i := List.map_congr_left fun t ht => (Bg_eq x m i t (List.mem_range.1 ht)).symm
def mixL (f g : Nat → Nat) (m s : Nat) : List Nat := (List.range m).map fun t => if t < s then g t else f t
theorem Xn_ (f g : Nat → Nat) (m s : Nat) : (mixL f g m s).length = m := by simp [mixL]
theorem Aqr_ {f g : Nat → Nat} {m s : Nat} (h : s < m) : nth (mixL f g m s) s = f s := by
  unfold mixL; rw [A8_ _ _ _ h, if_neg (Nat.lt_irrefl s)]
theorem Aiv_ {f g : Nat → Nat} {m s : Nat} (h : s < m) : (mixL f g m s).set s (g s) = mixL f g m (s + 1) := by
  refine Pg_ (by simp [mixL]) fun t ht => ?_
  have ht : t < m := by simpa [mixL] using ht
  rw [setG (by rw [Xn_]; exact h)]
  unfold mixL
  rw [A8_ _ _ _ ht, A8_ _ _ _ ht]
  by_cases e : s = t
  · subst e; rw [if_pos rfl, if_pos (by omega)]
  · rw [if_neg e]
    by_cases c : t < s
    · rw [if_pos c, if_pos (by omega)]
    · rw [if_neg c, if_neg (by omega)]
theorem Aju_ (f g : Nat → Nat) (m : Nat) : mixL f g m 0 = (List.range m).map f := List.map_congr_left fun t _ => by rw [if_neg (by omega)]
theorem Ant_ (f g : Nat → Nat) (m : Nat) : mixL f g m m = (List.range m).map g := List.map_congr_left fun t ht => by rw [if_pos (List.mem_range.1 ht)]
theorem Ae9_ {α : Type} [Inhabited α] {xs : List α} {a b j : Nat} (h : a + j < b) (hb : b ≤ xs.length) : nth (AM.sub xs (a : Int) (b : Int)) j = nth xs (a + j) := by
  have h1 : j < (AM.sub xs (a : Int) (b : Int)).length := by
    rw [R2_ (Bb_.2 ⟨by omega, by omega, by omega⟩)]; omega
  rw [Ao_ _ _ h1, Ao_ _ _ (show a + j < xs.length by omega)]
  simp [AM.sub]
theorem upI4 {x : Nat → Nat → Nat} {n m i : Nat} (hi : i < n) (hn : n ≤ 6) (hm : m ≤ 6) (v0 v1 : Int) (W : List Int) (p1 : List (List Nat)) (p2 : List Nat) :
    Ot_ v0 v1 W (i : Int) (i : Int) (poolB x m i) (idxs i) p1 p2 (rowX x m i) ((0 : Int), rowX x m i, ([] : List Nat)) = some (BL x m i, PL x m i) := by
  have := Bv_ (T := fun s => (Fv_ v0 v1 W (i : Int) (i : Int) (poolB x m i) (idxs i) p1 p2 (rowX x m i) s).run) (n := i) (r := (BL x m i, PL x m i)) (fun j => (((j : Nat) : Int), LL x m i j, QL x m i j))
    (fun j hj => by
      have d1 : Bt_ (rowX x m i) (BL x m j) = some (fdot (x i) (Bg x m j) m) := by
        rw [Kp_ (by rw [J1_, Ct_]; omega) (by rw [J1_]; omega), J1_]; exact congrArg some Ks_
      have d2 : Bt_ (BL x m j) (BL x m j) = some (fdot (Bg x m j) (Bg x m j) m) := by
        rw [Kp_ (by omega) (by rw [Ct_]; omega), Ct_]; exact congrArg some Ks_
      have hp : fdiv .f64 (fdot (x i) (Bg x m j) m) (fdot (Bg x m j) (Bg x m j) m) = fpart (x i) (Bg x m j) m := rfl
      have l6 : St_ (j + 1) (fpart (x i) (Bg x m j) m) (i : Int) (i : Int) (j : Int) (((LL x m i j).length : Nat) : Int) (poolB x m i) (idxs i) p1 p2 (rowX x m i) (QL x m i j) ((0 : Int), LL x m i j) = some (LL x m i (j + 1)) := by
        rw [Aae_]
        have := Bv_ (T := fun s => (Fr_ (j + 1) (fpart (x i) (Bg x m j) m) (i : Int) (i : Int) (j : Int) (m : Int) (poolB x m i) (idxs i) p1 p2 (rowX x m i) (QL x m i j) s).run) (n := m) (r := LL x m i (j + 1)) (fun t => (((t : Nat) : Int), mixL (fun t => lft (x i) (Bg x m) m j t) (fun t => lft (x i) (Bg x m) m (j + 1) t) m t))
          (fun t ht => by
            have hs := Aiv_ (f := fun t => lft (x i) (Bg x m) m j t) (g := fun t => lft (x i) (Bg x m) m (j + 1) t) ht
            have hg : fsub .f64 (lft (x i) (Bg x m) m j t) (fmul .f64 (fpart (x i) (Bg x m j) m) (Bg x m j t)) = lft (x i) (Bg x m) m (j + 1) t := rfl
            simp only [Fr_, Tree.run, Ar_, ht, decide_true, if_true, Aq_, Xn_, Hx_ hj, Ct_, Int.toNat_natCast, Aqr_ ht, Ab7_ ht, Bu_, hg, hs, A7_ (show t < 4611686018427387904 by omega)])
          (by
            simp only [Fr_, Tree.run, Ar_, Nat.lt_irrefl, decide_false, Bool.false_eq_true, if_false, Ant_]
            rfl)
        rw [Aju_] at this
        exact this
      have hq : QL x m i j ++ [fpart (x i) (Bg x m j) m] = QL x m i (j + 1) := My_ _ _
      have hf : fits (QL x m i (j + 1)).length = true := fitsN (by simp [QL]; omega)
      simp only [Fv_, Tree.run, Ar_, hj, decide_true, if_true, Aq_, Cu_, Int.toNat_natCast, Co_ hj, Hx_ hj, d1, d2, hp, l6, hq, hf, Option.bind_some, A7_ (show j < 4611686018427387904 by omega)])
    (by
      have hq : QL x m i i = PL x m i := rfl
      simp only [Fv_, Tree.run, Ar_, Nat.lt_irrefl, decide_false, Bool.false_eq_true, if_false, Agv_, hq])
  exact this
noncomputable def upR (x : Nat → Nat → Nat) (n m : Nat) : Unit ⊕ (List (List Nat) × List Nat × List (List Nat) × List Nat) :=
  if ((List.range n).any fun i => !fgrt .f64 (fdot (Bg x m i) (Bg x m i) m) 0) = true then .inl () else .inr (poolB x m n, idxs n, poolP x m n, idxs n)
theorem i36 {n m : Nat} (hn : n ≤ 6) (hm : m ≤ 6) : IntKind.i64.wrap ((n : Int) * (m : Int)) = ((n * m : Nat) : Int) := by
  have := le36 hn hm
  rw [← Int.natCast_mul, w64 (by omega) (by omega)]
theorem upI {n m : Nat} {W : List Int} (n1 : 1 ≤ n) (hn : n ≤ 6) (m1 : 1 ≤ m) (hm : m ≤ 6) (hW : W.length = n * m) : Ed_ n m W = some (upR (xq (wf m W)) n m) := by
  obtain ⟨x, hx⟩ : ∃ x, x = xq (wf m W) := ⟨_, rfl⟩
  rw [← hx]
  have h36 := le36 hn hm
  have := Ae3_ (T := fun s => (El_ n m W s).run) (n := n) (p := fun i => !fgrt .f64 (fdot (Bg x m i) (Bg x m i) m) 0) (a := .inl ()) (b := .inr (poolB x m n, idxs n, poolP x m n, idxs n)) (fun i => (((i : Nat) : Int), poolB x m i, idxs i, poolP x m i, idxs i))
    (fun i hi => by
      have r1 : IntKind.i64.wrap ((i : Int) * (m : Int)) = ((i * m : Nat) : Int) := i36 (by omega) hm
      have r2 : IntKind.i64.wrap (((i + 1 : Nat) : Int) * (m : Int)) = (((i + 1) * m : Nat) : Int) := i36 (by omega) hm
      have hle : (i + 1) * m ≤ n * m := Nat.mul_le_mul_right m hi
      have hsm : (i + 1) * m = i * m + m := by rw [Nat.add_mul, Nat.one_mul]
      have hok : sok ((i * m : Nat) : Int) (((i + 1) * m : Nat) : Int) W.length = true := Bb_.2 ⟨by omega, by omega, by omega⟩
      have hl : (AM.sub W ((i * m : Nat) : Int) (((i + 1) * m : Nat) : Int)).length = m := by rw [R2_ hok]; omega
      have hcl : Be_ (AM.sub W ((i * m : Nat) : Int) (((i + 1) * m : Nat) : Int)) = some () := by
        have q1 : decide (0 < (AM.sub W ((i * m : Nat) : Int) (((i + 1) * m : Nat) : Int)).length) = true := by rw [hl]; exact decide_eq_true m1
        have q2 : fits (AM.sub W ((i * m : Nat) : Int) (((i + 1) * m : Nat) : Int)).length = true := fitsN (by rw [hl]; omega)
        simp only [Be_, Ep_, Tree.run, List.nil_append, q1, q2, if_true]
      have hrow : Jx_ m W (i : Int) = some () := by
        simp only [Jx_, Th_, Tree.run, A7_ (show i < 4611686018427387904 by omega), r1, r2, hok, hcl, if_true, Option.bind_some]
      have hnth : ∀ t, t < m → nth (AM.sub W ((i * m : Nat) : Int) (((i + 1) * m : Nat) : Int)) t = nth W (i * m + t) := fun t ht => by
        exact Ae9_ (by omega) (by omega)
      have l2 : Qn_ (i : Int) (m : Int) (poolB x m i) (idxs i) (poolP x m i) (idxs i) (AM.sub W ((i * m : Nat) : Int) (((i + 1) * m : Nat) : Int)) ((0 : Int), ([] : List Nat)) = some (rowX x m i) := by
        refine Aj7_ (T := fun s => (It_ (i : Int) (m : Int) (poolB x m i) (idxs i) (poolP x m i) (idxs i) (AM.sub W ((i * m : Nat) : Int) (((i + 1) * m : Nat) : Int)) s).run) (fun t s ht hs => ?_) (fun s => ?_)
        · have hf : fits (s ++ [x i t]).length = true := fitsN (by rw [List.length_append, hs]; simp; omega)
          have he : Bm_ .f64 (nth W (i * m + t)) = x i t := by rw [hx]; rfl
          simp only [It_, Tree.run, Ar_, ht, decide_true, if_true, Aq_, hl, Int.toNat_natCast, hnth t ht, he, hf, A7_ (show t < 4611686018427387904 by omega)]
        · simp only [It_, Tree.run, Ar_, Nat.lt_irrefl, decide_false, Bool.false_eq_true, if_false]
      have hc2 : Jq_ (rowX x m i) = some () := by
        have q1 : decide (0 < (rowX x m i).length) = true := by rw [J1_]; exact decide_eq_true m1
        have q2 : fits (rowX x m i).length = true := fitsN (by rw [J1_]; omega)
        simp only [Jq_, Pf_, Tree.run, List.nil_append, q1, q2, if_true]
      have l4 := upI4 (x := x) hi hn hm n m W (poolP x m i) (idxs i)
      have d : Bt_ (BL x m i) (BL x m i) = some (fdot (Bg x m i) (Bg x m i) m) := by
        rw [Kp_ (by omega) (by rw [Ct_]; omega), Ct_]; exact congrArg some Ks_
      have f1 : fits (i + 1) = true := fitsN (by omega)
      have s1 : poolB x m i ++ [BL x m i] = poolB x m (i + 1) := My_ _ _
      have s2 : poolP x m i ++ [PL x m i] = poolP x m (i + 1) := My_ _ _
      have s3 : idxs i ++ [i + 1] = idxs (i + 1) := My_ _ _
      cases hp : fgrt .f64 (fdot (Bg x m i) (Bg x m i) m) 0 with
      | true => simp only [El_, Tree.run, Ar_, hi, decide_true, if_true, hrow, A7_ (show i < 4611686018427387904 by omega), r1, r2, List.nil_append, hl, l2, hc2, Cu_, l4, d, hp, f1, Ako_, Aq0_, s1, s2, s3, Option.bind_some, Bool.not_true, Bool.false_eq_true, if_false]
      | false => simp only [El_, Tree.run, Ar_, hi, decide_true, if_true, hrow, A7_ (show i < 4611686018427387904 by omega), r1, r2, List.nil_append, hl, l2, hc2, Cu_, l4, d, hp, Option.bind_some, Bool.not_false])
    (by simp only [El_, Tree.run, Ar_, Nat.lt_irrefl, decide_false, Bool.false_eq_true, if_false])
  have this : Qb_ n m W ((0 : Int), ([] : List (List Nat)), ([] : List Nat), ([] : List (List Nat)), ([] : List Nat)) = _ := this
  unfold upR
  cases hp : ((List.range n).any fun i => !fgrt .f64 (fdot (Bg x m i) (Bg x m i) m) 0) with
  | true =>
    rw [hp, if_pos rfl] at this
    simp only [Ed_, Mo_, Tree.run, if_true, this, Option.bind_some]
  | false =>
    rw [hp, if_neg (by decide)] at this
    simp only [Ed_, Mo_, Tree.run, if_true, this, Option.bind_some, Bool.false_eq_true, if_false]
theorem Dec.congr {n c : Nat} {w w' r mu : Nat → Nat → Rat} (h : Dec n c w r mu) (g : ∀ i, i < n → ∀ t, t < c → w i t = w' i t) : Dec n c w' r mu :=
  ⟨fun i hi t ht => by rw [← g i hi t ht]; exact h.1 i hi t ht, h.2⟩
theorem RInv.congr {n c k : Nat} {M : Rat} {w w' : Nat → Nat → Int} {r mu : Nat → Nat → Rat} (h : RInv n c k M w r mu) (g : ∀ i, i < n → ∀ t, t < c → w i t = w' i t) : RInv n c k M w' r mu :=
  ⟨h.dec.congr fun i hi t ht => by unfold wq; rw [g i hi t ht], h.max, h.par, h.lov⟩
theorem MInv.congr {n c k j : Nat} {M : Rat} {w w' : Nat → Nat → Int} {r mu : Nat → Nat → Rat} (h : MInv n c k j M w r mu) (g : ∀ i, i < n → ∀ t, t < c → w i t = w' i t) : MInv n c k j M w' r mu :=
  ⟨h.red.congr g, h.row⟩
theorem Ahb_ {c i : Nat} {w w' : Nat → Nat → Int} (g : ∀ t, t < c → w i t = w' i t) : ∀ t, t < c → wq w i t = wq w' i t := fun t ht => by unfold wq; rw [g t ht]
def xcI (w : Nat → Nat → Int) (a : Nat) : Nat → Nat → Int := fun i => if i = a then w (a + 1) else if i = a + 1 then w a else w i
theorem wq_xc (w : Nat → Nat → Int) (a : Nat) : wq (xcI w a) = xc (wq w) a := by
  funext i t
  unfold wq xcI xc
  by_cases e : i = a
  · rw [if_pos e, if_pos e]
  · rw [if_neg e, if_neg e]
    by_cases e2 : i = a + 1
    · rw [if_pos e2, if_pos e2]
    · rw [if_neg e2, if_neg e2]
structure Kept (n m : Nat) (P : (Nat → Nat → Int) → Prop) : Prop where
  congr : ∀ w w', (∀ i, i < n → ∀ t, t < m → w i t = w' i t) → P w → P w'
  take : ∀ w k j q, j < k → k < n → P w → P (tkI w k j q)
  swap : ∀ w a, a + 1 < n → P w → P (xcI w a)
def aL : Nat → Rat
  | 0 => 350
  | s + 1 => 7 * aL s + 1600
theorem aL_le : aL 0 = 350 ∧ aL 1 = 4050 ∧ aL 2 = 29950 ∧ aL 3 = 211250 := by
  refine ⟨rfl, ?_, ?_, ?_⟩ <;> simp only [aL] <;> grind
def Flat (n m : Nat) (M : Rat) (P : (Nat → Nat → Int) → Prop) : Prop :=
  ∃ W k r mu, W.length = n * m ∧ 1 ≤ k ∧ k ≤ 3 ∧ k < n ∧ RInv n m k M (wf m W) r mu ∧ P (wf m W) ∧ (∀ i, i < n → i ≠ k → dt m (wq (wf m W) i) (wq (wf m W) i) ≤ 2 * M) ∧ (dt m (wq (wf m W) k) (wq (wf m W) k) ≤ 2 * M ∨ (2 ≤ k ∧ Nb m (wq (wf m W) k) (aL (k - 1)))) ∧ ((List.range n).any fun i => !fgrt .f64 (fdot (Bg (xq (wf m W)) m i) (Bg (xq (wf m W)) m i) m) 0) = true
theorem Akk_ {n m k j : Nat} {q : Int} {W : List Int} (hk : k < n) (hj : j < n) (hm : m ≤ 6) (hn : n ≤ 6) (q0 : -1000000 ≤ q) (q1 : q ≤ 1000000) (h1 : ∀ t, t < m → (wf m W k t).natAbs ≤ 1000000) (h2 : ∀ t, t < m → (wf m W j t).natAbs ≤ 1000000) :
    ∀ i, i < n → ∀ t, t < m → tkI (wf m W) k j q i t = wf m (takeL n m W k j q) i t := fun i hi t ht => by
  show _ = nth (takeL n m W k j q) (i * m + t)
  rw [Aer_ hi ht]
  unfold tkI
  by_cases e : i = k
  · rw [if_pos e, if_pos e]
    have a1 := h1 t ht
    have a2 := h2 t ht
    have e1 : wf m W k t = nth W (k * m + t) := rfl
    have e2 : wf m W j t = nth W (j * m + t) := rfl
    rw [e1] at a1 ⊢
    rw [e2] at a2 ⊢
    have b : (q * nth W (j * m + t)).natAbs ≤ 1000000 * 1000000 := by rw [Int.natAbs_mul]; exact Nat.mul_le_mul (by omega) a2
    rw [w64 (n := q * nth W (j * m + t)) (by omega) (by omega), w64 (by omega) (by omega)]
  · rw [if_neg e, if_neg e]; rfl
theorem Ajp_ {n m a : Nat} {W : List Int} (ha : a + 1 < n) : ∀ i, i < n → ∀ t, t < m → xcI (wf m W) a i t = wf m (swapL n m W (a + 1) a) i t := fun i hi t ht => by
  show _ = nth (swapL n m W (a + 1) a) (i * m + t)
  rw [Af2_ hi ht]
  unfold xcI sw
  by_cases e : i = a
  · rw [if_pos e, if_neg (by omega), if_pos e]; rfl
  · by_cases e2 : i = a + 1
    · rw [if_neg e, if_pos e2, if_pos e2]; rfl
    · rw [if_neg e, if_neg e2, if_neg e2, if_neg e]; rfl
theorem row0 {n m k : Nat} {M : Rat} {W : List Int} {r mu : Nat → Nat → Rat} (h : RInv n m k M (wf m W) r mu) (hn : 1 ≤ n) (hany : ((List.range n).any fun i => !fgrt .f64 (fdot (Bg (xq (wf m W)) m i) (Bg (xq (wf m W)) m i) m) 0) = false) : 1 ≤ dt m (r 0) (r 0) := by
  have hr : dt m (r 0) (r 0) = dt m (wq (wf m W) 0) (wq (wf m W) 0) := by
    have e := h.dec.1 0 (by omega)
    have g : ∀ t, t < m → r 0 t = wq (wf m W) 0 t := fun t ht => by rw [e t ht]; show _ = r 0 t + 0; grind
    exact Bh_ g g
  rw [hr]
  have h0 : fgrt .f64 (fdot (Bg (xq (wf m W)) m 0) (Bg (xq (wf m W)) m 0) m) 0 = true := by
    have := List.any_eq_false.1 hany 0 (List.mem_range.2 (by omega))
    simpa using this
  by_cases hz : ∀ t, t < m → wf m W 0 t = 0
  · exfalso
    have hb : ∀ t, t < m → Bg (xq (wf m W)) m 0 t = 0 := fun t ht => by
      rw [Bg_eq _ _ _ _ ht]
      show Bm_ .f64 (wf m W 0 t) = 0
      rw [hz t ht]; kernel_rfl
    have hd : ∀ k, k ≤ m → fdot (Bg (xq (wf m W)) m 0) (Bg (xq (wf m W)) m 0) k = 0 := fun k => by
      induction k with
      | zero => intro _; rfl
      | succ k ih =>
        intro hk
        simp only [fdot]
        rw [ih (by omega), hb k (by omega)]; kernel_rfl
    rw [hd m (Nat.le_refl _)] at h0
    have : fgrt .f64 0 0 = false := by kernel_rfl
    rw [this] at h0; cases h0
  · obtain ⟨t, ht⟩ := Classical.not_forall.1 hz
    obtain ⟨ht, h1⟩ := Classical.not_imp.1 ht
    have h2 : wq (wf m W) 0 t * wq (wf m W) 0 t ≤ dt m (wq (wf m W) 0) (wq (wf m W) 0) := Kj_ (f := fun t => wq (wf m W) 0 t * wq (wf m W) 0 t) m (fun i _ => sq_nn _) t ht
    have h3 : (1 : Int) ≤ wf m W 0 t * wf m W 0 t := by
      have := Int.mul_self_le_mul_self (a := 1) (b := ((wf m W 0 t).natAbs : Int)) (by omega) (by omega)
      rw [Int.natAbs_mul_self' ] at this
      simpa using this
    have h4 := Rat.intCast_le_intCast.2 h3
    rw [Rat.intCast_mul] at h4
    have e1 : ((1 : Int) : Rat) = 1 := rfl
    rw [e1] at h4
    exact Rat.le_trans h4 h2
theorem redB {n m k : Nat} {M : Rat} {P : (Nat → Nat → Int) → Prop} (hP : Kept n m P) (n4 : n ≤ 4) (m1 : 1 ≤ m) (m6 : m ≤ 6) (k1 : 1 ≤ k) (hk : k < n) (hM : M ≤ 60000) (x1 x2 x3 : Int) : ∀ (d : Nat) (W : List Int) (r mu : Nat → Nat → Rat), d ≤ k → W.length = n * m → MInv n m k d M (wf m W) r mu → P (wf m W) →
    (∀ i, i < n → i ≠ k → dt m (wq (wf m W) i) (wq (wf m W) i) ≤ 2 * M) → Nb m (wq (wf m W) k) (aL (k - d)) → 1 ≤ dt m (r 0) (r 0) → ((List.range n).any fun i => !fgrt .f64 (fdot (Bg (xq (wf m W)) m i) (Bg (xq (wf m W)) m i) m) 0) = false →
    (Flat n m M P ∧ Mi_ n m (k : Int) x1 ((d : Int) - 1, poolB (xq (wf m W)) m n, idxs n, poolP (xq (wf m W)) m n, idxs n, W) = some (.inl ())) ∨
    ∃ (W' : List Int) (mu' : Nat → Nat → Rat), W'.length = n * m ∧ MInv n m k 0 M (wf m W') r mu' ∧ P (wf m W') ∧ (∀ i, i < n → dt m (wq (wf m W') i) (wq (wf m W') i) ≤ 2 * M) ∧ ((List.range n).any fun i => !fgrt .f64 (fdot (Bg (xq (wf m W')) m i) (Bg (xq (wf m W')) m i) m) 0) = false ∧
      Mi_ n m (k : Int) x1 ((d : Int) - 1, poolB (xq (wf m W)) m n, idxs n, poolP (xq (wf m W)) m n, idxs n, W) = some (.inr (poolB (xq (wf m W')) m n, idxs n, poolP (xq (wf m W')) m n, idxs n, W'))
  | 0, W, r, mu, hd, hW, hI, hPW, hR, hN, h0, hany => by
    refine .inr ⟨W, mu, hW, hI, hPW, fun i hi => ?_, hany, ?_⟩
    · by_cases e : i = k
      · rw [e]; exact (hI.short (by omega) hk hM).2
      · exact hR i hi e
    · refine A9_ (T := fun s => (Bl_ n m (k : Int) x1 s).run) ?_
      have c : decide ((0 : Int) ≤ ((0 : Nat) : Int) - 1) = false := by decide
      simp only [Bl_, Tree.run, c, Bool.false_eq_true, if_false]
  | d + 1, W, r, mu, hd, hW, hI, hPW, hR, hN, h0, hany => by
    obtain ⟨b0, b1, b2, b3⟩ := aL_le
    have hal : 1 ≤ aL (k - (d + 1)) ∧ aL (k - (d + 1)) ≤ 60000 := by
      rcases Nat.lt_or_ge (k - (d + 1)) 1 with g | g
      · rw [show k - (d + 1) = 0 by omega, b0]; constructor <;> grind
      · rcases Nat.lt_or_ge (k - (d + 1)) 2 with g2 | g2
        · rw [show k - (d + 1) = 1 by omega, b1]; constructor <;> grind
        · rw [show k - (d + 1) = 2 by omega, b2]; constructor <;> grind
    have ha3 : aL (k - d) ≤ 300000 := by
      rcases Nat.lt_or_ge (k - d) 2 with g | g
      · rw [show k - d = 1 by omega, b1]; grind
      · rcases Nat.lt_or_ge (k - d) 3 with g2 | g2
        · rw [show k - d = 2 by omega, b2]; grind
        · rw [show k - d = 3 by omega, b3]; grind
    have hstep : aL (k - d) = 7 * aL (k - (d + 1)) + 1600 := by
      rw [show k - d = (k - (d + 1)) + 1 by omega]; rfl
    obtain ⟨q, q1, q2, q3, q4, q5, q6, q7, q8⟩ := Aqp_ m6 hI.red (by omega) hk hM h0 hN hal.1 hal.2 (j := d) (by omega)
    rw [← hstep] at q7
    have e1 : (((d + 1 : Nat) : Int) - 1) = (d : Int) := by omega
    have ed : IntKind.i64.wrap ((d : Int) - 1) = (d : Int) - 1 := w64 (by omega) (by omega)
    rw [e1]
    have hnn := Uo_ (x := xq (wf m W)) (m := m) (i := k) (j := d) (by omega)
    have hfl : Kv_ (fadd .f64 (fpart (xq (wf m W) k) (Bg (xq (wf m W)) m d) m) 4602678819172646912) = some (C3_ (fadd .f64 (fpart (xq (wf m W) k) (Bg (xq (wf m W)) m d) m) 4602678819172646912)) := by
      simp only [Kv_, Sl_, Tree.run, q1, Bool.not_false, if_true]
    have c0 : decide ((0 : Int) ≤ (d : Int)) = true := decide_eq_true (by omega)
    have hkd : d < k := by omega
    by_cases hq : q = 0
    · -- nothing is taken
      have hI' := hI.keep hq q5 q6
      have cq : decide (q = 0) = true := decide_eq_true hq
      have hN' : Nb m (wq (wf m W) k) (aL (k - d)) := hN.mono (by rw [hstep]; have := hal.1; grind)
      rcases redB hP n4 m1 m6 k1 hk hM x1 x2 x3 d W r mu (by omega) hW hI' hPW hR hN' h0 hany with ⟨hF, i1⟩ | ⟨W', mu', w1, w2, w3, w4, w5, i1⟩
      · refine .inl ⟨hF, ?_⟩
        · refine A3_ (T := fun s => (Bl_ n m (k : Int) x1 s).run) ?_ i1
          simp only [Bl_, Tree.run, c0, if_true, Aq_, Cu_, hk, decide_true, Int.toNat_natCast, Co_ hk, E3_ hk, Ef_, hkd, hnn, hfl, q2, Option.bind_some, cq, ed]
      · refine .inr ⟨W', mu', w1, w2, w3, w4, w5, ?_⟩
        · refine A3_ (T := fun s => (Bl_ n m (k : Int) x1 s).run) ?_ i1
          simp only [Bl_, Tree.run, c0, if_true, Aq_, Cu_, hk, decide_true, Int.toNat_natCast, Co_ hk, E3_ hk, Ef_, hkd, hnn, hfl, q2, Option.bind_some, cq, ed]
    · have cq : decide (q = 0) = false := decide_eq_false hq
      obtain ⟨bk, _, _⟩ := words hN (by have := hal.2; grind)
      obtain ⟨bj, _, _⟩ := words q8 (by grind)
      have hwf := Akk_ (q := q) (W := W) hk (show d < n by omega) m6 (by omega) q3 q4 bk bj
      obtain ⟨W2, hW2⟩ : ∃ W2, W2 = takeL n m W k d q := ⟨_, rfl⟩
      rw [← hW2] at hwf
      have hl2 : W2.length = n * m := by rw [hW2]; exact Lf_ _ _ _
      have hI2 : MInv n m k d M (wf m W2) r (tkm mu k d q) := (hI.take hk hkd q5 q6).congr hwf
      have hP2 : P (wf m W2) := hP.congr _ _ hwf (hP.take _ _ _ _ hkd hk hPW)
      have hR2 : ∀ i, i < n → i ≠ k → dt m (wq (wf m W2) i) (wq (wf m W2) i) ≤ 2 * M := fun i hi e => by
        have g : ∀ t, t < m → wq (wf m W2) i t = wq (wf m W) i t := fun t ht => by
          unfold wq; rw [← hwf i hi t ht]; unfold tkI; rw [if_neg e]
        rw [Bh_ g g]; exact hR i hi e
      have hN2 : Nb m (wq (wf m W2) k) (aL (k - d)) := q7.congr (Ahb_ fun t ht => hwf k hk t ht)
      have tI : Fd_ n m W (k : Int) (d : Int) q = some W2 := by rw [hW2]; exact takeI hk (by omega) (by omega) m6 hW
      have hlen : decide (W2.length = W.length) = true := decide_eq_true (by rw [hl2, hW])
      have uI := upI (W := W2) (show 1 ≤ n by omega) (show n ≤ 6 by omega) m1 m6 hl2
      unfold upR at uI
      cases hany2 : ((List.range n).any fun i => !fgrt .f64 (fdot (Bg (xq (wf m W2)) m i) (Bg (xq (wf m W2)) m i) m) 0) with
      | true =>
        rw [hany2, if_pos rfl] at uI
        have hshort : dt m (wq (wf m W2) k) (wq (wf m W2) k) ≤ 2 * M ∨ (2 ≤ k ∧ Nb m (wq (wf m W2) k) (aL (k - 1))) := by
          by_cases hd0 : d = 0
          · subst hd0
            exact .inl (hI2.short (by omega) hk hM).2
          · refine .inr ⟨by omega, hN2.mono ?_⟩
            rcases Nat.lt_or_ge (k - d) 2 with g | g
            · rcases Nat.lt_or_ge (k - 1) 2 with g2 | g2
              · rw [show k - d = 1 by omega, show k - 1 = 1 by omega]; exact Rat.le_refl
              · rw [show k - d = 1 by omega, show k - 1 = 2 by omega, b1, b2]; grind
            · rw [show k - d = 2 by omega, show k - 1 = 2 by omega]; exact Rat.le_refl
        refine .inl ⟨⟨W2, k, r, _, hl2, k1, by omega, hk, hI2.red, hP2, hR2, hshort, hany2⟩, ?_⟩
        · refine A9_ (T := fun s => (Bl_ n m (k : Int) x1 s).run) ?_
          simp only [Bl_, Tree.run, c0, if_true, Aq_, Cu_, hk, decide_true, Int.toNat_natCast, Co_ hk, E3_ hk, Ef_, hkd, hnn, hfl, q2, Option.bind_some, cq, Bool.false_eq_true, if_false, tI, hlen, uI]
      | false =>
        rw [hany2, if_neg (by decide)] at uI
        rcases redB hP n4 m1 m6 k1 hk hM x1 x2 x3 d W2 r _ (by omega) hl2 hI2 hP2 hR2 hN2 h0 hany2 with ⟨hF, i1⟩ | ⟨W', mu', w1, w2, w3, w4, w5, i1⟩
        · refine .inl ⟨hF, ?_⟩
          · refine A3_ (T := fun s => (Bl_ n m (k : Int) x1 s).run) ?_ i1
            simp only [Bl_, Tree.run, c0, if_true, Aq_, Cu_, hk, decide_true, Int.toNat_natCast, Co_ hk, E3_ hk, Ef_, hkd, hnn, hfl, q2, Option.bind_some, cq, Bool.false_eq_true, if_false, tI, hlen, uI, ed]
        · refine .inr ⟨W', mu', w1, w2, w3, w4, w5, ?_⟩
          · refine A3_ (T := fun s => (Bl_ n m (k : Int) x1 s).run) ?_ i1
            simp only [Bl_, Tree.run, c0, if_true, Aq_, Cu_, hk, decide_true, Int.toNat_natCast, Co_ hk, E3_ hk, Ef_, hkd, hnn, hfl, q2, Option.bind_some, cq, Bool.false_eq_true, if_false, tI, hlen, uI, ed]
theorem Aej_ {n c k : Nat} {M : Rat} {w : Nat → Nat → Int} {r mu : Nat → Nat → Rat} (h : MInv n c (k + 1) 0 M w r mu) (g : 9 * dt c (r k) (r k) ≤ 20 * dt c (r (k + 1)) (r (k + 1))) : RInv n c (k + 2) M w r mu := by
  refine ⟨h.red.dec, h.red.max, fun i hi j hj => ?_, fun i hi => ?_⟩
  · by_cases e : i = k + 1
    · subst e; exact h.row j (by omega) hj
    · exact h.red.par i (by omega) j hj
  · by_cases e : i = k
    · subst e; exact g
    · exact h.red.lov i (by omega)
theorem Agc_ {n c a : Nat} {M : Rat} {w : Nat → Nat → Int} {r mu : Nat → Nat → Rat} (h : MInv n c (a + 1) 0 M w r mu) (ha : a + 1 < n) (g : dt c (r (a + 1)) (r (a + 1)) + mu (a + 1) a * mu (a + 1) a * dt c (r a) (r a) ≤ dt c (r a) (r a)) : ∃ r' mu', RInv n c (max 1 a) M (xcI w a) r' mu' := by
  obtain ⟨r', mu', d1, d2, d3, d4, d5⟩ := Ahc_ h.red.dec ha
  have hmx := h.red.max a (by omega)
  refine ⟨r', mu', by rw [wq_xc]; exact d1, fun i hi => ?_, fun i hi j hj => ?_, fun i hi => ?_⟩
  · by_cases e : i = a
    · rw [e, d4]; exact Rat.le_trans g hmx
    · by_cases e2 : i = a + 1
      · rw [e2]; exact Rat.le_trans d5 hmx
      · rw [d2 i e e2]; exact h.red.max i hi
  · rw [d3 i (by omega)]; exact h.red.par i (by omega) j hj
  · rw [d2 i (by omega) (by omega), d2 (i + 1) (by omega) (by omega)]; exact h.red.lov i (by omega)
theorem mainB {n m : Nat} {M : Rat} {P : (Nat → Nat → Int) → Prop} (hP : Kept n m P) (n1 : 1 ≤ n) (n4 : n ≤ 4) (m1 : 1 ≤ m) (m6 : m ≤ 6) (hM : M ≤ 60000) (V : List Int) (x0 x1 : Int) {steps : Nat} (hs : steps ≤ 1000) : ∀ (d done k : Nat) (W : List Int) (r mu : Nat → Nat → Rat), done + d = steps → 1 ≤ k → W.length = n * m → RInv n m k M (wf m W) r mu → P (wf m W) →
    (∀ i, i < n → dt m (wq (wf m W) i) (wq (wf m W) i) ≤ 2 * M) →
    (((∃ W k r mu, W.length = n * m ∧ 1 ≤ k ∧ k ≤ 3 ∧ k < n ∧ RInv n m k M (wf m W) r mu ∧ P (wf m W) ∧ (∀ i, i < n → i ≠ k → dt m (wq (wf m W) i) (wq (wf m W) i) ≤ 2 * M) ∧ (dt m (wq (wf m W) k) (wq (wf m W) k) ≤ 2 * M ∨ (2 ≤ k ∧ Nb m (wq (wf m W) k) (aL (k - 1)))) ∧ ((List.range n).any fun i => !fgrt .f64 (fdot (Bg (xq (wf m W)) m i) (Bg (xq (wf m W)) m i) m) 0) = true)) ∧
      Jc_ n m V (steps : Int) ((k : Int), (done : Int), W) = some (.inl ())) ∨
    ∃ (t : Nat) (W' : List Int), t ≤ steps ∧ W'.length = n * m ∧ P (wf m W') ∧ (∀ i, i < n → dt m (wq (wf m W') i) (wq (wf m W') i) ≤ 2 * M) ∧
      Jc_ n m V (steps : Int) ((k : Int), (done : Int), W) = some (.inr ((t : Int), W'))
  | 0, done, k, W, r, mu, hd, k1, hW, hI, hPW, hR => by
    have c : decide ((done : Int) < (steps : Int)) = false := decide_eq_false (by omega)
    refine .inr ⟨done, W, by omega, hW, hPW, hR, A9_ (T := fun s => (A4_ n m V (steps : Int) s).run) ?_⟩
    · simp only [A4_, Tree.run, c, Bool.false_eq_true, if_false]
  | d + 1, done, k, W, r, mu, hd, k1, hW, hI, hPW, hR => by
    have c : decide ((done : Int) < (steps : Int)) = true := decide_eq_true (by omega)
    by_cases hk : k < n
    · have ck : decide ((k : Int) < (n : Int)) = true := decide_eq_true (by omega)
      have uI := upI (W := W) n1 (show n ≤ 6 by omega) m1 m6 hW
      unfold upR at uI
      have hNk : Nb m (wq (wf m W) k) 350 := ⟨by grind, by have := hR k hk; grind⟩
      cases hany : ((List.range n).any fun i => !fgrt .f64 (fdot (Bg (xq (wf m W)) m i) (Bg (xq (wf m W)) m i) m) 0) with
      | true =>
        rw [hany, if_pos rfl] at uI
        refine .inl ⟨⟨W, k, r, mu, hW, k1, by omega, hk, hI, hPW, fun i hi _ => hR i hi, .inl (hR k hk), hany⟩, A9_ (T := fun s => (A4_ n m V (steps : Int) s).run) ?_⟩
        · simp only [A4_, Tree.run, c, ck, if_true, uI, Option.bind_some]
      | false =>
        rw [hany, if_neg (by decide)] at uI
        have h0 := row0 hI n1 hany
        obtain ⟨a, rfl⟩ : ∃ a, k = a + 1 := ⟨k - 1, by omega⟩
        have hMI : MInv n m (a + 1) (a + 1) M (wf m W) r mu := ⟨hI, fun l h1 h2 => by omega⟩
        have e1' : ((a + 1 : Nat) : Int) - 1 = (a : Int) := by omega
        have e1 : IntKind.i64.wrap (((a + 1 : Nat) : Int) - 1) = (a : Int) := by rw [e1']; exact w64 (by omega) (by omega)
        have ed : IntKind.i64.wrap ((done : Int) + 1) = ((done + 1 : Nat) : Int) := A7_ (by omega)
        rcases redB hP n4 m1 m6 (by omega) hk hM (done : Int) 0 0 (a + 1) W r mu (Nat.le_refl _) hW hMI hPW (fun i hi _ => hR i hi) (by rw [Nat.sub_self]; exact hNk) h0 hany with ⟨hF, i1⟩ | ⟨W', mu', w1, w2, w3, w4, w5, i1⟩
        · refine .inl ⟨hF, A9_ (T := fun s => (A4_ n m V (steps : Int) s).run) ?_⟩
          · rw [e1'] at i1
            simp only [A4_, Tree.run, c, ck, if_true, uI, Option.bind_some, e1, i1]
        · rw [e1'] at i1
          have dk : Bt_ (BL (xq (wf m W')) m (a + 1)) (BL (xq (wf m W')) m (a + 1)) = some (lvX (wf m W') m (a + 1)) := by
            rw [Kp_ (by omega) (by rw [Ct_]; omega), Ct_]; exact congrArg some Ks_
          have da : Bt_ (BL (xq (wf m W')) m a) (BL (xq (wf m W')) m a) = some (lvX (wf m W') m a) := by
            rw [Kp_ (by omega) (by rw [Ct_]; omega), Ct_]; exact congrArg some Ks_
          have hpart := Uo_ (x := xq (wf m W')) (m := m) (i := a + 1) (j := a) (by omega)
          have ha1 : a < a + 1 := by omega
          have han : a < n := by omega
          obtain ⟨lt1, lt2⟩ := Agw_ m6 w2 (by omega) hk hM h0
          have hlr : fmul .f64 (fsub .f64 4604930618986332160 (fmul .f64 (fpart (xq (wf m W') (a + 1)) (Bg (xq (wf m W')) m a) m) (fpart (xq (wf m W') (a + 1)) (Bg (xq (wf m W')) m a) m))) (lvX (wf m W') m a) = lvR (wf m W') m (a + 1) a := rfl
          cases ht : (fgrt .f64 (lvX (wf m W') m (a + 1)) (lvR (wf m W') m (a + 1) a) || feq .f64 (lvX (wf m W') m (a + 1)) (lvR (wf m W') m (a + 1) a)) with
          | true =>
            have hI' := Aej_ w2 (lt1 ht)
            have ek : IntKind.i64.wrap (((a + 1 : Nat) : Int) + 1) = ((a + 2 : Nat) : Int) := by rw [w64 (by omega) (by omega)]; omega
            have sI : (A4_ n m V (steps : Int) (((a + 1 : Nat) : Int), (done : Int), W)).run = some (.inl (((a + 2 : Nat) : Int), ((done + 1 : Nat) : Int), W')) := by
              simp only [A4_, Tree.run, c, ck, if_true, uI, Option.bind_some, e1, i1, Aq_, Cu_, hk, decide_true, Int.toNat_natCast, Co_ hk, Hx_ hk, dk, han, Co_ han, Hx_ han, da, E3_ hk, Ef_, ha1, hpart, Bu_, hlr, ht, ek, ed]
            rcases mainB hP n1 n4 m1 m6 hM V x0 x1 hs d (done + 1) (a + 2) W' r mu' (by omega) (by omega) w1 hI' w3 w4 with ⟨hF, j1⟩ | ⟨t, W3, t1, t2, t3, t4, j1⟩
            · exact .inl ⟨hF, A3_ (T := fun s => (A4_ n m V (steps : Int) s).run) sI j1⟩
            · exact .inr ⟨t, W3, t1, t2, t3, t4, A3_ (T := fun s => (A4_ n m V (steps : Int) s).run) sI j1⟩
          | false =>
            obtain ⟨r2, mu2, hI2⟩ := Agc_ w2 hk (lt2 ht)
            have hsw := Ajp_ (n := n) (m := m) (a := a) (W := W') hk
            obtain ⟨W2, hW2⟩ : ∃ W2, W2 = swapL n m W' (a + 1) a := ⟨_, rfl⟩
            rw [← hW2] at hsw
            have hl2 : W2.length = n * m := by rw [hW2]; exact Lf_ _ _ _
            have tI : Gc_ n m W' ((a + 1 : Nat) : Int) (a : Int) = some W2 := by rw [hW2]; exact swapI hk han (by omega) m6 w1
            have hlen : decide (W2.length = W'.length) = true := decide_eq_true (by rw [hl2, w1])
            have em : imax (1 : Int) (a : Int) = ((max 1 a : Nat) : Int) := by
              unfold imax; rw [Nat.max_def]; split <;> split <;> omega
            have sI : (A4_ n m V (steps : Int) (((a + 1 : Nat) : Int), (done : Int), W)).run = some (.inl (((max 1 a : Nat) : Int), ((done + 1 : Nat) : Int), W2)) := by
              simp only [A4_, Tree.run, c, ck, if_true, uI, Option.bind_some, e1, i1, Aq_, Cu_, hk, decide_true, Int.toNat_natCast, Co_ hk, Hx_ hk, dk, han, Co_ han, Hx_ han, da, E3_ hk, Ef_, ha1, hpart, Bu_, hlr, ht, Bool.false_eq_true, if_false, tI, hlen, em, ed]
            have hR2 : ∀ i, i < n → dt m (wq (wf m W2) i) (wq (wf m W2) i) ≤ 2 * M := fun i hi => by
              have g : ∀ t, t < m → wq (wf m W2) i t = wq (xcI (wf m W') a) i t := fun t ht => by unfold wq; rw [hsw i hi t ht]
              rw [Bh_ g g, wq_xc]
              unfold xc
              by_cases q1 : i = a
              · rw [if_pos q1]; exact w4 _ hk
              · rw [if_neg q1]
                by_cases q2 : i = a + 1
                · rw [if_pos q2]; exact w4 _ han
                · rw [if_neg q2]; exact w4 _ hi
            rcases mainB hP n1 n4 m1 m6 hM V x0 x1 hs d (done + 1) (max 1 a) W2 r2 mu2 (by omega) (by omega) hl2 (hI2.congr hsw) (hP.congr _ _ hsw (hP.swap _ _ hk w3)) hR2 with ⟨hF, j1⟩ | ⟨t, W3, t1, t2, t3, t4, j1⟩
            · exact .inl ⟨hF, A3_ (T := fun s => (A4_ n m V (steps : Int) s).run) sI j1⟩
            · exact .inr ⟨t, W3, t1, t2, t3, t4, A3_ (T := fun s => (A4_ n m V (steps : Int) s).run) sI j1⟩
    · have ck : decide ((k : Int) < (n : Int)) = false := decide_eq_false (by omega)
      refine .inr ⟨done, W, by omega, hW, hPW, hR, A9_ (T := fun s => (A4_ n m V (steps : Int) s).run) ?_⟩
      · simp only [A4_, Tree.run, c, ck, if_true, Bool.false_eq_true, if_false]
theorem Dz_ {n c : Nat} (hc : c ≤ 6) {w : Nat → Nat → Int} {r mu : Nat → Nat → Rat} (hd : Dec n c (wq w) r mu) {j : Nat} (hj : j < n) (hj3 : j ≤ 3) {al et et' : Rat} {si : Nat → Rat} (hN : Nb c (wq w j) al) (al1 : 1 / 1000 ≤ al) (al2 : al ≤ 100000) (et0 : 0 ≤ et) (et1 : et ≤ 1 / 100000)
    (hp : ∀ i, i < j → Near c (Bg (xq w) c i) (r i) (si i) et) (s1 : 1 / 1000 ≤ si j) (s2 : si j ≤ 500) (s3 : dt c (r j) (r j) ≤ si j * si j) (s4 : si j * si j ≤ 4 * dt c (r j) (r j)) (he : (j : Rat) * (al * (1700 * E8 + 45 * et)) ≤ et' * si j) : Near c (Bg (xq w) c j) (r j) (si j) et' := by
  obtain ⟨_, x1, x2⟩ := words hN (by grind)
  obtain ⟨g1, g2, g3⟩ := Nd_ hc (x := xq w j) (B := Bg (xq w) c) (u := wq w j) (r := r) (si := si) (mu := mu j) x1 x2 hN al1 al2 et0 et1 (n := j) hj3 hp (fun l hl => (hd.dot hj hl).symm) j (Nat.le_refl _)
  refine ⟨fun t ht => by rw [Bg_eq _ _ _ _ ht]; exact g1 t ht, (g2.congr fun t ht => ?_).mono he, s3, s4, s1, by grind⟩
  rw [Bg_eq _ _ _ _ ht, hd.1 j hj t ht]; grind
theorem Alu_ {n : Nat} (n1 : 1 ≤ n) (n3 : n ≤ 3) {w : Nat → Nat → Int} {r mu : Nat → Nat → Rat} (h : Dec n n (wq w) r mu) (hd : dtI n w ≠ 0) : 1 ≤ dt n (r 0) (r 0) := by
  have hr : dt n (r 0) (r 0) = dt n (wq w 0) (wq w 0) := by
    have e := h.1 0 (by omega)
    have g : ∀ t, t < n → r 0 t = wq w 0 t := fun t ht => by rw [e t ht]; show _ = r 0 t + 0; grind
    exact Bh_ g g
  rw [hr]
  by_cases hz : ∀ t, t < n → w 0 t = 0
  · exfalso
    apply hd
    have : n = 1 ∨ n = 2 ∨ n = 3 := by omega
    rcases this with rfl | rfl | rfl
    · simp only [dtI]; exact hz 0 (by omega)
    · simp only [dtI]; rw [hz 0 (by omega), hz 1 (by omega)]; simp
    · simp only [dtI]; rw [hz 0 (by omega), hz 1 (by omega), hz 2 (by omega)]; simp
  · obtain ⟨t, ht⟩ := Classical.not_forall.1 hz
    obtain ⟨ht, h1⟩ := Classical.not_imp.1 ht
    have h2 : wq w 0 t * wq w 0 t ≤ dt n (wq w 0) (wq w 0) := Kj_ (f := fun t => wq w 0 t * wq w 0 t) n (fun i _ => sq_nn _) t ht
    exact Rat.le_trans (Sm_ h1) h2
theorem Js_ {a b M : Rat} (h : 1 ≤ a * b) (hb : b ≤ M) (hb0 : 0 ≤ b) (ha : 0 ≤ a) : 1 ≤ a * M := by
  have := Rat.mul_le_mul_of_nonneg_left hb ha; grind
theorem Aak_ {n : Nat} (n3 : n ≤ 3) {P : (Nat → Nat → Int) → Prop} (hP : ∀ w, P w → dtI n w ≠ 0) (h : Flat n n 748 P) : False := by
  obtain ⟨W, k, r, mu, hW, k1, k3, kn, hI, hp, hR, hk, hany⟩ := h
  obtain ⟨hE0, hE⟩ := Cc_
  have hd := hP _ hp
  have h0 := Alu_ (by omega) n3 hI.dec hd
  have nn : ∀ i, 0 ≤ dt n (r i) (r i) := fun i => dt_nn _ _
  have h39 : ∀ i, i < n → i ≠ k → Nb n (wq (wf n W) i) 39 := fun i hi e => ⟨by grind, by have := hR i hi e; grind⟩
  have all : (∀ i, i < n → fgrt .f64 (fdot (Bg (xq (wf n W)) n i) (Bg (xq (wf n W)) n i) n) 0 = true) → False := fun hall => by
    obtain ⟨i, hi, hx⟩ := List.any_eq_true.1 hany
    rw [hall i (List.mem_range.1 hi)] at hx
    cases hx
  apply all
  obtain ⟨z0, a1, a2, a3⟩ := Kt_ (dt n (r 0) (r 0))
  obtain ⟨a4, a5⟩ := a3 (by grind) (by have := hI.max 0 (by omega); grind)
  have c2 : n = 2 ∨ n = 3 := by omega
  rcases c2 with rfl | rfl
  · -- two rows
    obtain rfl : k = 1 := by omega
    have hk39 : Nb 2 (wq (wf 2 W) 1) 39 := by
      rcases hk with g | ⟨g, _⟩
      · exact ⟨by grind, by grind⟩
      · omega
    have hpr := prod2 hI.dec hd
    have m0 := hI.max 0 (by omega)
    have m1 := hI.max 1 (by omega)
    have l1 := Js_ (a := dt 2 (r 1) (r 1)) (b := dt 2 (r 0) (r 0)) (by grind) m0 (nn 0) (nn 1)
    obtain ⟨z1, b1, b2, b3, b4⟩ := Te_ (R := dt 2 (r 1) (r 1)) (by grind) (by grind)
    obtain ⟨si, hs0, hs1⟩ : ∃ si : Nat → Rat, si 0 = z0 ∧ si 1 = z1 := ⟨fun i => if i = 0 then z0 else z1, rfl, rfl⟩
    have e0 : ((0 : Nat) : Rat) = 0 := rfl
    have e1 : ((1 : Nat) : Rat) = 1 := rfl
    have N0 : Near 2 (Bg (xq (wf 2 W)) 2 0) (r 0) (si 0) 0 := Dz_ (by omega) hI.dec (by omega) (by omega) (h39 0 (by omega) (by omega)) (by grind) (by grind) (et := 0) (by grind) (by grind) (fun i hi => by omega) (by rw [hs0]; grind) (by rw [hs0]; exact a2) (by rw [hs0]; exact a4) (by rw [hs0]; exact a5) (by rw [e0]; grind)
    have N1 : Near 2 (Bg (xq (wf 2 W)) 2 1) (r 1) (si 1) (1 / 100000000) := Dz_ (by omega) hI.dec (by omega) (by omega) hk39 (by grind) (by grind) (et := 0) (by grind) (by grind) (fun i hi => by
      obtain rfl : i = 0 := by omega
      exact N0) (by rw [hs1]; exact b1) (by rw [hs1]; exact b2) (by rw [hs1]; exact b3) (by rw [hs1]; exact b4) (by rw [e1, hs1]; grind)
    intro i hi
    rcases Nat.lt_or_ge i 1 with g | g
    · obtain rfl : i = 0 := by omega
      exact D5_ (by omega) N0 (by grind) (by grind) (by grind)
    · obtain rfl : i = 1 := by omega
      exact D5_ (by omega) N1 (by grind) (by grind) (by grind)
  · -- three rows
    have hpr := prod3 hI.dec hd
    have m0 := hI.max 0 (by omega)
    have m1 := hI.max 1 (by omega)
    have m2 := hI.max 2 (by omega)
    have n0 := nn 0
    have n1 := nn 1
    have n2 := nn 2
    have e0 : ((0 : Nat) : Rat) = 0 := rfl
    have e1 : ((1 : Nat) : Rat) = 1 := rfl
    have e2 : ((2 : Nat) : Rat) = 2 := rfl
    -- the least parts
    have l1 : 1 ≤ dt 3 (r 1) (r 1) * 748 * 748 := by
      have i1 := Js_ (a := dt 3 (r 0) (r 0) * dt 3 (r 1) (r 1)) (b := dt 3 (r 2) (r 2)) (by grind) m2 n2 (Rat.mul_nonneg n0 n1)
      have i2 := Js_ (a := dt 3 (r 1) (r 1) * 748) (b := dt 3 (r 0) (r 0)) (by grind) m0 n0 (by grind)
      grind
    have l2 : 1 ≤ dt 3 (r 2) (r 2) * 748 * 748 := by
      have i1 := Js_ (a := dt 3 (r 0) (r 0) * dt 3 (r 2) (r 2)) (b := dt 3 (r 1) (r 1)) (by grind) m1 n1 (Rat.mul_nonneg n0 n2)
      have i2 := Js_ (a := dt 3 (r 2) (r 2) * 748) (b := dt 3 (r 0) (r 0)) (by grind) m0 n0 (by grind)
      grind
    obtain ⟨z2, d1, d2, d3, d4⟩ := Te_ (R := dt 3 (r 2) (r 2)) (by grind) (by grind)
    have ck : k = 1 ∨ k = 2 := by omega
    rcases ck with rfl | rfl
    · have hk39 : Nb 3 (wq (wf 3 W) 1) 39 := by
        rcases hk with g | ⟨g, _⟩
        · exact ⟨by grind, by grind⟩
        · omega
      obtain ⟨z1, b1, b2, b3, b4⟩ := Te_ (R := dt 3 (r 1) (r 1)) (by grind) (by grind)
      obtain ⟨si, hs0, hs1, hs2⟩ : ∃ si : Nat → Rat, si 0 = z0 ∧ si 1 = z1 ∧ si 2 = z2 := ⟨fun i => if i = 0 then z0 else if i = 1 then z1 else z2, rfl, rfl, rfl⟩
      have N0 : Near 3 (Bg (xq (wf 3 W)) 3 0) (r 0) (si 0) 0 := Dz_ (by omega) hI.dec (by omega) (by omega) (h39 0 (by omega) (by omega)) (by grind) (by grind) (et := 0) (by grind) (by grind) (fun i hi => by omega) (by rw [hs0]; grind) (by rw [hs0]; exact a2) (by rw [hs0]; exact a4) (by rw [hs0]; exact a5) (by rw [e0]; grind)
      have N1 : Near 3 (Bg (xq (wf 3 W)) 3 1) (r 1) (si 1) (1 / 100000000) := Dz_ (by omega) hI.dec (by omega) (by omega) hk39 (by grind) (by grind) (et := 0) (by grind) (by grind) (fun i hi => by
        obtain rfl : i = 0 := by omega
        exact N0) (by rw [hs1]; exact b1) (by rw [hs1]; exact b2) (by rw [hs1]; exact b3) (by rw [hs1]; exact b4) (by rw [e1, hs1]; grind)
      have N2 : Near 3 (Bg (xq (wf 3 W)) 3 2) (r 2) (si 2) (1 / 20) := Dz_ (by omega) hI.dec (by omega) (by omega) (h39 2 (by omega) (by omega)) (by grind) (by grind) (et := 1 / 100000000) (by grind) (by grind) (fun i hi => by
        rcases Nat.lt_or_ge i 1 with g | g
        · obtain rfl : i = 0 := by omega
          exact N0.mono (by grind)
        · obtain rfl : i = 1 := by omega
          exact N1) (by rw [hs2]; exact d1) (by rw [hs2]; exact d2) (by rw [hs2]; exact d3) (by rw [hs2]; exact d4) (by rw [e2, hs2]; grind)
      intro i hi
      rcases Nat.lt_or_ge i 1 with g | g
      · obtain rfl : i = 0 := by omega
        exact D5_ (by omega) N0 (by grind) (by grind) (by grind)
      · rcases Nat.lt_or_ge i 2 with g2 | g2
        · obtain rfl : i = 1 := by omega
          exact D5_ (by omega) N1 (by grind) (by grind) (by grind)
        · obtain rfl : i = 2 := by omega
          exact D5_ (by omega) N2 (by grind) (by grind) (by grind)
    · have hk4 : Nb 3 (wq (wf 3 W) 2) 4050 := by
        obtain ⟨_, q1, _, _⟩ := aL_le
        rcases hk with g | ⟨_, g⟩
        · exact ⟨by grind, by grind⟩
        · rw [show (2 - 1 : Nat) = 1 from rfl, q1] at g; exact g
      have lv := hI.lov 0 (by omega)
      obtain ⟨z1, b1, b2, b3⟩ := Kt_ (dt 3 (r 1) (r 1))
      obtain ⟨b4, b5⟩ := b3 (by grind) (by grind)
      obtain ⟨si, hs0, hs1, hs2⟩ : ∃ si : Nat → Rat, si 0 = z0 ∧ si 1 = z1 ∧ si 2 = z2 := ⟨fun i => if i = 0 then z0 else if i = 1 then z1 else z2, rfl, rfl, rfl⟩
      have N0 : Near 3 (Bg (xq (wf 3 W)) 3 0) (r 0) (si 0) 0 := Dz_ (by omega) hI.dec (by omega) (by omega) (h39 0 (by omega) (by omega)) (by grind) (by grind) (et := 0) (by grind) (by grind) (fun i hi => by omega) (by rw [hs0]; grind) (by rw [hs0]; exact a2) (by rw [hs0]; exact a4) (by rw [hs0]; exact a5) (by rw [e0]; grind)
      have N1 : Near 3 (Bg (xq (wf 3 W)) 3 1) (r 1) (si 1) (1 / 50000000000) := Dz_ (by omega) hI.dec (by omega) (by omega) (h39 1 (by omega) (by omega)) (by grind) (by grind) (et := 0) (by grind) (by grind) (fun i hi => by
        obtain rfl : i = 0 := by omega
        exact N0) (by rw [hs1]; grind) (by rw [hs1]; exact b2) (by rw [hs1]; exact b4) (by rw [hs1]; exact b5) (by rw [e1, hs1]; grind)
      have N2 : Near 3 (Bg (xq (wf 3 W)) 3 2) (r 2) (si 2) (1 / 20) := Dz_ (by omega) hI.dec (by omega) (by omega) hk4 (by grind) (by grind) (et := 1 / 50000000000) (by grind) (by grind) (fun i hi => by
        rcases Nat.lt_or_ge i 1 with g | g
        · obtain rfl : i = 0 := by omega
          exact N0.mono (by grind)
        · obtain rfl : i = 1 := by omega
          exact N1) (by rw [hs2]; exact d1) (by rw [hs2]; exact d2) (by rw [hs2]; exact d3) (by rw [hs2]; exact d4) (by rw [e2, hs2]; grind)
      intro i hi
      rcases Nat.lt_or_ge i 1 with g | g
      · obtain rfl : i = 0 := by omega
        exact D5_ (by omega) N0 (by grind) (by grind) (by grind)
      · rcases Nat.lt_or_ge i 2 with g2 | g2
        · obtain rfl : i = 1 := by omega
          exact D5_ (by omega) N1 (by grind) (by grind) (by grind)
        · obtain rfl : i = 2 := by omega
          exact D5_ (by omega) N2 (by grind) (by grind) (by grind)
theorem Lr_ (C : List Int) (i : Nat) : AM.sub C ((i + 1 : Nat) : Int) (((i + 1) + (C.length - (i + 1)) : Nat) : Int) = C.drop (i + 1) := by
  unfold AM.sub
  simp only [Int.toNat_natCast]
  rw [List.take_of_length_le (by omega)]
  try rfl
theorem delI {C : List Int} {i : Nat} (hi : i < C.length) : Dp_ C (i : Int) ((i + 1 : Nat) : Int) = some (.inr (0, C.length - 1)) := by
  have sd := Lr_ C i
  have dl : (C.drop (i + 1)).length = C.length - (i + 1) := by simp
  have e : i + (C.length - (i + 1)) = C.length - 1 := by omega
  have k1 : sok (i : Int) ((i + 1 : Nat) : Int) C.length = true := Bb_.2 ⟨by omega, by omega, by omega⟩
  have k2 : (decide (((i + 1 : Nat) : Int) ≤ ((C.length : Nat) : Int)) && decide (((C.length : Nat) : Int) ≤ ((C.length : Nat) : Int))) = true := by simp; omega
  have k3 : decide ((i : Int) = ((i + 1 : Nat) : Int)) = false := decide_eq_false (by omega)
  have k4 : sok (0 : Int) (i : Int) C.length = true := Bb_.2 ⟨by omega, by omega, by omega⟩
  have k5 : sok ((i + 1 : Nat) : Int) ((C.length : Nat) : Int) C.length = true := Bb_.2 ⟨by omega, by omega, by omega⟩
  have k6 : decide (C.length - 1 ≤ C.length) = true := decide_eq_true (by omega)
  have k7 : sok ((C.length - 1 : Nat) : Int) ((C.length : Nat) : Int) C.length = true := Bb_.2 ⟨by omega, by omega, by omega⟩
  have lo : (overL C i (C.drop (i + 1))).length = C.length := by simp [overL]; omega
  have k8 : decide (C.length - 1 + (C.length - (C.length - 1)) ≤ (overL C i (C.drop (i + 1))).length) = true := decide_eq_true (by omega)
  simp only [Dp_, Sx_, Tree.run, Int.toNat_natCast, Int.toNat_zero, Nat.zero_add, Nat.sub_zero, k1, k2, k3, k4, k5, sd, dl, e, k6, k7, k8, if_true, Bool.false_eq_true, if_false]
def altS (f : Nat → Int) : Nat → Int
  | 0 => 0
  | i + 1 => altS f i + (if i % 2 = 0 then 1 else -1) * f i
theorem M1_ {f : Nat → Int} {B : Nat} : ∀ i, (∀ k, k < i → (f k).natAbs ≤ B) → (altS f i).natAbs ≤ i * B
  | 0, _ => by simp [altS]
  | i + 1, h => by
    have h1 := M1_ i fun k hk => h k (by omega)
    have h2 := h i (by omega)
    have h3 : ((if i % 2 = 0 then (1 : Int) else -1) * f i).natAbs = (f i).natAbs := by
      split
      · rw [Int.one_mul]
      · rw [Int.natAbs_mul]; simp
    simp only [altS, Nat.add_mul, Nat.one_mul]; omega
def mnV (n : Nat) (M : List Int) : List Int → List Int → Int
  | [], _ => 1
  | a :: R, C => altS (fun i => nth M (a.toNat * n + (nth C i).toNat) * mnV n M R (C.take i ++ C.drop (i + 1))) C.length
theorem mz0 {n : Nat} {M : List Int} {R C : List Int} (ht : R.length ≤ 0) : Eu_ n n M R C = some (mnV n M R C) ∧ (mnV n M R C).natAbs ≤ 1 := by
  obtain rfl : R = [] := List.eq_nil_of_length_eq_zero (by omega)
  have d0 : decide (((([] : List Int).length : Nat) : Int) = (0 : Int)) = true := by decide
  exact ⟨by simp only [Eu_, Qy_, Tree.run, d0, if_true, mnV], by simp [mnV]⟩
theorem mz1 {n : Nat} {M : List Int} (hn : n ≤ 3) (hM : M.length = n * n) (hb : ∀ p, p < M.length → -100 ≤ nth M p ∧ nth M p ≤ 100) {R C : List Int} (hL : R.length = C.length) (ht : R.length ≤ 1) (hR : ∀ x ∈ R, ∃ a : Nat, x = a ∧ a < n) (hC : ∀ x ∈ C, ∃ a : Nat, x = a ∧ a < n) : Dm_ n n M R C = some (mnV n M R C) ∧ (mnV n M R C).natAbs ≤ 300 := by
  cases R with
  | nil =>
    have d0 : decide (((([] : List Int).length : Nat) : Int) = (0 : Int)) = true := by decide
    exact ⟨by simp only [Dm_, K8_, Tree.run, d0, if_true, mnV], by simp [mnV]⟩
  | cons r R =>
  obtain ⟨RR, hRR⟩ : ∃ RR, RR = r :: R := ⟨_, rfl⟩
  have hRl : RR.length = R.length + 1 := by rw [hRR]; rfl
  have d0 : decide (((RR.length : Nat) : Int) = (0 : Int)) = false := decide_eq_false (by omega)
  obtain ⟨a, ha, han⟩ := hR r (by simp)
  have ha0 : nth RR 0 = (a : Int) := by rw [hRR, ← ha]; rfl
  have kR : inb (0 : Int) RR.length = true := Bf_.2 ⟨by omega, by omega⟩
  have kS : sok (1 : Int) ((RR.length : Nat) : Int) RR.length = true := Bb_.2 ⟨by omega, by omega, by omega⟩
  have sR : AM.sub RR (1 : Int) ((RR.length : Nat) : Int) = R := by
    unfold AM.sub
    simp only [Int.toNat_natCast]
    rw [List.take_of_length_le (by omega), hRR]
    rfl
  have hCR : C.length = R.length + 1 := by rw [← hL]; rfl
  have ht2 : R.length + 1 ≤ 1 := ht
  have hC3 : C.length ≤ 3 := by omega
  have cl : Be_ C = some () := by
    have q1 : decide (0 < C.length) = true := decide_eq_true (by omega)
    have q2 : fits C.length = true := fitsN (by omega)
    simp only [Be_, Ep_, Tree.run, List.nil_append, q1, q2, if_true]
  obtain ⟨F, hF⟩ : ∃ F : Nat → Int, F = fun i => nth M (a * n + (nth C i).toNat) * mnV n M R (C.take i ++ C.drop (i + 1)) := ⟨_, rfl⟩
  have hmn : mnV n M (r :: R) C = altS F C.length := by
    rw [hF]; simp only [mnV, ha, Int.toNat_natCast]
  have step : ∀ i, i < C.length → (∃ b : Nat, nth C i = (b : Int) ∧ b < n) ∧ Eu_ n n M R (C.take i ++ C.drop (i + 1)) = some (mnV n M R (C.take i ++ C.drop (i + 1))) ∧ (mnV n M R (C.take i ++ C.drop (i + 1))).natAbs ≤ 1 := fun i hi => by
    have hCl : (C.take i ++ C.drop (i + 1)).length = C.length - 1 := by simp; omega
    obtain ⟨m1, m2⟩ := mz0 (n := n) (M := M) (R := R) (C := C.take i ++ C.drop (i + 1)) (by omega)
    exact ⟨hC (nth C i) (by rw [Ao_ _ _ hi]; exact List.getElem_mem _), m1, m2⟩
  have fb : ∀ i, i < C.length → (F i).natAbs ≤ 100 := fun i hi => by
    obtain ⟨⟨b, hbe, hbn⟩, _, m2⟩ := step i hi
    have hp : a * n + b < M.length := by rw [hM]; exact rc_lt han hbn
    obtain ⟨h1, h2⟩ := hb _ hp
    rw [hF]
    simp only [hbe, Int.toNat_natCast]
    rw [Int.natAbs_mul]
    exact Nat.le_trans (Nat.mul_le_mul (show (nth M (a * n + b)).natAbs ≤ 100 by omega) m2) (by decide)
  have sb : ∀ i, i ≤ C.length → (altS F i).natAbs ≤ 300 := fun i hi => by
    have h1 := M1_ (f := F) (B := 100) i fun k hk => fb k (by omega)
    exact Nat.le_trans h1 (Nat.le_trans (Nat.mul_le_mul_right 100 (show i ≤ 3 by omega)) (by decide))
  have loop : ∀ (d i : Nat), i + d = C.length → Ml_ n n M RR C (altS F i, (if i % 2 = 0 then 1 else -1), (i : Int)) = some (altS F C.length) := by
    intro d
    induction d with
    | zero =>
      intro i hi
      have k0 : decide ((i : Int) < ((C.length : Nat) : Int)) = false := decide_eq_false (by omega)
      have hi' : i = C.length := by omega
      rw [hi'] at k0 ⊢
      exact A9_ (T := fun s => (C9_ n n M RR C s).run) (by simp only [C9_, Tree.run, k0, Bool.false_eq_true, if_false])
    | succ d ih =>
      intro i hi
      have k0 : decide ((i : Int) < ((C.length : Nat) : Int)) = true := decide_eq_true (by omega)
      have kC : inb (i : Int) C.length = true := Bf_.2 ⟨by omega, by omega⟩
      have hiC : i < C.length := by omega
      obtain ⟨⟨b, hbe, hbn⟩, m1, m2⟩ := step i hiC
      have aI := atWI (i := a) (k := b) han hbn (show n ≤ 6 by omega) (show n ≤ 6 by omega) hM
      have e1 := w1 (show i ≤ 1000 by omega)
      have hsg : IntKind.i64.wrap (0 - (if i % 2 = 0 then (1 : Int) else -1)) = (if (i + 1) % 2 = 0 then 1 else -1) := by
        rcases Nat.mod_two_eq_zero_or_one i with e | e
        · rw [if_pos e, if_neg (by omega), w64 (by omega) (by omega)]; rfl
        · rw [if_neg (by omega), if_pos (by omega), w64 (by omega) (by omega)]; rfl
      have hFi : F i = nth M (a * n + b) * mnV n M R (C.take i ++ C.drop (i + 1)) := by rw [hF]; simp only [hbe, Int.toNat_natCast]
      have hnx : altS F (i + 1) = altS F i + (if i % 2 = 0 then 1 else -1) * F i := rfl
      have hp : a * n + b < M.length := by rw [hM]; exact rc_lt han hbn
      obtain ⟨x1, x2⟩ := hb _ hp
      have hfb := fb i hiC
      have s1 := sb i (by omega)
      have s2 := sb (i + 1) (by omega)
      have g := ih (i + 1) (by omega)
      by_cases hz : nth M (a * n + b) = 0
      · have dz : decide (nth M (a * n + b) = 0) = true := decide_eq_true hz
        have hsame : altS F (i + 1) = altS F i := by rw [hnx, hFi, hz]; simp
        rw [hsame] at g
        exact A3_ (T := fun s => (C9_ n n M RR C s).run) (by simp only [C9_, Tree.run, k0, kC, kR, ha0, hbe, Int.toNat_natCast, Int.toNat_zero, aI, dz, e1, hsg, Option.bind_some, Bool.not_true, Bool.false_eq_true, if_false, if_true]) g
      · have dz : decide (nth M (a * n + b) = 0) = false := decide_eq_false hz
        have hw : IntKind.i64.wrap (altS F i + (IntKind.i64.wrap ((IntKind.i64.wrap ((if i % 2 = 0 then 1 else -1) * nth M (a * n + b))) * mnV n M R (C.take i ++ C.drop (i + 1))))) = altS F (i + 1) := by
          rw [hnx, hFi]
          rw [hFi] at hfb
          rw [hnx, hFi] at s2
          rcases Nat.mod_two_eq_zero_or_one i with e | e
          · rw [if_pos e] at s2 ⊢
            rw [Int.one_mul, Int.one_mul, w64 (n := nth M (a * n + b)) (by omega) (by omega), w64 (n := nth M (a * n + b) * _) (by omega) (by omega), w64 (by omega) (by omega)]
          · rw [if_neg (by omega)] at s2 ⊢
            rw [Int.neg_one_mul, Int.neg_one_mul, w64 (n := -nth M (a * n + b)) (by omega) (by omega), Int.neg_mul, w64 (n := -(nth M (a * n + b) * _)) (by omega) (by omega), w64 (by omega) (by omega)]
        have sd := Lr_ C i
        have dl : (C.drop (i + 1)).length = C.length - (i + 1) := by simp
        have e : i + (C.length - (i + 1)) = C.length - 1 := by omega
        have one : C.length - (C.length - 1) = 1 := by omega
        have rep : List.replicate 1 (0 : Int) = [0] := rfl
        have dlst := Sg_ C i hiC
        have dlst' : AM.sub (overL (overL C i (C.drop (i + 1))) (C.length - 1) [(0 : Int)]) ((0 : Nat) : Int) ((C.length - 1 : Nat) : Int) = C.take i ++ C.drop (i + 1) := dlst
        have lo : decide ((overL (overL C i (C.drop (i + 1))) (C.length - 1) [(0 : Int)]).length = C.length) = true := decide_eq_true (by simp [overL]; omega)
        have dI := delI hiC
        refine A3_ (T := fun s => (C9_ n n M RR C s).run) ?_ g
        simp only [C9_, Tree.run, k0, kC, kR, kS, ha0, hbe, Int.toNat_natCast, Int.toNat_zero, Nat.zero_add, Nat.sub_zero, List.nil_append, aI, dz, e1, cl, dI, sd, dl, e, one, rep, lo, sR, dlst', m1, hw, hsg, Option.bind_some, Bool.not_false, if_true]
  have g1 := loop C.length 0 (by omega)
  have g1' : Ml_ n n M RR C ((0 : Int), (1 : Int), (0 : Int)) = some (altS F C.length) := g1
  rw [hmn, ← hRR]
  refine ⟨by simp only [Dm_, K8_, Tree.run, d0, g1', Option.bind_some, Bool.false_eq_true, if_false, if_true], ?_⟩
  exact sb C.length (Nat.le_refl _)
theorem mz2 {n : Nat} {M : List Int} (hn : n ≤ 3) (hM : M.length = n * n) (hb : ∀ p, p < M.length → -100 ≤ nth M p ∧ nth M p ≤ 100) {R C : List Int} (hL : R.length = C.length) (ht : R.length ≤ 2) (hR : ∀ x ∈ R, ∃ a : Nat, x = a ∧ a < n) (hC : ∀ x ∈ C, ∃ a : Nat, x = a ∧ a < n) : D4_ n n M R C = some (mnV n M R C) ∧ (mnV n M R C).natAbs ≤ 90000 := by
  cases R with
  | nil =>
    have d0 : decide (((([] : List Int).length : Nat) : Int) = (0 : Int)) = true := by decide
    exact ⟨by simp only [D4_, Mq_, Tree.run, d0, if_true, mnV], by simp [mnV]⟩
  | cons r R =>
  obtain ⟨RR, hRR⟩ : ∃ RR, RR = r :: R := ⟨_, rfl⟩
  have hRl : RR.length = R.length + 1 := by rw [hRR]; rfl
  have d0 : decide (((RR.length : Nat) : Int) = (0 : Int)) = false := decide_eq_false (by omega)
  obtain ⟨a, ha, han⟩ := hR r (by simp)
  have ha0 : nth RR 0 = (a : Int) := by rw [hRR, ← ha]; rfl
  have kR : inb (0 : Int) RR.length = true := Bf_.2 ⟨by omega, by omega⟩
  have kS : sok (1 : Int) ((RR.length : Nat) : Int) RR.length = true := Bb_.2 ⟨by omega, by omega, by omega⟩
  have sR : AM.sub RR (1 : Int) ((RR.length : Nat) : Int) = R := by
    unfold AM.sub
    simp only [Int.toNat_natCast]
    rw [List.take_of_length_le (by omega), hRR]
    rfl
  have hCR : C.length = R.length + 1 := by rw [← hL]; rfl
  have ht2 : R.length + 1 ≤ 2 := ht
  have hC3 : C.length ≤ 3 := by omega
  have cl : Be_ C = some () := by
    have q1 : decide (0 < C.length) = true := decide_eq_true (by omega)
    have q2 : fits C.length = true := fitsN (by omega)
    simp only [Be_, Ep_, Tree.run, List.nil_append, q1, q2, if_true]
  obtain ⟨F, hF⟩ : ∃ F : Nat → Int, F = fun i => nth M (a * n + (nth C i).toNat) * mnV n M R (C.take i ++ C.drop (i + 1)) := ⟨_, rfl⟩
  have hmn : mnV n M (r :: R) C = altS F C.length := by
    rw [hF]; simp only [mnV, ha, Int.toNat_natCast]
  have step : ∀ i, i < C.length → (∃ b : Nat, nth C i = (b : Int) ∧ b < n) ∧ Dm_ n n M R (C.take i ++ C.drop (i + 1)) = some (mnV n M R (C.take i ++ C.drop (i + 1))) ∧ (mnV n M R (C.take i ++ C.drop (i + 1))).natAbs ≤ 300 := fun i hi => by
    have hCl : (C.take i ++ C.drop (i + 1)).length = C.length - 1 := by simp; omega
    obtain ⟨m1, m2⟩ := mz1 hn hM hb (R := R) (C := C.take i ++ C.drop (i + 1)) (by rw [hCl]; omega) (by omega) (fun x hx => hR x (List.mem_cons_of_mem _ hx)) (fun x hx => hC x (by
          rcases List.mem_append.1 hx with h | h
          · exact List.mem_of_mem_take h
          · exact List.mem_of_mem_drop h))
    exact ⟨hC (nth C i) (by rw [Ao_ _ _ hi]; exact List.getElem_mem _), m1, m2⟩
  have fb : ∀ i, i < C.length → (F i).natAbs ≤ 30000 := fun i hi => by
    obtain ⟨⟨b, hbe, hbn⟩, _, m2⟩ := step i hi
    have hp : a * n + b < M.length := by rw [hM]; exact rc_lt han hbn
    obtain ⟨h1, h2⟩ := hb _ hp
    rw [hF]
    simp only [hbe, Int.toNat_natCast]
    rw [Int.natAbs_mul]
    exact Nat.le_trans (Nat.mul_le_mul (show (nth M (a * n + b)).natAbs ≤ 100 by omega) m2) (by decide)
  have sb : ∀ i, i ≤ C.length → (altS F i).natAbs ≤ 90000 := fun i hi => by
    have h1 := M1_ (f := F) (B := 30000) i fun k hk => fb k (by omega)
    exact Nat.le_trans h1 (Nat.le_trans (Nat.mul_le_mul_right 30000 (show i ≤ 3 by omega)) (by decide))
  have loop : ∀ (d i : Nat), i + d = C.length → Mn_ n n M RR C (altS F i, (if i % 2 = 0 then 1 else -1), (i : Int)) = some (altS F C.length) := by
    intro d
    induction d with
    | zero =>
      intro i hi
      have k0 : decide ((i : Int) < ((C.length : Nat) : Int)) = false := decide_eq_false (by omega)
      have hi' : i = C.length := by omega
      rw [hi'] at k0 ⊢
      exact A9_ (T := fun s => (C2_ n n M RR C s).run) (by simp only [C2_, Tree.run, k0, Bool.false_eq_true, if_false])
    | succ d ih =>
      intro i hi
      have k0 : decide ((i : Int) < ((C.length : Nat) : Int)) = true := decide_eq_true (by omega)
      have kC : inb (i : Int) C.length = true := Bf_.2 ⟨by omega, by omega⟩
      have hiC : i < C.length := by omega
      obtain ⟨⟨b, hbe, hbn⟩, m1, m2⟩ := step i hiC
      have aI := atWI (i := a) (k := b) han hbn (show n ≤ 6 by omega) (show n ≤ 6 by omega) hM
      have e1 := w1 (show i ≤ 1000 by omega)
      have hsg : IntKind.i64.wrap (0 - (if i % 2 = 0 then (1 : Int) else -1)) = (if (i + 1) % 2 = 0 then 1 else -1) := by
        rcases Nat.mod_two_eq_zero_or_one i with e | e
        · rw [if_pos e, if_neg (by omega), w64 (by omega) (by omega)]; rfl
        · rw [if_neg (by omega), if_pos (by omega), w64 (by omega) (by omega)]; rfl
      have hFi : F i = nth M (a * n + b) * mnV n M R (C.take i ++ C.drop (i + 1)) := by rw [hF]; simp only [hbe, Int.toNat_natCast]
      have hnx : altS F (i + 1) = altS F i + (if i % 2 = 0 then 1 else -1) * F i := rfl
      have hp : a * n + b < M.length := by rw [hM]; exact rc_lt han hbn
      obtain ⟨x1, x2⟩ := hb _ hp
      have hfb := fb i hiC
      have s1 := sb i (by omega)
      have s2 := sb (i + 1) (by omega)
      have g := ih (i + 1) (by omega)
      by_cases hz : nth M (a * n + b) = 0
      · have dz : decide (nth M (a * n + b) = 0) = true := decide_eq_true hz
        have hsame : altS F (i + 1) = altS F i := by rw [hnx, hFi, hz]; simp
        rw [hsame] at g
        exact A3_ (T := fun s => (C2_ n n M RR C s).run) (by simp only [C2_, Tree.run, k0, kC, kR, ha0, hbe, Int.toNat_natCast, Int.toNat_zero, aI, dz, e1, hsg, Option.bind_some, Bool.not_true, Bool.false_eq_true, if_false, if_true]) g
      · have dz : decide (nth M (a * n + b) = 0) = false := decide_eq_false hz
        have hw : IntKind.i64.wrap (altS F i + (IntKind.i64.wrap ((IntKind.i64.wrap ((if i % 2 = 0 then 1 else -1) * nth M (a * n + b))) * mnV n M R (C.take i ++ C.drop (i + 1))))) = altS F (i + 1) := by
          rw [hnx, hFi]
          rw [hFi] at hfb
          rw [hnx, hFi] at s2
          rcases Nat.mod_two_eq_zero_or_one i with e | e
          · rw [if_pos e] at s2 ⊢
            rw [Int.one_mul, Int.one_mul, w64 (n := nth M (a * n + b)) (by omega) (by omega), w64 (n := nth M (a * n + b) * _) (by omega) (by omega), w64 (by omega) (by omega)]
          · rw [if_neg (by omega)] at s2 ⊢
            rw [Int.neg_one_mul, Int.neg_one_mul, w64 (n := -nth M (a * n + b)) (by omega) (by omega), Int.neg_mul, w64 (n := -(nth M (a * n + b) * _)) (by omega) (by omega), w64 (by omega) (by omega)]
        have sd := Lr_ C i
        have dl : (C.drop (i + 1)).length = C.length - (i + 1) := by simp
        have e : i + (C.length - (i + 1)) = C.length - 1 := by omega
        have one : C.length - (C.length - 1) = 1 := by omega
        have rep : List.replicate 1 (0 : Int) = [0] := rfl
        have dlst := Sg_ C i hiC
        have dlst' : AM.sub (overL (overL C i (C.drop (i + 1))) (C.length - 1) [(0 : Int)]) ((0 : Nat) : Int) ((C.length - 1 : Nat) : Int) = C.take i ++ C.drop (i + 1) := dlst
        have lo : decide ((overL (overL C i (C.drop (i + 1))) (C.length - 1) [(0 : Int)]).length = C.length) = true := decide_eq_true (by simp [overL]; omega)
        have dI := delI hiC
        refine A3_ (T := fun s => (C2_ n n M RR C s).run) ?_ g
        simp only [C2_, Tree.run, k0, kC, kR, kS, ha0, hbe, Int.toNat_natCast, Int.toNat_zero, Nat.zero_add, Nat.sub_zero, List.nil_append, aI, dz, e1, cl, dI, sd, dl, e, one, rep, lo, sR, dlst', m1, hw, hsg, Option.bind_some, Bool.not_false, if_true]
  have g1 := loop C.length 0 (by omega)
  have g1' : Mn_ n n M RR C ((0 : Int), (1 : Int), (0 : Int)) = some (altS F C.length) := g1
  rw [hmn, ← hRR]
  refine ⟨by simp only [D4_, Mq_, Tree.run, d0, g1', Option.bind_some, Bool.false_eq_true, if_false, if_true], ?_⟩
  exact sb C.length (Nat.le_refl _)
theorem mz3 {n : Nat} {M : List Int} (hn : n ≤ 3) (hM : M.length = n * n) (hb : ∀ p, p < M.length → -100 ≤ nth M p ∧ nth M p ≤ 100) {R C : List Int} (hL : R.length = C.length) (ht : R.length ≤ 3) (hR : ∀ x ∈ R, ∃ a : Nat, x = a ∧ a < n) (hC : ∀ x ∈ C, ∃ a : Nat, x = a ∧ a < n) : E9_ n n M R C = some (mnV n M R C) ∧ (mnV n M R C).natAbs ≤ 27000000 := by
  cases R with
  | nil =>
    have d0 : decide (((([] : List Int).length : Nat) : Int) = (0 : Int)) = true := by decide
    exact ⟨by simp only [E9_, L3_, Tree.run, d0, if_true, mnV], by simp [mnV]⟩
  | cons r R =>
  obtain ⟨RR, hRR⟩ : ∃ RR, RR = r :: R := ⟨_, rfl⟩
  have hRl : RR.length = R.length + 1 := by rw [hRR]; rfl
  have d0 : decide (((RR.length : Nat) : Int) = (0 : Int)) = false := decide_eq_false (by omega)
  obtain ⟨a, ha, han⟩ := hR r (by simp)
  have ha0 : nth RR 0 = (a : Int) := by rw [hRR, ← ha]; rfl
  have kR : inb (0 : Int) RR.length = true := Bf_.2 ⟨by omega, by omega⟩
  have kS : sok (1 : Int) ((RR.length : Nat) : Int) RR.length = true := Bb_.2 ⟨by omega, by omega, by omega⟩
  have sR : AM.sub RR (1 : Int) ((RR.length : Nat) : Int) = R := by
    unfold AM.sub
    simp only [Int.toNat_natCast]
    rw [List.take_of_length_le (by omega), hRR]
    rfl
  have hCR : C.length = R.length + 1 := by rw [← hL]; rfl
  have ht2 : R.length + 1 ≤ 3 := ht
  have hC3 : C.length ≤ 3 := by omega
  have cl : Be_ C = some () := by
    have q1 : decide (0 < C.length) = true := decide_eq_true (by omega)
    have q2 : fits C.length = true := fitsN (by omega)
    simp only [Be_, Ep_, Tree.run, List.nil_append, q1, q2, if_true]
  obtain ⟨F, hF⟩ : ∃ F : Nat → Int, F = fun i => nth M (a * n + (nth C i).toNat) * mnV n M R (C.take i ++ C.drop (i + 1)) := ⟨_, rfl⟩
  have hmn : mnV n M (r :: R) C = altS F C.length := by
    rw [hF]; simp only [mnV, ha, Int.toNat_natCast]
  have step : ∀ i, i < C.length → (∃ b : Nat, nth C i = (b : Int) ∧ b < n) ∧ D4_ n n M R (C.take i ++ C.drop (i + 1)) = some (mnV n M R (C.take i ++ C.drop (i + 1))) ∧ (mnV n M R (C.take i ++ C.drop (i + 1))).natAbs ≤ 90000 := fun i hi => by
    have hCl : (C.take i ++ C.drop (i + 1)).length = C.length - 1 := by simp; omega
    obtain ⟨m1, m2⟩ := mz2 hn hM hb (R := R) (C := C.take i ++ C.drop (i + 1)) (by rw [hCl]; omega) (by omega) (fun x hx => hR x (List.mem_cons_of_mem _ hx)) (fun x hx => hC x (by
          rcases List.mem_append.1 hx with h | h
          · exact List.mem_of_mem_take h
          · exact List.mem_of_mem_drop h))
    exact ⟨hC (nth C i) (by rw [Ao_ _ _ hi]; exact List.getElem_mem _), m1, m2⟩
  have fb : ∀ i, i < C.length → (F i).natAbs ≤ 9000000 := fun i hi => by
    obtain ⟨⟨b, hbe, hbn⟩, _, m2⟩ := step i hi
    have hp : a * n + b < M.length := by rw [hM]; exact rc_lt han hbn
    obtain ⟨h1, h2⟩ := hb _ hp
    rw [hF]
    simp only [hbe, Int.toNat_natCast]
    rw [Int.natAbs_mul]
    exact Nat.le_trans (Nat.mul_le_mul (show (nth M (a * n + b)).natAbs ≤ 100 by omega) m2) (by decide)
  have sb : ∀ i, i ≤ C.length → (altS F i).natAbs ≤ 27000000 := fun i hi => by
    have h1 := M1_ (f := F) (B := 9000000) i fun k hk => fb k (by omega)
    exact Nat.le_trans h1 (Nat.le_trans (Nat.mul_le_mul_right 9000000 (show i ≤ 3 by omega)) (by decide))
  have loop : ∀ (d i : Nat), i + d = C.length → Mb_ n n M RR C (altS F i, (if i % 2 = 0 then 1 else -1), (i : Int)) = some (altS F C.length) := by
    intro d
    induction d with
    | zero =>
      intro i hi
      have k0 : decide ((i : Int) < ((C.length : Nat) : Int)) = false := decide_eq_false (by omega)
      have hi' : i = C.length := by omega
      rw [hi'] at k0 ⊢
      exact A9_ (T := fun s => (C0_ n n M RR C s).run) (by simp only [C0_, Tree.run, k0, Bool.false_eq_true, if_false])
    | succ d ih =>
      intro i hi
      have k0 : decide ((i : Int) < ((C.length : Nat) : Int)) = true := decide_eq_true (by omega)
      have kC : inb (i : Int) C.length = true := Bf_.2 ⟨by omega, by omega⟩
      have hiC : i < C.length := by omega
      obtain ⟨⟨b, hbe, hbn⟩, m1, m2⟩ := step i hiC
      have aI := atWI (i := a) (k := b) han hbn (show n ≤ 6 by omega) (show n ≤ 6 by omega) hM
      have e1 := w1 (show i ≤ 1000 by omega)
      have hsg : IntKind.i64.wrap (0 - (if i % 2 = 0 then (1 : Int) else -1)) = (if (i + 1) % 2 = 0 then 1 else -1) := by
        rcases Nat.mod_two_eq_zero_or_one i with e | e
        · rw [if_pos e, if_neg (by omega), w64 (by omega) (by omega)]; rfl
        · rw [if_neg (by omega), if_pos (by omega), w64 (by omega) (by omega)]; rfl
      have hFi : F i = nth M (a * n + b) * mnV n M R (C.take i ++ C.drop (i + 1)) := by rw [hF]; simp only [hbe, Int.toNat_natCast]
      have hnx : altS F (i + 1) = altS F i + (if i % 2 = 0 then 1 else -1) * F i := rfl
      have hp : a * n + b < M.length := by rw [hM]; exact rc_lt han hbn
      obtain ⟨x1, x2⟩ := hb _ hp
      have hfb := fb i hiC
      have s1 := sb i (by omega)
      have s2 := sb (i + 1) (by omega)
      have g := ih (i + 1) (by omega)
      by_cases hz : nth M (a * n + b) = 0
      · have dz : decide (nth M (a * n + b) = 0) = true := decide_eq_true hz
        have hsame : altS F (i + 1) = altS F i := by rw [hnx, hFi, hz]; simp
        rw [hsame] at g
        exact A3_ (T := fun s => (C0_ n n M RR C s).run) (by simp only [C0_, Tree.run, k0, kC, kR, ha0, hbe, Int.toNat_natCast, Int.toNat_zero, aI, dz, e1, hsg, Option.bind_some, Bool.not_true, Bool.false_eq_true, if_false, if_true]) g
      · have dz : decide (nth M (a * n + b) = 0) = false := decide_eq_false hz
        have hw : IntKind.i64.wrap (altS F i + (IntKind.i64.wrap ((IntKind.i64.wrap ((if i % 2 = 0 then 1 else -1) * nth M (a * n + b))) * mnV n M R (C.take i ++ C.drop (i + 1))))) = altS F (i + 1) := by
          rw [hnx, hFi]
          rw [hFi] at hfb
          rw [hnx, hFi] at s2
          rcases Nat.mod_two_eq_zero_or_one i with e | e
          · rw [if_pos e] at s2 ⊢
            rw [Int.one_mul, Int.one_mul, w64 (n := nth M (a * n + b)) (by omega) (by omega), w64 (n := nth M (a * n + b) * _) (by omega) (by omega), w64 (by omega) (by omega)]
          · rw [if_neg (by omega)] at s2 ⊢
            rw [Int.neg_one_mul, Int.neg_one_mul, w64 (n := -nth M (a * n + b)) (by omega) (by omega), Int.neg_mul, w64 (n := -(nth M (a * n + b) * _)) (by omega) (by omega), w64 (by omega) (by omega)]
        have sd := Lr_ C i
        have dl : (C.drop (i + 1)).length = C.length - (i + 1) := by simp
        have e : i + (C.length - (i + 1)) = C.length - 1 := by omega
        have one : C.length - (C.length - 1) = 1 := by omega
        have rep : List.replicate 1 (0 : Int) = [0] := rfl
        have dlst := Sg_ C i hiC
        have dlst' : AM.sub (overL (overL C i (C.drop (i + 1))) (C.length - 1) [(0 : Int)]) ((0 : Nat) : Int) ((C.length - 1 : Nat) : Int) = C.take i ++ C.drop (i + 1) := dlst
        have lo : decide ((overL (overL C i (C.drop (i + 1))) (C.length - 1) [(0 : Int)]).length = C.length) = true := decide_eq_true (by simp [overL]; omega)
        have dI := delI hiC
        refine A3_ (T := fun s => (C0_ n n M RR C s).run) ?_ g
        simp only [C0_, Tree.run, k0, kC, kR, kS, ha0, hbe, Int.toNat_natCast, Int.toNat_zero, Nat.zero_add, Nat.sub_zero, List.nil_append, aI, dz, e1, cl, dI, sd, dl, e, one, rep, lo, sR, dlst', m1, hw, hsg, Option.bind_some, Bool.not_false, if_true]
  have g1 := loop C.length 0 (by omega)
  have g1' : Mb_ n n M RR C ((0 : Int), (1 : Int), (0 : Int)) = some (altS F C.length) := g1
  rw [hmn, ← hRR]
  refine ⟨by simp only [E9_, L3_, Tree.run, d0, g1', Option.bind_some, Bool.false_eq_true, if_false, if_true], ?_⟩
  exact sb C.length (Nat.le_refl _)
theorem Zk_ {n : Nat} (n1 : 1 ≤ n) (n3 : n ≤ 3) (M : List Int) : mnV n M ((List.range n).map fun (i : Nat) => (i : Int)) ((List.range n).map fun (i : Nat) => (i : Int)) = dtI n (wf n M) := by
  have : n = 1 ∨ n = 2 ∨ n = 3 := by omega
  have a1 : ∀ f, altS f 1 = f 0 := fun f => by show 0 + 1 * f 0 = _; omega
  have a2 : ∀ f, altS f 2 = f 0 - f 1 := fun f => by show 0 + 1 * f 0 + -1 * f 1 = _; omega
  have a3 : ∀ f, altS f 3 = f 0 - f 1 + f 2 := fun f => by show 0 + 1 * f 0 + -1 * f 1 + 1 * f 2 = _; omega
  have e1 : ∀ (a c : Int), mnV n M [a] [c] = nth M (a.toNat * n + c.toNat) := fun a c => by
    show altS (fun i => nth M (a.toNat * n + (nth [c] i).toNat) * 1) 1 = _
    rw [a1, Int.mul_one]; rfl
  have e2 : ∀ (a b c d : Int), mnV n M [a, b] [c, d] = nth M (a.toNat * n + c.toNat) * nth M (b.toNat * n + d.toNat) - nth M (a.toNat * n + d.toNat) * nth M (b.toNat * n + c.toNat) := fun a b c d => by
    show altS (fun i => nth M (a.toNat * n + (nth [c, d] i).toNat) * mnV n M [b] ([c, d].take i ++ [c, d].drop (i + 1))) 2 = _
    rw [a2]
    show nth M (a.toNat * n + c.toNat) * mnV n M [b] [d] - nth M (a.toNat * n + d.toNat) * mnV n M [b] [c] = _
    rw [e1, e1]
  rcases this with rfl | rfl | rfl
  · show mnV 1 M [0] [0] = _
    rw [e1]; rfl
  · show mnV 2 M [0, 1] [0, 1] = _
    rw [e2]; rfl
  · show altS (fun i => nth M ((0 : Int).toNat * 3 + (nth [(0 : Int), 1, 2] i).toNat) * mnV 3 M [1, 2] ([(0 : Int), 1, 2].take i ++ [(0 : Int), 1, 2].drop (i + 1))) 3 = _
    rw [a3]
    show nth M 0 * mnV 3 M [1, 2] [1, 2] - nth M 1 * mnV 3 M [1, 2] [0, 2] + nth M 2 * mnV 3 M [1, 2] [0, 1] = _
    rw [e2, e2, e2]; rfl
theorem Ya_ {n : Nat} (n1 : 1 ≤ n) (n3 : n ≤ 3) {M : List Int} (hM : M.length = n * n) (hb : bndB 100 M = true) : C4_ n n M = some (.inr (dtI n (wf n M))) ∧ (dtI n (wf n M)).natAbs ≤ 27000000 := by
  have hnn : n * n ≤ 3 * 3 := Nat.mul_le_mul n3 n3
  have hlow : Cf_ n n M = some true := by
    simp only [Cf_, Jm_, Tree.run, whI 100 n n M (by unfold maxN; omega) (by omega) (by omega), Option.bind_some]
    rw [Mh_ n1 (by omega) n1 (by omega) hM, hb]
  have hasc : Dy_ (n : Int) = some ((List.range n).map fun (i : Nat) => (i : Int)) := by
    have : n = 1 ∨ n = 2 ∨ n = 3 := by omega
    rcases this with rfl | rfl | rfl
    · have h := asc1
      simp only [Dy_, Jy_, Tree.run, if_true]
      show (D1_ 1 (0, [])).bind _ = _
      rw [h]; rfl
    · have h := asc2
      simp only [Dy_, Jy_, Tree.run, if_true]
      show (D1_ 2 (0, [])).bind _ = _
      rw [h]; rfl
    · have h := asc3
      simp only [Dy_, Jy_, Tree.run, if_true]
      show (D1_ 3 (0, [])).bind _ = _
      rw [h]; rfl
  have hmem : ∀ x ∈ (List.range n).map (fun (i : Nat) => (i : Int)), ∃ a : Nat, x = a ∧ a < n := fun x hx => by
    obtain ⟨a, ha, rfl⟩ := List.mem_map.1 hx
    exact ⟨a, rfl, List.mem_range.1 ha⟩
  obtain ⟨g1, g2⟩ := mz3 n3 hM (fun p hp => E8_.1 hb p hp) (R := (List.range n).map fun (i : Nat) => (i : Int)) (C := (List.range n).map fun (i : Nat) => (i : Int)) rfl (by simpa using n3) hmem hmem
  rw [Zk_ n1 n3] at g1 g2
  refine ⟨?_, g2⟩
  simp only [C4_, Oq_, Tree.run, hlow, hasc, g1, decide_true, Option.bind_some, Bool.not_true, Bool.false_eq_true, if_false]
theorem rep1l : Ki_ ((1 : Int), [(-2 : Int)]) = some [-2] := Fk_ (T := fun s => (Jb_ s).run) 9 _ _ (by kernel_rfl)
theorem rep2l : Ki_ ((1 : Int), [(-2 : Int), 0]) = some [-2, -2] := Fk_ (T := fun s => (Jb_ s).run) 9 _ _ (by kernel_rfl)
theorem rep3l : Ki_ ((1 : Int), [(-2 : Int), 0, 0]) = some [-2, -2, -2] := Fk_ (T := fun s => (Jb_ s).run) 9 _ _ (by kernel_rfl)
def fsE (n e : Nat) : List Int := (List.range n).map fun i => ((e / 5 ^ (n - 1 - i) % 5 : Nat) : Int) - 2
theorem Bd_ (n e : Nat) : (fsE n e).length = n := by simp [fsE]
theorem Qp_ {n e i : Nat} (h : i < n) : -2 ≤ nth (fsE n e) i ∧ nth (fsE n e) i ≤ 2 := by
  unfold fsE
  rw [A8_ _ _ _ h]
  have := Nat.mod_lt (e / 5 ^ (n - 1 - i)) (show 0 < 5 by omega)
  omega
theorem Zf_ {n : Nat} (n1 : 1 ≤ n) (n3 : n ≤ 3) : Eh_ [IntKind.i64.wrap (0 - 2)] (n : Int) = some (fsE n 0) := by
  have w : IntKind.i64.wrap (0 - 2) = -2 := w64 (by omega) (by omega)
  rw [w]
  have m1 : Hc_ (IntKind.u64.wrap (((([(-2 : Int)]).length : Nat) : Int))) (IntKind.u64.wrap ((1 : Nat) : Int)) = some (0, 1) := by kernel_rfl
  have m2 : Hc_ (IntKind.u64.wrap (((([(-2 : Int)]).length : Nat) : Int))) (IntKind.u64.wrap ((2 : Nat) : Int)) = some (0, 2) := by kernel_rfl
  have m3 : Hc_ (IntKind.u64.wrap (((([(-2 : Int)]).length : Nat) : Int))) (IntKind.u64.wrap ((3 : Nat) : Int)) = some (0, 3) := by kernel_rfl
  have c0 : decide ((0 : Int) < 0) = false := by decide
  have cases3 : n = 1 ∨ n = 2 ∨ n = 3 := by omega
  rcases cases3 with rfl | rfl | rfl
  · have c1 : decide ((((1 : Nat) : Nat) : Int) < 0) = false := by decide
    have c2 : decide ((9223372036854775807 : Int) < 1) = false := by decide
    have w1' : IntKind.i64.wrap (1 : Int) = 1 := w64 (by omega) (by omega)
    have k : inb (1 : Int) (maxN + 1) = true := Bf_.2 ⟨by omega, by unfold maxN; omega⟩
    have r := rep1l
    simp only [Eh_, Kb_, Tree.run, m1, c0, c1, c2, w1', k, Option.bind_some, Bool.false_eq_true, if_false, if_true]
    exact (congrArg (fun o => Option.bind o some) r).trans (by kernel_rfl)
  · have c1 : decide ((((2 : Nat) : Nat) : Int) < 0) = false := by decide
    have c2 : decide ((9223372036854775807 : Int) < 2) = false := by decide
    have w1' : IntKind.i64.wrap (2 : Int) = 2 := w64 (by omega) (by omega)
    have k : inb (2 : Int) (maxN + 1) = true := Bf_.2 ⟨by omega, by unfold maxN; omega⟩
    have r := rep2l
    simp only [Eh_, Kb_, Tree.run, m2, c0, c1, c2, w1', k, Option.bind_some, Bool.false_eq_true, if_false, if_true]
    exact (congrArg (fun o => Option.bind o some) r).trans (by kernel_rfl)
  · have c1 : decide ((((3 : Nat) : Nat) : Int) < 0) = false := by decide
    have c2 : decide ((9223372036854775807 : Int) < 3) = false := by decide
    have w1' : IntKind.i64.wrap (3 : Int) = 3 := w64 (by omega) (by omega)
    have k : inb (3 : Int) (maxN + 1) = true := Bf_.2 ⟨by omega, by unfold maxN; omega⟩
    have r := rep3l
    simp only [Eh_, Kb_, Tree.run, m3, c0, c1, c2, w1', k, Option.bind_some, Bool.false_eq_true, if_false, if_true]
    exact (congrArg (fun o => Option.bind o some) r).trans (by kernel_rfl)
def car : Nat → List Int → Nat × List Int
  | 0, fs => (0, fs)
  | i + 1, fs => if nth fs i = 2 then car i (fs.set i (-2)) else (i + 1, fs)
theorem Lw_ (a : Int) (b : List Int) : ∀ (i : Nat) (fs : List Int), i ≤ fs.length → i ≤ 100 → Ig_ 2 a b ((i : Int) - 1, fs) = some (((car i fs).1 : Int) - 1, (car i fs).2)
  | 0, fs, _, _ => by
    refine A9_ (T := fun s => (C7_ 2 a b s).run) ?_
    have c : decide ((0 : Int) ≤ ((0 : Nat) : Int) - 1) = false := by decide
    simp only [C7_, Tree.run, c, Bool.false_eq_true, if_false, car]
  | i + 1, fs, h, hi => by
    have e1 : (((i + 1 : Nat) : Int) - 1) = (i : Int) := by omega
    have c : decide ((0 : Int) ≤ (i : Int)) = true := decide_eq_true (by omega)
    have hl : i < fs.length := by omega
    have ew : IntKind.i64.wrap ((i : Int) - 1) = (i : Int) - 1 := w64 (by omega) (by omega)
    have en : IntKind.i64.wrap (0 - 2) = -2 := w64 (by omega) (by omega)
    rw [e1]
    by_cases hz : nth fs i = 2
    · have g := Lw_ a b i (fs.set i (-2)) (by simp; omega) (by omega)
      have d : decide (nth fs i = 2) = true := decide_eq_true hz
      have ec : car (i + 1) fs = car i (fs.set i (-2)) := by simp only [car, if_pos hz]
      rw [ec]
      refine A3_ (T := fun s => (C7_ 2 a b s).run) ?_ g
      simp only [C7_, Tree.run, c, Aq_, hl, d, decide_true, Int.toNat_natCast, ew, en, if_true]
    · have d : decide (nth fs i = 2) = false := decide_eq_false hz
      have ec : car (i + 1) fs = (i + 1, fs) := by simp only [car, if_neg hz]
      rw [ec]
      refine A9_ (T := fun s => (C7_ 2 a b s).run) ?_
      simp only [C7_, Tree.run, c, Aq_, hl, d, decide_true, Int.toNat_natCast, if_true, Bool.false_eq_true, if_false, e1]
theorem Uh_ (a : Int) (i : Nat) (fs : List Int) (h : i ≤ fs.length) (hi : i ≤ 100) : Q0_ 2 a ((i : Int) - 1, fs) = some (((car i fs).1 : Int) - 1, (car i fs).2) := Lw_ a [] i fs h hi
def carB (n e : Nat) : Bool :=
  let c := car n (fsE n e)
  bif Nat.beq (e + 1) (5 ^ n) then Nat.beq c.1 0 else (Nat.ble 1 c.1 && (Nat.ble c.1 n && (decide (c.2.length = n) && decide (c.2.set (c.1 - 1) (nth c.2 (c.1 - 1) + 1) = fsE n (e + 1)) && decide (nth c.2 (c.1 - 1) ≤ 1 ∧ -2 ≤ nth c.2 (c.1 - 1)))))
theorem car1 : ((List.range 5).all fun e => carB 1 e) = true := by kernel_rfl
theorem car2 : ((List.range 25).all fun e => carB 2 e) = true := by kernel_rfl
theorem car3 : ((List.range 125).all fun e => carB 3 e) = true := by kernel_rfl
theorem Uq_ {n e : Nat} (n1 : 1 ≤ n) (n3 : n ≤ 3) (he : e < 5 ^ n) : (e + 1 = 5 ^ n ∧ (car n (fsE n e)).1 = 0) ∨ (e + 1 < 5 ^ n ∧ ∃ c, (car n (fsE n e)).1 = c + 1 ∧ c < n ∧ (car n (fsE n e)).2.length = n ∧ (car n (fsE n e)).2.set c (nth (car n (fsE n e)).2 c + 1) = fsE n (e + 1) ∧ nth (car n (fsE n e)).2 c ≤ 1 ∧ -2 ≤ nth (car n (fsE n e)).2 c) := by
  have hb : carB n e = true := by
    have cases3 : n = 1 ∨ n = 2 ∨ n = 3 := by omega
    rcases cases3 with rfl | rfl | rfl
    · exact List.all_eq_true.1 car1 e (List.mem_range.2 he)
    · exact List.all_eq_true.1 car2 e (List.mem_range.2 he)
    · exact List.all_eq_true.1 car3 e (List.mem_range.2 he)
  unfold carB at hb
  dsimp only at hb
  by_cases hl : e + 1 = 5 ^ n
  · rw [show Nat.beq (e + 1) (5 ^ n) = true from by rw [hl]; exact Nat.beq_refl _] at hb
    exact .inl ⟨hl, Nat.eq_of_beq_eq_true hb⟩
  · rw [show Nat.beq (e + 1) (5 ^ n) = false from by
      cases h : Nat.beq (e + 1) (5 ^ n) with
      | false => rfl
      | true => exact absurd (Nat.eq_of_beq_eq_true h) hl] at hb
    simp only [cond_false, Bool.and_eq_true, decide_eq_true_eq] at hb
    obtain ⟨b1, b2, ⟨b3, b4⟩, b5, b6⟩ := hb
    have b1 := Nat.le_of_ble_eq_true b1
    have b2 := Nat.le_of_ble_eq_true b2
    refine .inr ⟨by omega, (car n (fsE n e)).1 - 1, by omega, by omega, b3, b4, b5, b6⟩
def smZ : Nat → (Nat → Int) → Int
  | 0, _ => 0
  | n + 1, f => smZ n f + f n
theorem Ku_ {f : Nat → Int} {B : Nat} : ∀ n, (∀ i, i < n → (f i).natAbs ≤ B) → (smZ n f).natAbs ≤ n * B
  | 0, _ => by simp [smZ]
  | n + 1, h => by
    have h1 := Ku_ n fun i hi => h i (by omega)
    have h2 := h n (by omega)
    simp only [smZ, Nat.add_mul, Nat.one_mul]; omega
theorem Qi_ {f g : Nat → Int} : ∀ n, (∀ i, i < n → f i = g i) → smZ n f = smZ n g
  | 0, _ => rfl
  | n + 1, h => by simp only [smZ]; rw [Qi_ n fun i hi => h i (by omega), h n (by omega)]
def vcE (n : Nat) (W : List Int) (e k : Nat) : Int := smZ n fun i => nth (fsE n e) i * nth W (i * n + k)
def sqE (n : Nat) (W : List Int) (e : Nat) : Int := smZ n fun k => vcE n W e k * vcE n W e k
def vlE (n : Nat) (W : List Int) (e : Nat) : List Int := (List.range n).map fun k => vcE n W e k
theorem lowW {n : Nat} {W : List Int} (hW : W.length = n * n) (hb : bndB 100 W = true) {i k : Nat} (hi : i < n) (hk : k < n) : (nth W (i * n + k)).natAbs ≤ 100 := by
  obtain ⟨h1, h2⟩ := E8_.1 hb (i * n + k) (by rw [hW]; exact rc_lt hi hk)
  omega
theorem Jv_ {n : Nat} (n3 : n ≤ 3) {W : List Int} (hW : W.length = n * n) (hb : bndB 100 W = true) (e : Nat) {k : Nat} (hk : k < n) : ∀ i, i ≤ n → (smZ i fun i => nth (fsE n e) i * nth W (i * n + k)).natAbs ≤ 600 := fun i hi => by
  have h := Ku_ (f := fun i => nth (fsE n e) i * nth W (i * n + k)) (B := 200) i fun j hj => by
    show (nth (fsE n e) j * nth W (j * n + k)).natAbs ≤ 200
    obtain ⟨a, b⟩ := Qp_ (n := n) (e := e) (i := j) (by omega)
    rw [Int.natAbs_mul]
    exact Nat.mul_le_mul (show (nth (fsE n e) j).natAbs ≤ 2 by omega) (lowW hW hb (by omega) hk)
  omega
def lsE (n : Nat) (W : List Int) (e k p : Nat) : List Int := (List.range n).map fun j => if j < k then vcE n W e j else if j = k then smZ p fun i => nth (fsE n e) i * nth W (i * n + k) else 0
theorem Jn_ (n : Nat) (W : List Int) (e k p : Nat) : (lsE n W e k p).length = n := by simp [lsE]
theorem Y5_ {n : Nat} {W : List Int} {e k p : Nat} (hk : k < n) : nth (lsE n W e k p) k = smZ p fun i => nth (fsE n e) i * nth W (i * n + k) := by
  unfold lsE; rw [A8_ _ _ _ hk, if_neg (by omega), if_pos rfl]
theorem T4_ {n : Nat} {W : List Int} {e k p : Nat} (hk : k < n) : (lsE n W e k p).set k (smZ (p + 1) fun i => nth (fsE n e) i * nth W (i * n + k)) = lsE n W e k (p + 1) := by
  refine Pg_ (by simp [lsE]) fun j hj => ?_
  have hj : j < n := by simpa [lsE] using hj
  rw [setG (by rw [Jn_]; exact hk)]
  unfold lsE
  rw [A8_ _ _ _ hj, A8_ _ _ _ hj]
  by_cases c : k = j
  · subst c; rw [if_pos rfl, if_neg (by omega), if_pos rfl]
  · rw [if_neg c]
    by_cases d : j < k
    · rw [if_pos d, if_pos d]
    · rw [if_neg d, if_neg d, if_neg (by omega), if_neg (by omega)]
theorem Ve_ (n : Nat) (W : List Int) (e k : Nat) : lsE n W e k n = lsE n W e (k + 1) 0 := List.map_congr_left fun j _ => by
  by_cases c : j < k
  · rw [if_pos c, if_pos (by omega)]
  · by_cases d : j = k
    · rw [if_neg c, if_pos d, if_pos (by omega), d]; rfl
    · rw [if_neg c, if_neg d, if_neg (by omega)]
      by_cases f : j = k + 1
      · rw [if_pos f]; rfl
      · rw [if_neg f]
theorem Yu_ (n : Nat) (W : List Int) (e : Nat) : lsE n W e 0 0 = List.replicate n 0 := by
  refine List.ext_getElem (by simp [lsE]) fun i h1 h2 => ?_
  simp only [lsE, List.getElem_map, List.getElem_range, List.getElem_replicate]
  by_cases c : i = 0
  · subst c; rfl
  · rw [if_neg (by omega), if_neg c]
theorem Uc_ (n : Nat) (W : List Int) (e p : Nat) : lsE n W e n p = vlE n W e := List.map_congr_left fun j hj => by rw [if_pos (List.mem_range.1 hj)]
theorem Vz_ {n : Nat} {W : List Int} {e k : Nat} (hk : k < n) : nth (lsE n W e (k + 1) 0) k = vcE n W e k := by
  unfold lsE; rw [A8_ _ _ _ hk, if_pos (by omega)]
theorem Alr_ {n : Nat} (n3 : n ≤ 3) {W : List Int} (hW : W.length = n * n) (hb : bndB 100 W = true) (e : Nat) {k : Nat} (hk : k < n) (a b : Int) : R7_ (n : Int) W a b (k : Int) (n : Int) (fsE n e) ((0 : Int), lsE n W e k 0) = some (lsE n W e k n) :=
  Bv_ (T := fun s => (G7_ (n : Int) W a b (k : Int) (n : Int) (fsE n e) s).run) (n := n) (r := lsE n W e k n) (fun i => (((i : Nat) : Int), lsE n W e k i)) (fun i hi => by
    have hat := atWI (i := i) (k := k) hi hk (show n ≤ 6 by omega) (show n ≤ 6 by omega) hW
    obtain ⟨f1, f2⟩ := Qp_ (n := n) (e := e) hi
    have hlw := lowW hW hb hi hk
    have p1 := Jv_ n3 hW hb e hk i (by omega)
    have hpr : (nth (fsE n e) i * nth W (i * n + k)).natAbs ≤ 2 * 100 := by rw [Int.natAbs_mul]; exact Nat.mul_le_mul (by omega) hlw
    have ew : IntKind.i64.wrap ((smZ i fun i => nth (fsE n e) i * nth W (i * n + k)) + (IntKind.i64.wrap (nth (fsE n e) i * nth W (i * n + k)))) = smZ (i + 1) fun i => nth (fsE n e) i * nth W (i * n + k) := by
      rw [w64 (n := nth (fsE n e) i * nth W (i * n + k)) (by omega) (by omega), w64 (by omega) (by omega)]; rfl
    simp only [G7_, Tree.run, Ar_, hi, hk, decide_true, if_true, Aq_, Bd_, Jn_, hat, Int.toNat_natCast, Y5_ hk, Option.bind_some, ew, T4_ hk, A7_ (show i < 4611686018427387904 by omega)])
    (by simp only [G7_, Tree.run, Ar_, Nat.lt_irrefl, decide_false, Bool.false_eq_true, if_false])
theorem Uv_ {n : Nat} (n3 : n ≤ 3) {W : List Int} (hW : W.length = n * n) (hb : bndB 100 W = true) (e : Nat) (a : Int) : Qd_ (n : Int) (n : Int) W 2 a (fsE n e) ((0 : Int), (0 : Int), List.replicate n (0 : Int)) = some (sqE n W e, vlE n W e) := by
  have := Bv_ (T := fun s => (Hm_ (n : Int) (n : Int) W 2 a (fsE n e) s).run) (n := n) (r := (sqE n W e, vlE n W e)) (fun k => (smZ k (fun k => vcE n W e k * vcE n W e k), ((k : Nat) : Int), lsE n W e k 0)) (fun k hk => by
    have h4 := Alr_ n3 hW hb e hk a (smZ k fun k => vcE n W e k * vcE n W e k)
    have hv : (smZ n fun i => nth (fsE n e) i * nth W (i * n + k)) = vcE n W e k := rfl
    have q0 : ∀ j, j < n → (vcE n W e j * vcE n W e j).natAbs ≤ 360000 := fun j hj => by
      have p1 := Jv_ n3 hW hb e hj n (Nat.le_refl _)
      have p1 : (vcE n W e j).natAbs ≤ 600 := p1
      rw [Int.natAbs_mul]; exact Nat.mul_le_mul p1 p1
    have q1 := Ku_ (f := fun k => vcE n W e k * vcE n W e k) (B := 360000) k fun j hj => q0 j (by omega)
    have q2 := q0 k hk
    have ew : IntKind.i64.wrap ((smZ k fun k => vcE n W e k * vcE n W e k) + (IntKind.i64.wrap (vcE n W e k * vcE n W e k))) = smZ (k + 1) fun k => vcE n W e k * vcE n W e k := by
      rw [w64 (n := vcE n W e k * vcE n W e k) (by omega) (by omega), w64 (by omega) (by omega)]; rfl
    simp only [Hm_, Tree.run, Ar_, hk, decide_true, if_true, Bd_, h4, Option.bind_some, Aq_, Jn_, Int.toNat_natCast, Ve_, Vz_ hk, ew, A7_ (show k < 4611686018427387904 by omega)])
    (by
      simp only [Hm_, Tree.run, Ar_, Nat.lt_irrefl, decide_false, Bool.false_eq_true, if_false, Uc_]
      rfl)
  rw [← Yu_ n W e]
  exact this
theorem Adk_ {n : Nat} (n3 : n ≤ 3) {W : List Int} (hW : W.length = n * n) (hb : bndB 100 W = true) (e : Nat) {k : Nat} (hk : k < n) (a b : Int) (BB : List Int) : Q7_ (n : Int) W a b (k : Int) (n : Int) BB (fsE n e) ((0 : Int), lsE n W e k 0) = some (lsE n W e k n) :=
  Bv_ (T := fun s => (I7_ (n : Int) W a b (k : Int) (n : Int) BB (fsE n e) s).run) (n := n) (r := lsE n W e k n) (fun i => (((i : Nat) : Int), lsE n W e k i)) (fun i hi => by
    have hat := atWI (i := i) (k := k) hi hk (show n ≤ 6 by omega) (show n ≤ 6 by omega) hW
    obtain ⟨f1, f2⟩ := Qp_ (n := n) (e := e) hi
    have hlw := lowW hW hb hi hk
    have p1 := Jv_ n3 hW hb e hk i (by omega)
    have hpr : (nth (fsE n e) i * nth W (i * n + k)).natAbs ≤ 2 * 100 := by rw [Int.natAbs_mul]; exact Nat.mul_le_mul (by omega) hlw
    have ew : IntKind.i64.wrap ((smZ i fun i => nth (fsE n e) i * nth W (i * n + k)) + (IntKind.i64.wrap (nth (fsE n e) i * nth W (i * n + k)))) = smZ (i + 1) fun i => nth (fsE n e) i * nth W (i * n + k) := by
      rw [w64 (n := nth (fsE n e) i * nth W (i * n + k)) (by omega) (by omega), w64 (by omega) (by omega)]; rfl
    simp only [I7_, Tree.run, Ar_, hi, hk, decide_true, if_true, Aq_, Bd_, Jn_, hat, Int.toNat_natCast, Y5_ hk, Option.bind_some, ew, T4_ hk, A7_ (show i < 4611686018427387904 by omega)])
    (by simp only [I7_, Tree.run, Ar_, Nat.lt_irrefl, decide_false, Bool.false_eq_true, if_false])
theorem U6_ {n : Nat} (n3 : n ≤ 3) {W : List Int} (hW : W.length = n * n) (hb : bndB 100 W = true) (e : Nat) (a : Int) (BB : List Int) : Qm_ (n : Int) (n : Int) W 2 a BB (fsE n e) ((0 : Int), (0 : Int), List.replicate n (0 : Int)) = some (sqE n W e, vlE n W e) := by
  have := Bv_ (T := fun s => (I6_ (n : Int) (n : Int) W 2 a BB (fsE n e) s).run) (n := n) (r := (sqE n W e, vlE n W e)) (fun k => (smZ k (fun k => vcE n W e k * vcE n W e k), ((k : Nat) : Int), lsE n W e k 0)) (fun k hk => by
    have h4 := Adk_ n3 hW hb e hk a (smZ k fun k => vcE n W e k * vcE n W e k) BB
    have hv : (smZ n fun i => nth (fsE n e) i * nth W (i * n + k)) = vcE n W e k := rfl
    have q0 : ∀ j, j < n → (vcE n W e j * vcE n W e j).natAbs ≤ 360000 := fun j hj => by
      have p1 := Jv_ n3 hW hb e hj n (Nat.le_refl _)
      have p1 : (vcE n W e j).natAbs ≤ 600 := p1
      rw [Int.natAbs_mul]; exact Nat.mul_le_mul p1 p1
    have q1 := Ku_ (f := fun k => vcE n W e k * vcE n W e k) (B := 360000) k fun j hj => q0 j (by omega)
    have q2 := q0 k hk
    have ew : IntKind.i64.wrap ((smZ k fun k => vcE n W e k * vcE n W e k) + (IntKind.i64.wrap (vcE n W e k * vcE n W e k))) = smZ (k + 1) fun k => vcE n W e k * vcE n W e k := by
      rw [w64 (n := vcE n W e k * vcE n W e k) (by omega) (by omega), w64 (by omega) (by omega)]; rfl
    simp only [I6_, Tree.run, Ar_, hk, decide_true, if_true, Bd_, h4, Option.bind_some, Aq_, Jn_, Int.toNat_natCast, Ve_, Vz_ hk, ew, A7_ (show k < 4611686018427387904 by omega)])
    (by
      simp only [I6_, Tree.run, Ar_, Nat.lt_irrefl, decide_false, Bool.false_eq_true, if_false, Uc_]
      rfl)
  rw [← Yu_ n W e]
  exact this
def Fin (n : Nat) (W : List Int) (r : (Int × List Int) ⊕ Int) : Prop :=
  (∃ e0, e0 < 5 ^ n ∧ r = .inl (sqE n W e0, vlE n W e0) ∧ 0 < sqE n W e0 ∧ ∀ e, e < 5 ^ n → 0 < sqE n W e → sqE n W e0 ≤ sqE n W e) ∨ (r = .inr 0 ∧ ∀ e, e < 5 ^ n → sqE n W e ≤ 0)
theorem Aco_ {n : Nat} (n1 : 1 ≤ n) (n3 : n ≤ 3) {W : List Int} (hW : W.length = n * n) (hb : bndB 100 W = true) : ∀ (d e : Nat), e + (d + 1) = 5 ^ n →
    ((∀ e', e' < e → sqE n W e' ≤ 0) → ∃ r, Nf_ n n W 2 (.inl (0, fsE n e)) = some r ∧ Fin n W r) ∧
    (∀ e0, e0 < 5 ^ n → 0 < sqE n W e0 → (∀ e', e' < e → 0 < sqE n W e' → sqE n W e0 ≤ sqE n W e') → ∃ r, Nf_ n n W 2 (.inr (sqE n W e0, vlE n W e0, fsE n e)) = some r ∧ Fin n W r) := by
  have ki : inb ((n : Nat) : Int) (maxN + 1) = true := by rw [Aq_]; exact decide_eq_true (by unfold maxN; omega)
  have el : IntKind.i64.wrap (((n : Nat) : Int) - 1) = (n : Int) - 1 := w64 (by omega) (by omega)
  intro d
  induction d with
  | zero =>
    intro e he
    have hl2 := fun a => Uv_ n3 hW hb e a
    have hl21 := fun a b => U6_ n3 hW hb e a b
    have hc : (car n (fsE n e)).1 = 0 := by
      rcases Uq_ n1 n3 (show e < 5 ^ n by omega) with ⟨_, h⟩ | ⟨h, _⟩
      · exact h
      · omega
    have h6 := fun a b => Lw_ a b n (fsE n e) (by rw [Bd_]; omega) (by omega)
    have h61 := fun a => Uh_ a n (fsE n e) (by rw [Bd_]; omega) (by omega)
    rw [hc] at h6 h61
    have cm : decide (((0 : Nat) : Int) - 1 < 0) = true := by decide
    refine ⟨fun hA => ?_, fun e0 h0 hp hB => ?_⟩
    · by_cases hs : 0 < sqE n W e
      · have ds : decide (0 < sqE n W e) = true := decide_eq_true hs
        refine ⟨.inl (sqE n W e, vlE n W e), A9_ (T := fun s => (Ax_ n n W 2 s).run) ?_, .inl ⟨e, by omega, rfl, hs, fun e' h' hp' => ?_⟩⟩
        · simp only [Ax_, Tree.run, ki, Int.toNat_natCast, hl2, ds, Bd_, el, h6, cm, Option.bind_some, if_true]
        · by_cases q : e' = e
          · rw [q]; exact Int.le_refl _
          · have := hA e' (by omega); omega
      · have ds : decide (0 < sqE n W e) = false := decide_eq_false hs
        refine ⟨.inr 0, A9_ (T := fun s => (Ax_ n n W 2 s).run) ?_, .inr ⟨rfl, fun e' h' => ?_⟩⟩
        · simp only [Ax_, Tree.run, ki, Int.toNat_natCast, hl2, ds, Bd_, el, h61, cm, Option.bind_some, if_true, Bool.false_eq_true, if_false]
        · by_cases q : e' = e
          · rw [q]; omega
          · exact hA e' (by omega)
    · by_cases hs : 0 < sqE n W e
      · have ds : decide (0 < sqE n W e) = true := decide_eq_true hs
        by_cases hlt : sqE n W e < sqE n W e0
        · have dl : decide (sqE n W e < sqE n W e0) = true := decide_eq_true hlt
          refine ⟨.inl (sqE n W e, vlE n W e), A9_ (T := fun s => (Ax_ n n W 2 s).run) ?_, .inl ⟨e, by omega, rfl, hs, fun e' h' hp' => ?_⟩⟩
          · simp only [Ax_, Tree.run, ki, Int.toNat_natCast, hl21, ds, dl, Bd_, el, h6, cm, Option.bind_some, if_true]
          · by_cases q : e' = e
            · rw [q]; exact Int.le_refl _
            · have := hB e' (by omega) hp'; omega
        · have dl : decide (sqE n W e < sqE n W e0) = false := decide_eq_false hlt
          refine ⟨.inl (sqE n W e0, vlE n W e0), A9_ (T := fun s => (Ax_ n n W 2 s).run) ?_, .inl ⟨e0, h0, rfl, hp, fun e' h' hp' => ?_⟩⟩
          · simp only [Ax_, Tree.run, ki, Int.toNat_natCast, hl21, ds, dl, Bd_, el, h6, cm, Option.bind_some, if_true, Bool.false_eq_true, if_false]
          · by_cases q : e' = e
            · rw [q]; omega
            · exact hB e' (by omega) hp'
      · have ds : decide (0 < sqE n W e) = false := decide_eq_false hs
        refine ⟨.inl (sqE n W e0, vlE n W e0), A9_ (T := fun s => (Ax_ n n W 2 s).run) ?_, .inl ⟨e0, h0, rfl, hp, fun e' h' hp' => ?_⟩⟩
        · simp only [Ax_, Tree.run, ki, Int.toNat_natCast, hl21, ds, Bd_, el, h6, cm, Option.bind_some, if_true, Bool.false_eq_true, if_false]
        · by_cases q : e' = e
          · rw [q] at hp'; omega
          · exact hB e' (by omega) hp'
  | succ d ih =>
    intro e he
    have hl2 := fun a => Uv_ n3 hW hb e a
    have hl21 := fun a b => U6_ n3 hW hb e a b
    obtain ⟨c, hc, hcn, hcl, hset, hv1, hv2⟩ : ∃ c, (car n (fsE n e)).1 = c + 1 ∧ c < n ∧ (car n (fsE n e)).2.length = n ∧ (car n (fsE n e)).2.set c (nth (car n (fsE n e)).2 c + 1) = fsE n (e + 1) ∧ nth (car n (fsE n e)).2 c ≤ 1 ∧ -2 ≤ nth (car n (fsE n e)).2 c := by
      rcases Uq_ n1 n3 (show e < 5 ^ n by omega) with ⟨h, _⟩ | ⟨_, h⟩
      · omega
      · exact h
    have h6 := fun a b => Lw_ a b n (fsE n e) (by rw [Bd_]; omega) (by omega)
    have h61 := fun a => Uh_ a n (fsE n e) (by rw [Bd_]; omega) (by omega)
    obtain ⟨G, hG⟩ : ∃ G, G = (car n (fsE n e)).2 := ⟨_, rfl⟩
    rw [hc, ← hG] at h6 h61
    rw [← hG] at hcl hset hv1 hv2
    have ec : (((c + 1 : Nat) : Int) - 1) = (c : Int) := by omega
    rw [ec] at h6 h61
    have cm : decide ((c : Int) < 0) = false := decide_eq_false (by omega)
    have cl : c < G.length := by omega
    have ew : IntKind.i64.wrap (nth G c + 1) = nth G c + 1 := w64 (by omega) (by omega)
    obtain ⟨iA, iB⟩ := ih (e + 1) (by omega)
    refine ⟨fun hA => ?_, fun e0 h0 hp hB => ?_⟩
    · by_cases hs : 0 < sqE n W e
      · have ds : decide (0 < sqE n W e) = true := decide_eq_true hs
        obtain ⟨r, g1, g2⟩ := iB e (by omega) hs (fun e' h' hp' => by
          by_cases q : e' = e
          · rw [q]; exact Int.le_refl _
          · have := hA e' (by omega); omega)
        refine ⟨r, A3_ (T := fun s => (Ax_ n n W 2 s).run) ?_ g1, g2⟩
        simp only [Ax_, Tree.run, ki, Int.toNat_natCast, hl2, ds, Bd_, el, h6, cm, Aq_, cl, decide_true, ew, hset, Option.bind_some, if_true, Bool.false_eq_true, if_false]
      · have ds : decide (0 < sqE n W e) = false := decide_eq_false hs
        obtain ⟨r, g1, g2⟩ := iA (fun e' h' => by
          by_cases q : e' = e
          · rw [q]; omega
          · exact hA e' (by omega))
        refine ⟨r, A3_ (T := fun s => (Ax_ n n W 2 s).run) ?_ g1, g2⟩
        simp only [Ax_, Tree.run, ki, Int.toNat_natCast, hl2, ds, Bd_, el, h61, cm, Aq_, cl, decide_true, ew, hset, Option.bind_some, if_true, Bool.false_eq_true, if_false]
    · by_cases hs : 0 < sqE n W e
      · have ds : decide (0 < sqE n W e) = true := decide_eq_true hs
        by_cases hlt : sqE n W e < sqE n W e0
        · have dl : decide (sqE n W e < sqE n W e0) = true := decide_eq_true hlt
          obtain ⟨r, g1, g2⟩ := iB e (by omega) hs (fun e' h' hp' => by
            by_cases q : e' = e
            · rw [q]; exact Int.le_refl _
            · have := hB e' (by omega) hp'; omega)
          refine ⟨r, A3_ (T := fun s => (Ax_ n n W 2 s).run) ?_ g1, g2⟩
          simp only [Ax_, Tree.run, ki, Int.toNat_natCast, hl21, ds, dl, Bd_, el, h6, cm, Aq_, cl, decide_true, ew, hset, Option.bind_some, if_true, Bool.false_eq_true, if_false]
        · have dl : decide (sqE n W e < sqE n W e0) = false := decide_eq_false hlt
          obtain ⟨r, g1, g2⟩ := iB e0 h0 hp (fun e' h' hp' => by
            by_cases q : e' = e
            · rw [q]; omega
            · exact hB e' (by omega) hp')
          refine ⟨r, A3_ (T := fun s => (Ax_ n n W 2 s).run) ?_ g1, g2⟩
          simp only [Ax_, Tree.run, ki, Int.toNat_natCast, hl21, ds, dl, Bd_, el, h6, cm, Aq_, cl, decide_true, ew, hset, Option.bind_some, if_true, Bool.false_eq_true, if_false]
      · have ds : decide (0 < sqE n W e) = false := decide_eq_false hs
        obtain ⟨r, g1, g2⟩ := iB e0 h0 hp (fun e' h' hp' => by
          by_cases q : e' = e
          · rw [q] at hp'; omega
          · exact hB e' (by omega) hp')
        refine ⟨r, A3_ (T := fun s => (Ax_ n n W 2 s).run) ?_ g1, g2⟩
        simp only [Ax_, Tree.run, ki, Int.toNat_natCast, hl21, ds, Bd_, el, h6, cm, Aq_, cl, decide_true, ew, hset, Option.bind_some, if_true, Bool.false_eq_true, if_false]
def uE (n i : Nat) : Nat := (5 ^ n - 1) / 2 + 5 ^ (n - 1 - i)
def unitL (n i : Nat) : List Int := (List.range n).map fun j => if j = i then 1 else 0
theorem Po_ {n i : Nat} (n1 : 1 ≤ n) (n3 : n ≤ 3) (hi : i < n) : uE n i < 5 ^ n ∧ fsE n (uE n i) = unitL n i := by
  have cs : (n = 1 ∧ i = 0) ∨ (n = 2 ∧ i = 0) ∨ (n = 2 ∧ i = 1) ∨ (n = 3 ∧ i = 0) ∨ (n = 3 ∧ i = 1) ∨ (n = 3 ∧ i = 2) := by omega
  rcases cs with ⟨rfl, rfl⟩ | ⟨rfl, rfl⟩ | ⟨rfl, rfl⟩ | ⟨rfl, rfl⟩ | ⟨rfl, rfl⟩ | ⟨rfl, rfl⟩ <;> exact ⟨by decide, by decide⟩
theorem Yq_ {f : Nat → Int} {j : Nat} : ∀ n, j < n → (∀ l, l < n → l ≠ j → f l = 0) → smZ n f = f j
  | 0, h, _ => by omega
  | n + 1, h, g => by
    simp only [smZ]
    by_cases e : j = n
    · subst e
      have : ∀ m, m ≤ j → smZ m f = 0 := fun m => by
        induction m with
        | zero => intro _; rfl
        | succ m ih => intro hm; simp only [smZ]; rw [ih (by omega), g m (by omega) (by omega)]; rfl
      rw [this j (Nat.le_refl _)]; omega
    · rw [Yq_ n (by omega) fun l hl => g l (by omega), g n (by omega) (by omega)]; omega
theorem So_ {n i : Nat} (n1 : 1 ≤ n) (n3 : n ≤ 3) (hi : i < n) (W : List Int) : sqE n W (uE n i) = smZ n fun k => nth W (i * n + k) * nth W (i * n + k) := by
  obtain ⟨_, hu⟩ := Po_ n1 n3 hi
  refine Qi_ n fun k hk => ?_
  have : vcE n W (uE n i) k = nth W (i * n + k) := by
    unfold vcE
    rw [hu, Yq_ n hi]
    · show nth (unitL n i) i * _ = _
      unfold unitL; rw [A8_ _ _ _ hi, if_pos rfl]; omega
    · intro l hl e
      show nth (unitL n i) l * _ = 0
      unfold unitL; rw [A8_ _ _ _ hl, if_neg e]; simp
  rw [this]
theorem Oa_ {f : Nat → Int} : ∀ n, 0 ≤ smZ n (fun k => f k * f k) ∧ ((∃ k, k < n ∧ f k ≠ 0) → 0 < smZ n fun k => f k * f k)
  | 0 => ⟨Int.le_refl _, fun ⟨k, hk, _⟩ => by omega⟩
  | n + 1 => by
    obtain ⟨h1, h2⟩ := Oa_ (f := f) n
    have h3 : 0 ≤ f n * f n := by rw [← Int.natAbs_mul_self' (f n)]; exact Int.mul_nonneg (by omega) (by omega)
    refine ⟨by simp only [smZ]; omega, fun ⟨k, hk, hz⟩ => ?_⟩
    simp only [smZ]
    by_cases e : k = n
    · subst e
      have : 0 < f k * f k := by
        rw [← Int.natAbs_mul_self' (f k)]
        exact Int.mul_pos (by omega) (by omega)
      omega
    · have := h2 ⟨k, by omega, hz⟩
      omega
theorem V1_ {n i : Nat} (n1 : 1 ≤ n) (n3 : n ≤ 3) (hi : i < n) {W : List Int} (hd : dtI n (wf n W) ≠ 0) : ∃ k, k < n ∧ nth W (i * n + k) ≠ 0 := by
  rcases Classical.em (∃ k, k < n ∧ nth W (i * n + k) ≠ 0) with h | h
  · exact h
  · exfalso
    apply hd
    have hz : ∀ k, k < n → wf n W i k = 0 := fun k hk => by
      rcases Classical.em (nth W (i * n + k) = 0) with g | g
      · exact g
      · exact absurd ⟨k, hk, g⟩ h
    have cs : (n = 1 ∧ i = 0) ∨ (n = 2 ∧ i = 0) ∨ (n = 2 ∧ i = 1) ∨ (n = 3 ∧ i = 0) ∨ (n = 3 ∧ i = 1) ∨ (n = 3 ∧ i = 2) := by omega
    rcases cs with ⟨rfl, rfl⟩ | ⟨rfl, rfl⟩ | ⟨rfl, rfl⟩ | ⟨rfl, rfl⟩ | ⟨rfl, rfl⟩ | ⟨rfl, rfl⟩
    · simp only [dtI]; exact hz 0 (by omega)
    · simp only [dtI]; rw [hz 0 (by omega), hz 1 (by omega)]; grind
    · simp only [dtI]; rw [hz 0 (by omega), hz 1 (by omega)]; grind
    · simp only [dtI]; rw [hz 0 (by omega), hz 1 (by omega), hz 2 (by omega)]; grind
    · simp only [dtI]; rw [hz 0 (by omega), hz 1 (by omega), hz 2 (by omega)]; grind
    · simp only [dtI]; rw [hz 0 (by omega), hz 1 (by omega), hz 2 (by omega)]; grind
theorem Aow_ {n : Nat} (n1 : 1 ≤ n) (n3 : n ≤ 3) {W : List Int} (hW : W.length = n * n) (hb : bndB 100 W = true) (hd : dtI n (wf n W) ≠ 0) :
    ∃ (L : Int) (V : List Int), Ew_ n n W 2 = some (.inr (L, V)) ∧ V.length = n ∧ L = smZ n (fun k => nth V k * nth V k) ∧ (∀ k, k < n → (nth V k).natAbs ≤ 600) ∧ 1 ≤ L ∧ ∀ i, i < n → L ≤ smZ n fun k => nth W (i * n + k) * nth W (i * n + k) := by
  have hnn : n * n ≤ 3 * 3 := Nat.mul_le_mul n3 n3
  have hlow : Cf_ n n W = some true := by
    simp only [Cf_, Jm_, Tree.run, whI 100 n n W (by unfold maxN; omega) (by omega) (by omega), Option.bind_some]
    rw [Mh_ n1 (by omega) n1 (by omega) hW, hb]
  have h5 : 0 < 5 ^ n := Nat.pow_pos (by decide)
  obtain ⟨r, g1, g2⟩ := (Aco_ n1 n3 hW hb (5 ^ n - 1) 0 (by omega)).1 (fun e' h => by omega)
  rcases g2 with ⟨e0, h0, rfl, hp, hmin⟩ | ⟨_, hz⟩
  · refine ⟨sqE n W e0, vlE n W e0, ?_, by simp [vlE], ?_, fun k hk => ?_, by omega, fun i hi => ?_⟩
    · have c4 : decide ((4 : Int) < ((n : Nat) : Int)) = false := decide_eq_false (by omega)
      have c2 : Bn_ (2 : Int) (1 : Int) (3 : Int) = true := by rw [inR]; decide
      have hr := Zf_ n1 n3
      simp only [Ew_, Pm_, Tree.run, hlow, c4, c2, hr, g1, Option.bind_some, Bool.not_true, Bool.false_eq_true, if_false, if_true]
    · refine Qi_ n fun k hk => ?_
      unfold vlE; rw [A8_ _ _ _ hk]
    · unfold vlE; rw [A8_ _ _ _ hk]
      exact Jv_ n3 hW hb e0 hk n (Nat.le_refl _)
    · obtain ⟨u1, _⟩ := Po_ n1 n3 hi
      have hpos := (Oa_ (f := fun k => nth W (i * n + k)) n).2 (V1_ n1 n3 hi hd)
      have := hmin (uE n i) u1 (by rw [So_ n1 n3 hi]; exact hpos)
      rw [So_ n1 n3 hi] at this
      exact this
  · exfalso
    obtain ⟨u1, _⟩ := Po_ n1 n3 (show 0 < n by omega)
    have hpos := (Oa_ (f := fun k => nth W (0 * n + k)) n).2 (V1_ n1 n3 (show 0 < n by omega) hd)
    have := hz (uE n 0) u1
    rw [So_ n1 n3 (show 0 < n by omega)] at this
    omega
def PD (n : Nat) (D : Int) (w : Nat → Nat → Int) : Prop := dtI n w = D ∨ dtI n w = -D
theorem Afo_ {n : Nat} (n3 : n ≤ 3) (D : Int) : Kept n n (PD n D) := by
  refine ⟨fun w w' h hp => ?_, fun w k j q hj hk hp => ?_, fun w a ha hp => ?_⟩
  · unfold PD at hp ⊢; rw [← Aq1_ h]; exact hp
  · unfold PD at hp ⊢; rw [Afu_ n3 w q hj hk]; exact hp
  · have e : xcI w a = xcI' w a := rfl
    unfold PD at hp ⊢
    rw [e, Ap5_ n3 w ha]
    rcases hp with h | h
    · exact .inr (by rw [h])
    · exact .inl (by rw [h]; omega)
theorem PD.nz {n : Nat} {D : Int} (hD : D ≠ 0) : ∀ w, PD n D w → dtI n w ≠ 0 := fun w h => by
  rcases h with h | h
  · rw [h]; exact hD
  · rw [h]; omega
theorem Aau_ {n : Nat} {W : List Int} (hW : W.length = n * n) (h : ∀ i, i < n → dt n (wq (wf n W) i) (wq (wf n W) i) ≤ 2 * 748) : bndB 100 W = true := by
  rw [E8_]
  intro p hp
  rw [hW] at hp
  obtain ⟨p1, p2, p3⟩ := rc_of hp
  have hN : Nb n (wq (wf n W) (p / n)) 39 := ⟨by grind, by have := h _ p1; grind⟩
  obtain ⟨c1, c2⟩ := hN.comp p2
  have e : wq (wf n W) (p / n) (p % n) = ((nth W p : Int) : Rat) := by
    show ((nth W (p / n * n + p % n) : Int) : Rat) = _; rw [p3]
  rw [e] at c1 c2
  have a1 : ((nth W p : Int) : Rat) ≤ ((39 : Int) : Rat) := by
    have : ((39 : Int) : Rat) = 39 := rfl
    rw [this]; exact c1
  have a2 : ((-39 : Int) : Rat) ≤ ((nth W p : Int) : Rat) := by
    have : ((-39 : Int) : Rat) = -39 := rfl
    rw [this]; grind
  have := Rat.intCast_le_intCast.1 a1
  have := Rat.intCast_le_intCast.1 a2
  omega
theorem Aaj_ {W : List Int} (h : bndB 100 W = true) : bndB 1000000 W = true := by
  rw [E8_] at h ⊢
  intro p hp
  have := h p hp
  omega
theorem Ak7_ {n m : Nat} {M : Rat} {W : List Int} (h : ∀ i, i < n → dt m (wq (wf m W) i) (wq (wf m W) i) ≤ M) : ∃ r mu, RInv n m 1 M (wf m W) r mu := by
  obtain ⟨r, mu, hd⟩ := Vg_ m (wq (wf m W)) n
  refine ⟨r, mu, hd, fun i hi => ?_, fun i hi j hj => by omega, fun i hi => by omega⟩
  have hn := hd.norm hi
  have : 0 ≤ sm i (fun j => mu i j * mu i j * dt m (r j) (r j)) := Nh_ i fun j hj => Rat.mul_nonneg (sq_nn _) (dt_nn _ _)
  have := h i hi
  grind
theorem srI {n : Nat} (n1 : 1 ≤ n) (n3 : n ≤ 3) {W0 : List Int} (hW : W0.length = n * n) (hb : bndB 100 W0 = true) (hN : ∀ i, i < n → dt n (wq (wf n W0) i) (wq (wf n W0) i) ≤ 748) (hD : dtI n (wf n W0) ≠ 0) :
    (∃ (t : Nat) (W : List Int), B7_ n n W0 1000 = some (.inr ((n : Int), (n : Int), (t : Int), W)) ∧ t ≤ 1000 ∧ W.length = n * n ∧ bndB 100 W = true ∧ PD n (dtI n (wf n W0)) (wf n W)) ∧ B7_ n n W0 0 = some (.inr ((n : Int), (n : Int), 0, W0)) := by
  have hnn : n * n ≤ 3 * 3 := Nat.mul_le_mul n3 n3
  have lI : Cf_ n n W0 = some true := by
    simp only [Cf_, Jm_, Tree.run, whI 100 n n W0 (by unfold maxN; omega) (by omega) (by omega), Option.bind_some]
    rw [Mh_ n1 (by omega) n1 (by omega) hW, hb]
  have em : imin (4 : Int) (n : Int) = (n : Int) := by
    unfold imin; rw [if_pos (by omega)]
  have d1 : decide (imin (4 : Int) (n : Int) < (n : Int)) = false := decide_eq_false (by rw [em]; omega)
  have cl : Be_ W0 = some () := by
    have q1 : decide (0 < W0.length) = true := decide_eq_true (by rw [hW]; exact Nat.mul_pos n1 n1)
    have q2 : fits W0.length = true := fitsN (by omega)
    simp only [Be_, Ep_, Tree.run, List.nil_append, q1, q2, if_true]
  have val : ∀ W : List Int, W.length = n * n → bndB 100 W = true → Iv_ n n W = some true := fun W hl h => by
    rw [vwI n n W (by rw [hl]; unfold maxN; omega), Mh_ n1 (by omega) n1 (by omega) hl, Aaj_ h]
  constructor
  · have rI : Bn_ (1000 : Int) (0 : Int) (1000 : Int) = true := by rw [inR]; decide
    obtain ⟨r, mu, hI⟩ := Ak7_ hN
    rcases mainB (Afo_ n3 (dtI n (wf n W0))) n1 (by omega) n1 (by omega) (M := 748) (by grind) W0 0 0 (steps := 1000) (by omega) 1000 0 1 W0 r mu (by omega) (by omega) hW hI (.inl rfl) (fun i hi => by have := hN i hi; grind) with ⟨hF, _⟩ | ⟨t, W, t1, t2, t3, t4, g1⟩
    · exact absurd hF (fun h => Aak_ n3 (PD.nz hD) h)
    · have hs := Aau_ t2 t4
      refine ⟨t, W, ?_, t1, t2, hs, t3⟩
      have g1' : Jc_ n n W0 1000 ((1 : Int), (0 : Int), W0) = some (.inr ((t : Int), W)) := g1
      simp only [B7_, Mj_, Tree.run, lI, d1, rI, cl, List.nil_append, g1', val W t2 hs, Option.bind_some, Bool.not_true, Bool.false_eq_true, if_false, if_true]
  · have rI : Bn_ (0 : Int) (0 : Int) (1000 : Int) = true := by rw [inR]; decide
    have c0 : decide ((0 : Int) < 0) = false := by decide
    have g1 : Jc_ n n W0 0 ((1 : Int), (0 : Int), W0) = some (.inr ((0 : Int), W0)) := A9_ (T := fun s => (A4_ n n W0 0 s).run) (by simp only [A4_, Tree.run, c0, Bool.false_eq_true, if_false])
    simp only [B7_, Mj_, Tree.run, lI, d1, rI, cl, List.nil_append, g1, val W0 hW hb, Option.bind_some, Bool.not_true, Bool.false_eq_true, if_false, if_true]
def dgL (n : Nat) (ys : List Int) (i : Nat) : List Int := rc n n fun a b => nth ys (a * n + b) + if a = b ∧ a < i then 20 else 0
theorem Ei_ (n : Nat) (ys : List Int) (i : Nat) : (dgL n ys i).length = n * n := Lf_ _ _ _
theorem Ao6_ {n : Nat} (n3 : n ≤ 3) {ys : List Int} (hl : ys.length = n * n) (hy : ∀ p, p < n * n → -6 ≤ nth ys p ∧ nth ys p ≤ 6) (x y : Int) : Lj_ n x y ((0 : Int), ys) = some (dgL n ys n) := by
  have := Bv_ (T := fun s => (Hj_ n x y s).run) (n := n) (r := dgL n ys n) (fun i => (((i : Nat) : Int), dgL n ys i)) (fun i hi => by
    have hp := rc_lt hi hi
    have hat : IntKind.i64.wrap ((IntKind.i64.wrap ((i : Int) * (n : Int))) + (i : Int)) = ((i * n + i : Nat) : Int) := atw hi hi (by omega) (by omega)
    have hv : nth (dgL n ys i) (i * n + i) = nth ys (i * n + i) := by
      unfold dgL; rw [Gq_ _ hi hi, if_neg (by omega)]; omega
    obtain ⟨h1, h2⟩ := hy _ hp
    have hw : IntKind.i64.wrap (nth ys (i * n + i) + 20) = nth ys (i * n + i) + 20 := w64 (by omega) (by omega)
    have hset : (dgL n ys i).set (i * n + i) (nth ys (i * n + i) + 20) = dgL n ys (i + 1) := by
      refine Ng_ (by rw [List.length_set, Ei_]) fun a b ha hb => ?_
      rw [setG (by rw [Ei_]; exact hp)]
      by_cases e : i * n + i = a * n + b
      · obtain ⟨e1, e2⟩ := rcinj hi hb e
        subst e1; subst e2
        rw [if_pos rfl, if_pos ⟨rfl, by omega⟩]
      · rw [if_neg e]
        unfold dgL; rw [Gq_ _ ha hb]
        by_cases q : a = b ∧ a < i
        · rw [if_pos q, if_pos ⟨q.1, by omega⟩]
        · rw [if_neg q, if_neg (fun h => by
            obtain ⟨q1, q2⟩ := h
            have : a = i := by
              rcases Nat.lt_or_ge a i with g | g
              · exact absurd ⟨q1, g⟩ q
              · omega
            subst this; subst q1; exact e rfl)]
    simp only [Hj_, Tree.run, Ar_, hi, decide_true, if_true, hat, Aq_, Ei_, hp, Int.toNat_natCast, hv, hw, hset, A7_ (show i < 4611686018427387904 by omega)])
    (by simp only [Hj_, Tree.run, Ar_, Nat.lt_irrefl, decide_false, Bool.false_eq_true, if_false])
  have e0 : dgL n ys 0 = ys := by
    refine (Ng_ hl fun a b ha hb => ?_).symm
    rw [if_neg (by omega)]; omega
  rw [e0] at this
  exact this
theorem dg_at {n : Nat} {ys : List Int} {a b : Nat} (ha : a < n) (hb : b < n) : wf n (dgL n ys n) a b = nth ys (a * n + b) + if a = b then 20 else 0 := by
  show nth (dgL n ys n) (a * n + b) = _
  unfold dgL; rw [Gq_ _ ha hb]
  by_cases e : a = b
  · rw [if_pos ⟨e, ha⟩, if_pos e]
  · rw [if_neg (fun h => e h.1), if_neg e]
theorem Cy_ {a b A B : Int} (h1 : -A ≤ a) (h2 : a ≤ A) (g1 : -B ≤ b) (g2 : b ≤ B) (hA : 0 ≤ A) : a * b ≤ A * B ∧ -(A * B) ≤ a * b := by
  have hab : (a * b).natAbs ≤ A.natAbs * B.natAbs := by rw [Int.natAbs_mul]; exact Nat.mul_le_mul (by omega) (by omega)
  have e : A * B = ((A.natAbs * B.natAbs : Nat) : Int) := by
    rw [Int.natCast_mul]
    have e1 : ((A.natAbs : Nat) : Int) = A := by omega
    have e2 : ((B.natAbs : Nat) : Int) = B := by omega
    rw [e1, e2]
  rw [e]; omega
theorem dom3 {a b c d e f g h i : Int} (ha : 14 ≤ a) (he : 14 ≤ e) (hi : 14 ≤ i) (hb : -6 ≤ b ∧ b ≤ 6) (hc : -6 ≤ c ∧ c ≤ 6) (hd : -6 ≤ d ∧ d ≤ 6) (hf : -6 ≤ f ∧ f ≤ 6) (hg : -6 ≤ g ∧ g ≤ 6) (hh : -6 ≤ h ∧ h ≤ 6) : 1 ≤ a * (e * i - f * h) - b * (d * i - f * g) + c * (d * h - e * g) := by
  obtain ⟨q1, _⟩ := Cy_ hf.1 hf.2 hh.1 hh.2 (by omega)
  obtain ⟨q2, _⟩ := Cy_ hb.1 hb.2 hd.1 hd.2 (by omega)
  obtain ⟨q3, _⟩ := Cy_ hc.1 hc.2 hg.1 hg.2 (by omega)
  obtain ⟨p1, p2⟩ := Cy_ hb.1 hb.2 hf.1 hf.2 (by omega)
  obtain ⟨r1, r2⟩ := Cy_ hc.1 hc.2 hd.1 hd.2 (by omega)
  obtain ⟨_, p3⟩ := Cy_ (a := b * f) (b := g) (A := 36) (B := 6) (by omega) (by omega) hg.1 hg.2 (by omega)
  obtain ⟨_, r3⟩ := Cy_ (a := c * d) (b := h) (A := 36) (B := 6) (by omega) (by omega) hh.1 hh.2 (by omega)
  have t1 := Int.mul_le_mul_of_nonneg_left q1 (show 0 ≤ a by omega)
  have t2 := Int.mul_le_mul_of_nonneg_left q2 (show 0 ≤ i by omega)
  have t3 := Int.mul_le_mul_of_nonneg_left q3 (show 0 ≤ e by omega)
  have ei : 14 * 14 ≤ e * i := Int.mul_le_mul he hi (by omega) (by omega)
  have ai : 14 * 14 ≤ a * i := Int.mul_le_mul ha hi (by omega) (by omega)
  have ae : 14 * 14 ≤ a * e := Int.mul_le_mul ha he (by omega) (by omega)
  have s1 := Int.mul_le_mul_of_nonneg_left ei (show 0 ≤ a by omega)
  have s2 := Int.mul_le_mul_of_nonneg_left ai (show 0 ≤ e by omega)
  have s3 := Int.mul_le_mul_of_nonneg_left ae (show 0 ≤ i by omega)
  have e2 : e * (a * i) = a * (e * i) := by grind
  have e3 : i * (a * e) = a * (e * i) := by grind
  rw [e2] at s2
  rw [e3] at s3
  have x1 : a * (e * i - f * h) - b * (d * i - f * g) + c * (d * h - e * g) = a * (e * i) - a * (f * h) - i * (b * d) + b * f * g + c * d * h - e * (c * g) := by grind
  rw [x1]
  omega
theorem Aam_ {n : Nat} (n1 : 1 ≤ n) (n3 : n ≤ 3) {ys : List Int} (hy : ∀ p, p < n * n → -6 ≤ nth ys p ∧ nth ys p ≤ 6) : dtI n (wf n (dgL n ys n)) ≠ 0 := by
  have hat := fun a b (ha : a < n) (hb : b < n) => dg_at (ys := ys) ha hb
  have hv := fun a b (ha : a < n) (hb : b < n) => hy (a * n + b) (rc_lt ha hb)
  have cs : n = 1 ∨ n = 2 ∨ n = 3 := by omega
  rcases cs with rfl | rfl | rfl
  · have h := hat 0 0 (by omega) (by omega)
    have v := hv 0 0 (by omega) (by omega)
    simp only [dtI]
    rw [h, if_pos rfl]; omega
  · have v00 := hv 0 0 (by omega) (by omega)
    have v01 := hv 0 1 (by omega) (by omega)
    have v10 := hv 1 0 (by omega) (by omega)
    have v11 := hv 1 1 (by omega) (by omega)
    simp only [dtI]
    rw [hat 0 0 (by omega) (by omega), hat 0 1 (by omega) (by omega), hat 1 0 (by omega) (by omega), hat 1 1 (by omega) (by omega), if_pos rfl, if_pos rfl, if_neg (by omega), if_neg (by omega), Int.add_zero, Int.add_zero]
    obtain ⟨q, _⟩ := Cy_ v01.1 v01.2 v10.1 v10.2 (by omega)
    have p : 14 * 14 ≤ (nth ys (0 * 2 + 0) + 20) * (nth ys (1 * 2 + 1) + 20) := Int.mul_le_mul (by omega) (by omega) (by omega) (by omega)
    omega
  · have v := hv
    simp only [dtI]
    rw [hat 0 0 (by omega) (by omega), hat 0 1 (by omega) (by omega), hat 0 2 (by omega) (by omega), hat 1 0 (by omega) (by omega), hat 1 1 (by omega) (by omega), hat 1 2 (by omega) (by omega), hat 2 0 (by omega) (by omega), hat 2 1 (by omega) (by omega), hat 2 2 (by omega) (by omega)]
    have d := dom3 (a := nth ys (0 * 3 + 0) + 20) (e := nth ys (1 * 3 + 1) + 20) (i := nth ys (2 * 3 + 2) + 20) (by have := v 0 0 (by omega) (by omega); omega) (by have := v 1 1 (by omega) (by omega); omega) (by have := v 2 2 (by omega) (by omega); omega) (v 0 1 (by omega) (by omega)) (v 0 2 (by omega) (by omega)) (v 1 0 (by omega) (by omega)) (v 1 2 (by omega) (by omega)) (v 2 0 (by omega) (by omega)) (v 2 1 (by omega) (by omega))
    simp only [if_true, show ¬ ((0 : Nat) = 1) by omega, show ¬ ((0 : Nat) = 2) by omega, show ¬ ((1 : Nat) = 0) by omega, show ¬ ((1 : Nat) = 2) by omega, show ¬ ((2 : Nat) = 0) by omega, show ¬ ((2 : Nat) = 1) by omega, if_false, Int.add_zero]
    omega
theorem Agd_ {n : Nat} (n1 : 1 ≤ n) (n3 : n ≤ 3) {ys : List Int} (hy : ∀ p, p < n * n → -6 ≤ nth ys p ∧ nth ys p ≤ 6) : ∀ i, i < n → dt n (wq (wf n (dgL n ys n)) i) (wq (wf n (dgL n ys n)) i) ≤ 748 := fun i hi => by
  have h : ∀ t, t < n → wq (wf n (dgL n ys n)) i t * wq (wf n (dgL n ys n)) i t ≤ if t = i then 676 else 36 := fun t ht => by
    have e : wq (wf n (dgL n ys n)) i t = ((wf n (dgL n ys n) i t : Int) : Rat) := rfl
    rw [e, ← Rat.intCast_mul, dg_at hi ht]
    obtain ⟨v1, v2⟩ := hy (i * n + t) (rc_lt hi ht)
    by_cases q : t = i
    · rw [if_pos q, if_pos q.symm]
      have : (nth ys (i * n + t) + 20) * (nth ys (i * n + t) + 20) ≤ 26 * 26 := Int.mul_le_mul (by omega) (by omega) (by omega) (by omega)
      exact Rat.intCast_le_intCast.2 (show _ ≤ (676 : Int) by omega)
    · rw [if_neg q, if_neg (fun h => q h.symm), Int.add_zero]
      obtain ⟨m, _⟩ := Cy_ v1 v2 v1 v2 (by omega)
      exact Rat.intCast_le_intCast.2 (show _ ≤ (36 : Int) by omega)
  refine Rat.le_trans (sm_le n h) ?_
  have cs : (n = 1 ∧ i = 0) ∨ (n = 2 ∧ i = 0) ∨ (n = 2 ∧ i = 1) ∨ (n = 3 ∧ i = 0) ∨ (n = 3 ∧ i = 1) ∨ (n = 3 ∧ i = 2) := by omega
  rcases cs with ⟨rfl, rfl⟩ | ⟨rfl, rfl⟩ | ⟨rfl, rfl⟩ | ⟨rfl, rfl⟩ | ⟨rfl, rfl⟩ | ⟨rfl, rfl⟩ <;> simp [sm] <;> grind
theorem Anr_ {n : Nat} {ys : List Int} (hy : ∀ p, p < n * n → -6 ≤ nth ys p ∧ nth ys p ≤ 6) : bndB 100 (dgL n ys n) = true := by
  rw [E8_]
  intro p hp
  rw [Ei_] at hp
  obtain ⟨p1, p2, p3⟩ := rc_of hp
  have h := dg_at (ys := ys) p1 p2
  have e : wf n (dgL n ys n) (p / n) (p % n) = nth (dgL n ys n) p := by show nth (dgL n ys n) (p / n * n + p % n) = _; rw [p3]
  rw [e] at h
  have v := hy (p / n * n + p % n) (rc_lt p1 p2)
  rw [h]
  split <;> omega
theorem l2_ok {n : Nat} {W : List Int} (hl : W.length ≤ 9) (hb : bndB 100 W = true) (a b c d e f : Int) (g : List Int) : Nq_ a b c d e f g W (true, (0 : Int)) = some true :=
  Bv_ (T := fun s => (Jf_ a b c d e f g W s).run) (n := W.length) (r := true) (fun i => (true, ((i : Nat) : Int))) (fun i hi => by
    obtain ⟨h1, h2⟩ := E8_.1 hb i hi
    have d1 : decide ((-100 : Int) ≤ nth W i) = true := decide_eq_true h1
    have d2 : decide (nth W i ≤ (100 : Int)) = true := decide_eq_true h2
    simp only [Jf_, Tree.run, Ar_, hi, decide_true, if_true, Aq_, Int.toNat_natCast, d1, d2, A7_ (show i < 4611686018427387904 by omega)])
    (by simp only [Jf_, Tree.run, Ar_, Nat.lt_irrefl, decide_false, Bool.false_eq_true, if_false])
theorem sq_b {f : Nat → Int} {n : Nat} (n3 : n ≤ 3) (h : ∀ k, k < n → (f k).natAbs ≤ 600) : ∀ k, k ≤ n → (smZ k fun k => f k * f k).natAbs ≤ 1080000 ∧ ∀ j, j < n → (f j * f j).natAbs ≤ 360000 := fun k hk => by
  have q : ∀ j, j < n → (f j * f j).natAbs ≤ 360000 := fun j hj => by rw [Int.natAbs_mul]; exact Nat.mul_le_mul (h j hj) (h j hj)
  have := Ku_ (f := fun k => f k * f k) (B := 360000) k fun j hj => q j (by omega)
  exact ⟨by omega, q⟩
theorem l4_ok {n : Nat} (n3 : n ≤ 3) {V : List Int} (hl : V.length = n) (hb : ∀ k, k < n → (nth V k).natAbs ≤ 600) (a b c : Int) (d : List Int) : J5_ (n : Int) a b c V d ((0 : Int), (0 : Int)) = some (smZ n fun k => nth V k * nth V k) :=
  Bv_ (T := fun s => (Fg_ (n : Int) a b c V d s).run) (n := n) (r := smZ n fun k => nth V k * nth V k) (fun k => (smZ k (fun k => nth V k * nth V k), ((k : Nat) : Int))) (fun k hk => by
    obtain ⟨s1, s2⟩ := sq_b n3 hb k (by omega)
    have s3 := s2 k hk
    have ew : IntKind.i64.wrap ((smZ k fun k => nth V k * nth V k) + (IntKind.i64.wrap (nth V k * nth V k))) = smZ (k + 1) fun k => nth V k * nth V k := by
      rw [w64 (n := nth V k * nth V k) (by omega) (by omega), w64 (by omega) (by omega)]; rfl
    simp only [Fg_, Tree.run, Ar_, hk, decide_true, if_true, Aq_, hl, Int.toNat_natCast, ew, A7_ (show k < 4611686018427387904 by omega)])
    (by simp only [Fg_, Tree.run, Ar_, Nat.lt_irrefl, decide_false, Bool.false_eq_true, if_false])
theorem l6_ok {n : Nat} (n3 : n ≤ 3) {W : List Int} (hW : W.length = n * n) (hb : bndB 100 W = true) {L : Int} (hL : ∀ i, i < n → L ≤ smZ n fun k => nth W (i * n + k) * nth W (i * n + k)) (v1 v2 : List Int) (a b : Int) : K0_ v1 v2 (n : Int) L a b W (0 : Int) = some (.inr ()) := by
  have row : ∀ i, i < n → Pu_ (n : Int) L (i : Int) a b W ((0 : Int), (0 : Int)) = some (smZ n fun k => nth W (i * n + k) * nth W (i * n + k)) := fun i hi =>
    Bv_ (T := fun s => (I4_ (n : Int) L (i : Int) a b W s).run) (n := n) (r := smZ n fun k => nth W (i * n + k) * nth W (i * n + k)) (fun k => (smZ k (fun k => nth W (i * n + k) * nth W (i * n + k)), ((k : Nat) : Int))) (fun k hk => by
      obtain ⟨s1, s2⟩ := sq_b (f := fun k => nth W (i * n + k)) n3 (fun k hk => by have := lowW hW hb hi hk; omega) k (by omega)
      have s3 := s2 k hk
      have hat : IntKind.i64.wrap ((IntKind.i64.wrap ((i : Int) * (n : Int))) + (k : Int)) = ((i * n + k : Nat) : Int) := atw hi hk (by omega) (by omega)
      have hp : i * n + k < W.length := by rw [hW]; exact rc_lt hi hk
      have ew : IntKind.i64.wrap ((smZ k fun k => nth W (i * n + k) * nth W (i * n + k)) + (IntKind.i64.wrap (nth W (i * n + k) * nth W (i * n + k)))) = smZ (k + 1) fun k => nth W (i * n + k) * nth W (i * n + k) := by
        rw [w64 (n := nth W (i * n + k) * nth W (i * n + k)) (by omega) (by omega), w64 (by omega) (by omega)]; rfl
      simp only [I4_, Tree.run, Ar_, hk, decide_true, if_true, hat, Aq_, hp, Int.toNat_natCast, ew, A7_ (show k < 4611686018427387904 by omega)])
      (by simp only [I4_, Tree.run, Ar_, Nat.lt_irrefl, decide_false, Bool.false_eq_true, if_false])
  exact Bv_ (T := fun s => (E7_ v1 v2 (n : Int) L a b W s).run) (n := n) (r := .inr ()) (fun i => ((i : Nat) : Int)) (fun i hi => by
    have dl : decide ((smZ n fun k => nth W (i * n + k) * nth W (i * n + k)) < L) = false := decide_eq_false (by have := hL i hi; omega)
    simp only [E7_, Tree.run, Ar_, hi, decide_true, if_true, row i hi, dl, Option.bind_some, Bool.false_eq_true, if_false, A7_ (show i < 4611686018427387904 by omega)])
    (by simp only [E7_, Tree.run, Ar_, Nat.lt_irrefl, decide_false, Bool.false_eq_true, if_false])
theorem Agg_ {W : List Int} (hl : W.length ≤ 9) (a b : Int) : Em_ a b W a b W = some true := by
  have : O3_ W W (0 : Int) = some (.inr ()) :=
    Bv_ (T := fun s => (He_ W W s).run) (n := W.length) (r := .inr ()) (fun i => ((i : Nat) : Int)) (fun i hi => by
      simp only [He_, Tree.run, Ar_, hi, decide_true, if_true, Aq_, Int.toNat_natCast, Bool.not_true, Bool.false_eq_true, if_false, A7_ (show i < 4611686018427387904 by omega)])
      (by simp only [He_, Tree.run, Ar_, Nat.lt_irrefl, decide_false, Bool.false_eq_true, if_false])
  simp only [Em_, Q9_, Lq_, O1_, Tree.run, decide_true, Bool.not_true, Bool.false_eq_true, if_false, if_true, this, Option.bind_some]
theorem Zc_ {v1 v2 : List Int} {v n p q t D D' L : Int} {ys W0 W V : List Int} (hb : Dn_ v1 v2 = false) (h1 : Ea_ v2 40 3 = some v) (hn : IntKind.i64.wrap ((1 : Int) + v) = n) (h2 : Im_ v1 n n = some (p, q, ys)) (h3 : Lj_ n p q ((0 : Int), ys) = some W0)
    (h4 : B7_ p q W0 1000 = some (.inr (n, n, t, W))) (h5 : C4_ p q W0 = some (.inr D)) (h6 : decide (t < 0) = false) (h7 : decide ((1000 : Int) < t) = false) (h8 : Nq_ n D p q n n W0 W (true, (0 : Int)) = some true) (h9 : C4_ n n W = some (.inr D'))
    (h10 : Ew_ n n W 2 = some (.inr (L, V))) (h11 : B7_ p q W0 0 = some (.inr (p, q, 0, W0))) (h12 : D' = D ∨ (decide (D' = D) = false ∧ decide (D' = IntKind.i64.wrap (0 - D)) = true)) (h13 : decide (((V.length : Nat) : Int) = n) = true) (h14 : Em_ p q W0 p q W0 = some true)
    (h15 : J5_ n L n n V W ((0 : Int), (0 : Int)) = some L) (h16 : decide (L < 1) = false) (h17 : K0_ v1 v2 n L n n W (0 : Int) = some (.inr ())) : F9_ v1 v2 = some true := by
  rcases h12 with h | ⟨ha, hc⟩
  · subst h
    simp only [F9_, J4_, Tree.run, hb, h1, hn, h2, h3, h4, h5, h6, h7, h8, h9, h10, h11, h13, h14, h15, h16, h17, decide_true, Option.bind_some, Bool.not_true, Bool.not_false, Bool.false_eq_true, if_false, if_true]
  · simp only [F9_, J4_, Tree.run, hb, h1, hn, h2, h3, h4, h5, h6, h7, h8, h9, h10, h11, ha, hc, h13, h14, h15, h16, h17, decide_true, Option.bind_some, Bool.not_true, Bool.not_false, Bool.false_eq_true, if_false, if_true]
theorem Agh_ (v1 : List Int) (v2 : List Int) (h1 : v1.length ≤ maxN) (w1' : ∀ x ∈ v1, 0 ≤ x ∧ x < 256) (h2 : v2.length ≤ maxN) (w2' : ∀ x ∈ v2, 0 ≤ x ∧ x < 256) : F9_ v1 v2 = some true := by
  cases hb : Dn_ v1 v2 with
  | true => simp only [F9_, J4_, Tree.run, hb, if_true]
  | false =>
    have hlen : v1.length ≤ 48 ∧ v2.length ≤ 48 := by
      unfold Dn_ at hb
      split at hb
      · cases hb
      · rename_i q1
        simp only [decide_eq_true_eq] at q1
        simp only [decide_eq_false_iff_not] at hb
        omega
    have b1 : Byt v1 := w1'
    have b2 : Byt v2 := w2'
    obtain ⟨x, x1, x2, x3⟩ := Aku_ b2 (by omega) 40 3 (by omega) (by omega)
    obtain ⟨n, hn, n1, n3⟩ : ∃ n : Nat, IntKind.i64.wrap ((1 : Int) + x) = (n : Int) ∧ 1 ≤ n ∧ n ≤ 3 := ⟨(1 + x).toNat, by rw [w64 (by omega) (by omega)]; omega, by omega, by omega⟩
    have hnn : n * n ≤ 3 * 3 := Nat.mul_le_mul n3 n3
    obtain ⟨ys, y1, y2, y3⟩ := Adt_ b1 (by omega) n n (by omega) (by omega)
    have hy : ∀ p, p < n * n → -6 ≤ nth ys p ∧ nth ys p ≤ 6 := fun p hp => by rw [Ao_ _ _ (by rw [y2]; exact hp)]; exact y3 _ (List.getElem_mem _)
    have g0 := Ao6_ n3 y2 hy n n
    have hD := Aam_ n1 n3 hy
    have hlow := Anr_ hy
    obtain ⟨⟨t, W, s1, s2, s3, s4, s5⟩, s6⟩ := srI n1 n3 (Ei_ n ys n) hlow (Agd_ n1 n3 hy) hD
    obtain ⟨d1, d2⟩ := Ya_ n1 n3 (Ei_ n ys n) hlow
    obtain ⟨d3, d4⟩ := Ya_ n1 n3 s3 s4
    obtain ⟨L, V, m1, m2, m3, m4, m5, m6⟩ := Aow_ n1 n3 s3 s4 (PD.nz hD _ s5)
    have g4 := l4_ok n3 m2 m4 L n n W
    rw [← m3] at g4
    refine Zc_ hb x1 hn y1 g0 s1 d1 (decide_eq_false (by omega)) (decide_eq_false (by omega)) (l2_ok (n := n) (by omega) s4 _ _ _ _ _ _ _) d3 m1 s6 ?_ (decide_eq_true (by rw [m2])) (Agg_ (by rw [Ei_]; omega) _ _) g4 (decide_eq_false (by omega)) (l6_ok n3 s3 s4 m6 v1 v2 n n)
    by_cases e : dtI n (wf n W) = dtI n (wf n (dgL n ys n))
    · exact .inl e
    · refine .inr ⟨decide_eq_false e, decide_eq_true ?_⟩
      rcases s5 with h | h
      · exact absurd h e
      · rw [w64 (by omega) (by omega), h]; omega
theorem W9_ (a b : Nat) (ha : a < 9223372036854775808) (hb : b < 9223372036854775808) (big : maxN < a ∨ maxN < b) : P4_ a b = some true := by
  have : Er_ a b = true := by
    unfold maxN at big
    unfold Er_
    by_cases h : (48 : Int) < ((a : Nat) : Int)
    · rw [if_pos (decide_eq_true h)]
    · rw [if_neg (by simpa using h)]; exact decide_eq_true (by omega)
  simp only [P4_, O7_, Tree.run, this, if_true]
end Go.Proofs.Ytmgpbchacndndaa.AM
