/- Sheets read from bytes. -/
import Derived.Test.YthdmkdkbfhoahaaQStoreSheet
set_option linter.unusedSimpArgs false
set_option linter.unusedVariables false
set_option maxHeartbeats 1000000
namespace Go.Proofs.Ythdmkdkbfhoahaa.AM

theorem or_sh (n b : Int) (h0 : 0 ≤ n) (h1 : n < 4294967296) (h2 : 0 ≤ b) (h3 : b < 256) : ior .i64 (ishl .i64 n 8) b = n * 256 + b := by
  have e : (2 : Int) ^ (min (8 : Int).toNat IntKind.i64.bits) = 256 := by decide
  have e1 : ishl .i64 n 8 = n * 256 := by unfold ishl; rw [e, w64 (by omega) (by omega)]
  rw [e1]
  unfold ior
  obtain ⟨a, rfl⟩ : ∃ a : Nat, n = a := ⟨n.toNat, by omega⟩
  obtain ⟨c, rfl⟩ : ∃ c : Nat, b = c := ⟨b.toNat, by omega⟩
  have t1 : (BitVec.ofInt 64 ((a : Int) * 256)).toNat = 2 ^ 8 * a := by
    rw [BitVec.toNat_ofInt]
    have : ((a : Int) * 256) % ((2 ^ 64 : Nat) : Int) = ((2 ^ 8 * a : Nat) : Int) := by omega
    rw [this]; rfl
  have t2 : (BitVec.ofInt 64 (c : Int)).toNat = c := by
    rw [BitVec.toNat_ofInt]
    have : (c : Int) % ((2 ^ 64 : Nat) : Int) = ((c : Nat) : Int) := by omega
    rw [this]; rfl
  show IntKind.i64.wrap ((BitVec.ofInt 64 ((a : Int) * 256) ||| BitVec.ofInt 64 (c : Int)).toNat : Int) = _
  rw [BitVec.toNat_or, t1, t2, ← Nat.two_pow_add_eq_or_of_lt (show c < 2 ^ 8 by omega), w64 (by omega) (by omega)]
  omega
def num4 (s : ByteArray) (a : Int) : Int := bt s a + 256 * bt s (a + 1) + 65536 * bt s (a + 2) + 16777216 * bt s (a + 3)
theorem num4_bd (s : ByteArray) (a : Int) : 0 ≤ num4 s a ∧ num4 s a < 4294967296 := by
  have h0 := bt_bd s a
  have h1 := bt_bd s (a + 1)
  have h2 := bt_bd s (a + 2)
  have h3 := bt_bd s (a + 3)
  unfold num4; omega
theorem numberI (t : ByteArray) (ht : t.size = 4) : impl_numberOf_g t = some (num4 t 0) := by
  have step : ∀ (n i : Int), 0 ≤ n → n < 4294967296 → 0 ≤ i → i < 4 → (impl_numberOf_l0_T t (n, i)).run = some (.inl (n * 256 + bt t i, i - 1)) := fun n i h0 h1 h2 h3 => by
    have hb := bt_bd t i
    have hin : inb i t.size = true := inb_iff.2 ⟨h2, by rw [ht]; omega⟩
    have w1 : IntKind.i64.wrap (bt t i) = bt t i := w64 (by omega) (by omega)
    have w2 : IntKind.i64.wrap (i - 1) = i - 1 := w64 (by omega) (by omega)
    simp [impl_numberOf_l0_T, Tree.run, h2, hin, w1, w2, or_sh n _ h0 h1 hb.1 hb.2]
  have b0 := bt_bd t 0
  have b1 := bt_bd t 1
  have b2 := bt_bd t 2
  have b3 := bt_bd t 3
  have hl : impl_numberOf_l0_g t (0, 3) = some (num4 t 0) := by
    unfold impl_numberOf_l0_g
    rw [whileM_eq, step 0 3 (by omega) (by omega) (by omega) (by omega)]
    simp only
    rw [whileM_eq, step _ _ (by omega) (by omega) (by omega) (by omega)]
    simp only [Int.zero_mul, Int.zero_add, show (3 : Int) - 1 = 2 from rfl]
    rw [whileM_eq, step _ _ (by omega) (by omega) (by omega) (by omega)]
    simp only [show (2 : Int) - 1 = 1 from rfl]
    rw [whileM_eq, step _ _ (by omega) (by omega) (by omega) (by omega)]
    simp only [show (1 : Int) - 1 = 0 from rfl]
    rw [whileM_eq]
    simp only [impl_numberOf_l0_T, Tree.run, show decide ((0 : Int) ≤ 0 - 1) = false from rfl, Bool.false_eq_true, if_false, Option.some.injEq]
    unfold num4
    simp only [Int.zero_add]
    omega
  have hw : IntKind.i64.wrap (((t.size : Nat) : Int) - 1) = 3 := by rw [ht]; rfl
  simp only [impl_numberOf_g, impl_numberOf_T, Tree.run, hw, if_true, hl, Option.bind_some]
theorem bt_extract (s : ByteArray) (a b i : Nat) (h : a + i < b) (hb : b ≤ s.size) : bt (s.extract a b) (i : Int) = bt s ((a + i : Nat) : Int) := by
  have hs : i < (s.extract a b).size := by rw [ByteArray.size_extract]; omega
  have h2 : a + i < s.size := by omega
  unfold bt
  simp only [Int.toNat_natCast]
  have e1 : (s.extract a b)[i]? = some ((s.extract a b)[i]) := by simp [hs]
  have e2 : s[a + i]? = some (s[a + i]) := by simp [h2]
  rw [e1, e2, ByteArray.getElem_extract]
theorem number_at (s : ByteArray) (a : Int) (h0 : 0 ≤ a) (h1 : a + 4 ≤ (s.size : Int)) : impl_numberOf_g (ByteArray.extract s (Int.toNat a) (Int.toNat (a + 4))) = some (num4 s a) := by
  obtain ⟨n, rfl⟩ : ∃ n : Nat, a = n := ⟨a.toNat, by omega⟩
  have e : Int.toNat ((n : Int) + 4) = n + 4 := by omega
  rw [e, Int.toNat_natCast, numberI _ (by rw [ByteArray.size_extract]; omega)]
  have x := bt_extract s n (n + 4)
  unfold num4
  have x0 := x 0 (by omega) (by omega)
  have x1 := x 1 (by omega) (by omega)
  have x2 := x 2 (by omega) (by omega)
  have x3 := x 3 (by omega) (by omega)
  simp only [Int.zero_add] at *
  rw [show ((0 : Nat) : Int) = 0 from rfl] at x0
  rw [show ((1 : Nat) : Int) = 1 from rfl] at x1
  rw [show ((2 : Nat) : Int) = 2 from rfl] at x2
  rw [show ((3 : Nat) : Int) = 3 from rfl] at x3
  rw [x0, x1, x2, x3]
  rfl
/-- A number of a sheet. -/
def word (s : ByteArray) (a : Int) : Nat := canon .f32 (Int.toNat (num4 s a))
theorem word_lt (s : ByteArray) (a : Int) : word s a < 4294967296 := by
  have := num4_bd s a
  unfold word canon
  split
  · decide
  · omega
def numsAt (s : ByteArray) (a : Int) (m : Nat) : List Nat := (List.range m).map fun (i : Nat) => word s (a + 4 * (i : Int))
theorem numsAt_len (s : ByteArray) (a : Int) (m : Nat) : (numsAt s a m).length = m := by simp [numsAt]
theorem numsAt_lt (s : ByteArray) (a : Int) (m : Nat) : ∀ x ∈ numsAt s a m, x < 4294967296 := by
  intro x hx
  simp only [numsAt, List.mem_map] at hx
  obtain ⟨i, _, rfl⟩ := hx
  exact word_lt _ _
theorem numsAt_succ (s : ByteArray) (a : Int) (m : Nat) : numsAt s a (m + 1) = numsAt s a m ++ [word s (a + 4 * (m : Int))] := by simp [numsAt, List.range_succ]
theorem wbt (s : ByteArray) (i : Int) : IntKind.i64.wrap (bt s i) = bt s i := by
  have := bt_bd s i
  exact w64 (by omega) (by omega)
theorem u32_num (s : ByteArray) (a : Int) : IntKind.u32.wrap (num4 s a) = num4 s a := by
  have := num4_bd s a
  rw [u32w]; omega

/-- How many bytes a sheet has. -/
theorem longS (s : ByteArray) (hs : s.size < 4294967296) : spec_l07Long_g s =
    some (if (s.size : Int) < 5 then 0 else if (s.size : Int) < 7 + bt s 4 then 0 else if (s.size : Int) < 9 + bt s 4 + 4 * (bt s (5 + bt s 4) * bt s (6 + bt s 4)) then 0 else 9 + bt s 4 + 4 * (bt s (5 + bt s 4) * bt s (6 + bt s 4))) := by
  obtain ⟨k, hk⟩ : ∃ k, k = bt s 4 := ⟨_, rfl⟩
  obtain ⟨r, hr⟩ : ∃ r, r = bt s (5 + k) := ⟨_, rfl⟩
  obtain ⟨c, hc⟩ : ∃ c, c = bt s (6 + k) := ⟨_, rfl⟩
  have bk := bt_bd s 4
  have br := bt_bd s (5 + k)
  have bc := bt_bd s (6 + k)
  rw [← hk] at bk
  rw [← hr] at br
  rw [← hc] at bc
  have hrc : r * c ≤ 255 * 255 := Int.mul_le_mul (by omega) (by omega) (by omega) (by omega)
  have hrc0 : 0 ≤ r * c := Int.mul_nonneg (by omega) (by omega)
  have wk : IntKind.i64.wrap k = k := w64 (by omega) (by omega)
  have wr : IntKind.i64.wrap r = r := w64 (by omega) (by omega)
  have wc : IntKind.i64.wrap c = c := w64 (by omega) (by omega)
  have f0 : IntKind.i64.wrap (5 + k) = 5 + k := w64 (by omega) (by omega)
  have f1 : IntKind.i64.wrap (5 + k + 2) = 7 + k := by rw [w64 (by omega) (by omega)]; omega
  have f2 : IntKind.i64.wrap (5 + k + 1) = 6 + k := by rw [w64 (by omega) (by omega)]; omega
  have f3 : IntKind.i64.wrap (5 + k + 4) = 9 + k := by rw [w64 (by omega) (by omega)]; omega
  have f4 : IntKind.i64.wrap (4 * r) = 4 * r := w64 (by omega) (by omega)
  have f5 : IntKind.i64.wrap (4 * r * c) = 4 * (r * c) := by rw [Int.mul_assoc, w64 (by omega) (by omega)]
  have f6 : IntKind.i64.wrap (9 + k + 4 * (r * c)) = 9 + k + 4 * (r * c) := w64 (by omega) (by omega)
  simp only [spec_l07Long_g, spec_l07Long_T, Tree.run, wbt, ← hk, wk, f0, f1, f2, f3, ← hr, ← hc, wr, wc, f4, f5, f6]
  by_cases h5 : (s.size : Int) < 5
  · simp [h5]
  · have i4 : inb 4 s.size = true := inb_iff.2 ⟨by omega, by omega⟩
    simp only [h5, decide_false, Bool.false_eq_true, if_false, i4, if_true]
    by_cases h7 : (s.size : Int) < 7 + k
    · simp [h7]
    · have i5 : inb (5 + k) s.size = true := inb_iff.2 ⟨by omega, by omega⟩
      have i6 : inb (6 + k) s.size = true := inb_iff.2 ⟨by omega, by omega⟩
      simp only [h7, decide_false, Bool.false_eq_true, if_false, i5, i6, if_true]
      by_cases h9 : (s.size : Int) < 9 + k + 4 * (r * c) <;> simp [h9]

theorem loopS (s : ByteArray) (n a : Int) (m : Nat) (hm : m ≤ 65025) (h0 : 0 ≤ a) (hn : n = a + 4 * (m : Int) + 2) (hs : n ≤ (s.size : Int)) (hsz : s.size < 4294967296) :
    spec_l07Load_l0_g s n (a, []) = some (numsAt s a m) := by
  have := whileM_fix (T := fun st => (spec_l07Load_l0_T s n st).run) (fun i => (a + 4 * (i : Int), numsAt s a i)) (n := m) (r := numsAt s a m) (fun i hi => by
    have w0 : ∀ x : Int, 0 ≤ x → x ≤ 4294967296 → IntKind.i64.wrap x = x := fun x h1 h2 => w64 (by omega) (by omega)
    obtain ⟨p, hp⟩ : ∃ p, p = a + 4 * (i : Int) := ⟨_, rfl⟩
    have hlt : p + 4 < n := by omega
    have b0 := bt_bd s p
    have b1 := bt_bd s (p + 1)
    have b2 := bt_bd s (p + 2)
    have b3 := bt_bd s (p + 3)
    have hin : ∀ d : Int, 0 ≤ d → d ≤ 3 → inb (p + d) s.size = true := fun d h1 h2 => inb_iff.2 ⟨by omega, by omega⟩
    have hin0 : inb p s.size = true := inb_iff.2 ⟨by omega, by omega⟩
    have g0 : IntKind.i64.wrap (p + 4) = p + 4 := w0 _ (by omega) (by omega)
    have g1 : IntKind.i64.wrap (p + 1) = p + 1 := w0 _ (by omega) (by omega)
    have g2 : IntKind.i64.wrap (p + 2) = p + 2 := w0 _ (by omega) (by omega)
    have g3 : IntKind.i64.wrap (p + 3) = p + 3 := w0 _ (by omega) (by omega)
    have q1 : IntKind.i64.wrap (256 * bt s (p + 1)) = 256 * bt s (p + 1) := w0 _ (by omega) (by omega)
    have q2 : IntKind.i64.wrap (65536 * bt s (p + 2)) = 65536 * bt s (p + 2) := w0 _ (by omega) (by omega)
    have q3 : IntKind.i64.wrap (16777216 * bt s (p + 3)) = 16777216 * bt s (p + 3) := w0 _ (by omega) (by omega)
    have q4 : IntKind.i64.wrap (bt s p + 256 * bt s (p + 1)) = bt s p + 256 * bt s (p + 1) := w0 _ (by omega) (by omega)
    have q5 : IntKind.i64.wrap (bt s p + 256 * bt s (p + 1) + 65536 * bt s (p + 2)) = bt s p + 256 * bt s (p + 1) + 65536 * bt s (p + 2) := w0 _ (by omega) (by omega)
    have q6 : IntKind.i64.wrap (bt s p + 256 * bt s (p + 1) + 65536 * bt s (p + 2) + 16777216 * bt s (p + 3)) = num4 s p := w0 _ (by omega) (by omega)
    have hw : spec_l01From_v (num4 s p) = word s p := by unfold spec_l01From_v word; rw [u32_num]
    have hf : fits (numsAt s a i ++ [word s p]).length = true := fits_iff.2 (by rw [List.length_append, numsAt_len]; simp [maxN]; omega)
    have hnx : p + 4 = a + 4 * ((i + 1 : Nat) : Int) := by omega
    simp only [spec_l07Load_l0_T, Tree.run, ← hp, g0, g1, g2, g3, hlt, decide_true, if_true, hin0, hin 1 (by omega) (by omega), hin 2 (by omega) (by omega), hin 3 (by omega) (by omega), wbt, q1, q2, q3, q4, q5, q6, hw, hf]
    rw [numsAt_succ, ← hp, hnx]) (by
    have w1 : IntKind.i64.wrap (a + 4 * (m : Int) + 4) = a + 4 * (m : Int) + 4 := w64 (by omega) (by omega)
    have hlt : ¬ (a + 4 * (m : Int) + 4 < n) := by omega
    simp only [spec_l07Load_l0_T, Tree.run, w1, hlt, decide_false, Bool.false_eq_true, if_false])
  simpa [numsAt, spec_l07Load_l0_g] using this
end Go.Proofs.Ythdmkdkbfhoahaa.AM
