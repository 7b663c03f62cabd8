/- L5 ST0 QStoreSheet LS0 QLoadSheet SE0 SE1 SE2 FS0 SE3 SRC SE4 QFnSheets -/
import Derived.Test.YthdmkdkbfhoahaaM0
import Derived.Test.YthdmkdkbfhoahaaD18
import Derived.Test.YthdmkdkbfhoahaaD24
import Derived.Test.YthdmkdkbfhoahaaX1
set_option linter.unusedSimpArgs false
set_option linter.unusedVariables false
set_option maxHeartbeats 4000000
set_option maxRecDepth 4000
namespace Go.Proofs.Ythdmkdkbfhoahaa.AM
open Ieee

def notName (s : ByteArray) : Bool := (List.range s.size).any fun i => decide (bt s i < 97) || decide ((122 : Int) < bt s i)
theorem nameLI (s : ByteArray) (h : s.size < 9223372036854775808) : impl_IsName_l0_g s 0 = some (if notName s = true then .inl () else .inr ()) := by
  have hT : ∀ i, i < s.size → (impl_IsName_l0_T s (i : Int)).run = if (decide (bt s i < 97) || decide ((122 : Int) < bt s i)) = true then some (.inr (.inl ())) else some (.inl ((i + 1 : Nat) : Int)) := by
    intro i hi
    have w : IntKind.i64.wrap ((i : Int) + 1) = ((i + 1 : Nat) : Int) := by rw [w64 (by omega) (by omega)]; omega
    simp only [impl_IsName_l0_T, Tree.run, lt_nat, inb_nat, hi, decide_true, if_true, w]
    cases h1 : decide (bt s i < 97) <;> cases h2 : decide ((122 : Int) < bt s i) <;> simp [Tree.run]
  have he : (impl_IsName_l0_T s (s.size : Int)).run = some (.inr (.inr ())) := by
    simp [impl_IsName_l0_T, Tree.run]
  exact whileM_scan (T := fun s' => (impl_IsName_l0_T s s').run) hT he
theorem nameI (s : ByteArray) (h : s.size < 9223372036854775808) : impl_IsName_g s = some (!notName s && decide ((1 : Int) ≤ (s.size : Int)) && decide ((s.size : Int) ≤ 8)) := by
  simp only [impl_IsName_g, impl_IsName_T, Tree.run, nameLI s h, if_true, Option.bind_some, inR]
  cases notName s <;> simp [Tree.run]
theorem matI (r c : Int) (xs : List Nat) (h : xs.length ≤ maxN) : impl_ValidMatrix_g r c xs = some (decide (1 ≤ r) && decide (r ≤ 12) && (decide (1 ≤ c) && decide (c ≤ 12)) && decide ((xs.length : Int) = IntKind.i64.wrap (r * c)) && xs.all sfin) := by
  simp only [impl_ValidMatrix_g, impl_ValidMatrix_T, Tree.run, impl_isSide_v, impl_lengthF_v, inR, areFin xs h, Option.bind_some]
  cases (decide (1 ≤ r) && decide (r ≤ 12)) <;> cases (decide (1 ≤ c) && decide (c ≤ 12)) <;> by_cases h2 : (xs.length : Int) = IntKind.i64.wrap (r * c) <;> simp [Tree.run, h2]
theorem u8w (n : Int) : IntKind.u8.wrap n = n % 256 := by simp [IntKind.wrap, IntKind.bits, IntKind.signed]
theorem u32w (n : Int) : IntKind.u32.wrap n = n % 4294967296 := by simp [IntKind.wrap, IntKind.bits, IntKind.signed]
theorem ishr8 (n : Int) : ishr .i64 n 8 = n / 256 := by
  unfold ishr
  have e : (2 : Int) ^ (min (8 : Int).toNat IntKind.i64.bits) = 256 := by decide
  rw [e, Int.fdiv_eq_ediv_of_nonneg _ (by omega)]
theorem feq_nan {x : Nat} (h : isNan .f32 x = true) : feq .f32 x x = false := by
  unfold feq
  have e : ∀ x y, FloatKind.f32.format.order x y = (FloatKind.f32.decode x).order (FloatKind.f32.decode y) := by intro x y; rfl
  rw [e]
  unfold isNan at h
  cases hd : FloatKind.f32.decode x with
  | nan s t => rfl
  | infinity s => rw [hd] at h; cases h
  | number s m i => rw [hd] at h; cases h
def bitsV (x : Nat) : Int := if isNan .f32 x = true then 2143289344 else (x : Int)
theorem bitsV_bd (x : Nat) (h : x < 4294967296) : 0 ≤ bitsV x ∧ bitsV x < 4294967296 := by
  unfold bitsV; split <;> omega
theorem bitsI (x : Nat) (h : x < 4294967296) : impl_BitsOf_g x = some (bitsV x) := by
  simp only [impl_BitsOf_g, impl_BitsOf_T, Tree.run, bitsV]
  cases hn : isNan .f32 x with
  | true => rw [feq_nan hn]; rfl
  | false => rw [feq_self hn, w64 (by omega) (by omega)]; rfl
/-- The bytes of a number, the least one first. -/
def wn (n : Int) (m : Nat) : List Int := (List.range m).map fun j => n / 256 ^ j % 256
theorem bytesI (n : Int) (m : Nat) (hm : m ≤ 8) : impl_bytesOf_g n (m : Int) = some (wn n m) := by
  have e : impl_bytesOf_l0_g (m : Int) (n, 0, []) = some (wn n m) := by
    have := whileM_fix (T := fun s => (impl_bytesOf_l0_T (m : Int) s).run) (fun i => (n / 256 ^ i, (i : Int), wn n i)) (n := m) (r := wn n m) (fun i hi => by
      have hl : (wn n i ++ [IntKind.u8.wrap (n / 256 ^ i)]) = wn n (i + 1) := by simp [wn, List.range_succ, u8w]
      have hf : fits (wn n (i + 1)).length = true := fits_iff.2 (by simp [wn, maxN]; omega)
      have hd : n / 256 ^ i / 256 = n / 256 ^ (i + 1) := by rw [Int.ediv_ediv_of_nonneg (Int.pow_nonneg (by omega)), Int.pow_succ]
      have h1 : decide ((i : Int) < (m : Int)) = true := by simpa using hi
      simp only [impl_bytesOf_l0_T, Tree.run, h1, if_true, hl, hf, ishr8, hd, w_succ (show i < 4611686018427387904 by omega)]
      simp) (by simp [impl_bytesOf_l0_T, Tree.run])
    simpa [wn, impl_bytesOf_l0_g] using this
  simp only [impl_bytesOf_g, impl_bytesOf_T, Tree.run, if_true, e, Option.bind_some]
theorem wn4 (n : Int) : wn n 4 = [n % 256, n / 256 % 256, n / 65536 % 256, n / 16777216 % 256] := by simp [wn, List.range_succ]
theorem wn2 (n : Int) : wn n 2 = [n % 256, n / 256 % 256] := by simp [wn, List.range_succ]
theorem wn_len (n : Int) (m : Nat) : (wn n m).length = m := by simp [wn]
theorem spec4 (n : Int) (h0 : 0 ≤ n) (h1 : n < 9223372036854775808) : ([IntKind.u8.wrap (Int.tmod n (256 : Int)), IntKind.u8.wrap (Int.tmod (IntKind.i64.wrap (Int.tdiv n (256 : Int))) (256 : Int)), IntKind.u8.wrap (Int.tmod (IntKind.i64.wrap (Int.tdiv n (65536 : Int))) (256 : Int)), IntKind.u8.wrap (IntKind.i64.wrap (Int.tdiv n (16777216 : Int)))] : List Int) = wn n 4 := by
  rw [wn4]
  simp only [u8w, Int.tdiv_eq_ediv_of_nonneg h0]
  rw [w64 (n := n / 256) (by omega) (by omega), w64 (n := n / 65536) (by omega) (by omega), w64 (n := n / 16777216) (by omega) (by omega)]
  rw [Int.tmod_eq_emod_of_nonneg h0, Int.tmod_eq_emod_of_nonneg (show 0 ≤ n / 256 by omega), Int.tmod_eq_emod_of_nonneg (show 0 ≤ n / 65536 by omega)]
  simp only [Int.emod_emod_of_dvd, Int.dvd_refl]
theorem spec2 (n : Int) (h0 : 0 ≤ n) (h1 : n < 65536) : ([IntKind.u8.wrap (Int.tmod n (256 : Int)), IntKind.u8.wrap (IntKind.i64.wrap (Int.tdiv n (256 : Int)))] : List Int) = wn n 2 := by
  rw [wn2]
  simp only [u8w, Int.tdiv_eq_ediv_of_nonneg h0]
  rw [w64 (n := n / 256) (by omega) (by omega), Int.tmod_eq_emod_of_nonneg h0]
  simp only [Int.emod_emod_of_dvd, Int.dvd_refl]
theorem bt_bd (s : ByteArray) (i : Int) : 0 ≤ bt s i ∧ bt s i < 256 := by
  unfold bt
  cases s[i.toNat]? with
  | none => simp
  | some b => have := b.toNat_lt; simp; omega
theorem strOfNums_sz (xs : List Int) : (strOfNums xs).size = xs.length := strOfNums_size xs
/-- Is it a sheet? -/
def sheetB (s : ByteArray) (r c : Int) (xs : List Nat) : Bool := (!notName s && decide ((1 : Int) ≤ (s.size : Int)) && decide ((s.size : Int) ≤ 8)) && (decide (1 ≤ r) && decide (r ≤ 12) && (decide (1 ≤ c) && decide (c ≤ 12)) && decide ((xs.length : Int) = IntKind.i64.wrap (r * c)) && xs.all sfin)
theorem sheetI (s : ByteArray) (r c : Int) (xs : List Nat) (hs : s.size < 9223372036854775808) (h : xs.length ≤ maxN) : impl_ValidSheet_g s r c xs = some (sheetB s r c xs) := by
  unfold sheetB
  simp only [impl_ValidSheet_g, impl_ValidSheet_T, Tree.run, nameI s hs, matI r c xs h, Option.bind_some]
  cases (!notName s && decide ((1 : Int) ≤ (s.size : Int)) && decide ((s.size : Int) ≤ 8)) <;> simp [Tree.run]
theorem sheet_bd {s : ByteArray} {r c : Int} {xs : List Nat} (h : sheetB s r c xs = true) : s.size ≤ 8 ∧ 1 ≤ r ∧ r ≤ 12 ∧ 1 ≤ c ∧ c ≤ 12 ∧ (xs.length : Int) = r * c := by
  unfold sheetB at h
  simp only [Bool.and_eq_true, decide_eq_true_eq] at h
  obtain ⟨⟨_, h1⟩, ⟨⟨⟨h2, h3⟩, h4, h5⟩, h6⟩, _⟩ := h
  have h7 : r * c ≤ 12 * 12 := Int.mul_le_mul h3 h5 (by omega) (by omega)
  have h8 : 0 ≤ r * c := Int.mul_nonneg (by omega) (by omega)
  rw [w64 (by omega) (by omega)] at h6
  exact ⟨by omega, h2, h3, h4, h5, h6⟩
theorem sheet_len {s : ByteArray} {r c : Int} {xs : List Nat} (h : sheetB s r c xs = true) : xs.length ≤ 144 := by
  obtain ⟨_, h2, h3, h4, h5, h6⟩ := sheet_bd h
  have h7 : r * c ≤ 12 * 12 := Int.mul_le_mul h3 h5 (by omega) (by omega)
  omega
theorem or_sh (n b : Int) (h0 : 0 ≤ n) (h1 : n < 4294967296) (h2 : 0 ≤ b) (h3 : b < 256) : ior .i64 (ishl .i64 n 8) b = n * 256 + b := by
  have e : (2 : Int) ^ (min (8 : Int).toNat IntKind.i64.bits) = 256 := by decide
  have e1 : ishl .i64 n 8 = n * 256 := by unfold ishl; rw [e, w64 (by omega) (by omega)]
  rw [e1]
  unfold ior
  obtain ⟨a, rfl⟩ : ∃ a : Nat, n = a := ⟨n.toNat, by omega⟩
  obtain ⟨c, rfl⟩ : ∃ c : Nat, b = c := ⟨b.toNat, by omega⟩
  have t1 : (BitVec.ofInt 64 ((a : Int) * 256)).toNat = 2 ^ 8 * a := by
    rw [BitVec.toNat_ofInt]
    have : ((a : Int) * 256) % ((2 ^ 64 : Nat) : Int) = ((2 ^ 8 * a : Nat) : Int) := by omega
    rw [this]; rfl
  have t2 : (BitVec.ofInt 64 (c : Int)).toNat = c := by
    rw [BitVec.toNat_ofInt]
    have : (c : Int) % ((2 ^ 64 : Nat) : Int) = ((c : Nat) : Int) := by omega
    rw [this]; rfl
  show IntKind.i64.wrap ((BitVec.ofInt 64 ((a : Int) * 256) ||| BitVec.ofInt 64 (c : Int)).toNat : Int) = _
  rw [BitVec.toNat_or, t1, t2, ← Nat.two_pow_add_eq_or_of_lt (show c < 2 ^ 8 by omega), w64 (by omega) (by omega)]
  omega
def num4 (s : ByteArray) (a : Int) : Int := bt s a + 256 * bt s (a + 1) + 65536 * bt s (a + 2) + 16777216 * bt s (a + 3)
theorem num4_bd (s : ByteArray) (a : Int) : 0 ≤ num4 s a ∧ num4 s a < 4294967296 := by
  have h0 := bt_bd s a
  have h1 := bt_bd s (a + 1)
  have h2 := bt_bd s (a + 2)
  have h3 := bt_bd s (a + 3)
  unfold num4; omega
theorem numberI (t : ByteArray) (ht : t.size = 4) : impl_numberOf_g t = some (num4 t 0) := by
  have step : ∀ (n i : Int), 0 ≤ n → n < 4294967296 → 0 ≤ i → i < 4 → (impl_numberOf_l0_T t (n, i)).run = some (.inl (n * 256 + bt t i, i - 1)) := fun n i h0 h1 h2 h3 => by
    have hb := bt_bd t i
    have hin : inb i t.size = true := inb_iff.2 ⟨h2, by rw [ht]; omega⟩
    have w1 : IntKind.i64.wrap (bt t i) = bt t i := w64 (by omega) (by omega)
    have w2 : IntKind.i64.wrap (i - 1) = i - 1 := w64 (by omega) (by omega)
    simp [impl_numberOf_l0_T, Tree.run, h2, hin, w1, w2, or_sh n _ h0 h1 hb.1 hb.2]
  have b0 := bt_bd t 0
  have b1 := bt_bd t 1
  have b2 := bt_bd t 2
  have b3 := bt_bd t 3
  have hl : impl_numberOf_l0_g t (0, 3) = some (num4 t 0) := by
    unfold impl_numberOf_l0_g
    rw [whileM_eq, step 0 3 (by omega) (by omega) (by omega) (by omega)]
    simp only
    rw [whileM_eq, step _ _ (by omega) (by omega) (by omega) (by omega)]
    simp only [Int.zero_mul, Int.zero_add, show (3 : Int) - 1 = 2 from rfl]
    rw [whileM_eq, step _ _ (by omega) (by omega) (by omega) (by omega)]
    simp only [show (2 : Int) - 1 = 1 from rfl]
    rw [whileM_eq, step _ _ (by omega) (by omega) (by omega) (by omega)]
    simp only [show (1 : Int) - 1 = 0 from rfl]
    rw [whileM_eq]
    simp only [impl_numberOf_l0_T, Tree.run, show decide ((0 : Int) ≤ 0 - 1) = false from rfl, Bool.false_eq_true, if_false, Option.some.injEq]
    unfold num4
    simp only [Int.zero_add]
    omega
  have hw : IntKind.i64.wrap (((t.size : Nat) : Int) - 1) = 3 := by rw [ht]; rfl
  simp only [impl_numberOf_g, impl_numberOf_T, Tree.run, hw, if_true, hl, Option.bind_some]
theorem bt_extract (s : ByteArray) (a b i : Nat) (h : a + i < b) (hb : b ≤ s.size) : bt (s.extract a b) (i : Int) = bt s ((a + i : Nat) : Int) := by
  have hs : i < (s.extract a b).size := by rw [ByteArray.size_extract]; omega
  have h2 : a + i < s.size := by omega
  unfold bt
  simp only [Int.toNat_natCast]
  have e1 : (s.extract a b)[i]? = some ((s.extract a b)[i]) := by simp [hs]
  have e2 : s[a + i]? = some (s[a + i]) := by simp [h2]
  rw [e1, e2, ByteArray.getElem_extract]
theorem number_at (s : ByteArray) (a : Int) (h0 : 0 ≤ a) (h1 : a + 4 ≤ (s.size : Int)) : impl_numberOf_g (ByteArray.extract s (Int.toNat a) (Int.toNat (a + 4))) = some (num4 s a) := by
  obtain ⟨n, rfl⟩ : ∃ n : Nat, a = n := ⟨a.toNat, by omega⟩
  have e : Int.toNat ((n : Int) + 4) = n + 4 := by omega
  rw [e, Int.toNat_natCast, numberI _ (by rw [ByteArray.size_extract]; omega)]
  have x := bt_extract s n (n + 4)
  unfold num4
  have x0 := x 0 (by omega) (by omega)
  have x1 := x 1 (by omega) (by omega)
  have x2 := x 2 (by omega) (by omega)
  have x3 := x 3 (by omega) (by omega)
  simp only [Int.zero_add] at *
  rw [show ((0 : Nat) : Int) = 0 from rfl] at x0
  rw [show ((1 : Nat) : Int) = 1 from rfl] at x1
  rw [show ((2 : Nat) : Int) = 2 from rfl] at x2
  rw [show ((3 : Nat) : Int) = 3 from rfl] at x3
  rw [x0, x1, x2, x3]
  rfl
/-- A number of a sheet. -/
def word (s : ByteArray) (a : Int) : Nat := canon .f32 (Int.toNat (num4 s a))
theorem word_lt (s : ByteArray) (a : Int) : word s a < 4294967296 := by
  have := num4_bd s a
  unfold word canon
  split
  · decide
  · omega
def numsAt (s : ByteArray) (a : Int) (m : Nat) : List Nat := (List.range m).map fun (i : Nat) => word s (a + 4 * (i : Int))
theorem numsAt_len (s : ByteArray) (a : Int) (m : Nat) : (numsAt s a m).length = m := by simp [numsAt]
theorem numsAt_lt (s : ByteArray) (a : Int) (m : Nat) : ∀ x ∈ numsAt s a m, x < 4294967296 := by
  intro x hx
  simp only [numsAt, List.mem_map] at hx
  obtain ⟨i, _, rfl⟩ := hx
  exact word_lt _ _
theorem numsAt_succ (s : ByteArray) (a : Int) (m : Nat) : numsAt s a (m + 1) = numsAt s a m ++ [word s (a + 4 * (m : Int))] := by simp [numsAt, List.range_succ]
theorem wbt (s : ByteArray) (i : Int) : IntKind.i64.wrap (bt s i) = bt s i := by
  have := bt_bd s i
  exact w64 (by omega) (by omega)
theorem u32_num (s : ByteArray) (a : Int) : IntKind.u32.wrap (num4 s a) = num4 s a := by
  have := num4_bd s a
  rw [u32w]; omega

def stI (s : ByteArray) (a : Int) : Nat → (Int) ⊕ (Int × (List Nat))
  | 0 => .inl a
  | i + 1 => .inr (a + 4 * ((i + 1 : Nat) : Int), numsAt s a (i + 1))
/-- What stands in a sheet's bytes. -/
structure Hd (s : ByteArray) (k r c : Int) (m : Nat) : Prop where
  ek : k = bt s 4
  er : r = bt s (5 + k)
  ec : c = bt s (6 + k)
  kb : 0 ≤ k ∧ k < 256
  rb : 0 ≤ r ∧ r < 256
  cb : 0 ≤ c ∧ c < 256
  em : r * c = (m : Int)
  mb : m ≤ 65025
theorem hd (s : ByteArray) : ∃ k r c m, Hd s k r c m := by
  have bk := bt_bd s 4
  have br := bt_bd s (5 + bt s 4)
  have bc := bt_bd s (6 + bt s 4)
  have hrc : bt s (5 + bt s 4) * bt s (6 + bt s 4) ≤ 255 * 255 := Int.mul_le_mul (by omega) (by omega) (by omega) (by omega)
  have hrc0 : 0 ≤ bt s (5 + bt s 4) * bt s (6 + bt s 4) := Int.mul_nonneg (by omega) (by omega)
  exact ⟨_, _, _, (bt s (5 + bt s 4) * bt s (6 + bt s 4)).toNat, rfl, rfl, rfl, bk, br, bc, by omega, by omega⟩
structure Wr (k r c : Int) (m : Nat) : Prop where
  wk : IntKind.i64.wrap k = k
  wr : IntKind.i64.wrap r = r
  wc : IntKind.i64.wrap c = c
  f7 : IntKind.i64.wrap (7 + k) = 7 + k
  f5 : IntKind.i64.wrap (7 + k - 2) = 5 + k
  f6 : IntKind.i64.wrap (7 + k - 1) = 6 + k
  g5 : IntKind.i64.wrap (5 + k) = 5 + k
  g6 : IntKind.i64.wrap (5 + k + 1) = 6 + k
  g7 : IntKind.i64.wrap (5 + k + 2) = 7 + k
  pr : IntKind.i64.wrap (r * c) = (m : Int)
  p4 : IntKind.i64.wrap (4 * (m : Int)) = 4 * (m : Int)
  en : IntKind.i64.wrap (7 + k + 4 * (m : Int)) = 7 + k + 4 * (m : Int)
  en2 : IntKind.i64.wrap (7 + k + 4 * (m : Int) + 2) = 9 + k + 4 * (m : Int)
theorem Hd.wr {s : ByteArray} {k r c : Int} {m : Nat} (h : Hd s k r c m) : Wr k r c m := by
  obtain ⟨_, _, _, kb, rb, cb, hm, mb⟩ := h
  have w : ∀ x : Int, 0 ≤ x → x < 4294967296 → IntKind.i64.wrap x = x := fun x h1 h2 => w64 (by omega) (by omega)
  refine ⟨w _ (by omega) (by omega), w _ (by omega) (by omega), w _ (by omega) (by omega), w _ (by omega) (by omega), ?_, ?_, w _ (by omega) (by omega), ?_, ?_, ?_, w _ (by omega) (by omega), w _ (by omega) (by omega), ?_⟩
  · rw [w _ (by omega) (by omega)]; omega
  · rw [w _ (by omega) (by omega)]; omega
  · rw [w _ (by omega) (by omega)]; omega
  · rw [w _ (by omega) (by omega)]; omega
  · rw [hm, w _ (by omega) (by omega)]
  · rw [w _ (by omega) (by omega)]; omega
theorem loopI (s : ByteArray) {k r c : Int} {m : Nat} (h : Hd s k r c m) (hs : 7 + k + 4 * (m : Int) ≤ (s.size : Int)) (hsz : s.size < 4294967296) :
    impl_loadSheet_l0_g s (.inl (7 + k)) = some (if m = 0 then .inl () else .inr (numsAt s (7 + k) m)) := by
  have W := h.wr
  obtain ⟨hk, hr, hc, kb, rb, cb, hm, mb⟩ := h
  obtain ⟨wk, wr, wc, f7, f5, f6, _, _, _, pr, p4, en, en2⟩ := W
  have w : ∀ x : Int, 0 ≤ x → x < 4294967296 → IntKind.i64.wrap x = x := fun x h1 h2 => w64 (by omega) (by omega)
  have wd : ∀ p : Int, canon .f32 (Int.toNat (IntKind.u32.wrap (num4 s p))) = word s p := fun p => by rw [u32_num]; rfl
  have := whileM_fix (T := fun st => (impl_loadSheet_l0_T s st).run) (fun i => stI s (7 + k) i) (n := m) (r := (if m = 0 then .inl () else .inr (numsAt s (7 + k) m))) (fun i hi => by
    cases i with
    | zero =>
      have hlt : 7 + k < 7 + k + 4 * (m : Int) := by omega
      have n1 := number_at s (7 + k) (by omega) (by omega)
      have w4 : IntKind.i64.wrap (7 + k + 4) = 7 + k + 4 := w _ (by omega) (by omega)
      have ok : sok (7 + k) (7 + k + 4) s.size = true := sok_iff.2 ⟨by omega, by omega, by omega⟩
      have hf : fits [word s (7 + k)].length = true := rfl
      have hz : decide ([word s (7 + k)].length = 0) = false := rfl
      simp only [stI, impl_loadSheet_l0_T, Tree.run, wbt, ← hk, wk, f7, f5, f6, ← hr, ← hc, wr, wc, pr, p4, en, hlt, decide_true, if_true, w4, ok, n1, Option.bind_some, wd, hf, hz, Bool.false_eq_true, if_false]
      simp [numsAt, List.range_succ]
    | succ i =>
      obtain ⟨p, hp⟩ : ∃ p, p = 7 + k + 4 * ((i + 1 : Nat) : Int) := ⟨_, rfl⟩
      have hlt : p < 7 + k + 4 * (m : Int) := by omega
      have n1 := number_at s p (by omega) (by omega)
      have w4 : IntKind.i64.wrap (p + 4) = p + 4 := w _ (by omega) (by omega)
      have ok : sok p (p + 4) s.size = true := sok_iff.2 ⟨by omega, by omega, by omega⟩
      have hf : fits (numsAt s (7 + k) (i + 1) ++ [word s p]).length = true := fits_iff.2 (by rw [List.length_append, numsAt_len]; simp [maxN]; omega)
      have hnx : p + 4 = 7 + k + 4 * ((i + 1 + 1 : Nat) : Int) := by omega
      simp only [stI, ← hp, impl_loadSheet_l0_T, Tree.run, wbt, ← hk, wk, f7, f5, f6, ← hr, ← hc, wr, wc, pr, p4, en, hlt, decide_true, if_true, w4, ok, n1, Option.bind_some, wd, hf]
      rw [numsAt_succ s (7 + k) (i + 1), ← hp, hnx]) (by
    cases m with
    | zero =>
      have hlt : ¬ (7 + k < 7 + k + 4 * ((0 : Nat) : Int)) := by omega
      simp only [stI, impl_loadSheet_l0_T, Tree.run, wbt, ← hk, wk, f7, f5, f6, ← hr, ← hc, wr, wc, pr, p4, en, hlt, decide_false, Bool.false_eq_true, if_false, if_true]
    | succ m =>
      have hlt : ¬ (7 + k + 4 * ((m + 1 : Nat) : Int) < 7 + k + 4 * ((m + 1 : Nat) : Int)) := by omega
      simp only [stI, impl_loadSheet_l0_T, Tree.run, wbt, ← hk, wk, f7, f5, f6, ← hr, ← hc, wr, wc, pr, p4, en, hlt, decide_false, Bool.false_eq_true, if_false]
      rfl)
  exact this
theorem sheet_zero (nm : ByteArray) (r c : Int) (h : sheetB nm r c [] = true) : False := by
  obtain ⟨_, h1, h2, h3, h4, h5⟩ := sheet_bd h
  have : 0 < r * c := Int.mul_pos (by omega) (by omega)
  simp at h5; omega
theorem name_sz (s : ByteArray) (k : Int) (hk : 0 ≤ k ∧ k < 256) : (ByteArray.extract s (Int.toNat 5) (Int.toNat (5 + k))).size ≤ 256 := by
  rw [ByteArray.size_extract]; omega
theorem wl_inl {σ ρ : Type} {T : σ → Option (σ ⊕ ρ)} {s s' : σ} {r : Option ρ} (h : T s = some (.inl s')) (h' : whileM T s' = r) : whileM T s = r := by rw [whileM_eq, h]; exact h'
theorem wl_inr {σ ρ : Type} {T : σ → Option (σ ⊕ ρ)} {s : σ} {r : ρ} (h : T s = some (.inr r)) : whileM T s = some r := by rw [whileM_eq, h]
theorem ltn (a b : Nat) : decide ((a : Int) < (b : Int)) = decide (a < b) := by
  by_cases h : a < b
  · rw [decide_eq_true h]; exact decide_eq_true (by omega)
  · rw [decide_eq_false h]; exact decide_eq_false (by omega)
/-- The first n bytes. -/
theorem bt_head (s : ByteArray) {n i : Int} (h0 : 0 ≤ i) (h1 : i < n) (h2 : n ≤ (s.size : Int)) : bt (ByteArray.extract s 0 n.toNat) i = bt s i := by
  have := bt_extract s 0 n.toNat i.toNat (by omega) (by omega)
  rw [show ((i.toNat : Nat) : Int) = i by omega, show ((0 + i.toNat : Nat) : Int) = i by omega] at this
  exact this
theorem num4_head (s : ByteArray) {n a : Int} (h0 : 0 ≤ a) (h1 : a + 4 ≤ n) (h2 : n ≤ (s.size : Int)) : num4 (ByteArray.extract s 0 n.toNat) a = num4 s a := by
  unfold num4
  rw [bt_head s (by omega) (by omega) h2, bt_head s (by omega) (by omega) h2, bt_head s (by omega) (by omega) h2, bt_head s (by omega) (by omega) h2]
theorem numsAt_head (s : ByteArray) {n a : Int} {m : Nat} (h0 : 0 ≤ a) (h1 : a + 4 * (m : Int) ≤ n) (h2 : n ≤ (s.size : Int)) : numsAt (ByteArray.extract s 0 n.toNat) a m = numsAt s a m := by
  unfold numsAt
  refine List.map_congr_left fun i hi => ?_
  rw [List.mem_range] at hi
  unfold word
  rw [num4_head s (by omega) (by omega) h2]
theorem ext_head (s : ByteArray) {n : Int} {a b : Nat} (h1 : (b : Int) ≤ n) (h2 : n ≤ (s.size : Int)) : ByteArray.extract (ByteArray.extract s 0 n.toNat) a b = ByteArray.extract s a b := by
  rw [ByteArray.extract_extract, Nat.zero_add, Nat.zero_add]
  congr 1
  omega
theorem chkI2 (s : ByteArray) (hs : s.size < 9223372036854775807) : ∃ v, impl_checkOf_g 0 s = some v ∧ 0 ≤ v ∧ v < 65003 := by
  have key := whileM_wf (fun st => (impl_checkOf_l0_T s st).run) (fun st => 0 ≤ st.1 ∧ st.1 < 65003 ∧ 0 ≤ st.2 ∧ st.2 ≤ (s.size : Int)) (fun st => ((s.size : Int) - st.2).toNat) (fun _ v => 0 ≤ v ∧ v < 65003) (by
    rintro ⟨a, i⟩ ⟨h1, h2, h3, h4⟩
    simp only at h1 h2 h3 h4
    by_cases hi : i < (s.size : Int)
    · left
      have hb := bt_bd s i
      have hin : inb i s.size = true := inb_iff.2 ⟨h3, by omega⟩
      have hw : IntKind.i64.wrap (i + 1) = i + 1 := w64 (by omega) (by omega)
      have w1 : IntKind.i64.wrap (863 * a) = 863 * a := w64 (by omega) (by omega)
      have w2 : IntKind.i64.wrap (bt s i) = bt s i := w64 (by omega) (by omega)
      have w3 : IntKind.i64.wrap (863 * a + bt s i) = 863 * a + bt s i := w64 (by omega) (by omega)
      have w4 : IntKind.i64.wrap (863 * a + bt s i + 157) = 863 * a + bt s i + 157 := w64 (by omega) (by omega)
      refine ⟨(Int.tmod (863 * a + bt s i + 157) 65003, i + 1), ?_, ?_, ?_, fun _ h => h⟩
      · simp [impl_checkOf_l0_T, Tree.run, hi, hin, hw, w1, w2, w3, w4]
      · rw [Int.tmod_eq_emod_of_nonneg (by omega)]; simp only; omega
      · simp only; omega
    · right
      exact ⟨a, by simp [impl_checkOf_l0_T, Tree.run, hi], h1, h2⟩) (0, 0) ⟨by decide, by decide, by decide, by simp⟩
  obtain ⟨v, h1, h2⟩ := key
  exact ⟨v, by simp only [impl_checkOf_g, impl_checkOf_T, Tree.run, if_true, impl_checkOf_l0_g, h1, Option.bind_some], h2⟩
/-- The bytes of numbers. -/
def bytesW (xs : List Nat) : List Int := xs.flatMap fun x => wn (bitsV x) 4
theorem bytesW_app (xs ys : List Nat) : bytesW (xs ++ ys) = bytesW xs ++ bytesW ys := by simp [bytesW]
theorem bytesW_one (x : Nat) : bytesW [x] = wn (bitsV x) 4 := by simp [bytesW]
theorem bytesW_len (xs : List Nat) : (bytesW xs).length = 4 * xs.length := by
  induction xs with
  | nil => rfl
  | cons x xs ih => rw [show x :: xs = [x] ++ xs from rfl, bytesW_app, bytesW_one, List.length_append, wn_len, ih]; simp; omega
theorem storeL2 (xs : List Nat) (hx : ∀ x ∈ xs, x < 4294967296) (hl : xs.length ≤ 1048576) (acc : List Int) (ha : acc.length ≤ 1048576) :
    impl_storeSheet_l0_g xs (0, acc) = some (acc ++ bytesW xs) := by
  have := whileM_fix (T := fun s => (impl_storeSheet_l0_T xs s).run) (fun i => (((i : Nat) : Int), acc ++ bytesW (xs.take i))) (n := xs.length) (r := acc ++ bytesW xs) (fun i hi => by
    have hn : nth xs i < 4294967296 := by rw [nth_of xs _ hi]; exact hx _ (List.getElem_mem _)
    have h4 := bytesI (bitsV (nth xs i)) 4 (by omega)
    have e4 : ((4 : Nat) : Int) = 4 := rfl
    rw [e4] at h4
    have ht : xs.take (i + 1) = xs.take i ++ [nth xs i] := by rw [nth_of _ _ hi]; simp
    have he : acc ++ bytesW (xs.take (i + 1)) = acc ++ bytesW (xs.take i) ++ wn (bitsV (nth xs i)) 4 := by rw [ht, bytesW_app, bytesW_one, List.append_assoc]
    have hf : fits (acc ++ bytesW (xs.take i) ++ wn (bitsV (nth xs i)) 4).length = true := fits_iff.2 (by
      rw [← he, List.length_append, bytesW_len, List.length_take]; unfold maxN; omega)
    simp only [impl_storeSheet_l0_T, Tree.run, lt_nat, hi, decide_true, if_true, inb_nat, Int.toNat_natCast, bitsI _ hn, Option.bind_some, h4, hf, w_succ (show i < 4611686018427387904 by omega), he]) (by
    simp only [impl_storeSheet_l0_T, Tree.run, lt_nat, Nat.lt_irrefl, decide_false, Bool.false_eq_true, if_false, List.take_length])
  simpa [bytesW, impl_storeSheet_l0_g] using this
/-- What stands ahead of the check number. -/
def preW (s : ByteArray) (r c : Int) (xs : List Nat) : List Int := ((([(77 : Int), (65 : Int), (84 : Int), (49 : Int)] : List Int) ++ ([IntKind.u8.wrap (((s.size : Nat) : Int))] : List Int)) ++ numsS s) ++ ([IntKind.u8.wrap (r), IntKind.u8.wrap (c)] : List Int) ++ bytesW xs
noncomputable def chkV (s : ByteArray) : Int := (impl_checkOf_g 0 s).getD 0
noncomputable def listW (s : ByteArray) (r c : Int) (xs : List Nat) : List Int := preW s r c xs ++ wn (chkV (strOfNums (preW s r c xs))) 2
noncomputable def stW (s : ByteArray) (r c : Int) (xs : List Nat) : ByteArray := strOfNums (listW s r c xs)
theorem numsS_len (s : ByteArray) : (numsS s).length = s.size := nums_len s
theorem preW_len (s : ByteArray) (r c : Int) (xs : List Nat) : (preW s r c xs).length = 7 + s.size + 4 * xs.length := by
  unfold preW
  simp only [List.length_append, bytesW_len, numsS_len, List.length_cons, List.length_nil]
  omega
theorem listW_len (s : ByteArray) (r c : Int) (xs : List Nat) : (listW s r c xs).length = 9 + s.size + 4 * xs.length := by
  unfold listW
  rw [List.length_append, preW_len, wn_len]; omega
theorem stW_size (s : ByteArray) (r c : Int) (xs : List Nat) : (stW s r c xs).size = 9 + s.size + 4 * xs.length := by
  unfold stW
  rw [strOfNums_size, listW_len]
theorem storeE (s : ByteArray) (r c : Int) (xs : List Nat) (hs : s.size ≤ 1000) (hx : ∀ x ∈ xs, x < 4294967296) (hl : xs.length ≤ 262144) : impl_storeSheet_g s r c xs = some (stW s r c xs) := by
  have hn := numsS_len s
  have z1 : decide (0 < (([(77 : Int), (65 : Int), (84 : Int), (49 : Int)] : List Int).length)) = true := by decide
  obtain ⟨p, hp⟩ : ∃ p, p = (([(77 : Int), (65 : Int), (84 : Int), (49 : Int)] : List Int) ++ ([IntKind.u8.wrap (((s.size : Nat) : Int))] : List Int)) := ⟨_, rfl⟩
  have hpl : p.length = 5 := by rw [hp]; rfl
  have f1 : fits p.length = true := fits_iff.2 (by rw [hpl]; decide)
  have f2 : fits (p ++ numsS s).length = true := fits_iff.2 (by rw [List.length_append, hpl, hn]; unfold maxN; omega)
  obtain ⟨q, hq⟩ : ∃ q, q = (p ++ numsS s) ++ ([IntKind.u8.wrap r, IntKind.u8.wrap c] : List Int) := ⟨_, rfl⟩
  have hql : q.length = s.size + 7 := by rw [hq, List.length_append, List.length_append, hpl, hn]; simp; omega
  have f3 : fits q.length = true := fits_iff.2 (by rw [hql]; unfold maxN; omega)
  have l1 := storeL2 xs hx (by omega) q (by omega)
  have hpre : q ++ bytesW xs = preW s r c xs := by rw [hq, hp]; rfl
  rw [hpre] at l1
  have hsz : (strOfNums (preW s r c xs)).size < 9223372036854775807 := by rw [strOfNums_size, preW_len]; omega
  obtain ⟨k, c1, c2, c3⟩ := chkI2 (strOfNums (preW s r c xs)) hsz
  have b2 := bytesI k 2 (by omega)
  have e2 : ((2 : Nat) : Int) = 2 := rfl
  rw [e2] at b2
  have hk : chkV (strOfNums (preW s r c xs)) = k := by unfold chkV; rw [c1]; rfl
  have f4 : fits (preW s r c xs ++ wn k 2).length = true := fits_iff.2 (by rw [List.length_append, wn_len, preW_len]; unfold maxN; omega)
  unfold stW listW
  rw [hk]
  simp only [impl_storeSheet_g, impl_storeSheet_T, Tree.run, ← hp, ← hq, z1, f1, f2, f3, if_true, l1, Option.bind_some, c1, b2, f4]
/-! the bytes read -/
theorem nth_left {α : Type} [Inhabited α] (a b : List α) {i : Nat} (h : i < a.length) : nth (a ++ b) i = nth a i := by
  rw [nth_of _ _ (by rw [List.length_append]; omega), nth_of _ _ h, List.getElem_append_left h]
theorem nth_right {α : Type} [Inhabited α] (a b : List α) {i : Nat} (h : i < b.length) : nth (a ++ b) (a.length + i) = nth b i := by
  rw [nth_of _ _ (by rw [List.length_append]; omega), nth_of _ _ h, List.getElem_append_right (by omega)]
  congr 1; omega
theorem bt_str (l : List Int) (i : Nat) (h : i < l.length) (hb : 0 ≤ nth l i ∧ nth l i < 256) : bt (strOfNums l) (i : Int) = nth l i := by
  unfold bt
  have hs : i < (strOfNums l).size := by rw [strOfNums_size]; exact h
  have e1 : (strOfNums l)[i]? = some ((strOfNums l)[i]) := by simp [hs]
  have e2 : (strOfNums l)[i] = UInt8.ofNat (nth l i).toNat := by
    rw [nth_of _ _ h]
    show (strOfNums l).data[i]'hs = _
    simp [strOfNums]
  rw [Int.toNat_natCast, e1, e2]
  simp only [Option.map_some, Option.getD_some]
  rw [UInt8.toNat_ofNat', Nat.mod_eq_of_lt (by omega)]
  omega
theorem bt_nums (s : ByteArray) (i : Nat) (h : i < s.size) : bt s (i : Int) = nth (numsS s) i := by
  unfold bt
  have e1 : s[i]? = some (s[i]) := by simp [h]
  rw [Int.toNat_natCast, e1, nth_of _ _ (by rw [numsS_len]; exact h)]
  simp only [numsS, List.getElem_map, Array.getElem_toList, Option.map_some, Option.getD_some]
  rfl
theorem ba_ext (a b : ByteArray) (h : a.size = b.size) (hb : ∀ i : Nat, i < a.size → bt a (i : Int) = bt b (i : Int)) : a = b := by
  apply ByteArray.ext
  apply Array.ext
  · exact h
  · intro i h1 h2
    have h1' : i < a.size := h1
    have h2' : i < b.size := h2
    have := hb i h1'
    unfold bt at this
    have e1 : a[i]? = some (a[i]) := by simp [h1']
    have e2 : b[i]? = some (b[i]) := by simp [h2']
    rw [Int.toNat_natCast, e1, e2] at this
    simp only [Option.map_some, Option.getD_some] at this
    have h3 : (a[i]).toNat = (b[i]).toNat := by omega
    exact UInt8.toNat_inj.1 h3
theorem nth_wn (n : Int) {m j : Nat} (h : j < m) : nth (wn n m) j = n / 256 ^ j % 256 := by
  rw [nth_of _ _ (by rw [wn_len]; exact h)]; simp [wn]
theorem wn_bd (n : Int) {m j : Nat} (h : j < m) : 0 ≤ nth (wn n m) j ∧ nth (wn n m) j < 256 := by rw [nth_wn n h]; omega
theorem nth_bytesW : ∀ (xs : List Nat) (i j : Nat), i < xs.length → j < 4 → nth (bytesW xs) (4 * i + j) = nth (wn (bitsV (nth xs i)) 4) j
  | [], i, j, h, _ => by simp at h
  | x :: xs, 0, j, h, hj => by
    rw [show x :: xs = [x] ++ xs from rfl, bytesW_app, bytesW_one, nth_left _ _ (by rw [wn_len]; omega)]
    simp [nth]
  | x :: xs, i + 1, j, h, hj => by
    rw [show x :: xs = [x] ++ xs from rfl, bytesW_app, bytesW_one, show 4 * (i + 1) + j = (wn (bitsV x) 4).length + (4 * i + j) by rw [wn_len]; omega]
    have h' : i < xs.length := by simpa using h
    rw [nth_right _ _ (by rw [bytesW_len]; omega), nth_bytesW xs i j h' hj]
    simp [nth]
theorem fin_num {x : Nat} (h : sfin x = true) : isNan .f32 x = false := by
  rw [sfin_iff] at h
  unfold isNum at h
  unfold isNan
  cases hd : FloatKind.f32.decode x <;> rw [hd] at h <;> first | rfl | cases h
theorem listW_bd (s : ByteArray) (r c : Int) (xs : List Nat) : ∀ x ∈ listW s r c xs, 0 ≤ x ∧ x < 256 := by
  intro x hx
  have hw : ∀ (n : Int) (m : Nat), x ∈ wn n m → 0 ≤ x ∧ x < 256 := fun n m h => by
    simp only [wn, List.mem_map] at h
    obtain ⟨j, _, rfl⟩ := h
    omega
  unfold listW preW at hx
  simp only [List.mem_append] at hx
  rcases hx with ((((h | h) | h) | h) | h) | h
  · simp at h; omega
  · simp only [List.mem_singleton] at h; rw [h, u8w]; omega
  · simp only [numsS, List.mem_map] at h
    obtain ⟨b, _, rfl⟩ := h
    have := b.toNat_lt; omega
  · simp only [List.mem_cons, List.not_mem_nil, or_false] at h
    rcases h with h | h <;> rw [h, u8w] <;> omega
  · simp only [bytesW, List.mem_flatMap] at h
    obtain ⟨y, _, h⟩ := h
    exact hw _ _ h
  · exact hw _ _ h
theorem bt_W (s : ByteArray) (r c : Int) (xs : List Nat) {i : Nat} (h : i < 9 + s.size + 4 * xs.length) : bt (stW s r c xs) (i : Int) = nth (listW s r c xs) i := by
  have hl : i < (listW s r c xs).length := by rw [listW_len]; exact h
  exact bt_str _ i hl (by rw [nth_of _ _ hl]; exact listW_bd s r c xs _ (List.getElem_mem hl))
section
variable (s : ByteArray) (r c : Int) (xs : List Nat)
def headW : List Int := ([(77 : Int), (65 : Int), (84 : Int), (49 : Int)] : List Int) ++ ([IntKind.u8.wrap (((s.size : Nat) : Int))] : List Int)
theorem headW_len : (headW s).length = 5 := rfl
theorem listW_eq : listW s r c xs = headW s ++ (numsS s ++ (([IntKind.u8.wrap (r), IntKind.u8.wrap (c)] : List Int) ++ (bytesW xs ++ wn (chkV (strOfNums (preW s r c xs))) 2))) := by
  unfold listW
  rw [show preW s r c xs = headW s ++ numsS s ++ ([IntKind.u8.wrap (r), IntKind.u8.wrap (c)] : List Int) ++ bytesW xs from rfl]
  simp only [List.append_assoc]
theorem W4 (hs : s.size ≤ 8) : bt (stW s r c xs) 4 = (s.size : Int) := by
  have := bt_W s r c xs (i := 4) (by omega)
  rw [show ((4 : Nat) : Int) = 4 from rfl] at this
  rw [this, listW_eq, nth_left _ _ (by rw [headW_len]; omega)]
  have e : nth (headW s) 4 = IntKind.u8.wrap (((s.size : Nat) : Int)) := rfl
  rw [e, u8w]; omega
theorem Wname {i : Nat} (hi : i < s.size) : bt (stW s r c xs) ((5 + i : Nat) : Int) = bt s (i : Int) := by
  rw [bt_W s r c xs (by omega), listW_eq, show 5 + i = (headW s).length + i from rfl, nth_right _ _ (by simp only [List.length_append, numsS_len]; omega), nth_left _ _ (by rw [numsS_len]; exact hi), bt_nums s i hi]
theorem Wrc {i : Nat} (hi : i < 2) : bt (stW s r c xs) ((5 + s.size + i : Nat) : Int) = nth ([IntKind.u8.wrap (r), IntKind.u8.wrap (c)] : List Int) i := by
  rw [bt_W s r c xs (by omega), listW_eq, show 5 + s.size + i = (headW s).length + ((numsS s).length + i) by rw [numsS_len, headW_len]; omega, nth_right _ _ (by simp only [List.length_append, numsS_len, List.length_cons, List.length_nil]; omega),
    nth_right _ _ (by simp only [List.length_append, List.length_cons, List.length_nil]; omega), nth_left _ _ (by simp; omega)]
theorem Wnum {i : Nat} (hi : i < 4 * xs.length) : bt (stW s r c xs) ((7 + s.size + i : Nat) : Int) = nth (bytesW xs) i := by
  rw [bt_W s r c xs (by omega), listW_eq, show 7 + s.size + i = (headW s).length + ((numsS s).length + (([IntKind.u8.wrap (r), IntKind.u8.wrap (c)] : List Int).length + i)) by rw [numsS_len, headW_len]; simp; omega, nth_right _ _ (by simp only [List.length_append, numsS_len, bytesW_len, List.length_cons, List.length_nil]; omega),
    nth_right _ _ (by simp only [List.length_append, bytesW_len, List.length_cons, List.length_nil]; omega), nth_right _ _ (by simp only [List.length_append, bytesW_len]; omega), nth_left _ _ (by rw [bytesW_len]; exact hi)]
theorem Wword {i : Nat} (hi : i < xs.length) (hx : nth xs i < 4294967296) (hf : sfin (nth xs i) = true) : word (stW s r c xs) (7 + (s.size : Int) + 4 * (i : Int)) = nth xs i := by
  have hv : bitsV (nth xs i) = ((nth xs i : Nat) : Int) := by unfold bitsV; rw [if_neg (by rw [fin_num hf]; simp)]
  have hb : ∀ j : Nat, j < 4 → bt (stW s r c xs) (7 + (s.size : Int) + 4 * (i : Int) + (j : Int)) = ((nth xs i : Nat) : Int) / 256 ^ j % 256 := fun j hj => by
    have := Wnum s r c xs (i := 4 * i + j) (by omega)
    rw [nth_bytesW xs i j hi hj, nth_wn _ hj, hv] at this
    rw [← this]
    congr 1
    omega
  have b0 := hb 0 (by omega)
  have b1 := hb 1 (by omega)
  have b2 := hb 2 (by omega)
  have b3 := hb 3 (by omega)
  have hn : num4 (stW s r c xs) (7 + (s.size : Int) + 4 * (i : Int)) = ((nth xs i : Nat) : Int) := by
    unfold num4
    rw [show (7 + (s.size : Int) + 4 * (i : Int)) = 7 + (s.size : Int) + 4 * (i : Int) + ((0 : Nat) : Int) by omega, b0]
    rw [show (7 + (s.size : Int) + 4 * (i : Int)) + ((0 : Nat) : Int) + 1 = 7 + (s.size : Int) + 4 * (i : Int) + ((1 : Nat) : Int) by omega, b1]
    rw [show (7 + (s.size : Int) + 4 * (i : Int)) + ((0 : Nat) : Int) + 2 = 7 + (s.size : Int) + 4 * (i : Int) + ((2 : Nat) : Int) by omega, b2]
    rw [show (7 + (s.size : Int) + 4 * (i : Int)) + ((0 : Nat) : Int) + 3 = 7 + (s.size : Int) + 4 * (i : Int) + ((3 : Nat) : Int) by omega, b3]
    simp only [Int.pow_zero, Int.ediv_one, Int.pow_succ, Int.one_mul]
    omega
  unfold word
  rw [hn, Int.toNat_natCast, canon_num (fin_num hf)]
end
/-- A sheet. -/
structure Sh where
  nm : ByteArray
  r : Int
  c : Int
  xs : List Nat
/-- A valid one. -/
structure Sh.Ok (x : Sh) : Prop where
  b : sheetB x.nm x.r x.c x.xs = true
  w : ∀ v ∈ x.xs, v < 4294967296
noncomputable def Sh.st (x : Sh) : ByteArray := stW x.nm x.r x.c x.xs
theorem Sh.st_size (x : Sh) : x.st.size = 9 + x.nm.size + 4 * x.xs.length := stW_size _ _ _ _
theorem Sh.Ok.store {x : Sh} (h : x.Ok) : impl_storeSheet_g x.nm x.r x.c x.xs = some x.st := by
  have h1 := (sheet_bd h.b).1
  have h2 := sheet_len h.b
  exact storeE _ _ _ _ (by omega) h.w (by omega)
theorem Sh.Ok.fin {x : Sh} (h : x.Ok) : x.xs.all sfin = true := by
  have := h.b
  unfold sheetB at this
  simp only [Bool.and_eq_true] at this
  exact this.2.2
/-- What stands in a sheet's bytes. -/
theorem Sh.Ok.hd {x : Sh} (h : x.Ok) {t : ByteArray} (hp : ∀ i : Nat, i < 7 + x.nm.size → bt t (i : Int) = bt x.st (i : Int)) : Hd t (x.nm.size : Int) x.r x.c x.xs.length := by
  obtain ⟨h1, h2, h3, h4, h5, h6⟩ := sheet_bd h.b
  have h7 := sheet_len h.b
  have e0 := Wrc x.nm x.r x.c x.xs (i := 0) (by omega)
  have e1 := Wrc x.nm x.r x.c x.xs (i := 1) (by omega)
  have q0 : nth ([IntKind.u8.wrap (x.r), IntKind.u8.wrap (x.c)] : List Int) 0 = x.r := by show IntKind.u8.wrap x.r = x.r; rw [u8w]; omega
  have q1 : nth ([IntKind.u8.wrap (x.r), IntKind.u8.wrap (x.c)] : List Int) 1 = x.c := by show IntKind.u8.wrap x.c = x.c; rw [u8w]; omega
  have a4 := hp 4 (by omega)
  have a5 := hp (5 + x.nm.size) (by omega)
  have a6 := hp (6 + x.nm.size) (by omega)
  have b4 : bt x.st 4 = (x.nm.size : Int) := W4 x.nm x.r x.c x.xs h1
  refine ⟨?_, ?_, ?_, by omega, by omega, by omega, h6.symm, by omega⟩
  · rw [show ((4 : Nat) : Int) = 4 from rfl] at a4; rw [a4, b4]
  · rw [show (5 : Int) + (x.nm.size : Int) = ((5 + x.nm.size : Nat) : Int) by omega, a5]
    exact (e0.trans q0).symm
  · rw [show (6 : Int) + (x.nm.size : Int) = ((6 + x.nm.size : Nat) : Int) by omega, a6]
    rw [show 5 + x.nm.size + 1 = 6 + x.nm.size by omega] at e1
    exact (e1.trans q1).symm
/-- What the program reads of bytes that are long enough. -/
theorem loadE (s : ByteArray) {k r c : Int} {m : Nat} (h : Hd s k r c m) (h5 : 5 ≤ (s.size : Int)) (h7 : 7 + k ≤ (s.size : Int)) (hs : 9 + k + 4 * (m : Int) ≤ (s.size : Int)) (hsz : s.size < 4294967296) :
    (sheetB (ByteArray.extract s (Int.toNat 5) (Int.toNat (5 + k))) r c (numsAt s (7 + k) m) = false ∧ impl_loadSheet_g s = some (.inl ByteArray.empty)) ∨
      (sheetB (ByteArray.extract s (Int.toNat 5) (Int.toNat (5 + k))) r c (numsAt s (7 + k) m) = true ∧ impl_loadSheet_g s = some
        (if ((stW (ByteArray.extract s (Int.toNat 5) (Int.toNat (5 + k))) r c (numsAt s (7 + k) m)).toList == (ByteArray.extract s 0 (Int.toNat (9 + k + 4 * (m : Int)))).toList) = true then .inr (.inr (ByteArray.extract s (Int.toNat 5) (Int.toNat (5 + k)), r, c, 9 + k + 4 * (m : Int), numsAt s (7 + k) m)) else .inl ByteArray.empty)) := by
  have lp := loopI s h (by omega) hsz
  have W := h.wr
  obtain ⟨hk, hr, hc, kb, rb, cb, hm, mb⟩ := h
  obtain ⟨wk, wr, wc, f7, f5, f6, _, _, _, pr, p4, en, en2⟩ := W
  have i4 : inb 4 s.size = true := inb_iff.2 ⟨by omega, by omega⟩
  have i5 : inb (5 + k) s.size = true := inb_iff.2 ⟨by omega, by omega⟩
  have i6 : inb (6 + k) s.size = true := inb_iff.2 ⟨by omega, by omega⟩
  have ok5 : sok 5 (5 + k) s.size = true := sok_iff.2 ⟨by omega, by omega, by omega⟩
  have ok0 : sok 0 (9 + k + 4 * (m : Int)) s.size = true := sok_iff.2 ⟨by omega, by omega, by omega⟩
  have c5 : decide (((s.size : Nat) : Int) < 5) = false := decide_eq_false (by omega)
  have c7 : decide (((s.size : Nat) : Int) < 7 + k) = false := decide_eq_false (by omega)
  have c9 : decide (((s.size : Nat) : Int) < 9 + k + 4 * (m : Int)) = false := decide_eq_false (by omega)
  have nsz := name_sz s k kb
  obtain ⟨nm, hnm⟩ : ∃ nm, nm = ByteArray.extract s (Int.toNat 5) (Int.toNat (5 + k)) := ⟨_, rfl⟩
  rw [← hnm] at nsz ⊢
  have z0 : Int.toNat (0 : Int) = 0 := rfl
  have valid : ∀ xs : List Nat, xs.length ≤ 65025 → impl_ValidSheet_g nm r c xs = some (sheetB nm r c xs) := fun xs hx => sheetI nm r c xs (by omega) (by unfold maxN; omega)
  simp only [impl_loadSheet_g, impl_loadSheet_T, Tree.run, wbt, ← hk, wk, f7, f5, f6, ← hr, ← hc, wr, wc, pr, p4, en, en2, c5, c7, c9, i4, i5, i6, ok5, ok0, if_true, Bool.false_eq_true, if_false, lp, Option.bind_some, ← hnm, z0]
  by_cases hm0 : m = 0
  · subst hm0
    have e0 : numsAt s (7 + k) 0 = [] := rfl
    have hv : sheetB nm r c [] = false := by
      cases hb : sheetB nm r c [] with
      | false => rfl
      | true => exact (sheet_zero nm r c hb).elim
    left
    refine ⟨by rw [e0]; exact hv, ?_⟩
    simp only [Tree.run, if_true, valid [] (by simp), hv, Option.bind_some, Bool.not_false]
  · simp only [hm0, if_false, Tree.run, valid _ (show (numsAt s (7 + k) m).length ≤ 65025 by rw [numsAt_len]; omega), Option.bind_some]
    cases hb : sheetB nm r c (numsAt s (7 + k) m) with
    | false => left; exact ⟨rfl, by simp [Tree.run]⟩
    | true =>
      right
      have w1 := storeE nm r c (numsAt s (7 + k) m) (by omega) (numsAt_lt _ _ _) (by rw [numsAt_len]; omega)
      refine ⟨rfl, ?_⟩
      simp only [Tree.run, Bool.not_true, Bool.false_eq_true, if_false, w1, Option.bind_some]
      cases ((stW nm r c (numsAt s (7 + k) m)).toList == (ByteArray.extract s 0 (Int.toNat (9 + k + 4 * (m : Int)))).toList) <;> simp
/-- Bytes that are too short. -/
theorem loadN (s : ByteArray) {k r c : Int} {m : Nat} (h : Hd s k r c m) (hs : (s.size : Int) < 9 + k + 4 * (m : Int)) (hsz : s.size < 4294967296) : impl_loadSheet_g s = some (.inl ByteArray.empty) := by
  have W := h.wr
  obtain ⟨hk, hr, hc, kb, rb, cb, hm, mb⟩ := h
  obtain ⟨wk, wr, wc, f7, f5, f6, g5, g6, g7, pr, p4, en, en2⟩ := W
  by_cases c5 : (s.size : Int) < 5
  · simp [impl_loadSheet_g, impl_loadSheet_T, Tree.run, c5]
  have i4 : inb 4 s.size = true := inb_iff.2 ⟨by omega, by omega⟩
  by_cases c7 : (s.size : Int) < 7 + k
  · simp only [impl_loadSheet_g, impl_loadSheet_T, Tree.run, c5, decide_false, Bool.false_eq_true, if_false, i4, if_true, wbt, ← hk, wk, f7, c7, decide_true, Option.bind_some]
  have i5 : inb (5 + k) s.size = true := inb_iff.2 ⟨by omega, by omega⟩
  have i6 : inb (6 + k) s.size = true := inb_iff.2 ⟨by omega, by omega⟩
  have ok5 : sok 5 (5 + k) s.size = true := sok_iff.2 ⟨by omega, by omega, by omega⟩
  simp only [impl_loadSheet_g, impl_loadSheet_T, Tree.run, c5, decide_false, Bool.false_eq_true, if_false, i4, i5, i6, ok5, if_true, wbt, ← hk, wk, f7, f5, f6, ← hr, ← hc, wr, wc, pr, p4, en, en2, c7, hs, decide_true, Option.bind_some]
def ls (s : ByteArray) : List UInt8 := s.data.toList
theorem ls_inj {a b : ByteArray} (h : ls a = ls b) : a = b := by
  apply ByteArray.ext
  exact Array.toList_inj.1 h
theorem ls_len (s : ByteArray) : (ls s).length = s.size := by simp only [ls, Array.length_toList]; rfl
theorem ls_extract (s : ByteArray) (a b : Nat) : ls (ByteArray.extract s a b) = ((ls s).take b).drop a := by
  simp only [ls, ByteArray.data_extract, Array.toList_extract, List.extract_eq_take_drop]
  rw [List.drop_take]
theorem ls_append (a b : ByteArray) : ls (a ++ b) = ls a ++ ls b := by simp [ls]
theorem beqS {a b : ByteArray} : (a.toList == b.toList) = true ↔ a = b := by
  rw [ByteArray.toList_eq, ByteArray.toList_eq]
  constructor
  · intro h; exact ls_inj (eq_of_beq h)
  · intro h; subst h; exact beq_self_eq_true _
noncomputable def loadP (t : ByteArray) : Option (Sh × Nat) :=
  match impl_loadSheet_g t with
  | some (.inr (.inr (nm, r, c, n, xs))) => some (⟨nm, r, c, xs⟩, n.toNat)
  | _ => none
theorem load_cases (t : ByteArray) (hsz : t.size < 4294967296) : (impl_loadSheet_g t = some (.inl ByteArray.empty) ∧ loadP t = none) ∨
    ∃ (x : Sh) (n : Nat), x.Ok ∧ impl_loadSheet_g t = some (.inr (.inr (x.nm, x.r, x.c, (n : Int), x.xs))) ∧ loadP t = some (x, n) ∧ n = x.st.size ∧ n ≤ t.size ∧ 0 < n ∧ ls x.st = (ls t).take n := by
  obtain ⟨k, r, c, m, h⟩ := hd t
  by_cases hs : 9 + k + 4 * (m : Int) ≤ (t.size : Int)
  · have kb := h.kb
    have key := loadE t h (by omega) (by omega) hs hsz
    generalize ByteArray.extract t (Int.toNat 5) (Int.toNat (5 + k)) = nm at key
    rcases key with ⟨_, h2⟩ | ⟨h1, h2⟩
    · left; exact ⟨h2, by unfold loadP; rw [h2]⟩
    · by_cases hb : ((stW nm r c (numsAt t (7 + k) m)).toList == (ByteArray.extract t 0 (Int.toNat (9 + k + 4 * (m : Int)))).toList) = true
      · right
        rw [if_pos hb] at h2
        have hst := beqS.1 hb
        have hn : (((9 + k + 4 * (m : Int)).toNat : Nat) : Int) = 9 + k + 4 * (m : Int) := by omega
        refine ⟨⟨nm, r, c, numsAt t (7 + k) m⟩, (9 + k + 4 * (m : Int)).toNat, ⟨h1, numsAt_lt _ _ _⟩, by rw [hn]; exact h2, by simp only [loadP, h2], ?_, by omega, by omega, ?_⟩
        · show _ = (stW nm r c (numsAt t (7 + k) m)).size
          rw [hst, ByteArray.size_extract]; omega
        · show ls (stW nm r c (numsAt t (7 + k) m)) = _
          rw [hst, ls_extract, List.drop_zero]
      · left
        rw [if_neg hb] at h2
        exact ⟨h2, by unfold loadP; rw [h2]⟩
  · left
    have := loadN t h (by omega) hsz
    exact ⟨this, by unfold loadP; rw [this]⟩
theorem nums_st {x : Sh} (h : x.Ok) : numsAt x.st (7 + (x.nm.size : Int)) x.xs.length = x.xs := by
  refine List.ext_getElem (numsAt_len _ _ _) fun i h1 h2 => ?_
  have hx : nth x.xs i = x.xs[i] := nth_of _ _ h2
  have hm : x.xs[i] ∈ x.xs := List.getElem_mem h2
  simp only [numsAt, List.getElem_map, List.getElem_range]
  have := Wword x.nm x.r x.c x.xs (i := i) h2 (by rw [hx]; exact h.w _ hm) (by rw [hx]; exact List.all_eq_true.1 h.fin _ hm)
  rw [← hx]
  exact this
theorem name_st {x : Sh} (h : x.Ok) : ByteArray.extract x.st (Int.toNat 5) (Int.toNat (5 + (x.nm.size : Int))) = x.nm := by
  have h1 := (sheet_bd h.b).1
  have hz := x.st_size
  have e5 : Int.toNat 5 = 5 := rfl
  have e6 : Int.toNat (5 + (x.nm.size : Int)) = 5 + x.nm.size := by omega
  rw [e5, e6]
  have hs : (ByteArray.extract x.st 5 (5 + x.nm.size)).size = x.nm.size := by rw [ByteArray.size_extract]; omega
  refine ba_ext _ _ hs fun i hi => ?_
  rw [hs] at hi
  rw [bt_extract x.st 5 (5 + x.nm.size) i (by omega) (by omega)]
  exact Wname x.nm x.r x.c x.xs hi
theorem load_app {x : Sh} (h : x.Ok) {t : ByteArray} {z : List UInt8} (hsz : t.size < 4294967296) (hp : ls t = ls x.st ++ z) : loadP t = some (x, x.st.size) := by
  have hz := x.st_size
  have hle : x.st.size ≤ t.size := by rw [← ls_len, ← ls_len t, hp, List.length_append]; omega
  have hst : ByteArray.extract t 0 (Int.toNat (x.st.size : Int)) = x.st := by
    apply ls_inj
    rw [ls_extract, List.drop_zero, hp, Int.toNat_natCast, ← ls_len, List.take_left']
    rfl
  have hbt : ∀ i : Nat, i < x.st.size → bt t (i : Int) = bt x.st (i : Int) := fun i hi => by
    have := bt_head t (n := (x.st.size : Int)) (i := (i : Int)) (by omega) (by omega) (by omega)
    rw [hst] at this
    exact this.symm
  have H := h.hd (t := t) fun i hi => hbt i (by omega)
  have n1 := numsAt_head t (n := (x.st.size : Int)) (a := 7 + (x.nm.size : Int)) (m := x.xs.length) (by omega) (by omega) (by omega)
  have n2 := ext_head t (n := (x.st.size : Int)) (a := Int.toNat 5) (b := Int.toNat (5 + (x.nm.size : Int))) (by omega) (by omega)
  rw [hst, nums_st h] at n1
  rw [hst, name_st h] at n2
  have key := loadE t H (by omega) (by omega) (by omega) hsz
  rw [← n1, ← n2] at key
  have hn : 9 + (x.nm.size : Int) + 4 * (x.xs.length : Int) = (x.st.size : Int) := by omega
  rw [hn, hst] at key
  rcases key with ⟨h1, _⟩ | ⟨_, h2⟩
  · rw [h.b] at h1; cases h1
  · have hb : ((stW x.nm x.r x.c x.xs).toList == x.st.toList) = true := beqS.2 rfl
    rw [if_pos hb] at h2
    unfold loadP
    rw [h2]
    simp
theorem load_cut {x : Sh} (h : x.Ok) {t : ByteArray} (ht : t.size < x.st.size) (hp : ls t = (ls x.st).take t.size) : loadP t = none := by
  have hz := x.st_size
  have h1 := sheet_bd h.b
  have h2 := sheet_len h.b
  have hst : t = ByteArray.extract x.st 0 (Int.toNat (t.size : Int)) := by
    apply ls_inj
    rw [ls_extract, List.drop_zero, Int.toNat_natCast]; exact hp
  have hbt : ∀ i : Nat, i < t.size → bt t (i : Int) = bt x.st (i : Int) := fun i hi => by
    have := bt_head x.st (n := (t.size : Int)) (i := (i : Int)) (by omega) (by omega) (by omega)
    rw [← hst] at this
    exact this
  have key : impl_loadSheet_g t = some (.inl ByteArray.empty) := by
    by_cases c7 : 7 + x.nm.size ≤ t.size
    · exact loadN t (h.hd (t := t) fun i hi => hbt i (by omega)) (by omega) (by omega)
    · obtain ⟨k, r, c, m, H⟩ := hd t
      refine loadN t H ?_ (by omega)
      have kb := H.kb
      by_cases c5 : t.size < 5
      · omega
      · have e := hbt 4 (by omega)
        have e4 : bt x.st 4 = (x.nm.size : Int) := W4 x.nm x.r x.c x.xs h1.1
        have ek := H.ek
        rw [show ((4 : Nat) : Int) = 4 from rfl] at e
        rw [e, e4] at ek
        omega
  unfold loadP
  rw [key]
theorem load_empty {t : ByteArray} (ht : t.size < 5) : loadP t = none := by
  obtain ⟨k, r, c, m, H⟩ := hd t
  have kb := H.kb
  have := loadN t H (by omega) (by omega)
  unfold loadP
  rw [this]
/-- The bytes of sheets. -/
noncomputable def catL (L : List Sh) : List UInt8 := L.flatMap fun x => ls x.st
theorem catL_app (L M : List Sh) : catL (L ++ M) = catL L ++ catL M := by simp [catL]
theorem catL_one (x : Sh) : catL [x] = ls x.st := by simp [catL]
theorem catL_cons (x : Sh) (L : List Sh) : catL (x :: L) = ls x.st ++ catL L := by simp [catL]
noncomputable def recP : Nat → ByteArray → Nat → List Sh → List Sh × Nat
  | 0, _, u, L => (L, u)
  | d + 1, s, u, L => match loadP (ByteArray.extract s u s.size) with | none => (L, u) | some (x, n) => recP d s (u + n) (L ++ [x])
theorem rec_ok (s : ByteArray) (hsz : s.size < 4294967296) : ∀ (d u : Nat) (L : List Sh), u ≤ s.size → (∀ x ∈ L, x.Ok) → catL L = (ls s).take u →
    (∀ x ∈ (recP d s u L).1, x.Ok) ∧ catL (recP d s u L).1 = (ls s).take (recP d s u L).2 ∧ (recP d s u L).2 ≤ s.size ∧ L.length ≤ (recP d s u L).1.length ∧ (recP d s u L).1.length ≤ L.length + d
  | 0, u, L, h0, h1, h2 => ⟨h1, h2, h0, Nat.le_refl _, Nat.le_refl _⟩
  | d + 1, u, L, h0, h1, h2 => by
    have tsz : (ByteArray.extract s u s.size).size = s.size - u := by rw [ByteArray.size_extract]; omega
    rcases load_cases (ByteArray.extract s u s.size) (by omega) with ⟨_, e⟩ | ⟨x, n, hx, _, e, g1, g2, g3, g4⟩
    · simp only [recP, e]
      exact ⟨h1, h2, h0, Nat.le_refl _, by omega⟩
    · simp only [recP, e]
      rw [tsz] at g2
      obtain ⟨k1, k2, k3, k4, k5⟩ := rec_ok s hsz d (u + n) (L ++ [x]) (by omega) (fun y hy => by
        rcases List.mem_append.1 hy with hy | hy
        · exact h1 y hy
        · rw [List.mem_singleton.1 hy]; exact hx) (by
        have e0 : (ls s).take s.size = ls s := List.take_of_length_le (by rw [ls_len]; exact Nat.le_refl _)
        rw [catL_app, catL_one, g4, h2, ls_extract, e0, ← List.take_add])
      rw [List.length_append, List.length_singleton] at k4 k5
      exact ⟨k1, k2, k3, by omega, by omega⟩
theorem rec_pre (s : ByteArray) (hsz : s.size < 4294967296) : ∀ (M : List Sh) (d u : Nat) (L : List Sh) (A Z : List UInt8), (∀ x ∈ M, x.Ok) → ls s = A ++ (catL M ++ Z) → A.length = u → M.length ≤ d →
    recP d s u L = recP (d - M.length) s (u + (catL M).length) (L ++ M)
  | [], d, u, L, A, Z, _, _, _, _ => by simp [catL]
  | x :: M, d, u, L, A, Z, h1, h2, h3, h4 => by
    obtain ⟨d, rfl⟩ : ∃ e, d = e + 1 := ⟨d - 1, by simp only [List.length_cons] at h4; omega⟩
    have hl : ls (ByteArray.extract s u s.size) = ls x.st ++ (catL M ++ Z) := by
      rw [ls_extract, List.take_of_length_le (by rw [ls_len]; exact Nat.le_refl _), h2, ← h3, List.drop_left', catL_cons, List.append_assoc]
      rfl
    have tsz : (ByteArray.extract s u s.size).size ≤ s.size := by rw [ByteArray.size_extract]; omega
    have e := load_app (h1 x (by simp)) (by omega) hl
    have ih := rec_pre s hsz M d (u + x.st.size) (L ++ [x]) (A ++ ls x.st) Z (fun y hy => h1 y (by simp [hy])) (by rw [h2, catL_cons]; simp only [List.append_assoc]) (by rw [List.length_append, ls_len, h3]) (by simp only [List.length_cons] at h4; omega)
    simp only [recP, e]
    rw [ih, catL_cons, List.length_append, ls_len]
    simp only [List.length_cons, List.append_assoc, List.cons_append, List.nil_append, Nat.add_assoc]
    congr 1
    omega
/-- What a single that is a number widens to. -/
theorem wid_dec (x : Nat) (s : Bool) (hnum : x % 2147483648 < 2139095040) (hz : x % 2147483648 ≠ 0) (hs : (x / 2147483648 % 2 == 1) = s) :
    ∃ K q, FloatKind.f64.decode (wid x) = .number s K q ∧ 4503599627370496 ≤ K ∧ K < 9007199254740992 ∧ -201 ≤ q ∧ q ≤ 104 := by
  obtain ⟨m, i, hd, hm, hL, hi1, hi2, hw⟩ := parts32 x hnum hz
  rw [hs] at hd
  have d1 : double.signWeight = 9223372036854775808 := by kernel_rfl
  have d2 : double.binade = 4503599627370496 := by kernel_rfl
  have d3 : double.infRung = 9218868437227405312 := by kernel_rfl
  have d4 : double.leastPlace = -1074 := by kernel_rfl
  have d5 : double.fractionBits = 52 := rfl
  obtain ⟨e, he⟩ : ∃ e, e = 52 - m.log2 := ⟨_, rfl⟩
  obtain ⟨K, hK⟩ : ∃ K, K = m * 2 ^ e := ⟨_, rfl⟩
  have hK1 : 4503599627370496 ≤ K := by
    have a : 2 ^ m.log2 ≤ m := Nat.log2_self_le hm
    have := Nat.mul_le_mul_right (2 ^ e) a
    rw [← Nat.pow_add, show m.log2 + e = 52 by omega, ← hK] at this
    exact this
  have hK2 : K < 9007199254740992 := by
    have := Nat.mul_lt_mul_of_pos_right (pow_lt_log hm) (Nat.two_pow_pos e)
    rw [← Nat.pow_add, show m.log2 + 1 + e = 53 by omega, ← hK] at this
    exact this
  obtain ⟨p, hp⟩ : ∃ p : Nat, (p : Int) = i + m.log2 + 1022 := ⟨(i + m.log2 + 1022).toNat, by omega⟩
  have hw64 : FloatKind.f64.encode (.number s m i) = double.word s (p * 4503599627370496 + K) := by
    have := near_same double s hm i 0 (by rw [d5]; omega) (by rw [d4]; omega)
    rw [Nat.pow_zero, Nat.mul_one, d2, d3, d4, d5] at this
    have h0 : i - ((0 : Nat) : Int) = i := by omega
    rw [h0] at this
    have h1 : max (i + (m.log2 : Int) - ((52 : Nat) : Int)) (-1074) = i + m.log2 - 52 := Int.max_eq_left (by omega)
    rw [h1] at this
    have h2 : (i + (m.log2 : Int) - 52 - -1074).toNat = p := by omega
    have h3 : (i - (i + (m.log2 : Int) - 52)).toNat = e := by omega
    rw [h2, h3, ← hK] at this
    have h4 : min (p * 4503599627370496 + K) 9218868437227405312 = p * 4503599627370496 + K := Nat.min_eq_left (by omega)
    rw [h4] at this
    exact this
  obtain ⟨N, hN⟩ : ∃ N, N = p * 4503599627370496 + K := ⟨_, rfl⟩
  have hNb : N < 9218868437227405312 := by omega
  rw [← hN] at hw64
  obtain ⟨w1, w2⟩ := word64 s N hNb
  have hsg : (double.word s N / 9223372036854775808 % 2 == 1) = s := by
    unfold Format.word
    rw [d1]
    cases s
    · simp only [Bool.false_eq_true, if_false]
      have : (0 + N) / 9223372036854775808 % 2 = 0 := by omega
      have h2 : N / 9223372036854775808 % 2 = 0 := by omega
      first | (rw [this]; rfl) | (rw [h2]; rfl)
    · simp only [if_true]
      have : (9223372036854775808 + N) / 9223372036854775808 % 2 = 1 := by omega
      have h2 : (N + 9223372036854775808) / 9223372036854775808 % 2 = 1 := by omega
      first | (rw [this]; rfl) | (rw [h2]; rfl)
  have hwid : wid x = double.word s N := by
    unfold wid fconv
    rw [if_neg (by decide), hd]
    simp only
    rw [hw64, if_neg (by rw [isInf_f64_num (by rw [w1]; omega)]; simp)]
    simp only [Option.getD_some, canon_num w2]
  refine ⟨K, i - e, ?_, hK1, hK2, by omega, by omega⟩
  rw [hwid]
  unfold FloatKind.decode FloatKind.format Format.read
  simp only [d1, d2, d3, d4]
  rw [w1, if_neg (by omega), if_pos (by omega), hsg]
  have h3 : 4503599627370496 + N % 4503599627370496 = K := by omega
  have h4 : (-1074 : Int) + ((N / 4503599627370496 - 1 : Nat) : Int) = i - e := by omega
  rw [h3, h4]
theorem word_inj {s : Bool} {a b : Nat} (h : single.word s a = single.word s b) : a = b := by
  have e1 : single.signWeight = 2147483648 := by kernel_rfl
  unfold Format.word at h
  cases s <;> simp at h <;> omega
theorem signed_inj {s : Bool} {a b i j : Nat} (h : signed s a i = signed s b j) : a * 2 ^ i = b * 2 ^ j := by
  unfold signed at h
  simp only [Nat.shiftLeft_eq] at h
  cases s
  · exact Int.ofNat.inj h
  · exact Int.ofNat.inj (Int.neg_inj.1 h)
theorem read_inf (x : Nat) (h : x % 2147483648 = 2139095040) : FloatKind.f32.decode x = .infinity (x / 2147483648 % 2 == 1) := by
  have e1 : single.signWeight = 2147483648 := by kernel_rfl
  have e2 : single.binade = 8388608 := by kernel_rfl
  have e3 : single.infRung = 2139095040 := by kernel_rfl
  have e4 : single.leastPlace = -149 := by kernel_rfl
  unfold FloatKind.decode FloatKind.format Format.read
  simp only [e1, e2, e3, e4, h]
  rfl
theorem read_zero (x : Nat) (h : x % 2147483648 = 0) : FloatKind.f32.decode x = .number (x / 2147483648 % 2 == 1) 0 (-149) := by
  rw [read32 x (by omega), h]; rfl
theorem feq_form (x y : Nat) : feq .f32 x y = ((FloatKind.f32.decode x).order (FloatKind.f32.decode y) == some .eq) := rfl
theorem cmp_eq {a b : Int} (h : (some (compare a b) == some Ordering.eq) = true) : a = b := by
  have : compare a b = .eq := by simpa using h
  exact Int.compare_eq_eq.1 this
/-- Equal singles with equal signs have one word. -/
theorem feq_word {x y : Nat} (hx : isNan .f32 x = false) (hy : isNan .f32 y = false) (hs : x / 2147483648 % 2 = y / 2147483648 % 2) (h : feq .f32 x y = true) : x % 2147483648 = y % 2147483648 := by
  rw [isNan_f32] at hx hy
  simp only [decide_eq_false_iff_not, Nat.not_lt] at hx hy
  rw [feq_form] at h
  have hsb : (y / 2147483648 % 2 == 1) = (x / 2147483648 % 2 == 1) := by rw [hs]
  by_cases ix : x % 2147483648 = 2139095040
  · rw [read_inf x ix] at h
    by_cases iy : y % 2147483648 = 2139095040
    · omega
    · exfalso
      by_cases zy : y % 2147483648 = 0
      · rw [read_zero y zy] at h
        cases hq : (x / 2147483648 % 2 == 1) <;> rw [hq] at h <;> simp [Datum.order] at h
      · obtain ⟨n, j, d, _⟩ := parts32 y (by omega) zy
        rw [d] at h
        cases hq : (x / 2147483648 % 2 == 1) <;> rw [hq] at h <;> simp [Datum.order] at h
  · by_cases iy : y % 2147483648 = 2139095040
    · exfalso
      rw [read_inf y iy] at h
      by_cases zx : x % 2147483648 = 0
      · rw [read_zero x zx] at h
        cases hq : (y / 2147483648 % 2 == 1) <;> rw [hq] at h <;> simp [Datum.order] at h
      · obtain ⟨n, j, d, _⟩ := parts32 x (by omega) zx
        rw [d] at h
        cases hq : (y / 2147483648 % 2 == 1) <;> rw [hq] at h <;> simp [Datum.order] at h
    · by_cases zx : x % 2147483648 = 0
      · by_cases zy : y % 2147483648 = 0
        · omega
        · exfalso
          obtain ⟨n, j, d, hn, _⟩ := parts32 y (by omega) zy
          rw [read_zero x zx, d, hsb] at h
          simp only [Datum.order] at h
          have := signed_inj (cmp_eq h)
          rw [Nat.zero_mul] at this
          have := Nat.mul_ne_zero hn (Nat.ne_of_gt (Nat.two_pow_pos (j - min (-149) j).toNat))
          omega
      · obtain ⟨m, i, d, hm, _, hi, _, hw⟩ := parts32 x (by omega) zx
        by_cases zy : y % 2147483648 = 0
        · exfalso
          rw [read_zero y zy, d, hsb] at h
          simp only [Datum.order] at h
          have := signed_inj (cmp_eq h)
          rw [Nat.zero_mul] at this
          have := Nat.mul_ne_zero hm (Nat.ne_of_gt (Nat.two_pow_pos (i - min i (-149)).toNat))
          omega
        · obtain ⟨n, j, d', hn, _, hj, _, hw'⟩ := parts32 y (by omega) zy
          rw [d, d', hsb] at h
          simp only [Datum.order] at h
          have he := signed_inj (cmp_eq h)
          have h1 := hw false (i - min i j).toNat
          have h2 := hw' false (j - min i j).toNat
          rw [he, show i - (((i - min i j).toNat : Nat) : Int) = j - (((j - min i j).toNat : Nat) : Int) by omega, h2] at h1
          exact (word_inj h1).symm
/-- The sign of a double's word. -/
theorem sgn64 (w : Nat) (s : Bool) (h : (∃ m i, FloatKind.f64.decode w = .number s m i) ∨ FloatKind.f64.decode w = .infinity s) : (w / 9223372036854775808 % 2 == 1) = s := by
  have e1 : double.signWeight = 9223372036854775808 := by kernel_rfl
  have e2 : double.binade = 4503599627370496 := by kernel_rfl
  have e3 : double.infRung = 9218868437227405312 := by kernel_rfl
  have e4 : double.leastPlace = -1074 := by kernel_rfl
  unfold FloatKind.decode FloatKind.format Format.read at h
  simp only [e1, e2, e3, e4] at h
  rcases h with ⟨m, i, h⟩ | h
  · split at h
    · cases h; rfl
    · split at h
      · cases h; rfl
      · split at h <;> cases h
  · split at h
    · cases h
    · split at h
      · cases h
      · split at h
        · cases h; rfl
        · cases h
theorem z_p : wid 0 = 0 := by kernel_rfl
theorem z_n : wid 2147483648 = 9223372036854775808 := by kernel_rfl
theorem i_p : wid 2139095040 = 9218868437227405312 := by kernel_rfl
theorem i_n : wid 4286578688 = 18442240474082181120 := by kernel_rfl
theorem wid_sign {x : Nat} (hx : x < 4294967296) (hn : isNan .f32 x = false) : (wid x / 9223372036854775808 % 2 == 1) = (x / 2147483648 % 2 == 1) ∧ isNan .f64 (wid x) = false := by
  rw [isNan_f32] at hn
  simp only [decide_eq_false_iff_not, Nat.not_lt] at hn
  by_cases ix : x % 2147483648 = 2139095040
  · have : x = 2139095040 ∨ x = 4286578688 := by omega
    rcases this with rfl | rfl
    · rw [i_p]; exact ⟨by decide, by kernel_rfl⟩
    · rw [i_n]; exact ⟨by decide, by kernel_rfl⟩
  · by_cases zx : x % 2147483648 = 0
    · have : x = 0 ∨ x = 2147483648 := by omega
      rcases this with rfl | rfl
      · rw [z_p]; exact ⟨by decide, by kernel_rfl⟩
      · rw [z_n]; exact ⟨by decide, by kernel_rfl⟩
    · obtain ⟨K, q, hd, _⟩ := wid_dec x _ (by omega) zx rfl
      exact ⟨sgn64 _ _ (.inl ⟨K, q, hd⟩), by unfold isNan; rw [hd]; rfl⟩
theorem wrap_neg (n : Nat) : decide (IntKind.i64.wrap ((n : Nat) : Int) < 0) = (n / 9223372036854775808 % 2 == 1) := by
  rw [IntKind.wrap_i64]
  by_cases h : n / 9223372036854775808 % 2 = 1
  · rw [h]; exact decide_eq_true (by omega)
  · have : n / 9223372036854775808 % 2 = 0 := by omega
    rw [this]; exact decide_eq_false (by omega)
/-- One word, or both no number. -/
def sameW (a b : Nat) : Bool := if isNan .f32 a = true then isNan .f32 b else if isNan .f32 b = true then false else decide (a = b)
theorem signI (x : Nat) (hx : x < 4294967296) (hn : isNan .f32 x = false) : math_Signbit_g (wid x) = some (x / 2147483648 % 2 == 1) := by
  obtain ⟨h1, h2⟩ := wid_sign hx hn
  simp only [math_Signbit_g, math_Signbit_T, Tree.run, h2, Bool.not_false, if_true, wrap_neg, h1]
theorem sameI (a b : Nat) (ha : a < 4294967296) (hb : b < 4294967296) : impl_SameNumber_g a b = some (sameW a b) := by
  unfold sameW
  cases h1 : isNan .f32 a with
  | true =>
    cases h2 : isNan .f32 b with
    | true => simp [impl_SameNumber_g, impl_SameNumber_T, Tree.run, feq_nan h1, feq_nan h2]
    | false => simp [impl_SameNumber_g, impl_SameNumber_T, Tree.run, feq_nan h1, feq_self h2]
  | false =>
    cases h2 : isNan .f32 b with
    | true => simp [impl_SameNumber_g, impl_SameNumber_T, Tree.run, feq_self h1, feq_nan h2]
    | false =>
      have s1 := signI a ha h1
      have s2 := signI b hb h2
      by_cases e : a = b
      · subst e
        simp [impl_SameNumber_g, impl_SameNumber_T, Tree.run, feq_self h1, s1]
      · cases hf : feq .f32 a b with
        | false => simp [impl_SameNumber_g, impl_SameNumber_T, Tree.run, feq_self h1, feq_self h2, hf, e]
        | true =>
          have hs : a / 2147483648 % 2 ≠ b / 2147483648 % 2 := fun hs => by
            have := feq_word h1 h2 hs hf
            omega
          have hb2 : ((a / 2147483648 % 2 == 1) == (b / 2147483648 % 2 == 1)) = false := by
            have q1 : a / 2147483648 % 2 = 0 ∨ a / 2147483648 % 2 = 1 := by omega
            have q2 : b / 2147483648 % 2 = 0 ∨ b / 2147483648 % 2 = 1 := by omega
            rcases q1 with q1 | q1 <;> rcases q2 with q2 | q2 <;> rw [q1, q2] <;> first | rfl | (exfalso; omega)
          simp only [impl_SameNumber_g, impl_SameNumber_T, Tree.run, feq_self h1, feq_self h2, hf, s1, s2, Option.bind_some, Bool.not_true, Bool.false_eq_true, if_false, if_true, hb2, e, decide_false]
/-- Which row belongs to which element: each has its own. -/
def ixR (K : Nat) : List Nat := (List.range K).map (· + 1)
theorem ixR_len (K : Nat) : (ixR K).length = K := by simp [ixR]
theorem ixR_nth {K i : Nat} (h : i < K) : nth (ixR K) i = i + 1 := by
  rw [nth_of _ _ (by rw [ixR_len]; exact h)]; simp [ixR]
theorem ixR_succ (K : Nat) : ixR (K + 1) = ixR K ++ [K + 1] := by simp [ixR, List.range_succ]
def cN (L : List Sh) : List ByteArray := L.map Sh.nm
def cR (L : List Sh) : List Int := L.map Sh.r
def cC (L : List Sh) : List Int := L.map Sh.c
def cX (L : List Sh) : List (List Nat) := L.map Sh.xs
theorem nth_map {β : Type} [Inhabited β] (f : Sh → β) {L : List Sh} {i : Nat} (h : i < L.length) : nth (L.map f) i = f L[i] := by
  rw [nth_of _ _ (by simpa using h)]; simp
theorem nN {L : List Sh} {i : Nat} (h : i < L.length) : nth (cN L) i = L[i].nm := nth_map _ h
theorem nR {L : List Sh} {i : Nat} (h : i < L.length) : nth (cR L) i = L[i].r := nth_map _ h
theorem nC {L : List Sh} {i : Nat} (h : i < L.length) : nth (cC L) i = L[i].c := nth_map _ h
theorem nX {L : List Sh} {i : Nat} (h : i < L.length) : nth (cX L) i = L[i].xs := nth_map _ h
theorem gX' {L : List Sh} {i : Nat} (h : i < L.length) : nget (cX L) (i + 1) = L[i].xs := nX h
theorem cN_len (L : List Sh) : (cN L).length = L.length := by simp [cN]
theorem cR_len (L : List Sh) : (cR L).length = L.length := by simp [cR]
theorem cC_len (L : List Sh) : (cC L).length = L.length := by simp [cC]
theorem cX_len (L : List Sh) : (cX L).length = L.length := by simp [cX]
theorem ix_all (L : List Sh) : (ixR L.length).map (nget (cX L)) = cX L := by
  refine List.ext_getElem (by simp [ixR_len, cX_len]) fun i h1 h2 => ?_
  rw [cX_len] at h2
  have e : nget (cX L) (i + 1) = L[i].xs := gX' h2
  have e2 : (cX L)[i] = L[i].xs := by simp [cX]
  rw [e2]
  simp only [ixR, List.map_map, List.getElem_map, List.getElem_range, Function.comp_apply]
  exact e
theorem Sh.Ok.size {x : Sh} (h : x.Ok) : x.st.size ≤ 593 := by
  have h1 := (sheet_bd h.b).1
  have h2 := sheet_len h.b
  rw [x.st_size]; omega
theorem Sh.Ok.valid {x : Sh} (h : x.Ok) : impl_ValidSheet_g x.nm x.r x.c x.xs = some true := by
  have h1 := (sheet_bd h.b).1
  have h2 := sheet_len h.b
  rw [sheetI _ _ _ _ (by omega) (by unfold maxN; omega), h.b]
theorem store_run {x : Sh} (h : x.Ok) : impl_StoreSheet_g x.nm x.r x.c x.xs = some (.inr x.st) := by
  simp only [impl_StoreSheet_g, impl_StoreSheet_T, Tree.run, h.valid, Option.bind_some, Bool.not_true, Bool.false_eq_true, if_false, h.store]
theorem load_some {t : ByteArray} {x : Sh} {n : Nat} (hsz : t.size < 4294967296) (h : loadP t = some (x, n)) : impl_loadSheet_g t = some (.inr (.inr (x.nm, x.r, x.c, (n : Int), x.xs))) := by
  rcases load_cases t hsz with ⟨_, e⟩ | ⟨y, m, _, k, e, _⟩
  · rw [h] at e; cases e
  · rw [h] at e
    simp only [Option.some.injEq, Prod.mk.injEq] at e
    obtain ⟨rfl, rfl⟩ := e
    exact k
theorem load_none {t : ByteArray} (hsz : t.size < 4294967296) (h : loadP t = none) : impl_loadSheet_g t = some (.inl ByteArray.empty) := by
  rcases load_cases t hsz with ⟨k, _⟩ | ⟨y, m, _, k, e, _⟩
  · exact k
  · rw [h] at e; cases e
theorem load_run {x : Sh} (h : x.Ok) : impl_LoadSheet_g x.st = some (.inr (.inr (x.nm, x.r, x.c, x.xs))) := by
  have hz := h.size
  have := load_some (by omega) (load_app h (t := x.st) (z := []) (by omega) (by simp))
  simp only [impl_LoadSheet_g, impl_LoadSheet_T, Tree.run, this, Option.bind_some, decide_true, Bool.not_true, Bool.false_eq_true, if_false]
/-- The same words are the same numbers. -/
theorem num_run {a : Nat} (h : a < 4294967296) (hf : sfin a = true) : impl_SameNumber_g a a = some true := by
  have hn := fin_num hf
  have hs := signI a h hn
  simp only [impl_SameNumber_g, impl_SameNumber_T, Tree.run, feq_self hn, Bool.not_true, Bool.false_eq_true, if_false, if_true, hs, Option.bind_some, beq_self_eq_true]
theorem nums_run {xs : List Nat} (h : ∀ v ∈ xs, v < 4294967296) (hf : xs.all sfin = true) (hl : xs.length ≤ 1000) : impl_sameNumbers_g xs xs = some true := by
  have := whileM_fix (T := fun s => (slices_EqualFunc_float32_float32_float32_float32_l0_T xs xs s).run) (n := xs.length) (r := .inr ()) (fun i => ((i : Nat) : Int))
    (fun i hi => by
      have hm : nth xs i ∈ xs := by rw [nth_of _ _ hi]; exact List.getElem_mem hi
      have he := num_run (h _ hm) (List.all_eq_true.1 hf _ hm)
      simp only [slices_EqualFunc_float32_float32_float32_float32_l0_T, Tree.run, ltn, hi, inb_nat, decide_true, if_true, Int.toNat_natCast, he, Option.bind_some, Bool.not_true, Bool.false_eq_true, if_false, w_succ (show i < 4611686018427387904 by omega)])
    (by simp only [slices_EqualFunc_float32_float32_float32_float32_l0_T, Tree.run, ltn, Nat.lt_irrefl, decide_false, Bool.false_eq_true, if_false])
  have this : slices_EqualFunc_float32_float32_float32_float32_l0_g xs xs (0 : Int) = some (.inr ()) := this
  simp only [impl_sameNumbers_g, impl_sameNumbers_T, slices_EqualFunc_float32_float32_float32_float32_g, slices_EqualFunc_float32_float32_float32_float32_T, Tree.run, decide_true, Bool.not_true, Bool.false_eq_true, if_false, if_true, this, Option.bind_some]
theorem one_same {x : Sh} (h : x.Ok) : impl_SameSheets_1_g x.nm x.r x.c x.xs x.nm x.r x.c x.xs = some true := by
  have h2 := sheet_len h.b
  simp only [impl_SameSheets_1_g, impl_SameSheets_1_T, impl_SameMatrix_g, impl_SameMatrix_T, Tree.run, beq_self_eq_true, decide_true, if_true, nums_run h.w h.fin (by omega), Option.bind_some]
theorem same_run {L : List Sh} (h : ∀ x ∈ L, x.Ok) (hl : L.length ≤ 1000) : impl_SameSheets_g (cN L) (cR L) (cC L) (cX L) (cN L) (cR L) (cC L) (cX L) = some true := by
  have := whileM_fix (T := fun s => (slices_EqualFunc_impl_Sheet_impl_Sheet_impl_Sheet_impl_Sheet_l0_T (cN L) (cR L) (cC L) (cX L) (cN L) (cR L) (cC L) (cX L) s).run) (n := L.length) (r := .inr ()) (fun i => ((i : Nat) : Int))
    (fun i hi => by
      have he := one_same (h _ (List.getElem_mem hi))
      simp only [slices_EqualFunc_impl_Sheet_impl_Sheet_impl_Sheet_impl_Sheet_l0_T, Tree.run, cN_len, ltn, hi, inb_nat, decide_true, if_true, Int.toNat_natCast, nN hi, nR hi, nC hi, nX hi, he, Option.bind_some, Bool.not_true, Bool.false_eq_true, if_false, w_succ (show i < 4611686018427387904 by omega)])
    (by simp only [slices_EqualFunc_impl_Sheet_impl_Sheet_impl_Sheet_impl_Sheet_l0_T, Tree.run, cN_len, ltn, Nat.lt_irrefl, decide_false, Bool.false_eq_true, if_false])
  have this : slices_EqualFunc_impl_Sheet_impl_Sheet_impl_Sheet_impl_Sheet_l0_g (cN L) (cR L) (cC L) (cX L) (cN L) (cR L) (cC L) (cX L) (0 : Int) = some (.inr ()) := this
  simp only [impl_SameSheets_g, impl_SameSheets_T, slices_EqualFunc_impl_Sheet_impl_Sheet_impl_Sheet_impl_Sheet_g, slices_EqualFunc_impl_Sheet_impl_Sheet_impl_Sheet_impl_Sheet_T, Tree.run, decide_true, Bool.not_true, Bool.false_eq_true, if_false, if_true, this, Option.bind_some]
/-- The bytes of sheets. -/
noncomputable def catB (L : List Sh) : ByteArray := ⟨(catL L).toArray⟩
theorem ls_catB (L : List Sh) : ls (catB L) = catL L := by simp [ls, catB]
theorem catB_size (L : List Sh) : (catB L).size = (catL L).length := by rw [← ls_len, ls_catB]
theorem catL_len {L : List Sh} (h : ∀ x ∈ L, x.Ok) : (catL L).length ≤ 593 * L.length := by
  induction L with
  | nil => simp [catL]
  | cons x L ih =>
    have h1 := (h x (by simp)).size
    have h2 := ih fun y hy => h y (by simp [hy])
    rw [catL_cons, List.length_append, ls_len, List.length_cons]; omega
theorem stores_run {L : List Sh} (h : ∀ x ∈ L, x.Ok) (hl : L.length ≤ 8) : impl_StoreSheets_g (cN L) (cR L) (cC L) (cX L) = some (.inr (catB L)) := by
  have i1 := whileM_fix (T := fun s => (slices_IndexFunc_impl_Sheet_impl_Sheet_l0_T (cN L) (cR L) (cC L) (cX L) s).run) (n := L.length) (r := .inr ()) (fun i => ((i : Nat) : Int))
    (fun i hi => by
      have he := (h _ (List.getElem_mem hi)).valid
      simp only [slices_IndexFunc_impl_Sheet_impl_Sheet_l0_T, impl_StoreSheets_1_g, impl_StoreSheets_1_T, Tree.run, cN_len, ltn, hi, inb_nat, decide_true, if_true, Int.toNat_natCast, nN hi, nR hi, nC hi, nX hi, he, Option.bind_some, Bool.not_true, Bool.false_eq_true, if_false, w_succ (show i < 4611686018427387904 by omega)])
    (by simp only [slices_IndexFunc_impl_Sheet_impl_Sheet_l0_T, Tree.run, cN_len, ltn, Nat.lt_irrefl, decide_false, Bool.false_eq_true, if_false])
  have i1 : slices_IndexFunc_impl_Sheet_impl_Sheet_l0_g (cN L) (cR L) (cC L) (cX L) (0 : Int) = some (.inr ()) := i1
  have i2 := whileM_fix (T := fun s => (impl_StoreSheets_l0_T (cN L) (cR L) (cC L) (cX L) s).run) (n := L.length) (r := catB L) (fun i => (catB (L.take i), ((i : Nat) : Int)))
    (fun i hi => by
      have hx := h _ (List.getElem_mem hi)
      have he := hx.store
      have hz := hx.size
      have hk := catL_len (L := L.take i) fun x hx => h x (List.mem_of_mem_take hx)
      rw [List.length_take] at hk
      have hf : fits ((catB (L.take i)).size + L[i].st.size) = true := fits_iff.2 (by rw [catB_size]; unfold maxN; omega)
      have hn : catB (L.take i) ++ L[i].st = catB (L.take (i + 1)) := by
        apply ls_inj
        rw [ls_append, ls_catB, ls_catB, ← catL_one, ← catL_app]
        simp
      simp only [impl_StoreSheets_l0_T, Tree.run, cN_len, ltn, hi, inb_nat, decide_true, if_true, Int.toNat_natCast, nN hi, nR hi, nC hi, nX hi, he, Option.bind_some, hf, hn, w_succ (show i < 4611686018427387904 by omega)])
    (by simp only [impl_StoreSheets_l0_T, Tree.run, cN_len, ltn, Nat.lt_irrefl, decide_false, Bool.false_eq_true, if_false, List.take_length])
  have e0 : catB (L.take 0) = ByteArray.mk #[] := rfl
  rw [e0] at i2
  have i2 : impl_StoreSheets_l0_g (cN L) (cR L) (cC L) (cX L) (ByteArray.mk #[], (0 : Int)) = some (catB L) := i2
  have h8 : ¬ ((8 : Int) < ((L.length : Nat) : Int)) := by omega
  have hneg : decide ((0 : Int) ≤ -1) = false := by decide
  simp only [impl_StoreSheets_g, impl_StoreSheets_T, slices_ContainsFunc_impl_Sheet_impl_Sheet_g, slices_ContainsFunc_impl_Sheet_impl_Sheet_T, slices_IndexFunc_impl_Sheet_impl_Sheet_g, slices_IndexFunc_impl_Sheet_impl_Sheet_T, Tree.run, cN_len, h8, decide_false, Bool.false_eq_true, if_false, if_true, i1, Option.bind_some, hneg, i2]
/-- Sheets recovered. -/
theorem rec_loop' (s : ByteArray) (hsz : s.size < 4294967296) : ∀ (d u : Nat) (L : List Sh), L.length + d = 8 → u ≤ s.size →
    impl_RecoverSheets_l0_g s ((u : Int), cN L, cR L, cC L, cX L, ixR L.length) = some (((recP d s u L).2 : Int), cN (recP d s u L).1, cR (recP d s u L).1, cC (recP d s u L).1, cX (recP d s u L).1, ixR (recP d s u L).1.length)
  | 0, u, L, hd, h0 => by
    refine wl_inr (T := fun st => (impl_RecoverSheets_l0_T s st).run) ?_
    have hlt : decide (((L.length : Nat) : Int) < 8) = false := decide_eq_false (by omega)
    simp only [impl_RecoverSheets_l0_T, Tree.run, cN_len, hlt, Bool.false_eq_true, if_false, recP]
  | d + 1, u, L, hd, h0 => by
    have hlt : decide (((L.length : Nat) : Int) < 8) = true := decide_eq_true (by omega)
    have ok : sok (u : Int) ((s.size : Nat) : Int) s.size = true := sok_iff.2 ⟨by omega, by omega, by omega⟩
    have tsz : (ByteArray.extract s u s.size).size = s.size - u := by rw [ByteArray.size_extract]; omega
    rcases load_cases (ByteArray.extract s u s.size) (by omega) with ⟨k, e⟩ | ⟨x, n, hx, k, e, g1, g2, g3, g4⟩
    · refine wl_inr (T := fun st => (impl_RecoverSheets_l0_T s st).run) ?_
      simp only [impl_RecoverSheets_l0_T, Tree.run, cN_len, hlt, ok, if_true, Int.toNat_natCast, k, Option.bind_some, recP, e]
    · rw [tsz] at g2
      have ih := rec_loop' s hsz d (u + n) (L ++ [x]) (by simp; omega) (by omega)
      have w : IntKind.i64.wrap ((u : Int) + (n : Int)) = ((u + n : Nat) : Int) := by rw [w64 (by omega) (by omega)]; omega
      have hf : fits (L.length + 1) = true := fits_iff.2 (by unfold maxN; omega)
      have e1 : cN L ++ [x.nm] = cN (L ++ [x]) := by simp [cN]
      have e2 : cR L ++ [x.r] = cR (L ++ [x]) := by simp [cR]
      have e3 : cC L ++ [x.c] = cC (L ++ [x]) := by simp [cC]
      have e4 : cX L ++ [x.xs] = cX (L ++ [x]) := by simp [cX]
      have e5 : ixR L.length ++ [L.length + 1] = ixR (L ++ [x]).length := by rw [List.length_append, List.length_singleton, ixR_succ]
      have er : recP (d + 1) s u L = recP d s (u + n) (L ++ [x]) := by simp only [recP, e]
      rw [er]
      refine wl_inl (T := fun st => (impl_RecoverSheets_l0_T s st).run) ?_ ih
      simp only [impl_RecoverSheets_l0_T, Tree.run, cN_len, cX_len, hlt, ok, if_true, Int.toNat_natCast, k, Option.bind_some, hf, w, e1, e2, e3, e4, e5]
theorem rec_run (s : ByteArray) (hsz : s.size < 4294967296) : impl_RecoverSheets_g s = some (((recP 8 s 0 []).2 : Int), cN (recP 8 s 0 []).1, cR (recP 8 s 0 []).1, cC (recP 8 s 0 []).1, cX (recP 8 s 0 []).1, ixR (recP 8 s 0 []).1.length) := by
  have h := rec_loop' s hsz 8 0 [] rfl (Nat.zero_le _)
  have h : impl_RecoverSheets_l0_g s ((0 : Int), ([] : List ByteArray), ([] : List Int), ([] : List Int), ([] : List (List Nat)), ([] : List Nat)) = _ := h
  simp only [impl_RecoverSheets_g, impl_RecoverSheets_T, Tree.run, if_true, h, Option.bind_some]
theorem sl_inl {σ ρ : Type} {T : σ → Option (σ ⊕ ρ)} {s s' : σ} {r : Option ρ} (h : T s = some (.inl s')) (h' : whileM T s' = r) : whileM T s = r := by rw [whileM_eq, h]; exact h'
theorem sl_inr {σ ρ : Type} {T : σ → Option (σ ⊕ ρ)} {s : σ} {r : ρ} (h : T s = some (.inr r)) : whileM T s = some r := by rw [whileM_eq, h]
/-- Bytes. -/
def Byt (xs : List Int) : Prop := ∀ x ∈ xs, 0 ≤ x ∧ x < 256
theorem byt_nth {xs : List Int} (h : Byt xs) {i : Nat} (hi : i < xs.length) : 0 ≤ nth xs i ∧ nth xs i < 256 := by rw [nth_of _ _ hi]; exact h _ (List.getElem_mem hi)
theorem and255 (x : Int) : 0 ≤ iand .u64 x 255 ∧ iand .u64 x 255 < 256 := by
  unfold iand
  have h : (BitVec.ofInt IntKind.u64.bits x &&& BitVec.ofInt IntKind.u64.bits 255).toNat ≤ 255 := by
    rw [BitVec.toNat_and]
    exact Nat.le_trans Nat.and_le_right (by decide)
  have hw : ∀ n : Nat, n ≤ 255 → IntKind.u64.wrap (n : Int) = (n : Int) := fun n hn => by
    simp [IntKind.wrap, IntKind.bits, IntKind.signed]; omega
  rw [hw _ h]; omega
theorem next_ok {code : List Int} (hb : Byt code) (hl : code.length ≤ 1048576) (a s : Int) (h0 : 0 ≤ a) (h1 : a ≤ 1000000000000) :
    ∃ b s', spec_l00Src_next_g code a s = some (b, a + 1, s') ∧ 0 ≤ b ∧ b < 256 := by
  have w : IntKind.i64.wrap (a + 1) = a + 1 := w64 (by omega) (by omega)
  obtain ⟨n, rfl⟩ : ∃ n : Nat, a = n := ⟨a.toNat, by omega⟩
  have h255 := and255
  by_cases c1 : ((n : Nat) : Int) < ((code.length : Nat) : Int)
  · have hn : n < code.length := by omega
    have hby := byt_nth hb hn
    have wb : IntKind.i64.wrap (nth code n) = nth code n := w64 (by omega) (by omega)
    have c2 : (n : Int) + 1 ≤ ((code.length : Nat) : Int) := by omega
    obtain ⟨z, hz⟩ : ∃ z, z = IntKind.u64.wrap ((IntKind.u64.wrap ((IntKind.u64.wrap (s * (6364136223846793005 : Int))) + (IntKind.u64.wrap (nth code n)))) + (1442695040888963407 : Int)) := ⟨_, rfl⟩
    refine ⟨nth code n, z, ?_, hby.1, hby.2⟩
    simp only [spec_l00Src_next_g, spec_l00Src_next_T, Tree.run, c1, decide_true, if_true, inb_nat, hn, w, c2, Int.toNat_natCast, wb, ← hz]
  · have c2 : ¬ ((n : Int) + 1 ≤ ((code.length : Nat) : Int)) := by omega
    have e40 : decide ((0 : Int) ≤ 40) = true := by decide
    obtain ⟨z, hz⟩ : ∃ z, z = IntKind.u64.wrap ((IntKind.u64.wrap ((IntKind.u64.wrap (s * (6364136223846793005 : Int))) + (IntKind.u64.wrap ((0 : Int))))) + (1442695040888963407 : Int)) := ⟨_, rfl⟩
    obtain ⟨q1, q2⟩ := h255 (ishr .u64 z 40)
    have wq : IntKind.i64.wrap (iand .u64 (ishr .u64 z 40) 255) = iand .u64 (ishr .u64 z 40) 255 := w64 (by omega) (by omega)
    refine ⟨iand .u64 (ishr .u64 z 40) 255, z, ?_, q1, q2⟩
    simp only [spec_l00Src_next_g, spec_l00Src_next_T, Tree.run, c1, decide_false, Bool.false_eq_true, if_false, w, c2, e40, if_true, ← hz, wq]
theorem pick_ok {code : List Int} (hb : Byt code) (hl : code.length ≤ 1048576) (a s n : Int) (h0 : 0 ≤ a) (h1 : a ≤ 100000000000) (hn : 1 ≤ n) (hn2 : n ≤ 200) :
    ∃ b a' s', spec_l00Src_pick_g code a s n = some (b, a', s') ∧ 0 ≤ b ∧ b < n ∧ a ≤ a' ∧ a' ≤ a + 1 := by
  by_cases c1 : n ≤ 1
  · exact ⟨0, a, s, by simp only [spec_l00Src_pick_g, spec_l00Src_pick_T, Tree.run, c1, decide_true, if_true], by omega, by omega, by omega, by omega⟩
  · obtain ⟨b, s', k1, k2, k3⟩ := next_ok hb hl a s h0 (by omega)
    have c2 : ¬ ((200 : Int) < n) := by omega
    have c3 : decide (n = 0) = false := decide_eq_false (by omega)
    have ht : Int.tmod b n = b % n := by rw [Int.tmod_eq_emod_of_nonneg k2]
    refine ⟨b % n, a + 1, s', ?_, Int.emod_nonneg _ (by omega), Int.emod_lt_of_pos _ (by omega), by omega, by omega⟩
    simp only [spec_l00Src_pick_g, spec_l00Src_pick_T, Tree.run, c1, decide_false, Bool.false_eq_true, if_false, k1, Option.bind_some, c2, c3, Bool.not_false, if_true, ht]
def qtr (b : Int) : Nat := fdiv .f32 (fofint .f32 (b - 16)) 1082130432
theorem qtr_all : ((List.range 33).all fun b => sfin (qtr (b : Int)) && decide (qtr (b : Int) < 4294967296)) = true := by kernel_rfl
theorem qtr_ok {b : Int} (h0 : 0 ≤ b) (h1 : b < 33) : sfin (qtr b) = true ∧ qtr b < 4294967296 := by
  have := List.all_eq_true.1 qtr_all b.toNat (List.mem_range.2 (by omega))
  rw [show ((b.toNat : Nat) : Int) = b by omega] at this
  simpa using this
theorem sides_loop {code : List Int} (hb : Byt code) (hl : code.length ≤ 1048576) : ∀ (d : Nat) (a s : Int) (xs : List Nat), 0 ≤ a → a + d ≤ 10000000000 → xs.length + d ≤ 1000 → (∀ x ∈ xs, sfin x = true ∧ x < 4294967296) →
    ∃ a' s' ys, spec_l02DrawSides_l0_g code ((d : Int), a, s, xs) = some (a', s', ys) ∧ ys.length = xs.length + d ∧ (∀ x ∈ ys, sfin x = true ∧ x < 4294967296) ∧ a ≤ a' ∧ a' ≤ a + d
  | 0, a, s, xs, h0, h1, h2, h3 => ⟨a, s, xs, by
      refine sl_inr (T := fun st => (spec_l02DrawSides_l0_T code st).run) ?_
      have : ¬ ((0 : Int) < ((0 : Nat) : Int)) := by omega
      simp only [spec_l02DrawSides_l0_T, Tree.run, this, decide_false, Bool.false_eq_true, if_false], rfl, h3, by omega, by omega⟩
  | d + 1, a, s, xs, h0, h1, h2, h3 => by
    obtain ⟨b, a1, s1, k1, k2, k3, k4, k5⟩ := pick_ok hb hl a s 33 h0 (by omega) (by omega) (by omega)
    have w1 : IntKind.i64.wrap (b - 16) = b - 16 := w64 (by omega) (by omega)
    have w2 : IntKind.i64.wrap (((d + 1 : Nat) : Int) - 1) = (d : Int) := by rw [w64 (by omega) (by omega)]; omega
    have hp : (0 : Int) < ((d + 1 : Nat) : Int) := by omega
    have hq := qtr_ok k2 k3
    have hf : fits (xs ++ ([fdiv .f32 (fofint .f32 (b - 16)) (1082130432 : Nat)] : List Nat)).length = true := fits_iff.2 (by rw [List.length_append]; simp [maxN]; omega)
    obtain ⟨a', s', ys, g1, g2, g3, g4, g5⟩ := sides_loop hb hl d a1 s1 (xs ++ [qtr b]) (by omega) (by omega) (by rw [List.length_append]; simp; omega) (fun x hx => by
      rcases List.mem_append.1 hx with h | h
      · exact h3 x h
      · rw [List.mem_singleton.1 h]; exact hq)
    refine ⟨a', s', ys, ?_, by rw [g2, List.length_append]; simp; omega, g3, by omega, by omega⟩
    refine sl_inl (T := fun st => (spec_l02DrawSides_l0_T code st).run) ?_ g1
    simp only [spec_l02DrawSides_l0_T, Tree.run, hp, decide_true, if_true, k1, Option.bind_some, w1, hf, w2]
    rfl
theorem draw_ok {code : List Int} (hb : Byt code) (hl : code.length ≤ 1048576) (a s : Int) (h0 : 0 ≤ a) (h1 : a ≤ 1000000000) :
    ∃ r c a' s' ys, spec_l02DrawOk_g code a s = some (r, c, a', s', ys) ∧ 1 ≤ r ∧ r ≤ 5 ∧ 1 ≤ c ∧ c ≤ 5 ∧ (ys.length : Int) = r * c ∧ (∀ x ∈ ys, sfin x = true ∧ x < 4294967296) ∧ a ≤ a' ∧ a' ≤ a + 30 := by
  obtain ⟨b0, a0, s0, k1, k2, k3, k4, k5⟩ := pick_ok hb hl a s 5 h0 (by omega) (by omega) (by omega)
  obtain ⟨b1, a1, s1, l1, l2, l3, l4, l5⟩ := pick_ok hb hl a0 s0 5 (by omega) (by omega) (by omega) (by omega)
  have w0 : IntKind.i64.wrap (1 + b0) = 1 + b0 := w64 (by omega) (by omega)
  have w1 : IntKind.i64.wrap (1 + b1) = 1 + b1 := w64 (by omega) (by omega)
  have hm : (1 + b0) * (1 + b1) ≤ 5 * 5 := Int.mul_le_mul (by omega) (by omega) (by omega) (by omega)
  have hm0 : 0 ≤ (1 + b0) * (1 + b1) := Int.mul_nonneg (by omega) (by omega)
  obtain ⟨n, hn⟩ : ∃ n : Nat, (1 + b0) * (1 + b1) = (n : Int) := ⟨_, (Int.toNat_of_nonneg hm0).symm⟩
  have w2 : IntKind.i64.wrap ((1 + b0) * (1 + b1)) = (n : Int) := by rw [hn, w64 (by omega) (by omega)]
  obtain ⟨a2, s2, ys, g1, g2, g3, g4, g5⟩ := sides_loop hb hl n a1 s1 [] (by omega) (by omega) (by simp; omega) (by simp)
  refine ⟨1 + b0, 1 + b1, a2, s2, ys, ?_, by omega, by omega, by omega, by omega, ?_, g3, by omega, by omega⟩
  · simp only [spec_l02DrawOk_g, spec_l02DrawOk_T, spec_l02DrawSides_g, spec_l02DrawSides_T, Tree.run, k1, l1, w0, w1, w2, g1, Option.bind_some, if_true, spec_l02Blank_v]
  · rw [g2, hn]; simp
def names4 : List ByteArray := [(ByteArray.mk #[97]), (ByteArray.mk #[108, 101, 102, 116]), (ByteArray.mk #[114, 105, 103, 104, 116]), (ByteArray.mk #[122, 122])]
theorem names4_ok : ∀ nm ∈ names4, notName nm = false ∧ 1 ≤ nm.size ∧ nm.size ≤ 8 := by
  intro nm h
  simp only [names4, List.mem_cons, List.not_mem_nil, or_false] at h
  rcases h with rfl | rfl | rfl | rfl
  · exact ⟨by kernel_rfl, by decide, by decide⟩
  · exact ⟨by kernel_rfl, by decide, by decide⟩
  · exact ⟨by kernel_rfl, by decide, by decide⟩
  · exact ⟨by kernel_rfl, by decide, by decide⟩
theorem text_ok {code : List Int} (hb : Byt code) (hl : code.length ≤ 1048576) (a s : Int) (h0 : 0 ≤ a) (h1 : a ≤ 1000000000) :
    ∃ nm a' s', spec_l00Src_text_nst_g code a s names4 = some (nm, a', s') ∧ nm ∈ names4 ∧ a ≤ a' ∧ a' ≤ a + 1 := by
  obtain ⟨b, a', s', k1, k2, k3, k4, k5⟩ := pick_ok hb hl a s 4 h0 (by omega) (by omega) (by omega)
  obtain ⟨i, rfl⟩ : ∃ i : Nat, b = i := ⟨b.toNat, by omega⟩
  have hi : i < names4.length := by show i < 4; omega
  refine ⟨nth names4 i, a', s', ?_, by rw [nth_of _ _ hi]; exact List.getElem_mem hi, k4, k5⟩
  have e4 : ((names4.length : Nat) : Int) = 4 := rfl
  simp only [spec_l00Src_text_nst_g, spec_l00Src_text_nst_T, Tree.run, e4, k1, Option.bind_some, inb_nat, hi, decide_true, if_true, Int.toNat_natCast]
theorem b10_loop {code : List Int} (hb : Byt code) (hl : code.length ≤ 1048576) : ∀ (d : Nat) (a s : Int) (L : List Sh), 0 ≤ a → a + 40 * d ≤ 100000000 → L.length + d ≤ 1000 → (∀ x ∈ L, x.Ok) →
    ∃ M : List Sh, spec_B10Sheets_l0_g code ((d : Int), a, s, cN L, cR L, cC L, cX L, ixR L.length) = some (cN M, cR M, cC M, cX M, ixR M.length) ∧ (∀ x ∈ M, x.Ok) ∧ M.length = L.length + d
  | 0, a, s, L, h0, h1, h2, h3 => ⟨L, by
      refine sl_inr (T := fun st => (spec_B10Sheets_l0_T code st).run) ?_
      have : ¬ ((0 : Int) < ((0 : Nat) : Int)) := by omega
      simp only [spec_B10Sheets_l0_T, Tree.run, this, decide_false, Bool.false_eq_true, if_false], h3, rfl⟩
  | d + 1, a, s, L, h0, h1, h2, h3 => by
    obtain ⟨nm, a1, s1, k1, k2, k3, k4⟩ := text_ok hb hl a s h0 (by omega)
    obtain ⟨r, c, a2, s2, ys, l1, l2, l3, l4, l5, l6, l7, l8, l9⟩ := draw_ok hb hl a1 s1 (by omega) (by omega)
    obtain ⟨n1, n2, n3⟩ := names4_ok nm k2
    have hx : (⟨nm, r, c, ys⟩ : Sh).Ok := by
      refine ⟨?_, fun v hv => (l7 v hv).2⟩
      have hm : r * c ≤ 5 * 5 := Int.mul_le_mul l3 l5 (by omega) (by omega)
      have hm0 : 0 ≤ r * c := Int.mul_nonneg (by omega) (by omega)
      have w : IntKind.i64.wrap (r * c) = r * c := w64 (by omega) (by omega)
      have hf : ys.all sfin = true := List.all_eq_true.2 fun v hv => (l7 v hv).1
      show sheetB nm r c ys = true
      unfold sheetB
      rw [n1, w, hf]
      simp only [Bool.not_false, Bool.true_and, Bool.and_true, Bool.and_eq_true, decide_eq_true_eq]
      omega
    have w2 : IntKind.i64.wrap (((d + 1 : Nat) : Int) - 1) = (d : Int) := by rw [w64 (by omega) (by omega)]; omega
    have hp : (0 : Int) < ((d + 1 : Nat) : Int) := by omega
    have hf : fits (L.length + 1) = true := fits_iff.2 (by unfold maxN; omega)
    have e1 : cN L ++ [nm] = cN (L ++ [⟨nm, r, c, ys⟩]) := by simp [cN]
    have e2 : cR L ++ [r] = cR (L ++ [⟨nm, r, c, ys⟩]) := by simp [cR]
    have e3 : cC L ++ [c] = cC (L ++ [⟨nm, r, c, ys⟩]) := by simp [cC]
    have e4 : cX L ++ [ys] = cX (L ++ [⟨nm, r, c, ys⟩]) := by simp [cX]
    have e5 : ixR L.length ++ [L.length + 1] = ixR (L ++ [(⟨nm, r, c, ys⟩ : Sh)]).length := by rw [List.length_append, List.length_singleton, ixR_succ]
    obtain ⟨M, g1, g2, g3⟩ := b10_loop hb hl d a2 s2 (L ++ [⟨nm, r, c, ys⟩]) (by omega) (by omega) (by simp; omega) (fun x hx' => by
      rcases List.mem_append.1 hx' with h | h
      · exact h3 x h
      · rw [List.mem_singleton.1 h]; exact hx)
    refine ⟨M, ?_, g2, by rw [g3]; simp; omega⟩
    refine sl_inl (T := fun st => (spec_B10Sheets_l0_T code st).run) ?_ g1
    have k1 : spec_l00Src_text_nst_g code a s ([(ByteArray.mk #[97]), (ByteArray.mk #[108, 101, 102, 116]), (ByteArray.mk #[114, 105, 103, 104, 116]), (ByteArray.mk #[122, 122])] : List ByteArray) = some (nm, a1, s1) := k1
    simp only [spec_B10Sheets_l0_T, Tree.run, hp, decide_true, if_true, k1, l1, Option.bind_some, cN_len, cX_len, hf, w2, e1, e2, e3, e4, e5]
theorem b10_ok {code : List Int} (hb : Byt code) (hl : code.length ≤ 1048576) : ∃ M : List Sh, spec_B10Sheets_g code = some (cN M, cR M, cC M, cX M, ixR M.length) ∧ (∀ x ∈ M, x.Ok) ∧ M.length ≤ 4 := by
  obtain ⟨b, a, s, k1, k2, k3, k4, k5⟩ := pick_ok hb hl 0 0 5 (by omega) (by omega) (by omega) (by omega)
  obtain ⟨d, rfl⟩ : ∃ d : Nat, b = d := ⟨b.toNat, by omega⟩
  obtain ⟨M, g1, g2, g3⟩ := b10_loop hb hl d a s [] (by omega) (by omega) (by simp; omega) (by simp)
  refine ⟨M, ?_, g2, by rw [g3]; simp; omega⟩
  have g1 : spec_B10Sheets_l0_g code ((d : Int), a, s, ([] : List ByteArray), ([] : List Int), ([] : List Int), ([] : List (List Nat)), ([] : List Nat)) = _ := g1
  simp only [spec_B10Sheets_g, spec_B10Sheets_T, Tree.run, k1, Option.bind_some, if_true, g1]
theorem b10At_ok {xs : List Int} (hb : Byt xs) (hl : xs.length ≤ 1048576) (k n : Int) (h0 : 0 ≤ k) (hk : k ≤ 1000) (hn : 2 ≤ n) : ∃ v, laws_b10At_g xs k n = some v ∧ 0 ≤ v ∧ v < n := by
  have c1 : ¬ (n ≤ 1) := by omega
  have c3 : decide (n = 0) = false := decide_eq_false (by omega)
  by_cases c2 : k < ((xs.length : Nat) : Int)
  · obtain ⟨i, rfl⟩ : ∃ i : Nat, k = i := ⟨k.toNat, by omega⟩
    have hi : i < xs.length := by omega
    have hby := byt_nth hb hi
    have wb : IntKind.i64.wrap (nth xs i) = nth xs i := w64 (by omega) (by omega)
    have ht : Int.tmod (nth xs i) n = nth xs i % n := by rw [Int.tmod_eq_emod_of_nonneg hby.1]
    refine ⟨nth xs i % n, ?_, Int.emod_nonneg _ (by omega), Int.emod_lt_of_pos _ (by omega)⟩
    simp only [laws_b10At_g, laws_b10At_T, Tree.run, c1, decide_false, Bool.false_eq_true, if_false, c2, inb_nat, hi, decide_true, if_true, c3, Bool.not_false, Int.toNat_natCast, wb, ht]
  · have w1 : IntKind.i64.wrap (k * 37) = k * 37 := w64 (by omega) (by omega)
    have w2 : IntKind.i64.wrap (k * 37 + 11) = k * 37 + 11 := w64 (by omega) (by omega)
    have ht : Int.tmod (k * 37 + 11) n = (k * 37 + 11) % n := by rw [Int.tmod_eq_emod_of_nonneg (by omega)]
    refine ⟨(k * 37 + 11) % n, ?_, Int.emod_nonneg _ (by omega), Int.emod_lt_of_pos _ (by omega)⟩
    simp only [laws_b10At_g, laws_b10At_T, Tree.run, c1, decide_false, Bool.false_eq_true, if_false, c2, c3, Bool.not_false, if_true, w1, w2, ht]
theorem sub_one {β : Type} [Inhabited β] (f : Sh → β) {L : List Sh} {i : Nat} (h : i < L.length) : AM.sub (L.map f) ((i : Nat) : Int) ((i + (i + 1 - i) : Nat) : Int) = [f L[i]] := by
  unfold AM.sub
  rw [Int.toNat_natCast, Int.toNat_natCast, show i + (i + 1 - i) = i + 1 by omega]
  rw [List.take_succ_eq_append_getElem (by simpa using h), List.drop_left' (by simp; omega)]
  simp
theorem ix_one {L : List Sh} {i : Nat} (h : i < L.length) : (((ixR L.length).drop i).take (i + 1 - i)).map (nget (cX L)) = [L[i].xs] := by
  rw [show i + 1 - i = 1 by omega]
  have hi : i < (ixR L.length).length := by rw [ixR_len]; exact h
  rw [List.drop_eq_getElem_cons hi]
  have e : (ixR L.length)[i] = i + 1 := by rw [← nth_of _ _ hi]; exact ixR_nth h
  have g : nget (cX L) (i + 1) = L[i].xs := gX' h
  simp [e, g]
/-- Where the sheets end. -/
noncomputable def eAt (L : List Sh) (j : Nat) : Nat := (catL (L.take j)).length
noncomputable def ends (L : List Sh) (i : Nat) : List Int := (List.range (i + 1)).map fun j => ((eAt L j : Nat) : Int)
theorem ends_len (L : List Sh) (i : Nat) : (ends L i).length = i + 1 := by simp [ends]
theorem ends_nth (L : List Sh) {i j : Nat} (h : j ≤ i) : nth (ends L i) j = ((eAt L j : Nat) : Int) := by
  rw [nth_of _ _ (by rw [ends_len]; omega)]; simp [ends]
theorem take_one {L : List Sh} {i : Nat} (h : i < L.length) : L.take (i + 1) = L.take i ++ [L[i]] := by simp
theorem eAt_succ {L : List Sh} {i : Nat} (h : i < L.length) : eAt L (i + 1) = eAt L i + L[i].st.size := by
  unfold eAt
  rw [take_one h, catL_app, catL_one, List.length_append, ls_len]
theorem eAt_zero (L : List Sh) : eAt L 0 = 0 := by simp [eAt, catL]
theorem eAt_full (L : List Sh) : eAt L L.length = (catL L).length := by unfold eAt; rw [List.take_length]
theorem eAt_bd {L : List Sh} (h : ∀ x ∈ L, x.Ok) (h8 : L.length ≤ 8) (j : Nat) : eAt L j ≤ 593 * 8 := by
  have := catL_len (L := L.take j) fun x hx => h x (List.mem_of_mem_take hx)
  rw [List.length_take] at this
  unfold eAt; omega
theorem l0_ok {L : List Sh} (h : ∀ x ∈ L, x.Ok) (h8 : L.length ≤ 8) : laws_FnSheets_l0_g ((L.length : Nat) : Int) (cN L) (cR L) (cC L) (cX L) (ixR L.length) ((0 : Int), ([(0 : Int)] : List Int)) = some (.inr (ends L L.length)) := by
  have := whileM_fix (T := fun s => (laws_FnSheets_l0_T ((L.length : Nat) : Int) (cN L) (cR L) (cC L) (cX L) (ixR L.length) s).run) (n := L.length) (r := .inr (ends L L.length)) (fun i => (((i : Nat) : Int), ends L i))
    (fun i hi => by
      have hx := h _ (List.getElem_mem hi)
      have hz := hx.size
      have eb := eAt_bd h h8 i
      have sI := ixR_nth hi
      have g : nget (cX L) (i + 1) = L[i].xs := gX' hi
      have s1 : AM.sub (cN L) ((i : Nat) : Int) ((i + (i + 1 - i) : Nat) : Int) = [L[i].nm] := sub_one _ hi
      have s2 : AM.sub (cR L) ((i : Nat) : Int) ((i + (i + 1 - i) : Nat) : Int) = [L[i].r] := sub_one _ hi
      have s3 : AM.sub (cC L) ((i : Nat) : Int) ((i + (i + 1 - i) : Nat) : Int) = [L[i].c] := sub_one _ hi
      have s4 := ix_one hi
      have s5 : ([1] : List Nat).map (nget ([L[i].xs] : List (List Nat))) = [L[i].xs] := rfl
      have s6 : impl_SameSheets_g [L[i].nm] [L[i].r] [L[i].c] [L[i].xs] [L[i].nm] [L[i].r] [L[i].c] [L[i].xs] = some true := same_run (L := [L[i]]) (fun x hx' => by rw [List.mem_singleton.1 hx']; exact hx) (by simp)
      have ok : sok ((i : Nat) : Int) ((i + 1 : Nat) : Int) L.length = true := sok_iff.2 ⟨by omega, by omega, by omega⟩
      have w0 : IntKind.i64.wrap (((i + 1 : Nat) : Int) - 1) = ((i : Nat) : Int) := by rw [w64 (by omega) (by omega)]; omega
      have hin : inb ((i : Nat) : Int) (i + 1) = true := inb_iff.2 ⟨by omega, by omega⟩
      have en := ends_nth L (Nat.le_refl i)
      have w1 : IntKind.i64.wrap (((eAt L i : Nat) : Int) + ((L[i].st.size : Nat) : Int)) = ((eAt L (i + 1) : Nat) : Int) := by rw [eAt_succ hi, w64 (by omega) (by omega)]; omega
      have ee : ends L i ++ [((eAt L (i + 1) : Nat) : Int)] = ends L (i + 1) := by simp [ends, List.range_succ]
      have hf : fits (i + 1 + 1) = true := fits_iff.2 (by unfold maxN; omega)
      simp only [laws_FnSheets_l0_T, Tree.run, cN_len, ltn, hi, inb_nat, decide_true, if_true, Int.toNat_natCast, nN hi, nR hi, nC hi, sI, g, store_run hx, load_run hx, hx.valid, Option.bind_some, Bool.not_true, Bool.false_eq_true, if_false, w_succ (show i < 4611686018427387904 by omega), ok, s1, s2, s3, s4, s5, s6, ends_len, w0, hin, en, w1, ee, hf])
    (by simp only [laws_FnSheets_l0_T, Tree.run, ltn, Nat.lt_irrefl, decide_false, Bool.false_eq_true, if_false])
  have e0 : ends L 0 = [(0 : Int)] := by simp [ends, eAt_zero]
  rw [e0] at this
  exact this
theorem l2_ok {L : List Sh} (h : ∀ x ∈ L, x.Ok) (h8 : L.length ≤ 8) (t : ByteArray) (cut : Nat) (hc : cut < eAt L L.length) : ∀ (d k : Nat), k + d = L.length → eAt L k ≤ cut →
    ∃ q, q < L.length ∧ eAt L q ≤ cut ∧ cut < eAt L (q + 1) ∧ laws_FnSheets_l2_g t (cut : Int) (cN L) (cR L) (cC L) (cX L) (ixR L.length) (ends L L.length) ((k : Nat) : Int) = some ((q : Nat) : Int)
  | 0, k, hd, hk => by
    have : k = L.length := by omega
    subst this
    omega
  | d + 1, k, hd, hk => by
    have hi : k < L.length := by omega
    have hin : inb ((k + 1 : Nat) : Int) (L.length + 1) = true := inb_iff.2 ⟨by omega, by omega⟩
    have en := ends_nth L (i := L.length) (j := k + 1) (by omega)
    by_cases hlt : eAt L (k + 1) ≤ cut
    · obtain ⟨q, q1, q2, q3, q4⟩ := l2_ok h h8 t cut hc d (k + 1) (by omega) hlt
      refine ⟨q, q1, q2, q3, wl_inl (T := fun s => (laws_FnSheets_l2_T t (cut : Int) (cN L) (cR L) (cC L) (cX L) (ixR L.length) (ends L L.length) s).run) ?_ q4⟩
      have hle : decide (((eAt L (k + 1) : Nat) : Int) ≤ (cut : Int)) = true := decide_eq_true (by omega)
      simp only [laws_FnSheets_l2_T, Tree.run, cN_len, ltn, hi, decide_true, if_true, w_succ (show k < 4611686018427387904 by omega), ends_len, hin, Int.toNat_natCast, en, hle]
    · refine ⟨k, hi, hk, by omega, wl_inr (T := fun s => (laws_FnSheets_l2_T t (cut : Int) (cN L) (cR L) (cC L) (cX L) (ixR L.length) (ends L L.length) s).run) ?_⟩
      have hle : decide (((eAt L (k + 1) : Nat) : Int) ≤ (cut : Int)) = false := decide_eq_false (by omega)
      simp only [laws_FnSheets_l2_T, Tree.run, cN_len, ltn, hi, decide_true, if_true, w_succ (show k < 4611686018427387904 by omega), ends_len, hin, Int.toNat_natCast, en, hle, Bool.false_eq_true, if_false]
/-- All are recovered. -/
theorem whole_rec {L : List Sh} (h : ∀ x ∈ L, x.Ok) (h8 : L.length ≤ 7) : recP 8 (catB L) 0 [] = (L, (catL L).length) := by
  have hb := catL_len h
  have hz := catB_size L
  have e := rec_pre (catB L) (by omega) L 8 0 [] [] [] h (by rw [ls_catB]; simp) rfl (by omega)
  obtain ⟨d, hd⟩ : ∃ d, 8 - L.length = d + 1 := ⟨7 - L.length, by omega⟩
  rw [e, hd]
  have hn : loadP (ByteArray.extract (catB L) (0 + (catL L).length) (catB L).size) = none := load_empty (by rw [ByteArray.size_extract]; omega)
  simp only [recP, hn]
  simp
theorem split_at {L : List Sh} {k : Nat} (hk : k < L.length) : catL L = catL (L.take k) ++ (ls L[k].st ++ catL (L.drop (k + 1))) := by
  rw [← catL_cons, ← catL_app]
  congr 1
  rw [← List.drop_eq_getElem_cons hk, List.take_append_drop]
/-- Those ahead of the cut are recovered. -/
theorem cut_rec {L : List Sh} (h : ∀ x ∈ L, x.Ok) (h8 : L.length ≤ 7) {cut k : Nat} (hk : k < L.length) (h1 : eAt L k ≤ cut) (h2 : cut < eAt L (k + 1)) : recP 8 (ByteArray.extract (catB L) 0 cut) 0 [] = (L.take k, eAt L k) := by
  have hb := catL_len h
  have hz := catB_size L
  have hs := eAt_succ hk
  have h' : ∀ x ∈ L.take k, x.Ok := fun x hx => h x (List.mem_of_mem_take hx)
  have hls : ls (ByteArray.extract (catB L) 0 cut) = catL (L.take k) ++ (ls L[k].st).take (cut - eAt L k) := by
    rw [ls_extract, List.drop_zero, ls_catB, split_at hk, List.take_append]
    have e1 : (catL (L.take k)).length = eAt L k := rfl
    rw [e1, List.take_of_length_le (by rw [e1]; exact h1), List.take_append_of_le_length (by rw [ls_len]; omega)]
  have hsz : (ByteArray.extract (catB L) 0 cut).size = cut := by
    rw [← ls_len, hls, List.length_append, List.length_take, ls_len]
    have e1 : (catL (L.take k)).length = eAt L k := rfl
    omega
  have e := rec_pre (ByteArray.extract (catB L) 0 cut) (by have := eAt_bd h (by omega) (k + 1); omega) (L.take k) 8 0 [] [] ((ls L[k].st).take (cut - eAt L k)) h' (by rw [hls]; simp) rfl (by rw [List.length_take]; omega)
  obtain ⟨d, hd⟩ : ∃ d, 8 - (L.take k).length = d + 1 := ⟨7 - (L.take k).length, by rw [List.length_take]; omega⟩
  rw [e, hd]
  have e1 : (catL (L.take k)).length = eAt L k := rfl
  have hl : ls (ByteArray.extract (ByteArray.extract (catB L) 0 cut) (0 + eAt L k) (ByteArray.extract (catB L) 0 cut).size) = (ls L[k].st).take (cut - eAt L k) := by
    rw [ls_extract, List.take_of_length_le (by rw [ls_len]; exact Nat.le_refl _), hls, Nat.zero_add, List.drop_left' e1]
  have hsz2 : (ByteArray.extract (ByteArray.extract (catB L) 0 cut) (0 + eAt L k) (ByteArray.extract (catB L) 0 cut).size).size = cut - eAt L k := by
    rw [ByteArray.size_extract, hsz]; omega
  have hn : loadP (ByteArray.extract (ByteArray.extract (catB L) 0 cut) (0 + eAt L k) (ByteArray.extract (catB L) 0 cut).size) = none :=
    load_cut (h _ (List.getElem_mem hk)) (by rw [hsz2]; omega) (by rw [hl, hsz2])
  simp only [e1, recP, hn]
  simp
/-- Of bytes that are bent behind the k-th sheet, k sheets at least. -/
theorem bent_rec {L : List Sh} (h : ∀ x ∈ L, x.Ok) (h8 : L.length ≤ 7) {cut k : Nat} (hk : k < L.length) (h1 : eAt L k ≤ cut) {s : ByteArray} {v : UInt8} (hs : ls s = (catL L).set cut v) :
    (∀ x ∈ (recP 8 s 0 []).1, x.Ok) ∧ catL (recP 8 s 0 []).1 = (ls s).take (recP 8 s 0 []).2 ∧ (recP 8 s 0 []).2 ≤ s.size ∧ k ≤ (recP 8 s 0 []).1.length ∧ (recP 8 s 0 []).1.length ≤ 8 := by
  have hb := catL_len h
  have hsz : s.size = (catL L).length := by rw [← ls_len, hs, List.length_set]
  have h' : ∀ x ∈ L.take k, x.Ok := fun x hx => h x (List.mem_of_mem_take hx)
  have e1 : (catL (L.take k)).length = eAt L k := rfl
  have hls : ls s = catL (L.take k) ++ (ls L[k].st ++ catL (L.drop (k + 1))).set (cut - eAt L k) v := by
    rw [hs, split_at hk, List.set_append_right _ _ (by rw [e1]; exact h1), e1]
  have e := rec_pre s (by omega) (L.take k) 8 0 [] [] _ h' (by rw [hls]; simp; rfl) rfl (by rw [List.length_take]; omega)
  obtain ⟨r1, r2, r3, r4, r5⟩ := rec_ok s (by omega) 8 0 [] (Nat.zero_le _) (by simp) (by simp [catL])
  refine ⟨r1, r2, r3, ?_, by simpa using r5⟩
  have tk : (L.take k).length = k := by rw [List.length_take]; omega
  have hle : eAt L k ≤ s.size := by rw [← ls_len, hls, List.length_append]; omega
  have := (rec_ok s (by omega) (8 - (L.take k).length) (eAt L k) (L.take k) hle h' (by rw [hls, List.take_left' e1])).2.2.2.1
  rw [tk] at this
  rw [e, e1, Nat.zero_add, tk]
  exact this
theorem ls_str (l : List Int) : ls (strOfNums l) = l.map fun n => UInt8.ofNat n.toNat := strOfNums_data l
theorem ls_nums (s : ByteArray) : (numsS s).map (fun n => UInt8.ofNat n.toNat) = ls s := by
  simp [numsS, ls, Function.comp_def]
theorem nfs_law (v1 v2 : List Int) (h1 : v1.length ≤ maxN) (w1 : ∀ x ∈ v1, 0 ≤ x ∧ x < 256) (h2 : v2.length ≤ maxN) (w2 : ∀ x ∈ v2, 0 ≤ x ∧ x < 256) : laws_FnSheets_g v1 v2 = some true := by
  cases hb : laws_b10Long_v v1 v2 with
  | true => simp only [laws_FnSheets_g, laws_FnSheets_T, Tree.run, hb, if_true]
  | false =>
    have hlen : v1.length ≤ 1048576 ∧ v2.length ≤ 1048576 := by
      unfold laws_b10Long_v at hb
      split at hb
      · cases hb
      · rename_i c
        have c2 := of_decide_eq_false hb
        simp only [decide_eq_true_eq] at c
        omega
    obtain ⟨L, b1, hL, n4⟩ := b10_ok (code := v1) w1 hlen.1
    have l0 := l0_ok hL (by omega)
    have st := stores_run hL (by omega)
    have hbd := catL_len hL
    have hz := catB_size L
    have rc := rec_run (catB L) (by omega)
    rw [whole_rec hL (by omega)] at rc
    simp only at rc
    have sm := same_run hL (by omega)
    have hin : inb ((L.length : Nat) : Int) (L.length + 1) = true := inb_iff.2 ⟨by omega, by omega⟩
    have en := ends_nth L (Nat.le_refl L.length)
    rw [eAt_full] at en
    by_cases hz0 : (catL L).length = 0
    · simp only [laws_FnSheets_g, laws_FnSheets_T, Tree.run, hb, Bool.false_eq_true, if_false, b1, Option.bind_some, if_true, cN_len, l0, ix_all, st, rc, ends_len, hin, Int.toNat_natCast, hz, en, decide_true, Bool.not_true, sm, hz0]
      rfl
    · obtain ⟨i0, a0, a1, a2⟩ := b10At_ok (xs := v2) w2 hlen.2 0 256 (by omega) (by omega) (by omega)
      obtain ⟨i1, c0, c1, c2⟩ := b10At_ok (xs := v2) w2 hlen.2 1 256 (by omega) (by omega) (by omega)
      obtain ⟨i2, d0, d1, d2⟩ := b10At_ok (xs := v2) w2 hlen.2 2 255 (by omega) (by omega) (by omega)
      obtain ⟨T, hT⟩ : ∃ T, T = (catL L).length := ⟨_, rfl⟩
      have x1 : IntKind.i64.wrap (256 * i0) = 256 * i0 := w64 (by omega) (by omega)
      have x2 : IntKind.i64.wrap (256 * i0 + i1) = 256 * i0 + i1 := w64 (by omega) (by omega)
      have x3 : Int.tmod (256 * i0 + i1) ((T : Nat) : Int) = (256 * i0 + i1) % ((T : Nat) : Int) := by rw [Int.tmod_eq_emod_of_nonneg (by omega)]
      obtain ⟨cut, hcut⟩ : ∃ cut : Nat, (256 * i0 + i1) % ((T : Nat) : Int) = ((cut : Nat) : Int) := ⟨_, (Int.toNat_of_nonneg (Int.emod_nonneg _ (by omega))).symm⟩
      have hlt : cut < T := by
        have := Int.emod_lt_of_pos (256 * i0 + i1) (show (0 : Int) < ((T : Nat) : Int) by omega)
        omega
      rw [hcut] at x3
      have e0 := eAt_zero L
      obtain ⟨k, k1, k2, k3, k4⟩ := l2_ok hL (by omega) (catB L) cut (by rw [eAt_full]; omega) L.length 0 (by omega) (by omega)
      have k4 : laws_FnSheets_l2_g (catB L) ((cut : Nat) : Int) (cN L) (cR L) (cC L) (cX L) (ixR L.length) (ends L L.length) (0 : Int) = some ((k : Nat) : Int) := k4
      have rc2 := rec_run (ByteArray.extract (catB L) 0 cut) (by rw [ByteArray.size_extract]; omega)
      rw [cut_rec hL (by omega) k1 k2 k3] at rc2
      simp only at rc2
      have z0 : decide (((T : Nat) : Int) = 0) = false := decide_eq_false (by omega)
      have ok0 : sok (0 : Int) ((cut : Nat) : Int) T = true := sok_iff.2 ⟨by omega, by omega, by omega⟩
      have ink : inb ((k : Nat) : Int) (L.length + 1) = true := inb_iff.2 ⟨by omega, by omega⟩
      have enk := ends_nth L (i := L.length) (j := k) (by omega)
      have tk : (L.take k).length = k := by rw [List.length_take]; omega
      have ft : fits T = true := fits_iff.2 (by unfold maxN; omega)
      have inc : inb ((cut : Nat) : Int) T = true := inb_iff.2 ⟨by omega, by omega⟩
      obtain ⟨nv, hnv⟩ : ∃ nv, nv = IntKind.u8.wrap ((nth (numsS (catB L)) cut) + (IntKind.u8.wrap (IntKind.i64.wrap ((1 : Int) + i2)))) := ⟨_, rfl⟩
      obtain ⟨nums, hnums⟩ : ∃ nums, nums = List.set (numsS (catB L)) cut nv := ⟨_, rfl⟩
      have hls : ls (strOfNums nums) = (catL L).set cut (UInt8.ofNat nv.toNat) := by
        rw [ls_str, hnums, List.map_set, ls_nums, ls_catB]
      have hsz2 : (strOfNums nums).size = T := by rw [← ls_len, hls, List.length_set, hT]
      have rc3 := rec_run (strOfNums nums) (by omega)
      obtain ⟨r1, r2, r3, r4, r5⟩ := bent_rec hL (by omega) k1 k2 hls
      obtain ⟨P, hP⟩ : ∃ P, P = recP 8 (strOfNums nums) 0 [] := ⟨_, rfl⟩
      rw [← hP] at rc3 r1 r2 r3 r4 r5
      have st3 := stores_run r1 r5
      have g1 : decide (((k : Nat) : Int) ≤ ((P.1.length : Nat) : Int)) = true := decide_eq_true (by omega)
      have g2 : decide ((0 : Int) ≤ ((P.2 : Nat) : Int)) = true := decide_eq_true (by omega)
      have g3 : decide (((P.2 : Nat) : Int) ≤ ((T : Nat) : Int)) = true := decide_eq_true (by omega)
      have g4 : sok (0 : Int) ((P.2 : Nat) : Int) T = true := sok_iff.2 ⟨by omega, by omega, by omega⟩
      have fin : ((catB P.1).toList == (strOfNums (AM.sub nums ((0 : Nat) : Int) ((0 + (P.2 - 0) : Nat) : Int))).toList) = true := by
        refine beqS.2 (ls_inj ?_)
        rw [ls_catB, r2, ls_str, ls_str]
        unfold AM.sub
        simp [List.map_take]
      have tz : Int.toNat (0 : Int) = 0 := rfl
      simp only [laws_FnSheets_g, laws_FnSheets_T, Tree.run, hb, Bool.false_eq_true, if_false, b1, Option.bind_some, if_true, cN_len, l0, ix_all, st, rc, ends_len, hin, Int.toNat_natCast, hz, ← hT, en, decide_true, Bool.not_true, Bool.not_false, sm, z0, a0, c0, d0, x1, x2, x3, k4, ok0, tz, rc2, ink, enk, tk, ft, inc, ← hnv, ← hnums, rc3, st3, g1, g2, g3, g4, fin]
theorem nfs_lawL (a b : Nat) (ha : a < 9223372036854775808) (hb : b < 9223372036854775808) (big : maxN < a ∨ maxN < b) : laws_FnSheets_len_g a b = some true := by
  have : laws_b10Long_len_v a b = true := by
    unfold maxN at big
    unfold laws_b10Long_len_v
    by_cases h : (1048576 : Int) < ((a : Nat) : Int)
    · rw [if_pos (decide_eq_true h)]
    · rw [if_neg (by simpa using h)]; exact decide_eq_true (by omega)
  simp only [laws_FnSheets_len_g, laws_FnSheets_len_T, Tree.run, this, if_true]
end Go.Proofs.Ythdmkdkbfhoahaa.AM
