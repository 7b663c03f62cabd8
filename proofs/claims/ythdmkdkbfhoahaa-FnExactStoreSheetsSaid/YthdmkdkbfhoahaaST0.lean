/- Bytes of numbers, and of sheets. -/
import Derived.Test.YthdmkdkbfhoahaaL5
import Derived.Test.YthdmkdkbfhoahaaD18
set_option linter.unusedSimpArgs false
set_option linter.unusedVariables false
set_option maxHeartbeats 1000000
namespace Go.Proofs.Ythdmkdkbfhoahaa.AM

theorem u8w (n : Int) : IntKind.u8.wrap n = n % 256 := by simp [IntKind.wrap, IntKind.bits, IntKind.signed]
theorem u32w (n : Int) : IntKind.u32.wrap n = n % 4294967296 := by simp [IntKind.wrap, IntKind.bits, IntKind.signed]
theorem ishr8 (n : Int) : ishr .i64 n 8 = n / 256 := by
  unfold ishr
  have e : (2 : Int) ^ (min (8 : Int).toNat IntKind.i64.bits) = 256 := by decide
  rw [e, Int.fdiv_eq_ediv_of_nonneg _ (by omega)]
theorem feq_nan {x : Nat} (h : isNan .f32 x = true) : feq .f32 x x = false := by
  unfold feq
  have e : ∀ x y, FloatKind.f32.format.order x y = (FloatKind.f32.decode x).order (FloatKind.f32.decode y) := by intro x y; rfl
  rw [e]
  unfold isNan at h
  cases hd : FloatKind.f32.decode x with
  | nan s t => rfl
  | infinity s => rw [hd] at h; cases h
  | number s m i => rw [hd] at h; cases h
def bitsV (x : Nat) : Int := if isNan .f32 x = true then 2143289344 else (x : Int)
theorem bitsV_bd (x : Nat) (h : x < 4294967296) : 0 ≤ bitsV x ∧ bitsV x < 4294967296 := by
  unfold bitsV; split <;> omega
theorem bitsS (x : Nat) (h : x < 4294967296) : spec_l01Bits_g x = some (bitsV x) := by
  simp only [spec_l01Bits_g, spec_l01Bits_T, Tree.run, bitsV]
  cases hn : isNan .f32 x with
  | true => rw [feq_nan hn]; rfl
  | false => rw [feq_self hn, w64 (by omega) (by omega)]; rfl
theorem bitsI (x : Nat) (h : x < 4294967296) : impl_BitsOf_g x = some (bitsV x) := by
  have e : impl_BitsOf_g x = spec_l01Bits_g x := rfl
  rw [e, bitsS x h]
/-- The bytes of a number, the least one first. -/
def wn (n : Int) (m : Nat) : List Int := (List.range m).map fun j => n / 256 ^ j % 256
theorem bytesI (n : Int) (m : Nat) (hm : m ≤ 8) : impl_bytesOf_g n (m : Int) = some (wn n m) := by
  have e : impl_bytesOf_l0_g (m : Int) (n, 0, []) = some (wn n m) := by
    have := whileM_fix (T := fun s => (impl_bytesOf_l0_T (m : Int) s).run) (fun i => (n / 256 ^ i, (i : Int), wn n i)) (n := m) (r := wn n m) (fun i hi => by
      have hl : (wn n i ++ [IntKind.u8.wrap (n / 256 ^ i)]) = wn n (i + 1) := by simp [wn, List.range_succ, u8w]
      have hf : fits (wn n (i + 1)).length = true := fits_iff.2 (by simp [wn, maxN]; omega)
      have hd : n / 256 ^ i / 256 = n / 256 ^ (i + 1) := by rw [Int.ediv_ediv_of_nonneg (Int.pow_nonneg (by omega)), Int.pow_succ]
      have h1 : decide ((i : Int) < (m : Int)) = true := by simpa using hi
      simp only [impl_bytesOf_l0_T, Tree.run, h1, if_true, hl, hf, ishr8, hd, w_succ (show i < 4611686018427387904 by omega)]
      simp) (by simp [impl_bytesOf_l0_T, Tree.run])
    simpa [wn, impl_bytesOf_l0_g] using this
  simp only [impl_bytesOf_g, impl_bytesOf_T, Tree.run, if_true, e, Option.bind_some]
theorem wn4 (n : Int) : wn n 4 = [n % 256, n / 256 % 256, n / 65536 % 256, n / 16777216 % 256] := by simp [wn, List.range_succ]
theorem wn2 (n : Int) : wn n 2 = [n % 256, n / 256 % 256] := by simp [wn, List.range_succ]
theorem wn_len (n : Int) (m : Nat) : (wn n m).length = m := by simp [wn]
theorem spec4 (n : Int) (h0 : 0 ≤ n) (h1 : n < 9223372036854775808) : ([IntKind.u8.wrap (Int.tmod n (256 : Int)), IntKind.u8.wrap (Int.tmod (IntKind.i64.wrap (Int.tdiv n (256 : Int))) (256 : Int)), IntKind.u8.wrap (Int.tmod (IntKind.i64.wrap (Int.tdiv n (65536 : Int))) (256 : Int)), IntKind.u8.wrap (IntKind.i64.wrap (Int.tdiv n (16777216 : Int)))] : List Int) = wn n 4 := by
  rw [wn4]
  simp only [u8w, Int.tdiv_eq_ediv_of_nonneg h0]
  rw [w64 (n := n / 256) (by omega) (by omega), w64 (n := n / 65536) (by omega) (by omega), w64 (n := n / 16777216) (by omega) (by omega)]
  rw [Int.tmod_eq_emod_of_nonneg h0, Int.tmod_eq_emod_of_nonneg (show 0 ≤ n / 256 by omega), Int.tmod_eq_emod_of_nonneg (show 0 ≤ n / 65536 by omega)]
  simp only [Int.emod_emod_of_dvd, Int.dvd_refl]
theorem spec2 (n : Int) (h0 : 0 ≤ n) (h1 : n < 65536) : ([IntKind.u8.wrap (Int.tmod n (256 : Int)), IntKind.u8.wrap (IntKind.i64.wrap (Int.tdiv n (256 : Int)))] : List Int) = wn n 2 := by
  rw [wn2]
  simp only [u8w, Int.tdiv_eq_ediv_of_nonneg h0]
  rw [w64 (n := n / 256) (by omega) (by omega), Int.tmod_eq_emod_of_nonneg h0]
  simp only [Int.emod_emod_of_dvd, Int.dvd_refl]
theorem bt_bd (s : ByteArray) (i : Int) : 0 ≤ bt s i ∧ bt s i < 256 := by
  unfold bt
  cases s[i.toNat]? with
  | none => simp
  | some b => have := b.toNat_lt; simp; omega
/-- The check number is told, and small. -/
theorem chkS (s : ByteArray) (hs : s.size < 9223372036854775807) : ∃ v, spec_l01Check_g 0 s = some v ∧ 0 ≤ v ∧ v < 65003 := by
  have key := whileM_wf (fun st => (spec_l01Check_l0_T s st).run) (fun st => 0 ≤ st.1 ∧ st.1 < 65003 ∧ 0 ≤ st.2 ∧ st.2 ≤ (s.size : Int)) (fun st => ((s.size : Int) - st.2).toNat) (fun _ v => 0 ≤ v ∧ v < 65003) (by
    rintro ⟨a, i⟩ ⟨h1, h2, h3, h4⟩
    simp only at h1 h2 h3 h4
    by_cases hi : i < (s.size : Int)
    · left
      have hb := bt_bd s i
      have hin : inb i s.size = true := inb_iff.2 ⟨h3, by omega⟩
      have hw : IntKind.i64.wrap (i + 1) = i + 1 := w64 (by omega) (by omega)
      have w1 : IntKind.i64.wrap (863 * a) = 863 * a := w64 (by omega) (by omega)
      have w2 : IntKind.i64.wrap (bt s i) = bt s i := w64 (by omega) (by omega)
      have w3 : IntKind.i64.wrap (863 * a + bt s i) = 863 * a + bt s i := w64 (by omega) (by omega)
      have w4 : IntKind.i64.wrap (863 * a + bt s i + 157) = 863 * a + bt s i + 157 := w64 (by omega) (by omega)
      refine ⟨(Int.tmod (863 * a + bt s i + 157) 65003, i + 1), ?_, ?_, ?_, fun _ h => h⟩
      · simp [spec_l01Check_l0_T, Tree.run, hi, hin, hw, w1, w2, w3, w4]
      · rw [Int.tmod_eq_emod_of_nonneg (by omega)]; simp only; omega
      · simp only; omega
    · right
      exact ⟨a, by simp [spec_l01Check_l0_T, Tree.run, hi], h1, h2⟩) (0, 0) ⟨by decide, by decide, by decide, by simp⟩
  obtain ⟨v, h1, h2⟩ := key
  exact ⟨v, by simp only [spec_l01Check_g, spec_l01Check_T, Tree.run, if_true, spec_l01Check_l0_g, h1, Option.bind_some], h2⟩
theorem chkI (s : ByteArray) : impl_checkOf_g 0 s = spec_l01Check_g 0 s := by
  have e : impl_checkOf_l0_g s (0, 0) = spec_l01Check_l0_g s (0, 0) := rfl
  simp only [impl_checkOf_g, impl_checkOf_T, spec_l01Check_g, spec_l01Check_T, Tree.run, if_true, e]

/-- Both walks over the numbers come to the same bytes. -/
theorem storeL (xs : List Nat) (hx : ∀ x ∈ xs, x < 4294967296) (hl : xs.length ≤ 1048576) (acc : List Int) (ha : acc.length ≤ 1048576) :
    ∃ v : List Int, impl_storeSheet_l0_g xs (0, acc) = some v ∧ spec_l07Store_l0_g xs (0, acc) = some v ∧ v.length ≤ acc.length + 4 * xs.length := by
  have nx : ∀ i : Int, 0 ≤ i → i < (xs.length : Int) → nth xs i.toNat < 4294967296 := fun i h0 h1 => by
    rw [nth_of xs _ (by omega)]; exact hx _ (List.getElem_mem _)
  have stepS : ∀ (i : Int) (b : List Int), 0 ≤ i → i < (xs.length : Int) → (spec_l07Store_l0_T xs (i, b)).run = if fits (b ++ wn (bitsV (nth xs i.toNat)) 4).length = true then some (.inl (i + 1, b ++ wn (bitsV (nth xs i.toNat)) 4)) else none := fun i b h0 h1 => by
    have hn := nx i h0 h1
    have hb := bitsV_bd _ hn
    have hin : inb i xs.length = true := inb_iff.2 ⟨h0, by omega⟩
    have hw : IntKind.i64.wrap (i + 1) = i + 1 := w64 (by omega) (by omega)
    have z1 : (!decide ((256 : Int) = 0)) = true := by decide
    have z2 : (!decide ((65536 : Int) = 0)) = true := by decide
    have z3 : (!decide ((16777216 : Int) = 0)) = true := by decide
    simp only [spec_l07Store_l0_T, Tree.run, h1, decide_true, if_true, hin, bitsS _ hn, Option.bind_some, z1, z2, z3, spec4 _ hb.1 (by omega), hw]
  have stepI : ∀ (i : Int) (b : List Int), 0 ≤ i → i < (xs.length : Int) → (impl_storeSheet_l0_T xs (i, b)).run = if fits (b ++ wn (bitsV (nth xs i.toNat)) 4).length = true then some (.inl (i + 1, b ++ wn (bitsV (nth xs i.toNat)) 4)) else none := fun i b h0 h1 => by
    have hn := nx i h0 h1
    have hin : inb i xs.length = true := inb_iff.2 ⟨h0, by omega⟩
    have hw : IntKind.i64.wrap (i + 1) = i + 1 := w64 (by omega) (by omega)
    have h4 := bytesI (bitsV (nth xs i.toNat)) 4 (by omega)
    simp only [impl_storeSheet_l0_T, Tree.run, h1, decide_true, if_true, hin, bitsI _ hn, Option.bind_some, show ((4 : Nat) : Int) = 4 from rfl] at h4 ⊢
    simp only [h4, Option.bind_some, hw]
  have cg := whileM_congr (T := fun s => (impl_storeSheet_l0_T xs s).run) (T' := fun s => (spec_l07Store_l0_T xs s).run) (fun s => 0 ≤ s.1 ∧ s.1 ≤ (xs.length : Int)) (by
    rintro ⟨i, b⟩ ⟨h0, h1⟩
    simp only at h0 h1
    by_cases hi : i < (xs.length : Int)
    · simp only [stepS i b h0 hi, stepI i b h0 hi]
      refine ⟨trivial, fun s' hs => ?_⟩
      split at hs
      · simp only [Option.some.injEq, Sum.inl.injEq] at hs; subst hs; simp only; omega
      · cases hs
    · refine ⟨by simp [impl_storeSheet_l0_T, spec_l07Store_l0_T, Tree.run, hi], fun s' hs => ?_⟩
      simp [impl_storeSheet_l0_T, Tree.run, hi] at hs) (0, acc) ⟨by simp, by simp⟩
  have key := whileM_wf (fun s => (spec_l07Store_l0_T xs s).run) (fun s => 0 ≤ s.1 ∧ s.1 ≤ (xs.length : Int) ∧ (s.2.length : Int) ≤ acc.length + 4 * s.1) (fun s => ((xs.length : Int) - s.1).toNat) (fun _ v => v.length ≤ acc.length + 4 * xs.length) (by
    rintro ⟨i, b⟩ ⟨h0, h1, h2⟩
    simp only at h0 h1 h2
    by_cases hi : i < (xs.length : Int)
    · left
      have hlen : (b ++ wn (bitsV (nth xs i.toNat)) 4).length = b.length + 4 := by rw [List.length_append, wn_len]
      refine ⟨(i + 1, b ++ wn (bitsV (nth xs i.toNat)) 4), ?_, ?_, ?_, fun _ h => h⟩
      · rw [stepS i b h0 hi, if_pos (fits_iff.2 (by rw [hlen]; unfold maxN; omega))]
      · simp only [hlen]; omega
      · simp only; omega
    · right
      exact ⟨b, by simp [spec_l07Store_l0_T, Tree.run, hi], by omega⟩) (0, acc) ⟨by simp, by simp, by simp⟩
  obtain ⟨v, h1, h2⟩ := key
  exact ⟨v, cg.trans h1, h1, h2⟩
theorem strOfNums_sz (xs : List Int) : (strOfNums xs).size = xs.length := strOfNums_size xs
/-- Both make the same bytes of a sheet. -/
theorem storeB (s : ByteArray) (r c : Int) (xs : List Nat) (hs : s.size ≤ 1000) (hx : ∀ x ∈ xs, x < 4294967296) (hl : xs.length ≤ 262144) :
    ∃ v : ByteArray, impl_storeSheet_g s r c xs = some v ∧ spec_l07Store_g s r c xs = some v ∧ v.size ≤ 2000000 := by
  have hn : (numsS s).length = s.size := nums_len s
  have z1 : decide (0 < (([(77 : Int), (65 : Int), (84 : Int), (49 : Int)] : List Int).length)) = true := by decide
  have z2 : (!decide ((256 : Int) = 0)) = true := by decide
  have f0 : fits s.size = true := fits_iff.2 (by unfold maxN; omega)
  obtain ⟨p, hp⟩ : ∃ p, p = (([(77 : Int), (65 : Int), (84 : Int), (49 : Int)] : List Int) ++ ([IntKind.u8.wrap (((s.size : Nat) : Int))] : List Int)) := ⟨_, rfl⟩
  have hpl : p.length = 5 := by rw [hp]; rfl
  have f1 : fits p.length = true := fits_iff.2 (by rw [hpl]; decide)
  have f2 : fits (p ++ numsS s).length = true := fits_iff.2 (by rw [List.length_append, hpl, hn]; unfold maxN; omega)
  obtain ⟨q, hq⟩ : ∃ q, q = (p ++ numsS s) ++ ([IntKind.u8.wrap r, IntKind.u8.wrap c] : List Int) := ⟨_, rfl⟩
  have hql : q.length = s.size + 7 := by rw [hq, List.length_append, List.length_append, hpl, hn]; simp; omega
  have f3 : fits q.length = true := fits_iff.2 (by rw [hql]; unfold maxN; omega)
  obtain ⟨v, l1, l2, l3⟩ := storeL xs hx (by omega) q (by omega)
  obtain ⟨k, c1, c2, c3⟩ := chkS (strOfNums v) (by rw [strOfNums_sz]; omega)
  have b2 := bytesI k 2 (by omega)
  have e2 : ((2 : Nat) : Int) = 2 := rfl
  rw [e2] at b2
  have f4 : fits (v ++ wn k 2).length = true := fits_iff.2 (by rw [List.length_append, wn_len]; unfold maxN; omega)
  refine ⟨strOfNums (v ++ wn k 2), ?_, ?_, ?_⟩
  · simp only [impl_storeSheet_g, impl_storeSheet_T, Tree.run, ← hp, ← hq, z1, f1, f2, f3, if_true, l1, Option.bind_some, chkI, c1, b2, f4]
  · simp only [spec_l07Store_g, spec_l07Store_T, Tree.run, ← hp, ← hq, z1, z2, f0, f1, f2, f3, if_true, l2, Option.bind_some, c1, spec2 k c2 (by omega), f4]
  · rw [strOfNums_sz, List.length_append, wn_len]; omega
end Go.Proofs.Ythdmkdkbfhoahaa.AM
