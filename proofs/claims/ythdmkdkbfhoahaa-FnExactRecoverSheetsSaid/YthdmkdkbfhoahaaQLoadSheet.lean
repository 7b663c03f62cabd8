/- The law LoadSheet: both sides, and the law. -/
import Derived.Test.YthdmkdkbfhoahaaLS0
set_option linter.unusedSimpArgs false
set_option linter.unusedVariables false
set_option maxHeartbeats 2000000
namespace Go.Proofs.Ythdmkdkbfhoahaa.AM

def stI (s : ByteArray) (a : Int) : Nat → (Int) ⊕ (Int × (List Nat))
  | 0 => .inl a
  | i + 1 => .inr (a + 4 * ((i + 1 : Nat) : Int), numsAt s a (i + 1))
/-- What stands in a sheet's bytes. -/
structure Hd (s : ByteArray) (k r c : Int) (m : Nat) : Prop where
  ek : k = bt s 4
  er : r = bt s (5 + k)
  ec : c = bt s (6 + k)
  kb : 0 ≤ k ∧ k < 256
  rb : 0 ≤ r ∧ r < 256
  cb : 0 ≤ c ∧ c < 256
  em : r * c = (m : Int)
  mb : m ≤ 65025
theorem hd (s : ByteArray) : ∃ k r c m, Hd s k r c m := by
  have bk := bt_bd s 4
  have br := bt_bd s (5 + bt s 4)
  have bc := bt_bd s (6 + bt s 4)
  have hrc : bt s (5 + bt s 4) * bt s (6 + bt s 4) ≤ 255 * 255 := Int.mul_le_mul (by omega) (by omega) (by omega) (by omega)
  have hrc0 : 0 ≤ bt s (5 + bt s 4) * bt s (6 + bt s 4) := Int.mul_nonneg (by omega) (by omega)
  exact ⟨_, _, _, (bt s (5 + bt s 4) * bt s (6 + bt s 4)).toNat, rfl, rfl, rfl, bk, br, bc, by omega, by omega⟩
structure Wr (k r c : Int) (m : Nat) : Prop where
  wk : IntKind.i64.wrap k = k
  wr : IntKind.i64.wrap r = r
  wc : IntKind.i64.wrap c = c
  f7 : IntKind.i64.wrap (7 + k) = 7 + k
  f5 : IntKind.i64.wrap (7 + k - 2) = 5 + k
  f6 : IntKind.i64.wrap (7 + k - 1) = 6 + k
  g5 : IntKind.i64.wrap (5 + k) = 5 + k
  g6 : IntKind.i64.wrap (5 + k + 1) = 6 + k
  g7 : IntKind.i64.wrap (5 + k + 2) = 7 + k
  pr : IntKind.i64.wrap (r * c) = (m : Int)
  p4 : IntKind.i64.wrap (4 * (m : Int)) = 4 * (m : Int)
  en : IntKind.i64.wrap (7 + k + 4 * (m : Int)) = 7 + k + 4 * (m : Int)
  en2 : IntKind.i64.wrap (7 + k + 4 * (m : Int) + 2) = 9 + k + 4 * (m : Int)
theorem Hd.wr {s : ByteArray} {k r c : Int} {m : Nat} (h : Hd s k r c m) : Wr k r c m := by
  obtain ⟨_, _, _, kb, rb, cb, hm, mb⟩ := h
  have w : ∀ x : Int, 0 ≤ x → x < 4294967296 → IntKind.i64.wrap x = x := fun x h1 h2 => w64 (by omega) (by omega)
  refine ⟨w _ (by omega) (by omega), w _ (by omega) (by omega), w _ (by omega) (by omega), w _ (by omega) (by omega), ?_, ?_, w _ (by omega) (by omega), ?_, ?_, ?_, w _ (by omega) (by omega), w _ (by omega) (by omega), ?_⟩
  · rw [w _ (by omega) (by omega)]; omega
  · rw [w _ (by omega) (by omega)]; omega
  · rw [w _ (by omega) (by omega)]; omega
  · rw [w _ (by omega) (by omega)]; omega
  · rw [hm, w _ (by omega) (by omega)]
  · rw [w _ (by omega) (by omega)]; omega
theorem loopI (s : ByteArray) {k r c : Int} {m : Nat} (h : Hd s k r c m) (hs : 7 + k + 4 * (m : Int) ≤ (s.size : Int)) (hsz : s.size < 4294967296) :
    impl_loadSheet_l0_g s (.inl (7 + k)) = some (if m = 0 then .inl () else .inr (numsAt s (7 + k) m)) := by
  have W := h.wr
  obtain ⟨hk, hr, hc, kb, rb, cb, hm, mb⟩ := h
  obtain ⟨wk, wr, wc, f7, f5, f6, _, _, _, pr, p4, en, en2⟩ := W
  have w : ∀ x : Int, 0 ≤ x → x < 4294967296 → IntKind.i64.wrap x = x := fun x h1 h2 => w64 (by omega) (by omega)
  have wd : ∀ p : Int, canon .f32 (Int.toNat (IntKind.u32.wrap (num4 s p))) = word s p := fun p => by rw [u32_num]; rfl
  have := whileM_fix (T := fun st => (impl_loadSheet_l0_T s st).run) (fun i => stI s (7 + k) i) (n := m) (r := (if m = 0 then .inl () else .inr (numsAt s (7 + k) m))) (fun i hi => by
    cases i with
    | zero =>
      have hlt : 7 + k < 7 + k + 4 * (m : Int) := by omega
      have n1 := number_at s (7 + k) (by omega) (by omega)
      have w4 : IntKind.i64.wrap (7 + k + 4) = 7 + k + 4 := w _ (by omega) (by omega)
      have ok : sok (7 + k) (7 + k + 4) s.size = true := sok_iff.2 ⟨by omega, by omega, by omega⟩
      have hf : fits [word s (7 + k)].length = true := rfl
      have hz : decide ([word s (7 + k)].length = 0) = false := rfl
      simp only [stI, impl_loadSheet_l0_T, Tree.run, wbt, ← hk, wk, f7, f5, f6, ← hr, ← hc, wr, wc, pr, p4, en, hlt, decide_true, if_true, w4, ok, n1, Option.bind_some, wd, hf, hz, Bool.false_eq_true, if_false]
      simp [numsAt, List.range_succ]
    | succ i =>
      obtain ⟨p, hp⟩ : ∃ p, p = 7 + k + 4 * ((i + 1 : Nat) : Int) := ⟨_, rfl⟩
      have hlt : p < 7 + k + 4 * (m : Int) := by omega
      have n1 := number_at s p (by omega) (by omega)
      have w4 : IntKind.i64.wrap (p + 4) = p + 4 := w _ (by omega) (by omega)
      have ok : sok p (p + 4) s.size = true := sok_iff.2 ⟨by omega, by omega, by omega⟩
      have hf : fits (numsAt s (7 + k) (i + 1) ++ [word s p]).length = true := fits_iff.2 (by rw [List.length_append, numsAt_len]; simp [maxN]; omega)
      have hnx : p + 4 = 7 + k + 4 * ((i + 1 + 1 : Nat) : Int) := by omega
      simp only [stI, ← hp, impl_loadSheet_l0_T, Tree.run, wbt, ← hk, wk, f7, f5, f6, ← hr, ← hc, wr, wc, pr, p4, en, hlt, decide_true, if_true, w4, ok, n1, Option.bind_some, wd, hf]
      rw [numsAt_succ s (7 + k) (i + 1), ← hp, hnx]) (by
    cases m with
    | zero =>
      have hlt : ¬ (7 + k < 7 + k + 4 * ((0 : Nat) : Int)) := by omega
      simp only [stI, impl_loadSheet_l0_T, Tree.run, wbt, ← hk, wk, f7, f5, f6, ← hr, ← hc, wr, wc, pr, p4, en, hlt, decide_false, Bool.false_eq_true, if_false, if_true]
    | succ m =>
      have hlt : ¬ (7 + k + 4 * ((m + 1 : Nat) : Int) < 7 + k + 4 * ((m + 1 : Nat) : Int)) := by omega
      simp only [stI, impl_loadSheet_l0_T, Tree.run, wbt, ← hk, wk, f7, f5, f6, ← hr, ← hc, wr, wc, pr, p4, en, hlt, decide_false, Bool.false_eq_true, if_false]
      rfl)
  exact this
theorem sheet_zero (nm : ByteArray) (r c : Int) (h : sheetB nm r c [] = true) : False := by
  obtain ⟨_, h1, h2, h3, h4, h5⟩ := sheet_bd h
  have : 0 < r * c := Int.mul_pos (by omega) (by omega)
  simp at h5; omega
theorem name_sz (s : ByteArray) (k : Int) (hk : 0 ≤ k ∧ k < 256) : (ByteArray.extract s (Int.toNat 5) (Int.toNat (5 + k))).size ≤ 256 := by
  rw [ByteArray.size_extract]; omega
/-- What the program reads of bytes that are long enough. -/
theorem loadI (s : ByteArray) {k r c : Int} {m : Nat} (h : Hd s k r c m) (h5 : 5 ≤ (s.size : Int)) (h7 : 7 + k ≤ (s.size : Int)) (hs : 9 + k + 4 * (m : Int) ≤ (s.size : Int)) (hsz : s.size < 4294967296) :
    ∃ v, impl_loadSheet_g s = some v ∧ ((sheetB (ByteArray.extract s (Int.toNat 5) (Int.toNat (5 + k))) r c (numsAt s (7 + k) m) = false ∧ v = .inl ByteArray.empty) ∨
      (sheetB (ByteArray.extract s (Int.toNat 5) (Int.toNat (5 + k))) r c (numsAt s (7 + k) m) = true ∧ ∃ w, spec_l07Store_g (ByteArray.extract s (Int.toNat 5) (Int.toNat (5 + k))) r c (numsAt s (7 + k) m) = some w ∧
        v = if (w.toList == (ByteArray.extract s 0 (Int.toNat (9 + k + 4 * (m : Int)))).toList) = true then .inr (.inr (ByteArray.extract s (Int.toNat 5) (Int.toNat (5 + k)), r, c, 9 + k + 4 * (m : Int), numsAt s (7 + k) m)) else .inl ByteArray.empty)) := by
  have lp := loopI s h (by omega) hsz
  have W := h.wr
  obtain ⟨hk, hr, hc, kb, rb, cb, hm, mb⟩ := h
  obtain ⟨wk, wr, wc, f7, f5, f6, _, _, _, pr, p4, en, en2⟩ := W
  have i4 : inb 4 s.size = true := inb_iff.2 ⟨by omega, by omega⟩
  have i5 : inb (5 + k) s.size = true := inb_iff.2 ⟨by omega, by omega⟩
  have i6 : inb (6 + k) s.size = true := inb_iff.2 ⟨by omega, by omega⟩
  have ok5 : sok 5 (5 + k) s.size = true := sok_iff.2 ⟨by omega, by omega, by omega⟩
  have ok0 : sok 0 (9 + k + 4 * (m : Int)) s.size = true := sok_iff.2 ⟨by omega, by omega, by omega⟩
  have c5 : decide (((s.size : Nat) : Int) < 5) = false := decide_eq_false (by omega)
  have c7 : decide (((s.size : Nat) : Int) < 7 + k) = false := decide_eq_false (by omega)
  have c9 : decide (((s.size : Nat) : Int) < 9 + k + 4 * (m : Int)) = false := decide_eq_false (by omega)
  have nsz := name_sz s k kb
  obtain ⟨nm, hnm⟩ : ∃ nm, nm = ByteArray.extract s (Int.toNat 5) (Int.toNat (5 + k)) := ⟨_, rfl⟩
  rw [← hnm] at nsz ⊢
  have z0 : Int.toNat (0 : Int) = 0 := rfl
  have valid : ∀ xs : List Nat, xs.length ≤ 65025 → impl_ValidSheet_g nm r c xs = some (sheetB nm r c xs) := fun xs hx => sheetI nm r c xs (by omega) (by unfold maxN; omega)
  simp only [impl_loadSheet_g, impl_loadSheet_T, Tree.run, wbt, ← hk, wk, f7, f5, f6, ← hr, ← hc, wr, wc, pr, p4, en, en2, c5, c7, c9, i4, i5, i6, ok5, ok0, if_true, Bool.false_eq_true, if_false, lp, Option.bind_some, ← hnm, z0]
  by_cases hm0 : m = 0
  · subst hm0
    have e0 : numsAt s (7 + k) 0 = [] := rfl
    have hv : sheetB nm r c [] = false := by
      cases hb : sheetB nm r c [] with
      | false => rfl
      | true => exact (sheet_zero nm r c hb).elim
    refine ⟨.inl ByteArray.empty, ?_, .inl ⟨by rw [e0]; exact hv, rfl⟩⟩
    simp only [Tree.run, if_true, valid [] (by simp), hv, Option.bind_some, Bool.not_false]
  · simp only [hm0, if_false, Tree.run, valid _ (show (numsAt s (7 + k) m).length ≤ 65025 by rw [numsAt_len]; omega), Option.bind_some]
    cases hb : sheetB nm r c (numsAt s (7 + k) m) with
    | false => exact ⟨.inl ByteArray.empty, by simp [Tree.run], .inl ⟨rfl, rfl⟩⟩
    | true =>
      obtain ⟨w, w1, w2, _⟩ := storeB nm r c (numsAt s (7 + k) m) (by omega) (numsAt_lt _ _ _) (by rw [numsAt_len]; omega)
      refine ⟨_, ?_, .inr ⟨rfl, w, w2, rfl⟩⟩
      simp only [Tree.run, Bool.not_true, Bool.false_eq_true, if_false, w1, Option.bind_some]
      cases (w.toList == (ByteArray.extract s 0 (Int.toNat (9 + k + 4 * (m : Int)))).toList) <;> simp
theorem eqSh_self (s : ByteArray) (r c : Int) (xs : List Nat) (h : xs.length ≤ maxN) : laws_eqSheet_g s r c xs s r c xs = some true := by
  simp [laws_eqSheet_g, laws_eqSheet_T, Tree.run, eqM_self r c xs h]
end Go.Proofs.Ythdmkdkbfhoahaa.AM
