/- The law LoadSheet: both sides, and the law. -/
import Derived.Test.YthdmkdkbfhoahaaLS0
set_option linter.unusedSimpArgs false
set_option linter.unusedVariables false
set_option maxHeartbeats 2000000
namespace Go.Proofs.Ythdmkdkbfhoahaa.AM

def stI (s : ByteArray) (a : Int) : Nat → (Int) ⊕ (Int × (List Nat))
  | 0 => .inl a
  | i + 1 => .inr (a + 4 * ((i + 1 : Nat) : Int), numsAt s a (i + 1))
/-- What stands in a sheet's bytes. -/
structure Hd (s : ByteArray) (k r c : Int) (m : Nat) : Prop where
  ek : k = bt s 4
  er : r = bt s (5 + k)
  ec : c = bt s (6 + k)
  kb : 0 ≤ k ∧ k < 256
  rb : 0 ≤ r ∧ r < 256
  cb : 0 ≤ c ∧ c < 256
  em : r * c = (m : Int)
  mb : m ≤ 65025
theorem hd (s : ByteArray) : ∃ k r c m, Hd s k r c m := by
  have bk := bt_bd s 4
  have br := bt_bd s (5 + bt s 4)
  have bc := bt_bd s (6 + bt s 4)
  have hrc : bt s (5 + bt s 4) * bt s (6 + bt s 4) ≤ 255 * 255 := Int.mul_le_mul (by omega) (by omega) (by omega) (by omega)
  have hrc0 : 0 ≤ bt s (5 + bt s 4) * bt s (6 + bt s 4) := Int.mul_nonneg (by omega) (by omega)
  exact ⟨_, _, _, (bt s (5 + bt s 4) * bt s (6 + bt s 4)).toNat, rfl, rfl, rfl, bk, br, bc, by omega, by omega⟩
structure Wr (k r c : Int) (m : Nat) : Prop where
  wk : IntKind.i64.wrap k = k
  wr : IntKind.i64.wrap r = r
  wc : IntKind.i64.wrap c = c
  f7 : IntKind.i64.wrap (7 + k) = 7 + k
  f5 : IntKind.i64.wrap (7 + k - 2) = 5 + k
  f6 : IntKind.i64.wrap (7 + k - 1) = 6 + k
  g5 : IntKind.i64.wrap (5 + k) = 5 + k
  g6 : IntKind.i64.wrap (5 + k + 1) = 6 + k
  g7 : IntKind.i64.wrap (5 + k + 2) = 7 + k
  pr : IntKind.i64.wrap (r * c) = (m : Int)
  p4 : IntKind.i64.wrap (4 * (m : Int)) = 4 * (m : Int)
  en : IntKind.i64.wrap (7 + k + 4 * (m : Int)) = 7 + k + 4 * (m : Int)
  en2 : IntKind.i64.wrap (7 + k + 4 * (m : Int) + 2) = 9 + k + 4 * (m : Int)
theorem Hd.wr {s : ByteArray} {k r c : Int} {m : Nat} (h : Hd s k r c m) : Wr k r c m := by
  obtain ⟨_, _, _, kb, rb, cb, hm, mb⟩ := h
  have w : ∀ x : Int, 0 ≤ x → x < 4294967296 → IntKind.i64.wrap x = x := fun x h1 h2 => w64 (by omega) (by omega)
  refine ⟨w _ (by omega) (by omega), w _ (by omega) (by omega), w _ (by omega) (by omega), w _ (by omega) (by omega), ?_, ?_, w _ (by omega) (by omega), ?_, ?_, ?_, w _ (by omega) (by omega), w _ (by omega) (by omega), ?_⟩
  · rw [w _ (by omega) (by omega)]; omega
  · rw [w _ (by omega) (by omega)]; omega
  · rw [w _ (by omega) (by omega)]; omega
  · rw [w _ (by omega) (by omega)]; omega
  · rw [hm, w _ (by omega) (by omega)]
  · rw [w _ (by omega) (by omega)]; omega
theorem loopI (s : ByteArray) {k r c : Int} {m : Nat} (h : Hd s k r c m) (hs : 7 + k + 4 * (m : Int) ≤ (s.size : Int)) (hsz : s.size < 4294967296) :
    impl_loadSheet_l0_g s (.inl (7 + k)) = some (if m = 0 then .inl () else .inr (numsAt s (7 + k) m)) := by
  have W := h.wr
  obtain ⟨hk, hr, hc, kb, rb, cb, hm, mb⟩ := h
  obtain ⟨wk, wr, wc, f7, f5, f6, _, _, _, pr, p4, en, en2⟩ := W
  have w : ∀ x : Int, 0 ≤ x → x < 4294967296 → IntKind.i64.wrap x = x := fun x h1 h2 => w64 (by omega) (by omega)
  have wd : ∀ p : Int, canon .f32 (Int.toNat (IntKind.u32.wrap (num4 s p))) = word s p := fun p => by rw [u32_num]; rfl
  have := whileM_fix (T := fun st => (impl_loadSheet_l0_T s st).run) (fun i => stI s (7 + k) i) (n := m) (r := (if m = 0 then .inl () else .inr (numsAt s (7 + k) m))) (fun i hi => by
    cases i with
    | zero =>
      have hlt : 7 + k < 7 + k + 4 * (m : Int) := by omega
      have n1 := number_at s (7 + k) (by omega) (by omega)
      have w4 : IntKind.i64.wrap (7 + k + 4) = 7 + k + 4 := w _ (by omega) (by omega)
      have ok : sok (7 + k) (7 + k + 4) s.size = true := sok_iff.2 ⟨by omega, by omega, by omega⟩
      have hf : fits [word s (7 + k)].length = true := rfl
      have hz : decide ([word s (7 + k)].length = 0) = false := rfl
      simp only [stI, impl_loadSheet_l0_T, Tree.run, wbt, ← hk, wk, f7, f5, f6, ← hr, ← hc, wr, wc, pr, p4, en, hlt, decide_true, if_true, w4, ok, n1, Option.bind_some, wd, hf, hz, Bool.false_eq_true, if_false]
      simp [numsAt, List.range_succ]
    | succ i =>
      obtain ⟨p, hp⟩ : ∃ p, p = 7 + k + 4 * ((i + 1 : Nat) : Int) := ⟨_, rfl⟩
      have hlt : p < 7 + k + 4 * (m : Int) := by omega
      have n1 := number_at s p (by omega) (by omega)
      have w4 : IntKind.i64.wrap (p + 4) = p + 4 := w _ (by omega) (by omega)
      have ok : sok p (p + 4) s.size = true := sok_iff.2 ⟨by omega, by omega, by omega⟩
      have hf : fits (numsAt s (7 + k) (i + 1) ++ [word s p]).length = true := fits_iff.2 (by rw [List.length_append, numsAt_len]; simp [maxN]; omega)
      have hnx : p + 4 = 7 + k + 4 * ((i + 1 + 1 : Nat) : Int) := by omega
      simp only [stI, ← hp, impl_loadSheet_l0_T, Tree.run, wbt, ← hk, wk, f7, f5, f6, ← hr, ← hc, wr, wc, pr, p4, en, hlt, decide_true, if_true, w4, ok, n1, Option.bind_some, wd, hf]
      rw [numsAt_succ s (7 + k) (i + 1), ← hp, hnx]) (by
    cases m with
    | zero =>
      have hlt : ¬ (7 + k < 7 + k + 4 * ((0 : Nat) : Int)) := by omega
      simp only [stI, impl_loadSheet_l0_T, Tree.run, wbt, ← hk, wk, f7, f5, f6, ← hr, ← hc, wr, wc, pr, p4, en, hlt, decide_false, Bool.false_eq_true, if_false, if_true]
    | succ m =>
      have hlt : ¬ (7 + k + 4 * ((m + 1 : Nat) : Int) < 7 + k + 4 * ((m + 1 : Nat) : Int)) := by omega
      simp only [stI, impl_loadSheet_l0_T, Tree.run, wbt, ← hk, wk, f7, f5, f6, ← hr, ← hc, wr, wc, pr, p4, en, hlt, decide_false, Bool.false_eq_true, if_false]
      rfl)
  exact this
theorem sheet_zero (nm : ByteArray) (r c : Int) (h : sheetB nm r c [] = true) : False := by
  obtain ⟨_, h1, h2, h3, h4, h5⟩ := sheet_bd h
  have : 0 < r * c := Int.mul_pos (by omega) (by omega)
  simp at h5; omega
theorem name_sz (s : ByteArray) (k : Int) (hk : 0 ≤ k ∧ k < 256) : (ByteArray.extract s (Int.toNat 5) (Int.toNat (5 + k))).size ≤ 256 := by
  rw [ByteArray.size_extract]; omega
/-- What the program reads of bytes that are long enough. -/
theorem loadI (s : ByteArray) {k r c : Int} {m : Nat} (h : Hd s k r c m) (h5 : 5 ≤ (s.size : Int)) (h7 : 7 + k ≤ (s.size : Int)) (hs : 9 + k + 4 * (m : Int) ≤ (s.size : Int)) (hsz : s.size < 4294967296) :
    ∃ v, impl_loadSheet_g s = some v ∧ ((sheetB (ByteArray.extract s (Int.toNat 5) (Int.toNat (5 + k))) r c (numsAt s (7 + k) m) = false ∧ v = .inl ByteArray.empty) ∨
      (sheetB (ByteArray.extract s (Int.toNat 5) (Int.toNat (5 + k))) r c (numsAt s (7 + k) m) = true ∧ ∃ w, spec_l07Store_g (ByteArray.extract s (Int.toNat 5) (Int.toNat (5 + k))) r c (numsAt s (7 + k) m) = some w ∧
        v = if (w.toList == (ByteArray.extract s 0 (Int.toNat (9 + k + 4 * (m : Int)))).toList) = true then .inr (.inr (ByteArray.extract s (Int.toNat 5) (Int.toNat (5 + k)), r, c, 9 + k + 4 * (m : Int), numsAt s (7 + k) m)) else .inl ByteArray.empty)) := by
  have lp := loopI s h (by omega) hsz
  have W := h.wr
  obtain ⟨hk, hr, hc, kb, rb, cb, hm, mb⟩ := h
  obtain ⟨wk, wr, wc, f7, f5, f6, _, _, _, pr, p4, en, en2⟩ := W
  have i4 : inb 4 s.size = true := inb_iff.2 ⟨by omega, by omega⟩
  have i5 : inb (5 + k) s.size = true := inb_iff.2 ⟨by omega, by omega⟩
  have i6 : inb (6 + k) s.size = true := inb_iff.2 ⟨by omega, by omega⟩
  have ok5 : sok 5 (5 + k) s.size = true := sok_iff.2 ⟨by omega, by omega, by omega⟩
  have ok0 : sok 0 (9 + k + 4 * (m : Int)) s.size = true := sok_iff.2 ⟨by omega, by omega, by omega⟩
  have c5 : decide (((s.size : Nat) : Int) < 5) = false := decide_eq_false (by omega)
  have c7 : decide (((s.size : Nat) : Int) < 7 + k) = false := decide_eq_false (by omega)
  have c9 : decide (((s.size : Nat) : Int) < 9 + k + 4 * (m : Int)) = false := decide_eq_false (by omega)
  have nsz := name_sz s k kb
  obtain ⟨nm, hnm⟩ : ∃ nm, nm = ByteArray.extract s (Int.toNat 5) (Int.toNat (5 + k)) := ⟨_, rfl⟩
  rw [← hnm] at nsz ⊢
  have z0 : Int.toNat (0 : Int) = 0 := rfl
  have valid : ∀ xs : List Nat, xs.length ≤ 65025 → impl_ValidSheet_g nm r c xs = some (sheetB nm r c xs) := fun xs hx => sheetI nm r c xs (by omega) (by unfold maxN; omega)
  simp only [impl_loadSheet_g, impl_loadSheet_T, Tree.run, wbt, ← hk, wk, f7, f5, f6, ← hr, ← hc, wr, wc, pr, p4, en, en2, c5, c7, c9, i4, i5, i6, ok5, ok0, if_true, Bool.false_eq_true, if_false, lp, Option.bind_some, ← hnm, z0]
  by_cases hm0 : m = 0
  · subst hm0
    have e0 : numsAt s (7 + k) 0 = [] := rfl
    have hv : sheetB nm r c [] = false := by
      cases hb : sheetB nm r c [] with
      | false => rfl
      | true => exact (sheet_zero nm r c hb).elim
    refine ⟨.inl ByteArray.empty, ?_, .inl ⟨by rw [e0]; exact hv, rfl⟩⟩
    simp only [Tree.run, if_true, valid [] (by simp), hv, Option.bind_some, Bool.not_false]
  · simp only [hm0, if_false, Tree.run, valid _ (show (numsAt s (7 + k) m).length ≤ 65025 by rw [numsAt_len]; omega), Option.bind_some]
    cases hb : sheetB nm r c (numsAt s (7 + k) m) with
    | false => exact ⟨.inl ByteArray.empty, by simp [Tree.run], .inl ⟨rfl, rfl⟩⟩
    | true =>
      obtain ⟨w, w1, w2, _⟩ := storeB nm r c (numsAt s (7 + k) m) (by omega) (numsAt_lt _ _ _) (by rw [numsAt_len]; omega)
      refine ⟨_, ?_, .inr ⟨rfl, w, w2, rfl⟩⟩
      simp only [Tree.run, Bool.not_true, Bool.false_eq_true, if_false, w1, Option.bind_some]
      cases (w.toList == (ByteArray.extract s 0 (Int.toNat (9 + k + 4 * (m : Int)))).toList) <;> simp
/-- Both read the same. -/
theorem load_both (s : ByteArray) (hsz : s.size < 4294967296) : (impl_LoadSheet_g s = some (.inl ByteArray.empty) ∧ spec_LoadSheet_g s = some (.inl ByteArray.empty)) ∨
    ∃ q : ByteArray × Int × Int × List Nat, impl_LoadSheet_g s = some (.inr (.inr q)) ∧ spec_LoadSheet_g s = some (.inr q) ∧ q.2.2.2.length ≤ 144 := by
  obtain ⟨k, r, c, m, h⟩ := hd s
  have hl := longS s hsz
  have W := h.wr
  have h' := h
  obtain ⟨hk, hr, hc, kb, rb, cb, hm, mb⟩ := h'
  obtain ⟨wk, wr, wc, f7, f5, f6, g5, g6, g7, pr, p4, en, en2⟩ := W
  rw [← hk, ← hr, ← hc, hm] at hl
  by_cases c5 : (s.size : Int) < 5
  · left
    rw [if_pos c5] at hl
    exact ⟨by simp [impl_LoadSheet_g, impl_LoadSheet_T, impl_loadSheet_g, impl_loadSheet_T, Tree.run, c5], by simp [spec_LoadSheet_g, spec_LoadSheet_T, spec_l07Load_g, spec_l07Load_T, Tree.run, hl]⟩
  have i4 : inb 4 s.size = true := inb_iff.2 ⟨by omega, by omega⟩
  by_cases c7 : (s.size : Int) < 7 + k
  · left
    rw [if_neg c5, if_pos c7] at hl
    exact ⟨by simp only [impl_LoadSheet_g, impl_LoadSheet_T, impl_loadSheet_g, impl_loadSheet_T, Tree.run, c5, decide_false, Bool.false_eq_true, if_false, i4, if_true, wbt, ← hk, wk, f7, c7, decide_true, Option.bind_some], by simp [spec_LoadSheet_g, spec_LoadSheet_T, spec_l07Load_g, spec_l07Load_T, Tree.run, hl]⟩
  have i5 : inb (5 + k) s.size = true := inb_iff.2 ⟨by omega, by omega⟩
  have i6 : inb (6 + k) s.size = true := inb_iff.2 ⟨by omega, by omega⟩
  have ok5 : sok 5 (5 + k) s.size = true := sok_iff.2 ⟨by omega, by omega, by omega⟩
  by_cases c9 : (s.size : Int) < 9 + k + 4 * (m : Int)
  · left
    rw [if_neg c5, if_neg c7, if_pos c9] at hl
    exact ⟨by simp only [impl_LoadSheet_g, impl_LoadSheet_T, impl_loadSheet_g, impl_loadSheet_T, Tree.run, c5, decide_false, Bool.false_eq_true, if_false, i4, i5, i6, ok5, if_true, wbt, ← hk, wk, f7, f5, f6, ← hr, ← hc, wr, wc, pr, p4, en, en2, c7, c9, decide_true, Option.bind_some], by simp [spec_LoadSheet_g, spec_LoadSheet_T, spec_l07Load_g, spec_l07Load_T, Tree.run, hl]⟩
  rw [if_neg c5, if_neg c7, if_neg c9] at hl
  have hn0 : decide (9 + k + 4 * (m : Int) = 0) = false := decide_eq_false (by omega)
  obtain ⟨v, v1, v2⟩ := loadI s h (by omega) (by omega) (by omega) hsz
  by_cases hn : 9 + k + 4 * (m : Int) = (s.size : Int)
  · -- the bytes of one sheet
    have ext : ByteArray.extract s 0 (Int.toNat (9 + k + 4 * (m : Int))) = s := by
      rw [hn]; simp
    rw [ext] at v2
    have lS := loopS s (9 + k + 4 * (m : Int)) (7 + k) m mb (by omega) (by omega) (by omega) hsz
    have nsz := name_sz s k kb
    obtain ⟨nm, hnm⟩ : ∃ nm, nm = ByteArray.extract s (Int.toNat 5) (Int.toNat (5 + k)) := ⟨_, rfl⟩
    rw [← hnm] at nsz v2
    have vs := sheetS nm r c (numsAt s (7 + k) m) (by omega) (by rw [numsAt_len]; unfold maxN; omega)
    have hnd : decide (9 + k + 4 * (m : Int) = ((s.size : Nat) : Int)) = true := decide_eq_true hn
    have sp : spec_l07Load_g s = if sheetB nm r c (numsAt s (7 + k) m) = true then (spec_l07Store_g nm r c (numsAt s (7 + k) m)).bind (fun w => if (w.toList == s.toList) = true then some (.inr (nm, r, c, numsAt s (7 + k) m)) else some (.inl ByteArray.empty)) else some (.inl ByteArray.empty) := by
      simp only [spec_l07Load_g, spec_l07Load_T, Tree.run, hl, Option.bind_some, hn0, Bool.false_eq_true, if_false, hnd, Bool.not_true, i4, i5, i6, ok5, if_true, wbt, ← hk, wk, g5, g6, g7, ← hr, ← hc, wr, wc, spec_l02Blank_v, lS, ← hnm, vs]
      cases sheetB nm r c (numsAt s (7 + k) m) with
      | false => simp
      | true =>
        simp only [Bool.not_true, Bool.false_eq_true, if_false, if_true]
        congr 1
        funext w
        cases (w.toList == s.toList) <;> simp
    rcases v2 with ⟨b1, rfl⟩ | ⟨b1, w, w1, rfl⟩
    · left
      rw [b1] at sp
      exact ⟨by simp [impl_LoadSheet_g, impl_LoadSheet_T, Tree.run, v1], by simp [spec_LoadSheet_g, spec_LoadSheet_T, Tree.run, sp]⟩
    · rw [b1, w1] at sp
      simp only [if_true, Option.bind_some] at sp
      have l144 := sheet_len b1
      cases hw : (w.toList == s.toList) with
      | false =>
        left
        rw [hw] at sp v1
        exact ⟨by simp [impl_LoadSheet_g, impl_LoadSheet_T, Tree.run, v1], by simp [spec_LoadSheet_g, spec_LoadSheet_T, Tree.run, sp]⟩
      | true =>
        right
        rw [hw] at sp v1
        refine ⟨(nm, r, c, numsAt s (7 + k) m), ?_, by simp [spec_LoadSheet_g, spec_LoadSheet_T, Tree.run, sp], l144⟩
        simp [impl_LoadSheet_g, impl_LoadSheet_T, Tree.run, v1, hn]
  · left
    have hnd : decide (9 + k + 4 * (m : Int) = ((s.size : Nat) : Int)) = false := decide_eq_false hn
    refine ⟨?_, by simp [spec_LoadSheet_g, spec_LoadSheet_T, spec_l07Load_g, spec_l07Load_T, Tree.run, hl, hn, show ¬ (9 + k + 4 * (m : Int) = 0) by omega]⟩
    rcases v2 with ⟨_, rfl⟩ | ⟨_, w, _, rfl⟩
    · simp [impl_LoadSheet_g, impl_LoadSheet_T, Tree.run, v1]
    · cases hw : (w.toList == (ByteArray.extract s 0 (Int.toNat (9 + k + 4 * (m : Int)))).toList) <;> rw [hw] at v1 <;> simp [impl_LoadSheet_g, impl_LoadSheet_T, Tree.run, v1, hn]
theorem eqSh_self (s : ByteArray) (r c : Int) (xs : List Nat) (h : xs.length ≤ maxN) : laws_eqSheet_g s r c xs s r c xs = some true := by
  simp [laws_eqSheet_g, laws_eqSheet_T, Tree.run, eqM_self r c xs h]
theorem markSh_ok (xs : List Nat) (k : Int) (h : xs.length ≤ maxN) (h0 : 0 ≤ k) (h1 : k ≤ 1099511627776) : laws_markSheet_g xs k = some (k + xs.length, marks k xs.length) := by
  simp [laws_markSheet_g, laws_markSheet_T, Tree.run, markM_ok xs k h h0 h1]
theorem markSh_nil (k : Int) : laws_markSheet_i1_g k = some k := by
  simp [laws_markSheet_i1_g, laws_markSheet_i1_T, Tree.run, markM_nil]
theorem heldSh_ok (k : Int) (n : Nat) (h : n ≤ maxN) (h0 : 0 ≤ k) (h1 : k ≤ 1099511627776) : laws_heldSheet_g (marks k n) k = some (k + n) := by
  have : decide (k + (n : Int) < 0) = false := by simp; omega
  simp [laws_heldSheet_g, laws_heldSheet_T, Tree.run, heldM_ok k n h h0 h1, this]
  omega
theorem heldSh_nil (k : Int) (h0 : 0 ≤ k) (h1 : k ≤ 1099511627776) : laws_heldSheet_g [] k = some k := by
  simp [laws_heldSheet_g, laws_heldSheet_T, Tree.run, heldM_nil k h0 h1]
  omega
theorem load_law (s : ByteArray) (hs : s.size < 9223372036854775808) : laws_FnExactLoadSheet_g s = some true := by
  simp only [laws_FnExactLoadSheet_g, laws_FnExactLoadSheet_T, Tree.run]
  by_cases hb : (1048576 : Int) < ((s.size : Nat) : Int)
  · simp [hb]
  · simp only [hb, decide_false, Bool.false_eq_true, if_false]
    have e0 := eqSh_self ByteArray.empty 0 0 [] (by simp [maxN])
    have m0 := markSh_nil 1
    have h0 := heldSh_nil 1 (by omega) (by omega)
    rcases load_both s (by omega) with ⟨h1, h2⟩ | ⟨⟨nm, r, c, xs⟩, h1, h2, h3⟩
    · simp [Tree.run, h1, h2, e0, m0, h0]
    · simp only at h3
      have hx : xs.length ≤ maxN := by unfold maxN; omega
      have e1 := eqSh_self nm r c xs hx
      have m1 := markSh_ok xs 1 hx (by omega) (by omega)
      have h4 := heldSh_ok 1 xs.length hx (by omega) (by omega)
      have hl : (marks 1 xs.length).length = xs.length := by simp
      have hd : ¬ ((1 : Int) + (xs.length : Int) < 0) := by omega
      simp [Tree.run, h1, h2, e1, m1, h4, hl, hd]
end Go.Proofs.Ythdmkdkbfhoahaa.AM
