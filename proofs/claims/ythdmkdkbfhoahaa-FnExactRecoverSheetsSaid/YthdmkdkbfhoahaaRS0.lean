/- Lists of sheets: the words of both sides. -/
import Derived.Test.YthdmkdkbfhoahaaQLoadSheet
set_option linter.unusedSimpArgs false
set_option linter.unusedVariables false
set_option maxHeartbeats 2000000
namespace Go.Proofs.Ythdmkdkbfhoahaa.AM

theorem wl_inl {σ ρ : Type} {T : σ → Option (σ ⊕ ρ)} {s s' : σ} {r : Option ρ} (h : T s = some (.inl s')) (h' : whileM T s' = r) : whileM T s = r := by rw [whileM_eq, h]; exact h'
theorem wl_inr {σ ρ : Type} {T : σ → Option (σ ⊕ ρ)} {s : σ} {r : ρ} (h : T s = some (.inr r)) : whileM T s = some r := by rw [whileM_eq, h]
theorem ltn (a b : Nat) : decide ((a : Int) < (b : Int)) = decide (a < b) := by
  by_cases h : a < b
  · rw [decide_eq_true h]; exact decide_eq_true (by omega)
  · rw [decide_eq_false h]; exact decide_eq_false (by omega)
/-- The first n bytes. -/
theorem bt_head (s : ByteArray) {n i : Int} (h0 : 0 ≤ i) (h1 : i < n) (h2 : n ≤ (s.size : Int)) : bt (ByteArray.extract s 0 n.toNat) i = bt s i := by
  have := bt_extract s 0 n.toNat i.toNat (by omega) (by omega)
  rw [show ((i.toNat : Nat) : Int) = i by omega, show ((0 + i.toNat : Nat) : Int) = i by omega] at this
  exact this
theorem num4_head (s : ByteArray) {n a : Int} (h0 : 0 ≤ a) (h1 : a + 4 ≤ n) (h2 : n ≤ (s.size : Int)) : num4 (ByteArray.extract s 0 n.toNat) a = num4 s a := by
  unfold num4
  rw [bt_head s (by omega) (by omega) h2, bt_head s (by omega) (by omega) h2, bt_head s (by omega) (by omega) h2, bt_head s (by omega) (by omega) h2]
theorem numsAt_head (s : ByteArray) {n a : Int} {m : Nat} (h0 : 0 ≤ a) (h1 : a + 4 * (m : Int) ≤ n) (h2 : n ≤ (s.size : Int)) : numsAt (ByteArray.extract s 0 n.toNat) a m = numsAt s a m := by
  unfold numsAt
  refine List.map_congr_left fun i hi => ?_
  rw [List.mem_range] at hi
  unfold word
  rw [num4_head s (by omega) (by omega) h2]
theorem ext_head (s : ByteArray) {n : Int} {a b : Nat} (h1 : (b : Int) ≤ n) (h2 : n ≤ (s.size : Int)) : ByteArray.extract (ByteArray.extract s 0 n.toNat) a b = ByteArray.extract s a b := by
  rw [ByteArray.extract_extract, Nat.zero_add, Nat.zero_add]
  congr 1
  omega
/-- What the reference reads of the bytes of one sheet. -/
theorem spLoad (s : ByteArray) {k r c : Int} {m : Nat} (h : Hd s k r c m) (hn : 9 + k + 4 * (m : Int) = (s.size : Int)) (hsz : s.size < 4294967296) :
    spec_l07Load_g s = if sheetB (ByteArray.extract s (Int.toNat 5) (Int.toNat (5 + k))) r c (numsAt s (7 + k) m) = true then (spec_l07Store_g (ByteArray.extract s (Int.toNat 5) (Int.toNat (5 + k))) r c (numsAt s (7 + k) m)).bind (fun w => if (w.toList == s.toList) = true then some (.inr (ByteArray.extract s (Int.toNat 5) (Int.toNat (5 + k)), r, c, numsAt s (7 + k) m)) else some (.inl ByteArray.empty)) else some (.inl ByteArray.empty) := by
  have hl := longS s hsz
  have W := h.wr
  obtain ⟨hk, hr, hc, kb, rb, cb, hm, mb⟩ := h
  obtain ⟨wk, wr, wc, f7, f5, f6, g5, g6, g7, pr, p4, en, en2⟩ := W
  rw [← hk, ← hr, ← hc, hm] at hl
  rw [if_neg (by omega), if_neg (by omega), if_neg (by omega)] at hl
  have i4 : inb 4 s.size = true := inb_iff.2 ⟨by omega, by omega⟩
  have i5 : inb (5 + k) s.size = true := inb_iff.2 ⟨by omega, by omega⟩
  have i6 : inb (6 + k) s.size = true := inb_iff.2 ⟨by omega, by omega⟩
  have ok5 : sok 5 (5 + k) s.size = true := sok_iff.2 ⟨by omega, by omega, by omega⟩
  have hn0 : decide (9 + k + 4 * (m : Int) = 0) = false := decide_eq_false (by omega)
  have lS := loopS s (9 + k + 4 * (m : Int)) (7 + k) m mb (by omega) (by omega) (by omega) hsz
  have nsz := name_sz s k kb
  obtain ⟨nm, hnm⟩ : ∃ nm, nm = ByteArray.extract s (Int.toNat 5) (Int.toNat (5 + k)) := ⟨_, rfl⟩
  rw [← hnm] at nsz ⊢
  have vs := sheetS nm r c (numsAt s (7 + k) m) (by omega) (by rw [numsAt_len]; unfold maxN; omega)
  have hnd : decide (9 + k + 4 * (m : Int) = ((s.size : Nat) : Int)) = true := decide_eq_true hn
  simp only [spec_l07Load_g, spec_l07Load_T, Tree.run, hl, Option.bind_some, hn0, Bool.false_eq_true, if_false, hnd, Bool.not_true, i4, i5, i6, ok5, if_true, wbt, ← hk, wk, g5, g6, g7, ← hr, ← hc, wr, wc, spec_l02Blank_v, lS, ← hnm, vs]
  cases sheetB nm r c (numsAt s (7 + k) m) with
  | false => simp
  | true =>
    simp only [Bool.not_true, Bool.false_eq_true, if_false, if_true]
    congr 1
    funext w
    cases (w.toList == s.toList) <;> simp
/-- A sheet read at the beginning: both sides. -/
theorem loadB (t : ByteArray) (hsz : t.size < 4294967296) :
    (impl_loadSheet_g t = some (.inl ByteArray.empty) ∧ (spec_l07Long_g t = some 0 ∨ ∃ n : Int, 0 < n ∧ n ≤ (t.size : Int) ∧ spec_l07Long_g t = some n ∧ spec_l07Load_g (ByteArray.extract t 0 n.toNat) = some (.inl ByteArray.empty))) ∨
    ∃ (nm : ByteArray) (r c n : Int) (xs : List Nat), impl_loadSheet_g t = some (.inr (.inr (nm, r, c, n, xs))) ∧ 0 < n ∧ n ≤ (t.size : Int) ∧ spec_l07Long_g t = some n ∧ spec_l07Load_g (ByteArray.extract t 0 n.toNat) = some (.inr (nm, r, c, xs)) ∧ xs.length ≤ 144 := by
  obtain ⟨k, r, c, m, h⟩ := hd t
  have hl := longS t hsz
  have W := h.wr
  have h' := h
  obtain ⟨hk, hr, hc, kb, rb, cb, hm, mb⟩ := h'
  obtain ⟨wk, wr, wc, f7, f5, f6, g5, g6, g7, pr, p4, en, en2⟩ := W
  rw [← hk, ← hr, ← hc, hm] at hl
  by_cases c5 : (t.size : Int) < 5
  · left
    rw [if_pos c5] at hl
    exact ⟨by simp [impl_loadSheet_g, impl_loadSheet_T, Tree.run, c5], .inl hl⟩
  have i4 : inb 4 t.size = true := inb_iff.2 ⟨by omega, by omega⟩
  by_cases c7 : (t.size : Int) < 7 + k
  · left
    rw [if_neg c5, if_pos c7] at hl
    exact ⟨by simp only [impl_loadSheet_g, impl_loadSheet_T, Tree.run, c5, decide_false, Bool.false_eq_true, if_false, i4, if_true, wbt, ← hk, wk, f7, c7, decide_true, Option.bind_some], .inl hl⟩
  have i5 : inb (5 + k) t.size = true := inb_iff.2 ⟨by omega, by omega⟩
  have i6 : inb (6 + k) t.size = true := inb_iff.2 ⟨by omega, by omega⟩
  have ok5 : sok 5 (5 + k) t.size = true := sok_iff.2 ⟨by omega, by omega, by omega⟩
  by_cases c9 : (t.size : Int) < 9 + k + 4 * (m : Int)
  · left
    rw [if_neg c5, if_neg c7, if_pos c9] at hl
    exact ⟨by simp only [impl_loadSheet_g, impl_loadSheet_T, Tree.run, c5, decide_false, Bool.false_eq_true, if_false, i4, i5, i6, ok5, if_true, wbt, ← hk, wk, f7, f5, f6, ← hr, ← hc, wr, wc, pr, p4, en, en2, c7, c9, decide_true, Option.bind_some], .inl hl⟩
  rw [if_neg c5, if_neg c7, if_neg c9] at hl
  obtain ⟨v, v1, v2⟩ := loadI t h (by omega) (by omega) (by omega) hsz
  obtain ⟨u, hu⟩ : ∃ u, u = ByteArray.extract t 0 (Int.toNat (9 + k + 4 * (m : Int))) := ⟨_, rfl⟩
  have usz : (u.size : Int) = 9 + k + 4 * (m : Int) := by rw [hu, ByteArray.size_extract]; omega
  have uH : Hd u k r c m := by
    refine ⟨?_, ?_, ?_, kb, rb, cb, hm, mb⟩
    · rw [hu, bt_head t (by omega) (by omega) (by omega)]; exact hk
    · rw [hu, bt_head t (by omega) (by omega) (by omega)]; exact hr
    · rw [hu, bt_head t (by omega) (by omega) (by omega)]; exact hc
  have sp := spLoad u uH usz.symm (by omega)
  have e1 : numsAt u (7 + k) m = numsAt t (7 + k) m := by rw [hu]; exact numsAt_head t (by omega) (by omega) (by omega)
  have e2 : ByteArray.extract u (Int.toNat 5) (Int.toNat (5 + k)) = ByteArray.extract t (Int.toNat 5) (Int.toNat (5 + k)) := by rw [hu]; exact ext_head t (by omega) (by omega)
  rw [e1, e2] at sp
  rw [← hu] at v2
  rcases v2 with ⟨b1, rfl⟩ | ⟨b1, w, w1, rfl⟩
  · left
    rw [if_neg (by rw [b1]; simp)] at sp
    exact ⟨v1, .inr ⟨_, by omega, by omega, hl, by rw [← hu]; exact sp⟩⟩
  · rw [if_pos b1, w1, Option.bind_some] at sp
    cases hw : (w.toList == u.toList) with
    | false =>
      left
      rw [hw] at sp v1
      exact ⟨v1, .inr ⟨_, by omega, by omega, hl, by rw [← hu]; exact sp⟩⟩
    | true =>
      right
      rw [hw] at sp v1
      exact ⟨_, _, _, _, _, v1, by omega, by omega, hl, by rw [← hu]; exact sp, sheet_len b1⟩
/-- Which row belongs to which element: each has its own. -/
def ixR (K : Nat) : List Nat := (List.range K).map (· + 1)
theorem ixR_len (K : Nat) : (ixR K).length = K := by simp [ixR]
theorem ixR_nth {K i : Nat} (h : i < K) : nth (ixR K) i = i + 1 := by
  rw [nth_of _ _ (by rw [ixR_len]; exact h)]; simp [ixR]
theorem ixR_succ (K : Nat) : ixR (K + 1) = ixR K ++ [K + 1] := by simp [ixR, List.range_succ]
/-- K sheets. -/
structure Shs (K b : Nat) (nms : List ByteArray) (rs cs : List Int) (pool : List (List Nat)) : Prop where
  nl : nms.length = K
  rl : rs.length = K
  cl : cs.length = K
  pl : pool.length = K
  row : ∀ j, j < K → (nget pool (j + 1)).length ≤ b
theorem nget_app {pool : List (List Nat)} {x : List Nat} {j : Nat} (h : j ≤ pool.length) : nget (pool ++ [x]) (j + 1) = if j < pool.length then nget pool (j + 1) else x := by
  simp only [nget]
  unfold nth
  rw [List.getD_eq_getElem?_getD, List.getD_eq_getElem?_getD]
  split
  · rename_i hj; rw [List.getElem?_append_left hj]
  · have : j = pool.length := by omega
    subst this; simp
theorem Shs.push {K b : Nat} {nms : List ByteArray} {rs cs : List Int} {pool : List (List Nat)} (h : Shs K b nms rs cs pool) (nm : ByteArray) (r c : Int) {xs : List Nat} (hx : xs.length ≤ b) : Shs (K + 1) b (nms ++ [nm]) (rs ++ [r]) (cs ++ [c]) (pool ++ [xs]) := by
  refine ⟨by simp [h.nl], by simp [h.rl], by simp [h.cl], by simp [h.pl], fun j hj => ?_⟩
  rw [nget_app (by rw [h.pl]; omega), h.pl]
  split
  · rename_i hl; exact h.row j hl
  · exact hx
theorem rec_loop (s : ByteArray) (hsz : s.size < 4294967296) : ∀ (d K : Nat) (at' : Int) (nms : List ByteArray) (rs cs : List Int) (pool : List (List Nat)), K + d = 8 → Shs K 144 nms rs cs pool → 0 ≤ at' → at' ≤ (s.size : Int) →
    ∃ (K' : Nat) (at2 : Int) (nms' : List ByteArray) (rs' cs' : List Int) (pool' : List (List Nat)), K' ≤ 8 ∧ Shs K' 144 nms' rs' cs' pool' ∧
      spec_RecoverSheets_l0_g s (at', nms, rs, cs, pool, ixR K) = some (at2, nms', rs', cs', pool', ixR K') ∧ impl_RecoverSheets_l0_g s (at', nms, rs, cs, pool, ixR K) = some (at2, nms', rs', cs', pool', ixR K')
  | 0, K, at', nms, rs, cs, pool, hd, hS, h0, h1 => by
    have hlt : decide (((nms.length : Nat) : Int) < 8) = false := decide_eq_false (by rw [hS.nl]; omega)
    refine ⟨K, at', nms, rs, cs, pool, by omega, hS, ?_, ?_⟩
    · refine wl_inr (T := fun st => (spec_RecoverSheets_l0_T s st).run) ?_
      simp only [spec_RecoverSheets_l0_T, Tree.run, hlt, Bool.false_eq_true, if_false]
    · refine wl_inr (T := fun st => (impl_RecoverSheets_l0_T s st).run) ?_
      simp only [impl_RecoverSheets_l0_T, Tree.run, hlt, Bool.false_eq_true, if_false]
  | d + 1, K, at', nms, rs, cs, pool, hd, hS, h0, h1 => by
    have hlt : decide (((nms.length : Nat) : Int) < 8) = true := decide_eq_true (by rw [hS.nl]; omega)
    have ok : sok at' ((s.size : Nat) : Int) s.size = true := sok_iff.2 ⟨h0, h1, by omega⟩
    obtain ⟨t, ht⟩ : ∃ t, t = ByteArray.extract s at'.toNat (Int.toNat ((s.size : Nat) : Int)) := ⟨_, rfl⟩
    have tsz : (t.size : Int) = (s.size : Int) - at' := by rw [ht, ByteArray.size_extract]; omega
    have hcut : ∀ n : Int, 0 < n → n ≤ (t.size : Int) → ByteArray.extract s at'.toNat (at' + n).toNat = ByteArray.extract t 0 n.toNat := fun n n0 n1 => by
      rw [ht, ByteArray.extract_extract, Nat.add_zero]
      congr 1
      omega
    rcases loadB t (by omega) with ⟨i1, hsp⟩ | ⟨nm, r, c, n, xs, i1, n0, n1, s1, s2, hx⟩
    · refine ⟨K, at', nms, rs, cs, pool, by omega, hS, ?_, ?_⟩
      · refine wl_inr (T := fun st => (spec_RecoverSheets_l0_T s st).run) ?_
        rcases hsp with s1 | ⟨n, n0, n1, s1, s2⟩
        · simp only [spec_RecoverSheets_l0_T, Tree.run, hlt, ok, if_true, ← ht, s1, Option.bind_some, decide_true]
        · have hn : decide (n = 0) = false := decide_eq_false (by omega)
          have w : IntKind.i64.wrap (at' + n) = at' + n := w64 (by omega) (by omega)
          have ok2 : sok at' (at' + n) s.size = true := sok_iff.2 ⟨h0, by omega, by omega⟩
          simp only [spec_RecoverSheets_l0_T, Tree.run, hlt, ok, if_true, ← ht, s1, Option.bind_some, hn, Bool.false_eq_true, if_false, w, ok2, hcut n n0 n1, s2]
      · refine wl_inr (T := fun st => (impl_RecoverSheets_l0_T s st).run) ?_
        simp only [impl_RecoverSheets_l0_T, Tree.run, hlt, ok, if_true, ← ht, i1, Option.bind_some]
    · obtain ⟨K', at2, nms', rs', cs', pool', q1, q2, q3, q4⟩ := rec_loop s hsz d (K + 1) (at' + n) (nms ++ [nm]) (rs ++ [r]) (cs ++ [c]) (pool ++ [xs]) (by omega) (hS.push nm r c hx) (by omega) (by omega)
      have hn : decide (n = 0) = false := decide_eq_false (by omega)
      have w : IntKind.i64.wrap (at' + n) = at' + n := w64 (by omega) (by omega)
      have ok2 : sok at' (at' + n) s.size = true := sok_iff.2 ⟨h0, by omega, by omega⟩
      have hf : fits (nms.length + 1) = true := fits_iff.2 (by rw [hS.nl]; unfold maxN; omega)
      have hix : ixR K ++ [pool.length + 1] = ixR (K + 1) := by rw [ixR_succ, hS.pl]
      refine ⟨K', at2, nms', rs', cs', pool', q1, q2, ?_, ?_⟩
      · refine wl_inl (T := fun st => (spec_RecoverSheets_l0_T s st).run) ?_ q3
        simp only [spec_RecoverSheets_l0_T, Tree.run, hlt, ok, if_true, ← ht, s1, Option.bind_some, hn, Bool.false_eq_true, if_false, w, ok2, hcut n n0 n1, s2, hf, hix]
      · refine wl_inl (T := fun st => (impl_RecoverSheets_l0_T s st).run) ?_ q4
        simp only [impl_RecoverSheets_l0_T, Tree.run, hlt, ok, if_true, ← ht, i1, Option.bind_some, w, hf, hix]
/-! the law's helpers over sheets -/
theorem eqShR (s : ByteArray) (r c : Int) (xs : List Nat) (h : xs.length ≤ maxN) : laws_eqSheet_g s r c xs s r c xs = some true := by
  simp [laws_eqSheet_g, laws_eqSheet_T, Tree.run, eqM_self r c xs h]
theorem eqShS {K b : Nat} {nms : List ByteArray} {rs cs : List Int} {pool : List (List Nat)} (h : Shs K b nms rs cs pool) (hK : K ≤ maxN) (hb : b ≤ maxN) : laws_eqSheetS_nst_g nms rs cs pool (ixR K) nms rs cs pool (ixR K) = some true := by
  unfold maxN at hK
  have := whileM_fix (T := fun s => (laws_eqSheetS_nst_l0_T nms rs cs pool (ixR K) nms rs cs pool (ixR K) s).run) (n := K) (r := .inr ()) (fun i => ((i : Nat) : Int))
    (fun i hi => by
      have hrl := h.row i hi
      have he := eqShR (nth nms i) (nth rs i) (nth cs i) (nget pool (i + 1)) (by omega)
      simp only [laws_eqSheetS_nst_l0_T, Tree.run, h.nl, ltn, hi, inb_nat, decide_true, if_true, Int.toNat_natCast, ixR_nth hi, he, Option.bind_some, Bool.not_true, Bool.false_eq_true, if_false, w_succ (show i < 4611686018427387904 by omega)])
    (by simp only [laws_eqSheetS_nst_l0_T, Tree.run, h.nl, ltn, Nat.lt_irrefl, decide_false, Bool.false_eq_true, if_false])
  rw [show ((0 : Nat) : Int) = 0 from rfl] at this
  simp only [laws_eqSheetS_nst_g, laws_eqSheetS_nst_T, Tree.run, decide_true, Bool.not_true, Bool.false_eq_true, if_false, if_true, laws_eqSheetS_nst_l0_g, this, Option.bind_some]
theorem text_loop : ∀ (d : Nat) (k : Int) (acc : ByteArray), 0 ≤ k → k < 4611686018427387904 → k < 10 ^ d → acc.size + d ≤ 1000 → ∃ b, laws_markText_l0_g (k, acc) = some b ∧ b.size ≤ acc.size + d
  | 0, k, acc, h0, _, h1, _ => ⟨acc, by
      refine wl_inr (T := fun s => (laws_markText_l0_T s).run) ?_
      have : ¬ (0 < k) := by simp at h1; omega
      simp only [laws_markText_l0_T, Tree.run, this, decide_false, Bool.false_eq_true, if_false], Nat.le_add_right _ _⟩
  | d + 1, k, acc, h0, hb, h1, hs => by
    by_cases hk : 0 < k
    · obtain ⟨x, hx⟩ : ∃ x, x = strOfNums ([IntKind.u8.wrap (IntKind.i64.wrap ((48 : Int) + (Int.tmod k (10 : Int))))] : List Int) := ⟨_, rfl⟩
      have hxs : x.size = 1 := by rw [hx]; rfl
      have ht : Int.tdiv k 10 = k / 10 := Int.tdiv_eq_ediv_of_nonneg h0
      have hd : k / 10 < 10 ^ d := by rw [Int.pow_succ] at h1; omega
      have w : IntKind.i64.wrap (k / 10) = k / 10 := w64 (by omega) (by omega)
      have hf : fits (x.size + acc.size) = true := fits_iff.2 (by unfold maxN; omega)
      obtain ⟨b, b1, b2⟩ := text_loop d (k / 10) (x ++ acc) (by omega) (by omega) hd (by rw [ByteArray.size_append]; omega)
      refine ⟨b, ?_, by rw [ByteArray.size_append] at b2; omega⟩
      refine wl_inl (T := fun s => (laws_markText_l0_T s).run) ?_ b1
      have e10 : decide ((10 : Int) = 0) = false := rfl
      simp only [laws_markText_l0_T, Tree.run, hk, decide_true, if_true, e10, Bool.not_false, ← hx, hf, ht, w]
    · refine ⟨acc, ?_, Nat.le_add_right _ _⟩
      refine wl_inr (T := fun s => (laws_markText_l0_T s).run) ?_
      simp only [laws_markText_l0_T, Tree.run, hk, decide_false, Bool.false_eq_true, if_false]
/-- The text that marks a place. -/
noncomputable def mtx (k : Int) : ByteArray := (laws_markText_g k).getD ByteArray.empty
theorem mtx_ok {k : Int} (h0 : 0 < k) (h1 : k < 1000000000) : laws_markText_g k = some (mtx k) := by
  obtain ⟨b, b1, b2⟩ := text_loop 9 k (ByteArray.mk #[]) (by omega) (by omega) h1 (by decide)
  have hk : ¬ (k ≤ 0) := by omega
  have hz : (ByteArray.mk #[]).size = 0 := rfl
  have hm : (ByteArray.mk #[109]).size = 1 := rfl
  have hf : fits ((ByteArray.mk #[109]).size + b.size) = true := fits_iff.2 (by rw [hm]; unfold maxN; omega)
  have : laws_markText_g k = some ((ByteArray.mk #[109]) ++ b) := by
    simp only [laws_markText_g, laws_markText_T, Tree.run, hk, decide_false, Bool.false_eq_true, if_false, if_true, b1, Option.bind_some, hf]
  unfold mtx
  rw [this]; rfl
theorem ng_set {α : Type} {xs : List (List α)} {k q : Nat} {r : List α} (h1 : 1 ≤ k) (h2 : k ≤ xs.length) : nget (xs.set (k - 1) r) q = if q = k then r else nget xs q := by
  obtain ⟨k, rfl⟩ : ∃ j, k = j + 1 := ⟨k - 1, by omega⟩
  rw [Nat.add_sub_cancel]
  cases q with
  | zero => simp [nget]
  | succ q =>
    simp only [nget]
    unfold nth
    rw [List.getD_eq_getElem?_getD, List.getD_eq_getElem?_getD, List.getElem?_set]
    by_cases e : k = q
    · subst e; simp [show k < xs.length by omega]
    · rw [if_neg e, if_neg (by omega)]
theorem markRowF (a1 : List ByteArray) (a2 a3 : List Int) (ix : List Nat) {pool : List (List Nat)} {k : Nat} {m : Int} (h1 : 1 ≤ k) (h2 : k ≤ pool.length) (hl : (nget pool k).length ≤ 1000) (h0 : 0 ≤ m) (hm : m ≤ 1000000) :
    laws_markFloat32S_nst_g a1 a2 a3 pool ix k m = some (m + (nget pool k).length, pool.set (k - 1) (marks m (nget pool k).length)) := by
  obtain ⟨row, hrow⟩ : ∃ row, row = nget pool k := ⟨_, rfl⟩
  rw [← hrow] at hl ⊢
  have hg : ∀ r, nget (pool.set (k - 1) r) k = r := fun r => by rw [ng_set h1 h2, if_pos rfl]
  have hs : ∀ r r', (pool.set (k - 1) r).set (k - 1) r' = pool.set (k - 1) r' := fun r r' => List.set_set ..
  have := whileM_fix (T := fun s => (laws_markFloat32S_nst_l0_T k s).run) (n := row.length) (r := (m + row.length, pool.set (k - 1) (marks m row.length)))
    (fun i => (m + (i : Nat), ((i : Nat) : Int), pool.set (k - 1) (marked m row i)))
    (fun i hi => by
      have e : IntKind.i64.wrap (m + (i : Int) + 1) = m + ((i + 1 : Nat) : Int) := by rw [w64 (by omega) (by omega)]; omega
      have hml := marked_length m row i (by omega)
      simp only [laws_markFloat32S_nst_l0_T, Tree.run, hg, hml, ltn, hi, inb_nat, decide_true, if_true, Int.toNat_natCast, e, w_succ (show i < 4611686018427387904 by omega), hs, marked_set m row i hi])
    (by
      simp only [laws_markFloat32S_nst_l0_T, Tree.run, hg, marked_full, marks_length, ltn, Nat.lt_irrefl, decide_false, Bool.false_eq_true, if_false])
  have e0 : pool.set (k - 1) (marked m row 0) = pool := by
    rw [marked_zero, hrow]
    obtain ⟨i, rfl⟩ : ∃ i, k = i + 1 := ⟨k - 1, by omega⟩
    simp only [Nat.add_sub_cancel, nget]
    rw [nth_of _ _ (by omega), List.set_getElem_self]
  rw [e0, show ((0 : Nat) : Int) = 0 from rfl, Int.add_zero] at this
  simp only [laws_markFloat32S_nst_g, laws_markFloat32S_nst_T, Tree.run, if_true, laws_markFloat32S_nst_l0_g, this, Option.bind_some]
/-- The mark at which the i-th sheet begins. -/
def ofR (pool : List (List Nat)) (m : Int) : Nat → Int
  | 0 => m
  | i + 1 => ofR pool m i + 3 + (nget pool (i + 1)).length
theorem ofR_bd {K b : Nat} {nms : List ByteArray} {rs cs : List Int} {pool : List (List Nat)} (h : Shs K b nms rs cs pool) (m : Int) : ∀ i, i ≤ K → m ≤ ofR pool m i ∧ ofR pool m i ≤ m + ((b + 3) * i : Nat)
  | 0, _ => by simp [ofR]
  | i + 1, hi => by
    have h1 := ofR_bd h m i (by omega)
    have h2 := h.row i (by omega)
    have h3 : (b + 3) * (i + 1) = (b + 3) * i + (b + 3) := Nat.mul_succ _ _
    simp only [ofR]
    omega
/-- The first i sheets bear their marks; the others are as they were. -/
structure Mk (K : Nat) (pool0 : List (List Nat)) (m : Int) (i : Nat) (nms : List ByteArray) (rs cs : List Int) (pool : List (List Nat)) : Prop where
  nl : nms.length = K
  rl : rs.length = K
  cl : cs.length = K
  pl : pool.length = K
  n : ∀ j, j < i → nth nms j = mtx (ofR pool0 m j)
  r : ∀ j, j < i → nth rs j = ofR pool0 m j + 1
  c : ∀ j, j < i → nth cs j = ofR pool0 m j + 2
  p : ∀ j, j < i → nget pool (j + 1) = marks (ofR pool0 m j + 3) (nget pool0 (j + 1)).length
  q : ∀ j, i ≤ j → nget pool (j + 1) = nget pool0 (j + 1)
theorem mark_loop {K b : Nat} {nms0 : List ByteArray} {rs0 cs0 : List Int} {pool0 : List (List Nat)} (h : Shs K b nms0 rs0 cs0 pool0) (hK : K ≤ 8) (hb : b ≤ 144) : ∀ (d i : Nat) (nms : List ByteArray) (rs cs : List Int) (pool : List (List Nat)), i + d = K → Mk K pool0 1 i nms rs cs pool →
    ∃ nms' rs' cs' pool', laws_markSheetS_nst_l0_g (ixR K) (ofR pool0 1 i, (i : Int), nms, rs, cs, pool) = some (ofR pool0 1 K, nms', rs', cs', pool') ∧ Mk K pool0 1 K nms' rs' cs' pool'
  | 0, i, nms, rs, cs, pool, hd, hM => by
    have : i = K := by omega
    subst this
    refine ⟨nms, rs, cs, pool, ?_, hM⟩
    refine wl_inr (T := fun s => (laws_markSheetS_nst_l0_T (ixR i) s).run) ?_
    simp only [laws_markSheetS_nst_l0_T, Tree.run, hM.nl, ltn, Nat.lt_irrefl, decide_false, Bool.false_eq_true, if_false]
  | d + 1, i, nms, rs, cs, pool, hd, hM => by
    have hi : i < K := by omega
    obtain ⟨o, ho⟩ : ∃ o, o = ofR pool0 1 i := ⟨_, rfl⟩
    have hbd := ofR_bd h 1 i (by omega)
    have hle : (b + 3) * i ≤ 147 * 8 := Nat.mul_le_mul (by omega) (by omega)
    rw [← ho] at hbd
    have hrow := h.row i hi
    have w1 : IntKind.i64.wrap (o + 1) = o + 1 := w64 (by omega) (by omega)
    have w2 : IntKind.i64.wrap (o + 1 + 1) = o + 2 := by rw [w64 (by omega) (by omega)]; omega
    have w3 : IntKind.i64.wrap (o + 2 + 1) = o + 3 := by rw [w64 (by omega) (by omega)]; omega
    have hq := hM.q i (Nat.le_refl _)
    have hmr := markRowF (nms.set i (mtx o)) (rs.set i (o + 1)) (cs.set i (o + 2)) (ixR K) (pool := pool) (k := i + 1) (m := o + 3) (by omega) (by rw [hM.pl]; omega) (by rw [hq]; omega) (by omega) (by omega)
    rw [hq, Nat.add_sub_cancel] at hmr
    have hpn : ∀ j, nget (pool.set i (marks (o + 3) (nget pool0 (i + 1)).length)) (j + 1) = if j = i then marks (o + 3) (nget pool0 (i + 1)).length else nget pool (j + 1) := fun j => by
      have := ng_set (xs := pool) (k := i + 1) (q := j + 1) (r := marks (o + 3) (nget pool0 (i + 1)).length) (by omega) (by rw [hM.pl]; omega)
      rw [Nat.add_sub_cancel] at this
      rw [this]
      by_cases e : j = i
      · rw [if_pos (by omega), if_pos e]
      · rw [if_neg (by omega), if_neg e]
    have hM' : Mk K pool0 1 (i + 1) (nms.set i (mtx o)) (rs.set i (o + 1)) (cs.set i (o + 2)) (pool.set i (marks (o + 3) (nget pool0 (i + 1)).length)) := by
      refine ⟨by simp [hM.nl], by simp [hM.rl], by simp [hM.cl], by simp [hM.pl], fun j hj => ?_, fun j hj => ?_, fun j hj => ?_, fun j hj => ?_, fun j hj => ?_⟩
      · by_cases e : i = j
        · subst e; rw [nth_set_eq _ _ _ (by rw [hM.nl]; exact hi), ho]
        · rw [nth_set_ne _ _ _ _ e]; exact hM.n j (by omega)
      · by_cases e : i = j
        · subst e; rw [nth_set_eq _ _ _ (by rw [hM.rl]; exact hi), ho]
        · rw [nth_set_ne _ _ _ _ e]; exact hM.r j (by omega)
      · by_cases e : i = j
        · subst e; rw [nth_set_eq _ _ _ (by rw [hM.cl]; exact hi), ho]
        · rw [nth_set_ne _ _ _ _ e]; exact hM.c j (by omega)
      · rw [hpn]
        by_cases e : j = i
        · subst e; rw [if_pos rfl, ho]
        · rw [if_neg e]; exact hM.p j (by omega)
      · rw [hpn, if_neg (by omega)]; exact hM.q j (by omega)
    obtain ⟨nms', rs', cs', pool', g1, g2⟩ := mark_loop h hK hb d (i + 1) _ _ _ _ (by omega) hM'
    refine ⟨nms', rs', cs', pool', ?_, g2⟩
    have hnext : ofR pool0 1 (i + 1) = o + 3 + (nget pool0 (i + 1)).length := by rw [ho]; rfl
    rw [hnext] at g1
    refine wl_inl (T := fun s => (laws_markSheetS_nst_l0_T (ixR K) s).run) ?_ g1
    simp only [laws_markSheetS_nst_l0_T, Tree.run, ← ho, hM.nl, ltn, inb_nat, hi, decide_true, if_true, mtx_ok (show 0 < o by omega) (by omega), Option.bind_some, Int.toNat_natCast, w1, w2, w3, ixR_nth hi, hmr, w_succ (show i < 4611686018427387904 by omega)]
theorem markShS {K b : Nat} {nms : List ByteArray} {rs cs : List Int} {pool : List (List Nat)} (h : Shs K b nms rs cs pool) (hK : K ≤ 8) (hb : b ≤ 144) :
    ∃ nms' rs' cs' pool', laws_markSheetS_nst_g nms rs cs pool (ixR K) 1 = some (ofR pool 1 K, nms', rs', cs', pool') ∧ Mk K pool 1 K nms' rs' cs' pool' := by
  obtain ⟨nms', rs', cs', pool', g1, g2⟩ := mark_loop h hK hb K 0 nms rs cs pool (by omega) ⟨h.nl, h.rl, h.cl, h.pl, fun j hj => by omega, fun j hj => by omega, fun j hj => by omega, fun j hj => by omega, fun j _ => rfl⟩
  refine ⟨nms', rs', cs', pool', ?_, g2⟩
  have g1' : laws_markSheetS_nst_l0_g (ixR K) ((1 : Int), (0 : Int), nms, rs, cs, pool) = some (ofR pool 1 K, nms', rs', cs', pool') := g1
  simp only [laws_markSheetS_nst_g, laws_markSheetS_nst_T, Tree.run, if_true, g1', Option.bind_some]
theorem heldShS {K b : Nat} {nms0 : List ByteArray} {rs0 cs0 : List Int} {pool0 : List (List Nat)} (h : Shs K b nms0 rs0 cs0 pool0) (hK : K ≤ 8) (hb : b ≤ 144) {nms : List ByteArray} {rs cs : List Int} {pool : List (List Nat)} (hM : Mk K pool0 1 K nms rs cs pool) :
    laws_heldSheetS_nst_g nms rs cs pool (ixR K) 1 = some (ofR pool0 1 K) := by
  have := whileM_fix (T := fun s => (laws_heldSheetS_nst_l0_T nms rs cs pool (ixR K) s).run) (n := K) (r := .inr (ofR pool0 1 K)) (fun i => (ofR pool0 1 i, ((i : Nat) : Int)))
    (fun i hi => by
      obtain ⟨o, ho⟩ : ∃ o, o = ofR pool0 1 i := ⟨_, rfl⟩
      have hbd := ofR_bd h 1 i (by omega)
      have hle : (b + 3) * i ≤ 147 * 8 := Nat.mul_le_mul (by omega) (by omega)
      have hrow := h.row i hi
      have q1 := hM.n i hi
      have q2 := hM.r i hi
      have q3 := hM.c i hi
      have q4 := hM.p i hi
      have hnext : ofR pool0 1 (i + 1) = o + 3 + (nget pool0 (i + 1)).length := by rw [ho]; rfl
      rw [← ho] at hbd q1 q2 q3 q4
      have w1 : IntKind.i64.wrap (o + 1) = o + 1 := w64 (by omega) (by omega)
      have w2 : IntKind.i64.wrap (o + 1 + 1) = o + 2 := by rw [w64 (by omega) (by omega)]; omega
      have w3 : IntKind.i64.wrap (o + 2 + 1) = o + 3 := by rw [w64 (by omega) (by omega)]; omega
      have hh := held_ok (o + 3) (nget pool0 (i + 1)).length (by unfold maxN; omega) (by omega) (by omega)
      have hneg : decide (o + 3 + ((nget pool0 (i + 1)).length : Int) < 0) = false := decide_eq_false (by omega)
      rw [hnext]
      simp only [laws_heldSheetS_nst_l0_T, Tree.run, ← ho, hM.nl, ltn, inb_nat, hi, decide_true, if_true, mtx_ok (show 0 < o by omega) (by omega), Option.bind_some, Int.toNat_natCast, w1, w2, w3, ixR_nth hi, q1, q2, q3, q4, hh, hneg, beq_self_eq_true, Bool.not_true, Bool.false_eq_true, if_false, w_succ (show i < 4611686018427387904 by omega)])
    (by simp only [laws_heldSheetS_nst_l0_T, Tree.run, hM.nl, ltn, Nat.lt_irrefl, decide_false, Bool.false_eq_true, if_false])
  have this : whileM (fun s => (laws_heldSheetS_nst_l0_T nms rs cs pool (ixR K) s).run) ((1 : Int), (0 : Int)) = some (.inr (ofR pool0 1 K)) := this
  simp only [laws_heldSheetS_nst_g, laws_heldSheetS_nst_T, Tree.run, if_true, laws_heldSheetS_nst_l0_g, this, Option.bind_some]
end Go.Proofs.Ythdmkdkbfhoahaa.AM
