/- Lists of sheets as arguments: copied, held against one another, told by their size. -/
import Derived.Test.YthdmkdkbfhoahaaL5
set_option linter.unusedSimpArgs false
set_option linter.unusedVariables false
set_option maxHeartbeats 2000000
namespace Go.Proofs.Ythdmkdkbfhoahaa.AM

theorem wl_inl {σ ρ : Type} {T : σ → Option (σ ⊕ ρ)} {s s' : σ} {r : Option ρ} (h : T s = some (.inl s')) (h' : whileM T s' = r) : whileM T s = r := by rw [whileM_eq, h]; exact h'
theorem wl_inr {σ ρ : Type} {T : σ → Option (σ ⊕ ρ)} {s : σ} {r : ρ} (h : T s = some (.inr r)) : whileM T s = some r := by rw [whileM_eq, h]
theorem ltn (a b : Nat) : decide ((a : Int) < (b : Int)) = decide (a < b) := by
  by_cases h : a < b
  · rw [decide_eq_true h]; exact decide_eq_true (by omega)
  · rw [decide_eq_false h]; exact decide_eq_false (by omega)
/-- Which row belongs to which element: each has its own. -/
def ixR (K : Nat) : List Nat := (List.range K).map (· + 1)
theorem ixR_len (K : Nat) : (ixR K).length = K := by simp [ixR]
theorem ixR_nth {K i : Nat} (h : i < K) : nth (ixR K) i = i + 1 := by
  rw [nth_of _ _ (by rw [ixR_len]; exact h)]; simp [ixR]
/-- The first i elements have their rows. -/
def ixF (K i : Nat) : List Nat := (List.range K).map fun j => if j < i then j + 1 else 0
theorem ixF_len (K i : Nat) : (ixF K i).length = K := by simp [ixF]
theorem ixF_zero (K : Nat) : ixF K 0 = List.replicate K 0 := by
  refine List.ext_getElem (by simp [ixF]) fun j h1 h2 => by simp [ixF]
theorem ixF_full (K : Nat) : ixF K K = ixR K := by
  unfold ixF ixR
  refine List.map_congr_left fun j hj => ?_
  rw [if_pos (List.mem_range.1 hj)]
theorem ixF_set {K i : Nat} (h : i < K) : (ixF K i).set i (i + 1) = ixF K (i + 1) := by
  refine List.ext_getElem (by simp [ixF]) fun j h1 h2 => ?_
  rw [List.getElem_set]
  simp only [ixF, List.getElem_map, List.getElem_range]
  by_cases e : i = j
  · subst e; rw [if_pos rfl, if_pos (by omega)]
  · rw [if_neg e]
    by_cases hj : j < i
    · rw [if_pos hj, if_pos (by omega)]
    · rw [if_neg hj, if_neg (by omega)]
theorem take_nth' {α : Type} [Inhabited α] (xs : List α) (i : Nat) (h : i < xs.length) : xs.take i ++ [nth xs i] = xs.take (i + 1) := by
  rw [nth_of _ _ h]; simp
/-- n sheets. -/
structure Sa (n : Nat) (nms : List ByteArray) (rs cs : List Int) (p : List (List Nat)) : Prop where
  n20 : n ≤ 1048576
  ln : nms.length = n
  lr : rs.length = n
  lc : cs.length = n
  lp : p.length = n
  nm : ∀ j, j < n → (nth nms j).size < 9223372036854775808
  row : ∀ j, j < n → (nth p j).length ≤ maxN
  wd : ∀ j, j < n → ∀ x ∈ nth p j, x < 4294967296
theorem toSh1 (s : ByteArray) (r c : Int) (xs : List Nat) (h : xs.length ≤ maxN) : laws_toSheet_g s r c xs = some (s, r, c, xs) := by
  simp only [laws_toSheet_g, laws_toSheet_T, laws_toMatrix_g, laws_toMatrix_T, Tree.run, toF_ok xs h, Option.bind_some]
theorem toShS {n : Nat} {nms : List ByteArray} {rs cs : List Int} {p : List (List Nat)} (hT : Sa n nms rs cs p) : laws_toSheetS_g nms rs cs p = some (nms, rs, cs, p, ixR n) := by
  have hn := hT.n20
  have := whileM_fix (T := fun s => (laws_toSheetS_l0_T nms rs cs p s).run) (n := n) (r := (nms, rs, cs, p, ixR n)) (fun i => (((i : Nat) : Int), fill ByteArray.empty nms i, fill 0 rs i, fill 0 cs i, p.take i, ixF n i))
    (fun i hi => by
      have h0 : i < nms.length := by rw [hT.ln]; exact hi
      have h1 : i < rs.length := by rw [hT.lr]; exact hi
      have h2 : i < cs.length := by rw [hT.lc]; exact hi
      have h3 : i < p.length := by rw [hT.lp]; exact hi
      have k := toSh1 (nth nms i) (nth rs i) (nth cs i) (nth p i) (hT.row i hi)
      have e0 : (p.take i).length = i := by simp; omega
      simp only [laws_toSheetS_l0_T, Tree.run, ltn, inb_nat, hT.ln, hi, decide_true, if_true, Int.toNat_natCast, k, Option.bind_some, fill_length, e0, take_nth' _ _ h3, ixF_set hi, fill_set _ _ _ h0, fill_set _ _ _ h1, fill_set _ _ _ h2, w_succ (show i < 4611686018427387904 by omega)])
    (by
      have e0 : p.take n = p := List.take_of_length_le (by rw [hT.lp]; exact Nat.le_refl _)
      have e1 : fill ByteArray.empty nms n = nms := by rw [← hT.ln]; exact fill_full _ _
      have e2 : fill 0 rs n = rs := by rw [← hT.lr]; exact fill_full _ _
      have e3 : fill 0 cs n = cs := by rw [← hT.lc]; exact fill_full _ _
      simp only [laws_toSheetS_l0_T, Tree.run, hT.ln, ltn, Nat.lt_irrefl, decide_false, Bool.false_eq_true, if_false, ixF_full, e0, e1, e2, e3])
  rw [ixF_zero, List.take_zero, fill_zero, fill_zero, fill_zero, hT.ln, hT.lr, hT.lc] at this
  have this : laws_toSheetS_l0_g nms rs cs p ((0 : Int), List.replicate n ByteArray.empty, List.replicate n (0 : Int), List.replicate n (0 : Int), ([] : List (List Nat)), List.replicate n (0 : Nat)) = some (nms, rs, cs, p, ixR n) := this
  have hin : inb ((n : Nat) : Int) (maxN + 1) = true := by rw [inb_nat]; unfold maxN; simp; omega
  simp only [laws_toSheetS_g, laws_toSheetS_T, Tree.run, hT.ln, if_true, hin, Int.toNat_natCast, this, Option.bind_some]
theorem eqSh1 (s : ByteArray) (r c : Int) (xs : List Nat) (h : xs.length ≤ maxN) : laws_eqSheet_g s r c xs s r c xs = some true := by
  simp [laws_eqSheet_g, laws_eqSheet_T, Tree.run, eqM_self r c xs h]
theorem eqShA {n : Nat} {nms : List ByteArray} {rs cs : List Int} {p : List (List Nat)} (hT : Sa n nms rs cs p) : laws_eqSheetS_nst_g nms rs cs p (ixR n) nms rs cs p (ixR n) = some true := by
  have hn := hT.n20
  have := whileM_fix (T := fun s => (laws_eqSheetS_nst_l0_T nms rs cs p (ixR n) nms rs cs p (ixR n) s).run) (n := n) (r := .inr ()) (fun i => ((i : Nat) : Int))
    (fun i hi => by
      have he := eqSh1 (nth nms i) (nth rs i) (nth cs i) (nget p (i + 1)) (hT.row i hi)
      simp only [laws_eqSheetS_nst_l0_T, Tree.run, hT.ln, ltn, hi, inb_nat, decide_true, if_true, Int.toNat_natCast, ixR_nth hi, he, Option.bind_some, Bool.not_true, Bool.false_eq_true, if_false, w_succ (show i < 4611686018427387904 by omega)])
    (by simp only [laws_eqSheetS_nst_l0_T, Tree.run, hT.ln, ltn, Nat.lt_irrefl, decide_false, Bool.false_eq_true, if_false])
  rw [show ((0 : Nat) : Int) = 0 from rfl] at this
  simp only [laws_eqSheetS_nst_g, laws_eqSheetS_nst_T, Tree.run, decide_true, Bool.not_true, Bool.false_eq_true, if_false, if_true, laws_eqSheetS_nst_l0_g, this, Option.bind_some]
/-- The size is told. -/
theorem szSh1 (s : ByteArray) (xs : List Nat) (l : Int) (h0 : 0 ≤ l) (h1 : l ≤ 1048576) (hs : s.size < 9223372036854775808) (hx : xs.length ≤ maxN) : laws_szSheet_v s xs l < 0 ∨ (0 ≤ laws_szSheet_v s xs l ∧ laws_szSheet_v s xs l ≤ 1048576) := by
  unfold maxN at hx
  unfold laws_szSheet_v laws_szMatrix_v laws_szFloat32S_v
  rw [w64 (by omega) (by omega)]
  by_cases c1 : l - (s.size : Int) < 0
  · rw [if_pos (by simpa using c1)]; left; decide
  · rw [if_neg (by simpa using c1), w64 (by omega) (by omega)]
    by_cases c2 : l - (s.size : Int) - (xs.length : Int) < 0
    · left; simp [c2]
    · right
      simp [c2]; omega
theorem szShS_loop {n : Nat} {nms : List ByteArray} {rs cs : List Int} {p : List (List Nat)} (ln : nms.length = n) (hn : n < 4611686018427387904) (nm : ∀ j, j < n → (nth nms j).size < 9223372036854775808) (row : ∀ j, j < n → (nth p j).length ≤ maxN) : ∀ (d i : Nat) (left : Int), i + d = n → 0 ≤ left → left ≤ 1048576 →
    ∃ r, laws_szSheetS_l0_g nms p (left, (i : Int)) = some r ∧ ∀ k, r = .inr k → 0 ≤ k ∧ k ≤ 1048576
  | 0, i, left, hd, h0, h1 => by
    have : i = n := by omega
    refine ⟨.inr left, wl_inr (T := fun s => (laws_szSheetS_l0_T nms p s).run) ?_, fun k e => by cases e; exact ⟨h0, h1⟩⟩
    simp only [laws_szSheetS_l0_T, Tree.run, this, ln, ltn, Nat.lt_irrefl, decide_false, Bool.false_eq_true, if_false]
  | d + 1, i, left, hd, h0, h1 => by
    have hi : i < n := by omega
    rcases szSh1 (nth nms i) (nth p i) left h0 h1 (nm i hi) (row i hi) with hv | ⟨g0, g1⟩
    · refine ⟨.inl (), wl_inr (T := fun s => (laws_szSheetS_l0_T nms p s).run) ?_, fun k e => by cases e⟩
      simp only [laws_szSheetS_l0_T, Tree.run, ltn, inb_nat, ln, hi, decide_true, if_true, Int.toNat_natCast, hv]
    · have hv : ¬ (laws_szSheet_v (nth nms i) (nth p i) left < 0) := by omega
      obtain ⟨r, hr, hk⟩ := szShS_loop (rs := rs) (cs := cs) ln hn nm row d (i + 1) (laws_szSheet_v (nth nms i) (nth p i) left) (by omega) g0 g1
      refine ⟨r, wl_inl (T := fun s => (laws_szSheetS_l0_T nms p s).run) ?_ hr, hk⟩
      simp only [laws_szSheetS_l0_T, Tree.run, ltn, inb_nat, ln, hi, decide_true, if_true, Int.toNat_natCast, hv, decide_false, Bool.false_eq_true, if_false, w_succ (show i < 4611686018427387904 by omega)]
theorem szShS {n : Nat} {nms : List ByteArray} {rs cs : List Int} {p : List (List Nat)} (ln : nms.length = n) (hn : n < 9223372036854775808) (nm : ∀ j, j < n → (nth nms j).size < 9223372036854775808) (row : ∀ j, j < n → (nth p j).length ≤ maxN) (l : Int) (h0 : 0 ≤ l) (h1 : l ≤ 1048576) :
    ∃ k, laws_szSheetS_g nms rs cs p l = some k ∧ (¬ k < 0 → n ≤ 1048576 ∧ 0 ≤ k ∧ k ≤ 1048576) := by
  have w : IntKind.i64.wrap (l - ((n : Nat) : Int)) = l - ((n : Nat) : Int) := w64 (by omega) (by omega)
  by_cases hb : l - ((n : Nat) : Int) < 0
  · refine ⟨-1, ?_, fun h => absurd (by decide) h⟩
    simp only [laws_szSheetS_g, laws_szSheetS_T, Tree.run, ln, w, hb, decide_true, if_true]
  · obtain ⟨r, hr, hk⟩ := szShS_loop (rs := rs) (cs := cs) ln (by omega) nm row n 0 (l - ((n : Nat) : Int)) (by omega) (by omega) (by omega)
    have hr : laws_szSheetS_l0_g nms p (l - ((n : Nat) : Int), (0 : Int)) = some r := hr
    cases r with
    | inl u =>
      refine ⟨-1, ?_, fun h => absurd (by decide) h⟩
      simp only [laws_szSheetS_g, laws_szSheetS_T, Tree.run, ln, w, hb, decide_false, Bool.false_eq_true, if_false, if_true, hr, Option.bind_some]
    | inr k =>
      refine ⟨k, ?_, fun _ => ⟨by omega, hk k rfl⟩⟩
      simp only [laws_szSheetS_g, laws_szSheetS_T, Tree.run, ln, w, hb, decide_false, Bool.false_eq_true, if_false, if_true, hr, Option.bind_some]
/-- Sheets that are too long are told by their lengths. -/
theorem szSh_any (s : ByteArray) (m : Nat) (l : Int) (h0 : 0 ≤ l) (h1 : l ≤ 1048576) (hs : s.size < 9223372036854775808) (hm : m < 9223372036854775808) : laws_szSheet_len_v s m l < 0 ∨ (0 ≤ laws_szSheet_len_v s m l ∧ laws_szSheet_len_v s m l ≤ 1048576 ∧ m ≤ maxN) := by
  unfold laws_szSheet_len_v laws_szMatrix_len_v laws_szFloat32S_len_v maxN
  rw [w64 (by omega) (by omega)]
  by_cases c1 : l - (s.size : Int) < 0
  · rw [if_pos (by simpa using c1)]; left; decide
  · rw [if_neg (by simpa using c1), w64 (by omega) (by omega)]
    by_cases c2 : l - (s.size : Int) - (m : Int) < 0
    · left; simp [c2]
    · right
      simp [c2]; omega
theorem szShL_loop (n : Nat) (nms : List ByteArray) (b : List Nat) (la : nms.length = n) (ha : ∀ i, i < n → (nth nms i).size < 9223372036854775808) (hb : ∀ i, i < n → nth b i < 9223372036854775808) (hn : n < 4611686018427387904) : ∀ (d i : Nat) (left : Int), i + d = n → 0 ≤ left → left ≤ 1048576 →
    ∃ r, laws_szSheetS_len_l0_g nms b (left, (i : Int)) = some r ∧ ∀ k, r = .inr k → 0 ≤ k ∧ k ≤ 1048576 ∧ ∀ q, i ≤ q → q < n → nth b q ≤ maxN
  | 0, i, left, hd, h0, h1 => by
    have : i = n := by omega
    refine ⟨.inr left, wl_inr (T := fun s => (laws_szSheetS_len_l0_T nms b s).run) ?_, fun k e => by cases e; exact ⟨h0, h1, fun q h2 h3 => by omega⟩⟩
    simp only [laws_szSheetS_len_l0_T, Tree.run, this, la, ltn, Nat.lt_irrefl, decide_false, Bool.false_eq_true, if_false]
  | d + 1, i, left, hd, h0, h1 => by
    have hi : i < n := by omega
    rcases szSh_any (nth nms i) (nth b i) left h0 h1 (ha i hi) (hb i hi) with hv | ⟨g0, g1, g2⟩
    · refine ⟨.inl (), wl_inr (T := fun s => (laws_szSheetS_len_l0_T nms b s).run) ?_, fun k e => by cases e⟩
      simp only [laws_szSheetS_len_l0_T, Tree.run, ltn, inb_nat, la, hi, decide_true, if_true, Int.toNat_natCast, hv]
    · have hv : ¬ (laws_szSheet_len_v (nth nms i) (nth b i) left < 0) := by omega
      obtain ⟨r, hr, hk⟩ := szShL_loop n nms b la ha hb hn d (i + 1) (laws_szSheet_len_v (nth nms i) (nth b i) left) (by omega) g0 g1
      refine ⟨r, wl_inl (T := fun s => (laws_szSheetS_len_l0_T nms b s).run) ?_ hr, fun k e => ?_⟩
      · simp only [laws_szSheetS_len_l0_T, Tree.run, ltn, inb_nat, la, hi, decide_true, if_true, Int.toNat_natCast, hv, decide_false, Bool.false_eq_true, if_false, w_succ (show i < 4611686018427387904 by omega)]
      · obtain ⟨q1, q2, q3⟩ := hk k e
        refine ⟨q1, q2, fun q h2 h3 => ?_⟩
        by_cases e2 : q = i
        · subst e2; exact g2
        · exact q3 q (by omega) h3
theorem szShL {n : Nat} (nms : List ByteArray) (rs cs : List Int) (b : List Nat) (la : nms.length = n) (ha : ∀ i, i < n → (nth nms i).size < 9223372036854775808) (hb : ∀ i, i < n → nth b i < 9223372036854775808) (hn : n < 9223372036854775808) (l : Int) (h0 : 0 ≤ l) (h1 : l ≤ 1048576) :
    ∃ k, laws_szSheetS_len_g nms rs cs b l = some k ∧ (¬ k < 0 → 0 ≤ k ∧ k ≤ 1048576 ∧ ∀ q, q < n → nth b q ≤ maxN) := by
  have w : IntKind.i64.wrap (l - ((n : Nat) : Int)) = l - ((n : Nat) : Int) := w64 (by omega) (by omega)
  by_cases hb' : l - ((n : Nat) : Int) < 0
  · refine ⟨-1, ?_, fun h => absurd (by decide) h⟩
    simp only [laws_szSheetS_len_g, laws_szSheetS_len_T, Tree.run, la, w, hb', decide_true, if_true]
  · obtain ⟨r, hr, hk⟩ := szShL_loop n nms b la ha hb (by omega) n 0 (l - ((n : Nat) : Int)) (by omega) (by omega) (by omega)
    have hr : laws_szSheetS_len_l0_g nms b (l - ((n : Nat) : Int), (0 : Int)) = some r := hr
    cases r with
    | inl u =>
      refine ⟨-1, ?_, fun h => absurd (by decide) h⟩
      simp only [laws_szSheetS_len_g, laws_szSheetS_len_T, Tree.run, la, w, hb', decide_false, Bool.false_eq_true, if_false, if_true, hr, Option.bind_some]
    | inr k =>
      obtain ⟨q1, q2, q3⟩ := hk k rfl
      refine ⟨k, ?_, fun _ => ⟨q1, q2, fun q hq => q3 q (by omega) hq⟩⟩
      simp only [laws_szSheetS_len_g, laws_szSheetS_len_T, Tree.run, la, w, hb', decide_false, Bool.false_eq_true, if_false, if_true, hr, Option.bind_some]
end Go.Proofs.Ythdmkdkbfhoahaa.AM
