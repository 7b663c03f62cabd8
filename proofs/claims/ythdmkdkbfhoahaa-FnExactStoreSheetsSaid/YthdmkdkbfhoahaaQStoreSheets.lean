/- The law StoreSheets: both sides, and the law. -/
import Derived.Test.YthdmkdkbfhoahaaQStoreSheet
import Derived.Test.YthdmkdkbfhoahaaSH0
set_option linter.unusedSimpArgs false
set_option linter.unusedVariables false
set_option maxHeartbeats 2000000
namespace Go.Proofs.Ythdmkdkbfhoahaa.AM

def okS (nms : List ByteArray) (rs cs : List Int) (p : List (List Nat)) (j : Nat) : Bool := sheetB (nth nms j) (nth rs j) (nth cs j) (nth p j)
theorem has_loop {n : Nat} {nms : List ByteArray} {rs cs : List Int} {p : List (List Nat)} (hT : Sa n nms rs cs p) : ∀ (d i : Nat), i + d = n →
    (∃ j : Nat, slices_IndexFunc_impl_Sheet_impl_Sheet_nst_l0_g nms rs cs p (ixR n) (i : Int) = some (.inl (j : Int)) ∧ ∃ q, i ≤ q ∧ q < n ∧ okS nms rs cs p q = false) ∨
    (slices_IndexFunc_impl_Sheet_impl_Sheet_nst_l0_g nms rs cs p (ixR n) (i : Int) = some (.inr ()) ∧ ∀ q, i ≤ q → q < n → okS nms rs cs p q = true)
  | 0, i, hd => by
    right
    have : i = n := by omega
    subst this
    refine ⟨wl_inr (T := fun s => (slices_IndexFunc_impl_Sheet_impl_Sheet_nst_l0_T nms rs cs p (ixR i) s).run) ?_, fun q h1 h2 => by omega⟩
    simp only [slices_IndexFunc_impl_Sheet_impl_Sheet_nst_l0_T, Tree.run, hT.ln, ltn, Nat.lt_irrefl, decide_false, Bool.false_eq_true, if_false]
  | d + 1, i, hd => by
    have hi : i < n := by omega
    have hn := hT.n20
    have hv : impl_StoreSheets_1_g (nth nms i) (nth rs i) (nth cs i) (nget p (i + 1)) = some (!okS nms rs cs p i) := by
      simp only [impl_StoreSheets_1_g, impl_StoreSheets_1_T, Tree.run, sheetI (nth nms i) (nth rs i) (nth cs i) (nget p (i + 1)) (hT.nm i hi) (hT.row i hi), Option.bind_some]
      rfl
    cases hb : okS nms rs cs p i with
    | false =>
      left
      refine ⟨i, wl_inr (T := fun s => (slices_IndexFunc_impl_Sheet_impl_Sheet_nst_l0_T nms rs cs p (ixR n) s).run) ?_, i, Nat.le_refl _, hi, hb⟩
      simp only [slices_IndexFunc_impl_Sheet_impl_Sheet_nst_l0_T, Tree.run, hT.ln, ltn, inb_nat, hi, decide_true, if_true, Int.toNat_natCast, ixR_nth hi, hv, hb, Bool.not_false, Option.bind_some]
    | true =>
      have hs : (slices_IndexFunc_impl_Sheet_impl_Sheet_nst_l0_T nms rs cs p (ixR n) (i : Int)).run = some (.inl ((i + 1 : Nat) : Int)) := by
        simp only [slices_IndexFunc_impl_Sheet_impl_Sheet_nst_l0_T, Tree.run, hT.ln, ltn, inb_nat, hi, decide_true, if_true, Int.toNat_natCast, ixR_nth hi, hv, hb, Bool.not_true, Bool.false_eq_true, if_false, Option.bind_some, w_succ (show i < 4611686018427387904 by omega)]
      rcases has_loop hT d (i + 1) (by omega) with ⟨j, h1, q, h2, h3, h4⟩ | ⟨h1, h2⟩
      · exact .inl ⟨j, wl_inl (T := fun s => (slices_IndexFunc_impl_Sheet_impl_Sheet_nst_l0_T nms rs cs p (ixR n) s).run) hs h1, q, by omega, h3, h4⟩
      · refine .inr ⟨wl_inl (T := fun s => (slices_IndexFunc_impl_Sheet_impl_Sheet_nst_l0_T nms rs cs p (ixR n) s).run) hs h1, fun q g1 g2 => ?_⟩
        by_cases e : q = i
        · subst e; exact hb
        · exact h2 q (by omega) g2
theorem has_ok {n : Nat} {nms : List ByteArray} {rs cs : List Int} {p : List (List Nat)} (hT : Sa n nms rs cs p) :
    (slices_ContainsFunc_impl_Sheet_impl_Sheet_nst_g nms rs cs p (ixR n) = some true ∧ ∃ q, q < n ∧ okS nms rs cs p q = false) ∨ (slices_ContainsFunc_impl_Sheet_impl_Sheet_nst_g nms rs cs p (ixR n) = some false ∧ ∀ q, q < n → okS nms rs cs p q = true) := by
  rcases has_loop hT n 0 (by omega) with ⟨j, h1, q, _, h3, h4⟩ | ⟨h1, h2⟩
  · left
    refine ⟨?_, q, h3, h4⟩
    have h1 : slices_IndexFunc_impl_Sheet_impl_Sheet_nst_l0_g nms rs cs p (ixR n) (0 : Int) = some (.inl (j : Int)) := h1
    have hj : (0 : Int) ≤ (j : Int) := by omega
    simp only [slices_ContainsFunc_impl_Sheet_impl_Sheet_nst_g, slices_ContainsFunc_impl_Sheet_impl_Sheet_nst_T, slices_IndexFunc_impl_Sheet_impl_Sheet_nst_g, slices_IndexFunc_impl_Sheet_impl_Sheet_nst_T, Tree.run, if_true, h1, Option.bind_some, decide_true, hj]
  · right
    refine ⟨?_, fun q hq => h2 q (by omega) hq⟩
    have h1 : slices_IndexFunc_impl_Sheet_impl_Sheet_nst_l0_g nms rs cs p (ixR n) (0 : Int) = some (.inr ()) := h1
    simp only [slices_ContainsFunc_impl_Sheet_impl_Sheet_nst_g, slices_ContainsFunc_impl_Sheet_impl_Sheet_nst_T, slices_IndexFunc_impl_Sheet_impl_Sheet_nst_g, slices_IndexFunc_impl_Sheet_impl_Sheet_nst_T, Tree.run, if_true, h1, Option.bind_some, decide_true]
    rfl
theorem one_store {n : Nat} {nms : List ByteArray} {rs cs : List Int} {p : List (List Nat)} (hT : Sa n nms rs cs p) {i : Nat} (hi : i < n) (hb : okS nms rs cs p i = true) :
    ∃ w, impl_storeSheet_g (nth nms i) (nth rs i) (nth cs i) (nget p (i + 1)) = some w ∧ spec_l07Store_g (nth nms i) (nth rs i) (nth cs i) (nget p (i + 1)) = some w ∧ w.size ≤ 100000000 := by
  have hb' : sheetB (nth nms i) (nth rs i) (nth cs i) (nth p i) = true := hb
  obtain ⟨h1, _⟩ := sheet_bd hb'
  have h2 := sheet_len hb'
  obtain ⟨w, w1, w2, w3⟩ := storeB (nth nms i) (nth rs i) (nth cs i) (nth p i) (by omega) (hT.wd i hi) (by omega)
  exact ⟨w, w1, w2, by omega⟩
theorem st_loop {n : Nat} {nms : List ByteArray} {rs cs : List Int} {p : List (List Nat)} (hT : Sa n nms rs cs p) (h8 : n ≤ 8) : ∀ (d i : Nat) (acc : ByteArray), i + d = n → acc.size ≤ 100000000 * i →
    ((∀ q, i ≤ q → q < n → okS nms rs cs p q = true) → ∃ w, impl_StoreSheets_nst_l0_g nms rs cs p (ixR n) (acc, (i : Int)) = some w ∧ spec_StoreSheets_nst_l0_g nms rs cs p (ixR n) (acc, (i : Int)) = some (.inr w)) ∧
    ((∃ q, i ≤ q ∧ q < n ∧ okS nms rs cs p q = false) → spec_StoreSheets_nst_l0_g nms rs cs p (ixR n) (acc, (i : Int)) = some (.inl ()))
  | 0, i, acc, hd, ha => by
    have : i = n := by omega
    subst this
    refine ⟨fun _ => ⟨acc, ?_, ?_⟩, fun ⟨q, h1, h2, _⟩ => by omega⟩
    · refine wl_inr (T := fun s => (impl_StoreSheets_nst_l0_T nms rs cs p (ixR i) s).run) ?_
      simp only [impl_StoreSheets_nst_l0_T, Tree.run, hT.ln, ltn, Nat.lt_irrefl, decide_false, Bool.false_eq_true, if_false]
    · refine wl_inr (T := fun s => (spec_StoreSheets_nst_l0_T nms rs cs p (ixR i) s).run) ?_
      simp only [spec_StoreSheets_nst_l0_T, Tree.run, hT.ln, ltn, Nat.lt_irrefl, decide_false, Bool.false_eq_true, if_false]
  | d + 1, i, acc, hd, ha => by
    have hi : i < n := by omega
    have hv : spec_l07Sheet_g (nth nms i) (nth rs i) (nth cs i) (nget p (i + 1)) = some (okS nms rs cs p i) := sheetS (nth nms i) (nth rs i) (nth cs i) (nget p (i + 1)) (hT.nm i hi) (hT.row i hi)
    cases hb : okS nms rs cs p i with
    | false =>
      refine ⟨fun h => (by have := h i (Nat.le_refl _) hi; rw [hb] at this; cases this), fun _ => ?_⟩
      refine wl_inr (T := fun s => (spec_StoreSheets_nst_l0_T nms rs cs p (ixR n) s).run) ?_
      simp only [spec_StoreSheets_nst_l0_T, Tree.run, hT.ln, ltn, inb_nat, hi, decide_true, if_true, Int.toNat_natCast, ixR_nth hi, hv, hb, Bool.not_false, Option.bind_some]
    | true =>
      obtain ⟨w, w1, w2, w3⟩ := one_store hT hi hb
      have hf : fits (acc.size + w.size) = true := fits_iff.2 (by unfold maxN; omega)
      obtain ⟨k1, k2⟩ := st_loop hT h8 d (i + 1) (acc ++ w) (by omega) (by rw [ByteArray.size_append]; omega)
      have s1 : (impl_StoreSheets_nst_l0_T nms rs cs p (ixR n) (acc, (i : Int))).run = some (.inl (acc ++ w, ((i + 1 : Nat) : Int))) := by
        simp only [impl_StoreSheets_nst_l0_T, Tree.run, hT.ln, ltn, inb_nat, hi, decide_true, if_true, Int.toNat_natCast, ixR_nth hi, w1, Option.bind_some, hf, w_succ (show i < 4611686018427387904 by omega)]
      have s2 : (spec_StoreSheets_nst_l0_T nms rs cs p (ixR n) (acc, (i : Int))).run = some (.inl (acc ++ w, ((i + 1 : Nat) : Int))) := by
        simp only [spec_StoreSheets_nst_l0_T, Tree.run, hT.ln, ltn, inb_nat, hi, decide_true, if_true, Int.toNat_natCast, ixR_nth hi, hv, hb, Bool.not_true, Bool.false_eq_true, if_false, w2, Option.bind_some, hf, w_succ (show i < 4611686018427387904 by omega)]
      refine ⟨fun h => ?_, fun ⟨q, h1, h2, h3⟩ => ?_⟩
      · obtain ⟨r, g1, g2⟩ := k1 fun q h1 h2 => h q (by omega) h2
        exact ⟨r, wl_inl (T := fun s => (impl_StoreSheets_nst_l0_T nms rs cs p (ixR n) s).run) s1 g1, wl_inl (T := fun s => (spec_StoreSheets_nst_l0_T nms rs cs p (ixR n) s).run) s2 g2⟩
      · refine wl_inl (T := fun s => (spec_StoreSheets_nst_l0_T nms rs cs p (ixR n) s).run) s2 (k2 ⟨q, ?_, h2, h3⟩)
        rcases Nat.lt_or_ge i q with hl | hl
        · omega
        · have : q = i := by omega
          subst this; rw [hb] at h3; cases h3
theorem stores_both {n : Nat} {nms : List ByteArray} {rs cs : List Int} {p : List (List Nat)} (hT : Sa n nms rs cs p) : ∃ r, impl_StoreSheets_nst_g nms rs cs p (ixR n) = some r ∧ spec_StoreSheets_nst_g nms rs cs p (ixR n) = some r := by
  by_cases h8 : (8 : Int) < ((n : Nat) : Int)
  · exact ⟨.inl (ByteArray.mk #[]), by simp only [impl_StoreSheets_nst_g, impl_StoreSheets_nst_T, Tree.run, hT.ln, h8, decide_true, if_true], by simp only [spec_StoreSheets_nst_g, spec_StoreSheets_nst_T, Tree.run, hT.ln, h8, decide_true, if_true]⟩
  · obtain ⟨k1, k2⟩ := st_loop hT (by omega) n 0 (ByteArray.mk #[]) (by omega) (Nat.zero_le _)
    rcases has_ok hT with ⟨h1, q, h2, h3⟩ | ⟨h1, h2⟩
    · have g2 : spec_StoreSheets_nst_l0_g nms rs cs p (ixR n) (ByteArray.mk #[], (0 : Int)) = some (.inl ()) := k2 ⟨q, by omega, h2, h3⟩
      exact ⟨.inl (ByteArray.mk #[]), by simp only [impl_StoreSheets_nst_g, impl_StoreSheets_nst_T, Tree.run, hT.ln, h8, decide_false, Bool.false_eq_true, if_false, h1, Option.bind_some, decide_true, if_true],
        by simp only [spec_StoreSheets_nst_g, spec_StoreSheets_nst_T, Tree.run, hT.ln, h8, decide_false, Bool.false_eq_true, if_false, if_true, g2, Option.bind_some]⟩
    · obtain ⟨w, g1, g2⟩ := k1 fun q _ hq => h2 q hq
      have g1 : impl_StoreSheets_nst_l0_g nms rs cs p (ixR n) (ByteArray.mk #[], (0 : Int)) = some w := g1
      have g2 : spec_StoreSheets_nst_l0_g nms rs cs p (ixR n) (ByteArray.mk #[], (0 : Int)) = some (.inr w) := g2
      exact ⟨.inr w, by simp only [impl_StoreSheets_nst_g, impl_StoreSheets_nst_T, Tree.run, hT.ln, h8, decide_false, Bool.false_eq_true, if_false, h1, Option.bind_some, decide_true, if_true, g1],
        by simp only [spec_StoreSheets_nst_g, spec_StoreSheets_nst_T, Tree.run, hT.ln, h8, decide_false, Bool.false_eq_true, if_false, if_true, g2, Option.bind_some]⟩
theorem stores_law (nms : List ByteArray) (rs cs : List Int) (p : List (List Nat)) {n : Nat} (hn : n < 9223372036854775808) (l0 : nms.length = n) (h0 : ∀ i, i < n → (nth nms i).size < 9223372036854775808) (l1 : rs.length = n) (h1 : ∀ i, i < n → -9223372036854775808 ≤ nth rs i ∧ nth rs i < 9223372036854775808)
    (l2 : cs.length = n) (h2 : ∀ i, i < n → -9223372036854775808 ≤ nth cs i ∧ nth cs i < 9223372036854775808) (l3 : p.length = n) (h3 : ∀ i, i < n → (nth p i).length ≤ maxN ∧ ∀ x ∈ nth p i, x < 4294967296) : laws_FnExactStoreSheets_g nms rs cs p = some true := by
  obtain ⟨k, hk, hk2⟩ := szShS (rs := rs) (cs := cs) l0 hn h0 (fun i hi => (h3 i hi).1) 1048576 (by omega) (by omega)
  by_cases z0 : k < 0
  · simp only [laws_FnExactStoreSheets_g, laws_FnExactStoreSheets_T, Tree.run, hk, Option.bind_some, z0, decide_true, if_true]
  have hT : Sa n nms rs cs p := ⟨(hk2 z0).1, l0, l1, l2, l3, h0, fun i hi => (h3 i hi).1, fun i hi => (h3 i hi).2⟩
  have t0 := toShS hT
  have e0 := eqShA hT
  obtain ⟨r, i1, i2⟩ := stores_both hT
  cases r with
  | inl w =>
    simp only [laws_FnExactStoreSheets_g, laws_FnExactStoreSheets_T, Tree.run, z0, hk, t0, i1, i2, e0, Option.bind_some, decide_false, decide_true, Bool.false_eq_true, if_false, if_true, Bool.not_true, Bool.not_false, beq_self_eq_true]
    first | done | simp [Tree.run]
  | inr w =>
    simp only [laws_FnExactStoreSheets_g, laws_FnExactStoreSheets_T, Tree.run, z0, hk, t0, i1, i2, e0, Option.bind_some, decide_false, decide_true, Bool.false_eq_true, if_false, if_true, Bool.not_true, Bool.not_false, beq_self_eq_true]
    first | done | simp [Tree.run]
theorem stores_lawL (nms : List ByteArray) (rs cs : List Int) (b : List Nat) {n : Nat} (hn : n < 9223372036854775808) (l0 : nms.length = n) (h0 : ∀ i, i < n → (nth nms i).size < 9223372036854775808) (l1 : rs.length = n) (h1 : ∀ i, i < n → -9223372036854775808 ≤ nth rs i ∧ nth rs i < 9223372036854775808)
    (l2 : cs.length = n) (h2 : ∀ i, i < n → -9223372036854775808 ≤ nth cs i ∧ nth cs i < 9223372036854775808) (l3 : b.length = n) (h3 : ∀ i, i < n → nth b i < 9223372036854775808) (big : ∃ i, i < n ∧ maxN < nth b i) : laws_FnExactStoreSheets_len_g nms rs cs b = some true := by
  obtain ⟨k, hk, hk2⟩ := szShL nms rs cs b l0 h0 h3 hn 1048576 (by omega) (by omega)
  have z0 : k < 0 := by
    by_cases h : k < 0
    · exact h
    · obtain ⟨i, g1, g2⟩ := big
      have := (hk2 h).2.2 i g1
      omega
  simp only [laws_FnExactStoreSheets_len_g, laws_FnExactStoreSheets_len_T, Tree.run, hk, Option.bind_some, z0, decide_true, if_true]
end Go.Proofs.Ythdmkdkbfhoahaa.AM
