/- Orders: lists that hold 0, 1, .. once each. -/
import Derived.Test.YtjadfgeemfdbmaaM1
import Derived.Test.YtjadfgeemfdbmaaI0
set_option linter.unusedSimpArgs false
set_option linter.unusedVariables false
set_option maxHeartbeats 1000000
namespace Go.Proofs.Ytjadfgeemfdbmaa.AM

/-- Each of 0, 1, .. once. -/
structure OrdOk (xs : List Int) : Prop where
  inr : ∀ k, k < xs.length → 0 ≤ nth xs k ∧ nth xs k < xs.length
  ne : ∀ j k, j < k → k < xs.length → nth xs j ≠ nth xs k
theorem srt_sorted (zs : List Int) : (PM.srt zs).Pairwise (· ≤ ·) := by
  have h := List.pairwise_mergeSort (le := fun x y : Int => decide (x ≤ y)) (fun a b c h1 h2 => by simp at *; omega) (fun a b => by simp; omega) zs
  exact h.imp fun h => of_decide_eq_true h
theorem srt_perm (zs : List Int) : (PM.srt zs).Perm zs := List.mergeSort_perm zs _
theorem ordOk_nodup {xs : List Int} (h : OrdOk xs) : xs.Nodup := by
  rw [List.Nodup, List.pairwise_iff_getElem]
  intro i j hi hj hij
  have := h.ne i j hij hj
  rwa [nth_of _ _ hi, nth_of _ _ hj] at this
theorem permB_iff (xs : List Int) : PM.permB xs = true ↔ OrdOk xs := by
  have hl := PM.srt_length xs
  have hp := srt_perm xs
  unfold PM.permB
  rw [List.all_eq_true]
  constructor
  · intro h
    have hs : PM.srt xs = (List.range xs.length).map Int.ofNat := by
      refine List.ext_getElem (by simp [hl]) fun i h1 h2 => ?_
      have hi : i < xs.length := by rw [← hl]; exact h1
      have := of_decide_eq_true (h i (List.mem_range.2 hi))
      rw [List.getElem?_eq_getElem h1] at this
      simpa using this
    have hmem : ∀ v ∈ xs, 0 ≤ v ∧ v < xs.length := fun v hv => by
      have := (hp.mem_iff (a := v)).2 hv
      rw [hs, List.mem_map] at this
      obtain ⟨k, hk, rfl⟩ := this
      have := List.mem_range.1 hk
      exact ⟨Int.natCast_nonneg k, Int.ofNat_lt.2 this⟩
    have hnd : xs.Nodup := by
      refine hp.nodup_iff.1 ?_
      rw [hs, List.Nodup, List.pairwise_map]
      exact (List.nodup_range).imp fun hne e => hne (Int.ofNat.inj e)
    refine ⟨fun k hk => ?_, fun j k hjk hk => ?_⟩
    · rw [nth_of _ _ hk]; exact hmem _ (List.getElem_mem hk)
    · rw [nth_of _ _ hk, nth_of _ _ (by omega)]
      rw [List.Nodup, List.pairwise_iff_getElem] at hnd
      exact hnd j k _ hk hjk
  · intro h j hj
    have hj := List.mem_range.1 hj
    have hnd : (PM.srt xs).Nodup := hp.nodup_iff.2 (ordOk_nodup h)
    have hso := srt_sorted xs
    have lt : ∀ a b (ha : a < (PM.srt xs).length) (hb : b < (PM.srt xs).length), a < b → (PM.srt xs)[a] < (PM.srt xs)[b] := fun a b ha hb hab => by
      have h1 := (List.pairwise_iff_getElem.1 hso) a b ha hb hab
      have h2 := (List.pairwise_iff_getElem.1 hnd) a b ha hb hab
      omega
    have rng : ∀ a (ha : a < (PM.srt xs).length), 0 ≤ (PM.srt xs)[a] ∧ (PM.srt xs)[a] < xs.length := fun a ha => by
      have := (hp.mem_iff).1 (List.getElem_mem ha)
      obtain ⟨k, hk, e⟩ := List.getElem_of_mem this
      have := h.inr k hk
      rw [nth_of _ _ hk, e] at this
      exact this
    have lo : ∀ a (ha : a < (PM.srt xs).length), (a : Int) ≤ (PM.srt xs)[a] := fun a => by
      induction a with
      | zero => intro ha; exact (rng 0 ha).1
      | succ a ih =>
        intro ha
        have h1 := ih (by omega)
        have h2 := lt a (a + 1) (by omega) ha (by omega)
        omega
    have hi : ∀ d a (ha : a < (PM.srt xs).length), a + d + 1 = xs.length → (PM.srt xs)[a] + d < xs.length := fun d => by
      induction d with
      | zero => intro a ha _; have := (rng a ha).2; simpa using this
      | succ d ih =>
        intro a ha he
        have h1 := ih (a + 1) (by omega) (by omega)
        have h2 := lt a (a + 1) ha (by omega) (by omega)
        omega
    have hjl : j < (PM.srt xs).length := by omega
    have h1 := lo j hjl
    have h2 := hi (xs.length - j - 1) j hjl (by omega)
    rw [List.getElem?_eq_getElem hjl]
    refine decide_eq_true ?_
    simp only [Option.getD_some]
    omega
theorem orderI (xs : List Int) : impl_IsOrder_g xs = some (decide (1 ≤ (xs.length : Int)) && decide ((xs.length : Int) ≤ 12) && PM.permB xs) := by
  have e : impl_isSide_v (impl_lengthI_v xs) = (decide (1 ≤ (xs.length : Int)) && decide ((xs.length : Int) ≤ 12)) := by
    unfold impl_isSide_v
    rw [inR]
    rfl
  simp only [impl_IsOrder_g, impl_IsOrder_T, Tree.run, e]
  cases hc : (decide (1 ≤ (xs.length : Int)) && decide ((xs.length : Int) ≤ 12)) with
  | false => simp
  | true =>
    simp only [Bool.and_eq_true, decide_eq_true_eq] at hc
    have g : (decide (0 < xs.length) && decide (xs.length ≤ 4096)) = true := by simp; omega
    simp only [g, if_true, Bool.true_and]
theorem orderLoop (xs : List Int) (hl : xs.length ≤ 12) : ∀ (d i : Nat) (s : List Bool), i + d = xs.length → s.length = xs.length → (∀ v, v < xs.length → (nth s v = true ↔ ∃ k, k < i ∧ nth xs k = (v : Int))) →
    (∀ k, k < i → 0 ≤ nth xs k ∧ nth xs k < xs.length) → (∀ j k, j < k → k < i → nth xs j ≠ nth xs k) →
    (whileM (fun s => (spec_l02Order_l0_T xs s).run) ((i : Int), s) = some (.inl ()) ∧ ¬ OrdOk xs) ∨ (whileM (fun s => (spec_l02Order_l0_T xs s).run) ((i : Int), s) = some (.inr ()) ∧ OrdOk xs) := by
  intro d
  induction d with
  | zero =>
    intro i s hi hs hv hr hn
    have : i = xs.length := by omega
    subst this
    refine .inr ⟨by rw [whileM_eq]; simp [spec_l02Order_l0_T, Tree.run], hr, hn⟩
  | succ d ih =>
    intro i s hi hs hv hr hn
    have hlt : i < xs.length := by omega
    have en1 : IntKind.i64.wrap (((xs.length : Nat) : Int) - (1 : Int)) = (xs.length : Int) - 1 := w64 (by omega) (by omega)
    have eIn : spec_l00In_v (nth xs i) 0 ((xs.length : Int) - 1) = (decide (0 ≤ nth xs i) && decide (nth xs i ≤ (xs.length : Int) - 1)) := by
      unfold spec_l00In_v
      cases decide (0 ≤ nth xs i) <;> simp
    by_cases hin : 0 ≤ nth xs i ∧ nth xs i < xs.length
    case neg =>
      refine .inl ⟨?_, fun h => hin (h.inr i hlt)⟩
      have : (decide (0 ≤ nth xs i) && decide (nth xs i ≤ (xs.length : Int) - 1)) = false := by
        simp only [Bool.and_eq_false_iff, decide_eq_false_iff_not]; omega
      rw [whileM_eq]
      simp only [spec_l02Order_l0_T, Tree.run, lt_nat, inb_nat, hlt, decide_true, if_true, Int.toNat_natCast, en1, eIn, this, Bool.not_false]
    have hIn : (decide (0 ≤ nth xs i) && decide (nth xs i ≤ (xs.length : Int) - 1)) = true := by simp; omega
    obtain ⟨v, hv0⟩ : ∃ v : Nat, nth xs i = v := ⟨(nth xs i).toNat, by omega⟩
    have hvl : v < xs.length := by have := hin.2; rw [hv0] at this; omega
    have hb : inb (v : Int) s.length = true := by rw [inb_nat]; simp; omega
    rw [hv0] at eIn hIn
    cases hsv : nth s v with
    | true =>
      obtain ⟨k, hk, e⟩ := (hv v hvl).1 hsv
      refine .inl ⟨?_, fun h => h.ne k i hk hlt (by rw [e, hv0])⟩
      rw [whileM_eq]
      simp only [spec_l02Order_l0_T, Tree.run, lt_nat, inb_nat, hlt, decide_true, if_true, Int.toNat_natCast, en1, hv0, eIn, hIn, Bool.not_true, Bool.false_eq_true, if_false, hs, hvl, hsv]
    | false =>
      have hno : ¬ ∃ k, k < i ∧ nth xs k = (v : Int) := fun h => by have := (hv v hvl).2 h; rw [hsv] at this; cases this
      have step : (spec_l02Order_l0_T xs ((i : Int), s)).run = some (.inl (((i + 1 : Nat) : Int), s.set v true)) := by
        simp only [spec_l02Order_l0_T, Tree.run, lt_nat, inb_nat, hlt, decide_true, if_true, Int.toNat_natCast, en1, hv0, eIn, hIn, Bool.not_true, Bool.false_eq_true, if_false, hs, hvl, hsv, w_succ (show i < 4611686018427387904 by omega)]
      rw [whileM_eq, step]
      refine ih (i + 1) (s.set v true) (by omega) (by simpa using hs) (fun u hu => ?_) (fun k hk => ?_) (fun j k hjk hk => ?_)
      · by_cases e : v = u
        · subst e
          rw [nth_set_eq _ _ _ (by omega)]
          exact ⟨fun _ => ⟨i, by omega, hv0⟩, fun _ => rfl⟩
        · rw [nth_set_ne _ _ _ _ e, hv u hu]
          constructor
          · rintro ⟨k, hk, h⟩; exact ⟨k, by omega, h⟩
          · rintro ⟨k, hk, h⟩
            refine ⟨k, ?_, h⟩
            rcases Nat.lt_or_ge k i with h1 | h1
            · exact h1
            · have : k = i := by omega
              subst this
              rw [hv0] at h; omega
      · rcases Nat.lt_or_ge k i with h1 | h1
        · exact hr k h1
        · have : k = i := by omega
          subst this; exact hin
      · rcases Nat.lt_or_ge k i with h1 | h1
        · exact hn j k hjk h1
        · have : k = i := by omega
          subst this
          intro e
          exact hno ⟨j, hjk, by rw [e, hv0]⟩
theorem orderS (xs : List Int) : spec_l02Order_g xs = some (decide (1 ≤ (xs.length : Int)) && decide ((xs.length : Int) ≤ 12) && PM.permB xs) := by
  by_cases h1 : (1 : Int) ≤ (xs.length : Int)
  case neg =>
    have c1 : decide ((xs.length : Int) < 1) = true := decide_eq_true (by omega)
    simp only [spec_l02Order_g, spec_l02Order_T, Tree.run, c1, if_true, decide_eq_false h1, Bool.false_and]
  by_cases h2 : (xs.length : Int) ≤ 12
  case neg =>
    have c1 : decide ((xs.length : Int) < 1) = false := decide_eq_false (by omega)
    have c2 : decide ((12 : Int) < (xs.length : Int)) = true := decide_eq_true (by omega)
    simp only [spec_l02Order_g, spec_l02Order_T, Tree.run, c1, c2, if_true, Bool.false_eq_true, if_false, decide_eq_false h2, Bool.and_false, Bool.false_and]
  have c1 : decide ((xs.length : Int) < 1) = false := decide_eq_false (by omega)
  have c2 : decide ((12 : Int) < (xs.length : Int)) = false := decide_eq_false (by omega)
  have c3 : inb ((xs.length : Nat) : Int) (maxN + 1) = true := by rw [inb_nat]; unfold maxN; simp; omega
  have hm := orderLoop xs (by omega) xs.length 0 (List.replicate xs.length false) (by omega) (by simp) (fun v hv => by
    rw [nth_of _ _ (by simpa using hv)]
    simp) (fun k hk => by omega) (fun j k hjk hk => by omega)
  simp only [spec_l02Order_g, spec_l02Order_T, Tree.run, c1, c2, c3, if_true, Bool.false_eq_true, if_false, decide_eq_true h1, decide_eq_true h2, Bool.and_self, Bool.true_and, Int.toNat_natCast, spec_l02Order_l0_g]
  have e0 : (((0 : Nat) : Int), List.replicate xs.length false) = ((0 : Int), List.replicate xs.length false) := rfl
  rw [e0] at hm
  rcases hm with ⟨g, h⟩ | ⟨g, h⟩
  · have : PM.permB xs = false := by
      cases hp : PM.permB xs with
      | false => rfl
      | true => exact absurd ((permB_iff xs).1 hp) h
    simp only [g, Option.bind_some, Tree.run, this]
  · simp only [g, Option.bind_some, Tree.run, (permB_iff xs).2 h]
theorem ord_shape {xs : List Int} (h : (decide (1 ≤ (xs.length : Int)) && decide ((xs.length : Int) ≤ 12) && PM.permB xs) = true) : 1 ≤ xs.length ∧ xs.length ≤ 12 ∧ OrdOk xs := by
  simp only [Bool.and_eq_true, decide_eq_true_eq] at h
  exact ⟨by omega, by omega, (permB_iff xs).1 h.2⟩
theorem rc_succ {α : Type} (n m : Nat) (f : Nat → Nat → α) : rc (n + 1) m f = rc n m f ++ (List.range m).map (f n) := by
  unfold rc
  rw [Nat.add_mul, Nat.one_mul, List.range_add, List.map_append]
  congr 1
  rw [List.map_map]
  refine List.map_congr_left fun p hp => ?_
  have hp := List.mem_range.1 hp
  simp only [Function.comp, rc_div hp, rc_mod hp]
theorem rowL_eq {n m i : Nat} {M : List Nat} (hi : i < n) (hn : n ≤ 12) (hm : m ≤ 12) (hM : M.length = n * m) : rowL m M i = (List.range m).map fun k => nth M (i * m + k) := by
  refine ext_nth (by rw [rowL_length hi hn hm hM]; simp) fun k hk => ?_
  rw [rowL_length hi hn hm hM] at hk
  rw [rowL_nth hi hk hM, nth_map_range _ _ _ hk]
end Go.Proofs.Ytjadfgeemfdbmaa.AM
