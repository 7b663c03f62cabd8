/- Whole numbers in rows: the words of both sides. -/
import Derived.Test.YtimlecagkbbnpaaM1
import Derived.Test.YtimlecagkbbnpaaI0
set_option linter.unusedSimpArgs false
set_option linter.unusedVariables false
set_option maxHeartbeats 1000000
namespace Go.Proofs.Ytimlecagkbbnpaa.AM

theorem wi_inl {σ ρ : Type} {T : σ → Option (σ ⊕ ρ)} {s s' : σ} {r : Option ρ} (h : T s = some (.inl s')) (h' : whileM T s' = r) : whileM T s = r := by rw [whileM_eq, h]; exact h'
theorem wi_inr {σ ρ : Type} {T : σ → Option (σ ⊕ ρ)} {s : σ} {r : ρ} (h : T s = some (.inr r)) : whileM T s = some r := by rw [whileM_eq, h]
/-- Do all lie between -m and m? -/
def bndB (m : Int) (xs : List Int) : Bool := xs.all fun x => decide (-m ≤ x) && decide (x ≤ m)
theorem bnd_iff {m : Int} {xs : List Int} : bndB m xs = true ↔ ∀ k, k < xs.length → -m ≤ nth xs k ∧ nth xs k ≤ m := by
  unfold bndB
  rw [List.all_eq_true]
  constructor
  · intro h k hk
    have := h _ (List.getElem_mem hk)
    rw [nth_of _ _ hk]
    simpa using this
  · intro h x hx
    obtain ⟨k, hk, rfl⟩ := List.getElem_of_mem hx
    have := h k hk
    rw [nth_of _ _ hk] at this
    simpa using this
theorem allInB (xs : List Int) (a b : Int) (h : xs.length ≤ maxN) : impl_allIn_g xs a b = some (xs.all fun x => decide (a ≤ x) && decide (x ≤ b)) := by
  unfold maxN at h
  have hT : ∀ i, i < xs.length → (slices_IndexFuncI_l0_T xs a b (i : Int)).run = if (!(decide (a ≤ nth xs i) && decide (nth xs i ≤ b))) = true then some (.inr (.inl (i : Int))) else some (.inl ((i + 1 : Nat) : Int)) := by
    intro i hi
    simp only [slices_IndexFuncI_l0_T, Tree.run, lt_nat, inb_nat, hi, decide_true, if_true, impl_allIn_1_v, inR, Int.toNat_natCast, w_succ (show i < 4611686018427387904 by omega)]
  have he : (slices_IndexFuncI_l0_T xs a b (xs.length : Int)).run = some (.inr (.inr ())) := by
    simp [slices_IndexFuncI_l0_T, Tree.run]
  have := whileM_find (T := fun s => (slices_IndexFuncI_l0_T xs a b s).run) (p := fun i => !(decide (a ≤ nth xs i) && decide (nth xs i ≤ b))) (a := fun i => .inl (i : Int)) hT he
  have ha := find_any xs.length (fun i => !(decide (a ≤ nth xs i) && decide (nth xs i ≤ b)))
  rw [any_range (fun x => !(decide (a ≤ x) && decide (x ≤ b))), any_not] at ha
  simp only [impl_allIn_g, impl_allIn_T, slices_ContainsFuncI_g, slices_ContainsFuncI_T, slices_IndexFuncI_g, slices_IndexFuncI_T, Tree.run, if_true, slices_IndexFuncI_l0_g, this]
  cases hf : (List.range xs.length).find? (fun i => !(decide (a ≤ nth xs i) && decide (nth xs i ≤ b))) with
  | none =>
    rw [hf] at ha
    have : (xs.all fun x => decide (a ≤ x) && decide (x ≤ b)) = true := by simpa using ha.symm
    rw [this]; simp [Tree.run]
  | some i =>
    rw [hf] at ha
    have : (xs.all fun x => decide (a ≤ x) && decide (x ≤ b)) = false := by
      cases hq : (xs.all fun x => decide (a ≤ x) && decide (x ≤ b)) with
      | false => rfl
      | true => rw [hq] at ha; simp at ha
    rw [this]; simp [Tree.run]
/-- Valid whole numbers in rows, of at most m. -/
def whB (m : Int) (r c : Int) (xs : List Int) : Bool := decide (1 ≤ r) && decide (r ≤ 6) && (decide (1 ≤ c) && decide (c ≤ 6)) && decide ((xs.length : Int) = IntKind.i64.wrap (r * c)) && bndB m xs
theorem wh_shape {m r c : Int} {xs : List Int} (h : whB m r c xs = true) : ∃ n k : Nat, r = (n : Int) ∧ c = (k : Int) ∧ 1 ≤ n ∧ n ≤ 6 ∧ 1 ≤ k ∧ k ≤ 6 ∧ xs.length = n * k ∧ bndB m xs = true := by
  simp only [whB, Bool.and_eq_true, decide_eq_true_eq] at h
  obtain ⟨⟨⟨⟨h1, h2⟩, h3, h4⟩, h5⟩, h6⟩ := h
  refine ⟨r.toNat, c.toNat, by omega, by omega, by omega, by omega, by omega, by omega, ?_, h6⟩
  have e1 : r = (r.toNat : Int) := by omega
  have e2 : c = (c.toNat : Int) := by omega
  rw [e1, e2, mulw (by omega) (by omega)] at h5
  exact Int.ofNat.inj h5
theorem wh_nat {m : Int} {n k : Nat} {xs : List Int} (h1 : 1 ≤ n) (h2 : n ≤ 6) (h3 : 1 ≤ k) (h4 : k ≤ 6) (h5 : xs.length = n * k) : whB m n k xs = bndB m xs := by
  have c1 : decide ((1 : Int) ≤ (n : Int)) = true := by simp; omega
  have c2 : decide ((n : Int) ≤ 6) = true := by simp; omega
  have c3 : decide ((1 : Int) ≤ (k : Int)) = true := by simp; omega
  have c4 : decide ((k : Int) ≤ 6) = true := by simp; omega
  have c5 : decide ((xs.length : Int) = ((n * k : Nat) : Int)) = true := by rw [h5]; simp
  simp only [whB, c1, c2, c3, c4, mulw (show n ≤ 12 by omega) (show k ≤ 12 by omega), c5, Bool.true_and]
theorem whI (m r c : Int) (xs : List Int) (hx : xs.length ≤ maxN) (m0 : 0 ≤ m) (m1 : m ≤ 4611686018427387904) : impl_isWhole_g r c xs m = some (whB m r c xs) := by
  have em : IntKind.i64.wrap (0 - m) = -m := by rw [w64 (by omega) (by omega)]; omega
  have e5 : decide (impl_lengthI_v xs = IntKind.i64.wrap (r * c)) = decide ((xs.length : Int) = IntKind.i64.wrap (r * c)) := rfl
  simp only [impl_isWhole_g, impl_isWhole_T, Tree.run, inR, em, allInB xs _ _ hx, e5, Option.bind_some, whB]
  show _ = some (decide (1 ≤ r) && decide (r ≤ 6) && (decide (1 ≤ c) && decide (c ≤ 6)) && decide ((xs.length : Int) = IntKind.i64.wrap (r * c)) && (xs.all fun x => decide (-m ≤ x) && decide (x ≤ m)))
  generalize (xs.all fun x => decide (-m ≤ x) && decide (x ≤ m)) = z
  by_cases a1 : (1 : Int) ≤ r <;> by_cases a2 : r ≤ (6 : Int) <;> by_cases a3 : (1 : Int) ≤ c <;> by_cases a4 : c ≤ (6 : Int) <;> by_cases a5 : (xs.length : Int) = IntKind.i64.wrap (r * c) <;> simp [a1, a2, a3, a4, a5]
theorem vwI (r c : Int) (xs : List Int) (hx : xs.length ≤ maxN) : impl_ValidWhole_g r c xs = some (whB 1000000 r c xs) := by
  simp only [impl_ValidWhole_g, impl_ValidWhole_T, Tree.run, whI 1000000 r c xs hx (by omega) (by omega), Option.bind_some]
theorem setG {α : Type} [Inhabited α] {xs : List α} {p j : Nat} {v : α} (h : p < xs.length) : nth (xs.set p v) j = if p = j then v else nth xs j := by
  split
  · rename_i e; subst e; exact nth_set_eq _ _ _ h
  · rename_i e; exact nth_set_ne _ _ _ _ e
theorem rcinj {m i k j l : Nat} (hk : k < m) (hl : l < m) (h : i * m + k = j * m + l) : i = j ∧ k = l := by
  have h1 := rc_div (i := i) hk
  have h2 := rc_div (i := j) hl
  have h3 := rc_mod (i := i) hk
  have h4 := rc_mod (i := j) hl
  rw [h] at h1 h3
  omega
theorem le36 {n m : Nat} (hn : n ≤ 6) (hm : m ≤ 6) : n * m ≤ 36 := Nat.mul_le_mul hn hm

/-! rows that change places -/
def sw (i j a : Nat) : Nat := if a = i then j else if a = j then i else a
theorem sw_lt {i j a n : Nat} (hi : i < n) (hj : j < n) (ha : a < n) : sw i j a < n := by
  unfold sw; split; exact hj; split; exact hi; exact ha
theorem sw_comm (i j a : Nat) : sw i j a = sw j i a := by
  unfold sw
  by_cases h1 : a = i
  · by_cases h2 : a = j
    · rw [if_pos h1, if_pos h2, ← h1, ← h2]
    · rw [if_pos h1, if_neg h2, if_pos h1]
  · by_cases h2 : a = j
    · rw [if_neg h1, if_pos h2, if_pos h2]
    · rw [if_neg h1, if_neg h2, if_neg h2, if_neg h1]
def swapL (n m : Nat) (H : List Int) (i j : Nat) : List Int := rc n m fun a b => nth H (sw i j a * m + b)
@[simp] theorem swapL_length (n m : Nat) (H : List Int) (i j : Nat) : (swapL n m H i j).length = n * m := by simp [swapL]
theorem swapL_nth {n m : Nat} {H : List Int} {i j a b : Nat} (ha : a < n) (hb : b < m) : nth (swapL n m H i j) (a * m + b) = nth H (sw i j a * m + b) := rc_nth _ ha hb
theorem swapL_comm (n m : Nat) (H : List Int) (i j : Nat) : swapL n m H i j = swapL n m H j i := rc_congr fun a b _ _ => by rw [sw_comm]
/-- What a loop that changes two rows does. -/
theorem swap_gen {T : Int × List Int → Option ((Int × List Int) ⊕ List Int)} {n m i j : Nat} {H : List Int} (hi : i < n) (hj : j < n) (hH : H.length = n * m)
    (h : ∀ (k : Nat) (s : List Int), k < m → s.length = n * m → T ((k : Int), s) = some (.inl (((k + 1 : Nat) : Int), (s.set (i * m + k) (nth s (j * m + k))).set (j * m + k) (nth s (i * m + k)))))
    (he : ∀ s : List Int, T ((m : Int), s) = some (.inr s)) : whileM T ((0 : Int), H) = some (swapL n m H i j) := by
  have key : ∀ (d k : Nat) (s : List Int), k + d = m → s.length = n * m → ∃ s', whileM T ((k : Int), s) = some s' ∧ s'.length = n * m ∧ ∀ a b, a < n → b < m → nth s' (a * m + b) = if k ≤ b then nth s (sw i j a * m + b) else nth s (a * m + b) := by
    intro d
    induction d with
    | zero =>
      intro k s hk hs
      have : k = m := by omega
      subst this
      exact ⟨s, wi_inr (he s), hs, fun a b _ hb => by rw [if_neg (by omega)]⟩
    | succ d ih =>
      intro k s hk hs
      have hkm : k < m := by omega
      have p1 : i * m + k < s.length := by rw [hs]; exact rc_lt hi hkm
      have p2 : j * m + k < s.length := by rw [hs]; exact rc_lt hj hkm
      obtain ⟨s', g1, g2, g3⟩ := ih (k + 1) ((s.set (i * m + k) (nth s (j * m + k))).set (j * m + k) (nth s (i * m + k))) (by omega) (by simp [hs])
      refine ⟨s', wi_inl (h k s hkm hs) g1, g2, fun a b ha hb => ?_⟩
      have look : ∀ c, c < n → nth ((s.set (i * m + k) (nth s (j * m + k))).set (j * m + k) (nth s (i * m + k))) (c * m + b) = if b = k then nth s (sw i j c * m + b) else nth s (c * m + b) := fun c hc => by
        rw [setG (by simpa using p2), setG p1]
        by_cases hbk : b = k
        · subst hbk
          rw [if_pos rfl]
          unfold sw
          by_cases e1 : c = j
          · subst e1
            rw [if_pos rfl]
            by_cases e2 : c = i
            · subst e2; rw [if_pos rfl]
            · rw [if_neg e2, if_pos rfl]
          · have n1 : ¬ (j * m + b = c * m + b) := fun h => e1 (rcinj hb hb h).1.symm
            rw [if_neg n1]
            by_cases e2 : c = i
            · subst e2; rw [if_pos rfl, if_pos rfl]
            · have n2 : ¬ (i * m + b = c * m + b) := fun h => e2 (rcinj hb hb h).1.symm
              rw [if_neg n2, if_neg e2, if_neg e1]
        · rw [if_neg hbk]
          have n1 : ¬ (j * m + k = c * m + b) := fun h => hbk (rcinj hkm hb h).2.symm
          have n2 : ¬ (i * m + k = c * m + b) := fun h => hbk (rcinj hkm hb h).2.symm
          rw [if_neg n1, if_neg n2]
      rw [g3 a b ha hb]
      by_cases hc : k + 1 ≤ b
      · rw [if_pos hc, if_pos (by omega)]
        have hr : sw i j a < n := sw_lt hi hj ha
        rw [look _ hr, if_neg (by omega)]
      · rw [if_neg hc, look a ha]
        by_cases hbk : b = k
        · rw [if_pos hbk, if_pos (by omega)]
        · rw [if_neg hbk, if_neg (by omega)]
  obtain ⟨s', g1, g2, g3⟩ := key m 0 H (by omega) hH
  have : s' = swapL n m H i j := rc_ext g2 fun a b ha hb => by rw [g3 a b ha hb, if_pos (Nat.zero_le _)]
  rw [this] at g1
  exact g1
/-! a row taken away from another -/
def takeL (n m : Nat) (H : List Int) (i j : Nat) (q : Int) : List Int := rc n m fun a b => if a = i then IntKind.i64.wrap (nth H (i * m + b) - IntKind.i64.wrap (q * nth H (j * m + b))) else nth H (a * m + b)
@[simp] theorem takeL_length (n m : Nat) (H : List Int) (i j : Nat) (q : Int) : (takeL n m H i j q).length = n * m := by simp [takeL]
theorem takeL_nth {n m : Nat} {H : List Int} {i j a b : Nat} {q : Int} (ha : a < n) (hb : b < m) : nth (takeL n m H i j q) (a * m + b) = if a = i then IntKind.i64.wrap (nth H (i * m + b) - IntKind.i64.wrap (q * nth H (j * m + b))) else nth H (a * m + b) := rc_nth _ ha hb
theorem take_gen {T : Int × List Int → Option ((Int × List Int) ⊕ List Int)} {n m i j : Nat} {q : Int} {H : List Int} (hi : i < n) (hj : j < n) (hH : H.length = n * m)
    (h : ∀ (k : Nat) (s : List Int), k < m → s.length = n * m → T ((k : Int), s) = some (.inl (((k + 1 : Nat) : Int), s.set (i * m + k) (IntKind.i64.wrap (nth s (i * m + k) - IntKind.i64.wrap (q * nth s (j * m + k)))))))
    (he : ∀ s : List Int, T ((m : Int), s) = some (.inr s)) : whileM T ((0 : Int), H) = some (takeL n m H i j q) := by
  have key : ∀ (d k : Nat) (s : List Int), k + d = m → s.length = n * m → ∃ s', whileM T ((k : Int), s) = some s' ∧ s'.length = n * m ∧ ∀ a b, a < n → b < m → nth s' (a * m + b) = if k ≤ b ∧ a = i then IntKind.i64.wrap (nth s (i * m + b) - IntKind.i64.wrap (q * nth s (j * m + b))) else nth s (a * m + b) := by
    intro d
    induction d with
    | zero =>
      intro k s hk hs
      have : k = m := by omega
      subst this
      exact ⟨s, wi_inr (he s), hs, fun a b _ hb => by rw [if_neg (by omega)]⟩
    | succ d ih =>
      intro k s hk hs
      have hkm : k < m := by omega
      have p1 : i * m + k < s.length := by rw [hs]; exact rc_lt hi hkm
      obtain ⟨s', g1, g2, g3⟩ := ih (k + 1) (s.set (i * m + k) (IntKind.i64.wrap (nth s (i * m + k) - IntKind.i64.wrap (q * nth s (j * m + k))))) (by omega) (by simp [hs])
      refine ⟨s', wi_inl (h k s hkm hs) g1, g2, fun a b ha hb => ?_⟩
      have look : ∀ c, nth (s.set (i * m + k) (IntKind.i64.wrap (nth s (i * m + k) - IntKind.i64.wrap (q * nth s (j * m + k))))) (c * m + b) = if b = k ∧ c = i then IntKind.i64.wrap (nth s (i * m + k) - IntKind.i64.wrap (q * nth s (j * m + k))) else nth s (c * m + b) := fun c => by
        rw [setG p1]
        by_cases e : b = k ∧ c = i
        · rw [if_pos e, if_pos (by rw [e.1, e.2])]
        · rw [if_neg e, if_neg (fun h => e ⟨(rcinj hkm hb h).2.symm, (rcinj hkm hb h).1.symm⟩)]
      rw [g3 a b ha hb]
      by_cases hc : k + 1 ≤ b ∧ a = i
      · rw [if_pos hc, if_pos (by omega), look i, look j, if_neg (by omega), if_neg (by omega)]
      · rw [if_neg hc, look a]
        by_cases e : b = k ∧ a = i
        · rw [if_pos e, if_pos (by omega), e.1]
        · rw [if_neg e, if_neg (by omega)]
  obtain ⟨s', g1, g2, g3⟩ := key m 0 H (by omega) hH
  have : s' = takeL n m H i j q := rc_ext g2 fun a b ha hb => by
    rw [g3 a b ha hb]
    by_cases e : a = i
    · rw [if_pos ⟨Nat.zero_le _, e⟩, if_pos e]
    · rw [if_neg (by omega), if_neg e]
  rw [this] at g1
  exact g1
end Go.Proofs.Ytimlecagkbbnpaa.AM
