import Derived.Test.YtmgpbchacndndaaX1
import Derived.Test.YtmgpbchacndndaaD17
import Derived.Test.YtmgpbchacndndaaD18
set_option linter.unusedSimpArgs false
set_option linter.unusedVariables false
set_option maxHeartbeats 1000000
set_option maxRecDepth 100000
namespace Go.Proofs.Ytmgpbchacndndaa.AM
theorem inR (n a b : Int) : Bn_ n a b = (decide (a ≤ n) && decide (n ≤ b)) := by
  unfold Bn_
  cases decide (a ≤ n) <;> simp
noncomputable def dotN (f : Nat → Nat) : Nat → Nat
  | 0 => 0
  | n + 1 => fadd .f32 (dotN f n) (f n)
noncomputable def Xw_ (n m : Nat) (M v : List Nat) : List Nat := (List.range n).map fun r => dotN (fun i => fmul .f32 (nth (AM.sub M ((r * m : Nat) : Int) (((r + 1) * m : Nat) : Int)) i) (nth v i)) m
@[simp] theorem Arh_ (n m : Nat) (M v : List Nat) : (Xw_ n m M v).length = n := by simp [Xw_]
def rc {α : Type} (n m : Nat) (f : Nat → Nat → α) : List α := (List.range (n * m)).map fun p => f (p / m) (p % m)
@[simp] theorem Lf_ {α : Type} (n m : Nat) (f : Nat → Nat → α) : (rc n m f).length = n * m := by simp [rc]
theorem rc_lt {n m i k : Nat} (hi : i < n) (hk : k < m) : i * m + k < n * m := by
  have h := Nat.mul_le_mul_right m (show i + 1 ≤ n from hi)
  rw [Nat.add_mul] at h; omega
theorem O9_ {m i k : Nat} (hk : k < m) : (i * m + k) / m = i := by
  rw [Nat.mul_comm, Nat.mul_add_div (by omega), Nat.div_eq_of_lt hk]; rfl
theorem Pw_ {m i k : Nat} (hk : k < m) : (i * m + k) % m = k := by
  rw [Nat.mul_comm, Nat.mul_add_mod, Nat.mod_eq_of_lt hk]
theorem Gq_ {α : Type} [Inhabited α] {n m : Nat} (f : Nat → Nat → α) {i k : Nat} (hi : i < n) (hk : k < m) : nth (rc n m f) (i * m + k) = f i k := by
  rw [rc, A8_ _ _ _ (rc_lt hi hk)]
  simp only [O9_ hk, Pw_ hk]
theorem rc_of {n m p : Nat} (hp : p < n * m) : p / m < n ∧ p % m < m ∧ p / m * m + p % m = p := by
  have hm : 0 < m := by
    rcases Nat.eq_zero_or_pos m with h | h
    · subst h; simp at hp
    · exact h
  exact ⟨(Nat.div_lt_iff_lt_mul hm).2 hp, Nat.mod_lt _ hm, by rw [Nat.mul_comm]; exact Nat.div_add_mod p m⟩
theorem Ng_ {α : Type} [Inhabited α] {n m : Nat} {f : Nat → Nat → α} {xs : List α} (hl : xs.length = n * m) (h : ∀ i k, i < n → k < m → nth xs (i * m + k) = f i k) : xs = rc n m f := by
  refine Pg_ (by rw [hl, Lf_]) fun p hp => ?_
  rw [hl] at hp
  obtain ⟨h1, h2, h3⟩ := rc_of hp
  rw [← h3, h _ _ h1 h2, Gq_ f h1 h2]
theorem le144 {n m : Nat} (hn : n ≤ 12) (hm : m ≤ 12) : n * m ≤ 144 := Nat.mul_le_mul hn hm
theorem mulw {n m : Nat} (hn : n ≤ 12) (hm : m ≤ 12) : IntKind.i64.wrap ((n : Int) * (m : Int)) = ((n * m : Nat) : Int) := by
  have h := le144 hn hm
  have : ((n : Int) * m) = ((n * m : Nat) : Int) := by simp
  rw [this, w64 (by omega) (by omega)]
theorem atw {n m i k : Nat} (hi : i < n) (hk : k < m) (hn : n ≤ 12) (hm : m ≤ 12) : IntKind.i64.wrap ((IntKind.i64.wrap ((i : Int) * (m : Int))) + (k : Int)) = ((i * m + k : Nat) : Int) := by
  have h := le144 hn hm
  have h2 := rc_lt hi hk
  rw [mulw (by omega) hm, w64 (by omega) (by omega)]; omega
theorem w1 {k : Nat} (h : k ≤ 1000) : IntKind.i64.wrap ((k : Int) + 1) = ((k + 1 : Nat) : Int) := A7_ (by omega)
theorem fitsN {n : Nat} (h : n ≤ 1000) : fits n = true := Do_.2 (by unfold maxN; omega)
theorem Aj7_ {T : Int × List Nat → Option ((Int × List Nat) ⊕ List Nat)} {n : Nat} {f : Nat → Nat} (h : ∀ (i : Nat) (s : List Nat), i < n → s.length = i → T ((i : Int), s) = some (.inl (((i + 1 : Nat) : Int), s ++ [f i])))
    (he : ∀ s : List Nat, T ((n : Int), s) = some (.inr s)) : Af_ T ((0 : Int), []) = some ((List.range n).map f) := by
  refine Bv_ (T := T) (n := n) (r := (List.range n).map f) (fun i => ((i : Int), (List.range i).map f)) ?_ (he _)
  intro i hi
  rw [h i _ hi (by simp), List.range_succ, List.map_append]; rfl
def colL (n m : Nat) (M : List Nat) (k : Nat) : List Nat := (List.range n).map fun i => nth M (i * m + k)
@[simp] theorem Ari_ (n m : Nat) (M : List Nat) (k : Nat) : (colL n m M k).length = n := by simp [colL]
noncomputable def mulL (n m q : Nat) (A B : List Nat) : List Nat := rc n q fun i k => dotN (fun j => fmul .f32 (nth A (i * m + j)) (nth B (j * q + k))) m
@[simp] theorem Arj_ (n m q : Nat) (A B : List Nat) : (mulL n m q A B).length = n * q := by simp [mulL]
theorem A3_ {σ ρ : Type} {T : σ → Option (σ ⊕ ρ)} {s s' : σ} {r : Option ρ} (h : T s = some (.inl s')) (h' : Af_ T s' = r) : Af_ T s = r := by rw [Ch_, h]; exact h'
theorem A9_ {σ ρ : Type} {T : σ → Option (σ ⊕ ρ)} {s : σ} {r : ρ} (h : T s = some (.inr r)) : Af_ T s = some r := by rw [Ch_, h]
def bndB (m : Int) (xs : List Int) : Bool := xs.all fun x => decide (-m ≤ x) && decide (x ≤ m)
theorem E8_ {m : Int} {xs : List Int} : bndB m xs = true ↔ ∀ k, k < xs.length → -m ≤ nth xs k ∧ nth xs k ≤ m := by
  unfold bndB
  rw [List.all_eq_true]
  constructor
  · intro h k hk
    have := h _ (List.getElem_mem hk)
    rw [Ao_ _ _ hk]
    simpa using this
  · intro h x hx
    obtain ⟨k, hk, rfl⟩ := List.getElem_of_mem hx
    have := h k hk
    rw [Ao_ _ _ hk] at this
    simpa using this
theorem Apj_ (xs : List Int) (a b : Int) (h : xs.length ≤ maxN) : J3_ xs a b = some (xs.all fun x => decide (a ≤ x) && decide (x ≤ b)) := by
  unfold maxN at h
  have hT : ∀ i, i < xs.length → (D3_ xs a b (i : Int)).run = if (!(decide (a ≤ nth xs i) && decide (nth xs i ≤ b))) = true then some (.inr (.inl (i : Int))) else some (.inl ((i + 1 : Nat) : Int)) := by
    intro i hi
    simp only [D3_, Tree.run, Ar_, Aq_, hi, decide_true, if_true, Jk_, inR, Int.toNat_natCast, A7_ (show i < 4611686018427387904 by omega)]
  have he : (D3_ xs a b (xs.length : Int)).run = some (.inr (.inr ())) := by
    simp [D3_, Tree.run]
  have := Ana_ (T := fun s => (D3_ xs a b s).run) (p := fun i => !(decide (a ≤ nth xs i) && decide (nth xs i ≤ b))) (a := fun i => .inl (i : Int)) hT he
  have ha := Al4_ xs.length (fun i => !(decide (a ≤ nth xs i) && decide (nth xs i ≤ b)))
  rw [Af3_ (fun x => !(decide (a ≤ x) && decide (x ≤ b))), Akr_] at ha
  simp only [J3_, O5_, Nl_, Q8_, Mf_, Pv_, Tree.run, if_true, Px_, this]
  cases hf : (List.range xs.length).find? (fun i => !(decide (a ≤ nth xs i) && decide (nth xs i ≤ b))) with
  | none =>
    rw [hf] at ha
    have : (xs.all fun x => decide (a ≤ x) && decide (x ≤ b)) = true := by simpa using ha.symm
    rw [this]; simp [Tree.run]
  | some i =>
    rw [hf] at ha
    have : (xs.all fun x => decide (a ≤ x) && decide (x ≤ b)) = false := by
      cases hq : (xs.all fun x => decide (a ≤ x) && decide (x ≤ b)) with
      | false => rfl
      | true => rw [hq] at ha; simp at ha
    rw [this]; simp [Tree.run]
def whB (m : Int) (r c : Int) (xs : List Int) : Bool := decide (1 ≤ r) && decide (r ≤ 6) && (decide (1 ≤ c) && decide (c ≤ 6)) && decide ((xs.length : Int) = IntKind.i64.wrap (r * c)) && bndB m xs
theorem Mh_ {m : Int} {n k : Nat} {xs : List Int} (h1 : 1 ≤ n) (h2 : n ≤ 6) (h3 : 1 ≤ k) (h4 : k ≤ 6) (h5 : xs.length = n * k) : whB m n k xs = bndB m xs := by
  have c1 : decide ((1 : Int) ≤ (n : Int)) = true := by simp; omega
  have c2 : decide ((n : Int) ≤ 6) = true := by simp; omega
  have c3 : decide ((1 : Int) ≤ (k : Int)) = true := by simp; omega
  have c4 : decide ((k : Int) ≤ 6) = true := by simp; omega
  have c5 : decide ((xs.length : Int) = ((n * k : Nat) : Int)) = true := by rw [h5]; simp
  simp only [whB, c1, c2, c3, c4, mulw (show n ≤ 12 by omega) (show k ≤ 12 by omega), c5, Bool.true_and]
theorem whI (m r c : Int) (xs : List Int) (hx : xs.length ≤ maxN) (m0 : 0 ≤ m) (m1 : m ≤ 4611686018427387904) : H1_ r c xs m = some (whB m r c xs) := by
  have em : IntKind.i64.wrap (0 - m) = -m := by rw [w64 (by omega) (by omega)]; omega
  have e5 : decide (Gd_ xs = IntKind.i64.wrap (r * c)) = decide ((xs.length : Int) = IntKind.i64.wrap (r * c)) := rfl
  simp only [H1_, R1_, Tree.run, inR, em, Apj_ xs _ _ hx, e5, Option.bind_some, whB]
  show _ = some (decide (1 ≤ r) && decide (r ≤ 6) && (decide (1 ≤ c) && decide (c ≤ 6)) && decide ((xs.length : Int) = IntKind.i64.wrap (r * c)) && (xs.all fun x => decide (-m ≤ x) && decide (x ≤ m)))
  generalize (xs.all fun x => decide (-m ≤ x) && decide (x ≤ m)) = z
  by_cases a1 : (1 : Int) ≤ r <;> by_cases a2 : r ≤ (6 : Int) <;> by_cases a3 : (1 : Int) ≤ c <;> by_cases a4 : c ≤ (6 : Int) <;> by_cases a5 : (xs.length : Int) = IntKind.i64.wrap (r * c) <;> simp [a1, a2, a3, a4, a5]
theorem vwI (r c : Int) (xs : List Int) (hx : xs.length ≤ maxN) : Iv_ r c xs = some (whB 1000000 r c xs) := by
  simp only [Iv_, Rr_, Tree.run, whI 1000000 r c xs hx (by omega) (by omega), Option.bind_some]
theorem atWI {n m i k : Nat} {M : List Int} (hi : i < n) (hk : k < m) (hn : n ≤ 6) (hm : m ≤ 6) (hM : M.length = n * m) : Cl_ m M (i : Int) (k : Int) = some (nth M (i * m + k)) := by
  have h1 : i * m + k < M.length := by rw [hM]; exact rc_lt hi hk
  simp only [Cl_, Sq_, Tree.run, atw hi hk (show n ≤ 12 by omega) (show m ≤ 12 by omega), Aq_, h1, decide_true, if_true, Int.toNat_natCast]
theorem setG {α : Type} [Inhabited α] {xs : List α} {p j : Nat} {v : α} (h : p < xs.length) : nth (xs.set p v) j = if p = j then v else nth xs j := by
  split
  · rename_i e; subst e; exact Z4_ _ _ _ h
  · rename_i e; exact Ahj_ _ _ _ _ e
theorem rcinj {m i k j l : Nat} (hk : k < m) (hl : l < m) (h : i * m + k = j * m + l) : i = j ∧ k = l := by
  have h1 := O9_ (i := i) hk
  have h2 := O9_ (i := j) hl
  have h3 := Pw_ (i := i) hk
  have h4 := Pw_ (i := j) hl
  rw [h] at h1 h3
  omega
theorem le36 {n m : Nat} (hn : n ≤ 6) (hm : m ≤ 6) : n * m ≤ 36 := Nat.mul_le_mul hn hm
def sw (i j a : Nat) : Nat := if a = i then j else if a = j then i else a
theorem sw_lt {i j a n : Nat} (hi : i < n) (hj : j < n) (ha : a < n) : sw i j a < n := by
  unfold sw; split; exact hj; split; exact hi; exact ha
def swapL (n m : Nat) (H : List Int) (i j : Nat) : List Int := rc n m fun a b => nth H (sw i j a * m + b)
@[simp] theorem Arl_ (n m : Nat) (H : List Int) (i j : Nat) : (swapL n m H i j).length = n * m := by simp [swapL]
theorem Af2_ {n m : Nat} {H : List Int} {i j a b : Nat} (ha : a < n) (hb : b < m) : nth (swapL n m H i j) (a * m + b) = nth H (sw i j a * m + b) := Gq_ _ ha hb
theorem Abi_ {T : Int × List Int → Option ((Int × List Int) ⊕ List Int)} {n m i j : Nat} {H : List Int} (hi : i < n) (hj : j < n) (hH : H.length = n * m)
    (h : ∀ (k : Nat) (s : List Int), k < m → s.length = n * m → T ((k : Int), s) = some (.inl (((k + 1 : Nat) : Int), (s.set (i * m + k) (nth s (j * m + k))).set (j * m + k) (nth s (i * m + k)))))
    (he : ∀ s : List Int, T ((m : Int), s) = some (.inr s)) : Af_ T ((0 : Int), H) = some (swapL n m H i j) := by
  have key : ∀ (d k : Nat) (s : List Int), k + d = m → s.length = n * m → ∃ s', Af_ T ((k : Int), s) = some s' ∧ s'.length = n * m ∧ ∀ a b, a < n → b < m → nth s' (a * m + b) = if k ≤ b then nth s (sw i j a * m + b) else nth s (a * m + b) := by
    intro d
    induction d with
    | zero =>
      intro k s hk hs
      have : k = m := by omega
      subst this
      exact ⟨s, A9_ (he s), hs, fun a b _ hb => by rw [if_neg (by omega)]⟩
    | succ d ih =>
      intro k s hk hs
      have hkm : k < m := by omega
      have p1 : i * m + k < s.length := by rw [hs]; exact rc_lt hi hkm
      have p2 : j * m + k < s.length := by rw [hs]; exact rc_lt hj hkm
      obtain ⟨s', g1, g2, g3⟩ := ih (k + 1) ((s.set (i * m + k) (nth s (j * m + k))).set (j * m + k) (nth s (i * m + k))) (by omega) (by simp [hs])
      refine ⟨s', A3_ (h k s hkm hs) g1, g2, fun a b ha hb => ?_⟩
      have look : ∀ c, c < n → nth ((s.set (i * m + k) (nth s (j * m + k))).set (j * m + k) (nth s (i * m + k))) (c * m + b) = if b = k then nth s (sw i j c * m + b) else nth s (c * m + b) := fun c hc => by
        rw [setG (by simpa using p2), setG p1]
        by_cases hbk : b = k
        · subst hbk
          rw [if_pos rfl]
          unfold sw
          by_cases e1 : c = j
          · subst e1
            rw [if_pos rfl]
            by_cases e2 : c = i
            · subst e2; rw [if_pos rfl]
            · rw [if_neg e2, if_pos rfl]
          · have n1 : ¬ (j * m + b = c * m + b) := fun h => e1 (rcinj hb hb h).1.symm
            rw [if_neg n1]
            by_cases e2 : c = i
            · subst e2; rw [if_pos rfl, if_pos rfl]
            · have n2 : ¬ (i * m + b = c * m + b) := fun h => e2 (rcinj hb hb h).1.symm
              rw [if_neg n2, if_neg e2, if_neg e1]
        · rw [if_neg hbk]
          have n1 : ¬ (j * m + k = c * m + b) := fun h => hbk (rcinj hkm hb h).2.symm
          have n2 : ¬ (i * m + k = c * m + b) := fun h => hbk (rcinj hkm hb h).2.symm
          rw [if_neg n1, if_neg n2]
      rw [g3 a b ha hb]
      by_cases hc : k + 1 ≤ b
      · rw [if_pos hc, if_pos (by omega)]
        have hr : sw i j a < n := sw_lt hi hj ha
        rw [look _ hr, if_neg (by omega)]
      · rw [if_neg hc, look a ha]
        by_cases hbk : b = k
        · rw [if_pos hbk, if_pos (by omega)]
        · rw [if_neg hbk, if_neg (by omega)]
  obtain ⟨s', g1, g2, g3⟩ := key m 0 H (by omega) hH
  have : s' = swapL n m H i j := Ng_ g2 fun a b ha hb => by rw [g3 a b ha hb, if_pos (Nat.zero_le _)]
  rw [this] at g1
  exact g1
def takeL (n m : Nat) (H : List Int) (i j : Nat) (q : Int) : List Int := rc n m fun a b => if a = i then IntKind.i64.wrap (nth H (i * m + b) - IntKind.i64.wrap (q * nth H (j * m + b))) else nth H (a * m + b)
@[simp] theorem Arg_ (n m : Nat) (H : List Int) (i j : Nat) (q : Int) : (takeL n m H i j q).length = n * m := by simp [takeL]
theorem Aer_ {n m : Nat} {H : List Int} {i j a b : Nat} {q : Int} (ha : a < n) (hb : b < m) : nth (takeL n m H i j q) (a * m + b) = if a = i then IntKind.i64.wrap (nth H (i * m + b) - IntKind.i64.wrap (q * nth H (j * m + b))) else nth H (a * m + b) := Gq_ _ ha hb
theorem Aji_ {T : Int × List Int → Option ((Int × List Int) ⊕ List Int)} {n m i j : Nat} {q : Int} {H : List Int} (hi : i < n) (hj : j < n) (hH : H.length = n * m)
    (h : ∀ (k : Nat) (s : List Int), k < m → s.length = n * m → T ((k : Int), s) = some (.inl (((k + 1 : Nat) : Int), s.set (i * m + k) (IntKind.i64.wrap (nth s (i * m + k) - IntKind.i64.wrap (q * nth s (j * m + k)))))))
    (he : ∀ s : List Int, T ((m : Int), s) = some (.inr s)) : Af_ T ((0 : Int), H) = some (takeL n m H i j q) := by
  have key : ∀ (d k : Nat) (s : List Int), k + d = m → s.length = n * m → ∃ s', Af_ T ((k : Int), s) = some s' ∧ s'.length = n * m ∧ ∀ a b, a < n → b < m → nth s' (a * m + b) = if k ≤ b ∧ a = i then IntKind.i64.wrap (nth s (i * m + b) - IntKind.i64.wrap (q * nth s (j * m + b))) else nth s (a * m + b) := by
    intro d
    induction d with
    | zero =>
      intro k s hk hs
      have : k = m := by omega
      subst this
      exact ⟨s, A9_ (he s), hs, fun a b _ hb => by rw [if_neg (by omega)]⟩
    | succ d ih =>
      intro k s hk hs
      have hkm : k < m := by omega
      have p1 : i * m + k < s.length := by rw [hs]; exact rc_lt hi hkm
      obtain ⟨s', g1, g2, g3⟩ := ih (k + 1) (s.set (i * m + k) (IntKind.i64.wrap (nth s (i * m + k) - IntKind.i64.wrap (q * nth s (j * m + k))))) (by omega) (by simp [hs])
      refine ⟨s', A3_ (h k s hkm hs) g1, g2, fun a b ha hb => ?_⟩
      have look : ∀ c, nth (s.set (i * m + k) (IntKind.i64.wrap (nth s (i * m + k) - IntKind.i64.wrap (q * nth s (j * m + k))))) (c * m + b) = if b = k ∧ c = i then IntKind.i64.wrap (nth s (i * m + k) - IntKind.i64.wrap (q * nth s (j * m + k))) else nth s (c * m + b) := fun c => by
        rw [setG p1]
        by_cases e : b = k ∧ c = i
        · rw [if_pos e, if_pos (by rw [e.1, e.2])]
        · rw [if_neg e, if_neg (fun h => e ⟨(rcinj hkm hb h).2.symm, (rcinj hkm hb h).1.symm⟩)]
      rw [g3 a b ha hb]
      by_cases hc : k + 1 ≤ b ∧ a = i
      · rw [if_pos hc, if_pos (by omega), look i, look j, if_neg (by omega), if_neg (by omega)]
      · rw [if_neg hc, look a]
        by_cases e : b = k ∧ a = i
        · rw [if_pos e, if_pos (by omega), e.1]
        · rw [if_neg e, if_neg (by omega)]
  obtain ⟨s', g1, g2, g3⟩ := key m 0 H (by omega) hH
  have : s' = takeL n m H i j q := Ng_ g2 fun a b ha hb => by
    rw [g3 a b ha hb]
    by_cases e : a = i
    · rw [if_pos ⟨Nat.zero_le _, e⟩, if_pos e]
    · rw [if_neg (by omega), if_neg e]
  rw [this] at g1
  exact g1
theorem swapI {n m i j : Nat} {H : List Int} (hi : i < n) (hj : j < n) (hn : n ≤ 6) (hm : m ≤ 6) (hH : H.length = n * m) : Gc_ n m H (i : Int) (j : Int) = some (swapL n m H i j) := by
  have : N4_ m (i : Int) (j : Int) ((0 : Int), H) = some (swapL n m H i j) := by
    refine Abi_ (T := fun s => (Iz_ m (i : Int) (j : Int) s).run) hi hj hH ?_ ?_
    · intro k s hk hs
      have p1 : i * m + k < s.length := by rw [hs]; exact rc_lt hi hk
      have p2 : j * m + k < s.length := by rw [hs]; exact rc_lt hj hk
      simp only [Iz_, Tree.run, Ar_, hk, decide_true, if_true, atw hi hk (show n ≤ 12 by omega) (show m ≤ 12 by omega), atw hj hk (show n ≤ 12 by omega) (show m ≤ 12 by omega), Aq_, p1, p2, Int.toNat_natCast, w1 (show k ≤ 1000 by omega)]
    · intro s; simp [Iz_, Tree.run]
  simp only [Gc_, Rp_, Tree.run, this, Option.bind_some, if_true]
theorem takeI {n m i j : Nat} {q : Int} {H : List Int} (hi : i < n) (hj : j < n) (hn : n ≤ 6) (hm : m ≤ 6) (hH : H.length = n * m) : Fd_ n m H (i : Int) (j : Int) q = some (takeL n m H i j q) := by
  have : Or_ m (i : Int) (j : Int) q ((0 : Int), H) = some (takeL n m H i j q) := by
    refine Aji_ (T := fun s => (E5_ m (i : Int) (j : Int) q s).run) hi hj hH ?_ ?_
    · intro k s hk hs
      have p1 : i * m + k < s.length := by rw [hs]; exact rc_lt hi hk
      simp only [E5_, Tree.run, Ar_, hk, decide_true, if_true, atWI hj hk hn hm hs, Option.bind_some, atw hi hk (show n ≤ 12 by omega) (show m ≤ 12 by omega), Aq_, p1, Int.toNat_natCast, w1 (show k ≤ 1000 by omega)]
    · intro s; simp [E5_, Tree.run]
  simp only [Fd_, Ok_, Tree.run, this, Option.bind_some, if_true]
theorem Afg_ {σ ρ : Type} {T : σ → Option (σ ⊕ ρ)} {s s' : σ} {r : Option ρ} (h : T s = some (.inl s')) (h' : Af_ T s' = r) : Af_ T s = r := by rw [Ch_, h]; exact h'
theorem Aft_ {σ ρ : Type} {T : σ → Option (σ ⊕ ρ)} {s : σ} {r : ρ} (h : T s = some (.inr r)) : Af_ T s = some r := by rw [Ch_, h]
def Byt (xs : List Int) : Prop := ∀ x ∈ xs, 0 ≤ x ∧ x < 256
theorem Vt_ {xs : List Int} (h : Byt xs) {i : Nat} (hi : i < xs.length) : 0 ≤ nth xs i ∧ nth xs i < 256 := by rw [Ao_ _ _ hi]; exact h _ (List.getElem_mem hi)
theorem Api_ (x : Int) : 0 ≤ iand .u64 x 255 ∧ iand .u64 x 255 < 256 := by
  unfold iand
  have h : (BitVec.ofInt IntKind.u64.bits x &&& BitVec.ofInt IntKind.u64.bits 255).toNat ≤ 255 := by
    rw [BitVec.toNat_and]
    exact Nat.le_trans Nat.and_le_right (by decide)
  have hw : ∀ n : Nat, n ≤ 255 → IntKind.u64.wrap (n : Int) = (n : Int) := fun n hn => by
    simp [IntKind.wrap, IntKind.bits, IntKind.signed]; omega
  rw [hw _ h]; omega
theorem Aos_ {code : List Int} (hb : Byt code) (hl : code.length ≤ 1048576) (a s : Int) (h0 : 0 ≤ a) (h1 : a ≤ 1000000000000) :
    ∃ b s', D6_ code a s = some (b, a + 1, s') ∧ 0 ≤ b ∧ b < 256 := by
  have w : IntKind.i64.wrap (a + 1) = a + 1 := w64 (by omega) (by omega)
  obtain ⟨n, rfl⟩ : ∃ n : Nat, a = n := ⟨a.toNat, by omega⟩
  have h255 := Api_
  by_cases c1 : ((n : Nat) : Int) < ((code.length : Nat) : Int)
  · have hn : n < code.length := by omega
    have hby := Vt_ hb hn
    have wb : IntKind.i64.wrap (nth code n) = nth code n := w64 (by omega) (by omega)
    have c2 : (n : Int) + 1 ≤ ((code.length : Nat) : Int) := by omega
    obtain ⟨z, hz⟩ : ∃ z, z = IntKind.u64.wrap ((IntKind.u64.wrap ((IntKind.u64.wrap (s * (6364136223846793005 : Int))) + (IntKind.u64.wrap (nth code n)))) + (1442695040888963407 : Int)) := ⟨_, rfl⟩
    refine ⟨nth code n, z, ?_, hby.1, hby.2⟩
    simp only [D6_, Ms_, Tree.run, c1, decide_true, if_true, Aq_, hn, w, c2, Int.toNat_natCast, wb, ← hz]
  · have c2 : ¬ ((n : Int) + 1 ≤ ((code.length : Nat) : Int)) := by omega
    have e40 : decide ((0 : Int) ≤ 40) = true := by decide
    obtain ⟨z, hz⟩ : ∃ z, z = IntKind.u64.wrap ((IntKind.u64.wrap ((IntKind.u64.wrap (s * (6364136223846793005 : Int))) + (IntKind.u64.wrap ((0 : Int))))) + (1442695040888963407 : Int)) := ⟨_, rfl⟩
    obtain ⟨q1, q2⟩ := h255 (ishr .u64 z 40)
    have wq : IntKind.i64.wrap (iand .u64 (ishr .u64 z 40) 255) = iand .u64 (ishr .u64 z 40) 255 := w64 (by omega) (by omega)
    refine ⟨iand .u64 (ishr .u64 z 40) 255, z, ?_, q1, q2⟩
    simp only [D6_, Ms_, Tree.run, c1, decide_false, Bool.false_eq_true, if_false, w, c2, e40, if_true, ← hz, wq]
theorem Ag0_ {code : List Int} (hb : Byt code) (hl : code.length ≤ 1048576) (a s n : Int) (h0 : 0 ≤ a) (h1 : a ≤ 100000000000) (hn : 1 ≤ n) (hn2 : n ≤ 200) :
    ∃ b a' s', Fw_ code a s n = some (b, a', s') ∧ 0 ≤ b ∧ b < n ∧ a ≤ a' ∧ a' ≤ a + 1 := by
  by_cases c1 : n ≤ 1
  · exact ⟨0, a, s, by simp only [Fw_, M8_, Tree.run, c1, decide_true, if_true], by omega, by omega, by omega, by omega⟩
  · obtain ⟨b, s', k1, k2, k3⟩ := Aos_ hb hl a s h0 (by omega)
    have c2 : ¬ ((200 : Int) < n) := by omega
    have c3 : decide (n = 0) = false := decide_eq_false (by omega)
    have ht : Int.tmod b n = b % n := by rw [Int.tmod_eq_emod_of_nonneg k2]
    refine ⟨b % n, a + 1, s', ?_, Int.emod_nonneg _ (by omega), Int.emod_lt_of_pos _ (by omega), by omega, by omega⟩
    simp only [Fw_, M8_, Tree.run, c1, decide_false, Bool.false_eq_true, if_false, k1, Option.bind_some, c2, c3, Bool.not_false, if_true, ht]
theorem Ut_ {code : List Int} (hb : Byt code) (hl : code.length ≤ 1048576) : ∀ (d : Nat) (a s : Int) (xs : List Int), 0 ≤ a → a + d ≤ 100000000000 → xs.length + d ≤ 1000 → (∀ x ∈ xs, -6 ≤ x ∧ x ≤ 6) →
    ∃ a' s' ys, Su_ code ((d : Int), a, s, xs) = some (a', s', ys) ∧ ys.length = xs.length + d ∧ ∀ x ∈ ys, -6 ≤ x ∧ x ≤ 6
  | 0, a, s, xs, h0, h1, h2, h3 => ⟨a, s, xs, by
      refine Aft_ (T := fun st => (Eq_ code st).run) ?_
      have : ¬ ((0 : Int) < ((0 : Nat) : Int)) := by omega
      simp only [Eq_, Tree.run, this, decide_false, Bool.false_eq_true, if_false], rfl, h3⟩
  | d + 1, a, s, xs, h0, h1, h2, h3 => by
    obtain ⟨b, a1, s1, k1, k2, k3, k4, k5⟩ := Ag0_ hb hl a s 13 h0 (by omega) (by omega) (by omega)
    have w1 : IntKind.i64.wrap (b - 6) = b - 6 := w64 (by omega) (by omega)
    have w2 : IntKind.i64.wrap (((d + 1 : Nat) : Int) - 1) = (d : Int) := by rw [w64 (by omega) (by omega)]; omega
    have hp : (0 : Int) < ((d + 1 : Nat) : Int) := by omega
    have hf : fits (xs ++ ([b - 6] : List Int)).length = true := Do_.2 (by rw [List.length_append]; simp [maxN]; omega)
    obtain ⟨a', s', ys, g1, g2, g3⟩ := Ut_ hb hl d a1 s1 (xs ++ [b - 6]) (by omega) (by omega) (by rw [List.length_append]; simp; omega) (fun x hx => by
      rcases List.mem_append.1 hx with h | h
      · exact h3 x h
      · have := List.mem_singleton.1 h; omega)
    refine ⟨a', s', ys, ?_, by rw [g2, List.length_append]; simp; omega, g3⟩
    refine Afg_ (T := fun st => (Eq_ code st).run) ?_ g1
    simp only [Eq_, Tree.run, hp, decide_true, if_true, k1, Option.bind_some, w1, hf, w2]
theorem Adt_ {code : List Int} (hb : Byt code) (hl : code.length ≤ 1048576) (n c : Nat) (hn : n ≤ 12) (hc : c ≤ 12) :
    ∃ ys, Im_ code (n : Int) (c : Int) = some ((n : Int), (c : Int), ys) ∧ ys.length = n * c ∧ ∀ x ∈ ys, -6 ≤ x ∧ x ≤ 6 := by
  have hnc : n * c ≤ 12 * 12 := Nat.mul_le_mul hn hc
  have w : IntKind.i64.wrap ((n : Int) * (c : Int)) = ((n * c : Nat) : Int) := by rw [← Int.natCast_mul, w64 (by omega) (by omega)]
  obtain ⟨a', s', ys, g1, g2, g3⟩ := Ut_ hb hl (n * c) 0 0 [] (by omega) (by omega) (by simp; omega) (by simp)
  refine ⟨ys, ?_, by rw [g2]; simp, g3⟩
  simp only [Im_, O6_, Nc_, Rs_, Tree.run, w, g1, Option.bind_some, if_true]
theorem Aku_ {xs : List Int} (hb : Byt xs) (hl : xs.length ≤ 1048576) (k n : Int) (h0 : 0 ≤ k) (hn : 2 ≤ n) : ∃ v, Ea_ xs k n = some v ∧ 0 ≤ v ∧ v < n := by
  have c1 : ¬ (n ≤ 1) := by omega
  by_cases c2 : ((xs.length : Nat) : Int) ≤ k
  · exact ⟨0, by simp only [Ea_, Mw_, Tree.run, c1, decide_false, Bool.false_eq_true, if_false, c2, decide_true, if_true], by omega, by omega⟩
  · obtain ⟨i, rfl⟩ : ∃ i : Nat, k = i := ⟨k.toNat, by omega⟩
    have hi : i < xs.length := by omega
    have hby := Vt_ hb hi
    have wb : IntKind.i64.wrap (nth xs i) = nth xs i := w64 (by omega) (by omega)
    have c3 : decide (n = 0) = false := decide_eq_false (by omega)
    have ht : Int.tmod (nth xs i) n = nth xs i % n := by rw [Int.tmod_eq_emod_of_nonneg hby.1]
    refine ⟨nth xs i % n, ?_, Int.emod_nonneg _ (by omega), Int.emod_lt_of_pos _ (by omega)⟩
    simp only [Ea_, Mw_, Tree.run, c1, decide_false, Bool.false_eq_true, if_false, c2, Aq_, hi, decide_true, if_true, c3, Bool.not_false, Int.toNat_natCast, wb, ht]
def runN {σ ρ : Type} (T : σ → Option (σ ⊕ ρ)) : Nat → σ → Option ρ
  | 0, _ => none
  | f + 1, s => match T s with
    | some (.inl s') => runN T f s'
    | some (.inr r) => some r
    | none => none
theorem Fk_ {σ ρ : Type} {T : σ → Option (σ ⊕ ρ)} : ∀ (f : Nat) (s : σ) (r : ρ), runN T f s = some r → Af_ T s = some r := by
  intro f
  induction f with
  | zero => intro s r h; cases h
  | succ f ih =>
    intro s r h
    unfold runN at h
    rw [Ch_]
    split at h
    · rename_i s' hs; rw [hs]; exact ih s' r h
    · rename_i r' hs; rw [hs]; exact h
    · cases h
theorem asc1 : D1_ 1 ((0 : Int), []) = some [0] := Fk_ (T := fun s => (Jh_ 1 s).run) 9 _ _ (by kernel_rfl)
theorem asc2 : D1_ 2 ((0 : Int), []) = some [0, 1] := Fk_ (T := fun s => (Jh_ 2 s).run) 9 _ _ (by kernel_rfl)
theorem asc3 : D1_ 3 ((0 : Int), []) = some [0, 1, 2] := Fk_ (T := fun s => (Jh_ 3 s).run) 9 _ _ (by kernel_rfl)
theorem Sg_ (C : List Int) (i : Nat) (h : i < C.length) : AM.sub (overL (overL C i (C.drop (i + 1))) (C.length - 1) [(0 : Int)]) 0 ((C.length - 1 : Nat) : Int) = C.take i ++ C.drop (i + 1) := by
  have l1 : (C.take i ++ C.drop (i + 1)).length = C.length - 1 := by simp; omega
  have l2 : (overL C i (C.drop (i + 1))).length = C.length := by simp [overL]; omega
  have e : overL (overL C i (C.drop (i + 1))) (C.length - 1) [(0 : Int)] = (C.take i ++ C.drop (i + 1)) ++ [0] := by
    have d : (overL C i (C.drop (i + 1))).drop (C.length - 1 + 1) = [] := List.drop_eq_nil_of_le (by rw [l2]; omega)
    have t : (overL C i (C.drop (i + 1))).take (C.length - 1) = C.take i ++ C.drop (i + 1) := by
      unfold overL
      rw [← l1, List.take_left']
      rfl
    show (overL C i (C.drop (i + 1))).take (C.length - 1) ++ [0] ++ (overL C i (C.drop (i + 1))).drop (C.length - 1 + 1) = _
    rw [d, t, List.append_nil]
  rw [e]
  unfold AM.sub
  simp only [Int.toNat_natCast, Int.toNat_zero, List.drop_zero, Nat.sub_zero]
  rw [← l1, List.take_left']
  rfl
end Go.Proofs.Ytmgpbchacndndaa.AM
