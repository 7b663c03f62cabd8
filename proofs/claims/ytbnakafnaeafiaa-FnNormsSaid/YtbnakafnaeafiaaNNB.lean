/- SRC L0 F0 M0 M1 NM0 NM1 NM2 NM3 NM4 NM5 NM6 -/
import Derived.Test.YtbnakafnaeafiaaD18
import Derived.Test.YtbnakafnaeafiaaX1
import Derived.Test.YtbnakafnaeafiaaD17
import Derived.Test.YtbnakafnaeafiaaNNA
set_option linter.unusedSimpArgs false
set_option linter.unusedVariables false
set_option maxHeartbeats 2000000
namespace Go.Proofs.Ytbnakafnaeafiaa.AM

theorem sl_inl {σ ρ : Type} {T : σ → Option (σ ⊕ ρ)} {s s' : σ} {r : Option ρ} (h : T s = some (.inl s')) (h' : whileM T s' = r) : whileM T s = r := by rw [whileM_eq, h]; exact h'
theorem sl_inr {σ ρ : Type} {T : σ → Option (σ ⊕ ρ)} {s : σ} {r : ρ} (h : T s = some (.inr r)) : whileM T s = some r := by rw [whileM_eq, h]
/-- Bytes. -/
def Byt (xs : List Int) : Prop := ∀ x ∈ xs, 0 ≤ x ∧ x < 256
theorem byt_nth {xs : List Int} (h : Byt xs) {i : Nat} (hi : i < xs.length) : 0 ≤ nth xs i ∧ nth xs i < 256 := by rw [nth_of _ _ hi]; exact h _ (List.getElem_mem hi)
theorem and255 (x : Int) : 0 ≤ iand .u64 x 255 ∧ iand .u64 x 255 < 256 := by
  unfold iand
  have h : (BitVec.ofInt IntKind.u64.bits x &&& BitVec.ofInt IntKind.u64.bits 255).toNat ≤ 255 := by
    rw [BitVec.toNat_and]
    exact Nat.le_trans Nat.and_le_right (by decide)
  have hw : ∀ n : Nat, n ≤ 255 → IntKind.u64.wrap (n : Int) = (n : Int) := fun n hn => by
    simp [IntKind.wrap, IntKind.bits, IntKind.signed]; omega
  rw [hw _ h]; omega
theorem next_ok {code : List Int} (hb : Byt code) (hl : code.length ≤ 1048576) (a s : Int) (h0 : 0 ≤ a) (h1 : a ≤ 1000000000000) :
    ∃ b s', spec_l00Src_next_g code a s = some (b, a + 1, s') ∧ 0 ≤ b ∧ b < 256 := by
  have w : IntKind.i64.wrap (a + 1) = a + 1 := w64 (by omega) (by omega)
  obtain ⟨n, rfl⟩ : ∃ n : Nat, a = n := ⟨a.toNat, by omega⟩
  have h255 := and255
  by_cases c1 : ((n : Nat) : Int) < ((code.length : Nat) : Int)
  · have hn : n < code.length := by omega
    have hby := byt_nth hb hn
    have wb : IntKind.i64.wrap (nth code n) = nth code n := w64 (by omega) (by omega)
    have c2 : (n : Int) + 1 ≤ ((code.length : Nat) : Int) := by omega
    obtain ⟨z, hz⟩ : ∃ z, z = IntKind.u64.wrap ((IntKind.u64.wrap ((IntKind.u64.wrap (s * (6364136223846793005 : Int))) + (IntKind.u64.wrap (nth code n)))) + (1442695040888963407 : Int)) := ⟨_, rfl⟩
    refine ⟨nth code n, z, ?_, hby.1, hby.2⟩
    simp only [spec_l00Src_next_g, spec_l00Src_next_T, Tree.run, c1, decide_true, if_true, inb_nat, hn, w, c2, Int.toNat_natCast, wb, ← hz]
  · have c2 : ¬ ((n : Int) + 1 ≤ ((code.length : Nat) : Int)) := by omega
    have e40 : decide ((0 : Int) ≤ 40) = true := by decide
    obtain ⟨z, hz⟩ : ∃ z, z = IntKind.u64.wrap ((IntKind.u64.wrap ((IntKind.u64.wrap (s * (6364136223846793005 : Int))) + (IntKind.u64.wrap ((0 : Int))))) + (1442695040888963407 : Int)) := ⟨_, rfl⟩
    obtain ⟨q1, q2⟩ := h255 (ishr .u64 z 40)
    have wq : IntKind.i64.wrap (iand .u64 (ishr .u64 z 40) 255) = iand .u64 (ishr .u64 z 40) 255 := w64 (by omega) (by omega)
    refine ⟨iand .u64 (ishr .u64 z 40) 255, z, ?_, q1, q2⟩
    simp only [spec_l00Src_next_g, spec_l00Src_next_T, Tree.run, c1, decide_false, Bool.false_eq_true, if_false, w, c2, e40, if_true, ← hz, wq]
theorem pick_ok {code : List Int} (hb : Byt code) (hl : code.length ≤ 1048576) (a s n : Int) (h0 : 0 ≤ a) (h1 : a ≤ 100000000000) (hn : 1 ≤ n) (hn2 : n ≤ 200) :
    ∃ b a' s', spec_l00Src_pick_g code a s n = some (b, a', s') ∧ 0 ≤ b ∧ b < n ∧ a ≤ a' ∧ a' ≤ a + 1 := by
  by_cases c1 : n ≤ 1
  · exact ⟨0, a, s, by simp only [spec_l00Src_pick_g, spec_l00Src_pick_T, Tree.run, c1, decide_true, if_true], by omega, by omega, by omega, by omega⟩
  · obtain ⟨b, s', k1, k2, k3⟩ := next_ok hb hl a s h0 (by omega)
    have c2 : ¬ ((200 : Int) < n) := by omega
    have c3 : decide (n = 0) = false := decide_eq_false (by omega)
    have ht : Int.tmod b n = b % n := by rw [Int.tmod_eq_emod_of_nonneg k2]
    refine ⟨b % n, a + 1, s', ?_, Int.emod_nonneg _ (by omega), Int.emod_lt_of_pos _ (by omega), by omega, by omega⟩
    simp only [spec_l00Src_pick_g, spec_l00Src_pick_T, Tree.run, c1, decide_false, Bool.false_eq_true, if_false, k1, Option.bind_some, c2, c3, Bool.not_false, if_true, ht]
theorem r8At_ok {xs : List Int} (hb : Byt xs) (hl : xs.length ≤ 1048576) (k n : Int) (h0 : 0 ≤ k) (hn : 2 ≤ n) : ∃ v, laws_r8At_g xs k n = some v ∧ 0 ≤ v ∧ v < n := by
  have c1 : ¬ (n ≤ 1) := by omega
  by_cases c2 : ((xs.length : Nat) : Int) ≤ k
  · exact ⟨0, by simp only [laws_r8At_g, laws_r8At_T, Tree.run, c1, decide_false, Bool.false_eq_true, if_false, c2, decide_true, if_true], by omega, by omega⟩
  · obtain ⟨i, rfl⟩ : ∃ i : Nat, k = i := ⟨k.toNat, by omega⟩
    have hi : i < xs.length := by omega
    have hby := byt_nth hb hi
    have wb : IntKind.i64.wrap (nth xs i) = nth xs i := w64 (by omega) (by omega)
    have c3 : decide (n = 0) = false := decide_eq_false (by omega)
    have ht : Int.tmod (nth xs i) n = nth xs i % n := by rw [Int.tmod_eq_emod_of_nonneg hby.1]
    refine ⟨nth xs i % n, ?_, Int.emod_nonneg _ (by omega), Int.emod_lt_of_pos _ (by omega)⟩
    simp only [laws_r8At_g, laws_r8At_T, Tree.run, c1, decide_false, Bool.false_eq_true, if_false, c2, inb_nat, hi, decide_true, if_true, c3, Bool.not_false, Int.toNat_natCast, wb, ht]
theorem finI (x : Nat) : impl_IsFinite_v x = sfin x := by
  rw [← ifin]
  unfold impl_IsFinite_v impl_isFinite64_v math_IsNaN_v math_IsInf_v maxF64
  cases feq .f64 (wid x) (wid x) <;> simp
theorem fin1 (x : Nat) : impl_areFinite_1_v x = !sfin x := by unfold impl_areFinite_1_v; rw [finI]

theorem areFin (xs : List Nat) (h : xs.length ≤ maxN) : impl_areFinite_g xs = some (xs.all sfin) := by
  unfold maxN at h
  have hT : ∀ i, i < xs.length → (slices_IndexFuncF_l0_T xs (i : Int)).run = if (!sfin (nth xs i)) = true then some (.inr (.inl (i : Int))) else some (.inl ((i + 1 : Nat) : Int)) := by
    intro i hi
    simp only [slices_IndexFuncF_l0_T, Tree.run, lt_nat, inb_nat, hi, decide_true, if_true, fin1, Int.toNat_natCast, w_succ (show i < 4611686018427387904 by omega)]
  have he : (slices_IndexFuncF_l0_T xs (xs.length : Int)).run = some (.inr (.inr ())) := by
    simp [slices_IndexFuncF_l0_T, Tree.run]
  have := whileM_find (T := fun s => (slices_IndexFuncF_l0_T xs s).run) (p := fun i => !sfin (nth xs i)) (a := fun i => .inl (i : Int)) hT he
  have ha := find_any xs.length (fun i => !sfin (nth xs i))
  rw [any_range (fun x => !sfin x), any_not] at ha
  simp only [impl_areFinite_g, impl_areFinite_T, slices_ContainsFuncF_g, slices_ContainsFuncF_T, slices_IndexFuncF_g, slices_IndexFuncF_T, Tree.run, if_true, slices_IndexFuncF_l0_g, this]
  cases hf : (List.range xs.length).find? (fun i => !sfin (nth xs i)) with
  | none =>
    rw [hf] at ha
    have : xs.all sfin = true := by simpa using ha.symm
    rw [this]; simp [Tree.run]
  | some i =>
    rw [hf] at ha
    have : xs.all sfin = false := by simpa using ha.symm
    rw [this]; simp [Tree.run]
theorem inR (n a b : Int) : impl_inRange_v n a b = (decide (a ≤ n) && decide (n ≤ b)) := by
  unfold impl_inRange_v
  cases decide (a ≤ n) <;> simp
/-- A sum of the first so many. -/
noncomputable def dotN (f : Nat → Nat) : Nat → Nat
  | 0 => 0
  | n + 1 => fadd .f32 (dotN f n) (f n)
/-- The rows' products with a vector. -/
noncomputable def timesL (n m : Nat) (M v : List Nat) : List Nat := (List.range n).map fun r => dotN (fun i => fmul .f32 (nth (AM.sub M ((r * m : Nat) : Int) (((r + 1) * m : Nat) : Int)) i) (nth v i)) m
@[simp] theorem timesL_length (n m : Nat) (M v : List Nat) : (timesL n m M v).length = n := by simp [timesL]
theorem row_wrap {n m r : Nat} (hr : r < n) (h : n * m ≤ maxN) : IntKind.i64.wrap ((r : Int) * (m : Int)) = ((r * m : Nat) : Int) ∧ IntKind.i64.wrap ((IntKind.i64.wrap ((r : Int) + 1)) * (m : Int)) = (((r + 1) * m : Nat) : Int) ∧ r * m + m ≤ n * m ∧ (r + 1) * m = r * m + m := by
  have h1 : (r + 1) * m ≤ n * m := Nat.mul_le_mul_right m hr
  have h2 : (r + 1) * m = r * m + m := by rw [Nat.add_mul, Nat.one_mul]
  unfold maxN at h
  have h3 : ((r : Int) * (m : Int)) = ((r * m : Nat) : Int) := by simp
  have h4 : (((r + 1 : Nat) : Int) * (m : Int)) = (((r + 1) * m : Nat) : Int) := by simp
  have h5 : IntKind.i64.wrap ((r : Int) * (m : Int)) = ((r * m : Nat) : Int) := by rw [h3, w64 (by omega) (by omega)]
  refine ⟨h5, ?_, by omega, h2⟩
  by_cases h0 : r < 4611686018427387904
  · rw [w_succ h0, h4, w64 (by omega) (by omega)]
  · have hm : m = 0 := by
      rcases Nat.eq_zero_or_pos m with h | h
      · exact h
      · have := Nat.le_mul_of_pos_right r h
        omega
    subst hm
    simp [IntKind.wrap_i64]
theorem row_sok {n m r : Nat} {M : List Nat} (hr : r < n) (h : n * m ≤ maxN) (hM : M.length = n * m) : sok ((r * m : Nat) : Int) (((r + 1) * m : Nat) : Int) M.length = true := by
  obtain ⟨_, _, h3, h4⟩ := row_wrap (m := m) hr h
  exact sok_iff.2 ⟨by omega, by omega, by omega⟩
theorem row_length {n m r : Nat} {M : List Nat} (hr : r < n) (h : n * m ≤ maxN) (hM : M.length = n * m) : (AM.sub M ((r * m : Nat) : Int) (((r + 1) * m : Nat) : Int)).length = m := by
  obtain ⟨_, _, h3, h4⟩ := row_wrap (m := m) hr h
  rw [sub_length (row_sok hr h hM)]; omega
/-- n rows of m each. -/
def rc {α : Type} (n m : Nat) (f : Nat → Nat → α) : List α := (List.range (n * m)).map fun p => f (p / m) (p % m)
@[simp] theorem rc_length {α : Type} (n m : Nat) (f : Nat → Nat → α) : (rc n m f).length = n * m := by simp [rc]
theorem rc_lt {n m i k : Nat} (hi : i < n) (hk : k < m) : i * m + k < n * m := by
  have h := Nat.mul_le_mul_right m (show i + 1 ≤ n from hi)
  rw [Nat.add_mul] at h; omega
theorem rc_div {m i k : Nat} (hk : k < m) : (i * m + k) / m = i := by
  rw [Nat.mul_comm, Nat.mul_add_div (by omega), Nat.div_eq_of_lt hk]; rfl
theorem rc_mod {m i k : Nat} (hk : k < m) : (i * m + k) % m = k := by
  rw [Nat.mul_comm, Nat.mul_add_mod, Nat.mod_eq_of_lt hk]
theorem rc_nth {α : Type} [Inhabited α] {n m : Nat} (f : Nat → Nat → α) {i k : Nat} (hi : i < n) (hk : k < m) : nth (rc n m f) (i * m + k) = f i k := by
  rw [rc, nth_map_range _ _ _ (rc_lt hi hk)]
  simp only [rc_div hk, rc_mod hk]
theorem rc_of {n m p : Nat} (hp : p < n * m) : p / m < n ∧ p % m < m ∧ p / m * m + p % m = p := by
  have hm : 0 < m := by
    rcases Nat.eq_zero_or_pos m with h | h
    · subst h; simp at hp
    · exact h
  exact ⟨(Nat.div_lt_iff_lt_mul hm).2 hp, Nat.mod_lt _ hm, by rw [Nat.mul_comm]; exact Nat.div_add_mod p m⟩
theorem rc_ext {α : Type} [Inhabited α] {n m : Nat} {f : Nat → Nat → α} {xs : List α} (hl : xs.length = n * m) (h : ∀ i k, i < n → k < m → nth xs (i * m + k) = f i k) : xs = rc n m f := by
  refine ext_nth (by rw [hl, rc_length]) fun p hp => ?_
  rw [hl] at hp
  obtain ⟨h1, h2, h3⟩ := rc_of hp
  rw [← h3, h _ _ h1 h2, rc_nth f h1 h2]
theorem rc_congr {α : Type} {n m : Nat} {f g : Nat → Nat → α} (h : ∀ i k, i < n → k < m → f i k = g i k) : rc n m f = rc n m g := by
  unfold rc
  refine List.map_congr_left fun p hp => ?_
  obtain ⟨h1, h2, _⟩ := rc_of (List.mem_range.1 hp)
  exact h _ _ h1 h2
theorem le144 {n m : Nat} (hn : n ≤ 12) (hm : m ≤ 12) : n * m ≤ 144 := Nat.mul_le_mul hn hm
theorem mulw {n m : Nat} (hn : n ≤ 12) (hm : m ≤ 12) : IntKind.i64.wrap ((n : Int) * (m : Int)) = ((n * m : Nat) : Int) := by
  have h := le144 hn hm
  have : ((n : Int) * m) = ((n * m : Nat) : Int) := by simp
  rw [this, w64 (by omega) (by omega)]
theorem atw {n m i k : Nat} (hi : i < n) (hk : k < m) (hn : n ≤ 12) (hm : m ≤ 12) : IntKind.i64.wrap ((IntKind.i64.wrap ((i : Int) * (m : Int))) + (k : Int)) = ((i * m + k : Nat) : Int) := by
  have h := le144 hn hm
  have h2 := rc_lt hi hk
  rw [mulw (by omega) hm, w64 (by omega) (by omega)]; omega
theorem w1 {k : Nat} (h : k ≤ 1000) : IntKind.i64.wrap ((k : Int) + 1) = ((k + 1 : Nat) : Int) := w_succ (by omega)
theorem nth_sub {xs : List Nat} {a b j : Nat} (h : a + j < b) (hb : b ≤ xs.length) : nth (AM.sub xs (a : Int) (b : Int)) j = nth xs (a + j) := by
  have h1 : j < (AM.sub xs (a : Int) (b : Int)).length := by
    rw [sub_length (sok_iff.2 ⟨by omega, by omega, by omega⟩)]; omega
  rw [nth_of _ _ h1, nth_of _ _ (show a + j < xs.length by omega)]
  simp [AM.sub]
/-- A valid matrix. -/
def vm (r c : Int) (xs : List Nat) : Bool := decide (1 ≤ r) && decide (r ≤ 12) && (decide (1 ≤ c) && decide (c ≤ 12)) && decide ((xs.length : Int) = IntKind.i64.wrap (r * c)) && xs.all sfin
theorem vm_nat {n m : Nat} {xs : List Nat} (h1 : 1 ≤ n) (h2 : n ≤ 12) (h3 : 1 ≤ m) (h4 : m ≤ 12) (h5 : xs.length = n * m) : vm n m xs = xs.all sfin := by
  have c1 : decide ((1 : Int) ≤ (n : Int)) = true := by simp; omega
  have c2 : decide ((n : Int) ≤ 12) = true := by simp; omega
  have c3 : decide ((1 : Int) ≤ (m : Int)) = true := by simp; omega
  have c4 : decide ((m : Int) ≤ 12) = true := by simp; omega
  have c5 : decide ((xs.length : Int) = ((n * m : Nat) : Int)) = true := by rw [h5]; simp
  simp only [vm, c1, c2, c3, c4, mulw h2 h4, c5, Bool.true_and]
theorem vmI (r c : Int) (xs : List Nat) (hx : xs.length ≤ maxN) : impl_ValidMatrix_g r c xs = some (vm r c xs) := by
  simp only [impl_ValidMatrix_g, impl_ValidMatrix_T, Tree.run, impl_isSide_v, inR, impl_lengthF_v, areFin xs hx, Option.bind_some, vm]
  generalize xs.all sfin = z
  by_cases a1 : (1 : Int) ≤ r <;> by_cases a2 : r ≤ (12 : Int) <;> by_cases a3 : (1 : Int) ≤ c <;> by_cases a4 : c ≤ (12 : Int) <;> by_cases a5 : (xs.length : Int) = IntKind.i64.wrap (r * c) <;> simp [a1, a2, a3, a4, a5]
/-- A list made by appending. -/
theorem app_gen {T : Int × List Nat → Option ((Int × List Nat) ⊕ List Nat)} {n : Nat} {f : Nat → Nat} (h : ∀ (i : Nat) (s : List Nat), i < n → s.length = i → T ((i : Int), s) = some (.inl (((i + 1 : Nat) : Int), s ++ [f i])))
    (he : ∀ s : List Nat, T ((n : Int), s) = some (.inr s)) : whileM T ((0 : Int), []) = some ((List.range n).map f) := by
  refine whileM_fix (T := T) (n := n) (r := (List.range n).map f) (fun i => ((i : Int), (List.range i).map f)) ?_ (he _)
  intro i hi
  rw [h i _ hi (by simp), List.range_succ, List.map_append]; rfl
/-- A matrix made number by number. -/
theorem made_gen {T0 : Int × List Nat → Option ((Int × List Nat) ⊕ List Nat)} {T2 : Int → Int × List Nat → Option ((Int × List Nat) ⊕ List Nat)} {n m : Nat} {f : Nat → Nat → Nat}
    (h2 : ∀ (i k : Nat) (s : List Nat), i < n → k < m → s.length = n * m → T2 i ((k : Int), s) = some (.inl (((k + 1 : Nat) : Int), s.set (i * m + k) (f i k))))
    (h2e : ∀ (i : Nat) (s : List Nat), i < n → T2 i ((m : Int), s) = some (.inr s))
    (h0 : ∀ (i : Nat) (s s' : List Nat), i < n → whileM (T2 i) ((0 : Int), s) = some s' → T0 ((i : Int), s) = some (.inl (((i + 1 : Nat) : Int), s')))
    (h0e : ∀ s : List Nat, T0 ((n : Int), s) = some (.inr s)) : whileM T0 ((0 : Int), List.replicate (n * m) 0) = some (rc n m f) := by
  have row : ∀ i, i < n → whileM (T2 i) ((0 : Int), fill 0 (rc n m f) (i * m)) = some (fill 0 (rc n m f) ((i + 1) * m)) := by
    intro i hi
    refine Eq.trans ?_ (whileM_fix (T := T2 i) (n := m) (r := fill 0 (rc n m f) ((i + 1) * m)) (fun k => ((k : Int), fill 0 (rc n m f) (i * m + k))) ?_ ?_)
    · simp
    · intro k hk
      have hp := rc_lt hi hk
      show T2 i ((k : Int), fill 0 (rc n m f) (i * m + k)) = some (.inl (((k + 1 : Nat) : Int), fill 0 (rc n m f) (i * m + (k + 1))))
      rw [h2 i k _ hi hk (by simp)]
      have := fill_set 0 (rc n m f) (i * m + k) (by simpa using hp)
      rw [rc_nth f hi hk] at this
      rw [this]; rfl
    · show T2 i ((m : Int), fill 0 (rc n m f) (i * m + m)) = _
      rw [h2e i _ hi]
      rw [show (i + 1) * m = i * m + m by rw [Nat.add_mul, Nat.one_mul]]
  have := whileM_fix (T := T0) (n := n) (r := rc n m f) (fun i => ((i : Int), fill 0 (rc n m f) (i * m))) (fun i hi => h0 i _ _ hi (row i hi)) (by
    have := fill_full (0 : Nat) (rc n m f)
    rw [rc_length] at this
    show T0 ((n : Int), fill 0 (rc n m f) (n * m)) = _
    rw [this]; exact h0e _)
  rw [← this]
  simp [fill_zero]
theorem newR {n m : Nat} (hn : n ≤ 12) (hm : m ≤ 12) : impl_newMatrix_g n m = some ((n : Int), (m : Int)) := by
  have hb := le144 hn hm
  have : inb ((n * m : Nat) : Int) (maxN + 1) = true := by rw [inb_nat]; unfold maxN; simp; omega
  simp only [impl_newMatrix_g, impl_newMatrix_T, Tree.run, if_true, mulw hn hm, this]
theorem setR {n m i k : Nat} {s : List Nat} (hi : i < n) (hk : k < m) (hn : n ≤ 12) (hm : m ≤ 12) (hs : s.length = n * m) : impl_Matrix_set_g m s (i : Int) (k : Int) = some () := by
  have h1 : i * m + k < s.length := by rw [hs]; exact rc_lt hi hk
  simp only [impl_Matrix_set_g, impl_Matrix_set_T, Tree.run, atw hi hk hn hm, inb_nat, h1, decide_true, if_true]
theorem atI {n m i k : Nat} {M : List Nat} (hi : i < n) (hk : k < m) (hn : n ≤ 12) (hm : m ≤ 12) (hM : M.length = n * m) : impl_Matrix_at_g m M (i : Int) (k : Int) = some (nth M (i * m + k)) := by
  have h1 : i * m + k < M.length := by rw [hM]; exact rc_lt hi hk
  simp only [impl_Matrix_at_g, impl_Matrix_at_T, Tree.run, atw hi hk hn hm, inb_nat, h1, decide_true, if_true, Int.toNat_natCast]
/-- A column. -/
def colL (n m : Nat) (M : List Nat) (k : Nat) : List Nat := (List.range n).map fun i => nth M (i * m + k)
@[simp] theorem colL_length (n m : Nat) (M : List Nat) (k : Nat) : (colL n m M k).length = n := by simp [colL]
/-- A row. -/
def rowL (m : Nat) (M : List Nat) (i : Nat) : List Nat := AM.sub M ((i * m : Nat) : Int) (((i + 1) * m : Nat) : Int)
theorem rowI {n m i : Nat} {M : List Nat} (hi : i < n) (h1 : 1 ≤ m) (hn : n ≤ 12) (hm : m ≤ 12) (hM : M.length = n * m) : impl_Matrix_row_g m M (i : Int) = some () ∧ IntKind.i64.wrap ((i : Int) * (m : Int)) = ((i * m : Nat) : Int) ∧ IntKind.i64.wrap ((IntKind.i64.wrap ((i : Int) + 1)) * (m : Int)) = (((i + 1) * m : Nat) : Int) := by
  have hb : n * m ≤ maxN := by have := le144 hn hm; unfold maxN; omega
  obtain ⟨k1, k2, k3, k4⟩ := row_wrap (m := m) hi hb
  have hl := row_length hi hb hM
  have q1 : decide (0 < (AM.sub M ((i * m : Nat) : Int) (((i + 1) * m : Nat) : Int)).length) = true := by rw [hl]; simp; omega
  have q2 : fits (AM.sub M ((i * m : Nat) : Int) (((i + 1) * m : Nat) : Int)).length = true := fits_iff.2 (by rw [hl]; unfold maxN; omega)
  have hc : slices_CloneF_g (AM.sub M ((i * m : Nat) : Int) (((i + 1) * m : Nat) : Int)) = some () := by
    simp only [slices_CloneF_g, slices_CloneF_T, Tree.run, List.nil_append, q1, q2, if_true]
  refine ⟨?_, k1, k2⟩
  simp only [impl_Matrix_row_g, impl_Matrix_row_T, Tree.run, k1, k2, row_sok hi hb hM, hc, Option.bind_some, if_true]
theorem rowL_length {n m i : Nat} {M : List Nat} (hi : i < n) (hn : n ≤ 12) (hm : m ≤ 12) (hM : M.length = n * m) : (rowL m M i).length = m :=
  row_length hi (by have := le144 hn hm; unfold maxN; omega) hM
theorem rowL_nth {n m i j : Nat} {M : List Nat} (hi : i < n) (hj : j < m) (hM : M.length = n * m) : nth (rowL m M i) j = nth M (i * m + j) := by
  have h2 : (i + 1) * m = i * m + m := by rw [Nat.add_mul, Nat.one_mul]
  have h3 := Nat.mul_le_mul_right m (show i + 1 ≤ n from hi)
  exact nth_sub (by omega) (by omega)

/-- The product. -/
noncomputable def mulL (n m q : Nat) (A B : List Nat) : List Nat := rc n q fun i k => dotN (fun j => fmul .f32 (nth A (i * m + j)) (nth B (j * q + k))) m
@[simp] theorem mulL_length (n m q : Nat) (A B : List Nat) : (mulL n m q A B).length = n * q := by simp [mulL]
/-- Small: a number of quarters that is drawn. -/
def Sm (q : Int) : Prop := -16 ≤ q ∧ q ≤ 16
theorem nsides_loop {code : List Int} (hb : Byt code) (hl : code.length ≤ 1048576) : ∀ (d : Nat) (a s : Int) (Q : List Int), 0 ≤ a → a + d ≤ 10000000000 → Q.length + d ≤ 1000 → (∀ q ∈ Q, Sm q) →
    ∃ (a' s' : Int) (R : List Int), spec_l02DrawSides_l0_g code ((d : Int), a, s, Q.map (W4 · (-2))) = some (a', s', R.map (W4 · (-2))) ∧ R.length = Q.length + d ∧ ∀ q ∈ R, Sm q
  | 0, a, s, Q, h0, h1, h2, h3 => ⟨a, s, Q, by
      refine sl_inr (T := fun st => (spec_l02DrawSides_l0_T code st).run) ?_
      have : ¬ ((0 : Int) < ((0 : Nat) : Int)) := by omega
      simp only [spec_l02DrawSides_l0_T, Tree.run, this, decide_false, Bool.false_eq_true, if_false], rfl, h3⟩
  | d + 1, a, s, Q, h0, h1, h2, h3 => by
    obtain ⟨b, a1, s1, k1, k2, k3, k4, k5⟩ := pick_ok hb hl a s 33 h0 (by omega) (by omega) (by omega)
    have w1 : IntKind.i64.wrap (b - 16) = b - 16 := w64 (by omega) (by omega)
    have w2 : IntKind.i64.wrap (((d + 1 : Nat) : Int) - 1) = (d : Int) := by rw [w64 (by omega) (by omega)]; omega
    have hp : (0 : Int) < ((d + 1 : Nat) : Int) := by omega
    have hq := qtr_w k2 k3
    have hm : Q.map (W4 · (-2)) ++ [W4 (b - 16) (-2)] = (Q ++ [b - 16]).map (W4 · (-2)) := by simp
    have hf : fits ((Q ++ [b - 16]).map (W4 · (-2))).length = true := fits_iff.2 (by rw [List.length_map, List.length_append]; simp [maxN]; omega)
    obtain ⟨a', s', R, g1, g2, g3⟩ := nsides_loop hb hl d a1 s1 (Q ++ [b - 16]) (by omega) (by omega) (by rw [List.length_append]; simp; omega) (fun x hx => by
      rcases List.mem_append.1 hx with h | h
      · exact h3 x h
      · rw [List.mem_singleton.1 h]; exact ⟨by omega, by omega⟩)
    refine ⟨a', s', R, ?_, by rw [g2, List.length_append]; simp; omega, g3⟩
    refine sl_inl (T := fun st => (spec_l02DrawSides_l0_T code st).run) ?_ g1
    simp only [spec_l02DrawSides_l0_T, Tree.run, hp, decide_true, if_true, k1, Option.bind_some, w1, w2, hq, hm, hf]
theorem nvec_loop {code : List Int} (hb : Byt code) (hl : code.length ≤ 1048576) : ∀ (d : Nat) (a s : Int) (Q : List Int), 0 ≤ a → a + d ≤ 10000000000 → Q.length + d ≤ 1000 → (∀ q ∈ Q, Sm q) →
    ∃ (a' s' : Int) (R : List Int), spec_l08DrawVector_l0_g code ((d : Int), a, s, Q.map (W4 · (-2))) = some (a', s', R.map (W4 · (-2))) ∧ R.length = Q.length + d ∧ ∀ q ∈ R, Sm q := by
  intro d a s Q h0 h1 h2 h3
  have e : spec_l08DrawVector_l0_g code ((d : Int), a, s, Q.map (W4 · (-2))) = spec_l02DrawSides_l0_g code ((d : Int), a, s, Q.map (W4 · (-2))) := rfl
  rw [e]
  exact nsides_loop hb hl d a s Q h0 h1 h2 h3
theorem mat_ok {code : List Int} (hb : Byt code) (hl : code.length ≤ 1048576) : ∃ (n m : Nat) (q : Nat → Nat → Int), 1 ≤ n ∧ n ≤ 5 ∧ 1 ≤ m ∧ m ≤ 5 ∧ (∀ i k, Sm (q i k)) ∧
    spec_R8Matrix_g code = some ((n : Int), (m : Int), rc n m fun i k => W4 (q i k) (-2)) := by
  obtain ⟨b0, a0, s0, k1, k2, k3, k4, k5⟩ := pick_ok hb hl 0 0 5 (by omega) (by omega) (by omega) (by omega)
  obtain ⟨b1, a1, s1, l1, l2, l3, l4, l5⟩ := pick_ok hb hl a0 s0 5 (by omega) (by omega) (by omega) (by omega)
  obtain ⟨n, hn⟩ : ∃ n : Nat, 1 + b0 = (n : Int) := ⟨(1 + b0).toNat, by omega⟩
  obtain ⟨m, hm⟩ : ∃ m : Nat, 1 + b1 = (m : Int) := ⟨(1 + b1).toNat, by omega⟩
  have w0 : IntKind.i64.wrap (1 + b0) = (n : Int) := by rw [w64 (by omega) (by omega), hn]
  have w1 : IntKind.i64.wrap (1 + b1) = (m : Int) := by rw [w64 (by omega) (by omega), hm]
  have hnm : n * m ≤ 5 * 5 := Nat.mul_le_mul (by omega) (by omega)
  have w2 : IntKind.i64.wrap ((n : Int) * (m : Int)) = ((n * m : Nat) : Int) := by rw [← Int.natCast_mul, w64 (by omega) (by omega)]
  obtain ⟨a2, s2, R, g1, g2, g3⟩ := nsides_loop hb hl (n * m) a1 s1 [] (by omega) (by omega) (by simp; omega) (by simp)
  have g1 : spec_l02DrawSides_l0_g code (((n * m : Nat) : Int), a1, s1, ([] : List Nat)) = some (a2, s2, R.map (W4 · (-2))) := g1
  simp only [List.length_nil, Nat.zero_add] at g2
  refine ⟨n, m, fun i k => if i * m + k < R.length then nth R (i * m + k) else 0, by omega, by omega, by omega, by omega, fun i k => ?_, ?_⟩
  · show Sm (if i * m + k < R.length then nth R (i * m + k) else 0)
    split
    · rename_i h; rw [nth_of _ _ h]; exact g3 _ (List.getElem_mem h)
    · exact ⟨by omega, by omega⟩
  · have hr : R.map (W4 · (-2)) = rc n m fun i k => W4 (if i * m + k < R.length then nth R (i * m + k) else 0) (-2) := rc_ext (by rw [List.length_map, g2]) fun i k hi hk => by
      have hlt : i * m + k < R.length := by rw [g2]; exact rc_lt hi hk
      rw [if_pos hlt, nth_of _ _ (by rw [List.length_map]; exact hlt), nth_of _ _ hlt, List.getElem_map]
    rw [← hr]
    simp only [spec_R8Matrix_g, spec_R8Matrix_T, spec_l02DrawOk_g, spec_l02DrawOk_T, spec_l02DrawSides_g, spec_l02DrawSides_T, Tree.run, k1, l1, w0, w1, w2, g1, Option.bind_some, if_true, spec_l02Blank_v]
theorem vec_ok {code : List Int} (hb : Byt code) (hl : code.length ≤ 1048576) (m : Nat) (hm : m ≤ 12) : ∃ v : Nat → Int, (∀ k, Sm (v k)) ∧ spec_R8Vector_g code (m : Int) = some ((List.range m).map fun k => W4 (v k) (-2)) := by
  obtain ⟨a2, s2, R, g1, g2, g3⟩ := nvec_loop hb hl m 0 0 [] (by omega) (by omega) (by simp; omega) (by simp)
  have g1 : spec_l08DrawVector_l0_g code ((m : Int), (0 : Int), (0 : Int), ([] : List Nat)) = some (a2, s2, R.map (W4 · (-2))) := g1
  simp only [List.length_nil, Nat.zero_add] at g2
  refine ⟨fun k => if k < R.length then nth R k else 0, fun k => ?_, ?_⟩
  · show Sm (if k < R.length then nth R k else 0)
    split
    · rename_i h; rw [nth_of _ _ h]; exact g3 _ (List.getElem_mem h)
    · exact ⟨by omega, by omega⟩
  · have hr : R.map (W4 · (-2)) = (List.range m).map fun k => W4 (if k < R.length then nth R k else 0) (-2) := by
      refine List.ext_getElem (by simp [g2]) fun i h1 h2 => ?_
      have hlt : i < R.length := by simpa using h1
      simp only [List.getElem_map, List.getElem_range, if_pos hlt, nth_of _ _ hlt]
    rw [← hr]
    simp only [spec_R8Vector_g, spec_R8Vector_T, spec_l08DrawVector_g, spec_l08DrawVector_T, Tree.run, g1, Option.bind_some, if_true]
/-- A matrix of quarters. -/
def qM (n m : Nat) (q : Nat → Nat → Int) : List Nat := rc n m fun i k => W4 (q i k) (-2)
theorem qM_len (n m : Nat) (q : Nat → Nat → Int) : (qM n m q).length = n * m := rc_length _ _ _
theorem qM_nth {n m i k : Nat} (q : Nat → Nat → Int) (hi : i < n) (hk : k < m) : nth (qM n m q) (i * m + k) = W4 (q i k) (-2) := rc_nth _ hi hk
/-- The sizes of a row's first numbers. -/
def aS (q : Nat → Nat → Int) (i : Nat) : Nat → Nat
  | 0 => 0
  | k + 1 => aS q i k + (q i k).natAbs
theorem aS_le {q : Nat → Nat → Int} (hq : ∀ i k, Sm (q i k)) (i : Nat) : ∀ k, aS q i k ≤ 16 * k
  | 0 => Nat.le_refl _
  | k + 1 => by
    have := aS_le hq i k
    obtain ⟨h1, h2⟩ := hq i k
    simp only [aS]; omega
/-- The greatest sum of the first rows. -/
def mS (q : Nat → Nat → Int) (m : Nat) : Nat → Nat
  | 0 => 0
  | i + 1 => if mS q m i < aS q i m then aS q i m else mS q m i
theorem mS_le {q : Nat → Nat → Int} (hq : ∀ i k, Sm (q i k)) (m : Nat) : ∀ i, mS q m i ≤ 16 * m
  | 0 => Nat.zero_le _
  | i + 1 => by
    have := mS_le hq m i
    have := aS_le hq i m
    simp only [mS]; split <;> assumption
theorem mS_ge (q : Nat → Nat → Int) (m : Nat) : ∀ (n i : Nat), i < n → aS q i m ≤ mS q m n
  | 0, i, h => by omega
  | n + 1, i, h => by
    simp only [mS]
    by_cases e : i = n
    · subst e; split <;> omega
    · have := mS_ge q m n i (by omega)
      split <;> omega
theorem nabs_run {q : Int} (h : Sm q) : impl_absolute_g (W4 q (-2)) = some (W4 (q.natAbs : Int) (-2)) := by
  obtain ⟨h1, h2⟩ := h
  simp only [impl_absolute_g, impl_absolute_T, Tree.run, abs4 (show q.natAbs < 16777216 by omega) (show (-149 : Int) ≤ -2 by omega) (by omega), Option.bind_some]
theorem nrow_run {n m : Nat} {q : Nat → Nat → Int} (hq : ∀ i k, Sm (q i k)) (hn : n ≤ 12) (hm : m ≤ 12) {i : Nat} (hi : i < n) (w : Nat) : impl_Matrix_rowNorm_l2_g m (qM n m q) w (i : Int) ((0 : Nat), (0 : Int)) = some (W4 (aS q i m : Nat) (-2)) := by
  have := whileM_fix (T := fun s => (impl_Matrix_rowNorm_l2_T m (qM n m q) w (i : Int) s).run) (n := m) (r := W4 (aS q i m : Nat) (-2)) (fun k => (W4 (aS q i k : Nat) (-2), ((k : Nat) : Int)))
    (fun k hk => by
      have ha := atI (M := qM n m q) hi hk hn hm (qM_len _ _ _)
      rw [qM_nth q hi hk] at ha
      have hb := aS_le hq i k
      obtain ⟨g1, g2⟩ := hq i k
      have hadd := add4 (W4_isp (z := (aS q i k : Nat)) (p := -2) (by omega) (by omega) (by omega)) (W4_isp (z := ((q i k).natAbs : Nat)) (p := -2) (by omega) (by omega) (by omega)).is (by omega) (by omega) (by omega)
      have e : ((aS q i k : Nat) : Int) + (((q i k).natAbs : Nat) : Int) = ((aS q i (k + 1) : Nat) : Int) := by simp only [aS]; omega
      rw [e] at hadd
      have hlt : decide (((k : Nat) : Int) < ((m : Nat) : Int)) = true := decide_eq_true (by omega)
      simp only [impl_Matrix_rowNorm_l2_T, Tree.run, hlt, if_true, ha, nabs_run (hq i k), Option.bind_some, hadd, w_succ (show k < 4611686018427387904 by omega)])
    (by
      have hlt : decide (((m : Nat) : Int) < ((m : Nat) : Int)) = false := decide_eq_false (by omega)
      simp only [impl_Matrix_rowNorm_l2_T, Tree.run, hlt, Bool.false_eq_true, if_false])
  have e0 : W4 ((aS q i 0 : Nat) : Int) (-2) = 0 := W4_zero _
  rw [e0] at this
  exact this
theorem nnorm_run {n m : Nat} {q : Nat → Nat → Int} (hq : ∀ i k, Sm (q i k)) (hn : n ≤ 12) (hm : m ≤ 12) : impl_Matrix_rowNorm_g n m (qM n m q) = some (W4 (mS q m n : Nat) (-2)) := by
  have := whileM_fix (T := fun s => (impl_Matrix_rowNorm_l0_T n m (qM n m q) s).run) (n := n) (r := W4 (mS q m n : Nat) (-2)) (fun i => (W4 (mS q m i : Nat) (-2), ((i : Nat) : Int)))
    (fun i hi => by
      have hr := nrow_run hq hn hm hi (W4 (mS q m i : Nat) (-2))
      have hb := mS_le hq m i
      have hb2 := aS_le hq i m
      have hmx := max4 (a := (mS q m i : Nat)) (b := (aS q i m : Nat)) (p := -2) (by omega) (by omega) (by omega) (by omega)
      have e : (if ((mS q m i : Nat) : Int) < ((aS q i m : Nat) : Int) then ((aS q i m : Nat) : Int) else ((mS q m i : Nat) : Int)) = ((mS q m (i + 1) : Nat) : Int) := by
        simp only [mS]
        by_cases c : mS q m i < aS q i m
        · rw [if_pos c, if_pos (by omega)]
        · rw [if_neg c, if_neg (by omega)]
      rw [e] at hmx
      have hlt : decide (((i : Nat) : Int) < ((n : Nat) : Int)) = true := decide_eq_true (by omega)
      simp only [impl_Matrix_rowNorm_l0_T, Tree.run, hlt, if_true, hr, Option.bind_some, hmx, w_succ (show i < 4611686018427387904 by omega)])
    (by
      have hlt : decide (((n : Nat) : Int) < ((n : Nat) : Int)) = false := decide_eq_false (by omega)
      simp only [impl_Matrix_rowNorm_l0_T, Tree.run, hlt, Bool.false_eq_true, if_false])
  have e0 : W4 ((mS q m 0 : Nat) : Int) (-2) = 0 := W4_zero _
  rw [e0] at this
  have this : impl_Matrix_rowNorm_l0_g n m (qM n m q) ((0 : Nat), (0 : Int)) = some (W4 (mS q m n : Nat) (-2)) := this
  simp only [impl_Matrix_rowNorm_g, impl_Matrix_rowNorm_T, Tree.run, if_true, this, Option.bind_some]
def flipL (n m : Nat) (q : List Nat) : List Nat := rc m n fun i k => nth q (k * m + i)
theorem flipI {n m : Nat} {q : List Nat} (hn : n ≤ 12) (hm : m ≤ 12) (hq : q.length = n * m) : impl_Matrix_flip_g n m q = some ((m : Int), (n : Int), flipL n m q) := by
  have : impl_made_l0_g m n n m q m n ((0 : Int), List.replicate (m * n) 0) = some (flipL n m q) := by
    refine made_gen (T0 := fun s => (impl_made_l0_T m n n m q m n s).run) (T2 := fun i s => (impl_made_l2_T n m q i m n s).run) (n := m) (m := n) ?_ ?_ ?_ ?_
    · intro i k s hi hk hs
      have hc : impl_Matrix_flip_1_g (i : Int) (k : Int) m q = some (nth q (k * m + i)) := by
        simp only [impl_Matrix_flip_1_g, impl_Matrix_flip_1_T, Tree.run, atI hk hi hn hm hq, Option.bind_some]
      simp only [impl_made_l2_T, Tree.run, lt_nat, hk, decide_true, if_true, hc, setR hi hk hm hn hs, Option.bind_some, atw hi hk hm hn, Int.toNat_natCast, List.length_set, w1 (show k ≤ 1000 by omega)]
    · intro i s hi; simp [impl_made_l2_T, Tree.run]
    · intro i s s' hi h
      have h' : impl_made_l2_g n m q i m n ((0 : Int), s) = some s' := h
      simp only [impl_made_l0_T, Tree.run, lt_nat, hi, decide_true, if_true, h', Option.bind_some, w1 (show i ≤ 1000 by omega)]
    · intro s; simp [impl_made_l0_T, Tree.run]
  simp only [impl_Matrix_flip_g, impl_Matrix_flip_T, impl_made_g, impl_made_T, Tree.run, newR hm hn, mulw hm hn, Int.toNat_natCast, this, Option.bind_some, if_true]
theorem flip_q (n m : Nat) (q : Nat → Nat → Int) : flipL n m (qM n m q) = qM m n fun i k => q k i := by
  unfold flipL
  exact rc_congr fun i k hi hk => qM_nth q hk hi
theorem fin_run {z p : Int} (hz : z.natAbs < 16777216) (h0 : -149 ≤ p) (h1 : p ≤ 100) : impl_finite_v (W4 z p) = .inr (W4 z p) := by
  unfold impl_finite_v
  rw [finI, W4_fin hz h0 h1]
  rfl
theorem qM_fin {n m : Nat} {q : Nat → Nat → Int} (hq : ∀ i k, Sm (q i k)) : (qM n m q).all sfin = true := by
  rw [List.all_eq_true]
  intro x hx
  unfold qM rc at hx
  rw [List.mem_map] at hx
  obtain ⟨p, _, rfl⟩ := hx
  obtain ⟨h1, h2⟩ := hq (p / m) (p % m)
  exact W4_fin (by omega) (by omega) (by omega)
theorem qM_ok {n m : Nat} {q : Nat → Nat → Int} (hq : ∀ i k, Sm (q i k)) (n1 : 1 ≤ n) (n5 : n ≤ 5) (m1 : 1 ≤ m) (m5 : m ≤ 5) : impl_ValidMatrix_g n m (qM n m q) = some true := by
  have hnm : n * m ≤ 5 * 5 := Nat.mul_le_mul n5 m5
  rw [vmI _ _ _ (by rw [qM_len]; unfold maxN; omega), vm_nat n1 (by omega) m1 (by omega) (qM_len _ _ _), qM_fin hq]
theorem rowN_run {n m : Nat} {q : Nat → Nat → Int} (hq : ∀ i k, Sm (q i k)) (n1 : 1 ≤ n) (n5 : n ≤ 5) (m1 : 1 ≤ m) (m5 : m ≤ 5) : impl_RowNorm_g n m (qM n m q) = some (.inr (W4 (mS q m n : Nat) (-2))) := by
  have hb := mS_le hq m n
  have hf := fin_run (z := (mS q m n : Nat)) (p := -2) (by omega) (by omega) (by omega)
  simp only [impl_RowNorm_g, impl_RowNorm_T, Tree.run, qM_ok hq n1 n5 m1 m5, nnorm_run hq (show n ≤ 12 by omega) (show m ≤ 12 by omega), Option.bind_some, Bool.not_true, Bool.false_eq_true, if_false, hf]
theorem flip_run {n m : Nat} {q : Nat → Nat → Int} (hq : ∀ i k, Sm (q i k)) (n1 : 1 ≤ n) (n5 : n ≤ 5) (m1 : 1 ≤ m) (m5 : m ≤ 5) : impl_FlipMatrix_g n m (qM n m q) = some (.inr ((m : Int), (n : Int), qM m n fun i k => q k i)) := by
  have hf := flipI (n := n) (m := m) (q := qM n m q) (by omega) (by omega) (qM_len _ _ _)
  rw [flip_q] at hf
  simp only [impl_FlipMatrix_g, impl_FlipMatrix_T, Tree.run, qM_ok hq n1 n5 m1 m5, hf, Option.bind_some, Bool.not_true, Bool.false_eq_true, if_false]
theorem colN_run {n m : Nat} {q : Nat → Nat → Int} (hq : ∀ i k, Sm (q i k)) (n1 : 1 ≤ n) (n5 : n ≤ 5) (m1 : 1 ≤ m) (m5 : m ≤ 5) : impl_ColumnNorm_g n m (qM n m q) = some (.inr (W4 (mS (fun i k => q k i) n m : Nat) (-2))) := by
  have hf := flipI (n := n) (m := m) (q := qM n m q) (by omega) (by omega) (qM_len _ _ _)
  rw [flip_q] at hf
  have hq' : ∀ i k, Sm ((fun i k => q k i) i k) := fun i k => hq k i
  have hb := mS_le hq' n m
  have hg := fin_run (z := (mS (fun i k => q k i) n m : Nat)) (p := -2) (by omega) (by omega) (by omega)
  simp only [impl_ColumnNorm_g, impl_ColumnNorm_T, Tree.run, qM_ok hq n1 n5 m1 m5, hf, nnorm_run hq' (show m ≤ 12 by omega) (show n ≤ 12 by omega), Option.bind_some, Bool.not_true, Bool.false_eq_true, if_false, hg]
/-- The sum of the first products. -/
def dS (a b : Nat → Int) : Nat → Int
  | 0 => 0
  | k + 1 => dS a b k + a k * b k
theorem prod_bd {x y : Int} (hx : Sm x) (hy : Sm y) : -256 ≤ x * y ∧ x * y ≤ 256 := by
  obtain ⟨a1, a2⟩ := hx
  obtain ⟨b1, b2⟩ := hy
  have h : (x * y).natAbs ≤ 16 * 16 := by rw [Int.natAbs_mul]; exact Nat.mul_le_mul (by omega) (by omega)
  omega
theorem dS_bd {a b : Nat → Int} (ha : ∀ k, Sm (a k)) (hb : ∀ k, Sm (b k)) : ∀ k : Nat, -(256 * (k : Int)) ≤ dS a b k ∧ dS a b k ≤ 256 * (k : Int)
  | 0 => by simp [dS]
  | k + 1 => by
    have := dS_bd ha hb k
    have := prod_bd (ha k) (hb k)
    simp only [dS]; omega
theorem dot_run {m : Nat} {a b : Nat → Int} (ha : ∀ k, Sm (a k)) (hb : ∀ k, Sm (b k)) (hm : m ≤ 144) {xs ys : List Nat} (lx : xs.length = m) (ly : ys.length = m) (hx : ∀ k, k < m → nth xs k = W4 (a k) (-2)) (hy : ∀ k, k < m → nth ys k = W4 (b k) (-2)) :
    impl_dot_g xs ys = some (W4 (dS a b m) (-4)) := by
  have := whileM_fix (T := fun s => (impl_dot_l0_T xs ys s).run) (n := m) (r := W4 (dS a b m) (-4)) (fun k => (W4 (dS a b k) (-4), ((k : Nat) : Int)))
    (fun k hk => by
      have d := dS_bd ha hb k
      have p := prod_bd (ha k) (hb k)
      obtain ⟨a1, a2⟩ := ha k
      obtain ⟨b1, b2⟩ := hb k
      have hmul := mul4 (x := W4 (a k) (-2)) (y := W4 (b k) (-2)) (W4_isp (by omega) (by omega) (by omega)).is (W4_isp (by omega) (by omega) (by omega)).is (by omega) (by omega) (by omega)
      have hadd := add4 (W4_isp (z := dS a b k) (p := -4) (by omega) (by omega) (by omega)) hmul (by omega) (by omega) (by omega)
      have hlt : decide (((k : Nat) : Int) < ((m : Nat) : Int)) = true := decide_eq_true (by omega)
      simp only [impl_dot_l0_T, Tree.run, lx, ly, hlt, if_true, inb_nat, hk, decide_true, Int.toNat_natCast, hx k hk, hy k hk, impl_mul_v, w_succ (show k < 4611686018427387904 by omega)]
      rw [show fadd .f32 (W4 (dS a b k) (-4)) (fmul .f32 (W4 (a k) (-2)) (W4 (b k) (-2))) = W4 (dS a b (k + 1)) (-4) from hadd])
    (by
      have hlt : decide (((m : Nat) : Int) < ((m : Nat) : Int)) = false := decide_eq_false (by omega)
      simp only [impl_dot_l0_T, Tree.run, lx, hlt, Bool.false_eq_true, if_false])
  have e0 : W4 (dS a b 0) (-4) = 0 := W4_zero _
  rw [e0] at this
  have this : impl_dot_l0_g xs ys ((0 : Nat), (0 : Int)) = some (W4 (dS a b m) (-4)) := this
  simp only [impl_dot_g, impl_dot_T, Tree.run, if_true, this, Option.bind_some]
/-- A vector of quarters. -/
def qV (m : Nat) (v : Nat → Int) : List Nat := (List.range m).map fun k => W4 (v k) (-2)
theorem qV_len (m : Nat) (v : Nat → Int) : (qV m v).length = m := by simp [qV]
theorem qV_nth {m k : Nat} (v : Nat → Int) (h : k < m) : nth (qV m v) k = W4 (v k) (-2) := by
  rw [nth_of _ _ (by rw [qV_len]; exact h)]; simp [qV]
theorem times_loop {n m : Nat} {q : Nat → Nat → Int} {v : Nat → Int} (hq : ∀ i k, Sm (q i k)) (hv : ∀ k, Sm (v k)) (n5 : n ≤ 5) (m1 : 1 ≤ m) (m5 : m ≤ 5) :
    impl_Matrix_timesVector_l0_g n m (qM n m q) (qV m v) ((0 : Int), ([] : List Nat)) = some ((List.range n).map fun i => W4 (dS (q i) v m) (-4)) :=
  app_gen (T := fun s => (impl_Matrix_timesVector_l0_T n m (qM n m q) (qV m v) s).run) (fun i s hi hs => by
    obtain ⟨r1, r2, r3⟩ := rowI (M := qM n m q) hi m1 (show n ≤ 12 by omega) (show m ≤ 12 by omega) (qM_len _ _ _)
    have hd := dot_run (m := m) (a := q i) (b := v) (hq i) hv (by omega) (xs := rowL m (qM n m q) i) (ys := qV m v) (rowL_length hi (by omega) (by omega) (qM_len _ _ _)) (qV_len _ _) (fun k hk => by rw [rowL_nth hi hk (qM_len _ _ _), qM_nth q hi hk]) (fun k hk => qV_nth v hk)
    have hd : impl_dot_g (AM.sub (qM n m q) ((i * m : Nat) : Int) (((i + 1) * m : Nat) : Int)) (qV m v) = some (W4 (dS (q i) v m) (-4)) := hd
    rw [w_succ (show i < 4611686018427387904 by omega)] at r3
    have hlt : decide (((i : Nat) : Int) < ((n : Nat) : Int)) = true := decide_eq_true (by omega)
    have hf : fits (s ++ ([W4 (dS (q i) v m) (-4)] : List Nat)).length = true := fits_iff.2 (by rw [List.length_append, hs]; simp [maxN]; omega)
    simp only [impl_Matrix_timesVector_l0_T, Tree.run, hlt, if_true, r1, r2, r3, List.nil_append, hd, Option.bind_some, hf, w_succ (show i < 4611686018427387904 by omega)])
    (fun s => by
      have hlt : decide (((n : Nat) : Int) < ((n : Nat) : Int)) = false := decide_eq_false (by omega)
      simp only [impl_Matrix_timesVector_l0_T, Tree.run, hlt, Bool.false_eq_true, if_false])
theorem qV_fin {m : Nat} {v : Nat → Int} (hv : ∀ k, Sm (v k)) : (qV m v).all sfin = true := by
  rw [List.all_eq_true]
  intro x hx
  unfold qV at hx
  rw [List.mem_map] at hx
  obtain ⟨p, _, rfl⟩ := hx
  obtain ⟨h1, h2⟩ := hv p
  exact W4_fin (by omega) (by omega) (by omega)
theorem vecI2 (xs : List Nat) (h : xs.length ≤ maxN) : impl_IsVector_g xs = some (decide ((1 : Int) ≤ xs.length) && decide ((xs.length : Int) ≤ 256) && xs.all sfin) := by
  simp only [impl_IsVector_g, impl_IsVector_T, Tree.run, inR, impl_lengthF_v, areFin xs h, Option.bind_some]
  cases decide ((1 : Int) ≤ (xs.length : Int)) <;> cases decide ((xs.length : Int) ≤ 256) <;> simp [Tree.run]
/-- The product's numbers: sixteenths. -/
def qP (n m : Nat) (q : Nat → Nat → Int) (v : Nat → Int) : List Nat := (List.range n).map fun i => W4 (dS (q i) v m) (-4)
theorem qP_len (n m : Nat) (q : Nat → Nat → Int) (v : Nat → Int) : (qP n m q v).length = n := by simp [qP]
theorem times_run {n m : Nat} {q : Nat → Nat → Int} {v : Nat → Int} (hq : ∀ i k, Sm (q i k)) (hv : ∀ k, Sm (v k)) (n1 : 1 ≤ n) (n5 : n ≤ 5) (m1 : 1 ≤ m) (m5 : m ≤ 5) : impl_TimesVector_g n m (qM n m q) (qV m v) = some (.inr (qP n m q v)) := by
  have hl := times_loop hq hv n5 m1 m5
  have hfin : (qP n m q v).all sfin = true := by
    rw [List.all_eq_true]
    intro x hx
    unfold qP at hx
    rw [List.mem_map] at hx
    obtain ⟨i, _, rfl⟩ := hx
    have := dS_bd (hq i) hv m
    exact W4_fin (by omega) (by omega) (by omega)
  have hlen : impl_lengthF_v (qV m v) = (m : Int) := by rw [impl_lengthF_v, qV_len]
  have h1 : decide ((1 : Int) ≤ ((m : Nat) : Int)) = true := decide_eq_true (by omega)
  have h2 : decide (((m : Nat) : Int) ≤ 256) = true := decide_eq_true (by omega)
  have hvv := vecI2 (qV m v) (by rw [qV_len]; unfold maxN; omega)
  rw [qV_len, qV_fin hv, h1, h2] at hvv
  have hl : impl_Matrix_timesVector_l0_g n m (qM n m q) (qV m v) ((0 : Int), ([] : List Nat)) = some (qP n m q v) := hl
  have hmv : impl_Matrix_timesVector_g n m (qM n m q) (qV m v) = some (qP n m q v) := by
    simp only [impl_Matrix_timesVector_g, impl_Matrix_timesVector_T, Tree.run, if_true, hl, Option.bind_some]
  have hf : impl_allFinite_g (qP n m q v) = some (.inr ()) := by
    simp only [impl_allFinite_g, impl_allFinite_T, Tree.run, areFin _ (show (qP n m q v).length ≤ maxN by rw [qP_len]; unfold maxN; omega), hfin, Option.bind_some, Bool.not_true, Bool.false_eq_true, if_false]
  simp only [impl_TimesVector_g, impl_TimesVector_T, Tree.run, qM_ok hq n1 n5 m1 m5, hvv, hlen, hmv, hf, Option.bind_some, Bool.not_true, Bool.and_true, Bool.and_self, Bool.false_eq_true, if_false, decide_true]
end Go.Proofs.Ytbnakafnaeafiaa.AM
