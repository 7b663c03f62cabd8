/- Thirds: the words that both sides use. -/
import Derived.Test.YtimlecagkbbnpaaM0
set_option linter.unusedSimpArgs false
set_option linter.unusedVariables false
namespace Go.Proofs.Ytimlecagkbbnpaa.AM

def thirdsOk (l m u : List Nat) : Bool := l.all sfin && m.all sfin && u.all sfin && feq .f32 (nth l 0) 0 && feq .f32 (nth u (m.length - 1)) 0
def shape3 (l m u : List Nat) : Prop := 1 ≤ m.length ∧ m.length ≤ 32 ∧ l.length = m.length ∧ u.length = m.length
theorem thirdsS1 (l m u : List Nat) (hl : l.length ≤ maxN) (hm : m.length ≤ maxN) (hu : u.length ≤ maxN) (h : shape3 l m u) : spec_l07Thirds_g l m u = some (thirdsOk l m u) := by
  obtain ⟨a1, a2, a3, a4⟩ := h
  have c1 : decide ((m.length : Int) < 1) = false := by simp; omega
  have c2 : decide ((32 : Int) < (m.length : Int)) = false := by simp; omega
  have c3 : decide ((l.length : Int) = (m.length : Int)) = true := by simp; omega
  have c4 : decide ((u.length : Int) = (m.length : Int)) = true := by simp; omega
  have w : IntKind.i64.wrap ((m.length : Int) - 1) = ((m.length - 1 : Nat) : Int) := by rw [w64 (by omega) (by omega)]; omega
  have b1 : inb (0 : Int) l.length = true := inb_iff.2 ⟨by omega, by omega⟩
  have b2 : inb ((m.length - 1 : Nat) : Int) u.length = true := inb_iff.2 ⟨by omega, by omega⟩
  simp only [spec_l07Thirds_g, spec_l07Thirds_T, Tree.run, c1, c2, c3, c4, finiteS l hl, finiteS m hm, finiteS u hu, Option.bind_some, Bool.not_true, Bool.false_eq_true, if_false, if_true, w, b1, b2, Int.toNat_natCast, thirdsOk]
  cases l.all sfin <;> cases m.all sfin <;> cases u.all sfin <;> cases h5 : feq .f32 (nth l (Int.toNat 0)) 0 <;> (have h6 : feq .f32 (nth l 0) 0 = _ := h5) <;> simp [Tree.run, finiteS m hm, finiteS u hu, b1, b2, h5, h6]
theorem thirdsS0 (l m u : List Nat) (h : ¬ shape3 l m u) : spec_l07Thirds_g l m u = some false := by
  simp only [spec_l07Thirds_g, spec_l07Thirds_T, Tree.run]
  split
  · rfl
  · split
    · rfl
    · split
      · rfl
      · split
        · rfl
        · exfalso
          rename_i k1 k2 k3 k4
          simp at k1 k2 k3 k4
          exact h ⟨by omega, by omega, by omega, by omega⟩
theorem thirdsI1 (l m u : List Nat) (hl : l.length ≤ maxN) (hm : m.length ≤ maxN) (hu : u.length ≤ maxN) (h : shape3 l m u) : impl_ValidThirds_g l m u = some (thirdsOk l m u) := by
  obtain ⟨a1, a2, a3, a4⟩ := h
  have c1 : decide ((1 : Int) ≤ (m.length : Int)) = true := by simp; omega
  have c2 : decide ((m.length : Int) ≤ 32) = true := by simp; omega
  have c3 : decide ((l.length : Int) = (m.length : Int)) = true := by simp; omega
  have c4 : decide ((u.length : Int) = (m.length : Int)) = true := by simp; omega
  have w : IntKind.i64.wrap ((m.length : Int) - 1) = ((m.length - 1 : Nat) : Int) := by rw [w64 (by omega) (by omega)]; omega
  have b1 : inb (0 : Int) l.length = true := inb_iff.2 ⟨by omega, by omega⟩
  have b2 : inb ((m.length - 1 : Nat) : Int) u.length = true := inb_iff.2 ⟨by omega, by omega⟩
  simp only [impl_ValidThirds_g, impl_ValidThirds_T, Tree.run, c1, c2, c3, c4, isListI m 32 hm, areFin l hl, areFin u hu, Option.bind_some, Bool.and_self, Bool.true_and, if_true, w, b1, b2, Int.toNat_natCast, thirdsOk]
  cases l.all sfin <;> cases m.all sfin <;> cases u.all sfin <;> cases h5 : feq .f32 (nth l (Int.toNat 0)) 0 <;> (have h6 : feq .f32 (nth l 0) 0 = _ := h5) <;> simp [Tree.run, areFin u hu, b1, b2, h5, h6]
theorem thirdsI0 (l m u : List Nat) (hl : l.length ≤ maxN) (hm : m.length ≤ maxN) (hu : u.length ≤ maxN) (h : ¬ shape3 l m u) : impl_ValidThirds_g l m u = some false := by
  simp only [impl_ValidThirds_g, impl_ValidThirds_T, Tree.run, isListI m 32 hm, Option.bind_some]
  split
  · rename_i k1
    split
    · rename_i k2
      split
      · rename_i k3
        exfalso
        simp at k1 k2 k3
        exact h ⟨by omega, by omega, by omega, by omega⟩
      · rfl
    · rfl
  · rfl
theorem fits_both (l m u v : List Nat) (hl : l.length ≤ maxN) (hm : m.length ≤ maxN) (hu : u.length ≤ maxN) (hv : v.length ≤ maxN) :
    ∃ b, impl_Thirds_takes_g l m u v = some b ∧ spec_l07Fits_g l m u v = some b ∧ (b = true → shape3 l m u ∧ v.length = m.length) := by
  by_cases h : shape3 l m u
  · refine ⟨thirdsOk l m u && (decide ((v.length : Int) = (m.length : Int)) && v.all sfin), ?_, ?_, fun hb => ⟨h, by simp at hb; omega⟩⟩
    · simp only [impl_Thirds_takes_g, impl_Thirds_takes_T, Tree.run, thirdsI1 l m u hl hm hu h, areFin v hv, Option.bind_some]
      cases thirdsOk l m u <;> by_cases h2 : (v.length : Int) = (m.length : Int) <;> simp [Tree.run, h2]
    · simp only [spec_l07Fits_g, spec_l07Fits_T, Tree.run, thirdsS1 l m u hl hm hu h, finiteS v hv, Option.bind_some]
      cases thirdsOk l m u <;> by_cases h2 : (v.length : Int) = (m.length : Int) <;> simp [Tree.run, h2]
  · refine ⟨false, ?_, ?_, fun hb => by cases hb⟩
    · simp [impl_Thirds_takes_g, impl_Thirds_takes_T, Tree.run, thirdsI0 l m u hl hm hu h]
    · simp [spec_l07Fits_g, spec_l07Fits_T, Tree.run, thirdsS0 l m u h]
theorem toT_ok (l m u : List Nat) (hl : l.length ≤ maxN) (hm : m.length ≤ maxN) (hu : u.length ≤ maxN) : laws_toThirds_g l m u = some (l, m, u) := by
  simp [laws_toThirds_g, laws_toThirds_T, Tree.run, toF_ok l hl, toF_ok m hm, toF_ok u hu]
theorem eqT_self (l m u : List Nat) (hl : l.length ≤ maxN) (hm : m.length ≤ maxN) (hu : u.length ≤ maxN) : laws_eqThirds_g l m u l m u = some true := by
  simp [laws_eqThirds_g, laws_eqThirds_T, Tree.run, eqF_self l hl, eqF_self m hm, eqF_self u hu]
theorem szF_len (n : Nat) (l : Int) (h1 : 0 ≤ l) (h2 : l ≤ 1048576) (hn : n < 9223372036854775808) : laws_szFloat32S_len_v n l = if (n : Int) ≤ l then l - n else -1 := by
  unfold laws_szFloat32S_len_v
  rw [w64 (by omega) (by omega)]
  by_cases c : (n : Int) ≤ l
  · rw [if_neg (by simp; omega), if_pos c]
  · rw [if_pos (by simp; omega), if_neg c]
theorem szT_len (a b c : Nat) (ha : a < 9223372036854775808) (hb : b < 9223372036854775808) (hc : c < 9223372036854775808) (big : maxN < a ∨ maxN < b ∨ maxN < c) : decide (laws_szThirds_len_v a b c 1048576 < 0) = true := by
  unfold maxN at big
  unfold laws_szThirds_len_v
  rw [szF_len a 1048576 (by omega) (by omega) ha]
  by_cases c1 : (a : Int) ≤ 1048576
  · rw [if_pos c1, if_neg (by simp; omega), szF_len b _ (by omega) (by omega) hb]
    by_cases c2 : (b : Int) ≤ 1048576 - a
    · rw [if_pos c2, if_neg (by simp; omega), szF_len c _ (by omega) (by omega) hc, if_neg (show ¬ ((c : Int) ≤ 1048576 - a - b) by omega)]; rfl
    · rw [if_neg c2]; rfl
  · rw [if_neg c1]; rfl
end Go.Proofs.Ytimlecagkbbnpaa.AM
