/- Minors of both sides are one function; the greatest common divisor. -/
import Derived.Test.YtimlecagkbbnpaaAJ0
set_option linter.unusedSimpArgs false
set_option linter.unusedVariables false
set_option maxHeartbeats 1000000
set_option maxRecDepth 100000
namespace Go.Proofs.Ytimlecagkbbnpaa.AM

def mrun (f : Nat → Int × Int → Int × Int) : Nat → Nat → Int × Int → Int × Int
  | 0, _, s => s
  | d + 1, i, s => mrun f d (i + 1) (f i s)
def mst (x u : Int) (s : Int × Int) : Int × Int := if x = 0 then (s.1, IntKind.i64.wrap (0 - s.2)) else (IntKind.i64.wrap (s.1 + (IntKind.i64.wrap ((IntKind.i64.wrap (s.2 * x)) * u))), IntKind.i64.wrap (0 - s.2))
/-- The determinant of some rows and columns. -/
def mnr (m : Nat) (M : List Int) : List Int → List Int → Int
  | [], _ => 1
  | r :: R, C => (mrun (fun i s => mst (nth M (r.toNat * m + (nth C i).toNat)) (mnr m M R (C.take i ++ C.drop (i + 1))) s) C.length 0 (0, 1)).1
def mf (m : Nat) (M R C : List Int) (i : Nat) (s : Int × Int) : Int × Int := mst (nth M ((nth R 0).toNat * m + (nth C i).toNat)) (mnr m M (R.drop 1) (C.take i ++ C.drop (i + 1))) s
theorem mnr_eq {m : Nat} {M R C : List Int} (h : R.length ≠ 0) : mnr m M R C = (mrun (mf m M R C) C.length 0 (0, 1)).1 := by
  cases R with
  | nil => exact absurd rfl h
  | cons r R => rfl
theorem mrun_ind {f : Nat → Int × Int → Int × Int} {P : Int × Int → Prop} : ∀ (d i : Nat) (s : Int × Int), (∀ j s, i ≤ j → j < i + d → P s → P (f j s)) → P s → P (mrun f d i s)
  | 0, _, s, _, h => h
  | d + 1, i, s, hf, h => mrun_ind d (i + 1) (f i s) (fun j s h1 h2 => hf j s (by omega) (by omega)) (hf i s (Nat.le_refl _) (by omega) h)
def i64 (x : Int) : Prop := -9223372036854775808 ≤ x ∧ x < 9223372036854775808
theorem wrap_i64 (x : Int) : i64 (IntKind.i64.wrap x) := by
  rw [IntKind.wrap_i64]
  unfold i64
  omega
theorem mnr_i64 (m : Nat) (M R C : List Int) : i64 (mnr m M R C) := by
  by_cases h : R.length = 0
  · have : R = [] := List.length_eq_zero_iff.1 h
    subst this
    exact ⟨by simp only [mnr]; omega, by simp only [mnr]; omega⟩
  · rw [mnr_eq h]
    refine mrun_ind (P := fun s => i64 s.1) _ _ _ (fun j s _ _ hs => ?_) ⟨by omega, by omega⟩
    unfold mf mst
    split
    · exact hs
    · exact wrap_i64 _
theorem mnr_zero {m : Nat} {M R C : List Int} (h : R.length ≠ 0) (hz : ∀ i, i < C.length → mnr m M (R.drop 1) (C.take i ++ C.drop (i + 1)) = 0) : mnr m M R C = 0 := by
  rw [mnr_eq h]
  refine mrun_ind (P := fun s => s.1 = 0) _ _ _ (fun j s _ hj hs => ?_) rfl
  unfold mf mst
  rw [hz j (by omega), hs, Int.mul_zero]
  split
  · rfl
  · show IntKind.i64.wrap (0 + IntKind.i64.wrap 0) = 0
    decide
theorem sub_drop (C : List Int) (i : Nat) : AM.sub C ((i + 1 : Nat) : Int) (((i + 1) + (C.length - (i + 1)) : Nat) : Int) = C.drop (i + 1) := by
  unfold AM.sub
  simp only [Int.toNat_natCast]
  rw [List.take_of_length_le (by omega)]
  try rfl
theorem delI {C : List Int} {i : Nat} (hi : i < C.length) : slices_DeleteI_g C (i : Int) ((i + 1 : Nat) : Int) = some (.inr (0, C.length - 1)) := by
  have sd := sub_drop C i
  have dl : (C.drop (i + 1)).length = C.length - (i + 1) := by simp
  have e : i + (C.length - (i + 1)) = C.length - 1 := by omega
  have k1 : sok (i : Int) ((i + 1 : Nat) : Int) C.length = true := sok_iff.2 ⟨by omega, by omega, by omega⟩
  have k2 : (decide (((i + 1 : Nat) : Int) ≤ ((C.length : Nat) : Int)) && decide (((C.length : Nat) : Int) ≤ ((C.length : Nat) : Int))) = true := by simp; omega
  have k3 : decide ((i : Int) = ((i + 1 : Nat) : Int)) = false := decide_eq_false (by omega)
  have k4 : sok (0 : Int) (i : Int) C.length = true := sok_iff.2 ⟨by omega, by omega, by omega⟩
  have k5 : sok ((i + 1 : Nat) : Int) ((C.length : Nat) : Int) C.length = true := sok_iff.2 ⟨by omega, by omega, by omega⟩
  have k6 : decide (C.length - 1 ≤ C.length) = true := decide_eq_true (by omega)
  have k7 : sok ((C.length - 1 : Nat) : Int) ((C.length : Nat) : Int) C.length = true := sok_iff.2 ⟨by omega, by omega, by omega⟩
  have lo : (overL C i (C.drop (i + 1))).length = C.length := by simp [overL]; omega
  have k8 : decide (C.length - 1 + (C.length - (C.length - 1)) ≤ (overL C i (C.drop (i + 1))).length) = true := decide_eq_true (by omega)
  simp only [slices_DeleteI_g, slices_DeleteI_T, Tree.run, Int.toNat_natCast, Int.toNat_zero, Nat.zero_add, Nat.sub_zero, k1, k2, k3, k4, k5, sd, dl, e, k6, k7, k8, if_true, Bool.false_eq_true, if_false]
theorem mn0 {n m : Nat} {M : List Int} (hn : n ≤ 4) (hm : m ≤ 4) (hM : M.length = n * m) {R C : List Int} (hL : R.length = C.length) (ht : R.length ≤ 0) (hR : ∀ x ∈ R, ∃ a : Nat, x = a ∧ a < n) (hC : ∀ x ∈ C, ∃ a : Nat, x = a ∧ a < m) :
    impl_Whole_minor_i4_g n m M R C = some (mnr m M R C) ∧ spec_l06Minor_i4_g n m M R C = some (mnr m M R C) := by
  by_cases h0 : R.length = 0
  · have d0 : decide (((R.length : Nat) : Int) = (0 : Int)) = true := decide_eq_true (by omega)
    have e0 : mnr m M R C = 1 := by
      have : R = [] := List.length_eq_zero_iff.1 h0
      subst this; rfl
    rw [e0]
    exact ⟨by simp only [impl_Whole_minor_i4_g, impl_Whole_minor_i4_T, Tree.run, d0, if_true], by simp only [spec_l06Minor_i4_g, spec_l06Minor_i4_T, Tree.run, d0, if_true]⟩
  · omega
theorem mn1 {n m : Nat} {M : List Int} (hn : n ≤ 4) (hm : m ≤ 4) (hM : M.length = n * m) {R C : List Int} (hL : R.length = C.length) (ht : R.length ≤ 1) (hR : ∀ x ∈ R, ∃ a : Nat, x = a ∧ a < n) (hC : ∀ x ∈ C, ∃ a : Nat, x = a ∧ a < m) :
    impl_Whole_minor_i3_g n m M R C = some (mnr m M R C) ∧ spec_l06Minor_i3_g n m M R C = some (mnr m M R C) := by
  by_cases h0 : R.length = 0
  · have d0 : decide (((R.length : Nat) : Int) = (0 : Int)) = true := decide_eq_true (by omega)
    have e0 : mnr m M R C = 1 := by
      have : R = [] := List.length_eq_zero_iff.1 h0
      subst this; rfl
    rw [e0]
    exact ⟨by simp only [impl_Whole_minor_i3_g, impl_Whole_minor_i3_T, Tree.run, d0, if_true], by simp only [spec_l06Minor_i3_g, spec_l06Minor_i3_T, Tree.run, d0, if_true]⟩
  have d0 : decide (((R.length : Nat) : Int) = (0 : Int)) = false := decide_eq_false (by omega)
  have r0 : nth R (Int.toNat (0 : Int)) ∈ R := by
    show nth R 0 ∈ R
    rw [nth_of _ _ (by omega)]; exact List.getElem_mem _
  obtain ⟨a, ha, han⟩ := hR _ r0
  have ha0 : nth R 0 = (a : Int) := ha
  have kR : inb (0 : Int) R.length = true := inb_iff.2 ⟨by omega, by omega⟩
  have kS : sok (1 : Int) ((R.length : Nat) : Int) R.length = true := sok_iff.2 ⟨by omega, by omega, by omega⟩
  have sR : AM.sub R (1 : Int) ((R.length : Nat) : Int) = R.drop 1 := by
    unfold AM.sub
    simp only [Int.toNat_natCast]
    rw [List.take_of_length_le (by omega)]
    try rfl
  have cl : slices_CloneI_g C = some () := by
    have q1 : decide (0 < C.length) = true := decide_eq_true (by omega)
    have q2 : fits C.length = true := fitsN (by omega)
    simp only [slices_CloneI_g, slices_CloneI_T, Tree.run, List.nil_append, q1, q2, if_true]
  have loop : ∀ (d i : Nat) (det sign : Int), i + d = C.length → impl_Whole_minor_i3_l0_g n m M R C (det, sign, (i : Int)) = some (mrun (mf m M R C) d i (det, sign)).1 ∧ spec_l06Minor_i3_l0_g n m M R C (det, sign, (i : Int)) = some (mrun (mf m M R C) d i (det, sign)).1 := by
    intro d
    induction d with
    | zero =>
      intro i det sign hi
      have k0 : decide ((i : Int) < ((C.length : Nat) : Int)) = false := decide_eq_false (by omega)
      exact ⟨wi_inr (T := fun s => (impl_Whole_minor_i3_l0_T n m M R C s).run) (by simp only [impl_Whole_minor_i3_l0_T, Tree.run, k0, Bool.false_eq_true, if_false]; rfl), wi_inr (T := fun s => (spec_l06Minor_i3_l0_T n m M R C s).run) (by simp only [spec_l06Minor_i3_l0_T, Tree.run, k0, Bool.false_eq_true, if_false]; rfl)⟩
    | succ d ih =>
      intro i det sign hi
      have k0 : decide ((i : Int) < ((C.length : Nat) : Int)) = true := decide_eq_true (by omega)
      have kC : inb (i : Int) C.length = true := inb_iff.2 ⟨by omega, by omega⟩
      have hiC : i < C.length := by omega
      obtain ⟨b, hb, hbn⟩ := hC (nth C i) (by rw [nth_of _ _ hiC]; exact List.getElem_mem _)
      have aI := atWI (i := a) (k := b) han hbn (show n ≤ 6 by omega) (show m ≤ 6 by omega) hM
      have aS := atWS (i := a) (k := b) han hbn (show n ≤ 6 by omega) (show m ≤ 6 by omega) hM
      have e1 := w1 (show i ≤ 1000 by omega)
      by_cases hz : nth M (a * m + b) = 0
      · have dz : decide (nth M (a * m + b) = 0) = true := decide_eq_true hz
        have ef : mf m M R C i (det, sign) = (det, IntKind.i64.wrap (0 - sign)) := by
          unfold mf mst
          rw [ha0, hb, Int.toNat_natCast, Int.toNat_natCast, if_pos hz]
        obtain ⟨g1, g2⟩ := ih (i + 1) det (IntKind.i64.wrap (0 - sign)) (by omega)
        rw [← ef] at g1 g2
        exact ⟨wi_inl (T := fun s => (impl_Whole_minor_i3_l0_T n m M R C s).run) (by simp only [impl_Whole_minor_i3_l0_T, Tree.run, k0, kC, kR, ha, hb, Int.toNat_natCast, aI, dz, e1, ef, Option.bind_some, Bool.not_true, Bool.false_eq_true, if_false, if_true]) g1, wi_inl (T := fun s => (spec_l06Minor_i3_l0_T n m M R C s).run) (by simp only [spec_l06Minor_i3_l0_T, Tree.run, k0, kC, kR, ha, hb, Int.toNat_natCast, aS, dz, e1, ef, Option.bind_some, Bool.not_true, Bool.false_eq_true, if_false, if_true]) g2⟩
      · have dz : decide (nth M (a * m + b) = 0) = false := decide_eq_false hz
        have hCl : (C.take i ++ C.drop (i + 1)).length = C.length - 1 := by simp; omega
        obtain ⟨m1, m2⟩ := mn0 hn hm hM (R := R.drop 1) (C := C.take i ++ C.drop (i + 1)) (by rw [hCl]; simp; omega) (by simp; omega) (fun x hx => hR x (List.mem_of_mem_drop hx)) (fun x hx => hC x (by
          rcases List.mem_append.1 hx with h | h
          · exact List.mem_of_mem_take h
          · exact List.mem_of_mem_drop h))
        have ef : mf m M R C i (det, sign) = (IntKind.i64.wrap (det + (IntKind.i64.wrap ((IntKind.i64.wrap (sign * nth M (a * m + b))) * mnr m M (R.drop 1) (C.take i ++ C.drop (i + 1))))), IntKind.i64.wrap (0 - sign)) := by
          unfold mf mst
          rw [ha0, hb, Int.toNat_natCast, Int.toNat_natCast, if_neg hz]
        obtain ⟨g1, g2⟩ := ih (i + 1) (mf m M R C i (det, sign)).1 (mf m M R C i (det, sign)).2 (by omega)
        have sd := sub_drop C i
        have dl : (C.drop (i + 1)).length = C.length - (i + 1) := by simp
        have e : i + (C.length - (i + 1)) = C.length - 1 := by omega
        have one : C.length - (C.length - 1) = 1 := by omega
        have rep : List.replicate 1 (0 : Int) = [0] := rfl
        have dlst := del_list C i hiC
        have dlst' : AM.sub (overL (overL C i (C.drop (i + 1))) (C.length - 1) [(0 : Int)]) ((0 : Nat) : Int) ((C.length - 1 : Nat) : Int) = C.take i ++ C.drop (i + 1) := dlst
        have lo : decide ((overL (overL C i (C.drop (i + 1))) (C.length - 1) [(0 : Int)]).length = C.length) = true := decide_eq_true (by simp [overL]; omega)
        have dI := delI hiC
        have w1' : spec_l06Without_g C (i : Int) = some () := by
          have q1 : sok (0 : Int) (i : Int) C.length = true := sok_iff.2 ⟨by omega, by omega, by omega⟩
          have q2 : sok ((i + 1 : Nat) : Int) ((C.length : Nat) : Int) C.length = true := sok_iff.2 ⟨by omega, by omega, by omega⟩
          have q3 : fits (AM.sub C (0 : Int) (i : Int)).length = true := fitsN (by unfold AM.sub; simp; omega)
          have q4 : fits (AM.sub C (0 : Int) (i : Int) ++ AM.sub C ((i + 1 : Nat) : Int) ((C.length : Nat) : Int)).length = true := fitsN (by unfold AM.sub; simp; omega)
          simp only [spec_l06Without_g, spec_l06Without_T, Tree.run, e1, List.nil_append, q1, q2, q3, q4, if_true]
        have ws : AM.sub C (0 : Int) (i : Int) ++ AM.sub C ((i + 1 : Nat) : Int) ((C.length : Nat) : Int) = C.take i ++ C.drop (i + 1) := by
          unfold AM.sub
          simp only [Int.toNat_natCast, Int.toNat_zero, List.drop_zero, Nat.sub_zero]
          congr 1
          rw [List.take_of_length_le (by omega)]
          try rfl
        refine ⟨wi_inl (T := fun s => (impl_Whole_minor_i3_l0_T n m M R C s).run) ?_ g1, wi_inl (T := fun s => (spec_l06Minor_i3_l0_T n m M R C s).run) ?_ g2⟩
        · rw [ef]
          simp only [impl_Whole_minor_i3_l0_T, Tree.run, k0, kC, kR, kS, ha0, hb, Int.toNat_natCast, Int.toNat_zero, Nat.zero_add, Nat.sub_zero, List.nil_append, aI, dz, e1, cl, dI, sd, dl, e, one, rep, lo, sR, dlst', m1, Option.bind_some, Bool.not_false, if_true]
        · rw [ef]
          simp only [spec_l06Minor_i3_l0_T, Tree.run, k0, kC, kR, kS, ha, hb, Int.toNat_natCast, List.nil_append, aS, dz, e1, w1', ws, sR, m2, Option.bind_some, Bool.not_false, if_true]
  obtain ⟨g1, g2⟩ := loop C.length 0 0 1 (by omega)
  have g1' : impl_Whole_minor_i3_l0_g n m M R C ((0 : Int), (1 : Int), (0 : Int)) = some (mrun (mf m M R C) C.length 0 (0, 1)).1 := g1
  have g2' : spec_l06Minor_i3_l0_g n m M R C ((0 : Int), (1 : Int), (0 : Int)) = some (mrun (mf m M R C) C.length 0 (0, 1)).1 := g2
  rw [mnr_eq h0]
  exact ⟨by simp only [impl_Whole_minor_i3_g, impl_Whole_minor_i3_T, Tree.run, d0, g1', Option.bind_some, Bool.false_eq_true, if_false, if_true], by simp only [spec_l06Minor_i3_g, spec_l06Minor_i3_T, Tree.run, d0, g2', Option.bind_some, Bool.false_eq_true, if_false, if_true]⟩
theorem mn2 {n m : Nat} {M : List Int} (hn : n ≤ 4) (hm : m ≤ 4) (hM : M.length = n * m) {R C : List Int} (hL : R.length = C.length) (ht : R.length ≤ 2) (hR : ∀ x ∈ R, ∃ a : Nat, x = a ∧ a < n) (hC : ∀ x ∈ C, ∃ a : Nat, x = a ∧ a < m) :
    impl_Whole_minor_i2_g n m M R C = some (mnr m M R C) ∧ spec_l06Minor_i2_g n m M R C = some (mnr m M R C) := by
  by_cases h0 : R.length = 0
  · have d0 : decide (((R.length : Nat) : Int) = (0 : Int)) = true := decide_eq_true (by omega)
    have e0 : mnr m M R C = 1 := by
      have : R = [] := List.length_eq_zero_iff.1 h0
      subst this; rfl
    rw [e0]
    exact ⟨by simp only [impl_Whole_minor_i2_g, impl_Whole_minor_i2_T, Tree.run, d0, if_true], by simp only [spec_l06Minor_i2_g, spec_l06Minor_i2_T, Tree.run, d0, if_true]⟩
  have d0 : decide (((R.length : Nat) : Int) = (0 : Int)) = false := decide_eq_false (by omega)
  have r0 : nth R (Int.toNat (0 : Int)) ∈ R := by
    show nth R 0 ∈ R
    rw [nth_of _ _ (by omega)]; exact List.getElem_mem _
  obtain ⟨a, ha, han⟩ := hR _ r0
  have ha0 : nth R 0 = (a : Int) := ha
  have kR : inb (0 : Int) R.length = true := inb_iff.2 ⟨by omega, by omega⟩
  have kS : sok (1 : Int) ((R.length : Nat) : Int) R.length = true := sok_iff.2 ⟨by omega, by omega, by omega⟩
  have sR : AM.sub R (1 : Int) ((R.length : Nat) : Int) = R.drop 1 := by
    unfold AM.sub
    simp only [Int.toNat_natCast]
    rw [List.take_of_length_le (by omega)]
    try rfl
  have cl : slices_CloneI_g C = some () := by
    have q1 : decide (0 < C.length) = true := decide_eq_true (by omega)
    have q2 : fits C.length = true := fitsN (by omega)
    simp only [slices_CloneI_g, slices_CloneI_T, Tree.run, List.nil_append, q1, q2, if_true]
  have loop : ∀ (d i : Nat) (det sign : Int), i + d = C.length → impl_Whole_minor_i2_l0_g n m M R C (det, sign, (i : Int)) = some (mrun (mf m M R C) d i (det, sign)).1 ∧ spec_l06Minor_i2_l0_g n m M R C (det, sign, (i : Int)) = some (mrun (mf m M R C) d i (det, sign)).1 := by
    intro d
    induction d with
    | zero =>
      intro i det sign hi
      have k0 : decide ((i : Int) < ((C.length : Nat) : Int)) = false := decide_eq_false (by omega)
      exact ⟨wi_inr (T := fun s => (impl_Whole_minor_i2_l0_T n m M R C s).run) (by simp only [impl_Whole_minor_i2_l0_T, Tree.run, k0, Bool.false_eq_true, if_false]; rfl), wi_inr (T := fun s => (spec_l06Minor_i2_l0_T n m M R C s).run) (by simp only [spec_l06Minor_i2_l0_T, Tree.run, k0, Bool.false_eq_true, if_false]; rfl)⟩
    | succ d ih =>
      intro i det sign hi
      have k0 : decide ((i : Int) < ((C.length : Nat) : Int)) = true := decide_eq_true (by omega)
      have kC : inb (i : Int) C.length = true := inb_iff.2 ⟨by omega, by omega⟩
      have hiC : i < C.length := by omega
      obtain ⟨b, hb, hbn⟩ := hC (nth C i) (by rw [nth_of _ _ hiC]; exact List.getElem_mem _)
      have aI := atWI (i := a) (k := b) han hbn (show n ≤ 6 by omega) (show m ≤ 6 by omega) hM
      have aS := atWS (i := a) (k := b) han hbn (show n ≤ 6 by omega) (show m ≤ 6 by omega) hM
      have e1 := w1 (show i ≤ 1000 by omega)
      by_cases hz : nth M (a * m + b) = 0
      · have dz : decide (nth M (a * m + b) = 0) = true := decide_eq_true hz
        have ef : mf m M R C i (det, sign) = (det, IntKind.i64.wrap (0 - sign)) := by
          unfold mf mst
          rw [ha0, hb, Int.toNat_natCast, Int.toNat_natCast, if_pos hz]
        obtain ⟨g1, g2⟩ := ih (i + 1) det (IntKind.i64.wrap (0 - sign)) (by omega)
        rw [← ef] at g1 g2
        exact ⟨wi_inl (T := fun s => (impl_Whole_minor_i2_l0_T n m M R C s).run) (by simp only [impl_Whole_minor_i2_l0_T, Tree.run, k0, kC, kR, ha, hb, Int.toNat_natCast, aI, dz, e1, ef, Option.bind_some, Bool.not_true, Bool.false_eq_true, if_false, if_true]) g1, wi_inl (T := fun s => (spec_l06Minor_i2_l0_T n m M R C s).run) (by simp only [spec_l06Minor_i2_l0_T, Tree.run, k0, kC, kR, ha, hb, Int.toNat_natCast, aS, dz, e1, ef, Option.bind_some, Bool.not_true, Bool.false_eq_true, if_false, if_true]) g2⟩
      · have dz : decide (nth M (a * m + b) = 0) = false := decide_eq_false hz
        have hCl : (C.take i ++ C.drop (i + 1)).length = C.length - 1 := by simp; omega
        obtain ⟨m1, m2⟩ := mn1 hn hm hM (R := R.drop 1) (C := C.take i ++ C.drop (i + 1)) (by rw [hCl]; simp; omega) (by simp; omega) (fun x hx => hR x (List.mem_of_mem_drop hx)) (fun x hx => hC x (by
          rcases List.mem_append.1 hx with h | h
          · exact List.mem_of_mem_take h
          · exact List.mem_of_mem_drop h))
        have ef : mf m M R C i (det, sign) = (IntKind.i64.wrap (det + (IntKind.i64.wrap ((IntKind.i64.wrap (sign * nth M (a * m + b))) * mnr m M (R.drop 1) (C.take i ++ C.drop (i + 1))))), IntKind.i64.wrap (0 - sign)) := by
          unfold mf mst
          rw [ha0, hb, Int.toNat_natCast, Int.toNat_natCast, if_neg hz]
        obtain ⟨g1, g2⟩ := ih (i + 1) (mf m M R C i (det, sign)).1 (mf m M R C i (det, sign)).2 (by omega)
        have sd := sub_drop C i
        have dl : (C.drop (i + 1)).length = C.length - (i + 1) := by simp
        have e : i + (C.length - (i + 1)) = C.length - 1 := by omega
        have one : C.length - (C.length - 1) = 1 := by omega
        have rep : List.replicate 1 (0 : Int) = [0] := rfl
        have dlst := del_list C i hiC
        have dlst' : AM.sub (overL (overL C i (C.drop (i + 1))) (C.length - 1) [(0 : Int)]) ((0 : Nat) : Int) ((C.length - 1 : Nat) : Int) = C.take i ++ C.drop (i + 1) := dlst
        have lo : decide ((overL (overL C i (C.drop (i + 1))) (C.length - 1) [(0 : Int)]).length = C.length) = true := decide_eq_true (by simp [overL]; omega)
        have dI := delI hiC
        have w1' : spec_l06Without_g C (i : Int) = some () := by
          have q1 : sok (0 : Int) (i : Int) C.length = true := sok_iff.2 ⟨by omega, by omega, by omega⟩
          have q2 : sok ((i + 1 : Nat) : Int) ((C.length : Nat) : Int) C.length = true := sok_iff.2 ⟨by omega, by omega, by omega⟩
          have q3 : fits (AM.sub C (0 : Int) (i : Int)).length = true := fitsN (by unfold AM.sub; simp; omega)
          have q4 : fits (AM.sub C (0 : Int) (i : Int) ++ AM.sub C ((i + 1 : Nat) : Int) ((C.length : Nat) : Int)).length = true := fitsN (by unfold AM.sub; simp; omega)
          simp only [spec_l06Without_g, spec_l06Without_T, Tree.run, e1, List.nil_append, q1, q2, q3, q4, if_true]
        have ws : AM.sub C (0 : Int) (i : Int) ++ AM.sub C ((i + 1 : Nat) : Int) ((C.length : Nat) : Int) = C.take i ++ C.drop (i + 1) := by
          unfold AM.sub
          simp only [Int.toNat_natCast, Int.toNat_zero, List.drop_zero, Nat.sub_zero]
          congr 1
          rw [List.take_of_length_le (by omega)]
          try rfl
        refine ⟨wi_inl (T := fun s => (impl_Whole_minor_i2_l0_T n m M R C s).run) ?_ g1, wi_inl (T := fun s => (spec_l06Minor_i2_l0_T n m M R C s).run) ?_ g2⟩
        · rw [ef]
          simp only [impl_Whole_minor_i2_l0_T, Tree.run, k0, kC, kR, kS, ha0, hb, Int.toNat_natCast, Int.toNat_zero, Nat.zero_add, Nat.sub_zero, List.nil_append, aI, dz, e1, cl, dI, sd, dl, e, one, rep, lo, sR, dlst', m1, Option.bind_some, Bool.not_false, if_true]
        · rw [ef]
          simp only [spec_l06Minor_i2_l0_T, Tree.run, k0, kC, kR, kS, ha, hb, Int.toNat_natCast, List.nil_append, aS, dz, e1, w1', ws, sR, m2, Option.bind_some, Bool.not_false, if_true]
  obtain ⟨g1, g2⟩ := loop C.length 0 0 1 (by omega)
  have g1' : impl_Whole_minor_i2_l0_g n m M R C ((0 : Int), (1 : Int), (0 : Int)) = some (mrun (mf m M R C) C.length 0 (0, 1)).1 := g1
  have g2' : spec_l06Minor_i2_l0_g n m M R C ((0 : Int), (1 : Int), (0 : Int)) = some (mrun (mf m M R C) C.length 0 (0, 1)).1 := g2
  rw [mnr_eq h0]
  exact ⟨by simp only [impl_Whole_minor_i2_g, impl_Whole_minor_i2_T, Tree.run, d0, g1', Option.bind_some, Bool.false_eq_true, if_false, if_true], by simp only [spec_l06Minor_i2_g, spec_l06Minor_i2_T, Tree.run, d0, g2', Option.bind_some, Bool.false_eq_true, if_false, if_true]⟩
theorem mn3 {n m : Nat} {M : List Int} (hn : n ≤ 4) (hm : m ≤ 4) (hM : M.length = n * m) {R C : List Int} (hL : R.length = C.length) (ht : R.length ≤ 3) (hR : ∀ x ∈ R, ∃ a : Nat, x = a ∧ a < n) (hC : ∀ x ∈ C, ∃ a : Nat, x = a ∧ a < m) :
    impl_Whole_minor_i1_g n m M R C = some (mnr m M R C) ∧ spec_l06Minor_i1_g n m M R C = some (mnr m M R C) := by
  by_cases h0 : R.length = 0
  · have d0 : decide (((R.length : Nat) : Int) = (0 : Int)) = true := decide_eq_true (by omega)
    have e0 : mnr m M R C = 1 := by
      have : R = [] := List.length_eq_zero_iff.1 h0
      subst this; rfl
    rw [e0]
    exact ⟨by simp only [impl_Whole_minor_i1_g, impl_Whole_minor_i1_T, Tree.run, d0, if_true], by simp only [spec_l06Minor_i1_g, spec_l06Minor_i1_T, Tree.run, d0, if_true]⟩
  have d0 : decide (((R.length : Nat) : Int) = (0 : Int)) = false := decide_eq_false (by omega)
  have r0 : nth R (Int.toNat (0 : Int)) ∈ R := by
    show nth R 0 ∈ R
    rw [nth_of _ _ (by omega)]; exact List.getElem_mem _
  obtain ⟨a, ha, han⟩ := hR _ r0
  have ha0 : nth R 0 = (a : Int) := ha
  have kR : inb (0 : Int) R.length = true := inb_iff.2 ⟨by omega, by omega⟩
  have kS : sok (1 : Int) ((R.length : Nat) : Int) R.length = true := sok_iff.2 ⟨by omega, by omega, by omega⟩
  have sR : AM.sub R (1 : Int) ((R.length : Nat) : Int) = R.drop 1 := by
    unfold AM.sub
    simp only [Int.toNat_natCast]
    rw [List.take_of_length_le (by omega)]
    try rfl
  have cl : slices_CloneI_g C = some () := by
    have q1 : decide (0 < C.length) = true := decide_eq_true (by omega)
    have q2 : fits C.length = true := fitsN (by omega)
    simp only [slices_CloneI_g, slices_CloneI_T, Tree.run, List.nil_append, q1, q2, if_true]
  have loop : ∀ (d i : Nat) (det sign : Int), i + d = C.length → impl_Whole_minor_i1_l0_g n m M R C (det, sign, (i : Int)) = some (mrun (mf m M R C) d i (det, sign)).1 ∧ spec_l06Minor_i1_l0_g n m M R C (det, sign, (i : Int)) = some (mrun (mf m M R C) d i (det, sign)).1 := by
    intro d
    induction d with
    | zero =>
      intro i det sign hi
      have k0 : decide ((i : Int) < ((C.length : Nat) : Int)) = false := decide_eq_false (by omega)
      exact ⟨wi_inr (T := fun s => (impl_Whole_minor_i1_l0_T n m M R C s).run) (by simp only [impl_Whole_minor_i1_l0_T, Tree.run, k0, Bool.false_eq_true, if_false]; rfl), wi_inr (T := fun s => (spec_l06Minor_i1_l0_T n m M R C s).run) (by simp only [spec_l06Minor_i1_l0_T, Tree.run, k0, Bool.false_eq_true, if_false]; rfl)⟩
    | succ d ih =>
      intro i det sign hi
      have k0 : decide ((i : Int) < ((C.length : Nat) : Int)) = true := decide_eq_true (by omega)
      have kC : inb (i : Int) C.length = true := inb_iff.2 ⟨by omega, by omega⟩
      have hiC : i < C.length := by omega
      obtain ⟨b, hb, hbn⟩ := hC (nth C i) (by rw [nth_of _ _ hiC]; exact List.getElem_mem _)
      have aI := atWI (i := a) (k := b) han hbn (show n ≤ 6 by omega) (show m ≤ 6 by omega) hM
      have aS := atWS (i := a) (k := b) han hbn (show n ≤ 6 by omega) (show m ≤ 6 by omega) hM
      have e1 := w1 (show i ≤ 1000 by omega)
      by_cases hz : nth M (a * m + b) = 0
      · have dz : decide (nth M (a * m + b) = 0) = true := decide_eq_true hz
        have ef : mf m M R C i (det, sign) = (det, IntKind.i64.wrap (0 - sign)) := by
          unfold mf mst
          rw [ha0, hb, Int.toNat_natCast, Int.toNat_natCast, if_pos hz]
        obtain ⟨g1, g2⟩ := ih (i + 1) det (IntKind.i64.wrap (0 - sign)) (by omega)
        rw [← ef] at g1 g2
        exact ⟨wi_inl (T := fun s => (impl_Whole_minor_i1_l0_T n m M R C s).run) (by simp only [impl_Whole_minor_i1_l0_T, Tree.run, k0, kC, kR, ha, hb, Int.toNat_natCast, aI, dz, e1, ef, Option.bind_some, Bool.not_true, Bool.false_eq_true, if_false, if_true]) g1, wi_inl (T := fun s => (spec_l06Minor_i1_l0_T n m M R C s).run) (by simp only [spec_l06Minor_i1_l0_T, Tree.run, k0, kC, kR, ha, hb, Int.toNat_natCast, aS, dz, e1, ef, Option.bind_some, Bool.not_true, Bool.false_eq_true, if_false, if_true]) g2⟩
      · have dz : decide (nth M (a * m + b) = 0) = false := decide_eq_false hz
        have hCl : (C.take i ++ C.drop (i + 1)).length = C.length - 1 := by simp; omega
        obtain ⟨m1, m2⟩ := mn2 hn hm hM (R := R.drop 1) (C := C.take i ++ C.drop (i + 1)) (by rw [hCl]; simp; omega) (by simp; omega) (fun x hx => hR x (List.mem_of_mem_drop hx)) (fun x hx => hC x (by
          rcases List.mem_append.1 hx with h | h
          · exact List.mem_of_mem_take h
          · exact List.mem_of_mem_drop h))
        have ef : mf m M R C i (det, sign) = (IntKind.i64.wrap (det + (IntKind.i64.wrap ((IntKind.i64.wrap (sign * nth M (a * m + b))) * mnr m M (R.drop 1) (C.take i ++ C.drop (i + 1))))), IntKind.i64.wrap (0 - sign)) := by
          unfold mf mst
          rw [ha0, hb, Int.toNat_natCast, Int.toNat_natCast, if_neg hz]
        obtain ⟨g1, g2⟩ := ih (i + 1) (mf m M R C i (det, sign)).1 (mf m M R C i (det, sign)).2 (by omega)
        have sd := sub_drop C i
        have dl : (C.drop (i + 1)).length = C.length - (i + 1) := by simp
        have e : i + (C.length - (i + 1)) = C.length - 1 := by omega
        have one : C.length - (C.length - 1) = 1 := by omega
        have rep : List.replicate 1 (0 : Int) = [0] := rfl
        have dlst := del_list C i hiC
        have dlst' : AM.sub (overL (overL C i (C.drop (i + 1))) (C.length - 1) [(0 : Int)]) ((0 : Nat) : Int) ((C.length - 1 : Nat) : Int) = C.take i ++ C.drop (i + 1) := dlst
        have lo : decide ((overL (overL C i (C.drop (i + 1))) (C.length - 1) [(0 : Int)]).length = C.length) = true := decide_eq_true (by simp [overL]; omega)
        have dI := delI hiC
        have w1' : spec_l06Without_g C (i : Int) = some () := by
          have q1 : sok (0 : Int) (i : Int) C.length = true := sok_iff.2 ⟨by omega, by omega, by omega⟩
          have q2 : sok ((i + 1 : Nat) : Int) ((C.length : Nat) : Int) C.length = true := sok_iff.2 ⟨by omega, by omega, by omega⟩
          have q3 : fits (AM.sub C (0 : Int) (i : Int)).length = true := fitsN (by unfold AM.sub; simp; omega)
          have q4 : fits (AM.sub C (0 : Int) (i : Int) ++ AM.sub C ((i + 1 : Nat) : Int) ((C.length : Nat) : Int)).length = true := fitsN (by unfold AM.sub; simp; omega)
          simp only [spec_l06Without_g, spec_l06Without_T, Tree.run, e1, List.nil_append, q1, q2, q3, q4, if_true]
        have ws : AM.sub C (0 : Int) (i : Int) ++ AM.sub C ((i + 1 : Nat) : Int) ((C.length : Nat) : Int) = C.take i ++ C.drop (i + 1) := by
          unfold AM.sub
          simp only [Int.toNat_natCast, Int.toNat_zero, List.drop_zero, Nat.sub_zero]
          congr 1
          rw [List.take_of_length_le (by omega)]
          try rfl
        refine ⟨wi_inl (T := fun s => (impl_Whole_minor_i1_l0_T n m M R C s).run) ?_ g1, wi_inl (T := fun s => (spec_l06Minor_i1_l0_T n m M R C s).run) ?_ g2⟩
        · rw [ef]
          simp only [impl_Whole_minor_i1_l0_T, Tree.run, k0, kC, kR, kS, ha0, hb, Int.toNat_natCast, Int.toNat_zero, Nat.zero_add, Nat.sub_zero, List.nil_append, aI, dz, e1, cl, dI, sd, dl, e, one, rep, lo, sR, dlst', m1, Option.bind_some, Bool.not_false, if_true]
        · rw [ef]
          simp only [spec_l06Minor_i1_l0_T, Tree.run, k0, kC, kR, kS, ha, hb, Int.toNat_natCast, List.nil_append, aS, dz, e1, w1', ws, sR, m2, Option.bind_some, Bool.not_false, if_true]
  obtain ⟨g1, g2⟩ := loop C.length 0 0 1 (by omega)
  have g1' : impl_Whole_minor_i1_l0_g n m M R C ((0 : Int), (1 : Int), (0 : Int)) = some (mrun (mf m M R C) C.length 0 (0, 1)).1 := g1
  have g2' : spec_l06Minor_i1_l0_g n m M R C ((0 : Int), (1 : Int), (0 : Int)) = some (mrun (mf m M R C) C.length 0 (0, 1)).1 := g2
  rw [mnr_eq h0]
  exact ⟨by simp only [impl_Whole_minor_i1_g, impl_Whole_minor_i1_T, Tree.run, d0, g1', Option.bind_some, Bool.false_eq_true, if_false, if_true], by simp only [spec_l06Minor_i1_g, spec_l06Minor_i1_T, Tree.run, d0, g2', Option.bind_some, Bool.false_eq_true, if_false, if_true]⟩
theorem mn4 {n m : Nat} {M : List Int} (hn : n ≤ 4) (hm : m ≤ 4) (hM : M.length = n * m) {R C : List Int} (hL : R.length = C.length) (ht : R.length ≤ 4) (hR : ∀ x ∈ R, ∃ a : Nat, x = a ∧ a < n) (hC : ∀ x ∈ C, ∃ a : Nat, x = a ∧ a < m) :
    impl_Whole_minor_g n m M R C = some (mnr m M R C) ∧ spec_l06Minor_g n m M R C = some (mnr m M R C) := by
  by_cases h0 : R.length = 0
  · have d0 : decide (((R.length : Nat) : Int) = (0 : Int)) = true := decide_eq_true (by omega)
    have e0 : mnr m M R C = 1 := by
      have : R = [] := List.length_eq_zero_iff.1 h0
      subst this; rfl
    rw [e0]
    exact ⟨by simp only [impl_Whole_minor_g, impl_Whole_minor_T, Tree.run, d0, if_true], by simp only [spec_l06Minor_g, spec_l06Minor_T, Tree.run, d0, if_true]⟩
  have d0 : decide (((R.length : Nat) : Int) = (0 : Int)) = false := decide_eq_false (by omega)
  have r0 : nth R (Int.toNat (0 : Int)) ∈ R := by
    show nth R 0 ∈ R
    rw [nth_of _ _ (by omega)]; exact List.getElem_mem _
  obtain ⟨a, ha, han⟩ := hR _ r0
  have ha0 : nth R 0 = (a : Int) := ha
  have kR : inb (0 : Int) R.length = true := inb_iff.2 ⟨by omega, by omega⟩
  have kS : sok (1 : Int) ((R.length : Nat) : Int) R.length = true := sok_iff.2 ⟨by omega, by omega, by omega⟩
  have sR : AM.sub R (1 : Int) ((R.length : Nat) : Int) = R.drop 1 := by
    unfold AM.sub
    simp only [Int.toNat_natCast]
    rw [List.take_of_length_le (by omega)]
    try rfl
  have cl : slices_CloneI_g C = some () := by
    have q1 : decide (0 < C.length) = true := decide_eq_true (by omega)
    have q2 : fits C.length = true := fitsN (by omega)
    simp only [slices_CloneI_g, slices_CloneI_T, Tree.run, List.nil_append, q1, q2, if_true]
  have loop : ∀ (d i : Nat) (det sign : Int), i + d = C.length → impl_Whole_minor_l0_g n m M R C (det, sign, (i : Int)) = some (mrun (mf m M R C) d i (det, sign)).1 ∧ spec_l06Minor_l0_g n m M R C (det, sign, (i : Int)) = some (mrun (mf m M R C) d i (det, sign)).1 := by
    intro d
    induction d with
    | zero =>
      intro i det sign hi
      have k0 : decide ((i : Int) < ((C.length : Nat) : Int)) = false := decide_eq_false (by omega)
      exact ⟨wi_inr (T := fun s => (impl_Whole_minor_l0_T n m M R C s).run) (by simp only [impl_Whole_minor_l0_T, Tree.run, k0, Bool.false_eq_true, if_false]; rfl), wi_inr (T := fun s => (spec_l06Minor_l0_T n m M R C s).run) (by simp only [spec_l06Minor_l0_T, Tree.run, k0, Bool.false_eq_true, if_false]; rfl)⟩
    | succ d ih =>
      intro i det sign hi
      have k0 : decide ((i : Int) < ((C.length : Nat) : Int)) = true := decide_eq_true (by omega)
      have kC : inb (i : Int) C.length = true := inb_iff.2 ⟨by omega, by omega⟩
      have hiC : i < C.length := by omega
      obtain ⟨b, hb, hbn⟩ := hC (nth C i) (by rw [nth_of _ _ hiC]; exact List.getElem_mem _)
      have aI := atWI (i := a) (k := b) han hbn (show n ≤ 6 by omega) (show m ≤ 6 by omega) hM
      have aS := atWS (i := a) (k := b) han hbn (show n ≤ 6 by omega) (show m ≤ 6 by omega) hM
      have e1 := w1 (show i ≤ 1000 by omega)
      by_cases hz : nth M (a * m + b) = 0
      · have dz : decide (nth M (a * m + b) = 0) = true := decide_eq_true hz
        have ef : mf m M R C i (det, sign) = (det, IntKind.i64.wrap (0 - sign)) := by
          unfold mf mst
          rw [ha0, hb, Int.toNat_natCast, Int.toNat_natCast, if_pos hz]
        obtain ⟨g1, g2⟩ := ih (i + 1) det (IntKind.i64.wrap (0 - sign)) (by omega)
        rw [← ef] at g1 g2
        exact ⟨wi_inl (T := fun s => (impl_Whole_minor_l0_T n m M R C s).run) (by simp only [impl_Whole_minor_l0_T, Tree.run, k0, kC, kR, ha, hb, Int.toNat_natCast, aI, dz, e1, ef, Option.bind_some, Bool.not_true, Bool.false_eq_true, if_false, if_true]) g1, wi_inl (T := fun s => (spec_l06Minor_l0_T n m M R C s).run) (by simp only [spec_l06Minor_l0_T, Tree.run, k0, kC, kR, ha, hb, Int.toNat_natCast, aS, dz, e1, ef, Option.bind_some, Bool.not_true, Bool.false_eq_true, if_false, if_true]) g2⟩
      · have dz : decide (nth M (a * m + b) = 0) = false := decide_eq_false hz
        have hCl : (C.take i ++ C.drop (i + 1)).length = C.length - 1 := by simp; omega
        obtain ⟨m1, m2⟩ := mn3 hn hm hM (R := R.drop 1) (C := C.take i ++ C.drop (i + 1)) (by rw [hCl]; simp; omega) (by simp; omega) (fun x hx => hR x (List.mem_of_mem_drop hx)) (fun x hx => hC x (by
          rcases List.mem_append.1 hx with h | h
          · exact List.mem_of_mem_take h
          · exact List.mem_of_mem_drop h))
        have ef : mf m M R C i (det, sign) = (IntKind.i64.wrap (det + (IntKind.i64.wrap ((IntKind.i64.wrap (sign * nth M (a * m + b))) * mnr m M (R.drop 1) (C.take i ++ C.drop (i + 1))))), IntKind.i64.wrap (0 - sign)) := by
          unfold mf mst
          rw [ha0, hb, Int.toNat_natCast, Int.toNat_natCast, if_neg hz]
        obtain ⟨g1, g2⟩ := ih (i + 1) (mf m M R C i (det, sign)).1 (mf m M R C i (det, sign)).2 (by omega)
        have sd := sub_drop C i
        have dl : (C.drop (i + 1)).length = C.length - (i + 1) := by simp
        have e : i + (C.length - (i + 1)) = C.length - 1 := by omega
        have one : C.length - (C.length - 1) = 1 := by omega
        have rep : List.replicate 1 (0 : Int) = [0] := rfl
        have dlst := del_list C i hiC
        have dlst' : AM.sub (overL (overL C i (C.drop (i + 1))) (C.length - 1) [(0 : Int)]) ((0 : Nat) : Int) ((C.length - 1 : Nat) : Int) = C.take i ++ C.drop (i + 1) := dlst
        have lo : decide ((overL (overL C i (C.drop (i + 1))) (C.length - 1) [(0 : Int)]).length = C.length) = true := decide_eq_true (by simp [overL]; omega)
        have dI := delI hiC
        have w1' : spec_l06Without_g C (i : Int) = some () := by
          have q1 : sok (0 : Int) (i : Int) C.length = true := sok_iff.2 ⟨by omega, by omega, by omega⟩
          have q2 : sok ((i + 1 : Nat) : Int) ((C.length : Nat) : Int) C.length = true := sok_iff.2 ⟨by omega, by omega, by omega⟩
          have q3 : fits (AM.sub C (0 : Int) (i : Int)).length = true := fitsN (by unfold AM.sub; simp; omega)
          have q4 : fits (AM.sub C (0 : Int) (i : Int) ++ AM.sub C ((i + 1 : Nat) : Int) ((C.length : Nat) : Int)).length = true := fitsN (by unfold AM.sub; simp; omega)
          simp only [spec_l06Without_g, spec_l06Without_T, Tree.run, e1, List.nil_append, q1, q2, q3, q4, if_true]
        have ws : AM.sub C (0 : Int) (i : Int) ++ AM.sub C ((i + 1 : Nat) : Int) ((C.length : Nat) : Int) = C.take i ++ C.drop (i + 1) := by
          unfold AM.sub
          simp only [Int.toNat_natCast, Int.toNat_zero, List.drop_zero, Nat.sub_zero]
          congr 1
          rw [List.take_of_length_le (by omega)]
          try rfl
        refine ⟨wi_inl (T := fun s => (impl_Whole_minor_l0_T n m M R C s).run) ?_ g1, wi_inl (T := fun s => (spec_l06Minor_l0_T n m M R C s).run) ?_ g2⟩
        · rw [ef]
          simp only [impl_Whole_minor_l0_T, Tree.run, k0, kC, kR, kS, ha0, hb, Int.toNat_natCast, Int.toNat_zero, Nat.zero_add, Nat.sub_zero, List.nil_append, aI, dz, e1, cl, dI, sd, dl, e, one, rep, lo, sR, dlst', m1, Option.bind_some, Bool.not_false, if_true]
        · rw [ef]
          simp only [spec_l06Minor_l0_T, Tree.run, k0, kC, kR, kS, ha, hb, Int.toNat_natCast, List.nil_append, aS, dz, e1, w1', ws, sR, m2, Option.bind_some, Bool.not_false, if_true]
  obtain ⟨g1, g2⟩ := loop C.length 0 0 1 (by omega)
  have g1' : impl_Whole_minor_l0_g n m M R C ((0 : Int), (1 : Int), (0 : Int)) = some (mrun (mf m M R C) C.length 0 (0, 1)).1 := g1
  have g2' : spec_l06Minor_l0_g n m M R C ((0 : Int), (1 : Int), (0 : Int)) = some (mrun (mf m M R C) C.length 0 (0, 1)).1 := g2
  rw [mnr_eq h0]
  exact ⟨by simp only [impl_Whole_minor_g, impl_Whole_minor_T, Tree.run, d0, g1', Option.bind_some, Bool.false_eq_true, if_false, if_true], by simp only [spec_l06Minor_g, spec_l06Minor_T, Tree.run, d0, g2', Option.bind_some, Bool.false_eq_true, if_false, if_true]⟩
/-! the greatest common divisor -/
theorem gcdLoop : ∀ (k : Nat) (a b : Int), b.natAbs ≤ k → i64 a → i64 b → ∃ r, impl_gcd_l0_g (a, b) = some r ∧ spec_l06Gcd_l0_g (a, b) = some r ∧ i64 r ∧ (r = 0 ↔ a = 0 ∧ b = 0) := by
  intro k
  induction k with
  | zero =>
    intro a b hk ha hb
    have hb0 : b = 0 := by omega
    subst hb0
    exact ⟨a, wi_inr (T := fun s => (impl_gcd_l0_T s).run) rfl, wi_inr (T := fun s => (spec_l06Gcd_l0_T s).run) rfl, ha, ⟨fun h => ⟨h, rfl⟩, fun h => h.1⟩⟩
  | succ k ih =>
    intro a b hk ha hb
    by_cases h0 : b = 0
    · subst h0
      exact ⟨a, wi_inr (T := fun s => (impl_gcd_l0_T s).run) rfl, wi_inr (T := fun s => (spec_l06Gcd_l0_T s).run) rfl, ha, ⟨fun h => ⟨h, rfl⟩, fun h => h.1⟩⟩
    · have hlt : (Int.tmod a b).natAbs < b.natAbs := by
        rw [Int.natAbs_tmod]
        exact Nat.mod_lt _ (by omega)
      unfold i64 at ha hb
      obtain ⟨r, h1, h2, h3, h4⟩ := ih b (Int.tmod a b) (by omega) hb (by unfold i64; omega)
      have d0 : decide (b = 0) = false := decide_eq_false h0
      refine ⟨r, wi_inl (T := fun s => (impl_gcd_l0_T s).run) ?_ h1, wi_inl (T := fun s => (spec_l06Gcd_l0_T s).run) ?_ h2, h3, ⟨fun h => absurd (h4.1 h).1 h0, fun h => absurd h.2 h0⟩⟩
      · simp only [impl_gcd_l0_T, Tree.run, d0, Bool.not_false, if_true]
      · simp only [spec_l06Gcd_l0_T, Tree.run, d0, Bool.not_false, if_true]
theorem gcdE {a b : Int} (ha : i64 a) (hb : i64 b) : ∃ r, impl_gcd_g a b = some r ∧ spec_l06Gcd_g a b = some r ∧ i64 r ∧ (r = 0 ↔ a = 0 ∧ b = 0) := by
  obtain ⟨r, h1, h2, h3, h4⟩ := gcdLoop b.natAbs a b (Nat.le_refl _) ha hb
  have h3' := h3
  unfold i64 at h3'
  by_cases hr : r < 0
  · have dr : decide (r < 0) = true := decide_eq_true hr
    refine ⟨IntKind.i64.wrap (0 - r), ?_, ?_, wrap_i64 _, ?_⟩
    · have e : imax r (IntKind.i64.wrap (0 - r)) = IntKind.i64.wrap (0 - r) := by
        by_cases hm : r = -9223372036854775808
        · subst hm; decide
        · rw [w64 (by omega) (by omega)]
          unfold imax
          omega
      simp only [impl_gcd_g, impl_gcd_T, Tree.run, h1, Option.bind_some, if_true, e]
    · simp only [spec_l06Gcd_g, spec_l06Gcd_T, Tree.run, h2, Option.bind_some, if_true, dr]
    · rw [← h4]
      by_cases hm : r = -9223372036854775808
      · subst hm; decide
      · rw [w64 (by omega) (by omega)]; omega
  · have dr : decide (r < 0) = false := decide_eq_false hr
    refine ⟨r, ?_, ?_, h3, h4⟩
    · have e : imax r (IntKind.i64.wrap (0 - r)) = r := by
        rw [w64 (by omega) (by omega)]
        unfold imax
        omega
      simp only [impl_gcd_g, impl_gcd_T, Tree.run, h1, Option.bind_some, if_true, e]
    · simp only [spec_l06Gcd_g, spec_l06Gcd_T, Tree.run, h2, Option.bind_some, if_true, dr, Bool.false_eq_true, if_false]
end Go.Proofs.Ytimlecagkbbnpaa.AM
