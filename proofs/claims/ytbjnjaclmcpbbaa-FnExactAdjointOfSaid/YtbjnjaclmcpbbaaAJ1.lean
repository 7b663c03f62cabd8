/- Adjoints: the minors of both sides. -/
import Derived.Test.YtbjnjaclmcpbbaaAJ0
set_option linter.unusedSimpArgs false
set_option linter.unusedVariables false
set_option maxHeartbeats 1000000
namespace Go.Proofs.Ytbjnjaclmcpbbaa.AM

theorem sub_drop (C : List Int) (i : Nat) : AM.sub C ((i + 1 : Nat) : Int) (((i + 1) + (C.length - (i + 1)) : Nat) : Int) = C.drop (i + 1) := by
  unfold AM.sub
  simp only [Int.toNat_natCast]
  rw [List.take_of_length_le (by omega)]
  try rfl
theorem delI {C : List Int} {i : Nat} (hi : i < C.length) : slices_DeleteI_g C (i : Int) ((i + 1 : Nat) : Int) = some (.inr (0, C.length - 1)) := by
  have sd := sub_drop C i
  have dl : (C.drop (i + 1)).length = C.length - (i + 1) := by simp
  have e : i + (C.length - (i + 1)) = C.length - 1 := by omega
  have k1 : sok (i : Int) ((i + 1 : Nat) : Int) C.length = true := sok_iff.2 ⟨by omega, by omega, by omega⟩
  have k2 : (decide (((i + 1 : Nat) : Int) ≤ ((C.length : Nat) : Int)) && decide (((C.length : Nat) : Int) ≤ ((C.length : Nat) : Int))) = true := by simp; omega
  have k3 : decide ((i : Int) = ((i + 1 : Nat) : Int)) = false := decide_eq_false (by omega)
  have k4 : sok (0 : Int) (i : Int) C.length = true := sok_iff.2 ⟨by omega, by omega, by omega⟩
  have k5 : sok ((i + 1 : Nat) : Int) ((C.length : Nat) : Int) C.length = true := sok_iff.2 ⟨by omega, by omega, by omega⟩
  have k6 : decide (C.length - 1 ≤ C.length) = true := decide_eq_true (by omega)
  have k7 : sok ((C.length - 1 : Nat) : Int) ((C.length : Nat) : Int) C.length = true := sok_iff.2 ⟨by omega, by omega, by omega⟩
  have lo : (overL C i (C.drop (i + 1))).length = C.length := by simp [overL]; omega
  have k8 : decide (C.length - 1 + (C.length - (C.length - 1)) ≤ (overL C i (C.drop (i + 1))).length) = true := decide_eq_true (by omega)
  simp only [slices_DeleteI_g, slices_DeleteI_T, Tree.run, Int.toNat_natCast, Int.toNat_zero, Nat.zero_add, Nat.sub_zero, k1, k2, k3, k4, k5, sd, dl, e, k6, k7, k8, if_true, Bool.false_eq_true, if_false]
theorem mn0 {n : Nat} {M : List Int} (hn : n ≤ 4) (hM : M.length = n * n) {R C : List Int} (hL : R.length = C.length) (ht : R.length ≤ 0) (hR : ∀ x ∈ R, ∃ a : Nat, x = a ∧ a < n) (hC : ∀ x ∈ C, ∃ a : Nat, x = a ∧ a < n) :
    ∃ v, impl_Whole_minor_i3_g n n M R C = some v ∧ spec_l06Minor_i3_g n n M R C = some v := by
  by_cases h0 : R.length = 0
  · have d0 : decide (((R.length : Nat) : Int) = (0 : Int)) = true := decide_eq_true (by omega)
    exact ⟨1, by simp only [impl_Whole_minor_i3_g, impl_Whole_minor_i3_T, Tree.run, d0, if_true], by simp only [spec_l06Minor_i3_g, spec_l06Minor_i3_T, Tree.run, d0, if_true]⟩
  · omega
theorem mn1 {n : Nat} {M : List Int} (hn : n ≤ 4) (hM : M.length = n * n) {R C : List Int} (hL : R.length = C.length) (ht : R.length ≤ 1) (hR : ∀ x ∈ R, ∃ a : Nat, x = a ∧ a < n) (hC : ∀ x ∈ C, ∃ a : Nat, x = a ∧ a < n) :
    ∃ v, impl_Whole_minor_i2_g n n M R C = some v ∧ spec_l06Minor_i2_g n n M R C = some v := by
  by_cases h0 : R.length = 0
  · have d0 : decide (((R.length : Nat) : Int) = (0 : Int)) = true := decide_eq_true (by omega)
    exact ⟨1, by simp only [impl_Whole_minor_i2_g, impl_Whole_minor_i2_T, Tree.run, d0, if_true], by simp only [spec_l06Minor_i2_g, spec_l06Minor_i2_T, Tree.run, d0, if_true]⟩
  have d0 : decide (((R.length : Nat) : Int) = (0 : Int)) = false := decide_eq_false (by omega)
  have r0 : nth R (Int.toNat (0 : Int)) ∈ R := by
    show nth R 0 ∈ R
    rw [nth_of _ _ (by omega)]; exact List.getElem_mem _
  obtain ⟨a, ha, han⟩ := hR _ r0
  have kR : inb (0 : Int) R.length = true := inb_iff.2 ⟨by omega, by omega⟩
  have kS : sok (1 : Int) ((R.length : Nat) : Int) R.length = true := sok_iff.2 ⟨by omega, by omega, by omega⟩
  have sR : AM.sub R (1 : Int) ((R.length : Nat) : Int) = R.drop 1 := by
    unfold AM.sub
    simp only [Int.toNat_natCast]
    rw [List.take_of_length_le (by omega)]
    try rfl
  have cl : slices_CloneI_g C = some () := by
    have q1 : decide (0 < C.length) = true := decide_eq_true (by omega)
    have q2 : fits C.length = true := fitsN (by omega)
    simp only [slices_CloneI_g, slices_CloneI_T, Tree.run, List.nil_append, q1, q2, if_true]
  have loop : ∀ (d i : Nat) (det sign : Int), i + d = C.length → ∃ v, impl_Whole_minor_i2_l0_g n n M R C (det, sign, (i : Int)) = some v ∧ spec_l06Minor_i2_l0_g n n M R C (det, sign, (i : Int)) = some v := by
    intro d
    induction d with
    | zero =>
      intro i det sign hi
      have k0 : decide ((i : Int) < ((C.length : Nat) : Int)) = false := decide_eq_false (by omega)
      exact ⟨det, wi_inr (T := fun s => (impl_Whole_minor_i2_l0_T n n M R C s).run) (by simp only [impl_Whole_minor_i2_l0_T, Tree.run, k0, Bool.false_eq_true, if_false]), wi_inr (T := fun s => (spec_l06Minor_i2_l0_T n n M R C s).run) (by simp only [spec_l06Minor_i2_l0_T, Tree.run, k0, Bool.false_eq_true, if_false])⟩
    | succ d ih =>
      intro i det sign hi
      have k0 : decide ((i : Int) < ((C.length : Nat) : Int)) = true := decide_eq_true (by omega)
      have kC : inb (i : Int) C.length = true := inb_iff.2 ⟨by omega, by omega⟩
      have hiC : i < C.length := by omega
      obtain ⟨b, hb, hbn⟩ := hC (nth C i) (by rw [nth_of _ _ hiC]; exact List.getElem_mem _)
      have aI := atWI (i := a) (k := b) han hbn (show n ≤ 6 by omega) (show n ≤ 6 by omega) hM
      have aS := atWS (i := a) (k := b) han hbn (show n ≤ 6 by omega) (show n ≤ 6 by omega) hM
      have e1 := w1 (show i ≤ 1000 by omega)
      by_cases hz : nth M (a * n + b) = 0
      · have dz : decide (nth M (a * n + b) = 0) = true := decide_eq_true hz
        obtain ⟨v, g1, g2⟩ := ih (i + 1) det (IntKind.i64.wrap (0 - sign)) (by omega)
        exact ⟨v, wi_inl (T := fun s => (impl_Whole_minor_i2_l0_T n n M R C s).run) (by simp only [impl_Whole_minor_i2_l0_T, Tree.run, k0, kC, kR, ha, hb, Int.toNat_natCast, aI, dz, e1, Option.bind_some, Bool.not_true, Bool.false_eq_true, if_false, if_true]) g1, wi_inl (T := fun s => (spec_l06Minor_i2_l0_T n n M R C s).run) (by simp only [spec_l06Minor_i2_l0_T, Tree.run, k0, kC, kR, ha, hb, Int.toNat_natCast, aS, dz, e1, Option.bind_some, Bool.not_true, Bool.false_eq_true, if_false, if_true]) g2⟩
      · have dz : decide (nth M (a * n + b) = 0) = false := decide_eq_false hz
        have hCl : (C.take i ++ C.drop (i + 1)).length = C.length - 1 := by simp; omega
        obtain ⟨u, m1, m2⟩ := mn0 hn hM (R := R.drop 1) (C := C.take i ++ C.drop (i + 1)) (by rw [hCl]; simp; omega) (by simp; omega) (fun x hx => hR x (List.mem_of_mem_drop hx)) (fun x hx => hC x (by
          rcases List.mem_append.1 hx with h | h
          · exact List.mem_of_mem_take h
          · exact List.mem_of_mem_drop h))
        obtain ⟨v, g1, g2⟩ := ih (i + 1) (IntKind.i64.wrap (det + (IntKind.i64.wrap ((IntKind.i64.wrap (sign * nth M (a * n + b))) * u)))) (IntKind.i64.wrap (0 - sign)) (by omega)
        have sd := sub_drop C i
        have dl : (C.drop (i + 1)).length = C.length - (i + 1) := by simp
        have e : i + (C.length - (i + 1)) = C.length - 1 := by omega
        have one : C.length - (C.length - 1) = 1 := by omega
        have rep : List.replicate 1 (0 : Int) = [0] := rfl
        have dlst := del_list C i hiC
        have ha0 : nth R 0 = (a : Int) := ha
        have dlst' : AM.sub (overL (overL C i (C.drop (i + 1))) (C.length - 1) [(0 : Int)]) ((0 : Nat) : Int) ((C.length - 1 : Nat) : Int) = C.take i ++ C.drop (i + 1) := dlst
        have lo : decide ((overL (overL C i (C.drop (i + 1))) (C.length - 1) [(0 : Int)]).length = C.length) = true := decide_eq_true (by simp [overL]; omega)
        have dI := delI hiC
        have w1' : spec_l06Without_g C (i : Int) = some () := by
          have q1 : sok (0 : Int) (i : Int) C.length = true := sok_iff.2 ⟨by omega, by omega, by omega⟩
          have q2 : sok ((i + 1 : Nat) : Int) ((C.length : Nat) : Int) C.length = true := sok_iff.2 ⟨by omega, by omega, by omega⟩
          have q3 : fits (AM.sub C (0 : Int) (i : Int)).length = true := fitsN (by unfold AM.sub; simp; omega)
          have q4 : fits (AM.sub C (0 : Int) (i : Int) ++ AM.sub C ((i + 1 : Nat) : Int) ((C.length : Nat) : Int)).length = true := fitsN (by unfold AM.sub; simp; omega)
          simp only [spec_l06Without_g, spec_l06Without_T, Tree.run, e1, List.nil_append, q1, q2, q3, q4, if_true]
        have ws : AM.sub C (0 : Int) (i : Int) ++ AM.sub C ((i + 1 : Nat) : Int) ((C.length : Nat) : Int) = C.take i ++ C.drop (i + 1) := by
          unfold AM.sub
          simp only [Int.toNat_natCast, Int.toNat_zero, List.drop_zero, Nat.sub_zero]
          congr 1
          rw [List.take_of_length_le (by omega)]
          try rfl
        refine ⟨v, wi_inl (T := fun s => (impl_Whole_minor_i2_l0_T n n M R C s).run) ?_ g1, wi_inl (T := fun s => (spec_l06Minor_i2_l0_T n n M R C s).run) ?_ g2⟩
        · simp only [impl_Whole_minor_i2_l0_T, Tree.run, k0, kC, kR, kS, ha0, hb, Int.toNat_natCast, Int.toNat_zero, Nat.zero_add, Nat.sub_zero, List.nil_append, aI, dz, e1, cl, dI, sd, dl, e, one, rep, lo, sR, dlst', m1, Option.bind_some, Bool.not_false, if_true]
        · simp only [spec_l06Minor_i2_l0_T, Tree.run, k0, kC, kR, kS, ha, hb, Int.toNat_natCast, List.nil_append, aS, dz, e1, w1', ws, sR, m2, Option.bind_some, Bool.not_false, if_true]
  obtain ⟨v, g1, g2⟩ := loop C.length 0 0 1 (by omega)
  have g1' : impl_Whole_minor_i2_l0_g n n M R C ((0 : Int), (1 : Int), (0 : Int)) = some v := g1
  have g2' : spec_l06Minor_i2_l0_g n n M R C ((0 : Int), (1 : Int), (0 : Int)) = some v := g2
  exact ⟨v, by simp only [impl_Whole_minor_i2_g, impl_Whole_minor_i2_T, Tree.run, d0, g1', Option.bind_some, Bool.false_eq_true, if_false, if_true], by simp only [spec_l06Minor_i2_g, spec_l06Minor_i2_T, Tree.run, d0, g2', Option.bind_some, Bool.false_eq_true, if_false, if_true]⟩
theorem mn2 {n : Nat} {M : List Int} (hn : n ≤ 4) (hM : M.length = n * n) {R C : List Int} (hL : R.length = C.length) (ht : R.length ≤ 2) (hR : ∀ x ∈ R, ∃ a : Nat, x = a ∧ a < n) (hC : ∀ x ∈ C, ∃ a : Nat, x = a ∧ a < n) :
    ∃ v, impl_Whole_minor_i1_g n n M R C = some v ∧ spec_l06Minor_i1_g n n M R C = some v := by
  by_cases h0 : R.length = 0
  · have d0 : decide (((R.length : Nat) : Int) = (0 : Int)) = true := decide_eq_true (by omega)
    exact ⟨1, by simp only [impl_Whole_minor_i1_g, impl_Whole_minor_i1_T, Tree.run, d0, if_true], by simp only [spec_l06Minor_i1_g, spec_l06Minor_i1_T, Tree.run, d0, if_true]⟩
  have d0 : decide (((R.length : Nat) : Int) = (0 : Int)) = false := decide_eq_false (by omega)
  have r0 : nth R (Int.toNat (0 : Int)) ∈ R := by
    show nth R 0 ∈ R
    rw [nth_of _ _ (by omega)]; exact List.getElem_mem _
  obtain ⟨a, ha, han⟩ := hR _ r0
  have kR : inb (0 : Int) R.length = true := inb_iff.2 ⟨by omega, by omega⟩
  have kS : sok (1 : Int) ((R.length : Nat) : Int) R.length = true := sok_iff.2 ⟨by omega, by omega, by omega⟩
  have sR : AM.sub R (1 : Int) ((R.length : Nat) : Int) = R.drop 1 := by
    unfold AM.sub
    simp only [Int.toNat_natCast]
    rw [List.take_of_length_le (by omega)]
    try rfl
  have cl : slices_CloneI_g C = some () := by
    have q1 : decide (0 < C.length) = true := decide_eq_true (by omega)
    have q2 : fits C.length = true := fitsN (by omega)
    simp only [slices_CloneI_g, slices_CloneI_T, Tree.run, List.nil_append, q1, q2, if_true]
  have loop : ∀ (d i : Nat) (det sign : Int), i + d = C.length → ∃ v, impl_Whole_minor_i1_l0_g n n M R C (det, sign, (i : Int)) = some v ∧ spec_l06Minor_i1_l0_g n n M R C (det, sign, (i : Int)) = some v := by
    intro d
    induction d with
    | zero =>
      intro i det sign hi
      have k0 : decide ((i : Int) < ((C.length : Nat) : Int)) = false := decide_eq_false (by omega)
      exact ⟨det, wi_inr (T := fun s => (impl_Whole_minor_i1_l0_T n n M R C s).run) (by simp only [impl_Whole_minor_i1_l0_T, Tree.run, k0, Bool.false_eq_true, if_false]), wi_inr (T := fun s => (spec_l06Minor_i1_l0_T n n M R C s).run) (by simp only [spec_l06Minor_i1_l0_T, Tree.run, k0, Bool.false_eq_true, if_false])⟩
    | succ d ih =>
      intro i det sign hi
      have k0 : decide ((i : Int) < ((C.length : Nat) : Int)) = true := decide_eq_true (by omega)
      have kC : inb (i : Int) C.length = true := inb_iff.2 ⟨by omega, by omega⟩
      have hiC : i < C.length := by omega
      obtain ⟨b, hb, hbn⟩ := hC (nth C i) (by rw [nth_of _ _ hiC]; exact List.getElem_mem _)
      have aI := atWI (i := a) (k := b) han hbn (show n ≤ 6 by omega) (show n ≤ 6 by omega) hM
      have aS := atWS (i := a) (k := b) han hbn (show n ≤ 6 by omega) (show n ≤ 6 by omega) hM
      have e1 := w1 (show i ≤ 1000 by omega)
      by_cases hz : nth M (a * n + b) = 0
      · have dz : decide (nth M (a * n + b) = 0) = true := decide_eq_true hz
        obtain ⟨v, g1, g2⟩ := ih (i + 1) det (IntKind.i64.wrap (0 - sign)) (by omega)
        exact ⟨v, wi_inl (T := fun s => (impl_Whole_minor_i1_l0_T n n M R C s).run) (by simp only [impl_Whole_minor_i1_l0_T, Tree.run, k0, kC, kR, ha, hb, Int.toNat_natCast, aI, dz, e1, Option.bind_some, Bool.not_true, Bool.false_eq_true, if_false, if_true]) g1, wi_inl (T := fun s => (spec_l06Minor_i1_l0_T n n M R C s).run) (by simp only [spec_l06Minor_i1_l0_T, Tree.run, k0, kC, kR, ha, hb, Int.toNat_natCast, aS, dz, e1, Option.bind_some, Bool.not_true, Bool.false_eq_true, if_false, if_true]) g2⟩
      · have dz : decide (nth M (a * n + b) = 0) = false := decide_eq_false hz
        have hCl : (C.take i ++ C.drop (i + 1)).length = C.length - 1 := by simp; omega
        obtain ⟨u, m1, m2⟩ := mn1 hn hM (R := R.drop 1) (C := C.take i ++ C.drop (i + 1)) (by rw [hCl]; simp; omega) (by simp; omega) (fun x hx => hR x (List.mem_of_mem_drop hx)) (fun x hx => hC x (by
          rcases List.mem_append.1 hx with h | h
          · exact List.mem_of_mem_take h
          · exact List.mem_of_mem_drop h))
        obtain ⟨v, g1, g2⟩ := ih (i + 1) (IntKind.i64.wrap (det + (IntKind.i64.wrap ((IntKind.i64.wrap (sign * nth M (a * n + b))) * u)))) (IntKind.i64.wrap (0 - sign)) (by omega)
        have sd := sub_drop C i
        have dl : (C.drop (i + 1)).length = C.length - (i + 1) := by simp
        have e : i + (C.length - (i + 1)) = C.length - 1 := by omega
        have one : C.length - (C.length - 1) = 1 := by omega
        have rep : List.replicate 1 (0 : Int) = [0] := rfl
        have dlst := del_list C i hiC
        have ha0 : nth R 0 = (a : Int) := ha
        have dlst' : AM.sub (overL (overL C i (C.drop (i + 1))) (C.length - 1) [(0 : Int)]) ((0 : Nat) : Int) ((C.length - 1 : Nat) : Int) = C.take i ++ C.drop (i + 1) := dlst
        have lo : decide ((overL (overL C i (C.drop (i + 1))) (C.length - 1) [(0 : Int)]).length = C.length) = true := decide_eq_true (by simp [overL]; omega)
        have dI := delI hiC
        have w1' : spec_l06Without_g C (i : Int) = some () := by
          have q1 : sok (0 : Int) (i : Int) C.length = true := sok_iff.2 ⟨by omega, by omega, by omega⟩
          have q2 : sok ((i + 1 : Nat) : Int) ((C.length : Nat) : Int) C.length = true := sok_iff.2 ⟨by omega, by omega, by omega⟩
          have q3 : fits (AM.sub C (0 : Int) (i : Int)).length = true := fitsN (by unfold AM.sub; simp; omega)
          have q4 : fits (AM.sub C (0 : Int) (i : Int) ++ AM.sub C ((i + 1 : Nat) : Int) ((C.length : Nat) : Int)).length = true := fitsN (by unfold AM.sub; simp; omega)
          simp only [spec_l06Without_g, spec_l06Without_T, Tree.run, e1, List.nil_append, q1, q2, q3, q4, if_true]
        have ws : AM.sub C (0 : Int) (i : Int) ++ AM.sub C ((i + 1 : Nat) : Int) ((C.length : Nat) : Int) = C.take i ++ C.drop (i + 1) := by
          unfold AM.sub
          simp only [Int.toNat_natCast, Int.toNat_zero, List.drop_zero, Nat.sub_zero]
          congr 1
          rw [List.take_of_length_le (by omega)]
          try rfl
        refine ⟨v, wi_inl (T := fun s => (impl_Whole_minor_i1_l0_T n n M R C s).run) ?_ g1, wi_inl (T := fun s => (spec_l06Minor_i1_l0_T n n M R C s).run) ?_ g2⟩
        · simp only [impl_Whole_minor_i1_l0_T, Tree.run, k0, kC, kR, kS, ha0, hb, Int.toNat_natCast, Int.toNat_zero, Nat.zero_add, Nat.sub_zero, List.nil_append, aI, dz, e1, cl, dI, sd, dl, e, one, rep, lo, sR, dlst', m1, Option.bind_some, Bool.not_false, if_true]
        · simp only [spec_l06Minor_i1_l0_T, Tree.run, k0, kC, kR, kS, ha, hb, Int.toNat_natCast, List.nil_append, aS, dz, e1, w1', ws, sR, m2, Option.bind_some, Bool.not_false, if_true]
  obtain ⟨v, g1, g2⟩ := loop C.length 0 0 1 (by omega)
  have g1' : impl_Whole_minor_i1_l0_g n n M R C ((0 : Int), (1 : Int), (0 : Int)) = some v := g1
  have g2' : spec_l06Minor_i1_l0_g n n M R C ((0 : Int), (1 : Int), (0 : Int)) = some v := g2
  exact ⟨v, by simp only [impl_Whole_minor_i1_g, impl_Whole_minor_i1_T, Tree.run, d0, g1', Option.bind_some, Bool.false_eq_true, if_false, if_true], by simp only [spec_l06Minor_i1_g, spec_l06Minor_i1_T, Tree.run, d0, g2', Option.bind_some, Bool.false_eq_true, if_false, if_true]⟩
theorem mn3 {n : Nat} {M : List Int} (hn : n ≤ 4) (hM : M.length = n * n) {R C : List Int} (hL : R.length = C.length) (ht : R.length ≤ 3) (hR : ∀ x ∈ R, ∃ a : Nat, x = a ∧ a < n) (hC : ∀ x ∈ C, ∃ a : Nat, x = a ∧ a < n) :
    ∃ v, impl_Whole_minor_g n n M R C = some v ∧ spec_l06Minor_g n n M R C = some v := by
  by_cases h0 : R.length = 0
  · have d0 : decide (((R.length : Nat) : Int) = (0 : Int)) = true := decide_eq_true (by omega)
    exact ⟨1, by simp only [impl_Whole_minor_g, impl_Whole_minor_T, Tree.run, d0, if_true], by simp only [spec_l06Minor_g, spec_l06Minor_T, Tree.run, d0, if_true]⟩
  have d0 : decide (((R.length : Nat) : Int) = (0 : Int)) = false := decide_eq_false (by omega)
  have r0 : nth R (Int.toNat (0 : Int)) ∈ R := by
    show nth R 0 ∈ R
    rw [nth_of _ _ (by omega)]; exact List.getElem_mem _
  obtain ⟨a, ha, han⟩ := hR _ r0
  have kR : inb (0 : Int) R.length = true := inb_iff.2 ⟨by omega, by omega⟩
  have kS : sok (1 : Int) ((R.length : Nat) : Int) R.length = true := sok_iff.2 ⟨by omega, by omega, by omega⟩
  have sR : AM.sub R (1 : Int) ((R.length : Nat) : Int) = R.drop 1 := by
    unfold AM.sub
    simp only [Int.toNat_natCast]
    rw [List.take_of_length_le (by omega)]
    try rfl
  have cl : slices_CloneI_g C = some () := by
    have q1 : decide (0 < C.length) = true := decide_eq_true (by omega)
    have q2 : fits C.length = true := fitsN (by omega)
    simp only [slices_CloneI_g, slices_CloneI_T, Tree.run, List.nil_append, q1, q2, if_true]
  have loop : ∀ (d i : Nat) (det sign : Int), i + d = C.length → ∃ v, impl_Whole_minor_l0_g n n M R C (det, sign, (i : Int)) = some v ∧ spec_l06Minor_l0_g n n M R C (det, sign, (i : Int)) = some v := by
    intro d
    induction d with
    | zero =>
      intro i det sign hi
      have k0 : decide ((i : Int) < ((C.length : Nat) : Int)) = false := decide_eq_false (by omega)
      exact ⟨det, wi_inr (T := fun s => (impl_Whole_minor_l0_T n n M R C s).run) (by simp only [impl_Whole_minor_l0_T, Tree.run, k0, Bool.false_eq_true, if_false]), wi_inr (T := fun s => (spec_l06Minor_l0_T n n M R C s).run) (by simp only [spec_l06Minor_l0_T, Tree.run, k0, Bool.false_eq_true, if_false])⟩
    | succ d ih =>
      intro i det sign hi
      have k0 : decide ((i : Int) < ((C.length : Nat) : Int)) = true := decide_eq_true (by omega)
      have kC : inb (i : Int) C.length = true := inb_iff.2 ⟨by omega, by omega⟩
      have hiC : i < C.length := by omega
      obtain ⟨b, hb, hbn⟩ := hC (nth C i) (by rw [nth_of _ _ hiC]; exact List.getElem_mem _)
      have aI := atWI (i := a) (k := b) han hbn (show n ≤ 6 by omega) (show n ≤ 6 by omega) hM
      have aS := atWS (i := a) (k := b) han hbn (show n ≤ 6 by omega) (show n ≤ 6 by omega) hM
      have e1 := w1 (show i ≤ 1000 by omega)
      by_cases hz : nth M (a * n + b) = 0
      · have dz : decide (nth M (a * n + b) = 0) = true := decide_eq_true hz
        obtain ⟨v, g1, g2⟩ := ih (i + 1) det (IntKind.i64.wrap (0 - sign)) (by omega)
        exact ⟨v, wi_inl (T := fun s => (impl_Whole_minor_l0_T n n M R C s).run) (by simp only [impl_Whole_minor_l0_T, Tree.run, k0, kC, kR, ha, hb, Int.toNat_natCast, aI, dz, e1, Option.bind_some, Bool.not_true, Bool.false_eq_true, if_false, if_true]) g1, wi_inl (T := fun s => (spec_l06Minor_l0_T n n M R C s).run) (by simp only [spec_l06Minor_l0_T, Tree.run, k0, kC, kR, ha, hb, Int.toNat_natCast, aS, dz, e1, Option.bind_some, Bool.not_true, Bool.false_eq_true, if_false, if_true]) g2⟩
      · have dz : decide (nth M (a * n + b) = 0) = false := decide_eq_false hz
        have hCl : (C.take i ++ C.drop (i + 1)).length = C.length - 1 := by simp; omega
        obtain ⟨u, m1, m2⟩ := mn2 hn hM (R := R.drop 1) (C := C.take i ++ C.drop (i + 1)) (by rw [hCl]; simp; omega) (by simp; omega) (fun x hx => hR x (List.mem_of_mem_drop hx)) (fun x hx => hC x (by
          rcases List.mem_append.1 hx with h | h
          · exact List.mem_of_mem_take h
          · exact List.mem_of_mem_drop h))
        obtain ⟨v, g1, g2⟩ := ih (i + 1) (IntKind.i64.wrap (det + (IntKind.i64.wrap ((IntKind.i64.wrap (sign * nth M (a * n + b))) * u)))) (IntKind.i64.wrap (0 - sign)) (by omega)
        have sd := sub_drop C i
        have dl : (C.drop (i + 1)).length = C.length - (i + 1) := by simp
        have e : i + (C.length - (i + 1)) = C.length - 1 := by omega
        have one : C.length - (C.length - 1) = 1 := by omega
        have rep : List.replicate 1 (0 : Int) = [0] := rfl
        have dlst := del_list C i hiC
        have ha0 : nth R 0 = (a : Int) := ha
        have dlst' : AM.sub (overL (overL C i (C.drop (i + 1))) (C.length - 1) [(0 : Int)]) ((0 : Nat) : Int) ((C.length - 1 : Nat) : Int) = C.take i ++ C.drop (i + 1) := dlst
        have lo : decide ((overL (overL C i (C.drop (i + 1))) (C.length - 1) [(0 : Int)]).length = C.length) = true := decide_eq_true (by simp [overL]; omega)
        have dI := delI hiC
        have w1' : spec_l06Without_g C (i : Int) = some () := by
          have q1 : sok (0 : Int) (i : Int) C.length = true := sok_iff.2 ⟨by omega, by omega, by omega⟩
          have q2 : sok ((i + 1 : Nat) : Int) ((C.length : Nat) : Int) C.length = true := sok_iff.2 ⟨by omega, by omega, by omega⟩
          have q3 : fits (AM.sub C (0 : Int) (i : Int)).length = true := fitsN (by unfold AM.sub; simp; omega)
          have q4 : fits (AM.sub C (0 : Int) (i : Int) ++ AM.sub C ((i + 1 : Nat) : Int) ((C.length : Nat) : Int)).length = true := fitsN (by unfold AM.sub; simp; omega)
          simp only [spec_l06Without_g, spec_l06Without_T, Tree.run, e1, List.nil_append, q1, q2, q3, q4, if_true]
        have ws : AM.sub C (0 : Int) (i : Int) ++ AM.sub C ((i + 1 : Nat) : Int) ((C.length : Nat) : Int) = C.take i ++ C.drop (i + 1) := by
          unfold AM.sub
          simp only [Int.toNat_natCast, Int.toNat_zero, List.drop_zero, Nat.sub_zero]
          congr 1
          rw [List.take_of_length_le (by omega)]
          try rfl
        refine ⟨v, wi_inl (T := fun s => (impl_Whole_minor_l0_T n n M R C s).run) ?_ g1, wi_inl (T := fun s => (spec_l06Minor_l0_T n n M R C s).run) ?_ g2⟩
        · simp only [impl_Whole_minor_l0_T, Tree.run, k0, kC, kR, kS, ha0, hb, Int.toNat_natCast, Int.toNat_zero, Nat.zero_add, Nat.sub_zero, List.nil_append, aI, dz, e1, cl, dI, sd, dl, e, one, rep, lo, sR, dlst', m1, Option.bind_some, Bool.not_false, if_true]
        · simp only [spec_l06Minor_l0_T, Tree.run, k0, kC, kR, kS, ha, hb, Int.toNat_natCast, List.nil_append, aS, dz, e1, w1', ws, sR, m2, Option.bind_some, Bool.not_false, if_true]
  obtain ⟨v, g1, g2⟩ := loop C.length 0 0 1 (by omega)
  have g1' : impl_Whole_minor_l0_g n n M R C ((0 : Int), (1 : Int), (0 : Int)) = some v := g1
  have g2' : spec_l06Minor_l0_g n n M R C ((0 : Int), (1 : Int), (0 : Int)) = some v := g2
  exact ⟨v, by simp only [impl_Whole_minor_g, impl_Whole_minor_T, Tree.run, d0, g1', Option.bind_some, Bool.false_eq_true, if_false, if_true], by simp only [spec_l06Minor_g, spec_l06Minor_T, Tree.run, d0, g2', Option.bind_some, Bool.false_eq_true, if_false, if_true]⟩
end Go.Proofs.Ytbjnjaclmcpbbaa.AM
