/- The abstract machine, part 4: floats: one word for all NaNs. -/
import Derived.Test.YtmgpbchacndndaaA3
set_option linter.unusedSimpArgs false
set_option linter.unusedVariables false
namespace Go.Proofs.Ytmgpbchacndndaa.AM

theorem isNan_iff {k : FloatKind} {b : Nat} : isNan k b = true ↔ ∃ s f, k.decode b = .nan s f := by
  unfold isNan Ieee.Datum.isNaN
  cases k.decode b <;> simp

theorem decode_qnan (k : FloatKind) : ∃ s f, k.decode (qnan k) = .nan s f := by
  cases k
  · exact ⟨false, 4194304, by kernel_rfl⟩
  · exact ⟨false, 2251799813685248, by kernel_rfl⟩

theorem isNan_qnan (k : FloatKind) : isNan k (qnan k) = true := isNan_iff.2 (decode_qnan k)

theorem canon_nan {k : FloatKind} {b : Nat} (h : isNan k b = true) : canon k b = qnan k := by simp [canon, h]
theorem canon_num {k : FloatKind} {b : Nat} (h : isNan k b = false) : canon k b = b := by simp [canon, h]
theorem canon_canon (k : FloatKind) (b : Nat) : canon k (canon k b) = canon k b := by
  cases h : isNan k b
  · rw [canon_num h, canon_num h]
  · rw [canon_nan h, canon_nan (isNan_qnan k)]
theorem isNan_canon (k : FloatKind) (b : Nat) : isNan k (canon k b) = isNan k b := by
  cases h : isNan k b
  · rw [canon_num h, h]
  · rw [canon_nan h, isNan_qnan]

theorem decode_canon (k : FloatKind) (b : Nat) : (∃ s f s' f', k.decode b = .nan s f ∧ k.decode (canon k b) = .nan s' f') ∨ canon k b = b := by
  cases h : isNan k b
  · exact .inr (canon_num h)
  · obtain ⟨s, f, h1⟩ := isNan_iff.1 h
    obtain ⟨s', f', h2⟩ := decode_qnan k
    exact .inl ⟨s, f, s', f', h1, by rw [canon_nan h]; exact h2⟩

theorem order_canon (k : FloatKind) (b c : Nat) : k.format.order (canon k b) (canon k c) = k.format.order b c := by
  have key : ∀ b c, k.format.order b c = (k.decode b).order (k.decode c) := fun _ _ => rfl
  rw [key, key]
  rcases decode_canon k b with ⟨s, f, s', f', h1, h2⟩ | hb
  · rw [h1, h2]; simp [Ieee.Datum.order]
  · rw [hb]
    rcases decode_canon k c with ⟨s, f, s', f', h1, h2⟩ | hc
    · rw [h1, h2]; cases k.decode b <;> simp [Ieee.Datum.order]
    · rw [hc]

theorem sum_nan_left (s : Bool) (f : Nat) (e : Ieee.Datum) : (Ieee.Datum.nan s f).sum e = none := by cases e <;> rfl
theorem sum_nan_right (s : Bool) (f : Nat) (e : Ieee.Datum) : e.sum (Ieee.Datum.nan s f) = none := by cases e <;> rfl
theorem product_nan_left (s : Bool) (f : Nat) (e : Ieee.Datum) : (Ieee.Datum.nan s f).product e = none := by cases e <;> rfl
theorem product_nan_right (s : Bool) (f : Nat) (e : Ieee.Datum) : e.product (Ieee.Datum.nan s f) = none := by cases e <;> rfl
theorem quotient_nan_left (n : Nat) (s : Bool) (f : Nat) (e : Ieee.Datum) : (Ieee.Datum.nan s f).quotient n e = none := by cases e <;> rfl
theorem quotient_nan_right (n : Nat) (s : Bool) (f : Nat) (e : Ieee.Datum) : e.quotient n (Ieee.Datum.nan s f) = none := by cases e <;> rfl

/-- An operation that a NaN spoils does not see which NaN it is. -/
theorem op_canon {α : Type} (k : FloatKind) (F : Ieee.Datum → Ieee.Datum → Option α) (h1 : ∀ s f e, F (.nan s f) e = none) (h2 : ∀ s f e, F e (.nan s f) = none) (b c : Nat) :
    F (k.decode (canon k b)) (k.decode (canon k c)) = F (k.decode b) (k.decode c) := by
  rcases decode_canon k b with ⟨s, f, s', f', e1, e2⟩ | hb
  · rw [e1, e2, h1, h1]
  · rw [hb]
    rcases decode_canon k c with ⟨s, f, s', f', e1, e2⟩ | hc
    · rw [e1, e2, h2, h2]
    · rw [hc]

theorem add_canon (k : FloatKind) (b c : Nat) : k.format.add (canon k b) (canon k c) = k.format.add b c :=
  congrArg (Option.map k.format.write) (op_canon k (fun d e => d.sum e) (fun _ _ _ => sum_nan_left _ _ _) (fun _ _ _ => sum_nan_right _ _ _) b c)
theorem sub_canon (k : FloatKind) (b c : Nat) : k.format.sub (canon k b) (canon k c) = k.format.sub b c :=
  congrArg (Option.map k.format.write) (op_canon k (fun d e => d.sum e.opposite) (fun _ _ _ => sum_nan_left _ _ _) (fun _ _ _ => sum_nan_right _ _ _) b c)
theorem mul_canon (k : FloatKind) (b c : Nat) : k.format.mul (canon k b) (canon k c) = k.format.mul b c :=
  congrArg (Option.map k.format.write) (op_canon k (fun d e => d.product e) (fun _ _ _ => product_nan_left _ _ _) (fun _ _ _ => product_nan_right _ _ _) b c)
theorem div_canon (k : FloatKind) (b c : Nat) : k.format.div (canon k b) (canon k c) = k.format.div b c :=
  congrArg (Option.map k.format.write) (op_canon k (fun d e => d.quotient (k.format.fractionBits + 2) e) (fun _ _ _ => quotient_nan_left _ _ _ _) (fun _ _ _ => quotient_nan_right _ _ _ _) b c)

theorem isNan_f32 (b : Nat) : isNan .f32 b = decide (2139095040 < b % 2147483648) := by
  unfold isNan FloatKind.decode FloatKind.format Ieee.Format.read
  have e1 : Ieee.single.signWeight = 2147483648 := by kernel_rfl
  have e2 : Ieee.single.binade = 8388608 := by kernel_rfl
  have e3 : Ieee.single.infRung = 2139095040 := by kernel_rfl
  simp only [e1, e2, e3]
  split
  · rename_i h; simp [Ieee.Datum.isNaN]; omega
  · split
    · rename_i h; simp [Ieee.Datum.isNaN]; omega
    · split
      · rename_i h; simp [Ieee.Datum.isNaN]; omega
      · rename_i h1 h2 h3; simp [Ieee.Datum.isNaN]; omega
theorem isNan_f64 (b : Nat) : isNan .f64 b = decide (9218868437227405312 < b % 9223372036854775808) := by
  unfold isNan FloatKind.decode FloatKind.format Ieee.Format.read
  have e1 : Ieee.double.signWeight = 9223372036854775808 := by kernel_rfl
  have e2 : Ieee.double.binade = 4503599627370496 := by kernel_rfl
  have e3 : Ieee.double.infRung = 9218868437227405312 := by kernel_rfl
  simp only [e1, e2, e3]
  split
  · rename_i h; simp [Ieee.Datum.isNaN]; omega
  · split
    · rename_i h; simp [Ieee.Datum.isNaN]; omega
    · split
      · rename_i h; simp [Ieee.Datum.isNaN]; omega
      · rename_i h1 h2 h3; simp [Ieee.Datum.isNaN]; omega

theorem isNan_drawn (k : FloatKind) (t : Nat) :
    isNan k (match k with
      | .f32 => (t % 2) * 2 ^ 31 + 0x7f800000 + 1 + (t / 2) % (2 ^ 23 - 1)
      | .f64 => (t % 2) * 2 ^ 63 + 0x7ff0000000000000 + 1 + (t / 2) % (2 ^ 52 - 1)) = true := by
  cases k
  · simp only [isNan_f32]
    have h1 : t % 2 < 2 := Nat.mod_lt _ (by omega)
    have h2 : (t / 2) % (2 ^ 23 - 1) < 2 ^ 23 - 1 := Nat.mod_lt _ (by omega)
    generalize t % 2 = a at *
    generalize (t / 2) % (2 ^ 23 - 1) = c at *
    have ha : a = 0 ∨ a = 1 := by omega
    rcases ha with rfl | rfl <;> simp <;> omega
  · simp only [isNan_f64]
    have h1 : t % 2 < 2 := Nat.mod_lt _ (by omega)
    have h2 : (t / 2) % (2 ^ 52 - 1) < 2 ^ 52 - 1 := Nat.mod_lt _ (by omega)
    generalize t % 2 = a at *
    generalize (t / 2) % (2 ^ 52 - 1) = c at *
    have ha : a = 0 ∨ a = 1 := by omega
    rcases ha with rfl | rfl <;> simp <;> omega

theorem cut_nanBits (k : FloatKind) (x y t : Nat) : isNan k ((Question.nanBits k x y).cut t) = true := by
  cases k
  · exact isNan_drawn .f32 t
  · exact isNan_drawn .f64 t
theorem cut_nanConv (k : FloatKind) (x t : Nat) : isNan k ((Question.nanConv k x).cut t) = true := by
  cases k
  · exact isNan_drawn .f32 t
  · exact isNan_drawn .f64 t
theorem cut_nanMinMax (k : FloatKind) (m : Bool) (x y t : Nat) : isNan k ((Question.nanMinMax k m x y).cut t) = true := by
  cases k
  · exact isNan_drawn .f32 t
  · exact isNan_drawn .f64 t

theorem negFloat_nan (k : FloatKind) (b : Nat) : isNan k (Op.negFloat k b) = isNan k b := by
  cases k
  · rw [isNan_f32, isNan_f32]
    have : Op.negFloat .f32 b % 2147483648 = b % 2147483648 := by
      have e : Op.negFloat .f32 b = b ^^^ 2 ^ 31 := rfl
      rw [e, show (2147483648 : Nat) = 2 ^ 31 from rfl, Nat.xor_mod_two_pow]
      simp
    rw [this]
  · rw [isNan_f64, isNan_f64]
    have : Op.negFloat .f64 b % 9223372036854775808 = b % 9223372036854775808 := by
      have e : Op.negFloat .f64 b = b ^^^ 2 ^ 63 := rfl
      rw [e, show (9223372036854775808 : Nat) = 2 ^ 63 from rfl, Nat.xor_mod_two_pow]
      simp
    rw [this]

theorem fneg_canon (k : FloatKind) (b : Nat) : fneg k (canon k b) = canon k (Op.negFloat k b) := by
  unfold fneg
  cases h : isNan k b
  · rw [canon_num h]
  · rw [canon_nan h, canon_nan (b := Op.negFloat k b) (by rw [negFloat_nan]; exact h), canon_nan (by rw [negFloat_nan]; exact isNan_qnan k)]

/-! runs -/
theorem run_choose (P : Program) (q : Question) (w : World) (hf : q.forced = false) : (choose q).run P w = .ok (q.cut (w.tape w.drawn q)) w.drew := by
  simp [choose, Sem.run, hf]

theorem run_floatArith (P : Program) (w : World) (op : BinOp) (k : FloatKind) (b c r : Nat) (hr : fbin op k (canon k b) (canon k c) = some (.flt k r)) :
    ∃ v w', (Op.floatArith op k b c).run P w = .ok (.float k v) w' ∧ canon k v = r ∧ w'.heap = w.heap ∧ w'.os = w.os ∧ w'.tape = w.tape ∧ w'.output = w.output := by
  have hc : (choose (.nanBits k b c)).run P w = .ok ((Question.nanBits k b c).cut (w.tape w.drawn (.nanBits k b c))) w.drew := run_choose P _ w rfl
  cases op <;> simp only [fbin, Option.some.injEq, AV.flt.injEq, reduceCtorEq, true_and] at hr
  · rw [fadd, add_canon] at hr
    unfold Op.floatArith
    cases ho : k.format.add b c with
    | some x => rw [ho] at hr; exact ⟨x, w, by simp, by simpa [fres] using hr, rfl, rfl, rfl, rfl⟩
    | none => rw [ho] at hr; exact ⟨_, w.drew, by simp [hc]; rfl, by rw [canon_nan (cut_nanBits k b c _)]; simpa [fres] using hr, rfl, rfl, rfl, rfl⟩
  · rw [fsub, sub_canon] at hr
    unfold Op.floatArith
    cases ho : k.format.sub b c with
    | some x => rw [ho] at hr; exact ⟨x, w, by simp, by simpa [fres] using hr, rfl, rfl, rfl, rfl⟩
    | none => rw [ho] at hr; exact ⟨_, w.drew, by simp [hc]; rfl, by rw [canon_nan (cut_nanBits k b c _)]; simpa [fres] using hr, rfl, rfl, rfl, rfl⟩
  · rw [fmul, mul_canon] at hr
    unfold Op.floatArith
    cases ho : k.format.mul b c with
    | some x => rw [ho] at hr; exact ⟨x, w, by simp, by simpa [fres] using hr, rfl, rfl, rfl, rfl⟩
    | none => rw [ho] at hr; exact ⟨_, w.drew, by simp [hc]; rfl, by rw [canon_nan (cut_nanBits k b c _)]; simpa [fres] using hr, rfl, rfl, rfl, rfl⟩
  · rw [fdiv, div_canon] at hr
    unfold Op.floatArith
    cases ho : k.format.div b c with
    | some x => rw [ho] at hr; exact ⟨x, w, by simp, by simpa [fres] using hr, rfl, rfl, rfl, rfl⟩
    | none => rw [ho] at hr; exact ⟨_, w.drew, by simp [hc]; rfl, by rw [canon_nan (cut_nanBits k b c _)]; simpa [fres] using hr, rfl, rfl, rfl, rfl⟩

theorem decode_conv (k : FloatKind) (b : Nat) {α : Type} (F : Ieee.Datum → α) (h : ∀ s f s' f', F (.nan s f) = F (.nan s' f')) : F (k.decode (canon k b)) = F (k.decode b) := by
  rcases decode_canon k b with ⟨s, f, s', f', e1, e2⟩ | hb
  · rw [e1, e2]; exact h _ _ _ _
  · rw [hb]

theorem ftoint_canon (k : FloatKind) (b : Nat) (d : IntKind) : ftoint k (canon k b) d = ftoint k b d := by
  unfold ftoint
  rw [decode_conv k b (fun x => x.toInt .zero) (fun _ _ _ _ => rfl)]

theorem fconv_canon (k : FloatKind) (b : Nat) (d : FloatKind) : fconv k (canon k b) d = if k = d then some (canon k b) else fconv k b d := by
  unfold fconv
  by_cases h : k = d
  · simp [h]
  · simp only [h, if_false]
    rcases decode_canon k b with ⟨s, f, s', f', e1, e2⟩ | hb
    · rw [e1, e2]
    · rw [hb]

theorem run_floatToFloat (P : Program) (w : World) (s d : FloatKind) (b r : Nat) (h : fconv s (canon s b) d = some r) :
    ∃ v w', (Conv.floatToFloat s b d).run P w = .ok (.float d v) w' ∧ canon d v = r ∧ w'.heap = w.heap ∧ w'.os = w.os ∧ w'.tape = w.tape ∧ w'.output = w.output := by
  rw [fconv_canon] at h
  unfold Conv.floatToFloat
  by_cases e : s = d
  · subst e
    simp only [if_true, Option.some.injEq] at h
    exact ⟨b, w, by simp, h, rfl, rfl, rfl, rfl⟩
  · rw [if_neg e] at h ⊢
    unfold fconv at h
    rw [if_neg e] at h
    cases hd : s.decode b with
    | nan sg f =>
      rw [hd] at h
      simp only [Option.some.injEq] at h
      refine ⟨_, w.drew, by simp [run_choose, Question.forced]; rfl, ?_, rfl, rfl, rfl, rfl⟩
      rw [canon_nan (cut_nanConv d b _)]; exact h
    | infinity sg =>
      rw [hd] at h
      simp only [Option.some.injEq] at h
      exact ⟨_, w, by simp, h, rfl, rfl, rfl, rfl⟩
    | number sg m ex =>
      rw [hd] at h
      simp only at h ⊢
      split at h
      · cases h
      · rename_i hi
        simp only [Option.some.injEq] at h
        rw [if_neg hi]
        exact ⟨_, w, by simp, h, rfl, rfl, rfl, rfl⟩

end Go.Proofs.Ytmgpbchacndndaa.AM
