import Derived.Test.YtmgpbchacndndaaA3
set_option linter.unusedSimpArgs false
set_option linter.unusedVariables false
namespace Go.Proofs.Ytmgpbchacndndaa.AM
theorem Uy_ {k : FloatKind} {b : Nat} : isNan k b = true ↔ ∃ s f, k.decode b = .nan s f := by
  unfold isNan Ieee.Datum.isNaN
  cases k.decode b <;> simp
theorem Wo_ (k : FloatKind) : ∃ s f, k.decode (qnan k) = .nan s f := by
  cases k
  · exact ⟨false, 4194304, by kernel_rfl⟩
  · exact ⟨false, 2251799813685248, by kernel_rfl⟩
theorem Abx_ (k : FloatKind) : isNan k (qnan k) = true := Uy_.2 (Wo_ k)
theorem Cm_ {k : FloatKind} {b : Nat} (h : isNan k b = true) : canon k b = qnan k := by simp [canon, h]
theorem Kq_ {k : FloatKind} {b : Nat} (h : isNan k b = false) : canon k b = b := by simp [canon, h]
theorem E0_ (k : FloatKind) (b : Nat) : (∃ s f s' f', k.decode b = .nan s f ∧ k.decode (canon k b) = .nan s' f') ∨ canon k b = b := by
  cases h : isNan k b
  · exact .inr (Kq_ h)
  · obtain ⟨s, f, h1⟩ := Uy_.1 h
    obtain ⟨s', f', h2⟩ := Wo_ k
    exact .inl ⟨s, f, s', f', h1, by rw [Cm_ h]; exact h2⟩
theorem Um_ (k : FloatKind) (b c : Nat) : k.format.order (canon k b) (canon k c) = k.format.order b c := by
  have key : ∀ b c, k.format.order b c = (k.decode b).order (k.decode c) := fun _ _ => rfl
  rw [key, key]
  rcases E0_ k b with ⟨s, f, s', f', h1, h2⟩ | hb
  · rw [h1, h2]; simp [Ieee.Datum.order]
  · rw [hb]
    rcases E0_ k c with ⟨s, f, s', f', h1, h2⟩ | hc
    · rw [h1, h2]; cases k.decode b <;> simp [Ieee.Datum.order]
    · rw [hc]
theorem Vv_ (s : Bool) (f : Nat) (e : Ieee.Datum) : (Ieee.Datum.nan s f).sum e = none := by cases e <;> rfl
theorem Vh_ (s : Bool) (f : Nat) (e : Ieee.Datum) : e.sum (Ieee.Datum.nan s f) = none := by cases e <;> rfl
theorem Aex_ (s : Bool) (f : Nat) (e : Ieee.Datum) : (Ieee.Datum.nan s f).product e = none := by cases e <;> rfl
theorem Zm_ (s : Bool) (f : Nat) (e : Ieee.Datum) : e.product (Ieee.Datum.nan s f) = none := by cases e <;> rfl
theorem Acs_ (n : Nat) (s : Bool) (f : Nat) (e : Ieee.Datum) : (Ieee.Datum.nan s f).quotient n e = none := by cases e <;> rfl
theorem Acz_ (n : Nat) (s : Bool) (f : Nat) (e : Ieee.Datum) : e.quotient n (Ieee.Datum.nan s f) = none := by cases e <;> rfl
theorem L6_ {α : Type} (k : FloatKind) (F : Ieee.Datum → Ieee.Datum → Option α) (h1 : ∀ s f e, F (.nan s f) e = none) (h2 : ∀ s f e, F e (.nan s f) = none) (b c : Nat) :
    F (k.decode (canon k b)) (k.decode (canon k c)) = F (k.decode b) (k.decode c) := by
  rcases E0_ k b with ⟨s, f, s', f', e1, e2⟩ | hb
  · rw [e1, e2, h1, h1]
  · rw [hb]
    rcases E0_ k c with ⟨s, f, s', f', e1, e2⟩ | hc
    · rw [e1, e2, h2, h2]
    · rw [hc]
theorem Ap6_ (k : FloatKind) (b c : Nat) : k.format.add (canon k b) (canon k c) = k.format.add b c :=
  congrArg (Option.map k.format.write) (L6_ k (fun d e => d.sum e) (fun _ _ _ => Vv_ _ _ _) (fun _ _ _ => Vh_ _ _ _) b c)
theorem Ap0_ (k : FloatKind) (b c : Nat) : k.format.sub (canon k b) (canon k c) = k.format.sub b c :=
  congrArg (Option.map k.format.write) (L6_ k (fun d e => d.sum e.opposite) (fun _ _ _ => Vv_ _ _ _) (fun _ _ _ => Vh_ _ _ _) b c)
theorem Agr_ (k : FloatKind) (b c : Nat) : k.format.mul (canon k b) (canon k c) = k.format.mul b c :=
  congrArg (Option.map k.format.write) (L6_ k (fun d e => d.product e) (fun _ _ _ => Aex_ _ _ _) (fun _ _ _ => Zm_ _ _ _) b c)
theorem Ahn_ (k : FloatKind) (b c : Nat) : k.format.div (canon k b) (canon k c) = k.format.div b c :=
  congrArg (Option.map k.format.write) (L6_ k (fun d e => d.quotient (k.format.fractionBits + 2) e) (fun _ _ _ => Acs_ _ _ _ _) (fun _ _ _ => Acz_ _ _ _ _) b c)
theorem R9_ (b : Nat) : isNan .f32 b = decide (2139095040 < b % 2147483648) := by
  unfold isNan FloatKind.decode FloatKind.format Ieee.Format.read
  have e1 : Ieee.single.signWeight = 2147483648 := by kernel_rfl
  have e2 : Ieee.single.binade = 8388608 := by kernel_rfl
  have e3 : Ieee.single.infRung = 2139095040 := by kernel_rfl
  simp only [e1, e2, e3]
  split
  · rename_i h; simp [Ieee.Datum.isNaN]; omega
  · split
    · rename_i h; simp [Ieee.Datum.isNaN]; omega
    · split
      · rename_i h; simp [Ieee.Datum.isNaN]; omega
      · rename_i h1 h2 h3; simp [Ieee.Datum.isNaN]; omega
theorem Pz_ (b : Nat) : isNan .f64 b = decide (9218868437227405312 < b % 9223372036854775808) := by
  unfold isNan FloatKind.decode FloatKind.format Ieee.Format.read
  have e1 : Ieee.double.signWeight = 9223372036854775808 := by kernel_rfl
  have e2 : Ieee.double.binade = 4503599627370496 := by kernel_rfl
  have e3 : Ieee.double.infRung = 9218868437227405312 := by kernel_rfl
  simp only [e1, e2, e3]
  split
  · rename_i h; simp [Ieee.Datum.isNaN]; omega
  · split
    · rename_i h; simp [Ieee.Datum.isNaN]; omega
    · split
      · rename_i h; simp [Ieee.Datum.isNaN]; omega
      · rename_i h1 h2 h3; simp [Ieee.Datum.isNaN]; omega
theorem Fp_ (k : FloatKind) (t : Nat) :
    isNan k (match k with
      | .f32 => (t % 2) * 2 ^ 31 + 0x7f800000 + 1 + (t / 2) % (2 ^ 23 - 1)
      | .f64 => (t % 2) * 2 ^ 63 + 0x7ff0000000000000 + 1 + (t / 2) % (2 ^ 52 - 1)) = true := by
  cases k
  · simp only [R9_]
    have h1 : t % 2 < 2 := Nat.mod_lt _ (by omega)
    have h2 : (t / 2) % (2 ^ 23 - 1) < 2 ^ 23 - 1 := Nat.mod_lt _ (by omega)
    generalize t % 2 = a at *
    generalize (t / 2) % (2 ^ 23 - 1) = c at *
    have ha : a = 0 ∨ a = 1 := by omega
    rcases ha with rfl | rfl <;> simp <;> omega
  · simp only [Pz_]
    have h1 : t % 2 < 2 := Nat.mod_lt _ (by omega)
    have h2 : (t / 2) % (2 ^ 52 - 1) < 2 ^ 52 - 1 := Nat.mod_lt _ (by omega)
    generalize t % 2 = a at *
    generalize (t / 2) % (2 ^ 52 - 1) = c at *
    have ha : a = 0 ∨ a = 1 := by omega
    rcases ha with rfl | rfl <;> simp <;> omega
theorem Lp_ (k : FloatKind) (x y t : Nat) : isNan k ((Question.nanBits k x y).cut t) = true := by
  cases k
  · exact Fp_ .f32 t
  · exact Fp_ .f64 t
theorem Acv_ (k : FloatKind) (x t : Nat) : isNan k ((Question.nanConv k x).cut t) = true := by
  cases k
  · exact Fp_ .f32 t
  · exact Fp_ .f64 t
theorem Ag5_ (k : FloatKind) (m : Bool) (x y t : Nat) : isNan k ((Question.nanMinMax k m x y).cut t) = true := by
  cases k
  · exact Fp_ .f32 t
  · exact Fp_ .f64 t
theorem Tw_ (k : FloatKind) (b : Nat) : isNan k (Op.negFloat k b) = isNan k b := by
  cases k
  · rw [R9_, R9_]
    have : Op.negFloat .f32 b % 2147483648 = b % 2147483648 := by
      have e : Op.negFloat .f32 b = b ^^^ 2 ^ 31 := rfl
      rw [e, show (2147483648 : Nat) = 2 ^ 31 from rfl, Nat.xor_mod_two_pow]
      simp
    rw [this]
  · rw [Pz_, Pz_]
    have : Op.negFloat .f64 b % 9223372036854775808 = b % 9223372036854775808 := by
      have e : Op.negFloat .f64 b = b ^^^ 2 ^ 63 := rfl
      rw [e, show (9223372036854775808 : Nat) = 2 ^ 63 from rfl, Nat.xor_mod_two_pow]
      simp
    rw [this]
theorem Ai5_ (k : FloatKind) (b : Nat) : fneg k (canon k b) = canon k (Op.negFloat k b) := by
  unfold fneg
  cases h : isNan k b
  · rw [Kq_ h]
  · rw [Cm_ h, Cm_ (b := Op.negFloat k b) (by rw [Tw_]; exact h), Cm_ (by rw [Tw_]; exact Abx_ k)]
theorem Pp_ (P : Program) (q : Question) (w : World) (hf : q.forced = false) : (choose q).run P w = .ok (q.cut (w.tape w.drawn q)) w.drew := by
  simp [choose, Sem.run, hf]
theorem Als_ (P : Program) (w : World) (op : BinOp) (k : FloatKind) (b c r : Nat) (hr : fbin op k (canon k b) (canon k c) = some (.flt k r)) :
    ∃ v w', (Op.floatArith op k b c).run P w = .ok (.float k v) w' ∧ canon k v = r ∧ w'.heap = w.heap ∧ w'.os = w.os ∧ w'.tape = w.tape ∧ w'.output = w.output := by
  have hc : (choose (.nanBits k b c)).run P w = .ok ((Question.nanBits k b c).cut (w.tape w.drawn (.nanBits k b c))) w.drew := Pp_ P _ w rfl
  cases op <;> simp only [fbin, Option.some.injEq, AV.flt.injEq, reduceCtorEq, true_and] at hr
  · rw [fadd, Ap6_] at hr
    unfold Op.floatArith
    cases ho : k.format.add b c with
    | some x => rw [ho] at hr; exact ⟨x, w, by simp, by simpa [fres] using hr, rfl, rfl, rfl, rfl⟩
    | none => rw [ho] at hr; exact ⟨_, w.drew, by simp [hc]; rfl, by rw [Cm_ (Lp_ k b c _)]; simpa [fres] using hr, rfl, rfl, rfl, rfl⟩
  · rw [fsub, Ap0_] at hr
    unfold Op.floatArith
    cases ho : k.format.sub b c with
    | some x => rw [ho] at hr; exact ⟨x, w, by simp, by simpa [fres] using hr, rfl, rfl, rfl, rfl⟩
    | none => rw [ho] at hr; exact ⟨_, w.drew, by simp [hc]; rfl, by rw [Cm_ (Lp_ k b c _)]; simpa [fres] using hr, rfl, rfl, rfl, rfl⟩
  · rw [fmul, Agr_] at hr
    unfold Op.floatArith
    cases ho : k.format.mul b c with
    | some x => rw [ho] at hr; exact ⟨x, w, by simp, by simpa [fres] using hr, rfl, rfl, rfl, rfl⟩
    | none => rw [ho] at hr; exact ⟨_, w.drew, by simp [hc]; rfl, by rw [Cm_ (Lp_ k b c _)]; simpa [fres] using hr, rfl, rfl, rfl, rfl⟩
  · rw [fdiv, Ahn_] at hr
    unfold Op.floatArith
    cases ho : k.format.div b c with
    | some x => rw [ho] at hr; exact ⟨x, w, by simp, by simpa [fres] using hr, rfl, rfl, rfl, rfl⟩
    | none => rw [ho] at hr; exact ⟨_, w.drew, by simp [hc]; rfl, by rw [Cm_ (Lp_ k b c _)]; simpa [fres] using hr, rfl, rfl, rfl, rfl⟩
theorem Akw_ (k : FloatKind) (b : Nat) {α : Type} (F : Ieee.Datum → α) (h : ∀ s f s' f', F (.nan s f) = F (.nan s' f')) : F (k.decode (canon k b)) = F (k.decode b) := by
  rcases E0_ k b with ⟨s, f, s', f', e1, e2⟩ | hb
  · rw [e1, e2]; exact h _ _ _ _
  · rw [hb]
theorem Am2_ (k : FloatKind) (b : Nat) (d : IntKind) : Cn_ k (canon k b) d = Cn_ k b d := by
  unfold Cn_
  rw [Akw_ k b (fun x => x.toInt .zero) (fun _ _ _ _ => rfl)]
theorem Aje_ (k : FloatKind) (b : Nat) (d : FloatKind) : fconv k (canon k b) d = if k = d then some (canon k b) else fconv k b d := by
  unfold fconv
  by_cases h : k = d
  · simp [h]
  · simp only [h, if_false]
    rcases E0_ k b with ⟨s, f, s', f', e1, e2⟩ | hb
    · rw [e1, e2]
    · rw [hb]
theorem Amo_ (P : Program) (w : World) (s d : FloatKind) (b r : Nat) (h : fconv s (canon s b) d = some r) :
    ∃ v w', (Conv.floatToFloat s b d).run P w = .ok (.float d v) w' ∧ canon d v = r ∧ w'.heap = w.heap ∧ w'.os = w.os ∧ w'.tape = w.tape ∧ w'.output = w.output := by
  rw [Aje_] at h
  unfold Conv.floatToFloat
  by_cases e : s = d
  · subst e
    simp only [if_true, Option.some.injEq] at h
    exact ⟨b, w, by simp, h, rfl, rfl, rfl, rfl⟩
  · rw [if_neg e] at h ⊢
    unfold fconv at h
    rw [if_neg e] at h
    cases hd : s.decode b with
    | nan sg f =>
      rw [hd] at h
      simp only [Option.some.injEq] at h
      refine ⟨_, w.drew, by simp [Pp_, Question.forced]; rfl, ?_, rfl, rfl, rfl, rfl⟩
      rw [Cm_ (Acv_ d b _)]; exact h
    | infinity sg =>
      rw [hd] at h
      simp only [Option.some.injEq] at h
      exact ⟨_, w, by simp, h, rfl, rfl, rfl, rfl⟩
    | number sg m ex =>
      rw [hd] at h
      simp only at h ⊢
      split at h
      · cases h
      · rename_i hi
        simp only [Option.some.injEq] at h
        rw [if_neg hi]
        exact ⟨_, w, by simp, h, rfl, rfl, rfl, rfl⟩
end Go.Proofs.Ytmgpbchacndndaa.AM
