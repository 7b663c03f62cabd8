/- The law SparseRootSolve: both sides, and the law. -/
import Derived.Test.YtjadfgeemfdbmaaSP
set_option linter.unusedSimpArgs false
set_option linter.unusedVariables false
set_option maxHeartbeats 2000000
namespace Go.Proofs.Ytjadfgeemfdbmaa.AM

theorem wj_inl {σ ρ : Type} {T : σ → Option (σ ⊕ ρ)} {s s' : σ} {r : Option ρ} (h : T s = some (.inl s')) (h' : whileM T s' = r) : whileM T s = r := by rw [whileM_eq, h]; exact h'
theorem wj_inr {σ ρ : Type} {T : σ → Option (σ ⊕ ρ)} {s : σ} {r : ρ} (h : T s = some (.inr r)) : whileM T s = some r := by rw [whileM_eq, h]
theorem fle_not {x : Nat} (h : sfin x = true) : (fless .f32 x 0 || feq .f32 x 0) = !(fgrt .f32 x 0) := by
  rw [sfin_iff] at h
  unfold isNum at h
  have hord : FloatKind.f32.format.order x 0 = (FloatKind.f32.decode x).order (FloatKind.f32.decode 0) := rfl
  have h0 : FloatKind.f32.decode 0 = .number false 0 (-149) := by kernel_rfl
  unfold fless feq fgrt
  rw [hord, h0]
  cases hd : FloatKind.f32.decode x with
  | number s m e =>
    obtain ⟨o, ho⟩ : ∃ o, (Ieee.Datum.number s m e).order (Ieee.Datum.number false 0 (-149)) = some o := ⟨_, rfl⟩
    rw [ho]
    cases o <;> rfl
  | infinity s => rw [hd] at h; simp at h
  | nan s p => rw [hd] at h; simp at h
def LowP (st cl : List Int) (vs : List Nat) (i : Int) : Prop :=
  nth st (Int.toNat i) ≤ nth st (Int.toNat (i + 1)) - 1 ∧ nth cl (Int.toNat (nth st (Int.toNat (i + 1)) - 1)) = i ∧ fgrt .f32 (nth vs (Int.toNat (nth st (Int.toNat (i + 1)) - 1))) 0 = true
section
variable {n : Int} {st cl : List Int} {vs : List Nat}
theorem lowS (h : SpOk n st cl vs) : ∃ b, spec_l05Lower_g n st cl vs = some b ∧ (b = true ↔ ∀ i, 0 ≤ i → i < n → LowP st cl vs i) := by
  have n1 := h.n1
  have n2 := h.n2
  have ls := h.ls
  have lc := h.lc
  have lv := h.lv
  have sc := scanI (T := fun s => (spec_l05Lower_l0_T n st cl vs s).run) (fun i => ¬ LowP st cl vs i) (x := .inl ()) (y := .inr ()) (a := 0) (b := n) (by
    intro i r1 r2 _
    have k0 : decide (i < n) = true := decide_eq_true r2
    have e1 : IntKind.i64.wrap (i + 1) = i + 1 := w64 (by omega) (by omega)
    have k1 : inb i st.length = true := inb_iff.2 ⟨by omega, by omega⟩
    have k2 : inb (i + 1) st.length = true := inb_iff.2 ⟨by omega, by omega⟩
    obtain ⟨p1, p2⟩ := h.pos (i := i) (by omega) (by omega)
    obtain ⟨p3, p4⟩ := h.pos (i := i + 1) (by omega) (by omega)
    have e2 : IntKind.i64.wrap (nth st (Int.toNat (i + 1)) - 1) = nth st (Int.toNat (i + 1)) - 1 := w64 (by omega) (by omega)
    by_cases c1 : nth st (Int.toNat (i + 1)) - 1 < nth st (Int.toNat i)
    · refine .inl ⟨(fun hp => by have := hp.1; omega), ?_⟩
      simp only [spec_l05Lower_l0_T, Tree.run, k0, e1, k1, k2, e2, decide_eq_true c1, if_true]
    have d1 := decide_eq_false c1
    have q1 : inb (nth st (Int.toNat (i + 1)) - 1) cl.length = true := inb_iff.2 ⟨by omega, by omega⟩
    have q2 : inb (nth st (Int.toNat (i + 1)) - 1) vs.length = true := inb_iff.2 ⟨by omega, by omega⟩
    by_cases c2 : nth cl (Int.toNat (nth st (Int.toNat (i + 1)) - 1)) = i
    case neg =>
      refine .inl ⟨fun hp => c2 hp.2.1, ?_⟩
      simp only [spec_l05Lower_l0_T, Tree.run, k0, e1, k1, k2, e2, d1, q1, decide_eq_false c2, Bool.not_false, Bool.false_eq_true, if_false, if_true]
    have d2 := decide_eq_true c2
    cases c3 : fgrt .f32 (nth vs (Int.toNat (nth st (Int.toNat (i + 1)) - 1))) 0 with
    | false =>
      refine .inl ⟨(fun hp => by rw [hp.2.2] at c3; cases c3), ?_⟩
      simp only [spec_l05Lower_l0_T, Tree.run, k0, e1, k1, k2, e2, d1, q1, q2, d2, c3, Bool.not_false, Bool.not_true, Bool.false_eq_true, if_false, if_true]
    | true =>
      refine .inr ⟨fun hp => hp ⟨by omega, c2, c3⟩, ?_⟩
      simp only [spec_l05Lower_l0_T, Tree.run, k0, e1, k1, k2, e2, d1, q1, q2, d2, c3, Bool.not_false, Bool.not_true, Bool.false_eq_true, if_false, if_true]) (by
    intro k r1 r2 _
    have k0 : decide (k < n) = false := decide_eq_false (by omega)
    simp only [spec_l05Lower_l0_T, Tree.run, k0, Bool.false_eq_true, if_false])
  rcases sc with ⟨⟨k, a1, a2, a3⟩, g⟩ | ⟨a, g⟩
  · have g' : spec_l05Lower_l0_g n st cl vs 0 = some (.inl ()) := g
    exact ⟨false, by simp only [spec_l05Lower_g, spec_l05Lower_T, Tree.run, g', Option.bind_some, if_true], ⟨(fun h => by cases h), fun h => absurd (h k a1 a2) a3⟩⟩
  · have g' : spec_l05Lower_l0_g n st cl vs 0 = some (.inr ()) := g
    exact ⟨true, by simp only [spec_l05Lower_g, spec_l05Lower_T, Tree.run, g', Option.bind_some, if_true], ⟨fun _ i i1 i2 => Classical.not_not.1 (a i i1 i2), fun _ => rfl⟩⟩
theorem lowI (hst : st.length ≤ maxN) (hcl : cl.length ≤ maxN) (hvs : vs.length ≤ maxN) : ∃ b, impl_isLowerRoot_g n st cl vs = some b ∧ (b = true ↔ SpOk n st cl vs ∧ ∀ i, 0 ≤ i → i < n → LowP st cl vs i) := by
  obtain ⟨b, g1, g2⟩ := spI n st cl vs hst hcl hvs
  cases b with
  | false => exact ⟨false, by simp only [impl_isLowerRoot_g, impl_isLowerRoot_T, Tree.run, g1, Option.bind_some, Bool.not_false, if_true], ⟨(fun h => by cases h), fun h => absurd (g2.2 h.1) (by simp)⟩⟩
  | true =>
  have h := g2.1 rfl
  have n1 := h.n1
  have n2 := h.n2
  have ls := h.ls
  have lc := h.lc
  have lv := h.lv
  have sc := scanI (T := fun s => (impl_isLowerRoot_l0_T n st cl vs s).run) (fun i => ¬ LowP st cl vs i) (x := .inl ()) (y := .inr ()) (a := 0) (b := n) (by
    intro i r1 r2 _
    have k0 : decide (i < n) = true := decide_eq_true r2
    have e1 : IntKind.i64.wrap (i + 1) = i + 1 := w64 (by omega) (by omega)
    have k1 : inb i st.length = true := inb_iff.2 ⟨by omega, by omega⟩
    have k2 : inb (i + 1) st.length = true := inb_iff.2 ⟨by omega, by omega⟩
    obtain ⟨p1, p2⟩ := h.pos (i := i) (by omega) (by omega)
    obtain ⟨p3, p4⟩ := h.pos (i := i + 1) (by omega) (by omega)
    have e2 : IntKind.i64.wrap (nth st (Int.toNat (i + 1)) - 1) = nth st (Int.toNat (i + 1)) - 1 := w64 (by omega) (by omega)
    by_cases c1 : nth st (Int.toNat (i + 1)) - 1 < nth st (Int.toNat i)
    · refine .inl ⟨(fun hp => by have := hp.1; omega), ?_⟩
      simp only [impl_isLowerRoot_l0_T, Tree.run, k0, e1, k1, k2, e2, decide_eq_true c1, if_true]
    have d1 := decide_eq_false c1
    have q1 : inb (nth st (Int.toNat (i + 1)) - 1) cl.length = true := inb_iff.2 ⟨by omega, by omega⟩
    have q2 : inb (nth st (Int.toNat (i + 1)) - 1) vs.length = true := inb_iff.2 ⟨by omega, by omega⟩
    by_cases c2 : nth cl (Int.toNat (nth st (Int.toNat (i + 1)) - 1)) = i
    case neg =>
      refine .inl ⟨fun hp => c2 hp.2.1, ?_⟩
      simp only [impl_isLowerRoot_l0_T, Tree.run, k0, e1, k1, k2, e2, d1, q1, decide_eq_false c2, Bool.not_false, Bool.false_eq_true, if_false, if_true]
    have d2 := decide_eq_true c2
    have fin : sfin (nth vs (Int.toNat (nth st (Int.toNat (i + 1)) - 1))) = true := by
      have hlt : Int.toNat (nth st (Int.toNat (i + 1)) - 1) < vs.length := by omega
      have := List.all_eq_true.1 h.fin _ (List.getElem_mem hlt)
      rw [nth_of _ _ hlt]; exact this
    have fl := fle_not fin
    cases c3 : fgrt .f32 (nth vs (Int.toNat (nth st (Int.toNat (i + 1)) - 1))) 0 with
    | false =>
      rw [c3] at fl
      refine .inl ⟨(fun hp => by rw [hp.2.2] at c3; cases c3), ?_⟩
      simp only [impl_isLowerRoot_l0_T, Tree.run, k0, e1, k1, k2, e2, d1, q1, q2, d2, fl, Bool.not_false, Bool.not_true, Bool.false_eq_true, if_false, if_true]
    | true =>
      rw [c3] at fl
      refine .inr ⟨fun hp => hp ⟨by omega, c2, c3⟩, ?_⟩
      simp only [impl_isLowerRoot_l0_T, Tree.run, k0, e1, k1, k2, e2, d1, q1, q2, d2, fl, Bool.not_false, Bool.not_true, Bool.false_eq_true, if_false, if_true]) (by
    intro k r1 r2 _
    have k0 : decide (k < n) = false := decide_eq_false (by omega)
    simp only [impl_isLowerRoot_l0_T, Tree.run, k0, Bool.false_eq_true, if_false])
  rcases sc with ⟨⟨k, a1, a2, a3⟩, g⟩ | ⟨a, g⟩
  · have g' : impl_isLowerRoot_l0_g n st cl vs 0 = some (.inl ()) := g
    exact ⟨false, by simp only [impl_isLowerRoot_g, impl_isLowerRoot_T, Tree.run, g1, g', Option.bind_some, Bool.not_true, Bool.false_eq_true, if_false, if_true], ⟨(fun h => by cases h), fun h => absurd (h.2 k a1 a2) a3⟩⟩
  · have g' : impl_isLowerRoot_l0_g n st cl vs 0 = some (.inr ()) := g
    exact ⟨true, by simp only [impl_isLowerRoot_g, impl_isLowerRoot_T, Tree.run, g1, g', Option.bind_some, Bool.not_true, Bool.false_eq_true, if_false, if_true], ⟨fun _ => ⟨h, fun i i1 i2 => Classical.not_not.1 (a i i1 i2)⟩, fun _ => rfl⟩⟩
theorem rt_row (h : SpOk n st cl vs) (hl : ∀ i, 0 ≤ i → i < n → LowP st cl vs i) {i : Nat} (hi : (i : Int) < n) :
    ∃ a b : Int, nth st i = a ∧ nth st (i + 1) = b + 1 ∧ 0 ≤ a ∧ a ≤ b ∧ b < cl.length ∧ nth cl (Int.toNat b) = i ∧ ∀ k, a ≤ k → k < b → 0 ≤ nth cl (Int.toNat k) ∧ nth cl (Int.toNat k) < i := by
  obtain ⟨l1, l2, _⟩ := hl i (by omega) hi
  obtain ⟨p1, p2⟩ := h.pos (i := i) (by omega) (by omega)
  obtain ⟨p3, p4⟩ := h.pos (i := (i : Int) + 1) (by omega) (by omega)
  have up := h.up i (by omega) hi
  have e : Int.toNat ((i : Int) + 1) = i + 1 := by omega
  rw [e] at l1 l2 p3 p4 up
  simp only [Int.toNat_natCast] at l1 p1 p2 up
  refine ⟨nth st i, nth st (i + 1) - 1, rfl, by omega, p1, l1, by omega, l2, fun k k1 k2 => ?_⟩
  have hin := h.inr k (by omega) (by omega)
  refine ⟨hin.1, ?_⟩
  have m := mono_le' (f := fun j => nth cl (Int.toNat j) - j) (i := k) (j := nth st (i + 1) - 1) (by omega) (by omega) (by
    intro j j1 j2
    have := up (j + 1) (by omega) (by omega)
    rw [show j + 1 - 1 = j by omega] at this
    omega)
  rw [l2] at m
  omega
end
theorem overI_cut {σ : Type} (f : Int → σ → σ) (b : Int) : ∀ (d : Nat) (a : Int) (s : σ), a + d = b → overI (fun k s => if k < b then f k s else s) a (d + 1) s = overI f a d s
  | 0, a, s, h => by simp only [overI]; rw [if_neg (by omega)]
  | d + 1, a, s, h => by
    have := overI_cut f b d (a + 1) (f a s) (by omega)
    rw [overI, if_pos (by omega), this]
    rfl
theorem mid_nth {Y R : List Nat} {s : Nat} : nth (Y ++ s :: R) Y.length = s := by
  rw [nth_of _ _ (by simp)]; simp
theorem mid_set {Y R : List Nat} {s t : Nat} : (Y ++ s :: R).set Y.length t = Y ++ t :: R := by simp
theorem mid_low {Y R : List Nat} {s j : Nat} (h : j < Y.length) : nth (Y ++ s :: R) j = nth Y j := by
  rw [nth_of _ _ (by simp; omega), nth_of _ _ h, List.getElem_append_left h]
section
variable {n : Nat} {st cl : List Int} {vs : List Nat}
def fStep (cl : List Int) (vs Y : List Nat) (k : Int) (s : Nat) : Nat := fsub .f32 s (fmul .f32 (nth vs (Int.toNat k)) (nth Y (Int.toNat (nth cl (Int.toNat k)))))
def bStep (cl : List Int) (vs : List Nat) (i : Nat) (k : Int) (y : List Nat) : List Nat := y.set (Int.toNat (nth cl (Int.toNat k))) (fsub .f32 (nth y (Int.toNat (nth cl (Int.toNat k)))) (fmul .f32 (nth vs (Int.toNat k)) (nth y i)))
theorem fwd2 (h : SpOk n st cl vs) (hl : ∀ i, 0 ≤ i → i < (n : Int) → LowP st cl vs i) {v : List Nat} (hv : v.length = n) : ∀ (d i : Nat) (Y : List Nat), i + d = n → Y.length = i →
    ∃ Y', spec_l05Solve_l0_g n st cl vs v ((i : Int), Y) = some Y' ∧ impl_SparseRootSolve_l0_g n st cl vs ((i : Int), Y ++ v.drop i) = some Y' ∧ Y'.length = n := by
  have n1 := h.n1
  have n2 := h.n2
  have ls := h.ls
  have lc := h.lc
  have lv := h.lv
  intro d
  induction d with
  | zero =>
    intro i Y hi hY
    have k0 : decide ((i : Int) < (n : Int)) = false := decide_eq_false (by omega)
    have e : Y ++ v.drop i = Y := by rw [List.drop_eq_nil_of_le (by omega), List.append_nil]
    refine ⟨Y, wj_inr (T := fun s => (spec_l05Solve_l0_T n st cl vs v s).run) ?_, wj_inr (T := fun s => (impl_SparseRootSolve_l0_T n st cl vs s).run) ?_, by omega⟩
    · simp only [spec_l05Solve_l0_T, Tree.run, k0, Bool.false_eq_true, if_false]
    · simp only [impl_SparseRootSolve_l0_T, Tree.run, k0, Bool.false_eq_true, if_false, e]
  | succ d ih =>
    intro i Y hi hY
    have hin : i < n := by omega
    obtain ⟨a, b, sa, sb, a0, ab, bl, cb, low⟩ := rt_row h hl (i := i) (by omega)
    have k0 : decide ((i : Int) < (n : Int)) = true := decide_eq_true (by omega)
    have e1 : IntKind.i64.wrap ((i : Int) + 1) = ((i + 1 : Nat) : Int) := w_succ (by omega)
    have k1 : inb (i : Int) st.length = true := inb_iff.2 ⟨by omega, by omega⟩
    have k2 : inb ((i + 1 : Nat) : Int) st.length = true := inb_iff.2 ⟨by omega, by omega⟩
    have k3 : inb (i : Int) v.length = true := inb_iff.2 ⟨by omega, by omega⟩
    have e2 : IntKind.i64.wrap (b + 1 - 1) = b := by rw [w64 (by omega) (by omega)]; omega
    have kb : inb b vs.length = true := inb_iff.2 ⟨by omega, by omega⟩
    obtain ⟨s', hs'⟩ : ∃ s', s' = overI (fStep cl vs Y) a (b - a).toNat (nth v i) := ⟨_, rfl⟩
    have drop : v.drop i = nth v i :: v.drop (i + 1) := by rw [nth_of _ _ (show i < v.length by omega)]; exact (List.drop_eq_getElem_cons (by omega))
    have inS := (forI (T := fun s => (spec_l05Solve_l2_T cl vs (i : Int) b Y s).run) (fun k s => (s, k)) (fStep cl vs Y) (fun _ _ => True) (r := fun s => s) ab (by
      intro k s r1 r2 _
      obtain ⟨c1, c2⟩ := low k r1 r2
      have f0 : decide (k < b) = true := decide_eq_true r2
      have f1 : inb k vs.length = true := inb_iff.2 ⟨by omega, by omega⟩
      have f2 : inb k cl.length = true := inb_iff.2 ⟨by omega, by omega⟩
      have f3 : inb (nth cl (Int.toNat k)) Y.length = true := inb_iff.2 ⟨c1, by omega⟩
      have f4 : IntKind.i64.wrap (k + (1 : Int)) = k + 1 := w64 (by omega) (by omega)
      refine ⟨?_, trivial⟩
      simp only [spec_l05Solve_l2_T, Tree.run, f0, f1, f2, f3, f4, if_true]
      rfl) (by
      intro s _
      have f0 : decide (b < b) = false := decide_eq_false (by omega)
      simp only [spec_l05Solve_l2_T, Tree.run, f0, if_true, Bool.false_eq_true, if_false]) (nth v i) trivial).1
    have inI := (forI (T := fun s => (impl_Sparse_each_l0_T st cl vs (i : Int) (i : Int) s).run) (fun k s => (k, Y ++ s :: v.drop (i + 1))) (fun k s => if k < b then fStep cl vs Y k s else s) (fun _ _ => True) (r := fun s => Y ++ s :: v.drop (i + 1)) (show a ≤ b + 1 by omega) (by
      intro k s r1 r2 _
      have f0 : decide (k < b + 1) = true := decide_eq_true r2
      have f1 : inb k vs.length = true := inb_iff.2 ⟨by omega, by omega⟩
      have f2 : inb k cl.length = true := inb_iff.2 ⟨by omega, by omega⟩
      have f4 : IntKind.i64.wrap (k + (1 : Int)) = k + 1 := w64 (by omega) (by omega)
      refine ⟨?_, trivial⟩
      by_cases hk : k < b
      · obtain ⟨c1, c2⟩ := low k r1 hk
        have g0 : decide (nth cl (Int.toNat k) < (i : Int)) = true := decide_eq_true c2
        have g1 : inb (i : Int) (Y ++ s :: v.drop (i + 1)).length = true := inb_iff.2 ⟨by omega, by simp; omega⟩
        have g2 : inb (nth cl (Int.toNat k)) (Y ++ s :: v.drop (i + 1)).length = true := inb_iff.2 ⟨c1, by simp; omega⟩
        have g3 : nth (Y ++ s :: v.drop (i + 1)) i = s := by rw [← hY]; exact mid_nth
        have g4 : nth (Y ++ s :: v.drop (i + 1)) (Int.toNat (nth cl (Int.toNat k))) = nth Y (Int.toNat (nth cl (Int.toNat k))) := mid_low (by omega)
        have g5 : ∀ t, (Y ++ s :: v.drop (i + 1)).set i t = Y ++ t :: v.drop (i + 1) := fun t => by rw [← hY]; exact mid_set
        have g6 : ∀ t, decide ((Y ++ t :: v.drop (i + 1)).length = (Y ++ s :: v.drop (i + 1)).length) = true := fun t => decide_eq_true (by simp)
        have two : impl_SparseRootSolve_2_g (nth cl (Int.toNat k)) (nth vs (Int.toNat k)) (i : Int) (Y ++ s :: v.drop (i + 1)) = some (Y ++ fStep cl vs Y k s :: v.drop (i + 1)) := by
          simp only [impl_SparseRootSolve_2_g, impl_SparseRootSolve_2_T, impl_mul_v, Tree.run, g0, g1, g2, g3, g4, g5, Int.toNat_natCast, if_true]
          rfl
        simp only [impl_Sparse_each_l0_T, Tree.run, e1, k2, Int.toNat_natCast, sb, f0, f1, f2, two, g6, f4, if_true, Option.bind_some, if_pos hk]
      · have hkb : k = b := by omega
        have g0 : decide (nth cl (Int.toNat k) < (i : Int)) = false := decide_eq_false (by rw [hkb, cb]; omega)
        have two : impl_SparseRootSolve_2_g (nth cl (Int.toNat k)) (nth vs (Int.toNat k)) (i : Int) (Y ++ s :: v.drop (i + 1)) = some (Y ++ s :: v.drop (i + 1)) := by
          simp only [impl_SparseRootSolve_2_g, impl_SparseRootSolve_2_T, Tree.run, g0, Bool.false_eq_true, if_false]
        have g6 : decide ((Y ++ s :: v.drop (i + 1)).length = (Y ++ s :: v.drop (i + 1)).length) = true := decide_eq_true rfl
        simp only [impl_Sparse_each_l0_T, Tree.run, e1, k2, Int.toNat_natCast, sb, f0, f1, f2, two, g6, f4, decide_true, if_true, Option.bind_some, if_neg hk]) (by
      intro s _
      have f0 : decide (b + 1 < b + 1) = false := decide_eq_false (by omega)
      simp only [impl_Sparse_each_l0_T, Tree.run, e1, k2, Int.toNat_natCast, sb, f0, if_true, Bool.false_eq_true, if_false]) (nth v i) trivial).1
    rw [show (b + 1 - a).toNat = (b - a).toNat + 1 by omega, overI_cut _ b _ a _ (by omega), ← hs'] at inI
    rw [← hs'] at inS
    have inS' : spec_l05Solve_l2_g cl vs (i : Int) b Y (nth v i, a) = some s' := inS
    have inI' : impl_Sparse_each_l0_g st cl vs (i : Int) (i : Int) (a, Y ++ nth v i :: v.drop (i + 1)) = some (Y ++ s' :: v.drop (i + 1)) := inI
    have each : impl_Sparse_each_g (n : Int) st cl vs (i : Int) (i : Int) (Y ++ v.drop i) = some (Y ++ s' :: v.drop (i + 1)) := by
      rw [drop]
      simp only [impl_Sparse_each_g, impl_Sparse_each_T, Tree.run, k1, Int.toNat_natCast, sa, inI', Option.bind_some, if_true]
    have one : impl_SparseRootSolve_1_g (i : Int) st vs = some (nth vs (Int.toNat b)) := by
      simp only [impl_SparseRootSolve_1_g, impl_SparseRootSolve_1_T, Tree.run, e1, k2, Int.toNat_natCast, sb, e2, kb, if_true]
    obtain ⟨Y', q1, q2, q3⟩ := ih (i + 1) (Y ++ [fdiv .f32 s' (nth vs (Int.toNat b))]) (by omega) (by simp [hY])
    have fl : fits (Y ++ [fdiv .f32 s' (nth vs (Int.toNat b))]).length = true := fits_iff.2 (by simp [maxN]; omega)
    refine ⟨Y', wj_inl (T := fun s => (spec_l05Solve_l0_T n st cl vs v s).run) ?_ q1, wj_inl (T := fun s => (impl_SparseRootSolve_l0_T n st cl vs s).run) ?_ q2, q3⟩
    · simp only [spec_l05Solve_l0_T, Tree.run, k0, k1, k2, k3, e1, Int.toNat_natCast, sa, sb, e2, inS', kb, fl, Option.bind_some, if_true]
    · have g1 : inb (i : Int) (Y ++ s' :: v.drop (i + 1)).length = true := inb_iff.2 ⟨by omega, by simp; omega⟩
      have g3 : nth (Y ++ s' :: v.drop (i + 1)) i = s' := by rw [← hY]; exact mid_nth
      have g5 : ∀ t, (Y ++ s' :: v.drop (i + 1)).set i t = Y ++ [t] ++ v.drop (i + 1) := fun t => by rw [← hY, mid_set]; simp
      have g6 : decide ((Y ++ s' :: v.drop (i + 1)).length = (Y ++ v.drop i).length) = true := decide_eq_true (by rw [drop]; simp)
      simp only [impl_SparseRootSolve_l0_T, Tree.run, k0, each, g6, g1, one, g3, g5, e1, Int.toNat_natCast, Option.bind_some, if_true]
theorem bwd2 (h : SpOk n st cl vs) (hl : ∀ i, 0 ≤ i → i < (n : Int) → LowP st cl vs i) {v : List Nat} (hv : v.length = n) : ∀ (d : Nat) (y : List Nat), d ≤ n → y.length = n →
    ∃ y', spec_l05Solve_l4_g n st cl vs v ((d : Int) - 1, y) = some y' ∧ impl_SparseRootSolve_l2_g n st cl vs ((d : Int) - 1, y) = some y' ∧ y'.length = n := by
  have n1 := h.n1
  have n2 := h.n2
  have ls := h.ls
  have lc := h.lc
  have lv := h.lv
  intro d
  induction d with
  | zero =>
    intro y hd hy
    have k0 : decide ((0 : Int) ≤ ((0 : Nat) : Int) - 1) = false := by decide
    refine ⟨y, wj_inr (T := fun s => (spec_l05Solve_l4_T n st cl vs v s).run) ?_, wj_inr (T := fun s => (impl_SparseRootSolve_l2_T n st cl vs s).run) ?_, hy⟩
    · simp only [spec_l05Solve_l4_T, Tree.run, k0, Bool.false_eq_true, if_false]
    · simp only [impl_SparseRootSolve_l2_T, Tree.run, k0, Bool.false_eq_true, if_false]
  | succ i ih =>
    intro y hd hy
    have ei : ((i + 1 : Nat) : Int) - 1 = (i : Int) := by omega
    rw [ei]
    obtain ⟨a, b, sa, sb, a0, ab, bl, cb, low⟩ := rt_row h hl (i := i) (by omega)
    have k0 : decide ((0 : Int) ≤ (i : Int)) = true := decide_eq_true (by omega)
    have e1 : IntKind.i64.wrap ((i : Int) + 1) = ((i + 1 : Nat) : Int) := w_succ (by omega)
    have e3 : IntKind.i64.wrap ((i : Int) - 1) = (i : Int) - 1 := w64 (by omega) (by omega)
    have k1 : inb (i : Int) st.length = true := inb_iff.2 ⟨by omega, by omega⟩
    have k2 : inb ((i + 1 : Nat) : Int) st.length = true := inb_iff.2 ⟨by omega, by omega⟩
    have k3 : inb (i : Int) y.length = true := inb_iff.2 ⟨by omega, by omega⟩
    have e2 : IntKind.i64.wrap (b + 1 - 1) = b := by rw [w64 (by omega) (by omega)]; omega
    have kb : inb b vs.length = true := inb_iff.2 ⟨by omega, by omega⟩
    obtain ⟨z, hz⟩ : ∃ z, z = y.set i (fdiv .f32 (nth y i) (nth vs (Int.toNat b))) := ⟨_, rfl⟩
    have lz : z.length = n := by rw [hz]; simp [hy]
    obtain ⟨z', hz'⟩ : ∃ z', z' = overI (bStep cl vs i) a (b - a).toNat z := ⟨_, rfl⟩
    obtain ⟨inS, lz'⟩ := forI (T := fun s => (spec_l05Solve_l6_T cl vs (i : Int) b s).run) (fun k s => (k, s)) (bStep cl vs i) (fun _ s => s.length = n) (r := fun s => s) ab (by
      intro k s r1 r2 hs
      obtain ⟨c1, c2⟩ := low k r1 r2
      have f0 : decide (k < b) = true := decide_eq_true r2
      have f1 : inb k vs.length = true := inb_iff.2 ⟨by omega, by omega⟩
      have f2 : inb k cl.length = true := inb_iff.2 ⟨by omega, by omega⟩
      have f3 : inb (nth cl (Int.toNat k)) s.length = true := inb_iff.2 ⟨c1, by omega⟩
      have f5 : inb (i : Int) s.length = true := inb_iff.2 ⟨by omega, by omega⟩
      have f4 : IntKind.i64.wrap (k + (1 : Int)) = k + 1 := w64 (by omega) (by omega)
      refine ⟨?_, by simp [bStep, hs]⟩
      simp only [spec_l05Solve_l6_T, Tree.run, f0, f1, f2, f3, f4, f5, Int.toNat_natCast, if_true]
      rfl) (by
      intro s _
      have f0 : decide (b < b) = false := decide_eq_false (by omega)
      simp only [spec_l05Solve_l6_T, Tree.run, f0, if_true, Bool.false_eq_true, if_false]) z lz
    have inI := (forI (T := fun s => (impl_Sparse_each_i1_l0_T st cl vs (i : Int) (i : Int) s).run) (fun k s => (k, s)) (fun k s => if k < b then bStep cl vs i k s else s) (fun _ s => s.length = n) (r := fun s => s) (show a ≤ b + 1 by omega) (by
      intro k s r1 r2 hs
      have f0 : decide (k < b + 1) = true := decide_eq_true r2
      have f1 : inb k vs.length = true := inb_iff.2 ⟨by omega, by omega⟩
      have f2 : inb k cl.length = true := inb_iff.2 ⟨by omega, by omega⟩
      have f4 : IntKind.i64.wrap (k + (1 : Int)) = k + 1 := w64 (by omega) (by omega)
      by_cases hk : k < b
      · obtain ⟨c1, c2⟩ := low k r1 hk
        have g0 : decide (nth cl (Int.toNat k) < (i : Int)) = true := decide_eq_true c2
        have f3 : inb (nth cl (Int.toNat k)) s.length = true := inb_iff.2 ⟨c1, by omega⟩
        have f5 : inb (i : Int) s.length = true := inb_iff.2 ⟨by omega, by omega⟩
        have g6 : decide ((bStep cl vs i k s).length = s.length) = true := decide_eq_true (by simp [bStep])
        have two : impl_SparseRootSolve_3_g (nth cl (Int.toNat k)) (nth vs (Int.toNat k)) (i : Int) s = some (bStep cl vs i k s) := by
          simp only [impl_SparseRootSolve_3_g, impl_SparseRootSolve_3_T, impl_mul_v, Tree.run, g0, f3, f5, Int.toNat_natCast, if_true]
          rfl
        refine ⟨?_, by rw [if_pos hk]; simp [bStep, hs]⟩
        simp only [impl_Sparse_each_i1_l0_T, Tree.run, e1, k2, Int.toNat_natCast, sb, f0, f1, f2, two, g6, f4, if_true, Option.bind_some, if_pos hk]
      · have hkb : k = b := by omega
        have g0 : decide (nth cl (Int.toNat k) < (i : Int)) = false := decide_eq_false (by rw [hkb, cb]; omega)
        have two : impl_SparseRootSolve_3_g (nth cl (Int.toNat k)) (nth vs (Int.toNat k)) (i : Int) s = some s := by
          simp only [impl_SparseRootSolve_3_g, impl_SparseRootSolve_3_T, Tree.run, g0, Bool.false_eq_true, if_false]
        have g6 : decide (s.length = s.length) = true := decide_eq_true rfl
        refine ⟨?_, by rw [if_neg hk]; exact hs⟩
        simp only [impl_Sparse_each_i1_l0_T, Tree.run, e1, k2, Int.toNat_natCast, sb, f0, f1, f2, two, g6, f4, decide_true, if_true, Option.bind_some, if_neg hk]) (by
      intro s _
      have f0 : decide (b + 1 < b + 1) = false := decide_eq_false (by omega)
      simp only [impl_Sparse_each_i1_l0_T, Tree.run, e1, k2, Int.toNat_natCast, sb, f0, if_true, Bool.false_eq_true, if_false]) z lz).1
    rw [show (b + 1 - a).toNat = (b - a).toNat + 1 by omega, overI_cut _ b _ a _ (by omega), ← hz'] at inI
    rw [← hz'] at inS lz'
    have inS' : spec_l05Solve_l6_g cl vs (i : Int) b (a, z) = some z' := inS
    have inI' : impl_Sparse_each_i1_l0_g st cl vs (i : Int) (i : Int) (a, z) = some z' := inI
    have each : impl_Sparse_each_i1_g (n : Int) st cl vs (i : Int) (i : Int) z = some z' := by
      simp only [impl_Sparse_each_i1_g, impl_Sparse_each_i1_T, Tree.run, k1, Int.toNat_natCast, sa, inI', Option.bind_some, if_true]
    have one : impl_SparseRootSolve_1_g (i : Int) st vs = some (nth vs (Int.toNat b)) := by
      simp only [impl_SparseRootSolve_1_g, impl_SparseRootSolve_1_T, Tree.run, e1, k2, Int.toNat_natCast, sb, e2, kb, if_true]
    obtain ⟨y', q1, q2, q3⟩ := ih z' (by omega) lz'
    refine ⟨y', wj_inl (T := fun s => (spec_l05Solve_l4_T n st cl vs v s).run) ?_ q1, wj_inl (T := fun s => (impl_SparseRootSolve_l2_T n st cl vs s).run) ?_ q2, q3⟩
    · simp only [spec_l05Solve_l4_T, Tree.run, k0, k1, k2, k3, e1, e3, Int.toNat_natCast, sa, sb, e2, ← hz, inS', kb, Option.bind_some, if_true]
    · have g6 : decide (z'.length = z.length) = true := decide_eq_true (by rw [lz, lz'])
      simp only [impl_SparseRootSolve_l2_T, Tree.run, k0, k3, one, e3, Int.toNat_natCast, ← hz, each, g6, Option.bind_some, if_true]
end
theorem rs_both (x0 : Int) (x1 x2 : List Int) (x3 x4 : List Nat) (h1 : x1.length ≤ maxN) (h2 : x2.length ≤ maxN) (h3 : x3.length ≤ maxN) (h4 : x4.length ≤ maxN) :
    ∃ r, impl_SparseRootSolve_g x0 x1 x2 x3 x4 = some r ∧ spec_SparseRootSolve_g x0 x1 x2 x3 x4 = some r ∧ ∀ d, r = .inr d → d.length ≤ 1024 := by
  obtain ⟨b, g1, g2⟩ := spFitI x0 x1 x2 x3 x4 h1 h2 h3 h4
  obtain ⟨c, k1, k2⟩ := spFitS x0 x1 x2 x3 x4 h1 h2 h3 h4
  have e : b = c := by
    rw [Bool.eq_iff_iff, g2, k2]
  subst e
  obtain ⟨l, m1, m2⟩ := lowI (n := x0) (st := x1) (cl := x2) (vs := x3) h1 h2 h3
  cases b with
  | false =>
    refine ⟨.inl (), ?_, by simp only [spec_SparseRootSolve_g, spec_SparseRootSolve_T, Tree.run, k1, Option.bind_some, Bool.not_false, if_true], fun d h => by cases h⟩
    cases l with
    | false => simp only [impl_SparseRootSolve_g, impl_SparseRootSolve_T, Tree.run, m1, Option.bind_some, Bool.not_false, if_true]
    | true => simp only [impl_SparseRootSolve_g, impl_SparseRootSolve_T, Tree.run, m1, g1, Option.bind_some, Bool.not_true, Bool.false_eq_true, if_false, Bool.not_false, if_true]
  | true =>
    obtain ⟨hs, hv, _⟩ := g2.1 rfl
    have n1 := hs.n1
    have n2 := hs.n2
    obtain ⟨l2, o1, o2⟩ := lowS hs
    have e : l = l2 := by
      rw [Bool.eq_iff_iff, m2, o2]
      exact ⟨fun h => h.2, fun h => ⟨hs, h⟩⟩
    subst e
    cases l with
    | false => exact ⟨.inl (), by simp only [impl_SparseRootSolve_g, impl_SparseRootSolve_T, Tree.run, m1, Option.bind_some, Bool.not_false, if_true], by simp only [spec_SparseRootSolve_g, spec_SparseRootSolve_T, Tree.run, k1, o1, Option.bind_some, Bool.not_true, Bool.false_eq_true, if_false, Bool.not_false, if_true], fun d h => by cases h⟩
    | true =>
      have hl := o2.1 rfl
      obtain ⟨n, hn⟩ : ∃ n : Nat, x0 = n := ⟨x0.toNat, by omega⟩
      subst hn
      have hvn : x4.length = n := by omega
      obtain ⟨Y, y1, y2, y3⟩ := fwd2 hs hl hvn n 0 [] (by omega) rfl
      obtain ⟨t, t1, t2, t3⟩ := bwd2 hs hl hvn n Y (Nat.le_refl _) y3
      have y1' : spec_l05Solve_l0_g n x1 x2 x3 x4 ((0 : Int), []) = some Y := y1
      have y2' : impl_SparseRootSolve_l0_g n x1 x2 x3 ((0 : Int), x4) = some Y := by
        have := y2
        rw [List.drop_zero, List.nil_append] at this
        exact this
      have e1 : IntKind.i64.wrap ((n : Int) - 1) = (n : Int) - 1 := w64 (by omega) (by omega)
      have sv : spec_l05Solve_g n x1 x2 x3 x4 = some t := by
        simp only [spec_l05Solve_g, spec_l05Solve_T, Tree.run, y1', e1, t1, Option.bind_some, if_true]
      have cl : slices_CloneF_g x4 = some () := by
        have q1 : decide (0 < x4.length) = true := decide_eq_true (by omega)
        have q2 : fits x4.length = true := fits_iff.2 h4
        simp only [slices_CloneF_g, slices_CloneF_T, Tree.run, List.nil_append, q1, q2, if_true]
      have aI := allFinI t (by unfold maxN; omega)
      have aS := listS t (by unfold maxN; omega)
      cases ht : t.all sfin with
      | false =>
        rw [ht] at aI aS
        simp only [Bool.false_eq_true, if_false] at aI aS
        exact ⟨.inl (), by simp only [impl_SparseRootSolve_g, impl_SparseRootSolve_T, Tree.run, m1, g1, cl, List.nil_append, y2', e1, t2, aI, Option.bind_some, Bool.not_true, Bool.false_eq_true, if_false, if_true], by simp only [spec_SparseRootSolve_g, spec_SparseRootSolve_T, Tree.run, k1, o1, sv, aS, Option.bind_some, Bool.not_true, Bool.false_eq_true, if_false], fun d h => by cases h⟩
      | true =>
        rw [ht] at aI aS
        simp only [if_true] at aI aS
        exact ⟨.inr t, by simp only [impl_SparseRootSolve_g, impl_SparseRootSolve_T, Tree.run, m1, g1, cl, List.nil_append, y2', e1, t2, aI, Option.bind_some, Bool.not_true, Bool.false_eq_true, if_false, if_true], by simp only [spec_SparseRootSolve_g, spec_SparseRootSolve_T, Tree.run, k1, o1, sv, aS, Option.bind_some, Bool.not_true, Bool.false_eq_true, if_false], fun d h => by cases h; omega⟩
theorem rs_law (x0 : Int) (x1 : List Int) (x2 : List Int) (x3 : List Nat) (x4 : List Nat) (h0 : -9223372036854775808 ≤ x0 ∧ x0 < 9223372036854775808) (h1 : x1.length ≤ maxN) (h2 : x2.length ≤ maxN) (h3 : x3.length ≤ maxN) (h4 : x4.length ≤ maxN) : laws_FnExactSparseRootSolve_g x0 x1 x2 x3 x4 = some true := by
  have q1 := h1
  have q2 := h2
  have q3 := h3
  have q4 := h4
  unfold maxN at q1 q2 q3 q4
  obtain ⟨r, i1, i2, i3⟩ := rs_both x0 x1 x2 x3 x4 h1 h2 h3 h4
  have en := eqF_self [] (by simp [maxN])
  have hn := held_nil 1 (by omega) (by omega)
  have m0 := markSp_ok x1 x2 x3 (1) h1 h2 h3 (by omega) (by omega)
  have m4 := mark_ok x4 (1 + x1.length + x2.length + x3.length) h4 (by omega) (by omega)
  have g1 : decide (((1 : Int) + x1.length + x2.length + x3.length + x4.length : Int) < 0) = false := by simp; omega
  by_cases c4 : (1048576 : Int) < x4.length
  · simp [laws_FnExactSparseRootSolve_g, laws_FnExactSparseRootSolve_T, Tree.run, c4]
  cases z0 : decide (laws_szSparse_v x1 x2 x3 (1048576) < 0)
  case true => simp only [laws_FnExactSparseRootSolve_g, laws_FnExactSparseRootSolve_T, Tree.run, c4, z0, decide_false, Bool.false_eq_true, if_false, if_true] <;> simp [Tree.run, z0]
  have d4 : decide ((1048576 : Int) < x4.length) = false := by simpa using c4
  cases r with
  | inl u =>
    simp only [laws_FnExactSparseRootSolve_g, laws_FnExactSparseRootSolve_T, Tree.run, i1, i2, en, hn, mark_nil, m0, toSp_ok x0 x1 x2 x3 h1 h2 h3, eqSp_self x0 x1 x2 x3 h1 h2 h3, m4, toF_ok x4 h4, eqF_self x4 h4, g1, z0, d4, Option.bind_some, Bool.false_eq_true, if_false, if_true, decide_true, Bool.not_true, Bool.not_false, beq_self_eq_true, marks_length, marksI_length]
    first | done | simp [Tree.run]
  | inr d0_ =>
    have hd := i3 _ rfl
    have e0 := hd
    have hd0 : d0_.length ≤ maxN := by unfold maxN; omega
    have md0 := mark_ok d0_ (1) hd0 (by omega) (by omega)
    have hl0 := held_ok (1) d0_.length hd0 (by omega) (by omega)
    have g20 : decide (((1 : Int) + d0_.length : Int) < 0) = false := by simp; omega
    simp only [laws_FnExactSparseRootSolve_g, laws_FnExactSparseRootSolve_T, Tree.run, i1, i2, en, hn, mark_nil, m0, toSp_ok x0 x1 x2 x3 h1 h2 h3, eqSp_self x0 x1 x2 x3 h1 h2 h3, m4, toF_ok x4 h4, eqF_self x4 h4, g1, z0, d4, md0, hl0, g20, eqF_self d0_ hd0, Option.bind_some, Bool.false_eq_true, if_false, if_true, decide_true, Bool.not_true, Bool.not_false, beq_self_eq_true, marks_length, marksI_length]
    first | done | simp [Tree.run]
theorem rs_lawL (x0 : Int) (x1 : Nat) (x2 : Nat) (x3 : Nat) (x4 : Nat) (h0 : -9223372036854775808 ≤ x0 ∧ x0 < 9223372036854775808) (h1 : x1 < 9223372036854775808) (h2 : x2 < 9223372036854775808) (h3 : x3 < 9223372036854775808) (h4 : x4 < 9223372036854775808) (big : maxN < x1 ∨ maxN < x2 ∨ maxN < x3 ∨ maxN < x4) : laws_FnExactSparseRootSolve_len_g x1 x2 x3 x4 = some true := by
  have big0 := big
  unfold maxN at big
  by_cases c4 : (1048576 : Int) < (x4 : Int)
  · simp [laws_FnExactSparseRootSolve_len_g, laws_FnExactSparseRootSolve_len_T, Tree.run, c4]
  have e : decide (laws_szSparse_len_v x1 x2 x3 (1048576) < 0) = true := szSp_len x1 x2 x3 (1048576) h1 h2 h3 (by omega) (by omega) (by unfold maxN; omega)
  simp [laws_FnExactSparseRootSolve_len_g, laws_FnExactSparseRootSolve_len_T, Tree.run, c4, e]
end Go.Proofs.Ytjadfgeemfdbmaa.AM
