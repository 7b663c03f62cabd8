import Derived.Test.YtmgpbchacndndaaB3
set_option linter.unusedSimpArgs false
set_option linter.unusedVariables false
namespace Go.Proofs.Ytmgpbchacndndaa.AM
theorem Kz_ {σ : Nat → Nat} {n : Nat} (hσ : ∀ i, i < n → σ i = i) : ∀ (x : AV), x.within n = true → x.ren σ = x := by
  intro x
  induction x using AV.rec (motive_2 := fun xs => AVs.within n xs = true → AVs.ren σ xs = xs) with
  | ptr r => intro h; simp only [AV.within, decide_eq_true_eq] at h; simp [AV.ren, hσ _ h]
  | slc r m => intro h; simp only [AV.within, decide_eq_true_eq] at h; simp [AV.ren, hσ _ h]
  | fn f cs ih => intro h; simp only [AV.within] at h; simp [AV.ren, ih h]
  | agg cs ih => intro h; simp only [AV.within] at h; simp [AV.ren, ih h]
  | tup cs ih => intro h; simp only [AV.within] at h; simp [AV.ren, ih h]
  | nil => rfl
  | cons c cs ih1 ih2 => rename_i h; simp only [AVs.within, Bool.and_eq_true] at h; simp [AVs.ren, ih1 h.1, ih2 h.2]
  | _ => intro _; rfl
theorem Vs_ {n m : Nat} (h : n ≤ m) : ∀ (x : AV), x.within n = true → x.within m = true := by
  intro x
  induction x using AV.rec (motive_2 := fun xs => AVs.within n xs = true → AVs.within m xs = true) with
  | ptr r => intro h; simp only [AV.within, decide_eq_true_eq] at h ⊢; omega
  | slc r k => intro h; simp only [AV.within, decide_eq_true_eq] at h ⊢; omega
  | fn f cs ih => intro h; simp only [AV.within] at h ⊢; exact ih h
  | agg cs ih => intro h; simp only [AV.within] at h ⊢; exact ih h
  | tup cs ih => intro h; simp only [AV.within] at h ⊢; exact ih h
  | nil => rfl
  | cons c cs ih1 ih2 => rename_i h; simp only [AVs.within, Bool.and_eq_true] at h ⊢; exact ⟨ih1 h.1, ih2 h.2⟩
  | _ => intro _; rfl
theorem P0_ {n : Nat} {x : AV} (h : x.isFlat = true) : x.within n = true := by
  cases x <;> first | rfl | simp [AV.isFlat] at h
theorem Ak0_ {σ : Nat → Nat} {x : AV} (h : x.isFlat = true) : x.ren σ = x := by
  cases x <;> first | rfl | simp [AV.isFlat] at h
def keepσ (n : Nat) (ks : List Nat) (i : Nat) : Nat := if i < n then i else n + (ks[i - n]?).getD i
def WkB (m : Nat) (σ : Nat → Nat) (B B' : Blk) : Prop :=
  B'.own = B.own ∧ B'.sz = B.sz ∧ B'.flat = B.flat ∧ ((B.flat = true ∧ B' = B ∧ B.cells.all AV.isFlat = true) ∨ (B.flat = false ∧ B'.cells = B.cells.map (·.ren σ) ∧ B.cells.all (·.within m) = true))
theorem WkH.keep {nb : Nat} {H0 L L' : List Blk} (ks : List Nat) (hn : nb ≤ H0.length) (hws : WS H0) (hl : L.length = ks.length) (hnd : ks.Nodup)
    (hb : ∀ (j k : Nat) (B : Blk), L[j]? = some B → ks[j]? = some k → ∃ B', L'[k]? = some B' ∧ WkB (H0 ++ L).length (keepσ H0.length ks) B B') :
    WkH nb (keepσ H0.length ks) (H0 ++ L) (H0 ++ L') := by
  have hlow : ∀ i, i < H0.length → keepσ H0.length ks i = i := fun i hi => by simp [keepσ, hi]
  have hhigh : ∀ j, j < L.length → ∃ k, ks[j]? = some k ∧ keepσ H0.length ks (H0.length + j) = H0.length + k := fun j hj => by
    have hk : j < ks.length := by omega
    refine ⟨ks[j], List.getElem?_eq_getElem hk, ?_⟩
    unfold keepσ
    rw [if_neg (by omega), show H0.length + j - H0.length = j by omega, List.getElem?_eq_getElem hk]; rfl
  refine ⟨fun i hi => hlow i (by omega), by simp; omega, fun i j hi hj he => ?_, fun i B hB => ?_⟩
  · simp only [List.length_append] at hi hj
    by_cases h1 : i < H0.length
    · rw [hlow i h1] at he
      by_cases h2 : j < H0.length
      · rw [hlow j h2] at he; exact he
      · obtain ⟨k, _, hk⟩ := hhigh (j - H0.length) (by omega)
        rw [show H0.length + (j - H0.length) = j by omega] at hk
        omega
    · obtain ⟨k, g1, g2⟩ := hhigh (i - H0.length) (by omega)
      rw [show H0.length + (i - H0.length) = i by omega] at g2
      by_cases h2 : j < H0.length
      · rw [hlow j h2] at he; omega
      · obtain ⟨k', g3, g4⟩ := hhigh (j - H0.length) (by omega)
        rw [show H0.length + (j - H0.length) = j by omega] at g4
        have : k = k' := by omega
        subst this
        have hi' : i - H0.length < ks.length := (List.getElem?_eq_some_iff.1 g1).1
        have := (List.getElem?_inj hi' hnd).1 (g1.trans g3.symm)
        omega
  · by_cases h1 : i < H0.length
    · rw [List.getElem?_append_left h1] at hB
      refine ⟨B, by rw [hlow i h1, List.getElem?_append_left h1]; exact hB, rfl, rfl, rfl, fun j c c' hc hc' => ?_, fun _ => ⟨by assumption, rfl⟩⟩
      rw [hc] at hc'; cases hc'
      have hin := hws i B hB c (List.mem_of_getElem? hc)
      exact .inr ⟨(Kz_ hlow c hin).symm, Vs_ (by simp) c hin⟩
    · rw [List.getElem?_append_right (by omega)] at hB
      have hlt : i - H0.length < L.length := (List.getElem?_eq_some_iff.1 hB).1
      obtain ⟨k, g1, g2⟩ := hhigh _ hlt
      rw [show H0.length + (i - H0.length) = i by omega] at g2
      obtain ⟨B', k1, k2, k3, k4, k5⟩ := hb _ k B hB g1
      refine ⟨B', by rw [g2, List.getElem?_append_right (by omega), show H0.length + k - H0.length = k by omega]; exact k1, k2, k3, ?_, fun j c c' hc hc' => ?_, fun hf => ?_⟩
      · rcases k5 with ⟨_, rfl, _⟩ | ⟨_, h, _⟩
        · rfl
        · rw [h]; simp
      · rcases k5 with ⟨_, rfl, h⟩ | ⟨_, h, hw⟩
        · rw [hc] at hc'; cases hc'
          have := List.all_eq_true.1 h c (List.mem_of_getElem? hc)
          exact .inr ⟨(Ak0_ this).symm, P0_ this⟩
        · rw [h, List.getElem?_map, hc] at hc'
          cases hc'
          exact .inr ⟨rfl, List.all_eq_true.1 hw c (List.mem_of_getElem? hc)⟩
      · rcases k5 with ⟨_, rfl, _⟩ | ⟨h, _, _⟩
        · exact ⟨hf, rfl⟩
        · rw [hf] at h; cases h
theorem WkH.refl {nb : Nat} {H : Heap} (hn : nb ≤ H.length) (hws : WS H) : WkH nb (fun i => i) H H where
  base := fun _ _ => rfl
  len := hn
  inj := fun _ _ _ _ h => h
  blk := fun i B hB => ⟨B, hB, rfl, rfl, rfl, fun j c c' hc hc' => by
    rw [hc] at hc'; cases hc'
    have hin := hws i B hB c (List.mem_of_getElem? hc)
    exact .inr ⟨(Kz_ (fun _ _ => rfl) c hin).symm, hin⟩, fun hf => ⟨hf, rfl⟩⟩
theorem WkH.drop {nb : Nat} {H G : Heap} (hn : nb ≤ H.length) (hws : WS H) : WkH nb (fun i => i) H (H ++ G) where
  base := fun _ _ => rfl
  len := hn
  inj := fun _ _ _ _ h => h
  blk := fun i B hB => ⟨B, by rw [List.getElem?_append_left (List.getElem?_eq_some_iff.1 hB).1]; exact hB, rfl, rfl, rfl, fun j c c' hc hc' => by
    rw [hc] at hc'; cases hc'
    have hin := hws i B hB c (List.mem_of_getElem? hc)
    exact .inr ⟨(Kz_ (fun _ _ => rfl) c hin).symm, hin⟩, fun hf => ⟨hf, rfl⟩⟩
theorem Wk1.self {n : Nat} {x : AV} (h : x.within n = true) : Wk1 n (fun i => i) x x := .inr ⟨(Kz_ (fun _ _ => rfl) x h).symm, h⟩
section
variable {P : Program}
end
end Go.Proofs.Ytmgpbchacndndaa.AM
