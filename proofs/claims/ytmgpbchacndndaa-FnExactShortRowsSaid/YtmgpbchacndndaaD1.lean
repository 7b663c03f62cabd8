/- Trees of what a piece of code may come to; loops as iteration. -/
import Derived.Test.YtmgpbchacndndaaD0
set_option linter.unusedSimpArgs false
set_option linter.unusedVariables false
namespace Go.Proofs.Ytmgpbchacndndaa.AM

inductive Tree (α : Type) : Type 1 where
  | leaf (a : α) : Tree α
  | fail : Tree α
  | br (b : Bool) (x y : Tree α) : Tree α
  | grd (b : Bool) (x : Tree α) : Tree α
  | need (p : Prop) (x : Tree α) : Tree α
  | call {β : Type} (o : Option β) (k : β → Tree α) : Tree α
  | sum {β γ : Type} (s : β ⊕ γ) (k : β → Tree α) (k' : γ → Tree α) : Tree α

namespace Tree
variable {α β : Type}
open Classical in
noncomputable def run : Tree α → Option α
  | leaf a => some a
  | fail => none
  | br b x y => if b = true then x.run else y.run
  | grd b x => if b = true then x.run else none
  | need p x => if p then x.run else none
  | call o k => o.bind fun b => (k b).run
  | sum s k k' => match s with | .inl b => (k b).run | .inr c => (k' c).run
def bind (t : Tree α) (f : α → Tree β) : Tree β :=
  match t with
  | leaf a => f a
  | fail => fail
  | br b x y => br b (x.bind f) (y.bind f)
  | grd b x => grd b (x.bind f)
  | need p x => need p (x.bind f)
  | call o k => call o fun b => (k b).bind f
  | sum s k k' => sum s (fun b => (k b).bind f) fun c => (k' c).bind f
theorem run_bind (f : α → Tree β) : ∀ t : Tree α, (t.bind f).run = t.run.bind fun a => (f a).run
  | leaf a => rfl
  | fail => rfl
  | br b x y => by
    have h1 := run_bind f x
    have h2 := run_bind f y
    cases b <;> simp [bind, run, h1, h2]
  | grd b x => by
    have h1 := run_bind f x
    cases b <;> simp [bind, run, h1]
  | need p x => by
    have h1 := run_bind f x
    by_cases hp : p <;> simp [bind, run, h1, hp]
  | call o k => by
    cases o with
    | none => rfl
    | some b => exact run_bind f (k b)
  | sum s k k' => by
    cases s with
    | inl b => exact run_bind f (k b)
    | inr c => exact run_bind f (k' c)
theorem run_bind_some {f : α → Tree β} {t : Tree α} {b : β} (h : (t.bind f).run = some b) : ∃ a, t.run = some a ∧ (f a).run = some b := by
  rw [run_bind] at h
  exact Option.bind_eq_some_iff.1 h
end Tree

/-- What is had goes on; what is not ends. -/
def optT {α β : Type} (o : Option β) (k : β → Tree α) : Tree α :=
  match o with
  | some b => k b
  | none => .fail
theorem optT_run {α β : Type} {o : Option β} {k : β → Tree α} {a : α} (h : (optT o k).run = some a) : ∃ b, o = some b ∧ (k b).run = some a := by
  cases o with
  | none => cases h
  | some b => exact ⟨b, rfl, h⟩

section
variable {σ ρ : Type}
def iter (step : σ → Option (σ ⊕ ρ)) : Nat → σ → Option ρ
  | 0, _ => none
  | n + 1, s =>
    match step s with
    | some (.inl s') => iter step n s'
    | some (.inr r) => some r
    | none => none
open Classical in
noncomputable def whileM (step : σ → Option (σ ⊕ ρ)) (s : σ) : Option ρ :=
  if h : ∃ n r, iter step n s = some r then iter step (Classical.choose h) s else none
theorem iter_mono {step : σ → Option (σ ⊕ ρ)} : ∀ {n m : Nat} {s : σ} {r : ρ}, n ≤ m → iter step n s = some r → iter step m s = some r
  | 0, _, _, _, _, h => by cases h
  | n + 1, 0, _, _, hm, _ => by omega
  | n + 1, m + 1, s, r, hm, h => by
    simp only [iter] at h ⊢
    split at h
    · exact iter_mono (by omega) h
    · exact h
    · cases h
theorem whileM_iff {step : σ → Option (σ ⊕ ρ)} {s : σ} {r : ρ} : whileM step s = some r ↔ ∃ n, iter step n s = some r := by
  unfold whileM
  constructor
  · intro h
    split at h
    · exact ⟨_, h⟩
    · cases h
  · rintro ⟨n, hn⟩
    have hx : ∃ n r, iter step n s = some r := ⟨n, r, hn⟩
    rw [dif_pos hx]
    obtain ⟨r', hr'⟩ := Classical.choose_spec hx
    rcases Nat.le_total n (Classical.choose hx) with h | h
    · exact iter_mono h hn
    · have := iter_mono h hr'
      rw [hr', ← hn, this]
theorem whileM_eq (step : σ → Option (σ ⊕ ρ)) (s : σ) : whileM step s = match step s with
    | some (.inl s') => whileM step s'
    | some (.inr r) => some r
    | none => none := by
  apply Option.ext
  intro r
  rw [whileM_iff]
  constructor
  · rintro ⟨n, hn⟩
    cases n with
    | zero => cases hn
    | succ n =>
      simp only [iter] at hn
      split at hn
      · exact whileM_iff.2 ⟨n, hn⟩
      · exact hn
      · cases hn
  · intro h
    split at h
    · rename_i s' hs
      obtain ⟨n, hn⟩ := whileM_iff.1 h
      exact ⟨n + 1, by simp only [iter, hs]; exact hn⟩
    · rename_i r' hs
      exact ⟨1, by simp only [iter, hs]; exact h⟩
    · cases h
/-- A loop that counts, and is left at its end. -/
theorem whileM_count (step : σ → Option (σ ⊕ ρ)) (f : Nat → σ) (n : Nat) (r : ρ) (hs : ∀ i, i < n → step (f i) = some (.inl (f (i + 1)))) (he : step (f n) = some (.inr r)) : whileM step (f 0) = some r := by
  have : ∀ d i, i + d = n → whileM step (f i) = some r := by
    intro d
    induction d with
    | zero => intro i hi; have : i = n := by omega
              subst this; rw [whileM_eq, he]
    | succ d ih => intro i hi; rw [whileM_eq, hs i (by omega)]; exact ih (i + 1) (by omega)
  exact this n 0 (by omega)
/-- The loop's end, by what falls. -/
theorem whileM_wf (step : σ → Option (σ ⊕ ρ)) (I : σ → Prop) (m : σ → Nat) (T : σ → ρ → Prop)
    (h : ∀ s, I s → (∃ s', step s = some (.inl s') ∧ I s' ∧ m s' < m s ∧ ∀ r, T s' r → T s r) ∨ ∃ r, step s = some (.inr r) ∧ T s r) :
    ∀ s, I s → ∃ r, whileM step s = some r ∧ T s r := by
  intro s
  induction hm : m s using Nat.strongRecOn generalizing s with
  | _ k ih =>
    intro hi
    rcases h s hi with ⟨s', h1, h2, h3, h4⟩ | ⟨r, h1, h2⟩
    · obtain ⟨r, k1, k2⟩ := ih (m s') (by omega) s' rfl h2
      exact ⟨r, by rw [whileM_eq, h1]; exact k1, h4 r k2⟩
    · exact ⟨r, by rw [whileM_eq, h1], h2⟩
end
end Go.Proofs.Ytmgpbchacndndaa.AM
