import Derived.Test.YtmgpbchacndndaaD0
set_option linter.unusedSimpArgs false
set_option linter.unusedVariables false
namespace Go.Proofs.Ytmgpbchacndndaa.AM
inductive Tree (α : Type) : Type 1 where
  | leaf (a : α) : Tree α
  | fail : Tree α
  | br (b : Bool) (x y : Tree α) : Tree α
  | grd (b : Bool) (x : Tree α) : Tree α
  | need (p : Prop) (x : Tree α) : Tree α
  | call {β : Type} (o : Option β) (k : β → Tree α) : Tree α
  | sum {β γ : Type} (s : β ⊕ γ) (k : β → Tree α) (k' : γ → Tree α) : Tree α
namespace Tree
variable {α β : Type}
open Classical in
noncomputable def run : Tree α → Option α
  | leaf a => some a
  | fail => none
  | br b x y => if b = true then x.run else y.run
  | grd b x => if b = true then x.run else none
  | need p x => if p then x.run else none
  | call o k => o.bind fun b => (k b).run
  | sum s k k' => match s with | .inl b => (k b).run | .inr c => (k' c).run
def bind (t : Tree α) (f : α → Tree β) : Tree β :=
  match t with
  | leaf a => f a
  | fail => fail
  | br b x y => br b (x.bind f) (y.bind f)
  | grd b x => grd b (x.bind f)
  | need p x => need p (x.bind f)
  | call o k => call o fun b => (k b).bind f
  | sum s k k' => sum s (fun b => (k b).bind f) fun c => (k' c).bind f
theorem run_bind (f : α → Tree β) : ∀ t : Tree α, (t.bind f).run = t.run.bind fun a => (f a).run
  | leaf a => rfl
  | fail => rfl
  | br b x y => by
    have h1 := run_bind f x
    have h2 := run_bind f y
    cases b <;> simp [bind, run, h1, h2]
  | grd b x => by
    have h1 := run_bind f x
    cases b <;> simp [bind, run, h1]
  | need p x => by
    have h1 := run_bind f x
    by_cases hp : p <;> simp [bind, run, h1, hp]
  | call o k => by
    cases o with
    | none => rfl
    | some b => exact run_bind f (k b)
  | sum s k k' => by
    cases s with
    | inl b => exact run_bind f (k b)
    | inr c => exact run_bind f (k' c)
theorem run_bind_some {f : α → Tree β} {t : Tree α} {b : β} (h : (t.bind f).run = some b) : ∃ a, t.run = some a ∧ (f a).run = some b := by
  rw [run_bind] at h
  exact Option.bind_eq_some_iff.1 h
end Tree
def optT {α β : Type} (o : Option β) (k : β → Tree α) : Tree α :=
  match o with
  | some b => k b
  | none => .fail
theorem Aa_ {α β : Type} {o : Option β} {k : β → Tree α} {a : α} (h : (optT o k).run = some a) : ∃ b, o = some b ∧ (k b).run = some a := by
  cases o with
  | none => cases h
  | some b => exact ⟨b, rfl, h⟩
section
variable {σ ρ : Type}
def iter (step : σ → Option (σ ⊕ ρ)) : Nat → σ → Option ρ
  | 0, _ => none
  | n + 1, s =>
    match step s with
    | some (.inl s') => iter step n s'
    | some (.inr r) => some r
    | none => none
open Classical in
noncomputable def Af_ (step : σ → Option (σ ⊕ ρ)) (s : σ) : Option ρ :=
  if h : ∃ n r, iter step n s = some r then iter step (Classical.choose h) s else none
theorem N5_ {step : σ → Option (σ ⊕ ρ)} : ∀ {n m : Nat} {s : σ} {r : ρ}, n ≤ m → iter step n s = some r → iter step m s = some r
  | 0, _, _, _, _, h => by cases h
  | n + 1, 0, _, _, hm, _ => by omega
  | n + 1, m + 1, s, r, hm, h => by
    simp only [iter] at h ⊢
    split at h
    · exact N5_ (by omega) h
    · exact h
    · cases h
theorem Ln_ {step : σ → Option (σ ⊕ ρ)} {s : σ} {r : ρ} : Af_ step s = some r ↔ ∃ n, iter step n s = some r := by
  unfold Af_
  constructor
  · intro h
    split at h
    · exact ⟨_, h⟩
    · cases h
  · rintro ⟨n, hn⟩
    have hx : ∃ n r, iter step n s = some r := ⟨n, r, hn⟩
    rw [dif_pos hx]
    obtain ⟨r', hr'⟩ := Classical.choose_spec hx
    rcases Nat.le_total n (Classical.choose hx) with h | h
    · exact N5_ h hn
    · have := N5_ h hr'
      rw [hr', ← hn, this]
theorem Ch_ (step : σ → Option (σ ⊕ ρ)) (s : σ) : Af_ step s = match step s with
    | some (.inl s') => Af_ step s'
    | some (.inr r) => some r
    | none => none := by
  apply Option.ext
  intro r
  rw [Ln_]
  constructor
  · rintro ⟨n, hn⟩
    cases n with
    | zero => cases hn
    | succ n =>
      simp only [iter] at hn
      split at hn
      · exact Ln_.2 ⟨n, hn⟩
      · exact hn
      · cases hn
  · intro h
    split at h
    · rename_i s' hs
      obtain ⟨n, hn⟩ := Ln_.1 h
      exact ⟨n + 1, by simp only [iter, hs]; exact hn⟩
    · rename_i r' hs
      exact ⟨1, by simp only [iter, hs]; exact h⟩
    · cases h
theorem Ad7_ (step : σ → Option (σ ⊕ ρ)) (f : Nat → σ) (n : Nat) (r : ρ) (hs : ∀ i, i < n → step (f i) = some (.inl (f (i + 1)))) (he : step (f n) = some (.inr r)) : Af_ step (f 0) = some r := by
  have : ∀ d i, i + d = n → Af_ step (f i) = some r := by
    intro d
    induction d with
    | zero => intro i hi; have : i = n := by omega
              subst this; rw [Ch_, he]
    | succ d ih => intro i hi; rw [Ch_, hs i (by omega)]; exact ih (i + 1) (by omega)
  exact this n 0 (by omega)
end
end Go.Proofs.Ytmgpbchacndndaa.AM
