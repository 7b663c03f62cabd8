/- The abstract machine, part 14: loops that count; words for the proofs about the program. -/
import Derived.Test.YtmgpbchacndndaaB4
set_option linter.unusedSimpArgs false
set_option linter.unusedVariables false
namespace Go.Proofs.Ytmgpbchacndndaa.AM

/-- Two frames, slot by slot. -/
def EnvW (m : Nat) (σ : Nat → Nat) : Env → Env → Prop
  | [], [] => True
  | x :: xs, y :: ys => Wk1 m σ x y ∧ EnvW m σ xs ys
  | _, _ => False

theorem EnvW.all {m : Nat} {σ : Nat → Nat} : ∀ {e e' : Env}, EnvW m σ e e' → e.length = e'.length ∧ ∀ (i : Nat) (x y : AV), e[i]? = some x → e'[i]? = some y → Wk1 m σ x y
  | [], [], _ => ⟨rfl, by simp⟩
  | x :: xs, y :: ys, h => by
    obtain ⟨h1, h2⟩ := EnvW.all h.2
    refine ⟨by simp [h1], fun i a b ha hb => ?_⟩
    cases i with
    | zero => simp at ha hb; subst ha; subst hb; exact h.1
    | succ i => exact h2 i a b (by simpa using ha) (by simpa using hb)
  | [], _ :: _, h => h.elim
  | _ :: _, [], h => h.elim

theorem wk1_top {n : Nat} {σ : Nat → Nat} {y : AV} : Wk1 n σ .top y ↔ True := by simp [Wk1]
theorem wk1_undef {n : Nat} {σ : Nat → Nat} {y : AV} : Wk1 n σ .undef y ↔ y = .undef := by simp [Wk1, AV.ren, AV.within]
theorem wk1_bool {n : Nat} {σ : Nat → Nat} {b : Bool} {y : AV} : Wk1 n σ (.bool b) y ↔ y = .bool b := by simp [Wk1, AV.ren, AV.within]
theorem wk1_int {n : Nat} {σ : Nat → Nat} {k : IntKind} {b : Int} {y : AV} : Wk1 n σ (.int k b) y ↔ y = .int k b := by simp [Wk1, AV.ren, AV.within]
theorem wk1_flt {n : Nat} {σ : Nat → Nat} {k : FloatKind} {b : Nat} {y : AV} : Wk1 n σ (.flt k b) y ↔ y = .flt k b := by simp [Wk1, AV.ren, AV.within]
theorem wk1_str {n : Nat} {σ : Nat → Nat} {b : ByteArray} {y : AV} : Wk1 n σ (.str b) y ↔ y = .str b := by simp [Wk1, AV.ren, AV.within]
theorem wk1_nilptr {n : Nat} {σ : Nat → Nat} {y : AV} : Wk1 n σ .nilptr y ↔ y = .nilptr := by simp [Wk1, AV.ren, AV.within]
theorem wk1_nilslc {n : Nat} {σ : Nat → Nat} {y : AV} : Wk1 n σ .nilslc y ↔ y = .nilslc := by simp [Wk1, AV.ren, AV.within]
theorem wk1_ptr {n : Nat} {σ : Nat → Nat} {r : Ref} {y : AV} : Wk1 n σ (.ptr r) y ↔ y = .ptr ⟨σ r.id, r.off, r.ver⟩ ∧ r.id < n := by simp [Wk1, AV.ren, AV.within]
theorem wk1_slc {n : Nat} {σ : Nat → Nat} {r : Ref} {m : Nat} {y : AV} : Wk1 n σ (.slc r m) y ↔ y = .slc ⟨σ r.id, r.off, r.ver⟩ m ∧ r.id < n := by simp [Wk1, AV.ren, AV.within]

section
variable {P : Program} {O : Oracle} {nb : Nat}

/-- The heap as it is; the frame forgets. -/
theorem Wk.here {e e' : Env} {H : Heap} (hn : nb ≤ H.length) (hws : WS H) (he : EnvW H.length (fun i => i) e e') : Wk nb e H e' H :=
  ⟨_, WkH.refl hn hws, he.all.1, he.all.2⟩
/-- New blocks are forgotten. -/
theorem Wk.drop {e e' : Env} {H G : Heap} (hn : nb ≤ H.length) (hws : WS H) (he : EnvW H.length (fun i => i) e e') : Wk nb e H e' (H ++ G) :=
  ⟨_, WkH.drop hn hws, he.all.1, he.all.2⟩

/-- A loop that counts: before round k the state is (E k, HH k), and R k holds. -/
theorem TW_count (hO : SoundO P O) {b : Code} {Q : QA} {e : Env} {H : Heap} (n : Nat) (E : Nat → Env) (HH : Nat → Heap) (R : Nat → Prop) (h0 : R 0) (hw : Wk nb (E 0) (HH 0) e H)
    (round : ∀ k, k ≤ n → R k → awp P O nb b (seqQ (fun e' H' => k < n ∧ R (k + 1) ∧ Wk nb (E (k + 1)) (HH (k + 1)) e' H') Q) (E k) (HH k)) : TW P nb (.loop b) Q e H := by
  refine TW_loop hO (fun m e1 H1 => ∃ k, m = n - k ∧ k ≤ n ∧ R k ∧ e1 = E k ∧ H1 = HH k) n (E 0) (HH 0) ⟨0, rfl, Nat.zero_le _, h0, rfl, rfl⟩ hw ?_
  rintro m e1 H1 ⟨k, rfl, hk, hR, rfl, rfl⟩
  have mono : ∀ (c : Code) (Q Q' : QA) (e : Env) (H : Heap), (∀ ex e H, Q ex e H → Q' ex e H) → awp P O nb c Q e H → awp P O nb c Q' e H := by
    intro c
    induction c with
    | region i ops d =>
      intro Q Q' e H hq h
      cases d with
      | true => exact TW.mono h hq
      | false =>
        simp only [awp] at h ⊢
        split at h
        · exact hq _ _ _ h
        · exact h.elim
    | seq x y ihx ihy =>
      intro Q Q' e H hq h
      refine ihx _ _ e H (fun ex e H h => ?_) h
      cases ex with
      | normal => exact ihy _ _ e H hq h
      | _ => exact hq _ _ _ h
    | cond c x y ihx ihy =>
      intro Q Q' e H hq h
      simp only [awp] at h ⊢
      split at h
      · split at h
        · rw [if_pos (by assumption)]; exact ihx _ _ e H hq h
        · rw [if_neg (by assumption)]; exact ihy _ _ e H hq h
      · exact h.elim
    | block id b ih =>
      intro Q Q' e H hq h
      refine ih _ _ e H (fun ex e H h => ?_) h
      cases ex with
      | exit id' =>
        simp only [blockQ] at h ⊢
        split
        · rename_i hid; rw [if_pos hid] at h; exact hq _ _ _ h
        · rename_i hid; rw [if_neg hid] at h; exact hq _ _ _ h
      | _ => exact hq _ _ _ h
    | loop b ih => intro Q Q' e H hq h; exact TW.mono h hq
    | skip => intro Q Q' e H hq h; exact hq _ _ _ h
    | exit id => intro Q Q' e H hq h; exact hq _ _ _ h
    | ret => intro Q Q' e H hq h; exact hq _ _ _ h
    | rangeFunc f p x y => intro Q Q' e H hq h; exact h.elim
    | scope b => intro Q Q' e H hq h; exact h.elim
    | label l => intro Q Q' e H hq h; exact h.elim
    | goto l => intro Q Q' e H hq h; exact h.elim
    | refuse why => intro Q Q' e H hq h; exact h.elim
  refine mono _ _ _ _ _ (fun ex e H h => ?_) (round k hk hR)
  cases ex with
  | normal =>
    obtain ⟨h1, h2, h3⟩ := h
    exact ⟨n - (k + 1), by omega, _, _, ⟨k + 1, rfl, by omega, h2, rfl, rfl⟩, h3⟩
  | _ => exact h
end

/-! slices of numbers -/
/-- The slice at r holds these cells (elements of one cell). -/
def Sl (H : Heap) (r : Ref) (xs : List AV) : Prop :=
  ∃ B, H[r.id]? = some B ∧ r.ver = B.cells.length ∧ B.sz = 1 ∧ r.off + xs.length ≤ B.cells.length ∧ (B.cells.drop r.off).take xs.length = xs

section
variable {P : Program} {H : Heap} {r : Ref} {xs : List AV}
theorem Sl.lt (h : Sl H r xs) : r.id < H.length := by
  obtain ⟨B, h1, _⟩ := h
  exact (List.getElem?_eq_some_iff.1 h1).1
theorem Sl.live (h : Sl H r xs) : live H r = true := by
  obtain ⟨B, h1, h2, _⟩ := h
  exact live_iff.2 ⟨B, h1, h2⟩
theorem Sl.idx (h : Sl H r xs) {t e : TypeId} (ht : P.underlying t = some (.slice e)) (hs : szA P e = some 1) (k : IntKind) (i : Nat) (hi : i < xs.length) :
    indexAddrA P H t (.slc r xs.length) (.int k i) = some (.ptr ⟨r.id, r.off + i, r.ver⟩) := by
  obtain ⟨B, h1, h2, h3, h4, h5⟩ := h
  simp [indexAddrA, elemA, ht, hs, h1, h2, h3, hi]
theorem Sl.get (h : Sl H r xs) (i : Nat) (hi : i < xs.length) : ldC H ⟨r.id, r.off + i, r.ver⟩ = some xs[i] := by
  obtain ⟨B, h1, h2, h3, h4, h5⟩ := h
  simp only [ldC, h1, h2, if_true]
  have : (List.take xs.length (B.cells.drop r.off))[i]? = xs[i]? := by rw [h5]
  rw [List.getElem?_take, if_pos hi, List.getElem?_drop] at this
  rw [this, List.getElem?_eq_getElem hi]
end

theorem wrap_succ (k : Nat) (h : k < 4611686018427387904) : IntKind.i64.wrap ((k : Int) + 1) = ((k + 1 : Nat) : Int) := by
  rw [IntKind.wrap_i64]; omega

theorem canon_f32_0 : canon .f32 0 = 0 := by kernel_rfl
theorem canon_f64_0 : canon .f64 0 = 0 := by kernel_rfl

theorem resA_one (P : Program) (t : Tmp) (e : Env) (H : Heap) : resA P [.tmp t] e H = some ((e[t]?).getD .top) := by simp [resA, resA1]
theorem resA_two (P : Program) (t u : Tmp) (e : Env) (H : Heap) : resA P [.tmp t, .tmp u] e H = some (.tup [(e[t]?).getD .top, (e[u]?).getD .top]) := by simp [resA, resA1]

attribute [simp] putA binA fbin unA convA absV absC canon_f32_0 canon_f64_0 resA_one resA_two EnvW
  wk1_top wk1_undef wk1_bool wk1_int wk1_flt wk1_str wk1_nilptr wk1_nilslc wk1_ptr wk1_slc AV.within AVs.within AV.cellsA

theorem valA_pure_int (k : IntKind) (n : Int) : valA (pure (.int k n)) = some (.int k n) := rfl
theorem valA_pure_bool (b : Bool) : valA (pure (.bool b)) = some (.bool b) := rfl
theorem bin_add (k k' : IntKind) (a b : Int) (h : k = k') : valA (Go.binOp .add 0 (.int k a) (.int k' b)) = some (.int k (k.wrap (a + b))) := by subst h; simp [Go.binOp, Op.intArith]; rfl
theorem bin_sub (k k' : IntKind) (a b : Int) (h : k = k') : valA (Go.binOp .sub 0 (.int k a) (.int k' b)) = some (.int k (k.wrap (a - b))) := by subst h; simp [Go.binOp, Op.intArith]; rfl
theorem bin_mul (k k' : IntKind) (a b : Int) (h : k = k') : valA (Go.binOp .mul 0 (.int k a) (.int k' b)) = some (.int k (k.wrap (a * b))) := by subst h; simp [Go.binOp, Op.intArith]; rfl
theorem bin_lss (k k' : IntKind) (a b : Int) (h : k = k') : valA (Go.binOp .lss 0 (.int k a) (.int k' b)) = some (.bool (decide (a < b))) := by subst h; simp [Go.binOp, Op.intCmp]; rfl
theorem bin_leq (k k' : IntKind) (a b : Int) (h : k = k') : valA (Go.binOp .leq 0 (.int k a) (.int k' b)) = some (.bool (decide (a ≤ b))) := by subst h; simp [Go.binOp, Op.intCmp]; rfl
theorem bin_gtr (k k' : IntKind) (a b : Int) (h : k = k') : valA (Go.binOp .gtr 0 (.int k a) (.int k' b)) = some (.bool (decide (b < a))) := by subst h; simp [Go.binOp, Op.intCmp]; rfl
theorem bin_geq (k k' : IntKind) (a b : Int) (h : k = k') : valA (Go.binOp .geq 0 (.int k a) (.int k' b)) = some (.bool (decide (b ≤ a))) := by subst h; simp [Go.binOp, Op.intCmp]; rfl
theorem bin_eql (k k' : IntKind) (a b : Int) (h : k = k') : valA (Go.binOp .eql 0 (.int k a) (.int k' b)) = some (.bool (decide (a = b))) := by
  subst h; simp [Go.binOp, Op.intCmp]; show some (AV.bool (a == b)) = _; congr 2
theorem bin_neq (k k' : IntKind) (a b : Int) (h : k = k') : valA (Go.binOp .neq 0 (.int k a) (.int k' b)) = some (.bool (!decide (a = b))) := by
  subst h; simp [Go.binOp, Op.intCmp]; show some (AV.bool (a != b)) = _; congr 2
theorem bin_quo (k k' : IntKind) (a b : Int) (h : k = k') (hb : b ≠ 0) : valA (Go.binOp .quo 0 (.int k a) (.int k' b)) = some (.int k (k.wrap (a.tdiv b))) := by subst h; simp [Go.binOp, Op.intDiv, hb]; rfl
theorem bin_rem (k k' : IntKind) (a b : Int) (h : k = k') (hb : b ≠ 0) : valA (Go.binOp .rem 0 (.int k a) (.int k' b)) = some (.int k (a.tmod b)) := by subst h; simp [Go.binOp, Op.intDiv, hb]; rfl
theorem un_not (b : Bool) : valA (Op.unary .not (.bool b)) = some (.bool !b) := rfl
theorem un_neg (k : IntKind) (a : Int) : valA (Op.unary .neg (.int k a)) = some (.int k (k.wrap (0 - a))) := rfl
attribute [simp] bin_add bin_sub bin_mul bin_lss bin_leq bin_gtr bin_geq bin_eql bin_neq bin_quo bin_rem un_not un_neg

end Go.Proofs.Ytmgpbchacndndaa.AM
