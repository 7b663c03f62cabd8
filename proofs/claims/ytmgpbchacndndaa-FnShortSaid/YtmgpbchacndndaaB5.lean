import Derived.Test.YtmgpbchacndndaaB4
set_option linter.unusedSimpArgs false
set_option linter.unusedVariables false
namespace Go.Proofs.Ytmgpbchacndndaa.AM
def EnvW (m : Nat) (σ : Nat → Nat) : Env → Env → Prop
  | [], [] => True
  | x :: xs, y :: ys => Wk1 m σ x y ∧ EnvW m σ xs ys
  | _, _ => False
theorem EnvW.all {m : Nat} {σ : Nat → Nat} : ∀ {e e' : Env}, EnvW m σ e e' → e.length = e'.length ∧ ∀ (i : Nat) (x y : AV), e[i]? = some x → e'[i]? = some y → Wk1 m σ x y
  | [], [], _ => ⟨rfl, by simp⟩
  | x :: xs, y :: ys, h => by
    obtain ⟨h1, h2⟩ := EnvW.all h.2
    refine ⟨by simp [h1], fun i a b ha hb => ?_⟩
    cases i with
    | zero => simp at ha hb; subst ha; subst hb; exact h.1
    | succ i => exact h2 i a b (by simpa using ha) (by simpa using hb)
  | [], _ :: _, h => h.elim
  | _ :: _, [], h => h.elim
theorem Afs_ {n : Nat} {σ : Nat → Nat} {y : AV} : Wk1 n σ .top y ↔ True := by simp [Wk1]
theorem Zp_ {n : Nat} {σ : Nat → Nat} {y : AV} : Wk1 n σ .undef y ↔ y = .undef := by simp [Wk1, AV.ren, AV.within]
theorem Anv_ {n : Nat} {σ : Nat → Nat} {b : Bool} {y : AV} : Wk1 n σ (.bool b) y ↔ y = .bool b := by simp [Wk1, AV.ren, AV.within]
theorem Aor_ {n : Nat} {σ : Nat → Nat} {k : IntKind} {b : Int} {y : AV} : Wk1 n σ (.int k b) y ↔ y = .int k b := by simp [Wk1, AV.ren, AV.within]
theorem Ap9_ {n : Nat} {σ : Nat → Nat} {k : FloatKind} {b : Nat} {y : AV} : Wk1 n σ (.flt k b) y ↔ y = .flt k b := by simp [Wk1, AV.ren, AV.within]
theorem Adp_ {n : Nat} {σ : Nat → Nat} {b : ByteArray} {y : AV} : Wk1 n σ (.str b) y ↔ y = .str b := by simp [Wk1, AV.ren, AV.within]
theorem Apg_ {n : Nat} {σ : Nat → Nat} {y : AV} : Wk1 n σ .nilptr y ↔ y = .nilptr := by simp [Wk1, AV.ren, AV.within]
theorem Z9_ {n : Nat} {σ : Nat → Nat} {y : AV} : Wk1 n σ .nilslc y ↔ y = .nilslc := by simp [Wk1, AV.ren, AV.within]
theorem Alc_ {n : Nat} {σ : Nat → Nat} {r : Ref} {y : AV} : Wk1 n σ (.ptr r) y ↔ y = .ptr ⟨σ r.id, r.off, r.ver⟩ ∧ r.id < n := by simp [Wk1, AV.ren, AV.within]
theorem Z1_ {n : Nat} {σ : Nat → Nat} {r : Ref} {m : Nat} {y : AV} : Wk1 n σ (.slc r m) y ↔ y = .slc ⟨σ r.id, r.off, r.ver⟩ m ∧ r.id < n := by simp [Wk1, AV.ren, AV.within]
section
variable {P : Program} {O : A0_} {nb : Nat}
theorem Wk.here {e e' : Env} {H : Heap} (hn : nb ≤ H.length) (hws : WS H) (he : EnvW H.length (fun i => i) e e') : Wk nb e H e' H :=
  ⟨_, WkH.refl hn hws, he.all.1, he.all.2⟩
theorem Wk.drop {e e' : Env} {H G : Heap} (hn : nb ≤ H.length) (hws : WS H) (he : EnvW H.length (fun i => i) e e') : Wk nb e H e' (H ++ G) :=
  ⟨_, WkH.drop hn hws, he.all.1, he.all.2⟩
end
def Sl (H : Heap) (r : Ref) (xs : List AV) : Prop :=
  ∃ B, H[r.id]? = some B ∧ r.ver = B.cells.length ∧ B.sz = 1 ∧ r.off + xs.length ≤ B.cells.length ∧ (B.cells.drop r.off).take xs.length = xs
section
variable {P : Program} {H : Heap} {r : Ref} {xs : List AV}
theorem Sl.lt (h : Sl H r xs) : r.id < H.length := by
  obtain ⟨B, h1, _⟩ := h
  exact (List.getElem?_eq_some_iff.1 h1).1
theorem Sl.live (h : Sl H r xs) : live H r = true := by
  obtain ⟨B, h1, h2, _⟩ := h
  exact Av_.2 ⟨B, h1, h2⟩
theorem Sl.idx (h : Sl H r xs) {t e : TypeId} (ht : P.underlying t = some (.slice e)) (hs : szA P e = some 1) (k : IntKind) (i : Nat) (hi : i < xs.length) :
    B1_ P H t (.slc r xs.length) (.int k i) = some (.ptr ⟨r.id, r.off + i, r.ver⟩) := by
  obtain ⟨B, h1, h2, h3, h4, h5⟩ := h
  simp [B1_, elemA, ht, hs, h1, h2, h3, hi]
theorem Sl.get (h : Sl H r xs) (i : Nat) (hi : i < xs.length) : ldC H ⟨r.id, r.off + i, r.ver⟩ = some xs[i] := by
  obtain ⟨B, h1, h2, h3, h4, h5⟩ := h
  simp only [ldC, h1, h2, if_true]
  have : (List.take xs.length (B.cells.drop r.off))[i]? = xs[i]? := by rw [h5]
  rw [List.getElem?_take, if_pos hi, List.getElem?_drop] at this
  rw [this, List.getElem?_eq_getElem hi]
end
theorem Aba_ : canon .f32 0 = 0 := by kernel_rfl
theorem Ahl_ : canon .f64 0 = 0 := by kernel_rfl
theorem Adn_ (P : Program) (t : Tmp) (e : Env) (H : Heap) : resA P [.tmp t] e H = some ((e[t]?).getD .top) := by simp [resA, resA1]
theorem Ang_ (P : Program) (t u : Tmp) (e : Env) (H : Heap) : resA P [.tmp t, .tmp u] e H = some (.tup [(e[t]?).getD .top, (e[u]?).getD .top]) := by simp [resA, resA1]
attribute [simp] putA binA fbin unA convA absV absC Aba_ Ahl_ Adn_ Ang_ EnvW
  Afs_ Zp_ Anv_ Aor_ Ap9_ Adp_ Apg_ Z9_ Alc_ Z1_ AV.within AVs.within AV.cellsA
theorem Ad0_ (k k' : IntKind) (a b : Int) (h : k = k') : valA (Go.binOp .add 0 (.int k a) (.int k' b)) = some (.int k (k.wrap (a + b))) := by subst h; simp [Go.binOp, Op.intArith]; rfl
theorem Aiz_ (k k' : IntKind) (a b : Int) (h : k = k') : valA (Go.binOp .sub 0 (.int k a) (.int k' b)) = some (.int k (k.wrap (a - b))) := by subst h; simp [Go.binOp, Op.intArith]; rfl
theorem Akc_ (k k' : IntKind) (a b : Int) (h : k = k') : valA (Go.binOp .mul 0 (.int k a) (.int k' b)) = some (.int k (k.wrap (a * b))) := by subst h; simp [Go.binOp, Op.intArith]; rfl
theorem Am0_ (k k' : IntKind) (a b : Int) (h : k = k') : valA (Go.binOp .lss 0 (.int k a) (.int k' b)) = some (.bool (decide (a < b))) := by subst h; simp [Go.binOp, Op.intCmp]; rfl
theorem Al8_ (k k' : IntKind) (a b : Int) (h : k = k') : valA (Go.binOp .leq 0 (.int k a) (.int k' b)) = some (.bool (decide (a ≤ b))) := by subst h; simp [Go.binOp, Op.intCmp]; rfl
theorem Alm_ (k k' : IntKind) (a b : Int) (h : k = k') : valA (Go.binOp .gtr 0 (.int k a) (.int k' b)) = some (.bool (decide (b < a))) := by subst h; simp [Go.binOp, Op.intCmp]; rfl
theorem Al7_ (k k' : IntKind) (a b : Int) (h : k = k') : valA (Go.binOp .geq 0 (.int k a) (.int k' b)) = some (.bool (decide (b ≤ a))) := by subst h; simp [Go.binOp, Op.intCmp]; rfl
theorem Aev_ (k k' : IntKind) (a b : Int) (h : k = k') : valA (Go.binOp .eql 0 (.int k a) (.int k' b)) = some (.bool (decide (a = b))) := by
  subst h; simp [Go.binOp, Op.intCmp]; show some (AV.bool (a == b)) = _; congr 2
theorem Aci_ (k k' : IntKind) (a b : Int) (h : k = k') : valA (Go.binOp .neq 0 (.int k a) (.int k' b)) = some (.bool (!decide (a = b))) := by
  subst h; simp [Go.binOp, Op.intCmp]; show some (AV.bool (a != b)) = _; congr 2
theorem W4_ (k k' : IntKind) (a b : Int) (h : k = k') (hb : b ≠ 0) : valA (Go.binOp .quo 0 (.int k a) (.int k' b)) = some (.int k (k.wrap (a.tdiv b))) := by subst h; simp [Go.binOp, Op.intDiv, hb]; rfl
theorem Ul_ (k k' : IntKind) (a b : Int) (h : k = k') (hb : b ≠ 0) : valA (Go.binOp .rem 0 (.int k a) (.int k' b)) = some (.int k (a.tmod b)) := by subst h; simp [Go.binOp, Op.intDiv, hb]; rfl
theorem Agl_ (b : Bool) : valA (Op.unary .not (.bool b)) = some (.bool !b) := rfl
theorem Ae7_ (k : IntKind) (a : Int) : valA (Op.unary .neg (.int k a)) = some (.int k (k.wrap (0 - a))) := rfl
attribute [simp] Ad0_ Aiz_ Akc_ Am0_ Al8_ Alm_ Al7_ Aev_ Aci_ W4_ Ul_ Agl_ Ae7_
end Go.Proofs.Ytmgpbchacndndaa.AM
