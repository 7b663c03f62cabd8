import Derived.Test.YtmgpbchacndndaaA4
import Derived.Laws.AppendOwn
import Derived.Laws.MakeOwn
import Derived.Laws.CopyRow
import Derived.ChangeKeysEq
set_option linter.unusedSimpArgs false
set_option linter.unusedVariables false
namespace Go.Proofs.Ytmgpbchacndndaa.AM
def OkV (P : Program) (H : Heap) (μ : Mem) (w : World) (s : Sem Value) (x : AV) (H' : Heap) : Prop :=
  ∃ v w' μ', s.run P w = .ok v w' ∧ VR H' μ' x v ∧ HR H' μ' w' ∧ Adv H μ w H' μ' w'
section
variable {P : Program} {H H' : Heap} {μ : Mem} {w : World}
theorem OkV.here (hr : HR H μ w) {s : Sem Value} {x : AV} {v : Value} (h : s.run P w = .ok v w) (hv : VR H μ x v) : OkV P H μ w s x H :=
  ⟨v, w, μ, h, hv, hr, Adv.refl H μ w⟩
theorem OkV.drew (hr : HR H μ w) {s : Sem Value} {x : AV} {v : Value} {w' : World} (h : s.run P w = .ok v w') (hv : VR H μ x v)
    (h1 : w'.heap = w.heap) (h2 : w'.os = w.os) (h3 : w'.tape = w.tape) (h4 : w'.output = w.output) : OkV P H μ w s x H :=
  ⟨v, w', μ, h, hv, (hr.same h1 h2 h3 h4).1, (hr.same h1 h2 h3 h4).2⟩
theorem Mg_ {s : Sem Value} {x : AV} (h : valA s = some x) (H : Heap) (μ : Mem) : ∃ v, (∀ w, s.run P w = .ok v w) ∧ VR H μ x v := by
  unfold valA at h
  split at h <;> simp only [Option.some.injEq, reduceCtorEq] at h
  all_goals (subst h; exact ⟨_, fun _ => rfl, by constructor⟩)
theorem VR.int_inv {k : IntKind} {n : Int} {v : Value} (h : VR H μ (.int k n) v) : v = .int k n := by cases h; rfl
theorem VR.bool_inv {b : Bool} {v : Value} (h : VR H μ (.bool b) v) : v = .bool b := by cases h; rfl
theorem VR.str_inv {s : ByteArray} {v : Value} (h : VR H μ (.str s) v) : v = .string s := by cases h; rfl
theorem VR.flt_inv {k : FloatKind} {x : Nat} {v : Value} (h : VR H μ (.flt k x) v) : ∃ b, v = .float k b ∧ canon k b = x := by cases h; exact ⟨_, rfl, rfl⟩
theorem VR.nilslc_inv {v : Value} (h : VR H μ .nilslc v) : v = .slice none 0 0 := by cases h; rfl
theorem VR.nilfn_inv {v : Value} (h : VR H μ .nilfn v) : v = .nilFunc := by cases h; rfl
theorem VR.nilptr_inv {v : Value} (h : VR H μ .nilptr v) : v = .pointer none := by cases h; rfl
theorem VR.agg_inv {cs : List AV} {v : Value} (h : VR H μ (.agg cs) v) : ∃ vs, v = .agg vs ∧ VRs H μ cs vs := by cases h; exact ⟨_, rfl, by assumption, by assumption⟩
theorem VR.tup_inv {cs : List AV} {v : Value} (h : VR H μ (.tup cs) v) : ∃ vs, v = .tuple vs ∧ VRs H μ cs vs := by cases h; exact ⟨_, rfl, by assumption, by assumption⟩
theorem VR.fn_inv {f : FuncId} {cs : List AV} {v : Value} (h : VR H μ (.fn f cs) v) : ∃ vs, v = .func (.func f) #[] vs ∧ VRs H μ cs vs := by cases h; exact ⟨_, rfl, by assumption, by assumption⟩
theorem VR.ptr_inv {r : Ref} {v : Value} {B : Blk} (h : VR H μ (.ptr r) v) (hB : H[r.id]? = some B) (hv : r.ver = B.cells.length) :
    v = .pointer (some ⟨μ.blk r.id, μ.off r.id + r.off, none⟩) := by
  cases h
  rename_i B' hB' _ h
  rw [hB] at hB'; cases hB'
  exact h hv
theorem VR.slc_inv {r : Ref} {n : Nat} {v : Value} {B : Blk} (h : VR H μ (.slc r n) v) (hB : H[r.id]? = some B) (hv : r.ver = B.cells.length) : SlcOk μ B r n v := by
  cases h
  rename_i B' hB' _ h
  rw [hB] at hB'; cases hB'
  exact h hv
theorem Av_ {r : Ref} : live H r = true ↔ ∃ B, H[r.id]? = some B ∧ r.ver = B.cells.length := by
  unfold live
  cases H[r.id]? <;> simp
theorem SlcOk.slice {B : Blk} {r : Ref} {n : Nat} {v : Value} (h : SlcOk μ B r n v) : ∃ a c, v = .slice (some a) n c := by
  rcases h.2 with ⟨c, h, _⟩ | ⟨rfl, _, a, h⟩
  · exact ⟨_, c, h⟩
  · exact ⟨a, 0, h⟩
theorem Et_ (op : BinOp) (t : TypeId) (x y : Operand) (a b : Value) (h1 : a ≠ .nilIface) (h2 : ∀ cs, a ≠ .agg cs) : (eqGuard op t x y a b).run P w = .ok () w := by
  unfold eqGuard
  cases a <;> first | (exact absurd rfl h1) | (exact absurd rfl (h2 _)) | (cases op <;> simp)
theorem Rm_ (t : TypeId) (x y : Value) : Op.equal t x y = Op.equalIn (9999 + 1) t x y := rfl
theorem W5_ (t : TypeId) (ht : P.underlying t = some .bool) (a b : Bool) : (Op.equal t (.bool a) (.bool b)).run P w = .ok (a == b) w := by
  rw [Rm_, Op.equalIn, Sem.run_bind, run_underlying ht]; rfl
theorem Vd_ (t e : TypeId) (ht : P.underlying t = some (.slice e)) : (Op.equal t (.slice none 0 0) (.slice none 0 0)).run P w = .ok true w := by
  rw [Rm_, Op.equalIn, Sem.run_bind, run_underlying ht]; rfl
theorem Tz_ (t e : TypeId) (ht : P.underlying t = some (.slice e)) (a : Addr) (n c : Nat) : (Op.equal t (.slice (some a) n c) (.slice none 0 0)).run P w = .ok false w := by
  rw [Rm_, Op.equalIn, Sem.run_bind, run_underlying ht]; rfl
theorem Abh_ (hr : HR H μ w) {op : BinOp} {k : FloatKind} {b1 b2 : Nat} {z : AV} (h : fbin op k (canon k b1) (canon k b2) = some z) (t : TypeId) :
    OkV P H μ w (Go.binOp op t (.float k b1) (.float k b2)) z H := by
  have arith : ∀ op : BinOp, (∃ r, fbin op k (canon k b1) (canon k b2) = some (.flt k r) ∧ z = .flt k r) → (Go.binOp op t (.float k b1) (.float k b2)) = Op.floatArith op k b1 b2 → OkV P H μ w (Go.binOp op t (.float k b1) (.float k b2)) z H := by
    rintro op ⟨r, hr1, rfl⟩ he
    obtain ⟨v, w', h1, h2, h3, h4, h5, h6⟩ := Als_ P w op k b1 b2 r hr1
    exact OkV.drew hr (v := .float k v) (w' := w') (by rw [he]; exact h1) (h2 ▸ VR.flt k v) h3 h4 h5 h6
  cases op <;> simp only [fbin, Option.some.injEq, reduceCtorEq] at h <;> subst h
  · exact arith .add ⟨_, rfl, rfl⟩ (by simp [Go.binOp])
  · exact arith .sub ⟨_, rfl, rfl⟩ (by simp [Go.binOp])
  · exact arith .mul ⟨_, rfl, rfl⟩ (by simp [Go.binOp])
  · exact arith .quo ⟨_, rfl, rfl⟩ (by simp [Go.binOp])
  all_goals (refine OkV.here hr ?_ (VR.bool _); simp [Go.binOp, Op.floatCmp, feq, fless, fgrt, Um_, bne])
theorem Ae1_ (hr : HR H μ w) {op : BinOp} {t : TypeId} {x y z : AV} (ox oy : Operand) {a b : Value} (ha : VR H μ x a) (hb : VR H μ y b) (h : binA P H op t x y = some z) :
    OkV P H μ w (do eqGuard op t ox oy a b; Go.binOp op t a b) z H := by
  unfold binA at h
  split at h
  · rename_i k m k' n
    obtain rfl := ha.int_inv
    obtain rfl := hb.int_inv
    obtain ⟨v, h1, h2⟩ := Mg_ (P := P) h H μ
    refine OkV.here hr ?_ h2
    have e : Go.binOp op t (.int k m) (.int k' n) = Go.binOp op 0 (.int k m) (.int k' n) := by cases op <;> rfl
    rw [Sem.run_bind, Et_ _ _ _ _ _ _ (by simp) (by simp), e]
    exact h1 w
  · rename_i k m k' n
    split at h
    · rename_i hk; subst hk
      obtain ⟨b1, rfl, rfl⟩ := ha.flt_inv
      obtain ⟨b2, rfl, rfl⟩ := hb.flt_inv
      have hg := Et_ (P := P) (w := w) op t ox oy (.float k b1) (.float k b2) (by simp) (by simp)
      obtain ⟨v, w', μ', h1, h2, h3, h4⟩ := Abh_ (P := P) hr h t
      exact ⟨v, w', μ', by rw [Sem.run_bind, hg]; exact h1, h2, h3, h4⟩
    · cases h
  · rename_i s1 s2
    obtain rfl := ha.str_inv
    obtain rfl := hb.str_inv
    obtain ⟨v, h1, h2⟩ := Mg_ (P := P) h H μ
    refine OkV.here hr ?_ h2
    rw [Sem.run_bind, Et_ _ _ _ _ _ _ (by simp) (by simp)]
    have e : Go.binOp op t (.string s1) (.string s2) = Op.stringOp op s1 s2 := by cases op <;> rfl
    rw [e]; exact h1 w
  · rename_i b1 b2
    obtain rfl := ha.bool_inv
    obtain rfl := hb.bool_inv
    have hg := Et_ (P := P) (w := w) op t ox oy (.bool b1) (.bool b2) (by simp) (by simp)
    split at h <;> simp only [Option.some.injEq, reduceCtorEq] at h
    · rename_i ht
      subst h
      refine OkV.here hr ?_ (VR.bool _)
      rw [Sem.run_bind, hg]; simp [Go.binOp, W5_ t ht]
    · rename_i ht
      subst h
      refine OkV.here hr ?_ (VR.bool _)
      rw [Sem.run_bind, hg]; simp [Go.binOp, W5_ t ht]
  · obtain rfl := ha.nilslc_inv
    obtain rfl := hb.nilslc_inv
    have hg := Et_ (P := P) (w := w) op t ox oy (.slice none 0 0) (.slice none 0 0) (by simp) (by simp)
    split at h <;> simp only [Option.some.injEq, reduceCtorEq] at h
    · rename_i e ht
      subst h
      refine OkV.here hr ?_ (VR.bool _)
      rw [Sem.run_bind, hg]; simp [Go.binOp, Vd_ t e ht]
    · rename_i e ht
      subst h
      refine OkV.here hr ?_ (VR.bool _)
      rw [Sem.run_bind, hg]; simp [Go.binOp, Vd_ t e ht]
  · rename_i r n
    obtain rfl := hb.nilslc_inv
    split at h
    · rename_i e ht
      split at h <;> simp only [Option.some.injEq, reduceCtorEq] at h
      rename_i hl
      obtain ⟨B, hB, hv⟩ := Av_.1 hl
      obtain ⟨ad, c, rfl⟩ := (ha.slc_inv hB hv).slice
      subst h
      have hg := Et_ (P := P) (w := w) .eql t ox oy (.slice (some ad) n c) (.slice none 0 0) (by simp) (by simp)
      refine OkV.here hr ?_ (VR.bool _)
      rw [Sem.run_bind, hg]; simp [Go.binOp, Tz_ t e ht]
    · rename_i e ht
      split at h <;> simp only [Option.some.injEq, reduceCtorEq] at h
      rename_i hl
      obtain ⟨B, hB, hv⟩ := Av_.1 hl
      obtain ⟨ad, c, rfl⟩ := (ha.slc_inv hB hv).slice
      subst h
      have hg := Et_ (P := P) (w := w) .neq t ox oy (.slice (some ad) n c) (.slice none 0 0) (by simp) (by simp)
      refine OkV.here hr ?_ (VR.bool _)
      rw [Sem.run_bind, hg]; simp [Go.binOp, Tz_ t e ht]
    · cases h
  · cases h
theorem Aq7_ (hr : HR H μ w) {op : UnOp} {x z : AV} {a : Value} (ha : VR H μ x a) (h : unA op x = some z) : OkV P H μ w (Op.unary op a) z H := by
  unfold unA at h
  split at h
  · obtain rfl := ha.int_inv
    obtain ⟨v, h1, h2⟩ := Mg_ (P := P) h H μ
    exact OkV.here hr (h1 w) h2
  · obtain rfl := ha.bool_inv
    obtain ⟨v, h1, h2⟩ := Mg_ (P := P) h H μ
    exact OkV.here hr (h1 w) h2
  · obtain ⟨b, rfl, rfl⟩ := ha.flt_inv
    split at h <;> simp only [Option.some.injEq, reduceCtorEq] at h
    subst h
    rw [Ai5_]
    exact OkV.here hr rfl (VR.flt _ _)
  · cases h
theorem Ade_ (hr : HR H μ w) {s d : TypeId} {x z : AV} {a : Value} (ha : VR H μ x a) (h : convA P s d x = some z) : OkV P H μ w (Go.convert s d a) z H := by
  unfold convA at h
  split at h
  · rename_i u k k' n hs hd
    obtain rfl := ha.int_inv
    simp only [Option.some.injEq] at h; subst h
    exact OkV.here hr (by cases u <;> simp [Go.convert, run_underlying hs, run_underlying hd, Conv.intToInt]) (VR.int _ _)
  · rename_i u k k' n hs hd
    obtain rfl := ha.int_inv
    simp only [Option.some.injEq] at h; subst h
    exact OkV.here hr (v := .float k (k.nearest n)) (by cases u <;> simp [Go.convert, run_underlying hs, run_underlying hd, Conv.intToFloat]) (VR.flt _ _)
  · rename_i u k sf b hs hd
    obtain ⟨b1, rfl, rfl⟩ := ha.flt_inv
    rw [Am2_] at h
    cases hf : Cn_ sf b1 k with
    | none => rw [hf] at h; cases h
    | some n =>
      rw [hf] at h; simp only [Option.map_some, Option.some.injEq] at h; subst h
      refine OkV.here hr (v := .int k n) ?_ (VR.int _ _)
      unfold Cn_ at hf
      split at hf
      · rename_i m he
        split at hf
        · rename_i hb; cases hf
          cases u <;> simp [Go.convert, run_underlying hs, run_underlying hd, Conv.floatToInt, he, hb.1, hb.2]
        · cases hf
      · cases hf
  · rename_i u k sf b hs hd
    obtain ⟨b1, rfl, rfl⟩ := ha.flt_inv
    cases hf : fconv sf (canon sf b1) k with
    | none => rw [hf] at h; cases h
    | some r =>
      rw [hf] at h; simp only [Option.map_some, Option.some.injEq] at h; subst h
      obtain ⟨v, w', h1, h2, h3, h4, h5, h6⟩ := Amo_ P w sf k b1 r hf
      refine OkV.drew hr (v := .float k v) (w' := w') ?_ (h2 ▸ VR.flt k v) h3 h4 h5 h6
      cases u <;> simpa [Go.convert, run_underlying hs, run_underlying hd] using h1
  · rename_i u sb hs hd
    obtain rfl := ha.str_inv
    simp only [Option.some.injEq] at h; subst h
    exact OkV.here hr (by cases u <;> simp [Go.convert, run_underlying hs, run_underlying hd]) (VR.str _)
  · cases h
end
end Go.Proofs.Ytmgpbchacndndaa.AM
