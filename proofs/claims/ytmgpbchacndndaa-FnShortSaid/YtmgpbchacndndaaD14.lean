import Derived.Test.YtmgpbchacndndaaD13
set_option linter.unusedSimpArgs false
set_option linter.unusedVariables false
namespace Go.Proofs.Ytmgpbchacndndaa.AM
def Ah_ (f : Func) : Code := match f.body with | some c => c | none => .skip
def Ex_ : Code → List (Nat × Code)
  | .seq a b => Ex_ a ++ Ex_ b
  | .cond _ a b => Ex_ a ++ Ex_ b
  | .block id b =>
    (match b with
    | .loop b' => [(id, b')]
    | b => Ex_ b)
  | _ => []
def findL (id : Nat) : Code → Option Code
  | .seq a b => (match findL id a with | some c => some c | none => findL id b)
  | .cond _ a b => (match findL id a with | some c => some c | none => findL id b)
  | .block i b => (match b, Nat.beq i id with | .loop b', true => some b' | _, _ => findL id b)
  | .loop b => findL id b
  | _ => none
def Ab_ (f : Func) (id : Nat) : Code := match findL id (Ah_ f) with | some c => c | none => .skip
def At_ (P : Program) (m : Nat) (LO : LOr) (id : Nat) (b : Code) : Prop := ∀ e L out, (LO id e L).run = some out → DGoes P m (.block id (.loop b)) e L out
def AllLp (P : Program) (m : Nat) (LO : LOr) : List (Nat × Code) → Prop
  | [] => True
  | p :: l => At_ P m LO p.1 p.2 ∧ AllLp P m LO l
theorem AllLp.app {P : Program} {m : Nat} {LO : LOr} : ∀ {l l' : List (Nat × Code)}, AllLp P m LO (l ++ l') → AllLp P m LO l ∧ AllLp P m LO l'
  | [], l', h => ⟨trivial, h⟩
  | p :: l, l', h => ⟨⟨h.1, (AllLp.app h.2).1⟩, (AllLp.app h.2).2⟩
theorem And_ {P : Program} {m : Nat} {LO : LOr} : ∀ {c : Code}, AllLp P m LO (Ex_ c) → B2_ P m LO c := by
  intro c
  induction c with
  | seq a b iha ihb => intro h; exact ⟨iha (AllLp.app h).1, ihb (AllLp.app h).2⟩
  | cond c a b iha ihb => intro h; exact ⟨iha (AllLp.app h).1, ihb (AllLp.app h).2⟩
  | block id b ih =>
    intro h
    cases b with
    | loop b' => exact h.1
    | _ => exact ih h
  | _ => intro _; trivial
theorem Ad_ {P : Program} {m : Nat} {LO : LOr} {c : Code} {l : List (Nat × Code)} (h : Ex_ c = l) (hl : AllLp P m LO l) : B2_ P m LO c := And_ (h ▸ hl)
theorem Akn_ {χ : Type} {p : Prop} {o : Option χ} {k : χ → Tree Out} {X : χ → Out} (hk : ∀ x, (k x).run = some (X x)) {out : Out} (h : (Tree.need p (.call o k)).run = some out) : p ∧ ∃ x, o = some x ∧ out = X x := by
  simp only [Tree.run] at h
  split at h
  · rename_i hp
    obtain ⟨x, hx, h⟩ := Option.bind_eq_some_iff.1 h
    rw [hk] at h
    cases h
    exact ⟨hp, x, hx, rfl⟩
  · cases h
theorem lo_ok {P : Program} {T : TyT} {DO : DOr} {M : FuncId → Bool} {LO : LOr} {m : Nat} (hT : TOk P T) (hO : OrcOk P DO M) (hm : P.follows .mixedOrders = true) {kill : List Nat} {nx : Exit → List Nat} {b : Code} {id : Nat} {σ χ : Type} {E : σ → Sd} {gT : σ → Tree (σ ⊕ χ)} {X : χ → Out} {e : List DV} {L : List DBlk} {s0 : σ} {o : Option χ} {k : χ → Tree Out} {out : Out}
    (hl : B2_ P m LO b) (hbody : ∀ s, bodyT T DO M LO m kill nx b id (E s) = (gT s).bind fun y => .leaf (outS E X y)) (ho : o = Af_ (fun s => (gT s).run) s0) (hk : ∀ x, (k x).run = some (X x))
    (h : (Tree.need (normA m kill e L = some (E s0)) (.call o k)).run = some out) : DGoes P m (.block id (.loop b)) e L out := by
  obtain ⟨hn, x, hx, rfl⟩ := Akn_ hk h
  rw [ho] at hx
  exact DGoes.weak (e' := (E s0).1) (L' := (E s0).2) hn (Ac2_ hT hO hm E gT X hl hbody hx)
def KL : Bool → List Nat → List Nat
  | _, [] => []
  | b, n :: ns => List.replicate n (match b with | true => 1 | false => 0) ++ KL (!b) ns
def vAt (e : List DV) (k : Nat) : DV := match e[k]? with | some v => v | none => .top
def cAt (L : List DBlk) (v : DV) (c : Nat) : DV :=
  match v with
  | .ptr j off _ _ => (match L[j]? with | some (.gen cs _ _) => vAt cs (off + c) | _ => .top)
  | .bptr _ cs => vAt cs c
  | _ => .top
def gI (v : DV) : Int := match v with | .int _ n => n | _ => 0
def gF (v : DV) : Nat := match v with | .flt _ x => x | _ => 0
def gB (v : DV) : Bool := match v with | .bool b => b | .lit b => b | _ => false
def rowAt (L : List DBlk) (v : DV) : Row := match rowOf L v with | some r => r | none => .f32 []
def gRF (L : List DBlk) (v : DV) : List Nat := match rowAt L v with | .f32 xs => xs | .f64 xs => xs | _ => []
def gRI (L : List DBlk) (v : DV) : List Int := match rowAt L v with | .i64 xs => xs | .u8 xs => xs | _ => []
def gCol (L : List DBlk) (v : DV) (c : Nat) : Col :=
  match v with
  | .nest j _ _ _ | .ncell j _ _ _ _ _ | .inn j _ _ _ | .icell j _ _ _ _ => (match L[j]? with | some (.nest cols _ _) => (match cols[c]? with | some q => q | none => .pl (.f32 [])) | _ => .pl (.f32 []))
  | _ => .pl (.f32 [])
def gPF (L : List DBlk) (v : DV) (c : Nat) : List (List Nat) := match gCol L v c with | .sl (.f32 xs) _ => xs | .sl (.f64 xs) _ => xs | _ => []
def gX (L : List DBlk) (v : DV) (c : Nat) : List Nat := match gCol L v c with | .sl _ idx => idx | _ => []
def gK (v : DV) : Nat := match v with | .inn _ _ k _ => k | .icell _ _ k _ _ => k | _ => 0
def lookT (l : List (Option TyI)) : TyT := fun t => match l[t]? with | some o => o | none => none
def AllTy (P : Program) : Nat → List (Option TyI) → Prop
  | _, [] => True
  | k, none :: l => AllTy P (k + 1) l
  | k, some i :: l => TyOk P k i ∧ AllTy P (k + 1) l
theorem AllTy.get {P : Program} : ∀ {l : List (Option TyI)} {k t : Nat} {i : TyI}, AllTy P k l → l[t]? = some (some i) → TyOk P (k + t) i
  | [], _, _, _, _, h => by simp at h
  | none :: l, k, 0, i, _, h => by simp at h
  | some j :: l, k, 0, i, h0, h => by simp at h; subst h; exact h0.1
  | none :: l, k, t + 1, i, h0, h => by
    have := AllTy.get (l := l) (k := k + 1) (t := t) h0 (by simpa using h)
    rw [show k + 1 + t = k + (t + 1) by omega] at this; exact this
  | some j :: l, k, t + 1, i, h0, h => by
    have := AllTy.get (l := l) (k := k + 1) (t := t) h0.2 (by simpa using h)
    rw [show k + 1 + t = k + (t + 1) by omega] at this; exact this
theorem Alx_ {P : Program} {l : List (Option TyI)} (h : AllTy P 0 l) : TOk P (lookT l) := by
  intro t i ht
  unfold lookT at ht
  split at ht
  · rename_i o ho
    subst ht
    have := h.get ho
    simpa using this
  · cases ht
theorem Aj_ {P : Program} {T : TyT} {DO : DOr} {M : FuncId → Bool} {LO : LOr} {m : Nat} (hT : TOk P T) (hO : OrcOk P DO M) (hm : P.follows .mixedOrders = true) {f : FuncId} {fn : Func} {c : Code} (hf : P.funcs[f]? = some fn)
    (hcall : ∀ (args : Array Value) (w : World), (callFunc f args).run P w = .ok (.enter f args) w) (hb : fn.body = some c) (hl : B2_ P m LO c) {A : List DV} {L0 : List DBlk} {ρ : Type} {gT : Tree ρ} {enc : ρ → Rs}
    (hden : (den T DO M LO c (A ++ List.replicate (fn.ntmps - A.length) .undef) L0).bind (retD T fn.results.toList m) = gT.bind fun y => .leaf (enc y)) {y : ρ} (hy : gT.run = some y)
    {F : Fr} (hs : St F L0 F.H0) (hA : DVs.Ok F L0 A) :
    ∃ F' H', Fwd m F F' L0 (enc y).2 ∧ FnOk P f (DVs.av F A) F.H0 ((enc y).1.av F') H' ∧ St F' (enc y).2 H' ∧ (enc y).1.Ok F' (enc y).2 := by
  refine fn_ok hT hO hm hf hcall hb hl (A := A) (L0 := L0) ?_ hs hA
  rw [hden, Tree.run_bind, hy]
  rfl
end Go.Proofs.Ytmgpbchacndndaa.AM
