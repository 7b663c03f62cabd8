import Derived.Test.YtmgpbchacndndaaD6
set_option linter.unusedSimpArgs false
set_option linter.unusedVariables false
namespace Go.Proofs.Ytmgpbchacndndaa.AM
def setD (env : List DV) : Option Tmp → DV → List DV
  | some d, v => env.set d v
  | none, _ => env
inductive Want where
  | yes | no | bad
  | ask (d : Nat) (b w : Bool)
def wantD (ops : List Oper) (env : List DV) (o : Oper) : Want :=
  match o.guard with
  | none => .yes
  | some (j, w) =>
    match ops[j]? with
    | some oj =>
      (match oj.dst with
      | some d =>
        (match env[d]? with
        | some (.lit b) => (match b, w with | true, true => .yes | false, false => .yes | _, _ => .no)
        | some (.bool b) => .ask d b w
        | some .undef => .no
        | _ => .bad)
      | none => .bad)
    | none => .bad
mutual
def DV.refs : DV → List Nat
  | .ptr j _ _ _ => [j]
  | .own j _ _ => [j]
  | .slc j _ _ _ _ => [j]
  | .fn _ cs => DVs.refs cs
  | .agg cs => DVs.refs cs
  | .tup cs => DVs.refs cs
  | .bptr _ cs => DVs.refs cs
  | .nest j _ _ _ => [j]
  | .ncell j _ _ _ _ _ => [j]
  | .inn j _ _ _ => [j]
  | .icell j _ _ _ _ => [j]
  | .nsb j _ _ _ _ _ => [j]
  | _ => []
def DVs.refs : List DV → List Nat
  | [] => []
  | c :: cs => c.refs ++ DVs.refs cs
end
theorem DVs.refs_mem {j : Nat} {cs : List DV} : j ∈ DVs.refs cs ↔ ∃ c ∈ cs, j ∈ c.refs := by
  induction cs with
  | nil => simp [DVs.refs]
  | cons c cs ih => simp [DVs.refs, ih]
def deep (L : List DBlk) : List Nat → List Nat
  | [] => []
  | j :: js => (match L[j]? with | some (.gen cs _ _) => DVs.refs cs ++ deep L js | _ => deep L js)
def Ag8_ (L : List DBlk) (b : List Nat) : List Nat := b ++ deep L b
def Ac1_ (L : List DBlk) (a : List Nat) : List Nat := a ++ Ag8_ L (deep L a)
def reach (L : List DBlk) (vs : List DV) : List Nat := Ac1_ L (DVs.refs vs)
theorem Gj_ {L : List DBlk} {vs : List DV} {j : Nat} (h : j ∈ DVs.refs vs) : j ∈ reach L vs := List.mem_append_left _ h
def OrcOk (P : Program) (DO : DOr) (M : FuncId → Bool) : Prop := ∀ (F : Fr) (L : List DBlk) (H : Heap) (f : FuncId) (args : List DV) (r : DV) (L' : List DBlk), St F L H → DVs.Ok F L args → (DO f args L).run = some (r, L') →
  ∃ F' H', FrLe F F' L ∧ FnOk P f (DVs.av F args) H (r.av F') H' ∧ St F' L' H' ∧ r.Ok F' L' ∧ Ext L L' ∧ ∀ j, j < L.length → (M f = true ∨ j ∉ reach L args) → L'[j]? = L[j]?
open Classical in
noncomputable def oneO (f : FuncId) (args : List AV) (H : Heap) (r : AV) (H' : Heap) : A0_ := fun f' a' K => if f' = f ∧ a' = args ∧ K = H then some (r, H') else none
theorem Am5_ {P : Program} {f : FuncId} {args : List AV} {H H' : Heap} {r : AV} (h : FnOk P f args H r H') : Eo_ P (oneO f args H r H') := by
  intro f' a' K r' K' he
  unfold oneO at he
  split at he
  · rename_i hk
    obtain ⟨rfl, rfl, rfl⟩ := hk
    cases he; exact h
  · cases he
theorem X4_ {P : Program} : Eo_ P (fun _ _ _ => none) := fun _ _ _ _ _ h => by cases h
section
variable {P : Program} {T : TyT} {F : Fr} {L : List DBlk} {H : Heap} {DO : DOr} {M : FuncId → Bool}
theorem Xf_ (hT : TOk P T) (hO : OrcOk P DO M) (hs : St F L H) {env : List DV} (henv : DVs.Ok F L env) {o : Oper} {x : DV} {L' : List DBlk} (h : (opD T DO env L o).run = some (x, L')) :
    ∃ F' O H', FrLe F F' L ∧ Eo_ P O ∧ opA P O (DVs.av F env) H o = some (x.av F', H') ∧ St F' L' H' ∧ x.Ok F' L' ∧ Ext L L' := by
  cases hc : Fz_ o with
  | false =>
    obtain ⟨F', H', k0, k1, k2⟩ := Va_ (DO := DO) hT hs (fun y _ => G8_ henv y) hc h
    exact ⟨F', _, H', k0, X4_, k1 _, k2⟩
  | true =>
    obtain ⟨dst, op, type, pos, after, guard⟩ := o
    unfold Fz_ at hc
    split at hc
    · rename_i f args ts hop
      simp only at hop
      subst hop
      simp only [opD] at h
      split at h
      · rename_i g caps hf
        have hok : DVs.Ok F L (args.toList.map (evD env) ++ caps) := DVs.ok_iff.2 fun c hc => by
          rcases List.mem_append.1 hc with h | h
          · exact DVs.ok_iff.1 (T8_ henv _) c h
          · have := G8_ henv f
            rw [hf] at this
            exact DVs.ok_iff.1 this c h
        obtain ⟨F', H', k0, k1, k2, k3, k4, _⟩ := hO F L H g _ x L' hs hok h
        refine ⟨F', _, H', k0, Am5_ k1, ?_, k2, k3, k4⟩
        simp only [opA, callA, Au_, hf, DV.av, N6_]
        unfold oneO
        rw [if_pos ⟨rfl, by simp [DVs.av_eq], rfl⟩]
      · cases h
    · cases hc
theorem Ko_ (env : List DV) (d : Option Tmp) (x : DV) : DVs.av F (setD env d x) = putA (DVs.av F env) d (x.av F) := by
  cases d with
  | none => rfl
  | some d => simp [setD, putA, DVs.av_eq, List.map_set]
theorem Ja_ {env : List DV} (h : DVs.Ok F L env) (d : Option Tmp) {x : DV} (hx : x.Ok F L) : DVs.Ok F L (setD env d x) := by
  cases d with
  | none => exact h
  | some d =>
    refine DVs.ok_iff.2 fun c hc => ?_
    simp only [setD] at hc
    rcases List.mem_or_eq_of_mem_set hc with h1 | h1
    · exact DVs.ok_iff.1 h c h1
    · rw [h1]; exact hx
theorem Ia_ {env : List DV} {d : Nat} {b : Bool} (h : env[d]? = some (.bool b)) : DVs.av F (env.set d (.lit b)) = DVs.av F env := by
  simp only [DVs.av_eq, List.map_set]
  have : (env.map (·.av F))[d]? = some (.bool b) := by rw [List.getElem?_map, h]; rfl
  obtain ⟨h1, h2⟩ := List.getElem?_eq_some_iff.1 this
  show (env.map (·.av F)).set d (.bool b) = _
  rw [← h2, List.set_getElem_self]
theorem Hz_ {env : List DV} (h : DVs.Ok F L env) (d : Nat) (b : Bool) : DVs.Ok F L (env.set d (.lit b)) := Ja_ h (some d) (x := .lit b) trivial
theorem Ue_ {ops : Array Oper} {env : List DV} {o : Oper} :
    match wantD ops.toList env o with
    | .yes => wantA ops (DVs.av F env) o = some true
    | .no => wantA ops (DVs.av F env) o = some false
    | .ask d b w => env[d]? = some (.bool b) ∧ wantA ops (DVs.av F env) o = some (b == w)
    | .bad => True := by
  unfold wantD wantA
  cases hg : o.guard with
  | none => rfl
  | some jw =>
    obtain ⟨j, w⟩ := jw
    simp only [Array.getElem?_toList]
    cases hj : ops[j]? with
    | none => trivial
    | some oj =>
      simp only [Option.bind_some]
      cases hd : oj.dst with
      | none => trivial
      | some d =>
        simp only
        have e : (DVs.av F env)[d]? = (env[d]?).map (·.av F) := by rw [DVs.av_eq, List.getElem?_map]
        cases hv : env[d]? with
        | none => trivial
        | some v =>
          rw [hv] at e
          cases v with
          | lit b => rw [e]; cases b <;> cases w <;> rfl
          | bool b => rw [e]; exact ⟨hv, rfl⟩
          | undef => rw [e]; rfl
          | _ => trivial
def regD {α : Type} (T : TyT) (DO : DOr) (ops : List Oper) : List Oper → List DV → List DBlk → (List DV → List DBlk → Tree α) → Tree α
  | [], e, L, K => K e L
  | o :: rest, e, L, K =>
    match wantD ops e o with
    | .yes => (opD T DO e L o).bind fun r => regD T DO ops rest (setD e o.dst r.1) r.2 K
    | .no => regD T DO ops rest (setD e o.dst .undef) L K
    | .ask d b w =>
      .br b
        (match w with
        | true => (opD T DO (e.set d (.lit true)) L o).bind fun r => regD T DO ops rest (setD (e.set d (.lit true)) o.dst r.1) r.2 K
        | false => regD T DO ops rest (setD (e.set d (.lit true)) o.dst .undef) L K)
        (match w with
        | true => regD T DO ops rest (setD (e.set d (.lit false)) o.dst .undef) L K
        | false => (opD T DO (e.set d (.lit false)) L o).bind fun r => regD T DO ops rest (setD (e.set d (.lit false)) o.dst r.1) r.2 K)
    | .bad => .fail
theorem S4_ {α : Type} (hT : TOk P T) (hO : OrcOk P DO M) {ops : Array Oper} {K : List DV → List DBlk → Tree α} {out : α} : ∀ (l : List Oper) (F : Fr) (e : List DV) (L : List DBlk) (H : Heap), St F L H → DVs.Ok F L e →
    (regD T DO ops.toList l e L K).run = some out →
    ∃ F' e' L' H', FrLe F F' L ∧ (K e' L').run = some out ∧ St F' L' H' ∧ DVs.Ok F' L' e' ∧ Ext L L' ∧
      ∀ (Q : Exit → Act → World → Prop) (μ : Mem) (w : World) (a : Act), HR H μ w → ER H μ (DVs.av F e) a → (∀ a' w' μ', ER H' μ' (DVs.av F' e') a' → HR H' μ' w' → Adv H μ w H' μ' w' → Q .normal a' w') → wpList P ops Q l a w
  | [], F, e, L, H, hs, he, h => ⟨F, e, L, H, FrLe.refl F L, h, hs, he, Ext.refl _, fun Q μ w a hr hE hQ => wpList_nil (hQ a w μ hE hr (Adv.refl _ _ _))⟩
  | o :: rest, F, e, L, H, hs, he, h => by
    have go : ∀ e1, DVs.Ok F L e1 → DVs.av F e1 = DVs.av F e → wantA ops (DVs.av F e) o = some true → ((opD T DO e1 L o).bind fun r => regD T DO ops.toList rest (setD e1 o.dst r.1) r.2 K).run = some out →
        ∃ F' e' L' H', FrLe F F' L ∧ (K e' L').run = some out ∧ St F' L' H' ∧ DVs.Ok F' L' e' ∧ Ext L L' ∧
          ∀ (Q : Exit → Act → World → Prop) (μ : Mem) (w : World) (a : Act), HR H μ w → ER H μ (DVs.av F e) a → (∀ a' w' μ', ER H' μ' (DVs.av F' e') a' → HR H' μ' w' → Adv H μ w H' μ' w' → Q .normal a' w') → wpList P ops Q (o :: rest) a w := by
      intro e1 he1 hav hw h
      obtain ⟨⟨x, L1⟩, h1, h2⟩ := Tree.run_bind_some h
      obtain ⟨F1, O, H1, o0, o1, o2, o3, o4, o5⟩ := Xf_ hT hO hs he1 h1
      obtain ⟨F', e', L', H', k0, k1, k2, k3, k4, k5⟩ := S4_ hT hO rest F1 _ L1 H1 o3 (Ja_ (o0.oks' o5 he1) o.dst o4) h2
      refine ⟨F', e', L', H', o0.trans o5 k0, k1, k2, k3, o5.trans k4, fun Q μ w a hr hE hQ => ?_⟩
      unfold wpList
      rw [if_pos (Nw_ hE hw)]
      rw [hav] at o2
      refine .inl (K6_ o1 o2 hr hE fun v w1 μ1 hv hr1 ha1 => ?_)
      refine k5 Q μ1 w1 _ hr1 ?_ fun a' w' μ' hE' hr' ha' => hQ a' w' μ' hE' hr' (ha1.trans ha')
      rw [Ko_, o0.avs he1, hav]
      exact (hE.adv ha1).put o.dst hv
    have skip : ∀ e1, DVs.Ok F L e1 → DVs.av F e1 = DVs.av F e → wantA ops (DVs.av F e) o = some false → (regD T DO ops.toList rest (setD e1 o.dst .undef) L K).run = some out →
        ∃ F' e' L' H', FrLe F F' L ∧ (K e' L').run = some out ∧ St F' L' H' ∧ DVs.Ok F' L' e' ∧ Ext L L' ∧
          ∀ (Q : Exit → Act → World → Prop) (μ : Mem) (w : World) (a : Act), HR H μ w → ER H μ (DVs.av F e) a → (∀ a' w' μ', ER H' μ' (DVs.av F' e') a' → HR H' μ' w' → Adv H μ w H' μ' w' → Q .normal a' w') → wpList P ops Q (o :: rest) a w := by
      intro e1 he1 hav hw h
      obtain ⟨F', e', L', H', k0, k1, k2, k3, k4, k5⟩ := S4_ hT hO rest F _ L H hs (Ja_ he1 o.dst (x := .undef) trivial) h
      refine ⟨F', e', L', H', k0, k1, k2, k3, k4, fun Q μ w a hr hE hQ => ?_⟩
      unfold wpList
      rw [if_neg (by rw [Nw_ hE hw]; simp)]
      refine k5 Q μ w _ hr ?_ hQ
      rw [Ko_, hav]
      exact hE.put o.dst .undef
    have hsp := Ue_ (F := F) (ops := ops) (env := e) (o := o)
    simp only [regD] at h
    split at h
    · rename_i hw; rw [hw] at hsp; exact go e he rfl hsp h
    · rename_i hw; rw [hw] at hsp; exact skip e he rfl hsp h
    · rename_i d b w hw
      rw [hw] at hsp
      obtain ⟨p1, p2⟩ := hsp
      simp only [Tree.run] at h
      cases b with
      | true =>
        simp only [if_true] at h
        cases w with
        | true => exact go _ (Hz_ he d true) (Ia_ p1) p2 h
        | false => exact skip _ (Hz_ he d true) (Ia_ p1) p2 h
      | false =>
        simp only [Bool.false_eq_true, if_false] at h
        cases w with
        | true => exact skip _ (Hz_ he d false) (Ia_ p1) p2 h
        | false => exact go _ (Hz_ he d false) (Ia_ p1) p2 h
    · cases h
end
end Go.Proofs.Ytmgpbchacndndaa.AM
