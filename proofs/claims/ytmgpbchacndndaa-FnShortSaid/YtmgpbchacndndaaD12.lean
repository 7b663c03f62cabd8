import Derived.Test.YtmgpbchacndndaaD11
set_option linter.unusedSimpArgs false
set_option linter.unusedVariables false
namespace Go.Proofs.Ytmgpbchacndndaa.AM
abbrev Sd := List DV × List DBlk
def bodyT (T : TyT) (DO : DOr) (M : FuncId → Bool) (LO : LOr) (m : Nat) (kill : List Nat) (nx : Exit → List Nat) (b : Code) (id : Nat) (s : Sd) : Tree (Sd ⊕ Out) :=
  (den T DO M LO b s.1 s.2).bind fun r =>
    match r.1 with
    | .normal => optT (normA m kill r.2.1 r.2.2) fun s => .leaf (.inl s)
    | .exit i => optT (normA m (nx (.exit i)) r.2.1 r.2.2) fun s => (match Nat.beq i id with | true => .leaf (.inr (.normal, s.1, s.2)) | false => .leaf (.inr (.exit i, s.1, s.2)))
    | .ret => optT (normA m (nx .ret) r.2.1 r.2.2) fun s => .leaf (.inr (.ret, s.1, s.2))
    | _ => .fail
def outS {σ χ : Type} (E : σ → Sd) (X : χ → Out) : σ ⊕ χ → Sd ⊕ Out
  | .inl s => .inl (E s)
  | .inr x => .inr (X x)
section
variable {P : Program} {T : TyT} {DO : DOr} {M : FuncId → Bool} {LO : LOr} {m : Nat}
def GQ (P : Program) (nb : Nat) (id : Nat) (b : Code) (Q : QA) : Nat → Env → Heap → Prop
  | 0, _, _ => False
  | n + 1, e, H => TW P nb b (seqQ (GQ P nb id b Q n) (Cr_ id Q)) e H
theorem GQ.up {nb id : Nat} {b : Code} {Q : QA} : ∀ (n : Nat) (e : Env) (H : Heap) (e' : Env) (H' : Heap), Wk nb e H e' H' → GQ P nb id b Q n e H → GQ P nb id b Q n e' H'
  | 0, _, _, _, _, _, h => h.elim
  | n + 1, e, H, e', H', hw, h => TW.weak hw h
theorem Ac2_ (hT : TOk P T) (hO : OrcOk P DO M) (hm : P.follows .mixedOrders = true) {kill : List Nat} {nx : Exit → List Nat} {b : Code} {id : Nat} {σ χ : Type} (E : σ → Sd) (gT : σ → Tree (σ ⊕ χ)) (X : χ → Out)
    (hl : B2_ P m LO b) (hbody : ∀ s, bodyT T DO M LO m kill nx b id (E s) = (gT s).bind fun y => .leaf (outS E X y))
    {s0 : σ} {x : χ} (h : Af_ (fun s => (gT s).run) s0 = some x) : DGoes P m (.block id (.loop b)) (E s0).1 (E s0).2 (X x) := by
  obtain ⟨n, hn⟩ := Ln_.1 h
  intro F0 H hs he
  have claim : ∀ (n : Nat) (s : σ) (F : Fr) (H : Heap), iter (fun s => (gT s).run) n s = some x → St F (E s).2 H → DVs.Ok F (E s).2 (E s).1 →
      ∃ F' H', Fwd m F F' (E s).2 (X x).2.2 ∧ St F' (X x).2.2 H' ∧ DVs.Ok F' (X x).2.2 (X x).2.1 ∧ ∀ Q : QA, Up F.H0.length Q → Q (X x).1 (DVs.av F' (X x).2.1) H' → GQ P F.H0.length id b Q n (DVs.av F (E s).1) H := by
    intro n
    induction n with
    | zero => intro s F H h; cases h
    | succ n ih =>
      intro s F H h hs he
      simp only [iter] at h
      cases hg : (gT s).run with
      | none => rw [hg] at h; cases h
      | some y =>
        rw [hg] at h
        have hb : (bodyT T DO M LO m kill nx b id (E s)).run = some (outS E X y) := by
          rw [hbody, Tree.run_bind, hg]
          rfl
        unfold bodyT at hb
        obtain ⟨r, h1, h2⟩ := Tree.run_bind_some hb
        obtain ⟨F1, H1, g0, g1, g2, g3⟩ := W0_ (m := m) hT hO hm b _ _ r hl h1 F H hs he
        obtain ⟨ex, e1, L1⟩ := r
        simp only at h2 g1 g2 g3
        have upG : ∀ (Q : QA) (n : Nat), Up F.H0.length Q → Up F.H0.length (seqQ (GQ P F.H0.length id b Q n) (Cr_ id Q)) := fun Q n hup ex e H e' H' hw hq => by
          cases ex with
          | normal => exact GQ.up n e H e' H' hw hq
          | exit i => exact Up.block (id := id) hup (.exit i) e H e' H' hw hq
          | goto l => exact Up.block (id := id) hup (.goto l) e H e' H' hw hq
          | ret => exact Up.block (id := id) hup .ret e H e' H' hw hq
          | panic c => exact Up.block (id := id) hup (.panic c) e H e' H' hw hq
          | outgrown => exact Up.block (id := id) hup .outgrown e H e' H' hw hq
        cases ex with
        | normal =>
          replace h2 := Aa_ h2
          clear hb
          obtain ⟨s2, hn2, h2⟩ := h2
          cases y with
          | inr x' => simp [Tree.run, outS] at h2
          | inl s' =>
            simp only [Tree.run, outS, Option.some.injEq, Sum.inl.injEq] at h2
            subst h2
            obtain ⟨Hw, w1, w2, w3, w4, w5, w6, _⟩ := J6_ (show norm m _ kill e1 L1 = some ((E s').1, (E s').2) from hn2) g1 g2
            obtain ⟨F2, H', k0, k1, k2, k3⟩ := ih s' _ Hw h w1 w2
            rw [w6.h0, g0.h0] at k3
            rw [g0.h0] at w3
            refine ⟨F2, H', g0.trans (w6.trans k0), k1, k2, fun Q hup hQ => g3 _ (upG Q n hup) ?_⟩
            exact GQ.up n _ _ _ _ ⟨_root_.id, w3, w4, w5⟩ (k3 Q hup hQ)
        | exit i =>
          replace h2 := Aa_ h2
          clear hb
          obtain ⟨s2, hn2, h2⟩ := h2
          obtain ⟨Hw, w1, w2, w3, w4, w5, w6, _⟩ := J6_ (show norm m _ _ e1 L1 = some (s2.1, s2.2) from hn2) g1 g2
          rw [g0.h0] at w3
          split at h2
          · rename_i hi
            have hi := Nat.eq_of_beq_eq_true hi
            subst hi
            cases y with
            | inl s' => simp [Tree.run, outS] at h2
            | inr x' =>
              simp only [Tree.run, outS, Option.some.injEq, Sum.inr.injEq] at h2
              simp only [Option.some.injEq] at h
              subst h
              rw [← h2]
              refine ⟨_, Hw, g0.trans w6, w1, w2, fun Q hup hQ => g3 _ (upG Q n hup) ?_⟩
              simp only [seqQ, Cr_, if_true]
              exact hup _ _ _ _ _ ⟨_root_.id, w3, w4, w5⟩ hQ
          · rename_i hi
            have hi : i ≠ id := fun e => by subst e; simp at hi
            cases y with
            | inl s' => simp [Tree.run, outS] at h2
            | inr x' =>
              simp only [Tree.run, outS, Option.some.injEq, Sum.inr.injEq] at h2
              simp only [Option.some.injEq] at h
              subst h
              rw [← h2]
              refine ⟨_, Hw, g0.trans w6, w1, w2, fun Q hup hQ => g3 _ (upG Q n hup) ?_⟩
              simp only [seqQ, Cr_]
              rw [if_neg hi]
              exact hup _ _ _ _ _ ⟨_root_.id, w3, w4, w5⟩ hQ
        | ret =>
          replace h2 := Aa_ h2
          clear hb
          obtain ⟨s2, hn2, h2⟩ := h2
          obtain ⟨Hw, w1, w2, w3, w4, w5, w6, _⟩ := J6_ (show norm m _ _ e1 L1 = some (s2.1, s2.2) from hn2) g1 g2
          rw [g0.h0] at w3
          cases y with
          | inl s' => simp [Tree.run, outS] at h2
          | inr x' =>
            simp only [Tree.run, outS, Option.some.injEq, Sum.inr.injEq] at h2
            simp only [Option.some.injEq] at h
            subst h
            rw [← h2]
            refine ⟨_, Hw, g0.trans w6, w1, w2, fun Q hup hQ => g3 _ (upG Q n hup) ?_⟩
            exact hup _ _ _ _ _ ⟨_root_.id, w3, w4, w5⟩ hQ
        | _ => cases h2
  obtain ⟨F', H', k0, k1, k2, k3⟩ := claim n s0 F0 H hn hs he
  refine ⟨F', H', k0, k1, k2, fun Q hup hQ => Lc_ (Ab8_ (fun n e H => GQ P F0.H0.length id b Q n e H) n (k3 Q hup hQ) fun n e1 H1 hG => ?_)⟩
  cases n with
  | zero => exact hG.elim
  | succ n =>
    refine TW.mono hG fun ex e H hq => ?_
    cases ex with
    | normal => exact ⟨n, by omega, hq⟩
    | _ => exact hq
theorem DGoes.weak {kill : List Nat} {c : Code} {e e' : List DV} {L L' : List DBlk} {out : Out} (hn : normA m kill e L = some (e', L')) (h : DGoes P m c e' L' out) : DGoes P m c e L out := by
  intro F H hs he
  obtain ⟨Hw, w1, w2, w3, w4, w5, w6, _⟩ := J6_ hn hs he
  obtain ⟨F', H', k0, k1, k2, k3⟩ := h _ Hw w1 w2
  rw [w6.h0] at k3
  exact ⟨F', H', w6.trans k0, k1, k2, fun Q hup hQ => TW.weak ⟨_root_.id, w3, w4, w5⟩ (k3 Q hup hQ)⟩
def slotD (e : List DV) (t : Nat) : DV := match e[t]? with | some v => v | none => .top
def resD1 (T : TyT) (e : List DV) (L : List DBlk) : ResultVar → Option DV
  | .tmp t => some (slotD e t)
  | .cell a t => (match loadD T t (slotD e a) L with | .leaf r => some r.1 | _ => none)
def resDs (T : TyT) (e : List DV) (L : List DBlk) : List ResultVar → Option (List DV)
  | [] => some []
  | r :: rs => (match resD1 T e L r, resDs T e L rs with | some v, some vs => some (v :: vs) | _, _ => none)
def resD (T : TyT) (rs : List ResultVar) (e : List DV) (L : List DBlk) : Option DV :=
  match resDs T e L rs with
  | some [v] => some v
  | some vs => some (.tup vs)
  | none => none
def retD (T : TyT) (rs : List ResultVar) (m : Nat) (r : Out) : Tree Rs :=
  match (match r.1 with | .ret => true | .normal => true | _ => false), resD T rs r.2.1 r.2.2 with
  | true, some v =>
    (match norm m (keepA m [v] r.2.2) [] [] r.2.2, renF (keepA m [v] r.2.2) r.2.2 v with
    | some s, some v' => .leaf (unlit v', s.2)
    | _, _ => .fail)
  | _, _ => .fail
theorem R8_ (hT : TOk P T) {F : Fr} {L : List DBlk} {H : Heap} (hs : St F L H) {e : List DV} (he : DVs.Ok F L e) : ∀ (rs : List ResultVar) (vs : List DV), resDs T e L rs = some vs → rs.mapM (resA1 P (DVs.av F e) H) = some (DVs.av F vs) ∧ DVs.Ok F L vs
  | [], vs, h => by simp only [resDs, Option.some.injEq] at h; subst h; exact ⟨rfl, trivial⟩
  | r :: rs, vs, h => by
    simp only [resDs] at h
    split at h
    · rename_i v vs' hv hvs
      cases h
      obtain ⟨k1, k2⟩ := R8_ hT hs he rs vs' hvs
      have get : ∀ t, ((DVs.av F e)[t]?).getD .top = (slotD e t).av F := fun t => by
        unfold slotD
        rw [DVs.av_eq, List.getElem?_map]
        cases e[t]? <;> rfl
      have gok : ∀ t, (slotD e t).Ok F L := fun t => by
        unfold slotD
        split
        · rename_i v hv; exact DVs.ok_iff.1 he v (List.mem_of_getElem? hv)
        · trivial
      have one : resA1 P (DVs.av F e) H r = some (v.av F) ∧ v.Ok F L := by
        cases r with
        | tmp t =>
          simp only [resD1, Option.some.injEq] at hv
          subst hv
          simp only [resA1, get]
          exact ⟨trivial, gok t⟩
        | cell a t =>
          simp only [resD1] at hv
          split at hv
          · rename_i q hq
            cases hv
            obtain ⟨g1, g2, _⟩ := Wa_ hT hs (gok a) (x := q.1) (L' := q.2) (by rw [hq]; rfl)
            simp only [resA1, get]
            exact ⟨g1, g2⟩
          · cases hv
      refine ⟨?_, one.2, k2⟩
      rw [List.mapM_cons, one.1, k1]
      rfl
    · cases h
theorem Al1_ (hT : TOk P T) {F : Fr} {L : List DBlk} {H : Heap} (hs : St F L H) {e : List DV} (he : DVs.Ok F L e) {rs : List ResultVar} {v : DV} (h : resD T rs e L = some v) : resA P rs (DVs.av F e) H = some (v.av F) ∧ v.Ok F L := by
  unfold resD at h
  split at h
  · rename_i w hw
    cases h
    obtain ⟨k1, k2⟩ := R8_ hT hs he rs _ hw
    refine ⟨?_, k2.1⟩
    unfold resA
    rw [k1]
    rfl
  · rename_i vs hnot hw
    cases h
    obtain ⟨k1, k2⟩ := R8_ hT hs he rs _ hw
    refine ⟨?_, k2⟩
    unfold resA
    rw [k1]
    cases vs with
    | nil => rfl
    | cons a l =>
      cases l with
      | nil => exact (hnot a rfl).elim
      | cons b l => rfl
  · cases h
theorem fn_ok (hT : TOk P T) (hO : OrcOk P DO M) (hm : P.follows .mixedOrders = true) {f : FuncId} {fn : Func} {c : Code} (hf : P.funcs[f]? = some fn) (hcall : ∀ (args : Array Value) (w : World), (callFunc f args).run P w = .ok (.enter f args) w)
    (hb : fn.body = some c) (hl : B2_ P m LO c) {A : List DV} {L0 L' : List DBlk} {r : DV}
    (hrun : ((den T DO M LO c (A ++ List.replicate (fn.ntmps - A.length) .undef) L0).bind (retD T fn.results.toList m)).run = some (r, L'))
    {F : Fr} (hs : St F L0 F.H0) (hA : DVs.Ok F L0 A) :
    ∃ F' H', Fwd m F F' L0 L' ∧ FnOk P f (DVs.av F A) F.H0 (r.av F') H' ∧ St F' L' H' ∧ r.Ok F' L' := by
  obtain ⟨out, h1, h2⟩ := Tree.run_bind_some hrun
  have he : DVs.Ok F L0 (A ++ List.replicate (fn.ntmps - A.length) .undef) := DVs.ok_iff.2 fun c hc => by
    rcases List.mem_append.1 hc with h | h
    · exact DVs.ok_iff.1 hA c h
    · rw [List.mem_replicate] at h; rw [h.2]; trivial
  obtain ⟨F1, H1, g0, g1, g2, g3⟩ := W0_ (m := m) hT hO hm c _ _ out hl h1 F F.H0 hs he
  obtain ⟨ex, e1, L1⟩ := out
  simp only at g1 g2 g3
  unfold retD at h2
  simp only at h2
  split at h2
  case h_2 => cases h2
  rename_i v hex hres
  obtain ⟨q1, q2⟩ := Al1_ hT g1 g2 hres
  split at h2
  case h_2 => cases h2
  rename_i s v' hnorm hren
  simp only [Tree.run, Option.some.injEq, Prod.mk.injEq] at h2
  obtain ⟨rfl, rfl⟩ := h2
  obtain ⟨Hw, w1, _, w3, _, _, w6, wR, wl⟩ := J6_ (show norm m _ [] [] L1 = some (s.1, s.2) from hnorm) g1 trivial
  obtain ⟨n1, n2⟩ := Zb_ g1 wR hren q2
  have n3 := wl ▸ g1.in _ q2
  rw [g0.h0] at w3
  refine ⟨_, Hw, g0.trans w6, ?_, w1, Vr_ n1⟩
  rw [Y1_, n2]
  obtain ⟨Q, hQdef⟩ : ∃ Q : QA, Q = fun ex e H2 => (match ex with | .ret => True | .normal => True | _ => False) ∧
      ∀ (μ : Mem) (w : World) (a : Act) (μ0 : Mem) (w0 : World), ER H2 μ e a → HR H2 μ w → Adv F.H0 μ0 w0 H2 μ w → ∃ cv μ', (results fn a.tmps).run P w = .ok cv w ∧ VR Hw μ' (v.av F1) cv ∧ HR Hw μ' w ∧ Adv F.H0 μ0 w0 Hw μ' w := ⟨_, rfl⟩
  have hup : Up F.H0.length Q := by
    rw [hQdef]
    rintro ex e H2 e' H3 ⟨σ2, k1, k2, k3⟩ ⟨hex', hq⟩
    exact ⟨hex', fun μ w a μ0 w0 hE hr ha => hq _ w a μ0 w0 (hE.wk k1 k2 k3) (hr.wk k1) (ha.wk (Nat.le_refl _) k1)⟩
  have hfin : Q ex (DVs.av F1 e1) H1 := by
    rw [hQdef]
    refine ⟨by (cases ex <;> first | trivial | (cases hex; done)), fun μ w a μ0 w0 hE hr ha => ?_⟩
    obtain ⟨cv, c1, c2⟩ := Ac8_ (P := P) (fn := fn) hr hE q1
    exact ⟨cv, _, c1, c2.wk w3 (wk_id (.inr rfl) n3), hr.wk w3, ha.wk (Nat.le_refl _) w3⟩
  have hTW := g3 Q hup hfin
  intro μ w cargs hr ha
  refine .inl ⟨hcall cargs w, calls_of_wp hf hb ?_⟩
  have hundef : VRs F.H0 μ (List.replicate (fn.ntmps - A.length) .undef) (Array.replicate (fn.ntmps - cargs.size) undef) := by
    have hal := ha.1
    rw [DVs.av_len] at hal
    refine ⟨by simp [hal], fun i c v hc hv => ?_⟩
    rw [List.getElem?_replicate] at hc
    rw [Array.getElem?_replicate] at hv
    split at hc
    · cases hc
      split at hv
      · cases hv; exact .undef
      · cases hv
    · cases hc
  have hE : ER F.H0 μ (DVs.av F (A ++ List.replicate (fn.ntmps - A.length) .undef)) { tmps := cargs ++ Array.replicate (fn.ntmps - cargs.size) undef, defers := [] } := by
    have e0 : DVs.av F (A ++ List.replicate (fn.ntmps - A.length) .undef) = DVs.av F A ++ List.replicate (fn.ntmps - A.length) .undef := by simp [DVs.av_eq, DV.av]
    rw [e0]
    exact ⟨rfl, ha.app hundef⟩
  refine Code.wp_mono ?_ (hTW F.H0 μ w μ _ w rfl hE hr (Adv.refl _ _ _))
  rintro ex2 a' w' ⟨e2, H2, μ2, hq, he2, hr2, ha2⟩
  rw [hQdef] at hq
  obtain ⟨hex2, hq⟩ := hq
  obtain ⟨cv, μ', c1, c2, c3, c4⟩ := hq μ2 w' a' μ w he2 hr2 ha2
  cases ex2 with
  | normal => exact ⟨he2.1, cv, c1, cv, μ', rfl, c2, c3, c4⟩
  | ret => exact ⟨he2.1, cv, c1, cv, μ', rfl, c2, c3, c4⟩
  | _ => exact hex2.elim
end
end Go.Proofs.Ytmgpbchacndndaa.AM
