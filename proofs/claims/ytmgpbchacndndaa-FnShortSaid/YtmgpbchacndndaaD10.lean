import Derived.Test.YtmgpbchacndndaaD9
set_option linter.unusedSimpArgs false
set_option linter.unusedVariables false
namespace Go.Proofs.Ytmgpbchacndndaa.AM
abbrev Out := Exit × List DV × List DBlk
abbrev LOr := Nat → List DV → List DBlk → Tree Out
def unord (ops : List Oper) : List (Nat × Nat) :=
  let A := ancs ops []
  let Hv := ops.map heavy
  (List.range ops.length).flatMap fun j => (List.range j).filterMap fun i =>
    match (Hv.getD i false || Hv.getD j false) && !((A.getD j []).any fun k => Nat.beq k i) with
    | true => some (i, j)
    | false => none
def den (T : TyT) (DO : DOr) (M : FuncId → Bool) (LO : LOr) : Code → List DV → List DBlk → Tree Out
  | .skip, e, L => .leaf (.normal, e, L)
  | .region _ ops false, e, L => regD T DO ops.toList ops.toList e L fun e L => .leaf (.normal, e, L)
  | .region _ ops true, e, L =>
    (match Sp_ ops (unord ops.toList) with
    | true => regDD T DO M ops.toList (unord ops.toList) 0 ops.toList e L [] [] fun e L => .leaf (.normal, e, L)
    | false => .fail)
  | .seq a b, e, L => (den T DO M LO a e L).bind fun r =>
    match r.1 with
    | .normal => den T DO M LO b r.2.1 r.2.2
    | _ => .leaf r
  | .cond c a b, e, L =>
    (match evD e c with
    | .lit t => (match t with | true => den T DO M LO a e L | false => den T DO M LO b e L)
    | .bool t => .br t (den T DO M LO a e L) (den T DO M LO b e L)
    | _ => .fail)
  | .block id b, e, L =>
    (match b with
    | .loop _ => LO id e L
    | _ => (den T DO M LO b e L).bind fun r =>
      match r.1 with
      | .exit i => (match Nat.beq i id with | true => .leaf (.normal, r.2.1, r.2.2) | false => .leaf r)
      | _ => .leaf r)
  | .exit id, e, L => .leaf (.exit id, e, L)
  | .ret, e, L => .leaf (.ret, e, L)
  | _, _, _ => .fail
def Up (nb : Nat) (Q : QA) : Prop := ∀ ex e H e' H', Wk nb e H e' H' → Q ex e H → Q ex e' H'
structure Fwd (m : Nat) (F F' : Fr) (L L' : List DBlk) : Prop where
  base : ∃ g, F' = F.wa g
  ext : ∀ (j : Nat) (b : DBlk), j < m → L[j]? = some b → F'.pl j 0 0 = F.pl j 0 0 ∧ ∃ b', L'[j]? = some b' ∧ NExt b b'
  inn : ∀ (j : Nat) (cols : List Col) (fl : Bool) (v c : Nat) (inn : NRow) (idx : List Nat) (k : Nat), j < m → L[j]? = some (.nest cols fl v) → cols[c]? = some (.sl inn idx) → k < inn.n → F'.pl j (c + 1) k = F.pl j (c + 1) k
  gone : ∀ j n v c k : Nat, j < m → L[j]? = some (.gone n v) → F'.pl j c k = F.pl j c k
theorem Fwd.refl (m : Nat) (F : Fr) (L : List DBlk) : Fwd m F F L L := ⟨⟨F.pl, rfl⟩, fun _ b _ h => ⟨rfl, b, h, .refl b⟩, fun _ _ _ _ _ _ _ _ _ _ _ _ => rfl, fun _ _ _ _ _ _ _ => rfl⟩
theorem Fwd.trans {m : Nat} {F F' F'' : Fr} {L L' L'' : List DBlk} (h : Fwd m F F' L L') (h' : Fwd m F' F'' L' L'') : Fwd m F F'' L L'' := by
  obtain ⟨⟨g, rfl⟩, m1, i1, o1⟩ := h
  obtain ⟨⟨g', rfl⟩, m2, i2, o2⟩ := h'
  refine ⟨⟨g', rfl⟩, fun j b hj hb => ?_, fun j cols fl v c inn idx k hj h1 h2 h3 => ?_, fun j n v c k hj h1 => ?_⟩
  · obtain ⟨e1, b', h1, h2⟩ := m1 j b hj hb
    obtain ⟨e2, b'', h3, h4⟩ := m2 j b' hj h1
    exact ⟨e2.trans e1, b'', h3, h2.trans h4⟩
  · obtain ⟨_, b', k1, k5⟩ := m1 j _ hj h1
    refine Eq.trans ?_ (i1 j cols fl v c inn idx k hj h1 h2 h3)
    cases k5 with
    | gone => exact o2 _ _ _ _ _ hj k1
    | nest _ cols' _ fl' _ v' hl h =>
      obtain ⟨inn', idx', g1, g2, g3⟩ := h c inn idx h2
      exact i2 j cols' fl' v' c inn' idx' k hj k1 g1 (by omega)
  · obtain ⟨_, b', k1, k5⟩ := m1 j _ hj h1
    cases k5
    exact (o2 _ _ _ _ _ hj k1).trans (o1 _ _ _ _ _ hj h1)
theorem Fwd.of {F F' : Fr} {L L' : List DBlk} (h : FrLe F F' L) (he : Ext L L') (m : Nat) : Fwd m F F' L L' :=
  ⟨h.base, fun j b _ hb => ⟨h.main j (List.getElem?_eq_some_iff.1 hb).1, by obtain ⟨b', k1, _, _, _, k2⟩ := he j b hb; exact ⟨b', k1, k2⟩⟩, fun j cols fl v c inn idx k _ h1 h2 h3 => h.inn j cols fl v c inn idx k h1 h2 h3, fun j n v c k _ h1 => h.gone j n v c k h1⟩
theorem Fwd.h0 {m : Nat} {F F' : Fr} {L L' : List DBlk} (h : Fwd m F F' L L') : F'.H0 = F.H0 := by obtain ⟨⟨g, rfl⟩, _⟩ := h; rfl
def DGoes (P : Program) (m : Nat) (c : Code) (e : List DV) (L : List DBlk) (out : Out) : Prop :=
  ∀ (F : Fr) (H : Heap), St F L H → DVs.Ok F L e →
    ∃ F' H', Fwd m F F' L out.2.2 ∧ St F' out.2.2 H' ∧ DVs.Ok F' out.2.2 out.2.1 ∧ ∀ Q : QA, Up F.H0.length Q → Q out.1 (DVs.av F' out.2.1) H' → TW P F.H0.length c Q (DVs.av F e) H
def B2_ (P : Program) (m : Nat) (LO : LOr) : Code → Prop
  | .seq a b => B2_ P m LO a ∧ B2_ P m LO b
  | .cond _ a b => B2_ P m LO a ∧ B2_ P m LO b
  | .block id b =>
    match b with
    | .loop b' => ∀ e L out, (LO id e L).run = some out → DGoes P m (.block id (.loop b')) e L out
    | b => B2_ P m LO b
  | _ => True
section
variable {P : Program} {T : TyT} {DO : DOr} {M : FuncId → Bool} {LO : LOr} {m : Nat}
theorem Xb_ {nb : Nat} {a b : Code} {Q : QA} {e : Env} {H : Heap} (h : TW P nb a (seqQ (TW P nb b Q) Q) e H) : TW P nb (.seq a b) Q e H := by
  intro H0 μ0 w0 μ ac w hn he hr ha
  refine wp_seq (Code.wp_mono ?_ (h H0 μ0 w0 μ ac w hn he hr ha))
  rintro ex a' w' ⟨e', H', μ', hq, he', hr', ha'⟩
  cases ex with
  | normal => exact hq H0 μ0 w0 μ' a' w' hn he' hr' ha'
  | _ => exact ⟨e', H', μ', hq, he', hr', ha'⟩
theorem Lc_ {nb id : Nat} {b : Code} {Q : QA} {e : Env} {H : Heap} (h : TW P nb b (Cr_ id Q) e H) : TW P nb (.block id b) Q e H := by
  intro H0 μ0 w0 μ ac w hn he hr ha
  refine wp_block (Code.wp_mono ?_ (h H0 μ0 w0 μ ac w hn he hr ha))
  rintro ex a' w' ⟨e', H', μ', hq, he', hr', ha'⟩
  cases ex with
  | exit id' =>
    simp only [Cr_] at hq
    simp only [Exit.inBlock]
    split
    · rename_i hid; rw [if_pos hid] at hq; exact ⟨e', H', μ', hq, he', hr', ha'⟩
    · rename_i hid; rw [if_neg hid] at hq; exact ⟨e', H', μ', hq, he', hr', ha'⟩
  | _ => exact ⟨e', H', μ', hq, he', hr', ha'⟩
theorem Ux_ {nb : Nat} {c : Operand} {x y : Code} {Q : QA} {e : Env} {H : Heap} {t : Bool} (hc : evA e c = .bool t) (h : TW P nb (if t = true then x else y) Q e H) : TW P nb (.cond c x y) Q e H := by
  intro H0 μ0 w0 μ ac w hn he hr ha
  have h1 := he.eval c
  rw [hc] at h1
  refine wp_cond h1.bool_inv ?_
  cases t
  · simp at h ⊢; exact h H0 μ0 w0 μ ac w hn he hr ha
  · simp at h ⊢; exact h H0 μ0 w0 μ ac w hn he hr ha
theorem Up.seq {nb : Nat} {b : Code} {Q : QA} (h : Up nb Q) : Up nb (seqQ (TW P nb b Q) Q) := fun ex e H e' H' hw hq => by
  cases ex with
  | normal => exact TW.weak hw hq
  | _ => exact h _ e H e' H' hw hq
theorem Up.block {nb id : Nat} {Q : QA} (h : Up nb Q) : Up nb (Cr_ id Q) := fun ex e H e' H' hw hq => by
  cases ex with
  | exit i =>
    simp only [Cr_] at hq ⊢
    split at hq
    · rename_i hi; rw [if_pos hi]; exact h _ e H e' H' hw hq
    · rename_i hi; rw [if_neg hi]; exact h _ e H e' H' hw hq
  | _ => exact h _ e H e' H' hw hq
theorem W0_ (hT : TOk P T) (hO : OrcOk P DO M) (hm : P.follows .mixedOrders = true) : ∀ (c : Code) (e : List DV) (L : List DBlk) (out : Out), B2_ P m LO c → (den T DO M LO c e L).run = some out → DGoes P m c e L out := by
  intro c
  induction c with
  | skip =>
    intro e L out _ h F H hs he
    simp only [den, Tree.run, Option.some.injEq] at h
    subst h
    exact ⟨F, H, Fwd.refl _ _ _, hs, he, fun Q _ hQ H0 μ0 w0 μ a w hn hE hr ha => wp_skip ⟨_, H, μ, hQ, hE, hr, ha⟩⟩
  | exit id =>
    intro e L out _ h F H hs he
    simp only [den, Tree.run, Option.some.injEq] at h
    subst h
    exact ⟨F, H, Fwd.refl _ _ _, hs, he, fun Q _ hQ H0 μ0 w0 μ a w hn hE hr ha => wp_exit ⟨_, H, μ, hQ, hE, hr, ha⟩⟩
  | ret =>
    intro e L out _ h F H hs he
    simp only [den, Tree.run, Option.some.injEq] at h
    subst h
    exact ⟨F, H, Fwd.refl _ _ _, hs, he, fun Q _ hQ H0 μ0 w0 μ a w hn hE hr ha => wp_ret ⟨_, H, μ, hQ, hE, hr, ha⟩⟩
  | region i ops d =>
    intro e L out _ h F H hs he
    cases d with
    | false =>
      simp only [den] at h
      obtain ⟨F', e', L', H', k0, k1, k2, k3, k4, k5⟩ := S4_ hT hO ops.toList F e L H hs he h
      simp only [Tree.run, Option.some.injEq] at k1
      subst k1
      exact ⟨F', H', Fwd.of k0 k4 m, k2, k3, fun Q _ hQ H0 μ0 w0 μ a w hn hE hr ha => wp_region_list (k5 _ μ w a hr hE fun a' w' μ' hE' hr' ha' => ⟨_, H', μ', hQ, hE', hr', ha.trans ha'⟩)⟩
    | true =>
      simp only [den] at h
      split at h
      · rename_i hB
        obtain ⟨F', Os, e', L', H', k0, k1, k2, k3, k4, k5, k6⟩ := Ly_ hT hO ops.toList 0 F e L H [] [] [] [] hs he (fun p hp => by cases hp) (fun p hp => by cases hp) h
        simp only [Tree.run, Option.some.injEq] at k1
        subst k1
        exact ⟨F', H', Fwd.of k0 k4 m, k2, k3, fun Q _ hQ => Aqq_ hm k5 _ hB (k6 _ hQ)⟩
      · cases h
  | seq a b iha ihb =>
    intro e L out hl h F H hs he
    simp only [den] at h
    obtain ⟨r, h1, h2⟩ := Tree.run_bind_some h
    obtain ⟨F1, H1, g0, g1, g2, g3⟩ := iha e L r hl.1 h1 F H hs he
    obtain ⟨ex, e1, L1⟩ := r
    simp only at h2 g1 g2 g3
    cases ex with
    | normal =>
      obtain ⟨F2, H2, g7, g4, g5, g6⟩ := ihb e1 L1 out hl.2 h2 F1 H1 g1 g2
      rw [g0.h0] at g6
      exact ⟨F2, H2, g0.trans g7, g4, g5, fun Q hup hQ => Xb_ (g3 _ (Up.seq hup) (g6 Q hup hQ))⟩
    | _ =>
      simp only [Tree.run, Option.some.injEq] at h2
      subst h2
      exact ⟨F1, H1, g0, g1, g2, fun Q hup hQ => Xb_ (g3 _ (Up.seq hup) hQ)⟩
  | cond c a b iha ihb =>
    intro e L out hl h F H hs he
    simp only [den] at h
    have hc := Au_ (F := F) e c
    have both : ∀ t : Bool, evA (DVs.av F e) c = .bool t → (if t = true then (den T DO M LO a e L).run else (den T DO M LO b e L).run) = some out →
        ∃ F' H', Fwd m F F' L out.2.2 ∧ St F' out.2.2 H' ∧ DVs.Ok F' out.2.2 out.2.1 ∧ ∀ Q : QA, Up F.H0.length Q → Q out.1 (DVs.av F' out.2.1) H' → TW P F.H0.length (.cond c a b) Q (DVs.av F e) H := by
      intro t ht h
      cases t with
      | true =>
        obtain ⟨F', H', g0, g1, g2, g3⟩ := iha e L out hl.1 h F H hs he
        exact ⟨F', H', g0, g1, g2, fun Q hup hQ => Ux_ ht (g3 Q hup hQ)⟩
      | false =>
        obtain ⟨F', H', g0, g1, g2, g3⟩ := ihb e L out hl.2 h F H hs he
        exact ⟨F', H', g0, g1, g2, fun Q hup hQ => Ux_ ht (g3 Q hup hQ)⟩
    split at h
    · rename_i t ht
      rw [ht] at hc
      refine both t hc ?_
      cases t <;> exact h
    · rename_i t ht
      rw [ht] at hc
      exact both t hc h
    · cases h
  | block id b ih =>
    intro e L out hl h F H hs he
    have gen : B2_ P m LO b → ((den T DO M LO b e L).bind fun r =>
      match r.1 with
      | .exit i => (match Nat.beq i id with | true => .leaf (.normal, r.2.1, r.2.2) | false => .leaf r)
      | _ => .leaf r).run = some out → ∃ F' H', Fwd m F F' L out.2.2 ∧ St F' out.2.2 H' ∧ DVs.Ok F' out.2.2 out.2.1 ∧ ∀ Q : QA, Up F.H0.length Q → Q out.1 (DVs.av F' out.2.1) H' → TW P F.H0.length (.block id b) Q (DVs.av F e) H := by
      intro hl h
      obtain ⟨r, h1, h2⟩ := Tree.run_bind_some h
      obtain ⟨F1, H1, g0, g1, g2, g3⟩ := ih e L r hl h1 F H hs he
      obtain ⟨ex, e1, L1⟩ := r
      simp only at h2 g1 g2 g3
      cases ex with
      | exit i =>
        simp only at h2
        split at h2
        · rename_i hi
          have hi := Nat.eq_of_beq_eq_true hi
          simp only [Tree.run, Option.some.injEq] at h2
          subst h2
          exact ⟨F1, H1, g0, g1, g2, fun Q hup hQ => Lc_ (g3 _ (Up.block hup) (by simp only [Cr_]; rw [if_pos hi]; exact hQ))⟩
        · rename_i hi
          have hi : i ≠ id := fun e => by subst e; simp at hi
          simp only [Tree.run, Option.some.injEq] at h2
          subst h2
          exact ⟨F1, H1, g0, g1, g2, fun Q hup hQ => Lc_ (g3 _ (Up.block hup) (by simp only [Cr_]; rw [if_neg hi]; exact hQ))⟩
      | _ =>
        simp only [Tree.run, Option.some.injEq] at h2
        subst h2
        exact ⟨F1, H1, g0, g1, g2, fun Q hup hQ => Lc_ (g3 _ (Up.block hup) hQ)⟩
    cases b with
    | loop b' => exact hl e L out h F H hs he
    | _ => exact gen hl h
  | _ => intro e L out _ h; cases h
theorem Ab8_ {nb : Nat} {b : Code} {Q : QA} {e : Env} {H : Heap} (I : Nat → Env → Heap → Prop) (n0 : Nat) (hI : I n0 e H)
    (round : ∀ n e1 H1, I n e1 H1 → TW P nb b (seqQ (fun e' H' => ∃ k, k < n ∧ I k e' H') Q) e1 H1) : TW P nb (.loop b) Q e H := by
  intro Hs μs ws μ a w hn he hr ha
  refine wp_loop_ghost (fun n a w => ∃ e1 H1 μ1, I n e1 H1 ∧ ER H1 μ1 e1 a ∧ HR H1 μ1 w ∧ Adv Hs μs ws H1 μ1 w) n0 ⟨e, H, μ, hI, he, hr, ha⟩ ?_
  rintro n a1 w1 ⟨e1, H1, μ1, hI1, he1, hr1, ha1⟩
  refine Code.wp_mono ?_ (round n e1 H1 hI1 Hs μs ws μ1 a1 w1 hn he1 hr1 ha1)
  rintro ex a2 w2 ⟨e2, H2, μ2, hq, he2, hr2, ha2⟩
  cases ex with
  | normal =>
    obtain ⟨k, hk, hI3⟩ := hq
    exact ⟨k, hk, e2, H2, μ2, hI3, he2, hr2, ha2⟩
  | _ => exact ⟨e2, H2, μ2, hq, he2, hr2, ha2⟩
end
def idx (j : Nat) : List Nat → Nat → Option Nat
  | [], _ => none
  | k :: ks, i => (match Nat.beq k j with | true => some i | false => idx j ks (i + 1))
def renD0 (keep : List Nat) (L : List DBlk) : DV → Option DV
  | .own j ver len => (match good L j ver, idx j keep 0 with | some b, some i => some (.own i 0 b.clen) | _, _ => none)
  | .ptr j off ver alen => (match good L j ver, idx j keep 0 with | some b, some i => some (.ptr i off 0 b.clen) | _, _ => none)
  | .slc j off ver alen len => (match good L j ver, idx j keep 0 with | some b, some i => some (.slc i off 0 b.clen len) | _, _ => none)
  | .nest j ver es _ => (match goodN L j ver es, idx j keep 0 with | some (cols, _), some i => some (.nest i 0 es (colsN cols)) | _, _ => none)
  | .ncell j ver es _ x c => (match goodN L j ver es, idx j keep 0 with | some (cols, _), some i => some (.ncell i 0 es (colsN cols) x c) | _, _ => none)
  | .inn j c k _ => (match innAt L j c, idx j keep 0 with | some (inn, _), some i => some (.inn i c k (inn.get k).len) | _, _ => none)
  | .icell j c k x _ => (match innAt L j c, idx j keep 0 with | some (inn, _), some i => some (.icell i c k x (inn.get k).len) | _, _ => none)
  | .bptr p cs => (match DVs.refs cs with | [] => some (.bptr p cs) | _ => none)
  | .top => none
  | .fn _ _ => none
  | .agg _ => none
  | .tup _ => none
  | .nsb _ _ _ _ _ _ => none
  | v => some v
def renL (f : DV → Option DV) : List DV → Option (List DV)
  | [] => some []
  | c :: cs => (match f c, renL f cs with | some c', some cs' => some (c' :: cs') | _, _ => none)
def renE (keep : List Nat) (L : List DBlk) (v : DV) : Option DV :=
  match v with
  | .agg cs => (match renL (renD0 keep L) cs with | some cs' => some (.agg cs') | none => none)
  | .fn f cs => (match renL (renD0 keep L) cs with | some cs' => some (.fn f cs') | none => none)
  | v => renD0 keep L v
def renF (keep : List Nat) (L : List DBlk) (v : DV) : Option DV :=
  match v with
  | .tup cs => (match renL (renE keep L) cs with | some cs' => some (.tup cs') | none => none)
  | v => renE keep L v
def renD1 (keep : List Nat) (L : List DBlk) (v : DV) : DV := match renF keep L v with | some v' => v' | none => .top
def renB (keep : List Nat) (L : List DBlk) : DBlk → DBlk
  | .row r _ => .row r 0
  | .gen cs fl _ => .gen (cs.map (renD1 keep L)) fl 0
  | .nest cols fl _ => .nest cols fl 0
  | .gone n _ => .gone n 0
def keepB (keep : List Nat) (L : List DBlk) : List Nat → Option (List DBlk)
  | [] => some []
  | j :: js => (match L[j]?, keepB keep L js with | some b, some bs => some (renB keep L b :: bs) | _, _ => none)
def K2_ : List Nat → Bool
  | [] => true
  | x :: l => (match l.any (Nat.beq x) with | true => false | false => K2_ l)
def Lo_ : Nat → Nat → List Nat → Bool
  | 0, _, _ => true
  | m + 1, i, k :: ks => (match Nat.beq k i with | true => Lo_ m (i + 1) ks | false => false)
  | _ + 1, _, [] => false
def unlit : DV → DV
  | .lit b => .bool b
  | v => v
def killD (kill : List Nat) (e : List DV) (f : DV → DV) : List DV :=
  match e, kill with
  | [], _ => []
  | v :: e, k :: ks => (match k with | 0 => f v | 1 => .top | _ => unlit (f v)) :: killD ks e f
  | v :: e, [] => f v :: killD [] e f
def norm (m : Nat) (keep : List Nat) (kill : List Nat) (e : List DV) (L : List DBlk) : Option (List DV × List DBlk) :=
  match Lo_ m 0 keep, K2_ keep, keepB keep L keep with
  | true, true, some L' => some (killD kill e (renD1 keep L), L')
  | _, _, _ => none
mutual
def DV.lrefs (L : List DBlk) : DV → List Nat
  | .ptr j _ ver _ => (match good L j ver with | some _ => [j] | none => [])
  | .own j ver _ => (match good L j ver with | some _ => [j] | none => [])
  | .slc j _ ver _ _ => (match good L j ver with | some _ => [j] | none => [])
  | .nest j ver es _ => (match goodN L j ver es with | some _ => [j] | none => [])
  | .ncell j ver es _ _ _ => (match goodN L j ver es with | some _ => [j] | none => [])
  | .inn j c _ _ => (match innAt L j c with | some _ => [j] | none => [])
  | .icell j c _ _ _ => (match innAt L j c with | some _ => [j] | none => [])
  | .nsb j ver es _ _ _ => (match goodN L j ver es with | some _ => [j] | none => [])
  | .fn _ cs => DVs.lrefs L cs
  | .agg cs => DVs.lrefs L cs
  | .tup cs => DVs.lrefs L cs
  | _ => []
def DVs.lrefs (L : List DBlk) : List DV → List Nat
  | [] => []
  | c :: cs => c.lrefs L ++ DVs.lrefs L cs
end
def addR (acc : List Nat) : List Nat → List Nat
  | [] => acc
  | j :: js => (match acc.any (Nat.beq j) with | true => addR acc js | false => addR (acc ++ [j]) js)
def inner (L : List DBlk) : List Nat → List Nat
  | [] => []
  | j :: js => (match L[j]? with | some (.gen cs _ _) => DVs.lrefs L cs ++ inner L js | _ => inner L js)
def keepA (m : Nat) (e : List DV) (L : List DBlk) : List Nat :=
  let a := addR (List.range m) (DVs.lrefs L e)
  let a := addR a (inner L a)
  let a := addR a (inner L a)
  addR a (inner L a)
def normA (m : Nat) (kill : List Nat) (e : List DV) (L : List DBlk) : Option (List DV × List DBlk) :=
  norm m (keepA m (killD kill e fun v => v) L) kill e L
end Go.Proofs.Ytmgpbchacndndaa.AM
