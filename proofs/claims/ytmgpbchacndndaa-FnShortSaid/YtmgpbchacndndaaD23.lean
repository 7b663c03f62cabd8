import Derived.Test.YtmgpbchacndndaaD16
set_option linter.unusedSimpArgs false
set_option linter.unusedVariables false
namespace Go.Proofs.Ytmgpbchacndndaa.AM
def setB : List DBlk → List (Nat × DBlk) → List DBlk
  | L, [] => L
  | L, (j, b) :: l => setB (L.set j b) l
theorem G4_ : ∀ (l : List (Nat × DBlk)) (L : List DBlk), (setB L l).length = L.length
  | [], L => rfl
  | (j, r) :: l, L => by simp only [setB]; rw [G4_ l]; simp
theorem N9_ : ∀ (l : List (Nat × DBlk)) (L : List DBlk) (i : Nat), i ∉ l.map (·.1) → (setB L l)[i]? = L[i]?
  | [], L, i, _ => rfl
  | (j, r) :: l, L, i, h => by
    simp only [List.map_cons, List.mem_cons, not_or] at h
    simp only [setB]
    rw [N9_ l _ i h.2, List.getElem?_set, if_neg (fun e => h.1 e.symm)]
theorem Yy_ : ∀ (l : List (Nat × DBlk)) (L : List DBlk) (j : Nat) (b : DBlk), (l.map (·.1)).Nodup → (j, b) ∈ l → j < L.length → (setB L l)[j]? = some b
  | (j', b') :: l, L, j, b, hnd, hm, hb => by
    simp only [List.map_cons, List.nodup_cons] at hnd
    simp only [setB]
    rcases List.mem_cons.1 hm with h | h
    · obtain ⟨rfl, rfl⟩ := Prod.mk.inj h
      rw [N9_ l _ _ hnd.1, List.getElem?_set, if_pos rfl, if_pos hb]
    · exact Yy_ l _ j b hnd.2 h (by simpa using hb)
def vr (vs : List Nat) (i ver : Nat) : Nat := match vs[i]? with | some v => v + ver | none => ver
mutual
def DV.tr (js vs : List Nat) (n : Nat) (al : List DV) : DV → Option DV
  | .ptr j off ver alen => some (.ptr (ix js n j) off (vr vs j ver) alen)
  | .own j ver len => some (.own (ix js n j) (vr vs j ver) len)
  | .slc j off ver alen len => some (.slc (ix js n j) off (vr vs j ver) alen len)
  | .nest j ver es len => some (.nest (ix js n j) (vr vs j ver) es len)
  | .ncell j ver es len i c => some (.ncell (ix js n j) (vr vs j ver) es len i c)
  | .inn j c k len => some (.inn (ix js n j) c k len)
  | .icell j c k i len => some (.icell (ix js n j) c k i len)
  | .fn f cs => (match DVs.tr js vs n al cs with | some cs' => some (.fn f cs') | none => none)
  | .agg cs => (match DVs.tr js vs n al cs with | some cs' => some (.agg cs') | none => none)
  | .tup cs => (match DVs.tr js vs n al cs with | some cs' => some (.tup cs') | none => none)
  | .bslc s _ => (match s with | .root k => al[k]? | _ => none)
  | .hslc _ _ => none
  | .rns _ _ => none
  | .nsb _ _ _ _ _ _ => none
  | .bptr s _ => (match s with | .root k => al[k]? | _ => none)
  | v => some v
def DVs.tr (js vs : List Nat) (n : Nat) (al : List DV) : List DV → Option (List DV)
  | [] => some []
  | c :: cs => (match c.tr js vs n al, DVs.tr js vs n al cs with | some c', some cs' => some (c' :: cs') | _, _ => none)
end
def DBlk.tr (js vs : List Nat) (n : Nat) (al : List DV) (i : Nat) : DBlk → Option DBlk
  | .row r v => some (.row r (vr vs i v))
  | .gen cs fl v => (match DVs.tr js vs n al cs with | some cs' => some (.gen cs' fl (vr vs i v)) | none => none)
  | .nest cols fl v => some (.nest cols fl (vr vs i v))
  | .gone m v => some (.gone m (vr vs i v))
def trB (js vs : List Nat) (n : Nat) (al : List DV) : Nat → List DBlk → Option (List DBlk)
  | _, [] => some []
  | i, b :: bs => (match b.tr js vs n al i, trB js vs n al (i + 1) bs with | some b', some bs' => some (b' :: bs') | _, _ => none)
theorem Ww_ {js vs : List Nat} {n : Nat} {al : List DV} : ∀ {i0 : Nat} {bs bs' : List DBlk}, trB js vs n al i0 bs = some bs' → bs'.length = bs.length ∧ ∀ (i : Nat) (b : DBlk), bs[i]? = some b → ∃ b', bs'[i]? = some b' ∧ b.tr js vs n al (i0 + i) = some b'
  | _, [], bs', h => by simp only [trB, Option.some.injEq] at h; subst h; exact ⟨rfl, by simp⟩
  | i0, b :: bs, bs', h => by
    simp only [trB] at h
    split at h
    · rename_i b1 bs1 h1 h2
      cases h
      obtain ⟨k1, k2⟩ := Ww_ h2
      refine ⟨by simp [k1], fun i c hc => ?_⟩
      cases i with
      | zero => simp at hc; subst hc; exact ⟨b1, rfl, h1⟩
      | succ i =>
        obtain ⟨b', g1, g2⟩ := k2 i c (by simpa using hc)
        exact ⟨b', by simpa using g1, by rw [show i0 + (i + 1) = i0 + 1 + i from by omega]; exact g2⟩
    · cases h
theorem vr_le {vs : List Nat} {i a b : Nat} (h : a ≤ b) : vr vs i a ≤ vr vs i b := by unfold vr; split <;> omega
theorem Jo_ {vs : List Nat} {i a b : Nat} (h : vr vs i a = vr vs i b) : a = b := by unfold vr at h; split at h <;> omega
section
variable {P : Program} {F F' C : Fr} {L : List DBlk} {H : Heap} {js vs : List Nat} {n : Nat} {al : List DV}
theorem tr_av (hp : ∀ i c k, F.pl (ix js n i) c k = C.pl i c k) (hal : ∀ (k : Nat) (v : DV), al[k]? = some v → v.av F = C.ρ k) : ∀ (x x' : DV), x.tr js vs n al = some x' → x'.av F = x.av C := by
  have habs : ∀ i, F.abs (ix js n i) = C.abs i := fun i => hp i 0 0
  intro x
  induction x using DV.rec (motive_2 := fun xs => ∀ xs', DVs.tr js vs n al xs = some xs' → DVs.av F xs' = DVs.av C xs) with
  | ptr j off ver alen => intro x' h; simp only [DV.tr, Option.some.injEq] at h; subst h; simp [DV.av, habs]
  | own j ver len => intro x' h; simp only [DV.tr, Option.some.injEq] at h; subst h; simp [DV.av, habs]
  | slc j off ver alen len => intro x' h; simp only [DV.tr, Option.some.injEq] at h; subst h; simp [DV.av, habs]
  | nest j ver es len => intro x' h; simp only [DV.tr, Option.some.injEq] at h; subst h; simp [DV.av, habs]
  | ncell j ver es len i c => intro x' h; simp only [DV.tr, Option.some.injEq] at h; subst h; simp [DV.av, habs]
  | inn j c k len =>
    intro x' h; simp only [DV.tr, Option.some.injEq] at h; subst h
    cases k with
    | zero => rfl
    | succ k => simp only [DV.av, hp]
  | icell j c k i len => intro x' h; simp only [DV.tr, Option.some.injEq] at h; subst h; simp only [DV.av, hp]
  | fn f cs ih => intro x' h; simp only [DV.tr] at h; split at h <;> cases h; rename_i cs' hcs; simp [DV.av, ih cs' hcs]
  | agg cs ih => intro x' h; simp only [DV.tr] at h; split at h <;> cases h; rename_i cs' hcs; simp [DV.av, ih cs' hcs]
  | tup cs ih => intro x' h; simp only [DV.tr] at h; split at h <;> cases h; rename_i cs' hcs; simp [DV.av, ih cs' hcs]
  | bslc s r =>
    intro x' h; simp only [DV.tr] at h
    split at h
    · rw [hal _ _ h]; rfl
    · cases h
  | hslc s n => intro x' h; cases h
  | rns n cols => intro x' h; cases h
  | nsb => intro x' h; cases h
  | bptr p cs ih =>
    intro x' h; simp only [DV.tr] at h
    split at h
    · rw [hal _ _ h]; rfl
    · cases h
  | nil => rename_i xs' h; simp only [DVs.tr, Option.some.injEq] at h; subst h; rfl
  | cons c cs ih1 ih2 => rename_i xs' h; simp only [DVs.tr] at h; split at h <;> cases h; rename_i c' cs' h1 h2; simp [DVs.av, ih1 c' h1, ih2 cs' h2]
  | _ => intro x' h; simp only [DV.tr, Option.some.injEq] at h; subst h; rfl
theorem Ao0_ {b b' : DBlk} {i : Nat} (h : b.tr js vs n al i = some b') : b'.clen = b.clen ∧ b'.ver = vr vs i b.ver := by
  cases b with
  | row r v => simp only [DBlk.tr, Option.some.injEq] at h; subst h; exact ⟨rfl, rfl⟩
  | nest cols fl v => simp only [DBlk.tr, Option.some.injEq] at h; subst h; exact ⟨rfl, rfl⟩
  | gone m v => simp only [DBlk.tr, Option.some.injEq] at h; subst h; exact ⟨rfl, rfl⟩
  | gen cs fl v =>
    simp only [DBlk.tr] at h
    split at h <;> cases h
    rename_i cs' hcs
    refine ⟨?_, rfl⟩
    have : ∀ (cs cs' : List DV), DVs.tr js vs n al cs = some cs' → cs'.length = cs.length := by
      intro cs
      induction cs with
      | nil => intro cs' h; simp only [DVs.tr, Option.some.injEq] at h; subst h; rfl
      | cons c cs ih => intro cs' h; simp only [DVs.tr] at h; split at h <;> cases h; rename_i c' cs' h1 h2; simp [ih cs' h2]
    exact this cs cs' hcs
theorem Abn_ {b b' : DBlk} {i : Nat} (h : b.tr js vs n al i = some b') : NExt b b' := by
  cases b with
  | row r v => simp only [DBlk.tr, Option.some.injEq] at h; subst h; exact .row _ _ _ _
  | nest cols fl v => simp only [DBlk.tr, Option.some.injEq] at h; subst h; exact .nest _ _ _ _ _ _ rfl fun c inn idx h => ⟨inn, idx, h, Nat.le_refl _, fun _ _ => rfl⟩
  | gone m v => simp only [DBlk.tr, Option.some.injEq] at h; subst h; exact .gone _ _ _
  | gen cs fl v => simp only [DBlk.tr] at h; split at h <;> cases h; exact .gen _ _ _ _ _ _
theorem tr_at (hp : ∀ i c k, F.pl (ix js n i) c k = C.pl i c k) (hal : ∀ (k : Nat) (v : DV), al[k]? = some v → v.av F = C.ρ k) {b b' : DBlk} {i : Nat} (h : b.tr js vs n al i = some b') (c k : Nat) : b'.at' F (ix js n i) c k = b.at' C i c k := by
  cases b with
  | row r v => simp only [DBlk.tr, Option.some.injEq] at h; subst h; rfl
  | nest cols fl v => simp only [DBlk.tr, Option.some.injEq] at h; subst h; exact Tf_ (fun c k => hp i c k) cols fl _ _ c k
  | gone m v => simp only [DBlk.tr, Option.some.injEq] at h; subst h; rfl
  | gen cs fl v =>
    simp only [DBlk.tr] at h
    split at h <;> cases h
    rename_i cs' hcs
    have := tr_av (vs := vs) hp hal (.agg cs) (.agg cs') (by simp only [DV.tr, hcs])
    simp only [DV.av, AV.agg.injEq] at this
    simp only [DBlk.at', DBlk.blk, this]
theorem tr_ok {L1 LL : List DBlk} (hB : ∀ (i : Nat) (b : DBlk), L1[i]? = some b → ∃ b', LL[ix js n i]? = some b' ∧ b.tr js vs n al i = some b') (hal : ∀ (k : Nat) (v : DV), al[k]? = some v → v.Ok F LL) :
    ∀ (x x' : DV), x.tr js vs n al = some x' → x.Ok F' L1 → x'.Ok F LL := by
  have hB' : ∀ (i : Nat) (b : DBlk), L1[i]? = some b → ∃ b', LL[ix js n i]? = some b' ∧ b'.clen = b.clen ∧ b'.ver = vr vs i b.ver := fun i b hb => by
    obtain ⟨b', h1, h2⟩ := hB i b hb
    exact ⟨b', h1, Ao0_ h2⟩
  have geti : ∀ j c k len, InnOk L1 j c k len → InnOk LL (ix js n j) c k len := fun j c k len h => by
    refine ⟨h.1, ?_⟩
    rcases h.2 with ⟨m, v, h1⟩ | ⟨cols, fl, v, inn, idx, h1, h2⟩
    · obtain ⟨b', k1, k2⟩ := hB j _ h1
      simp only [DBlk.tr, Option.some.injEq] at k2; subst k2
      exact .inl ⟨m, _, k1⟩
    · obtain ⟨b', k1, k2⟩ := hB j _ h1
      simp only [DBlk.tr, Option.some.injEq] at k2; subst k2
      exact .inr ⟨cols, fl, _, inn, idx, k1, h2⟩
  intro x
  induction x using DV.rec (motive_2 := fun xs => ∀ xs', DVs.tr js vs n al xs = some xs' → DVs.Ok F' L1 xs → DVs.Ok F LL xs') with
  | ptr j off ver alen =>
    intro x' h ⟨b, h1, h2, h3, h4, h5⟩
    simp only [DV.tr, Option.some.injEq] at h; subst h
    obtain ⟨b', k1, k2, k3⟩ := hB' j b h1
    exact ⟨b', k1, by rw [k3]; exact vr_le h2, h3, by omega, fun h => by rw [k3] at h; rw [k2]; exact h5 (Jo_ h)⟩
  | own j ver len =>
    intro x' h ⟨b, h1, h2, h3, h4, h5⟩
    simp only [DV.tr, Option.some.injEq] at h; subst h
    obtain ⟨b', k1, k2, k3⟩ := hB' j b h1
    exact ⟨b', k1, by rw [k3]; exact vr_le h2, by omega, fun h => by rw [k3] at h; rw [k2]; exact h4 (Jo_ h), h5⟩
  | slc j off ver alen len =>
    intro x' h ⟨b, h1, h2, h3, h4, h5, h6⟩
    simp only [DV.tr, Option.some.injEq] at h; subst h
    obtain ⟨b', k1, k2, k3⟩ := hB' j b h1
    exact ⟨b', k1, by rw [k3]; exact vr_le h2, h3, by omega, fun h => by rw [k3] at h; rw [k2]; exact h5 (Jo_ h), h6⟩
  | nest j ver es len =>
    intro x' h ⟨b, h1, h2, h3, h4, h5⟩
    simp only [DV.tr, Option.some.injEq] at h; subst h
    obtain ⟨b', k1, k2, k3⟩ := hB' j b h1
    exact ⟨b', k1, by rw [k3]; exact vr_le h2, by omega, fun h => by rw [k3] at h; rw [k2]; exact h4 (Jo_ h), h5⟩
  | ncell j ver es len i c =>
    intro x' h ⟨b, h1, h2, h3, h4, h5⟩
    simp only [DV.tr, Option.some.injEq] at h; subst h
    obtain ⟨b', k1, k2, k3⟩ := hB' j b h1
    exact ⟨b', k1, by rw [k3]; exact vr_le h2, by omega, fun h => by rw [k3] at h; rw [k2]; exact h4 (Jo_ h), h5⟩
  | inn j c k len => intro x' h hx; simp only [DV.tr, Option.some.injEq] at h; subst h; exact geti _ _ _ _ hx
  | icell j c k i len => intro x' h hx; simp only [DV.tr, Option.some.injEq] at h; subst h; exact ⟨geti _ _ _ _ hx.1, hx.2⟩
  | fn f cs ih => intro x' h hx; simp only [DV.tr] at h; split at h <;> cases h; rename_i cs' hcs; exact ih cs' hcs hx
  | agg cs ih => intro x' h hx; simp only [DV.tr] at h; split at h <;> cases h; rename_i cs' hcs; exact ih cs' hcs hx
  | tup cs ih => intro x' h hx; simp only [DV.tr] at h; split at h <;> cases h; rename_i cs' hcs; exact ih cs' hcs hx
  | bslc s r =>
    intro x' h _; simp only [DV.tr] at h
    split at h
    · exact hal _ _ h
    · cases h
  | hslc s n => intro x' h; cases h
  | rns n cols => intro x' h; cases h
  | nsb => intro x' h; cases h
  | bptr p cs ih =>
    intro x' h _; simp only [DV.tr] at h
    split at h
    · exact hal _ _ h
    · cases h
  | nil => rename_i xs' h hx; simp only [DVs.tr, Option.some.injEq] at h; subst h; trivial
  | cons c cs ih1 ih2 => rename_i xs' h hx; simp only [DVs.tr] at h; split at h <;> cases h; rename_i c' cs' h1 h2; exact ⟨ih1 c' h1 hx.1, ih2 cs' h2 hx.2⟩
  | _ => intro x' h _; simp only [DV.tr, Option.some.injEq] at h; subst h; trivial
theorem Acq_ : ∀ (cs cs' : List DV), DVs.tr js vs n al cs = some cs' → (∀ c ∈ cs, c.flat = true) → ∀ c ∈ cs', c.flat = true := by
  intro cs
  induction cs with
  | nil => intro cs' h; simp only [DVs.tr, Option.some.injEq] at h; subst h; simp
  | cons a cs ih =>
    intro cs' h hfl
    simp only [DVs.tr] at h
    split at h <;> cases h
    rename_i a' cs'' h1 h2
    intro c hc
    rcases List.mem_cons.1 hc with rfl | hc
    · have := hfl a (by simp)
      cases a <;> simp [DV.flat] at this <;> simp only [DV.tr, Option.some.injEq] at h1 <;> subst h1 <;> rfl
    · exact ih cs'' h2 (fun c hc => hfl c (by simp [hc])) c hc
theorem Vp_ {f : FuncId} (hs : St F L H) (ρx : Nat → AV) (al : List DV) (hal : DVs.Ok F L al) (args A : List DV) {r r' : DV} (js vs : List Nat) (L0 L1 M N : List DBlk) (hnd : js.Nodup) (hl : L0.length = js.length) (hM : M.length = js.length)
    (hlive : ∀ j ∈ js, ∃ b, L[j]? = some b ∧ ∀ n v, b ≠ .gone n v) (hsub : ∀ j ∈ js, j ∈ reach L args)
    (hblk : ∀ C : Fr, C.H0 = H → C.ids = idsOf F L js → (C.ρ = fun k => ((DVs.av F al)[k]?).getD (ρx k)) → (∀ i j, js[i]? = some j → C.abs i = F.abs j) → (∀ i j, js[i]? = some j → ∀ c k, C.pl i c k = F.pl j c k) → Sees F C L js →
      (∀ (i j : Nat) (b' : DBlk), js[i]? = some j → L0[i]? = some b' → ∃ b, L[j]? = some b ∧ SameB b b' ∧ b'.blk C i = b.blk F j ∧ b'.Ok C L0) ∧ DVs.av C A = DVs.av F args ∧ (St C L0 C.H0 → ∃ C' H', Fwd js.length C C' L0 L1 ∧ FnOk P f (DVs.av C A) C.H0 (r.av C') H' ∧ St C' L1 H' ∧ r.Ok C' L1))
    (hr : r.tr js vs L.length al = some r') (hL : trB js vs L.length al 0 L1 = some (M ++ N))
    (hgrow : ∀ (i j : Nat) (b b' : DBlk), js[i]? = some j → L[j]? = some b → M[i]? = some b' → b.ver ≤ b'.ver ∧ b.clen ≤ b'.clen ∧ (b.ver = b'.ver → b.clen = b'.clen)) :
    ∃ F1 H', FrLe F F1 L ∧ FnOk P f (DVs.av F args) H (r'.av F1) H' ∧ St F1 (setB L (js.zip M) ++ N) H' ∧ r'.Ok F1 (setB L (js.zip M) ++ N) ∧ Ext L (setB L (js.zip M) ++ N) ∧ ∀ j, j < L.length → (false = true ∨ j ∉ reach L args) → (setB L (js.zip M) ++ N)[j]? = L[j]? := by
  obtain ⟨C, hc, hρ⟩ := X1_ hs (fun k => ((DVs.av F al)[k]?).getD (ρx k)) hlive
  have hjs : ∀ j ∈ js, j < L.length := fun j hj => by obtain ⟨b, hb, _⟩ := hlive j hj; exact (List.getElem?_eq_some_iff.1 hb).1
  obtain ⟨q1, q2, q3⟩ := hblk C hc.h0 hc.ids hρ (fun i j hij => hc.pl i j hij 0 0) hc.pl (hc.sees hs)
  have hst0 := hc.st hs hnd hl q1
  obtain ⟨C', H', kf, k1, k2, k3⟩ := q3 hst0
  rw [q2, hc.h0] at k1
  have hle := Yj_ (m := js.length) hc hnd hl (fun i j b' h1 h2 => by obtain ⟨b, g1, g2, _⟩ := q1 i j b' h1 h2; exact ⟨b, g1, g2⟩) (Nat.le_refl _) kf
  have hp := L7_ (F := F) (C := C') hnd hjs
  have hρ' : C'.ρ = C.ρ := by obtain ⟨g, rfl⟩ := kf.base; rfl
  have hal1 : ∀ (k : Nat) (v : DV), al[k]? = some v → v.av (F.mutj js L.length C') = C'.ρ k := fun k v hv => by
    rw [hle.av v (DVs.ok_iff.1 hal v (List.mem_of_getElem? hv)), hρ', hρ]
    simp [DVs.av_eq, hv]
  have rav := tr_av (vs := vs) hp hal1 r r' hr
  rw [← rav] at k1
  obtain ⟨t1, t2⟩ := Ww_ hL
  have hz : (js.zip M).map (·.1) = js := List.map_fst_zip (by omega)
  have l1 : L1.length = js.length + N.length := by rw [← t1]; simp [hM]
  have inz : ∀ i j, js[i]? = some j → ∃ b', M[i]? = some b' ∧ (setB L (js.zip M) ++ N)[j]? = some b' := fun i j hi => by
    have hil := (List.getElem?_eq_some_iff.1 hi).1
    have hm : M[i]? = some M[i] := List.getElem?_eq_getElem (by omega)
    refine ⟨_, hm, ?_⟩
    have hjl := hjs j (List.mem_of_getElem? hi)
    rw [List.getElem?_append_left (by rw [G4_]; exact hjl)]
    refine Yy_ _ L j _ (by rw [hz]; exact hnd) ?_ hjl
    exact List.mem_of_getElem? (i := i) (List.getElem?_zip_eq_some.2 ⟨hi, hm⟩)
  have outz : ∀ i, i < L.length → i ∉ js → (setB L (js.zip M) ++ N)[i]? = L[i]? := fun i hi hn => by
    rw [List.getElem?_append_left (by rw [G4_]; exact hi)]
    exact N9_ _ L i (by rw [hz]; exact hn)
  have get1 : ∀ (i : Nat) (b : DBlk), L1[i]? = some b → ∃ b', (setB L (js.zip M) ++ N)[ix js L.length i]? = some b' ∧ b.tr js vs L.length al i = some b' := fun i b hb => by
    obtain ⟨b', g1, g2⟩ := t2 i b hb
    rw [Nat.zero_add] at g2
    refine ⟨b', ?_, g2⟩
    unfold ix
    cases hi : js[i]? with
    | some j =>
      obtain ⟨b2, h1, h2⟩ := inz i j hi
      have hil := (List.getElem?_eq_some_iff.1 hi).1
      rw [List.getElem?_append_left (by omega), h1] at g1
      rw [← g1]; exact h2
    | none =>
      have hge := List.getElem?_eq_none_iff.1 hi
      simp only
      rw [List.getElem?_append_right (by omega)] at g1
      rw [List.getElem?_append_right (by rw [G4_]; omega), G4_, ← g1]
      congr 1; omega
  have get2 : ∀ (j : Nat) (b' : DBlk), (setB L (js.zip M) ++ N)[j]? = some b' → (∃ i b, L1[i]? = some b ∧ j = ix js L.length i ∧ b.tr js vs L.length al i = some b') ∨ (j < L.length ∧ j ∉ js ∧ L[j]? = some b') := fun j b' hb => by
    by_cases hj : j ∈ js
    · obtain ⟨i, hi⟩ := List.getElem?_of_mem hj
      have hil := (List.getElem?_eq_some_iff.1 hi).1
      have hb1 : L1[i]? = some L1[i] := List.getElem?_eq_getElem (by omega)
      obtain ⟨b2, h1, h2⟩ := get1 i _ hb1
      have hix : ix js L.length i = j := by unfold ix; rw [hi]
      rw [hix, hb] at h1
      cases h1
      exact .inl ⟨i, _, hb1, hix.symm, h2⟩
    · by_cases hjl : j < L.length
      · rw [outz j hjl hj] at hb
        exact .inr ⟨hjl, hj, hb⟩
      · have hlt := (List.getElem?_eq_some_iff.1 hb).1
        simp only [List.length_append, G4_] at hlt
        have hb1 : L1[js.length + (j - L.length)]? = some L1[js.length + (j - L.length)] := List.getElem?_eq_getElem (by omega)
        obtain ⟨b2, h1, h2⟩ := get1 _ _ hb1
        have hix : ix js L.length (js.length + (j - L.length)) = j := by unfold ix; rw [List.getElem?_eq_none (by omega)]; simp only; omega
        rw [hix, hb] at h1
        cases h1
        exact .inl ⟨_, _, hb1, hix.symm, h2⟩
  have hext : Ext L (setB L (js.zip M) ++ N) := fun j b hb => by
    have hjl := (List.getElem?_eq_some_iff.1 hb).1
    by_cases hj : j ∈ js
    · obtain ⟨i, hi⟩ := List.getElem?_of_mem hj
      obtain ⟨b', h1, h2⟩ := inz i j hi
      obtain ⟨e1, e2, e3⟩ := hgrow i j b b' hi hb h1
      refine ⟨b', h2, e1, e2, e3, ?_⟩
      have hil := (List.getElem?_eq_some_iff.1 hi).1
      have h0 : L0[i]? = some L0[i] := List.getElem?_eq_getElem (by omega)
      obtain ⟨b0, g1, g2, _⟩ := q1 i j _ hi h0
      rw [hb] at g1; cases g1
      obtain ⟨_, b1, f1, f2⟩ := kf.ext i _ hil h0
      obtain ⟨b2, f3, f4⟩ := get1 i b1 f1
      have hix : ix js L.length i = j := by unfold ix; rw [hi]
      rw [hix, h2] at f3; cases f3
      exact g2.next.trans (f2.trans (Abn_ f4))
    · exact ⟨b, by rw [outz j hjl hj]; exact hb, Nat.le_refl _, Nat.le_refl _, fun _ => rfl, .refl _⟩
  have halo : ∀ (k : Nat) (v : DV), al[k]? = some v → v.Ok (F.mutj js L.length C') (setB L (js.zip M) ++ N) := fun k v hv => by
    have h1 := DVs.ok_iff.1 hal v (List.mem_of_getElem? hv)
    exact hle.ok v h1 (h1.ext hext)
  refine ⟨_, H', hle, k1, hs.back hc hnd hle kf.base k2 hext fun j b hb => ?_, tr_ok get1 halo r r' hr k3, hext, fun j hj hn => ?_⟩
  · rcases get2 j b hb with ⟨i, b0, g1, rfl, g3⟩ | ⟨g1, g2, g3⟩
    · refine .inr ⟨i, b0, rfl, g1, tr_at hp hal1 g3, ?_, fun n v h => ?_⟩
      · have hok := k2.ok i b0 g1
        cases b0 with
        | row r v => simp only [DBlk.tr, Option.some.injEq] at g3; subst g3; exact hok
        | nest cols fl v => simp only [DBlk.tr, Option.some.injEq] at g3; subst g3; exact hok
        | gone m v => simp only [DBlk.tr, Option.some.injEq] at g3; subst g3; trivial
        | gen cs fl v =>
          simp only [DBlk.tr] at g3
          split at g3 <;> cases g3
          rename_i cs' hcs
          exact ⟨tr_ok (F' := C') get1 halo (.agg cs) (.agg cs') (by simp only [DV.tr, hcs]) hok.1, fun hf c hc => Acq_ cs cs' hcs (hok.2 hf) c hc⟩
      · subst h
        cases b0 with
        | gone m v => exact ⟨_, _, rfl⟩
        | row r v => simp [DBlk.tr] at g3
        | nest cols fl v => simp [DBlk.tr] at g3
        | gen cs fl v => simp only [DBlk.tr] at g3; split at g3 <;> cases g3
    · exact .inl ⟨g1, g2, g3⟩
  · rcases hn with h | h
    · cases h
    · exact outz j hj fun hm => h (hsub j hm)
def genOf (L : List DBlk) (n : Nat) (fl : Bool) : DV → Option (Nat × List DV)
  | .ptr j off ver _ => (match Nat.beq off 0, good L j ver with
    | true, some (.gen cs fl' _) => (match Nat.beq cs.length n, fl, fl' with | true, true, true => some (j, cs) | true, false, false => some (j, cs) | _, _, _ => none)
    | _, _ => none)
  | _ => none
theorem Tk_ (hs : St F L H) {v : DV} {n : Nat} {fl : Bool} {j : Nat} {cs : List DV} (hv : v.Ok F L) (h : genOf L n fl v = some (j, cs)) :
    (∃ ver, L[j]? = some (.gen cs fl ver)) ∧ j ∈ v.refs ∧ v.av F = .ptr ⟨F.abs j, 0, n⟩ ∧ cs.length = n ∧ DVs.Ok F L cs ∧ (fl = true → ∀ c ∈ cs, c.flat = true) := by
  unfold genOf at h
  split at h
  · rename_i j' off ver alen
    obtain ⟨b, h1, h2, h3, h4, h5⟩ := hv
    split at h
    · rename_i cs' fl' v' hoff hg
      have hoff := Nat.eq_of_beq_eq_true hoff
      subst hoff
      obtain ⟨g1, g2⟩ := Al_ hg
      rw [h1] at g1; cases g1
      have hal := h5 g2.symm
      have hk := hs.ok j' _ h1
      split at h
      · rename_i hb
        cases h
        have hb := Nat.eq_of_beq_eq_true hb
        simp only [DBlk.clen] at hal
        exact ⟨⟨_, h1⟩, by simp [DV.refs], by simp only [DV.av]; rw [hal, hb], hb, hk.1, hk.2⟩
      · rename_i hb
        cases h
        have hb := Nat.eq_of_beq_eq_true hb
        simp only [DBlk.clen] at hal
        exact ⟨⟨_, h1⟩, by simp [DV.refs], by simp only [DV.av]; rw [hal, hb], hb, hk.1, hk.2⟩
      · cases h
    · cases h
  · cases h
theorem growK {j : Nat} {r r' : Row} {b : DBlk} (h : ∃ v, L[j]? = some (.row r v)) (hl : r'.len = r.len) (hb : L[j]? = some b) :
    b.ver ≤ (DBlk.row r' (verAt L j)).ver ∧ b.clen ≤ (DBlk.row r' (verAt L j)).clen ∧ (b.ver = (DBlk.row r' (verAt L j)).ver → b.clen = (DBlk.row r' (verAt L j)).clen) := by
  obtain ⟨v, h⟩ := h
  rw [h] at hb; cases hb
  simp [verAt, h, DBlk.ver, DBlk.clen, hl]
theorem growG {j : Nat} {cs cs' : List DV} {fl fl' : Bool} {b : DBlk} (h : ∃ v, L[j]? = some (.gen cs fl v)) (hl : cs'.length = cs.length) (hb : L[j]? = some b) :
    b.ver ≤ (DBlk.gen cs' fl' (verAt L j)).ver ∧ b.clen ≤ (DBlk.gen cs' fl' (verAt L j)).clen ∧ (b.ver = (DBlk.gen cs' fl' (verAt L j)).ver → b.clen = (DBlk.gen cs' fl' (verAt L j)).clen) := by
  obtain ⟨v, h⟩ := h
  rw [h] at hb; cases hb
  simp [verAt, h, DBlk.ver, DBlk.clen, hl]
theorem V6_ {j : Nat} {r : Row} (h : ∃ v, L[j]? = some (.row r v)) : ∃ b, L[j]? = some b ∧ ∀ n v, b ≠ .gone n v := by
  obtain ⟨v, h⟩ := h
  exact ⟨_, h, fun _ _ => by simp⟩
theorem Rq_ {j : Nat} {cs : List DV} {fl : Bool} (h : ∃ v, L[j]? = some (.gen cs fl v)) : ∃ b, L[j]? = some b ∧ ∀ n v, b ≠ .gone n v := by
  obtain ⟨v, h⟩ := h
  exact ⟨_, h, fun _ _ => by simp⟩
theorem Ka_ {f : FuncId} (hs : St F L H) (al : List DV) (hal : DVs.Ok F L al) (args A : List DV) {r r' : DV} (js vs : List Nat) (L0 L1 M N : List DBlk) (hnd : js.Nodup) (hl : L0.length = js.length) (hM : M.length = js.length)
    (hlive : ∀ j ∈ js, ∃ b, L[j]? = some b ∧ ∀ n v, b ≠ .gone n v) (hsub : ∀ j ∈ js, j ∈ reach L args)
    (hblk : ∀ C : Fr, C.H0 = H → (C.ρ = fun k => ((DVs.av F al)[k]?).getD .top) → (∀ i j, js[i]? = some j → C.abs i = F.abs j) → (∀ i j, js[i]? = some j → ∀ c k, C.pl i c k = F.pl j c k) → Sees F C L js →
      (∀ (i j : Nat) (b' : DBlk), js[i]? = some j → L0[i]? = some b' → ∃ b, L[j]? = some b ∧ SameB b b' ∧ b'.blk C i = b.blk F j ∧ b'.Ok C L0) ∧ DVs.av C A = DVs.av F args ∧ (St C L0 C.H0 → ∃ C' H', Fwd js.length C C' L0 L1 ∧ FnOk P f (DVs.av C A) C.H0 (r.av C') H' ∧ St C' L1 H' ∧ r.Ok C' L1))
    (hr : r.tr js vs L.length al = some r') (hL : trB js vs L.length al 0 L1 = some (M ++ N))
    (hgrow : ∀ (i j : Nat) (b b' : DBlk), js[i]? = some j → L[j]? = some b → M[i]? = some b' → b.ver ≤ b'.ver ∧ b.clen ≤ b'.clen ∧ (b.ver = b'.ver → b.clen = b'.clen)) :
    ∃ F1 H', FrLe F F1 L ∧ FnOk P f (DVs.av F args) H (r'.av F1) H' ∧ St F1 (setB L (js.zip M) ++ N) H' ∧ r'.Ok F1 (setB L (js.zip M) ++ N) ∧ Ext L (setB L (js.zip M) ++ N) ∧ ∀ j, j < L.length → (false = true ∨ j ∉ reach L args) → (setB L (js.zip M) ++ N)[j]? = L[j]? :=
  Vp_ hs (fun _ => .top) al hal args A js vs L0 L1 M N hnd hl hM hlive hsub (fun C h1 _ h3 h4 h5 h6 => hblk C h1 h3 h4 h5 h6) hr hL hgrow
theorem Aid_ {f : FuncId} (hs : St F L H) (ρx : Nat → AV) (al : List DV) (hal : DVs.Ok F L al) (args A : List DV) {r r' : DV} (L1 N : List DBlk)
    (h : ∀ F' : Fr, F'.H0 = H → F'.ids = [] → F'.ρ = (fun k => ((DVs.av F al)[k]?).getD (ρx k)) → DVs.av F' A = DVs.av F args ∧ ∃ F'' H', Fwd 0 F' F'' [] L1 ∧ FnOk P f (DVs.av F' A) F'.H0 (r.av F'') H' ∧ St F'' L1 H' ∧ r.Ok F'' L1)
    (hr : r.tr [] [] L.length al = some r') (hL : trB [] [] L.length al 0 L1 = some N) :
    ∃ F' H', FrLe F F' L ∧ FnOk P f (DVs.av F args) H (r'.av F') H' ∧ St F' (L ++ N) H' ∧ r'.Ok F' (L ++ N) ∧ Ext L (L ++ N) ∧ ∀ j, j < L.length → (true = true ∨ j ∉ reach L args) → (L ++ N)[j]? = L[j]? := by
  obtain ⟨F1, H', k1, k2, k3, k4, k5, k6⟩ := Vp_ (P := P) (f := f) hs ρx al hal args A (r := r) (r' := r') [] [] [] L1 [] N .nil rfl rfl (fun j hj => by cases hj) (fun j hj => by cases hj)
    (fun C h1 h2 h3 _ _ _ => by
      obtain ⟨g1, g2⟩ := h C h1 h2 h3
      exact ⟨fun i j b' hi => by simp at hi, g1, fun _ => g2⟩) hr hL (fun i j b b' hi => by simp at hi)
  exact ⟨F1, H', k1, k2, k3, k4, k5, fun j hj _ => List.getElem?_append_left hj⟩
end
end Go.Proofs.Ytmgpbchacndndaa.AM
