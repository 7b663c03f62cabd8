import Derived.Test.YtmgpbchacndndaaD10
set_option linter.unusedSimpArgs false
set_option linter.unusedVariables false
namespace Go.Proofs.Ytmgpbchacndndaa.AM
theorem Dt_ {j : Nat} : ∀ {ks : List Nat} {i0 i : Nat}, idx j ks i0 = some i → i0 ≤ i ∧ ks[i - i0]? = some j
  | [], _, _, h => by cases h
  | k :: ks, i0, i, h => by
    simp only [idx] at h
    split at h
    · rename_i hk
      cases h
      exact ⟨Nat.le_refl _, by simp [Nat.eq_of_beq_eq_true hk]⟩
    · obtain ⟨h1, h2⟩ := Dt_ h
      refine ⟨by omega, ?_⟩
      rw [show i - i0 = (i - (i0 + 1)) + 1 by omega]
      simpa using h2
theorem Yr_ {keep : List Nat} {L : List DBlk} : ∀ {js : List Nat} {bs : List DBlk}, keepB keep L js = some bs → bs.length = js.length ∧ ∀ (i j : Nat), js[i]? = some j → ∃ b, L[j]? = some b ∧ bs[i]? = some (renB keep L b)
  | [], bs, h => by simp only [keepB, Option.some.injEq] at h; subst h; exact ⟨rfl, by simp⟩
  | j :: js, bs, h => by
    simp only [keepB] at h
    split at h
    · rename_i b bs' hb hbs
      cases h
      obtain ⟨h1, h2⟩ := Yr_ hbs
      refine ⟨by simp [h1], fun i j' hj' => ?_⟩
      cases i with
      | zero => simp at hj'; subst hj'; exact ⟨b, hb, rfl⟩
      | succ i => exact h2 i j' (by simpa using hj')
    · cases h
theorem Ov_ : ∀ {l : List Nat}, K2_ l = true → l.Nodup
  | [], _ => List.nodup_nil
  | x :: l, h => by
    simp only [K2_] at h
    split at h
    · cases h
    · rename_i hx
      refine List.nodup_cons.2 ⟨fun hm => ?_, Ov_ h⟩
      have := List.any_eq_false.1 hx x hm
      simp at this
theorem W2_ : ∀ {m i0 : Nat} {ks : List Nat}, Lo_ m i0 ks = true → m ≤ ks.length ∧ ∀ i, i < m → ks[i]? = some (i0 + i)
  | 0, _, _, _ => ⟨Nat.zero_le _, fun i h => by omega⟩
  | m + 1, i0, [], h => by cases h
  | m + 1, i0, k :: ks, h => by
    simp only [Lo_] at h
    split at h
    · rename_i hk
      have hk := Nat.eq_of_beq_eq_true hk
      obtain ⟨h1, h2⟩ := W2_ h
      refine ⟨by simp; omega, fun i hi => ?_⟩
      cases i with
      | zero => simp [hk]
      | succ i =>
        have := h2 i (by omega)
        simp only [List.getElem?_cons_succ, this]
        congr 1; omega
    · cases h
theorem Kc_ {f : DV → DV} : ∀ {e : List DV} {kill : List Nat}, (killD kill e f).length = e.length ∧ ∀ (i : Nat) (y : DV), (killD kill e f)[i]? = some y → y = .top ∨ ∃ v, e[i]? = some v ∧ (y = f v ∨ y = unlit (f v))
  | [], kill => by simp [killD]
  | v :: e, [] => by
    obtain ⟨h1, h2⟩ := Kc_ (f := f) (e := e) (kill := [])
    refine ⟨by simp [killD, h1], fun i y hy => ?_⟩
    cases i with
    | zero => simp [killD] at hy; subst hy; exact .inr ⟨v, rfl, .inl rfl⟩
    | succ i => simp [killD] at hy; simpa using h2 i y hy
  | v :: e, k :: ks => by
    obtain ⟨h1, h2⟩ := Kc_ (f := f) (e := e) (kill := ks)
    refine ⟨by simp [killD, h1], fun i y hy => ?_⟩
    cases i with
    | zero =>
      simp only [killD, List.getElem?_cons_zero, Option.some.injEq] at hy
      subst hy
      split
      · exact .inr ⟨v, rfl, .inl rfl⟩
      · exact .inl rfl
      · exact .inr ⟨v, rfl, .inr rfl⟩
    | succ i => simp [killD] at hy; simpa using h2 i y hy
theorem Y1_ (F : Fr) (v : DV) : (unlit v).av F = v.av F := by cases v <;> rfl
theorem Vr_ {F : Fr} {L : List DBlk} {v : DV} (h : v.Ok F L) : (unlit v).Ok F L := by cases v <;> first | exact h | trivial
theorem Apr_ {F : Fr} {L L' : List DBlk} {g : Nat → Nat → Nat → Nat} : ∀ (x : DV), x.refs = [] → x.Ok F L → x.Ok (F.wa g) L' ∧ x.av (F.wa g) = x.av F := by
  intro x
  induction x using DV.rec (motive_2 := fun xs => DVs.refs xs = [] → DVs.Ok F L xs → DVs.Ok (F.wa g) L' xs ∧ DVs.av (F.wa g) xs = DVs.av F xs) with
  | ptr => intro h; simp [DV.refs] at h
  | own => intro h; simp [DV.refs] at h
  | slc => intro h; simp [DV.refs] at h
  | nest => intro h; simp [DV.refs] at h
  | ncell => intro h; simp [DV.refs] at h
  | nsb => intro h; simp [DV.refs] at h
  | inn => intro h; simp [DV.refs] at h
  | icell => intro h; simp [DV.refs] at h
  | fn f cs ih => intro h hx; obtain ⟨k1, k2⟩ := ih h hx; exact ⟨k1, by simp only [DV.av, k2]⟩
  | agg cs ih => intro h hx; obtain ⟨k1, k2⟩ := ih h hx; exact ⟨k1, by simp only [DV.av, k2]⟩
  | tup cs ih => intro h hx; obtain ⟨k1, k2⟩ := ih h hx; exact ⟨k1, by simp only [DV.av, k2]⟩
  | bptr p cs ih =>
    intro h hx
    obtain ⟨k1, k2⟩ := ih h hx.2
    refine ⟨⟨fun K hK => ?_, k1⟩, rfl⟩
    rw [k2]; exact hx.1 K hK
  | nil => rename_i h hx; exact ⟨trivial, rfl⟩
  | cons c cs ih1 ih2 =>
    rename_i h hx
    simp only [DVs.refs, List.append_eq_nil_iff] at h
    obtain ⟨k1, k2⟩ := ih1 h.1 hx.1
    obtain ⟨k3, k4⟩ := ih2 h.2 hx.2
    exact ⟨⟨k1, k3⟩, by simp only [DVs.av, k2, k4]⟩
  | bslc s r => intro _ hx; exact ⟨hx, rfl⟩
  | hslc s n => intro _ hx; exact ⟨hx, rfl⟩
  | rns n cols => intro _ hx; exact ⟨fun K hK => RNs.congr (F := F) (F' := F.wa g) rfl (hx K hK), rfl⟩
  | _ => intro _ _; exact ⟨trivial, rfl⟩
def Fr.keep (F : Fr) (keep : List Nat) : Fr := F.wa fun i c k => F.pl (keep.getD i 0) c k
theorem C5_ {F : Fr} {keep : List Nat} {i j : Nat} (h : keep[i]? = some j) (c k : Nat) : (F.keep keep).pl i c k = F.pl j c k := by
  simp only [Fr.keep, Fr.wa]
  rw [List.getD_eq_getElem?_getD, h]; rfl
theorem J7_ {F : Fr} {keep : List Nat} {i j : Nat} (h : keep[i]? = some j) : (F.keep keep).abs i = F.abs j := C5_ h 0 0
section
variable {P : Program} {F : Fr} {L L' : List DBlk} {H : Heap} {m : Nat} {keep : List Nat}
def RenK (L L' : List DBlk) (keep : List Nat) : Prop := ∀ (i j : Nat), keep[i]? = some j → ∃ b, L[j]? = some b ∧ L'[i]? = some (renB keep L b)
theorem Gi_ (keep : List Nat) (L : List DBlk) (b : DBlk) : (renB keep L b).clen = b.clen := by cases b <;> simp [renB, DBlk.clen]
theorem Y0_ (F : Fr) : F.agree F.H0 := ⟨Nat.le_refl _, fun _ _ _ => rfl⟩
theorem St.in (hs : St F L H) : ∀ (x : DV), x.Ok F L → (x.av F).within H.length = true :=
  O0_ (fun j c k B h => (List.getElem?_eq_some_iff.1 (hs.blkp j c k B h)).1) hs.ltp hs.ag (Nat.le_refl _)
theorem P7_ (hs : St F L H) (hR : RenK L L' keep) {x y : DV} (h : renD0 keep L x = some y) (hx : x.Ok F L) : y.Ok (F.keep keep) L' ∧ y.av (F.keep keep) = x.av F := by
  have fl : x.flat = true → some x = some y → y.Ok (F.keep keep) L' ∧ y.av (F.keep keep) = x.av F := fun hf he => by
    cases he
    cases x <;> first | exact ⟨trivial, rfl⟩ | (simp [DV.flat] at hf)
  cases x with
  | own j ver len =>
    obtain ⟨b, h1, h2, h3, h4, h5⟩ := hx
    simp only [renD0] at h
    split at h
    · rename_i b' i hg hi
      cases h
      obtain ⟨g1, g2⟩ := Al_ hg
      rw [h1] at g1; cases g1
      obtain ⟨_, hk⟩ := Dt_ hi
      simp only [Nat.sub_zero] at hk
      obtain ⟨b', r3, r4⟩ := hR i j hk
      rw [h1] at r3; cases r3
      have hl := h4 g2.symm
      exact ⟨⟨_, r4, Nat.zero_le _, by rw [Gi_]; exact Nat.le_refl _, fun _ => by rw [Gi_], by omega⟩, by simp [DV.av, J7_ hk, hl]⟩
    · cases h
  | ptr j off ver alen =>
    obtain ⟨b, h1, h2, h3, h4, h5⟩ := hx
    simp only [renD0] at h
    split at h
    · rename_i b' i hg hi
      cases h
      obtain ⟨g1, g2⟩ := Al_ hg
      rw [h1] at g1; cases g1
      obtain ⟨_, hk⟩ := Dt_ hi
      simp only [Nat.sub_zero] at hk
      obtain ⟨b', r3, r4⟩ := hR i j hk
      rw [h1] at r3; cases r3
      have hl := h5 g2.symm
      exact ⟨⟨_, r4, Nat.zero_le _, by omega, by rw [Gi_]; exact Nat.le_refl _, fun _ => by rw [Gi_]⟩, by simp [DV.av, J7_ hk, hl]⟩
    · cases h
  | slc j off ver alen len =>
    obtain ⟨b, h1, h2, h3, h4, h5, h6⟩ := hx
    simp only [renD0] at h
    split at h
    · rename_i b' i hg hi
      cases h
      obtain ⟨g1, g2⟩ := Al_ hg
      rw [h1] at g1; cases g1
      obtain ⟨_, hk⟩ := Dt_ hi
      simp only [Nat.sub_zero] at hk
      obtain ⟨b', r3, r4⟩ := hR i j hk
      rw [h1] at r3; cases r3
      have hl := h5 g2.symm
      exact ⟨⟨_, r4, Nat.zero_le _, by omega, by rw [Gi_]; exact Nat.le_refl _, fun _ => by rw [Gi_], h6⟩, by simp [DV.av, J7_ hk, hl]⟩
    · cases h
  | nest j ver es len =>
    obtain ⟨b, h1, h2, h3, h4, h5⟩ := hx
    simp only [renD0] at h
    split at h
    · rename_i cols fl i hg hi
      cases h
      obtain ⟨q1, q2, q3, q4, q5, q6⟩ := Bz_ hs hg h1 h4
      obtain ⟨_, hk⟩ := Dt_ hi
      simp only [Nat.sub_zero] at hk
      obtain ⟨b', r3, r4⟩ := hR i j hk
      rw [q1] at r3; cases r3
      exact ⟨⟨_, r4, Nat.zero_le _, by simp [renB, DBlk.clen, q2], fun _ => by simp [renB, DBlk.clen, q2], by omega⟩, by simp [DV.av, J7_ hk, q4]⟩
    · cases h
  | ncell j ver es len x c =>
    obtain ⟨b, h1, h2, h3, h4, h5, h6⟩ := hx
    simp only [renD0] at h
    split at h
    · rename_i cols fl i hg hi
      cases h
      obtain ⟨q1, q2, q3, q4, q5, q6⟩ := Bz_ hs hg h1 h4
      obtain ⟨_, hk⟩ := Dt_ hi
      simp only [Nat.sub_zero] at hk
      obtain ⟨b', r3, r4⟩ := hR i j hk
      rw [q1] at r3; cases r3
      exact ⟨⟨_, r4, Nat.zero_le _, by simp [renB, DBlk.clen, q2], fun _ => by simp [renB, DBlk.clen, q2], by omega, h6⟩, by simp [DV.av, J7_ hk, q4]⟩
    · cases h
  | inn j c k len =>
    simp only [renD0] at h
    split at h
    · rename_i inn idx i hn hi
      cases h
      obtain ⟨g1, g2, g3, g4⟩ := Cw_ hs hn hx
      obtain ⟨cols, fl, v, p1, p2⟩ := Ld_ hn
      obtain ⟨_, hk⟩ := Dt_ hi
      simp only [Nat.sub_zero] at hk
      obtain ⟨b', r3, r4⟩ := hR i j hk
      rw [p1] at r3; cases r3
      refine ⟨⟨by omega, .inr ⟨cols, fl, 0, inn, idx, r4, p2, g1, rfl⟩⟩, ?_⟩
      cases k with
      | zero => rfl
      | succ k => simp only [DV.av, C5_ hk, g2]
    · cases h
  | icell j c k x len =>
    obtain ⟨hx, hk1, hx2⟩ := hx
    simp only [renD0] at h
    split at h
    · rename_i inn idx i hn hi
      cases h
      obtain ⟨g1, g2, g3, g4⟩ := Cw_ hs hn hx
      obtain ⟨cols, fl, v, p1, p2⟩ := Ld_ hn
      obtain ⟨_, hk⟩ := Dt_ hi
      simp only [Nat.sub_zero] at hk
      obtain ⟨b', r3, r4⟩ := hR i j hk
      rw [p1] at r3; cases r3
      exact ⟨⟨⟨by omega, .inr ⟨cols, fl, 0, inn, idx, r4, p2, g1, rfl⟩⟩, hk1, by omega⟩, by simp only [DV.av, C5_ hk, g2]⟩
    · cases h
  | bslc s r =>
    simp only [renD0, Option.some.injEq] at h
    subst h
    exact ⟨hx, rfl⟩
  | hslc s n =>
    simp only [renD0, Option.some.injEq] at h
    subst h
    exact ⟨hx, rfl⟩
  | rns n cols =>
    simp only [renD0, Option.some.injEq] at h
    subst h
    exact ⟨fun K hK => RNs.congr (F := F) (F' := F.keep keep) rfl (hx K hK), rfl⟩
  | bptr p cs =>
    simp only [renD0] at h
    split at h
    · rename_i hr
      cases h
      exact Apr_ (.bptr p cs) (by simp only [DV.refs]; exact hr) hx
    · cases h
  | undef => simp only [renD0, Option.some.injEq] at h; subst h; exact ⟨trivial, rfl⟩
  | top => cases h
  | fn f cs => cases h
  | agg cs => cases h
  | tup cs => cases h
  | nsb => simp [renD0] at h
  | _ => exact fl rfl h
theorem Lm_ {f : DV → Option DV} (hf : ∀ x y, f x = some y → x.Ok F L → y.Ok (F.keep keep) L' ∧ y.av (F.keep keep) = x.av F) :
    ∀ {cs cs' : List DV}, renL f cs = some cs' → DVs.Ok F L cs → DVs.Ok (F.keep keep) L' cs' ∧ DVs.av (F.keep keep) cs' = DVs.av F cs
  | [], cs', h, _ => by simp only [renL, Option.some.injEq] at h; subst h; exact ⟨trivial, rfl⟩
  | c :: cs, cs', h, hok => by
    simp only [renL] at h
    split at h
    · rename_i c' cs'' hc hcs
      cases h
      obtain ⟨k1, k2⟩ := hf c c' hc hok.1
      obtain ⟨g1, g2⟩ := Lm_ hf hcs hok.2
      exact ⟨⟨k1, g1⟩, by simp [DVs.av, k2, g2]⟩
    · cases h
theorem Xv_ (hs : St F L H) (hR : RenK L L' keep) {x y : DV} (h : renE keep L x = some y) (hx : x.Ok F L) : y.Ok (F.keep keep) L' ∧ y.av (F.keep keep) = x.av F := by
  unfold renE at h
  split at h
  · split at h
    · rename_i cs cs' hcs
      cases h
      obtain ⟨k1, k2⟩ := Lm_ (fun x y => P7_ hs hR) hcs hx
      exact ⟨k1, by simp [DV.av, k2]⟩
    · cases h
  · split at h
    · rename_i f cs cs' hcs
      cases h
      obtain ⟨k1, k2⟩ := Lm_ (fun x y => P7_ hs hR) hcs hx
      exact ⟨k1, by simp [DV.av, k2]⟩
    · cases h
  · exact P7_ hs hR h hx
theorem Zb_ (hs : St F L H) (hR : RenK L L' keep) {x y : DV} (h : renF keep L x = some y) (hx : x.Ok F L) : y.Ok (F.keep keep) L' ∧ y.av (F.keep keep) = x.av F := by
  unfold renF at h
  split at h
  · split at h
    · rename_i cs cs' hcs
      cases h
      obtain ⟨k1, k2⟩ := Lm_ (fun x y => Xv_ hs hR) hcs hx
      exact ⟨k1, by simp [DV.av, k2]⟩
    · cases h
  · exact Xv_ hs hR h hx
theorem Fh_ (hs : St F L H) (hR : RenK L L' keep) {x : DV} (hx : x.Ok F L) : (renD1 keep L x).Ok (F.keep keep) L' ∧ ((renD1 keep L x).av (F.keep keep) = .top ∨ (renD1 keep L x).av (F.keep keep) = x.av F) := by
  unfold renD1
  split
  · rename_i y hy
    obtain ⟨k1, k2⟩ := Zb_ hs hR hy hx
    exact ⟨k1, .inr k2⟩
  · exact ⟨trivial, .inl rfl⟩
theorem Xt_ {x : DV} (h : x.flat = true) : renD1 keep L x = x := by
  cases x <;> first | rfl | (simp [DV.flat] at h)
theorem wk_id {n : Nat} {x y : AV} (h : x = .top ∨ x = y) (hy : y.within n = true) : Wk1 n id x y := by
  rcases h with h | h
  · exact .inl h
  · subst h; exact .inr ⟨(Kz_ (fun _ _ => rfl) x hy).symm, hy⟩
def WkBk (n : Nat) (B B0 : Blk) : Prop := B0.own = B.own ∧ B0.sz = B.sz ∧ B0.cells.length = B.cells.length ∧ (∀ (j : Nat) (c c' : AV), B.cells[j]? = some c → B0.cells[j]? = some c' → Wk1 n id c c') ∧ (B.flat = true → B0.flat = true ∧ B.cells = B0.cells)
theorem WkBk.refl {n : Nat} {B : Blk} (h : ∀ c ∈ B.cells, c.within n = true) : WkBk n B B :=
  ⟨rfl, rfl, rfl, fun j c c' h1 h2 => by rw [h1] at h2; cases h2; exact wk_id (.inr rfl) (h c (List.mem_of_getElem? h1)), fun h => ⟨h, rfl⟩⟩
theorem Aim_ (hs : St F L H) (hR : RenK L L' keep) {i j c k : Nat} {b : DBlk} {B : Blk} (hij : keep[i]? = some j) (hb : L[j]? = some b) (h : (renB keep L b).at' (F.keep keep) i c k = some B) :
    ∃ B0, b.at' F j c k = some B0 ∧ WkBk H.length B B0 := by
  have hall : ∀ B0, b.at' F j c k = some B0 → ∀ a ∈ B0.cells, a.within H.length = true := fun B0 h0 => R6_ hs.in hb (hs.ok j b hb) h0
  cases b with
  | row r v => exact ⟨B, h, WkBk.refl (hall B h)⟩
  | gone n v => cases h
  | gen cs fl v =>
    simp only [renB, DBlk.at'] at h
    split at h
    · rename_i hc
      cases h
      have h0 : (DBlk.gen cs fl v).at' F j c k = some ((DBlk.gen cs fl v).blk F j) := by simp only [DBlk.at']; rw [if_pos hc]
      refine ⟨_, h0, rfl, rfl, by simp [DBlk.blk], fun p a a' ha ha' => ?_, fun hfl => ?_⟩
      · simp only [DBlk.blk, DVs.av_eq, List.map_map, List.getElem?_map] at ha ha'
        cases hcs : cs[p]? with
        | none => rw [hcs] at ha; cases ha
        | some y =>
          rw [hcs] at ha ha'
          cases ha; cases ha'
          have hy := DVs.ok_iff.1 (hs.ok _ _ hb).1 y (List.mem_of_getElem? hcs)
          exact wk_id (Fh_ hs hR hy).2 (hs.in y hy)
      · have hfl : fl = true := hfl
        refine ⟨hfl, ?_⟩
        simp only [DBlk.blk, DVs.av_eq, List.map_map]
        refine List.map_congr_left fun y hy => ?_
        have hf := (hs.ok _ _ hb).2 hfl y hy
        simp only [Function.comp]
        rw [Xt_ hf]
        cases y <;> first | rfl | (simp [DV.flat] at hf)
    · cases h
  | nest cols fl v =>
    have hav : Ac_ (F.keep keep) i cols = Ac_ F j cols := by
      unfold Ac_
      refine List.map_congr_left fun p _ => ?_
      split
      · rename_i col _
        cases col with
        | pl r => simp only [Col.cell]; cases r <;> rfl
        | sl inn idx =>
          simp only [Col.cell]
          rw [Cp_, Cp_]
          cases nth idx (p / cols.length) with
          | zero => rfl
          | succ k => simp only [C5_ hij]
      · rfl
    have he : (DBlk.nest cols fl 0).at' (F.keep keep) i c k = (DBlk.nest cols fl v).at' F j c k := by
      cases c with
      | zero => simp only [DBlk.at', DBlk.blk, hav]
      | succ c => rfl
    have h : (DBlk.nest cols fl 0).at' (F.keep keep) i c k = some B := h
    rw [he] at h
    exact ⟨B, h, WkBk.refl (hall B h)⟩
theorem J6_ {kill : List Nat} {e e' : List DV} (h : norm m keep kill e L = some (e', L')) (hs : St F L H) (he : DVs.Ok F L e) :
    ∃ Hw, St (F.keep keep) L' Hw ∧ DVs.Ok (F.keep keep) L' e' ∧ WkH F.H0.length id Hw H ∧ (DVs.av (F.keep keep) e').length = (DVs.av F e).length ∧
      (∀ (i : Nat) (x y : AV), (DVs.av (F.keep keep) e')[i]? = some x → (DVs.av F e)[i]? = some y → Wk1 Hw.length id x y) ∧ Fwd m F (F.keep keep) L L' ∧ RenK L L' keep ∧ Hw.length = H.length := by
  unfold norm at h
  split at h
  case h_2 => cases h
  rename_i L'' hfr hnd hkb
  cases h
  obtain ⟨f1, f2⟩ := W2_ hfr
  have hnd := Ov_ hnd
  obtain ⟨b1, b2⟩ := Yr_ hkb
  have hR : RenK L L' keep := b2
  have back : ∀ i b, L'[i]? = some b → ∃ j b0, keep[i]? = some j ∧ L[j]? = some b0 ∧ b = renB keep L b0 := fun i b hb => by
    have hi : i < keep.length := by rw [← b1]; exact (List.getElem?_eq_some_iff.1 hb).1
    obtain ⟨b0, c1, c2⟩ := b2 i _ (List.getElem?_eq_getElem hi)
    rw [hb] at c2; cases c2
    exact ⟨_, b0, List.getElem?_eq_getElem hi, c1, rfl⟩
  have atb : ∀ i c k B, blkAt (F.keep keep) L' i c k = some B → ∃ j B0, keep[i]? = some j ∧ blkAt F L j c k = some B0 ∧ (F.keep keep).pl i c k = F.pl j c k ∧ WkBk H.length B B0 := fun i c k B hB => by
    unfold blkAt at hB
    split at hB
    · rename_i b hb
      obtain ⟨j, b0, c1, c2, rfl⟩ := back i b hb
      obtain ⟨B0, d1, d2⟩ := Aim_ hs hR c1 c2 hB
      exact ⟨j, B0, c1, by rw [Am_ c2]; exact d1, C5_ c1 c k, d2⟩
    · cases hB
  have inj : ∀ i c k B i' c' k' B', blkAt (F.keep keep) L' i c k = some B → blkAt (F.keep keep) L' i' c' k' = some B' → (F.keep keep).pl i c k = (F.keep keep).pl i' c' k' → i = i' ∧ c = c' ∧ k = k' := fun i c k B i' c' k' B' h h' e => by
    obtain ⟨j, B0, c1, c2, c3, _⟩ := atb i c k B h
    obtain ⟨j', B0', d1, d2, d3, _⟩ := atb i' c' k' B' h'
    rw [c3, d3] at e
    obtain ⟨rfl, rfl, rfl⟩ := hs.inj _ _ _ _ _ _ _ _ c2 d2 e
    exact ⟨(List.getElem?_inj (List.getElem?_eq_some_iff.1 c1).1 hnd).1 (c1.trans d1.symm), rfl, rfl⟩
  obtain ⟨g, hg⟩ : ∃ g : Nat → Blk, ∀ x, x < H.length → ∃ B0, H[x]? = some B0 ∧ WkBk H.length (g x) B0 ∧ (∀ i c k B, blkAt (F.keep keep) L' i c k = some B → (F.keep keep).pl i c k = x → g x = B) ∧ (x < F.H0.length → x ∉ F.ids → g x = B0) := by
    refine Classical.axiomOfChoice (r := fun x B => x < H.length → ∃ B0, H[x]? = some B0 ∧ WkBk H.length B B0 ∧ (∀ i c k B', blkAt (F.keep keep) L' i c k = some B' → (F.keep keep).pl i c k = x → B = B') ∧ (x < F.H0.length → x ∉ F.ids → B = B0)) fun x => ?_
    by_cases hx : x < H.length
    · by_cases hc : ∃ i c k B, blkAt (F.keep keep) L' i c k = some B ∧ (F.keep keep).pl i c k = x
      · obtain ⟨i, c, k, B, h1, h2⟩ := hc
        obtain ⟨j, B0, c1, c2, c3, c4⟩ := atb i c k B h1
        refine ⟨B, fun _ => ⟨B0, by rw [← h2, c3]; exact hs.blkp _ _ _ _ c2, c4, fun i' c' k' B' h1' h2' => ?_, fun hl hn => ?_⟩⟩
        · obtain ⟨rfl, rfl, rfl⟩ := inj _ _ _ _ _ _ _ _ h1 h1' (h2.trans h2'.symm)
          rw [h1] at h1'; cases h1'; rfl
        · exact (hs.out c2 hl hn (c3.symm.trans h2)).elim
      · by_cases hl : x < F.H0.length ∧ x ∉ F.ids
        · exact ⟨H[x], fun _ => ⟨H[x], List.getElem?_eq_getElem hx, WkBk.refl (hs.ws x _ (List.getElem?_eq_getElem hx)), fun i c k B' h1 h2 => (hc ⟨i, c, k, B', h1, h2⟩).elim, fun _ _ => rfl⟩⟩
        · refine ⟨⟨H[x].cells.map fun _ => .top, H[x].own, H[x].sz, false⟩, fun _ => ⟨H[x], List.getElem?_eq_getElem hx, ⟨rfl, rfl, by simp, fun p a a' ha _ => ?_, fun h => by cases h⟩, fun i c k B' h1 h2 => (hc ⟨i, c, k, B', h1, h2⟩).elim, fun h1 h2 => (hl ⟨h1, h2⟩).elim⟩⟩
          simp only [List.getElem?_map] at ha
          obtain ⟨_, _, rfl⟩ := Option.map_eq_some_iff.1 ha
          exact .inl rfl
    · exact ⟨⟨[], true, 1, true⟩, fun h => (hx h).elim⟩
  obtain ⟨Hw, hHw⟩ : ∃ Hw, Hw = (List.range H.length).map g := ⟨_, rfl⟩
  have hlen : Hw.length = H.length := by rw [hHw]; simp
  have hget : ∀ x, x < H.length → Hw[x]? = some (g x) := fun x hx => by rw [hHw]; simp [hx]
  have hbok : ∀ b j, L[j]? = some b → (renB keep L b).Ok (F.keep keep) L' := fun b j hb => by
    have := hs.ok j b hb
    cases b with
    | row r v => exact this
    | nest cols fl v => exact this
    | gone n v => trivial
    | gen cs fl v =>
      refine ⟨DVs.ok_iff.2 fun c hc => ?_, fun e c hc => ?_⟩
      · rw [List.mem_map] at hc
        obtain ⟨x, hx, rfl⟩ := hc
        exact (Fh_ hs hR (DVs.ok_iff.1 this.1 x hx)).1
      · rw [List.mem_map] at hc
        obtain ⟨x, hx, rfl⟩ := hc
        have := this.2 e x hx
        rw [Xt_ this]; exact this
  have hwk : WkH F.H0.length id Hw H := by
    refine ⟨fun i _ => rfl, by rw [hlen]; exact hs.ag.1, fun i j _ _ h => h, fun x B hB => ?_⟩
    have hx : x < H.length := by rw [← hlen]; exact (List.getElem?_eq_some_iff.1 hB).1
    rw [hget x hx] at hB; cases hB
    obtain ⟨B0, h1, ⟨w1, w2, w3, w4, w5⟩, _⟩ := hg x hx
    rw [hlen]
    exact ⟨B0, h1, w1, w2, w3, w4, w5⟩
  have hst : St (F.keep keep) L' Hw := by
    refine ⟨fun i c k B hB => ?_, inj, fun i c k B hB => ?_, fun i n v hi c k => ?_, ⟨by rw [hlen]; exact hs.ag.1, fun x hx hn => ?_⟩, fun i b hb => ?_, fun x B hB hx => ?_, fun x B hB a ha => ?_⟩
    · obtain ⟨j, B0, c1, c2, c3, _⟩ := atb i c k B hB
      have hx : (F.keep keep).pl i c k < H.length := by rw [c3]; exact (List.getElem?_eq_some_iff.1 (hs.blkp _ _ _ _ c2)).1
      obtain ⟨_, _, _, h3, _⟩ := hg _ hx
      rw [hget _ hx, h3 i c k B hB rfl]
    · obtain ⟨j, B0, c1, c2, c3, _⟩ := atb i c k B hB
      rw [c3]; exact hs.zone _ _ _ _ c2
    · obtain ⟨j, b0, c1, c2, c3⟩ := back i _ hi
      rw [C5_ c1, hlen]
      cases b0 <;> simp [renB] at c3
      exact hs.ltp j _ _ c2 c k
    · have hxl := Nat.lt_of_lt_of_le hx hs.ag.1
      obtain ⟨B0, h1, _, _, h4⟩ := hg x hxl
      rw [hget x hxl, h4 hx hn, ← h1]
      exact hs.ag.2 x hx hn
    · obtain ⟨j, b0, c1, c2, rfl⟩ := back i b hb
      exact hbok b0 j c2
    · have hxl : x < H.length := by rw [← hlen]; exact (List.getElem?_eq_some_iff.1 hB).1
      rw [hget x hxl] at hB; cases hB
      obtain ⟨B0, h1, ⟨w1, _⟩, _⟩ := hg x hxl
      rw [← w1]; exact hs.own x B0 h1 hx
    · have hxl : x < H.length := by rw [← hlen]; exact (List.getElem?_eq_some_iff.1 hB).1
      rw [hget x hxl] at hB; cases hB
      obtain ⟨B0, h1, ⟨_, _, w3, w4, _⟩, _⟩ := hg x hxl
      obtain ⟨p, hp⟩ := List.getElem?_of_mem ha
      have hp' : p < B0.cells.length := by rw [w3]; exact (List.getElem?_eq_some_iff.1 hp).1
      rw [hlen]
      rcases w4 p a _ hp (List.getElem?_eq_getElem hp') with h | ⟨_, h⟩
      · rw [h]; rfl
      · exact h
  refine ⟨Hw, hst, ?_, hwk, ?_, ?_, ?_, hR, hlen⟩
  · refine DVs.ok_iff.2 fun c hc => ?_
    obtain ⟨i, hi⟩ := List.getElem?_of_mem hc
    rcases (Kc_).2 i c hi with rfl | ⟨v, hv, rfl | rfl⟩
    · trivial
    · exact (Fh_ hs hR (DVs.ok_iff.1 he v (List.mem_of_getElem? hv))).1
    · exact Vr_ (Fh_ hs hR (DVs.ok_iff.1 he v (List.mem_of_getElem? hv))).1
  · simp [DVs.av_eq, (Kc_).1]
  · intro i x y hx hy
    rw [hlen]
    simp only [DVs.av_eq, List.getElem?_map] at hx hy
    cases hk : (killD kill e (renD1 keep L))[i]? with
    | none => rw [hk] at hx; cases hx
    | some c =>
      rw [hk] at hx
      cases hx
      cases hv : e[i]? with
      | none => rw [hv] at hy; cases hy
      | some v =>
        rw [hv] at hy
        cases hy
        have hvo : v.Ok F L := DVs.ok_iff.1 he v (List.mem_of_getElem? hv)
        rcases (Kc_).2 i c hk with rfl | ⟨v', hv', rfl | rfl⟩
        · exact .inl rfl
        · rw [hv] at hv'; cases hv'
          exact wk_id (Fh_ hs hR hvo).2 (hs.in v hvo)
        · rw [hv] at hv'; cases hv'
          show Wk1 H.length id ((unlit (renD1 keep L v)).av (F.keep keep)) (v.av F)
          rw [Y1_]
          exact wk_id (Fh_ hs hR hvo).2 (hs.in v hvo)
  · have kf : ∀ j, j < m → keep[j]? = some j := fun j hj => by have := f2 j hj; rwa [Nat.zero_add] at this
    refine ⟨⟨_, rfl⟩, fun j b hj hb => ⟨C5_ (kf j hj) 0 0, ?_⟩, fun j cols fl v c inn idx k hj _ _ _ => C5_ (kf j hj) _ _, fun j n v c k hj _ => C5_ (kf j hj) _ _⟩
    obtain ⟨b0, c1, c2⟩ := hR j j (kf j hj)
    rw [hb] at c1; cases c1
    refine ⟨_, c2, ?_⟩
    cases b with
    | row r v => exact .row _ _ _ _
    | gen cs fl v => exact .gen _ _ _ _ _ _
    | gone n v => exact .gone _ _ _
    | nest cols fl v => exact .nest _ _ _ _ _ _ rfl fun c inn idx h => ⟨inn, idx, h, Nat.le_refl _, fun _ _ => rfl⟩
end
end Go.Proofs.Ytmgpbchacndndaa.AM
