/- Forgetting and numbering anew is a step to a weaker state. -/
import Derived.Test.YthdmkdkbfhoahaaD10
set_option linter.unusedSimpArgs false
set_option linter.unusedVariables false
namespace Go.Proofs.Ythdmkdkbfhoahaa.AM

theorem idx_spec {j : Nat} : ∀ {ks : List Nat} {i0 i : Nat}, idx j ks i0 = some i → i0 ≤ i ∧ ks[i - i0]? = some j
  | [], _, _, h => by cases h
  | k :: ks, i0, i, h => by
    simp only [idx] at h
    split at h
    · rename_i hk
      cases h
      exact ⟨Nat.le_refl _, by simp [Nat.eq_of_beq_eq_true hk]⟩
    · obtain ⟨h1, h2⟩ := idx_spec h
      refine ⟨by omega, ?_⟩
      rw [show i - i0 = (i - (i0 + 1)) + 1 by omega]
      simpa using h2
theorem keepB_spec {keep : List Nat} {L : List DBlk} : ∀ {js : List Nat} {bs : List DBlk}, keepB keep L js = some bs → bs.length = js.length ∧ ∀ (i j : Nat), js[i]? = some j → ∃ b, L[j]? = some b ∧ bs[i]? = some (renB keep L b)
  | [], bs, h => by simp only [keepB, Option.some.injEq] at h; subst h; exact ⟨rfl, by simp⟩
  | j :: js, bs, h => by
    simp only [keepB] at h
    split at h
    · rename_i b bs' hb hbs
      cases h
      obtain ⟨h1, h2⟩ := keepB_spec hbs
      refine ⟨by simp [h1], fun i j' hj' => ?_⟩
      cases i with
      | zero => simp at hj'; subst hj'; exact ⟨b, hb, rfl⟩
      | succ i => exact h2 i j' (by simpa using hj')
    · cases h
theorem nodupB_spec : ∀ {l : List Nat}, nodupB l = true → l.Nodup
  | [], _ => List.nodup_nil
  | x :: l, h => by
    simp only [nodupB] at h
    split at h
    · cases h
    · rename_i hx
      refine List.nodup_cons.2 ⟨fun hm => ?_, nodupB_spec h⟩
      have := List.any_eq_false.1 hx x hm
      simp at this
theorem frontB_spec : ∀ {m i0 : Nat} {ks : List Nat}, frontB m i0 ks = true → m ≤ ks.length ∧ ∀ i, i < m → ks[i]? = some (i0 + i)
  | 0, _, _, _ => ⟨Nat.zero_le _, fun i h => by omega⟩
  | m + 1, i0, [], h => by cases h
  | m + 1, i0, k :: ks, h => by
    simp only [frontB] at h
    split at h
    · rename_i hk
      have hk := Nat.eq_of_beq_eq_true hk
      obtain ⟨h1, h2⟩ := frontB_spec h
      refine ⟨by simp; omega, fun i hi => ?_⟩
      cases i with
      | zero => simp [hk]
      | succ i =>
        have := h2 i (by omega)
        simp only [List.getElem?_cons_succ, this]
        congr 1; omega
    · cases h
theorem killD_spec {f : DV → DV} : ∀ {e : List DV} {kill : List Nat}, (killD kill e f).length = e.length ∧ ∀ (i : Nat) (y : DV), (killD kill e f)[i]? = some y → y = .top ∨ ∃ v, e[i]? = some v ∧ (y = f v ∨ y = unlit (f v))
  | [], kill => by simp [killD]
  | v :: e, [] => by
    obtain ⟨h1, h2⟩ := killD_spec (f := f) (e := e) (kill := [])
    refine ⟨by simp [killD, h1], fun i y hy => ?_⟩
    cases i with
    | zero => simp [killD] at hy; subst hy; exact .inr ⟨v, rfl, .inl rfl⟩
    | succ i => simp [killD] at hy; simpa using h2 i y hy
  | v :: e, k :: ks => by
    obtain ⟨h1, h2⟩ := killD_spec (f := f) (e := e) (kill := ks)
    refine ⟨by simp [killD, h1], fun i y hy => ?_⟩
    cases i with
    | zero =>
      simp only [killD, List.getElem?_cons_zero, Option.some.injEq] at hy
      subst hy
      split
      · exact .inr ⟨v, rfl, .inl rfl⟩
      · exact .inl rfl
      · exact .inr ⟨v, rfl, .inr rfl⟩
    | succ i => simp [killD] at hy; simpa using h2 i y hy
theorem unlit_av (F : Fr) (v : DV) : (unlit v).av F = v.av F := by cases v <;> rfl
theorem unlit_ok {F : Fr} {L : List DBlk} {v : DV} (h : v.Ok F L) : (unlit v).Ok F L := by cases v <;> first | exact h | trivial

theorem norefs_ok {F : Fr} {L L' : List DBlk} {cs : List DV} (h : DVs.refs cs = []) (hok : DVs.Ok F L cs) : DVs.Ok F L' cs := by
  have : (DV.agg cs).Ok F L' := DV.Ok.refs (.agg cs) (fun j hj => by simp only [DV.refs] at hj; rw [h] at hj; cases hj) (show (DV.agg cs).Ok F L from hok)
  exact this

section
variable {P : Program} {F : Fr} {L L' : List DBlk} {H : Heap} {m : Nat} {keep : List Nat} {σ : Nat → Nat} {n' : Nat}
/-- What the numbering must do. -/
structure Ren (F : Fr) (L L' : List DBlk) (keep : List Nat) (σ : Nat → Nat) (n' : Nat) : Prop where
  low : ∀ i, i < F.H0.length → σ i = i
  le : F.H0.length ≤ n'
  at' : ∀ (i j : Nat), keep[i]? = some j → σ (F.abs i) = F.abs j ∧ F.abs i < n' ∧ ∃ b, L[j]? = some b ∧ L'[i]? = some (renB keep L b)

theorem clen_ren (keep : List Nat) (L : List DBlk) (b : DBlk) : (renB keep L b).clen = b.clen := by cases b <;> simp [renB, DBlk.clen]
theorem ver_ren (keep : List Nat) (L : List DBlk) (b : DBlk) : (renB keep L b).ver = 0 := by cases b <;> rfl
theorem flat_wk {x : AV} (h : x.isFlat = true) : x = x.ren σ ∧ x.within n' = true := ⟨(flat_ren h).symm, flat_within h⟩
theorem agree_refl (F : Fr) : F.agree F.H0 := ⟨Nat.le_refl _, fun _ _ _ => rfl⟩

theorem renD0_ok (hR : Ren F L L' keep σ n') {x y : DV} (h : renD0 keep L x = some y) (hx : x.Ok F L) : y.Ok F L' ∧ x.av F = (y.av F).ren σ ∧ (y.av F).within n' = true := by
  have fl : x.flat = true → some x = some y → y.Ok F L' ∧ x.av F = (y.av F).ren σ ∧ (y.av F).within n' = true := fun hf he => by
    cases he
    have := flat_av F hf
    refine ⟨?_, flat_wk this⟩
    cases x <;> first | trivial | (simp [DV.flat] at hf)
  cases x with
  | own j ver len =>
    obtain ⟨b, h1, h2, h3, h4, h5⟩ := hx
    simp only [renD0] at h
    split at h
    · rename_i b' i hg hi
      cases h
      obtain ⟨g1, g2⟩ := good_spec hg
      rw [h1] at g1; cases g1
      obtain ⟨_, hk⟩ := idx_spec hi
      simp only [Nat.sub_zero] at hk
      obtain ⟨r1, r2, b', r3, r4⟩ := hR.at' i j hk
      rw [h1] at r3; cases r3
      have hl := h4 g2.symm
      refine ⟨⟨_, r4, Nat.zero_le _, by rw [clen_ren]; exact Nat.le_refl _, fun _ => by rw [clen_ren], by omega⟩, ?_, ?_⟩
      · simp [DV.av, AV.ren, r1, hl]
      · simp [DV.av, AV.within, r2]
    · cases h
  | ptr j off ver alen =>
    obtain ⟨b, h1, h2, h3, h4, h5⟩ := hx
    simp only [renD0] at h
    split at h
    · rename_i b' i hg hi
      cases h
      obtain ⟨g1, g2⟩ := good_spec hg
      rw [h1] at g1; cases g1
      obtain ⟨_, hk⟩ := idx_spec hi
      simp only [Nat.sub_zero] at hk
      obtain ⟨r1, r2, b', r3, r4⟩ := hR.at' i j hk
      rw [h1] at r3; cases r3
      have hl := h5 g2.symm
      refine ⟨⟨_, r4, Nat.zero_le _, by omega, by rw [clen_ren]; exact Nat.le_refl _, fun _ => by rw [clen_ren]⟩, ?_, ?_⟩
      · simp [DV.av, AV.ren, r1, hl]
      · simp [DV.av, AV.within, r2]
    · cases h
  | slc j off ver alen len =>
    obtain ⟨b, h1, h2, h3, h4, h5, h6⟩ := hx
    simp only [renD0] at h
    split at h
    · rename_i b' i hg hi
      cases h
      obtain ⟨g1, g2⟩ := good_spec hg
      rw [h1] at g1; cases g1
      obtain ⟨_, hk⟩ := idx_spec hi
      simp only [Nat.sub_zero] at hk
      obtain ⟨r1, r2, b', r3, r4⟩ := hR.at' i j hk
      rw [h1] at r3; cases r3
      have hl := h5 g2.symm
      refine ⟨⟨_, r4, Nat.zero_le _, by omega, by rw [clen_ren]; exact Nat.le_refl _, fun _ => by rw [clen_ren], h6⟩, ?_, ?_⟩
      · simp [DV.av, AV.ren, r1, hl]
      · simp [DV.av, AV.within, r2]
    · cases h
  | bslc s r =>
    simp only [renD0, Option.some.injEq] at h
    subst h
    refine ⟨hx, ?_⟩
    simp only [DV.av]
    rcases hx F.H0 (agree_refl F) with ⟨e, _⟩ | ⟨p, B, e, k1, _⟩
    · rw [e]; exact ⟨rfl, rfl⟩
    · rw [e]
      have hlt := (List.getElem?_eq_some_iff.1 k1).1
      have := hR.le
      exact ⟨by simp [AV.ren, hR.low _ hlt], by simp [AV.within]; omega⟩
  | hslc s n =>
    simp only [renD0, Option.some.injEq] at h
    subst h
    refine ⟨hx, ?_⟩
    simp only [DV.av]
    rcases hx F.H0 (agree_refl F) with ⟨e, _⟩ | ⟨p, B, e, k1, _⟩
    · rw [e]; exact ⟨rfl, rfl⟩
    · rw [e]
      have hlt := (List.getElem?_eq_some_iff.1 k1).1
      have := hR.le
      exact ⟨by simp [AV.ren, hR.low _ hlt], by simp [AV.within]; omega⟩
  | bptr p cs =>
    simp only [renD0] at h
    split at h
    · rename_i hr
      cases h
      refine ⟨⟨hx.1, norefs_ok hr hx.2⟩, ?_⟩
      obtain ⟨r, B, e, k1, _⟩ := hx.1 F.H0 (agree_refl F)
      simp only [DV.av]
      rw [e]
      have hlt := (List.getElem?_eq_some_iff.1 k1).1
      have := hR.le
      exact ⟨by simp [AV.ren, hR.low _ hlt], by simp [AV.within]; omega⟩
    · cases h
  | undef => simp only [renD0, Option.some.injEq] at h; subst h; exact ⟨trivial, rfl, rfl⟩
  | top => cases h
  | fn f cs => cases h
  | agg cs => cases h
  | tup cs => cases h
  | _ => exact fl rfl h

theorem renL_ok {f : DV → Option DV} (hf : ∀ x y, f x = some y → x.Ok F L → y.Ok F L' ∧ x.av F = (y.av F).ren σ ∧ (y.av F).within n' = true) :
    ∀ {cs cs' : List DV}, renL f cs = some cs' → DVs.Ok F L cs → DVs.Ok F L' cs' ∧ DVs.av F cs = AVs.ren σ (DVs.av F cs') ∧ AVs.within n' (DVs.av F cs') = true
  | [], cs', h, _ => by simp only [renL, Option.some.injEq] at h; subst h; exact ⟨trivial, rfl, rfl⟩
  | c :: cs, cs', h, hok => by
    simp only [renL] at h
    split at h
    · rename_i c' cs'' hc hcs
      cases h
      obtain ⟨k1, k2, k3⟩ := hf c c' hc hok.1
      obtain ⟨g1, g2, g3⟩ := renL_ok hf hcs hok.2
      exact ⟨⟨k1, g1⟩, by simp [DVs.av, AVs.ren, ← k2, ← g2], by simp [DVs.av, AVs.within, k3, g3]⟩
    · cases h
theorem renE_ok (hR : Ren F L L' keep σ n') {x y : DV} (h : renE keep L x = some y) (hx : x.Ok F L) : y.Ok F L' ∧ x.av F = (y.av F).ren σ ∧ (y.av F).within n' = true := by
  unfold renE at h
  split at h
  · split at h
    · rename_i cs cs' hcs
      cases h
      obtain ⟨k1, k2, k3⟩ := renL_ok (fun x y => renD0_ok hR) hcs hx
      exact ⟨k1, by simp [DV.av, AV.ren, k2], by simp [DV.av, AV.within, k3]⟩
    · cases h
  · split at h
    · rename_i f cs cs' hcs
      cases h
      obtain ⟨k1, k2, k3⟩ := renL_ok (fun x y => renD0_ok hR) hcs hx
      exact ⟨k1, by simp [DV.av, AV.ren, k2], by simp [DV.av, AV.within, k3]⟩
    · cases h
  · exact renD0_ok hR h hx
theorem renF_ok (hR : Ren F L L' keep σ n') {x y : DV} (h : renF keep L x = some y) (hx : x.Ok F L) : y.Ok F L' ∧ x.av F = (y.av F).ren σ ∧ (y.av F).within n' = true := by
  unfold renF at h
  split at h
  · split at h
    · rename_i cs cs' hcs
      cases h
      obtain ⟨k1, k2, k3⟩ := renL_ok (fun x y => renE_ok hR) hcs hx
      exact ⟨k1, by simp [DV.av, AV.ren, k2], by simp [DV.av, AV.within, k3]⟩
    · cases h
  · exact renE_ok hR h hx
theorem renD1_ok (hR : Ren F L L' keep σ n') {x : DV} (hx : x.Ok F L) : (renD1 keep L x).Ok F L' ∧ Wk1 n' σ ((renD1 keep L x).av F) (x.av F) := by
  unfold renD1
  split
  · rename_i y hy
    obtain ⟨k1, k2, k3⟩ := renF_ok hR hy hx
    exact ⟨k1, .inr ⟨k2, k3⟩⟩
  · exact ⟨trivial, .inl rfl⟩
theorem renD1_flat {x : DV} (h : x.flat = true) : renD1 keep L x = x := by
  cases x <;> first | rfl | (simp [DV.flat] at h)

theorem norm_ok {kill : List Nat} {e e' : List DV} (h : norm m keep kill e L = some (e', L')) (hids : F.ids.length = m) (hs : St F L H) (he : DVs.Ok F L e) :
    ∃ Hw σ, St F L' Hw ∧ DVs.Ok F L' e' ∧ WkH F.H0.length σ Hw H ∧ (DVs.av F e').length = (DVs.av F e).length ∧
      (∀ (i : Nat) (x y : AV), (DVs.av F e')[i]? = some x → (DVs.av F e)[i]? = some y → Wk1 Hw.length σ x y) ∧ Ren F L L' keep σ Hw.length := by
  unfold norm at h
  split at h
  case h_2 => cases h
  rename_i L'' hfr hnd hkb
  cases h
  obtain ⟨f1, f2⟩ := frontB_spec hfr
  have hnd := nodupB_spec hnd
  obtain ⟨b1, b2⟩ := keepB_spec hkb
  subst hids
  obtain ⟨σ, hσ⟩ : ∃ σ : Nat → Nat, σ = fun x => if x < F.H0.length then x else F.abs (keep.getD (F.ids.length + (x - F.H0.length)) 0) := ⟨_, rfl⟩
  obtain ⟨n', hn'⟩ : ∃ n', n' = F.H0.length + (keep.length - F.ids.length) := ⟨_, rfl⟩
  have habs : ∀ i, i < keep.length → F.abs i < n' := fun i hi => by
    rcases Nat.lt_or_ge i F.ids.length with h | h
    · have : F.abs i = F.ids[i] := by unfold Fr.abs; rw [List.getElem?_eq_getElem h]
      have := F.lt F.ids[i] (List.getElem_mem h)
      omega
    · rw [F.abs_ge h]; omega
  have hR : Ren F L L' keep σ n' := by
    refine ⟨fun i hi => by rw [hσ]; simp [hi], by omega, fun i j hij => ?_⟩
    have hi : i < keep.length := (List.getElem?_eq_some_iff.1 hij).1
    refine ⟨?_, habs i hi, b2 i j hij⟩
    rcases Nat.lt_or_ge i F.ids.length with h | h
    · have h0 := f2 i h
      rw [hij] at h0
      have h0 : j = i := by simpa using h0
      subst h0
      have : F.abs j = F.ids[j] := by unfold Fr.abs; rw [List.getElem?_eq_getElem h]
      have hlt := F.lt F.ids[j] (List.getElem_mem h)
      rw [hσ]; simp only; rw [if_pos (by omega)]
    · rw [hσ]; simp only
      rw [F.abs_ge h, if_neg (by omega)]
      congr 1
      rw [show F.ids.length + (F.H0.length + (i - F.ids.length) - F.H0.length) = i by omega, List.getD_eq_getElem?_getD, hij]; rfl
  obtain ⟨g, hg⟩ : ∃ g : Nat → Blk, g = fun x => match (List.range keep.length).find? (fun i => F.abs i == x) with | some i => (L'.getD i (.row (.f32 []) 0)).blk F | none => (H[x]?).getD ⟨[], true, 1, true⟩ := ⟨_, rfl⟩
  have g1 : ∀ i b, L'[i]? = some b → g (F.abs i) = b.blk F := fun i b hb => by
    have hi : i < keep.length := by rw [← b1]; exact (List.getElem?_eq_some_iff.1 hb).1
    rw [hg]; simp only
    have : (List.range keep.length).find? (fun k => F.abs k == F.abs i) = some i := by
      cases hf : (List.range keep.length).find? (fun k => F.abs k == F.abs i) with
      | none => have := List.find?_eq_none.1 hf i (by simpa using hi); simp at this
      | some k =>
        have := List.find?_some hf
        have : F.abs k = F.abs i := by simpa using this
        rw [F.abs_inj this]
    rw [this]
    simp [List.getD_eq_getElem?_getD, hb]
  have g2 : ∀ x, x < F.H0.length → x ∉ F.ids → g x = (F.H0[x]?).getD ⟨[], true, 1, true⟩ := fun x hx hn => by
    rw [hg]; simp only
    have : (List.range keep.length).find? (fun k => F.abs k == x) = none := List.find?_eq_none.2 fun k _ => by simpa using F.abs_out hx hn
    rw [this]
    simp only
    rw [hs.ag.2 x hx hn]
  obtain ⟨Hw, hHw⟩ : ∃ Hw, Hw = (List.range n').map g := ⟨_, rfl⟩
  have hlen : Hw.length = n' := by rw [hHw]; simp
  have hget : ∀ x, x < n' → Hw[x]? = some (g x) := fun x hx => by rw [hHw]; simp [hx]
  have hbok : ∀ b j, L[j]? = some b → (renB keep L b).Ok F L' := fun b j hb => by
    have := hs.ok j b hb
    cases b with
    | row r v => exact this
    | gen cs fl v =>
      refine ⟨DVs.ok_iff.2 fun c hc => ?_, fun e c hc => ?_⟩
      · rw [List.mem_map] at hc
        obtain ⟨x, hx, rfl⟩ := hc
        exact (renD1_ok hR (DVs.ok_iff.1 this.1 x hx)).1
      · rw [List.mem_map] at hc
        obtain ⟨x, hx, rfl⟩ := hc
        have := this.2 e x hx
        rw [renD1_flat this]; exact this
  have hst : St F L' Hw := by
    refine ⟨by rw [hlen, b1]; omega, by rw [b1]; exact f1, fun i b hb => ?_, ⟨by rw [hlen]; omega, fun x hx hn => ?_⟩, fun i b hb => ?_⟩
    · have hi : i < keep.length := by rw [← b1]; exact (List.getElem?_eq_some_iff.1 hb).1
      rw [hget _ (habs i hi), g1 i b hb]
    · rw [hget x (by omega), g2 x hx hn, List.getElem?_eq_getElem hx]; rfl
    · have hi : i < keep.length := by rw [← b1]; exact (List.getElem?_eq_some_iff.1 hb).1
      obtain ⟨b0, c1, c2⟩ := b2 i _ (List.getElem?_eq_getElem hi)
      rw [hb] at c2; cases c2
      exact hbok b0 _ c1
  refine ⟨Hw, σ, hst, ?_, ?_, ?_, ?_, hlen ▸ hR⟩
  · refine DVs.ok_iff.2 fun c hc => ?_
    obtain ⟨i, hi⟩ := List.getElem?_of_mem hc
    rcases (killD_spec).2 i c hi with rfl | ⟨v, hv, rfl | rfl⟩
    · trivial
    · exact (renD1_ok hR (DVs.ok_iff.1 he v (List.mem_of_getElem? hv))).1
    · exact unlit_ok (renD1_ok hR (DVs.ok_iff.1 he v (List.mem_of_getElem? hv))).1
  · refine ⟨fun i hi => hR.low i hi, by rw [hlen]; omega, fun i j hi hj hij => ?_, fun x B hB => ?_⟩
    · rw [hlen] at hi hj
      have key : ∀ a, F.H0.length ≤ a → a < n' → ∃ k, keep[F.ids.length + (a - F.H0.length)]? = some k ∧ σ a = F.abs k ∧ F.H0.length ≤ F.abs k := fun a h1 h2 => by
        have hk : F.ids.length + (a - F.H0.length) < keep.length := by omega
        refine ⟨_, List.getElem?_eq_getElem hk, ?_, ?_⟩
        · rw [hσ]; simp only; rw [if_neg (by omega), List.getD_eq_getElem?_getD, List.getElem?_eq_getElem hk]; rfl
        · have hge : F.ids.length ≤ keep[F.ids.length + (a - F.H0.length)] := by
            rcases Nat.lt_or_ge keep[F.ids.length + (a - F.H0.length)] F.ids.length with h | h
            · exfalso
              have h0 := f2 _ h
              rw [Nat.zero_add] at h0
              have := (List.getElem?_inj hk hnd).1 ((List.getElem?_eq_getElem hk).trans h0.symm)
              omega
            · exact h
          rw [F.abs_ge hge]; omega
      rcases Nat.lt_or_ge i F.H0.length with h1 | h1
      · rw [hR.low i h1] at hij
        rcases Nat.lt_or_ge j F.H0.length with h2 | h2
        · rw [hR.low j h2] at hij; exact hij
        · obtain ⟨k, _, e2, e3⟩ := key j h2 hj
          omega
      · obtain ⟨k, e1, e2, e3⟩ := key i h1 hi
        rcases Nat.lt_or_ge j F.H0.length with h2 | h2
        · rw [hR.low j h2] at hij; omega
        · obtain ⟨k', e4, e5, e6⟩ := key j h2 hj
          have : k = k' := F.abs_inj (by rw [← e2, ← e5, hij])
          subst this
          have := (List.getElem?_inj (List.getElem?_eq_some_iff.1 e1).1 hnd).1 (e1.trans e4.symm)
          omega
    · have hx : x < n' := by rw [← hlen]; exact (List.getElem?_eq_some_iff.1 hB).1
      rw [hget x hx] at hB
      cases hB
      rw [hlen]
      by_cases hcase : ∃ i, i < keep.length ∧ F.abs i = x
      · obtain ⟨i, hi, rfl⟩ := hcase
        obtain ⟨b, c1, c2⟩ := b2 i _ (List.getElem?_eq_getElem hi)
        obtain ⟨r1, _⟩ := hR.at' i _ (List.getElem?_eq_getElem hi)
        rw [g1 i _ c2, r1]
        refine ⟨b.blk F, hs.blk _ b c1, by rw [DBlk.blk_own, DBlk.blk_own], by rw [DBlk.blk_sz, DBlk.blk_sz], by rw [DBlk.blk_len, DBlk.blk_len, clen_ren], ?_, ?_⟩
        · cases b with
          | row r v =>
            intro k c c' hc hc'
            simp only [renB, DBlk.blk] at hc hc'
            rw [hc] at hc'; cases hc'
            exact .inr (flat_wk (r.cells_flat c (List.mem_of_getElem? hc)))
          | gen cs fl v =>
            intro k c c' hc hc'
            simp only [renB, DBlk.blk, DVs.av_eq, List.map_map, List.getElem?_map] at hc hc'
            cases hcs : cs[k]? with
            | none => rw [hcs] at hc; cases hc
            | some y =>
              rw [hcs] at hc hc'
              cases hc; cases hc'
              exact (renD1_ok hR (DVs.ok_iff.1 (hs.ok _ _ c1).1 y (List.mem_of_getElem? hcs))).2
        · cases b with
          | row r v => intro _; exact ⟨rfl, rfl⟩
          | gen cs fl v =>
            intro hfl
            have hfl : fl = true := hfl
            refine ⟨hfl, ?_⟩
            simp only [renB, DBlk.blk, DVs.av_eq, List.map_map]
            refine List.map_congr_left fun y hy => ?_
            simp only [Function.comp]
            rw [renD1_flat ((hs.ok _ _ c1).2 hfl y hy)]
      · have hxl : x < F.H0.length := by
          rcases Nat.lt_or_ge x F.H0.length with h | h
          · exact h
          · exact absurd ⟨F.ids.length + (x - F.H0.length), by omega, by rw [F.abs_ge (by omega)]; omega⟩ hcase
        have hxn : x ∉ F.ids := fun hm => by
          obtain ⟨i, hi⟩ := List.getElem?_of_mem hm
          have hil : i < F.ids.length := (List.getElem?_eq_some_iff.1 hi).1
          exact hcase ⟨i, by omega, by unfold Fr.abs; rw [hi]⟩
        rw [g2 x hxl hxn, hR.low x hxl, List.getElem?_eq_getElem hxl]
        refine ⟨F.H0[x], by rw [hs.ag.2 x hxl hxn, List.getElem?_eq_getElem hxl], rfl, rfl, rfl, fun k c c' hc hc' => ?_, fun hf => ⟨hf, rfl⟩⟩
        simp only [Option.getD_some] at hc
        rw [hc] at hc'; cases hc'
        have hin := F.ws x _ (List.getElem?_eq_getElem hxl) c (List.mem_of_getElem? hc)
        exact .inr ⟨(ren_id_of hR.low c hin).symm, within_mono hR.le c hin⟩
  · simp [DVs.av_eq, (killD_spec).1]
  · intro i x y hx hy
    rw [hlen]
    simp only [DVs.av_eq, List.getElem?_map] at hx hy
    cases hk : (killD kill e (renD1 keep L))[i]? with
    | none => rw [hk] at hx; cases hx
    | some c =>
      rw [hk] at hx
      cases hx
      cases hv : e[i]? with
      | none => rw [hv] at hy; cases hy
      | some v =>
        rw [hv] at hy
        cases hy
        rcases (killD_spec).2 i c hk with rfl | ⟨v', hv', rfl | rfl⟩
        · exact .inl rfl
        · rw [hv] at hv'; cases hv'
          exact (renD1_ok hR (DVs.ok_iff.1 he v (List.mem_of_getElem? hv))).2
        · rw [hv] at hv'; cases hv'
          show Wk1 n' σ ((unlit (renD1 keep L v)).av F) (v.av F)
          rw [unlit_av]
          exact (renD1_ok hR (DVs.ok_iff.1 he v (List.mem_of_getElem? hv))).2
end
end Go.Proofs.Ythdmkdkbfhoahaa.AM
