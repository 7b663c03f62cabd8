import Derived.Test.YtmgpbchacndndaaD15
set_option linter.unusedSimpArgs false
set_option linter.unusedVariables false
namespace Go.Proofs.Ytmgpbchacndndaa.AM
def verAt (L : List DBlk) (j : Nat) : Nat := match L[j]? with | some b => b.ver | none => 0
def Bi_ : List DBlk → List (Nat × Row) → List DBlk
  | L, [] => L
  | L, (j, r) :: l => Bi_ (L.set j (.row r (verAt L j))) l
theorem X7_ : ∀ (l : List (Nat × Row)) (L : List DBlk), (Bi_ L l).length = L.length
  | [], L => rfl
  | (j, r) :: l, L => by simp only [Bi_]; rw [X7_ l]; simp
theorem Ti_ : ∀ (l : List (Nat × Row)) (L : List DBlk) (i : Nat), i ∉ l.map (·.1) → (Bi_ L l)[i]? = L[i]?
  | [], L, i, _ => rfl
  | (j, r) :: l, L, i, h => by
    simp only [List.map_cons, List.mem_cons, not_or] at h
    simp only [Bi_]
    rw [Ti_ l _ i h.2, List.getElem?_set, if_neg (fun e => h.1 e.symm)]
theorem U8_ : ∀ (l : List (Nat × Row)) (L : List DBlk) (j : Nat) (r : Row) (b : DBlk), (l.map (·.1)).Nodup → (j, r) ∈ l → L[j]? = some b → (Bi_ L l)[j]? = some (.row r b.ver)
  | (j', r') :: l, L, j, r, b, hnd, hm, hb => by
    simp only [List.map_cons, List.nodup_cons] at hnd
    simp only [Bi_]
    rcases List.mem_cons.1 hm with h | h
    · obtain ⟨rfl, rfl⟩ := Prod.mk.inj h
      rw [Ti_ l _ _ hnd.1, List.getElem?_set, if_pos rfl, if_pos (List.getElem?_eq_some_iff.1 hb).1]
      simp [verAt, hb]
    · have hne : j' ≠ j := fun e => hnd.1 (e ▸ List.mem_map.2 ⟨_, h, rfl⟩)
      exact U8_ l _ j r b hnd.2 h (by rw [List.getElem?_set, if_neg hne]; exact hb)
section
variable {P : Program} {F : Fr} {L : List DBlk} {H : Heap}
theorem Anq_ {K : Heap} (hag : F.agree K) {v : DV} {r : Row} (hblk : ∀ j ∈ v.refs, ∀ c k B, blkAt F L j c k = some B → K[F.pl j c k]? = some B) (hv : v.Ok F L) (h : rowOf L v = some r) : Reads K (v.av F) r := by
  cases v with
  | own j ver len =>
    obtain ⟨b, h1, h2, h3, h4, h5⟩ := hv
    simp only [rowOf] at h
    split at h
    · rename_i r' v' hg
      cases h
      obtain ⟨g1, g2⟩ := Al_ hg
      rw [h1] at g1; cases g1
      have hl : len = r.len := h4 g2.symm
      subst hl
      have hb : K[F.abs j]? = some ⟨r.cells, true, 1, true⟩ := hblk j (by simp [DV.refs]) 0 0 _ (by rw [Am_ h1]; rfl)
      refine .inr ⟨_, _, rfl, hb, ?_, rfl, ?_, ?_, h5⟩
      · exact r.cells_len.symm
      · simp [r.cells_len]
      · simp only [List.drop_zero]; rw [← r.cells_len, List.take_length]
    · cases h
  | slc j off ver alen len =>
    obtain ⟨b, h1, h2, h3, h4, h5, h6⟩ := hv
    simp only [rowOf] at h
    split at h
    · rename_i r' v' hg
      cases h
      obtain ⟨g1, g2⟩ := Al_ hg
      rw [h1] at g1; cases g1
      have hl : alen = r'.len := h5 g2.symm
      subst hl
      have hsl : (r'.sub off (off + len : Nat)).len = len := by
        rw [r'.sub_len _ _ (Bb_.2 ⟨by omega, by omega, by omega⟩)]; omega
      have hb : K[F.abs j]? = some ⟨r'.cells, true, 1, true⟩ := hblk j (by simp [DV.refs]) 0 0 _ (by rw [Am_ h1]; rfl)
      refine .inr ⟨⟨F.abs j, off, r'.len⟩, _, by rw [hsl]; rfl, hb, ?_, rfl, ?_, ?_, by rw [hsl]; exact h6⟩
      · exact r'.cells_len.symm
      · rw [hsl]; show off + len ≤ r'.cells.length; rw [r'.cells_len]; omega
      · rw [hsl, r'.sub_cells]
        simp only [AM.sub, Int.toNat_natCast, List.drop_take]
        congr 1; omega
    · cases h
  | bslc s r' =>
    simp only [rowOf] at h
    cases h
    exact hv K hag
  | inn j c k len =>
    simp only [rowOf] at h
    split at h
    · rename_i inn idx hi
      cases h
      obtain ⟨cols, fl, v, p1, p2⟩ := Ld_ hi
      rcases hv.2 with ⟨n, v', g1⟩ | ⟨cols', fl', v', inn', idx', g1, g2, g3, g4⟩
      · rw [p1] at g1; cases g1
      · rw [p1] at g1; cases g1
        rw [p2] at g2; cases g2
        subst g4
        cases k with
        | zero => exact .inl ⟨rfl, inn.get0⟩
        | succ m =>
          have hb := hblk j (by simp [DV.refs]) (c + 1) m _ (by rw [Am_ p1]; exact Ci_ p2 (by omega))
          refine .inr ⟨_, _, rfl, hb, by simp only [Row.cells_len], rfl, ?_, ?_, hv.1⟩
          · simp [Row.cells_len]
          · simp only [List.drop_zero]; rw [← Row.cells_len, List.take_length]
    · cases h
  | _ => simp [rowOf] at h
def Sees (F F' : Fr) (L : List DBlk) (js : List Nat) : Prop := ∀ K, F'.agree K → F.agree K ∧ ∀ j c k B, blkAt F L j c k = some B → j ∉ js → K[F.pl j c k]? = some B
theorem bslcM {F' : Fr} {L' : List DBlk} {js : List Nat} (hS : Sees F F' L js) {v : DV} {r : Row} {s : BR} (hs : s.av F'.ρ = v.av F) (hj : ∀ j ∈ v.refs, j ∉ js) (hv : v.Ok F L) (h : (v = .nilslc ∧ r.len = 0) ∨ rowOf L v = some r) : (DV.bslc s r).Ok F' L' := by
  intro K hK
  obtain ⟨k1, k2⟩ := hS K hK
  rw [hs]
  rcases h with ⟨rfl, h0⟩ | h
  · exact .inl ⟨rfl, h0⟩
  · exact Anq_ k1 (fun j hjm c k B hB => k2 j c k B hB (hj j hjm)) hv h
theorem Oh_ {v : DV} {xs : List Int} (h : rowU8 L v = some xs) : (v = .nilslc ∧ (Row.u8 xs).len = 0) ∨ rowOf L v = some (.u8 xs) := by
  unfold rowU8 at h
  split at h
  · cases h; exact .inl ⟨rfl, rfl⟩
  · split at h
    · rename_i hr; cases h; exact .inr hr
    · cases h
def ownR (L : List DBlk) : DV → Option (Nat × Row)
  | .own j ver _ => (match good L j ver with | some (.row r _) => some (j, r) | _ => none)
  | _ => none
def Kn_ (L : List DBlk) (v : DV) : Option (Nat × List Int) := match ownR L v with | some (j, .i64 xs) => some (j, xs) | _ => none
theorem D0_ {v : DV} {j : Nat} {xs : List Int} (h : Kn_ L v = some (j, xs)) : ownR L v = some (j, .i64 xs) := by
  unfold Kn_ at h; split at h <;> cases h; assumption
theorem Dr_ {v : DV} {j : Nat} {r : Row} (hv : v.Ok F L) (h : ownR L v = some (j, r)) : (∃ ver, L[j]? = some (.row r ver)) ∧ j ∈ v.refs ∧ v.av F = .slc ⟨F.abs j, 0, r.len⟩ r.len ∧ r.len ≤ maxN := by
  unfold ownR at h
  split at h
  · rename_i j' ver len
    obtain ⟨b, h1, h2, h3, h4, h5⟩ := hv
    split at h
    · rename_i r' v' hg
      cases h
      obtain ⟨g1, g2⟩ := Al_ hg
      rw [h1] at g1; cases g1
      have hl : len = r.len := h4 g2.symm
      subst hl
      exact ⟨⟨_, h1⟩, by simp [DV.refs], rfl, h5⟩
    · cases h
  · cases h
def sepB (js : List Nat) (vs : List DV) : Bool := K2_ js && (DVs.refs vs).all fun r => !js.any (Nat.beq r)
theorem F0_ {js : List Nat} {vs : List DV} (h : sepB js vs = true) : js.Nodup ∧ ∀ v ∈ vs, ∀ j ∈ v.refs, j ∉ js := by
  simp only [sepB, Bool.and_eq_true] at h
  refine ⟨Ov_ h.1, fun v hv j hj hm => ?_⟩
  have := List.all_eq_true.1 h.2 j (DVs.refs_mem.2 ⟨v, hv, hj⟩)
  simp only [Bool.not_eq_true', List.any_eq_false] at this
  exact this j hm (by simp)
def idsOf (F : Fr) (L : List DBlk) (js : List Nat) : List Nat :=
  js.flatMap fun j => F.pl j 0 0 :: (match L[j]? with
    | some (.nest cols _ _) => (List.range cols.length).flatMap fun c => match cols[c]? with | some (Col.sl inn _) => (List.range inn.n).map (F.pl j (c + 1)) | _ => []
    | _ => [])
theorem Afh_ {js : List Nat} {j c k : Nat} {B : Blk} (hj : j ∈ js) (hB : blkAt F L j c k = some B) : F.pl j c k ∈ idsOf F L js := by
  refine List.mem_flatMap.2 ⟨j, hj, ?_⟩
  unfold blkAt at hB
  split at hB
  · rename_i b hb
    rcases E4_ hB with ⟨rfl, rfl, _⟩ | ⟨cols, fl, v, c', inn, idx, rfl, rfl, h2, h3, _⟩
    · exact List.mem_cons_self
    · refine List.mem_cons_of_mem _ ?_
      rw [hb]
      refine List.mem_flatMap.2 ⟨c', List.mem_range.2 (List.getElem?_eq_some_iff.1 h2).1, ?_⟩
      rw [h2]
      exact List.mem_map.2 ⟨k, List.mem_range.2 h3, rfl⟩
  · cases hB
inductive SameB : DBlk → DBlk → Prop where
  | row (r : Row) (v v' : Nat) : SameB (.row r v) (.row r v')
  | gen (cs cs' : List DV) (fl fl' : Bool) (v v' : Nat) : SameB (.gen cs fl v) (.gen cs' fl' v')
  | nest (cols : List Col) (fl : Bool) (v v' : Nat) : SameB (.nest cols fl v) (.nest cols fl v')
theorem SameB.next {b b' : DBlk} (h : SameB b b') : NExt b b' := by
  cases h with
  | row => exact .row _ _ _ _
  | gen => exact .gen _ _ _ _ _ _
  | nest => exact .nest _ _ _ _ _ _ rfl fun c inn idx h => ⟨inn, idx, h, Nat.le_refl _, fun _ _ => rfl⟩
theorem SameB.live {b b' : DBlk} (h : SameB b b') : (∀ n v, b ≠ .gone n v) ∧ ∀ n v, b' ≠ .gone n v := by cases h <;> simp
theorem SameB.at_eq {C : Fr} {b b' : DBlk} {i j : Nat} (h : SameB b b') (hp : ∀ c k, C.pl i c k = F.pl j c k) (hb : b'.blk C i = b.blk F j) (c k : Nat) : b'.at' C i c k = b.at' F j c k := by
  cases h with
  | row r v v' => rfl
  | gen cs cs' fl fl' v v' => simp only [DBlk.at', hb]
  | nest cols fl v v' => exact Tf_ hp cols fl v v' c k
def ix (js : List Nat) (n i : Nat) : Nat := match js[i]? with | some j => j | none => n + (i - js.length)
structure Callee (F C : Fr) (L : List DBlk) (H : Heap) (js : List Nat) : Prop where
  h0 : C.H0 = H
  ids : C.ids = idsOf F L js
  pl : ∀ i j, js[i]? = some j → ∀ c k, C.pl i c k = F.pl j c k
  lt : ∀ j ∈ js, ∃ b, L[j]? = some b ∧ ∀ n v, b ≠ .gone n v
theorem X1_ (hs : St F L H) (ρ : Nat → AV) {js : List Nat} (hjs : ∀ j ∈ js, ∃ b, L[j]? = some b ∧ ∀ n v, b ≠ .gone n v) : ∃ C : Fr, Callee F C L H js ∧ C.ρ = ρ := by
  refine ⟨⟨H, idsOf F L js, fun i hi => ?_, hs.ws, ρ, fun i c k => F.pl (js.getD i 0) c k⟩, ⟨rfl, rfl, fun i j hij c k => ?_, hjs⟩, rfl⟩
  · unfold idsOf at hi
    obtain ⟨j, hj, hi⟩ := List.mem_flatMap.1 hi
    obtain ⟨b, hb, hn⟩ := hjs j hj
    rcases List.mem_cons.1 hi with rfl | hi
    · exact (List.getElem?_eq_some_iff.1 (hs.blk hb hn)).1
    · rw [hb] at hi
      cases b with
      | nest cols fl v =>
        obtain ⟨c, hc, hi⟩ := List.mem_flatMap.1 hi
        split at hi
        · rename_i inn idx hcc
          obtain ⟨k, hk, rfl⟩ := List.mem_map.1 hi
          exact (List.getElem?_eq_some_iff.1 (hs.inn hb hcc (List.mem_range.1 hk))).1
        · cases hi
      | _ => cases hi
  · show F.pl (js.getD i 0) c k = _
    rw [List.getD_eq_getElem?_getD, hij]; rfl
theorem K1_ {js : List Nat} (hjs : ∀ j ∈ js, ∃ b, L[j]? = some b ∧ ∀ n v, b ≠ .gone n v) {i : Nat} (hi : i ∈ idsOf F L js) : ∃ j c k B, j ∈ js ∧ blkAt F L j c k = some B ∧ F.pl j c k = i := by
  unfold idsOf at hi
  obtain ⟨j, hj, hi⟩ := List.mem_flatMap.1 hi
  obtain ⟨b, hb, hn⟩ := hjs j hj
  rcases List.mem_cons.1 hi with rfl | hi
  · exact ⟨j, 0, 0, _, hj, by rw [Am_ hb]; exact Lb_ hn, rfl⟩
  · rw [hb] at hi
    cases b with
    | nest cols fl v =>
      obtain ⟨c, hc, hi⟩ := List.mem_flatMap.1 hi
      split at hi
      · rename_i inn idx hcc
        obtain ⟨k, hk, rfl⟩ := List.mem_map.1 hi
        exact ⟨j, c + 1, k, _, hj, by rw [Am_ hb]; exact Ci_ hcc (List.mem_range.1 hk), rfl⟩
      · cases hi
    | _ => cases hi
section
variable {C C' : Fr} {js : List Nat} {L0 L1 LL : List DBlk} {H' : Heap}
theorem Callee.low (hc : Callee F C L H js) {K : Heap} (hK : C.agree K) : H.length ≤ K.length ∧ ∀ i, i < H.length → i ∉ idsOf F L js → K[i]? = H[i]? := by
  obtain ⟨h1, h2⟩ := hK
  rw [hc.h0] at h1 h2
  rw [hc.ids] at h2
  exact ⟨h1, h2⟩
theorem Callee.sees (hs : St F L H) (hc : Callee F C L H js) : Sees F C L js := fun K hK => by
  obtain ⟨h1, h2⟩ := hc.low hK
  refine ⟨⟨Nat.le_trans hs.ag.1 h1, fun i hi hn => ?_⟩, fun j c k B hB hj => ?_⟩
  · rw [h2 i (Nat.lt_of_lt_of_le hi hs.ag.1) fun hm => ?_]
    · exact hs.ag.2 i hi hn
    · obtain ⟨j, c, k, B, _, hB, rfl⟩ := K1_ hc.lt hm
      exact hs.out hB hi hn rfl
  · have := hs.blkp _ _ _ _ hB
    rw [h2 _ (List.getElem?_eq_some_iff.1 this).1 fun hm => ?_]
    · exact this
    · obtain ⟨j', c', k', B', hj', hB', e⟩ := K1_ hc.lt hm
      obtain ⟨rfl, _⟩ := hs.inj _ _ _ _ _ _ _ _ hB' hB e
      exact hj hj'
theorem Callee.st (hs : St F L H) (hc : Callee F C L H js) (hnd : js.Nodup) (hl : L0.length = js.length) (h : ∀ (i j : Nat) (b' : DBlk), js[i]? = some j → L0[i]? = some b' → ∃ b, L[j]? = some b ∧ SameB b b' ∧ b'.blk C i = b.blk F j ∧ b'.Ok C L0) : St C L0 C.H0 := by
  have get : ∀ i b', L0[i]? = some b' → ∃ j b, js[i]? = some j ∧ L[j]? = some b ∧ SameB b b' ∧ b'.blk C i = b.blk F j ∧ b'.Ok C L0 := fun i b' hb => by
    have hi : i < js.length := by rw [← hl]; exact (List.getElem?_eq_some_iff.1 hb).1
    obtain ⟨b, h1, h2⟩ := h i _ b' (List.getElem?_eq_getElem hi) hb
    exact ⟨_, b, List.getElem?_eq_getElem hi, h1, h2⟩
  have atc : ∀ i c k B, blkAt C L0 i c k = some B → ∃ j, js[i]? = some j ∧ blkAt F L j c k = some B ∧ C.pl i c k = F.pl j c k := fun i c k B hB => by
    unfold blkAt at hB
    split at hB
    · rename_i b' hb'
      obtain ⟨j, b, h1, h2, h3, h4, h5⟩ := get i b' hb'
      rw [h3.at_eq (hc.pl i j h1) h4] at hB
      exact ⟨j, h1, by rw [Am_ h2]; exact hB, hc.pl i j h1 c k⟩
    · cases hB
  rw [hc.h0]
  refine ⟨fun i c k B hB => ?_, fun i c k B i' c' k' B' hB hB' e => ?_, fun i c k B hB => ?_, fun i n v hi => ?_, ?_, fun i b hb => ?_, fun i B hB hi => ?_, hs.ws⟩
  · obtain ⟨j, h1, h2, h3⟩ := atc i c k B hB
    rw [h3]; exact hs.blkp _ _ _ _ h2
  · obtain ⟨j, h1, h2, h3⟩ := atc i c k B hB
    obtain ⟨j', g1, g2, g3⟩ := atc i' c' k' B' hB'
    rw [h3, g3] at e
    obtain ⟨rfl, rfl, rfl⟩ := hs.inj _ _ _ _ _ _ _ _ h2 g2 e
    exact ⟨(List.getElem?_inj (List.getElem?_eq_some_iff.1 h1).1 hnd).1 (h1.trans g1.symm), rfl, rfl⟩
  · obtain ⟨j, h1, h2, h3⟩ := atc i c k B hB
    rw [h3, hc.ids]; exact .inl (Afh_ (List.mem_of_getElem? h1) h2)
  · obtain ⟨j, b, h1, h2, h3, _⟩ := get i _ hi
    exact (h3.live.2 n v rfl).elim
  · have := Y0_ C; rwa [hc.h0] at this
  · obtain ⟨j, b, _, _, _, _, h5⟩ := get i b hb
    exact h5
  · rcases hi with hi | hi
    · rw [hc.ids] at hi
      obtain ⟨j, c, k, B', _, hB', rfl⟩ := K1_ hc.lt hi
      have := hs.blkp _ _ _ _ hB'
      rw [hB] at this; cases this
      unfold blkAt at hB'
      split at hB'
      · exact Vy_ hB'
      · cases hB'
    · rw [hc.h0, ← Nat.not_lt] at hi
      exact (hi (List.getElem?_eq_some_iff.1 hB).1).elim
def Fr.mutj (F : Fr) (js : List Nat) (n : Nat) (C : Fr) : Fr := F.wa fun j c k => match idx j js 0 with | some i => C.pl i c k | none => if j < n then F.pl j c k else C.pl (js.length + (j - n)) c k
theorem Xh_ {j : Nat} : ∀ {ks : List Nat} {i i0 : Nat}, ks.Nodup → ks[i]? = some j → idx j ks i0 = some (i0 + i)
  | [], i, _, _, h => by simp at h
  | k :: ks, 0, i0, hnd, h => by simp at h; subst h; simp [idx]
  | k :: ks, i + 1, i0, hnd, h => by
    have h' : ks[i]? = some j := by simpa using h
    have hne : k ≠ j := fun e => (List.nodup_cons.1 hnd).1 (e ▸ List.mem_of_getElem? h')
    simp only [idx]
    rw [(show Nat.beq k j = false by cases hb : Nat.beq k j with | false => rfl | true => exact absurd (Nat.eq_of_beq_eq_true hb) hne)]
    simp only
    rw [Xh_ (List.nodup_cons.1 hnd).2 h']; congr 1; omega
theorem To_ {j : Nat} : ∀ {ks : List Nat} {i0 : Nat}, j ∉ ks → idx j ks i0 = none
  | [], _, _ => rfl
  | k :: ks, i0, h => by
    simp only [List.mem_cons, not_or] at h
    simp only [idx]
    rw [(show Nat.beq k j = false by cases hb : Nat.beq k j with | false => rfl | true => exact absurd (Nat.eq_of_beq_eq_true hb).symm h.1)]
    exact To_ h.2
theorem Jt_ {n j : Nat} (hj : j ∉ js) (hn : j < n) (c k : Nat) : (F.mutj js n C).pl j c k = F.pl j c k := by
  simp only [Fr.mutj, Fr.wa, To_ hj]; rw [if_pos hn]
theorem L7_ {n : Nat} (hnd : js.Nodup) (hjs : ∀ j ∈ js, j < n) (i c k : Nat) : (F.mutj js n C).pl (ix js n i) c k = C.pl i c k := by
  unfold ix
  cases hi : js[i]? with
  | some j =>
    simp only [Fr.mutj, Fr.wa, Xh_ (i0 := 0) hnd hi, Nat.zero_add]
  | none =>
    have hge := List.getElem?_eq_none_iff.1 hi
    have : n + (i - js.length) ∉ js := fun hm => by have := hjs _ hm; omega
    simp only [Fr.mutj, Fr.wa, To_ this]
    rw [if_neg (by omega)]
    congr 1; omega
theorem Yj_ (hc : Callee F C L H js) (hnd : js.Nodup) (hl : L0.length = js.length) (h : ∀ (i j : Nat) (b' : DBlk), js[i]? = some j → L0[i]? = some b' → ∃ b, L[j]? = some b ∧ SameB b b') {m : Nat} (hm : js.length ≤ m) (hf : Fwd m C C' L0 L1) : FrLe F (F.mutj js L.length C') L := by
  have hjs : ∀ j ∈ js, j < L.length := fun j hj => by obtain ⟨b, hb, _⟩ := hc.lt j hj; exact (List.getElem?_eq_some_iff.1 hb).1
  have get : ∀ i j, js[i]? = some j → ∃ b b', L[j]? = some b ∧ L0[i]? = some b' ∧ SameB b b' ∧ i < m := fun i j hij => by
    have hi := (List.getElem?_eq_some_iff.1 hij).1
    have h0 : L0[i]? = some L0[i] := List.getElem?_eq_getElem (by omega)
    obtain ⟨b, h1, h2⟩ := h i j _ hij h0
    exact ⟨b, _, h1, h0, h2, by omega⟩
  have ixj : ∀ i j, js[i]? = some j → ix js L.length i = j := fun i j hij => by unfold ix; rw [hij]
  refine ⟨⟨_, rfl⟩, fun j hj => ?_, fun j cols fl v c inn idx k h1 h2 h3 => ?_, fun j n v c k h1 => ?_⟩
  · by_cases hm' : j ∈ js
    · obtain ⟨i, hi⟩ := List.getElem?_of_mem hm'
      obtain ⟨b, b', g1, g2, g3, g4⟩ := get i j hi
      have := L7_ (F := F) (C := C') hnd hjs i 0 0
      rw [ixj i j hi] at this
      rw [this, (hf.ext i b' g4 g2).1]; exact hc.pl i j hi 0 0
    · exact Jt_ hm' hj 0 0
  · by_cases hm' : j ∈ js
    · obtain ⟨i, hi⟩ := List.getElem?_of_mem hm'
      obtain ⟨b, b', g1, g2, g3, g4⟩ := get i j hi
      rw [h1] at g1; cases g1
      cases g3
      have := L7_ (F := F) (C := C') hnd hjs i (c + 1) k
      rw [ixj i j hi] at this
      rw [this, hf.inn i cols fl _ c inn idx k g4 g2 h2 h3]; exact hc.pl i j hi _ _
    · exact Jt_ hm' (List.getElem?_eq_some_iff.1 h1).1 _ _
  · by_cases hm' : j ∈ js
    · obtain ⟨b, hb, hn⟩ := hc.lt j hm'
      rw [h1] at hb; cases hb
      exact (hn n v rfl).elim
    · exact Jt_ hm' (List.getElem?_eq_some_iff.1 h1).1 _ _
theorem St.back (hs : St F L H) (hc : Callee F C L H js) (hnd : js.Nodup) (hle : FrLe F (F.mutj js L.length C') L) (hb : ∃ g, C' = C.wa g) (hk : St C' L1 H') (hext : Ext L LL)
    (hLL : ∀ (j : Nat) (b : DBlk), LL[j]? = some b → (j < L.length ∧ j ∉ js ∧ L[j]? = some b) ∨ ∃ i b0, j = ix js L.length i ∧ L1[i]? = some b0 ∧ (∀ c k, b.at' (F.mutj js L.length C') j c k = b0.at' C' i c k) ∧ b.Ok (F.mutj js L.length C') LL ∧ ∀ n v, b = .gone n v → ∃ n v, b0 = .gone n v) :
    St (F.mutj js L.length C') LL H' := by
  have hjs : ∀ j ∈ js, j < L.length := fun j hj => by obtain ⟨b, hb, _⟩ := hc.lt j hj; exact (List.getElem?_eq_some_iff.1 hb).1
  have hag : C.agree H' := by obtain ⟨g, rfl⟩ := hb; exact hk.ag
  have hzone : ∀ i c k B, blkAt C' L1 i c k = some B → C'.pl i c k ∈ idsOf F L js ∨ H.length ≤ C'.pl i c k := fun i c k B hB => by
    have := hk.zone i c k B hB
    obtain ⟨g, rfl⟩ := hb
    rw [← hc.ids, ← hc.h0]; exact this
  have hown : ∀ i B, H'[i]? = some B → i ∈ idsOf F L js ∨ H.length ≤ i → B.own = true := fun i B hB hi => by
    refine hk.own i B hB ?_
    obtain ⟨g, rfl⟩ := hb
    rw [← hc.ids, ← hc.h0] at hi; exact hi
  obtain ⟨hl, hlow⟩ := hc.low hag
  obtain ⟨a1, a2⟩ := hc.sees hs H' hag
  have hp := L7_ (F := F) (C := C') hnd hjs
  have atc : ∀ j c k B, blkAt (F.mutj js L.length C') LL j c k = some B → (j ∉ js ∧ blkAt F L j c k = some B ∧ (F.mutj js L.length C').pl j c k = F.pl j c k) ∨ ∃ i, j = ix js L.length i ∧ blkAt C' L1 i c k = some B ∧ (F.mutj js L.length C').pl j c k = C'.pl i c k := fun j c k B hB => by
    unfold blkAt at hB
    split at hB
    · rename_i b hb
      rcases hLL j b hb with ⟨h1, h2, h3⟩ | ⟨i, b0, rfl, h2, h3, _⟩
      · rw [hle.at_eq h3 (hs.ok j b h3)] at hB
        exact .inl ⟨h2, by rw [Am_ h3]; exact hB, Jt_ h2 h1 c k⟩
      · rw [h3] at hB
        exact .inr ⟨i, rfl, by rw [Am_ h2]; exact hB, hp i c k⟩
    · cases hB
  have apart : ∀ j c k B i c' k' B', j ∉ js → blkAt F L j c k = some B → blkAt C' L1 i c' k' = some B' → F.pl j c k ≠ C'.pl i c' k' := fun j c k B i c' k' B' hj h1 h2 e => by
    rcases hzone _ _ _ _ h2 with h | h
    · obtain ⟨j', d, l, B2, g1, g2, g3⟩ := K1_ hc.lt h
      obtain ⟨rfl, _⟩ := hs.inj _ _ _ _ _ _ _ _ g2 h1 (g3.trans e.symm)
      exact hj g1
    · have := (List.getElem?_eq_some_iff.1 (hs.blkp _ _ _ _ h1)).1
      omega
  refine ⟨fun j c k B hB => ?_, fun j c k B j' c' k' B' h h' e => ?_, fun j c k B hB => ?_, fun j n v hj c k => ?_, a1, fun j b hb => ?_, fun i B hB hi => ?_, hk.ws⟩
  · rcases atc j c k B hB with ⟨h1, h2, h3⟩ | ⟨i, _, h2, h3⟩
    · rw [h3]; exact a2 _ _ _ _ h2 h1
    · rw [h3]; exact hk.blkp _ _ _ _ h2
  · rcases atc j c k B h with ⟨h1, h2, h3⟩ | ⟨i, h1, h2, h3⟩
    · rcases atc j' c' k' B' h' with ⟨g1, g2, g3⟩ | ⟨i', g1, g2, g3⟩
      · rw [h3, g3] at e; exact hs.inj _ _ _ _ _ _ _ _ h2 g2 e
      · rw [h3, g3] at e; exact (apart _ _ _ _ _ _ _ _ h1 h2 g2 e).elim
    · rcases atc j' c' k' B' h' with ⟨g1, g2, g3⟩ | ⟨i', g1, g2, g3⟩
      · rw [h3, g3] at e; exact (apart _ _ _ _ _ _ _ _ g1 g2 h2 e.symm).elim
      · rw [h3, g3] at e
        obtain ⟨rfl, rfl, rfl⟩ := hk.inj _ _ _ _ _ _ _ _ h2 g2 e
        exact ⟨h1.trans g1.symm, rfl, rfl⟩
  · rcases atc j c k B hB with ⟨h1, h2, h3⟩ | ⟨i, _, h2, h3⟩
    · rw [h3]; exact hs.zone _ _ _ _ h2
    · rw [h3]
      rcases hzone _ _ _ _ h2 with h | h
      · obtain ⟨j', d, l, B2, g1, g2, g3⟩ := K1_ hc.lt h
        rw [← g3]; exact hs.zone _ _ _ _ g2
      · exact .inr (Nat.le_trans hs.ag.1 h)
  · rcases hLL j _ hj with ⟨h1, h2, h3⟩ | ⟨i, b0, rfl, h2, h3, _, h5⟩
    · rw [Jt_ h2 h1]; exact Nat.lt_of_lt_of_le (hs.ltp j n v h3 c k) hl
    · rw [hp]
      obtain ⟨n', v', rfl⟩ := h5 n v rfl
      exact hk.ltp i n' v' h2 c k
  · rcases hLL j b hb with ⟨h1, h2, h3⟩ | ⟨i, b0, rfl, h2, h3, h4, _⟩
    · exact ((hs.later hle).ok j b h3).ext hext
    · exact h4
  · by_cases hm : i ∈ idsOf F L js
    · exact hown i B hB (.inl hm)
    · rcases Nat.lt_or_ge i H.length with hil | hil
      · rw [hlow i hil hm] at hB
        exact hs.own i B hB hi
      · exact hown i B hB (.inr hil)
end
theorem V5_ {f : FuncId} (hs : St F L H) (ρ : Nat → AV) (args A : List DV) {r r' : DV} (js : List Nat) (rs rs' : List Row) (hnd : js.Nodup) (hl : rs.length = js.length) (hl' : rs'.length = js.length)
    (hrows : ∀ (i j : Nat) (q : Row), js[i]? = some j → rs[i]? = some q → ∃ v, L[j]? = some (.row q v)) (hsame : ∀ (i : Nat) (q q' : Row), rs[i]? = some q → rs'[i]? = some q' → q'.len = q.len) (hsub : ∀ j ∈ js, j ∈ DVs.refs args)
    (h : ∀ F' : Fr, F'.H0 = H → F'.ρ = ρ → (∀ i j, js[i]? = some j → F'.abs i = F.abs j) → St F' (rs.map fun q => .row q 0) F'.H0 → Sees F F' L js → DVs.av F' A = DVs.av F args ∧
      ∃ F'' H', Fwd js.length F' F'' (rs.map fun q => .row q 0) (rs'.map fun q => .row q 0) ∧ FnOk P f (DVs.av F' A) F'.H0 (r.av F'') H' ∧ St F'' (rs'.map fun q => .row q 0) H')
    (hr : ∀ F1 F2 : Fr, r'.av F1 = r.av F2) (hro : ∀ F L', r'.Ok F L') :
    ∃ F' H', FrLe F F' L ∧ FnOk P f (DVs.av F args) H (r'.av F') H' ∧ St F' (Bi_ L (js.zip rs')) H' ∧ r'.Ok F' (Bi_ L (js.zip rs')) ∧ Ext L (Bi_ L (js.zip rs')) ∧ ∀ j, j < L.length → (false = true ∨ j ∉ reach L args) → (Bi_ L (js.zip rs'))[j]? = L[j]? := by
  have hlive : ∀ j ∈ js, ∃ b, L[j]? = some b ∧ ∀ n v, b ≠ .gone n v := fun j hj => by
    obtain ⟨i, hi⟩ := List.getElem?_of_mem hj
    have hil : i < rs.length := by rw [hl]; exact (List.getElem?_eq_some_iff.1 hi).1
    obtain ⟨v, hv⟩ := hrows i j _ hi (List.getElem?_eq_getElem hil)
    exact ⟨_, hv, fun _ _ => by simp⟩
  obtain ⟨C, hc, hρ⟩ := X1_ hs ρ hlive
  have hjs : ∀ j ∈ js, j < L.length := fun j hj => by obtain ⟨b, hb, _⟩ := hlive j hj; exact (List.getElem?_eq_some_iff.1 hb).1
  have rel : ∀ (i j : Nat) (b' : DBlk), js[i]? = some j → (rs.map fun q => DBlk.row q 0)[i]? = some b' → ∃ b, L[j]? = some b ∧ SameB b b' ∧ b'.blk C i = b.blk F j ∧ b'.Ok C (rs.map fun q => DBlk.row q 0) := fun i j b' hij hb => by
    rw [List.getElem?_map] at hb
    cases hq : rs[i]? with
    | none => rw [hq] at hb; cases hb
    | some q =>
      rw [hq] at hb; cases hb
      obtain ⟨v, hv⟩ := hrows i j q hij hq
      exact ⟨_, hv, .row _ _ _, rfl, hs.ok _ _ hv⟩
  have hst0 := hc.st hs hnd (by simpa using hl) rel
  obtain ⟨k0, C', H', kf, k1, k2⟩ := h C hc.h0 hρ (fun i j hij => hc.pl i j hij 0 0) hst0 (hc.sees hs)
  rw [k0, hc.h0] at k1
  have hz : (js.zip rs').map (·.1) = js := List.map_fst_zip (by omega)
  have inz : ∀ i j, js[i]? = some j → ∃ q q' v, rs[i]? = some q ∧ rs'[i]? = some q' ∧ L[j]? = some (DBlk.row q v) ∧ (Bi_ L (js.zip rs'))[j]? = some (DBlk.row q' v) := fun i j hi => by
    have hil := (List.getElem?_eq_some_iff.1 hi).1
    obtain ⟨v, hv⟩ := hrows i j _ hi (List.getElem?_eq_getElem (by omega : i < rs.length))
    refine ⟨_, _, v, List.getElem?_eq_getElem (by omega : i < rs.length), List.getElem?_eq_getElem (by omega : i < rs'.length), hv, ?_⟩
    refine U8_ _ L j _ (.row _ v) (by rw [hz]; exact hnd) ?_ hv
    refine List.mem_of_getElem? (i := i) ?_
    rw [List.getElem?_zip_eq_some]
    exact ⟨hi, List.getElem?_eq_getElem _⟩
  have outz : ∀ i, i ∉ js → (Bi_ L (js.zip rs'))[i]? = L[i]? := fun i hi => Ti_ _ L i (by rw [hz]; exact hi)
  have hext : Ext L (Bi_ L (js.zip rs')) := fun j b hb => by
    by_cases hj : j ∈ js
    · obtain ⟨i, hi⟩ := List.getElem?_of_mem hj
      obtain ⟨q, q', v, i2, i3, i4, i5⟩ := inz i j hi
      rw [hb] at i4; cases i4
      have := hsame i q q' i2 i3
      exact ⟨_, i5, Nat.le_refl _, by simp [DBlk.clen, this], fun _ => by simp [DBlk.clen, this], .row _ _ _ _⟩
    · exact ⟨b, by rw [outz j hj]; exact hb, Nat.le_refl _, Nat.le_refl _, fun _ => rfl, .refl _⟩
  have hle := Yj_ (m := js.length) hc hnd (by simpa using hl) (fun i j b' h1 h2 => by obtain ⟨b, g1, g2, _⟩ := rel i j b' h1 h2; exact ⟨b, g1, g2⟩) (Nat.le_refl _) kf
  refine ⟨_, H', hle, by rw [hr _ C']; exact k1, hs.back hc hnd hle kf.base k2 hext fun j b hb => ?_, hro _ _, hext, fun j hj hn => ?_⟩
  · by_cases hj : j ∈ js
    · obtain ⟨i, hi⟩ := List.getElem?_of_mem hj
      obtain ⟨q, q', v, i2, i3, i4, i5⟩ := inz i j hi
      rw [hb] at i5; cases i5
      have h1 : (rs'.map fun q => DBlk.row q 0)[i]? = some (.row q' 0) := by rw [List.getElem?_map, i3]; rfl
      exact .inr ⟨i, .row q' 0, by unfold ix; rw [hi], h1, fun c k => rfl, k2.ok i _ h1, fun n v h => by cases h⟩
    · have hjl : j < L.length := by have := (List.getElem?_eq_some_iff.1 hb).1; rwa [X7_] at this
      rw [outz j hj] at hb
      exact .inl ⟨hjl, hj, hb⟩
  · rcases hn with h | h
    · cases h
    · exact outz j fun hm => h (Gj_ (hsub j hm))
end
end Go.Proofs.Ytmgpbchacndndaa.AM
