import Derived.Test.YtmgpbchacndndaaD12
set_option linter.unusedSimpArgs false
set_option linter.unusedVariables false
namespace Go.Proofs.Ytmgpbchacndndaa.AM
section
variable {P : Program} {F : Fr} {L : List DBlk} {H : Heap}
theorem Ajn_ {F F' : Fr} {j j' : Nat} (h : ∀ c k, F'.pl j' c k = F.pl j c k) (cols : List Col) : Ac_ F' j' cols = Ac_ F j cols := by
  unfold Ac_
  refine List.map_congr_left fun p _ => ?_
  split
  · rename_i col _
    cases col with
    | pl r => simp only [Col.cell]; cases r <;> rfl
    | sl inn idx =>
      simp only [Col.cell]
      rw [Cp_, Cp_]
      cases nth idx (p / cols.length) with
      | zero => rfl
      | succ k => simp only [h]
  · rfl
theorem Tf_ {F F' : Fr} {j j' : Nat} (h : ∀ c k, F'.pl j' c k = F.pl j c k) (cols : List Col) (fl : Bool) (v v' c k : Nat) : (DBlk.nest cols fl v').at' F' j' c k = (DBlk.nest cols fl v).at' F j c k := by
  cases c with
  | zero => simp only [DBlk.at', DBlk.blk, Ajn_ h]
  | succ c => rfl
def frOf (hs : St F L H) (ρ : Nat → AV) : Fr := ⟨H, [], (fun _ h => by cases h), hs.ws, ρ, fun _ _ _ => 0⟩
theorem Reads.keep {F' : Fr} {K : Heap} (hids : F'.ids = []) {s : AV} {r : Row} (h : Reads F'.H0 s r) (hK : F'.agree K) : Reads K s r := by
  rcases h with h | ⟨p, B, h1, h2, h3⟩
  · exact .inl h
  · refine .inr ⟨p, B, h1, ?_, h3⟩
    rw [hK.2 _ (List.getElem?_eq_some_iff.1 h2).1 (by rw [hids]; simp)]; exact h2
theorem Lens.keep {F' : Fr} {K : Heap} (hids : F'.ids = []) {s : AV} {n : Nat} (h : Lens F'.H0 s n) (hK : F'.agree K) : Lens K s n := by
  rcases h with h | ⟨p, B, h1, h2, h3⟩
  · exact .inl h
  · exact .inr ⟨p, B, h1, by rw [hK.2 _ (List.getElem?_eq_some_iff.1 h2).1 (by rw [hids]; simp)]; exact h2, h3⟩
theorem Hu_ {F' : Fr} {L' : List DBlk} (hids : F'.ids = []) {s : BR} {n : Nat} (h : Lens F'.H0 (s.av F'.ρ) n) : (DV.hslc s n).Ok F' L' := fun K hK => h.keep hids hK
theorem Ag_ {F' : Fr} {L' : List DBlk} (hids : F'.ids = []) {s : BR} {r : Row} (h : Reads F'.H0 (s.av F'.ρ) r) : (DV.bslc s r).Ok F' L' := fun K hK => h.keep hids hK
theorem Fb_ {F' : Fr} {L' : List DBlk} (hids : F'.ids = []) {p : BR} {cs : List DV} (h : Dv_ F'.H0 (p.av F'.ρ) (DVs.av F' cs)) (hc : DVs.Ok F' L' cs) : (DV.bptr p cs).Ok F' L' := by
  refine ⟨fun K hK => ?_, hc⟩
  obtain ⟨r, B, h1, h2, h3⟩ := h
  refine ⟨r, B, h1, ?_, h3⟩
  rw [hK.2 _ (List.getElem?_eq_some_iff.1 h2).1 (by rw [hids]; simp)]; exact h2
theorem Dv_.keep {F' : Fr} {K : Heap} (hids : F'.ids = []) {p : AV} {cs : List AV} (h : Dv_ F'.H0 p cs) (hK : F'.agree K) : Dv_ K p cs := by
  obtain ⟨r, B, h1, h2, h3⟩ := h
  refine ⟨r, B, h1, ?_, h3⟩
  rw [hK.2 _ (List.getElem?_eq_some_iff.1 h2).1 (by rw [hids]; simp)]; exact h2
def lenV (L : List DBlk) : DV → Option Nat
  | .nilslc => some 0
  | .hslc _ n => some n
  | v => (match rowOf L v with | some r => some r.len | none => none)
theorem Reads.lens {H : Heap} {s : AV} {r : Row} (h : Reads H s r) : Lens H s r.len := by
  rcases h with h | ⟨p, B, h1, h2, h3, _, _, _, h4⟩
  · exact .inl h
  · exact .inr ⟨p, B, h1, h2, h3, by unfold maxN at h4; omega⟩
def Km_ (L : List DBlk) : DV → Option (List Nat)
  | .nilslc => some []
  | v => (match rowOf L v with | some (.f64 xs) => some xs | _ => none)
def As_ (L : List DBlk) : DV → Option (List Int)
  | .nilslc => some []
  | v => (match rowOf L v with | some (.i64 xs) => some xs | _ => none)
def rowU8 (L : List DBlk) : DV → Option (List Int)
  | .nilslc => some []
  | v => (match rowOf L v with | some (.u8 xs) => some xs | _ => none)
theorem Ui_ (hs : St F L H) {v : DV} {n : Nat} (hv : v.Ok F L) (h : lenV L v = some n) : Lens H (v.av F) n := by
  unfold lenV at h
  split at h
  · cases h; exact .inl ⟨rfl, rfl⟩
  · cases h; exact hv H hs.ag
  · split at h
    · rename_i hr; cases h; exact (C1_ hs hv hr).lens
    · cases h
theorem S1_ (hs : St F L H) {v : DV} {xs : List Nat} (hv : v.Ok F L) (h : Km_ L v = some xs) : Reads H (v.av F) (.f64 xs) := by
  unfold Km_ at h
  split at h
  · cases h; exact .inl ⟨rfl, rfl⟩
  · split at h
    · rename_i hr; cases h; exact C1_ hs hv hr
    · cases h
theorem An_ (hs : St F L H) {v : DV} {xs : List Int} (hv : v.Ok F L) (h : As_ L v = some xs) : Reads H (v.av F) (.i64 xs) := by
  unfold As_ at h
  split at h
  · cases h; exact .inl ⟨rfl, rfl⟩
  · split at h
    · rename_i hr; cases h; exact C1_ hs hv hr
    · cases h
theorem Kk_ (hs : St F L H) {v : DV} {xs : List Int} (hv : v.Ok F L) (h : rowU8 L v = some xs) : Reads H (v.av F) (.u8 xs) := by
  unfold rowU8 at h
  split at h
  · cases h; exact .inl ⟨rfl, rfl⟩
  · split at h
    · rename_i hr; cases h; exact C1_ hs hv hr
    · cases h
def cellsOf (L : List DBlk) (n : Nat) : DV → Option (List DV)
  | .ptr j off ver _ => (match good L j ver with | some (.gen cs _ _) => (match Nat.ble (off + n) cs.length with | true => some ((cs.drop off).take n) | false => none) | _ => none)
  | .bptr _ cs => (match Nat.ble n cs.length with | true => some (cs.take n) | false => none)
  | .ncell j ver es _ i c => (match goodN L j ver es with | some (cols, _) => (match Nat.ble (c + n) es with | true => some ((Bg_ j i c (cols.drop c)).take n) | false => none) | none => none)
  | _ => none
theorem Ano_ {F : Fr} {K : Heap} {j : Nat} {cols : List Col} {fl : Bool} {i c len es n : Nat} (hB : K[F.abs j]? = some ⟨Ac_ F j cols, true, es, fl⟩) (he : cols.length = es) (hl : colsN cols = len) (hi : i < len) (hn : c + n ≤ es) :
    Dv_ K (.ptr ⟨F.abs j, i * es + c, len * es⟩) (DVs.av F ((Bg_ j i c (cols.drop c)).take n)) := by
  have hlen : ((Bg_ j i c (cols.drop c)).take n).length = n := by simp [Tj_]; omega
  have hmul := Nat.mul_le_mul_right es (show i + 1 ≤ len from hi)
  rw [Nat.add_mul] at hmul
  refine ⟨_, _, rfl, hB, by simp [hl, he], ?_, ?_⟩
  · simp only [DVs.av_len, hlen, Dq_, hl, he]; omega
  · have := Vk_ F j cols (x := i) (c := c) (by omega) (by omega)
    rw [he] at this
    have e2 : DVs.av F ((Bg_ j i c (cols.drop c)).take n) = (DVs.av F (Bg_ j i c (cols.drop c))).take n := by simp [DVs.av_eq, List.map_take]
    rw [DVs.av_len, hlen, e2, ← this, List.take_take]
    congr 1; omega
theorem Fi_ (hs : St F L H) {n : Nat} {v : DV} {cs : List DV} (hv : v.Ok F L) (h : cellsOf L n v = some cs) : Dv_ H (v.av F) (DVs.av F cs) ∧ DVs.Ok F L cs := by
  unfold cellsOf at h
  split at h
  · rename_i j off ver alen
    obtain ⟨b, h1, h2, h3, h4, h5⟩ := hv
    split at h
    · rename_i cs' fl v' hg
      obtain ⟨g1, g2⟩ := Al_ hg
      rw [h1] at g1; cases g1
      have hal := h5 g2.symm
      split at h
      · rename_i hle
        have hle := Nat.le_of_ble_eq_true hle
        cases h
        refine ⟨⟨_, _, rfl, hs.gen h1, by simp only [DVs.av_len]; exact hal, ?_, ?_⟩, DVs.ok_iff.2 fun c hc => DVs.ok_iff.1 (hs.ok j _ h1).1 c (List.mem_of_mem_drop (List.mem_of_mem_take hc))⟩
        · simp; omega
        · simp only [DVs.av_len, DVs.av_eq, List.length_map, ← List.map_drop, ← List.map_take]
          congr 1
          rw [List.take_eq_take_iff]
          simp
      · cases h
    · cases h
  · rename_i p cs'
    split at h
    · rename_i hle
      have hle := Nat.le_of_ble_eq_true hle
      cases h
      obtain ⟨r, B, e, k1, k2, k3, k4⟩ := hv.1 H hs.ag
      simp only [DVs.av_len] at k3 k4
      refine ⟨⟨r, B, by simp only [DV.av]; exact e, k1, k2, ?_, ?_⟩, DVs.ok_iff.2 fun c hc => DVs.ok_iff.1 hv.2 c (List.mem_of_mem_take hc)⟩
      · simp; omega
      · have : DVs.av F (cs'.take n) = (DVs.av F cs').take n := by simp [DVs.av_eq, List.map_take]
        rw [this, ← k4]
        simp only [List.length_take, List.take_take]
        congr 1
        have hl : (B.cells.drop r.off).length = B.cells.length - r.off := by simp
        omega
    · cases h
  · rename_i j ver es len i c
    obtain ⟨b, h1, h2, h3, h4, h5, h6⟩ := hv
    split at h
    · rename_i cols fl hg
      obtain ⟨q1, q2, q3, q4, q5, q6⟩ := Bz_ hs hg h1 h4
      split at h
      · rename_i hle
        have hle := Nat.le_of_ble_eq_true hle
        cases h
        exact ⟨Ano_ q5 q2 q4 h5 hle, DVs.ok_iff.2 fun d hd => DVs.ok_iff.1 (Vb_ hs q1 (by rw [q4]; exact h5) c) d (List.mem_of_mem_take hd)⟩
      · cases h
    · cases h
  · cases h
def NRow.pick (ks : List Nat) : NRow → NRow
  | .f32 xs => .f32 (ks.map (nget xs)) | .f64 xs => .f64 (ks.map (nget xs)) | .i64 xs => .i64 (ks.map (nget xs))
section
variable {F : Fr} {L : List DBlk} {H : Heap}
end
mutual
def DV.shift (n : Nat) : DV → Option DV
  | .ptr j off ver alen => some (.ptr (n + j) off ver alen)
  | .own j ver len => some (.own (n + j) ver len)
  | .slc j off ver alen len => some (.slc (n + j) off ver alen len)
  | .nest j ver es len => some (.nest (n + j) ver es len)
  | .ncell j ver es len i c => some (.ncell (n + j) ver es len i c)
  | .inn j c k len => some (.inn (n + j) c k len)
  | .icell j c k i len => some (.icell (n + j) c k i len)
  | .fn f cs => (match DVs.shift n cs with | some cs' => some (.fn f cs') | none => none)
  | .agg cs => (match DVs.shift n cs with | some cs' => some (.agg cs') | none => none)
  | .tup cs => (match DVs.shift n cs with | some cs' => some (.tup cs') | none => none)
  | .bslc _ _ => none
  | .hslc _ _ => none
  | .rns _ _ => none
  | .nsb _ _ _ _ _ _ => none
  | .bptr _ _ => none
  | v => some v
def DVs.shift (n : Nat) : List DV → Option (List DV)
  | [] => some []
  | c :: cs => (match c.shift n, DVs.shift n cs with | some c', some cs' => some (c' :: cs') | _, _ => none)
end
def DBlk.shift (n : Nat) : DBlk → Option DBlk
  | .row r v => some (.row r v)
  | .gen cs fl v => (match DVs.shift n cs with | some cs' => some (.gen cs' fl v) | none => none)
  | .nest cols fl v => some (.nest cols fl v)
  | .gone m v => some (.gone m v)
def Eg_ (n : Nat) : List DBlk → Option (List DBlk)
  | [] => some []
  | b :: bs => (match b.shift n, Eg_ n bs with | some b', some bs' => some (b' :: bs') | _, _ => none)
theorem Qc_ {n : Nat} : ∀ {bs bs' : List DBlk}, Eg_ n bs = some bs' → bs'.length = bs.length ∧ ∀ (i : Nat) (b : DBlk), bs[i]? = some b → ∃ b', bs'[i]? = some b' ∧ b.shift n = some b'
  | [], bs', h => by simp only [Eg_, Option.some.injEq] at h; subst h; exact ⟨rfl, by simp⟩
  | b :: bs, bs', h => by
    simp only [Eg_] at h
    split at h
    · rename_i b1 bs1 h1 h2
      cases h
      obtain ⟨k1, k2⟩ := Qc_ h2
      refine ⟨by simp [k1], fun i c hc => ?_⟩
      cases i with
      | zero => simp at hc; subst hc; exact ⟨b1, rfl, h1⟩
      | succ i => exact k2 i c (by simpa using hc)
    · cases h
variable {C F1 : Fr} {L1 L2 : List DBlk} {H' : Heap} {n : Nat}
def Fr.join (F : Fr) (n : Nat) (C : Fr) : Fr := F.wa fun j c k => if j < n then F.pl j c k else C.pl (j - n) c k
theorem T6_ (F C : Fr) (n j c k : Nat) : (F.join n C).pl (n + j) c k = C.pl j c k := by
  simp only [Fr.join, Fr.wa]; rw [if_neg (by omega), Nat.add_sub_cancel_left]
theorem Xx_ (F C : Fr) (L : List DBlk) : FrLe F (F.join L.length C) L := by
  have h : ∀ j c k, j < L.length → (F.join L.length C).pl j c k = F.pl j c k := fun j c k hj => by simp only [Fr.join, Fr.wa]; rw [if_pos hj]
  exact ⟨⟨_, rfl⟩, fun j hj => h j 0 0 hj, fun j cols fl v c inn idx k h1 _ _ => h _ _ _ (List.getElem?_eq_some_iff.1 h1).1, fun j n v c k h1 => h _ _ _ (List.getElem?_eq_some_iff.1 h1).1⟩
theorem X2_ (hp : ∀ j c k, F1.pl (n + j) c k = C.pl j c k) : ∀ (x x' : DV), x.shift n = some x' → x'.av F1 = x.av C := by
  have habs : ∀ j, F1.abs (n + j) = C.abs j := fun j => hp j 0 0
  intro x
  induction x using DV.rec (motive_2 := fun xs => ∀ xs', DVs.shift n xs = some xs' → DVs.av F1 xs' = DVs.av C xs) with
  | ptr j off ver alen => intro x' h; simp only [DV.shift, Option.some.injEq] at h; subst h; simp [DV.av, habs]
  | own j ver len => intro x' h; simp only [DV.shift, Option.some.injEq] at h; subst h; simp [DV.av, habs]
  | slc j off ver alen len => intro x' h; simp only [DV.shift, Option.some.injEq] at h; subst h; simp [DV.av, habs]
  | nest j ver es len => intro x' h; simp only [DV.shift, Option.some.injEq] at h; subst h; simp [DV.av, habs]
  | ncell j ver es len i c => intro x' h; simp only [DV.shift, Option.some.injEq] at h; subst h; simp [DV.av, habs]
  | inn j c k len =>
    intro x' h; simp only [DV.shift, Option.some.injEq] at h; subst h
    cases k with
    | zero => rfl
    | succ k => simp only [DV.av, hp]
  | icell j c k i len => intro x' h; simp only [DV.shift, Option.some.injEq] at h; subst h; simp only [DV.av, hp]
  | fn f cs ih => intro x' h; simp only [DV.shift] at h; split at h <;> cases h; rename_i cs' hcs; simp [DV.av, ih cs' hcs]
  | agg cs ih => intro x' h; simp only [DV.shift] at h; split at h <;> cases h; rename_i cs' hcs; simp [DV.av, ih cs' hcs]
  | tup cs ih => intro x' h; simp only [DV.shift] at h; split at h <;> cases h; rename_i cs' hcs; simp [DV.av, ih cs' hcs]
  | bslc s r => intro x' h; cases h
  | hslc s n => intro x' h; cases h
  | rns n cols => intro x' h; cases h
  | nsb => intro x' h; cases h
  | bptr p cs ih => intro x' h; cases h
  | nil => rename_i xs' h; simp only [DVs.shift, Option.some.injEq] at h; subst h; rfl
  | cons c cs ih1 ih2 => rename_i xs' h; simp only [DVs.shift] at h; split at h <;> cases h; rename_i c' cs' h1 h2; simp [DVs.av, ih1 c' h1, ih2 cs' h2]
  | _ => intro x' h; simp only [DV.shift, Option.some.injEq] at h; subst h; rfl
theorem Aod_ {n : Nat} {b b' : DBlk} (h : b.shift n = some b') : b'.clen = b.clen ∧ b'.ver = b.ver := by
  cases b with
  | row r v => simp only [DBlk.shift, Option.some.injEq] at h; subst h; exact ⟨rfl, rfl⟩
  | nest cols fl v => simp only [DBlk.shift, Option.some.injEq] at h; subst h; exact ⟨rfl, rfl⟩
  | gone m v => simp only [DBlk.shift, Option.some.injEq] at h; subst h; exact ⟨rfl, rfl⟩
  | gen cs fl v =>
    simp only [DBlk.shift] at h
    split at h <;> cases h
    rename_i cs' hcs
    refine ⟨?_, rfl⟩
    have : ∀ (cs cs' : List DV), DVs.shift n cs = some cs' → cs'.length = cs.length := by
      intro cs
      induction cs with
      | nil => intro cs' h; simp only [DVs.shift, Option.some.injEq] at h; subst h; rfl
      | cons c cs ih => intro cs' h; simp only [DVs.shift] at h; split at h <;> cases h; rename_i c' cs' h1 h2; simp [ih cs' h2]
    exact this cs cs' hcs
theorem Ad6_ (hp : ∀ j c k, F1.pl (n + j) c k = C.pl j c k) {b b' : DBlk} (h : b.shift n = some b') (i c k : Nat) : b'.at' F1 (n + i) c k = b.at' C i c k := by
  cases b with
  | row r v => simp only [DBlk.shift, Option.some.injEq] at h; subst h; rfl
  | nest cols fl v => simp only [DBlk.shift, Option.some.injEq] at h; subst h; exact Tf_ (fun c k => hp i c k) cols fl v v c k
  | gone m v => simp only [DBlk.shift, Option.some.injEq] at h; subst h; rfl
  | gen cs fl v =>
    simp only [DBlk.shift] at h
    split at h <;> cases h
    rename_i cs' hcs
    have := X2_ hp (.agg cs) (.agg cs') (by simp only [DV.shift, hcs])
    simp only [DV.av, AV.agg.injEq] at this
    simp only [DBlk.at', DBlk.blk, this]
theorem Xj_ (hL : ∀ (i : Nat) (b : DBlk), L1[i]? = some b → ∃ b', L2[i]? = some b' ∧ b.shift L.length = some b') : ∀ (x x' : DV), x.shift L.length = some x' → x.Ok C L1 → x'.Ok F1 (L ++ L2) := by
  have get0 : ∀ (j : Nat) (b : DBlk), L1[j]? = some b → ∃ b', (L ++ L2)[L.length + j]? = some b' ∧ b.shift L.length = some b' := fun j b h => by
    obtain ⟨b', h1, h2⟩ := hL j b h
    exact ⟨b', by rw [List.getElem?_append_right (by omega)]; simpa using h1, h2⟩
  have get : ∀ (j : Nat) (b : DBlk), L1[j]? = some b → ∃ b', (L ++ L2)[L.length + j]? = some b' ∧ b'.clen = b.clen ∧ b'.ver = b.ver := fun j b h => by
    obtain ⟨b', h1, h2⟩ := get0 j b h
    exact ⟨b', h1, Aod_ h2⟩
  have geti : ∀ j c k len, InnOk L1 j c k len → InnOk (L ++ L2) (L.length + j) c k len := fun j c k len h => by
    refine ⟨h.1, ?_⟩
    rcases h.2 with ⟨m, v, h1⟩ | ⟨cols, fl, v, inn, idx, h1, h2⟩
    · obtain ⟨b', k1, k2⟩ := get0 j _ h1
      simp only [DBlk.shift, Option.some.injEq] at k2; subst k2
      exact .inl ⟨m, v, k1⟩
    · obtain ⟨b', k1, k2⟩ := get0 j _ h1
      simp only [DBlk.shift, Option.some.injEq] at k2; subst k2
      exact .inr ⟨cols, fl, v, inn, idx, k1, h2⟩
  intro x
  induction x using DV.rec (motive_2 := fun xs => ∀ xs', DVs.shift L.length xs = some xs' → DVs.Ok C L1 xs → DVs.Ok F1 (L ++ L2) xs') with
  | ptr j off ver alen =>
    intro x' h ⟨b, h1, h2⟩
    simp only [DV.shift, Option.some.injEq] at h; subst h
    obtain ⟨b', k1, k2, k3⟩ := get j b h1
    exact ⟨b', k1, by rw [k2, k3]; exact h2⟩
  | own j ver len =>
    intro x' h ⟨b, h1, h2⟩
    simp only [DV.shift, Option.some.injEq] at h; subst h
    obtain ⟨b', k1, k2, k3⟩ := get j b h1
    exact ⟨b', k1, by rw [k2, k3]; exact h2⟩
  | slc j off ver alen len =>
    intro x' h ⟨b, h1, h2⟩
    simp only [DV.shift, Option.some.injEq] at h; subst h
    obtain ⟨b', k1, k2, k3⟩ := get j b h1
    exact ⟨b', k1, by rw [k2, k3]; exact h2⟩
  | nest j ver es len =>
    intro x' h ⟨b, h1, h2⟩
    simp only [DV.shift, Option.some.injEq] at h; subst h
    obtain ⟨b', k1, k2, k3⟩ := get j b h1
    exact ⟨b', k1, by rw [k2, k3]; exact h2⟩
  | ncell j ver es len i c =>
    intro x' h ⟨b, h1, h2⟩
    simp only [DV.shift, Option.some.injEq] at h; subst h
    obtain ⟨b', k1, k2, k3⟩ := get j b h1
    exact ⟨b', k1, by rw [k2, k3]; exact h2⟩
  | inn j c k len => intro x' h hx; simp only [DV.shift, Option.some.injEq] at h; subst h; exact geti _ _ _ _ hx
  | icell j c k i len => intro x' h hx; simp only [DV.shift, Option.some.injEq] at h; subst h; exact ⟨geti _ _ _ _ hx.1, hx.2⟩
  | fn f cs ih => intro x' h hx; simp only [DV.shift] at h; split at h <;> cases h; rename_i cs' hcs; exact ih cs' hcs hx
  | agg cs ih => intro x' h hx; simp only [DV.shift] at h; split at h <;> cases h; rename_i cs' hcs; exact ih cs' hcs hx
  | tup cs ih => intro x' h hx; simp only [DV.shift] at h; split at h <;> cases h; rename_i cs' hcs; exact ih cs' hcs hx
  | bslc s r => intro x' h; cases h
  | hslc s n => intro x' h; cases h
  | rns n cols => intro x' h; cases h
  | nsb => intro x' h; cases h
  | bptr p cs ih => intro x' h; cases h
  | nil => rename_i xs' h hx; simp only [DVs.shift, Option.some.injEq] at h; subst h; trivial
  | cons c cs ih1 ih2 => rename_i xs' h hx; simp only [DVs.shift] at h; split at h <;> cases h; rename_i c' cs' h1 h2; exact ⟨ih1 c' h1 hx.1, ih2 cs' h2 hx.2⟩
  | _ => intro x' h _; simp only [DV.shift, Option.some.injEq] at h; subst h; trivial
theorem St.join (hs : St F L H) (h0 : C.H0 = H) (hids : C.ids = []) (hs' : St C L1 H') (hsh : Eg_ L.length L1 = some L2) : St (F.join L.length C) (L ++ L2) H' := by
  obtain ⟨l1, l2⟩ := Qc_ hsh
  have hle := Xx_ F C L
  have hp := T6_ F C L.length
  have hlow : ∀ i, i < H.length → H'[i]? = H[i]? := fun i hi => by
    have := hs'.ag.2 i (by rw [h0]; exact hi) (by rw [hids]; simp)
    rw [this, h0]
  have hHl : H.length ≤ H'.length := by have := hs'.ag.1; rwa [h0] at this
  have hget : ∀ (i : Nat) (b : DBlk), L2[i]? = some b → ∃ b0, L1[i]? = some b0 ∧ b0.shift L.length = some b := fun i b hb => by
    have hi : i < L1.length := by rw [← l1]; exact (List.getElem?_eq_some_iff.1 hb).1
    obtain ⟨b', k1, k2⟩ := l2 i _ (List.getElem?_eq_getElem hi)
    rw [hb] at k1; cases k1
    exact ⟨_, List.getElem?_eq_getElem hi, k2⟩
  have cases' : ∀ j b, (L ++ L2)[j]? = some b → (j < L.length ∧ L[j]? = some b) ∨ ∃ i b0, j = L.length + i ∧ L1[i]? = some b0 ∧ b0.shift L.length = some b := fun j b hb => by
    rw [List.getElem?_append] at hb
    split at hb
    · rename_i hj; exact .inl ⟨hj, hb⟩
    · rename_i hj
      obtain ⟨b0, k1, k2⟩ := hget _ b hb
      exact .inr ⟨j - L.length, b0, by omega, k1, k2⟩
  have atc : ∀ j c k B, blkAt (F.join L.length C) (L ++ L2) j c k = some B → (j < L.length ∧ blkAt F L j c k = some B ∧ (F.join L.length C).pl j c k = F.pl j c k) ∨ ∃ i, j = L.length + i ∧ blkAt C L1 i c k = some B ∧ (F.join L.length C).pl j c k = C.pl i c k := fun j c k B hB => by
    unfold blkAt at hB
    split at hB
    · rename_i b hb
      rcases cases' j b hb with ⟨h1, h2⟩ | ⟨i, b0, rfl, h2, h3⟩
      · have := hle.at_eq (c := c) (k := k) h2 (hs.ok j b h2)
        rw [this] at hB
        have hB' : blkAt F L j c k = some B := by rw [Am_ h2]; exact hB
        exact .inl ⟨h1, hB', hle.pl_eq hB'⟩
      · rw [Ad6_ hp h3] at hB
        exact .inr ⟨i, rfl, by rw [Am_ h2]; exact hB, hp i c k⟩
    · cases hB
  have lowp : ∀ j c k B, blkAt F L j c k = some B → F.pl j c k < H.length := fun j c k B h => (List.getElem?_eq_some_iff.1 (hs.blkp _ _ _ _ h)).1
  have highp : ∀ i c k B, blkAt C L1 i c k = some B → H.length ≤ C.pl i c k := fun i c k B h => by
    rcases hs'.zone i c k B h with h | h
    · rw [hids] at h; cases h
    · rwa [h0] at h
  have bok : ∀ b0 b, DBlk.shift L.length b0 = some b → b0.Ok C L1 → b.Ok (F.join L.length C) (L ++ L2) := fun b0 b h hk => by
    cases b0 with
    | row r v => simp only [DBlk.shift, Option.some.injEq] at h; subst h; exact hk
    | nest cols fl v => simp only [DBlk.shift, Option.some.injEq] at h; subst h; exact hk
    | gone m v => simp only [DBlk.shift, Option.some.injEq] at h; subst h; trivial
    | gen cs fl v =>
      simp only [DBlk.shift] at h
      split at h <;> cases h
      rename_i cs' hcs
      refine ⟨Xj_ (F1 := F.join L.length C) (C := C) l2 (.agg cs) (.agg cs') (by simp only [DV.shift, hcs]) hk.1, fun hf c hc => ?_⟩
      have : ∀ (cs cs' : List DV), DVs.shift L.length cs = some cs' → (∀ c ∈ cs, c.flat = true) → ∀ c ∈ cs', c.flat = true := by
        intro cs
        induction cs with
        | nil => intro cs' h; simp only [DVs.shift, Option.some.injEq] at h; subst h; simp
        | cons a cs ih =>
          intro cs' h hfl
          simp only [DVs.shift] at h
          split at h <;> cases h
          rename_i a' cs'' h1 h2
          intro c hc
          rcases List.mem_cons.1 hc with rfl | hc
          · have := hfl a (by simp)
            cases a <;> simp [DV.flat] at this <;> simp only [DV.shift, Option.some.injEq] at h1 <;> subst h1 <;> rfl
          · exact ih cs'' h2 (fun c hc => hfl c (by simp [hc])) c hc
      exact this cs cs' hcs (hk.2 hf) c hc
  refine ⟨fun j c k B hB => ?_, fun j c k B j' c' k' B' h h' e => ?_, fun j c k B hB => ?_, fun j n v hj c k => ?_, ⟨Nat.le_trans hs.ag.1 hHl, fun i hi hn => ?_⟩, fun j b hb => ?_, fun i B hB hi => ?_, hs'.ws⟩
  · rcases atc j c k B hB with ⟨_, h2, h3⟩ | ⟨i, _, h2, h3⟩
    · rw [h3, hlow _ (lowp _ _ _ _ h2)]; exact hs.blkp _ _ _ _ h2
    · rw [h3]; exact hs'.blkp _ _ _ _ h2
  · rcases atc j c k B h with ⟨_, h2, h3⟩ | ⟨i, hj, h2, h3⟩
    · rcases atc j' c' k' B' h' with ⟨_, g2, g3⟩ | ⟨i', hj', g2, g3⟩
      · rw [h3, g3] at e; exact hs.inj _ _ _ _ _ _ _ _ h2 g2 e
      · rw [h3, g3] at e
        have := lowp _ _ _ _ h2; have := highp _ _ _ _ g2; omega
    · rcases atc j' c' k' B' h' with ⟨_, g2, g3⟩ | ⟨i', hj', g2, g3⟩
      · rw [h3, g3] at e
        have := lowp _ _ _ _ g2; have := highp _ _ _ _ h2; omega
      · rw [h3, g3] at e
        obtain ⟨e1, e2, e3⟩ := hs'.inj _ _ _ _ _ _ _ _ h2 g2 e
        exact ⟨by omega, e2, e3⟩
  · rcases atc j c k B hB with ⟨_, h2, h3⟩ | ⟨i, _, h2, h3⟩
    · rw [h3]; exact hs.zone _ _ _ _ h2
    · rw [h3]; exact .inr (Nat.le_trans hs.ag.1 (highp _ _ _ _ h2))
  · rcases cases' j _ hj with ⟨h1, h2⟩ | ⟨i, b0, rfl, h2, h3⟩
    · rw [hle.gone j n v c k h2]; exact Nat.lt_of_lt_of_le (hs.ltp j n v h2 c k) hHl
    · rw [hp]
      cases b0 with
      | gone m v' => exact hs'.ltp i m v' h2 c k
      | row r v' => simp [DBlk.shift] at h3
      | nest cols fl v' => simp [DBlk.shift] at h3
      | gen cs fl v' => simp only [DBlk.shift] at h3; split at h3 <;> cases h3
  · rw [hlow i (Nat.lt_of_lt_of_le hi hs.ag.1)]; exact hs.ag.2 i hi hn
  · rcases cases' j b hb with ⟨h1, h2⟩ | ⟨i, b0, rfl, h2, h3⟩
    · exact (hs.later hle).ok j b h2 |>.ext (Ext.push _ _)
    · exact bok b0 b h3 (hs'.ok i b0 h2)
  · rcases Nat.lt_or_ge i H.length with hl | hl
    · rw [hlow i hl] at hB; exact hs.own i B hB hi
    · exact hs'.own i B hB (.inr (by rw [h0]; exact hl))
end
abbrev DFn := List DV → List DBlk → Tree Rs
def COk (P : Program) (f : FuncId) (G : DFn) (pure : Bool) : Prop := ∀ (F : Fr) (L : List DBlk) (H : Heap) (args : List DV) (r : DV) (L' : List DBlk), St F L H → DVs.Ok F L args → (G args L).run = some (r, L') →
  ∃ F' H', FrLe F F' L ∧ FnOk P f (DVs.av F args) H (r.av F') H' ∧ St F' L' H' ∧ r.Ok F' L' ∧ Ext L L' ∧ ∀ j, j < L.length → (pure = true ∨ j ∉ reach L args) → L'[j]? = L[j]?
def tabD : List (FuncId × DFn × Bool) → DOr
  | [], _, _, _ => .fail
  | (g, G, _) :: l, f, args, L => (match Nat.beq f g with | true => G args L | false => tabD l f args L)
def tabM : List (FuncId × DFn × Bool) → FuncId → Bool
  | [], _ => false
  | (g, _, b) :: l, f => (match Nat.beq f g with | true => b | false => tabM l f)
theorem Ai_ (P : Program) : OrcOk P (tabD []) (tabM []) := fun F L H f args r L' _ _ h => by cases h
theorem Ae_ {P : Program} {g : FuncId} {G : DFn} {b : Bool} {l : List (FuncId × DFn × Bool)} (h : COk P g G b) (hl : OrcOk P (tabD l) (tabM l)) : OrcOk P (tabD ((g, G, b) :: l)) (tabM ((g, G, b) :: l)) := by
  intro F L H f args r L' hs ha hr
  simp only [tabD] at hr
  simp only [tabM]
  cases hb : Nat.beq f g with
  | true =>
    have := Nat.eq_of_beq_eq_true hb
    subst this
    rw [hb] at hr
    exact h F L H args r L' hs ha hr
  | false =>
    rw [hb] at hr
    exact hl F L H f args r L' hs ha hr
theorem Yf_ {P : Program} {f : FuncId} {F : Fr} {L : List DBlk} {H : Heap} (hs : St F L H) (ρ : Nat → AV) {args A : List DV} {r r' : DV} {L1 L2 : List DBlk}
    (h : ∀ F' : Fr, F'.H0 = H → F'.ids = [] → F'.ρ = ρ → DVs.av F' A = DVs.av F args ∧ ∃ F'' H', Fwd 0 F' F'' [] L1 ∧ FnOk P f (DVs.av F' A) F'.H0 (r.av F'') H' ∧ St F'' L1 H' ∧ r.Ok F'' L1)
    (h1 : r.shift L.length = some r') (h2 : Eg_ L.length L1 = some L2) :
    ∃ F' H', FrLe F F' L ∧ FnOk P f (DVs.av F args) H (r'.av F') H' ∧ St F' (L ++ L2) H' ∧ r'.Ok F' (L ++ L2) ∧ Ext L (L ++ L2) ∧ ∀ j, j < L.length → (true = true ∨ j ∉ reach L args) → (L ++ L2)[j]? = L[j]? := by
  obtain ⟨k0, C, H', kf, k1, k2, k3⟩ := h (frOf hs ρ) rfl rfl rfl
  obtain ⟨g, rfl⟩ := kf.base
  rw [k0] at k1
  refine ⟨F.join L.length ((frOf hs ρ).wa g), H', Xx_ F _ L, ?_, hs.join (C := (frOf hs ρ).wa g) rfl rfl k2 h2, Xj_ (C := (frOf hs ρ).wa g) (Qc_ h2).2 r r' h1 k3, Ext.push _ _, fun j hj _ => List.getElem?_append_left hj⟩
  rw [X2_ (T6_ F _ L.length) r r' h1]
  exact k1
end Go.Proofs.Ytmgpbchacndndaa.AM
