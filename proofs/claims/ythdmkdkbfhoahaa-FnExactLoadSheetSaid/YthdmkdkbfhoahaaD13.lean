/- Calls: what the callee sees of the caller's values. -/
import Derived.Test.YthdmkdkbfhoahaaD12
set_option linter.unusedSimpArgs false
set_option linter.unusedVariables false
namespace Go.Proofs.Ythdmkdkbfhoahaa.AM

section
variable {P : Program} {F : Fr} {L : List DBlk} {H : Heap}
theorem Ok_within (hs : St F L H) : ∀ (x : DV), x.Ok F L → (x.av F).within H.length = true := by
  have hj : ∀ j b, L[j]? = some b → F.abs j < H.length := fun j b h => (List.getElem?_eq_some_iff.1 (hs.blk j b h)).1
  intro x
  induction x using DV.rec (motive_2 := fun xs => DVs.Ok F L xs → AVs.within H.length (DVs.av F xs) = true) with
  | ptr j off ver alen => rintro ⟨b, h1, _⟩; simp [DV.av, AV.within, hj j b h1]
  | own j ver len => rintro ⟨b, h1, _⟩; simp [DV.av, AV.within, hj j b h1]
  | slc j off ver alen len => rintro ⟨b, h1, _⟩; simp [DV.av, AV.within, hj j b h1]
  | fn f cs ih => intro h; simp only [DV.av, AV.within]; exact ih h
  | agg cs ih => intro h; simp only [DV.av, AV.within]; exact ih h
  | tup cs ih => intro h; simp only [DV.av, AV.within]; exact ih h
  | bslc s r =>
    intro h
    simp only [DV.av]
    rcases h H hs.ag with ⟨e, _⟩ | ⟨p, B, e, k1, _⟩
    · rw [e]; rfl
    · rw [e]; simp [AV.within, (List.getElem?_eq_some_iff.1 k1).1]
  | hslc s n =>
    intro h
    simp only [DV.av]
    rcases h H hs.ag with ⟨e, _⟩ | ⟨p, B, e, k1, _⟩
    · rw [e]; rfl
    · rw [e]; simp [AV.within, (List.getElem?_eq_some_iff.1 k1).1]
  | bptr p cs ih =>
    intro h
    obtain ⟨r, B, e, k1, _⟩ := h.1 H hs.ag
    simp [DV.av, e, AV.within, (List.getElem?_eq_some_iff.1 k1).1]
  | nil => rename_i h; rfl
  | cons c cs ih1 ih2 => rename_i h; simp [DVs.av, AVs.within, ih1 h.1, ih2 h.2]
  | _ => intro _; rfl

theorem St.ws (hs : St F L H) : WS H := by
  intro i B hB c hc
  have hi : i < H.length := (List.getElem?_eq_some_iff.1 hB).1
  have blk : ∀ j b, L[j]? = some b → i = F.abs j → c.within H.length = true := fun j b hb he => by
    have := hs.blk j b hb
    rw [← he, hB] at this
    cases this
    cases b with
    | row r v => exact flat_within (r.cells_flat c hc)
    | gen cs fl v =>
      simp only [DBlk.blk, DVs.av_eq, List.mem_map] at hc
      obtain ⟨x, hx, rfl⟩ := hc
      exact Ok_within hs x (DVs.ok_iff.1 (hs.ok j _ hb).1 x hx)
  rcases Nat.lt_or_ge i F.H0.length with h | h
  · by_cases hm : i ∈ F.ids
    · obtain ⟨j, hj⟩ := List.getElem?_of_mem hm
      have hjl : j < L.length := Nat.lt_of_lt_of_le (List.getElem?_eq_some_iff.1 hj).1 hs.mle
      exact blk j _ (List.getElem?_eq_getElem hjl) (by unfold Fr.abs; rw [hj])
    · rw [hs.ag.2 i h hm] at hB
      exact within_mono hs.ag.1 c (F.ws i B hB c hc)
  · have hlen := hs.len
    have hmle := hs.mle
    have hjl : F.ids.length + (i - F.H0.length) < L.length := by omega
    exact blk _ _ (List.getElem?_eq_getElem hjl) (by rw [F.abs_ge (by omega)]; omega)

/-- The callee's beginning: nothing of the caller's is turned. -/
def frOf (hs : St F L H) (ρ : Nat → AV) : Fr := ⟨H, [], List.nodup_nil, (fun _ h => by cases h), hs.ws, ρ⟩
theorem Reads.keep {F' : Fr} {K : Heap} (hids : F'.ids = []) {s : AV} {r : Row} (h : Reads F'.H0 s r) (hK : F'.agree K) : Reads K s r := by
  rcases h with h | ⟨p, B, h1, h2, h3⟩
  · exact .inl h
  · refine .inr ⟨p, B, h1, ?_, h3⟩
    rw [hK.2 _ (List.getElem?_eq_some_iff.1 h2).1 (by rw [hids]; simp)]; exact h2
theorem Lens.keep {F' : Fr} {K : Heap} (hids : F'.ids = []) {s : AV} {n : Nat} (h : Lens F'.H0 s n) (hK : F'.agree K) : Lens K s n := by
  rcases h with h | ⟨p, B, h1, h2, h3⟩
  · exact .inl h
  · exact .inr ⟨p, B, h1, by rw [hK.2 _ (List.getElem?_eq_some_iff.1 h2).1 (by rw [hids]; simp)]; exact h2, h3⟩
theorem hslc_ok {F' : Fr} {L' : List DBlk} (hids : F'.ids = []) {s : BR} {n : Nat} (h : Lens F'.H0 (s.av F'.ρ) n) : (DV.hslc s n).Ok F' L' := fun K hK => h.keep hids hK
theorem bslc_ok {F' : Fr} {L' : List DBlk} (hids : F'.ids = []) {s : BR} {r : Row} (h : Reads F'.H0 (s.av F'.ρ) r) : (DV.bslc s r).Ok F' L' := fun K hK => h.keep hids hK
theorem bptr_ok {F' : Fr} {L' : List DBlk} (hids : F'.ids = []) {p : BR} {cs : List DV} (h : CellsAt F'.H0 (p.av F'.ρ) (DVs.av F' cs)) (hc : DVs.Ok F' L' cs) : (DV.bptr p cs).Ok F' L' := by
  refine ⟨fun K hK => ?_, hc⟩
  obtain ⟨r, B, h1, h2, h3⟩ := h
  refine ⟨r, B, h1, ?_, h3⟩
  rw [hK.2 _ (List.getElem?_eq_some_iff.1 h2).1 (by rw [hids]; simp)]; exact h2

/-! views -/
def lenV (L : List DBlk) : DV → Option Nat
  | .nilslc => some 0
  | .hslc _ n => some n
  | v => (match rowOf L v with | some r => some r.len | none => none)
theorem Reads.lens {H : Heap} {s : AV} {r : Row} (h : Reads H s r) : Lens H s r.len := by
  rcases h with h | ⟨p, B, h1, h2, h3, _, _, _, h4⟩
  · exact .inl h
  · exact .inr ⟨p, B, h1, h2, h3, by unfold maxN at h4; omega⟩
def rowF32 (L : List DBlk) : DV → Option (List Nat)
  | .nilslc => some []
  | v => (match rowOf L v with | some (.f32 xs) => some xs | _ => none)
def rowF64 (L : List DBlk) : DV → Option (List Nat)
  | .nilslc => some []
  | v => (match rowOf L v with | some (.f64 xs) => some xs | _ => none)
def rowI64 (L : List DBlk) : DV → Option (List Int)
  | .nilslc => some []
  | v => (match rowOf L v with | some (.i64 xs) => some xs | _ => none)
def rowU8 (L : List DBlk) : DV → Option (List Int)
  | .nilslc => some []
  | v => (match rowOf L v with | some (.u8 xs) => some xs | _ => none)
def rowB (L : List DBlk) : DV → Option (List Bool)
  | .nilslc => some []
  | v => (match rowOf L v with | some (.bool xs) => some xs | _ => none)
theorem lenV_ok (hs : St F L H) {v : DV} {n : Nat} (hv : v.Ok F L) (h : lenV L v = some n) : Lens H (v.av F) n := by
  unfold lenV at h
  split at h
  · cases h; exact .inl ⟨rfl, rfl⟩
  · cases h; exact hv H hs.ag
  · split at h
    · rename_i hr; cases h; exact (rowOf_ok hs hv hr).lens
    · cases h
theorem rowF32_ok (hs : St F L H) {v : DV} {xs : List Nat} (hv : v.Ok F L) (h : rowF32 L v = some xs) : Reads H (v.av F) (.f32 xs) := by
  unfold rowF32 at h
  split at h
  · cases h; exact .inl ⟨rfl, rfl⟩
  · split at h
    · rename_i hr; cases h; exact rowOf_ok hs hv hr
    · cases h
theorem rowF64_ok (hs : St F L H) {v : DV} {xs : List Nat} (hv : v.Ok F L) (h : rowF64 L v = some xs) : Reads H (v.av F) (.f64 xs) := by
  unfold rowF64 at h
  split at h
  · cases h; exact .inl ⟨rfl, rfl⟩
  · split at h
    · rename_i hr; cases h; exact rowOf_ok hs hv hr
    · cases h
theorem rowI64_ok (hs : St F L H) {v : DV} {xs : List Int} (hv : v.Ok F L) (h : rowI64 L v = some xs) : Reads H (v.av F) (.i64 xs) := by
  unfold rowI64 at h
  split at h
  · cases h; exact .inl ⟨rfl, rfl⟩
  · split at h
    · rename_i hr; cases h; exact rowOf_ok hs hv hr
    · cases h
theorem rowU8_ok (hs : St F L H) {v : DV} {xs : List Int} (hv : v.Ok F L) (h : rowU8 L v = some xs) : Reads H (v.av F) (.u8 xs) := by
  unfold rowU8 at h
  split at h
  · cases h; exact .inl ⟨rfl, rfl⟩
  · split at h
    · rename_i hr; cases h; exact rowOf_ok hs hv hr
    · cases h
theorem rowB_ok (hs : St F L H) {v : DV} {xs : List Bool} (hv : v.Ok F L) (h : rowB L v = some xs) : Reads H (v.av F) (.bool xs) := by
  unfold rowB at h
  split at h
  · cases h; exact .inl ⟨rfl, rfl⟩
  · split at h
    · rename_i hr; cases h; exact rowOf_ok hs hv hr
    · cases h
def boD : DV → Option Bool
  | .bool b => some b
  | .lit b => some b
  | _ => none
theorem boD_av {v : DV} {b : Bool} (h : boD v = some b) : v.av F = .bool b := by
  unfold boD at h
  split at h <;> cases h <;> rfl
/-- The cells that a pointer leads to. -/
def cellsOf (L : List DBlk) (n : Nat) : DV → Option (List DV)
  | .ptr j off ver _ => (match good L j ver with | some (.gen cs _ _) => (match Nat.ble (off + n) cs.length with | true => some ((cs.drop off).take n) | false => none) | _ => none)
  | .bptr _ cs => (match Nat.ble n cs.length with | true => some (cs.take n) | false => none)
  | _ => none
theorem cellsOf_ok (hs : St F L H) {n : Nat} {v : DV} {cs : List DV} (hv : v.Ok F L) (h : cellsOf L n v = some cs) : CellsAt H (v.av F) (DVs.av F cs) ∧ DVs.Ok F L cs := by
  unfold cellsOf at h
  split at h
  · rename_i j off ver alen
    obtain ⟨b, h1, h2, h3, h4, h5⟩ := hv
    split at h
    · rename_i cs' fl v' hg
      obtain ⟨g1, g2⟩ := good_spec hg
      rw [h1] at g1; cases g1
      have hal := h5 g2.symm
      split at h
      · rename_i hle
        have hle := Nat.le_of_ble_eq_true hle
        cases h
        refine ⟨⟨_, _, rfl, hs.blk j _ h1, by rw [DBlk.blk_len]; exact hal, ?_, ?_⟩, DVs.ok_iff.2 fun c hc => DVs.ok_iff.1 (hs.ok j _ h1).1 c (List.mem_of_mem_drop (List.mem_of_mem_take hc))⟩
        · rw [DBlk.blk_len]; simp [DBlk.clen]; omega
        · simp only [DBlk.blk, DVs.av_len, DVs.av_eq, List.length_map, ← List.map_drop, ← List.map_take]
          congr 1
          rw [List.take_eq_take_iff]
          simp
      · cases h
    · cases h
  · rename_i p cs'
    split at h
    · rename_i hle
      have hle := Nat.le_of_ble_eq_true hle
      cases h
      obtain ⟨r, B, e, k1, k2, k3, k4⟩ := hv.1 H hs.ag
      simp only [DVs.av_len] at k3 k4
      refine ⟨⟨r, B, by simp only [DV.av]; exact e, k1, k2, ?_, ?_⟩, DVs.ok_iff.2 fun c hc => DVs.ok_iff.1 hv.2 c (List.mem_of_mem_take hc)⟩
      · simp; omega
      · have : DVs.av F (cs'.take n) = (DVs.av F cs').take n := by simp [DVs.av_eq, List.map_take]
        rw [this, ← k4]
        simp only [List.length_take, List.take_take]
        congr 1
        have hl : (B.cells.drop r.off).length = B.cells.length - r.off := by simp
        omega
    · cases h
  · cases h

/-! what the callee hands back -/
mutual
def DV.shift (n : Nat) : DV → Option DV
  | .ptr j off ver alen => some (.ptr (n + j) off ver alen)
  | .own j ver len => some (.own (n + j) ver len)
  | .slc j off ver alen len => some (.slc (n + j) off ver alen len)
  | .fn f cs => (match DVs.shift n cs with | some cs' => some (.fn f cs') | none => none)
  | .agg cs => (match DVs.shift n cs with | some cs' => some (.agg cs') | none => none)
  | .tup cs => (match DVs.shift n cs with | some cs' => some (.tup cs') | none => none)
  | .bslc _ _ => none
  | .hslc _ _ => none
  | .bptr _ _ => none
  | v => some v
def DVs.shift (n : Nat) : List DV → Option (List DV)
  | [] => some []
  | c :: cs => (match c.shift n, DVs.shift n cs with | some c', some cs' => some (c' :: cs') | _, _ => none)
end
def DBlk.shift (n : Nat) : DBlk → Option DBlk
  | .row r v => some (.row r v)
  | .gen cs fl v => (match DVs.shift n cs with | some cs' => some (.gen cs' fl v) | none => none)
def shiftB (n : Nat) : List DBlk → Option (List DBlk)
  | [] => some []
  | b :: bs => (match b.shift n, shiftB n bs with | some b', some bs' => some (b' :: bs') | _, _ => none)
theorem shiftB_spec {n : Nat} : ∀ {bs bs' : List DBlk}, shiftB n bs = some bs' → bs'.length = bs.length ∧ ∀ (i : Nat) (b : DBlk), bs[i]? = some b → ∃ b', bs'[i]? = some b' ∧ b.shift n = some b'
  | [], bs', h => by simp only [shiftB, Option.some.injEq] at h; subst h; exact ⟨rfl, by simp⟩
  | b :: bs, bs', h => by
    simp only [shiftB] at h
    split at h
    · rename_i b1 bs1 h1 h2
      cases h
      obtain ⟨k1, k2⟩ := shiftB_spec h2
      refine ⟨by simp [k1], fun i c hc => ?_⟩
      cases i with
      | zero => simp at hc; subst hc; exact ⟨b1, rfl, h1⟩
      | succ i => exact k2 i c (by simpa using hc)
    · cases h

variable {F' : Fr} {L1 L2 : List DBlk} {H' : Heap}
theorem join_abs (hs : St F L H) (h0 : F'.H0 = H) (hids : F'.ids = []) (j : Nat) : F.abs (L.length + j) = F'.abs j := by
  have := hs.mle
  have := hs.len
  rw [F.abs_ge (by omega), F'.abs_ge (by rw [hids]; simp), h0, hids]
  simp; omega
theorem shift_av (hs : St F L H) (h0 : F'.H0 = H) (hids : F'.ids = []) : ∀ (x x' : DV), x.shift L.length = some x' → x'.av F = x.av F' := by
  have habs := join_abs hs h0 hids
  intro x
  induction x using DV.rec (motive_2 := fun xs => ∀ xs', DVs.shift L.length xs = some xs' → DVs.av F xs' = DVs.av F' xs) with
  | ptr j off ver alen => intro x' h; simp only [DV.shift, Option.some.injEq] at h; subst h; simp [DV.av, habs]
  | own j ver len => intro x' h; simp only [DV.shift, Option.some.injEq] at h; subst h; simp [DV.av, habs]
  | slc j off ver alen len => intro x' h; simp only [DV.shift, Option.some.injEq] at h; subst h; simp [DV.av, habs]
  | fn f cs ih => intro x' h; simp only [DV.shift] at h; split at h <;> cases h; rename_i cs' hcs; simp [DV.av, ih cs' hcs]
  | agg cs ih => intro x' h; simp only [DV.shift] at h; split at h <;> cases h; rename_i cs' hcs; simp [DV.av, ih cs' hcs]
  | tup cs ih => intro x' h; simp only [DV.shift] at h; split at h <;> cases h; rename_i cs' hcs; simp [DV.av, ih cs' hcs]
  | bslc s r => intro x' h; cases h
  | hslc s n => intro x' h; cases h
  | bptr p cs ih => intro x' h; cases h
  | nil => rename_i xs' h; simp only [DVs.shift, Option.some.injEq] at h; subst h; rfl
  | cons c cs ih1 ih2 => rename_i xs' h; simp only [DVs.shift] at h; split at h <;> cases h; rename_i c' cs' h1 h2; simp [DVs.av, ih1 c' h1, ih2 cs' h2]
  | _ => intro x' h; simp only [DV.shift, Option.some.injEq] at h; subst h; rfl
theorem shift_len {n : Nat} {b b' : DBlk} (h : b.shift n = some b') : b'.clen = b.clen ∧ b'.ver = b.ver := by
  cases b with
  | row r v => simp only [DBlk.shift, Option.some.injEq] at h; subst h; exact ⟨rfl, rfl⟩
  | gen cs fl v =>
    simp only [DBlk.shift] at h
    split at h <;> cases h
    rename_i cs' hcs
    refine ⟨?_, rfl⟩
    have : ∀ (cs cs' : List DV), DVs.shift n cs = some cs' → cs'.length = cs.length := by
      intro cs
      induction cs with
      | nil => intro cs' h; simp only [DVs.shift, Option.some.injEq] at h; subst h; rfl
      | cons c cs ih => intro cs' h; simp only [DVs.shift] at h; split at h <;> cases h; rename_i c' cs' h1 h2; simp [ih cs' h2]
    exact this cs cs' hcs
theorem shift_ok (hL : ∀ (i : Nat) (b : DBlk), L1[i]? = some b → ∃ b', L2[i]? = some b' ∧ b.shift L.length = some b') : ∀ (x x' : DV), x.shift L.length = some x' → x.Ok F' L1 → x'.Ok F (L ++ L2) := by
  have get : ∀ (j : Nat) (b : DBlk), L1[j]? = some b → ∃ b', (L ++ L2)[L.length + j]? = some b' ∧ b'.clen = b.clen ∧ b'.ver = b.ver := fun j b h => by
    obtain ⟨b', h1, h2⟩ := hL j b h
    exact ⟨b', by rw [List.getElem?_append_right (by omega)]; simpa using h1, shift_len h2⟩
  intro x
  induction x using DV.rec (motive_2 := fun xs => ∀ xs', DVs.shift L.length xs = some xs' → DVs.Ok F' L1 xs → DVs.Ok F (L ++ L2) xs') with
  | ptr j off ver alen =>
    intro x' h ⟨b, h1, h2⟩
    simp only [DV.shift, Option.some.injEq] at h; subst h
    obtain ⟨b', k1, k2, k3⟩ := get j b h1
    exact ⟨b', k1, by rw [k2, k3]; exact h2⟩
  | own j ver len =>
    intro x' h ⟨b, h1, h2⟩
    simp only [DV.shift, Option.some.injEq] at h; subst h
    obtain ⟨b', k1, k2, k3⟩ := get j b h1
    exact ⟨b', k1, by rw [k2, k3]; exact h2⟩
  | slc j off ver alen len =>
    intro x' h ⟨b, h1, h2⟩
    simp only [DV.shift, Option.some.injEq] at h; subst h
    obtain ⟨b', k1, k2, k3⟩ := get j b h1
    exact ⟨b', k1, by rw [k2, k3]; exact h2⟩
  | fn f cs ih => intro x' h hx; simp only [DV.shift] at h; split at h <;> cases h; rename_i cs' hcs; exact ih cs' hcs hx
  | agg cs ih => intro x' h hx; simp only [DV.shift] at h; split at h <;> cases h; rename_i cs' hcs; exact ih cs' hcs hx
  | tup cs ih => intro x' h hx; simp only [DV.shift] at h; split at h <;> cases h; rename_i cs' hcs; exact ih cs' hcs hx
  | bslc s r => intro x' h; cases h
  | hslc s n => intro x' h; cases h
  | bptr p cs ih => intro x' h; cases h
  | nil => rename_i xs' h hx; simp only [DVs.shift, Option.some.injEq] at h; subst h; trivial
  | cons c cs ih1 ih2 => rename_i xs' h hx; simp only [DVs.shift] at h; split at h <;> cases h; rename_i c' cs' h1 h2; exact ⟨ih1 c' h1 hx.1, ih2 cs' h2 hx.2⟩
  | _ => intro x' h _; simp only [DV.shift, Option.some.injEq] at h; subst h; trivial

/-- The caller's state behind a call that turns nothing of his. -/
theorem St.join (hs : St F L H) (h0 : F'.H0 = H) (hids : F'.ids = []) (hs' : St F' L1 H') (hsh : shiftB L.length L1 = some L2) : St F (L ++ L2) H' := by
  obtain ⟨l1, l2⟩ := shiftB_spec hsh
  have habs := join_abs hs h0 hids
  have hlen := hs.len
  have hmle := hs.mle
  have hlen' := hs'.len
  rw [h0, hids] at hlen'
  simp only [List.length_nil, Nat.sub_zero] at hlen'
  have hlow : ∀ i, i < H.length → H'[i]? = H[i]? := fun i hi => by
    have := hs'.ag.2 i (by rw [h0]; exact hi) (by rw [hids]; simp)
    rw [this, h0]
  have hget : ∀ (i : Nat) (b : DBlk), L2[i]? = some b → ∃ b0, L1[i]? = some b0 ∧ b0.shift L.length = some b := fun i b hb => by
    have hi : i < L1.length := by rw [← l1]; exact (List.getElem?_eq_some_iff.1 hb).1
    obtain ⟨b', k1, k2⟩ := l2 i _ (List.getElem?_eq_getElem hi)
    rw [hb] at k1; cases k1
    exact ⟨_, List.getElem?_eq_getElem hi, k2⟩
  have bav : ∀ b0 b, DBlk.shift L.length b0 = some b → b.blk F = b0.blk F' := fun b0 b h => by
    cases b0 with
    | row r v => simp only [DBlk.shift, Option.some.injEq] at h; subst h; rfl
    | gen cs fl v =>
      simp only [DBlk.shift] at h
      split at h <;> cases h
      rename_i cs' hcs
      have := shift_av (F' := F') hs h0 hids (.agg cs) (.agg cs') (by simp only [DV.shift, hcs])
      simp only [DV.av, AV.agg.injEq] at this
      simp [DBlk.blk, this]
  have bok : ∀ b0 b, DBlk.shift L.length b0 = some b → b0.Ok F' L1 → b.Ok F (L ++ L2) := fun b0 b h hk => by
    cases b0 with
    | row r v => simp only [DBlk.shift, Option.some.injEq] at h; subst h; exact hk
    | gen cs fl v =>
      simp only [DBlk.shift] at h
      split at h <;> cases h
      rename_i cs' hcs
      refine ⟨shift_ok (F := F) (F' := F') l2 (.agg cs) (.agg cs') (by simp only [DV.shift, hcs]) hk.1, fun hf c hc => ?_⟩
      have : ∀ (cs cs' : List DV), DVs.shift L.length cs = some cs' → (∀ c ∈ cs, c.flat = true) → ∀ c ∈ cs', c.flat = true := by
        intro cs
        induction cs with
        | nil => intro cs' h; simp only [DVs.shift, Option.some.injEq] at h; subst h; simp
        | cons a cs ih =>
          intro cs' h hfl
          simp only [DVs.shift] at h
          split at h <;> cases h
          rename_i a' cs'' h1 h2
          intro c hc
          rcases List.mem_cons.1 hc with rfl | hc
          · have := hfl a (by simp)
            cases a <;> simp [DV.flat] at this <;> simp only [DV.shift, Option.some.injEq] at h1 <;> subst h1 <;> rfl
          · exact ih cs'' h2 (fun c hc => hfl c (by simp [hc])) c hc
      exact this cs cs' hcs (hk.2 hf) c hc
  refine ⟨by simp [l1]; omega, by simp; omega, fun j b hb => ?_, ⟨by have := hs.ag.1; omega, fun i hi hn => ?_⟩, fun j b hb => ?_⟩
  · rw [List.getElem?_append] at hb
    split at hb
    · have := hs.blk j b hb
      rw [hlow _ (List.getElem?_eq_some_iff.1 this).1]; exact this
    · rename_i hj
      obtain ⟨b0, k1, k2⟩ := hget _ b hb
      have := hs'.blk _ b0 k1
      rw [bav b0 b k2, ← this, ← habs]
      congr 2; omega
  · rw [hlow i (by have := hs.ag.1; omega)]; exact hs.ag.2 i hi hn
  · rw [List.getElem?_append] at hb
    split at hb
    · exact (hs.ok j b hb).ext (Ext.push _ _)
    · obtain ⟨b0, k1, k2⟩ := hget _ b hb
      exact bok b0 b k2 (hs'.ok _ b0 k1)
end

/-! tables -/
abbrev DFn := List DV → List DBlk → Tree Rs
def COk (P : Program) (f : FuncId) (G : DFn) (pure : Bool) : Prop := ∀ (F : Fr) (L : List DBlk) (H : Heap) (args : List DV) (r : DV) (L' : List DBlk), St F L H → DVs.Ok F L args → (G args L).run = some (r, L') →
  ∃ H', FnOk P f (DVs.av F args) H (r.av F) H' ∧ St F L' H' ∧ r.Ok F L' ∧ Ext L L' ∧ ∀ j, j < L.length → (pure = true ∨ j ∉ reach L args) → L'[j]? = L[j]?
def tabD : List (FuncId × DFn × Bool) → DOr
  | [], _, _, _ => .fail
  | (g, G, _) :: l, f, args, L => (match Nat.beq f g with | true => G args L | false => tabD l f args L)
def tabM : List (FuncId × DFn × Bool) → FuncId → Bool
  | [], _ => false
  | (g, _, b) :: l, f => (match Nat.beq f g with | true => b | false => tabM l f)
theorem tabD_nil (P : Program) : OrcOk P (tabD []) (tabM []) := fun F L H f args r L' _ _ h => by cases h
theorem tabD_cons {P : Program} {g : FuncId} {G : DFn} {b : Bool} {l : List (FuncId × DFn × Bool)} (h : COk P g G b) (hl : OrcOk P (tabD l) (tabM l)) : OrcOk P (tabD ((g, G, b) :: l)) (tabM ((g, G, b) :: l)) := by
  intro F L H f args r L' hs ha hr
  simp only [tabD] at hr
  simp only [tabM]
  cases hb : Nat.beq f g with
  | true =>
    have := Nat.eq_of_beq_eq_true hb
    subst this
    rw [hb] at hr
    exact h F L H args r L' hs ha hr
  | false =>
    rw [hb] at hr
    exact hl F L H f args r L' hs ha hr
/-- Two ways to meet a function. -/
def orD (p : List DV → Bool) (G G' : DFn) : DFn := fun args L => match p args with | true => G args L | false => G' args L
theorem orD_ok {P : Program} {f : FuncId} {p : List DV → Bool} {G G' : DFn} {b : Bool} (h : COk P f G b) (h' : COk P f G' b) : COk P f (orD p G G') b := by
  intro F L H args r L' hs ha hr
  unfold orD at hr
  split at hr
  · exact h F L H args r L' hs ha hr
  · exact h' F L H args r L' hs ha hr

/-- A contract out of what is known of the function itself: it turns nothing that was there. -/
theorem call_ok {P : Program} {f : FuncId} {F : Fr} {L : List DBlk} {H : Heap} (hs : St F L H) (ρ : Nat → AV) {args A : List DV} {r r' : DV} {L1 L2 : List DBlk}
    (h : ∀ F' : Fr, F'.H0 = H → F'.ids = [] → F'.ρ = ρ → DVs.av F' A = DVs.av F args ∧ ∃ H', FnOk P f (DVs.av F' A) F'.H0 (r.av F') H' ∧ St F' L1 H' ∧ r.Ok F' L1)
    (h1 : r.shift L.length = some r') (h2 : shiftB L.length L1 = some L2) :
    ∃ H', FnOk P f (DVs.av F args) H (r'.av F) H' ∧ St F (L ++ L2) H' ∧ r'.Ok F (L ++ L2) ∧ Ext L (L ++ L2) ∧ ∀ j, j < L.length → (true = true ∨ j ∉ reach L args) → (L ++ L2)[j]? = L[j]? := by
  obtain ⟨k0, H', k1, k2, k3⟩ := h (frOf hs ρ) rfl rfl rfl
  rw [k0] at k1
  refine ⟨H', ?_, hs.join (F' := frOf hs ρ) rfl rfl k2 h2, shift_ok (F' := frOf hs ρ) (shiftB_spec h2).2 r r' h1 k3, Ext.push _ _, fun j hj _ => List.getElem?_append_left hj⟩
  rw [shift_av hs (F' := frOf hs ρ) rfl rfl r r' h1]
  exact k1
end Go.Proofs.Ythdmkdkbfhoahaa.AM
