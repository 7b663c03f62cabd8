/- Calls that turn rows of their arguments. -/
import Derived.Test.YthdmkdkbfhoahaaD15
set_option linter.unusedSimpArgs false
set_option linter.unusedVariables false
namespace Go.Proofs.Ythdmkdkbfhoahaa.AM

def verAt (L : List DBlk) (j : Nat) : Nat := match L[j]? with | some b => b.ver | none => 0
def setRows : List DBlk → List (Nat × Row) → List DBlk
  | L, [] => L
  | L, (j, r) :: l => setRows (L.set j (.row r (verAt L j))) l
theorem setRows_len : ∀ (l : List (Nat × Row)) (L : List DBlk), (setRows L l).length = L.length
  | [], L => rfl
  | (j, r) :: l, L => by simp only [setRows]; rw [setRows_len l]; simp
theorem setRows_not : ∀ (l : List (Nat × Row)) (L : List DBlk) (i : Nat), i ∉ l.map (·.1) → (setRows L l)[i]? = L[i]?
  | [], L, i, _ => rfl
  | (j, r) :: l, L, i, h => by
    simp only [List.map_cons, List.mem_cons, not_or] at h
    simp only [setRows]
    rw [setRows_not l _ i h.2, List.getElem?_set, if_neg (fun e => h.1 e.symm)]
theorem setRows_in : ∀ (l : List (Nat × Row)) (L : List DBlk) (j : Nat) (r : Row) (b : DBlk), (l.map (·.1)).Nodup → (j, r) ∈ l → L[j]? = some b → (setRows L l)[j]? = some (.row r b.ver)
  | (j', r') :: l, L, j, r, b, hnd, hm, hb => by
    simp only [List.map_cons, List.nodup_cons] at hnd
    simp only [setRows]
    rcases List.mem_cons.1 hm with h | h
    · obtain ⟨rfl, rfl⟩ := Prod.mk.inj h
      rw [setRows_not l _ _ hnd.1, List.getElem?_set, if_pos rfl, if_pos (List.getElem?_eq_some_iff.1 hb).1]
      simp [verAt, hb]
    · have hne : j' ≠ j := fun e => hnd.1 (e ▸ List.mem_map.2 ⟨_, h, rfl⟩)
      exact setRows_in l _ j r b hnd.2 h (by rw [List.getElem?_set, if_neg hne]; exact hb)

section
variable {P : Program} {F : Fr} {L : List DBlk} {H : Heap}
theorem rowOf_at {K : Heap} (hag : F.agree K) {v : DV} {r : Row} (hblk : ∀ j ∈ v.refs, ∀ b, L[j]? = some b → K[F.abs j]? = some (b.blk F)) (hv : v.Ok F L) (h : rowOf L v = some r) : Reads K (v.av F) r := by
  cases v with
  | own j ver len =>
    obtain ⟨b, h1, h2, h3, h4, h5⟩ := hv
    simp only [rowOf] at h
    split at h
    · rename_i r' v' hg
      cases h
      obtain ⟨g1, g2⟩ := good_spec hg
      rw [h1] at g1; cases g1
      have hl : len = r.len := h4 g2.symm
      subst hl
      refine .inr ⟨_, _, rfl, hblk j (by simp [DV.refs]) _ h1, ?_, rfl, ?_, ?_, h5⟩
      · exact r.cells_len.symm
      · simp [DBlk.blk, r.cells_len]
      · simp only [DBlk.blk, List.drop_zero]; rw [← r.cells_len, List.take_length]
    · cases h
  | slc j off ver alen len =>
    obtain ⟨b, h1, h2, h3, h4, h5, h6⟩ := hv
    simp only [rowOf] at h
    split at h
    · rename_i r' v' hg
      cases h
      obtain ⟨g1, g2⟩ := good_spec hg
      rw [h1] at g1; cases g1
      have hl : alen = r'.len := h5 g2.symm
      subst hl
      have hsl : (r'.sub off (off + len : Nat)).len = len := by
        rw [r'.sub_len _ _ (sok_iff.2 ⟨by omega, by omega, by omega⟩)]; omega
      refine .inr ⟨⟨F.abs j, off, r'.len⟩, _, by rw [hsl]; rfl, hblk j (by simp [DV.refs]) _ h1, ?_, rfl, ?_, ?_, by rw [hsl]; exact h6⟩
      · exact r'.cells_len.symm
      · rw [hsl]; show off + len ≤ r'.cells.length; rw [r'.cells_len]; omega
      · rw [hsl, r'.sub_cells]
        simp only [DBlk.blk, AM.sub, Int.toNat_natCast, List.drop_take]
        congr 1; omega
    · cases h
  | bslc s r' =>
    simp only [rowOf] at h
    cases h
    exact hv K hag
  | _ => simp [rowOf] at h
/-- What a callee sees that turns the rows js of the caller's. -/
def Sees (F F' : Fr) (L : List DBlk) (js : List Nat) : Prop := ∀ K, F'.agree K → F.agree K ∧ ∀ (j : Nat) (b : DBlk), L[j]? = some b → j ∉ js → K[F.abs j]? = some (b.blk F)
theorem bslcM {F' : Fr} {L' : List DBlk} {js : List Nat} (hS : Sees F F' L js) {v : DV} {r : Row} {s : BR} (hs : s.av F'.ρ = v.av F) (hj : ∀ j ∈ v.refs, j ∉ js) (hv : v.Ok F L) (h : (v = .nilslc ∧ r.len = 0) ∨ rowOf L v = some r) : (DV.bslc s r).Ok F' L' := by
  intro K hK
  obtain ⟨k1, k2⟩ := hS K hK
  rw [hs]
  rcases h with ⟨rfl, h0⟩ | h
  · exact .inl ⟨rfl, h0⟩
  · exact rowOf_at k1 (fun j hjm b hb => k2 j b hb (hj j hjm)) hv h
theorem rowF32_or {v : DV} {xs : List Nat} (h : rowF32 L v = some xs) : (v = .nilslc ∧ (Row.f32 xs).len = 0) ∨ rowOf L v = some (.f32 xs) := by
  unfold rowF32 at h
  split at h
  · cases h; exact .inl ⟨rfl, rfl⟩
  · split at h
    · rename_i hr; cases h; exact .inr hr
    · cases h
theorem rowF64_or {v : DV} {xs : List Nat} (h : rowF64 L v = some xs) : (v = .nilslc ∧ (Row.f64 xs).len = 0) ∨ rowOf L v = some (.f64 xs) := by
  unfold rowF64 at h
  split at h
  · cases h; exact .inl ⟨rfl, rfl⟩
  · split at h
    · rename_i hr; cases h; exact .inr hr
    · cases h
theorem rowI64_or {v : DV} {xs : List Int} (h : rowI64 L v = some xs) : (v = .nilslc ∧ (Row.i64 xs).len = 0) ∨ rowOf L v = some (.i64 xs) := by
  unfold rowI64 at h
  split at h
  · cases h; exact .inl ⟨rfl, rfl⟩
  · split at h
    · rename_i hr; cases h; exact .inr hr
    · cases h
theorem rowU8_or {v : DV} {xs : List Int} (h : rowU8 L v = some xs) : (v = .nilslc ∧ (Row.u8 xs).len = 0) ∨ rowOf L v = some (.u8 xs) := by
  unfold rowU8 at h
  split at h
  · cases h; exact .inl ⟨rfl, rfl⟩
  · split at h
    · rename_i hr; cases h; exact .inr hr
    · cases h
theorem rowB_or {v : DV} {xs : List Bool} (h : rowB L v = some xs) : (v = .nilslc ∧ (Row.bool xs).len = 0) ∨ rowOf L v = some (.bool xs) := by
  unfold rowB at h
  split at h
  · cases h; exact .inl ⟨rfl, rfl⟩
  · split at h
    · rename_i hr; cases h; exact .inr hr
    · cases h

/-- A row that may be turned. -/
def ownR (L : List DBlk) : DV → Option (Nat × Row)
  | .own j ver _ => (match good L j ver with | some (.row r _) => some (j, r) | _ => none)
  | _ => none
def ownF32 (L : List DBlk) (v : DV) : Option (Nat × List Nat) := match ownR L v with | some (j, .f32 xs) => some (j, xs) | _ => none
def ownF64 (L : List DBlk) (v : DV) : Option (Nat × List Nat) := match ownR L v with | some (j, .f64 xs) => some (j, xs) | _ => none
def ownI64 (L : List DBlk) (v : DV) : Option (Nat × List Int) := match ownR L v with | some (j, .i64 xs) => some (j, xs) | _ => none
def ownU8 (L : List DBlk) (v : DV) : Option (Nat × List Int) := match ownR L v with | some (j, .u8 xs) => some (j, xs) | _ => none
def ownB (L : List DBlk) (v : DV) : Option (Nat × List Bool) := match ownR L v with | some (j, .bool xs) => some (j, xs) | _ => none
theorem ownF32_or {v : DV} {j : Nat} {xs : List Nat} (h : ownF32 L v = some (j, xs)) : ownR L v = some (j, .f32 xs) := by
  unfold ownF32 at h; split at h <;> cases h; assumption
theorem ownF64_or {v : DV} {j : Nat} {xs : List Nat} (h : ownF64 L v = some (j, xs)) : ownR L v = some (j, .f64 xs) := by
  unfold ownF64 at h; split at h <;> cases h; assumption
theorem ownI64_or {v : DV} {j : Nat} {xs : List Int} (h : ownI64 L v = some (j, xs)) : ownR L v = some (j, .i64 xs) := by
  unfold ownI64 at h; split at h <;> cases h; assumption
theorem ownU8_or {v : DV} {j : Nat} {xs : List Int} (h : ownU8 L v = some (j, xs)) : ownR L v = some (j, .u8 xs) := by
  unfold ownU8 at h; split at h <;> cases h; assumption
theorem ownB_or {v : DV} {j : Nat} {xs : List Bool} (h : ownB L v = some (j, xs)) : ownR L v = some (j, .bool xs) := by
  unfold ownB at h; split at h <;> cases h; assumption
theorem ownR_spec {v : DV} {j : Nat} {r : Row} (hv : v.Ok F L) (h : ownR L v = some (j, r)) : (∃ ver, L[j]? = some (.row r ver)) ∧ j ∈ v.refs ∧ v.av F = .slc ⟨F.abs j, 0, r.len⟩ r.len ∧ r.len ≤ maxN := by
  unfold ownR at h
  split at h
  · rename_i j' ver len
    obtain ⟨b, h1, h2, h3, h4, h5⟩ := hv
    split at h
    · rename_i r' v' hg
      cases h
      obtain ⟨g1, g2⟩ := good_spec hg
      rw [h1] at g1; cases g1
      have hl : len = r.len := h4 g2.symm
      subst hl
      exact ⟨⟨_, h1⟩, by simp [DV.refs], rfl, h5⟩
    · cases h
  · cases h
/-- The rows are apart from one another and from what the other values lead to. -/
def sepB (js : List Nat) (vs : List DV) : Bool := nodupB js && (DVs.refs vs).all fun r => !js.any (Nat.beq r)
theorem sepB_spec {js : List Nat} {vs : List DV} (h : sepB js vs = true) : js.Nodup ∧ ∀ v ∈ vs, ∀ j ∈ v.refs, j ∉ js := by
  simp only [sepB, Bool.and_eq_true] at h
  refine ⟨nodupB_spec h.1, fun v hv j hj hm => ?_⟩
  have := List.all_eq_true.1 h.2 j (DVs.refs_mem.2 ⟨v, hv, hj⟩)
  simp only [Bool.not_eq_true', List.any_eq_false] at this
  exact this j hm (by simp)

theorem mut_ok {f : FuncId} (hs : St F L H) (ρ : Nat → AV) (args A : List DV) {r r' : DV} (js : List Nat) (rs rs' : List Row) (hnd : js.Nodup) (hl : rs.length = js.length) (hl' : rs'.length = js.length)
    (hrows : ∀ (i j : Nat) (q : Row), js[i]? = some j → rs[i]? = some q → ∃ v, L[j]? = some (.row q v)) (hsame : ∀ (i : Nat) (q q' : Row), rs[i]? = some q → rs'[i]? = some q' → q'.len = q.len) (hsub : ∀ j ∈ js, j ∈ DVs.refs args)
    (h : ∀ F' : Fr, F'.H0 = H → F'.ids = js.map F.abs → F'.ρ = ρ → St F' (rs.map fun q => .row q 0) F'.H0 → Sees F F' L js → DVs.av F' A = DVs.av F args ∧
      ∃ H', FnOk P f (DVs.av F' A) F'.H0 (r.av F') H' ∧ St F' (rs'.map fun q => .row q 0) H')
    (hr : ∀ F' : Fr, r'.av F = r.av F') (hro : ∀ L', r'.Ok F L') :
    ∃ H', FnOk P f (DVs.av F args) H (r'.av F) H' ∧ St F (setRows L (js.zip rs')) H' ∧ r'.Ok F (setRows L (js.zip rs')) ∧ Ext L (setRows L (js.zip rs')) ∧ ∀ j, j < L.length → (false = true ∨ j ∉ reach L args) → (setRows L (js.zip rs'))[j]? = L[j]? := by
  have hjl : ∀ j ∈ js, j < L.length := fun j hj => by
    obtain ⟨i, hi⟩ := List.getElem?_of_mem hj
    have hil : i < rs.length := by rw [hl]; exact (List.getElem?_eq_some_iff.1 hi).1
    obtain ⟨v, hv⟩ := hrows i j _ hi (List.getElem?_eq_getElem hil)
    exact (List.getElem?_eq_some_iff.1 hv).1
  have hal : ∀ j, j < L.length → F.abs j < H.length := fun j hj => (List.getElem?_eq_some_iff.1 (hs.blk j _ (List.getElem?_eq_getElem hj))).1
  obtain ⟨F', hF'⟩ : ∃ F' : Fr, F'.H0 = H ∧ F'.ids = js.map F.abs ∧ F'.ρ = ρ := ⟨⟨H, js.map F.abs, List.pairwise_map.2 (List.Pairwise.imp (fun hne e => hne (F.abs_inj e)) hnd), fun i hi => by
    rw [List.mem_map] at hi; obtain ⟨j, hj, rfl⟩ := hi; exact hal j (hjl j hj), hs.ws, ρ⟩, rfl, rfl, rfl⟩
  obtain ⟨f0, f1, f2⟩ := hF'
  have fabs : ∀ i j, js[i]? = some j → F'.abs i = F.abs j := fun i j hij => by
    unfold Fr.abs
    rw [f1, List.getElem?_map, hij]
    rfl
  have agr : ∀ K, F'.agree K → F.agree K ∧ ∀ (j : Nat) (b : DBlk), L[j]? = some b → j ∉ js → K[F.abs j]? = some (b.blk F) := fun K hK => by
    have hK1 := hK.1
    rw [f0] at hK1
    have e : ∀ i, i < H.length → i ∉ js.map F.abs → K[i]? = H[i]? := fun i hi hn => by
      have := hK.2 i (by rw [f0]; exact hi) (by rw [f1]; exact hn)
      rw [this, f0]
    refine ⟨⟨Nat.le_trans hs.ag.1 hK1, fun i hi hn => ?_⟩, fun j b hb hj => ?_⟩
    · rw [e i (Nat.lt_of_lt_of_le hi hs.ag.1) (fun hm => by rw [List.mem_map] at hm; obtain ⟨j, _, hj⟩ := hm; exact F.abs_out hi hn hj)]
      exact hs.ag.2 i hi hn
    · rw [e _ (hal j (List.getElem?_eq_some_iff.1 hb).1) (fun hm => by rw [List.mem_map] at hm; obtain ⟨j', h1, h2⟩ := hm; have := F.abs_inj h2; subst this; exact hj h1)]
      exact hs.blk j b hb
  have hst0 : St F' (rs.map fun q => .row q 0) F'.H0 := by
    refine ⟨by rw [f1]; simp [hl], by rw [f1]; simp [hl], fun i b hb => ?_, agree_refl _, fun i b hb => ?_⟩
    · rw [List.getElem?_map] at hb
      cases hq : rs[i]? with
      | none => rw [hq] at hb; cases hb
      | some q =>
        rw [hq] at hb; cases hb
        have hi : i < js.length := by rw [← hl]; exact (List.getElem?_eq_some_iff.1 hq).1
        obtain ⟨v, hv⟩ := hrows i _ q (List.getElem?_eq_getElem hi) hq
        rw [fabs i _ (List.getElem?_eq_getElem hi), f0]
        exact hs.blk _ _ hv
    · rw [List.getElem?_map] at hb
      cases hq : rs[i]? with
      | none => rw [hq] at hb; cases hb
      | some q =>
        rw [hq] at hb; cases hb
        have hi : i < js.length := by rw [← hl]; exact (List.getElem?_eq_some_iff.1 hq).1
        obtain ⟨v, hv⟩ := hrows i _ q (List.getElem?_eq_getElem hi) hq
        exact hs.ok _ _ hv
  obtain ⟨k0, H', k1, k2⟩ := h F' f0 f1 f2 hst0 agr
  rw [k0, f0] at k1
  rw [← hr F'] at k1
  obtain ⟨a1, a2⟩ := agr H' k2.ag
  have hz : (js.zip rs').map (·.1) = js := List.map_fst_zip (by omega)
  have inz : ∀ j ∈ js, ∃ i q q' v, js[i]? = some j ∧ rs[i]? = some q ∧ rs'[i]? = some q' ∧ L[j]? = some (.row q v) ∧ (setRows L (js.zip rs'))[j]? = some (.row q' v) := fun j hj => by
    obtain ⟨i, hi⟩ := List.getElem?_of_mem hj
    have hil := (List.getElem?_eq_some_iff.1 hi).1
    obtain ⟨v, hv⟩ := hrows i j _ hi (List.getElem?_eq_getElem (by omega : i < rs.length))
    refine ⟨i, _, _, v, hi, List.getElem?_eq_getElem (by omega : i < rs.length), List.getElem?_eq_getElem (by omega : i < rs'.length), hv, ?_⟩
    refine setRows_in _ L j _ (.row _ v) (by rw [hz]; exact hnd) ?_ hv
    refine List.mem_of_getElem? (i := i) ?_
    rw [List.getElem?_zip_eq_some]
    exact ⟨hi, List.getElem?_eq_getElem _⟩
  have outz : ∀ i, i ∉ js → (setRows L (js.zip rs'))[i]? = L[i]? := fun i hi => setRows_not _ L i (by rw [hz]; exact hi)
  have hext : Ext L (setRows L (js.zip rs')) := fun j b hb => by
    by_cases hj : j ∈ js
    · obtain ⟨i, q, q', v, i1, i2, i3, i4, i5⟩ := inz j hj
      rw [hb] at i4; cases i4
      have := hsame i q q' i2 i3
      exact ⟨_, i5, Nat.le_refl _, by simp [DBlk.clen, this], fun _ => by simp [DBlk.clen, this]⟩
    · exact ⟨b, by rw [outz j hj]; exact hb, Nat.le_refl _, Nat.le_refl _, fun _ => rfl⟩
  refine ⟨H', k1, ⟨?_, by rw [setRows_len]; exact hs.mle, fun j b hb => ?_, a1, fun j b hb => ?_⟩, hro _, hext, fun j hj hn => ?_⟩
  · have := k2.len
    rw [f0, f1] at this
    simp [hl'] at this
    rw [setRows_len, this]
    exact hs.len
  · by_cases hj : j ∈ js
    · obtain ⟨i, q, q', v, i1, i2, i3, i4, i5⟩ := inz j hj
      rw [hb] at i5; cases i5
      have := k2.blk i (.row q' 0) (by rw [List.getElem?_map, i3]; rfl)
      rw [fabs i j i1] at this
      exact this
    · rw [outz j hj] at hb
      exact a2 j b hb hj
  · by_cases hj : j ∈ js
    · obtain ⟨i, q, q', v, i1, i2, i3, i4, i5⟩ := inz j hj
      rw [hb] at i5; cases i5
      exact k2.ok i (.row q' 0) (by rw [List.getElem?_map, i3]; rfl)
    · rw [outz j hj] at hb
      exact (hs.ok j b hb).ext hext
  · rcases hn with h | h
    · cases h
    · exact outz j fun hm => h (reach_refs (hsub j hm))
end
end Go.Proofs.Ythdmkdkbfhoahaa.AM
