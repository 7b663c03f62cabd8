/- Each operation on values that bear their contents is what the machine does. -/
import Derived.Test.YthdmkdkbfhoahaaD3
set_option linter.unusedSimpArgs false
set_option linter.unusedVariables false
namespace Go.Proofs.Ythdmkdkbfhoahaa.AM

def zk : TK → Option DV
  | .flt k => some (.flt k 0)
  | .int k => some (.int k 0)
  | .bool => some (.lit false)
  | _ => none
def undOk (P : Program) (t : TypeId) : TK → Prop
  | .int k => P.underlying t = some (.int k)
  | .flt k => P.underlying t = some (.float k)
  | .bool => P.underlying t = some .bool
  | .str => P.underlying t = some .string
  | .slice e => P.underlying t = some (.slice e)
  | .struct fs => (∃ f, P.underlying t = some (.struct f) ∧ (f.toList.all fun f => (szA P f.type).isSome) = true) ∧ ∀ k q, fs[k]? = some q → fieldOff P t k = some q
  | .other => ∃ d, P.underlying t = some d ∧ aggD d = false
structure TyOk (P : Program) (t : TypeId) (i : TyI) : Prop where
  sz : szA P t = some i.size
  fl : flatT P t = i.flat
  und : undOk P t i.kind
  zero : ∀ z, i.zero = some z → (∀ F, zeroA P t = some (z.av F)) ∧ ∀ F L, z.Ok F L
  el : i.small = true → i.size = 1 → ∃ inf z, P.info? t = some inf ∧ inf.size = 1 ∧ inf.bytes ≤ 1024 ∧ inf.zero = some z ∧ z.cells.size = 1 ∧ (!inf.hasPointers) = i.flat ∧
    ∀ zd, zk i.kind = some zd → ∀ F, absC (z.cells.getD 0 undef) = zd.av F
def TOk (P : Program) (T : TyT) : Prop := ∀ t i, T t = some i → TyOk P t i

section
variable {P : Program} {T : TyT} {F : Fr} {L : List DBlk} {H : Heap}

theorem TyOk.scal {t : TypeId} {i : TyI} (h : TyOk P t i) (hk : ∀ fs, i.kind ≠ .struct fs) : ∃ d, P.underlying t = some d ∧ aggD d = false := by
  have hu := h.und
  cases hkd : i.kind with
  | struct fs => exact absurd hkd (hk fs)
  | other => rw [hkd] at hu; exact hu
  | _ => rw [hkd] at hu; exact ⟨_, hu, rfl⟩
theorem loadA_scal {t : TypeId} {d : TypeDesc} (hd : P.underlying t = some d) (ha : aggD d = false) (r : Ref) : loadA P H t (.ptr r) = ldC H r := by
  unfold loadA
  rw [hd]
  cases d <;> first | rfl | (simp [aggD] at ha)
theorem partA_scal {t : TypeId} {d : TypeDesc} (hd : P.underlying t = some d) (ha : aggD d = false) (cs : List AV) (o : Nat) : partA P t cs o = cs[o]? := by
  unfold partA
  rw [hd]
  cases d <;> first | rfl | (simp [aggD] at ha)
theorem loadA_struct {t : TypeId} {f : Array Field} (hd : P.underlying t = some (.struct f)) (r : Ref) : loadA P H t (.ptr r) = (szA P t).bind fun n => (ldN H r n).map AV.agg := by
  unfold loadA
  rw [hd]
theorem partA_struct {t : TypeId} {f : Array Field} (hd : P.underlying t = some (.struct f)) (cs : List AV) (o : Nat) : partA P t cs o = (szA P t).map fun n => .agg ((cs.drop o).take n) := by
  unfold partA
  rw [hd]

theorem readD_spec {t : TypeId} {i : TyI} (hT : TyOk P t i) {cs : List DV} {x : DV} (h : readD i cs = some x) (hcs : DVs.Ok F L cs) :
    x.Ok F L ∧ (((∃ f, P.underlying t = some (.struct f)) ∧ i.size ≤ cs.length ∧ x.av F = .agg ((DVs.av F cs).take i.size)) ∨ ((∃ d, P.underlying t = some d ∧ aggD d = false) ∧ (DVs.av F cs)[0]? = some (x.av F))) := by
  unfold readD at h
  split at h
  · rename_i fs hk
    have hu := hT.und
    rw [hk] at hu
    obtain ⟨⟨f, hf, _⟩, _⟩ := hu
    split at h
    · rename_i hle
      cases h
      refine ⟨DVs.ok_iff.2 fun c hc => DVs.ok_iff.1 hcs c (List.mem_of_mem_take hc), .inl ⟨⟨f, hf⟩, Nat.le_of_ble_eq_true hle, ?_⟩⟩
      simp [DV.av, DVs.av_eq, List.map_take]
    · cases h
  · rename_i hk
    refine ⟨DVs.ok_iff.1 hcs x (List.mem_of_getElem? h), .inr ⟨hT.scal fun fs e => hk fs e, ?_⟩⟩
    rw [DVs.av_eq, List.getElem?_map, h]; rfl
theorem readD_load {t : TypeId} {i : TyI} (hT : TyOk P t i) {cs : List DV} {x : DV} (h : readD i cs = some x) (hok : DVs.Ok F L cs) {r : Ref} {B : Blk} (hB : H[r.id]? = some B) (hv : r.ver = B.cells.length)
    (hcs : (B.cells.drop r.off).take cs.length = DVs.av F cs) (hle : r.off + cs.length ≤ B.cells.length) : loadA P H t (.ptr r) = some (x.av F) := by
  rcases (readD_spec hT h hok).2 with ⟨⟨f, hf⟩, h1, h2⟩ | ⟨⟨d, hd, ha⟩, h2⟩
  · rw [loadA_struct hf, hT.sz, h2]
    simp only [Option.bind_some, ldN, hB]
    rw [if_pos ⟨hv, by omega⟩]
    simp only [Option.map_some]
    rw [← hcs, List.take_take, Nat.min_eq_left h1]
  · rw [loadA_scal hd ha]
    simp only [ldC, hB, hv, if_true]
    have hlen : 0 < cs.length := by
      have := (List.getElem?_eq_some_iff.1 h2).1
      simpa using this
    rw [← hcs, List.getElem?_take, if_pos hlen, List.getElem?_drop] at h2
    exact h2
theorem readD_part {t : TypeId} {i : TyI} (hT : TyOk P t i) {cs : List DV} {o : Nat} {x : DV} (h : readD i (cs.drop o) = some x) (hok : DVs.Ok F L cs) : partA P t (DVs.av F cs) o = some (x.av F) ∧ x.Ok F L := by
  have hd : DVs.Ok F L (cs.drop o) := DVs.ok_iff.2 fun c hc => DVs.ok_iff.1 hok c (List.mem_of_mem_drop hc)
  obtain ⟨k1, k2⟩ := readD_spec hT h hd
  refine ⟨?_, k1⟩
  have he : DVs.av F (cs.drop o) = (DVs.av F cs).drop o := by simp [DVs.av_eq, List.map_drop]
  rcases k2 with ⟨⟨f, hf⟩, h1, h2⟩ | ⟨⟨d, hd, ha⟩, h2⟩
  · rw [partA_struct hf, hT.sz, h2, he]; rfl
  · rw [partA_scal hd ha]
    rw [he, List.getElem?_drop] at h2
    simpa using h2

theorem loadD_ok (hT : TOk P T) (hs : St F L H) {t : TypeId} {p x : DV} {L' : List DBlk} (hp : p.Ok F L) (h : (loadD T t p L).run = some (x, L')) : loadA P H t (p.av F) = some (x.av F) ∧ x.Ok F L ∧ L' = L := by
  unfold loadD at h
  split at h
  · rename_i i j off ver alen hTi
    obtain ⟨b, h1, h2, h3, h4, h5⟩ := hp
    split at h
    · rename_i r v hg
      obtain ⟨g1, g2⟩ := good_spec hg
      rw [h1] at g1; cases g1
      have hal := h5 g2.symm
      split at h
      · cases h
      · rename_i hk
        simp only [Tree.run, Option.some.injEq, Prod.mk.injEq] at h
        obtain ⟨rfl, rfl⟩ := h
        obtain ⟨d, hd, ha⟩ := (hT t i hTi).scal fun fs e => hk fs e
        refine ⟨?_, r.get_ok F L off, rfl⟩
        rw [DV.av, loadA_scal hd ha]
        simp only [ldC, hs.blk j _ h1]
        rw [if_pos (by rw [DBlk.blk_len]; exact hal)]
        exact r.get_cells F off (by rw [hal] at h3; exact h3)
    · rename_i cs fl v hg
      obtain ⟨g1, g2⟩ := good_spec hg
      rw [h1] at g1; cases g1
      have hal := h5 g2.symm
      obtain ⟨v, hv, h⟩ := optT_run h
      simp only [Tree.run, Option.some.injEq, Prod.mk.injEq] at h
      obtain ⟨rfl, rfl⟩ := h
      have hok := (hs.ok j _ h1).1
      have hd : DVs.Ok F L (cs.drop off) := DVs.ok_iff.2 fun c hc => DVs.ok_iff.1 hok c (List.mem_of_mem_drop hc)
      have hcl : alen = cs.length := hal
      refine ⟨readD_load (hT t i hTi) hv hd (hs.blk j _ h1) (by rw [DBlk.blk_len]; exact hal) ?_ ?_, (readD_spec (hT t i hTi) hv hd).1, rfl⟩
      · simp [DBlk.blk, DVs.av_eq, List.map_drop]
        exact List.take_of_length_le (by simp)
      · rw [DBlk.blk_len]; simp [DBlk.clen]; omega
    · cases h
  · rename_i i p cs hTi
    obtain ⟨v, hv, h⟩ := optT_run h
    simp only [Tree.run, Option.some.injEq, Prod.mk.injEq] at h
    obtain ⟨rfl, rfl⟩ := h
    obtain ⟨r, B, e, k1, k2, k3, k4⟩ := hp.1 H hs.ag
    simp only [DVs.av_len] at k3 k4
    refine ⟨?_, (readD_spec (hT t i hTi) hv hp.2).1, rfl⟩
    simp only [DV.av]
    rw [e]
    exact readD_load (hT t i hTi) hv hp.2 k1 k2 k4 k3
  · cases h


theorem cellsD_av (hs : St F L H) {v : DV} {vs : List DV} (h : cellsD v = some vs) (hok : v.Ok F L) : (v.av F).cellsA = some (DVs.av F vs) ∧ DVs.Ok F L vs := by
  cases v with
  | bslc s r =>
    simp only [cellsD, Option.some.injEq] at h; subst h
    refine ⟨?_, hok, trivial⟩
    simp only [DV.av, DVs.av]
    rcases hok H hs.ag with ⟨e, _⟩ | ⟨p, B, e, _⟩ <;> rw [e] <;> rfl
  | hslc s n =>
    simp only [cellsD, Option.some.injEq] at h; subst h
    refine ⟨?_, hok, trivial⟩
    simp only [DV.av, DVs.av]
    rcases hok H hs.ag with ⟨e, _⟩ | ⟨p, B, e, _⟩ <;> rw [e] <;> rfl
  | bptr p cs =>
    simp only [cellsD, Option.some.injEq] at h; subst h
    refine ⟨?_, hok, trivial⟩
    obtain ⟨r, B, e, _⟩ := hok.1 H hs.ag
    simp only [DV.av, DVs.av]
    rw [e]; rfl
  | agg cs => simp only [cellsD, Option.some.injEq] at h; subst h; exact ⟨rfl, hok⟩
  | _ => first | (simp only [cellsD, Option.some.injEq] at h; subst h; exact ⟨rfl, hok, trivial⟩) | cases h
theorem okC_all (hs : St F L H) {vs : List DV} (hok : DVs.Ok F L vs) (h : allT (okC L) vs = true) : (DVs.av F vs).all (cellOk H) = true := by
  rw [DVs.av_eq, List.all_map, List.all_eq_true]
  intro c hc
  exact okC_ok hs (DVs.ok_iff.1 hok c hc) (allT_iff.1 h c hc)
theorem flat_all {vs : List DV} (h : allT DV.flat vs = true) : (DVs.av F vs).all AV.isFlat = true := by
  rw [DVs.av_eq, List.all_map, List.all_eq_true]
  intro c hc
  exact flat_av F (allT_iff.1 h c hc)
theorem putD_av (vs : List DV) : ∀ (l : List DV) (o : Nat), DVs.av F (putD l o vs) = putAt (DVs.av F l) o (DVs.av F vs) := by
  induction vs with
  | nil => intro l o; rfl
  | cons v vs ih => intro l o; simp only [putD, DVs.av, putAt]; rw [ih]; simp [DVs.av_eq, List.map_set]
theorem putD_len (vs : List DV) : ∀ (l : List DV) (o : Nat), (putD l o vs).length = l.length := by
  induction vs with
  | nil => intro l o; rfl
  | cons v vs ih => intro l o; simp [putD, ih]
theorem putD_mem (vs : List DV) : ∀ (l : List DV) (o : Nat) (c : DV), c ∈ putD l o vs → c ∈ l ∨ c ∈ vs := by
  induction vs with
  | nil => intro l o c h; exact .inl h
  | cons v vs ih =>
    intro l o c h
    rcases ih _ _ c h with h | h
    · rcases List.mem_or_eq_of_mem_set h with h | h
      · exact .inl h
      · exact .inr (by simp [h])
    · exact .inr (by simp [h])

theorem storeD_ok (hT : TOk P T) (hs : St F L H) {t : TypeId} {p v x : DV} {L' : List DBlk} (hp : p.Ok F L) (hv : v.Ok F L) (h : (storeD T t p v L).run = some (x, L')) :
    ∃ H', storeA P H t (p.av F) (v.av F) = some H' ∧ St F L' H' ∧ Ext L L' ∧ x = .top := by
  unfold storeD at h
  split at h
  · rename_i i j off ver alen hTi
    obtain ⟨b, h1, h2, h3, h4, h5⟩ := hp
    split at h
    · rename_i r v' hg
      obtain ⟨g1, g2⟩ := good_spec hg
      rw [h1] at g1; cases g1
      have hal : alen = r.len := h5 g2.symm
      split at h
      · rename_i hsz
        obtain ⟨r', hr', h⟩ := optT_run h
        simp only [Tree.run, Option.some.injEq, Prod.mk.injEq] at h
        obtain ⟨rfl, rfl⟩ := h
        obtain ⟨e1, e2, e3⟩ := r.set_spec F hr'
        have he : Ext L (L.set j (.row r' v')) := Ext.set h1 (Nat.le_refl _) (by simp [DBlk.clen, e2]) fun _ => by simp [DBlk.clen, e2]
        have hr := hs.ok j _ h1
        have hfl := flat_av F e3
        have hc : (v.av F).cellsA = some [v.av F] := by
          generalize v.av F = w at hfl
          cases w <;> first | rfl | (simp [AV.isFlat] at hfl)
        refine ⟨_, ?_, hs.set h1 he (show r'.len ≤ maxN by rw [e2]; exact hr), he, rfl⟩
        rw [DV.av, storeA, hc]
        simp only [Option.bind_some]
        rw [if_pos (by rw [(hT t i hTi).sz, Nat.eq_of_beq_eq_true hsz]; rfl)]
        have hck : cellOk H (v.av F) = true := by
          generalize v.av F = w at hfl
          cases w <;> first | rfl | (simp [AV.isFlat] at hfl)
        simp only [stN, hs.blk j _ h1]
        rw [if_pos ⟨rfl, by rw [DBlk.blk_len]; exact hal, by rw [DBlk.blk_len]; simp [DBlk.clen]; omega, by simp [hck], fun _ => by simp [hfl]⟩]
        simp [DBlk.blk, putAt, e1]
      · cases h
    · rename_i cs fl v' hg
      obtain ⟨g1, g2⟩ := good_spec hg
      rw [h1] at g1; cases g1
      have hal : alen = cs.length := h5 g2.symm
      obtain ⟨vs, hvs, h⟩ := optT_run h
      split at h
      · rename_i c1 c2 c3 c4
        simp only [Tree.run, Option.some.injEq, Prod.mk.injEq] at h
        obtain ⟨rfl, rfl⟩ := h
        obtain ⟨k1, k2⟩ := cellsD_av hs hvs hv
        have he : Ext L (L.set j (.gen (putD cs off vs) fl v')) := Ext.set h1 (Nat.le_refl _) (by simp [DBlk.clen, putD_len]) fun _ => by simp [DBlk.clen, putD_len]
        obtain ⟨o1, o2⟩ := hs.ok j _ h1
        have hfl : fl = true → (DVs.av F vs).all AV.isFlat = true := fun e => by subst e; exact flat_all c4
        refine ⟨_, ?_, hs.set h1 he ⟨DVs.ok_iff.2 fun c hc => ?_, fun e c hc => ?_⟩, he, rfl⟩
        · rw [DV.av, storeA, k1]
          simp only [Option.bind_some, DVs.av_len]
          rw [if_pos (by rw [(hT t i hTi).sz, Nat.eq_of_beq_eq_true c1])]
          simp only [stN, hs.blk j _ h1]
          rw [if_pos ⟨rfl, by rw [DBlk.blk_len]; exact hal, by rw [DBlk.blk_len]; simp [DBlk.clen]; exact Nat.le_of_ble_eq_true c2, okC_all hs k2 c3, hfl⟩]
          simp [DBlk.blk, putD_av]
        · rcases putD_mem vs _ _ c hc with h | h
          · exact (DVs.ok_iff.1 o1 c h).ext he
          · exact (DVs.ok_iff.1 k2 c h).ext he
        · rcases putD_mem vs _ _ c hc with hq | hq
          · exact o2 e c hq
          · subst e; exact allT_iff.1 c4 c hq
      · cases h
    · cases h
  · cases h

theorem fieldAddrD_ok (hT : TOk P T) (hs : St F L H) {s : TypeId} {x y : DV} {f : Nat} {L' : List DBlk} (hx : x.Ok F L) (h : (fieldAddrD T s x f L).run = some (y, L')) :
    fieldAddrA P H s (x.av F) f = some (y.av F) ∧ y.Ok F L ∧ L' = L := by
  unfold fieldAddrD at h
  split at h
  · rename_i fs _ _ _ _ hTs
    obtain ⟨_, hfo⟩ := (hT s _ hTs).und
    split at h
    · rename_i o ft hf
      split at h
      · rename_i i hTf
        have hsz := (hT ft i hTf).sz
        split at h
        · rename_i j off ver alen c1
          obtain ⟨b, h1, h2, h3, h4, h5⟩ := hx
          have hn := Nat.le_of_ble_eq_true c1
          split at h
          · rename_i cs fl v hg
            obtain ⟨g1, g2⟩ := good_spec hg
            rw [h1] at g1; cases g1
            have hal : alen = cs.length := h5 g2.symm
            split at h
            · rename_i c2
              have := Nat.le_of_ble_eq_true c2
              simp only [Tree.run, Option.some.injEq, Prod.mk.injEq] at h
              obtain ⟨rfl, rfl⟩ := h
              refine ⟨?_, ⟨_, h1, h2, by omega, h4, h5⟩, rfl⟩
              simp only [DV.av, fieldAddrA, hfo _ _ hf, Option.bind_some, hsz]
              rw [if_neg (by omega), if_pos (hs.live (off := off) hg h5)]
            · cases h
          · cases h
        · rename_i p cs c1
          have hn := Nat.le_of_ble_eq_true c1
          split at h
          · rename_i c2
            have hoc := Nat.le_of_ble_eq_true c2
            simp only [Tree.run, Option.some.injEq, Prod.mk.injEq] at h
            obtain ⟨rfl, rfl⟩ := h
            refine ⟨?_, ⟨fun H hH => ?_, DVs.ok_iff.2 fun c hc => DVs.ok_iff.1 hx.2 c (List.mem_of_mem_drop hc)⟩, rfl⟩
            · obtain ⟨r, B, e, k1, k2, k3, k4⟩ := hx.1 H hs.ag
              simp only [DV.av, BR.av, e, fieldAddrA, hfo _ _ hf, Option.bind_some, hsz, AV.fld]
              rw [if_neg (by omega), if_pos (live_iff.2 ⟨B, k1, k2⟩)]
            · obtain ⟨r, B, e, k1, k2, k3, k4⟩ := hx.1 H hH
              simp only [DVs.av_len] at k3 k4
              simp only [BR.av, e]
              refine ⟨_, B, rfl, k1, k2, ?_, ?_⟩
              · simp only [DVs.av_len, List.length_drop]; omega
              · have : DVs.av F (cs.drop o) = (DVs.av F cs).drop o := by simp [DVs.av_eq, List.map_drop]
                rw [this, ← k4]
                simp only [List.length_drop, List.length_take, List.drop_take, List.drop_drop]
                congr 1
                omega
          · cases h
        · cases h
      · cases h
    · cases h
  · cases h

theorem fieldD_ok (hT : TOk P T) (hs : St F L H) {s : TypeId} {x y : DV} {f : Nat} {L' : List DBlk} (hx : x.Ok F L) (h : (fieldD T s x f L).run = some (y, L')) :
    fieldA P s (x.av F) f = some (y.av F) ∧ y.Ok F L ∧ L' = L := by
  unfold fieldD at h
  split at h
  · rename_i fs _ _ _ _ cs hTs
    obtain ⟨_, hfo⟩ := (hT s _ hTs).und
    split at h
    · rename_i o ft hf
      split at h
      · rename_i i hTf
        obtain ⟨v, hv, h⟩ := optT_run h
        simp only [Tree.run, Option.some.injEq, Prod.mk.injEq] at h
        obtain ⟨rfl, rfl⟩ := h
        obtain ⟨k1, k2⟩ := readD_part (hT ft i hTf) hv hx
        refine ⟨?_, k2, rfl⟩
        simp only [DV.av, fieldA, hfo _ _ hf, Option.bind_some]
        exact k1
      · cases h
    · cases h
  · cases h

theorem indexAddrD_ok (hT : TOk P T) (hs : St F L H) {t : TypeId} {x ix y : DV} {L' : List DBlk} (hx : x.Ok F L) (h : (indexAddrD T t x ix L).run = some (y, L')) :
    indexAddrA P H t (x.av F) (ix.av F) = some (y.av F) ∧ y.Ok F L ∧ L' = L := by
  unfold indexAddrD at h
  split at h
  · rename_i e _ _ _ _ j ver len k i hTt
    have hu : P.underlying t = some (.slice e) := (hT t _ hTt).und
    obtain ⟨b, h1, h2, h3, h4, h5⟩ := hx
    split at h
    · rename_i ei r v hTe hg
      obtain ⟨g1, g2⟩ := good_spec hg
      rw [h1] at g1; cases g1
      have hal : len = r.len := h4 g2.symm
      split at h
      · rename_i c1
        have hsz := (hT e ei hTe).sz
        rw [Nat.eq_of_beq_eq_true c1] at hsz
        simp only [Tree.run] at h
        split at h
        · rename_i hb
          rw [inb_iff] at hb
          simp only [Option.some.injEq, Prod.mk.injEq] at h
          obtain ⟨rfl, rfl⟩ := h
          refine ⟨?_, ⟨_, h1, h2, by omega, h3, h4⟩, rfl⟩
          simp only [DV.av, indexAddrA, elemA, hu, Option.bind_some, hsz, hs.blk j _ h1]
          rw [if_pos ⟨by rw [DBlk.blk_len]; exact hal, DBlk.blk_sz _ _, hb.1, hb.2⟩]
          simp
        · cases h
      · cases h
    · cases h
  · rename_i e _ _ _ _ j off ver alen len k i hTt
    have hu : P.underlying t = some (.slice e) := (hT t _ hTt).und
    obtain ⟨b, h1, h2, h3, h4, h5, h6⟩ := hx
    split at h
    · rename_i ei r v hTe hg
      obtain ⟨g1, g2⟩ := good_spec hg
      rw [h1] at g1; cases g1
      have hal : alen = r.len := h5 g2.symm
      split at h
      · rename_i c1
        have hsz := (hT e ei hTe).sz
        rw [Nat.eq_of_beq_eq_true c1] at hsz
        simp only [Tree.run] at h
        split at h
        · rename_i hb
          rw [inb_iff] at hb
          simp only [Option.some.injEq, Prod.mk.injEq] at h
          obtain ⟨rfl, rfl⟩ := h
          refine ⟨?_, ⟨_, h1, h2, by omega, h4, h5⟩, rfl⟩
          simp only [DV.av, indexAddrA, elemA, hu, Option.bind_some, hsz, hs.blk j _ h1]
          rw [if_pos ⟨by rw [DBlk.blk_len]; exact hal, DBlk.blk_sz _ _, hb.1, hb.2⟩]
          simp
        · cases h
      · cases h
    · cases h
  · rename_i e _ _ _ _ s r k i hTt
    have hu : P.underlying t = some (.slice e) := (hT t _ hTt).und
    split at h
    · rename_i ei hTe
      split at h
      · rename_i c1
        have hsz := (hT e ei hTe).sz
        rw [Nat.eq_of_beq_eq_true c1] at hsz
        simp only [Tree.run] at h
        split at h
        · rename_i hb
          rw [inb_iff] at hb
          simp only [Option.some.injEq, Prod.mk.injEq] at h
          obtain ⟨rfl, rfl⟩ := h
          refine ⟨?_, ⟨fun H hH => ?_, r.get_ok F L _, trivial⟩, rfl⟩
          · rcases hx H hs.ag with ⟨e, h0⟩ | ⟨p, B, e, k1, k2, k3, k4, k5, k6⟩
            · omega
            · simp only [DV.av, BR.av, e, indexAddrA, elemA, hu, Option.bind_some, hsz, k1]
              rw [if_pos ⟨k2, k3, hb.1, hb.2⟩]
              simp [AV.plc']
          · rcases hx H hH with ⟨e, h0⟩ | ⟨p, B, e, k1, k2, k3, k4, k5, k6⟩
            · omega
            · simp only [BR.av, e]
              refine ⟨_, B, rfl, k1, k2, ?_, ?_⟩
              · simp [DVs.av]; omega
              · have hi : i.toNat < r.len := by omega
                have h0 := r.get_cells F i.toNat hi
                rw [← k5, List.getElem?_take, if_pos hi, List.getElem?_drop] at h0
                obtain ⟨h6, h7⟩ := List.getElem?_eq_some_iff.1 h0
                simp only [DVs.av, List.length_cons, List.length_nil]
                rw [← h7]
                rw [List.drop_eq_getElem_cons h6]
                rfl
        · cases h
      · cases h
    · cases h
  · cases h

theorem indexD_ok (hT : TOk P T) {t : TypeId} {x ix y : DV} {L' : List DBlk} (h : (indexD T t x ix L).run = some (y, L')) :
    indexA P t (x.av F) (ix.av F) = some (y.av F) ∧ y.Ok F L ∧ L' = L := by
  unfold indexD at h
  split at h
  · rename_i _ _ _ _ s k i hTt
    have hu : P.underlying t = some .string := (hT t _ hTt).und
    simp only [Tree.run] at h
    split at h
    · rename_i hb
      rw [inb_iff] at hb
      simp only [Option.some.injEq, Prod.mk.injEq] at h
      obtain ⟨rfl, rfl⟩ := h
      refine ⟨?_, trivial, rfl⟩
      simp only [DV.av, indexA, hu]
      rw [if_pos hb.1]
      have hi : i.toNat < s.size := by omega
      have : s[i.toNat]? = some s[i.toNat] := by simp [hi]
      rw [this]
      simp [bt, this]
    · cases h
  · cases h

theorem loD_av {lo : Option DV} {l : Int} (h : loD lo = some l) : intOr 0 (lo.map (·.av F)) = some l := by
  unfold loD at h
  split at h
  · cases h; rfl
  · cases h; rfl
  · cases h
theorem hiD_av {d : Nat} {lo : Option DV} {l : Int} (h : hiD d lo = some l) : intOr d (lo.map (·.av F)) = some l := by
  unfold hiD at h
  split at h
  · cases h; rfl
  · cases h; rfl
  · cases h
theorem slice3D_ok (hT : TOk P T) (hs : St F L H) {t : TypeId} {x m y : DV} {lo hi : Option DV} {L' : List DBlk} (hx : x.Ok F L) (h : (slice3D T t x lo hi m L).run = some (y, L')) :
    slice3A P H t (x.av F) (lo.map (·.av F)) (hi.map (·.av F)) (m.av F) = some () ∧ y = .top ∧ L' = L := by
  unfold slice3D at h
  split at h
  · rename_i e _ _ _ _ j ver len k1 h' k2 k hTt
    have hu : P.underlying t = some (.slice e) := (hT t _ hTt).und
    obtain ⟨b, h1, h2, h3, h4, h5⟩ := hx
    split at h
    · rename_i ei r v l hTe hg hlo
      obtain ⟨g1, g2⟩ := good_spec hg
      rw [h1] at g1; cases g1
      have hal : len = r.len := h4 g2.symm
      split at h
      · rename_i c1
        have hsz := (hT e ei hTe).sz
        rw [Nat.eq_of_beq_eq_true c1] at hsz
        simp only [Tree.run] at h
        split at h
        · rename_i hb
          rw [sok_iff] at hb
          split at h
          · rename_i hb2
            simp only [Bool.and_eq_true, decide_eq_true_eq] at hb2
            simp only [Option.some.injEq, Prod.mk.injEq] at h
            obtain ⟨rfl, rfl⟩ := h
            refine ⟨?_, rfl, rfl⟩
            simp only [DV.av, slice3A, hu, Option.map_some, hs.blk j _ h1, loD_av hlo]
            rw [if_pos ⟨by rw [DBlk.blk_len]; exact hal, by rw [DBlk.blk_sz]; exact hsz, by rw [DBlk.blk_sz]; decide, hb.1, hb.2.1, hb2.1, by rw [DBlk.blk_sz, DBlk.blk_len]; simp only [DBlk.clen]; omega⟩]
          · cases h
        · cases h
      · cases h
    · cases h
  · cases h
theorem sliceD_ok (hT : TOk P T) (hs : St F L H) {t : TypeId} {x y : DV} {lo hi : Option DV} {L' : List DBlk} (hx : x.Ok F L) (h : (sliceD T t x lo hi L).run = some (y, L')) :
    sliceA P H t (x.av F) (lo.map (·.av F)) (hi.map (·.av F)) = some (y.av F) ∧ y.Ok F L ∧ L' = L := by
  unfold sliceD at h
  split at h
  · rename_i e _ _ _ _ j ver len hTt
    have hu : P.underlying t = some (.slice e) := (hT t _ hTt).und
    obtain ⟨b, h1, h2, h3, h4, h5⟩ := hx
    split at h
    · rename_i ei r v l h' hTe hg hlo hhi
      obtain ⟨g1, g2⟩ := good_spec hg
      rw [h1] at g1; cases g1
      have hal : len = r.len := h4 g2.symm
      split at h
      · rename_i c1
        have hsz := (hT e ei hTe).sz
        rw [Nat.eq_of_beq_eq_true c1] at hsz
        simp only [Tree.run] at h
        split at h
        · rename_i hb
          rw [sok_iff] at hb
          simp only [Option.some.injEq, Prod.mk.injEq] at h
          obtain ⟨rfl, rfl⟩ := h
          refine ⟨?_, ⟨_, h1, h2, by omega, h3, h4, by omega⟩, rfl⟩
          simp only [DV.av, sliceA, hu, hs.blk j _ h1, loD_av hlo, hiD_av hhi]
          rw [if_pos ⟨by rw [DBlk.blk_len]; exact hal, by rw [DBlk.blk_sz]; exact hsz, by rw [DBlk.blk_sz]; decide, hb.1, hb.2.1, .inl hb.2.2⟩]
          simp [DBlk.blk_sz]
        · cases h
      · cases h
    · cases h
  · rename_i e _ _ _ _ j off ver alen len hTt
    have hu : P.underlying t = some (.slice e) := (hT t _ hTt).und
    obtain ⟨b, h1, h2, h3, h4, h5⟩ := hx
    split at h
    · rename_i ei r v l h' hTe hg hlo hhi
      obtain ⟨g1, g2⟩ := good_spec hg
      rw [h1] at g1; cases g1
      have hal : alen = r.len := h5.1 g2.symm
      have hmax : r.len ≤ maxN := hs.ok j _ h1
      split at h
      · rename_i c1
        have hsz := (hT e ei hTe).sz
        rw [Nat.eq_of_beq_eq_true c1] at hsz
        simp only [Tree.run] at h
        split at h
        · rename_i hb
          rw [sok_iff] at hb
          simp only [Option.some.injEq, Prod.mk.injEq] at h
          obtain ⟨rfl, rfl⟩ := h
          refine ⟨?_, ⟨_, h1, h2, by omega, h4, h5.1, by omega⟩, rfl⟩
          simp only [DV.av, sliceA, hu, hs.blk j _ h1, loD_av hlo, hiD_av hhi]
          rw [if_pos ⟨by rw [DBlk.blk_len]; exact hal, by rw [DBlk.blk_sz]; exact hsz, by rw [DBlk.blk_sz]; decide, hb.1, hb.2.1, .inr (by rw [DBlk.blk_sz, DBlk.blk_len]; simp only [DBlk.clen]; omega)⟩]
          simp [DBlk.blk_sz]
        · cases h
      · cases h
    · cases h
  · rename_i e _ _ _ _ s r hTt
    have hu : P.underlying t = some (.slice e) := (hT t _ hTt).und
    split at h
    · rename_i ei l h' hTe hlo hhi
      split at h
      · rename_i c1
        have hsz := (hT e ei hTe).sz
        rw [Nat.eq_of_beq_eq_true c1] at hsz
        simp only [Tree.run] at h
        split at h
        · rename_i hb
          have hb' := hb
          rw [sok_iff] at hb
          simp only [Option.some.injEq, Prod.mk.injEq] at h
          obtain ⟨rfl, rfl⟩ := h
          refine ⟨?_, fun H hH => ?_, rfl⟩
          · rcases hx H hs.ag with ⟨e, h0⟩ | ⟨p, B, e, k1, k2, k3, k4, k5, k6⟩
            · have hl : l = 0 := by omega
              have hh : h' = 0 := by omega
              subst hl; subst hh
              have e2 := hiD_av (F := F) hhi
              rw [h0] at e2
              simp only [DV.av, BR.av, e, sliceA, hu, loD_av hlo]
              have e3 : intOr 0 (hi.map (·.av F)) = some 0 := e2
              rw [e3]
              simp [hsz, AV.sub']
            · simp only [DV.av, BR.av, e, sliceA, hu, k1, loD_av hlo, hiD_av hhi]
              rw [if_pos ⟨k2, by rw [k3]; exact hsz, by rw [k3]; decide, hb.1, hb.2.1, .inl hb.2.2⟩]
              simp [AV.sub', k3]
          · have hsl := r.sub_len l h' hb'
            rcases hx H hH with ⟨e, h0⟩ | ⟨p, B, e, k1, k2, k3, k4, k5, k6⟩
            · exact .inl ⟨by simp [BR.av, e, AV.sub'], by rw [hsl]; omega⟩
            · simp only [BR.av, e]
              refine .inr ⟨⟨p.id, p.off + l.toNat, p.ver⟩, B, ?_, k1, k2, k3, ?_, ?_, by omega⟩
              · simp [AV.sub', hsl]
              · simp only [hsl]; omega
              · rw [hsl, r.sub_cells, ← k5]
                simp only [AM.sub, List.drop_take, List.take_take, List.drop_drop]
                congr 1; omega
        · cases h
      · cases h
    · cases h
  · rename_i _ _ _ _ s hTt
    have hu : P.underlying t = some .string := (hT t _ hTt).und
    split at h
    · rename_i l h' hlo hhi
      simp only [Tree.run] at h
      split at h
      · rename_i hb
        rw [sok_iff] at hb
        simp only [Option.some.injEq, Prod.mk.injEq] at h
        obtain ⟨rfl, rfl⟩ := h
        refine ⟨?_, trivial, rfl⟩
        simp only [DV.av, sliceA, hu, loD_av hlo, hiD_av hhi]
        rw [if_pos hb]
      · cases h
    · cases h
  · cases h
end
end Go.Proofs.Ythdmkdkbfhoahaa.AM
