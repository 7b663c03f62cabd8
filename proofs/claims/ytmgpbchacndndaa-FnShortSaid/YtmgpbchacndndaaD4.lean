import Derived.Test.YtmgpbchacndndaaD3
set_option linter.unusedSimpArgs false
set_option linter.unusedVariables false
namespace Go.Proofs.Ytmgpbchacndndaa.AM
def zk : TK → Option DV
  | .flt k => some (.flt k 0)
  | .int k => some (.int k 0)
  | .bool => some (.lit false)
  | _ => none
def undOk (P : Program) (t : TypeId) : TK → Prop
  | .int k => P.underlying t = some (.int k)
  | .flt k => P.underlying t = some (.float k)
  | .bool => P.underlying t = some .bool
  | .str => P.underlying t = some .string
  | .slice e => P.underlying t = some (.slice e)
  | .struct fs => (∃ f, P.underlying t = some (.struct f) ∧ (f.toList.all fun f => (szA P f.type).isSome) = true) ∧ ∀ k q, fs[k]? = some q → B3_ P t k = some q
  | .other => ∃ d, P.underlying t = some d ∧ aggD d = false
structure TyOk (P : Program) (t : TypeId) (i : TyI) : Prop where
  sz : szA P t = some i.size
  fl : flatT P t = i.flat
  und : undOk P t i.kind
  zero : ∀ z, i.zero = some z → (∀ F, zeroA P t = some (z.av F)) ∧ ∀ F L, z.Ok F L
  el : i.small = true → ∃ inf z, P.info? t = some inf ∧ inf.size = i.size ∧ inf.bytes ≤ 1024 ∧ inf.zero = some z ∧ z.cells.size = i.size ∧ (!inf.hasPointers) = i.flat ∧
    ∀ zd, zk i.kind = some zd → ∀ F, absC (z.cells.getD 0 undef) = zd.av F
def TOk (P : Program) (T : TyT) : Prop := ∀ t i, T t = some i → TyOk P t i
section
variable {P : Program} {T : TyT} {F : Fr} {L : List DBlk} {H : Heap}
theorem TyOk.scal {t : TypeId} {i : TyI} (h : TyOk P t i) (hk : ∀ fs, i.kind ≠ .struct fs) : ∃ d, P.underlying t = some d ∧ aggD d = false := by
  have hu := h.und
  cases hkd : i.kind with
  | struct fs => exact absurd hkd (hk fs)
  | other => rw [hkd] at hu; exact hu
  | _ => rw [hkd] at hu; exact ⟨_, hu, rfl⟩
theorem Sv_ {t : TypeId} {d : TypeDesc} (hd : P.underlying t = some d) (ha : aggD d = false) (r : Ref) : loadA P H t (.ptr r) = ldC H r := by
  unfold loadA
  rw [hd]
  cases d <;> first | rfl | (simp [aggD] at ha)
theorem Aq9_ {t : TypeId} {d : TypeDesc} (hd : P.underlying t = some d) (ha : aggD d = false) (cs : List AV) (o : Nat) : partA P t cs o = cs[o]? := by
  unfold partA
  rw [hd]
  cases d <;> first | rfl | (simp [aggD] at ha)
theorem Ane_ {t : TypeId} {f : Array Field} (hd : P.underlying t = some (.struct f)) (r : Ref) : loadA P H t (.ptr r) = (szA P t).bind fun n => (ldN H r n).map AV.agg := by
  unfold loadA
  rw [hd]
theorem Abu_ {t : TypeId} {f : Array Field} (hd : P.underlying t = some (.struct f)) (cs : List AV) (o : Nat) : partA P t cs o = (szA P t).map fun n => .agg ((cs.drop o).take n) := by
  unfold partA
  rw [hd]
theorem J8_ {t : TypeId} {i : TyI} (hT : TyOk P t i) {cs : List DV} {x : DV} (h : readD i cs = some x) (hcs : DVs.Ok F L cs) :
    x.Ok F L ∧ (((∃ f, P.underlying t = some (.struct f)) ∧ i.size ≤ cs.length ∧ x.av F = .agg ((DVs.av F cs).take i.size)) ∨ ((∃ d, P.underlying t = some d ∧ aggD d = false) ∧ (DVs.av F cs)[0]? = some (x.av F))) := by
  unfold readD at h
  split at h
  · rename_i fs hk
    have hu := hT.und
    rw [hk] at hu
    obtain ⟨⟨f, hf, _⟩, _⟩ := hu
    split at h
    · rename_i hle
      cases h
      refine ⟨DVs.ok_iff.2 fun c hc => DVs.ok_iff.1 hcs c (List.mem_of_mem_take hc), .inl ⟨⟨f, hf⟩, Nat.le_of_ble_eq_true hle, ?_⟩⟩
      simp [DV.av, DVs.av_eq, List.map_take]
    · cases h
  · rename_i hk
    refine ⟨DVs.ok_iff.1 hcs x (List.mem_of_getElem? h), .inr ⟨hT.scal fun fs e => hk fs e, ?_⟩⟩
    rw [DVs.av_eq, List.getElem?_map, h]; rfl
theorem Pb_ {t : TypeId} {i : TyI} (hT : TyOk P t i) {cs : List DV} {x : DV} (h : readD i cs = some x) (hok : DVs.Ok F L cs) {r : Ref} {B : Blk} (hB : H[r.id]? = some B) (hv : r.ver = B.cells.length)
    (hcs : (B.cells.drop r.off).take cs.length = DVs.av F cs) (hle : r.off + cs.length ≤ B.cells.length) : loadA P H t (.ptr r) = some (x.av F) := by
  rcases (J8_ hT h hok).2 with ⟨⟨f, hf⟩, h1, h2⟩ | ⟨⟨d, hd, ha⟩, h2⟩
  · rw [Ane_ hf, hT.sz, h2]
    simp only [Option.bind_some, ldN, hB]
    rw [if_pos ⟨hv, by omega⟩]
    simp only [Option.map_some]
    rw [← hcs, List.take_take, Nat.min_eq_left h1]
  · rw [Sv_ hd ha]
    simp only [ldC, hB, hv, if_true]
    have hlen : 0 < cs.length := by
      have := (List.getElem?_eq_some_iff.1 h2).1
      simpa using this
    rw [← hcs, List.getElem?_take, if_pos hlen, List.getElem?_drop] at h2
    exact h2
theorem Abt_ {t : TypeId} {i : TyI} (hT : TyOk P t i) {cs : List DV} {o : Nat} {x : DV} (h : readD i (cs.drop o) = some x) (hok : DVs.Ok F L cs) : partA P t (DVs.av F cs) o = some (x.av F) ∧ x.Ok F L := by
  have hd : DVs.Ok F L (cs.drop o) := DVs.ok_iff.2 fun c hc => DVs.ok_iff.1 hok c (List.mem_of_mem_drop hc)
  obtain ⟨k1, k2⟩ := J8_ hT h hd
  refine ⟨?_, k1⟩
  have he : DVs.av F (cs.drop o) = (DVs.av F cs).drop o := by simp [DVs.av_eq, List.map_drop]
  rcases k2 with ⟨⟨f, hf⟩, h1, h2⟩ | ⟨⟨d, hd, ha⟩, h2⟩
  · rw [Abu_ hf, hT.sz, h2, he]; rfl
  · rw [Aq9_ hd ha]
    rw [he, List.getElem?_drop] at h2
    simpa using h2
theorem Tj_ (j x : Nat) : ∀ (l : List Col) (c : Nat), (Bg_ j x c l).length = l.length
  | [], _ => rfl
  | _ :: l, c => by simp [Bg_, Tj_ j x l]
theorem Rz_ (j x : Nat) : ∀ (l : List Col) (c i : Nat), (Bg_ j x c l)[i]? = (l[i]?).map fun col => col.cell j (c + i) x
  | [], _, _ => by simp [Bg_]
  | _ :: l, c, 0 => by simp [Bg_]
  | _ :: l, c, i + 1 => by
    simp only [Bg_, List.getElem?_cons_succ]
    rw [Rz_ j x l (c + 1) i]
    simp only [show c + 1 + i = c + (i + 1) by omega]
theorem Qt_ {x es c : Nat} (hc : c < es) : (x * es + c) / es = x ∧ (x * es + c) % es = c := by
  constructor
  · rw [Nat.mul_comm, Nat.mul_add_div (by omega), Nat.div_eq_of_lt hc]; rfl
  · rw [Nat.mul_comm, Nat.mul_add_mod, Nat.mod_eq_of_lt hc]
theorem lt_el {x es c n : Nat} (hx : x < n) (hc : c < es) : x * es + c < n * es := by
  have := Nat.mul_le_mul_right es (show x + 1 ≤ n from hx)
  rw [Nat.add_mul] at this; omega
theorem Hl_ (F : Fr) (j : Nat) (cols : List Col) {x c : Nat} {col : Col} (hx : x < colsN cols) (hc : cols[c]? = some col) : (Ac_ F j cols)[x * cols.length + c]? = some ((col.cell j c x).av F) := by
  have hcl := (List.getElem?_eq_some_iff.1 hc).1
  obtain ⟨h1, h2⟩ := Qt_ (x := x) hcl
  unfold Ac_
  rw [List.getElem?_map, List.getElem?_range (lt_el hx hcl)]
  simp only [Option.map_some, h1, h2, hc]
theorem Vk_ (F : Fr) (j : Nat) (cols : List Col) {x c : Nat} (hx : x < colsN cols) (hc : c ≤ cols.length) :
    ((Ac_ F j cols).drop (x * cols.length + c)).take (cols.length - c) = DVs.av F (Bg_ j x c (cols.drop c)) := by
  refine List.ext_getElem? fun i => ?_
  rw [DVs.av_eq, List.getElem?_map, Rz_, List.getElem?_take, List.getElem?_drop, List.getElem?_drop]
  by_cases hi : i < cols.length - c
  · have hci : c + i < cols.length := by omega
    rw [if_pos hi, List.getElem?_eq_getElem hci, show x * cols.length + c + i = x * cols.length + (c + i) by omega, Hl_ F j cols hx (List.getElem?_eq_getElem hci)]
    rfl
  · rw [if_neg hi, List.getElem?_eq_none (show cols.length ≤ c + i by omega)]; rfl
theorem Tq_ {F : Fr} {L : List DBlk} {H : Heap} (hs : St F L H) {j : Nat} {cols : List Col} {fl : Bool} {v : Nat} (hb : L[j]? = some (.nest cols fl v)) {x c : Nat} {col : Col} (hx : x < colsN cols) (hc : cols[c]? = some col) : (col.cell j c x).Ok F L := by
  cases col with
  | pl r => exact r.get_ok F L x
  | sl inn idx =>
    obtain ⟨q1, q2, q3, q4⟩ := (hs.ok j _ hb).2.2 _ (List.mem_of_getElem? hc)
    simp only [Col.cell]
    have hlt : x < idx.length := by rw [q1]; exact hx
    refine ⟨q4 _, .inr ⟨cols, fl, v, inn, idx, hb, hc, ?_, rfl⟩⟩
    rw [Ao_ _ _ hlt]; exact q3 _ (List.getElem_mem hlt)
theorem Vb_ {F : Fr} {L : List DBlk} {H : Heap} (hs : St F L H) {j : Nat} {cols : List Col} {fl : Bool} {v : Nat} (hb : L[j]? = some (.nest cols fl v)) {x : Nat} (hx : x < colsN cols) (c : Nat) : DVs.Ok F L (Bg_ j x c (cols.drop c)) := by
  refine DVs.ok_iff.2 fun y hy => ?_
  obtain ⟨i, hi⟩ := List.getElem?_of_mem hy
  rw [Rz_, List.getElem?_drop] at hi
  obtain ⟨col, h1, rfl⟩ := Option.map_eq_some_iff.1 hi
  exact Tq_ hs hb hx h1
theorem Wa_ (hT : TOk P T) (hs : St F L H) {t : TypeId} {p x : DV} {L' : List DBlk} (hp : p.Ok F L) (h : (loadD T t p L).run = some (x, L')) : loadA P H t (p.av F) = some (x.av F) ∧ x.Ok F L ∧ L' = L := by
  unfold loadD at h
  split at h
  · rename_i i j off ver alen hTi
    obtain ⟨b, h1, h2, h3, h4, h5⟩ := hp
    split at h
    · rename_i r v hg
      obtain ⟨g1, g2⟩ := Al_ hg
      rw [h1] at g1; cases g1
      have hal := h5 g2.symm
      split at h
      · cases h
      · rename_i hk
        simp only [Tree.run, Option.some.injEq, Prod.mk.injEq] at h
        obtain ⟨rfl, rfl⟩ := h
        obtain ⟨d, hd, ha⟩ := (hT t i hTi).scal fun fs e => hk fs e
        refine ⟨?_, r.get_ok F L off, rfl⟩
        rw [DV.av, Sv_ hd ha]
        simp only [ldC, hs.row h1]
        rw [if_pos (by rw [Row.cells_len]; exact hal)]
        exact r.get_cells F off (by rw [hal] at h3; exact h3)
    · rename_i cs fl v hg
      obtain ⟨g1, g2⟩ := Al_ hg
      rw [h1] at g1; cases g1
      have hal := h5 g2.symm
      obtain ⟨v, hv, h⟩ := Aa_ h
      simp only [Tree.run, Option.some.injEq, Prod.mk.injEq] at h
      obtain ⟨rfl, rfl⟩ := h
      have hok := (hs.ok j _ h1).1
      have hd : DVs.Ok F L (cs.drop off) := DVs.ok_iff.2 fun c hc => DVs.ok_iff.1 hok c (List.mem_of_mem_drop hc)
      have hcl : alen = cs.length := hal
      refine ⟨Pb_ (hT t i hTi) hv hd (hs.gen h1) (by simp only [DVs.av_len]; exact hal) ?_ ?_, (J8_ (hT t i hTi) hv hd).1, rfl⟩
      · simp [DVs.av_eq, List.map_drop]
        exact List.take_of_length_le (by simp)
      · simp; omega
    · cases h
  · rename_i i p cs hTi
    obtain ⟨v, hv, h⟩ := Aa_ h
    simp only [Tree.run, Option.some.injEq, Prod.mk.injEq] at h
    obtain ⟨rfl, rfl⟩ := h
    obtain ⟨r, B, e, k1, k2, k3, k4⟩ := hp.1 H hs.ag
    simp only [DVs.av_len] at k3 k4
    refine ⟨?_, (J8_ (hT t i hTi) hv hp.2).1, rfl⟩
    simp only [DV.av]
    rw [e]
    exact Pb_ (hT t i hTi) hv hp.2 k1 k2 k4 k3
  · rename_i i j ver es len x c hTi
    obtain ⟨b, h1, h2, h3, h4, h5, h6⟩ := hp
    split at h
    · rename_i cols fl hg
      obtain ⟨k1, k2, k3, k4, k5, k6⟩ := Bz_ hs hg h1 h4
      obtain ⟨v, hv, h⟩ := Aa_ h
      simp only [Tree.run, Option.some.injEq, Prod.mk.injEq] at h
      obtain ⟨rfl, rfl⟩ := h
      have hx : x < colsN cols := by omega
      have hok := Vb_ hs k1 hx c
      have hcl : (Bg_ j x c (cols.drop c)).length = es - c := by rw [Tj_, List.length_drop, k2]
      have hlt := Nat.mul_le_mul_right es (show x + 1 ≤ len from h5)
      rw [Nat.add_mul] at hlt
      refine ⟨Pb_ (hT t i hTi) hv hok k5 k6.symm ?_ ?_, (J8_ (hT t i hTi) hv hok).1, rfl⟩
      · rw [hcl]
        have := Vk_ F j cols hx (show c ≤ cols.length by omega)
        rw [k2] at this; exact this
      · rw [hcl]; show x * es + c + (es - c) ≤ (Ac_ F j cols).length
        omega
    · cases h
  · rename_i i j c k x len hTi
    obtain ⟨hk, h1, h2⟩ := hp
    split at h
    · cases h
    · rename_i inn idx _ hi hkd
      obtain ⟨q1, q2, q3, q4⟩ := Cw_ hs hi hk
      simp only [Tree.run, Option.some.injEq, Prod.mk.injEq] at h
      obtain ⟨rfl, rfl⟩ := h
      obtain ⟨d, hd, ha⟩ := (hT t i hTi).scal fun fs e => hkd fs e
      refine ⟨?_, Row.get_ok F L _ x, rfl⟩
      rw [DV.av, Sv_ hd ha]
      obtain ⟨m, rfl⟩ : ∃ m, k = m + 1 := ⟨k - 1, by omega⟩
      simp only [ldC, Nat.add_sub_cancel, q4 m rfl]
      rw [if_pos (by rw [Row.cells_len]; exact q2)]
      exact Row.get_cells F _ x (by omega)
    · cases h
  · cases h
theorem Kr_ (hs : St F L H) {v : DV} {vs : List DV} (h : A2_ v = some vs) (hok : v.Ok F L) : (v.av F).cellsA = some (DVs.av F vs) ∧ DVs.Ok F L vs := by
  cases v with
  | bslc s r =>
    simp only [A2_, Option.some.injEq] at h; subst h
    refine ⟨?_, hok, trivial⟩
    simp only [DV.av, DVs.av]
    rcases hok H hs.ag with ⟨e, _⟩ | ⟨p, B, e, _⟩ <;> rw [e] <;> rfl
  | hslc s n =>
    simp only [A2_, Option.some.injEq] at h; subst h
    refine ⟨?_, hok, trivial⟩
    simp only [DV.av, DVs.av]
    rcases hok H hs.ag with ⟨e, _⟩ | ⟨p, B, e, _⟩ <;> rw [e] <;> rfl
  | bptr p cs =>
    simp only [A2_, Option.some.injEq] at h; subst h
    refine ⟨?_, hok, trivial⟩
    obtain ⟨r, B, e, _⟩ := hok.1 H hs.ag
    simp only [DV.av, DVs.av]
    rw [e]; rfl
  | inn j c k len =>
    simp only [A2_, Option.some.injEq] at h; subst h
    refine ⟨?_, hok, trivial⟩
    cases k <;> rfl
  | agg cs => simp only [A2_, Option.some.injEq] at h; subst h; exact ⟨rfl, hok⟩
  | _ => first | (simp only [A2_, Option.some.injEq] at h; subst h; exact ⟨rfl, hok, trivial⟩) | cases h
theorem J2_ (hs : St F L H) {vs : List DV} (hok : DVs.Ok F L vs) (h : allT (okC L) vs = true) : (DVs.av F vs).all (A5_ H) = true := by
  rw [DVs.av_eq, List.all_map, List.all_eq_true]
  intro c hc
  exact Xe_ hs (DVs.ok_iff.1 hok c hc) (Ca_.1 h c hc)
theorem Up_ {vs : List DV} (h : allT DV.flat vs = true) : (DVs.av F vs).all AV.isFlat = true := by
  rw [DVs.av_eq, List.all_map, List.all_eq_true]
  intro c hc
  exact Da_ F (Ca_.1 h c hc)
theorem Y7_ (vs : List DV) : ∀ (l : List DV) (o : Nat), DVs.av F (putD l o vs) = putAt (DVs.av F l) o (DVs.av F vs) := by
  induction vs with
  | nil => intro l o; rfl
  | cons v vs ih => intro l o; simp only [putD, DVs.av, putAt]; rw [ih]; simp [DVs.av_eq, List.map_set]
theorem Yx_ (vs : List DV) : ∀ (l : List DV) (o : Nat), (putD l o vs).length = l.length := by
  induction vs with
  | nil => intro l o; rfl
  | cons v vs ih => intro l o; simp [putD, ih]
theorem Sb_ (vs : List DV) : ∀ (l : List DV) (o : Nat) (c : DV), c ∈ putD l o vs → c ∈ l ∨ c ∈ vs := by
  induction vs with
  | nil => intro l o c h; exact .inl h
  | cons v vs ih =>
    intro l o c h
    rcases ih _ _ c h with h | h
    · rcases List.mem_or_eq_of_mem_set h with h | h
      · exact .inl h
      · exact .inr (by simp [h])
    · exact .inr (by simp [h])
theorem NRow.get_out (inn : NRow) {k : Nat} (h : inn.n ≤ k) : (inn.get (k + 1)).len = 0 := by
  have key : ∀ {α : Type} (xs : List (List α)), xs.length ≤ k → (nget xs (k + 1)).length = 0 := fun xs hk => by
    simp only [nget, nth, List.getD_eq_getElem?_getD, List.getElem?_eq_none hk, Option.getD_none]; rfl
  cases inn <;> exact key _ h
theorem NRow.push_spec {inn inn' : NRow} {r : Row} (h : inn.push r = some inn') : inn'.n = inn.n + 1 ∧ inn'.get (inn.n + 1) = r ∧ ∀ k, k ≤ inn.n → inn'.get k = inn.get k := by
  have key : ∀ {α : Type} (xs : List (List α)) (r : List α), (xs ++ [r]).length = xs.length + 1 ∧ nget (xs ++ [r]) (xs.length + 1) = r ∧ ∀ k, k ≤ xs.length → nget (xs ++ [r]) k = nget xs k := fun xs r => by
    refine ⟨by simp, ?_, fun k hk => ?_⟩
    · simp only [nget]; rw [Ao_ _ _ (by simp)]; simp
    · cases k with
      | zero => rfl
      | succ k => simp only [nget]; rw [Ao_ _ _ (by simp; omega), Ao_ _ _ (by omega), List.getElem_append_left (by omega)]
  cases inn with
  | f32 xs =>
    cases r with
    | f32 ys =>
      simp only [NRow.push, Option.some.injEq] at h
      subst h
      obtain ⟨k1, k2, k3⟩ := key xs ys
      exact ⟨k1, by simp only [NRow.get, NRow.n, k2], fun k hk => by simp only [NRow.get, k3 k hk]⟩
    | _ => simp [NRow.push] at h
  | f64 xs =>
    cases r with
    | f64 ys =>
      simp only [NRow.push, Option.some.injEq] at h
      subst h
      obtain ⟨k1, k2, k3⟩ := key xs ys
      exact ⟨k1, by simp only [NRow.get, NRow.n, k2], fun k hk => by simp only [NRow.get, k3 k hk]⟩
    | _ => simp [NRow.push] at h
  | i64 xs =>
    cases r with
    | i64 ys =>
      simp only [NRow.push, Option.some.injEq] at h
      subst h
      obtain ⟨k1, k2, k3⟩ := key xs ys
      exact ⟨k1, by simp only [NRow.get, NRow.n, k2], fun k hk => by simp only [NRow.get, k3 k hk]⟩
    | _ => simp [NRow.push] at h
theorem NRow.set_spec {inn inn' : NRow} {r : Row} {k : Nat} (h : inn.set k r = some inn') (h1 : 1 ≤ k) (h2 : k ≤ inn.n) : inn'.n = inn.n ∧ inn'.get k = r ∧ ∀ m, m ≠ k → inn'.get m = inn.get m := by
  obtain ⟨k, rfl⟩ : ∃ i, k = i + 1 := ⟨k - 1, by omega⟩
  have key : ∀ {α : Type} (xs : List (List α)) (r : List α), k < xs.length → (xs.set k r).length = xs.length ∧ nget (xs.set k r) (k + 1) = r ∧ ∀ m, m ≠ k + 1 → nget (xs.set k r) m = nget xs m := fun xs r hk => by
    refine ⟨by simp, ?_, fun m hm => ?_⟩
    · simp only [nget]; rw [Ao_ _ _ (by simpa using hk)]; simp
    · cases m with
      | zero => rfl
      | succ m =>
        simp only [nget, nth, List.getD_eq_getElem?_getD]
        rw [List.getElem?_set_ne (by omega)]
  cases inn with
  | f32 xs =>
    cases r with
    | f32 ys =>
      simp only [NRow.set, Option.some.injEq, Nat.add_sub_cancel] at h
      subst h
      obtain ⟨k1, k2, k3⟩ := key xs ys h2
      exact ⟨k1, by simp only [NRow.get, k2], fun m hm => by simp only [NRow.get, k3 m hm]⟩
    | _ => simp [NRow.set] at h
  | f64 xs =>
    cases r with
    | f64 ys =>
      simp only [NRow.set, Option.some.injEq, Nat.add_sub_cancel] at h
      subst h
      obtain ⟨k1, k2, k3⟩ := key xs ys h2
      exact ⟨k1, by simp only [NRow.get, k2], fun m hm => by simp only [NRow.get, k3 m hm]⟩
    | _ => simp [NRow.set] at h
  | i64 xs =>
    cases r with
    | i64 ys =>
      simp only [NRow.set, Option.some.injEq, Nat.add_sub_cancel] at h
      subst h
      obtain ⟨k1, k2, k3⟩ := key xs ys h2
      exact ⟨k1, by simp only [NRow.get, k2], fun m hm => by simp only [NRow.get, k3 m hm]⟩
    | _ => simp [NRow.set] at h
theorem C6_ {cols : List Col} {c : Nat} {col col' : Col} (hc : cols[c]? = some col) (h : col'.len = col.len) : colsN (cols.set c col') = colsN cols := by
  cases cols with
  | nil => simp at hc
  | cons a l =>
    cases c with
    | zero => simp at hc; subst hc; simp [colsN, h]
    | succ c => rfl
theorem Rg_ {F F' : Fr} {j : Nat} {cols cols' : List Col} (hl : cols'.length = cols.length) (hn : colsN cols' = colsN cols)
    (h : ∀ (c y : Nat) (col' : Col), cols'[c]? = some col' → y < colsN cols → ∃ col, cols[c]? = some col ∧ (col'.cell j c y).av F' = (col.cell j c y).av F) : Ac_ F' j cols' = Ac_ F j cols := by
  unfold Ac_
  rw [hl, hn]
  refine List.map_congr_left fun p hp => ?_
  rw [List.mem_range] at hp
  have hpos : 0 < cols.length := by
    rcases Nat.eq_zero_or_pos cols.length with h | h
    · rw [h] at hp; simp at hp
    · exact h
  have hc : p % cols.length < cols'.length := by rw [hl]; exact Nat.mod_lt _ hpos
  obtain ⟨col, h1, h2⟩ := h (p % cols.length) (p / cols.length) _ (List.getElem?_eq_getElem hc) (Nat.div_lt_of_lt_mul (by rw [Nat.mul_comm]; exact hp))
  rw [List.getElem?_eq_getElem hc, h1]
  exact h2
theorem Yk_ {F : Fr} {j : Nat} {cols : List Col} {c x : Nat} {col col' : Col} {a : AV} (hc : cols[c]? = some col) (hlen : col'.len = col.len)
    (hcell : ∀ y, y < colsN cols → (col'.cell j c y).av F = if y = x then a else (col.cell j c y).av F) : Ac_ F j (cols.set c col') = (Ac_ F j cols).set (x * cols.length + c) a := by
  have hcl := (List.getElem?_eq_some_iff.1 hc).1
  refine List.ext_getElem? fun p => ?_
  have hN := C6_ hc hlen
  rcases Nat.lt_or_ge p (colsN cols * cols.length) with hp | hp
  · have hd : p % cols.length < cols.length := Nat.mod_lt _ (by omega)
    have hy : p / cols.length < colsN cols := Nat.div_lt_of_lt_mul (by rw [Nat.mul_comm]; exact hp)
    have hpe : p = p / cols.length * cols.length + p % cols.length := by
      have := Nat.div_add_mod p cols.length
      rw [Nat.mul_comm] at this; omega
    have e1 : (Ac_ F j cols)[p]? = some (((cols[p % cols.length]'hd).cell j (p % cols.length) (p / cols.length)).av F) := by
      have := Hl_ F j cols hy (List.getElem?_eq_getElem hd)
      rw [← hpe] at this; exact this
    have hd' : p % cols.length < (cols.set c col').length := by simpa using hd
    have e2 : (Ac_ F j (cols.set c col'))[p]? = some ((((cols.set c col')[p % cols.length]'hd').cell j (p % cols.length) (p / cols.length)).av F) := by
      have := Hl_ F j (cols.set c col') (x := p / cols.length) (by rw [hN]; exact hy) (List.getElem?_eq_getElem hd')
      rw [List.length_set, ← hpe] at this; exact this
    rw [e2, List.getElem?_set]
    by_cases he : x * cols.length + c = p
    · have h1 : p % cols.length = c := by rw [← he]; exact (Qt_ hcl).2
      have h2 : p / cols.length = x := by rw [← he]; exact (Qt_ hcl).1
      rw [if_pos he, if_pos (by simp; omega)]
      simp only [h1, h2, List.getElem_set_self]
      rw [hcell x (by omega), if_pos rfl]
    · rw [if_neg he, e1]
      by_cases h1 : p % cols.length = c
      · have h2 : p / cols.length ≠ x := fun e => he (by rw [← e, ← h1]; exact hpe.symm)
        simp only [h1, List.getElem_set_self]
        rw [hcell _ hy, if_neg h2]
        obtain ⟨g1, g2⟩ := List.getElem?_eq_some_iff.1 hc
        rw [g2]
      · rw [List.getElem_set_ne (fun e => h1 e.symm)]
  · rw [List.getElem?_eq_none (by simpa [hN] using hp), List.getElem?_eq_none (by simpa using hp)]
theorem Afv_ {α : Type} [Inhabited α] (xs : List α) (i : Nat) (v : α) (h : i < xs.length) : nth (xs.set i v) i = v := by rw [Ao_ _ _ (by simpa using h)]; simp
theorem Acp_ {α : Type} [Inhabited α] (xs : List α) (i j : Nat) (v : α) (h : i ≠ j) : nth (xs.set i v) j = nth xs j := by
  unfold nth; simp [List.getD_eq_getElem?_getD, List.getElem?_set_ne h]
theorem Cp_ {F : Fr} {j c k : Nat} {inn : NRow} : (DV.inn j c k (inn.get k).len).av F = (match k with | 0 => AV.nilslc | m + 1 => AV.slc ⟨F.pl j (c + 1) m, 0, (inn.get (m + 1)).len⟩ (inn.get (m + 1)).len) := by cases k <;> rfl
theorem Qg_ (hs : St F L H) {j ver c x k : Nat} {fl : Bool} {cols : List Col} {inn : NRow} {idx : List Nat} {a : AV} (hb : L[j]? = some (.nest cols fl ver)) (hc : cols[c]? = some (.sl inn idx)) (hx : x < colsN cols) (hk : k ≤ inn.n)
    (ha : (DV.inn j c k (inn.get k).len).av F = a) : ∃ cols', cols' = cols.set c (.sl inn (idx.set x k)) ∧ cols'.length = cols.length ∧ colsN cols' = colsN cols ∧ Ac_ F j cols' = (Ac_ F j cols).set (x * cols.length + c) a ∧
      Ext L (L.set j (.nest cols' fl ver)) ∧ St F (L.set j (.nest cols' fl ver)) (H.set (F.abs j) ⟨(Ac_ F j cols).set (x * cols.length + c) a, true, cols.length, fl⟩) := by
  obtain ⟨o1, o2, o3⟩ := hs.ok j _ hb
  obtain ⟨q1, q2, q3, q4⟩ := o3 _ (List.mem_of_getElem? hc)
  have hN : colsN (cols.set c (.sl inn (idx.set x k))) = colsN cols := C6_ hc (by simp [Col.len])
  have hav : Ac_ F j (cols.set c (.sl inn (idx.set x k))) = (Ac_ F j cols).set (x * cols.length + c) a := by
    refine Yk_ hc (by simp [Col.len]) fun y hy => ?_
    simp only [Col.cell]
    by_cases hyx : y = x
    · subst hyx
      rw [if_pos rfl, Afv_ _ _ _ (by rw [q1]; exact hy)]; exact ha
    · rw [if_neg hyx, Acp_ _ _ _ _ (fun e => hyx e.symm)]
  have hcl := (List.getElem?_eq_some_iff.1 hc).1
  have he : Ext L (L.set j (.nest (cols.set c (.sl inn (idx.set x k))) fl ver)) := Ext.set hb (Nat.le_refl _) (by simp [DBlk.clen, hN]) (fun _ => by simp [DBlk.clen, hN]) (.nest _ _ _ _ _ _ (by simp) fun c' i' x' hc' => by
    rw [List.getElem?_set]
    by_cases hcc : c = c'
    · subst hcc
      rw [hc] at hc'; cases hc'
      exact ⟨inn, idx.set x k, by simp [hcl], Nat.le_refl _, fun _ _ => rfl⟩
    · rw [if_neg hcc]; exact ⟨i', x', hc', Nat.le_refl _, fun _ _ => rfl⟩)
  refine ⟨_, rfl, by simp, hN, hav, he, ?_⟩
  have hset := hs.set1 (j := j) (c0 := 0) (k0 := 0) (b' := .nest (cols.set c (.sl inn (idx.set x k))) fl ver) (B0 := (DBlk.nest cols fl ver).blk F j) (B' := ⟨(Ac_ F j cols).set (x * cols.length + c) a, true, cols.length, fl⟩) (by rw [Am_ hb]; rfl) (fun c1 k1 hn => ?_) (by simp only [DBlk.at', if_true, DBlk.blk, hav, List.length_set]) he ?_ (fun _ _ => by simp)
  · exact hset
  · rw [Am_ hb]
    cases c1 with
    | zero =>
      have hk1 : k1 ≠ 0 := fun e => hn ⟨rfl, e⟩
      simp only [DBlk.at', hk1, if_false]
    | succ c1 =>
      simp only [DBlk.at', List.getElem?_set]
      by_cases hcc : c = c1
      · subst hcc
        rw [if_pos rfl, if_pos hcl, hc]
      · rw [if_neg hcc]
  · refine ⟨by rw [hN]; exact o1, by simpa using o2, fun col hcol => ?_⟩
    rw [hN]
    rcases List.mem_or_eq_of_mem_set hcol with h | h
    · exact o3 col h
    · subst h
      refine ⟨by simpa using q1, q2, fun m hm => ?_, q4⟩
      rcases List.mem_or_eq_of_mem_set hm with h | h
      · exact q3 m h
      · subst h; exact hk
theorem Apq_ (hs : St F L H) {j j' ver c v' : Nat} {fl : Bool} {cols : List Col} {inn inn' : NRow} {idx : List Nat} {r : Row} (hb : L[j]? = some (.nest cols fl ver)) (hc : cols[c]? = some (.sl inn idx)) (hb' : L[j']? = some (.row r v')) (hp : inn.push r = some inn') :
    ∃ F', FrLe F F' L ∧ F'.pl j (c + 1) inn.n = F.abs j' ∧ Ext L ((L.set j' (.gone r.len (v' + 1))).set j (.nest (cols.set c (.sl inn' idx)) fl ver)) ∧ Ac_ F' j (cols.set c (.sl inn' idx)) = Ac_ F j cols ∧
      St F' ((L.set j' (.gone r.len (v' + 1))).set j (.nest (cols.set c (.sl inn' idx)) fl ver)) H := by
  have hne : j' ≠ j := fun e => by rw [e, hb] at hb'; cases hb'
  have hjl := (List.getElem?_eq_some_iff.1 hb).1
  have hjl' := (List.getElem?_eq_some_iff.1 hb').1
  have hcl := (List.getElem?_eq_some_iff.1 hc).1
  obtain ⟨o1, o2, o3⟩ := hs.ok j _ hb
  obtain ⟨q1, q2, q3, q4⟩ := o3 _ (List.mem_of_getElem? hc)
  obtain ⟨p1, p2, p3⟩ := NRow.push_spec hp
  have hrl : r.len ≤ maxN := hs.ok j' _ hb'
  obtain ⟨g, hg⟩ : ∃ g : Nat → Nat → Nat → Nat, g = fun a b d => if a = j ∧ b = c + 1 ∧ d = inn.n then F.abs j' else if a = j' ∧ ¬ (b = 0 ∧ d = 0) then F.abs j' else F.pl a b d := ⟨_, rfl⟩
  have ga : ∀ a b d, a ≠ j → a ≠ j' → g a b d = F.pl a b d := fun a b d h1 h2 => by
    rw [hg]; simp only
    rw [if_neg (fun e => h1 e.1), if_neg (fun e => h2 e.1)]
  have gj : ∀ b d, ¬ (b = c + 1 ∧ d = inn.n) → g j b d = F.pl j b d := fun b d h => by
    rw [hg]; simp only
    rw [if_neg (fun e => h e.2), if_neg (fun e => hne e.1.symm)]
  have gm : ∀ a, g a 0 0 = F.pl a 0 0 := fun a => by
    rw [hg]; simp only
    rw [if_neg (fun e => by omega), if_neg (by simp)]
  have gn : g j (c + 1) inn.n = F.abs j' := by rw [hg]; simp
  have hle : FrLe F (F.wa g) L := by
    refine ⟨⟨g, rfl⟩, fun a _ => gm a, fun a cols' fl' w c' i' x' k h1 h2 h3 => ?_, fun a n w b d h1 => ?_⟩
    · by_cases haj : a = j
      · subst haj
        rw [hb] at h1; cases h1
        refine gj _ _ fun e => ?_
        obtain ⟨e1, e2⟩ := e
        have : c' = c := by omega
        subst this
        rw [hc] at h2; cases h2
        omega
      · exact ga _ _ _ haj fun e => by subst e; rw [hb'] at h1; cases h1
    · exact ga _ _ _ (fun e => by subst e; rw [hb] at h1; cases h1) fun e => by subst e; rw [hb'] at h1; cases h1
  have hN : colsN (cols.set c (.sl inn' idx)) = colsN cols := C6_ hc rfl
  have hget : ∀ a, ((L.set j' (.gone r.len (v' + 1))).set j (.nest (cols.set c (.sl inn' idx)) fl ver))[a]? = if a = j then some (.nest (cols.set c (.sl inn' idx)) fl ver) else if a = j' then some (.gone r.len (v' + 1)) else L[a]? := fun a => by
    rw [List.getElem?_set, List.getElem?_set]
    by_cases h1 : a = j
    · subst h1; simp [hjl]
    · rw [if_neg (fun e => h1 e.symm), if_neg h1]
      by_cases h2 : a = j'
      · subst h2; simp [hjl']
      · rw [if_neg (fun e => h2 e.symm), if_neg h2]
  have hav : Ac_ (F.wa g) j (cols.set c (.sl inn' idx)) = Ac_ F j cols := by
    refine Rg_ (by simp) hN fun c1 y col' h1 hy => ?_
    rw [List.getElem?_set] at h1
    by_cases hcc : c = c1
    · subst hcc
      rw [if_pos rfl, if_pos hcl] at h1
      cases h1
      refine ⟨_, hc, ?_⟩
      have hlt : y < idx.length := by rw [q1]; exact hy
      have hkn : nth idx y ≤ inn.n := by rw [Ao_ _ _ hlt]; exact q3 _ (List.getElem_mem hlt)
      simp only [Col.cell]
      rw [Cp_, Cp_]
      cases hk : nth idx y with
      | zero => rfl
      | succ m =>
        rw [hk] at hkn
        simp only
        rw [p3 (m + 1) hkn, show (F.wa g).pl j (c + 1) m = F.pl j (c + 1) m from gj _ _ fun e => by omega]
    · rw [if_neg hcc] at h1
      refine ⟨col', h1, ?_⟩
      exact hle.av _ (Tq_ hs hb hy h1)
  have hext : Ext L ((L.set j' (.gone r.len (v' + 1))).set j (.nest (cols.set c (.sl inn' idx)) fl ver)) := fun a b hab => by
    rw [hget]
    by_cases h1 : a = j
    · subst h1
      rw [hb] at hab; cases hab
      refine ⟨_, if_pos rfl, Nat.le_refl _, by simp [DBlk.clen, hN], fun _ => by simp [DBlk.clen, hN], .nest _ _ _ _ _ _ (by simp) fun c' i' x' hc' => ?_⟩
      rw [List.getElem?_set]
      by_cases hcc : c = c'
      · subst hcc
        rw [hc] at hc'; cases hc'
        exact ⟨inn', idx, by simp [hcl], by omega, fun k hk => by rw [p3 k hk]⟩
      · rw [if_neg hcc]; exact ⟨i', x', hc', Nat.le_refl _, fun _ _ => rfl⟩
    · rw [if_neg h1]
      by_cases h2 : a = j'
      · subst h2
        rw [hb'] at hab; cases hab
        exact ⟨_, if_pos rfl, by simp [DBlk.ver], Nat.le_refl _, fun _ => rfl, .gone _ _ _⟩
      · rw [if_neg h2]; exact ⟨b, hab, Nat.le_refl _, Nat.le_refl _, fun _ => rfl, .refl _⟩
  refine ⟨F.wa g, hle, gn, hext, hav, hs.re (fun a b d => if a = j ∧ b = c + 1 ∧ d = inn.n then (j', 0, 0) else (a, b, d)) (fun a b d B hB => ?_) (fun a b d B a' b' d' B' hB hB' e => ?_) ⟨g, rfl⟩ (fun a n w ha b d => ?_) fun a b hab => ?_⟩
  · unfold blkAt at hB
    rw [hget] at hB
    by_cases h1 : a = j
    · subst h1
      simp only [if_true] at hB
      rcases E4_ hB with ⟨rfl, rfl, rfl, _⟩ | ⟨cols', fl', w, c', i', x', e1, rfl, e3, e4, rfl⟩
      · rw [if_neg (fun e => by omega)]
        refine ⟨?_, gm a⟩
        rw [Am_ hb]
        simp only [DBlk.at', if_true, DBlk.blk, hav, List.length_set]
      · cases e1
        rw [List.getElem?_set] at e3
        by_cases hcc : c = c'
        · subst hcc
          rw [if_pos rfl, if_pos hcl] at e3
          cases e3
          by_cases hd : d = inn.n
          · subst hd
            rw [if_pos ⟨rfl, rfl, rfl⟩]
            refine ⟨?_, gn⟩
            rw [Am_ hb', p2]; rfl
          · rw [if_neg (fun e => hd e.2.2)]
            refine ⟨?_, gj _ _ fun e => hd e.2⟩
            show blkAt F L a (c + 1) d = _
            rw [Am_ hb, Ci_ hc (by omega), p3 (d + 1) (by omega)]
        · rw [if_neg hcc] at e3
          rw [if_neg (fun e => by omega)]
          refine ⟨?_, gj _ _ fun e => by omega⟩
          rw [Am_ hb, Ci_ e3 e4]
    · simp only [if_neg h1] at hB
      by_cases h2 : a = j'
      · subst h2
        simp only [if_true, DBlk.at'] at hB
        cases hB
      · simp only [if_neg h2] at hB
        rw [if_neg (fun e => h1 e.1)]
        refine ⟨?_, ga _ _ _ h1 h2⟩
        split at hB
        · rename_i b0 hb0
          simp only
          rw [Am_ hb0]
          rw [hle.at_eq hb0 (hs.ok a b0 hb0)] at hB
          exact hB
        · cases hB
  · have nl : ∀ b d B, blkAt (F.wa g) ((L.set j' (.gone r.len (v' + 1))).set j (.nest (cols.set c (.sl inn' idx)) fl ver)) j' b d = some B → False := fun b d B h => by
      unfold blkAt at h
      rw [hget, if_neg hne, if_pos rfl] at h
      cases h
    by_cases h1 : a = j ∧ b = c + 1 ∧ d = inn.n
    · rw [if_pos h1] at e
      by_cases h2 : a' = j ∧ b' = c + 1 ∧ d' = inn.n
      · exact ⟨h1.1.trans h2.1.symm, h1.2.1.trans h2.2.1.symm, h1.2.2.trans h2.2.2.symm⟩
      · rw [if_neg h2] at e
        cases e
        exact (nl _ _ _ hB').elim
    · rw [if_neg h1] at e
      by_cases h2 : a' = j ∧ b' = c + 1 ∧ d' = inn.n
      · rw [if_pos h2] at e
        cases e
        exact (nl _ _ _ hB).elim
      · rw [if_neg h2] at e
        cases e; exact ⟨rfl, rfl, rfl⟩
  · rw [hget] at ha
    by_cases h1 : a = j
    · rw [if_pos h1] at ha; cases ha
    · rw [if_neg h1] at ha
      by_cases h2 : a = j'
      · subst h2
        have : g a b d = F.abs a := by
          rw [hg]; simp only
          rw [if_neg (fun e => h1 e.1)]
          by_cases h3 : b = 0 ∧ d = 0
          · obtain ⟨rfl, rfl⟩ := h3; rw [if_neg (by simp)]; rfl
          · rw [if_pos ⟨trivial, h3⟩]
        show g a b d < H.length
        rw [this]; exact hs.lt hb'
      · rw [if_neg h2] at ha
        show g a b d < H.length
        rw [ga _ _ _ h1 h2]; exact hs.ltp a n w ha b d
  · rw [hget] at hab
    by_cases h1 : a = j
    · rw [if_pos h1] at hab; cases hab
      refine ⟨by rw [hN]; exact o1, by simpa using o2, fun col hcol => ?_⟩
      rw [hN]
      rcases List.mem_or_eq_of_mem_set hcol with h | h
      · exact o3 col h
      · subst h
        refine ⟨q1, q2, fun m hm => by have := q3 m hm; omega, fun k => ?_⟩
        rcases Nat.lt_or_ge inn.n k with hk | hk
        · by_cases hk1 : k = inn.n + 1
          · subst hk1; rw [p2]; exact hrl
          · have : (inn'.get k).len = 0 := by
              have hgt : inn'.n < k := by omega
              obtain ⟨k, rfl⟩ : ∃ i, k = i + 1 := ⟨k - 1, by omega⟩
              exact inn'.get_out (by omega)
            omega
        · rw [p3 k hk]; exact q4 k
    · rw [if_neg h1] at hab
      by_cases h2 : a = j'
      · rw [if_pos h2] at hab; cases hab; trivial
      · rw [if_neg h2] at hab
        have := (hs.ok a b hab).ext hext
        cases b with
        | gen cs fl2 w => exact ⟨hle.oks' hext (hs.ok a _ hab).1, this.2⟩
        | row r w => exact this
        | nest cols w2 w => exact this
        | gone n w => trivial
theorem Aj3_ (hs : St F L H) {j ver x c : Nat} {fl : Bool} {cols : List Col} {v : DV} {L' : List DBlk} (hb : L[j]? = some (.nest cols fl ver)) (hx : x < colsN cols) (hv : v.Ok F L) (h : putC L j ver fl cols x c v = some L') :
    ∃ F' cols', FrLe F F' L ∧ Ext L L' ∧ L'[j]? = some (.nest cols' fl ver) ∧ cols'.length = cols.length ∧ colsN cols' = colsN cols ∧ Ac_ F' j cols' = (Ac_ F j cols).set (x * cols.length + c) (v.av F) ∧
      St F' L' (H.set (F.abs j) ⟨(Ac_ F j cols).set (x * cols.length + c) (v.av F), true, cols.length, fl⟩) ∧ (fl = true → (v.av F).isFlat = true) := by
  have hjl := (List.getElem?_eq_some_iff.1 hb).1
  obtain ⟨o1, o2, o3⟩ := hs.ok j _ hb
  unfold putC at h
  split at h
  · rename_i r hc
    split at h
    · rename_i r' hr
      cases h
      obtain ⟨e1, e2, e3⟩ := r.set_spec F hr
      have hcl := (List.getElem?_eq_some_iff.1 hc).1
      have hN : colsN (cols.set c (.pl r')) = colsN cols := C6_ hc (by simp [Col.len, e2])
      have hrl : r.len = colsN cols := o3 _ (List.mem_of_getElem? hc)
      have hgc : ∀ y, y < r.len → ((r'.get y).av F) = if y = x then v.av F else (r.get y).av F := fun y hy => by
        have h1 := r'.get_cells F y (by rw [e2]; exact hy)
        have h2 := r.get_cells F y hy
        rw [e1, List.getElem?_set] at h1
        by_cases hyx : x = y
        · subst hyx
          rw [if_pos rfl, if_pos (by rw [Row.cells_len]; exact hy)] at h1
          rw [if_pos rfl]; exact (Option.some.inj h1).symm
        · rw [if_neg hyx, h2] at h1
          rw [if_neg (fun e => hyx e.symm)]; exact (Option.some.inj h1).symm
      have hav : Ac_ F j (cols.set c (.pl r')) = (Ac_ F j cols).set (x * cols.length + c) (v.av F) :=
        Yk_ hc (by simp [Col.len, e2]) fun y hy => hgc y (by rw [hrl]; exact hy)
      have he : Ext L (L.set j (.nest (cols.set c (.pl r')) fl ver)) := Ext.set hb (Nat.le_refl _) (by simp [DBlk.clen, hN]) (fun _ => by simp [DBlk.clen, hN]) (.nest _ _ _ _ _ _ (by simp) fun c' i' x' hc' => by
        rw [List.getElem?_set]
        by_cases hcc : c = c'
        · subst hcc; rw [hc] at hc'; cases hc'
        · rw [if_neg hcc]; exact ⟨i', x', hc', Nat.le_refl _, fun _ _ => rfl⟩)
      refine ⟨F, _, FrLe.refl F L, he, by simp [hjl], by simp, hN, hav, ?_, fun _ => Da_ F e3⟩
      refine hs.set1 (j := j) (c0 := 0) (k0 := 0) (b' := .nest (cols.set c (.pl r')) fl ver) (B0 := (DBlk.nest cols fl ver).blk F j) (by rw [Am_ hb]; rfl) (fun c1 k1 hn => ?_) (by simp only [DBlk.at', if_true, DBlk.blk, hav, List.length_set]) he ?_ (fun _ _ => by simp)
      · rw [Am_ hb]
        cases c1 with
        | zero =>
          have hk1 : k1 ≠ 0 := fun e => hn ⟨rfl, e⟩
          simp only [DBlk.at', hk1, if_false]
        | succ c1 =>
          simp only [DBlk.at', List.getElem?_set]
          by_cases hcc : c = c1
          · subst hcc
            rw [if_pos rfl, if_pos hcl, hc]
          · rw [if_neg hcc]
      · refine ⟨by rw [hN]; exact o1, by simpa using o2, fun col hcol => ?_⟩
        rw [hN]
        rcases List.mem_or_eq_of_mem_set hcol with h | h
        · exact o3 col h
        · subst h; exact e2.trans hrl
    · cases h
  · rename_i inn idx hc
    obtain ⟨q1, q2, q3, q4⟩ := o3 _ (List.mem_of_getElem? hc)
    have nf : fl = true → (v.av F).isFlat = true := fun e => by rw [q2] at e; cases e
    split at h
    · cases h
      obtain ⟨cols', rfl, k1, k2, k3, k4, k5⟩ := Qg_ hs hb hc hx (Nat.zero_le _) (a := .nilslc) rfl
      exact ⟨F, _, FrLe.refl F L, k4, by simp [hjl], k1, k2, k3, k5, nf⟩
    · rename_i j' c' k len
      split at h
      · rename_i e1 e2
        have e1 := Nat.eq_of_beq_eq_true e1
        have e2 := Nat.eq_of_beq_eq_true e2
        subst e1; subst e2
        cases h
        have hi : innAt L j' c' = some (inn, idx) := by simp only [innAt, hb, hc]
        obtain ⟨g1, g2, _⟩ := Cw_ hs hi hv
        obtain ⟨cols', rfl, k1, k2, k3, k4, k5⟩ := Qg_ hs hb hc hx g1 (a := (DV.inn j' c' k len).av F) (by rw [← g2])
        exact ⟨F, _, FrLe.refl F L, k4, by simp [hjl], k1, k2, k3, k5, nf⟩
      · cases h
    · rename_i j' ver' len
      split at h
      · rename_i r v' hg
        split at h
        · rename_i inn' hp
          cases h
          obtain ⟨b1, g0, g3, g4, g5, g6⟩ := hv
          obtain ⟨g1, g2⟩ := Al_ hg
          rw [g0] at g1; cases g1
          have hlen : len = r.len := g5 g2.symm
          obtain ⟨F', t1, t2, t3, t4, t5⟩ := Apq_ hs hb hc g0 hp
          obtain ⟨p1, p2, p3⟩ := NRow.push_spec hp
          have hcl := (List.getElem?_eq_some_iff.1 hc).1
          have hb2 : ((L.set j' (.gone r.len (v' + 1))).set j (.nest (cols.set c (.sl inn' idx)) fl ver))[j]? = some (.nest (cols.set c (.sl inn' idx)) fl ver) := by simp [hjl]
          have hN : colsN (cols.set c (.sl inn' idx)) = colsN cols := C6_ hc rfl
          obtain ⟨cols', rfl, k1, k2, k3, k4, k5⟩ := Qg_ t5 (c := c) (x := x) (k := inn.n + 1) (inn := inn') (idx := idx) (a := (DV.own j' ver' len).av F) hb2 (by simp [hcl]) (by rw [hN]; exact hx) (by omega) (by
            rw [p2]
            simp only [DV.av, t2, hlen])
          rw [List.set_set] at k1 k2 k3 k4 k5 
          have habs : F'.abs j = F.abs j := t1.main j hjl
          rw [t4, habs, List.length_set] at k5
          rw [t4, List.length_set] at k3
          rw [List.set_set] at k4 k5
          exact ⟨F', _, t1, t3.trans k4, by simp [hjl], by simp, k2.trans hN, k3, k5, nf⟩
        · cases h
      · cases h
    · cases h
  · cases h
theorem Xo_ (l : List AV) (o : Nat) (a : AV) (vs : List AV) : putAt l o (a :: vs) = putAt (l.set o a) (o + 1) vs := rfl
theorem Pa_ {j ver x : Nat} {fl : Bool} {L' : List DBlk} : ∀ (vs : List DV) (F : Fr) (L : List DBlk) (H : Heap) (c : Nat) (cols : List Col), St F L H → L[j]? = some (.nest cols fl ver) → x < colsN cols → DVs.Ok F L vs → putN j x L c vs = some L' →
    ∃ F' cols', FrLe F F' L ∧ Ext L L' ∧ L'[j]? = some (.nest cols' fl ver) ∧ cols'.length = cols.length ∧ colsN cols' = colsN cols ∧ Ac_ F' j cols' = putAt (Ac_ F j cols) (x * cols.length + c) (DVs.av F vs) ∧
      St F' L' (H.set (F.abs j) ⟨putAt (Ac_ F j cols) (x * cols.length + c) (DVs.av F vs), true, cols.length, fl⟩) ∧ (fl = true → (DVs.av F vs).all AV.isFlat = true)
  | [], F, L, H, c, cols, hs, hb, hx, hv, h => by
    simp only [putN, Option.some.injEq] at h
    subst h
    refine ⟨F, cols, FrLe.refl F L, Ext.refl L, hb, rfl, rfl, rfl, ?_, fun _ => rfl⟩
    have : H.set (F.abs j) ⟨putAt (Ac_ F j cols) (x * cols.length + c) (DVs.av F []), true, cols.length, fl⟩ = H := by
      obtain ⟨h1, h2⟩ := List.getElem?_eq_some_iff.1 (hs.nest hb)
      simp only [DVs.av, putAt]
      rw [← h2, List.set_getElem_self]
    rw [this]; exact hs
  | v :: vs, F, L, H, c, cols, hs, hb, hx, hv, h => by
    simp only [putN, hb] at h
    split at h
    · rename_i L1 h1
      obtain ⟨F1, cols1, k1, k2, k3, k4, k5, k6, k7, k8⟩ := Aj3_ hs hb hx hv.1 h1
      obtain ⟨F2, cols2, g1, g2, g3, g4, g5, g6, g7, g8⟩ := Pa_ vs F1 L1 _ (c + 1) cols1 k7 k3 (by rw [k5]; exact hx) (k1.oks' k2 hv.2) h
      have hav : DVs.av F1 vs = DVs.av F vs := k1.avs hv.2
      have habs : F1.abs j = F.abs j := k1.main j (List.getElem?_eq_some_iff.1 hb).1
      rw [k6, k4, hav] at g6 g7
      rw [habs, List.set_set] at g7
      refine ⟨F2, cols2, k1.trans k2 g1, k2.trans g2, g3, g4.trans k4, g5.trans k5, ?_, ?_, fun e => ?_⟩
      · simp only [DVs.av, Xo_]; exact g6
      · simp only [DVs.av, Xo_]; exact g7
      · simp only [DVs.av, List.all_cons, k8 e, Bool.true_and]
        have := g8 e
        rw [hav] at this; exact this
    · cases h
theorem Aff_ (hT : TOk P T) (hs : St F L H) {t : TypeId} {p v x : DV} {L' : List DBlk} (hp : p.Ok F L) (hv : v.Ok F L) (h : (I5_ T t p v L).run = some (x, L')) :
    ∃ F' H', FrLe F F' L ∧ Cx_ P H t (p.av F) (v.av F) = some H' ∧ St F' L' H' ∧ Ext L L' ∧ x = .top := by
  unfold I5_ at h
  split at h
  · rename_i i j off ver alen hTi
    obtain ⟨b, h1, h2, h3, h4, h5⟩ := hp
    split at h
    · rename_i r v' hg
      obtain ⟨g1, g2⟩ := Al_ hg
      rw [h1] at g1; cases g1
      have hal : alen = r.len := h5 g2.symm
      split at h
      · rename_i hsz
        obtain ⟨r', hr', h⟩ := Aa_ h
        simp only [Tree.run, Option.some.injEq, Prod.mk.injEq] at h
        obtain ⟨rfl, rfl⟩ := h
        obtain ⟨e1, e2, e3⟩ := r.set_spec F hr'
        have he : Ext L (L.set j (.row r' v')) := Ext.set h1 (Nat.le_refl _) (by simp [DBlk.clen, e2]) fun _ => by simp [DBlk.clen, e2]
        have hr := hs.ok j _ h1
        have hfl := Da_ F e3
        have hc : (v.av F).cellsA = some [v.av F] := by
          generalize v.av F = w at hfl
          cases w <;> first | rfl | (simp [AV.isFlat] at hfl)
        refine ⟨F, _, FrLe.refl F L, ?_, hs.set h1 he (show r'.len ≤ maxN by rw [e2]; exact hr), he, rfl⟩
        rw [DV.av, Cx_, hc]
        simp only [Option.bind_some]
        rw [if_pos (by rw [(hT t i hTi).sz, Nat.eq_of_beq_eq_true hsz]; rfl)]
        have hck : A5_ H (v.av F) = true := by
          generalize v.av F = w at hfl
          cases w <;> first | rfl | (simp [AV.isFlat] at hfl)
        simp only [stN, hs.row h1]
        rw [if_pos ⟨trivial, by rw [Row.cells_len]; exact hal, by rw [Row.cells_len]; simp; omega, by simp [hck], fun _ => by simp [hfl]⟩]
        simp [DBlk.blk, putAt, e1]
      · cases h
    · rename_i cs fl v' hg
      obtain ⟨g1, g2⟩ := Al_ hg
      rw [h1] at g1; cases g1
      have hal : alen = cs.length := h5 g2.symm
      obtain ⟨vs, hvs, h⟩ := Aa_ h
      split at h
      · rename_i c1 c2 c3 c4
        simp only [Tree.run, Option.some.injEq, Prod.mk.injEq] at h
        obtain ⟨rfl, rfl⟩ := h
        obtain ⟨k1, k2⟩ := Kr_ hs hvs hv
        have he : Ext L (L.set j (.gen (putD cs off vs) fl v')) := Ext.set h1 (Nat.le_refl _) (by simp [DBlk.clen, Yx_]) fun _ => by simp [DBlk.clen, Yx_]
        obtain ⟨o1, o2⟩ := hs.ok j _ h1
        have hfl : fl = true → (DVs.av F vs).all AV.isFlat = true := fun e => by subst e; exact Up_ c4
        refine ⟨F, _, FrLe.refl F L, ?_, hs.set h1 he ⟨DVs.ok_iff.2 fun c hc => ?_, fun e c hc => ?_⟩, he, rfl⟩
        · rw [DV.av, Cx_, k1]
          simp only [Option.bind_some, DVs.av_len]
          rw [if_pos (by rw [(hT t i hTi).sz, Nat.eq_of_beq_eq_true c1])]
          simp only [stN, hs.gen h1]
          rw [if_pos ⟨trivial, by rw [DVs.av_len]; exact hal, by rw [DVs.av_len]; simp; exact Nat.le_of_ble_eq_true c2, J2_ hs k2 c3, hfl⟩]
          simp [DBlk.blk, Y7_]
        · rcases Sb_ vs _ _ c hc with h | h
          · exact (DVs.ok_iff.1 o1 c h).ext he
          · exact (DVs.ok_iff.1 k2 c h).ext he
        · rcases Sb_ vs _ _ c hc with hq | hq
          · exact o2 e c hq
          · subst e; exact Ca_.1 c4 c hq
      · cases h
    · cases h
  · rename_i i j ver es len x0 c hTi
    obtain ⟨b, h1, h2, h3, h4, h5, h6⟩ := hp
    obtain ⟨vs, hvs, h⟩ := Aa_ h
    split at h
    case h_2 => cases h
    rename_i q hg c1 c2 c3
    obtain ⟨cols, fl⟩ := q
    obtain ⟨L1, hL1, h⟩ := Aa_ h
    simp only [Tree.run, Option.some.injEq, Prod.mk.injEq] at h
    obtain ⟨rfl, rfl⟩ := h
    obtain ⟨q1, q2, q3, q4, q5, q6⟩ := Bz_ hs hg h1 h4
    obtain ⟨k1, k2⟩ := Kr_ hs hvs hv
    obtain ⟨F', cols', g1, g2, g3, g4, g5, g6, g7, g8⟩ := Pa_ vs F L H c cols hs q1 (by omega) k2 hL1
    refine ⟨F', _, g1, ?_, g7, g2, rfl⟩
    have c2 := Nat.le_of_ble_eq_true c2
    have hlt := Nat.mul_le_mul_right es (show x0 + 1 ≤ len from h5)
    rw [Nat.add_mul] at hlt
    rw [DV.av, Cx_, k1]
    simp only [Option.bind_some, DVs.av_len]
    rw [if_pos (by rw [(hT t i hTi).sz, Nat.eq_of_beq_eq_true c1])]
    simp only [stN, q5]
    rw [if_pos ⟨trivial, q6.symm, by rw [DVs.av_len, q6]; omega, J2_ hs k2 c3, g8⟩]
    rw [q2]
  · rename_i i j c k x0 len hTi
    obtain ⟨hk, hk1, hk2⟩ := hp
    split at h
    case h_2 => cases h
    rename_i cols fl ver hb hsz
    split at h
    case h_2 => cases h
    rename_i inn idx hc
    obtain ⟨r', hr', h⟩ := Aa_ h
    obtain ⟨inn', hi', h⟩ := Aa_ h
    simp only [Tree.run, Option.some.injEq, Prod.mk.injEq] at h
    obtain ⟨rfl, rfl⟩ := h
    have hi : innAt L j c = some (inn, idx) := by simp only [innAt, hb, hc]
    obtain ⟨g1, g2, g3, g4⟩ := Cw_ hs hi hk
    obtain ⟨e1, e2, e3⟩ := Row.set_spec F hr'
    obtain ⟨s1, s2, s3⟩ := NRow.set_spec hi' hk1 g1
    obtain ⟨m, rfl⟩ : ∃ m, k = m + 1 := ⟨k - 1, by omega⟩
    have hcl := (List.getElem?_eq_some_iff.1 hc).1
    obtain ⟨o1, o2, o3⟩ := hs.ok j _ hb
    obtain ⟨q1, q2, q3, q4⟩ := o3 _ (List.mem_of_getElem? hc)
    have hN : colsN (cols.set c (.sl inn' idx)) = colsN cols := C6_ hc rfl
    have hlen : ∀ y, (inn'.get y).len = (inn.get y).len := fun y => by
      by_cases hy : y = m + 1
      · subst hy; rw [s2]; exact e2
      · rw [s3 y hy]
    have hav : Ac_ F j (cols.set c (.sl inn' idx)) = Ac_ F j cols := by
      refine Rg_ (by simp) hN fun c1 y col' h1 hy => ?_
      rw [List.getElem?_set] at h1
      by_cases hcc : c = c1
      · subst hcc
        rw [if_pos rfl, if_pos hcl] at h1
        cases h1
        refine ⟨_, hc, ?_⟩
        simp only [Col.cell, hlen]
      · rw [if_neg hcc] at h1
        exact ⟨col', h1, rfl⟩
    have he : Ext L (L.set j (.nest (cols.set c (.sl inn' idx)) fl ver)) := Ext.set hb (Nat.le_refl _) (by simp [DBlk.clen, hN]) (fun _ => by simp [DBlk.clen, hN]) (.nest _ _ _ _ _ _ (by simp) fun c' i' x' hc' => by
      rw [List.getElem?_set]
      by_cases hcc : c = c'
      · subst hcc
        rw [hc] at hc'; cases hc'
        exact ⟨inn', idx, by simp [hcl], by omega, fun y _ => hlen y⟩
      · rw [if_neg hcc]; exact ⟨i', x', hc', Nat.le_refl _, fun _ _ => rfl⟩)
    have hfl := Da_ F e3
    have hcA : (v.av F).cellsA = some [v.av F] := by
      generalize v.av F = w at hfl
      cases w <;> first | rfl | (simp [AV.isFlat] at hfl)
    have hck : A5_ H (v.av F) = true := by
      generalize v.av F = w at hfl
      cases w <;> first | rfl | (simp [AV.isFlat] at hfl)
    have hset := hs.set1 (j := j) (c0 := c + 1) (k0 := m) (b' := .nest (cols.set c (.sl inn' idx)) fl ver) (B0 := ⟨(inn.get (m + 1)).cells, true, 1, true⟩) (B' := ⟨r'.cells, true, 1, true⟩) (by rw [Am_ hb]; exact Ci_ hc (by omega)) (fun c1 k1 hn => ?_)
      (by rw [Ci_ (inn := inn') (idx := idx) (by simp [hcl]) (by omega), s2]) he ⟨by rw [hN]; exact o1, by simpa using o2, fun col hcol => ?_⟩ (fun _ _ => by simp)
    · refine ⟨F, _, FrLe.refl F L, ?_, hset, he, rfl⟩
      rw [DV.av, Cx_, hcA]
      simp only [Option.bind_some, Nat.add_sub_cancel]
      rw [if_pos (by rw [(hT t i hTi).sz, Nat.eq_of_beq_eq_true hsz]; rfl)]
      simp only [stN, g4 m rfl]
      rw [if_pos ⟨trivial, by rw [Row.cells_len]; exact g2, by rw [Row.cells_len]; simp; omega, by simp [hck], fun _ => by simp [hfl]⟩]
      simp [putAt, e1]
    · rw [Am_ hb]
      cases c1 with
      | zero => simp only [DBlk.at', DBlk.blk, hav, List.length_set]
      | succ c1 =>
        simp only [DBlk.at', List.getElem?_set]
        by_cases hcc : c = c1
        · subst hcc
          have hkm : k1 + 1 ≠ m + 1 := fun e => hn ⟨rfl, by omega⟩
          rw [if_pos rfl, if_pos hcl, hc]
          simp only [s1, s3 _ hkm]
        · rw [if_neg hcc]
    · rw [hN]
      rcases List.mem_or_eq_of_mem_set hcol with h | h
      · exact o3 col h
      · subst h
        exact ⟨q1, q2, fun y hy => by have := q3 y hy; omega, fun y => by rw [hlen]; exact q4 y⟩
  · cases h
theorem Aoz_ (hT : TOk P T) (hs : St F L H) {s : TypeId} {x y : DV} {f : Nat} {L' : List DBlk} (hx : x.Ok F L) (h : (Gv_ T s x f L).run = some (y, L')) :
    Ck_ P H s (x.av F) f = some (y.av F) ∧ y.Ok F L ∧ L' = L := by
  unfold Gv_ at h
  split at h
  · rename_i fs _ _ _ _ hTs
    obtain ⟨_, hfo⟩ := (hT s _ hTs).und
    split at h
    · rename_i o ft hf
      split at h
      · rename_i i hTf
        have hsz := (hT ft i hTf).sz
        split at h
        · rename_i j off ver alen c1
          obtain ⟨b, h1, h2, h3, h4, h5⟩ := hx
          have hn := Nat.le_of_ble_eq_true c1
          split at h
          · rename_i cs fl v hg
            obtain ⟨g1, g2⟩ := Al_ hg
            rw [h1] at g1; cases g1
            have hal : alen = cs.length := h5 g2.symm
            split at h
            · rename_i c2
              have := Nat.le_of_ble_eq_true c2
              simp only [Tree.run, Option.some.injEq, Prod.mk.injEq] at h
              obtain ⟨rfl, rfl⟩ := h
              refine ⟨?_, ⟨_, h1, h2, by omega, h4, h5⟩, rfl⟩
              simp only [DV.av, Ck_, hfo _ _ hf, Option.bind_some, hsz]
              rw [if_neg (by omega), if_pos (hs.live (off := off) hg h5)]
            · cases h
          · cases h
        · rename_i p cs c1
          have hn := Nat.le_of_ble_eq_true c1
          split at h
          · rename_i c2
            have hoc := Nat.le_of_ble_eq_true c2
            simp only [Tree.run, Option.some.injEq, Prod.mk.injEq] at h
            obtain ⟨rfl, rfl⟩ := h
            refine ⟨?_, ⟨fun H hH => ?_, DVs.ok_iff.2 fun c hc => DVs.ok_iff.1 hx.2 c (List.mem_of_mem_drop hc)⟩, rfl⟩
            · obtain ⟨r, B, e, k1, k2, k3, k4⟩ := hx.1 H hs.ag
              simp only [DV.av, BR.av, e, Ck_, hfo _ _ hf, Option.bind_some, hsz, AV.fld]
              rw [if_neg (by omega), if_pos (Av_.2 ⟨B, k1, k2⟩)]
            · obtain ⟨r, B, e, k1, k2, k3, k4⟩ := hx.1 H hH
              simp only [DVs.av_len] at k3 k4
              simp only [BR.av, e]
              refine ⟨_, B, rfl, k1, k2, ?_, ?_⟩
              · simp only [DVs.av_len, List.length_drop]; omega
              · have : DVs.av F (cs.drop o) = (DVs.av F cs).drop o := by simp [DVs.av_eq, List.map_drop]
                rw [this, ← k4]
                simp only [List.length_drop, List.length_take, List.drop_take, List.drop_drop]
                congr 1
                omega
          · cases h
        · rename_i j ver es len x0 c c1
          obtain ⟨b, h1, h2, h3, h4, h5, h6⟩ := hx
          have hn := Nat.le_of_ble_eq_true c1
          split at h
          · rename_i q hg hle
            obtain ⟨cols, fl⟩ := q
            have hle := Nat.le_of_ble_eq_true hle
            obtain ⟨q1, q2, q3, q4, q5, q6⟩ := Bz_ hs hg h1 h4
            simp only [Tree.run, Option.some.injEq, Prod.mk.injEq] at h
            obtain ⟨rfl, rfl⟩ := h
            refine ⟨?_, ⟨_, h1, h2, h3, h4, h5, by omega⟩, rfl⟩
            simp only [DV.av, Ck_, hfo _ _ hf, Option.bind_some, hsz]
            rw [if_neg (by omega), if_pos (Av_.2 ⟨_, q5, q6.symm⟩)]
            simp only [Nat.add_assoc]
          · cases h
        · cases h
      · cases h
    · cases h
  · cases h
theorem Ams_ (hT : TOk P T) (hs : St F L H) {s : TypeId} {x y : DV} {f : Nat} {L' : List DBlk} (hx : x.Ok F L) (h : (H9_ T s x f L).run = some (y, L')) :
    H7_ P s (x.av F) f = some (y.av F) ∧ y.Ok F L ∧ L' = L := by
  unfold H9_ at h
  split at h
  · rename_i fs _ _ _ _ cs hTs
    obtain ⟨_, hfo⟩ := (hT s _ hTs).und
    split at h
    · rename_i o ft hf
      split at h
      · rename_i i hTf
        obtain ⟨v, hv, h⟩ := Aa_ h
        simp only [Tree.run, Option.some.injEq, Prod.mk.injEq] at h
        obtain ⟨rfl, rfl⟩ := h
        obtain ⟨k1, k2⟩ := Abt_ (hT ft i hTf) hv hx
        refine ⟨?_, k2, rfl⟩
        simp only [DV.av, H7_, hfo _ _ hf, Option.bind_some]
        exact k1
      · cases h
    · cases h
  · cases h
theorem Xk_ {n i : Nat} {cols : List RCol} (h : ∀ K, F.agree K → RNs F K n cols) (hi : i < rlen cols) : ∀ (l : List RCol) (c : Nat), (∀ (k : Nat) (col : RCol), l[k]? = some col → cols[c + k]? = some col) → DVs.Ok F L (D8_ n i c l)
  | [], _, _ => trivial
  | col :: l, c, hc => by
    refine ⟨?_, Xk_ h hi l (c + 1) fun k q hq => by have := hc (k + 1) q (by simpa using hq); rw [show c + 1 + k = c + (k + 1) from by omega]; exact this⟩
    have h0 : cols[c]? = some col := by have := hc 0 col rfl; simpa using this
    cases col with
    | pl r => exact r.get_ok F L i
    | sl inn => exact fun K hK => (h K hK).inn i hi c _ h0
    | ln ns => exact fun K hK => (h K hK).inn i hi c _ h0
theorem Aat_ (hT : TOk P T) (hs : St F L H) {t : TypeId} {x ix y : DV} {L' : List DBlk} (hx : x.Ok F L) (h : (H8_ T t x ix L).run = some (y, L')) :
    B1_ P H t (x.av F) (ix.av F) = some (y.av F) ∧ y.Ok F L ∧ L' = L := by
  unfold H8_ at h
  split at h
  · rename_i e _ _ _ _ j ver len k i hTt
    have hu : P.underlying t = some (.slice e) := (hT t _ hTt).und
    obtain ⟨b, h1, h2, h3, h4, h5⟩ := hx
    split at h
    · rename_i ei r v hTe hg
      obtain ⟨g1, g2⟩ := Al_ hg
      rw [h1] at g1; cases g1
      have hal : len = r.len := h4 g2.symm
      split at h
      · rename_i c1
        have hsz := (hT e ei hTe).sz
        rw [Nat.eq_of_beq_eq_true c1] at hsz
        simp only [Tree.run] at h
        split at h
        · rename_i hb
          rw [Bf_] at hb
          simp only [Option.some.injEq, Prod.mk.injEq] at h
          obtain ⟨rfl, rfl⟩ := h
          refine ⟨?_, ⟨_, h1, h2, by omega, h3, h4⟩, rfl⟩
          simp only [DV.av, B1_, elemA, hu, Option.bind_some, hsz, hs.row h1]
          rw [if_pos ⟨by rw [Row.cells_len]; exact hal, trivial, hb.1, hb.2⟩]
          simp
        · cases h
      · cases h
    · cases h
  · rename_i e _ _ _ _ j off ver alen len k i hTt
    have hu : P.underlying t = some (.slice e) := (hT t _ hTt).und
    obtain ⟨b, h1, h2, h3, h4, h5, h6⟩ := hx
    split at h
    · rename_i ei r v hTe hg
      obtain ⟨g1, g2⟩ := Al_ hg
      rw [h1] at g1; cases g1
      have hal : alen = r.len := h5 g2.symm
      split at h
      · rename_i c1
        have hsz := (hT e ei hTe).sz
        rw [Nat.eq_of_beq_eq_true c1] at hsz
        simp only [Tree.run] at h
        split at h
        · rename_i hb
          rw [Bf_] at hb
          simp only [Option.some.injEq, Prod.mk.injEq] at h
          obtain ⟨rfl, rfl⟩ := h
          refine ⟨?_, ⟨_, h1, h2, by omega, h4, h5⟩, rfl⟩
          simp only [DV.av, B1_, elemA, hu, Option.bind_some, hsz, hs.row h1]
          rw [if_pos ⟨by rw [Row.cells_len]; exact hal, trivial, hb.1, hb.2⟩]
          simp
        · cases h
      · cases h
    · cases h
  · rename_i e _ _ _ _ s r k i hTt
    have hu : P.underlying t = some (.slice e) := (hT t _ hTt).und
    split at h
    · rename_i ei hTe
      split at h
      · rename_i c1
        have hsz := (hT e ei hTe).sz
        rw [Nat.eq_of_beq_eq_true c1] at hsz
        simp only [Tree.run] at h
        split at h
        · rename_i hb
          rw [Bf_] at hb
          simp only [Option.some.injEq, Prod.mk.injEq] at h
          obtain ⟨rfl, rfl⟩ := h
          refine ⟨?_, ⟨fun H hH => ?_, r.get_ok F L _, trivial⟩, rfl⟩
          · rcases hx H hs.ag with ⟨e, h0⟩ | ⟨p, B, e, k1, k2, k3, k4, k5, k6⟩
            · omega
            · simp only [DV.av, BR.av, e, B1_, elemA, hu, Option.bind_some, hsz, k1]
              rw [if_pos ⟨k2, k3, hb.1, hb.2⟩]
              simp [AV.plc']
          · rcases hx H hH with ⟨e, h0⟩ | ⟨p, B, e, k1, k2, k3, k4, k5, k6⟩
            · omega
            · simp only [BR.av, e]
              refine ⟨_, B, rfl, k1, k2, ?_, ?_⟩
              · simp [DVs.av]; omega
              · have hi : i.toNat < r.len := by omega
                have h0 := r.get_cells F i.toNat hi
                rw [← k5, List.getElem?_take, if_pos hi, List.getElem?_drop] at h0
                obtain ⟨h6, h7⟩ := List.getElem?_eq_some_iff.1 h0
                simp only [DVs.av, List.length_cons, List.length_nil]
                rw [← h7]
                rw [List.drop_eq_getElem_cons h6]
                rfl
        · cases h
      · cases h
    · cases h
  · rename_i e _ _ _ _ j ver es len k i hTt
    have hu : P.underlying t = some (.slice e) := (hT t _ hTt).und
    obtain ⟨b, h1, h2, h3, h4, h5⟩ := hx
    split at h
    case h_2 => cases h
    rename_i ei q hTe hg
    obtain ⟨cols, fl⟩ := q
    split at h
    case h_2 => cases h
    rename_i c1
    have hsz := (hT e ei hTe).sz
    rw [Nat.eq_of_beq_eq_true c1] at hsz
    obtain ⟨q1, q2, q3, q4, q5, q6⟩ := Bz_ hs hg h1 h4
    simp only [Tree.run] at h
    split at h
    case isFalse => cases h
    rename_i hb
    rw [Bf_] at hb
    simp only [Option.some.injEq, Prod.mk.injEq] at h
    obtain ⟨rfl, rfl⟩ := h
    refine ⟨?_, ⟨_, h1, h2, h3, h4, by omega, by omega⟩, rfl⟩
    simp only [DV.av, B1_, elemA, hu, Option.bind_some, hsz, q5]
    rw [if_pos ⟨q6.symm, trivial, hb.1, hb.2⟩]
    simp
  · rename_i e _ _ _ _ j c k len _ i hTt
    have hu : P.underlying t = some (.slice e) := (hT t _ hTt).und
    split at h
    case h_2 => cases h
    rename_i ei q hTe hi
    obtain ⟨inn, idx⟩ := q
    split at h
    case h_2 => cases h
    rename_i c1
    have hsz := (hT e ei hTe).sz
    rw [Nat.eq_of_beq_eq_true c1] at hsz
    obtain ⟨g1, g2, g3, g4⟩ := Cw_ hs hi hx
    simp only [Tree.run] at h
    split at h
    case isFalse => cases h
    rename_i hb
    rw [Bf_] at hb
    simp only [Option.some.injEq, Prod.mk.injEq] at h
    obtain ⟨rfl, rfl⟩ := h
    have hk : k ≠ 0 := fun e => by subst e; rw [inn.get0] at g2; omega
    obtain ⟨m, rfl⟩ : ∃ m, k = m + 1 := ⟨k - 1, by omega⟩
    refine ⟨?_, ⟨hx, by omega, by omega⟩, rfl⟩
    simp only [DV.av, B1_, elemA, hu, Option.bind_some, hsz, g4 m rfl, Nat.add_sub_cancel]
    rw [if_pos ⟨by rw [Row.cells_len]; exact g2, trivial, hb.1, hb.2⟩]
    simp
  · rename_i e _ _ _ _ n cols _ i hTt
    have hu : P.underlying t = some (.slice e) := (hT t _ hTt).und
    split at h
    case h_2 => cases h
    rename_i ei hTe
    split at h
    case h_2 => cases h
    rename_i c1
    have hsz := (hT e ei hTe).sz
    rw [Nat.eq_of_beq_eq_true c1] at hsz
    simp only [Tree.run] at h
    split at h
    case isFalse => cases h
    rename_i hb
    rw [Bf_] at hb
    simp only [Option.some.injEq, Prod.mk.injEq] at h
    obtain ⟨rfl, rfl⟩ := h
    have hil : i.toNat < rlen cols := by omega
    refine ⟨?_, ⟨fun K hK => (hx K hK).cells i.toNat hil, Xk_ hx hil cols 0 fun k col hk => by rw [Nat.zero_add]; exact hk⟩, rfl⟩
    rcases (hx H hs.ag).at' with ⟨e, h0⟩ | ⟨p, B, e, k1, k2, k3⟩
    · omega
    · simp only [DV.av, BR.av, e, B1_, elemA, hu, Option.bind_some, hsz, k1]
      rw [if_pos ⟨k2, k3, hb.1, hb.2⟩]
      simp [AV.plc']
  · cases h
theorem Ac7_ (hT : TOk P T) {t : TypeId} {x ix y : DV} {L' : List DBlk} (h : (I9_ T t x ix L).run = some (y, L')) :
    Fa_ P t (x.av F) (ix.av F) = some (y.av F) ∧ y.Ok F L ∧ L' = L := by
  unfold I9_ at h
  split at h
  · rename_i _ _ _ _ s k i hTt
    have hu : P.underlying t = some .string := (hT t _ hTt).und
    simp only [Tree.run] at h
    split at h
    · rename_i hb
      rw [Bf_] at hb
      simp only [Option.some.injEq, Prod.mk.injEq] at h
      obtain ⟨rfl, rfl⟩ := h
      refine ⟨?_, trivial, rfl⟩
      simp only [DV.av, Fa_, hu]
      rw [if_pos hb.1]
      have hi : i.toNat < s.size := by omega
      have : s[i.toNat]? = some s[i.toNat] := by simp [hi]
      rw [this]
      simp [bt, this]
    · cases h
  · cases h
theorem Es_ {lo : Option DV} {l : Int} (h : loD lo = some l) : intOr 0 (lo.map (·.av F)) = some l := by
  unfold loD at h
  split at h
  · cases h; rfl
  · cases h; rfl
  · cases h
theorem Hk_ {d : Nat} {lo : Option DV} {l : Int} (h : hiD d lo = some l) : intOr d (lo.map (·.av F)) = some l := by
  unfold hiD at h
  split at h
  · cases h; rfl
  · cases h; rfl
  · cases h
theorem Zw_ (hT : TOk P T) (hs : St F L H) {t : TypeId} {x m y : DV} {lo hi : Option DV} {L' : List DBlk} (hx : x.Ok F L) (h : (Ie_ T t x lo hi m L).run = some (y, L')) :
    I3_ P H t (x.av F) (lo.map (·.av F)) (hi.map (·.av F)) (m.av F) = some () ∧ y = .top ∧ L' = L := by
  unfold Ie_ at h
  split at h
  · rename_i e _ _ _ _ j ver len k1 h' k2 k hTt
    have hu : P.underlying t = some (.slice e) := (hT t _ hTt).und
    obtain ⟨b, h1, h2, h3, h4, h5⟩ := hx
    split at h
    · rename_i ei r v l hTe hg hlo
      obtain ⟨g1, g2⟩ := Al_ hg
      rw [h1] at g1; cases g1
      have hal : len = r.len := h4 g2.symm
      split at h
      · rename_i c1
        have hsz := (hT e ei hTe).sz
        rw [Nat.eq_of_beq_eq_true c1] at hsz
        simp only [Tree.run] at h
        split at h
        · rename_i hb
          rw [Bb_] at hb
          split at h
          · rename_i hb2
            simp only [Bool.and_eq_true, decide_eq_true_eq] at hb2
            simp only [Option.some.injEq, Prod.mk.injEq] at h
            obtain ⟨rfl, rfl⟩ := h
            refine ⟨?_, rfl, rfl⟩
            simp only [DV.av, I3_, hu, Option.map_some, hs.row h1, Es_ hlo]
            rw [if_pos ⟨by rw [Row.cells_len]; exact hal, hsz, by decide, hb.1, hb.2.1, hb2.1, by rw [Row.cells_len]; omega⟩]
          · cases h
        · cases h
      · cases h
    · cases h
  · cases h
theorem Anp_ (hT : TOk P T) (hs : St F L H) {t : TypeId} {x y : DV} {lo hi : Option DV} {L' : List DBlk} (hx : x.Ok F L) (h : (If_ T t x lo hi L).run = some (y, L')) :
    Cg_ P H t (x.av F) (lo.map (·.av F)) (hi.map (·.av F)) = some (y.av F) ∧ y.Ok F L ∧ L' = L := by
  unfold If_ at h
  split at h
  · rename_i e _ _ _ _ j ver len hTt
    have hu : P.underlying t = some (.slice e) := (hT t _ hTt).und
    obtain ⟨b, h1, h2, h3, h4, h5⟩ := hx
    split at h
    · rename_i ei r v l h' hTe hg hlo hhi
      obtain ⟨g1, g2⟩ := Al_ hg
      rw [h1] at g1; cases g1
      have hal : len = r.len := h4 g2.symm
      split at h
      · rename_i c1
        have hsz := (hT e ei hTe).sz
        rw [Nat.eq_of_beq_eq_true c1] at hsz
        simp only [Tree.run] at h
        split at h
        · rename_i hb
          rw [Bb_] at hb
          simp only [Option.some.injEq, Prod.mk.injEq] at h
          obtain ⟨rfl, rfl⟩ := h
          refine ⟨?_, ⟨_, h1, h2, by omega, h3, h4, by omega⟩, rfl⟩
          simp only [DV.av, Cg_, hu, hs.row h1, Es_ hlo, Hk_ hhi]
          rw [if_pos ⟨by rw [Row.cells_len]; exact hal, hsz, by decide, hb.1, hb.2.1, .inl hb.2.2⟩]
          simp
        · cases h
      · cases h
    · cases h
  · rename_i e _ _ _ _ j off ver alen len hTt
    have hu : P.underlying t = some (.slice e) := (hT t _ hTt).und
    obtain ⟨b, h1, h2, h3, h4, h5⟩ := hx
    split at h
    · rename_i ei r v l h' hTe hg hlo hhi
      obtain ⟨g1, g2⟩ := Al_ hg
      rw [h1] at g1; cases g1
      have hal : alen = r.len := h5.1 g2.symm
      have hmax : r.len ≤ maxN := hs.ok j _ h1
      split at h
      · rename_i c1
        have hsz := (hT e ei hTe).sz
        rw [Nat.eq_of_beq_eq_true c1] at hsz
        simp only [Tree.run] at h
        split at h
        · rename_i hb
          rw [Bb_] at hb
          simp only [Option.some.injEq, Prod.mk.injEq] at h
          obtain ⟨rfl, rfl⟩ := h
          refine ⟨?_, ⟨_, h1, h2, by omega, h4, h5.1, by omega⟩, rfl⟩
          simp only [DV.av, Cg_, hu, hs.row h1, Es_ hlo, Hk_ hhi]
          rw [if_pos ⟨by rw [Row.cells_len]; exact hal, hsz, by decide, hb.1, hb.2.1, .inr (by rw [Row.cells_len]; omega)⟩]
          simp
        · cases h
      · cases h
    · cases h
  · rename_i e _ _ _ _ s r hTt
    have hu : P.underlying t = some (.slice e) := (hT t _ hTt).und
    split at h
    · rename_i ei l h' hTe hlo hhi
      split at h
      · rename_i c1
        have hsz := (hT e ei hTe).sz
        rw [Nat.eq_of_beq_eq_true c1] at hsz
        simp only [Tree.run] at h
        split at h
        · rename_i hb
          have hb' := hb
          rw [Bb_] at hb
          simp only [Option.some.injEq, Prod.mk.injEq] at h
          obtain ⟨rfl, rfl⟩ := h
          refine ⟨?_, fun H hH => ?_, rfl⟩
          · rcases hx H hs.ag with ⟨e, h0⟩ | ⟨p, B, e, k1, k2, k3, k4, k5, k6⟩
            · have hl : l = 0 := by omega
              have hh : h' = 0 := by omega
              subst hl; subst hh
              have e2 := Hk_ (F := F) hhi
              rw [h0] at e2
              simp only [DV.av, BR.av, e, Cg_, hu, Es_ hlo]
              have e3 : intOr 0 (hi.map (·.av F)) = some 0 := e2
              rw [e3]
              simp [hsz, AV.sub']
            · simp only [DV.av, BR.av, e, Cg_, hu, k1, Es_ hlo, Hk_ hhi]
              rw [if_pos ⟨k2, by rw [k3]; exact hsz, by rw [k3]; decide, hb.1, hb.2.1, .inl hb.2.2⟩]
              simp [AV.sub', k3]
          · have hsl := r.sub_len l h' hb'
            rcases hx H hH with ⟨e, h0⟩ | ⟨p, B, e, k1, k2, k3, k4, k5, k6⟩
            · exact .inl ⟨by simp [BR.av, e, AV.sub'], by rw [hsl]; omega⟩
            · simp only [BR.av, e]
              refine .inr ⟨⟨p.id, p.off + l.toNat, p.ver⟩, B, ?_, k1, k2, k3, ?_, ?_, by omega⟩
              · simp [AV.sub', hsl]
              · simp only [hsl]; omega
              · rw [hsl, r.sub_cells, ← k5]
                simp only [AM.sub, List.drop_take, List.take_take, List.drop_drop]
                congr 1; omega
        · cases h
      · cases h
    · cases h
  · rename_i e _ _ _ _ j ver es len hTt
    have hu : P.underlying t = some (.slice e) := (hT t _ hTt).und
    obtain ⟨b, h1, h2, h3, h4, h5⟩ := hx
    split at h
    · rename_i ei q l h' hTe hg hlo hhi
      obtain ⟨cols, fl⟩ := q
      obtain ⟨q1, q2, q3, q4, q5, q6⟩ := Bz_ hs hg h1 h4
      split at h
      · rename_i c1
        have hsz := (hT e ei hTe).sz
        rw [Nat.eq_of_beq_eq_true c1] at hsz
        simp only [Tree.run] at h
        split at h
        · rename_i hb
          rw [Bb_] at hb
          simp only [Option.some.injEq, Prod.mk.injEq] at h
          obtain ⟨rfl, rfl⟩ := h
          refine ⟨?_, ⟨_, h1, h2, h3, h4, by omega, h5⟩, rfl⟩
          simp only [DV.av, Cg_, hu, q5, Es_ hlo, Hk_ hhi]
          rw [if_pos ⟨q6.symm, hsz, by omega, hb.1, hb.2.1, .inl hb.2.2⟩]
          simp
        · cases h
      · cases h
    · cases h
  · rename_i _ _ _ _ s hTt
    have hu : P.underlying t = some .string := (hT t _ hTt).und
    split at h
    · rename_i l h' hlo hhi
      simp only [Tree.run] at h
      split at h
      · rename_i hb
        rw [Bb_] at hb
        simp only [Option.some.injEq, Prod.mk.injEq] at h
        obtain ⟨rfl, rfl⟩ := h
        refine ⟨?_, trivial, rfl⟩
        simp only [DV.av, Cg_, hu, Es_ hlo, Hk_ hhi]
        rw [if_pos hb]
      · cases h
    · cases h
  · cases h
end
end Go.Proofs.Ytmgpbchacndndaa.AM
