import Derived.Test.YtmgpbchacndndaaD7
set_option linter.unusedSimpArgs false
set_option linter.unusedVariables false
namespace Go.Proofs.Ytmgpbchacndndaa.AM
section
variable {T : TyT} {L L2 : List DBlk} {DO : DOr} {M : FuncId → Bool}
theorem Bp_ {j ver : Nat} (h : L2[j]? = L[j]?) : good L2 j ver = good L j ver := by unfold good; rw [h]
theorem I1_ {j ver es : Nat} (h : L2[j]? = L[j]?) : goodN L2 j ver es = goodN L j ver es := by unfold goodN; rw [Bp_ h]
theorem G1_ {j c : Nat} (h : L2[j]? = L[j]?) : innAt L2 j c = innAt L j c := by unfold innAt; rw [h]
theorem Aag_ {t : TypeId} {p : DV} (hg : ∀ j ∈ p.refs, L2[j]? = L[j]?) : loadD T t p L2 = (loadD T t p L).bind fun r => .leaf (r.1, L2) := by
  unfold loadD
  cases T t with
  | none => rfl
  | some i =>
    cases p with
    | ptr j off ver alen =>
      have := Bp_ (ver := ver) (hg j (by simp [DV.refs]))
      simp only [this]
      cases good L j ver with
      | none => rfl
      | some b =>
        cases b with
        | row r v => simp only; generalize i.kind = k; cases k <;> rfl
        | gen cs fl v => simp only; cases readD i (cs.drop off) <;> rfl
        | nest cols fl v => rfl
        | gone n v => rfl
    | bptr p cs => simp only; cases readD i cs <;> rfl
    | ncell j ver es len x c =>
      have := I1_ (ver := ver) (es := es) (hg j (by simp [DV.refs]))
      simp only [this]
      cases goodN L j ver es with
      | none => rfl
      | some q => obtain ⟨cols, fl⟩ := q; dsimp only; cases readD i (Bg_ j x c (cols.drop c)) <;> rfl
    | icell j c k x len =>
      have := G1_ (c := c) (hg j (by simp [DV.refs]))
      simp only [this]
      cases innAt L j c with
      | none => rfl
      | some q => obtain ⟨inn, idx⟩ := q; generalize i.kind = kd; cases kd <;> rfl
    | _ => rfl
theorem Ajo_ {s : TypeId} {x : DV} {f : Nat} : H9_ T s x f L2 = (H9_ T s x f L).bind fun r => .leaf (r.1, L2) := by
  unfold H9_
  cases T s with
  | none => cases x <;> rfl
  | some i =>
    obtain ⟨k, sz, fl, z, sm⟩ := i
    cases k with
    | struct fs =>
      cases x with
      | agg cs =>
        simp only
        cases fs[f]? with
        | none => rfl
        | some oft =>
          obtain ⟨o, ft⟩ := oft
          simp only
          cases T ft with
          | none => rfl
          | some i2 => simp only; cases readD i2 (cs.drop o) <;> rfl
      | _ => rfl
    | _ => cases x <;> rfl
theorem Ahz_ {t : TypeId} {x ix : DV} (hg : ∀ j ∈ x.refs, L2[j]? = L[j]?) : H8_ T t x ix L2 = (H8_ T t x ix L).bind fun r => .leaf (r.1, L2) := by
  unfold H8_
  cases T t with
  | none => cases x <;> cases ix <;> rfl
  | some i =>
    obtain ⟨k, sz, fl, z, sm⟩ := i
    cases k with
    | slice e =>
      cases ix with
      | int k n =>
        cases x with
        | own j ver len =>
          have := Bp_ (ver := ver) (hg j (by simp [DV.refs]))
          simp only [this]
          cases T e with
          | none => rfl
          | some ei =>
            cases good L j ver with
            | none => rfl
            | some b =>
              cases b with
              | row r v => simp only; cases Nat.beq ei.size 1 <;> rfl
              | gen cs fl v => rfl
              | nest cols fl v => rfl
              | gone n v => rfl
        | slc j off ver alen len =>
          have := Bp_ (ver := ver) (hg j (by simp [DV.refs]))
          simp only [this]
          cases T e with
          | none => rfl
          | some ei =>
            cases good L j ver with
            | none => rfl
            | some b =>
              cases b with
              | row r v => simp only; cases Nat.beq ei.size 1 <;> rfl
              | gen cs fl v => rfl
              | nest cols fl v => rfl
              | gone n v => rfl
        | bslc s r =>
          simp only
          cases T e with
          | none => rfl
          | some ei => simp only; cases Nat.beq ei.size 1 <;> rfl
        | nest j ver es len =>
          have := I1_ (ver := ver) (es := es) (hg j (by simp [DV.refs]))
          simp only [this]
          cases T e with
          | none => rfl
          | some ei =>
            cases goodN L j ver es with
            | none => rfl
            | some q => simp only; cases Nat.beq ei.size es <;> rfl
        | inn j c k len =>
          have := G1_ (c := c) (hg j (by simp [DV.refs]))
          simp only [this]
          cases T e with
          | none => rfl
          | some ei =>
            cases innAt L j c with
            | none => rfl
            | some q => simp only; cases Nat.beq ei.size 1 <;> rfl
        | rns n cols =>
          simp only
          cases T e with
          | none => rfl
          | some ei => simp only; cases Nat.beq ei.size cols.length <;> rfl
        | _ => rfl
      | _ => cases x <;> rfl
    | _ => cases x <;> cases ix <;> rfl
theorem Anb_ {t : TypeId} {x ix : DV} : I9_ T t x ix L2 = (I9_ T t x ix L).bind fun r => .leaf (r.1, L2) := by
  unfold I9_
  cases T t with
  | none => cases x <;> cases ix <;> rfl
  | some i =>
    obtain ⟨k, sz, fl, z, sm⟩ := i
    cases k <;> cases x <;> cases ix <;> rfl
theorem Aaw_ {t : TypeId} {x m : DV} {lo hi : Option DV} (hg : ∀ j ∈ x.refs, L2[j]? = L[j]?) : Ie_ T t x lo hi m L2 = (Ie_ T t x lo hi m L).bind fun r => .leaf (r.1, L2) := by
  unfold Ie_
  cases T t with
  | none => cases x <;> rfl
  | some i =>
    obtain ⟨k, sz, fl, z, sm⟩ := i
    cases k with
    | slice e =>
      cases x with
      | own j ver len =>
        have := Bp_ (ver := ver) (hg j (by simp [DV.refs]))
        cases hi with
        | none => rfl
        | some h =>
          cases h with
          | int k1 h =>
            cases m with
            | int k2 k =>
              simp only [this]
              cases T e with
              | none => rfl
              | some ei =>
                cases good L j ver with
                | none => rfl
                | some b =>
                  cases b with
                  | row r v =>
                    cases loD lo with
                    | none => rfl
                    | some l => simp only; cases Nat.beq ei.size 1 <;> rfl
                  | gen cs fl v => rfl
                  | nest cols fl v => rfl
                  | gone n v => rfl
            | _ => rfl
          | _ => rfl
      | _ => rfl
    | _ => cases x <;> rfl
theorem Agq_ {t : TypeId} {x : DV} {lo hi : Option DV} (hg : ∀ j ∈ x.refs, L2[j]? = L[j]?) : If_ T t x lo hi L2 = (If_ T t x lo hi L).bind fun r => .leaf (r.1, L2) := by
  unfold If_
  cases T t with
  | none => cases x <;> rfl
  | some i =>
    obtain ⟨k, sz, fl, z, sm⟩ := i
    cases k with
    | slice e =>
      cases x with
      | own j ver len =>
        have := Bp_ (ver := ver) (hg j (by simp [DV.refs]))
        simp only [this]
        cases T e with
        | none => rfl
        | some ei =>
          cases good L j ver with
          | none => rfl
          | some b =>
            cases b with
            | row r v =>
              cases loD lo with
              | none => rfl
              | some l =>
                cases hiD len hi with
                | none => rfl
                | some h => simp only; cases Nat.beq ei.size 1 <;> rfl
            | gen cs fl v => rfl
            | nest cols fl v => rfl
            | gone n v => rfl
      | nest j ver es len =>
        have := I1_ (ver := ver) (es := es) (hg j (by simp [DV.refs]))
        simp only [this]
        cases T e with
        | none => rfl
        | some ei =>
          cases goodN L j ver es with
          | none => rfl
          | some q =>
            cases loD lo with
            | none => rfl
            | some l =>
              cases hiD len hi with
              | none => rfl
              | some h => simp only; cases Nat.beq ei.size es <;> rfl
      | slc j off ver alen len =>
        have := Bp_ (ver := ver) (hg j (by simp [DV.refs]))
        simp only [this]
        cases T e with
        | none => rfl
        | some ei =>
          cases good L j ver with
          | none => rfl
          | some b =>
            cases b with
            | row r v =>
              cases loD lo with
              | none => rfl
              | some l =>
                cases hiD len hi with
                | none => rfl
                | some h => simp only; cases Nat.beq ei.size 1 <;> rfl
            | gen cs fl v => rfl
            | nest cols fl v => rfl
            | gone n v => rfl
      | bslc s r =>
        simp only
        cases T e with
        | none => rfl
        | some ei =>
          cases loD lo with
          | none => rfl
          | some l =>
            cases hiD r.len hi with
            | none => rfl
            | some h => simp only; cases Nat.beq ei.size 1 <;> rfl
      | _ => rfl
    | str =>
      cases x with
      | str s =>
        simp only
        cases loD lo with
        | none => rfl
        | some l => cases hiD s.size hi <;> rfl
      | _ => rfl
    | _ => cases x <;> rfl
theorem Aiu_ {t : TypeId} {x : DV} (hg : ∀ j ∈ x.refs, L2[j]? = L[j]?) : lenD T t x L2 = (lenD T t x L).bind fun r => .leaf (r.1, L2) := by
  unfold lenD
  cases T t with
  | none => cases x <;> rfl
  | some i =>
    obtain ⟨k, sz, fl, z, sm⟩ := i
    cases k with
    | slice e =>
      cases x with
      | own j ver len =>
        have := Bp_ (ver := ver) (hg j (by simp [DV.refs]))
        simp only [this]
        cases good L j ver <;> rfl
      | slc j off ver alen len =>
        have := Bp_ (ver := ver) (hg j (by simp [DV.refs]))
        simp only [this]
        cases good L j ver <;> rfl
      | nest j ver es len =>
        have := I1_ (ver := ver) (es := es) (hg j (by simp [DV.refs]))
        simp only [this]
        cases goodN L j ver es <;> rfl
      | inn j c k len =>
        have := G1_ (c := c) (hg j (by simp [DV.refs]))
        simp only [this]
        cases innAt L j c <;> rfl
      | _ => rfl
    | _ => cases x <;> rfl
theorem Aca_ {op : BinOp} {t : TypeId} {x y : DV} (hg : ∀ j ∈ x.refs, L2[j]? = L[j]?) : binD T op t x y L2 = (binD T op t x y L).bind fun r => .leaf (r.1, L2) := by
  have hb : ∀ a b, (match T t with | some ⟨.bool, _, _, _, _⟩ => bbinD op a b L2 | _ => .fail) = (match T t with | some ⟨.bool, _, _, _, _⟩ => bbinD op a b L | _ => Tree.fail).bind fun r => .leaf (r.1, L2) := by
    intro a b
    cases T t with
    | none => rfl
    | some i =>
      obtain ⟨k, sz, fl, z, sm⟩ := i
      cases k <;> first | rfl | (cases op <;> rfl)
  unfold binD
  cases x with
  | int k a =>
    cases y with
    | int k' b => cases k <;> cases k' <;> first | rfl | (cases op <;> rfl)
    | _ => cases k <;> rfl
  | flt k a =>
    cases y with
    | flt k' b => cases k <;> cases k' <;> first | rfl | (cases op <;> rfl)
    | _ => cases k <;> rfl
  | str a =>
    cases y with
    | str b => cases op <;> rfl
    | _ => rfl
  | bool a =>
    cases y with
    | bool b => exact hb a b
    | lit b => exact hb a b
    | _ => rfl
  | lit a =>
    cases y with
    | bool b => exact hb a b
    | lit b => exact hb a b
    | _ => rfl
  | nilslc =>
    cases y with
    | nilslc =>
      simp only
      cases T t with
      | none => rfl
      | some i => obtain ⟨k, sz, fl, z, sm⟩ := i; cases k <;> first | rfl | (cases op <;> rfl)
    | _ => rfl
  | own j ver len =>
    cases y with
    | nilslc =>
      have := Bp_ (ver := ver) (hg j (by simp [DV.refs]))
      simp only [this]
      cases T t with
      | none => rfl
      | some i => obtain ⟨k, sz, fl, z, sm⟩ := i; cases k <;> cases good L j ver <;> first | rfl | (cases op <;> rfl)
    | _ => rfl
  | nest j ver es len =>
    cases y with
    | nilslc =>
      have := I1_ (ver := ver) (es := es) (hg j (by simp [DV.refs]))
      simp only [this]
      cases T t with
      | none => rfl
      | some i => obtain ⟨k, sz, fl, z, sm⟩ := i; cases k <;> cases goodN L j ver es <;> first | rfl | (cases op <;> rfl)
    | _ => rfl
  | inn j c k len =>
    cases y with
    | nilslc =>
      have := G1_ (c := c) (hg j (by simp [DV.refs]))
      simp only [this]
      cases T t with
      | none => rfl
      | some i => obtain ⟨kd, sz, fl, z, sm⟩ := i; cases kd <;> cases innAt L j c <;> first | rfl | (cases op <;> rfl)
    | _ => rfl
  | bslc s r =>
    cases y with
    | nilslc =>
      simp only
      cases T t with
      | none => rfl
      | some i => obtain ⟨k, sz, fl, z, sm⟩ := i; cases k <;> first | rfl | (cases op <;> rfl)
    | _ => rfl
  | _ => rfl
theorem Aa4_ {op : UnOp} {x : DV} : unD op x L2 = (unD op x L).bind fun r => .leaf (r.1, L2) := by
  unfold unD
  cases op <;> cases x <;> rfl
theorem Ap2_ {x : DV} (hg : ∀ j ∈ x.refs, L2[j]? = L[j]?) : rowOf L2 x = rowOf L x := by
  cases x with
  | own j ver len => simp only [rowOf]; rw [Bp_ (hg j (by simp [DV.refs]))]
  | slc j off ver alen len => simp only [rowOf]; rw [Bp_ (hg j (by simp [DV.refs]))]
  | inn j c k len => simp only [rowOf]; rw [G1_ (hg j (by simp [DV.refs]))]
  | _ => rfl
theorem Anc_ {s d : TypeId} {x : DV} : convD T s d x L2 = (convD T s d x L).bind fun r => .leaf (r.1, L2) := by
  unfold convD
  cases T s with
  | none => rfl
  | some i =>
    cases T d with
    | none => rfl
    | some i2 =>
      obtain ⟨k, sz, fl, z, sm⟩ := i2
      cases k with
      | flt k => cases x with
        | flt k' b => cases k <;> cases k' <;> rfl
        | _ => cases k <;> rfl
      | _ => cases x <;> rfl
theorem Alv_ {c x y : DV} : pickD c x y L2 = (pickD c x y L).bind fun r => .leaf (r.1, L2) := by
  unfold pickD
  cases c with
  | lit b => cases b <;> rfl
  | _ => rfl
theorem Akb_ {t : DV} {i : Nat} : Kh_ t i L2 = (Kh_ t i L).bind fun r => .leaf (r.1, L2) := by
  unfold Kh_
  cases t with
  | tup vs => simp only; cases vs[i]? <;> rfl
  | _ => rfl
theorem Adu_ {c : DV} (hg : ∀ j ∈ c.refs, L2[j]? = L[j]?) : okC L2 c = okC L c := by
  cases c with
  | ptr j off ver alen => simp only [okC, Bp_ (ver := ver) (hg j (by simp [DV.refs]))]
  | own j ver len => simp only [okC, Bp_ (ver := ver) (hg j (by simp [DV.refs]))]
  | slc j off ver alen len => simp only [okC, Bp_ (ver := ver) (hg j (by simp [DV.refs]))]
  | nest j ver es len => simp only [okC, I1_ (ver := ver) (es := es) (hg j (by simp [DV.refs]))]
  | inn j c k len => simp only [okC, G1_ (c := c) (hg j (by simp [DV.refs]))]
  | _ => rfl
theorem Uz_ {α : Type} {p q : α → Bool} : ∀ {l : List α}, (∀ x ∈ l, p x = q x) → allT p l = allT q l
  | [], _ => rfl
  | x :: l, h => by
    simp only [allT]
    rw [h x (by simp), Uz_ (l := l) fun y hy => h y (by simp [hy])]
theorem Py_ {v : DV} {vs : List DV} (h : A2_ v = some vs) : ∀ c ∈ vs, ∀ j ∈ c.refs, j ∈ v.refs := by
  cases v with
  | agg cs => simp only [A2_, Option.some.injEq] at h; subst h; intro c hc j hj; simp only [DV.refs]; exact DVs.refs_mem.2 ⟨c, hc, hj⟩
  | _ => first | (simp only [A2_, Option.some.injEq] at h; subst h; intro c hc j hj; rw [List.mem_singleton] at hc; subst hc; exact hj) | cases h
theorem Tx_ {fs : List (Nat × TypeId)} : ∀ (parts : List (Nat × DV)) (cells : List DV), (∀ q ∈ parts, ∀ j ∈ q.2.refs, L2[j]? = L[j]?) → fillD L2 T fs cells parts = fillD L T fs cells parts
  | [], _, _ => rfl
  | (i, v) :: rest, cells, h => by
    simp only [fillD]
    cases fs[i]? with
    | none => rfl
    | some oft =>
      obtain ⟨o, ft⟩ := oft
      cases hc : A2_ v with
      | none => rfl
      | some cs =>
        simp only
        cases T ft with
        | none => rfl
        | some fi =>
          simp only
          rw [Uz_ (p := okC L2) (q := okC L) fun c hcm => Adu_ fun j hj => h (i, v) (by simp) j (Py_ hc c hcm j hj)]
          rw [Tx_ rest _ fun q hq => h q (by simp [hq])]
theorem Aof_ {t : TypeId} {parts : List (Nat × DV)} (h : ∀ q ∈ parts, ∀ j ∈ q.2.refs, L2[j]? = L[j]?) : Gs_ T t parts L2 = (Gs_ T t parts L).bind fun r => .leaf (r.1, L2) := by
  unfold Gs_
  cases T t with
  | none => rfl
  | some i =>
    obtain ⟨k, sz, fl, z, sm⟩ := i
    cases k with
    | struct fs =>
      cases z with
      | none => rfl
      | some z =>
        cases z with
        | agg zc => simp only; rw [Tx_ parts zc h]; cases fillD L T fs zc parts <;> rfl
        | _ => rfl
    | _ => rfl
def Col.tag : Col → Option (List Nat)
  | .pl _ => none
  | .sl inn _ => some ((List.range inn.n).map fun k => (inn.get (k + 1)).len)
def DBlk.tag : DBlk → Nat × Nat × Nat × List (Option (List Nat))
  | .row r v => (0, r.len, v, [])
  | .gen cs _ v => (1, cs.length, v, [])
  | .nest cols _ v => (2, colsN cols * cols.length, v, cols.map Col.tag)
  | .gone n v => (3, n, v, [])
def EqAt (L' L : List DBlk) (k : Nat) : Prop := (k % 2 = 0 → L'[k / 2]? = L[k / 2]?) ∧ (L'[k / 2]?).map DBlk.tag = (L[k / 2]?).map DBlk.tag
theorem EqAt.refl (L : List DBlk) (k : Nat) : EqAt L L k := ⟨fun _ => rfl, rfl⟩
theorem EqAt.symm {L L' : List DBlk} {k : Nat} (h : EqAt L' L k) : EqAt L L' k := ⟨fun e => (h.1 e).symm, h.2.symm⟩
theorem EqAt.trans {L L' L'' : List DBlk} {k : Nat} (h : EqAt L'' L' k) (h' : EqAt L' L k) : EqAt L'' L k := ⟨fun e => (h.1 e).trans (h'.1 e), h.2.trans h'.2⟩
def weakO (o : Oper) : Bool := match o.op with | .move _ => true | .assign _ => true | .nilCheck _ => true | .fieldAddr _ _ _ => true | _ => false
def foot0 (e : List DV) (o : Oper) : List Nat := DVs.refs (o.op.operands.toList.map (evD e))
theorem Wn_ {e : List DV} {o : Oper} {y : Operand} (hy : y ∈ o.op.operands) {j : Nat} (hj : j ∈ (evD e y).refs) : j ∈ foot0 e o :=
  DVs.refs_mem.2 ⟨_, List.mem_map.2 ⟨y, by simpa using hy, rfl⟩, hj⟩
def foot (e : List DV) (o : Oper) : List Nat := match weakO o with | true => (foot0 e o).map (fun j => 2 * j + 1) | false => (foot0 e o).map (fun j => 2 * j)
theorem W3_ {L2 L : List DBlk} {e : List DV} {o : Oper} (h : ∀ k ∈ foot e o, EqAt L2 L k) {y : Operand} (hy : y ∈ o.op.operands) {j : Nat} (hj : j ∈ (evD e y).refs) : (L2[j]?).map DBlk.tag = (L[j]?).map DBlk.tag := by
  have hm := Wn_ hy hj
  unfold foot at h
  split at h
  · have := (h (2 * j + 1) (List.mem_map.2 ⟨j, hm, rfl⟩)).2
    rwa [show (2 * j + 1) / 2 = j from by omega] at this
  · have := (h (2 * j) (List.mem_map.2 ⟨j, hm, rfl⟩)).2
    rwa [show (2 * j) / 2 = j from by omega] at this
theorem Ze_ {L2 L : List DBlk} {e : List DV} {o : Oper} (hw : weakO o = false) (h : ∀ k ∈ foot e o, EqAt L2 L k) {y : Operand} (hy : y ∈ o.op.operands) {j : Nat} (hj : j ∈ (evD e y).refs) : L2[j]? = L[j]? := by
  have hm := Wn_ hy hj
  unfold foot at h
  rw [hw] at h
  have := (h (2 * j) (List.mem_map.2 ⟨j, hm, rfl⟩)).1 (by omega)
  rwa [show (2 * j) / 2 = j from by omega] at this
theorem Db_ {L2 L : List DBlk} {j : Nat} {b : DBlk} (h : (L2[j]?).map DBlk.tag = (L[j]?).map DBlk.tag) (hb : L[j]? = some b) : ∃ b', L2[j]? = some b' ∧ b'.tag = b.tag := by
  rw [hb] at h
  obtain ⟨b', h1, h2⟩ := Option.map_eq_some_iff.1 h
  exact ⟨b', h1, h2⟩
theorem B5_ {b b' : DBlk} (h : b'.tag = b.tag) : b'.clen = b.clen ∧ b'.ver = b.ver := by
  cases b <;> cases b' <;> simp_all [DBlk.tag, DBlk.clen, DBlk.ver]
theorem Apn_ {b b' : DBlk} (h : b'.tag = b.tag) : (∃ n v, b = .gone n v ∧ b' = .gone n v) ∨ ((∀ n v, b ≠ .gone n v) ∧ ∀ n v, b' ≠ .gone n v) := by
  cases b <;> cases b' <;> simp_all [DBlk.tag]
theorem Xr_ {j ver : Nat} {b : DBlk} (hb : L[j]? = some b) (hn : ∀ n v, b ≠ .gone n v) : good L j ver = match Nat.beq b.ver ver with | true => some b | false => none := by
  unfold good
  rw [hb]
  cases b with
  | gone n v => exact (hn n v rfl).elim
  | _ => rfl
theorem Os_ {L2 L : List DBlk} {j ver : Nat} (h : (L2[j]?).map DBlk.tag = (L[j]?).map DBlk.tag) :
    (good L2 j ver = none ∧ good L j ver = none) ∨ ∃ b b', good L2 j ver = some b' ∧ good L j ver = some b ∧ b'.tag = b.tag := by
  cases hb : L[j]? with
  | none =>
    rw [hb] at h
    have : L2[j]? = none := by simpa using h
    unfold good
    rw [this, hb]; exact .inl ⟨rfl, rfl⟩
  | some b =>
    obtain ⟨b', h1, h2⟩ := Db_ h hb
    rcases Apn_ h2 with ⟨n, v, rfl, rfl⟩ | ⟨g1, g2⟩
    · unfold good
      rw [h1, hb]; exact .inl ⟨rfl, rfl⟩
    · rw [Xr_ hb g1, Xr_ h1 g2, (B5_ h2).2]
      cases Nat.beq b.ver ver with
      | true => exact .inr ⟨b, b', rfl, rfl, h2⟩
      | false => exact .inl ⟨rfl, rfl⟩
theorem U5_ {L2 L : List DBlk} {j ver es : Nat} (h : (L2[j]?).map DBlk.tag = (L[j]?).map DBlk.tag) :
    (goodN L2 j ver es = none ∧ goodN L j ver es = none) ∨ ∃ q q', goodN L2 j ver es = some q' ∧ goodN L j ver es = some q := by
  unfold goodN
  rcases Os_ (ver := ver) h with ⟨h1, h2⟩ | ⟨b, b', h1, h2, h3⟩
  · rw [h1, h2]; exact .inl ⟨rfl, rfl⟩
  · rw [h1, h2]
    cases b <;> cases b' <;> first | exact .inl ⟨rfl, rfl⟩ | (simp [DBlk.tag] at h3; done) | skip
    rename_i cols fl v cols' fl' v'
    have hl : cols'.length = cols.length := by
      have := congrArg (fun t => t.2.2.2.length) h3
      simpa [DBlk.tag] using this
    simp only [hl]
    cases Nat.beq cols.length es <;> cases Nat.ble 1 es <;> first | exact .inl ⟨rfl, rfl⟩ | exact .inr ⟨_, _, rfl, rfl⟩
theorem InnOk.tag {L2 L : List DBlk} {j c k len : Nat} (h : (L2[j]?).map DBlk.tag = (L[j]?).map DBlk.tag) (hi : InnOk L j c k len) : InnOk L2 j c k len := by
  refine ⟨hi.1, ?_⟩
  rcases hi.2 with ⟨n, v, h1⟩ | ⟨cols, fl, v, inn, idx, h1, h2, h3, h4⟩
  · obtain ⟨b', k1, k2⟩ := Db_ h h1
    cases b' <;> simp [DBlk.tag] at k2
    exact .inl ⟨_, _, k1⟩
  · obtain ⟨b', k1, k2⟩ := Db_ h h1
    cases b' <;> simp [DBlk.tag] at k2
    rename_i cols' fl' v'
    obtain ⟨_, _, k3⟩ := k2
    have e := congrArg (fun l => l[c]?) k3
    simp only [List.getElem?_map, h2, Option.map_some] at e
    obtain ⟨z, z1, z2⟩ := Option.map_eq_some_iff.1 e
    cases z with
    | pl r => simp [Col.tag] at z2
    | sl inn' idx' =>
      simp only [Col.tag, Option.some.injEq] at z2
      have hn : inn'.n = inn.n := by have := congrArg List.length z2; simpa using this
      refine .inr ⟨_, _, _, inn', idx', k1, z1, by omega, ?_⟩
      rw [h4]
      cases k with
      | zero => rw [inn.get0, inn'.get0]
      | succ m =>
        have := congrArg (fun l => l[m]?) z2
        simp only [List.getElem?_map, List.getElem?_range (show m < inn'.n by omega), List.getElem?_range (show m < inn.n by omega), Option.map_some, Option.some.injEq] at this
        exact this.symm
theorem Ao7_ {x : DV} (hg : ∀ j ∈ x.refs, (L2[j]?).map DBlk.tag = (L[j]?).map DBlk.tag) : Jr_ x L2 = (Jr_ x L).bind fun r => .leaf (r.1, L2) := by
  unfold Jr_
  cases x with
  | ptr j off ver alen =>
    rcases Os_ (ver := ver) (hg j (by simp [DV.refs])) with ⟨h1, h2⟩ | ⟨b, b', h1, h2, _⟩
    · simp only [h1, h2]; rfl
    · simp only [h1, h2]; rfl
  | ncell j ver es len i c =>
    rcases U5_ (ver := ver) (es := es) (hg j (by simp [DV.refs])) with ⟨h1, h2⟩ | ⟨q, q', h1, h2⟩
    · simp only [h1, h2]; rfl
    · simp only [h1, h2]; rfl
  | _ => rfl
theorem Ajr_ {s : TypeId} {x : DV} {f : Nat} (hg : ∀ j ∈ x.refs, (L2[j]?).map DBlk.tag = (L[j]?).map DBlk.tag) : Gv_ T s x f L2 = (Gv_ T s x f L).bind fun r => .leaf (r.1, L2) := by
  unfold Gv_
  cases T s with
  | none => rfl
  | some i =>
    obtain ⟨k, sz, fl, z, sm⟩ := i
    cases k with
    | struct fs =>
      simp only
      cases fs[f]? with
      | none => rfl
      | some oft =>
        obtain ⟨o, ft⟩ := oft
        simp only
        cases T ft with
        | none => rfl
        | some i2 =>
          simp only
          cases Nat.ble 1 i2.size with
          | false => cases x <;> rfl
          | true =>
            cases x with
            | ptr j off ver alen =>
              rcases Os_ (ver := ver) (hg j (by simp [DV.refs])) with ⟨h1, h2⟩ | ⟨b, b', h1, h2, h3⟩
              · simp only [h1, h2]; rfl
              · simp only [h1, h2]
                cases b <;> cases b' <;> first | rfl | (simp [DBlk.tag] at h3; done) | skip
                rename_i cs fl v cs' fl' v'
                have : cs'.length = cs.length := by simp [DBlk.tag] at h3; exact h3.1
                simp only [this]
                cases Nat.ble (off + o + 1) cs.length <;> rfl
            | ncell j ver es len x c =>
              rcases U5_ (ver := ver) (es := es) (hg j (by simp [DV.refs])) with ⟨h1, h2⟩ | ⟨q, q', h1, h2⟩
              · simp only [h1, h2]; rfl
              · simp only [h1, h2]
                cases Nat.ble (c + o + 1) es <;> rfl
            | bptr p cs => simp only; cases Nat.ble (o + 1) cs.length <;> rfl
            | _ => rfl
    | _ => rfl
theorem Ak4_ {e : List DV} {o : Oper} (hl : heavy o = false) (hg : ∀ k ∈ foot e o, EqAt L2 L k) : opD T DO e L2 o = (opD T DO e L o).bind fun r => .leaf (r.1, L2) := by
  have hg1 : ∀ y ∈ o.op.operands, ∀ j ∈ (evD e y).refs, (L2[j]?).map DBlk.tag = (L[j]?).map DBlk.tag := fun y hy j hj => W3_ hg hy hj
  have hg0 : weakO o = false → ∀ y ∈ o.op.operands, ∀ j ∈ (evD e y).refs, L2[j]? = L[j]? := fun hw y hy j hj => Ze_ hw hg hy hj
  obtain ⟨dst, op, type, pos, after, guard⟩ := o
  simp only at hg1 hg0
  cases op <;> simp [heavy] at hl <;> simp only [opD]
  case move => rfl
  case assign => rfl
  case pick => exact Alv_
  case build t ps =>
    refine Aof_ fun q hq j hj => ?_
    rw [List.mem_map] at hq
    obtain ⟨w, hw, rfl⟩ := hq
    exact hg0 rfl w.2 (by simp only [Op.operands]; simp; exact ⟨w.1, by simpa using hw⟩) j hj
  case load t a => exact Aag_ (hg0 rfl a (by simp [Op.operands]))
  case nilCheck a => exact Ao7_ (hg1 a (by simp [Op.operands]))
  case binOp op t x y u => exact Aca_ (hg0 rfl x (by simp [Op.operands]))
  case unOp => exact Aa4_
  case convert s d x =>
    have hd : Nat.beq d Ge_ = false := by
      cases hb : Nat.beq d Ge_ with
      | false => rfl
      | true => exact absurd (Nat.eq_of_beq_eq_true hb) hl
    have hx := hg0 rfl x (by simp [Op.operands])
    simp only [Ke_, hd]
    have sc : E2_ T s d (evD e x) L2 = (E2_ T s d (evD e x) L).bind fun r => .leaf (r.1, L2) := by
      unfold E2_
      rw [Ap2_ hx]
      repeat' split
      all_goals rfl
    cases hv : evD e x <;> simp only [hv] at sc ⊢ <;> first | exact sc | exact Anc_
  case makeFunc fn first cap =>
    cases fn with
    | func f => simp only; cases first.toList <;> rfl
    | _ => rfl
  case slice t x lo hi mx =>
    cases mx with
    | none => exact Agq_ (hg0 rfl x (by simp [Op.operands]))
    | some m => exact Aaw_ (hg0 rfl x (by simp [Op.operands]))
  case fieldAddr s x f => exact Ajr_ (hg1 x (by simp [Op.operands]))
  case field => exact Ajo_
  case indexAddr t x y => exact Ahz_ (hg0 rfl x (by simp [Op.operands]))
  case index => exact Anb_
  case extract => exact Akb_
  case call c =>
    obtain ⟨callee, args, argTypes⟩ := c
    cases callee with
    | builtin b =>
      simp only
      unfold Kl_
      have ha : ∀ a ∈ args.toList.map (evD e), ∀ j ∈ a.refs, L2[j]? = L[j]? := fun a ha j hj => by
        rw [List.mem_map] at ha
        obtain ⟨y, hy, rfl⟩ := ha
        exact hg0 rfl y (by simp [Op.operands, Call.operands]; simpa using hy) j hj
      generalize args.toList.map (evD e) = as at ha
      split
      · exact Aiu_ (ha _ (by simp))
      · simp at hl
      · simp at hl
      · simp at hl
      · rename_i x y
        unfold maxD
        cases x with
        | int k a => cases y with
          | int k' b => cases k <;> cases k' <;> rfl
          | _ => cases k <;> rfl
        | flt k a => cases y with
          | flt k' b => cases k <;> cases k' <;> rfl
          | _ => cases k <;> rfl
        | _ => rfl
      · rename_i x y
        unfold minD
        cases x with
        | int k a => cases y with
          | int k' b => cases k <;> cases k' <;> rfl
          | _ => cases k <;> rfl
        | _ => rfl
      · rfl
    | value f => simp at hl
    | _ => rfl
  all_goals rfl
theorem Qe_ {e : List DV} {o : Oper} (hl : heavy o = false) {x : DV} {L' : List DBlk} (h : (opD T DO e L o).run = some (x, L')) : L' = L ∧ ∀ L2, (∀ k ∈ foot e o, EqAt L2 L k) → (opD T DO e L2 o).run = some (x, L2) := by
  have h2 : ∀ L2, (∀ k ∈ foot e o, EqAt L2 L k) → (opD T DO e L2 o).run = some (x, L2) := fun L2 hg => by
    rw [Ak4_ hl hg, Tree.run_bind, h]; rfl
  have := h2 L fun _ _ => EqAt.refl _ _
  rw [h] at this
  cases this
  exact ⟨rfl, h2⟩
def Dh_ (M : FuncId → Bool) (L : List DBlk) (e : List DV) (o : Oper) : List Nat :=
  match o.op with
  | .store _ a y => (evD e a).refs ++ (match evD e a with | .ptr _ _ _ _ => [] | _ => (evD e y).refs)
  | .buildSlice t _ ps => (match nestT t with | true => DVs.refs (ps.toList.map fun q => evD e q.2) | false => [])
  | .call { callee := .builtin _, args := args, argTypes := _ } => DVs.refs (args.toList.map (evD e))
  | .call { callee := .value f, args := args, argTypes := _ } => (match evD e f with | .fn g caps => (match M g with | true => [] | false => reach L (args.toList.map (evD e) ++ caps)) | _ => [])
  | _ => []
theorem Ahm_ {j ver : Nat} {fl : Bool} {cols : List Col} {x c : Nat} {v : DV} {L' : List DBlk} (h : putC L j ver fl cols x c v = some L') {i : Nat} (hi : i ≠ j) (hv : i ∉ v.refs) : L'[i]? = L[i]? := by
  unfold putC at h
  have hs : ∀ (b : DBlk) (K : List DBlk), (K.set j b)[i]? = K[i]? := fun b K => by rw [List.getElem?_set, if_neg (fun e => hi e.symm)]
  split at h
  · split at h
    · cases h; exact hs _ _
    · cases h
  · split at h
    · cases h; exact hs _ _
    · split at h
      · cases h; exact hs _ _
      · cases h
    · rename_i j' ver' len
      simp only [DV.refs, List.mem_singleton] at hv
      split at h
      · split at h
        · cases h
          rw [hs, List.getElem?_set, if_neg (fun e => hv e.symm)]
        · cases h
      · cases h
    · cases h
  · cases h
theorem Pr_ {j x : Nat} : ∀ (vs : List DV) (L L' : List DBlk) (c : Nat), putN j x L c vs = some L' → ∀ i, i ≠ j → i ∉ DVs.refs vs → L'[i]? = L[i]?
  | [], L, L', c, h, i, hi, hv => by simp only [putN, Option.some.injEq] at h; rw [h]
  | v :: vs, L, L', c, h, i, hi, hv => by
    simp only [DVs.refs, List.mem_append, not_or] at hv
    simp only [putN] at h
    split at h
    · split at h
      · rename_i hput
        exact (Pr_ vs _ _ _ h i hi hv.2).trans (Ahm_ hput hi hv.1)
      · cases h
    · cases h
theorem Dd_ {b : DBlk} {j : Nat} (hj : j < L.length) : (L ++ [b])[j]? = L[j]? := List.getElem?_append_left hj
theorem B8_ {b : DBlk} {i j : Nat} (h : j ≠ i) : (L.set i b)[j]? = L[j]? := by rw [List.getElem?_set, if_neg (fun e => h e.symm)]
end
section
variable {P : Program} {T : TyT} {F : Fr} {L L2 : List DBlk} {H : Heap} {DO : DOr} {M : FuncId → Bool}
theorem Aqs_ (hO : OrcOk P DO M) (hs : St F L H) {e : List DV} (he : DVs.Ok F L e) {o : Oper} {x : DV} {L' : List DBlk} (h : (opD T DO e L o).run = some (x, L')) : ∀ j, j < L.length → j ∉ Dh_ M L e o → L'[j]? = L[j]? := by
  intro j hj hn
  cases hl : heavy o with
  | false => rw [(Qe_ hl h).1]
  | true =>
    obtain ⟨dst, op, type, pos, after, guard⟩ := o
    have alloc : ∀ (e' : TypeId) (v : Option DV), (Dl_ T e' v L).run = some (x, L') → L'[j]? = L[j]? := by
      intro e' v h
      unfold Dl_ at h
      split at h
      · split at h
        · obtain ⟨cs, _, h⟩ := Aa_ h
          split at h
          · simp only [Tree.run, Option.some.injEq, Prod.mk.injEq] at h
            obtain ⟨_, rfl⟩ := h
            exact Dd_ hj
          · cases h
        · cases h
      · cases h
    cases op <;> simp [heavy] at hl <;> simp only [opD] at h
    case alloc => exact alloc _ _ h
    case box => exact alloc _ _ h
    case convert s d y =>
      unfold Ke_ at h
      rw [hl, Nat.beq_refl] at h
      simp only at h
      unfold M9_ at h
      split at h
      · split at h
        · simp only [Tree.run] at h
          split at h
          · simp only [Option.some.injEq, Prod.mk.injEq] at h
            obtain ⟨_, rfl⟩ := h; rfl
          · cases h
        · cases h
      · split at h
        · simp only [Tree.run] at h
          split at h
          · simp only [Option.some.injEq, Prod.mk.injEq] at h
            obtain ⟨_, rfl⟩ := h
            exact Dd_ hj
          · cases h
        · cases h
      · cases h
    case buildSlice t n ps =>
      unfold Ky_ at h
      split at h
      · split at h
        · split at h
          · obtain ⟨r, _, h⟩ := Aa_ h
            simp only [Tree.run, Option.some.injEq, Prod.mk.injEq] at h
            obtain ⟨_, rfl⟩ := h
            exact Dd_ hj
          · cases h
        · split at h
          · rename_i vs hnt _ hps
            simp only [Dh_, hnt] at hn
            have hvs : ∀ v ∈ vs, j ∉ v.refs := fun v hv hm => hn (DVs.refs_mem.2 ⟨v, by
              obtain ⟨p1, p2⟩ := Ec_ _ 0 vs hps
              have h2 : (ps.toList.map fun q => (q.1, evD e q.2)).map (·.2) = vs := by rw [p1, List.map_snd_zip]; simp
              rw [← h2, List.map_map] at hv
              exact hv, hm⟩)
            unfold Nz_ at h
            split at h
            · split at h
              · simp only [Tree.run, Option.some.injEq, Prod.mk.injEq] at h
                obtain ⟨_, rfl⟩ := h
                exact Dd_ hj
              · obtain ⟨cs, hcs, h⟩ := Aa_ h
                split at h
                · obtain ⟨L1, hL1, h⟩ := Aa_ h
                  simp only [Tree.run, Option.some.injEq, Prod.mk.injEq] at h
                  obtain ⟨_, rfl⟩ := h
                  refine (Pr_ cs _ _ _ hL1 j (by omega) fun hm => ?_).trans (Dd_ hj)
                  obtain ⟨c, hc, hm⟩ := DVs.refs_mem.1 hm
                  exact hvs _ (by simp) (Py_ hcs c hc j hm)
                · cases h
              · split at h
                · simp only [Tree.run, Option.some.injEq, Prod.mk.injEq] at h
                  obtain ⟨_, rfl⟩ := h
                  exact Dd_ hj
                · cases h
              · cases h
            · cases h
          · cases h
        · cases h
      · cases h
    case makeSlice =>
      unfold makeD at h
      split at h
      · split at h
        · split at h
          · simp only [Tree.run] at h
            split at h
            · split at h
              · simp only [Option.some.injEq, Prod.mk.injEq] at h
                obtain ⟨_, rfl⟩ := h
                exact Dd_ hj
              · cases h
            · cases h
          · cases h
        · split at h
          · simp only [Tree.run] at h
            split at h
            · split at h
              · unfold No_ at h
                split at h
                · split at h
                  · split at h
                    · simp only [Tree.run, Option.some.injEq, Prod.mk.injEq] at h
                      obtain ⟨_, rfl⟩ := h
                      exact Dd_ hj
                    · cases h
                  · cases h
                · cases h
              · cases h
            · cases h
          · cases h
        · cases h
      · cases h
    case store t a y =>
      simp only [Dh_] at hn
      unfold I5_ at h
      split at h
      · rename_i j' off ver alen hTi hp
        rw [hp] at hn
        simp only [DV.refs, List.append_nil, List.mem_singleton] at hn
        split at h
        · split at h
          · obtain ⟨r', _, h⟩ := Aa_ h
            simp only [Tree.run, Option.some.injEq, Prod.mk.injEq] at h
            obtain ⟨_, rfl⟩ := h
            exact B8_ hn
          · cases h
        · obtain ⟨vs, _, h⟩ := Aa_ h
          split at h
          · simp only [Tree.run, Option.some.injEq, Prod.mk.injEq] at h
            obtain ⟨_, rfl⟩ := h
            exact B8_ hn
          · cases h
        · cases h
      · rename_i j' ver es len x0 c0 hTi hp
        rw [hp] at hn
        simp only [DV.refs, List.mem_append, List.mem_singleton, not_or] at hn
        obtain ⟨vs, hvs, h⟩ := Aa_ h
        split at h
        · obtain ⟨L1, hL1, h⟩ := Aa_ h
          simp only [Tree.run, Option.some.injEq, Prod.mk.injEq] at h
          obtain ⟨_, rfl⟩ := h
          refine Pr_ vs _ _ _ hL1 j hn.1 fun hm => ?_
          obtain ⟨c, hc, hm⟩ := DVs.refs_mem.1 hm
          exact hn.2 (Py_ hvs c hc j hm)
        · cases h
      · rename_i j' c0 k0 x0 len hTi hp
        rw [hp] at hn
        simp only [DV.refs, List.mem_append, List.mem_singleton, not_or] at hn
        split at h
        · split at h
          · obtain ⟨r, _, h⟩ := Aa_ h
            obtain ⟨inn', _, h⟩ := Aa_ h
            simp only [Tree.run, Option.some.injEq, Prod.mk.injEq] at h
            obtain ⟨_, rfl⟩ := h
            exact B8_ hn.1
          · cases h
        · cases h
      · cases h
    case call c =>
      obtain ⟨callee, args, argTypes⟩ := c
      cases callee with
      | builtin b =>
        simp only [Dh_] at hn
        simp only at h
        unfold Kl_ at h
        generalize args.toList.map (evD e) = as at hn h
        split at h
        · simp at hl
        · rename_i t tx s y
          simp only [DVs.refs, List.mem_append, not_or] at hn
          unfold L1_ at h
          split at h
          · split at h
            · split at h
              · rename_i j' ver len
                split at h
                · simp only [Tree.run, Option.some.injEq, Prod.mk.injEq] at h
                  obtain ⟨_, rfl⟩ := h; rfl
                · cases h
              · rename_i j' ver len _ _
                have hn1 := hn.1
                simp only [DV.refs, List.mem_singleton] at hn1
                split at h
                · obtain ⟨r', _, h⟩ := Aa_ h
                  simp only [Tree.run] at h
                  split at h
                  · simp only [Option.some.injEq, Prod.mk.injEq] at h
                    obtain ⟨_, rfl⟩ := h
                    exact B8_ hn1
                  · cases h
                · cases h
              · split at h
                · simp only [Tree.run] at h
                  split at h
                  · split at h
                    · split at h
                      · cases h
                      simp only [Tree.run, Option.some.injEq, Prod.mk.injEq] at h
                      obtain ⟨_, rfl⟩ := h; rfl
                    · simp only [Option.some.injEq, Prod.mk.injEq] at h
                      obtain ⟨_, rfl⟩ := h
                      exact Dd_ hj
                  · cases h
                · cases h
              · rename_i j' off ver alen len
                have hn1 := hn.1
                simp only [DV.refs, List.mem_singleton] at hn1
                split at h
                · rw [Tree.run] at h
                  split at h
                  case isFalse => cases h
                  obtain ⟨r', _, h⟩ := Aa_ h
                  simp only [Tree.run, Option.some.injEq, Prod.mk.injEq] at h
                  obtain ⟨_, rfl⟩ := h
                  exact B8_ hn1
                · cases h
              · cases h
            · split at h
              · rename_i j' ver es len j1 ver1 es1 len1
                have hn1 := hn.1
                have hn2 := hn.2
                simp only [DV.refs, DVs.refs, List.append_nil, List.mem_singleton] at hn1 hn2
                unfold K4_ at h
                split at h
                · have h : ∃ cols' fl', (Tree.grd (fits (len + len1)) (.leaf (.nest j' (ver + 1) es (len + len1), (L.set j1 (.gone (len1 * es1) (ver1 + 1))).set j' (.nest cols' fl' (ver + 1)))) : Tree Rs).run = some (x, L') := by
                    split at h
                    · cases h
                    · obtain ⟨cols', _, h⟩ := Aa_ h; exact ⟨cols', _, h⟩
                  obtain ⟨cols', fl', h⟩ := h
                  simp only [Tree.run] at h
                  split at h
                  · simp only [Option.some.injEq, Prod.mk.injEq] at h
                    obtain ⟨_, rfl⟩ := h
                    rw [B8_ hn1, B8_ hn2.1]
                  · cases h
                · cases h
              · cases h
            · cases h
          · split at h
            · unfold Oo_ at h
              split at h
              · split at h
                · rename_i j' ver len
                  have hn1 := hn.1
                  simp only [DV.refs, List.mem_singleton] at hn1
                  split at h
                  · obtain ⟨r', _, h⟩ := Aa_ h
                    simp only [Tree.run] at h
                    split at h
                    · simp only [Option.some.injEq, Prod.mk.injEq] at h
                      obtain ⟨_, rfl⟩ := h
                      exact B8_ hn1
                    · cases h
                  · cases h
                · cases h
              · cases h
            · cases h
          · cases h
        · rename_i t x
          unfold Mk_ at h
          split at h
          · split at h
            · split at h
              · simp only [Tree.run, Option.some.injEq, Prod.mk.injEq] at h
                obtain ⟨_, rfl⟩ := h; rfl
              · rename_i j' ver len
                simp only [DVs.refs, DV.refs, List.mem_append, List.mem_singleton, not_or] at hn
                split at h
                · obtain ⟨r', _, h⟩ := Aa_ h
                  simp only [Tree.run, Option.some.injEq, Prod.mk.injEq] at h
                  obtain ⟨_, rfl⟩ := h
                  exact B8_ hn.1
                · cases h
              · rename_i j' off ver alen len
                simp only [DVs.refs, DV.refs, List.mem_append, List.mem_singleton, not_or] at hn
                split at h
                · rw [Tree.run] at h
                  split at h
                  case isFalse => cases h
                  obtain ⟨r', _, h⟩ := Aa_ h
                  simp only [Tree.run, Option.some.injEq, Prod.mk.injEq] at h
                  obtain ⟨_, rfl⟩ := h
                  exact B8_ hn.1
                · cases h
              · cases h
            · cases h
          · cases h
        · rename_i t tx d x
          unfold copyD at h
          split at h
          · split at h
            · split at h
              · rename_i j' ver len
                simp only [DVs.refs, DV.refs, List.mem_append, List.mem_singleton, not_or] at hn
                split at h
                · obtain ⟨r', _, h⟩ := Aa_ h
                  simp only [Tree.run, Option.some.injEq, Prod.mk.injEq] at h
                  obtain ⟨_, rfl⟩ := h
                  exact B8_ hn.1
                · cases h
              · rename_i j' off ver alen len
                simp only [DVs.refs, DV.refs, List.mem_append, List.mem_singleton, not_or] at hn
                split at h
                · rw [Tree.run] at h
                  split at h
                  case isFalse => cases h
                  obtain ⟨r', _, h⟩ := Aa_ h
                  simp only [Tree.run, Option.some.injEq, Prod.mk.injEq] at h
                  obtain ⟨_, rfl⟩ := h
                  exact B8_ hn.1
                · cases h
              · cases h
            · cases h
          · cases h
        · simp at hl
        · simp at hl
        · cases h
      | value f =>
        simp only [Dh_] at hn
        simp only at h
        split at h
        · rename_i g caps hf
          rw [hf] at hn
          simp only at hn
          have hok : DVs.Ok F L (args.toList.map (evD e) ++ caps) := DVs.ok_iff.2 fun c hc => by
            rcases List.mem_append.1 hc with h | h
            · exact DVs.ok_iff.1 (T8_ he _) c h
            · have := G8_ he f
              rw [hf] at this
              exact DVs.ok_iff.1 this c h
          obtain ⟨F', H', _, _, _, _, _, k⟩ := hO F L H g _ x L' hs hok h
          refine k j hj ?_
          cases hM : M g with
          | true => exact .inl rfl
          | false => rw [hM] at hn; exact .inr hn
        · cases h
      | _ => cases h
def Rd_ (p v : DV) : Bool :=
  match p with
  | .ptr _ _ _ _ => true
  | .icell _ _ _ _ _ => true
  | .ncell _ _ _ _ _ _ => (match v with | .own _ _ _ => false | .agg _ => false | _ => true)
  | _ => false
theorem Col.tag_pl {cols : List Col} {c : Nat} {q q' : Col} (hc : cols[c]? = some q) (h : q'.tag = q.tag) : (cols.set c q').map Col.tag = cols.map Col.tag := by
  rw [List.map_set, h]
  refine List.ext_getElem? fun i => ?_
  rw [List.getElem?_set]
  by_cases e : c = i
  · subst e
    have hl := (List.getElem?_eq_some_iff.1 hc).1
    rw [if_pos rfl, if_pos (by simpa using hl), List.getElem?_map, hc]; rfl
  · rw [if_neg e]
theorem Aqt_ (F : Fr) {j ver : Nat} {fl : Bool} {cols : List Col} {x c : Nat} {v : DV} {L' : List DBlk} (hb : L[j]? = some (.nest cols fl ver)) (hv : ∀ a b d, v ≠ .own a b d) (h : putC L j ver fl cols x c v = some L') : ∃ cols', L' = L.set j (.nest cols' fl ver) ∧ (DBlk.nest cols' fl ver).tag = (DBlk.nest cols fl ver).tag := by
  unfold putC at h
  split at h
  · rename_i r hc
    split at h
    · rename_i r' hr
      cases h
      have h2 := (Row.set_spec F hr).2.1
      have hl := (List.getElem?_eq_some_iff.1 hc).1
      refine ⟨_, rfl, ?_⟩
      simp only [DBlk.tag, C6_ hc (show (Col.pl r').len = (Col.pl r).len from h2), List.length_set, Col.tag_pl hc (show (Col.pl r').tag = (Col.pl r).tag from rfl)]
    · cases h
  · rename_i inn idx hc
    have key : ∀ k, (DBlk.nest (cols.set c (.sl inn (idx.set x k))) fl ver).tag = (DBlk.nest cols fl ver).tag := fun k => by
      simp only [DBlk.tag, C6_ hc (show (Col.sl inn (idx.set x k)).len = (Col.sl inn idx).len by simp [Col.len]), List.length_set, Col.tag_pl hc (show (Col.sl inn (idx.set x k)).tag = (Col.sl inn idx).tag from rfl)]
    split at h
    · cases h; exact ⟨_, rfl, key _⟩
    · split at h
      · cases h; exact ⟨_, rfl, key _⟩
      · cases h
    · exact (hv _ _ _ rfl).elim
    · cases h
  · cases h
theorem Agj_ (F : Fr) {t : TypeId} {p v x : DV} {L' : List DBlk} (hok : p.Ok F L) (hp : Rd_ p v = true) (h : (I5_ T t p v L).run = some (x, L')) (j : Nat) : (L'[j]?).map DBlk.tag = (L[j]?).map DBlk.tag := by
  have key : ∀ (i : Nat) (b b' : DBlk), L[i]? = some b → b'.tag = b.tag → ((L.set i b')[j]?).map DBlk.tag = (L[j]?).map DBlk.tag := fun i b b' h1 h2 => by
    rw [List.getElem?_set]
    by_cases hij : i = j
    · subst hij
      rw [if_pos rfl, if_pos (List.getElem?_eq_some_iff.1 h1).1, h1]; simp [h2]
    · rw [if_neg hij]
  have hput : ∀ (vs l : List DV) (o : Nat), (putD l o vs).length = l.length := by
    intro vs
    induction vs with
    | nil => intro l o; rfl
    | cons v vs ih => intro l o; simp only [putD]; rw [ih]; simp
  unfold I5_ at h
  split at h
  · rename_i j' off ver alen hTi
    split at h
    · rename_i r v' hg
      split at h
      · obtain ⟨r', hr', h⟩ := Aa_ h
        simp only [Tree.run, Option.some.injEq, Prod.mk.injEq] at h
        obtain ⟨_, rfl⟩ := h
        refine key _ _ _ (Al_ hg).1 ?_
        have : r'.len = r.len := (Row.set_spec F hr').2.1
        simp [DBlk.tag, this]
      · cases h
    · rename_i cs fl v' hg
      obtain ⟨vs, _, h⟩ := Aa_ h
      split at h
      · simp only [Tree.run, Option.some.injEq, Prod.mk.injEq] at h
        obtain ⟨_, rfl⟩ := h
        refine key _ _ _ (Al_ hg).1 ?_
        simp [DBlk.tag, hput]
      · cases h
    · cases h
  · rename_i j' ver es len x0 c0 hTi
    obtain ⟨vs, hvs, h⟩ := Aa_ h
    split at h
    · rename_i q hg _ _ _
      obtain ⟨L1, hL1, h⟩ := Aa_ h
      simp only [Tree.run, Option.some.injEq, Prod.mk.injEq] at h
      obtain ⟨_, rfl⟩ := h
      have hv : vs = [v] ∧ ∀ a b d, v ≠ .own a b d := by
        cases v <;> first | (simp [Rd_] at hp; done) | (simp [A2_] at hvs; done) | (simp only [A2_, Option.some.injEq] at hvs; subst hvs; exact ⟨rfl, by simp⟩)
      obtain ⟨rfl, hv⟩ := hv
      simp only [putN] at hL1
      split at hL1
      · rename_i cols fl ver' hb
        split at hL1
        · rename_i L2 hput
          cases hL1
          obtain ⟨cols', rfl, h2⟩ := Aqt_ F hb hv hput
          exact key _ _ _ hb h2
        · cases hL1
      · cases hL1
    · cases h
  · rename_i j' c0 k0 x0 len hTi
    obtain ⟨hi, hk, _⟩ := hok
    split at h
    · rename_i cols fl ver hb _
      split at h
      · rename_i inn idx hc
        obtain ⟨r, hr, h⟩ := Aa_ h
        obtain ⟨inn', hi', h⟩ := Aa_ h
        simp only [Tree.run, Option.some.injEq, Prod.mk.injEq] at h
        obtain ⟨_, rfl⟩ := h
        refine key _ _ _ hb ?_
        have hkn : k0 ≤ inn.n := by
          rcases hi.2 with ⟨n, v', g1⟩ | ⟨cols', fl', v', inn2, idx2, g1, g2, g3, g4⟩
          · rw [hb] at g1; cases g1
          · rw [hb] at g1; cases g1
            rw [hc] at g2; cases g2; exact g3
        obtain ⟨s1, s2, s3⟩ := NRow.set_spec hi' hk hkn
        have e2 : r.len = (inn.get k0).len := (Row.set_spec F hr).2.1
        have ht : (Col.sl inn' idx).tag = (Col.sl inn idx).tag := by
          simp only [Col.tag, s1, Option.some.injEq]
          refine List.map_congr_left fun m _ => ?_
          by_cases hm : m + 1 = k0
          · rw [hm, s2]; exact e2
          · rw [s3 _ hm]
        simp only [DBlk.tag, C6_ hc (show (Col.sl inn' idx).len = (Col.sl inn idx).len from rfl), List.length_set, Col.tag_pl hc ht]
      · cases h
    · cases h
  · cases h
def touch (M : FuncId → Bool) (L : List DBlk) (e : List DV) (o : Oper) : List Nat :=
  match (match o.op with | .store _ a y => Rd_ (evD e a) (evD e y) | _ => false) with
  | true => (Dh_ M L e o).map (fun j => 2 * j)
  | false => (Dh_ M L e o).map (fun j => 2 * j) ++ (Dh_ M L e o).map (fun j => 2 * j + 1)
theorem Amd_ (hO : OrcOk P DO M) (hs : St F L H) {e : List DV} (he : DVs.Ok F L e) {o : Oper} {x : DV} {L' : List DBlk} (h : (opD T DO e L o).run = some (x, L')) : ∀ k, k / 2 < L.length → k ∉ touch M L e o → EqAt L' L k := by
  intro k hk hn
  have h0 := Aqs_ hO hs he h (k / 2) hk
  unfold touch at hn
  split at hn
  · rename_i hop
    split at hop
    · rename_i t a y hop'
      refine ⟨fun hk2 => h0 fun hm => hn (List.mem_map.2 ⟨_, hm, by omega⟩), ?_⟩
      unfold opD at h
      rw [hop'] at h
      exact Agj_ F (G8_ he a) hop h _
    · cases hop
  · simp only [List.mem_append, not_or] at hn
    have : L'[k / 2]? = L[k / 2]? := h0 fun hm => by
      rcases Nat.mod_two_eq_zero_or_one k with e | e
      · exact hn.1 (List.mem_map.2 ⟨_, hm, by omega⟩)
      · exact hn.2 (List.mem_map.2 ⟨_, hm, by omega⟩)
    exact ⟨fun _ => this, by rw [this]⟩
end
end Go.Proofs.Ytmgpbchacndndaa.AM
