/- The abstract machine, part 17: the rule for regions whose order is drawn. -/
import Derived.Test.YtjniaobboclniabE7
set_option linter.unusedSimpArgs false
set_option linter.unusedVariables false
namespace Go.Proofs.Ytjniaobboclniab.AM

section
variable {P : Program} {O : Nat → Oracle} {nb : Nat}

theorem anc_spec {ops : Array Oper} {A : List (List Nat)} (hA : ancOk ops A = true) {L : Nat → Bool} (hcl : ∀ (j : Nat) (o : Oper), ops[j]? = some o → L j = true → ∀ i ∈ directs o, L i = true) :
    ∀ (j : Nat) (o : Oper), ops[j]? = some o → (∀ i ∈ directs o, L i = true) → ∀ i ∈ A.getD j [], L i = true := by
  intro j
  induction j using Nat.strongRecOn with
  | _ j ih =>
    intro o ho hd i hi
    have hj : j < ops.size := (Array.getElem?_eq_some_iff.1 ho).1
    have := List.all_eq_true.1 hA j (by simpa using hj)
    rw [ho] at this
    simp only [Bool.and_eq_true, List.all_eq_true, decide_eq_true_eq, Bool.or_eq_true, List.contains_iff_mem, List.any_eq_true] at this
    rcases this.2 i hi with h | ⟨k, hk, hik⟩
    · exact hd i h
    · have hkj := this.1 k hk
      obtain ⟨ok, hok⟩ : ∃ ok, ops[k]? = some ok := ⟨ops[k]'(by omega), Array.getElem?_eq_getElem _⟩
      exact ih k hkj ok hok (fun m hm => hcl k ok hok (hd k hk) m hm) i hik

theorem static_spec {ops : Array Oper} {A : List (List Nat)} {U : List (Nat × Nat)} (h : drawStatic ops A U = true) {i j : Nat} {oi oj : Oper} (hij : i < j) (hi : ops[i]? = some oi) (hj : ops[j]? = some oj) :
    (∀ d, oi.dst = some d → oj.dst ≠ some d) ∧ (i ∈ A.getD j [] ∨ (oi.apart ops oj = true ∧ ¬ (heavy oi = true ∧ heavy oj = true) ∧ ((heavy oi = true ∨ heavy oj = true) → (i, j) ∈ U))) := by
  have hjs : j < ops.size := (Array.getElem?_eq_some_iff.1 hj).1
  have h1 := List.all_eq_true.1 h j (by simpa using hjs)
  have h2 := List.all_eq_true.1 h1 i (by simpa using hij)
  rw [hi, hj] at h2
  simp only [Bool.and_eq_true, Bool.or_eq_true, List.contains_iff_mem, Option.isNone_iff_eq_none, bne_iff_ne, ne_eq, Bool.not_eq_true', Bool.and_eq_false_iff, Bool.or_eq_false_iff] at h2
  refine ⟨fun d hd he => ?_, ?_⟩
  · rcases h2.1 with h | h
    · rw [hd] at h; cases h
    · exact h (by rw [hd, he])
  · rcases h2.2 with h | ⟨⟨h3, h4⟩, h5⟩
    · exact .inl h
    · refine .inr ⟨h3, fun ⟨a, b⟩ => ?_, fun hab => ?_⟩
      · rcases h4 with h | h
        · rw [a] at h; cases h
        · rw [b] at h; cases h
      · rcases h5 with ⟨a, b⟩ | h
        · rcases hab with h | h
          · rw [a] at h; cases h
          · rw [b] at h; cases h
        · exact h

/-- The frame when the listed operations have come up. -/
def EnvIs (ops : Array Oper) (V : Nat → AV) (env0 : Env) (L : Nat → Bool) (e : Env) : Prop :=
  e.length = env0.length ∧ ∀ t, t < env0.length →
    (∀ (i : Nat) (o : Oper), ops[i]? = some o → o.dst = some t → L i = true → e[t]? = some (V i)) ∧
    ((∀ (i : Nat) (o : Oper), ops[i]? = some o → o.dst = some t → L i = false) → e[t]? = env0[t]?)

theorem EnvIs.put {ops : Array Oper} {V : Nat → AV} {env0 e : Env} {L : Nat → Bool} (h : EnvIs ops V env0 L e) {i : Nat} {o : Oper} (ho : ops[i]? = some o)
    (hd : ∀ (j : Nat) (oj : Oper), ops[j]? = some oj → j ≠ i → ∀ d, o.dst = some d → oj.dst ≠ some d) : EnvIs ops V env0 (fun j => if j = i then true else L j) (putA e o.dst (V i)) := by
  obtain ⟨h1, h2⟩ := h
  cases hdst : o.dst with
  | none =>
    refine ⟨h1, fun t ht => ⟨fun j oj hj hjd hl => ?_, fun hall => ?_⟩⟩
    · have hji : j ≠ i := fun e => by subst e; rw [ho] at hj; cases hj; rw [hdst] at hjd; cases hjd
      simp only [hji, if_false] at hl
      exact (h2 t ht).1 j oj hj hjd hl
    · refine (h2 t ht).2 fun j oj hj hjd => ?_
      have := hall j oj hj hjd
      simp only at this
      split at this
      · cases this
      · exact this
  | some d =>
    refine ⟨by simp [putA, h1], fun t ht => ⟨fun j oj hj hjd hl => ?_, fun hall => ?_⟩⟩
    · simp only [putA, List.getElem?_set]
      by_cases hji : j = i
      · subst hji
        rw [ho] at hj; cases hj
        rw [hdst] at hjd; cases hjd
        rw [if_pos rfl, if_pos (by omega)]
      · simp only [hji, if_false] at hl
        have : d ≠ t := fun e => hd j oj hj hji d hdst (e ▸ hjd)
        rw [if_neg this]
        exact (h2 t ht).1 j oj hj hjd hl
    · simp only [putA, List.getElem?_set]
      have : d ≠ t := fun e => by
        have := hall i o ho (e ▸ hdst)
        simp at this
      rw [if_neg this]
      refine (h2 t ht).2 fun j oj hj hjd => ?_
      have := hall j oj hj hjd
      simp only at this
      split at this
      · cases this
      · exact this

theorem EnvIs.congr {ops : Array Oper} {V : Nat → AV} {env0 e : Env} {L L' : Nat → Bool} (hL : ∀ i, i < ops.size → L i = L' i) (h : EnvIs ops V env0 L e) : EnvIs ops V env0 L' e := by
  refine ⟨h.1, fun t ht => ⟨fun i o hi hd hl => (h.2 t ht).1 i o hi hd ?_, fun hall => (h.2 t ht).2 fun i o hi hd => ?_⟩⟩
  · rw [hL i (Array.getElem?_eq_some_iff.1 hi).1]; exact hl
  · rw [hL i (Array.getElem?_eq_some_iff.1 hi).1]; exact hall i o hi hd

theorem EnvIs.same {ops : Array Oper} {V : Nat → AV} {env0 e e' : Env} {L : Nat → Bool} (h : EnvIs ops V env0 L e) (h' : EnvIs ops V env0 L e') : e = e' := by
  refine List.ext_getElem? fun t => ?_
  by_cases ht : t < env0.length
  · by_cases hx : ∃ (i : Nat) (o : Oper), ops[i]? = some o ∧ o.dst = some t ∧ L i = true
    · obtain ⟨i, o, h1, h2, h3⟩ := hx
      rw [(h.2 t ht).1 i o h1 h2 h3, (h'.2 t ht).1 i o h1 h2 h3]
    · have hn : ∀ (i : Nat) (o : Oper), ops[i]? = some o → o.dst = some t → L i = false := fun i o h1 h2 => by
        cases hl : L i with
        | false => rfl
        | true => exact absurd ⟨i, o, h1, h2, hl⟩ hx
      rw [(h.2 t ht).2 hn, (h'.2 t ht).2 hn]
  · rw [List.getElem?_eq_none (by rw [h.1]; omega), List.getElem?_eq_none (by rw [h'.1]; omega)]

theorem wantA_congr {ops : Array Oper} {env env' : Env} {o : Oper} (h : ∀ g w d, o.guard = some (g, w) → (ops[g]?).bind (·.dst) = some d → env[d]? = env'[d]?) : wantA ops env o = wantA ops env' o := by
  unfold wantA
  cases hg : o.guard with
  | none => rfl
  | some gw =>
    obtain ⟨g, w⟩ := gw
    simp only
    cases hd : (ops[g]?).bind (·.dst) with
    | none => rfl
    | some d => simp only [h g w d hg hd]

theorem filter_le {p q : Nat → Bool} (h : ∀ x, q x = true → p x = true) : ∀ l : List Nat, (l.filter q).length ≤ (l.filter p).length
  | [] => by simp
  | x :: l => by
    have ih := filter_le h l
    simp only [List.filter_cons]
    cases hq : q x with
    | true => rw [h x hq]; simpa using ih
    | false => cases hp : p x <;> simp <;> omega
theorem filter_lt {p q : Nat → Bool} (h : ∀ x, q x = true → p x = true) {i : Nat} (hp : p i = true) (hq : q i = false) : ∀ l : List Nat, i ∈ l → (l.filter q).length < (l.filter p).length
  | [], hi => by cases hi
  | x :: l, hi => by
    simp only [List.filter_cons]
    rcases List.mem_cons.1 hi with rfl | hi
    · rw [hp, hq]
      have := filter_le h l
      simp; omega
    · have ih := filter_lt h hp hq l hi
      cases hqx : q x with
      | true => rw [h x hqx]; simpa using ih
      | false => cases hpx : p x <;> simp <;> omega

theorem next_cut {ops : Array Oper} {Hp : Nat → Heap} (hl : ∀ (k : Nat) (o : Oper), k < ops.size → ops[k]? = some o → heavy o = false → Hp (k + 1) = Hp k) :
    ∀ (d i : Nat), ops.size - i = d → i ≤ ops.size → ∃ c, i ≤ c ∧ c ≤ ops.size ∧ (∀ (j : Nat) (o : Oper), i ≤ j → j < c → ops[j]? = some o → heavy o = false) ∧ (c < ops.size → ∃ o, ops[c]? = some o ∧ heavy o = true) ∧ Hp c = Hp i
  | 0, i, hd, hi => ⟨i, Nat.le_refl _, hi, fun j o h1 h2 _ => by omega, fun h => by omega, rfl⟩
  | d + 1, i, hd, hi => by
    have his : i < ops.size := by omega
    cases hh : heavy ops[i] with
    | true => exact ⟨i, Nat.le_refl _, hi, fun j o h1 h2 _ => by omega, fun _ => ⟨_, Array.getElem?_eq_getElem his, hh⟩, rfl⟩
    | false =>
      obtain ⟨c, c1, c2, c3, c4, c5⟩ := next_cut hl d (i + 1) (by omega) his
      refine ⟨c, by omega, c2, fun j o h1 h2 ho => ?_, c4, c5.trans (hl i _ his (Array.getElem?_eq_getElem his) hh)⟩
      by_cases hj : j = i
      · subst hj; rw [Array.getElem?_eq_getElem his] at ho; cases ho; exact hh
      · exact c3 j o (by omega) h2 ho

theorem last_heavy {ops : Array Oper} {Hp : Nat → Heap} {W : Nat → Bool} (hl : ∀ (k : Nat) (o : Oper), k < ops.size → ops[k]? = some o → heavy o = false → Hp (k + 1) = Hp k)
    (hu : ∀ (k : Nat) (o : Oper), k < ops.size → ops[k]? = some o → W k = false → Hp (k + 1) = Hp k) (i : Nat) (hi : ∀ o, ops[i]? = some o → heavy o = false) :
    ∀ c, i < c → c ≤ ops.size → (∃ (j : Nat) (o : Oper), i < j ∧ j < c ∧ ops[j]? = some o ∧ heavy o = true ∧ W j = true ∧ Hp c = Hp (j + 1)) ∨ Hp c = Hp i := by
  intro c
  induction c with
  | zero => intro h; omega
  | succ c ih =>
    intro h1 h2
    have hc : c < ops.size := by omega
    by_cases hci : c = i
    · subst hci
      exact .inr (hl c _ hc (Array.getElem?_eq_getElem hc) (hi _ (Array.getElem?_eq_getElem hc)))
    · have := ih (by omega) (by omega)
      have carry : Hp (c + 1) = Hp c → (∃ (j : Nat) (o : Oper), i < j ∧ j < c + 1 ∧ ops[j]? = some o ∧ heavy o = true ∧ W j = true ∧ Hp (c + 1) = Hp (j + 1)) ∨ Hp (c + 1) = Hp i := fun he => by
        rcases this with ⟨j, o, k1, k2, k3, k4, k5, k6⟩ | h
        · exact .inl ⟨j, o, k1, by omega, k3, k4, k5, he.trans k6⟩
        · exact .inr (he.trans h)
      cases hh : heavy ops[c] with
      | false => exact carry (hl c _ hc (Array.getElem?_eq_getElem hc) hh)
      | true =>
        cases hw : W c with
        | false => exact carry (hu c _ hc (Array.getElem?_eq_getElem hc) hw)
        | true => exact .inl ⟨c, _, by omega, by omega, Array.getElem?_eq_getElem hc, hh, hw, rfl⟩

theorem drawn_ok (hm : P.follows .mixedOrders = true) (hO : ∀ i, SoundO P (O i)) {id : Nat} {ops : Array Oper} (U : List (Nat × Nat)) {Q : QA} {e : Env} {H : Heap} (hB : drawOkB ops U = true)
    (h : runD P O ops U (Q .normal) 0 ops.toList e H [] []) : TW P nb (.region id ops true) Q e H := by
  simp only [drawOkB, Bool.and_eq_true] at hB
  obtain ⟨⟨hsel, hA⟩, hS⟩ := hB
  obtain ⟨V, W, En, Hp, eE, eH, hQ, T, _, _⟩ := trace_of ops.toList 0 e H [] [] (by simp) h
  simp only [Nat.zero_add, Array.length_toList] at hQ T
  intro H0 μ0 w0 μ a w hn he hr ha
  -- distinct places
  have hdist : ∀ (i j : Nat) (oi oj : Oper), ops[i]? = some oi → ops[j]? = some oj → j ≠ i → ∀ d, oi.dst = some d → oj.dst ≠ some d := fun i j oi oj hi hj hne d hd hjd => by
    rcases Nat.lt_or_ge i j with h | h
    · exact (static_spec hS h hi hj).1 d hd hjd
    · exact (static_spec hS (show j < i by omega) hj hi).1 d hjd hd
  -- the frames of the text
  have hEn : ∀ i, i ≤ ops.size → EnvIs ops V e (fun j => decide (j < i)) (En i) := by
    intro i
    induction i with
    | zero => intro _; rw [eE]; exact ⟨rfl, fun t ht => ⟨fun i o _ _ hl => by simp at hl, fun _ => rfl⟩⟩
    | succ i ih =>
      intro hi
      obtain ⟨o, ho⟩ : ∃ o, ops[i]? = some o := ⟨ops[i]'(by omega), Array.getElem?_eq_getElem _⟩
      have := (ih (by omega)).put ho (fun j oj hj hne d hd => hdist i j o oj ho hj hne d hd)
      rw [(T.step i o (Nat.zero_le _) (by omega) ho).2.2.2.1]
      refine this.congr fun j _ => ?_
      by_cases hj : j = i
      · subst hj; simp
      · simp [hj]; omega
  have main : ∀ (fuel : Nat) (listed : Array Bool) (a : Act) (w : World) (e1 : Env) (c : Nat) (μ1 : Mem), listed.size = ops.size →
      (∀ (j : Nat) (o : Oper), ops[j]? = some o → listed.getD j false = true → ∀ i ∈ directs o, listed.getD i false = true) →
      EnvIs ops V e (fun j => listed.getD j false) e1 → c ≤ ops.size → (∀ (j : Nat) (o : Oper), ops[j]? = some o → heavy o = true → (listed.getD j false = true ↔ j < c)) →
      (c < ops.size → ∃ o, ops[c]? = some o ∧ heavy o = true) → ER (Hp c) μ1 e1 a → HR (Hp c) μ1 w → Adv H0 μ0 w0 (Hp c) μ1 w → ((List.range ops.size).filter fun j => !listed.getD j false).length ≤ fuel →
      wpAny P .any ops (Conc Q H0 μ0 w0) fuel listed a w := by
    intro fuel
    -- the end
    have fin : ∀ (listed : Array Bool) (a : Act) (w : World) (e1 : Env) (c : Nat) (μ1 : Mem), EnvIs ops V e (fun j => listed.getD j false) e1 → c ≤ ops.size → (∀ (j : Nat) (o : Oper), ops[j]? = some o → heavy o = true → (listed.getD j false = true ↔ j < c)) →
        (c < ops.size → ∃ o, ops[c]? = some o ∧ heavy o = true) → ER (Hp c) μ1 e1 a → HR (Hp c) μ1 w → Adv H0 μ0 w0 (Hp c) μ1 w → (∀ j, j < ops.size → listed.getD j false = true) → Conc Q H0 μ0 w0 .normal a w := by
      intro listed a w e1 c μ1 hE hc hcut hch he1 hr1 ha1 hall
      have hcn : c = ops.size := by
        rcases Nat.lt_or_ge c ops.size with h | h
        · obtain ⟨o, ho, hh⟩ := hch h
          have := (hcut c o ho hh).1 (hall c h)
          omega
        · omega
      subst hcn
      have : e1 = En ops.size := hE.same ((hEn _ (Nat.le_refl _)).congr fun j hj => by rw [hall j hj]; simpa using hj)
      subst this
      exact ⟨_, _, μ1, hQ, he1, hr1, ha1⟩
    -- nothing ready: all has come up
    have done : ∀ (listed : Array Bool), listed.size = ops.size → Region.ready .any ops listed = [] → ∀ j, j < ops.size → listed.getD j false = true := by
      intro listed hls hready j
      induction j using Nat.strongRecOn with
      | _ j ih =>
        intro hj
        cases hl : listed.getD j false with
        | true => rfl
        | false =>
          exfalso
          have hmem : j ∈ Region.ready .any ops listed := by
            refine mem_ready.2 ⟨by simpa [hls, hj] using hl, ops[j], Array.getElem?_eq_getElem hj, fun ed hed hb => ?_⟩
            have h1 := List.all_eq_true.1 hA j (by simpa using hj)
            rw [Array.getElem?_eq_getElem hj] at h1
            simp only [Bool.and_eq_true, List.all_eq_true, decide_eq_true_eq] at h1
            have hin : ed.on ∈ directs ops[j] := by
              unfold directs
              refine List.mem_filterMap.2 ⟨ed, by simpa using hed, by rw [if_pos hb]⟩
            have := h1.1 _ hin
            exact ih _ this (by omega)
          rw [hready] at hmem
          cases hmem
    induction fuel with
    | zero =>
      intro listed a w e1 c μ1 hls hcl hE hc hcut hch he1 hr1 ha1 h0
      have hall : ∀ j, j < ops.size → listed.getD j false = true := fun j hj => by
        have h1 : ((List.range ops.size).filter fun j => !listed.getD j false) = [] := List.eq_nil_of_length_eq_zero (by omega)
        rw [List.filter_eq_nil_iff] at h1
        have := h1 j (by simpa using hj)
        simpa using this
      refine ⟨?_, fin listed a w e1 c μ1 hE hc hcut hch he1 hr1 ha1 hall⟩
      rw [List.eq_nil_iff_forall_not_mem]
      intro j hj
      obtain ⟨h1, o, h2, _⟩ := mem_ready.1 hj
      have hjs : j < ops.size := (Array.getElem?_eq_some_iff.1 h2).1
      have := hall j hjs
      simp [hls, hjs] at h1 this
      rw [h1] at this; cases this
    | succ fuel ih =>
      intro listed a w e1 c μ1 hls hcl hE hc hcut hch he1 hr1 ha1 hcount
      refine ⟨fun hready => fin listed a w e1 c μ1 hE hc hcut hch he1 hr1 ha1 (done listed hls hready), fun i hi => ?_⟩
      obtain ⟨hi1, o, ho, hi3⟩ := mem_ready.1 hi
      have his : i < ops.size := (Array.getElem?_eq_some_iff.1 ho).1
      have hun : listed.getD i false = false := by simpa [hls, his] using hi1
      have hdir : ∀ k ∈ directs o, listed.getD k false = true := fun k hk => by
        unfold directs at hk
        obtain ⟨ed, hed, hk⟩ := List.mem_filterMap.1 hk
        split at hk
        · rename_i hb; cases hk; exact hi3 ed (by simpa using hed) hb
        · cases hk
      have hanc : ∀ k ∈ (ancs ops.toList []).getD i [], listed.getD k false = true := anc_spec hA (L := fun j => listed.getD j false) hcl i o ho hdir
      have hanc' : ∀ (j : Nat) (oj : Oper), ops[j]? = some oj → listed.getD j false = true → ∀ k ∈ (ancs ops.toList []).getD j [], listed.getD k false = true := fun j oj hj hl =>
        anc_spec hA (L := fun j => listed.getD j false) hcl j oj hj (hcl j oj hj hl)
      have hEi := hEn i (by omega)
      -- what the operation looks at is as in the text
      have slot : ∀ t, t ∈ o.looksAt ops → e1[t]? = (En i)[t]? := by
        intro t ht
        by_cases htl : t < e.length
        · have one : ∀ (j : Nat) (oj : Oper), ops[j]? = some oj → oj.dst = some t → (listed.getD j false = decide (j < i)) → e1[t]? = (En i)[t]? := by
            intro j oj hj hd hl
            cases hlj : listed.getD j false with
            | true =>
              rw [(hE.2 t htl).1 j oj hj hd hlj, (hEi.2 t htl).1 j oj hj hd (by show decide (j < i) = true; rw [← hl]; exact hlj)]
            | false =>
              have uniq : ∀ (k : Nat) (ok : Oper), ops[k]? = some ok → ok.dst = some t → k = j := fun k ok hk hkd => by
                by_cases hkj : k = j
                · exact hkj
                · exact absurd hkd (hdist j k oj ok hj hk hkj t hd)
              rw [(hE.2 t htl).2 (fun k ok hk hkd => by rw [uniq k ok hk hkd]; exact hlj), (hEi.2 t htl).2 (fun k ok hk hkd => by show decide (k < i) = false; rw [uniq k ok hk hkd, ← hl]; exact hlj)]
          by_cases hx : ∃ (j : Nat) (oj : Oper), ops[j]? = some oj ∧ oj.dst = some t
          · obtain ⟨j, oj, hj, hd⟩ := hx
            refine one j oj hj hd ?_
            rcases Nat.lt_trichotomy j i with h | h | h
            · rcases (static_spec hS h hj ho).2 with h1 | ⟨h1, _, _⟩
              · rw [hanc j h1]; simp [h]
              · exact absurd ht ((Oper.apart_spec h1).1 t hd)
            · subst h; rw [hun]; simp
            · rcases (static_spec hS h ho hj).2 with h1 | ⟨h1, _, _⟩
              · cases hlj : listed.getD j false with
                | true => have := hanc' j oj hj hlj i h1; rw [hun] at this; cases this
                | false => simp; omega
              · exact absurd ht ((Oper.apart_spec h1).2.2 t hd)
          · have hn : ∀ (j : Nat) (oj : Oper), ops[j]? = some oj → oj.dst ≠ some t := fun j oj hj hd => hx ⟨j, oj, hj, hd⟩
            rw [(hE.2 t htl).2 (fun j oj hj hd => absurd hd (hn j oj hj)), (hEi.2 t htl).2 (fun j oj hj hd => absurd hd (hn j oj hj))]
        · rw [List.getElem?_eq_none (Nat.le_of_not_lt (by rw [hE.1]; exact htl)), List.getElem?_eq_none (Nat.le_of_not_lt (by rw [hEi.1]; exact htl))]
      have hwant : wantA ops e1 o = wantA ops (En i) o := wantA_congr fun g wn d hg hd => slot d (by
        unfold Oper.looksAt
        rw [hg]
        exact List.mem_append_right _ (by simp [hd]))
      have hopc : ∀ K : Heap, opA P (O i) e1 K o = opA P (O i) (En i) K o := fun K => opA_congr K o (fun cs b => Region.noSelect_spec hsel i o cs b ho) fun x hx => by
        cases x with
        | tmp t =>
          have := slot t (List.mem_append_left _ (List.mem_filterMap.2 ⟨.tmp t, by simpa using hx, rfl⟩))
          simp only [evA, this]
        | _ => rfl
      obtain ⟨t1, t2, t3, t4, t5⟩ := T.step i o (Nat.zero_le _) his ho
      have tl : ∀ (k : Nat) (ok : Oper), k < ops.size → ops[k]? = some ok → heavy ok = false → Hp (k + 1) = Hp k := fun k ok hk hok => (T.step k ok (Nat.zero_le _) hk hok).2.2.2.2
      have tu : ∀ (k : Nat) (ok : Oper), k < ops.size → ops[k]? = some ok → W k = false → Hp (k + 1) = Hp k := fun k ok hk hok hw => ((T.step k ok (Nat.zero_le _) hk hok).2.2.1 hw).2
      -- a heavy one comes up where the text stands
      have hcut_i : heavy o = true → c = i := fun hh => by
        have h1 : ¬ i < c := fun h => by have := (hcut i o ho hh).2 h; rw [hun] at this; cases this
        rcases Nat.lt_or_ge c i with h | h
        · obtain ⟨oc, hoc, hhc⟩ := hch (by omega)
          rcases (static_spec hS h hoc ho).2 with h2 | ⟨_, h2, _⟩
          · have := (hcut c oc hoc hhc).1 (hanc c h2); omega
          · exact absurd ⟨hhc, hh⟩ h2
        · omega
      -- the state behind it
      have next : ∀ (v : Value) (w' : World) (Hx : Heap) (μ' : Mem), (heavy o = false → Hx = Hp c) → (heavy o = true → Hx = Hp (i + 1)) → VR Hx μ' (V i) v → HR Hx μ' w' → Adv (Hp c) μ1 w Hx μ' w' →
          wpAny P .any ops (Conc Q H0 μ0 w0) fuel (listed.setIfInBounds i true) (a.put o.dst v) w' := by
        intro v w' Hx μ' hx1 hx2 hv hr' ha'
        have hL : ∀ j, (listed.setIfInBounds i true).getD j false = if j = i then true else listed.getD j false := fun j => by
          by_cases hj : j = i
          · subst hj; simp [hls, his]
          · simp only [hj, if_false]; exact getD_set_ne false (Ne.symm hj)
        have hc' : ∃ c', c' ≤ ops.size ∧ (∀ (j : Nat) (oj : Oper), ops[j]? = some oj → heavy oj = true → ((listed.setIfInBounds i true).getD j false = true ↔ j < c')) ∧ (c' < ops.size → ∃ o, ops[c']? = some o ∧ heavy o = true) ∧ Hp c' = Hx := by
          cases hh : heavy o with
          | false =>
            refine ⟨c, hc, fun j oj hj hhj => ?_, hch, (hx1 hh).symm⟩
            have : j ≠ i := fun e => by subst e; rw [ho] at hj; cases hj; rw [hh] at hhj; cases hhj
            rw [hL]; simp only [this, if_false]
            exact hcut j oj hj hhj
          | true =>
            have hci := hcut_i hh
            obtain ⟨c', k1, k2, k3, k4, k5⟩ := next_cut tl _ (i + 1) rfl his
            refine ⟨c', k2, fun j oj hj hhj => ?_, k4, k5.trans (hx2 hh).symm⟩
            rw [hL]
            by_cases hji : j = i
            · subst hji; simp; omega
            · simp only [hji, if_false]
              rw [hcut j oj hj hhj]
              constructor
              · intro h; omega
              · intro h
                rcases Nat.lt_or_ge j (i + 1) with h2 | h2
                · omega
                · have := k3 j oj h2 h hj; rw [hhj] at this; cases this
        obtain ⟨c', k1, k2, k3, k4⟩ := hc'
        refine ih (listed.setIfInBounds i true) (a.put o.dst v) w' (putA e1 o.dst (V i)) c' μ' (by simpa using hls) (fun j oj hj hl k hk => ?_) ?_ k1 k2 k3 ?_ (k4 ▸ hr') (k4 ▸ ha1.trans ha') ?_
        · rw [hL] at hl ⊢
          by_cases hki : k = i
          · simp [hki]
          · simp only [hki, if_false]
            by_cases hji : j = i
            · subst hji; rw [ho] at hj; cases hj; exact hdir k hk
            · simp only [hji, if_false] at hl; exact hcl j oj hj hl k hk
        · exact (hE.put ho fun j oj hj hne d hd => hdist i j o oj ho hj hne d hd).congr fun j _ => (hL j).symm
        · rw [k4]; exact (he1.adv ha').put o.dst hv
        · have := filter_lt (p := fun j => !listed.getD j false) (q := fun j => !(listed.setIfInBounds i true).getD j false) (fun x hx => by
            rw [hL] at hx
            split at hx
            · simp at hx
            · exact hx) (i := i) (by rw [hun]; rfl) (by rw [hL]; simp) (List.range ops.size) (by simpa using his)
          omega
      unfold wpOp
      rw [ho]
      simp only
      cases hw : W i with
      | false =>
        rw [if_neg (by rw [want_ok he1 (hwant.trans t1), hw]; simp)]
        obtain ⟨v1, v2⟩ := t3 hw
        refine next undef w (Hp c) μ1 (fun _ => rfl) (fun hh => by rw [hcut_i hh, v2]) (by rw [v1]; exact .undef) hr1 (Adv.refl _ _ _)
      | true =>
        rw [if_pos (by rw [want_ok he1 (hwant.trans t1), hw])]
        refine .inl ?_
        cases hh : heavy o with
        | true =>
          have hci := hcut_i hh
          subst hci
          exact opA_ok (hO c) (by rw [hopc]; exact t2 hw) hr1 he1 fun v w' μ' hv hr' ha' => next v w' _ μ' (fun h => by rw [hh] at h; cases h) (fun _ => rfl) hv hr' ha'
        | false =>
          have hop : opA P (O i) (En i) (Hp c) o = some (V i, Hp c) := by
            rcases Nat.lt_or_ge i c with h | h
            · rcases last_heavy tl tu i (fun o' ho' => by rw [ho] at ho'; cases ho'; exact hh) c h hc with ⟨j, oj, j1, j2, j3, j4, j5, j6⟩ | h1
              · rw [j6]
                have hlj := (hcut j oj j3 j4).2 j2
                rcases (static_spec hS j1 ho j3).2 with h2 | ⟨_, _, h2⟩
                · have := hanc' j oj j3 hlj i h2; rw [hun] at this; cases this
                · exact T.s4 i j o oj (Nat.zero_le _) j1 (by omega) ho j3 hh j4 hw j5 (h2 (.inr j4))
              · rw [h1]
                have := t2 hw
                rw [t5 hh] at this
                exact this
            · obtain ⟨oc, hoc, hhc⟩ := hch (by omega)
              have hne : c ≠ i := fun e => by subst e; rw [ho] at hoc; cases hoc; rw [hh] at hhc; cases hhc
              rcases (static_spec hS (show c < i by omega) hoc ho).2 with h2 | ⟨_, _, h2⟩
              · have := (hcut c oc hoc hhc).1 (hanc c h2); omega
              · exact T.s3 c i oc o (Nat.zero_le _) (by omega) his hoc ho hhc hh hw (h2 (.inl hhc))
          exact opA_ok (hO i) (by rw [hopc]; exact hop) hr1 he1 fun v w' μ' hv hr' ha' => next v w' _ μ' (fun _ => rfl) (fun h => by rw [hh] at h; cases h) hv hr' ha'
  -- the beginning
  refine wp_region_any hm ?_
  obtain ⟨c, k1, k2, k3, k4, k5⟩ := next_cut (ops := ops) (Hp := Hp) (fun k ok hk hok => (T.step k ok (Nat.zero_le _) hk hok).2.2.2.2) _ 0 rfl (Nat.zero_le _)
  have hget : ∀ j, (Array.replicate ops.size false).getD j false = false := fun j => by
    by_cases h : j < ops.size <;> simp [Array.getElem?_replicate, h]
  have hE0 : EnvIs ops V e (fun j => (Array.replicate ops.size false).getD j false) e := ⟨rfl, fun t _ => ⟨fun i o _ _ hl => (by simp only [hget] at hl; exact absurd hl (by simp)), fun _ => rfl⟩⟩
  obtain ⟨hr', ha'⟩ := hr.same (w' := { w with drawn := w.drawn + 1 }) rfl rfl rfl rfl
  refine main ops.size (Array.replicate ops.size false) a _ e c μ (by simp) (fun j o _ hl => by rw [hget] at hl; cases hl) hE0 k2
    (fun j o hj hh => ?_) k4 (by rw [k5, eH]; exact he) (by rw [k5, eH]; exact hr') (by rw [k5, eH]; exact ha.trans ha') ?_
  · rw [hget]
    constructor
    · intro h; cases h
    · intro h; have := k3 j o (Nat.zero_le _) h hj; rw [hh] at this; cases this
  · refine Nat.le_trans (List.length_filter_le _ _) (by simp)

end
end Go.Proofs.Ytjniaobboclniab.AM
