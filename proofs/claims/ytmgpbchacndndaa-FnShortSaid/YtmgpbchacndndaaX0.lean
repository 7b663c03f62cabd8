import Derived.Test.YtmgpbchacndndaaBase
set_option maxRecDepth 100000
set_option maxHeartbeats 4000000
set_option linter.unusedSimpArgs false
set_option linter.unusedVariables false
namespace Go.Proofs.Ytmgpbchacndndaa.AM
open Go.Proofs
abbrev Z : DV := DV.top
noncomputable def Aaf_ (v3 v4 : List Int) : LOr := fun id e L =>
  match id with
  | _ => .fail
noncomputable def Nr_ : List (FuncId × DFn × Bool) := []
theorem Adi_ : OrcOk Try.prog (tabD Nr_) (tabM Nr_) := Ai_ _
noncomputable def Q3_ (v3 v4 : List Int) : Tree (Bool) :=
  (.br (decide ((48 : Int) < ((v3.length : Nat) : Int))) (
  .leaf true
  ) (
  .leaf (decide ((48 : Int) < ((v4.length : Nat) : Int)))
  ))
noncomputable def Tp_ (v3 v4 : List Int) : Option (Bool) := (Q3_ v3 v4).run
def Gk_ (v3 v4 : List Int) (y : Bool) : Rs := (.bool y, [])
theorem Add_ (v3 v4 : List Int) : (den TT (tabD Nr_) (tabM Nr_) (Aaf_ v3 v4) (Ah_ Try.f5) ([.bslc (BR.root 0) (.u8 v3), .bslc (BR.root 1) (.u8 v4)] ++ List.replicate (Try.f5.ntmps - ([.bslc (BR.root 0) (.u8 v3), .bslc (BR.root 1) (.u8 v4)] : List DV).length) .undef) []).bind (retD TT Try.f5.results.toList 0) = (Q3_ v3 v4).bind fun y => .leaf (Gk_ v3 v4 y) := by kernel_rfl
theorem Amz_ (v3 v4 : List Int) (F : Fr) (h0 : St F [] F.H0) (hA : DVs.Ok F [] [.bslc (BR.root 0) (.u8 v3), .bslc (BR.root 1) (.u8 v4)]) {y : Bool} (hy : Tp_ v3 v4 = some y) : ∃ F' H', Fwd 0 F F' [] (Gk_ v3 v4 y).2 ∧ FnOk Try.prog 5 (DVs.av F [.bslc (BR.root 0) (.u8 v3), .bslc (BR.root 1) (.u8 v4)]) F.H0 ((Gk_ v3 v4 y).1.av F') H' ∧ St F' (Gk_ v3 v4 y).2 H' ∧ (Gk_ v3 v4 y).1.Ok F' (Gk_ v3 v4 y).2 :=
  Aj_ tok Adi_ mixed Try.func5 Try.call5 (by kernel_rfl) (Ad_ (l := []) (by kernel_rfl) trivial) (Add_ v3 v4) hy h0 hA
def Dn_ (v3 v4 : List Int) : Bool :=
  if (decide ((48 : Int) < ((v3.length : Nat) : Int))) = true then (
  true
  ) else (
  decide ((48 : Int) < ((v4.length : Nat) : Int))
  )
theorem Ajl_ (v3 v4 : List Int) : Tp_ v3 v4 = some (Dn_ v3 v4) := by
  unfold Tp_ Q3_ Dn_
  simp only [Tree.run]
  repeat' (first | rfl | split)
noncomputable def Oj_ : DFn := fun args L =>
  match args with
  | [a1, a2] =>
    optT (rowU8 L a1) fun v3 =>
    optT (rowU8 L a2) fun v4 =>
    .leaf (.bool (Dn_ v3 v4), L)
  | _ => .fail
theorem Akq_ : COk Try.prog 5 Oj_ true := by
  intro F L H args r L' hs ha hr
  unfold Oj_ at hr
  split at hr
  · rename_i a1 a2
    obtain ⟨v3, hv3, hr⟩ := Aa_ hr
    obtain ⟨v4, hv4, hr⟩ := Aa_ hr
    have hy := Ajl_ v3 v4
    generalize Dn_ v3 v4 = y at hy hr
    simp only [Tree.run, Option.some.injEq, Prod.mk.injEq] at hr
    obtain ⟨rfl, rfl⟩ := hr
    exact Aw_ hs (fun k => (([a1.av F, a2.av F] : List AV)[k]?).getD .top) [a1, a2] [.bslc (BR.root 0) (.u8 v3), .bslc (BR.root 1) (.u8 v4)] (fun F' h0 hi hρ => ⟨by simp [DVs.av, DV.av, BR.av, hρ], Amz_ v3 v4 F' (Ak_ hi) ⟨Ag_ hi (by rw [h0, hρ]; exact Kk_ hs (DVs.okAt ha 0 rfl) hv3), Ag_ hi (by rw [h0, hρ]; exact Kk_ hs (DVs.okAt ha 1 rfl) hv4), trivial⟩ hy⟩) rfl
  · cases hr
noncomputable def Ap7_ (v5 : List Int) (v6 v7 : Int) : LOr := fun id e L =>
  match id with
  | _ => .fail
noncomputable def Lv_ : List (FuncId × DFn × Bool) := []
theorem Aem_ : OrcOk Try.prog (tabD Lv_) (tabM Lv_) := Ai_ _
noncomputable def Mw_ (v5 : List Int) (v6 v7 : Int) : Tree (Int) :=
  (.br (decide (v7 ≤ (1 : Int))) (
  .leaf (0 : Int)
  ) (
  (.br (decide (((v5.length : Nat) : Int) ≤ v6)) (
  .leaf (0 : Int)
  ) (
  (.grd (inb v6 v5.length) <|
  (.grd (!decide (v7 = 0)) <|
  .leaf (Int.tmod (IntKind.i64.wrap (nth v5 (Int.toNat v6))) v7)))
  ))
  ))
noncomputable def Ea_ (v5 : List Int) (v6 v7 : Int) : Option (Int) := (Mw_ v5 v6 v7).run
def I2_ (v5 : List Int) (v6 v7 y : Int) : Rs := (.int .i64 y, [])
theorem Aou_ (v5 : List Int) (v6 v7 : Int) : (den TT (tabD Lv_) (tabM Lv_) (Ap7_ v5 v6 v7) (Ah_ Try.f6) ([.bslc (BR.root 0) (.u8 v5), .int .i64 v6, .int .i64 v7] ++ List.replicate (Try.f6.ntmps - ([.bslc (BR.root 0) (.u8 v5), .int .i64 v6, .int .i64 v7] : List DV).length) .undef) []).bind (retD TT Try.f6.results.toList 0) = (Mw_ v5 v6 v7).bind fun y => .leaf (I2_ v5 v6 v7 y) := by kernel_rfl
theorem Ac5_ (v5 : List Int) (v6 v7 : Int) (F : Fr) (h0 : St F [] F.H0) (hA : DVs.Ok F [] [.bslc (BR.root 0) (.u8 v5), .int .i64 v6, .int .i64 v7]) {y : Int} (hy : Ea_ v5 v6 v7 = some y) : ∃ F' H', Fwd 0 F F' [] (I2_ v5 v6 v7 y).2 ∧ FnOk Try.prog 6 (DVs.av F [.bslc (BR.root 0) (.u8 v5), .int .i64 v6, .int .i64 v7]) F.H0 ((I2_ v5 v6 v7 y).1.av F') H' ∧ St F' (I2_ v5 v6 v7 y).2 H' ∧ (I2_ v5 v6 v7 y).1.Ok F' (I2_ v5 v6 v7 y).2 :=
  Aj_ tok Aem_ mixed Try.func6 Try.call6 (by kernel_rfl) (Ad_ (l := []) (by kernel_rfl) trivial) (Aou_ v5 v6 v7) hy h0 hA
noncomputable def Rc_ : DFn := fun args L =>
  match args with
  | [a1, .int .i64 v6, .int .i64 v7] =>
    optT (rowU8 L a1) fun v5 =>
    .call (Ea_ v5 v6 v7) fun y => .leaf (.int .i64 y, L)
  | _ => .fail
theorem Ac6_ : COk Try.prog 6 Rc_ true := by
  intro F L H args r L' hs ha hr
  unfold Rc_ at hr
  split at hr
  · rename_i a1 v6 v7
    obtain ⟨v5, hv5, hr⟩ := Aa_ hr
    simp only [Tree.run] at hr
    obtain ⟨y, hy, hr⟩ := Option.bind_eq_some_iff.1 hr
    simp only [Tree.run, Option.some.injEq, Prod.mk.injEq] at hr
    obtain ⟨rfl, rfl⟩ := hr
    exact Aw_ hs (fun k => (([a1.av F] : List AV)[k]?).getD .top) [a1, .int .i64 v6, .int .i64 v7] [.bslc (BR.root 0) (.u8 v5), .int .i64 v6, .int .i64 v7] (fun F' h0 hi hρ => ⟨by simp [DVs.av, DV.av, BR.av, hρ], Ac5_ v5 v6 v7 F' (Ak_ hi) ⟨Ag_ hi (by rw [h0, hρ]; exact Kk_ hs (DVs.okAt ha 0 rfl) hv5), trivial, trivial, trivial⟩ hy⟩) rfl
  · cases hr
noncomputable def Aki_ (v12 : List Int) : LOr := fun id e L =>
  match id with
  | _ => .fail
noncomputable def Np_ : List (FuncId × DFn × Bool) := []
theorem Ani_ : OrcOk Try.prog (tabD Np_) (tabM Np_) := Ai_ _
noncomputable def Sh_ : Tree (Unit) :=
  .leaf ()
noncomputable def Sd_ : Option (Unit) := (Sh_).run
def Ht_ (v12 : List Int) (y : Unit) : Rs := (.ptr 0 (0 : Nat) 0 (3 : Nat), [.gen [.bslc (BR.root 0) (.u8 v12), .int .i64 (0 : Int), .int .u64 (0 : Int)] false 0])
theorem Ajx_ (v12 : List Int) : (den TT (tabD Np_) (tabM Np_) (Aki_ v12) (Ah_ Try.f18) ([.bslc (BR.root 0) (.u8 v12)] ++ List.replicate (Try.f18.ntmps - ([.bslc (BR.root 0) (.u8 v12)] : List DV).length) .undef) []).bind (retD TT Try.f18.results.toList 0) = (Sh_).bind fun y => .leaf (Ht_ v12 y) := by kernel_rfl
theorem Ao5_ (v12 : List Int) (F : Fr) (h0 : St F [] F.H0) (hA : DVs.Ok F [] [.bslc (BR.root 0) (.u8 v12)]) {y : Unit} (hy : Sd_ = some y) : ∃ F' H', Fwd 0 F F' [] (Ht_ v12 y).2 ∧ FnOk Try.prog 18 (DVs.av F [.bslc (BR.root 0) (.u8 v12)]) F.H0 ((Ht_ v12 y).1.av F') H' ∧ St F' (Ht_ v12 y).2 H' ∧ (Ht_ v12 y).1.Ok F' (Ht_ v12 y).2 :=
  Aj_ tok Ani_ mixed Try.func18 Try.call18 (by kernel_rfl) (Ad_ (l := []) (by kernel_rfl) trivial) (Ajx_ v12) hy h0 hA
def Oc_ : Unit :=
  ()
theorem Ajq_ : Sd_ = some (Oc_) := by
  unfold Sd_ Sh_ Oc_
  simp only [Tree.run]
  repeat' (first | rfl | split)
noncomputable def Qk_ : DFn := fun args L =>
  match args with
  | [a1] =>
    optT (rowU8 L a1) fun v12 =>
    .leaf (.ptr (L.length + 0) (0 : Nat) 0 (3 : Nat), L ++ [.gen [a1, .int .i64 (0 : Int), .int .u64 (0 : Int)] false 0])
  | _ => .fail
theorem Aoc_ : COk Try.prog 18 Qk_ true := by
  intro F L H args r L' hs ha hr
  unfold Qk_ at hr
  split at hr
  · rename_i a1
    obtain ⟨v12, hv12, hr⟩ := Aa_ hr
    have hy := Ajq_
    generalize Oc_ = y at hy hr
    simp only [Tree.run, Option.some.injEq, Prod.mk.injEq] at hr
    obtain ⟨rfl, rfl⟩ := hr
    exact Aid_ hs (fun _ => .top) [a1] ⟨(DVs.okAt ha 0 rfl), trivial⟩ [a1] [.bslc (BR.root 0) (.u8 v12)] [.gen [.bslc (BR.root 0) (.u8 v12), .int .i64 (0 : Int), .int .u64 (0 : Int)] false 0] _ (fun F' h0 hi hρ => ⟨by simp [DVs.av, DV.av, BR.av, hρ], Ao5_ v12 F' (Ak_ hi) ⟨Ag_ hi (by rw [h0, hρ]; exact Kk_ hs (DVs.okAt ha 0 rfl) hv12), trivial⟩ hy⟩) rfl rfl
  · cases hr
noncomputable def Ago_ (v26 : List Int) (v27 v28 : Int) : LOr := fun id e L =>
  match id with
  | _ => .fail
noncomputable def Mx_ : List (FuncId × DFn × Bool) := []
theorem Aey_ : OrcOk Try.prog (tabD Mx_) (tabM Mx_) := Ai_ _
noncomputable def Ms_ (v26 : List Int) (v27 v28 : Int) : Tree (Int × Int × Int) :=
  (.br (decide (v27 < ((v26.length : Nat) : Int))) (
  (.grd (inb v27 v26.length) <|
  (.br (decide (IntKind.i64.wrap (v27 + (1 : Int)) ≤ ((v26.length : Nat) : Int))) (
  .leaf (IntKind.i64.wrap (nth v26 (Int.toNat v27)), IntKind.i64.wrap (v27 + (1 : Int)), IntKind.u64.wrap ((IntKind.u64.wrap ((IntKind.u64.wrap (v28 * (6364136223846793005 : Int))) + (IntKind.u64.wrap (IntKind.i64.wrap (nth v26 (Int.toNat v27)))))) + (1442695040888963407 : Int)))
  ) (
  (.grd (decide (0 ≤ (40 : Int))) <|
  .leaf (IntKind.i64.wrap (iand .u64 (ishr .u64 (IntKind.u64.wrap ((IntKind.u64.wrap ((IntKind.u64.wrap (v28 * (6364136223846793005 : Int))) + (IntKind.u64.wrap (IntKind.i64.wrap (nth v26 (Int.toNat v27)))))) + (1442695040888963407 : Int))) (40 : Int)) (255 : Int)), IntKind.i64.wrap (v27 + (1 : Int)), IntKind.u64.wrap ((IntKind.u64.wrap ((IntKind.u64.wrap (v28 * (6364136223846793005 : Int))) + (IntKind.u64.wrap (IntKind.i64.wrap (nth v26 (Int.toNat v27)))))) + (1442695040888963407 : Int))))
  )))
  ) (
  (.br (decide (IntKind.i64.wrap (v27 + (1 : Int)) ≤ ((v26.length : Nat) : Int))) (
  .leaf ((0 : Int), IntKind.i64.wrap (v27 + (1 : Int)), IntKind.u64.wrap ((IntKind.u64.wrap ((IntKind.u64.wrap (v28 * (6364136223846793005 : Int))) + (IntKind.u64.wrap ((0 : Int))))) + (1442695040888963407 : Int)))
  ) (
  (.grd (decide (0 ≤ (40 : Int))) <|
  .leaf (IntKind.i64.wrap (iand .u64 (ishr .u64 (IntKind.u64.wrap ((IntKind.u64.wrap ((IntKind.u64.wrap (v28 * (6364136223846793005 : Int))) + (IntKind.u64.wrap ((0 : Int))))) + (1442695040888963407 : Int))) (40 : Int)) (255 : Int)), IntKind.i64.wrap (v27 + (1 : Int)), IntKind.u64.wrap ((IntKind.u64.wrap ((IntKind.u64.wrap (v28 * (6364136223846793005 : Int))) + (IntKind.u64.wrap ((0 : Int))))) + (1442695040888963407 : Int))))
  ))
  ))
noncomputable def D6_ (v26 : List Int) (v27 v28 : Int) : Option (Int × Int × Int) := (Ms_ v26 v27 v28).run
def Ft_ (v26 : List Int) (v27 v28 : Int) (y : Int × Int × Int) : Rs := (.int .i64 y.1, [.gen [.bslc (BR.root 1) (.u8 v26), .int .i64 y.2.1, .int .u64 y.2.2] false 0])
theorem Ace_ (v26 : List Int) (v27 v28 : Int) : (den TT (tabD Mx_) (tabM Mx_) (Ago_ v26 v27 v28) (Ah_ Try.f59) ([.ptr 0 (0 : Nat) 0 (3 : Nat)] ++ List.replicate (Try.f59.ntmps - ([.ptr 0 (0 : Nat) 0 (3 : Nat)] : List DV).length) .undef) [.gen [.bslc (BR.root 1) (.u8 v26), .int .i64 v27, .int .u64 v28] false 0]).bind (retD TT Try.f59.results.toList 1) = (Ms_ v26 v27 v28).bind fun y => .leaf (Ft_ v26 v27 v28 y) := by kernel_rfl
theorem Adm_ (v26 : List Int) (v27 v28 : Int) (F : Fr) (h0 : St F [.gen [.bslc (BR.root 1) (.u8 v26), .int .i64 v27, .int .u64 v28] false 0] F.H0) (hA : DVs.Ok F [.gen [.bslc (BR.root 1) (.u8 v26), .int .i64 v27, .int .u64 v28] false 0] [.ptr 0 (0 : Nat) 0 (3 : Nat)]) {y : Int × Int × Int} (hy : D6_ v26 v27 v28 = some y) : ∃ F' H', Fwd 1 F F' [.gen [.bslc (BR.root 1) (.u8 v26), .int .i64 v27, .int .u64 v28] false 0] (Ft_ v26 v27 v28 y).2 ∧ FnOk Try.prog 59 (DVs.av F [.ptr 0 (0 : Nat) 0 (3 : Nat)]) F.H0 ((Ft_ v26 v27 v28 y).1.av F') H' ∧ St F' (Ft_ v26 v27 v28 y).2 H' ∧ (Ft_ v26 v27 v28 y).1.Ok F' (Ft_ v26 v27 v28 y).2 :=
  Aj_ tok Aey_ mixed Try.func59 Try.call59 (by kernel_rfl) (Ad_ (l := []) (by kernel_rfl) trivial) (Ace_ v26 v27 v28) hy h0 hA
noncomputable def Qf_ : DFn := fun args L =>
  match args with
  | [a1] =>
    optT (genOf L 3 false a1) fun qg0 =>
    (match qg0.2 with
    | [a2, .int .i64 v27, .int .u64 v28] =>
    optT (rowU8 L a2) fun v26 =>
    (match sepB [qg0.1] [a2] with
    | true =>
    .call (D6_ v26 v27 v28) fun y => .leaf (.int .i64 y.1, setB L [(qg0.1, .gen [a2, .int .i64 y.2.1, .int .u64 y.2.2] false (verAt L qg0.1))] ++ [])
    | false => .fail)
    | _ => .fail)
  | _ => .fail
theorem Aaa_ : COk Try.prog 59 Qf_ false := by
  intro F L H args r L' hs ha hr
  unfold Qf_ at hr
  split at hr
  · rename_i a1
    obtain ⟨⟨jg0, cg0⟩, hg0, hr⟩ := Aa_ hr
    simp only at hr
    split at hr
    · rename_i a2 v27 v28
      obtain ⟨hge0, hgu0, hga0, hgn0, hgc0, hgf0⟩ := Tk_ hs (DVs.okAt ha 0 rfl) hg0
      obtain ⟨v26, hv26, hr⟩ := Aa_ hr
      split at hr
      · rename_i hsep
        obtain ⟨hnd, hsepv⟩ := F0_ hsep
        simp only [Tree.run] at hr
        obtain ⟨y, hy, hr⟩ := Option.bind_eq_some_iff.1 hr
        try simp only [Tree.run] at hr
        simp only [Option.some.injEq, Prod.mk.injEq] at hr
        obtain ⟨rfl, rfl⟩ := hr
        exact Ka_ hs [a1, a2] ⟨(DVs.okAt ha 0 rfl), (DVs.okAt hgc0 0 rfl), trivial⟩ [a1] [.ptr 0 (0 : Nat) 0 (3 : Nat)] [jg0] [verAt L jg0] [.gen [.bslc (BR.root 1) (.u8 v26), .int .i64 v27, .int .u64 v28] false 0] [.gen [.bslc (BR.root 1) (.u8 v26), .int .i64 y.2.1, .int .u64 y.2.2] false 0] [.gen [a2, .int .i64 y.2.1, .int .u64 y.2.2] false (verAt L jg0)] [] hnd rfl rfl (fun j hj => by
            simp at hj
            subst hj; exact Rq_ hge0) (fun j hj => by
            simp at hj
            subst hj; exact Gj_ (by simp [DVs.refs, DV.refs, hgu0])) (fun F' h0 hρ ab hpl hS => by
            have ab0 := ab 0 _ rfl;
            refine ⟨fun i j b' h1 h2 => ?_, by simp [DBlk.blk, DVs.av, DV.av, BR.av, hρ, Row.len, hga0, ab0], fun hst => Adm_ v26 v27 v28 F' hst ⟨⟨_, rfl, Nat.le_refl _, by decide, Nat.le_refl _, fun _ => rfl⟩, trivial⟩ hy⟩
            rcases i with _ | i
            · simp at h1 h2; subst h1; subst h2; obtain ⟨ver_, hv_⟩ := hge0; exact ⟨_, hv_, .gen _ _ _ _ _ _, by simp [DBlk.blk, DVs.av, DV.av, BR.av, hρ, Row.len, hga0, ab0], ⟨⟨bslcM hS (by rw [hρ]; rfl) (hsepv a2 (by simp)) (DVs.okAt hgc0 0 rfl) (Oh_ hv26), trivial, trivial, trivial⟩, fun hf => by cases hf⟩⟩
            · simp at h1) rfl rfl (fun i j b b' h1 h2 h3 => by
            rcases i with _ | i
            · simp at h1; subst h1; cases h3; exact growG hge0 rfl h2
            · simp at h1)
      · cases hr
    · cases hr
  · cases hr
noncomputable def Ala_ (v29 : List Int) (v30 v31 v32 : Int) : LOr := fun id e L =>
  match id with
  | _ => .fail
noncomputable def Nm_ : List (FuncId × DFn × Bool) := [(59, Qf_, false)]
theorem Ah5_ : OrcOk Try.prog (tabD Nm_) (tabM Nm_) := Ae_ Aaa_ (Ai_ _)
noncomputable def M8_ (v29 : List Int) (v30 v31 v32 : Int) : Tree (Int × Int × Int) :=
  (.br (decide (v32 ≤ (1 : Int))) (
  .leaf ((0 : Int), v30, v31)
  ) (
  (.call (D6_ v29 v30 v31) fun v33 =>
  (.br (decide ((200 : Int) < v32)) (
  (.call (D6_ v29 v33.2.1 v33.2.2) fun v34 =>
  (.grd (!decide (v32 = 0)) <|
  .leaf (Int.tmod (IntKind.i64.wrap ((IntKind.i64.wrap (v33.1 * (256 : Int))) + v34.1)) v32, v34.2.1, v34.2.2)))
  ) (
  (.grd (!decide (v32 = 0)) <|
  .leaf (Int.tmod v33.1 v32, v33.2.1, v33.2.2))
  )))
  ))
noncomputable def Fw_ (v29 : List Int) (v30 v31 v32 : Int) : Option (Int × Int × Int) := (M8_ v29 v30 v31 v32).run
def Is_ (v29 : List Int) (v30 v31 v32 : Int) (y : Int × Int × Int) : Rs := (.int .i64 y.1, [.gen [.bslc (BR.root 1) (.u8 v29), .int .i64 y.2.1, .int .u64 y.2.2] false 0])
theorem Adh_ (v29 : List Int) (v30 v31 v32 : Int) : (den TT (tabD Nm_) (tabM Nm_) (Ala_ v29 v30 v31 v32) (Ah_ Try.f49) ([.ptr 0 (0 : Nat) 0 (3 : Nat), .int .i64 v32] ++ List.replicate (Try.f49.ntmps - ([.ptr 0 (0 : Nat) 0 (3 : Nat), .int .i64 v32] : List DV).length) .undef) [.gen [.bslc (BR.root 1) (.u8 v29), .int .i64 v30, .int .u64 v31] false 0]).bind (retD TT Try.f49.results.toList 1) = (M8_ v29 v30 v31 v32).bind fun y => .leaf (Is_ v29 v30 v31 v32 y) := by kernel_rfl
theorem Ahx_ (v29 : List Int) (v30 v31 v32 : Int) (F : Fr) (h0 : St F [.gen [.bslc (BR.root 1) (.u8 v29), .int .i64 v30, .int .u64 v31] false 0] F.H0) (hA : DVs.Ok F [.gen [.bslc (BR.root 1) (.u8 v29), .int .i64 v30, .int .u64 v31] false 0] [.ptr 0 (0 : Nat) 0 (3 : Nat), .int .i64 v32]) {y : Int × Int × Int} (hy : Fw_ v29 v30 v31 v32 = some y) : ∃ F' H', Fwd 1 F F' [.gen [.bslc (BR.root 1) (.u8 v29), .int .i64 v30, .int .u64 v31] false 0] (Is_ v29 v30 v31 v32 y).2 ∧ FnOk Try.prog 49 (DVs.av F [.ptr 0 (0 : Nat) 0 (3 : Nat), .int .i64 v32]) F.H0 ((Is_ v29 v30 v31 v32 y).1.av F') H' ∧ St F' (Is_ v29 v30 v31 v32 y).2 H' ∧ (Is_ v29 v30 v31 v32 y).1.Ok F' (Is_ v29 v30 v31 v32 y).2 :=
  Aj_ tok Ah5_ mixed Try.func49 Try.call49 (by kernel_rfl) (Ad_ (l := []) (by kernel_rfl) trivial) (Adh_ v29 v30 v31 v32) hy h0 hA
noncomputable def Of_ : DFn := fun args L =>
  match args with
  | [a1, .int .i64 v32] =>
    optT (genOf L 3 false a1) fun qg0 =>
    (match qg0.2 with
    | [a2, .int .i64 v30, .int .u64 v31] =>
    optT (rowU8 L a2) fun v29 =>
    (match sepB [qg0.1] [a2] with
    | true =>
    .call (Fw_ v29 v30 v31 v32) fun y => .leaf (.int .i64 y.1, setB L [(qg0.1, .gen [a2, .int .i64 y.2.1, .int .u64 y.2.2] false (verAt L qg0.1))] ++ [])
    | false => .fail)
    | _ => .fail)
  | _ => .fail
theorem Aez_ : COk Try.prog 49 Of_ false := by
  intro F L H args r L' hs ha hr
  unfold Of_ at hr
  split at hr
  · rename_i a1 v32
    obtain ⟨⟨jg0, cg0⟩, hg0, hr⟩ := Aa_ hr
    simp only at hr
    split at hr
    · rename_i a2 v30 v31
      obtain ⟨hge0, hgu0, hga0, hgn0, hgc0, hgf0⟩ := Tk_ hs (DVs.okAt ha 0 rfl) hg0
      obtain ⟨v29, hv29, hr⟩ := Aa_ hr
      split at hr
      · rename_i hsep
        obtain ⟨hnd, hsepv⟩ := F0_ hsep
        simp only [Tree.run] at hr
        obtain ⟨y, hy, hr⟩ := Option.bind_eq_some_iff.1 hr
        try simp only [Tree.run] at hr
        simp only [Option.some.injEq, Prod.mk.injEq] at hr
        obtain ⟨rfl, rfl⟩ := hr
        exact Ka_ hs [a1, a2] ⟨(DVs.okAt ha 0 rfl), (DVs.okAt hgc0 0 rfl), trivial⟩ [a1, .int .i64 v32] [.ptr 0 (0 : Nat) 0 (3 : Nat), .int .i64 v32] [jg0] [verAt L jg0] [.gen [.bslc (BR.root 1) (.u8 v29), .int .i64 v30, .int .u64 v31] false 0] [.gen [.bslc (BR.root 1) (.u8 v29), .int .i64 y.2.1, .int .u64 y.2.2] false 0] [.gen [a2, .int .i64 y.2.1, .int .u64 y.2.2] false (verAt L jg0)] [] hnd rfl rfl (fun j hj => by
            simp at hj
            subst hj; exact Rq_ hge0) (fun j hj => by
            simp at hj
            subst hj; exact Gj_ (by simp [DVs.refs, DV.refs, hgu0])) (fun F' h0 hρ ab hpl hS => by
            have ab0 := ab 0 _ rfl;
            refine ⟨fun i j b' h1 h2 => ?_, by simp [DBlk.blk, DVs.av, DV.av, BR.av, hρ, Row.len, hga0, ab0], fun hst => Ahx_ v29 v30 v31 v32 F' hst ⟨⟨_, rfl, Nat.le_refl _, by decide, Nat.le_refl _, fun _ => rfl⟩, trivial, trivial⟩ hy⟩
            rcases i with _ | i
            · simp at h1 h2; subst h1; subst h2; obtain ⟨ver_, hv_⟩ := hge0; exact ⟨_, hv_, .gen _ _ _ _ _ _, by simp [DBlk.blk, DVs.av, DV.av, BR.av, hρ, Row.len, hga0, ab0], ⟨⟨bslcM hS (by rw [hρ]; rfl) (hsepv a2 (by simp)) (DVs.okAt hgc0 0 rfl) (Oh_ hv29), trivial, trivial, trivial⟩, fun hf => by cases hf⟩⟩
            · simp at h1) rfl rfl (fun i j b b' h1 h2 h3 => by
            rcases i with _ | i
            · simp at h1; subst h1; cases h3; exact growG hge0 rfl h2
            · simp at h1)
      · cases hr
    · cases hr
  · cases hr
noncomputable def Eq_ (v35 : List Int) (s : Int × Int × Int × (List Int)) : Tree ((Int × Int × Int × (List Int)) ⊕ (Int × Int × (List Int))) :=
  (.br (decide ((0 : Int) < s.1)) (
  (.call (Fw_ v35 s.2.1 s.2.2.1 (13 : Int)) fun v51 =>
  (.grd (fits (s.2.2.2 ++ ([IntKind.i64.wrap (v51.1 - (6 : Int))] : List Int)).length) <|
  .leaf (.inl (IntKind.i64.wrap (s.1 - (1 : Int)), v51.2.1, v51.2.2, s.2.2.2 ++ ([IntKind.i64.wrap (v51.1 - (6 : Int))] : List Int)))))
  ) (
  .leaf (.inr (s.2.1, s.2.2.1, s.2.2.2))
  ))
noncomputable def Su_ (v35 : List Int) (s0 : Int × Int × Int × (List Int)) : Option (Int × Int × (List Int)) := Af_ (fun s => (Eq_ v35 s).run) s0
def Gm_ (v35 : List Int) (v36 v37 v38 v39 : Int) (s : Int × Int × Int × (List Int)) : Sd := ([.ptr 0 (0 : Nat) 0 (3 : Nat),Z,Z,Z,Z,Z,.ptr 1 (0 : Nat) 0 (3 : Nat),.ptr 2 (0 : Nat) 0 (3 : Nat),.int .i64 s.1,Z,Z,Z,Z,Z,Z,Z,Z,Z,Z,Z,Z,Z,Z,Z,Z,Z,Z,Z,Z], [.gen [.bslc (BR.root 1) (.u8 v35), .int .i64 s.2.1, .int .u64 s.2.2.1] false 0, .gen [.int .i64 (0 : Int), .int .i64 (0 : Int), .nilslc] false 0, .gen [.int .i64 v38, .int .i64 v39, .own 3 0 ((s.2.2.2).length)] false 0, .row (.i64 s.2.2.2) 0])
def Sf_ (v35 : List Int) (v36 v37 v38 v39 : Int) (x : Int × Int × (List Int)) : Out := (.normal, [Z,Z,Z,Z,Z,Z,.ptr 1 (0 : Nat) 0 (3 : Nat),.ptr 2 (0 : Nat) 0 (3 : Nat),Z,Z,Z,Z,Z,Z,Z,Z,Z,Z,Z,Z,Z,Z,Z,Z,Z,Z,Z,Z,Z], [.gen [.bslc (BR.root 1) (.u8 v35), .int .i64 x.1, .int .u64 x.2.1] false 0, .gen [.int .i64 (0 : Int), .int .i64 (0 : Int), .nilslc] false 0, .gen [.int .i64 v38, .int .i64 v39, .own 3 0 ((x.2.2).length)] false 0, .row (.i64 x.2.2) 0])
def V4_ : List Nat := KL true [0,1,5,3,20]
def Aay_ : Exit → List Nat
  | .exit 0 => KL true [6,2,21]
  | .ret => KL true [6,1,22]
  | _ => []
noncomputable def Pk_ (v35 : List Int) (v36 v37 v38 v39 : Int) : LOr := fun id e L =>
  match id with
  | 0 => .need (normA 1 V4_ e L = some (Gm_ v35 v36 v37 v38 v39 ((gI (vAt e 8)), (gI (cAt L (vAt e 0) 1)), (gI (cAt L (vAt e 0) 2)), (gRI L (cAt L (vAt e 7) 2))))) (.call (Su_ v35 ((gI (vAt e 8)), (gI (cAt L (vAt e 0) 1)), (gI (cAt L (vAt e 0) 2)), (gRI L (cAt L (vAt e 7) 2)))) fun x => .leaf (Sf_ v35 v36 v37 v38 v39 x))
  | _ => .fail
noncomputable def F3_ : List (FuncId × DFn × Bool) := [(49, Of_, false)]
theorem Ud_ : OrcOk Try.prog (tabD F3_) (tabM F3_) := Ae_ Aez_ (Ai_ _)
theorem Af0_ (v35 : List Int) (v36 v37 v38 v39 : Int) (s : Int × Int × Int × (List Int)) : bodyT TT (tabD F3_) (tabM F3_) (Pk_ v35 v36 v37 v38 v39) 1 V4_ Aay_ (Ab_ Try.f19 0) 0 (Gm_ v35 v36 v37 v38 v39 s) = (Eq_ v35 s).bind fun y => .leaf (outS (Gm_ v35 v36 v37 v38 v39) (Sf_ v35 v36 v37 v38 v39) y) := by kernel_rfl
theorem Aln_ (v35 : List Int) (v36 v37 v38 v39 : Int) : At_ Try.prog 1 (Pk_ v35 v36 v37 v38 v39) 0 (Ab_ Try.f19 0) := by
  intro e L out h
  exact lo_ok (E := Gm_ v35 v36 v37 v38 v39) (gT := Eq_ v35) (X := Sf_ v35 v36 v37 v38 v39) (s0 := ((gI (vAt e 8)), (gI (cAt L (vAt e 0) 1)), (gI (cAt L (vAt e 0) 2)), (gRI L (cAt L (vAt e 7) 2)))) tok Ud_ mixed (Ad_ (l := []) (by kernel_rfl) trivial) (Af0_ v35 v36 v37 v38 v39) rfl (by intro x; rfl) h
noncomputable def Rs_ (v35 : List Int) (v36 v37 v38 v39 : Int) : Tree (Int × Int × Int × Int × (List Int)) :=
  (.need (some (Gm_ v35 v36 v37 v38 v39 (IntKind.i64.wrap (v38 * v39), v36, v37, ([] : List Int))) = some (Gm_ v35 v36 v37 v38 v39 (IntKind.i64.wrap (v38 * v39), v36, v37, ([] : List Int)))) <|
  (.call (Su_ v35 (IntKind.i64.wrap (v38 * v39), v36, v37, ([] : List Int))) fun v52 =>
  .leaf (v38, v39, v52.1, v52.2.1, v52.2.2)))
noncomputable def Nc_ (v35 : List Int) (v36 v37 v38 v39 : Int) : Option (Int × Int × Int × Int × (List Int)) := (Rs_ v35 v36 v37 v38 v39).run
def G5_ (v35 : List Int) (v36 v37 v38 v39 : Int) (y : Int × Int × Int × Int × (List Int)) : Rs := (.agg [.int .i64 y.1, .int .i64 y.2.1, .own 1 0 ((y.2.2.2.2).length)], [.gen [.bslc (BR.root 1) (.u8 v35), .int .i64 y.2.2.1, .int .u64 y.2.2.2.1] false 0, .row (.i64 y.2.2.2.2) 0])
theorem Z6_ (v35 : List Int) (v36 v37 v38 v39 : Int) : (den TT (tabD F3_) (tabM F3_) (Pk_ v35 v36 v37 v38 v39) (Ah_ Try.f19) ([.ptr 0 (0 : Nat) 0 (3 : Nat), .int .i64 v38, .int .i64 v39] ++ List.replicate (Try.f19.ntmps - ([.ptr 0 (0 : Nat) 0 (3 : Nat), .int .i64 v38, .int .i64 v39] : List DV).length) .undef) [.gen [.bslc (BR.root 1) (.u8 v35), .int .i64 v36, .int .u64 v37] false 0]).bind (retD TT Try.f19.results.toList 1) = (Rs_ v35 v36 v37 v38 v39).bind fun y => .leaf (G5_ v35 v36 v37 v38 v39 y) := by kernel_rfl
theorem Ae6_ (v35 : List Int) (v36 v37 v38 v39 : Int) (F : Fr) (h0 : St F [.gen [.bslc (BR.root 1) (.u8 v35), .int .i64 v36, .int .u64 v37] false 0] F.H0) (hA : DVs.Ok F [.gen [.bslc (BR.root 1) (.u8 v35), .int .i64 v36, .int .u64 v37] false 0] [.ptr 0 (0 : Nat) 0 (3 : Nat), .int .i64 v38, .int .i64 v39]) {y : Int × Int × Int × Int × (List Int)} (hy : Nc_ v35 v36 v37 v38 v39 = some y) : ∃ F' H', Fwd 1 F F' [.gen [.bslc (BR.root 1) (.u8 v35), .int .i64 v36, .int .u64 v37] false 0] (G5_ v35 v36 v37 v38 v39 y).2 ∧ FnOk Try.prog 19 (DVs.av F [.ptr 0 (0 : Nat) 0 (3 : Nat), .int .i64 v38, .int .i64 v39]) F.H0 ((G5_ v35 v36 v37 v38 v39 y).1.av F') H' ∧ St F' (G5_ v35 v36 v37 v38 v39 y).2 H' ∧ (G5_ v35 v36 v37 v38 v39 y).1.Ok F' (G5_ v35 v36 v37 v38 v39 y).2 :=
  Aj_ tok Ud_ mixed Try.func19 Try.call19 (by kernel_rfl) (Ad_ (l := [(0, Ab_ Try.f19 0)]) (by kernel_rfl) ⟨Aln_ v35 v36 v37 v38 v39, trivial⟩) (Z6_ v35 v36 v37 v38 v39) hy h0 hA
noncomputable def Tr_ : DFn := fun args L =>
  match args with
  | [a1, .int .i64 v38, .int .i64 v39] =>
    optT (genOf L 3 false a1) fun qg0 =>
    (match qg0.2 with
    | [a2, .int .i64 v36, .int .u64 v37] =>
    optT (rowU8 L a2) fun v35 =>
    (match sepB [qg0.1] [a2] with
    | true =>
    .call (Nc_ v35 v36 v37 v38 v39) fun y => .leaf (.agg [.int .i64 y.1, .int .i64 y.2.1, .own (L.length + 0) 0 ((y.2.2.2.2).length)], setB L [(qg0.1, .gen [a2, .int .i64 y.2.2.1, .int .u64 y.2.2.2.1] false (verAt L qg0.1))] ++ [.row (.i64 y.2.2.2.2) 0])
    | false => .fail)
    | _ => .fail)
  | _ => .fail
theorem Apc_ : COk Try.prog 19 Tr_ false := by
  intro F L H args r L' hs ha hr
  unfold Tr_ at hr
  split at hr
  · rename_i a1 v38 v39
    obtain ⟨⟨jg0, cg0⟩, hg0, hr⟩ := Aa_ hr
    simp only at hr
    split at hr
    · rename_i a2 v36 v37
      obtain ⟨hge0, hgu0, hga0, hgn0, hgc0, hgf0⟩ := Tk_ hs (DVs.okAt ha 0 rfl) hg0
      obtain ⟨v35, hv35, hr⟩ := Aa_ hr
      split at hr
      · rename_i hsep
        obtain ⟨hnd, hsepv⟩ := F0_ hsep
        simp only [Tree.run] at hr
        obtain ⟨y, hy, hr⟩ := Option.bind_eq_some_iff.1 hr
        try simp only [Tree.run] at hr
        simp only [Option.some.injEq, Prod.mk.injEq] at hr
        obtain ⟨rfl, rfl⟩ := hr
        exact Ka_ hs [a1, a2] ⟨(DVs.okAt ha 0 rfl), (DVs.okAt hgc0 0 rfl), trivial⟩ [a1, .int .i64 v38, .int .i64 v39] [.ptr 0 (0 : Nat) 0 (3 : Nat), .int .i64 v38, .int .i64 v39] [jg0] [verAt L jg0] [.gen [.bslc (BR.root 1) (.u8 v35), .int .i64 v36, .int .u64 v37] false 0] [.gen [.bslc (BR.root 1) (.u8 v35), .int .i64 y.2.2.1, .int .u64 y.2.2.2.1] false 0, .row (.i64 y.2.2.2.2) 0] [.gen [a2, .int .i64 y.2.2.1, .int .u64 y.2.2.2.1] false (verAt L jg0)] [.row (.i64 y.2.2.2.2) 0] hnd rfl rfl (fun j hj => by
            simp at hj
            subst hj; exact Rq_ hge0) (fun j hj => by
            simp at hj
            subst hj; exact Gj_ (by simp [DVs.refs, DV.refs, hgu0])) (fun F' h0 hρ ab hpl hS => by
            have ab0 := ab 0 _ rfl;
            refine ⟨fun i j b' h1 h2 => ?_, by simp [DBlk.blk, DVs.av, DV.av, BR.av, hρ, Row.len, hga0, ab0], fun hst => Ae6_ v35 v36 v37 v38 v39 F' hst ⟨⟨_, rfl, Nat.le_refl _, by decide, Nat.le_refl _, fun _ => rfl⟩, trivial, trivial, trivial⟩ hy⟩
            rcases i with _ | i
            · simp at h1 h2; subst h1; subst h2; obtain ⟨ver_, hv_⟩ := hge0; exact ⟨_, hv_, .gen _ _ _ _ _ _, by simp [DBlk.blk, DVs.av, DV.av, BR.av, hρ, Row.len, hga0, ab0], ⟨⟨bslcM hS (by rw [hρ]; rfl) (hsepv a2 (by simp)) (DVs.okAt hgc0 0 rfl) (Oh_ hv35), trivial, trivial, trivial⟩, fun hf => by cases hf⟩⟩
            · simp at h1) rfl rfl (fun i j b b' h1 h2 h3 => by
            rcases i with _ | i
            · simp at h1; subst h1; cases h3; exact growG hge0 rfl h2
            · simp at h1)
      · cases hr
    · cases hr
  · cases hr
noncomputable def Acn_ (v9 : List Int) (v10 v11 : Int) : LOr := fun id e L =>
  match id with
  | _ => .fail
noncomputable def L5_ : List (FuncId × DFn × Bool) := [(18, Qk_, true), (19, Tr_, false)]
theorem Aai_ : OrcOk Try.prog (tabD L5_) (tabM L5_) := Ae_ Aoc_ (Ae_ Apc_ (Ai_ _))
noncomputable def O6_ (v9 : List Int) (v10 v11 : Int) : Tree (Int × Int × (List Int)) :=
  (.call (Nc_ v9 (0 : Int) (0 : Int) v10 v11) fun v53 =>
  .leaf (v53.1, v53.2.1, v53.2.2.2.2))
noncomputable def Im_ (v9 : List Int) (v10 v11 : Int) : Option (Int × Int × (List Int)) := (O6_ v9 v10 v11).run
def Gf_ (v9 : List Int) (v10 v11 : Int) (y : Int × Int × (List Int)) : Rs := (.agg [.int .i64 y.1, .int .i64 y.2.1, .own 0 0 ((y.2.2).length)], [.row (.i64 y.2.2) 0])
theorem Aa7_ (v9 : List Int) (v10 v11 : Int) : (den TT (tabD L5_) (tabM L5_) (Acn_ v9 v10 v11) (Ah_ Try.f7) ([.bslc (BR.root 0) (.u8 v9), .int .i64 v10, .int .i64 v11] ++ List.replicate (Try.f7.ntmps - ([.bslc (BR.root 0) (.u8 v9), .int .i64 v10, .int .i64 v11] : List DV).length) .undef) []).bind (retD TT Try.f7.results.toList 0) = (O6_ v9 v10 v11).bind fun y => .leaf (Gf_ v9 v10 v11 y) := by kernel_rfl
theorem Aj6_ (v9 : List Int) (v10 v11 : Int) (F : Fr) (h0 : St F [] F.H0) (hA : DVs.Ok F [] [.bslc (BR.root 0) (.u8 v9), .int .i64 v10, .int .i64 v11]) {y : Int × Int × (List Int)} (hy : Im_ v9 v10 v11 = some y) : ∃ F' H', Fwd 0 F F' [] (Gf_ v9 v10 v11 y).2 ∧ FnOk Try.prog 7 (DVs.av F [.bslc (BR.root 0) (.u8 v9), .int .i64 v10, .int .i64 v11]) F.H0 ((Gf_ v9 v10 v11 y).1.av F') H' ∧ St F' (Gf_ v9 v10 v11 y).2 H' ∧ (Gf_ v9 v10 v11 y).1.Ok F' (Gf_ v9 v10 v11 y).2 :=
  Aj_ tok Aai_ mixed Try.func7 Try.call7 (by kernel_rfl) (Ad_ (l := []) (by kernel_rfl) trivial) (Aa7_ v9 v10 v11) hy h0 hA
noncomputable def N3_ : DFn := fun args L =>
  match args with
  | [a1, .int .i64 v10, .int .i64 v11] =>
    optT (rowU8 L a1) fun v9 =>
    .call (Im_ v9 v10 v11) fun y => .leaf (.agg [.int .i64 y.1, .int .i64 y.2.1, .own (L.length + 0) 0 ((y.2.2).length)], L ++ [.row (.i64 y.2.2) 0])
  | _ => .fail
theorem Akd_ : COk Try.prog 7 N3_ true := by
  intro F L H args r L' hs ha hr
  unfold N3_ at hr
  split at hr
  · rename_i a1 v10 v11
    obtain ⟨v9, hv9, hr⟩ := Aa_ hr
    simp only [Tree.run] at hr
    obtain ⟨y, hy, hr⟩ := Option.bind_eq_some_iff.1 hr
    simp only [Tree.run, Option.some.injEq, Prod.mk.injEq] at hr
    obtain ⟨rfl, rfl⟩ := hr
    exact Dc_ hs (fun k => (([a1.av F] : List AV)[k]?).getD .top) [a1, .int .i64 v10, .int .i64 v11] [.bslc (BR.root 0) (.u8 v9), .int .i64 v10, .int .i64 v11] (fun F' h0 hi hρ => ⟨by simp [DVs.av, DV.av, BR.av, hρ], Aj6_ v9 v10 v11 F' (Ak_ hi) ⟨Ag_ hi (by rw [h0, hρ]; exact Kk_ hs (DVs.okAt ha 0 rfl) hv9), trivial, trivial, trivial⟩ hy⟩) rfl rfl
  · cases hr
noncomputable def Aoe_ (v82 v83 v84 : Int) : LOr := fun id e L =>
  match id with
  | _ => .fail
noncomputable def K9_ : List (FuncId × DFn × Bool) := []
theorem Af4_ : OrcOk Try.prog (tabD K9_) (tabM K9_) := Ai_ _
noncomputable def O4_ (v82 v83 v84 : Int) : Tree (Bool) :=
  (.br (decide (v83 ≤ v82)) (
  .leaf (decide (v82 ≤ v84))
  ) (
  .leaf false
  ))
noncomputable def Sy_ (v82 v83 v84 : Int) : Option (Bool) := (O4_ v82 v83 v84).run
def Je_ (v82 v83 v84 : Int) (y : Bool) : Rs := (.bool y, [])
theorem Aqy_ (v82 v83 v84 : Int) : (den TT (tabD K9_) (tabM K9_) (Aoe_ v82 v83 v84) (Ah_ Try.f21) ([.int .i64 v82, .int .i64 v83, .int .i64 v84] ++ List.replicate (Try.f21.ntmps - ([.int .i64 v82, .int .i64 v83, .int .i64 v84] : List DV).length) .undef) []).bind (retD TT Try.f21.results.toList 0) = (O4_ v82 v83 v84).bind fun y => .leaf (Je_ v82 v83 v84 y) := by kernel_rfl
theorem Ag6_ (v82 v83 v84 : Int) (F : Fr) (h0 : St F [] F.H0) (hA : DVs.Ok F [] [.int .i64 v82, .int .i64 v83, .int .i64 v84]) {y : Bool} (hy : Sy_ v82 v83 v84 = some y) : ∃ F' H', Fwd 0 F F' [] (Je_ v82 v83 v84 y).2 ∧ FnOk Try.prog 21 (DVs.av F [.int .i64 v82, .int .i64 v83, .int .i64 v84]) F.H0 ((Je_ v82 v83 v84 y).1.av F') H' ∧ St F' (Je_ v82 v83 v84 y).2 H' ∧ (Je_ v82 v83 v84 y).1.Ok F' (Je_ v82 v83 v84 y).2 :=
  Aj_ tok Af4_ mixed Try.func21 Try.call21 (by kernel_rfl) (Ad_ (l := []) (by kernel_rfl) trivial) (Aqy_ v82 v83 v84) hy h0 hA
def Bn_ (v82 v83 v84 : Int) : Bool :=
  if (decide (v83 ≤ v82)) = true then (
  decide (v82 ≤ v84)
  ) else (
  false
  )
theorem Aok_ (v82 v83 v84 : Int) : Sy_ v82 v83 v84 = some (Bn_ v82 v83 v84) := by
  unfold Sy_ O4_ Bn_
  simp only [Tree.run]
  repeat' (first | rfl | split)
noncomputable def Iw_ : DFn := fun args L =>
  match args with
  | [.int .i64 v82, .int .i64 v83, .int .i64 v84] =>
    .leaf (.bool (Bn_ v82 v83 v84), L)
  | _ => .fail
theorem Ny_ : COk Try.prog 21 Iw_ true := by
  intro F L H args r L' hs ha hr
  unfold Iw_ at hr
  split at hr
  · rename_i v82 v83 v84
    have hy := Aok_ v82 v83 v84
    generalize Bn_ v82 v83 v84 = y at hy hr
    simp only [Tree.run, Option.some.injEq, Prod.mk.injEq] at hr
    obtain ⟨rfl, rfl⟩ := hr
    exact Aw_ hs (fun k => (([] : List AV)[k]?).getD .top) [.int .i64 v82, .int .i64 v83, .int .i64 v84] [.int .i64 v82, .int .i64 v83, .int .i64 v84] (fun F' h0 hi hρ => ⟨by simp [DVs.av, DV.av, BR.av, hρ], Ag6_ v82 v83 v84 F' (Ak_ hi) ⟨trivial, trivial, trivial, trivial⟩ hy⟩) rfl
  · cases hr
noncomputable def Afm_ (v85 : List Int) : LOr := fun id e L =>
  match id with
  | _ => .fail
noncomputable def Ni_ : List (FuncId × DFn × Bool) := []
theorem Acc_ : OrcOk Try.prog (tabD Ni_) (tabM Ni_) := Ai_ _
noncomputable def Oi_ (v85 : List Int) : Tree (Int) :=
  .leaf ((v85.length : Nat) : Int)
noncomputable def Sr_ (v85 : List Int) : Option (Int) := (Oi_ v85).run
def Gt_ (v85 : List Int) (y : Int) : Rs := (.int .i64 y, [])
theorem Afa_ (v85 : List Int) : (den TT (tabD Ni_) (tabM Ni_) (Afm_ v85) (Ah_ Try.f60) ([.bslc (BR.root 0) (.i64 v85)] ++ List.replicate (Try.f60.ntmps - ([.bslc (BR.root 0) (.i64 v85)] : List DV).length) .undef) []).bind (retD TT Try.f60.results.toList 0) = (Oi_ v85).bind fun y => .leaf (Gt_ v85 y) := by kernel_rfl
theorem Akx_ (v85 : List Int) (F : Fr) (h0 : St F [] F.H0) (hA : DVs.Ok F [] [.bslc (BR.root 0) (.i64 v85)]) {y : Int} (hy : Sr_ v85 = some y) : ∃ F' H', Fwd 0 F F' [] (Gt_ v85 y).2 ∧ FnOk Try.prog 60 (DVs.av F [.bslc (BR.root 0) (.i64 v85)]) F.H0 ((Gt_ v85 y).1.av F') H' ∧ St F' (Gt_ v85 y).2 H' ∧ (Gt_ v85 y).1.Ok F' (Gt_ v85 y).2 :=
  Aj_ tok Acc_ mixed Try.func60 Try.call60 (by kernel_rfl) (Ad_ (l := []) (by kernel_rfl) trivial) (Afa_ v85) hy h0 hA
def Gd_ (v85 : List Int) : Int :=
  ((v85.length : Nat) : Int)
theorem Zt_ (v85 : List Int) : Sr_ v85 = some (Gd_ v85) := by
  unfold Sr_ Oi_ Gd_
  simp only [Tree.run]
  repeat' (first | rfl | split)
noncomputable def Sj_ : DFn := fun args L =>
  match args with
  | [a1] =>
    optT (As_ L a1) fun v85 =>
    .leaf (.int .i64 (Gd_ v85), L)
  | _ => .fail
theorem Ao9_ : COk Try.prog 60 Sj_ true := by
  intro F L H args r L' hs ha hr
  unfold Sj_ at hr
  split at hr
  · rename_i a1
    obtain ⟨v85, hv85, hr⟩ := Aa_ hr
    have hy := Zt_ v85
    generalize Gd_ v85 = y at hy hr
    simp only [Tree.run, Option.some.injEq, Prod.mk.injEq] at hr
    obtain ⟨rfl, rfl⟩ := hr
    exact Aw_ hs (fun k => (([a1.av F] : List AV)[k]?).getD .top) [a1] [.bslc (BR.root 0) (.i64 v85)] (fun F' h0 hi hρ => ⟨by simp [DVs.av, DV.av, BR.av, hρ], Akx_ v85 F' (Ak_ hi) ⟨Ag_ hi (by rw [h0, hρ]; exact An_ hs (DVs.okAt ha 0 rfl) hv85), trivial⟩ hy⟩) rfl
  · cases hr
noncomputable def Aqb_ (v96 v97 v98 : Int) : LOr := fun id e L =>
  match id with
  | _ => .fail
noncomputable def Mm_ : List (FuncId × DFn × Bool) := [(21, Iw_, true)]
theorem Am9_ : OrcOk Try.prog (tabD Mm_) (tabM Mm_) := Ae_ Ny_ (Ai_ _)
noncomputable def N2_ (v96 v97 v98 : Int) : Tree (Bool) :=
  .leaf (!(Bn_ v96 v97 v98))
noncomputable def Ri_ (v96 v97 v98 : Int) : Option (Bool) := (N2_ v96 v97 v98).run
def Jj_ (v96 v97 v98 : Int) (y : Bool) : Rs := (.bool y, [])
theorem Ab6_ (v96 v97 v98 : Int) : (den TT (tabD Mm_) (tabM Mm_) (Aqb_ v96 v97 v98) (Ah_ Try.f69) ([.int .i64 v96, .bptr (BR.root 0) [.int .i64 v97], .bptr (BR.root 1) [.int .i64 v98]] ++ List.replicate (Try.f69.ntmps - ([.int .i64 v96, .bptr (BR.root 0) [.int .i64 v97], .bptr (BR.root 1) [.int .i64 v98]] : List DV).length) .undef) []).bind (retD TT Try.f69.results.toList 0) = (N2_ v96 v97 v98).bind fun y => .leaf (Jj_ v96 v97 v98 y) := by kernel_rfl
theorem Ahg_ (v96 v97 v98 : Int) (F : Fr) (h0 : St F [] F.H0) (hA : DVs.Ok F [] [.int .i64 v96, .bptr (BR.root 0) [.int .i64 v97], .bptr (BR.root 1) [.int .i64 v98]]) {y : Bool} (hy : Ri_ v96 v97 v98 = some y) : ∃ F' H', Fwd 0 F F' [] (Jj_ v96 v97 v98 y).2 ∧ FnOk Try.prog 69 (DVs.av F [.int .i64 v96, .bptr (BR.root 0) [.int .i64 v97], .bptr (BR.root 1) [.int .i64 v98]]) F.H0 ((Jj_ v96 v97 v98 y).1.av F') H' ∧ St F' (Jj_ v96 v97 v98 y).2 H' ∧ (Jj_ v96 v97 v98 y).1.Ok F' (Jj_ v96 v97 v98 y).2 :=
  Aj_ tok Am9_ mixed Try.func69 Try.call69 (by kernel_rfl) (Ad_ (l := []) (by kernel_rfl) trivial) (Ab6_ v96 v97 v98) hy h0 hA
def Jk_ (v96 v97 v98 : Int) : Bool :=
  !(Bn_ v96 v97 v98)
theorem Amp_ (v96 v97 v98 : Int) : Ri_ v96 v97 v98 = some (Jk_ v96 v97 v98) := by
  unfold Ri_ N2_ Jk_
  simp only [Tree.run]
  repeat' (first | rfl | split)
noncomputable def Og_ : DFn := fun args L =>
  match args with
  | [.int .i64 v96, a1, a2] =>
    optT (cellsOf L 1 a1) fun cs0 =>
    (match cs0 with
    | [.int .i64 v97] =>
    optT (cellsOf L 1 a2) fun cs1 =>
    (match cs1 with
    | [.int .i64 v98] =>
    .leaf (.bool (Jk_ v96 v97 v98), L)
    | _ => .fail)
    | _ => .fail)
  | _ => .fail
theorem Zh_ : COk Try.prog 69 Og_ true := by
  intro F L H args r L' hs ha hr
  unfold Og_ at hr
  split at hr
  · rename_i v96 a1 a2
    obtain ⟨cs0, hcp0, hr⟩ := Aa_ hr
    split at hr
    · rename_i v97
      obtain ⟨cs1, hcp1, hr⟩ := Aa_ hr
      split at hr
      · rename_i v98
        have hy := Amp_ v96 v97 v98
        generalize Jk_ v96 v97 v98 = y at hy hr
        simp only [Tree.run, Option.some.injEq, Prod.mk.injEq] at hr
        obtain ⟨rfl, rfl⟩ := hr
        exact Aw_ hs (fun k => (([a1.av F, a2.av F] : List AV)[k]?).getD .top) [.int .i64 v96, a1, a2] [.int .i64 v96, .bptr (BR.root 0) [.int .i64 v97], .bptr (BR.root 1) [.int .i64 v98]] (fun F' h0 hi hρ => ⟨by simp [DVs.av, DV.av, BR.av, hρ], Ahg_ v96 v97 v98 F' (Ak_ hi) ⟨trivial, Fb_ hi (by rw [h0]; simpa [DVs.av, DV.av, BR.av, hρ] using (Fi_ hs (DVs.okAt ha 1 rfl) hcp0).1) ⟨trivial, trivial⟩, Fb_ hi (by rw [h0]; simpa [DVs.av, DV.av, BR.av, hρ] using (Fi_ hs (DVs.okAt ha 2 rfl) hcp1).1) ⟨trivial, trivial⟩, trivial⟩ hy⟩) rfl
      · cases hr
    · cases hr
  · cases hr
noncomputable def D3_ (v92 : List Int) (v93 v94 s : Int) : Tree ((Int) ⊕ ((Int) ⊕ (Unit))) :=
  (.br (decide (s < ((v92.length : Nat) : Int))) (
  (.grd (inb s v92.length) <|
  (.br (Jk_ (nth v92 (Int.toNat s)) v93 v94) (
  .leaf (.inr (.inl s))
  ) (
  .leaf (.inl (IntKind.i64.wrap (s + (1 : Int))))
  )))
  ) (
  .leaf (.inr (.inr ()))
  ))
noncomputable def Px_ (v92 : List Int) (v93 v94 s0 : Int) : Option ((Int) ⊕ (Unit)) := Af_ (fun s => (D3_ v92 v93 v94 s).run) s0
def Hr_ (v92 : List Int) (v93 v94 s : Int) : Sd := ([.bslc (BR.root 0) (.i64 v92),.fn 69 [.bptr (BR.root 1) [.int .i64 v93], .bptr (BR.root 2) [.int .i64 v94]],Z,Z,Z,Z,Z,.int .i64 ((v92.length : Nat) : Int),.int .i64 s,Z,Z,Z,Z,Z,Z,Z,Z,Z,Z], [])
def L0_ (v92 : List Int) (v93 v94 : Int) (x : (Int) ⊕ (Unit)) : Out := (match x with | .inl x => (.ret, [Z,Z,Z,Z,.int .i64 x,Z,Z,Z,Z,Z,Z,Z,Z,Z,Z,Z,Z,Z,Z], []) | .inr x => (.normal, [Z,Z,Z,Z,Z,Z,Z,Z,Z,Z,Z,Z,Z,Z,Z,Z,Z,Z,Z], []))
def Xp_ : List Nat := KL true [0,2,5,2,10]
def Acr_ : Exit → List Nat
  | .exit 0 => KL true [19]
  | .ret => KL true [4,1,14]
  | _ => []
noncomputable def Tb_ (v92 : List Int) (v93 v94 : Int) : LOr := fun id e L =>
  match id with
  | 0 => .need (normA 0 Xp_ e L = some (Hr_ v92 v93 v94 (gI (vAt e 8)))) (.call (Px_ v92 v93 v94 (gI (vAt e 8))) fun x => .sum x (fun b0 => .leaf (L0_ v92 v93 v94 (.inl b0))) (fun c0 => .leaf (L0_ v92 v93 v94 (.inr c0))))
  | _ => .fail
noncomputable def Ff_ : List (FuncId × DFn × Bool) := [(69, Og_, true)]
theorem V2_ : OrcOk Try.prog (tabD Ff_) (tabM Ff_) := Ae_ Zh_ (Ai_ _)
theorem Aoa_ (v92 : List Int) (v93 v94 s : Int) : bodyT TT (tabD Ff_) (tabM Ff_) (Tb_ v92 v93 v94) 0 Xp_ Acr_ (Ab_ Try.f73 0) 0 (Hr_ v92 v93 v94 s) = (D3_ v92 v93 v94 s).bind fun y => .leaf (outS (Hr_ v92 v93 v94) (L0_ v92 v93 v94) y) := by kernel_rfl
theorem Akf_ (v92 : List Int) (v93 v94 : Int) : At_ Try.prog 0 (Tb_ v92 v93 v94) 0 (Ab_ Try.f73 0) := by
  intro e L out h
  exact lo_ok (E := Hr_ v92 v93 v94) (gT := D3_ v92 v93 v94) (X := L0_ v92 v93 v94) (s0 := (gI (vAt e 8))) tok V2_ mixed (Ad_ (l := []) (by kernel_rfl) trivial) (Aoa_ v92 v93 v94) rfl (by intro x; (cases x with | inl b => rfl | inr x => exact rfl)) h
noncomputable def Pv_ (v92 : List Int) (v93 v94 : Int) : Tree (Int) :=
  (.need (some (Hr_ v92 v93 v94 (0 : Int)) = some (Hr_ v92 v93 v94 (0 : Int))) <|
  (.call (Px_ v92 v93 v94 (0 : Int)) fun v101 =>
  (.sum v101 (fun v102 =>
  .leaf v102
  ) (fun v103 =>
  .leaf (-1 : Int)
  ))))
noncomputable def Mf_ (v92 : List Int) (v93 v94 : Int) : Option (Int) := (Pv_ v92 v93 v94).run
def Gw_ (v92 : List Int) (v93 v94 y : Int) : Rs := (.int .i64 y, [])
theorem Ans_ (v92 : List Int) (v93 v94 : Int) : (den TT (tabD Ff_) (tabM Ff_) (Tb_ v92 v93 v94) (Ah_ Try.f73) ([.bslc (BR.root 0) (.i64 v92), .fn 69 [.bptr (BR.root 1) [.int .i64 v93], .bptr (BR.root 2) [.int .i64 v94]]] ++ List.replicate (Try.f73.ntmps - ([.bslc (BR.root 0) (.i64 v92), .fn 69 [.bptr (BR.root 1) [.int .i64 v93], .bptr (BR.root 2) [.int .i64 v94]]] : List DV).length) .undef) []).bind (retD TT Try.f73.results.toList 0) = (Pv_ v92 v93 v94).bind fun y => .leaf (Gw_ v92 v93 v94 y) := by kernel_rfl
theorem Am7_ (v92 : List Int) (v93 v94 : Int) (F : Fr) (h0 : St F [] F.H0) (hA : DVs.Ok F [] [.bslc (BR.root 0) (.i64 v92), .fn 69 [.bptr (BR.root 1) [.int .i64 v93], .bptr (BR.root 2) [.int .i64 v94]]]) {y : Int} (hy : Mf_ v92 v93 v94 = some y) : ∃ F' H', Fwd 0 F F' [] (Gw_ v92 v93 v94 y).2 ∧ FnOk Try.prog 73 (DVs.av F [.bslc (BR.root 0) (.i64 v92), .fn 69 [.bptr (BR.root 1) [.int .i64 v93], .bptr (BR.root 2) [.int .i64 v94]]]) F.H0 ((Gw_ v92 v93 v94 y).1.av F') H' ∧ St F' (Gw_ v92 v93 v94 y).2 H' ∧ (Gw_ v92 v93 v94 y).1.Ok F' (Gw_ v92 v93 v94 y).2 :=
  Aj_ tok V2_ mixed Try.func73 Try.call73 (by kernel_rfl) (Ad_ (l := [(0, Ab_ Try.f73 0)]) (by kernel_rfl) ⟨Akf_ v92 v93 v94, trivial⟩) (Ans_ v92 v93 v94) hy h0 hA
noncomputable def Ph_ : DFn := fun args L =>
  match args with
  | [a1, .fn 69 [a2, a3]] =>
    optT (As_ L a1) fun v92 =>
    optT (cellsOf L 1 a2) fun cs1 =>
    (match cs1 with
    | [.int .i64 v93] =>
    optT (cellsOf L 1 a3) fun cs2 =>
    (match cs2 with
    | [.int .i64 v94] =>
    .call (Mf_ v92 v93 v94) fun y => .leaf (.int .i64 y, L)
    | _ => .fail)
    | _ => .fail)
  | _ => .fail
theorem Ah8_ : COk Try.prog 73 Ph_ true := by
  intro F L H args r L' hs ha hr
  unfold Ph_ at hr
  split at hr
  · rename_i a1 a2 a3
    obtain ⟨v92, hv92, hr⟩ := Aa_ hr
    obtain ⟨cs1, hcp1, hr⟩ := Aa_ hr
    split at hr
    · rename_i v93
      obtain ⟨cs2, hcp2, hr⟩ := Aa_ hr
      split at hr
      · rename_i v94
        simp only [Tree.run] at hr
        obtain ⟨y, hy, hr⟩ := Option.bind_eq_some_iff.1 hr
        simp only [Tree.run, Option.some.injEq, Prod.mk.injEq] at hr
        obtain ⟨rfl, rfl⟩ := hr
        exact Aw_ hs (fun k => (([a1.av F, a2.av F, a3.av F] : List AV)[k]?).getD .top) [a1, .fn 69 [a2, a3]] [.bslc (BR.root 0) (.i64 v92), .fn 69 [.bptr (BR.root 1) [.int .i64 v93], .bptr (BR.root 2) [.int .i64 v94]]] (fun F' h0 hi hρ => ⟨by simp [DVs.av, DV.av, BR.av, hρ], Am7_ v92 v93 v94 F' (Ak_ hi) ⟨Ag_ hi (by rw [h0, hρ]; exact An_ hs (DVs.okAt ha 0 rfl) hv92), ⟨Fb_ hi (by rw [h0]; simpa [DVs.av, DV.av, BR.av, hρ] using (Fi_ hs (DVs.okAt (DVs.okAt ha 1 rfl) 0 rfl) hcp1).1) ⟨trivial, trivial⟩, Fb_ hi (by rw [h0]; simpa [DVs.av, DV.av, BR.av, hρ] using (Fi_ hs (DVs.okAt (DVs.okAt ha 1 rfl) 1 rfl) hcp2).1) ⟨trivial, trivial⟩, trivial⟩, trivial⟩ hy⟩) rfl
      · cases hr
    · cases hr
  · cases hr
noncomputable def Aoq_ (v89 : List Int) (v90 v91 : Int) : LOr := fun id e L =>
  match id with
  | _ => .fail
noncomputable def M5_ : List (FuncId × DFn × Bool) := [(73, Ph_, true)]
theorem Ada_ : OrcOk Try.prog (tabD M5_) (tabM M5_) := Ae_ Ah8_ (Ai_ _)
noncomputable def Q8_ (v89 : List Int) (v90 v91 : Int) : Tree (Bool) :=
  (.call (Mf_ v89 v90 v91) fun v104 =>
  .leaf (decide ((0 : Int) ≤ v104)))
noncomputable def Nl_ (v89 : List Int) (v90 v91 : Int) : Option (Bool) := (Q8_ v89 v90 v91).run
def Iu_ (v89 : List Int) (v90 v91 : Int) (y : Bool) : Rs := (.bool y, [])
theorem Ai3_ (v89 : List Int) (v90 v91 : Int) : (den TT (tabD M5_) (tabM M5_) (Aoq_ v89 v90 v91) (Ah_ Try.f68) ([.bslc (BR.root 0) (.i64 v89), .fn 69 [.bptr (BR.root 1) [.int .i64 v90], .bptr (BR.root 2) [.int .i64 v91]]] ++ List.replicate (Try.f68.ntmps - ([.bslc (BR.root 0) (.i64 v89), .fn 69 [.bptr (BR.root 1) [.int .i64 v90], .bptr (BR.root 2) [.int .i64 v91]]] : List DV).length) .undef) []).bind (retD TT Try.f68.results.toList 0) = (Q8_ v89 v90 v91).bind fun y => .leaf (Iu_ v89 v90 v91 y) := by kernel_rfl
theorem Alq_ (v89 : List Int) (v90 v91 : Int) (F : Fr) (h0 : St F [] F.H0) (hA : DVs.Ok F [] [.bslc (BR.root 0) (.i64 v89), .fn 69 [.bptr (BR.root 1) [.int .i64 v90], .bptr (BR.root 2) [.int .i64 v91]]]) {y : Bool} (hy : Nl_ v89 v90 v91 = some y) : ∃ F' H', Fwd 0 F F' [] (Iu_ v89 v90 v91 y).2 ∧ FnOk Try.prog 68 (DVs.av F [.bslc (BR.root 0) (.i64 v89), .fn 69 [.bptr (BR.root 1) [.int .i64 v90], .bptr (BR.root 2) [.int .i64 v91]]]) F.H0 ((Iu_ v89 v90 v91 y).1.av F') H' ∧ St F' (Iu_ v89 v90 v91 y).2 H' ∧ (Iu_ v89 v90 v91 y).1.Ok F' (Iu_ v89 v90 v91 y).2 :=
  Aj_ tok Ada_ mixed Try.func68 Try.call68 (by kernel_rfl) (Ad_ (l := []) (by kernel_rfl) trivial) (Ai3_ v89 v90 v91) hy h0 hA
noncomputable def Ro_ : DFn := fun args L =>
  match args with
  | [a1, .fn 69 [a2, a3]] =>
    optT (As_ L a1) fun v89 =>
    optT (cellsOf L 1 a2) fun cs1 =>
    (match cs1 with
    | [.int .i64 v90] =>
    optT (cellsOf L 1 a3) fun cs2 =>
    (match cs2 with
    | [.int .i64 v91] =>
    .call (Nl_ v89 v90 v91) fun y => .leaf (.bool y, L)
    | _ => .fail)
    | _ => .fail)
  | _ => .fail
theorem Aa3_ : COk Try.prog 68 Ro_ true := by
  intro F L H args r L' hs ha hr
  unfold Ro_ at hr
  split at hr
  · rename_i a1 a2 a3
    obtain ⟨v89, hv89, hr⟩ := Aa_ hr
    obtain ⟨cs1, hcp1, hr⟩ := Aa_ hr
    split at hr
    · rename_i v90
      obtain ⟨cs2, hcp2, hr⟩ := Aa_ hr
      split at hr
      · rename_i v91
        simp only [Tree.run] at hr
        obtain ⟨y, hy, hr⟩ := Option.bind_eq_some_iff.1 hr
        simp only [Tree.run, Option.some.injEq, Prod.mk.injEq] at hr
        obtain ⟨rfl, rfl⟩ := hr
        exact Aw_ hs (fun k => (([a1.av F, a2.av F, a3.av F] : List AV)[k]?).getD .top) [a1, .fn 69 [a2, a3]] [.bslc (BR.root 0) (.i64 v89), .fn 69 [.bptr (BR.root 1) [.int .i64 v90], .bptr (BR.root 2) [.int .i64 v91]]] (fun F' h0 hi hρ => ⟨by simp [DVs.av, DV.av, BR.av, hρ], Alq_ v89 v90 v91 F' (Ak_ hi) ⟨Ag_ hi (by rw [h0, hρ]; exact An_ hs (DVs.okAt ha 0 rfl) hv89), ⟨Fb_ hi (by rw [h0]; simpa [DVs.av, DV.av, BR.av, hρ] using (Fi_ hs (DVs.okAt (DVs.okAt ha 1 rfl) 0 rfl) hcp1).1) ⟨trivial, trivial⟩, Fb_ hi (by rw [h0]; simpa [DVs.av, DV.av, BR.av, hρ] using (Fi_ hs (DVs.okAt (DVs.okAt ha 1 rfl) 1 rfl) hcp2).1) ⟨trivial, trivial⟩, trivial⟩, trivial⟩ hy⟩) rfl
      · cases hr
    · cases hr
  · cases hr
end Go.Proofs.Ytmgpbchacndndaa.AM
