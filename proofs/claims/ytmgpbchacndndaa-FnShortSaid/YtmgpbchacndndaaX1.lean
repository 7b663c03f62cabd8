import Derived.Test.YtmgpbchacndndaaX0
set_option maxRecDepth 100000
set_option maxHeartbeats 4000000
set_option linter.unusedSimpArgs false
set_option linter.unusedVariables false
namespace Go.Proofs.Ytmgpbchacndndaa.AM
open Go.Proofs
noncomputable def Ab1_ (v86 : List Int) (v87 v88 : Int) : LOr := fun id e L =>
  match id with
  | _ => .fail
noncomputable def M4_ : List (FuncId × DFn × Bool) := [(68, Ro_, true)]
theorem Ac4_ : OrcOk Try.prog (tabD M4_) (tabM M4_) := Ae_ Aa3_ (Ai_ _)
noncomputable def O5_ (v86 : List Int) (v87 v88 : Int) : Tree (Bool) :=
  (.call (Nl_ v86 v87 v88) fun v105 =>
  .leaf (!v105))
noncomputable def J3_ (v86 : List Int) (v87 v88 : Int) : Option (Bool) := (O5_ v86 v87 v88).run
def Ik_ (v86 : List Int) (v87 v88 : Int) (y : Bool) : Rs := (.bool y, [])
theorem Acj_ (v86 : List Int) (v87 v88 : Int) : (den TT (tabD M4_) (tabM M4_) (Ab1_ v86 v87 v88) (Ah_ Try.f61) ([.bslc (BR.root 0) (.i64 v86), .int .i64 v87, .int .i64 v88] ++ List.replicate (Try.f61.ntmps - ([.bslc (BR.root 0) (.i64 v86), .int .i64 v87, .int .i64 v88] : List DV).length) .undef) []).bind (retD TT Try.f61.results.toList 0) = (O5_ v86 v87 v88).bind fun y => .leaf (Ik_ v86 v87 v88 y) := by kernel_rfl
theorem Aov_ (v86 : List Int) (v87 v88 : Int) (F : Fr) (h0 : St F [] F.H0) (hA : DVs.Ok F [] [.bslc (BR.root 0) (.i64 v86), .int .i64 v87, .int .i64 v88]) {y : Bool} (hy : J3_ v86 v87 v88 = some y) : ∃ F' H', Fwd 0 F F' [] (Ik_ v86 v87 v88 y).2 ∧ FnOk Try.prog 61 (DVs.av F [.bslc (BR.root 0) (.i64 v86), .int .i64 v87, .int .i64 v88]) F.H0 ((Ik_ v86 v87 v88 y).1.av F') H' ∧ St F' (Ik_ v86 v87 v88 y).2 H' ∧ (Ik_ v86 v87 v88 y).1.Ok F' (Ik_ v86 v87 v88 y).2 :=
  Aj_ tok Ac4_ mixed Try.func61 Try.call61 (by kernel_rfl) (Ad_ (l := []) (by kernel_rfl) trivial) (Acj_ v86 v87 v88) hy h0 hA
noncomputable def R3_ : DFn := fun args L =>
  match args with
  | [a1, .int .i64 v87, .int .i64 v88] =>
    optT (As_ L a1) fun v86 =>
    .call (J3_ v86 v87 v88) fun y => .leaf (.bool y, L)
  | _ => .fail
theorem Agm_ : COk Try.prog 61 R3_ true := by
  intro F L H args r L' hs ha hr
  unfold R3_ at hr
  split at hr
  · rename_i a1 v87 v88
    obtain ⟨v86, hv86, hr⟩ := Aa_ hr
    simp only [Tree.run] at hr
    obtain ⟨y, hy, hr⟩ := Option.bind_eq_some_iff.1 hr
    simp only [Tree.run, Option.some.injEq, Prod.mk.injEq] at hr
    obtain ⟨rfl, rfl⟩ := hr
    exact Aw_ hs (fun k => (([a1.av F] : List AV)[k]?).getD .top) [a1, .int .i64 v87, .int .i64 v88] [.bslc (BR.root 0) (.i64 v86), .int .i64 v87, .int .i64 v88] (fun F' h0 hi hρ => ⟨by simp [DVs.av, DV.av, BR.av, hρ], Aov_ v86 v87 v88 F' (Ak_ hi) ⟨Ag_ hi (by rw [h0, hρ]; exact An_ hs (DVs.okAt ha 0 rfl) hv86), trivial, trivial, trivial⟩ hy⟩) rfl
  · cases hr
noncomputable def Aib_ (v78 v79 : Int) (v80 : List Int) (v81 : Int) : LOr := fun id e L =>
  match id with
  | _ => .fail
noncomputable def Lu_ : List (FuncId × DFn × Bool) := [(21, Iw_, true), (60, Sj_, true), (61, R3_, true)]
theorem Ail_ : OrcOk Try.prog (tabD Lu_) (tabM Lu_) := Ae_ Ny_ (Ae_ Ao9_ (Ae_ Agm_ (Ai_ _)))
noncomputable def R1_ (v78 v79 : Int) (v80 : List Int) (v81 : Int) : Tree (Bool) :=
  (.br (Bn_ v78 (1 : Int) (6 : Int)) (
  (.br (Bn_ v79 (1 : Int) (6 : Int)) (
  (.br (decide ((Gd_ v80) = IntKind.i64.wrap (v78 * v79))) (
  (.call (J3_ v80 (IntKind.i64.wrap (0 - v81)) v81) fun v106 =>
  .leaf v106)
  ) (
  .leaf false
  ))
  ) (
  .leaf false
  ))
  ) (
  .leaf false
  ))
noncomputable def H1_ (v78 v79 : Int) (v80 : List Int) (v81 : Int) : Option (Bool) := (R1_ v78 v79 v80 v81).run
def Gh_ (v78 v79 : Int) (v80 : List Int) (v81 : Int) (y : Bool) : Rs := (.bool y, [])
theorem Anw_ (v78 v79 : Int) (v80 : List Int) (v81 : Int) : (den TT (tabD Lu_) (tabM Lu_) (Aib_ v78 v79 v80 v81) (Ah_ Try.f50) ([.agg [.int .i64 v78, .int .i64 v79, .bslc (BR.root 0) (.i64 v80)], .int .i64 v81] ++ List.replicate (Try.f50.ntmps - ([.agg [.int .i64 v78, .int .i64 v79, .bslc (BR.root 0) (.i64 v80)], .int .i64 v81] : List DV).length) .undef) []).bind (retD TT Try.f50.results.toList 0) = (R1_ v78 v79 v80 v81).bind fun y => .leaf (Gh_ v78 v79 v80 v81 y) := by kernel_rfl
theorem Aad_ (v78 v79 : Int) (v80 : List Int) (v81 : Int) (F : Fr) (h0 : St F [] F.H0) (hA : DVs.Ok F [] [.agg [.int .i64 v78, .int .i64 v79, .bslc (BR.root 0) (.i64 v80)], .int .i64 v81]) {y : Bool} (hy : H1_ v78 v79 v80 v81 = some y) : ∃ F' H', Fwd 0 F F' [] (Gh_ v78 v79 v80 v81 y).2 ∧ FnOk Try.prog 50 (DVs.av F [.agg [.int .i64 v78, .int .i64 v79, .bslc (BR.root 0) (.i64 v80)], .int .i64 v81]) F.H0 ((Gh_ v78 v79 v80 v81 y).1.av F') H' ∧ St F' (Gh_ v78 v79 v80 v81 y).2 H' ∧ (Gh_ v78 v79 v80 v81 y).1.Ok F' (Gh_ v78 v79 v80 v81 y).2 :=
  Aj_ tok Ail_ mixed Try.func50 Try.call50 (by kernel_rfl) (Ad_ (l := []) (by kernel_rfl) trivial) (Anw_ v78 v79 v80 v81) hy h0 hA
noncomputable def Nx_ : DFn := fun args L =>
  match args with
  | [.agg [.int .i64 v78, .int .i64 v79, a1], .int .i64 v81] =>
    optT (As_ L a1) fun v80 =>
    .call (H1_ v78 v79 v80 v81) fun y => .leaf (.bool y, L)
  | _ => .fail
theorem Un_ : COk Try.prog 50 Nx_ true := by
  intro F L H args r L' hs ha hr
  unfold Nx_ at hr
  split at hr
  · rename_i v78 v79 a1 v81
    obtain ⟨v80, hv80, hr⟩ := Aa_ hr
    simp only [Tree.run] at hr
    obtain ⟨y, hy, hr⟩ := Option.bind_eq_some_iff.1 hr
    simp only [Tree.run, Option.some.injEq, Prod.mk.injEq] at hr
    obtain ⟨rfl, rfl⟩ := hr
    exact Aw_ hs (fun k => (([a1.av F] : List AV)[k]?).getD .top) [.agg [.int .i64 v78, .int .i64 v79, a1], .int .i64 v81] [.agg [.int .i64 v78, .int .i64 v79, .bslc (BR.root 0) (.i64 v80)], .int .i64 v81] (fun F' h0 hi hρ => ⟨by simp [DVs.av, DV.av, BR.av, hρ], Aad_ v78 v79 v80 v81 F' (Ak_ hi) ⟨⟨trivial, trivial, Ag_ hi (by rw [h0, hρ]; exact An_ hs (DVs.okAt (DVs.okAt ha 0 rfl) 2 rfl) hv80), trivial⟩, trivial, trivial⟩ hy⟩) rfl
  · cases hr
noncomputable def Acb_ (v75 v76 : Int) (v77 : List Int) : LOr := fun id e L =>
  match id with
  | _ => .fail
noncomputable def Nb_ : List (FuncId × DFn × Bool) := [(50, Nx_, true)]
theorem Ae5_ : OrcOk Try.prog (tabD Nb_) (tabM Nb_) := Ae_ Un_ (Ai_ _)
noncomputable def Jm_ (v75 v76 : Int) (v77 : List Int) : Tree (Bool) :=
  (.call (H1_ v75 v76 v77 (100 : Int)) fun v107 =>
  .leaf v107)
noncomputable def Cf_ (v75 v76 : Int) (v77 : List Int) : Option (Bool) := (Jm_ v75 v76 v77).run
def Ji_ (v75 v76 : Int) (v77 : List Int) (y : Bool) : Rs := (.bool y, [])
theorem Ajh_ (v75 v76 : Int) (v77 : List Int) : (den TT (tabD Nb_) (tabM Nb_) (Acb_ v75 v76 v77) (Ah_ Try.f20) ([.agg [.int .i64 v75, .int .i64 v76, .bslc (BR.root 0) (.i64 v77)]] ++ List.replicate (Try.f20.ntmps - ([.agg [.int .i64 v75, .int .i64 v76, .bslc (BR.root 0) (.i64 v77)]] : List DV).length) .undef) []).bind (retD TT Try.f20.results.toList 0) = (Jm_ v75 v76 v77).bind fun y => .leaf (Ji_ v75 v76 v77 y) := by kernel_rfl
theorem Aek_ (v75 v76 : Int) (v77 : List Int) (F : Fr) (h0 : St F [] F.H0) (hA : DVs.Ok F [] [.agg [.int .i64 v75, .int .i64 v76, .bslc (BR.root 0) (.i64 v77)]]) {y : Bool} (hy : Cf_ v75 v76 v77 = some y) : ∃ F' H', Fwd 0 F F' [] (Ji_ v75 v76 v77 y).2 ∧ FnOk Try.prog 20 (DVs.av F [.agg [.int .i64 v75, .int .i64 v76, .bslc (BR.root 0) (.i64 v77)]]) F.H0 ((Ji_ v75 v76 v77 y).1.av F') H' ∧ St F' (Ji_ v75 v76 v77 y).2 H' ∧ (Ji_ v75 v76 v77 y).1.Ok F' (Ji_ v75 v76 v77 y).2 :=
  Aj_ tok Ae5_ mixed Try.func20 Try.call20 (by kernel_rfl) (Ad_ (l := []) (by kernel_rfl) trivial) (Ajh_ v75 v76 v77) hy h0 hA
noncomputable def Kg_ : DFn := fun args L =>
  match args with
  | [.agg [.int .i64 v75, .int .i64 v76, a1]] =>
    optT (As_ L a1) fun v77 =>
    .call (Cf_ v75 v76 v77) fun y => .leaf (.bool y, L)
  | _ => .fail
theorem Rb_ : COk Try.prog 20 Kg_ true := by
  intro F L H args r L' hs ha hr
  unfold Kg_ at hr
  split at hr
  · rename_i v75 v76 a1
    obtain ⟨v77, hv77, hr⟩ := Aa_ hr
    simp only [Tree.run] at hr
    obtain ⟨y, hy, hr⟩ := Option.bind_eq_some_iff.1 hr
    simp only [Tree.run, Option.some.injEq, Prod.mk.injEq] at hr
    obtain ⟨rfl, rfl⟩ := hr
    exact Aw_ hs (fun k => (([a1.av F] : List AV)[k]?).getD .top) [.agg [.int .i64 v75, .int .i64 v76, a1]] [.agg [.int .i64 v75, .int .i64 v76, .bslc (BR.root 0) (.i64 v77)]] (fun F' h0 hi hρ => ⟨by simp [DVs.av, DV.av, BR.av, hρ], Aek_ v75 v76 v77 F' (Ak_ hi) ⟨⟨trivial, trivial, Ag_ hi (by rw [h0, hρ]; exact An_ hs (DVs.okAt (DVs.okAt ha 0 rfl) 2 rfl) hv77), trivial⟩, trivial⟩ hy⟩) rfl
  · cases hr
noncomputable def Adq_ (v109 : List Int) : LOr := fun id e L =>
  match id with
  | _ => .fail
noncomputable def N0_ : List (FuncId × DFn × Bool) := []
theorem Amq_ : OrcOk Try.prog (tabD N0_) (tabM N0_) := Ai_ _
noncomputable def Ep_ (v109 : List Int) : Tree (Unit) :=
  (.grd (decide (0 < v109.length)) <|
  (.grd (fits (([] : List Int) ++ v109).length) <|
  .leaf ()))
noncomputable def Be_ (v109 : List Int) : Option (Unit) := (Ep_ v109).run
def F5_ (v109 : List Int) (y : Unit) : Rs := (.own 0 0 ((([] : List Int) ++ v109).length), [.row (.i64 (([] : List Int) ++ v109)) 0])
theorem Aly_ (v109 : List Int) : (den TT (tabD N0_) (tabM N0_) (Adq_ v109) (Ah_ Try.f22) ([.bslc (BR.root 0) (.i64 v109)] ++ List.replicate (Try.f22.ntmps - ([.bslc (BR.root 0) (.i64 v109)] : List DV).length) .undef) []).bind (retD TT Try.f22.results.toList 0) = (Ep_ v109).bind fun y => .leaf (F5_ v109 y) := by kernel_rfl
theorem Aq2_ (v109 : List Int) (F : Fr) (h0 : St F [] F.H0) (hA : DVs.Ok F [] [.bslc (BR.root 0) (.i64 v109)]) {y : Unit} (hy : Be_ v109 = some y) : ∃ F' H', Fwd 0 F F' [] (F5_ v109 y).2 ∧ FnOk Try.prog 22 (DVs.av F [.bslc (BR.root 0) (.i64 v109)]) F.H0 ((F5_ v109 y).1.av F') H' ∧ St F' (F5_ v109 y).2 H' ∧ (F5_ v109 y).1.Ok F' (F5_ v109 y).2 :=
  Aj_ tok Amq_ mixed Try.func22 Try.call22 (by kernel_rfl) (Ad_ (l := []) (by kernel_rfl) trivial) (Aly_ v109) hy h0 hA
noncomputable def Du_ : DFn := fun args L =>
  match args with
  | [a1] =>
    optT (As_ L a1) fun v109 =>
    .call (Be_ v109) fun y => .leaf (.own (L.length + 0) 0 ((([] : List Int) ++ v109).length), L ++ [.row (.i64 (([] : List Int) ++ v109)) 0])
  | _ => .fail
theorem H5_ : COk Try.prog 22 Du_ true := by
  intro F L H args r L' hs ha hr
  unfold Du_ at hr
  split at hr
  · rename_i a1
    obtain ⟨v109, hv109, hr⟩ := Aa_ hr
    simp only [Tree.run] at hr
    obtain ⟨y, hy, hr⟩ := Option.bind_eq_some_iff.1 hr
    simp only [Tree.run, Option.some.injEq, Prod.mk.injEq] at hr
    obtain ⟨rfl, rfl⟩ := hr
    exact Dc_ hs (fun k => (([a1.av F] : List AV)[k]?).getD .top) [a1] [.bslc (BR.root 0) (.i64 v109)] (fun F' h0 hi hρ => ⟨by simp [DVs.av, DV.av, BR.av, hρ], Aq2_ v109 F' (Ak_ hi) ⟨Ag_ hi (by rw [h0, hρ]; exact An_ hs (DVs.okAt ha 0 rfl) hv109), trivial⟩ hy⟩) rfl rfl
  · cases hr
noncomputable def Aiq_ (v117 v118 : Int) (v119 : List Int) (v120 : Int) : LOr := fun id e L =>
  match id with
  | _ => .fail
noncomputable def M0_ : List (FuncId × DFn × Bool) := [(22, Du_, true)]
theorem Adl_ : OrcOk Try.prog (tabD M0_) (tabM M0_) := Ae_ H5_ (Ai_ _)
noncomputable def Th_ (v118 : Int) (v119 : List Int) (v120 : Int) : Tree (Unit) :=
  (.grd (sok (IntKind.i64.wrap (v120 * v118)) (IntKind.i64.wrap ((IntKind.i64.wrap (v120 + (1 : Int))) * v118)) v119.length) <|
  (.call (Be_ (AM.sub v119 (IntKind.i64.wrap (v120 * v118)) (IntKind.i64.wrap ((IntKind.i64.wrap (v120 + (1 : Int))) * v118)))) fun v121 =>
  .leaf ()))
noncomputable def Jx_ (v118 : Int) (v119 : List Int) (v120 : Int) : Option (Unit) := (Th_ v118 v119 v120).run
def Hq_ (v117 v118 : Int) (v119 : List Int) (v120 : Int) (y : Unit) : Rs := (.own 0 0 ((([] : List Int) ++ (AM.sub v119 (IntKind.i64.wrap (v120 * v118)) (IntKind.i64.wrap ((IntKind.i64.wrap (v120 + (1 : Int))) * v118)))).length), [.row (.i64 (([] : List Int) ++ (AM.sub v119 (IntKind.i64.wrap (v120 * v118)) (IntKind.i64.wrap ((IntKind.i64.wrap (v120 + (1 : Int))) * v118))))) 0])
theorem Ah6_ (v117 v118 : Int) (v119 : List Int) (v120 : Int) : (den TT (tabD M0_) (tabM M0_) (Aiq_ v117 v118 v119 v120) (Ah_ Try.f51) ([.agg [.int .i64 v117, .int .i64 v118, .bslc (BR.root 0) (.i64 v119)], .int .i64 v120] ++ List.replicate (Try.f51.ntmps - ([.agg [.int .i64 v117, .int .i64 v118, .bslc (BR.root 0) (.i64 v119)], .int .i64 v120] : List DV).length) .undef) []).bind (retD TT Try.f51.results.toList 0) = (Th_ v118 v119 v120).bind fun y => .leaf (Hq_ v117 v118 v119 v120 y) := by kernel_rfl
theorem Ape_ (v117 v118 : Int) (v119 : List Int) (v120 : Int) (F : Fr) (h0 : St F [] F.H0) (hA : DVs.Ok F [] [.agg [.int .i64 v117, .int .i64 v118, .bslc (BR.root 0) (.i64 v119)], .int .i64 v120]) {y : Unit} (hy : Jx_ v118 v119 v120 = some y) : ∃ F' H', Fwd 0 F F' [] (Hq_ v117 v118 v119 v120 y).2 ∧ FnOk Try.prog 51 (DVs.av F [.agg [.int .i64 v117, .int .i64 v118, .bslc (BR.root 0) (.i64 v119)], .int .i64 v120]) F.H0 ((Hq_ v117 v118 v119 v120 y).1.av F') H' ∧ St F' (Hq_ v117 v118 v119 v120 y).2 H' ∧ (Hq_ v117 v118 v119 v120 y).1.Ok F' (Hq_ v117 v118 v119 v120 y).2 :=
  Aj_ tok Adl_ mixed Try.func51 Try.call51 (by kernel_rfl) (Ad_ (l := []) (by kernel_rfl) trivial) (Ah6_ v117 v118 v119 v120) hy h0 hA
noncomputable def Pc_ : DFn := fun args L =>
  match args with
  | [.agg [.int .i64 v117, .int .i64 v118, a1], .int .i64 v120] =>
    optT (As_ L a1) fun v119 =>
    .call (Jx_ v118 v119 v120) fun y => .leaf (.own (L.length + 0) 0 ((([] : List Int) ++ (AM.sub v119 (IntKind.i64.wrap (v120 * v118)) (IntKind.i64.wrap ((IntKind.i64.wrap (v120 + (1 : Int))) * v118)))).length), L ++ [.row (.i64 (([] : List Int) ++ (AM.sub v119 (IntKind.i64.wrap (v120 * v118)) (IntKind.i64.wrap ((IntKind.i64.wrap (v120 + (1 : Int))) * v118))))) 0])
  | _ => .fail
theorem Aaz_ : COk Try.prog 51 Pc_ true := by
  intro F L H args r L' hs ha hr
  unfold Pc_ at hr
  split at hr
  · rename_i v117 v118 a1 v120
    obtain ⟨v119, hv119, hr⟩ := Aa_ hr
    simp only [Tree.run] at hr
    obtain ⟨y, hy, hr⟩ := Option.bind_eq_some_iff.1 hr
    simp only [Tree.run, Option.some.injEq, Prod.mk.injEq] at hr
    obtain ⟨rfl, rfl⟩ := hr
    exact Dc_ hs (fun k => (([a1.av F] : List AV)[k]?).getD .top) [.agg [.int .i64 v117, .int .i64 v118, a1], .int .i64 v120] [.agg [.int .i64 v117, .int .i64 v118, .bslc (BR.root 0) (.i64 v119)], .int .i64 v120] (fun F' h0 hi hρ => ⟨by simp [DVs.av, DV.av, BR.av, hρ], Ape_ v117 v118 v119 v120 F' (Ak_ hi) ⟨⟨trivial, trivial, Ag_ hi (by rw [h0, hρ]; exact An_ hs (DVs.okAt (DVs.okAt ha 0 rfl) 2 rfl) hv119), trivial⟩, trivial, trivial⟩ hy⟩) rfl rfl
  · cases hr
noncomputable def Adf_ (v138 : List Nat) : LOr := fun id e L =>
  match id with
  | _ => .fail
noncomputable def Me_ : List (FuncId × DFn × Bool) := []
theorem An4_ : OrcOk Try.prog (tabD Me_) (tabM Me_) := Ai_ _
noncomputable def Pf_ (v138 : List Nat) : Tree (Unit) :=
  (.grd (decide (0 < v138.length)) <|
  (.grd (fits (([] : List Nat) ++ v138).length) <|
  .leaf ()))
noncomputable def Jq_ (v138 : List Nat) : Option (Unit) := (Pf_ v138).run
def G2_ (v138 : List Nat) (y : Unit) : Rs := (.own 0 0 ((([] : List Nat) ++ v138).length), [.row (.f64 (([] : List Nat) ++ v138)) 0])
theorem Al2_ (v138 : List Nat) : (den TT (tabD Me_) (tabM Me_) (Adf_ v138) (Ah_ Try.f52) ([.bslc (BR.root 0) (.f64 v138)] ++ List.replicate (Try.f52.ntmps - ([.bslc (BR.root 0) (.f64 v138)] : List DV).length) .undef) []).bind (retD TT Try.f52.results.toList 0) = (Pf_ v138).bind fun y => .leaf (G2_ v138 y) := by kernel_rfl
theorem Ad9_ (v138 : List Nat) (F : Fr) (h0 : St F [] F.H0) (hA : DVs.Ok F [] [.bslc (BR.root 0) (.f64 v138)]) {y : Unit} (hy : Jq_ v138 = some y) : ∃ F' H', Fwd 0 F F' [] (G2_ v138 y).2 ∧ FnOk Try.prog 52 (DVs.av F [.bslc (BR.root 0) (.f64 v138)]) F.H0 ((G2_ v138 y).1.av F') H' ∧ St F' (G2_ v138 y).2 H' ∧ (G2_ v138 y).1.Ok F' (G2_ v138 y).2 :=
  Aj_ tok An4_ mixed Try.func52 Try.call52 (by kernel_rfl) (Ad_ (l := []) (by kernel_rfl) trivial) (Al2_ v138) hy h0 hA
noncomputable def Ta_ : DFn := fun args L =>
  match args with
  | [a1] =>
    optT (Km_ L a1) fun v138 =>
    .call (Jq_ v138) fun y => .leaf (.own (L.length + 0) 0 ((([] : List Nat) ++ v138).length), L ++ [.row (.f64 (([] : List Nat) ++ v138)) 0])
  | _ => .fail
theorem Agb_ : COk Try.prog 52 Ta_ true := by
  intro F L H args r L' hs ha hr
  unfold Ta_ at hr
  split at hr
  · rename_i a1
    obtain ⟨v138, hv138, hr⟩ := Aa_ hr
    simp only [Tree.run] at hr
    obtain ⟨y, hy, hr⟩ := Option.bind_eq_some_iff.1 hr
    simp only [Tree.run, Option.some.injEq, Prod.mk.injEq] at hr
    obtain ⟨rfl, rfl⟩ := hr
    exact Dc_ hs (fun k => (([a1.av F] : List AV)[k]?).getD .top) [a1] [.bslc (BR.root 0) (.f64 v138)] (fun F' h0 hi hρ => ⟨by simp [DVs.av, DV.av, BR.av, hρ], Ad9_ v138 F' (Ak_ hi) ⟨Ag_ hi (by rw [h0, hρ]; exact S1_ hs (DVs.okAt ha 0 rfl) hv138), trivial⟩ hy⟩) rfl rfl
  · cases hr
noncomputable def Af5_ (v148 v149 : Nat) : LOr := fun id e L =>
  match id with
  | _ => .fail
noncomputable def L4_ : List (FuncId × DFn × Bool) := []
theorem Aen_ : OrcOk Try.prog (tabD L4_) (tabM L4_) := Ai_ _
noncomputable def S8_ (v148 v149 : Nat) : Tree (Nat) :=
  .leaf (fmul .f64 v148 v149)
noncomputable def R0_ (v148 v149 : Nat) : Option (Nat) := (S8_ v148 v149).run
def G9_ (v148 v149 y : Nat) : Rs := (.flt .f64 y, [])
theorem Anj_ (v148 v149 : Nat) : (den TT (tabD L4_) (tabM L4_) (Af5_ v148 v149) (Ah_ Try.f27) ([.flt .f64 v148, .flt .f64 v149] ++ List.replicate (Try.f27.ntmps - ([.flt .f64 v148, .flt .f64 v149] : List DV).length) .undef) []).bind (retD TT Try.f27.results.toList 0) = (S8_ v148 v149).bind fun y => .leaf (G9_ v148 v149 y) := by kernel_rfl
theorem Aef_ (v148 v149 : Nat) (F : Fr) (h0 : St F [] F.H0) (hA : DVs.Ok F [] [.flt .f64 v148, .flt .f64 v149]) {y : Nat} (hy : R0_ v148 v149 = some y) : ∃ F' H', Fwd 0 F F' [] (G9_ v148 v149 y).2 ∧ FnOk Try.prog 27 (DVs.av F [.flt .f64 v148, .flt .f64 v149]) F.H0 ((G9_ v148 v149 y).1.av F') H' ∧ St F' (G9_ v148 v149 y).2 H' ∧ (G9_ v148 v149 y).1.Ok F' (G9_ v148 v149 y).2 :=
  Aj_ tok Aen_ mixed Try.func27 Try.call27 (by kernel_rfl) (Ad_ (l := []) (by kernel_rfl) trivial) (Anj_ v148 v149) hy h0 hA
def Bu_ (v148 v149 : Nat) : Nat :=
  fmul .f64 v148 v149
theorem Ai2_ (v148 v149 : Nat) : R0_ v148 v149 = some (Bu_ v148 v149) := by
  unfold R0_ S8_ Bu_
  simp only [Tree.run]
  repeat' (first | rfl | split)
noncomputable def Kf_ : DFn := fun args L =>
  match args with
  | [.flt .f64 v148, .flt .f64 v149] =>
    .leaf (.flt .f64 (Bu_ v148 v149), L)
  | _ => .fail
theorem Sc_ : COk Try.prog 27 Kf_ true := by
  intro F L H args r L' hs ha hr
  unfold Kf_ at hr
  split at hr
  · rename_i v148 v149
    have hy := Ai2_ v148 v149
    generalize Bu_ v148 v149 = y at hy hr
    simp only [Tree.run, Option.some.injEq, Prod.mk.injEq] at hr
    obtain ⟨rfl, rfl⟩ := hr
    exact Aw_ hs (fun k => (([] : List AV)[k]?).getD .top) [.flt .f64 v148, .flt .f64 v149] [.flt .f64 v148, .flt .f64 v149] (fun F' h0 hi hρ => ⟨by simp [DVs.av, DV.av, BR.av, hρ], Aef_ v148 v149 F' (Ak_ hi) ⟨trivial, trivial, trivial⟩ hy⟩) rfl
  · cases hr
noncomputable def Gl_ (v144 v145 : List Nat) (s : Nat × Int) : Tree ((Nat × Int) ⊕ (Nat)) :=
  (.br (decide (s.2 < ((v144.length : Nat) : Int))) (
  (.grd (inb s.2 v144.length) <|
  (.grd (inb s.2 v145.length) <|
  .leaf (.inl (fadd .f64 s.1 (Bu_ (nth v144 (Int.toNat s.2)) (nth v145 (Int.toNat s.2))), IntKind.i64.wrap (s.2 + (1 : Int))))))
  ) (
  .leaf (.inr s.1)
  ))
noncomputable def Ox_ (v144 v145 : List Nat) (s0 : Nat × Int) : Option (Nat) := Af_ (fun s => (Gl_ v144 v145 s).run) s0
def Hh_ (v144 v145 : List Nat) (s : Nat × Int) : Sd := ([Z,.bslc (BR.root 1) (.f64 v145),Z,Z,Z,.flt .f64 s.1,Z,Z,.bslc (BR.root 0) (.f64 v144),.int .i64 ((v144.length : Nat) : Int),.int .i64 s.2,Z,Z,Z,Z,Z,Z,Z,Z,Z,Z,Z,Z,Z,Z], [])
def S3_ (v144 v145 : List Nat) (x : Nat) : Out := (.normal, [Z,Z,Z,Z,Z,.flt .f64 x,Z,Z,Z,Z,Z,Z,Z,Z,Z,Z,Z,Z,Z,Z,Z,Z,Z,Z,Z], [])
def Ym_ : List Nat := KL true [1,1,3,1,2,3,14]
def Aax_ : Exit → List Nat
  | .exit 0 => KL true [5,1,19]
  | .ret => KL true [4,1,20]
  | _ => []
noncomputable def Qz_ (v144 v145 : List Nat) : LOr := fun id e L =>
  match id with
  | 0 => .need (normA 0 Ym_ e L = some (Hh_ v144 v145 ((gF (vAt e 5)), (gI (vAt e 10))))) (.call (Ox_ v144 v145 ((gF (vAt e 5)), (gI (vAt e 10)))) fun x => .leaf (S3_ v144 v145 x))
  | _ => .fail
noncomputable def Fq_ : List (FuncId × DFn × Bool) := [(27, Kf_, true)]
theorem Xz_ : OrcOk Try.prog (tabD Fq_) (tabM Fq_) := Ae_ Sc_ (Ai_ _)
theorem Aic_ (v144 v145 : List Nat) (s : Nat × Int) : bodyT TT (tabD Fq_) (tabM Fq_) (Qz_ v144 v145) 0 Ym_ Aax_ (Ab_ Try.f26 0) 0 (Hh_ v144 v145 s) = (Gl_ v144 v145 s).bind fun y => .leaf (outS (Hh_ v144 v145) (S3_ v144 v145) y) := by kernel_rfl
theorem Ag2_ (v144 v145 : List Nat) : At_ Try.prog 0 (Qz_ v144 v145) 0 (Ab_ Try.f26 0) := by
  intro e L out h
  exact lo_ok (E := Hh_ v144 v145) (gT := Gl_ v144 v145) (X := S3_ v144 v145) (s0 := ((gF (vAt e 5)), (gI (vAt e 10)))) tok Xz_ mixed (Ad_ (l := []) (by kernel_rfl) trivial) (Aic_ v144 v145) rfl (by intro x; rfl) h
noncomputable def Rt_ (v144 v145 : List Nat) : Tree (Nat) :=
  (.need (some (Hh_ v144 v145 ((0 : Nat), (0 : Int))) = some (Hh_ v144 v145 ((0 : Nat), (0 : Int)))) <|
  (.call (Ox_ v144 v145 ((0 : Nat), (0 : Int))) fun v154 =>
  .leaf v154))
noncomputable def Bt_ (v144 v145 : List Nat) : Option (Nat) := (Rt_ v144 v145).run
def Fs_ (v144 v145 : List Nat) (y : Nat) : Rs := (.flt .f64 y, [])
theorem Aoo_ (v144 v145 : List Nat) : (den TT (tabD Fq_) (tabM Fq_) (Qz_ v144 v145) (Ah_ Try.f26) ([.bslc (BR.root 0) (.f64 v144), .bslc (BR.root 1) (.f64 v145)] ++ List.replicate (Try.f26.ntmps - ([.bslc (BR.root 0) (.f64 v144), .bslc (BR.root 1) (.f64 v145)] : List DV).length) .undef) []).bind (retD TT Try.f26.results.toList 0) = (Rt_ v144 v145).bind fun y => .leaf (Fs_ v144 v145 y) := by kernel_rfl
theorem Amx_ (v144 v145 : List Nat) (F : Fr) (h0 : St F [] F.H0) (hA : DVs.Ok F [] [.bslc (BR.root 0) (.f64 v144), .bslc (BR.root 1) (.f64 v145)]) {y : Nat} (hy : Bt_ v144 v145 = some y) : ∃ F' H', Fwd 0 F F' [] (Fs_ v144 v145 y).2 ∧ FnOk Try.prog 26 (DVs.av F [.bslc (BR.root 0) (.f64 v144), .bslc (BR.root 1) (.f64 v145)]) F.H0 ((Fs_ v144 v145 y).1.av F') H' ∧ St F' (Fs_ v144 v145 y).2 H' ∧ (Fs_ v144 v145 y).1.Ok F' (Fs_ v144 v145 y).2 :=
  Aj_ tok Xz_ mixed Try.func26 Try.call26 (by kernel_rfl) (Ad_ (l := [(0, Ab_ Try.f26 0)]) (by kernel_rfl) ⟨Ag2_ v144 v145, trivial⟩) (Aoo_ v144 v145) hy h0 hA
noncomputable def M7_ : DFn := fun args L =>
  match args with
  | [a1, a2] =>
    optT (Km_ L a1) fun v144 =>
    optT (Km_ L a2) fun v145 =>
    .call (Bt_ v144 v145) fun y => .leaf (.flt .f64 y, L)
  | _ => .fail
theorem V8_ : COk Try.prog 26 M7_ true := by
  intro F L H args r L' hs ha hr
  unfold M7_ at hr
  split at hr
  · rename_i a1 a2
    obtain ⟨v144, hv144, hr⟩ := Aa_ hr
    obtain ⟨v145, hv145, hr⟩ := Aa_ hr
    simp only [Tree.run] at hr
    obtain ⟨y, hy, hr⟩ := Option.bind_eq_some_iff.1 hr
    simp only [Tree.run, Option.some.injEq, Prod.mk.injEq] at hr
    obtain ⟨rfl, rfl⟩ := hr
    exact Aw_ hs (fun k => (([a1.av F, a2.av F] : List AV)[k]?).getD .top) [a1, a2] [.bslc (BR.root 0) (.f64 v144), .bslc (BR.root 1) (.f64 v145)] (fun F' h0 hi hρ => ⟨by simp [DVs.av, DV.av, BR.av, hρ], Amx_ v144 v145 F' (Ak_ hi) ⟨Ag_ hi (by rw [h0, hρ]; exact S1_ hs (DVs.okAt ha 0 rfl) hv144), Ag_ hi (by rw [h0, hρ]; exact S1_ hs (DVs.okAt ha 1 rfl) hv145), trivial⟩ hy⟩) rfl
  · cases hr
noncomputable def It_ (v474 v475 : Int) (v477 : List (List Nat)) (v478 : List Nat) (v479 : List (List Nat)) (v480 : List Nat) (v482 : List Int) (s : Int × (List Nat)) : Tree ((Int × (List Nat)) ⊕ ((List Nat))) :=
  (.br (decide (s.1 < v475)) (
  (.grd (inb s.1 ((v482).length)) <|
  (.grd (fits (s.2 ++ ([Bm_ .f64 (nth v482 (Int.toNat s.1))] : List Nat)).length) <|
  .leaf (.inl (IntKind.i64.wrap (s.1 + (1 : Int)), s.2 ++ ([Bm_ .f64 (nth v482 (Int.toNat s.1))] : List Nat)))))
  ) (
  .leaf (.inr s.2)
  ))
noncomputable def Qn_ (v474 v475 : Int) (v477 : List (List Nat)) (v478 : List Nat) (v479 : List (List Nat)) (v480 : List Nat) (v482 : List Int) (s0 : Int × (List Nat)) : Option ((List Nat)) := Af_ (fun s => (It_ v474 v475 v477 v478 v479 v480 v482 s).run) s0
def F7_ (v113 v114 : Int) (v115 : List Int) (v474 v475 : Int) (v477 : List (List Nat)) (v478 : List Nat) (v479 : List (List Nat)) (v480 : List Nat) (v482 : List Int) (s : Int × (List Nat)) : Sd := ([Z,.ptr 0 (0 : Nat) 0 (3 : Nat),Z,Z,Z,.nest 1 0 1 ((v478).length),.nest 2 0 1 ((v480).length),Z,.own 3 0 ((s.2).length),Z,Z,Z,Z,Z,Z,Z,Z,Z,Z,Z,.int .i64 v113,.int .i64 v474,Z,Z,Z,Z,Z,.own 4 0 ((v482).length),.int .i64 v475,.int .i64 s.1,Z,Z,Z,Z,Z,Z,Z,Z,Z,Z,Z,Z,Z,Z,Z,Z,Z,Z,Z,Z,Z,Z,Z,Z,Z,Z,Z,Z,Z,Z,Z,Z,Z,Z,Z,Z,Z,Z,Z,Z,Z,Z,Z,Z,Z,Z,Z,Z,Z,Z,Z,Z,Z,Z,Z,Z,Z,Z,Z,Z,Z,Z,Z,Z], [.gen [.int .i64 v113, .int .i64 v114, .bslc (BR.root 0) (.i64 v115)] false 0, .nest [.sl (.f64 v477) v478] false 0, .nest [.sl (.f64 v479) v480] false 0, .row (.f64 s.2) 0, .row (.i64 v482) 0])
def S0_ (v113 v114 : Int) (v115 : List Int) (v474 v475 : Int) (v477 : List (List Nat)) (v478 : List Nat) (v479 : List (List Nat)) (v480 : List Nat) (v482 : List Int) (x : (List Nat)) : Out := (.normal, [Z,.ptr 0 (0 : Nat) 0 (3 : Nat),Z,Z,Z,.nest 1 0 1 ((v478).length),.nest 2 0 1 ((v480).length),Z,.own 3 0 ((x).length),Z,Z,Z,Z,Z,Z,Z,Z,Z,Z,Z,.int .i64 v113,.int .i64 v474,Z,Z,Z,Z,Z,Z,Z,Z,Z,Z,Z,Z,Z,Z,Z,Z,Z,Z,Z,Z,Z,Z,Z,Z,Z,Z,Z,Z,Z,Z,Z,Z,Z,Z,Z,Z,Z,Z,Z,Z,Z,Z,Z,Z,Z,Z,Z,Z,Z,Z,Z,Z,Z,Z,Z,Z,Z,Z,Z,Z,Z,Z,Z,Z,Z,Z,Z,Z,Z,Z,Z,Z], [.gen [.int .i64 v113, .int .i64 v114, .bslc (BR.root 0) (.i64 v115)] false 0, .nest [.sl (.f64 v477) v478] false 0, .nest [.sl (.f64 v479) v480] false 0, .row (.f64 x) 0])
def Vo_ : List Nat := KL true [1,1,3,2,1,1,11,2,5,3,64]
def Apt_ : Exit → List Nat
  | .exit 0 => KL true [5,2,87]
  | .exit 1 => KL true [1,1,3,2,13,2,72]
  | .exit 2 => KL true [1,1,3,2,1,1,11,2,72]
  | .ret => KL true [2,3,89]
  | _ => []
noncomputable def Fr_ (v631 v632 : Nat) (v633 v634 v635 v636 : Int) (v638 : List (List Nat)) (v639 : List Nat) (v640 : List (List Nat)) (v641 v642 v644 : List Nat) (s : Int × (List Nat)) : Tree ((Int × (List Nat)) ⊕ ((List Nat))) :=
  (.br (decide (s.1 < v636)) (
  (.grd (inb s.1 ((s.2).length)) <|
  (.grd (inb s.1 ((nget v638 v631).length)) <|
  (.grd (inb s.1 ((s.2).length)) <|
  .leaf (.inl (IntKind.i64.wrap (s.1 + (1 : Int)), List.set s.2 (Int.toNat s.1) (fsub .f64 (nth s.2 (Int.toNat s.1)) (Bu_ v632 (nth (nget v638 v631) (Int.toNat s.1)))))))))
  ) (
  .leaf (.inr s.2)
  ))
noncomputable def St_ (v631 v632 : Nat) (v633 v634 v635 v636 : Int) (v638 : List (List Nat)) (v639 : List Nat) (v640 : List (List Nat)) (v641 v642 v644 : List Nat) (s0 : Int × (List Nat)) : Option ((List Nat)) := Af_ (fun s => (Fr_ v631 v632 v633 v634 v635 v636 v638 v639 v640 v641 v642 v644 s).run) s0
def Ij_ (v113 v114 : Int) (v115 : List Int) (v631 v632 : Nat) (v633 v634 v635 v636 : Int) (v638 : List (List Nat)) (v639 : List Nat) (v640 : List (List Nat)) (v641 v642 v644 : List Nat) (s : Int × (List Nat)) : Sd := ([Z,.ptr 0 (0 : Nat) 0 (3 : Nat),Z,Z,Z,.nest 1 0 1 ((v639).length),.nest 2 0 1 ((v641).length),Z,.own 3 0 ((v642).length),Z,Z,.own 4 0 ((s.2).length),.own 5 0 ((v644).length),Z,.inn 1 0 v631 ((nget v638 v631).length),.flt .f64 v632,Z,Z,Z,Z,.int .i64 v113,.int .i64 v633,Z,Z,Z,Z,Z,Z,Z,Z,Z,Z,Z,Z,Z,Z,Z,Z,Z,Z,Z,Z,.nest 1 0 1 ((v639).length),.int .i64 v634,.int .i64 v635,Z,Z,Z,Z,Z,Z,Z,Z,Z,Z,Z,.int .i64 v636,.int .i64 s.1,Z,Z,Z,Z,Z,Z,Z,Z,Z,Z,Z,Z,Z,Z,Z,Z,Z,Z,Z,Z,Z,Z,Z,Z,Z,Z,Z,Z,Z,Z,Z,Z,Z,Z,Z,Z], [.gen [.int .i64 v113, .int .i64 v114, .bslc (BR.root 0) (.i64 v115)] false 0, .nest [.sl (.f64 v638) v639] false 0, .nest [.sl (.f64 v640) v641] false 0, .row (.f64 v642) 0, .row (.f64 s.2) 0, .row (.f64 v644) 0])
def Pn_ (v113 v114 : Int) (v115 : List Int) (v631 v632 : Nat) (v633 v634 v635 v636 : Int) (v638 : List (List Nat)) (v639 : List Nat) (v640 : List (List Nat)) (v641 v642 v644 : List Nat) (x : (List Nat)) : Out := (.normal, [Z,.ptr 0 (0 : Nat) 0 (3 : Nat),Z,Z,Z,.nest 1 0 1 ((v639).length),.nest 2 0 1 ((v641).length),Z,.own 3 0 ((v642).length),Z,Z,.own 4 0 ((x).length),.own 5 0 ((v644).length),Z,Z,.flt .f64 v632,Z,Z,Z,Z,.int .i64 v113,.int .i64 v633,Z,Z,Z,Z,Z,Z,Z,Z,Z,Z,Z,Z,Z,Z,Z,Z,Z,Z,Z,Z,.nest 1 0 1 ((v639).length),.int .i64 v634,.int .i64 v635,Z,Z,Z,Z,Z,Z,Z,Z,Z,Z,Z,Z,Z,Z,Z,Z,Z,Z,Z,Z,Z,Z,Z,Z,Z,Z,Z,Z,Z,Z,Z,Z,Z,Z,Z,Z,Z,Z,Z,Z,Z,Z,Z,Z,Z,Z,Z,Z,Z], [.gen [.int .i64 v113, .int .i64 v114, .bslc (BR.root 0) (.i64 v115)] false 0, .nest [.sl (.f64 v638) v639] false 0, .nest [.sl (.f64 v640) v641] false 0, .row (.f64 v642) 0, .row (.f64 x) 0, .row (.f64 v644) 0])
def Yg_ : List Nat := KL true [1,1,3,2,1,1,2,2,1,2,4,2,20,3,11,2,36]
def Aml_ : Exit → List Nat
  | .exit 0 => KL true [5,2,87]
  | .exit 1 => KL true [1,1,3,2,13,2,72]
  | .exit 4 => KL true [1,1,3,2,4,2,7,2,72]
  | .exit 5 => KL true [1,1,3,2,1,1,2,2,7,2,20,3,49]
  | .exit 6 => KL true [1,1,3,2,1,1,2,2,2,1,4,2,20,3,49]
  | .ret => KL true [2,3,89]
  | _ => []
noncomputable def Fv_ (v113 v114 : Int) (v115 : List Int) (v591 v592 : Int) (v594 : List (List Nat)) (v595 : List Nat) (v596 : List (List Nat)) (v597 v598 : List Nat) (s : Int × (List Nat) × (List Nat)) : Tree ((Int × (List Nat) × (List Nat)) ⊕ ((List Nat) × (List Nat))) :=
  (.br (decide (s.1 < v592)) (
  (.grd (inb s.1 ((v595).length)) <|
  (.call (Bt_ v598 (nget v594 (nth v595 (Int.toNat s.1)))) fun v601 =>
  (.call (Bt_ (nget v594 (nth v595 (Int.toNat s.1))) (nget v594 (nth v595 (Int.toNat s.1)))) fun v602 =>
  (.need (some (Ij_ v113 v114 v115 (nth v595 (Int.toNat s.1)) (fdiv .f64 v601 v602) v591 v592 s.1 (((s.2.1).length : Nat) : Int) v594 v595 v596 v597 v598 s.2.2 ((0 : Int), s.2.1)) = some (Ij_ v113 v114 v115 (nth v595 (Int.toNat s.1)) (fdiv .f64 v601 v602) v591 v592 s.1 (((s.2.1).length : Nat) : Int) v594 v595 v596 v597 v598 s.2.2 ((0 : Int), s.2.1))) <|
  (.call (St_ (nth v595 (Int.toNat s.1)) (fdiv .f64 v601 v602) v591 v592 s.1 (((s.2.1).length : Nat) : Int) v594 v595 v596 v597 v598 s.2.2 ((0 : Int), s.2.1)) fun v645 =>
  (.grd (fits (s.2.2 ++ ([(fdiv .f64 v601 v602)] : List Nat)).length) <|
  .leaf (.inl (IntKind.i64.wrap (s.1 + (1 : Int)), v645, s.2.2 ++ ([(fdiv .f64 v601 v602)] : List Nat)))))))))
  ) (
  .leaf (.inr (s.2.1, s.2.2))
  ))
noncomputable def Ot_ (v113 v114 : Int) (v115 : List Int) (v591 v592 : Int) (v594 : List (List Nat)) (v595 : List Nat) (v596 : List (List Nat)) (v597 v598 : List Nat) (s0 : Int × (List Nat) × (List Nat)) : Option ((List Nat) × (List Nat)) := Af_ (fun s => (Fv_ v113 v114 v115 v591 v592 v594 v595 v596 v597 v598 s).run) s0
def Ha_ (v113 v114 : Int) (v115 : List Int) (v591 v592 : Int) (v594 : List (List Nat)) (v595 : List Nat) (v596 : List (List Nat)) (v597 v598 : List Nat) (s : Int × (List Nat) × (List Nat)) : Sd := ([Z,.ptr 0 (0 : Nat) 0 (3 : Nat),Z,Z,Z,.nest 1 0 1 ((v595).length),.nest 2 0 1 ((v597).length),Z,.own 3 0 ((v598).length),Z,Z,.own 4 0 ((s.2.1).length),.own 5 0 ((s.2.2).length),Z,Z,Z,Z,Z,Z,Z,.int .i64 v113,.int .i64 v591,Z,Z,Z,Z,Z,Z,Z,Z,Z,Z,Z,Z,Z,Z,Z,Z,Z,Z,Z,Z,.nest 1 0 1 ((v595).length),.int .i64 v592,.int .i64 s.1,Z,Z,Z,Z,Z,Z,Z,Z,Z,Z,Z,Z,Z,Z,Z,Z,Z,Z,Z,Z,Z,Z,Z,Z,Z,Z,Z,Z,Z,Z,Z,Z,Z,Z,Z,Z,Z,Z,Z,Z,Z,Z,Z,Z,Z,Z,Z,Z,Z], [.gen [.int .i64 v113, .int .i64 v114, .bslc (BR.root 0) (.i64 v115)] false 0, .nest [.sl (.f64 v594) v595] false 0, .nest [.sl (.f64 v596) v597] false 0, .row (.f64 v598) 0, .row (.f64 s.2.1) 0, .row (.f64 s.2.2) 0])
def Ru_ (v113 v114 : Int) (v115 : List Int) (v591 v592 : Int) (v594 : List (List Nat)) (v595 : List Nat) (v596 : List (List Nat)) (v597 v598 : List Nat) (x : (List Nat) × (List Nat)) : Out := (.normal, [Z,.ptr 0 (0 : Nat) 0 (3 : Nat),Z,Z,Z,.nest 1 0 1 ((v595).length),.nest 2 0 1 ((v597).length),Z,Z,Z,Z,.own 3 0 ((x.1).length),.own 4 0 ((x.2).length),Z,Z,Z,Z,Z,Z,Z,.int .i64 v113,.int .i64 v591,Z,Z,Z,Z,Z,Z,Z,Z,Z,Z,Z,Z,Z,Z,Z,Z,Z,Z,Z,Z,Z,Z,Z,Z,Z,Z,Z,Z,Z,Z,Z,Z,Z,Z,Z,Z,Z,Z,Z,Z,Z,Z,Z,Z,Z,Z,Z,Z,Z,Z,Z,Z,Z,Z,Z,Z,Z,Z,Z,Z,Z,Z,Z,Z,Z,Z,Z,Z,Z,Z,Z,Z], [.gen [.int .i64 v113, .int .i64 v114, .bslc (BR.root 0) (.i64 v115)] false 0, .nest [.sl (.f64 v594) v595] false 0, .nest [.sl (.f64 v596) v597] false 0, .row (.f64 x.1) 0, .row (.f64 x.2) 0])
def Yp_ : List Nat := KL true [1,1,3,2,1,1,2,2,7,2,20,3,49]
def Adj_ : Exit → List Nat
  | .exit 0 => KL true [5,2,87]
  | .exit 1 => KL true [1,1,3,2,13,2,72]
  | .exit 4 => KL true [1,1,3,2,4,2,7,2,72]
  | .ret => KL true [2,3,89]
  | _ => []
noncomputable def El_ (v113 v114 : Int) (v115 : List Int) (s : Int × (List (List Nat)) × (List Nat) × (List (List Nat)) × (List Nat)) : Tree ((Int × (List (List Nat)) × (List Nat) × (List (List Nat)) × (List Nat)) ⊕ ((Unit) ⊕ ((List (List Nat)) × (List Nat) × (List (List Nat)) × (List Nat)))) :=
  (.br (decide (s.1 < v113)) (
  (.call (Jx_ v114 v115 s.1) fun v456 =>
  (.need (some (F7_ v113 v114 v115 s.1 (((([] : List Int) ++ (AM.sub v115 (IntKind.i64.wrap (s.1 * v114)) (IntKind.i64.wrap ((IntKind.i64.wrap (s.1 + (1 : Int))) * v114)))).length : Nat) : Int) s.2.1 s.2.2.1 s.2.2.2.1 s.2.2.2.2 (([] : List Int) ++ (AM.sub v115 (IntKind.i64.wrap (s.1 * v114)) (IntKind.i64.wrap ((IntKind.i64.wrap (s.1 + (1 : Int))) * v114)))) ((0 : Int), ([] : List Nat))) = some (F7_ v113 v114 v115 s.1 (((([] : List Int) ++ (AM.sub v115 (IntKind.i64.wrap (s.1 * v114)) (IntKind.i64.wrap ((IntKind.i64.wrap (s.1 + (1 : Int))) * v114)))).length : Nat) : Int) s.2.1 s.2.2.1 s.2.2.2.1 s.2.2.2.2 (([] : List Int) ++ (AM.sub v115 (IntKind.i64.wrap (s.1 * v114)) (IntKind.i64.wrap ((IntKind.i64.wrap (s.1 + (1 : Int))) * v114)))) ((0 : Int), ([] : List Nat)))) <|
  (.call (Qn_ s.1 (((([] : List Int) ++ (AM.sub v115 (IntKind.i64.wrap (s.1 * v114)) (IntKind.i64.wrap ((IntKind.i64.wrap (s.1 + (1 : Int))) * v114)))).length : Nat) : Int) s.2.1 s.2.2.1 s.2.2.2.1 s.2.2.2.2 (([] : List Int) ++ (AM.sub v115 (IntKind.i64.wrap (s.1 * v114)) (IntKind.i64.wrap ((IntKind.i64.wrap (s.1 + (1 : Int))) * v114)))) ((0 : Int), ([] : List Nat))) fun v483 =>
  (.call (Jq_ v483) fun v484 =>
  (.need (some (Ha_ v113 v114 v115 s.1 (((s.2.2.1).length : Nat) : Int) s.2.1 s.2.2.1 s.2.2.2.1 s.2.2.2.2 v483 ((0 : Int), ([] : List Nat) ++ v483, ([] : List Nat))) = some (Ha_ v113 v114 v115 s.1 (((s.2.2.1).length : Nat) : Int) s.2.1 s.2.2.1 s.2.2.2.1 s.2.2.2.2 v483 ((0 : Int), ([] : List Nat) ++ v483, ([] : List Nat)))) <|
  (.call (Ot_ v113 v114 v115 s.1 (((s.2.2.1).length : Nat) : Int) s.2.1 s.2.2.1 s.2.2.2.1 s.2.2.2.2 v483 ((0 : Int), ([] : List Nat) ++ v483, ([] : List Nat))) fun v646 =>
  (.call (Bt_ v646.1 v646.1) fun v647 =>
  (.br (!(fgrt .f64 v647 (0 : Nat))) (
  .leaf (.inr (.inl ()))
  ) (
  (.grd (fits (((s.2.2.1).length) + (1 : Nat))) <|
  (.grd (fits (((s.2.2.2.2).length) + (1 : Nat))) <|
  .leaf (.inl (IntKind.i64.wrap (s.1 + (1 : Int)), s.2.1 ++ ([v646.1] : List (List Nat)), s.2.2.1 ++ [s.2.1.length + 1], s.2.2.2.1 ++ ([v646.2] : List (List Nat)), s.2.2.2.2 ++ [s.2.2.2.1.length + 1]))))
  )))))))))
  ) (
  .leaf (.inr (.inr (s.2.1, s.2.2.1, s.2.2.2.1, s.2.2.2.2)))
  ))
noncomputable def Qb_ (v113 v114 : Int) (v115 : List Int) (s0 : Int × (List (List Nat)) × (List Nat) × (List (List Nat)) × (List Nat)) : Option ((Unit) ⊕ ((List (List Nat)) × (List Nat) × (List (List Nat)) × (List Nat))) := Af_ (fun s => (El_ v113 v114 v115 s).run) s0
def Fu_ (v113 v114 : Int) (v115 : List Int) (s : Int × (List (List Nat)) × (List Nat) × (List (List Nat)) × (List Nat)) : Sd := ([Z,.ptr 0 (0 : Nat) 0 (3 : Nat),Z,Z,Z,.nest 1 0 1 ((s.2.2.1).length),.nest 2 0 1 ((s.2.2.2.2).length),Z,Z,Z,Z,Z,Z,Z,Z,Z,Z,Z,Z,Z,.int .i64 v113,.int .i64 s.1,Z,Z,Z,Z,Z,Z,Z,Z,Z,Z,Z,Z,Z,Z,Z,Z,Z,Z,Z,Z,Z,Z,Z,Z,Z,Z,Z,Z,Z,Z,Z,Z,Z,Z,Z,Z,Z,Z,Z,Z,Z,Z,Z,Z,Z,Z,Z,Z,Z,Z,Z,Z,Z,Z,Z,Z,Z,Z,Z,Z,Z,Z,Z,Z,Z,Z,Z,Z,Z,Z,Z,Z], [.gen [.int .i64 v113, .int .i64 v114, .bslc (BR.root 0) (.i64 v115)] false 0, .nest [.sl (.f64 s.2.1) s.2.2.1] false 0, .nest [.sl (.f64 s.2.2.2.1) s.2.2.2.2] false 0])
def Nn_ (v113 v114 : Int) (v115 : List Int) (x : (Unit) ⊕ ((List (List Nat)) × (List Nat) × (List (List Nat)) × (List Nat))) : Out := (match x with | .inl x => (.ret, [Z,Z,.nilslc,.nilslc,.lit false,Z,Z,Z,Z,Z,Z,Z,Z,Z,Z,Z,Z,Z,Z,Z,Z,Z,Z,Z,Z,Z,Z,Z,Z,Z,Z,Z,Z,Z,Z,Z,Z,Z,Z,Z,Z,Z,Z,Z,Z,Z,Z,Z,Z,Z,Z,Z,Z,Z,Z,Z,Z,Z,Z,Z,Z,Z,Z,Z,Z,Z,Z,Z,Z,Z,Z,Z,Z,Z,Z,Z,Z,Z,Z,Z,Z,Z,Z,Z,Z,Z,Z,Z,Z,Z,Z,Z,Z,Z], []) | .inr x => (.normal, [Z,Z,Z,Z,Z,.nest 0 0 1 ((x.2.1).length),.nest 1 0 1 ((x.2.2.2).length),Z,Z,Z,Z,Z,Z,Z,Z,Z,Z,Z,Z,Z,Z,Z,Z,Z,Z,Z,Z,Z,Z,Z,Z,Z,Z,Z,Z,Z,Z,Z,Z,Z,Z,Z,Z,Z,Z,Z,Z,Z,Z,Z,Z,Z,Z,Z,Z,Z,Z,Z,Z,Z,Z,Z,Z,Z,Z,Z,Z,Z,Z,Z,Z,Z,Z,Z,Z,Z,Z,Z,Z,Z,Z,Z,Z,Z,Z,Z,Z,Z,Z,Z,Z,Z,Z,Z], [.nest [.sl (.f64 x.1) x.2.1] false 0, .nest [.sl (.f64 x.2.2.1) x.2.2.2] false 0]))
def T7_ : List Nat := KL true [1,1,3,2,13,2,72]
def Aa6_ : Exit → List Nat
  | .exit 0 => KL true [5,2,87]
  | .ret => KL true [2,3,89]
  | _ => []
noncomputable def De_ (v113 v114 : Int) (v115 : List Int) : LOr := fun id e L =>
  match id with
  | 2 => .need (normA 0 Vo_ e L = some (F7_ v113 v114 v115 (gI (vAt e 21)) (gI (vAt e 28)) (gPF L (vAt e 5) 0) (gX L (vAt e 5) 0) (gPF L (vAt e 6) 0) (gX L (vAt e 6) 0) (gRI L (vAt e 27)) ((gI (vAt e 29)), (gRF L (vAt e 8))))) (.call (Qn_ (gI (vAt e 21)) (gI (vAt e 28)) (gPF L (vAt e 5) 0) (gX L (vAt e 5) 0) (gPF L (vAt e 6) 0) (gX L (vAt e 6) 0) (gRI L (vAt e 27)) ((gI (vAt e 29)), (gRF L (vAt e 8)))) fun x => .leaf (S0_ v113 v114 v115 (gI (vAt e 21)) (gI (vAt e 28)) (gPF L (vAt e 5) 0) (gX L (vAt e 5) 0) (gPF L (vAt e 6) 0) (gX L (vAt e 6) 0) (gRI L (vAt e 27)) x))
  | 6 => .need (normA 0 Yg_ e L = some (Ij_ v113 v114 v115 (gK (vAt e 14)) (gF (vAt e 15)) (gI (vAt e 21)) (gI (vAt e 43)) (gI (vAt e 44)) (gI (vAt e 56)) (gPF L (vAt e 5) 0) (gX L (vAt e 5) 0) (gPF L (vAt e 6) 0) (gX L (vAt e 6) 0) (gRF L (vAt e 8)) (gRF L (vAt e 12)) ((gI (vAt e 57)), (gRF L (vAt e 11))))) (.call (St_ (gK (vAt e 14)) (gF (vAt e 15)) (gI (vAt e 21)) (gI (vAt e 43)) (gI (vAt e 44)) (gI (vAt e 56)) (gPF L (vAt e 5) 0) (gX L (vAt e 5) 0) (gPF L (vAt e 6) 0) (gX L (vAt e 6) 0) (gRF L (vAt e 8)) (gRF L (vAt e 12)) ((gI (vAt e 57)), (gRF L (vAt e 11)))) fun x => .leaf (Pn_ v113 v114 v115 (gK (vAt e 14)) (gF (vAt e 15)) (gI (vAt e 21)) (gI (vAt e 43)) (gI (vAt e 44)) (gI (vAt e 56)) (gPF L (vAt e 5) 0) (gX L (vAt e 5) 0) (gPF L (vAt e 6) 0) (gX L (vAt e 6) 0) (gRF L (vAt e 8)) (gRF L (vAt e 12)) x))
  | 4 => .need (normA 0 Yp_ e L = some (Ha_ v113 v114 v115 (gI (vAt e 21)) (gI (vAt e 43)) (gPF L (vAt e 5) 0) (gX L (vAt e 5) 0) (gPF L (vAt e 6) 0) (gX L (vAt e 6) 0) (gRF L (vAt e 8)) ((gI (vAt e 44)), (gRF L (vAt e 11)), (gRF L (vAt e 12))))) (.call (Ot_ v113 v114 v115 (gI (vAt e 21)) (gI (vAt e 43)) (gPF L (vAt e 5) 0) (gX L (vAt e 5) 0) (gPF L (vAt e 6) 0) (gX L (vAt e 6) 0) (gRF L (vAt e 8)) ((gI (vAt e 44)), (gRF L (vAt e 11)), (gRF L (vAt e 12)))) fun x => .leaf (Ru_ v113 v114 v115 (gI (vAt e 21)) (gI (vAt e 43)) (gPF L (vAt e 5) 0) (gX L (vAt e 5) 0) (gPF L (vAt e 6) 0) (gX L (vAt e 6) 0) (gRF L (vAt e 8)) x))
  | 0 => .need (normA 0 T7_ e L = some (Fu_ v113 v114 v115 ((gI (vAt e 21)), (gPF L (vAt e 5) 0), (gX L (vAt e 5) 0), (gPF L (vAt e 6) 0), (gX L (vAt e 6) 0)))) (.call (Qb_ v113 v114 v115 ((gI (vAt e 21)), (gPF L (vAt e 5) 0), (gX L (vAt e 5) 0), (gPF L (vAt e 6) 0), (gX L (vAt e 6) 0))) fun x => .sum x (fun b0 => .leaf (Nn_ v113 v114 v115 (.inl b0))) (fun c0 => .leaf (Nn_ v113 v114 v115 (.inr c0))))
  | _ => .fail
noncomputable def Cb_ : List (FuncId × DFn × Bool) := [(51, Pc_, true), (52, Ta_, true), (26, M7_, true), (27, Kf_, true)]
theorem Jz_ : OrcOk Try.prog (tabD Cb_) (tabM Cb_) := Ae_ Aaz_ (Ae_ Agb_ (Ae_ V8_ (Ae_ Sc_ (Ai_ _))))
theorem Acg_ (v113 v114 : Int) (v115 : List Int) (v474 v475 : Int) (v477 : List (List Nat)) (v478 : List Nat) (v479 : List (List Nat)) (v480 : List Nat) (v482 : List Int) (s : Int × (List Nat)) : bodyT TT (tabD Cb_) (tabM Cb_) (De_ v113 v114 v115) 0 Vo_ Apt_ (Ab_ Try.f23 2) 2 (F7_ v113 v114 v115 v474 v475 v477 v478 v479 v480 v482 s) = (It_ v474 v475 v477 v478 v479 v480 v482 s).bind fun y => .leaf (outS (F7_ v113 v114 v115 v474 v475 v477 v478 v479 v480 v482) (S0_ v113 v114 v115 v474 v475 v477 v478 v479 v480 v482) y) := by kernel_rfl
theorem Amy_ (v113 v114 : Int) (v115 : List Int) : At_ Try.prog 0 (De_ v113 v114 v115) 2 (Ab_ Try.f23 2) := by
  intro e L out h
  exact lo_ok (E := F7_ v113 v114 v115 (gI (vAt e 21)) (gI (vAt e 28)) (gPF L (vAt e 5) 0) (gX L (vAt e 5) 0) (gPF L (vAt e 6) 0) (gX L (vAt e 6) 0) (gRI L (vAt e 27))) (gT := It_ (gI (vAt e 21)) (gI (vAt e 28)) (gPF L (vAt e 5) 0) (gX L (vAt e 5) 0) (gPF L (vAt e 6) 0) (gX L (vAt e 6) 0) (gRI L (vAt e 27))) (X := S0_ v113 v114 v115 (gI (vAt e 21)) (gI (vAt e 28)) (gPF L (vAt e 5) 0) (gX L (vAt e 5) 0) (gPF L (vAt e 6) 0) (gX L (vAt e 6) 0) (gRI L (vAt e 27))) (s0 := ((gI (vAt e 29)), (gRF L (vAt e 8)))) tok Jz_ mixed (Ad_ (l := []) (by kernel_rfl) trivial) (Acg_ v113 v114 v115 (gI (vAt e 21)) (gI (vAt e 28)) (gPF L (vAt e 5) 0) (gX L (vAt e 5) 0) (gPF L (vAt e 6) 0) (gX L (vAt e 6) 0) (gRI L (vAt e 27))) rfl (by intro x; rfl) h
theorem Ack_ (v113 v114 : Int) (v115 : List Int) (v631 v632 : Nat) (v633 v634 v635 v636 : Int) (v638 : List (List Nat)) (v639 : List Nat) (v640 : List (List Nat)) (v641 v642 v644 : List Nat) (s : Int × (List Nat)) : bodyT TT (tabD Cb_) (tabM Cb_) (De_ v113 v114 v115) 0 Yg_ Aml_ (Ab_ Try.f23 6) 6 (Ij_ v113 v114 v115 v631 v632 v633 v634 v635 v636 v638 v639 v640 v641 v642 v644 s) = (Fr_ v631 v632 v633 v634 v635 v636 v638 v639 v640 v641 v642 v644 s).bind fun y => .leaf (outS (Ij_ v113 v114 v115 v631 v632 v633 v634 v635 v636 v638 v639 v640 v641 v642 v644) (Pn_ v113 v114 v115 v631 v632 v633 v634 v635 v636 v638 v639 v640 v641 v642 v644) y) := by kernel_rfl
theorem Ajk_ (v113 v114 : Int) (v115 : List Int) : At_ Try.prog 0 (De_ v113 v114 v115) 6 (Ab_ Try.f23 6) := by
  intro e L out h
  exact lo_ok (E := Ij_ v113 v114 v115 (gK (vAt e 14)) (gF (vAt e 15)) (gI (vAt e 21)) (gI (vAt e 43)) (gI (vAt e 44)) (gI (vAt e 56)) (gPF L (vAt e 5) 0) (gX L (vAt e 5) 0) (gPF L (vAt e 6) 0) (gX L (vAt e 6) 0) (gRF L (vAt e 8)) (gRF L (vAt e 12))) (gT := Fr_ (gK (vAt e 14)) (gF (vAt e 15)) (gI (vAt e 21)) (gI (vAt e 43)) (gI (vAt e 44)) (gI (vAt e 56)) (gPF L (vAt e 5) 0) (gX L (vAt e 5) 0) (gPF L (vAt e 6) 0) (gX L (vAt e 6) 0) (gRF L (vAt e 8)) (gRF L (vAt e 12))) (X := Pn_ v113 v114 v115 (gK (vAt e 14)) (gF (vAt e 15)) (gI (vAt e 21)) (gI (vAt e 43)) (gI (vAt e 44)) (gI (vAt e 56)) (gPF L (vAt e 5) 0) (gX L (vAt e 5) 0) (gPF L (vAt e 6) 0) (gX L (vAt e 6) 0) (gRF L (vAt e 8)) (gRF L (vAt e 12))) (s0 := ((gI (vAt e 57)), (gRF L (vAt e 11)))) tok Jz_ mixed (Ad_ (l := []) (by kernel_rfl) trivial) (Ack_ v113 v114 v115 (gK (vAt e 14)) (gF (vAt e 15)) (gI (vAt e 21)) (gI (vAt e 43)) (gI (vAt e 44)) (gI (vAt e 56)) (gPF L (vAt e 5) 0) (gX L (vAt e 5) 0) (gPF L (vAt e 6) 0) (gX L (vAt e 6) 0) (gRF L (vAt e 8)) (gRF L (vAt e 12))) rfl (by intro x; rfl) h
theorem Ai8_ (v113 v114 : Int) (v115 : List Int) (v591 v592 : Int) (v594 : List (List Nat)) (v595 : List Nat) (v596 : List (List Nat)) (v597 v598 : List Nat) (s : Int × (List Nat) × (List Nat)) : bodyT TT (tabD Cb_) (tabM Cb_) (De_ v113 v114 v115) 0 Yp_ Adj_ (Ab_ Try.f23 4) 4 (Ha_ v113 v114 v115 v591 v592 v594 v595 v596 v597 v598 s) = (Fv_ v113 v114 v115 v591 v592 v594 v595 v596 v597 v598 s).bind fun y => .leaf (outS (Ha_ v113 v114 v115 v591 v592 v594 v595 v596 v597 v598) (Ru_ v113 v114 v115 v591 v592 v594 v595 v596 v597 v598) y) := by kernel_rfl
theorem Abo_ (v113 v114 : Int) (v115 : List Int) : At_ Try.prog 0 (De_ v113 v114 v115) 4 (Ab_ Try.f23 4) := by
  intro e L out h
  exact lo_ok (E := Ha_ v113 v114 v115 (gI (vAt e 21)) (gI (vAt e 43)) (gPF L (vAt e 5) 0) (gX L (vAt e 5) 0) (gPF L (vAt e 6) 0) (gX L (vAt e 6) 0) (gRF L (vAt e 8))) (gT := Fv_ v113 v114 v115 (gI (vAt e 21)) (gI (vAt e 43)) (gPF L (vAt e 5) 0) (gX L (vAt e 5) 0) (gPF L (vAt e 6) 0) (gX L (vAt e 6) 0) (gRF L (vAt e 8))) (X := Ru_ v113 v114 v115 (gI (vAt e 21)) (gI (vAt e 43)) (gPF L (vAt e 5) 0) (gX L (vAt e 5) 0) (gPF L (vAt e 6) 0) (gX L (vAt e 6) 0) (gRF L (vAt e 8))) (s0 := ((gI (vAt e 44)), (gRF L (vAt e 11)), (gRF L (vAt e 12)))) tok Jz_ mixed (Ad_ (l := [(6, Ab_ Try.f23 6)]) (by kernel_rfl) ⟨Ajk_ v113 v114 v115, trivial⟩) (Ai8_ v113 v114 v115 (gI (vAt e 21)) (gI (vAt e 43)) (gPF L (vAt e 5) 0) (gX L (vAt e 5) 0) (gPF L (vAt e 6) 0) (gX L (vAt e 6) 0) (gRF L (vAt e 8))) rfl (by intro x; rfl) h
theorem Aaq_ (v113 v114 : Int) (v115 : List Int) (s : Int × (List (List Nat)) × (List Nat) × (List (List Nat)) × (List Nat)) : bodyT TT (tabD Cb_) (tabM Cb_) (De_ v113 v114 v115) 0 T7_ Aa6_ (Ab_ Try.f23 0) 0 (Fu_ v113 v114 v115 s) = (El_ v113 v114 v115 s).bind fun y => .leaf (outS (Fu_ v113 v114 v115) (Nn_ v113 v114 v115) y) := by kernel_rfl
theorem Amr_ (v113 v114 : Int) (v115 : List Int) : At_ Try.prog 0 (De_ v113 v114 v115) 0 (Ab_ Try.f23 0) := by
  intro e L out h
  exact lo_ok (E := Fu_ v113 v114 v115) (gT := El_ v113 v114 v115) (X := Nn_ v113 v114 v115) (s0 := ((gI (vAt e 21)), (gPF L (vAt e 5) 0), (gX L (vAt e 5) 0), (gPF L (vAt e 6) 0), (gX L (vAt e 6) 0))) tok Jz_ mixed (Ad_ (l := [(2, Ab_ Try.f23 2), (4, Ab_ Try.f23 4)]) (by kernel_rfl) ⟨Amy_ v113 v114 v115, Abo_ v113 v114 v115, trivial⟩) (Aaq_ v113 v114 v115) rfl (by intro x; (cases x with | inl b => rfl | inr x => exact rfl)) h
noncomputable def Mo_ (v113 v114 : Int) (v115 : List Int) : Tree ((Unit) ⊕ ((List (List Nat)) × (List Nat) × (List (List Nat)) × (List Nat))) :=
  (.need (some (Fu_ v113 v114 v115 ((0 : Int), ([] : List (List Nat)), ([] : List Nat), ([] : List (List Nat)), ([] : List Nat))) = some (Fu_ v113 v114 v115 ((0 : Int), ([] : List (List Nat)), ([] : List Nat), ([] : List (List Nat)), ([] : List Nat)))) <|
  (.call (Qb_ v113 v114 v115 ((0 : Int), ([] : List (List Nat)), ([] : List Nat), ([] : List (List Nat)), ([] : List Nat))) fun v648 =>
  (.sum v648 (fun v649 =>
  .leaf (.inl ())
  ) (fun v650 =>
  .leaf (.inr (v650.1, v650.2.1, v650.2.2.1, v650.2.2.2))
  ))))
noncomputable def Ed_ (v113 v114 : Int) (v115 : List Int) : Option ((Unit) ⊕ ((List (List Nat)) × (List Nat) × (List (List Nat)) × (List Nat))) := (Mo_ v113 v114 v115).run
def Fx_ (v113 v114 : Int) (v115 : List Int) (y : (Unit) ⊕ ((List (List Nat)) × (List Nat) × (List (List Nat)) × (List Nat))) : Rs := (match y with | .inl y => (.tup [.nilslc, .nilslc, .lit false], []) | .inr y => (.tup [.nest 0 0 1 ((y.2.1).length), .nest 1 0 1 ((y.2.2.2).length), .lit true], [.nest [.sl (.f64 y.1) y.2.1] false 0, .nest [.sl (.f64 y.2.2.1) y.2.2.2] false 0]))
theorem Aao_ (v113 v114 : Int) (v115 : List Int) : (den TT (tabD Cb_) (tabM Cb_) (De_ v113 v114 v115) (Ah_ Try.f23) ([.agg [.int .i64 v113, .int .i64 v114, .bslc (BR.root 0) (.i64 v115)]] ++ List.replicate (Try.f23.ntmps - ([.agg [.int .i64 v113, .int .i64 v114, .bslc (BR.root 0) (.i64 v115)]] : List DV).length) .undef) []).bind (retD TT Try.f23.results.toList 0) = (Mo_ v113 v114 v115).bind fun y => .leaf (Fx_ v113 v114 v115 y) := by kernel_rfl
theorem Y2_ (v113 v114 : Int) (v115 : List Int) (F : Fr) (h0 : St F [] F.H0) (hA : DVs.Ok F [] [.agg [.int .i64 v113, .int .i64 v114, .bslc (BR.root 0) (.i64 v115)]]) {y : (Unit) ⊕ ((List (List Nat)) × (List Nat) × (List (List Nat)) × (List Nat))} (hy : Ed_ v113 v114 v115 = some y) : ∃ F' H', Fwd 0 F F' [] (Fx_ v113 v114 v115 y).2 ∧ FnOk Try.prog 23 (DVs.av F [.agg [.int .i64 v113, .int .i64 v114, .bslc (BR.root 0) (.i64 v115)]]) F.H0 ((Fx_ v113 v114 v115 y).1.av F') H' ∧ St F' (Fx_ v113 v114 v115 y).2 H' ∧ (Fx_ v113 v114 v115 y).1.Ok F' (Fx_ v113 v114 v115 y).2 :=
  Aj_ tok Jz_ mixed Try.func23 Try.call23 (by kernel_rfl) (Ad_ (l := [(0, Ab_ Try.f23 0)]) (by kernel_rfl) ⟨Amr_ v113 v114 v115, trivial⟩) (Aao_ v113 v114 v115) hy h0 hA
noncomputable def P1_ : DFn := fun args L =>
  match args with
  | [.agg [.int .i64 v113, .int .i64 v114, a1]] =>
    optT (As_ L a1) fun v115 =>
    .call (Ed_ v113 v114 v115) fun y => .sum y (fun y0 => .leaf (.tup [.nilslc, .nilslc, .lit false], L)) (fun z0 => .leaf (.tup [.nest (L.length + 0) 0 1 ((z0.2.1).length), .nest (L.length + 1) 0 1 ((z0.2.2.2).length), .lit true], L ++ [.nest [.sl (.f64 z0.1) z0.2.1] false 0, .nest [.sl (.f64 z0.2.2.1) z0.2.2.2] false 0]))
  | _ => .fail
theorem Ac3_ : COk Try.prog 23 P1_ true := by
  intro F L H args r L' hs ha hr
  unfold P1_ at hr
  split at hr
  · rename_i v113 v114 a1
    obtain ⟨v115, hv115, hr⟩ := Aa_ hr
    simp only [Tree.run] at hr
    obtain ⟨y, hy, hr⟩ := Option.bind_eq_some_iff.1 hr
    cases y with
    | inl y =>
      simp only [Tree.run, Option.some.injEq, Prod.mk.injEq] at hr
      obtain ⟨rfl, rfl⟩ := hr
      exact Aw_ hs (fun k => (([a1.av F] : List AV)[k]?).getD .top) [.agg [.int .i64 v113, .int .i64 v114, a1]] [.agg [.int .i64 v113, .int .i64 v114, .bslc (BR.root 0) (.i64 v115)]] (fun F' h0 hi hρ => ⟨by simp [DVs.av, DV.av, BR.av, hρ], Y2_ v113 v114 v115 F' (Ak_ hi) ⟨⟨trivial, trivial, Ag_ hi (by rw [h0, hρ]; exact An_ hs (DVs.okAt (DVs.okAt ha 0 rfl) 2 rfl) hv115), trivial⟩, trivial⟩ hy⟩) rfl
    | inr y =>
      simp only [Tree.run, Option.some.injEq, Prod.mk.injEq] at hr
      obtain ⟨rfl, rfl⟩ := hr
      exact Dc_ hs (fun k => (([a1.av F] : List AV)[k]?).getD .top) [.agg [.int .i64 v113, .int .i64 v114, a1]] [.agg [.int .i64 v113, .int .i64 v114, .bslc (BR.root 0) (.i64 v115)]] (fun F' h0 hi hρ => ⟨by simp [DVs.av, DV.av, BR.av, hρ], Y2_ v113 v114 v115 F' (Ak_ hi) ⟨⟨trivial, trivial, Ag_ hi (by rw [h0, hρ]; exact An_ hs (DVs.okAt (DVs.okAt ha 0 rfl) 2 rfl) hv115), trivial⟩, trivial⟩ hy⟩) rfl rfl
  · cases hr
noncomputable def Alw_ (v661 : Nat) : LOr := fun id e L =>
  match id with
  | _ => .fail
noncomputable def Ll_ : List (FuncId × DFn × Bool) := [(53, Pj_, true)]
theorem Ajt_ : OrcOk Try.prog (tabD Ll_) (tabM Ll_) := Ae_ Ab3_ (Ai_ _)
noncomputable def Sl_ (v661 : Nat) : Tree (Nat) :=
  (.grd (!isNan .f64 v661) <|
  .leaf (C3_ v661))
noncomputable def Kv_ (v661 : Nat) : Option (Nat) := (Sl_ v661).run
def Gg_ (v661 y : Nat) : Rs := (.flt .f64 y, [])
theorem Aeo_ (v661 : Nat) : (den TT (tabD Ll_) (tabM Ll_) (Alw_ v661) (Ah_ Try.f24) ([.flt .f64 v661] ++ List.replicate (Try.f24.ntmps - ([.flt .f64 v661] : List DV).length) .undef) []).bind (retD TT Try.f24.results.toList 0) = (Sl_ v661).bind fun y => .leaf (Gg_ v661 y) := by kernel_rfl
theorem Ags_ (v661 : Nat) (F : Fr) (h0 : St F [] F.H0) (hA : DVs.Ok F [] [.flt .f64 v661]) {y : Nat} (hy : Kv_ v661 = some y) : ∃ F' H', Fwd 0 F F' [] (Gg_ v661 y).2 ∧ FnOk Try.prog 24 (DVs.av F [.flt .f64 v661]) F.H0 ((Gg_ v661 y).1.av F') H' ∧ St F' (Gg_ v661 y).2 H' ∧ (Gg_ v661 y).1.Ok F' (Gg_ v661 y).2 :=
  Aj_ tok Ajt_ mixed Try.func24 Try.call24 (by kernel_rfl) (Ad_ (l := []) (by kernel_rfl) trivial) (Aeo_ v661) hy h0 hA
noncomputable def R4_ : DFn := fun args L =>
  match args with
  | [.flt .f64 v661] =>
    .call (Kv_ v661) fun y => .leaf (.flt .f64 y, L)
  | _ => .fail
theorem Ahs_ : COk Try.prog 24 R4_ true := by
  intro F L H args r L' hs ha hr
  unfold R4_ at hr
  split at hr
  · rename_i v661
    simp only [Tree.run] at hr
    obtain ⟨y, hy, hr⟩ := Option.bind_eq_some_iff.1 hr
    simp only [Tree.run, Option.some.injEq, Prod.mk.injEq] at hr
    obtain ⟨rfl, rfl⟩ := hr
    exact Aw_ hs (fun k => (([] : List AV)[k]?).getD .top) [.flt .f64 v661] [.flt .f64 v661] (fun F' h0 hi hρ => ⟨by simp [DVs.av, DV.av, BR.av, hρ], Ags_ v661 F' (Ak_ hi) ⟨trivial, trivial⟩ hy⟩) rfl
  · cases hr
noncomputable def Anl_ (v671 v672 : Int) (v673 : List Int) (v674 v675 : Int) : LOr := fun id e L =>
  match id with
  | _ => .fail
noncomputable def Mz_ : List (FuncId × DFn × Bool) := []
theorem Ahf_ : OrcOk Try.prog (tabD Mz_) (tabM Mz_) := Ai_ _
noncomputable def Sq_ (v672 : Int) (v673 : List Int) (v674 v675 : Int) : Tree (Int) :=
  (.grd (inb (IntKind.i64.wrap ((IntKind.i64.wrap (v674 * v672)) + v675)) v673.length) <|
  .leaf (nth v673 (Int.toNat (IntKind.i64.wrap ((IntKind.i64.wrap (v674 * v672)) + v675)))))
noncomputable def Cl_ (v672 : Int) (v673 : List Int) (v674 v675 : Int) : Option (Int) := (Sq_ v672 v673 v674 v675).run
def Gz_ (v671 v672 : Int) (v673 : List Int) (v674 v675 y : Int) : Rs := (.int .i64 y, [])
theorem Alz_ (v671 v672 : Int) (v673 : List Int) (v674 v675 : Int) : (den TT (tabD Mz_) (tabM Mz_) (Anl_ v671 v672 v673 v674 v675) (Ah_ Try.f33) ([.agg [.int .i64 v671, .int .i64 v672, .bslc (BR.root 0) (.i64 v673)], .int .i64 v674, .int .i64 v675] ++ List.replicate (Try.f33.ntmps - ([.agg [.int .i64 v671, .int .i64 v672, .bslc (BR.root 0) (.i64 v673)], .int .i64 v674, .int .i64 v675] : List DV).length) .undef) []).bind (retD TT Try.f33.results.toList 0) = (Sq_ v672 v673 v674 v675).bind fun y => .leaf (Gz_ v671 v672 v673 v674 v675 y) := by kernel_rfl
theorem Aq6_ (v671 v672 : Int) (v673 : List Int) (v674 v675 : Int) (F : Fr) (h0 : St F [] F.H0) (hA : DVs.Ok F [] [.agg [.int .i64 v671, .int .i64 v672, .bslc (BR.root 0) (.i64 v673)], .int .i64 v674, .int .i64 v675]) {y : Int} (hy : Cl_ v672 v673 v674 v675 = some y) : ∃ F' H', Fwd 0 F F' [] (Gz_ v671 v672 v673 v674 v675 y).2 ∧ FnOk Try.prog 33 (DVs.av F [.agg [.int .i64 v671, .int .i64 v672, .bslc (BR.root 0) (.i64 v673)], .int .i64 v674, .int .i64 v675]) F.H0 ((Gz_ v671 v672 v673 v674 v675 y).1.av F') H' ∧ St F' (Gz_ v671 v672 v673 v674 v675 y).2 H' ∧ (Gz_ v671 v672 v673 v674 v675 y).1.Ok F' (Gz_ v671 v672 v673 v674 v675 y).2 :=
  Aj_ tok Ahf_ mixed Try.func33 Try.call33 (by kernel_rfl) (Ad_ (l := []) (by kernel_rfl) trivial) (Alz_ v671 v672 v673 v674 v675) hy h0 hA
noncomputable def Df_ : DFn := fun args L =>
  match args with
  | [.agg [.int .i64 v671, .int .i64 v672, a1], .int .i64 v674, .int .i64 v675] =>
    optT (As_ L a1) fun v673 =>
    .call (Cl_ v672 v673 v674 v675) fun y => .leaf (.int .i64 y, L)
  | _ => .fail
theorem Gp_ : COk Try.prog 33 Df_ true := by
  intro F L H args r L' hs ha hr
  unfold Df_ at hr
  split at hr
  · rename_i v671 v672 a1 v674 v675
    obtain ⟨v673, hv673, hr⟩ := Aa_ hr
    simp only [Tree.run] at hr
    obtain ⟨y, hy, hr⟩ := Option.bind_eq_some_iff.1 hr
    simp only [Tree.run, Option.some.injEq, Prod.mk.injEq] at hr
    obtain ⟨rfl, rfl⟩ := hr
    exact Aw_ hs (fun k => (([a1.av F] : List AV)[k]?).getD .top) [.agg [.int .i64 v671, .int .i64 v672, a1], .int .i64 v674, .int .i64 v675] [.agg [.int .i64 v671, .int .i64 v672, .bslc (BR.root 0) (.i64 v673)], .int .i64 v674, .int .i64 v675] (fun F' h0 hi hρ => ⟨by simp [DVs.av, DV.av, BR.av, hρ], Aq6_ v671 v672 v673 v674 v675 F' (Ak_ hi) ⟨⟨trivial, trivial, Ag_ hi (by rw [h0, hρ]; exact An_ hs (DVs.okAt (DVs.okAt ha 0 rfl) 2 rfl) hv673), trivial⟩, trivial, trivial, trivial⟩ hy⟩) rfl
  · cases hr
noncomputable def E5_ (v678 v680 v681 v682 : Int) (s : Int × (List Int)) : Tree ((Int × (List Int)) ⊕ ((List Int))) :=
  (.br (decide (s.1 < v678)) (
  (.grd (inb (IntKind.i64.wrap ((IntKind.i64.wrap (v680 * v678)) + s.1)) ((s.2).length)) <|
  (.call (Cl_ v678 s.2 v681 s.1) fun v690 =>
  (.grd (inb (IntKind.i64.wrap ((IntKind.i64.wrap (v680 * v678)) + s.1)) ((s.2).length)) <|
  .leaf (.inl (IntKind.i64.wrap (s.1 + (1 : Int)), List.set s.2 (Int.toNat (IntKind.i64.wrap ((IntKind.i64.wrap (v680 * v678)) + s.1))) (IntKind.i64.wrap ((nth s.2 (Int.toNat (IntKind.i64.wrap ((IntKind.i64.wrap (v680 * v678)) + s.1)))) - (IntKind.i64.wrap (v682 * v690)))))))))
  ) (
  .leaf (.inr s.2)
  ))
noncomputable def Or_ (v678 v680 v681 v682 : Int) (s0 : Int × (List Int)) : Option ((List Int)) := Af_ (fun s => (E5_ v678 v680 v681 v682 s).run) s0
def In_ (v677 v678 : Int) (v679 : List Int) (v680 v681 v682 : Int) (s : Int × (List Int)) : Sd := ([Z,.int .i64 v680,.int .i64 v681,.int .i64 v682,.ptr 1 (0 : Nat) 0 (3 : Nat),Z,Z,Z,Z,Z,.int .i64 v678,.int .i64 s.1,Z,Z,Z,Z,Z,Z,Z,Z,Z,Z,Z,Z,Z,Z,Z,Z,Z,Z,Z,Z,Z], [.row (.i64 s.2) 0, .gen [.int .i64 v677, .int .i64 v678, .own 0 0 ((s.2).length)] false 0])
def S6_ (v677 v678 : Int) (v679 : List Int) (v680 v681 v682 : Int) (x : (List Int)) : Out := (.normal, [Z,Z,Z,Z,Z,Z,Z,Z,Z,Z,Z,Z,Z,Z,Z,Z,Z,Z,Z,Z,Z,Z,Z,Z,Z,Z,Z,Z,Z,Z,Z,Z,Z], [.row (.i64 x) 0])
def Wf_ : List Nat := KL true [1,4,5,2,21]
def Af6_ : Exit → List Nat
  | .exit 0 => KL true [33]
  | .ret => KL true [33]
  | _ => []
noncomputable def S9_ (v677 v678 : Int) (v679 : List Int) (v680 v681 v682 : Int) : LOr := fun id e L =>
  match id with
  | 0 => .need (normA 1 Wf_ e L = some (In_ v677 v678 v679 v680 v681 v682 ((gI (vAt e 11)), (gRI L (cAt L (vAt e 4) 2))))) (.call (Or_ v678 v680 v681 v682 ((gI (vAt e 11)), (gRI L (cAt L (vAt e 4) 2)))) fun x => .leaf (S6_ v677 v678 v679 v680 v681 v682 x))
  | _ => .fail
noncomputable def Hb_ : List (FuncId × DFn × Bool) := [(33, Df_, true)]
theorem Yo_ : OrcOk Try.prog (tabD Hb_) (tabM Hb_) := Ae_ Gp_ (Ai_ _)
theorem Ahk_ (v677 v678 : Int) (v679 : List Int) (v680 v681 v682 : Int) (s : Int × (List Int)) : bodyT TT (tabD Hb_) (tabM Hb_) (S9_ v677 v678 v679 v680 v681 v682) 1 Wf_ Af6_ (Ab_ Try.f25 0) 0 (In_ v677 v678 v679 v680 v681 v682 s) = (E5_ v678 v680 v681 v682 s).bind fun y => .leaf (outS (In_ v677 v678 v679 v680 v681 v682) (S6_ v677 v678 v679 v680 v681 v682) y) := by kernel_rfl
theorem Apu_ (v677 v678 : Int) (v679 : List Int) (v680 v681 v682 : Int) : At_ Try.prog 1 (S9_ v677 v678 v679 v680 v681 v682) 0 (Ab_ Try.f25 0) := by
  intro e L out h
  exact lo_ok (E := In_ v677 v678 v679 v680 v681 v682) (gT := E5_ v678 v680 v681 v682) (X := S6_ v677 v678 v679 v680 v681 v682) (s0 := ((gI (vAt e 11)), (gRI L (cAt L (vAt e 4) 2)))) tok Yo_ mixed (Ad_ (l := []) (by kernel_rfl) trivial) (Ahk_ v677 v678 v679 v680 v681 v682) rfl (by intro x; rfl) h
noncomputable def Ok_ (v677 v678 : Int) (v679 : List Int) (v680 v681 v682 : Int) : Tree ((List Int)) :=
  (.need (some (In_ v677 v678 v679 v680 v681 v682 ((0 : Int), v679)) = some (In_ v677 v678 v679 v680 v681 v682 ((0 : Int), v679))) <|
  (.call (Or_ v678 v680 v681 v682 ((0 : Int), v679)) fun v691 =>
  .leaf v691))
noncomputable def Fd_ (v677 v678 : Int) (v679 : List Int) (v680 v681 v682 : Int) : Option ((List Int)) := (Ok_ v677 v678 v679 v680 v681 v682).run
def I8_ (v677 v678 : Int) (v679 : List Int) (v680 v681 v682 : Int) (y : (List Int)) : Rs := (.tup [], [.row (.i64 y) 0])
theorem Aop_ (v677 v678 : Int) (v679 : List Int) (v680 v681 v682 : Int) : (den TT (tabD Hb_) (tabM Hb_) (S9_ v677 v678 v679 v680 v681 v682) (Ah_ Try.f25) ([.agg [.int .i64 v677, .int .i64 v678, .own 0 0 v679.length], .int .i64 v680, .int .i64 v681, .int .i64 v682] ++ List.replicate (Try.f25.ntmps - ([.agg [.int .i64 v677, .int .i64 v678, .own 0 0 v679.length], .int .i64 v680, .int .i64 v681, .int .i64 v682] : List DV).length) .undef) [.row (.i64 v679) 0]).bind (retD TT Try.f25.results.toList 1) = (Ok_ v677 v678 v679 v680 v681 v682).bind fun y => .leaf (I8_ v677 v678 v679 v680 v681 v682 y) := by kernel_rfl
theorem Aoh_ (v677 v678 : Int) (v679 : List Int) (v680 v681 v682 : Int) (F : Fr) (h0 : St F [.row (.i64 v679) 0] F.H0) (hA : DVs.Ok F [.row (.i64 v679) 0] [.agg [.int .i64 v677, .int .i64 v678, .own 0 0 v679.length], .int .i64 v680, .int .i64 v681, .int .i64 v682]) {y : (List Int)} (hy : Fd_ v677 v678 v679 v680 v681 v682 = some y) : ∃ F' H', Fwd 1 F F' [.row (.i64 v679) 0] (I8_ v677 v678 v679 v680 v681 v682 y).2 ∧ FnOk Try.prog 25 (DVs.av F [.agg [.int .i64 v677, .int .i64 v678, .own 0 0 v679.length], .int .i64 v680, .int .i64 v681, .int .i64 v682]) F.H0 ((I8_ v677 v678 v679 v680 v681 v682 y).1.av F') H' ∧ St F' (I8_ v677 v678 v679 v680 v681 v682 y).2 H' ∧ (I8_ v677 v678 v679 v680 v681 v682 y).1.Ok F' (I8_ v677 v678 v679 v680 v681 v682 y).2 :=
  Aj_ tok Yo_ mixed Try.func25 Try.call25 (by kernel_rfl) (Ad_ (l := [(0, Ab_ Try.f25 0)]) (by kernel_rfl) ⟨Apu_ v677 v678 v679 v680 v681 v682, trivial⟩) (Aop_ v677 v678 v679 v680 v681 v682) hy h0 hA
noncomputable def Rj_ : DFn := fun args L =>
  match args with
  | [.agg [.int .i64 v677, .int .i64 v678, a1], .int .i64 v680, .int .i64 v681, .int .i64 v682] =>
    optT (Kn_ L a1) fun qv679 =>
    (match sepB [qv679.1] [] with
    | true =>
    .call (Fd_ v677 v678 qv679.2 v680 v681 v682) fun y => .grd (decide (y.length = qv679.2.length)) (.leaf (.tup [], Bi_ L ([qv679.1].zip [.i64 y])))
    | false => .fail)
  | _ => .fail
theorem Aif_ : COk Try.prog 25 Rj_ false := by
  intro F L H args r L' hs ha hr
  unfold Rj_ at hr
  split at hr
  · rename_i v677 v678 a1 v680 v681 v682
    obtain ⟨⟨jv679, v679⟩, hqv679, hr⟩ := Aa_ hr
    simp only at hr
    split at hr
    · rename_i hsep
      obtain ⟨hnd, hsepv⟩ := F0_ hsep
      simp only [Tree.run] at hr
      obtain ⟨y, hy, hr⟩ := Option.bind_eq_some_iff.1 hr
      try simp only [Tree.run] at hr
      obtain ⟨hl0, hr⟩ := Nk_ hr
      simp only [Option.some.injEq, Prod.mk.injEq] at hr
      obtain ⟨rfl, rfl⟩ := hr
      obtain ⟨hr0, hu0, ha0, hb0⟩ := (Dr_ (DVs.okAt (DVs.okAt ha 0 rfl) 2 rfl) (D0_ hqv679))
      exact V5_ hs (fun k => (([a1.av F] : List AV)[k]?).getD .top) [.agg [.int .i64 v677, .int .i64 v678, a1], .int .i64 v680, .int .i64 v681, .int .i64 v682] [.agg [.int .i64 v677, .int .i64 v678, .own 0 0 v679.length], .int .i64 v680, .int .i64 v681, .int .i64 v682] [jv679] [.i64 v679] [.i64 y] hnd rfl rfl (fun i j q h1 h2 => by
          rcases i with _ | i
          · simp at h1 h2; subst h1; subst h2; exact hr0
          · simp at h1) (fun i q q' h1 h2 => by
          rcases i with _ | i
          · simp at h1 h2; subst h1; subst h2; first | exact of_decide_eq_true hl0 | rfl
          · simp at h1) (fun j hj => by simp at hj; subst hj; simp [DVs.refs, DV.refs, hu0]) (fun F' h0 hρ ab hst hS => ⟨by (have ab0 := ab 0 _ rfl; simp [DVs.av, DV.av, BR.av, hρ, Row.len, ha0, ab0]), by
          obtain ⟨F1, H1, k0, k1, k2, _⟩ := Aoh_ v677 v678 v679 v680 v681 v682 F' hst ⟨⟨trivial, trivial, ⟨_, rfl, Nat.le_refl _, Nat.le_refl _, fun _ => rfl, (Dr_ (DVs.okAt (DVs.okAt ha 0 rfl) 2 rfl) (D0_ hqv679)).2.2.2⟩, trivial⟩, trivial, trivial, trivial, trivial⟩ hy
          exact ⟨F1, H1, k0, k1, k2⟩⟩) (fun F1 F2 => rfl) (fun F L' => trivial)
    · cases hr
  · cases hr
noncomputable def Iz_ (v736 v738 v739 : Int) (s : Int × (List Int)) : Tree ((Int × (List Int)) ⊕ ((List Int))) :=
  (.br (decide (s.1 < v736)) (
  (.grd (inb (IntKind.i64.wrap ((IntKind.i64.wrap (v739 * v736)) + s.1)) ((s.2).length)) <|
  (.grd (inb (IntKind.i64.wrap ((IntKind.i64.wrap (v738 * v736)) + s.1)) ((s.2).length)) <|
  (.grd (inb (IntKind.i64.wrap ((IntKind.i64.wrap (v738 * v736)) + s.1)) ((s.2).length)) <|
  (.grd (inb (IntKind.i64.wrap ((IntKind.i64.wrap (v739 * v736)) + s.1)) ((s.2).length)) <|
  .leaf (.inl (IntKind.i64.wrap (s.1 + (1 : Int)), List.set (List.set s.2 (Int.toNat (IntKind.i64.wrap ((IntKind.i64.wrap (v738 * v736)) + s.1))) (nth s.2 (Int.toNat (IntKind.i64.wrap ((IntKind.i64.wrap (v739 * v736)) + s.1))))) (Int.toNat (IntKind.i64.wrap ((IntKind.i64.wrap (v739 * v736)) + s.1))) (nth s.2 (Int.toNat (IntKind.i64.wrap ((IntKind.i64.wrap (v738 * v736)) + s.1))))))))))
  ) (
  .leaf (.inr s.2)
  ))
noncomputable def N4_ (v736 v738 v739 : Int) (s0 : Int × (List Int)) : Option ((List Int)) := Af_ (fun s => (Iz_ v736 v738 v739 s).run) s0
def Ib_ (v735 v736 : Int) (v737 : List Int) (v738 v739 : Int) (s : Int × (List Int)) : Sd := ([Z,.int .i64 v738,.int .i64 v739,.ptr 1 (0 : Nat) 0 (3 : Nat),Z,Z,Z,Z,Z,Z,.int .i64 v736,.int .i64 s.1,Z,Z,Z,Z,Z,Z,Z,Z,Z,Z,Z,Z,Z,Z,Z,Z,Z,Z,Z,Z,Z,Z,Z,Z,Z,Z,Z,Z,Z,Z,Z,Z,Z], [.row (.i64 s.2) 0, .gen [.int .i64 v735, .int .i64 v736, .own 0 0 ((s.2).length)] false 0])
def Oe_ (v735 v736 : Int) (v737 : List Int) (v738 v739 : Int) (x : (List Int)) : Out := (.normal, [Z,Z,Z,Z,Z,Z,Z,Z,Z,Z,Z,Z,Z,Z,Z,Z,Z,Z,Z,Z,Z,Z,Z,Z,Z,Z,Z,Z,Z,Z,Z,Z,Z,Z,Z,Z,Z,Z,Z,Z,Z,Z,Z,Z,Z], [.row (.i64 x) 0])
def Wj_ : List Nat := KL true [1,3,6,2,33]
def Aqd_ : Exit → List Nat
  | .exit 0 => KL true [45]
  | .ret => KL true [45]
  | _ => []
noncomputable def Q5_ (v735 v736 : Int) (v737 : List Int) (v738 v739 : Int) : LOr := fun id e L =>
  match id with
  | 0 => .need (normA 1 Wj_ e L = some (Ib_ v735 v736 v737 v738 v739 ((gI (vAt e 11)), (gRI L (cAt L (vAt e 3) 2))))) (.call (N4_ v736 v738 v739 ((gI (vAt e 11)), (gRI L (cAt L (vAt e 3) 2)))) fun x => .leaf (Oe_ v735 v736 v737 v738 v739 x))
  | _ => .fail
noncomputable def Hi_ : List (FuncId × DFn × Bool) := []
theorem U4_ : OrcOk Try.prog (tabD Hi_) (tabM Hi_) := Ai_ _
theorem Ac9_ (v735 v736 : Int) (v737 : List Int) (v738 v739 : Int) (s : Int × (List Int)) : bodyT TT (tabD Hi_) (tabM Hi_) (Q5_ v735 v736 v737 v738 v739) 1 Wj_ Aqd_ (Ab_ Try.f28 0) 0 (Ib_ v735 v736 v737 v738 v739 s) = (Iz_ v736 v738 v739 s).bind fun y => .leaf (outS (Ib_ v735 v736 v737 v738 v739) (Oe_ v735 v736 v737 v738 v739) y) := by kernel_rfl
theorem Aav_ (v735 v736 : Int) (v737 : List Int) (v738 v739 : Int) : At_ Try.prog 1 (Q5_ v735 v736 v737 v738 v739) 0 (Ab_ Try.f28 0) := by
  intro e L out h
  exact lo_ok (E := Ib_ v735 v736 v737 v738 v739) (gT := Iz_ v736 v738 v739) (X := Oe_ v735 v736 v737 v738 v739) (s0 := ((gI (vAt e 11)), (gRI L (cAt L (vAt e 3) 2)))) tok U4_ mixed (Ad_ (l := []) (by kernel_rfl) trivial) (Ac9_ v735 v736 v737 v738 v739) rfl (by intro x; rfl) h
noncomputable def Rp_ (v735 v736 : Int) (v737 : List Int) (v738 v739 : Int) : Tree ((List Int)) :=
  (.need (some (Ib_ v735 v736 v737 v738 v739 ((0 : Int), v737)) = some (Ib_ v735 v736 v737 v738 v739 ((0 : Int), v737))) <|
  (.call (N4_ v736 v738 v739 ((0 : Int), v737)) fun v745 =>
  .leaf v745))
noncomputable def Gc_ (v735 v736 : Int) (v737 : List Int) (v738 v739 : Int) : Option ((List Int)) := (Rp_ v735 v736 v737 v738 v739).run
def Gy_ (v735 v736 : Int) (v737 : List Int) (v738 v739 : Int) (y : (List Int)) : Rs := (.tup [], [.row (.i64 y) 0])
theorem Aon_ (v735 v736 : Int) (v737 : List Int) (v738 v739 : Int) : (den TT (tabD Hi_) (tabM Hi_) (Q5_ v735 v736 v737 v738 v739) (Ah_ Try.f28) ([.agg [.int .i64 v735, .int .i64 v736, .own 0 0 v737.length], .int .i64 v738, .int .i64 v739] ++ List.replicate (Try.f28.ntmps - ([.agg [.int .i64 v735, .int .i64 v736, .own 0 0 v737.length], .int .i64 v738, .int .i64 v739] : List DV).length) .undef) [.row (.i64 v737) 0]).bind (retD TT Try.f28.results.toList 1) = (Rp_ v735 v736 v737 v738 v739).bind fun y => .leaf (Gy_ v735 v736 v737 v738 v739 y) := by kernel_rfl
theorem Akv_ (v735 v736 : Int) (v737 : List Int) (v738 v739 : Int) (F : Fr) (h0 : St F [.row (.i64 v737) 0] F.H0) (hA : DVs.Ok F [.row (.i64 v737) 0] [.agg [.int .i64 v735, .int .i64 v736, .own 0 0 v737.length], .int .i64 v738, .int .i64 v739]) {y : (List Int)} (hy : Gc_ v735 v736 v737 v738 v739 = some y) : ∃ F' H', Fwd 1 F F' [.row (.i64 v737) 0] (Gy_ v735 v736 v737 v738 v739 y).2 ∧ FnOk Try.prog 28 (DVs.av F [.agg [.int .i64 v735, .int .i64 v736, .own 0 0 v737.length], .int .i64 v738, .int .i64 v739]) F.H0 ((Gy_ v735 v736 v737 v738 v739 y).1.av F') H' ∧ St F' (Gy_ v735 v736 v737 v738 v739 y).2 H' ∧ (Gy_ v735 v736 v737 v738 v739 y).1.Ok F' (Gy_ v735 v736 v737 v738 v739 y).2 :=
  Aj_ tok U4_ mixed Try.func28 Try.call28 (by kernel_rfl) (Ad_ (l := [(0, Ab_ Try.f28 0)]) (by kernel_rfl) ⟨Aav_ v735 v736 v737 v738 v739, trivial⟩) (Aon_ v735 v736 v737 v738 v739) hy h0 hA
noncomputable def Q6_ : DFn := fun args L =>
  match args with
  | [.agg [.int .i64 v735, .int .i64 v736, a1], .int .i64 v738, .int .i64 v739] =>
    optT (Kn_ L a1) fun qv737 =>
    (match sepB [qv737.1] [] with
    | true =>
    .call (Gc_ v735 v736 qv737.2 v738 v739) fun y => .grd (decide (y.length = qv737.2.length)) (.leaf (.tup [], Bi_ L ([qv737.1].zip [.i64 y])))
    | false => .fail)
  | _ => .fail
theorem Afw_ : COk Try.prog 28 Q6_ false := by
  intro F L H args r L' hs ha hr
  unfold Q6_ at hr
  split at hr
  · rename_i v735 v736 a1 v738 v739
    obtain ⟨⟨jv737, v737⟩, hqv737, hr⟩ := Aa_ hr
    simp only at hr
    split at hr
    · rename_i hsep
      obtain ⟨hnd, hsepv⟩ := F0_ hsep
      simp only [Tree.run] at hr
      obtain ⟨y, hy, hr⟩ := Option.bind_eq_some_iff.1 hr
      try simp only [Tree.run] at hr
      obtain ⟨hl0, hr⟩ := Nk_ hr
      simp only [Option.some.injEq, Prod.mk.injEq] at hr
      obtain ⟨rfl, rfl⟩ := hr
      obtain ⟨hr0, hu0, ha0, hb0⟩ := (Dr_ (DVs.okAt (DVs.okAt ha 0 rfl) 2 rfl) (D0_ hqv737))
      exact V5_ hs (fun k => (([a1.av F] : List AV)[k]?).getD .top) [.agg [.int .i64 v735, .int .i64 v736, a1], .int .i64 v738, .int .i64 v739] [.agg [.int .i64 v735, .int .i64 v736, .own 0 0 v737.length], .int .i64 v738, .int .i64 v739] [jv737] [.i64 v737] [.i64 y] hnd rfl rfl (fun i j q h1 h2 => by
          rcases i with _ | i
          · simp at h1 h2; subst h1; subst h2; exact hr0
          · simp at h1) (fun i q q' h1 h2 => by
          rcases i with _ | i
          · simp at h1 h2; subst h1; subst h2; first | exact of_decide_eq_true hl0 | rfl
          · simp at h1) (fun j hj => by simp at hj; subst hj; simp [DVs.refs, DV.refs, hu0]) (fun F' h0 hρ ab hst hS => ⟨by (have ab0 := ab 0 _ rfl; simp [DVs.av, DV.av, BR.av, hρ, Row.len, ha0, ab0]), by
          obtain ⟨F1, H1, k0, k1, k2, _⟩ := Akv_ v735 v736 v737 v738 v739 F' hst ⟨⟨trivial, trivial, ⟨_, rfl, Nat.le_refl _, Nat.le_refl _, fun _ => rfl, (Dr_ (DVs.okAt (DVs.okAt ha 0 rfl) 2 rfl) (D0_ hqv737)).2.2.2⟩, trivial⟩, trivial, trivial, trivial⟩ hy
          exact ⟨F1, H1, k0, k1, k2⟩⟩) (fun F1 F2 => rfl) (fun F L' => trivial)
    · cases hr
  · cases hr
noncomputable def Ake_ (v858 v859 : Int) (v860 : List Int) : LOr := fun id e L =>
  match id with
  | _ => .fail
noncomputable def Nu_ : List (FuncId × DFn × Bool) := [(50, Nx_, true)]
theorem Ak9_ : OrcOk Try.prog (tabD Nu_) (tabM Nu_) := Ae_ Un_ (Ai_ _)
noncomputable def Rr_ (v858 v859 : Int) (v860 : List Int) : Tree (Bool) :=
  (.call (H1_ v858 v859 v860 (1000000 : Int)) fun v861 =>
  .leaf v861)
noncomputable def Iv_ (v858 v859 : Int) (v860 : List Int) : Option (Bool) := (Rr_ v858 v859 v860).run
def Fn_ (v858 v859 : Int) (v860 : List Int) (y : Bool) : Rs := (.bool y, [])
theorem Agi_ (v858 v859 : Int) (v860 : List Int) : (den TT (tabD Nu_) (tabM Nu_) (Ake_ v858 v859 v860) (Ah_ Try.f29) ([.agg [.int .i64 v858, .int .i64 v859, .bslc (BR.root 0) (.i64 v860)]] ++ List.replicate (Try.f29.ntmps - ([.agg [.int .i64 v858, .int .i64 v859, .bslc (BR.root 0) (.i64 v860)]] : List DV).length) .undef) []).bind (retD TT Try.f29.results.toList 0) = (Rr_ v858 v859 v860).bind fun y => .leaf (Fn_ v858 v859 v860 y) := by kernel_rfl
theorem Aha_ (v858 v859 : Int) (v860 : List Int) (F : Fr) (h0 : St F [] F.H0) (hA : DVs.Ok F [] [.agg [.int .i64 v858, .int .i64 v859, .bslc (BR.root 0) (.i64 v860)]]) {y : Bool} (hy : Iv_ v858 v859 v860 = some y) : ∃ F' H', Fwd 0 F F' [] (Fn_ v858 v859 v860 y).2 ∧ FnOk Try.prog 29 (DVs.av F [.agg [.int .i64 v858, .int .i64 v859, .bslc (BR.root 0) (.i64 v860)]]) F.H0 ((Fn_ v858 v859 v860 y).1.av F') H' ∧ St F' (Fn_ v858 v859 v860 y).2 H' ∧ (Fn_ v858 v859 v860 y).1.Ok F' (Fn_ v858 v859 v860 y).2 :=
  Aj_ tok Ak9_ mixed Try.func29 Try.call29 (by kernel_rfl) (Ad_ (l := []) (by kernel_rfl) trivial) (Agi_ v858 v859 v860) hy h0 hA
noncomputable def Sn_ : DFn := fun args L =>
  match args with
  | [.agg [.int .i64 v858, .int .i64 v859, a1]] =>
    optT (As_ L a1) fun v860 =>
    .call (Iv_ v858 v859 v860) fun y => .leaf (.bool y, L)
  | _ => .fail
theorem Ajv_ : COk Try.prog 29 Sn_ true := by
  intro F L H args r L' hs ha hr
  unfold Sn_ at hr
  split at hr
  · rename_i v858 v859 a1
    obtain ⟨v860, hv860, hr⟩ := Aa_ hr
    simp only [Tree.run] at hr
    obtain ⟨y, hy, hr⟩ := Option.bind_eq_some_iff.1 hr
    simp only [Tree.run, Option.some.injEq, Prod.mk.injEq] at hr
    obtain ⟨rfl, rfl⟩ := hr
    exact Aw_ hs (fun k => (([a1.av F] : List AV)[k]?).getD .top) [.agg [.int .i64 v858, .int .i64 v859, a1]] [.agg [.int .i64 v858, .int .i64 v859, .bslc (BR.root 0) (.i64 v860)]] (fun F' h0 hi hρ => ⟨by simp [DVs.av, DV.av, BR.av, hρ], Aha_ v858 v859 v860 F' (Ak_ hi) ⟨⟨trivial, trivial, Ag_ hi (by rw [h0, hρ]; exact An_ hs (DVs.okAt (DVs.okAt ha 0 rfl) 2 rfl) hv860), trivial⟩, trivial⟩ hy⟩) rfl
  · cases hr
noncomputable def Bl_ (v71 v72 v835 v836 : Int) (s : Int × (List (List Nat)) × (List Nat) × (List (List Nat)) × (List Nat) × (List Int)) : Tree ((Int × (List (List Nat)) × (List Nat) × (List (List Nat)) × (List Nat) × (List Int)) ⊕ ((Unit) ⊕ ((List (List Nat)) × (List Nat) × (List (List Nat)) × (List Nat) × (List Int)))) :=
  (.br (decide ((0 : Int) ≤ s.1)) (
  (.grd (inb v835 ((s.2.2.2.2.1).length)) <|
  (.grd (inb s.1 ((nget s.2.2.2.1 (nth s.2.2.2.2.1 (Int.toNat v835))).length)) <|
  (.call (Kv_ (fadd .f64 (nth (nget s.2.2.2.1 (nth s.2.2.2.2.1 (Int.toNat v835))) (Int.toNat s.1)) (4602678819172646912 : Nat))) fun v843 =>
  (.call (Cn_ .f64 v843 .i64) fun v844 =>
  (.br (decide (v844 = (0 : Int))) (
  .leaf (.inl (IntKind.i64.wrap (s.1 - (1 : Int)), s.2.1, s.2.2.1, s.2.2.2.1, s.2.2.2.2.1, s.2.2.2.2.2))
  ) (
  (.call (Fd_ v71 v72 s.2.2.2.2.2 v835 s.1 v844) fun v845 =>
  (.grd (decide (v845.length = s.2.2.2.2.2.length)) <|
  (.call (Ed_ v71 v72 v845) fun v846 =>
  (.sum v846 (fun v847 =>
  .leaf (.inr (.inl ()))
  ) (fun v848 =>
  .leaf (.inl (IntKind.i64.wrap (s.1 - (1 : Int)), v848.1, v848.2.1, v848.2.2.1, v848.2.2.2, v845))
  )))))
  ))))))
  ) (
  .leaf (.inr (.inr (s.2.1, s.2.2.1, s.2.2.2.1, s.2.2.2.2.1, s.2.2.2.2.2)))
  ))
noncomputable def Mi_ (v71 v72 v835 v836 : Int) (s0 : Int × (List (List Nat)) × (List Nat) × (List (List Nat)) × (List Nat) × (List Int)) : Option ((Unit) ⊕ ((List (List Nat)) × (List Nat) × (List (List Nat)) × (List Nat) × (List Int))) := Af_ (fun s => (Bl_ v71 v72 v835 v836 s).run) s0
def H2_ (v71 v72 : Int) (v73 : List Int) (v74 v835 v836 : Int) (s : Int × (List (List Nat)) × (List Nat) × (List (List Nat)) × (List Nat) × (List Int)) : Sd := ([Z,.int .i64 v74,.ptr 0 (0 : Nat) 0 (3 : Nat),Z,.ptr 1 (0 : Nat) 0 (3 : Nat),Z,Z,.ptr 2 (0 : Nat) 0 (3 : Nat),.int .i64 v835,.int .i64 v836,.nest 3 0 1 ((s.2.2.1).length),.nest 4 0 1 ((s.2.2.2.2.1).length),Z,.int .i64 s.1,Z,Z,Z,Z,Z,Z,Z,Z,Z,Z,Z,Z,Z,Z,Z,Z,Z,Z,Z,Z,Z,Z,Z,Z,Z,Z,Z,Z,Z,Z,Z,Z,Z,Z,Z,Z,Z,Z,Z,Z,Z,Z,Z,Z,Z,Z,Z,Z,Z,Z,Z,Z,Z,Z,Z,Z,Z,Z,Z,Z,Z,Z,Z,Z,Z,Z,Z,Z,Z,Z,Z,Z,Z,Z,Z,Z,Z,Z,Z,Z,Z,Z,Z,Z,Z,Z,Z,Z,Z,Z,Z,Z,Z,Z,Z,Z,Z,Z,Z,Z,Z,Z,Z,Z,Z,Z,Z,Z,Z,Z,Z,Z,Z,Z,Z,Z,Z,Z,Z,Z,Z,Z,Z,Z,Z,Z,Z,Z,Z,Z,Z,Z,Z], [.gen [.int .i64 v71, .int .i64 v72, .bslc (BR.root 0) (.i64 v73)] false 0, .gen [.int .i64 (0 : Int), .int .i64 (0 : Int), .nilslc] false 0, .gen [.int .i64 v71, .int .i64 v72, .own 5 0 ((s.2.2.2.2.2).length)] false 0, .nest [.sl (.f64 s.2.1) s.2.2.1] false 0, .nest [.sl (.f64 s.2.2.2.1) s.2.2.2.2.1] false 0, .row (.i64 s.2.2.2.2.2) 0])
def Na_ (v71 v72 : Int) (v73 : List Int) (v74 v835 v836 : Int) (x : (Unit) ⊕ ((List (List Nat)) × (List Nat) × (List (List Nat)) × (List Nat) × (List Int))) : Out := (match x with | .inl x => (.ret, [Z,Z,Z,Z,.ptr 0 (0 : Nat) 0 (3 : Nat),.int .i64 (0 : Int),.lit false,Z,Z,Z,Z,Z,Z,Z,Z,Z,Z,Z,Z,Z,Z,Z,Z,Z,Z,Z,Z,Z,Z,Z,Z,Z,Z,Z,Z,Z,Z,Z,Z,Z,Z,Z,Z,Z,Z,Z,Z,Z,Z,Z,Z,Z,Z,Z,Z,Z,Z,Z,Z,Z,Z,Z,Z,Z,Z,Z,Z,Z,Z,Z,Z,Z,Z,Z,Z,Z,Z,Z,Z,Z,Z,Z,Z,Z,Z,Z,Z,Z,Z,Z,Z,Z,Z,Z,Z,Z,Z,Z,Z,Z,Z,Z,Z,Z,Z,Z,Z,Z,Z,Z,Z,Z,Z,Z,Z,Z,Z,Z,Z,Z,Z,Z,Z,Z,Z,Z,Z,Z,Z,Z,Z,Z,Z,Z,Z,Z,Z,Z,Z,Z,Z,Z,Z,Z,Z,Z,Z], [.gen [.int .i64 (0 : Int), .int .i64 (0 : Int), .nilslc] false 0]) | .inr x => (.normal, [Z,.int .i64 v74,.ptr 0 (0 : Nat) 0 (3 : Nat),Z,.ptr 1 (0 : Nat) 0 (3 : Nat),Z,Z,.ptr 2 (0 : Nat) 0 (3 : Nat),.int .i64 v835,.int .i64 v836,.nest 3 0 1 ((x.2.1).length),.nest 4 0 1 ((x.2.2.2.1).length),Z,Z,Z,Z,Z,Z,Z,Z,Z,Z,Z,Z,Z,Z,Z,Z,Z,Z,Z,Z,Z,Z,Z,Z,Z,Z,Z,Z,Z,Z,Z,Z,Z,Z,Z,Z,Z,Z,Z,Z,Z,Z,Z,Z,Z,Z,Z,Z,Z,Z,Z,Z,Z,Z,Z,Z,Z,Z,Z,Z,Z,Z,Z,Z,Z,Z,Z,Z,Z,Z,Z,Z,Z,Z,Z,Z,Z,Z,Z,Z,Z,Z,Z,Z,Z,Z,Z,Z,Z,Z,Z,Z,Z,Z,Z,Z,Z,Z,Z,Z,Z,Z,Z,Z,Z,Z,Z,Z,Z,Z,Z,Z,Z,Z,Z,Z,Z,Z,Z,Z,Z,Z,Z,Z,Z,Z,Z,Z,Z,Z,Z,Z,Z,Z,Z], [.gen [.int .i64 v71, .int .i64 v72, .bslc (BR.root 0) (.i64 v73)] false 0, .gen [.int .i64 (0 : Int), .int .i64 (0 : Int), .nilslc] false 0, .gen [.int .i64 v71, .int .i64 v72, .own 5 0 ((x.2.2.2.2).length)] false 0, .nest [.sl (.f64 x.1) x.2.1] false 0, .nest [.sl (.f64 x.2.2.1) x.2.2.2.1] false 0, .row (.i64 x.2.2.2.2) 0]))
def Y9_ : List Nat := KL true [1,2,1,1,2,5,1,1,133]
def Aij_ : Exit → List Nat
  | .exit 0 => KL true [4,1,2,1,1,1,137]
  | .exit 1 => KL true [1,2,1,1,2,3,137]
  | .exit 2 => KL true [1,2,1,1,2,5,135]
  | .ret => KL true [4,3,140]
  | _ => []
noncomputable def A4_ (v71 v72 : Int) (v73 : List Int) (v74 : Int) (s : Int × Int × (List Int)) : Tree ((Int × Int × (List Int)) ⊕ ((Unit) ⊕ (Int × (List Int)))) :=
  (.br (decide (s.2.1 < v74)) (
  (.br (decide (s.1 < v71)) (
  (.call (Ed_ v71 v72 s.2.2) fun v804 =>
  (.sum v804 (fun v805 =>
  .leaf (.inr (.inl ()))
  ) (fun v806 =>
  (.need (some (H2_ v71 v72 v73 v74 s.1 s.2.1 (IntKind.i64.wrap (s.1 - (1 : Int)), v806.1, v806.2.1, v806.2.2.1, v806.2.2.2, s.2.2)) = some (H2_ v71 v72 v73 v74 s.1 s.2.1 (IntKind.i64.wrap (s.1 - (1 : Int)), v806.1, v806.2.1, v806.2.2.1, v806.2.2.2, s.2.2))) <|
  (.call (Mi_ v71 v72 s.1 s.2.1 (IntKind.i64.wrap (s.1 - (1 : Int)), v806.1, v806.2.1, v806.2.2.1, v806.2.2.2, s.2.2)) fun v849 =>
  (.sum v849 (fun v850 =>
  .leaf (.inr (.inl ()))
  ) (fun v851 =>
  (.grd (inb s.1 ((v851.2.1).length)) <|
  (.grd (inb s.1 ((v851.2.1).length)) <|
  (.call (Bt_ (nget v851.1 (nth v851.2.1 (Int.toNat s.1))) (nget v851.1 (nth v851.2.1 (Int.toNat s.1)))) fun v852 =>
  (.grd (inb (IntKind.i64.wrap (s.1 - (1 : Int))) ((v851.2.1).length)) <|
  (.grd (inb (IntKind.i64.wrap (s.1 - (1 : Int))) ((v851.2.1).length)) <|
  (.call (Bt_ (nget v851.1 (nth v851.2.1 (Int.toNat (IntKind.i64.wrap (s.1 - (1 : Int)))))) (nget v851.1 (nth v851.2.1 (Int.toNat (IntKind.i64.wrap (s.1 - (1 : Int))))))) fun v853 =>
  (.grd (inb s.1 ((v851.2.2.2.1).length)) <|
  (.grd (inb (IntKind.i64.wrap (s.1 - (1 : Int))) ((nget v851.2.2.1 (nth v851.2.2.2.1 (Int.toNat s.1))).length)) <|
  (.br (fgrt .f64 v852 (Bu_ (fsub .f64 (4604930618986332160 : Nat) (Bu_ (nth (nget v851.2.2.1 (nth v851.2.2.2.1 (Int.toNat s.1))) (Int.toNat (IntKind.i64.wrap (s.1 - (1 : Int))))) (nth (nget v851.2.2.1 (nth v851.2.2.2.1 (Int.toNat s.1))) (Int.toNat (IntKind.i64.wrap (s.1 - (1 : Int))))))) v853) || feq .f64 v852 (Bu_ (fsub .f64 (4604930618986332160 : Nat) (Bu_ (nth (nget v851.2.2.1 (nth v851.2.2.2.1 (Int.toNat s.1))) (Int.toNat (IntKind.i64.wrap (s.1 - (1 : Int))))) (nth (nget v851.2.2.1 (nth v851.2.2.2.1 (Int.toNat s.1))) (Int.toNat (IntKind.i64.wrap (s.1 - (1 : Int))))))) v853)) (
  .leaf (.inl (IntKind.i64.wrap (s.1 + (1 : Int)), IntKind.i64.wrap (s.2.1 + (1 : Int)), v851.2.2.2.2))
  ) (
  (.call (Gc_ v71 v72 v851.2.2.2.2 s.1 (IntKind.i64.wrap (s.1 - (1 : Int)))) fun v854 =>
  (.grd (decide (v854.length = v851.2.2.2.2.length)) <|
  .leaf (.inl (imax (1 : Int) (IntKind.i64.wrap (s.1 - (1 : Int))), IntKind.i64.wrap (s.2.1 + (1 : Int)), v854))))
  ))))))))))
  ))))
  )))
  ) (
  .leaf (.inr (.inr (s.2.1, s.2.2)))
  ))
  ) (
  .leaf (.inr (.inr (s.2.1, s.2.2)))
  ))
noncomputable def Jc_ (v71 v72 : Int) (v73 : List Int) (v74 : Int) (s0 : Int × Int × (List Int)) : Option ((Unit) ⊕ (Int × (List Int))) := Af_ (fun s => (A4_ v71 v72 v73 v74 s).run) s0
def H4_ (v71 v72 : Int) (v73 : List Int) (v74 : Int) (s : Int × Int × (List Int)) : Sd := ([Z,.int .i64 v74,.ptr 0 (0 : Nat) 0 (3 : Nat),Z,.ptr 1 (0 : Nat) 0 (3 : Nat),Z,Z,.ptr 2 (0 : Nat) 0 (3 : Nat),.int .i64 s.1,.int .i64 s.2.1,Z,Z,Z,Z,Z,Z,Z,Z,Z,Z,Z,Z,Z,Z,Z,Z,Z,Z,Z,Z,Z,Z,Z,Z,Z,Z,Z,Z,Z,Z,Z,Z,Z,Z,Z,Z,Z,Z,Z,Z,Z,Z,Z,Z,Z,Z,Z,Z,Z,Z,Z,Z,Z,Z,Z,Z,Z,Z,Z,Z,Z,Z,Z,Z,Z,Z,Z,Z,Z,Z,Z,Z,Z,Z,Z,Z,Z,Z,Z,Z,Z,Z,Z,Z,Z,Z,Z,Z,Z,Z,Z,Z,Z,Z,Z,Z,Z,Z,Z,Z,Z,Z,Z,Z,Z,Z,Z,Z,Z,Z,Z,Z,Z,Z,Z,Z,Z,Z,Z,Z,Z,Z,Z,Z,Z,Z,Z,Z,Z,Z,Z,Z,Z,Z,Z,Z,Z], [.gen [.int .i64 v71, .int .i64 v72, .bslc (BR.root 0) (.i64 v73)] false 0, .gen [.int .i64 (0 : Int), .int .i64 (0 : Int), .nilslc] false 0, .gen [.int .i64 v71, .int .i64 v72, .own 3 0 ((s.2.2).length)] false 0, .row (.i64 s.2.2) 0])
def Lg_ (v71 v72 : Int) (v73 : List Int) (v74 : Int) (x : (Unit) ⊕ (Int × (List Int))) : Out := (match x with | .inl x => (.ret, [Z,Z,Z,Z,.ptr 0 (0 : Nat) 0 (3 : Nat),.int .i64 (0 : Int),.lit false,Z,Z,Z,Z,Z,Z,Z,Z,Z,Z,Z,Z,Z,Z,Z,Z,Z,Z,Z,Z,Z,Z,Z,Z,Z,Z,Z,Z,Z,Z,Z,Z,Z,Z,Z,Z,Z,Z,Z,Z,Z,Z,Z,Z,Z,Z,Z,Z,Z,Z,Z,Z,Z,Z,Z,Z,Z,Z,Z,Z,Z,Z,Z,Z,Z,Z,Z,Z,Z,Z,Z,Z,Z,Z,Z,Z,Z,Z,Z,Z,Z,Z,Z,Z,Z,Z,Z,Z,Z,Z,Z,Z,Z,Z,Z,Z,Z,Z,Z,Z,Z,Z,Z,Z,Z,Z,Z,Z,Z,Z,Z,Z,Z,Z,Z,Z,Z,Z,Z,Z,Z,Z,Z,Z,Z,Z,Z,Z,Z,Z,Z,Z,Z,Z,Z,Z,Z,Z,Z,Z], [.gen [.int .i64 (0 : Int), .int .i64 (0 : Int), .nilslc] false 0]) | .inr x => (.normal, [Z,Z,Z,Z,.ptr 0 (0 : Nat) 0 (3 : Nat),Z,Z,.ptr 1 (0 : Nat) 0 (3 : Nat),Z,.int .i64 x.1,Z,Z,Z,Z,Z,Z,Z,Z,Z,Z,Z,Z,Z,Z,Z,Z,Z,Z,Z,Z,Z,Z,Z,Z,Z,Z,Z,Z,Z,Z,Z,Z,Z,Z,Z,Z,Z,Z,Z,Z,Z,Z,Z,Z,Z,Z,Z,Z,Z,Z,Z,Z,Z,Z,Z,Z,Z,Z,Z,Z,Z,Z,Z,Z,Z,Z,Z,Z,Z,Z,Z,Z,Z,Z,Z,Z,Z,Z,Z,Z,Z,Z,Z,Z,Z,Z,Z,Z,Z,Z,Z,Z,Z,Z,Z,Z,Z,Z,Z,Z,Z,Z,Z,Z,Z,Z,Z,Z,Z,Z,Z,Z,Z,Z,Z,Z,Z,Z,Z,Z,Z,Z,Z,Z,Z,Z,Z,Z,Z,Z,Z,Z,Z,Z,Z,Z,Z], [.gen [.int .i64 (0 : Int), .int .i64 (0 : Int), .nilslc] false 0, .gen [.int .i64 v71, .int .i64 v72, .own 2 0 ((x.2).length)] false 0, .row (.i64 x.2) 0]))
def Ur_ : List Nat := KL true [1,2,1,1,2,3,137]
def Aky_ : Exit → List Nat
  | .exit 0 => KL true [4,1,2,1,1,1,137]
  | .ret => KL true [4,3,140]
  | _ => []
noncomputable def Ju_ (v71 v72 : Int) (v73 : List Int) (v74 : Int) : LOr := fun id e L =>
  match id with
  | 2 => .need (normA 0 Y9_ e L = some (H2_ v71 v72 v73 v74 (gI (vAt e 8)) (gI (vAt e 9)) ((gI (vAt e 13)), (gPF L (vAt e 10) 0), (gX L (vAt e 10) 0), (gPF L (vAt e 11) 0), (gX L (vAt e 11) 0), (gRI L (cAt L (vAt e 7) 2))))) (.call (Mi_ v71 v72 (gI (vAt e 8)) (gI (vAt e 9)) ((gI (vAt e 13)), (gPF L (vAt e 10) 0), (gX L (vAt e 10) 0), (gPF L (vAt e 11) 0), (gX L (vAt e 11) 0), (gRI L (cAt L (vAt e 7) 2)))) fun x => .sum x (fun b0 => .leaf (Na_ v71 v72 v73 v74 (gI (vAt e 8)) (gI (vAt e 9)) (.inl b0))) (fun c0 => .leaf (Na_ v71 v72 v73 v74 (gI (vAt e 8)) (gI (vAt e 9)) (.inr c0))))
  | 0 => .need (normA 0 Ur_ e L = some (H4_ v71 v72 v73 v74 ((gI (vAt e 8)), (gI (vAt e 9)), (gRI L (cAt L (vAt e 7) 2))))) (.call (Jc_ v71 v72 v73 v74 ((gI (vAt e 8)), (gI (vAt e 9)), (gRI L (cAt L (vAt e 7) 2)))) fun x => .sum x (fun b0 => .leaf (Lg_ v71 v72 v73 v74 (.inl b0))) (fun c0 => .leaf (Lg_ v71 v72 v73 v74 (.inr c0))))
  | _ => .fail
noncomputable def Dk_ : List (FuncId × DFn × Bool) := [(20, Kg_, true), (21, Iw_, true), (22, Du_, true), (23, P1_, true), (24, R4_, true), (25, Rj_, false), (26, M7_, true), (27, Kf_, true), (28, Q6_, false), (29, Sn_, true)]
theorem Ra_ : OrcOk Try.prog (tabD Dk_) (tabM Dk_) := Ae_ Rb_ (Ae_ Ny_ (Ae_ H5_ (Ae_ Ac3_ (Ae_ Ahs_ (Ae_ Aif_ (Ae_ V8_ (Ae_ Sc_ (Ae_ Afw_ (Ae_ Ajv_ (Ai_ _))))))))))
theorem Any_ (v71 v72 : Int) (v73 : List Int) (v74 v835 v836 : Int) (s : Int × (List (List Nat)) × (List Nat) × (List (List Nat)) × (List Nat) × (List Int)) : bodyT TT (tabD Dk_) (tabM Dk_) (Ju_ v71 v72 v73 v74) 0 Y9_ Aij_ (Ab_ Try.f8 2) 2 (H2_ v71 v72 v73 v74 v835 v836 s) = (Bl_ v71 v72 v835 v836 s).bind fun y => .leaf (outS (H2_ v71 v72 v73 v74 v835 v836) (Na_ v71 v72 v73 v74 v835 v836) y) := by kernel_rfl
theorem Agf_ (v71 v72 : Int) (v73 : List Int) (v74 : Int) : At_ Try.prog 0 (Ju_ v71 v72 v73 v74) 2 (Ab_ Try.f8 2) := by
  intro e L out h
  exact lo_ok (E := H2_ v71 v72 v73 v74 (gI (vAt e 8)) (gI (vAt e 9))) (gT := Bl_ v71 v72 (gI (vAt e 8)) (gI (vAt e 9))) (X := Na_ v71 v72 v73 v74 (gI (vAt e 8)) (gI (vAt e 9))) (s0 := ((gI (vAt e 13)), (gPF L (vAt e 10) 0), (gX L (vAt e 10) 0), (gPF L (vAt e 11) 0), (gX L (vAt e 11) 0), (gRI L (cAt L (vAt e 7) 2)))) tok Ra_ mixed (Ad_ (l := []) (by kernel_rfl) trivial) (Any_ v71 v72 v73 v74 (gI (vAt e 8)) (gI (vAt e 9))) rfl (by intro x; (cases x with | inl b => rfl | inr x => exact rfl)) h
theorem Zd_ (v71 v72 : Int) (v73 : List Int) (v74 : Int) (s : Int × Int × (List Int)) : bodyT TT (tabD Dk_) (tabM Dk_) (Ju_ v71 v72 v73 v74) 0 Ur_ Aky_ (Ab_ Try.f8 0) 0 (H4_ v71 v72 v73 v74 s) = (A4_ v71 v72 v73 v74 s).bind fun y => .leaf (outS (H4_ v71 v72 v73 v74) (Lg_ v71 v72 v73 v74) y) := by kernel_rfl
theorem Ahq_ (v71 v72 : Int) (v73 : List Int) (v74 : Int) : At_ Try.prog 0 (Ju_ v71 v72 v73 v74) 0 (Ab_ Try.f8 0) := by
  intro e L out h
  exact lo_ok (E := H4_ v71 v72 v73 v74) (gT := A4_ v71 v72 v73 v74) (X := Lg_ v71 v72 v73 v74) (s0 := ((gI (vAt e 8)), (gI (vAt e 9)), (gRI L (cAt L (vAt e 7) 2)))) tok Ra_ mixed (Ad_ (l := [(2, Ab_ Try.f8 2)]) (by kernel_rfl) ⟨Agf_ v71 v72 v73 v74, trivial⟩) (Zd_ v71 v72 v73 v74) rfl (by intro x; (cases x with | inl b => rfl | inr x => exact rfl)) h
noncomputable def Mj_ (v71 v72 : Int) (v73 : List Int) (v74 : Int) : Tree ((Unit) ⊕ (Int × Int × Int × (List Int))) :=
  (.call (Cf_ v71 v72 v73) fun v108 =>
  (.br (!v108) (
  .leaf (.inl ())
  ) (
  (.br (decide (imin (4 : Int) v72 < v71)) (
  .leaf (.inl ())
  ) (
  (.br (!(Bn_ v74 (0 : Int) (1000 : Int))) (
  .leaf (.inl ())
  ) (
  (.call (Be_ v73) fun v110 =>
  (.need (some (H4_ v71 v72 v73 v74 ((1 : Int), (0 : Int), ([] : List Int) ++ v73)) = some (H4_ v71 v72 v73 v74 ((1 : Int), (0 : Int), ([] : List Int) ++ v73))) <|
  (.call (Jc_ v71 v72 v73 v74 ((1 : Int), (0 : Int), ([] : List Int) ++ v73)) fun v855 =>
  (.sum v855 (fun v856 =>
  .leaf (.inl ())
  ) (fun v857 =>
  (.call (Iv_ v71 v72 v857.2) fun v862 =>
  (.br (!v862) (
  .leaf (.inl ())
  ) (
  .leaf (.inr (v71, v72, v857.1, v857.2))
  )))
  )))))
  ))
  ))
  )))
noncomputable def B7_ (v71 v72 : Int) (v73 : List Int) (v74 : Int) : Option ((Unit) ⊕ (Int × Int × Int × (List Int))) := (Mj_ v71 v72 v73 v74).run
def Hs_ (v71 v72 : Int) (v73 : List Int) (v74 : Int) (y : (Unit) ⊕ (Int × Int × Int × (List Int))) : Rs := (match y with | .inl y => (.tup [.agg [.int .i64 (0 : Int), .int .i64 (0 : Int), .nilslc], .int .i64 (0 : Int), .lit false], []) | .inr y => (.tup [.agg [.int .i64 y.1, .int .i64 y.2.1, .own 0 0 ((y.2.2.2).length)], .int .i64 y.2.2.1, .lit true], [.row (.i64 y.2.2.2) 0]))
theorem Act_ (v71 v72 : Int) (v73 : List Int) (v74 : Int) : (den TT (tabD Dk_) (tabM Dk_) (Ju_ v71 v72 v73 v74) (Ah_ Try.f8) ([.agg [.int .i64 v71, .int .i64 v72, .bslc (BR.root 0) (.i64 v73)], .int .i64 v74] ++ List.replicate (Try.f8.ntmps - ([.agg [.int .i64 v71, .int .i64 v72, .bslc (BR.root 0) (.i64 v73)], .int .i64 v74] : List DV).length) .undef) []).bind (retD TT Try.f8.results.toList 0) = (Mj_ v71 v72 v73 v74).bind fun y => .leaf (Hs_ v71 v72 v73 v74 y) := by kernel_rfl
theorem T3_ (v71 v72 : Int) (v73 : List Int) (v74 : Int) (F : Fr) (h0 : St F [] F.H0) (hA : DVs.Ok F [] [.agg [.int .i64 v71, .int .i64 v72, .bslc (BR.root 0) (.i64 v73)], .int .i64 v74]) {y : (Unit) ⊕ (Int × Int × Int × (List Int))} (hy : B7_ v71 v72 v73 v74 = some y) : ∃ F' H', Fwd 0 F F' [] (Hs_ v71 v72 v73 v74 y).2 ∧ FnOk Try.prog 8 (DVs.av F [.agg [.int .i64 v71, .int .i64 v72, .bslc (BR.root 0) (.i64 v73)], .int .i64 v74]) F.H0 ((Hs_ v71 v72 v73 v74 y).1.av F') H' ∧ St F' (Hs_ v71 v72 v73 v74 y).2 H' ∧ (Hs_ v71 v72 v73 v74 y).1.Ok F' (Hs_ v71 v72 v73 v74 y).2 :=
  Aj_ tok Ra_ mixed Try.func8 Try.call8 (by kernel_rfl) (Ad_ (l := [(0, Ab_ Try.f8 0)]) (by kernel_rfl) ⟨Ahq_ v71 v72 v73 v74, trivial⟩) (Act_ v71 v72 v73 v74) hy h0 hA
noncomputable def Ql_ : DFn := fun args L =>
  match args with
  | [.agg [.int .i64 v71, .int .i64 v72, a1], .int .i64 v74] =>
    optT (As_ L a1) fun v73 =>
    .call (B7_ v71 v72 v73 v74) fun y => .sum y (fun y0 => .leaf (.tup [.agg [.int .i64 (0 : Int), .int .i64 (0 : Int), .nilslc], .int .i64 (0 : Int), .lit false], L)) (fun z0 => .leaf (.tup [.agg [.int .i64 z0.1, .int .i64 z0.2.1, .own (L.length + 0) 0 ((z0.2.2.2).length)], .int .i64 z0.2.2.1, .lit true], L ++ [.row (.i64 z0.2.2.2) 0]))
  | _ => .fail
theorem Ain_ : COk Try.prog 8 Ql_ true := by
  intro F L H args r L' hs ha hr
  unfold Ql_ at hr
  split at hr
  · rename_i v71 v72 a1 v74
    obtain ⟨v73, hv73, hr⟩ := Aa_ hr
    simp only [Tree.run] at hr
    obtain ⟨y, hy, hr⟩ := Option.bind_eq_some_iff.1 hr
    cases y with
    | inl y =>
      simp only [Tree.run, Option.some.injEq, Prod.mk.injEq] at hr
      obtain ⟨rfl, rfl⟩ := hr
      exact Aw_ hs (fun k => (([a1.av F] : List AV)[k]?).getD .top) [.agg [.int .i64 v71, .int .i64 v72, a1], .int .i64 v74] [.agg [.int .i64 v71, .int .i64 v72, .bslc (BR.root 0) (.i64 v73)], .int .i64 v74] (fun F' h0 hi hρ => ⟨by simp [DVs.av, DV.av, BR.av, hρ], T3_ v71 v72 v73 v74 F' (Ak_ hi) ⟨⟨trivial, trivial, Ag_ hi (by rw [h0, hρ]; exact An_ hs (DVs.okAt (DVs.okAt ha 0 rfl) 2 rfl) hv73), trivial⟩, trivial, trivial⟩ hy⟩) rfl
    | inr y =>
      simp only [Tree.run, Option.some.injEq, Prod.mk.injEq] at hr
      obtain ⟨rfl, rfl⟩ := hr
      exact Dc_ hs (fun k => (([a1.av F] : List AV)[k]?).getD .top) [.agg [.int .i64 v71, .int .i64 v72, a1], .int .i64 v74] [.agg [.int .i64 v71, .int .i64 v72, .bslc (BR.root 0) (.i64 v73)], .int .i64 v74] (fun F' h0 hi hρ => ⟨by simp [DVs.av, DV.av, BR.av, hρ], T3_ v71 v72 v73 v74 F' (Ak_ hi) ⟨⟨trivial, trivial, Ag_ hi (by rw [h0, hρ]; exact An_ hs (DVs.okAt (DVs.okAt ha 0 rfl) 2 rfl) hv73), trivial⟩, trivial, trivial⟩ hy⟩) rfl rfl
  · cases hr
noncomputable def Jh_ (v870 : Int) (s : Int × (List Int)) : Tree ((Int × (List Int)) ⊕ ((List Int))) :=
  (.br (decide (s.1 < v870)) (
  (.grd (fits (s.2 ++ ([s.1] : List Int)).length) <|
  .leaf (.inl (IntKind.i64.wrap (s.1 + (1 : Int)), s.2 ++ ([s.1] : List Int))))
  ) (
  .leaf (.inr s.2)
  ))
noncomputable def D1_ (v870 : Int) (s0 : Int × (List Int)) : Option ((List Int)) := Af_ (fun s => (Jh_ v870 s).run) s0
def I0_ (v870 : Int) (s : Int × (List Int)) : Sd := ([Z,Z,Z,.own 0 0 ((s.2).length),Z,Z,.int .i64 v870,.int .i64 s.1,Z,Z,Z,Z,Z,Z,Z,Z], [.row (.i64 s.2) 0])
def Qa_ (v870 : Int) (x : (List Int)) : Out := (.normal, [Z,Z,Z,.own 0 0 ((x).length),Z,Z,Z,Z,Z,Z,Z,Z,Z,Z,Z,Z], [.row (.i64 x) 0])
def Vf_ : List Nat := KL true [3,1,2,2,8]
def Adr_ : Exit → List Nat
  | .exit 0 => KL true [3,1,12]
  | .ret => KL true [2,1,13]
  | _ => []
noncomputable def Tc_ (v870 : Int) : LOr := fun id e L =>
  match id with
  | 0 => .need (normA 0 Vf_ e L = some (I0_ v870 ((gI (vAt e 7)), (gRI L (vAt e 3))))) (.call (D1_ v870 ((gI (vAt e 7)), (gRI L (vAt e 3)))) fun x => .leaf (Qa_ v870 x))
  | _ => .fail
noncomputable def Ii_ : List (FuncId × DFn × Bool) := []
theorem Ws_ : OrcOk Try.prog (tabD Ii_) (tabM Ii_) := Ai_ _
theorem Ab9_ (v870 : Int) (s : Int × (List Int)) : bodyT TT (tabD Ii_) (tabM Ii_) (Tc_ v870) 0 Vf_ Adr_ (Ab_ Try.f31 0) 0 (I0_ v870 s) = (Jh_ v870 s).bind fun y => .leaf (outS (I0_ v870) (Qa_ v870) y) := by kernel_rfl
theorem Ajf_ (v870 : Int) : At_ Try.prog 0 (Tc_ v870) 0 (Ab_ Try.f31 0) := by
  intro e L out h
  exact lo_ok (E := I0_ v870) (gT := Jh_ v870) (X := Qa_ v870) (s0 := ((gI (vAt e 7)), (gRI L (vAt e 3)))) tok Ws_ mixed (Ad_ (l := []) (by kernel_rfl) trivial) (Ab9_ v870) rfl (by intro x; rfl) h
noncomputable def Jy_ (v870 : Int) : Tree ((List Int)) :=
  (.need (some (I0_ v870 ((0 : Int), ([] : List Int))) = some (I0_ v870 ((0 : Int), ([] : List Int)))) <|
  (.call (D1_ v870 ((0 : Int), ([] : List Int))) fun v876 =>
  .leaf v876))
noncomputable def Dy_ (v870 : Int) : Option ((List Int)) := (Jy_ v870).run
def Ir_ (v870 : Int) (y : (List Int)) : Rs := (.own 0 0 ((y).length), [.row (.i64 y) 0])
theorem Amb_ (v870 : Int) : (den TT (tabD Ii_) (tabM Ii_) (Tc_ v870) (Ah_ Try.f31) ([.int .i64 v870] ++ List.replicate (Try.f31.ntmps - ([.int .i64 v870] : List DV).length) .undef) []).bind (retD TT Try.f31.results.toList 0) = (Jy_ v870).bind fun y => .leaf (Ir_ v870 y) := by kernel_rfl
theorem Ae4_ (v870 : Int) (F : Fr) (h0 : St F [] F.H0) (hA : DVs.Ok F [] [.int .i64 v870]) {y : (List Int)} (hy : Dy_ v870 = some y) : ∃ F' H', Fwd 0 F F' [] (Ir_ v870 y).2 ∧ FnOk Try.prog 31 (DVs.av F [.int .i64 v870]) F.H0 ((Ir_ v870 y).1.av F') H' ∧ St F' (Ir_ v870 y).2 H' ∧ (Ir_ v870 y).1.Ok F' (Ir_ v870 y).2 :=
  Aj_ tok Ws_ mixed Try.func31 Try.call31 (by kernel_rfl) (Ad_ (l := [(0, Ab_ Try.f31 0)]) (by kernel_rfl) ⟨Ajf_ v870, trivial⟩) (Amb_ v870) hy h0 hA
noncomputable def Rl_ : DFn := fun args L =>
  match args with
  | [.int .i64 v870] =>
    .call (Dy_ v870) fun y => .leaf (.own (L.length + 0) 0 ((y).length), L ++ [.row (.i64 y) 0])
  | _ => .fail
theorem Afe_ : COk Try.prog 31 Rl_ true := by
  intro F L H args r L' hs ha hr
  unfold Rl_ at hr
  split at hr
  · rename_i v870
    simp only [Tree.run] at hr
    obtain ⟨y, hy, hr⟩ := Option.bind_eq_some_iff.1 hr
    simp only [Tree.run, Option.some.injEq, Prod.mk.injEq] at hr
    obtain ⟨rfl, rfl⟩ := hr
    exact Dc_ hs (fun k => (([] : List AV)[k]?).getD .top) [.int .i64 v870] [.int .i64 v870] (fun F' h0 hi hρ => ⟨by simp [DVs.av, DV.av, BR.av, hρ], Ae4_ v870 F' (Ak_ hi) ⟨trivial, trivial⟩ hy⟩) rfl rfl
  · cases hr
noncomputable def Aa2_ (v892 : List Int) (v893 v894 : Int) : LOr := fun id e L =>
  match id with
  | _ => .fail
noncomputable def M2_ : List (FuncId × DFn × Bool) := []
theorem Agt_ : OrcOk Try.prog (tabD M2_) (tabM M2_) := Ai_ _
noncomputable def Sx_ (v892 : List Int) (v893 v894 : Int) : Tree ((Unit) ⊕ (Nat × Nat)) :=
  (.grd (sok v893 v894 v892.length) <|
  (.grd (decide (v894 ≤ ((v892.length : Nat) : Int)) && decide (((v892.length : Nat) : Int) ≤ ((v892.length : Nat) : Int))) <|
  (.br (decide (v893 = v894)) (
  .leaf (.inl ())
  ) (
  (.grd (sok (0 : Int) v893 v892.length) <|
  (.grd (sok v894 ((v892.length : Nat) : Int) v892.length) <|
  (.grd (decide ((Int.toNat (0 : Int)) + (Int.toNat v893 - Int.toNat (0 : Int)) + (AM.sub v892 ((Int.toNat v894 : Nat) : Int) (((Int.toNat v894) + (Int.toNat ((v892.length : Nat) : Int) - Int.toNat v894) : Nat) : Int)).length ≤ v892.length)) <|
  (.grd (sok (((Int.toNat v893 - Int.toNat (0 : Int)) + (AM.sub v892 ((Int.toNat v894 : Nat) : Int) (((Int.toNat v894) + (Int.toNat ((v892.length : Nat) : Int) - Int.toNat v894) : Nat) : Int)).length : Nat) : Int) ((v892.length : Nat) : Int) (v892.length - (Int.toNat (0 : Int)))) <|
  (.grd (decide (((Int.toNat (0 : Int)) + Int.toNat (((Int.toNat v893 - Int.toNat (0 : Int)) + (AM.sub v892 ((Int.toNat v894 : Nat) : Int) (((Int.toNat v894) + (Int.toNat ((v892.length : Nat) : Int) - Int.toNat v894) : Nat) : Int)).length : Nat) : Int)) + (Int.toNat ((v892.length : Nat) : Int) - Int.toNat (((Int.toNat v893 - Int.toNat (0 : Int)) + (AM.sub v892 ((Int.toNat v894 : Nat) : Int) (((Int.toNat v894) + (Int.toNat ((v892.length : Nat) : Int) - Int.toNat v894) : Nat) : Int)).length : Nat) : Int)) ≤ (overL v892 ((Int.toNat (0 : Int)) + (Int.toNat v893 - Int.toNat (0 : Int))) (AM.sub v892 ((Int.toNat v894 : Nat) : Int) (((Int.toNat v894) + (Int.toNat ((v892.length : Nat) : Int) - Int.toNat v894) : Nat) : Int))).length)) <|
  .leaf (.inr (Int.toNat (0 : Int), (Int.toNat v893 - Int.toNat (0 : Int)) + (AM.sub v892 ((Int.toNat v894 : Nat) : Int) (((Int.toNat v894) + (Int.toNat ((v892.length : Nat) : Int) - Int.toNat v894) : Nat) : Int)).length)))))))
  ))))
noncomputable def Dp_ (v892 : List Int) (v893 v894 : Int) : Option ((Unit) ⊕ (Nat × Nat)) := (Sx_ v892 v893 v894).run
def H3_ (v892 : List Int) (v893 v894 : Int) (y : (Unit) ⊕ (Nat × Nat)) : Rs := (match y with | .inl y => (.own 0 0 ((v892).length), [.row (.i64 v892) 0]) | .inr y => (.slc 0 y.1 0 ((overL (overL v892 ((Int.toNat (0 : Int)) + (Int.toNat v893 - Int.toNat (0 : Int))) (AM.sub v892 ((Int.toNat v894 : Nat) : Int) (((Int.toNat v894) + (Int.toNat ((v892.length : Nat) : Int) - Int.toNat v894) : Nat) : Int))) ((Int.toNat (0 : Int)) + Int.toNat (((Int.toNat v893 - Int.toNat (0 : Int)) + (AM.sub v892 ((Int.toNat v894 : Nat) : Int) (((Int.toNat v894) + (Int.toNat ((v892.length : Nat) : Int) - Int.toNat v894) : Nat) : Int)).length : Nat) : Int)) (List.replicate (Int.toNat ((v892.length : Nat) : Int) - Int.toNat (((Int.toNat v893 - Int.toNat (0 : Int)) + (AM.sub v892 ((Int.toNat v894 : Nat) : Int) (((Int.toNat v894) + (Int.toNat ((v892.length : Nat) : Int) - Int.toNat v894) : Nat) : Int)).length : Nat) : Int)) (0 : Int))).length) y.2, [.row (.i64 (overL (overL v892 ((Int.toNat (0 : Int)) + (Int.toNat v893 - Int.toNat (0 : Int))) (AM.sub v892 ((Int.toNat v894 : Nat) : Int) (((Int.toNat v894) + (Int.toNat ((v892.length : Nat) : Int) - Int.toNat v894) : Nat) : Int))) ((Int.toNat (0 : Int)) + Int.toNat (((Int.toNat v893 - Int.toNat (0 : Int)) + (AM.sub v892 ((Int.toNat v894 : Nat) : Int) (((Int.toNat v894) + (Int.toNat ((v892.length : Nat) : Int) - Int.toNat v894) : Nat) : Int)).length : Nat) : Int)) (List.replicate (Int.toNat ((v892.length : Nat) : Int) - Int.toNat (((Int.toNat v893 - Int.toNat (0 : Int)) + (AM.sub v892 ((Int.toNat v894 : Nat) : Int) (((Int.toNat v894) + (Int.toNat ((v892.length : Nat) : Int) - Int.toNat v894) : Nat) : Int)).length : Nat) : Int)) (0 : Int)))) 0]))
theorem An0_ (v892 : List Int) (v893 v894 : Int) : (den TT (tabD M2_) (tabM M2_) (Aa2_ v892 v893 v894) (Ah_ Try.f55) ([.own 0 0 v892.length, .int .i64 v893, .int .i64 v894] ++ List.replicate (Try.f55.ntmps - ([.own 0 0 v892.length, .int .i64 v893, .int .i64 v894] : List DV).length) .undef) [.row (.i64 v892) 0]).bind (retD TT Try.f55.results.toList 1) = (Sx_ v892 v893 v894).bind fun y => .leaf (H3_ v892 v893 v894 y) := by kernel_rfl
theorem Xi_ (v892 : List Int) (v893 v894 : Int) (F : Fr) (h0 : St F [.row (.i64 v892) 0] F.H0) (hA : DVs.Ok F [.row (.i64 v892) 0] [.own 0 0 v892.length, .int .i64 v893, .int .i64 v894]) {y : (Unit) ⊕ (Nat × Nat)} (hy : Dp_ v892 v893 v894 = some y) : ∃ F' H', Fwd 1 F F' [.row (.i64 v892) 0] (H3_ v892 v893 v894 y).2 ∧ FnOk Try.prog 55 (DVs.av F [.own 0 0 v892.length, .int .i64 v893, .int .i64 v894]) F.H0 ((H3_ v892 v893 v894 y).1.av F') H' ∧ St F' (H3_ v892 v893 v894 y).2 H' ∧ (H3_ v892 v893 v894 y).1.Ok F' (H3_ v892 v893 v894 y).2 :=
  Aj_ tok Agt_ mixed Try.func55 Try.call55 (by kernel_rfl) (Ad_ (l := []) (by kernel_rfl) trivial) (An0_ v892 v893 v894) hy h0 hA
noncomputable def Fe_ : DFn := fun args L =>
  match args with
  | [a1, .int .i64 v893, .int .i64 v894] =>
    optT (Kn_ L a1) fun qv892 =>
    (match sepB [qv892.1] [] with
    | true =>
    .call (Dp_ qv892.2 v893 v894) fun y => .sum y (fun y0 => .grd (decide (qv892.2.length = qv892.2.length)) (.leaf (.own qv892.1 (verAt L qv892.1) ((qv892.2).length), setB L [(qv892.1, .row (.i64 qv892.2) (verAt L qv892.1))] ++ []))) (fun z0 => .grd (decide ((overL (overL qv892.2 ((Int.toNat (0 : Int)) + (Int.toNat v893 - Int.toNat (0 : Int))) (AM.sub qv892.2 ((Int.toNat v894 : Nat) : Int) (((Int.toNat v894) + (Int.toNat ((qv892.2.length : Nat) : Int) - Int.toNat v894) : Nat) : Int))) ((Int.toNat (0 : Int)) + Int.toNat (((Int.toNat v893 - Int.toNat (0 : Int)) + (AM.sub qv892.2 ((Int.toNat v894 : Nat) : Int) (((Int.toNat v894) + (Int.toNat ((qv892.2.length : Nat) : Int) - Int.toNat v894) : Nat) : Int)).length : Nat) : Int)) (List.replicate (Int.toNat ((qv892.2.length : Nat) : Int) - Int.toNat (((Int.toNat v893 - Int.toNat (0 : Int)) + (AM.sub qv892.2 ((Int.toNat v894 : Nat) : Int) (((Int.toNat v894) + (Int.toNat ((qv892.2.length : Nat) : Int) - Int.toNat v894) : Nat) : Int)).length : Nat) : Int)) (0 : Int))).length = qv892.2.length)) (.leaf (.slc qv892.1 z0.1 (verAt L qv892.1) ((overL (overL qv892.2 ((Int.toNat (0 : Int)) + (Int.toNat v893 - Int.toNat (0 : Int))) (AM.sub qv892.2 ((Int.toNat v894 : Nat) : Int) (((Int.toNat v894) + (Int.toNat ((qv892.2.length : Nat) : Int) - Int.toNat v894) : Nat) : Int))) ((Int.toNat (0 : Int)) + Int.toNat (((Int.toNat v893 - Int.toNat (0 : Int)) + (AM.sub qv892.2 ((Int.toNat v894 : Nat) : Int) (((Int.toNat v894) + (Int.toNat ((qv892.2.length : Nat) : Int) - Int.toNat v894) : Nat) : Int)).length : Nat) : Int)) (List.replicate (Int.toNat ((qv892.2.length : Nat) : Int) - Int.toNat (((Int.toNat v893 - Int.toNat (0 : Int)) + (AM.sub qv892.2 ((Int.toNat v894 : Nat) : Int) (((Int.toNat v894) + (Int.toNat ((qv892.2.length : Nat) : Int) - Int.toNat v894) : Nat) : Int)).length : Nat) : Int)) (0 : Int))).length) z0.2, setB L [(qv892.1, .row (.i64 (overL (overL qv892.2 ((Int.toNat (0 : Int)) + (Int.toNat v893 - Int.toNat (0 : Int))) (AM.sub qv892.2 ((Int.toNat v894 : Nat) : Int) (((Int.toNat v894) + (Int.toNat ((qv892.2.length : Nat) : Int) - Int.toNat v894) : Nat) : Int))) ((Int.toNat (0 : Int)) + Int.toNat (((Int.toNat v893 - Int.toNat (0 : Int)) + (AM.sub qv892.2 ((Int.toNat v894 : Nat) : Int) (((Int.toNat v894) + (Int.toNat ((qv892.2.length : Nat) : Int) - Int.toNat v894) : Nat) : Int)).length : Nat) : Int)) (List.replicate (Int.toNat ((qv892.2.length : Nat) : Int) - Int.toNat (((Int.toNat v893 - Int.toNat (0 : Int)) + (AM.sub qv892.2 ((Int.toNat v894 : Nat) : Int) (((Int.toNat v894) + (Int.toNat ((qv892.2.length : Nat) : Int) - Int.toNat v894) : Nat) : Int)).length : Nat) : Int)) (0 : Int)))) (verAt L qv892.1))] ++ [])))
    | false => .fail)
  | _ => .fail
theorem K5_ : COk Try.prog 55 Fe_ false := by
  intro F L H args r L' hs ha hr
  unfold Fe_ at hr
  split at hr
  · rename_i a1 v893 v894
    obtain ⟨⟨jv892, v892⟩, hqv892, hr⟩ := Aa_ hr
    simp only at hr
    split at hr
    · rename_i hsep
      obtain ⟨hnd, hsepv⟩ := F0_ hsep
      simp only [Tree.run] at hr
      obtain ⟨y, hy, hr⟩ := Option.bind_eq_some_iff.1 hr
      cases y with
      | inl y =>
        try simp only [Tree.run] at hr
        obtain ⟨hl0, hr⟩ := Nk_ hr
        simp only [Option.some.injEq, Prod.mk.injEq] at hr
        obtain ⟨rfl, rfl⟩ := hr
        obtain ⟨hr0, hu0, ha0, hb0⟩ := (Dr_ (DVs.okAt ha 0 rfl) (D0_ hqv892))
        exact Ka_ hs [a1] ⟨(DVs.okAt ha 0 rfl), trivial⟩ [a1, .int .i64 v893, .int .i64 v894] [.own 0 0 v892.length, .int .i64 v893, .int .i64 v894] [jv892] [verAt L jv892] [.row (.i64 v892) 0] [.row (.i64 v892) 0] [.row (.i64 v892) (verAt L jv892)] [] hnd rfl rfl (fun j hj => by
            simp at hj
            subst hj; exact V6_ hr0) (fun j hj => by
            simp at hj
            subst hj; exact Gj_ (by simp [DVs.refs, DV.refs, hu0])) (fun F' h0 hρ ab hpl hS => by
            have ab0 := ab 0 _ rfl;
            refine ⟨fun i j b' h1 h2 => ?_, by simp [DBlk.blk, DVs.av, DV.av, BR.av, hρ, Row.len, ha0, ab0], fun hst => Xi_ v892 v893 v894 F' hst ⟨⟨_, rfl, Nat.le_refl _, Nat.le_refl _, fun _ => rfl, (Dr_ (DVs.okAt ha 0 rfl) (D0_ hqv892)).2.2.2⟩, trivial, trivial, trivial⟩ hy⟩
            rcases i with _ | i
            · simp at h1 h2; subst h1; subst h2; obtain ⟨ver_, hv_⟩ := hr0; exact ⟨_, hv_, .row _ _ _, rfl, hb0⟩
            · simp at h1) rfl rfl (fun i j b b' h1 h2 h3 => by
            rcases i with _ | i
            · simp at h1; subst h1; cases h3; exact growK hr0 (by first | exact of_decide_eq_true hl0 | rfl) h2
            · simp at h1)
      | inr y =>
        try simp only [Tree.run] at hr
        obtain ⟨hl0, hr⟩ := Nk_ hr
        simp only [Option.some.injEq, Prod.mk.injEq] at hr
        obtain ⟨rfl, rfl⟩ := hr
        obtain ⟨hr0, hu0, ha0, hb0⟩ := (Dr_ (DVs.okAt ha 0 rfl) (D0_ hqv892))
        exact Ka_ hs [a1] ⟨(DVs.okAt ha 0 rfl), trivial⟩ [a1, .int .i64 v893, .int .i64 v894] [.own 0 0 v892.length, .int .i64 v893, .int .i64 v894] [jv892] [verAt L jv892] [.row (.i64 v892) 0] [.row (.i64 (overL (overL v892 ((Int.toNat (0 : Int)) + (Int.toNat v893 - Int.toNat (0 : Int))) (AM.sub v892 ((Int.toNat v894 : Nat) : Int) (((Int.toNat v894) + (Int.toNat ((v892.length : Nat) : Int) - Int.toNat v894) : Nat) : Int))) ((Int.toNat (0 : Int)) + Int.toNat (((Int.toNat v893 - Int.toNat (0 : Int)) + (AM.sub v892 ((Int.toNat v894 : Nat) : Int) (((Int.toNat v894) + (Int.toNat ((v892.length : Nat) : Int) - Int.toNat v894) : Nat) : Int)).length : Nat) : Int)) (List.replicate (Int.toNat ((v892.length : Nat) : Int) - Int.toNat (((Int.toNat v893 - Int.toNat (0 : Int)) + (AM.sub v892 ((Int.toNat v894 : Nat) : Int) (((Int.toNat v894) + (Int.toNat ((v892.length : Nat) : Int) - Int.toNat v894) : Nat) : Int)).length : Nat) : Int)) (0 : Int)))) 0] [.row (.i64 (overL (overL v892 ((Int.toNat (0 : Int)) + (Int.toNat v893 - Int.toNat (0 : Int))) (AM.sub v892 ((Int.toNat v894 : Nat) : Int) (((Int.toNat v894) + (Int.toNat ((v892.length : Nat) : Int) - Int.toNat v894) : Nat) : Int))) ((Int.toNat (0 : Int)) + Int.toNat (((Int.toNat v893 - Int.toNat (0 : Int)) + (AM.sub v892 ((Int.toNat v894 : Nat) : Int) (((Int.toNat v894) + (Int.toNat ((v892.length : Nat) : Int) - Int.toNat v894) : Nat) : Int)).length : Nat) : Int)) (List.replicate (Int.toNat ((v892.length : Nat) : Int) - Int.toNat (((Int.toNat v893 - Int.toNat (0 : Int)) + (AM.sub v892 ((Int.toNat v894 : Nat) : Int) (((Int.toNat v894) + (Int.toNat ((v892.length : Nat) : Int) - Int.toNat v894) : Nat) : Int)).length : Nat) : Int)) (0 : Int)))) (verAt L jv892)] [] hnd rfl rfl (fun j hj => by
            simp at hj
            subst hj; exact V6_ hr0) (fun j hj => by
            simp at hj
            subst hj; exact Gj_ (by simp [DVs.refs, DV.refs, hu0])) (fun F' h0 hρ ab hpl hS => by
            have ab0 := ab 0 _ rfl;
            refine ⟨fun i j b' h1 h2 => ?_, by simp [DBlk.blk, DVs.av, DV.av, BR.av, hρ, Row.len, ha0, ab0], fun hst => Xi_ v892 v893 v894 F' hst ⟨⟨_, rfl, Nat.le_refl _, Nat.le_refl _, fun _ => rfl, (Dr_ (DVs.okAt ha 0 rfl) (D0_ hqv892)).2.2.2⟩, trivial, trivial, trivial⟩ hy⟩
            rcases i with _ | i
            · simp at h1 h2; subst h1; subst h2; obtain ⟨ver_, hv_⟩ := hr0; exact ⟨_, hv_, .row _ _ _, rfl, hb0⟩
            · simp at h1) rfl rfl (fun i j b b' h1 h2 h3 => by
            rcases i with _ | i
            · simp at h1; subst h1; cases h3; exact growK hr0 (by first | exact of_decide_eq_true hl0 | rfl) h2
            · simp at h1)
    · cases hr
  · cases hr
noncomputable def Qj_ (v925 : Int) (v926 v927 v928 : List Int) (s : Int × Int) : Tree ((Int × Int) ⊕ (Unit)) :=
  (.br (decide (s.2 < ((v928.length : Nat) : Int))) (
  (.grd (inb s.2 v928.length) <|
  (.grd (inb (0 : Int) v927.length) <|
  (.call (Cl_ v925 v926 (nth v927 (Int.toNat (0 : Int))) (nth v928 (Int.toNat s.2))) fun v946 =>
  (.br (!decide (v946 = (0 : Int))) (
  (.grd (sok (1 : Int) ((v927.length : Nat) : Int) v927.length) <|
  (.call (Be_ v928) fun v947 =>
  (.call (Dp_ (([] : List Int) ++ v928) s.2 (IntKind.i64.wrap (s.2 + (1 : Int)))) fun v948 =>
  (.sum v948 (fun v949 =>
  (.grd (decide ((([] : List Int) ++ v928).length = (([] : List Int) ++ v928).length)) <|
  .fail)
  ) (fun v950 =>
  (.grd (decide ((overL (overL (([] : List Int) ++ v928) ((Int.toNat (0 : Int)) + (Int.toNat s.2 - Int.toNat (0 : Int))) (AM.sub (([] : List Int) ++ v928) ((Int.toNat (IntKind.i64.wrap (s.2 + (1 : Int))) : Nat) : Int) (((Int.toNat (IntKind.i64.wrap (s.2 + (1 : Int)))) + (Int.toNat (((([] : List Int) ++ v928).length : Nat) : Int) - Int.toNat (IntKind.i64.wrap (s.2 + (1 : Int)))) : Nat) : Int))) ((Int.toNat (0 : Int)) + Int.toNat (((Int.toNat s.2 - Int.toNat (0 : Int)) + (AM.sub (([] : List Int) ++ v928) ((Int.toNat (IntKind.i64.wrap (s.2 + (1 : Int))) : Nat) : Int) (((Int.toNat (IntKind.i64.wrap (s.2 + (1 : Int)))) + (Int.toNat (((([] : List Int) ++ v928).length : Nat) : Int) - Int.toNat (IntKind.i64.wrap (s.2 + (1 : Int)))) : Nat) : Int)).length : Nat) : Int)) (List.replicate (Int.toNat (((([] : List Int) ++ v928).length : Nat) : Int) - Int.toNat (((Int.toNat s.2 - Int.toNat (0 : Int)) + (AM.sub (([] : List Int) ++ v928) ((Int.toNat (IntKind.i64.wrap (s.2 + (1 : Int))) : Nat) : Int) (((Int.toNat (IntKind.i64.wrap (s.2 + (1 : Int)))) + (Int.toNat (((([] : List Int) ++ v928).length : Nat) : Int) - Int.toNat (IntKind.i64.wrap (s.2 + (1 : Int)))) : Nat) : Int)).length : Nat) : Int)) (0 : Int))).length = (([] : List Int) ++ v928).length)) <|
  .fail)
  )))))
  ) (
  .leaf (.inl (IntKind.i64.wrap (0 - s.1), IntKind.i64.wrap (s.2 + (1 : Int))))
  )))))
  ) (
  .leaf (.inr ())
  ))
noncomputable def Xq_ (v925 : Int) (v926 v927 v928 : List Int) (s0 : Int × Int) : Option (Unit) := Af_ (fun s => (Qj_ v925 v926 v927 v928 s).run) s0
def Iy_ (v924 v925 : Int) (v926 v927 v928 : List Int) (s : Int × Int) : Sd := ([Z,.bslc (BR.root 1) (.i64 v927),.bslc (BR.root 2) (.i64 v928),.ptr 0 (0 : Nat) 0 (3 : Nat),Z,Z,Z,.int .i64 (0 : Int),.int .i64 s.1,Z,Z,Z,Z,Z,Z,.bslc (BR.root 2) (.i64 v928),.int .i64 ((v928.length : Nat) : Int),.int .i64 s.2,Z,Z,Z,Z,Z,Z,Z,Z,Z,Z,Z,Z,Z,Z,Z,Z,Z,Z,Z,Z,Z,Z,Z,Z,Z,Z,Z,Z,Z,Z,Z,Z], [.gen [.int .i64 v924, .int .i64 v925, .bslc (BR.root 0) (.i64 v926)] false 0])
def P8_ (v924 v925 : Int) (v926 v927 v928 : List Int) (x : Unit) : Out := (.normal, [Z,Z,Z,Z,Z,Z,Z,.int .i64 (0 : Int),Z,Z,Z,Z,Z,Z,Z,Z,Z,Z,Z,Z,Z,Z,Z,Z,Z,Z,Z,Z,Z,Z,Z,Z,Z,Z,Z,Z,Z,Z,Z,Z,Z,Z,Z,Z,Z,Z,Z,Z,Z,Z], [])
def T9_ : List Nat := KL true [1,3,3,2,6,3,32]
def Alf_ : Exit → List Nat
  | .exit 0 => KL true [7,1,42]
  | .ret => KL true [6,1,43]
  | _ => []
noncomputable def Qu_ (v924 v925 : Int) (v926 v927 v928 : List Int) : LOr := fun id e L =>
  match id with
  | 0 => .need (normA 0 T9_ e L = some (Iy_ v924 v925 v926 v927 v928 ((gI (vAt e 8)), (gI (vAt e 17))))) (.call (Xq_ v925 v926 v927 v928 ((gI (vAt e 8)), (gI (vAt e 17)))) fun x => .leaf (P8_ v924 v925 v926 v927 v928 x))
  | _ => .fail
noncomputable def Ip_ : List (FuncId × DFn × Bool) := [(33, Df_, true), (22, Du_, true), (55, Fe_, false)]
theorem U0_ : OrcOk Try.prog (tabD Ip_) (tabM Ip_) := Ae_ Gp_ (Ae_ H5_ (Ae_ K5_ (Ai_ _)))
theorem An3_ (v924 v925 : Int) (v926 v927 v928 : List Int) (s : Int × Int) : bodyT TT (tabD Ip_) (tabM Ip_) (Qu_ v924 v925 v926 v927 v928) 0 T9_ Alf_ (Ab_ Try.f30 0) 0 (Iy_ v924 v925 v926 v927 v928 s) = (Qj_ v925 v926 v927 v928 s).bind fun y => .leaf (outS (Iy_ v924 v925 v926 v927 v928) (P8_ v924 v925 v926 v927 v928) y) := by kernel_rfl
theorem Ao1_ (v924 v925 : Int) (v926 v927 v928 : List Int) : At_ Try.prog 0 (Qu_ v924 v925 v926 v927 v928) 0 (Ab_ Try.f30 0) := by
  intro e L out h
  exact lo_ok (E := Iy_ v924 v925 v926 v927 v928) (gT := Qj_ v925 v926 v927 v928) (X := P8_ v924 v925 v926 v927 v928) (s0 := ((gI (vAt e 8)), (gI (vAt e 17)))) tok U0_ mixed (Ad_ (l := []) (by kernel_rfl) trivial) (An3_ v924 v925 v926 v927 v928) rfl (by intro x; rfl) h
noncomputable def Qy_ (v924 v925 : Int) (v926 v927 v928 : List Int) : Tree (Int) :=
  (.br (decide (((v927.length : Nat) : Int) = (0 : Int))) (
  .leaf (1 : Int)
  ) (
  (.need (some (Iy_ v924 v925 v926 v927 v928 ((1 : Int), (0 : Int))) = some (Iy_ v924 v925 v926 v927 v928 ((1 : Int), (0 : Int)))) <|
  (.call (Xq_ v925 v926 v927 v928 ((1 : Int), (0 : Int))) fun v951 =>
  .leaf (0 : Int)))
  ))
noncomputable def Eu_ (v924 v925 : Int) (v926 v927 v928 : List Int) : Option (Int) := (Qy_ v924 v925 v926 v927 v928).run
def Hy_ (v924 v925 : Int) (v926 v927 v928 : List Int) (y : Int) : Rs := (.int .i64 y, [])
theorem Aab_ (v924 v925 : Int) (v926 v927 v928 : List Int) : (den TT (tabD Ip_) (tabM Ip_) (Qu_ v924 v925 v926 v927 v928) (Ah_ Try.f30) ([.agg [.int .i64 v924, .int .i64 v925, .bslc (BR.root 0) (.i64 v926)], .bslc (BR.root 1) (.i64 v927), .bslc (BR.root 2) (.i64 v928)] ++ List.replicate (Try.f30.ntmps - ([.agg [.int .i64 v924, .int .i64 v925, .bslc (BR.root 0) (.i64 v926)], .bslc (BR.root 1) (.i64 v927), .bslc (BR.root 2) (.i64 v928)] : List DV).length) .undef) []).bind (retD TT Try.f30.results.toList 0) = (Qy_ v924 v925 v926 v927 v928).bind fun y => .leaf (Hy_ v924 v925 v926 v927 v928 y) := by kernel_rfl
theorem Amn_ (v924 v925 : Int) (v926 v927 v928 : List Int) (F : Fr) (h0 : St F [] F.H0) (hA : DVs.Ok F [] [.agg [.int .i64 v924, .int .i64 v925, .bslc (BR.root 0) (.i64 v926)], .bslc (BR.root 1) (.i64 v927), .bslc (BR.root 2) (.i64 v928)]) {y : Int} (hy : Eu_ v924 v925 v926 v927 v928 = some y) : ∃ F' H', Fwd 0 F F' [] (Hy_ v924 v925 v926 v927 v928 y).2 ∧ FnOk Try.prog 30 (DVs.av F [.agg [.int .i64 v924, .int .i64 v925, .bslc (BR.root 0) (.i64 v926)], .bslc (BR.root 1) (.i64 v927), .bslc (BR.root 2) (.i64 v928)]) F.H0 ((Hy_ v924 v925 v926 v927 v928 y).1.av F') H' ∧ St F' (Hy_ v924 v925 v926 v927 v928 y).2 H' ∧ (Hy_ v924 v925 v926 v927 v928 y).1.Ok F' (Hy_ v924 v925 v926 v927 v928 y).2 :=
  Aj_ tok U0_ mixed Try.func30 Try.call30 (by kernel_rfl) (Ad_ (l := [(0, Ab_ Try.f30 0)]) (by kernel_rfl) ⟨Ao1_ v924 v925 v926 v927 v928, trivial⟩) (Aab_ v924 v925 v926 v927 v928) hy h0 hA
noncomputable def Od_ : DFn := fun args L =>
  match args with
  | [.agg [.int .i64 v924, .int .i64 v925, a1], a2, a3] =>
    optT (As_ L a1) fun v926 =>
    optT (As_ L a2) fun v927 =>
    optT (As_ L a3) fun v928 =>
    .call (Eu_ v924 v925 v926 v927 v928) fun y => .leaf (.int .i64 y, L)
  | _ => .fail
theorem Ag3_ : COk Try.prog 30 Od_ true := by
  intro F L H args r L' hs ha hr
  unfold Od_ at hr
  split at hr
  · rename_i v924 v925 a1 a2 a3
    obtain ⟨v926, hv926, hr⟩ := Aa_ hr
    obtain ⟨v927, hv927, hr⟩ := Aa_ hr
    obtain ⟨v928, hv928, hr⟩ := Aa_ hr
    simp only [Tree.run] at hr
    obtain ⟨y, hy, hr⟩ := Option.bind_eq_some_iff.1 hr
    simp only [Tree.run, Option.some.injEq, Prod.mk.injEq] at hr
    obtain ⟨rfl, rfl⟩ := hr
    exact Aw_ hs (fun k => (([a1.av F, a2.av F, a3.av F] : List AV)[k]?).getD .top) [.agg [.int .i64 v924, .int .i64 v925, a1], a2, a3] [.agg [.int .i64 v924, .int .i64 v925, .bslc (BR.root 0) (.i64 v926)], .bslc (BR.root 1) (.i64 v927), .bslc (BR.root 2) (.i64 v928)] (fun F' h0 hi hρ => ⟨by simp [DVs.av, DV.av, BR.av, hρ], Amn_ v924 v925 v926 v927 v928 F' (Ak_ hi) ⟨⟨trivial, trivial, Ag_ hi (by rw [h0, hρ]; exact An_ hs (DVs.okAt (DVs.okAt ha 0 rfl) 2 rfl) hv926), trivial⟩, Ag_ hi (by rw [h0, hρ]; exact An_ hs (DVs.okAt ha 1 rfl) hv927), Ag_ hi (by rw [h0, hρ]; exact An_ hs (DVs.okAt ha 2 rfl) hv928), trivial⟩ hy⟩) rfl
  · cases hr
noncomputable def C9_ (v911 v912 : Int) (v913 v914 v915 : List Int) (s : Int × Int × Int) : Tree ((Int × Int × Int) ⊕ (Int)) :=
  (.br (decide (s.2.2 < ((v915.length : Nat) : Int))) (
  (.grd (inb s.2.2 v915.length) <|
  (.grd (inb (0 : Int) v914.length) <|
  (.call (Cl_ v912 v913 (nth v914 (Int.toNat (0 : Int))) (nth v915 (Int.toNat s.2.2))) fun v967 =>
  (.br (!decide (v967 = (0 : Int))) (
  (.grd (sok (1 : Int) ((v914.length : Nat) : Int) v914.length) <|
  (.call (Be_ v915) fun v968 =>
  (.call (Dp_ (([] : List Int) ++ v915) s.2.2 (IntKind.i64.wrap (s.2.2 + (1 : Int)))) fun v969 =>
  (.sum v969 (fun v970 =>
  (.grd (decide ((([] : List Int) ++ v915).length = (([] : List Int) ++ v915).length)) <|
  (.call (Eu_ v911 v912 v913 (AM.sub v914 (1 : Int) ((v914.length : Nat) : Int)) (([] : List Int) ++ v915)) fun v972 =>
  .leaf (.inl (IntKind.i64.wrap (s.1 + (IntKind.i64.wrap ((IntKind.i64.wrap (s.2.1 * v967)) * v972))), IntKind.i64.wrap (0 - s.2.1), IntKind.i64.wrap (s.2.2 + (1 : Int))))))
  ) (fun v971 =>
  (.grd (decide ((overL (overL (([] : List Int) ++ v915) ((Int.toNat (0 : Int)) + (Int.toNat s.2.2 - Int.toNat (0 : Int))) (AM.sub (([] : List Int) ++ v915) ((Int.toNat (IntKind.i64.wrap (s.2.2 + (1 : Int))) : Nat) : Int) (((Int.toNat (IntKind.i64.wrap (s.2.2 + (1 : Int)))) + (Int.toNat (((([] : List Int) ++ v915).length : Nat) : Int) - Int.toNat (IntKind.i64.wrap (s.2.2 + (1 : Int)))) : Nat) : Int))) ((Int.toNat (0 : Int)) + Int.toNat (((Int.toNat s.2.2 - Int.toNat (0 : Int)) + (AM.sub (([] : List Int) ++ v915) ((Int.toNat (IntKind.i64.wrap (s.2.2 + (1 : Int))) : Nat) : Int) (((Int.toNat (IntKind.i64.wrap (s.2.2 + (1 : Int)))) + (Int.toNat (((([] : List Int) ++ v915).length : Nat) : Int) - Int.toNat (IntKind.i64.wrap (s.2.2 + (1 : Int)))) : Nat) : Int)).length : Nat) : Int)) (List.replicate (Int.toNat (((([] : List Int) ++ v915).length : Nat) : Int) - Int.toNat (((Int.toNat s.2.2 - Int.toNat (0 : Int)) + (AM.sub (([] : List Int) ++ v915) ((Int.toNat (IntKind.i64.wrap (s.2.2 + (1 : Int))) : Nat) : Int) (((Int.toNat (IntKind.i64.wrap (s.2.2 + (1 : Int)))) + (Int.toNat (((([] : List Int) ++ v915).length : Nat) : Int) - Int.toNat (IntKind.i64.wrap (s.2.2 + (1 : Int)))) : Nat) : Int)).length : Nat) : Int)) (0 : Int))).length = (([] : List Int) ++ v915).length)) <|
  (.call (Eu_ v911 v912 v913 (AM.sub v914 (1 : Int) ((v914.length : Nat) : Int)) (AM.sub (overL (overL (([] : List Int) ++ v915) ((Int.toNat (0 : Int)) + (Int.toNat s.2.2 - Int.toNat (0 : Int))) (AM.sub (([] : List Int) ++ v915) ((Int.toNat (IntKind.i64.wrap (s.2.2 + (1 : Int))) : Nat) : Int) (((Int.toNat (IntKind.i64.wrap (s.2.2 + (1 : Int)))) + (Int.toNat (((([] : List Int) ++ v915).length : Nat) : Int) - Int.toNat (IntKind.i64.wrap (s.2.2 + (1 : Int)))) : Nat) : Int))) ((Int.toNat (0 : Int)) + Int.toNat (((Int.toNat s.2.2 - Int.toNat (0 : Int)) + (AM.sub (([] : List Int) ++ v915) ((Int.toNat (IntKind.i64.wrap (s.2.2 + (1 : Int))) : Nat) : Int) (((Int.toNat (IntKind.i64.wrap (s.2.2 + (1 : Int)))) + (Int.toNat (((([] : List Int) ++ v915).length : Nat) : Int) - Int.toNat (IntKind.i64.wrap (s.2.2 + (1 : Int)))) : Nat) : Int)).length : Nat) : Int)) (List.replicate (Int.toNat (((([] : List Int) ++ v915).length : Nat) : Int) - Int.toNat (((Int.toNat s.2.2 - Int.toNat (0 : Int)) + (AM.sub (([] : List Int) ++ v915) ((Int.toNat (IntKind.i64.wrap (s.2.2 + (1 : Int))) : Nat) : Int) (((Int.toNat (IntKind.i64.wrap (s.2.2 + (1 : Int)))) + (Int.toNat (((([] : List Int) ++ v915).length : Nat) : Int) - Int.toNat (IntKind.i64.wrap (s.2.2 + (1 : Int)))) : Nat) : Int)).length : Nat) : Int)) (0 : Int))) ((v971.1 : Nat) : Int) ((v971.1 + v971.2 : Nat) : Int))) fun v973 =>
  .leaf (.inl (IntKind.i64.wrap (s.1 + (IntKind.i64.wrap ((IntKind.i64.wrap (s.2.1 * v967)) * v973))), IntKind.i64.wrap (0 - s.2.1), IntKind.i64.wrap (s.2.2 + (1 : Int))))))
  )))))
  ) (
  .leaf (.inl (s.1, IntKind.i64.wrap (0 - s.2.1), IntKind.i64.wrap (s.2.2 + (1 : Int))))
  )))))
  ) (
  .leaf (.inr s.1)
  ))
noncomputable def Ml_ (v911 v912 : Int) (v913 v914 v915 : List Int) (s0 : Int × Int × Int) : Option (Int) := Af_ (fun s => (C9_ v911 v912 v913 v914 v915 s).run) s0
def G6_ (v911 v912 : Int) (v913 v914 v915 : List Int) (s : Int × Int × Int) : Sd := ([Z,.bslc (BR.root 1) (.i64 v914),.bslc (BR.root 2) (.i64 v915),.ptr 0 (0 : Nat) 0 (3 : Nat),Z,Z,Z,.int .i64 s.1,.int .i64 s.2.1,Z,Z,Z,Z,Z,Z,.bslc (BR.root 2) (.i64 v915),.int .i64 ((v915.length : Nat) : Int),.int .i64 s.2.2,Z,Z,Z,Z,Z,Z,Z,Z,Z,Z,Z,Z,Z,Z,Z,Z,Z,Z,Z,Z,Z,Z,Z,Z,Z,Z,Z,Z,Z,Z,Z,Z], [.gen [.int .i64 v911, .int .i64 v912, .bslc (BR.root 0) (.i64 v913)] false 0])
def Qo_ (v911 v912 : Int) (v913 v914 v915 : List Int) (x : Int) : Out := (.normal, [Z,Z,Z,Z,Z,Z,Z,.int .i64 x,Z,Z,Z,Z,Z,Z,Z,Z,Z,Z,Z,Z,Z,Z,Z,Z,Z,Z,Z,Z,Z,Z,Z,Z,Z,Z,Z,Z,Z,Z,Z,Z,Z,Z,Z,Z,Z,Z,Z,Z,Z,Z], [])
def Vn_ : List Nat := KL true [1,3,3,2,6,3,32]
def Af7_ : Exit → List Nat
  | .exit 0 => KL true [7,1,42]
  | .ret => KL true [6,1,43]
  | _ => []
noncomputable def P2_ (v911 v912 : Int) (v913 v914 v915 : List Int) : LOr := fun id e L =>
  match id with
  | 0 => .need (normA 0 Vn_ e L = some (G6_ v911 v912 v913 v914 v915 ((gI (vAt e 7)), (gI (vAt e 8)), (gI (vAt e 17))))) (.call (Ml_ v911 v912 v913 v914 v915 ((gI (vAt e 7)), (gI (vAt e 8)), (gI (vAt e 17)))) fun x => .leaf (Qo_ v911 v912 v913 v914 v915 x))
  | _ => .fail
noncomputable def Jg_ : List (FuncId × DFn × Bool) := [(33, Df_, true), (22, Du_, true), (55, Fe_, false), (30, Od_, true)]
theorem Ys_ : OrcOk Try.prog (tabD Jg_) (tabM Jg_) := Ae_ Gp_ (Ae_ H5_ (Ae_ K5_ (Ae_ Ag3_ (Ai_ _))))
theorem Ahv_ (v911 v912 : Int) (v913 v914 v915 : List Int) (s : Int × Int × Int) : bodyT TT (tabD Jg_) (tabM Jg_) (P2_ v911 v912 v913 v914 v915) 0 Vn_ Af7_ (Ab_ Try.f30 0) 0 (G6_ v911 v912 v913 v914 v915 s) = (C9_ v911 v912 v913 v914 v915 s).bind fun y => .leaf (outS (G6_ v911 v912 v913 v914 v915) (Qo_ v911 v912 v913 v914 v915) y) := by kernel_rfl
theorem Aik_ (v911 v912 : Int) (v913 v914 v915 : List Int) : At_ Try.prog 0 (P2_ v911 v912 v913 v914 v915) 0 (Ab_ Try.f30 0) := by
  intro e L out h
  exact lo_ok (E := G6_ v911 v912 v913 v914 v915) (gT := C9_ v911 v912 v913 v914 v915) (X := Qo_ v911 v912 v913 v914 v915) (s0 := ((gI (vAt e 7)), (gI (vAt e 8)), (gI (vAt e 17)))) tok Ys_ mixed (Ad_ (l := []) (by kernel_rfl) trivial) (Ahv_ v911 v912 v913 v914 v915) rfl (by intro x; rfl) h
noncomputable def K8_ (v911 v912 : Int) (v913 v914 v915 : List Int) : Tree (Int) :=
  (.br (decide (((v914.length : Nat) : Int) = (0 : Int))) (
  .leaf (1 : Int)
  ) (
  (.need (some (G6_ v911 v912 v913 v914 v915 ((0 : Int), (1 : Int), (0 : Int))) = some (G6_ v911 v912 v913 v914 v915 ((0 : Int), (1 : Int), (0 : Int)))) <|
  (.call (Ml_ v911 v912 v913 v914 v915 ((0 : Int), (1 : Int), (0 : Int))) fun v974 =>
  .leaf v974))
  ))
noncomputable def Dm_ (v911 v912 : Int) (v913 v914 v915 : List Int) : Option (Int) := (K8_ v911 v912 v913 v914 v915).run
def Gb_ (v911 v912 : Int) (v913 v914 v915 : List Int) (y : Int) : Rs := (.int .i64 y, [])
theorem Ady_ (v911 v912 : Int) (v913 v914 v915 : List Int) : (den TT (tabD Jg_) (tabM Jg_) (P2_ v911 v912 v913 v914 v915) (Ah_ Try.f30) ([.agg [.int .i64 v911, .int .i64 v912, .bslc (BR.root 0) (.i64 v913)], .bslc (BR.root 1) (.i64 v914), .bslc (BR.root 2) (.i64 v915)] ++ List.replicate (Try.f30.ntmps - ([.agg [.int .i64 v911, .int .i64 v912, .bslc (BR.root 0) (.i64 v913)], .bslc (BR.root 1) (.i64 v914), .bslc (BR.root 2) (.i64 v915)] : List DV).length) .undef) []).bind (retD TT Try.f30.results.toList 0) = (K8_ v911 v912 v913 v914 v915).bind fun y => .leaf (Gb_ v911 v912 v913 v914 v915 y) := by kernel_rfl
theorem Aq8_ (v911 v912 : Int) (v913 v914 v915 : List Int) (F : Fr) (h0 : St F [] F.H0) (hA : DVs.Ok F [] [.agg [.int .i64 v911, .int .i64 v912, .bslc (BR.root 0) (.i64 v913)], .bslc (BR.root 1) (.i64 v914), .bslc (BR.root 2) (.i64 v915)]) {y : Int} (hy : Dm_ v911 v912 v913 v914 v915 = some y) : ∃ F' H', Fwd 0 F F' [] (Gb_ v911 v912 v913 v914 v915 y).2 ∧ FnOk Try.prog 30 (DVs.av F [.agg [.int .i64 v911, .int .i64 v912, .bslc (BR.root 0) (.i64 v913)], .bslc (BR.root 1) (.i64 v914), .bslc (BR.root 2) (.i64 v915)]) F.H0 ((Gb_ v911 v912 v913 v914 v915 y).1.av F') H' ∧ St F' (Gb_ v911 v912 v913 v914 v915 y).2 H' ∧ (Gb_ v911 v912 v913 v914 v915 y).1.Ok F' (Gb_ v911 v912 v913 v914 v915 y).2 :=
  Aj_ tok Ys_ mixed Try.func30 Try.call30 (by kernel_rfl) (Ad_ (l := [(0, Ab_ Try.f30 0)]) (by kernel_rfl) ⟨Aik_ v911 v912 v913 v914 v915, trivial⟩) (Ady_ v911 v912 v913 v914 v915) hy h0 hA
noncomputable def Re_ : DFn := fun args L =>
  match args with
  | [.agg [.int .i64 v911, .int .i64 v912, a1], a2, a3] =>
    optT (As_ L a1) fun v913 =>
    optT (As_ L a2) fun v914 =>
    optT (As_ L a3) fun v915 =>
    .call (Dm_ v911 v912 v913 v914 v915) fun y => .leaf (.int .i64 y, L)
  | _ => .fail
theorem Ab5_ : COk Try.prog 30 Re_ true := by
  intro F L H args r L' hs ha hr
  unfold Re_ at hr
  split at hr
  · rename_i v911 v912 a1 a2 a3
    obtain ⟨v913, hv913, hr⟩ := Aa_ hr
    obtain ⟨v914, hv914, hr⟩ := Aa_ hr
    obtain ⟨v915, hv915, hr⟩ := Aa_ hr
    simp only [Tree.run] at hr
    obtain ⟨y, hy, hr⟩ := Option.bind_eq_some_iff.1 hr
    simp only [Tree.run, Option.some.injEq, Prod.mk.injEq] at hr
    obtain ⟨rfl, rfl⟩ := hr
    exact Aw_ hs (fun k => (([a1.av F, a2.av F, a3.av F] : List AV)[k]?).getD .top) [.agg [.int .i64 v911, .int .i64 v912, a1], a2, a3] [.agg [.int .i64 v911, .int .i64 v912, .bslc (BR.root 0) (.i64 v913)], .bslc (BR.root 1) (.i64 v914), .bslc (BR.root 2) (.i64 v915)] (fun F' h0 hi hρ => ⟨by simp [DVs.av, DV.av, BR.av, hρ], Aq8_ v911 v912 v913 v914 v915 F' (Ak_ hi) ⟨⟨trivial, trivial, Ag_ hi (by rw [h0, hρ]; exact An_ hs (DVs.okAt (DVs.okAt ha 0 rfl) 2 rfl) hv913), trivial⟩, Ag_ hi (by rw [h0, hρ]; exact An_ hs (DVs.okAt ha 1 rfl) hv914), Ag_ hi (by rw [h0, hρ]; exact An_ hs (DVs.okAt ha 2 rfl) hv915), trivial⟩ hy⟩) rfl
  · cases hr
noncomputable def C2_ (v898 v899 : Int) (v900 v901 v902 : List Int) (s : Int × Int × Int) : Tree ((Int × Int × Int) ⊕ (Int)) :=
  (.br (decide (s.2.2 < ((v902.length : Nat) : Int))) (
  (.grd (inb s.2.2 v902.length) <|
  (.grd (inb (0 : Int) v901.length) <|
  (.call (Cl_ v899 v900 (nth v901 (Int.toNat (0 : Int))) (nth v902 (Int.toNat s.2.2))) fun v990 =>
  (.br (!decide (v990 = (0 : Int))) (
  (.grd (sok (1 : Int) ((v901.length : Nat) : Int) v901.length) <|
  (.call (Be_ v902) fun v991 =>
  (.call (Dp_ (([] : List Int) ++ v902) s.2.2 (IntKind.i64.wrap (s.2.2 + (1 : Int)))) fun v992 =>
  (.sum v992 (fun v993 =>
  (.grd (decide ((([] : List Int) ++ v902).length = (([] : List Int) ++ v902).length)) <|
  (.call (Dm_ v898 v899 v900 (AM.sub v901 (1 : Int) ((v901.length : Nat) : Int)) (([] : List Int) ++ v902)) fun v995 =>
  .leaf (.inl (IntKind.i64.wrap (s.1 + (IntKind.i64.wrap ((IntKind.i64.wrap (s.2.1 * v990)) * v995))), IntKind.i64.wrap (0 - s.2.1), IntKind.i64.wrap (s.2.2 + (1 : Int))))))
  ) (fun v994 =>
  (.grd (decide ((overL (overL (([] : List Int) ++ v902) ((Int.toNat (0 : Int)) + (Int.toNat s.2.2 - Int.toNat (0 : Int))) (AM.sub (([] : List Int) ++ v902) ((Int.toNat (IntKind.i64.wrap (s.2.2 + (1 : Int))) : Nat) : Int) (((Int.toNat (IntKind.i64.wrap (s.2.2 + (1 : Int)))) + (Int.toNat (((([] : List Int) ++ v902).length : Nat) : Int) - Int.toNat (IntKind.i64.wrap (s.2.2 + (1 : Int)))) : Nat) : Int))) ((Int.toNat (0 : Int)) + Int.toNat (((Int.toNat s.2.2 - Int.toNat (0 : Int)) + (AM.sub (([] : List Int) ++ v902) ((Int.toNat (IntKind.i64.wrap (s.2.2 + (1 : Int))) : Nat) : Int) (((Int.toNat (IntKind.i64.wrap (s.2.2 + (1 : Int)))) + (Int.toNat (((([] : List Int) ++ v902).length : Nat) : Int) - Int.toNat (IntKind.i64.wrap (s.2.2 + (1 : Int)))) : Nat) : Int)).length : Nat) : Int)) (List.replicate (Int.toNat (((([] : List Int) ++ v902).length : Nat) : Int) - Int.toNat (((Int.toNat s.2.2 - Int.toNat (0 : Int)) + (AM.sub (([] : List Int) ++ v902) ((Int.toNat (IntKind.i64.wrap (s.2.2 + (1 : Int))) : Nat) : Int) (((Int.toNat (IntKind.i64.wrap (s.2.2 + (1 : Int)))) + (Int.toNat (((([] : List Int) ++ v902).length : Nat) : Int) - Int.toNat (IntKind.i64.wrap (s.2.2 + (1 : Int)))) : Nat) : Int)).length : Nat) : Int)) (0 : Int))).length = (([] : List Int) ++ v902).length)) <|
  (.call (Dm_ v898 v899 v900 (AM.sub v901 (1 : Int) ((v901.length : Nat) : Int)) (AM.sub (overL (overL (([] : List Int) ++ v902) ((Int.toNat (0 : Int)) + (Int.toNat s.2.2 - Int.toNat (0 : Int))) (AM.sub (([] : List Int) ++ v902) ((Int.toNat (IntKind.i64.wrap (s.2.2 + (1 : Int))) : Nat) : Int) (((Int.toNat (IntKind.i64.wrap (s.2.2 + (1 : Int)))) + (Int.toNat (((([] : List Int) ++ v902).length : Nat) : Int) - Int.toNat (IntKind.i64.wrap (s.2.2 + (1 : Int)))) : Nat) : Int))) ((Int.toNat (0 : Int)) + Int.toNat (((Int.toNat s.2.2 - Int.toNat (0 : Int)) + (AM.sub (([] : List Int) ++ v902) ((Int.toNat (IntKind.i64.wrap (s.2.2 + (1 : Int))) : Nat) : Int) (((Int.toNat (IntKind.i64.wrap (s.2.2 + (1 : Int)))) + (Int.toNat (((([] : List Int) ++ v902).length : Nat) : Int) - Int.toNat (IntKind.i64.wrap (s.2.2 + (1 : Int)))) : Nat) : Int)).length : Nat) : Int)) (List.replicate (Int.toNat (((([] : List Int) ++ v902).length : Nat) : Int) - Int.toNat (((Int.toNat s.2.2 - Int.toNat (0 : Int)) + (AM.sub (([] : List Int) ++ v902) ((Int.toNat (IntKind.i64.wrap (s.2.2 + (1 : Int))) : Nat) : Int) (((Int.toNat (IntKind.i64.wrap (s.2.2 + (1 : Int)))) + (Int.toNat (((([] : List Int) ++ v902).length : Nat) : Int) - Int.toNat (IntKind.i64.wrap (s.2.2 + (1 : Int)))) : Nat) : Int)).length : Nat) : Int)) (0 : Int))) ((v994.1 : Nat) : Int) ((v994.1 + v994.2 : Nat) : Int))) fun v996 =>
  .leaf (.inl (IntKind.i64.wrap (s.1 + (IntKind.i64.wrap ((IntKind.i64.wrap (s.2.1 * v990)) * v996))), IntKind.i64.wrap (0 - s.2.1), IntKind.i64.wrap (s.2.2 + (1 : Int))))))
  )))))
  ) (
  .leaf (.inl (s.1, IntKind.i64.wrap (0 - s.2.1), IntKind.i64.wrap (s.2.2 + (1 : Int))))
  )))))
  ) (
  .leaf (.inr s.1)
  ))
noncomputable def Mn_ (v898 v899 : Int) (v900 v901 v902 : List Int) (s0 : Int × Int × Int) : Option (Int) := Af_ (fun s => (C2_ v898 v899 v900 v901 v902 s).run) s0
def E6_ (v898 v899 : Int) (v900 v901 v902 : List Int) (s : Int × Int × Int) : Sd := ([Z,.bslc (BR.root 1) (.i64 v901),.bslc (BR.root 2) (.i64 v902),.ptr 0 (0 : Nat) 0 (3 : Nat),Z,Z,Z,.int .i64 s.1,.int .i64 s.2.1,Z,Z,Z,Z,Z,Z,.bslc (BR.root 2) (.i64 v902),.int .i64 ((v902.length : Nat) : Int),.int .i64 s.2.2,Z,Z,Z,Z,Z,Z,Z,Z,Z,Z,Z,Z,Z,Z,Z,Z,Z,Z,Z,Z,Z,Z,Z,Z,Z,Z,Z,Z,Z,Z,Z,Z], [.gen [.int .i64 v898, .int .i64 v899, .bslc (BR.root 0) (.i64 v900)] false 0])
def Sa_ (v898 v899 : Int) (v900 v901 v902 : List Int) (x : Int) : Out := (.normal, [Z,Z,Z,Z,Z,Z,Z,.int .i64 x,Z,Z,Z,Z,Z,Z,Z,Z,Z,Z,Z,Z,Z,Z,Z,Z,Z,Z,Z,Z,Z,Z,Z,Z,Z,Z,Z,Z,Z,Z,Z,Z,Z,Z,Z,Z,Z,Z,Z,Z,Z,Z], [])
def X3_ : List Nat := KL true [1,3,3,2,6,3,32]
def Age_ : Exit → List Nat
  | .exit 0 => KL true [7,1,42]
  | .ret => KL true [6,1,43]
  | _ => []
noncomputable def Rx_ (v898 v899 : Int) (v900 v901 v902 : List Int) : LOr := fun id e L =>
  match id with
  | 0 => .need (normA 0 X3_ e L = some (E6_ v898 v899 v900 v901 v902 ((gI (vAt e 7)), (gI (vAt e 8)), (gI (vAt e 17))))) (.call (Mn_ v898 v899 v900 v901 v902 ((gI (vAt e 7)), (gI (vAt e 8)), (gI (vAt e 17)))) fun x => .leaf (Sa_ v898 v899 v900 v901 v902 x))
  | _ => .fail
noncomputable def Gn_ : List (FuncId × DFn × Bool) := [(33, Df_, true), (22, Du_, true), (55, Fe_, false), (30, Re_, true)]
theorem Xy_ : OrcOk Try.prog (tabD Gn_) (tabM Gn_) := Ae_ Gp_ (Ae_ H5_ (Ae_ K5_ (Ae_ Ab5_ (Ai_ _))))
theorem Aqj_ (v898 v899 : Int) (v900 v901 v902 : List Int) (s : Int × Int × Int) : bodyT TT (tabD Gn_) (tabM Gn_) (Rx_ v898 v899 v900 v901 v902) 0 X3_ Age_ (Ab_ Try.f30 0) 0 (E6_ v898 v899 v900 v901 v902 s) = (C2_ v898 v899 v900 v901 v902 s).bind fun y => .leaf (outS (E6_ v898 v899 v900 v901 v902) (Sa_ v898 v899 v900 v901 v902) y) := by kernel_rfl
theorem Abw_ (v898 v899 : Int) (v900 v901 v902 : List Int) : At_ Try.prog 0 (Rx_ v898 v899 v900 v901 v902) 0 (Ab_ Try.f30 0) := by
  intro e L out h
  exact lo_ok (E := E6_ v898 v899 v900 v901 v902) (gT := C2_ v898 v899 v900 v901 v902) (X := Sa_ v898 v899 v900 v901 v902) (s0 := ((gI (vAt e 7)), (gI (vAt e 8)), (gI (vAt e 17)))) tok Xy_ mixed (Ad_ (l := []) (by kernel_rfl) trivial) (Aqj_ v898 v899 v900 v901 v902) rfl (by intro x; rfl) h
noncomputable def Mq_ (v898 v899 : Int) (v900 v901 v902 : List Int) : Tree (Int) :=
  (.br (decide (((v901.length : Nat) : Int) = (0 : Int))) (
  .leaf (1 : Int)
  ) (
  (.need (some (E6_ v898 v899 v900 v901 v902 ((0 : Int), (1 : Int), (0 : Int))) = some (E6_ v898 v899 v900 v901 v902 ((0 : Int), (1 : Int), (0 : Int)))) <|
  (.call (Mn_ v898 v899 v900 v901 v902 ((0 : Int), (1 : Int), (0 : Int))) fun v997 =>
  .leaf v997))
  ))
noncomputable def D4_ (v898 v899 : Int) (v900 v901 v902 : List Int) : Option (Int) := (Mq_ v898 v899 v900 v901 v902).run
def H6_ (v898 v899 : Int) (v900 v901 v902 : List Int) (y : Int) : Rs := (.int .i64 y, [])
theorem Aq3_ (v898 v899 : Int) (v900 v901 v902 : List Int) : (den TT (tabD Gn_) (tabM Gn_) (Rx_ v898 v899 v900 v901 v902) (Ah_ Try.f30) ([.agg [.int .i64 v898, .int .i64 v899, .bslc (BR.root 0) (.i64 v900)], .bslc (BR.root 1) (.i64 v901), .bslc (BR.root 2) (.i64 v902)] ++ List.replicate (Try.f30.ntmps - ([.agg [.int .i64 v898, .int .i64 v899, .bslc (BR.root 0) (.i64 v900)], .bslc (BR.root 1) (.i64 v901), .bslc (BR.root 2) (.i64 v902)] : List DV).length) .undef) []).bind (retD TT Try.f30.results.toList 0) = (Mq_ v898 v899 v900 v901 v902).bind fun y => .leaf (H6_ v898 v899 v900 v901 v902 y) := by kernel_rfl
theorem Agp_ (v898 v899 : Int) (v900 v901 v902 : List Int) (F : Fr) (h0 : St F [] F.H0) (hA : DVs.Ok F [] [.agg [.int .i64 v898, .int .i64 v899, .bslc (BR.root 0) (.i64 v900)], .bslc (BR.root 1) (.i64 v901), .bslc (BR.root 2) (.i64 v902)]) {y : Int} (hy : D4_ v898 v899 v900 v901 v902 = some y) : ∃ F' H', Fwd 0 F F' [] (H6_ v898 v899 v900 v901 v902 y).2 ∧ FnOk Try.prog 30 (DVs.av F [.agg [.int .i64 v898, .int .i64 v899, .bslc (BR.root 0) (.i64 v900)], .bslc (BR.root 1) (.i64 v901), .bslc (BR.root 2) (.i64 v902)]) F.H0 ((H6_ v898 v899 v900 v901 v902 y).1.av F') H' ∧ St F' (H6_ v898 v899 v900 v901 v902 y).2 H' ∧ (H6_ v898 v899 v900 v901 v902 y).1.Ok F' (H6_ v898 v899 v900 v901 v902 y).2 :=
  Aj_ tok Xy_ mixed Try.func30 Try.call30 (by kernel_rfl) (Ad_ (l := [(0, Ab_ Try.f30 0)]) (by kernel_rfl) ⟨Abw_ v898 v899 v900 v901 v902, trivial⟩) (Aq3_ v898 v899 v900 v901 v902) hy h0 hA
noncomputable def S5_ : DFn := fun args L =>
  match args with
  | [.agg [.int .i64 v898, .int .i64 v899, a1], a2, a3] =>
    optT (As_ L a1) fun v900 =>
    optT (As_ L a2) fun v901 =>
    optT (As_ L a3) fun v902 =>
    .call (D4_ v898 v899 v900 v901 v902) fun y => .leaf (.int .i64 y, L)
  | _ => .fail
theorem Aeb_ : COk Try.prog 30 S5_ true := by
  intro F L H args r L' hs ha hr
  unfold S5_ at hr
  split at hr
  · rename_i v898 v899 a1 a2 a3
    obtain ⟨v900, hv900, hr⟩ := Aa_ hr
    obtain ⟨v901, hv901, hr⟩ := Aa_ hr
    obtain ⟨v902, hv902, hr⟩ := Aa_ hr
    simp only [Tree.run] at hr
    obtain ⟨y, hy, hr⟩ := Option.bind_eq_some_iff.1 hr
    simp only [Tree.run, Option.some.injEq, Prod.mk.injEq] at hr
    obtain ⟨rfl, rfl⟩ := hr
    exact Aw_ hs (fun k => (([a1.av F, a2.av F, a3.av F] : List AV)[k]?).getD .top) [.agg [.int .i64 v898, .int .i64 v899, a1], a2, a3] [.agg [.int .i64 v898, .int .i64 v899, .bslc (BR.root 0) (.i64 v900)], .bslc (BR.root 1) (.i64 v901), .bslc (BR.root 2) (.i64 v902)] (fun F' h0 hi hρ => ⟨by simp [DVs.av, DV.av, BR.av, hρ], Agp_ v898 v899 v900 v901 v902 F' (Ak_ hi) ⟨⟨trivial, trivial, Ag_ hi (by rw [h0, hρ]; exact An_ hs (DVs.okAt (DVs.okAt ha 0 rfl) 2 rfl) hv900), trivial⟩, Ag_ hi (by rw [h0, hρ]; exact An_ hs (DVs.okAt ha 1 rfl) hv901), Ag_ hi (by rw [h0, hρ]; exact An_ hs (DVs.okAt ha 2 rfl) hv902), trivial⟩ hy⟩) rfl
  · cases hr
noncomputable def C0_ (v879 v880 : Int) (v881 v882 v883 : List Int) (s : Int × Int × Int) : Tree ((Int × Int × Int) ⊕ (Int)) :=
  (.br (decide (s.2.2 < ((v883.length : Nat) : Int))) (
  (.grd (inb s.2.2 v883.length) <|
  (.grd (inb (0 : Int) v882.length) <|
  (.call (Cl_ v880 v881 (nth v882 (Int.toNat (0 : Int))) (nth v883 (Int.toNat s.2.2))) fun v1013 =>
  (.br (!decide (v1013 = (0 : Int))) (
  (.grd (sok (1 : Int) ((v882.length : Nat) : Int) v882.length) <|
  (.call (Be_ v883) fun v1014 =>
  (.call (Dp_ (([] : List Int) ++ v883) s.2.2 (IntKind.i64.wrap (s.2.2 + (1 : Int)))) fun v1015 =>
  (.sum v1015 (fun v1016 =>
  (.grd (decide ((([] : List Int) ++ v883).length = (([] : List Int) ++ v883).length)) <|
  (.call (D4_ v879 v880 v881 (AM.sub v882 (1 : Int) ((v882.length : Nat) : Int)) (([] : List Int) ++ v883)) fun v1018 =>
  .leaf (.inl (IntKind.i64.wrap (s.1 + (IntKind.i64.wrap ((IntKind.i64.wrap (s.2.1 * v1013)) * v1018))), IntKind.i64.wrap (0 - s.2.1), IntKind.i64.wrap (s.2.2 + (1 : Int))))))
  ) (fun v1017 =>
  (.grd (decide ((overL (overL (([] : List Int) ++ v883) ((Int.toNat (0 : Int)) + (Int.toNat s.2.2 - Int.toNat (0 : Int))) (AM.sub (([] : List Int) ++ v883) ((Int.toNat (IntKind.i64.wrap (s.2.2 + (1 : Int))) : Nat) : Int) (((Int.toNat (IntKind.i64.wrap (s.2.2 + (1 : Int)))) + (Int.toNat (((([] : List Int) ++ v883).length : Nat) : Int) - Int.toNat (IntKind.i64.wrap (s.2.2 + (1 : Int)))) : Nat) : Int))) ((Int.toNat (0 : Int)) + Int.toNat (((Int.toNat s.2.2 - Int.toNat (0 : Int)) + (AM.sub (([] : List Int) ++ v883) ((Int.toNat (IntKind.i64.wrap (s.2.2 + (1 : Int))) : Nat) : Int) (((Int.toNat (IntKind.i64.wrap (s.2.2 + (1 : Int)))) + (Int.toNat (((([] : List Int) ++ v883).length : Nat) : Int) - Int.toNat (IntKind.i64.wrap (s.2.2 + (1 : Int)))) : Nat) : Int)).length : Nat) : Int)) (List.replicate (Int.toNat (((([] : List Int) ++ v883).length : Nat) : Int) - Int.toNat (((Int.toNat s.2.2 - Int.toNat (0 : Int)) + (AM.sub (([] : List Int) ++ v883) ((Int.toNat (IntKind.i64.wrap (s.2.2 + (1 : Int))) : Nat) : Int) (((Int.toNat (IntKind.i64.wrap (s.2.2 + (1 : Int)))) + (Int.toNat (((([] : List Int) ++ v883).length : Nat) : Int) - Int.toNat (IntKind.i64.wrap (s.2.2 + (1 : Int)))) : Nat) : Int)).length : Nat) : Int)) (0 : Int))).length = (([] : List Int) ++ v883).length)) <|
  (.call (D4_ v879 v880 v881 (AM.sub v882 (1 : Int) ((v882.length : Nat) : Int)) (AM.sub (overL (overL (([] : List Int) ++ v883) ((Int.toNat (0 : Int)) + (Int.toNat s.2.2 - Int.toNat (0 : Int))) (AM.sub (([] : List Int) ++ v883) ((Int.toNat (IntKind.i64.wrap (s.2.2 + (1 : Int))) : Nat) : Int) (((Int.toNat (IntKind.i64.wrap (s.2.2 + (1 : Int)))) + (Int.toNat (((([] : List Int) ++ v883).length : Nat) : Int) - Int.toNat (IntKind.i64.wrap (s.2.2 + (1 : Int)))) : Nat) : Int))) ((Int.toNat (0 : Int)) + Int.toNat (((Int.toNat s.2.2 - Int.toNat (0 : Int)) + (AM.sub (([] : List Int) ++ v883) ((Int.toNat (IntKind.i64.wrap (s.2.2 + (1 : Int))) : Nat) : Int) (((Int.toNat (IntKind.i64.wrap (s.2.2 + (1 : Int)))) + (Int.toNat (((([] : List Int) ++ v883).length : Nat) : Int) - Int.toNat (IntKind.i64.wrap (s.2.2 + (1 : Int)))) : Nat) : Int)).length : Nat) : Int)) (List.replicate (Int.toNat (((([] : List Int) ++ v883).length : Nat) : Int) - Int.toNat (((Int.toNat s.2.2 - Int.toNat (0 : Int)) + (AM.sub (([] : List Int) ++ v883) ((Int.toNat (IntKind.i64.wrap (s.2.2 + (1 : Int))) : Nat) : Int) (((Int.toNat (IntKind.i64.wrap (s.2.2 + (1 : Int)))) + (Int.toNat (((([] : List Int) ++ v883).length : Nat) : Int) - Int.toNat (IntKind.i64.wrap (s.2.2 + (1 : Int)))) : Nat) : Int)).length : Nat) : Int)) (0 : Int))) ((v1017.1 : Nat) : Int) ((v1017.1 + v1017.2 : Nat) : Int))) fun v1019 =>
  .leaf (.inl (IntKind.i64.wrap (s.1 + (IntKind.i64.wrap ((IntKind.i64.wrap (s.2.1 * v1013)) * v1019))), IntKind.i64.wrap (0 - s.2.1), IntKind.i64.wrap (s.2.2 + (1 : Int))))))
  )))))
  ) (
  .leaf (.inl (s.1, IntKind.i64.wrap (0 - s.2.1), IntKind.i64.wrap (s.2.2 + (1 : Int))))
  )))))
  ) (
  .leaf (.inr s.1)
  ))
noncomputable def Mb_ (v879 v880 : Int) (v881 v882 v883 : List Int) (s0 : Int × Int × Int) : Option (Int) := Af_ (fun s => (C0_ v879 v880 v881 v882 v883 s).run) s0
def Ic_ (v879 v880 : Int) (v881 v882 v883 : List Int) (s : Int × Int × Int) : Sd := ([Z,.bslc (BR.root 1) (.i64 v882),.bslc (BR.root 2) (.i64 v883),.ptr 0 (0 : Nat) 0 (3 : Nat),Z,Z,Z,.int .i64 s.1,.int .i64 s.2.1,Z,Z,Z,Z,Z,Z,.bslc (BR.root 2) (.i64 v883),.int .i64 ((v883.length : Nat) : Int),.int .i64 s.2.2,Z,Z,Z,Z,Z,Z,Z,Z,Z,Z,Z,Z,Z,Z,Z,Z,Z,Z,Z,Z,Z,Z,Z,Z,Z,Z,Z,Z,Z,Z,Z,Z], [.gen [.int .i64 v879, .int .i64 v880, .bslc (BR.root 0) (.i64 v881)] false 0])
def S7_ (v879 v880 : Int) (v881 v882 v883 : List Int) (x : Int) : Out := (.normal, [Z,Z,Z,Z,Z,Z,Z,.int .i64 x,Z,Z,Z,Z,Z,Z,Z,Z,Z,Z,Z,Z,Z,Z,Z,Z,Z,Z,Z,Z,Z,Z,Z,Z,Z,Z,Z,Z,Z,Z,Z,Z,Z,Z,Z,Z,Z,Z,Z,Z,Z,Z], [])
def Xs_ : List Nat := KL true [1,3,3,2,6,3,32]
def Aih_ : Exit → List Nat
  | .exit 0 => KL true [7,1,42]
  | .ret => KL true [6,1,43]
  | _ => []
noncomputable def R5_ (v879 v880 : Int) (v881 v882 v883 : List Int) : LOr := fun id e L =>
  match id with
  | 0 => .need (normA 0 Xs_ e L = some (Ic_ v879 v880 v881 v882 v883 ((gI (vAt e 7)), (gI (vAt e 8)), (gI (vAt e 17))))) (.call (Mb_ v879 v880 v881 v882 v883 ((gI (vAt e 7)), (gI (vAt e 8)), (gI (vAt e 17)))) fun x => .leaf (S7_ v879 v880 v881 v882 v883 x))
  | _ => .fail
noncomputable def Gu_ : List (FuncId × DFn × Bool) := [(33, Df_, true), (22, Du_, true), (55, Fe_, false), (30, S5_, true)]
theorem W1_ : OrcOk Try.prog (tabD Gu_) (tabM Gu_) := Ae_ Gp_ (Ae_ H5_ (Ae_ K5_ (Ae_ Aeb_ (Ai_ _))))
theorem Aiw_ (v879 v880 : Int) (v881 v882 v883 : List Int) (s : Int × Int × Int) : bodyT TT (tabD Gu_) (tabM Gu_) (R5_ v879 v880 v881 v882 v883) 0 Xs_ Aih_ (Ab_ Try.f30 0) 0 (Ic_ v879 v880 v881 v882 v883 s) = (C0_ v879 v880 v881 v882 v883 s).bind fun y => .leaf (outS (Ic_ v879 v880 v881 v882 v883) (S7_ v879 v880 v881 v882 v883) y) := by kernel_rfl
theorem Ald_ (v879 v880 : Int) (v881 v882 v883 : List Int) : At_ Try.prog 0 (R5_ v879 v880 v881 v882 v883) 0 (Ab_ Try.f30 0) := by
  intro e L out h
  exact lo_ok (E := Ic_ v879 v880 v881 v882 v883) (gT := C0_ v879 v880 v881 v882 v883) (X := S7_ v879 v880 v881 v882 v883) (s0 := ((gI (vAt e 7)), (gI (vAt e 8)), (gI (vAt e 17)))) tok W1_ mixed (Ad_ (l := []) (by kernel_rfl) trivial) (Aiw_ v879 v880 v881 v882 v883) rfl (by intro x; rfl) h
noncomputable def L3_ (v879 v880 : Int) (v881 v882 v883 : List Int) : Tree (Int) :=
  (.br (decide (((v882.length : Nat) : Int) = (0 : Int))) (
  .leaf (1 : Int)
  ) (
  (.need (some (Ic_ v879 v880 v881 v882 v883 ((0 : Int), (1 : Int), (0 : Int))) = some (Ic_ v879 v880 v881 v882 v883 ((0 : Int), (1 : Int), (0 : Int)))) <|
  (.call (Mb_ v879 v880 v881 v882 v883 ((0 : Int), (1 : Int), (0 : Int))) fun v1020 =>
  .leaf v1020))
  ))
noncomputable def E9_ (v879 v880 : Int) (v881 v882 v883 : List Int) : Option (Int) := (L3_ v879 v880 v881 v882 v883).run
def G3_ (v879 v880 : Int) (v881 v882 v883 : List Int) (y : Int) : Rs := (.int .i64 y, [])
theorem Afc_ (v879 v880 : Int) (v881 v882 v883 : List Int) : (den TT (tabD Gu_) (tabM Gu_) (R5_ v879 v880 v881 v882 v883) (Ah_ Try.f30) ([.agg [.int .i64 v879, .int .i64 v880, .bslc (BR.root 0) (.i64 v881)], .bslc (BR.root 1) (.i64 v882), .bslc (BR.root 2) (.i64 v883)] ++ List.replicate (Try.f30.ntmps - ([.agg [.int .i64 v879, .int .i64 v880, .bslc (BR.root 0) (.i64 v881)], .bslc (BR.root 1) (.i64 v882), .bslc (BR.root 2) (.i64 v883)] : List DV).length) .undef) []).bind (retD TT Try.f30.results.toList 0) = (L3_ v879 v880 v881 v882 v883).bind fun y => .leaf (G3_ v879 v880 v881 v882 v883 y) := by kernel_rfl
theorem Aqv_ (v879 v880 : Int) (v881 v882 v883 : List Int) (F : Fr) (h0 : St F [] F.H0) (hA : DVs.Ok F [] [.agg [.int .i64 v879, .int .i64 v880, .bslc (BR.root 0) (.i64 v881)], .bslc (BR.root 1) (.i64 v882), .bslc (BR.root 2) (.i64 v883)]) {y : Int} (hy : E9_ v879 v880 v881 v882 v883 = some y) : ∃ F' H', Fwd 0 F F' [] (G3_ v879 v880 v881 v882 v883 y).2 ∧ FnOk Try.prog 30 (DVs.av F [.agg [.int .i64 v879, .int .i64 v880, .bslc (BR.root 0) (.i64 v881)], .bslc (BR.root 1) (.i64 v882), .bslc (BR.root 2) (.i64 v883)]) F.H0 ((G3_ v879 v880 v881 v882 v883 y).1.av F') H' ∧ St F' (G3_ v879 v880 v881 v882 v883 y).2 H' ∧ (G3_ v879 v880 v881 v882 v883 y).1.Ok F' (G3_ v879 v880 v881 v882 v883 y).2 :=
  Aj_ tok W1_ mixed Try.func30 Try.call30 (by kernel_rfl) (Ad_ (l := [(0, Ab_ Try.f30 0)]) (by kernel_rfl) ⟨Ald_ v879 v880 v881 v882 v883, trivial⟩) (Afc_ v879 v880 v881 v882 v883) hy h0 hA
noncomputable def Ts_ : DFn := fun args L =>
  match args with
  | [.agg [.int .i64 v879, .int .i64 v880, a1], a2, a3] =>
    optT (As_ L a1) fun v881 =>
    optT (As_ L a2) fun v882 =>
    optT (As_ L a3) fun v883 =>
    .call (E9_ v879 v880 v881 v882 v883) fun y => .leaf (.int .i64 y, L)
  | _ => .fail
theorem Aec_ : COk Try.prog 30 Ts_ true := by
  intro F L H args r L' hs ha hr
  unfold Ts_ at hr
  split at hr
  · rename_i v879 v880 a1 a2 a3
    obtain ⟨v881, hv881, hr⟩ := Aa_ hr
    obtain ⟨v882, hv882, hr⟩ := Aa_ hr
    obtain ⟨v883, hv883, hr⟩ := Aa_ hr
    simp only [Tree.run] at hr
    obtain ⟨y, hy, hr⟩ := Option.bind_eq_some_iff.1 hr
    simp only [Tree.run, Option.some.injEq, Prod.mk.injEq] at hr
    obtain ⟨rfl, rfl⟩ := hr
    exact Aw_ hs (fun k => (([a1.av F, a2.av F, a3.av F] : List AV)[k]?).getD .top) [.agg [.int .i64 v879, .int .i64 v880, a1], a2, a3] [.agg [.int .i64 v879, .int .i64 v880, .bslc (BR.root 0) (.i64 v881)], .bslc (BR.root 1) (.i64 v882), .bslc (BR.root 2) (.i64 v883)] (fun F' h0 hi hρ => ⟨by simp [DVs.av, DV.av, BR.av, hρ], Aqv_ v879 v880 v881 v882 v883 F' (Ak_ hi) ⟨⟨trivial, trivial, Ag_ hi (by rw [h0, hρ]; exact An_ hs (DVs.okAt (DVs.okAt ha 0 rfl) 2 rfl) hv881), trivial⟩, Ag_ hi (by rw [h0, hρ]; exact An_ hs (DVs.okAt ha 1 rfl) hv882), Ag_ hi (by rw [h0, hρ]; exact An_ hs (DVs.okAt ha 2 rfl) hv883), trivial⟩ hy⟩) rfl
  · cases hr
noncomputable def Ajw_ (v866 v867 : Int) (v868 : List Int) : LOr := fun id e L =>
  match id with
  | _ => .fail
noncomputable def Lh_ : List (FuncId × DFn × Bool) := [(20, Kg_, true), (31, Rl_, true), (30, Ts_, true)]
theorem Aj0_ : OrcOk Try.prog (tabD Lh_) (tabM Lh_) := Ae_ Rb_ (Ae_ Afe_ (Ae_ Aec_ (Ai_ _)))
noncomputable def Oq_ (v866 v867 : Int) (v868 : List Int) : Tree ((Unit) ⊕ (Int)) :=
  (.call (Cf_ v866 v867 v868) fun v869 =>
  (.br (!v869) (
  .leaf (.inl ())
  ) (
  (.br (!decide (v866 = v867)) (
  .leaf (.inl ())
  ) (
  (.call (Dy_ v866) fun v877 =>
  (.call (Dy_ v866) fun v878 =>
  (.call (E9_ v866 v867 v868 v877 v878) fun v1021 =>
  .leaf (.inr v1021))))
  ))
  )))
noncomputable def C4_ (v866 v867 : Int) (v868 : List Int) : Option ((Unit) ⊕ (Int)) := (Oq_ v866 v867 v868).run
def Ho_ (v866 v867 : Int) (v868 : List Int) (y : (Unit) ⊕ (Int)) : Rs := (match y with | .inl y => (.tup [.int .i64 (0 : Int), .lit false], []) | .inr y => (.tup [.int .i64 y, .lit true], []))
theorem Abz_ (v866 v867 : Int) (v868 : List Int) : (den TT (tabD Lh_) (tabM Lh_) (Ajw_ v866 v867 v868) (Ah_ Try.f9) ([.agg [.int .i64 v866, .int .i64 v867, .bslc (BR.root 0) (.i64 v868)]] ++ List.replicate (Try.f9.ntmps - ([.agg [.int .i64 v866, .int .i64 v867, .bslc (BR.root 0) (.i64 v868)]] : List DV).length) .undef) []).bind (retD TT Try.f9.results.toList 0) = (Oq_ v866 v867 v868).bind fun y => .leaf (Ho_ v866 v867 v868 y) := by kernel_rfl
theorem Wc_ (v866 v867 : Int) (v868 : List Int) (F : Fr) (h0 : St F [] F.H0) (hA : DVs.Ok F [] [.agg [.int .i64 v866, .int .i64 v867, .bslc (BR.root 0) (.i64 v868)]]) {y : (Unit) ⊕ (Int)} (hy : C4_ v866 v867 v868 = some y) : ∃ F' H', Fwd 0 F F' [] (Ho_ v866 v867 v868 y).2 ∧ FnOk Try.prog 9 (DVs.av F [.agg [.int .i64 v866, .int .i64 v867, .bslc (BR.root 0) (.i64 v868)]]) F.H0 ((Ho_ v866 v867 v868 y).1.av F') H' ∧ St F' (Ho_ v866 v867 v868 y).2 H' ∧ (Ho_ v866 v867 v868 y).1.Ok F' (Ho_ v866 v867 v868 y).2 :=
  Aj_ tok Aj0_ mixed Try.func9 Try.call9 (by kernel_rfl) (Ad_ (l := []) (by kernel_rfl) trivial) (Abz_ v866 v867 v868) hy h0 hA
noncomputable def Tm_ : DFn := fun args L =>
  match args with
  | [.agg [.int .i64 v866, .int .i64 v867, a1]] =>
    optT (As_ L a1) fun v868 =>
    .call (C4_ v866 v867 v868) fun y => .sum y (fun y0 => .leaf (.tup [.int .i64 (0 : Int), .lit false], L)) (fun z0 => .leaf (.tup [.int .i64 z0, .lit true], L))
  | _ => .fail
theorem Ah2_ : COk Try.prog 9 Tm_ true := by
  intro F L H args r L' hs ha hr
  unfold Tm_ at hr
  split at hr
  · rename_i v866 v867 a1
    obtain ⟨v868, hv868, hr⟩ := Aa_ hr
    simp only [Tree.run] at hr
    obtain ⟨y, hy, hr⟩ := Option.bind_eq_some_iff.1 hr
    cases y with
    | inl y =>
      simp only [Tree.run, Option.some.injEq, Prod.mk.injEq] at hr
      obtain ⟨rfl, rfl⟩ := hr
      exact Aw_ hs (fun k => (([a1.av F] : List AV)[k]?).getD .top) [.agg [.int .i64 v866, .int .i64 v867, a1]] [.agg [.int .i64 v866, .int .i64 v867, .bslc (BR.root 0) (.i64 v868)]] (fun F' h0 hi hρ => ⟨by simp [DVs.av, DV.av, BR.av, hρ], Wc_ v866 v867 v868 F' (Ak_ hi) ⟨⟨trivial, trivial, Ag_ hi (by rw [h0, hρ]; exact An_ hs (DVs.okAt (DVs.okAt ha 0 rfl) 2 rfl) hv868), trivial⟩, trivial⟩ hy⟩) rfl
    | inr y =>
      simp only [Tree.run, Option.some.injEq, Prod.mk.injEq] at hr
      obtain ⟨rfl, rfl⟩ := hr
      exact Aw_ hs (fun k => (([a1.av F] : List AV)[k]?).getD .top) [.agg [.int .i64 v866, .int .i64 v867, a1]] [.agg [.int .i64 v866, .int .i64 v867, .bslc (BR.root 0) (.i64 v868)]] (fun F' h0 hi hρ => ⟨by simp [DVs.av, DV.av, BR.av, hρ], Wc_ v866 v867 v868 F' (Ak_ hi) ⟨⟨trivial, trivial, Ag_ hi (by rw [h0, hρ]; exact An_ hs (DVs.okAt (DVs.okAt ha 0 rfl) 2 rfl) hv868), trivial⟩, trivial⟩ hy⟩) rfl
  · cases hr
noncomputable def Afb_ (v1079 v1080 : Int) : LOr := fun id e L =>
  match id with
  | _ => .fail
noncomputable def Mu_ : List (FuncId × DFn × Bool) := []
theorem Aas_ : OrcOk Try.prog (tabD Mu_) (tabM Mu_) := Ai_ _
noncomputable def Vj_ (v1079 v1080 : Int) : Tree (Int × Int) :=
  (.grd (decide (0 ≤ (32 : Int))) <|
  (.grd (decide (0 ≤ (32 : Int))) <|
  (.grd (decide (0 ≤ (32 : Int))) <|
  (.grd (decide (0 ≤ (32 : Int))) <|
  (.grd (decide (0 ≤ (32 : Int))) <|
  .leaf (IntKind.u64.wrap ((IntKind.u64.wrap ((IntKind.u64.wrap ((ishr .u64 v1079 (32 : Int)) * (ishr .u64 v1080 (32 : Int)))) + (ishr .u64 (IntKind.u64.wrap ((IntKind.u64.wrap ((ishr .u64 v1079 (32 : Int)) * (iand .u64 v1080 (4294967295 : Int)))) + (ishr .u64 (IntKind.u64.wrap ((iand .u64 v1079 (4294967295 : Int)) * (iand .u64 v1080 (4294967295 : Int)))) (32 : Int)))) (32 : Int)))) + (ishr .u64 (IntKind.u64.wrap ((iand .u64 (IntKind.u64.wrap ((IntKind.u64.wrap ((ishr .u64 v1079 (32 : Int)) * (iand .u64 v1080 (4294967295 : Int)))) + (ishr .u64 (IntKind.u64.wrap ((iand .u64 v1079 (4294967295 : Int)) * (iand .u64 v1080 (4294967295 : Int)))) (32 : Int)))) (4294967295 : Int)) + (IntKind.u64.wrap ((iand .u64 v1079 (4294967295 : Int)) * (ishr .u64 v1080 (32 : Int)))))) (32 : Int))), IntKind.u64.wrap (v1079 * v1080)))))))
noncomputable def Rh_ (v1079 v1080 : Int) : Option (Int × Int) := (Vj_ v1079 v1080).run
def F6_ (v1079 v1080 : Int) (y : Int × Int) : Rs := (.tup [.int .u64 y.1, .int .u64 y.2], [])
theorem Ap8_ (v1079 v1080 : Int) : (den TT (tabD Mu_) (tabM Mu_) (Afb_ v1079 v1080) (Ah_ Try.f66) ([.int .u64 v1079, .int .u64 v1080] ++ List.replicate (Try.f66.ntmps - ([.int .u64 v1079, .int .u64 v1080] : List DV).length) .undef) []).bind (retD TT Try.f66.results.toList 0) = (Vj_ v1079 v1080).bind fun y => .leaf (F6_ v1079 v1080 y) := by kernel_rfl
theorem Akm_ (v1079 v1080 : Int) (F : Fr) (h0 : St F [] F.H0) (hA : DVs.Ok F [] [.int .u64 v1079, .int .u64 v1080]) {y : Int × Int} (hy : Rh_ v1079 v1080 = some y) : ∃ F' H', Fwd 0 F F' [] (F6_ v1079 v1080 y).2 ∧ FnOk Try.prog 66 (DVs.av F [.int .u64 v1079, .int .u64 v1080]) F.H0 ((F6_ v1079 v1080 y).1.av F') H' ∧ St F' (F6_ v1079 v1080 y).2 H' ∧ (F6_ v1079 v1080 y).1.Ok F' (F6_ v1079 v1080 y).2 :=
  Aj_ tok Aas_ mixed Try.func66 Try.call66 (by kernel_rfl) (Ad_ (l := []) (by kernel_rfl) trivial) (Ap8_ v1079 v1080) hy h0 hA
noncomputable def Ob_ : DFn := fun args L =>
  match args with
  | [.int .u64 v1079, .int .u64 v1080] =>
    .call (Rh_ v1079 v1080) fun y => .leaf (.tup [.int .u64 y.1, .int .u64 y.2], L)
  | _ => .fail
theorem Af8_ : COk Try.prog 66 Ob_ true := by
  intro F L H args r L' hs ha hr
  unfold Ob_ at hr
  split at hr
  · rename_i v1079 v1080
    simp only [Tree.run] at hr
    obtain ⟨y, hy, hr⟩ := Option.bind_eq_some_iff.1 hr
    simp only [Tree.run, Option.some.injEq, Prod.mk.injEq] at hr
    obtain ⟨rfl, rfl⟩ := hr
    exact Aw_ hs (fun k => (([] : List AV)[k]?).getD .top) [.int .u64 v1079, .int .u64 v1080] [.int .u64 v1079, .int .u64 v1080] (fun F' h0 hi hρ => ⟨by simp [DVs.av, DV.av, BR.av, hρ], Akm_ v1079 v1080 F' (Ak_ hi) ⟨trivial, trivial, trivial⟩ hy⟩) rfl
  · cases hr
noncomputable def Afd_ (v1077 v1078 : Int) : LOr := fun id e L =>
  match id with
  | _ => .fail
noncomputable def L8_ : List (FuncId × DFn × Bool) := [(66, Ob_, true)]
theorem Aga_ : OrcOk Try.prog (tabD L8_) (tabM L8_) := Ae_ Af8_ (Ai_ _)
noncomputable def Wm_ (v1077 v1078 : Int) : Tree (Int × Int) :=
  (.call (Rh_ v1077 v1078) fun v1081 =>
  .leaf (v1081.1, v1081.2))
noncomputable def Hc_ (v1077 v1078 : Int) : Option (Int × Int) := (Wm_ v1077 v1078).run
def F4_ (v1077 v1078 : Int) (y : Int × Int) : Rs := (.tup [.int .u64 y.1, .int .u64 y.2], [])
theorem Ama_ (v1077 v1078 : Int) : (den TT (tabD L8_) (tabM L8_) (Afd_ v1077 v1078) (Ah_ Try.f56) ([.int .u64 v1077, .int .u64 v1078] ++ List.replicate (Try.f56.ntmps - ([.int .u64 v1077, .int .u64 v1078] : List DV).length) .undef) []).bind (retD TT Try.f56.results.toList 0) = (Wm_ v1077 v1078).bind fun y => .leaf (F4_ v1077 v1078 y) := by kernel_rfl
theorem Al9_ (v1077 v1078 : Int) (F : Fr) (h0 : St F [] F.H0) (hA : DVs.Ok F [] [.int .u64 v1077, .int .u64 v1078]) {y : Int × Int} (hy : Hc_ v1077 v1078 = some y) : ∃ F' H', Fwd 0 F F' [] (F4_ v1077 v1078 y).2 ∧ FnOk Try.prog 56 (DVs.av F [.int .u64 v1077, .int .u64 v1078]) F.H0 ((F4_ v1077 v1078 y).1.av F') H' ∧ St F' (F4_ v1077 v1078 y).2 H' ∧ (F4_ v1077 v1078 y).1.Ok F' (F4_ v1077 v1078 y).2 :=
  Aj_ tok Aga_ mixed Try.func56 Try.call56 (by kernel_rfl) (Ad_ (l := []) (by kernel_rfl) trivial) (Ama_ v1077 v1078) hy h0 hA
noncomputable def S2_ : DFn := fun args L =>
  match args with
  | [.int .u64 v1077, .int .u64 v1078] =>
    .call (Hc_ v1077 v1078) fun y => .leaf (.tup [.int .u64 y.1, .int .u64 y.2], L)
  | _ => .fail
theorem Aoj_ : COk Try.prog 56 S2_ true := by
  intro F L H args r L' hs ha hr
  unfold S2_ at hr
  split at hr
  · rename_i v1077 v1078
    simp only [Tree.run] at hr
    obtain ⟨y, hy, hr⟩ := Option.bind_eq_some_iff.1 hr
    simp only [Tree.run, Option.some.injEq, Prod.mk.injEq] at hr
    obtain ⟨rfl, rfl⟩ := hr
    exact Aw_ hs (fun k => (([] : List AV)[k]?).getD .top) [.int .u64 v1077, .int .u64 v1078] [.int .u64 v1077, .int .u64 v1078] (fun F' h0 hi hρ => ⟨by simp [DVs.av, DV.av, BR.av, hρ], Al9_ v1077 v1078 F' (Ak_ hi) ⟨trivial, trivial, trivial⟩ hy⟩) rfl
  · cases hr
noncomputable def Jb_ (s : Int × (List Int)) : Tree ((Int × (List Int)) ⊕ ((List Int))) :=
  (.br (decide (s.1 < (((s.2).length : Nat) : Int))) (
  (.grd (sok s.1 (((s.2).length : Nat) : Int) ((s.2).length)) <|
  (.grd (sok (0 : Int) s.1 ((s.2).length)) <|
  (.grd (decide ((Int.toNat s.1) + (Int.toNat (((s.2).length : Nat) : Int) - Int.toNat s.1) ≤ s.2.length)) <|
  .leaf (.inl (IntKind.i64.wrap (s.1 + ((min (AM.sub s.2 ((Int.toNat (0 : Int) : Nat) : Int) (((Int.toNat (0 : Int)) + (Int.toNat s.1 - Int.toNat (0 : Int)) : Nat) : Int)).length (Int.toNat (((s.2).length : Nat) : Int) - Int.toNat s.1) : Nat) : Int)), overL s.2 (Int.toNat s.1) (AM.sub (AM.sub s.2 ((Int.toNat (0 : Int) : Nat) : Int) (((Int.toNat (0 : Int)) + (Int.toNat s.1 - Int.toNat (0 : Int)) : Nat) : Int)) (0 : Int) ((min (AM.sub s.2 ((Int.toNat (0 : Int) : Nat) : Int) (((Int.toNat (0 : Int)) + (Int.toNat s.1 - Int.toNat (0 : Int)) : Nat) : Int)).length (Int.toNat (((s.2).length : Nat) : Int) - Int.toNat s.1) : Nat) : Int)))))))
  ) (
  .leaf (.inr s.2)
  ))
noncomputable def Ki_ (s0 : Int × (List Int)) : Option ((List Int)) := Af_ (fun s => (Jb_ s).run) s0
def Jl_ (v1075 : List Int) (v1076 : Int) (s : Int × (List Int)) : Sd := ([Z,Z,Z,Z,Z,Z,Z,.own 0 0 ((s.2).length),.int .i64 s.1,Z,Z,Z,Z,Z,Z,Z,Z,Z,Z,Z,Z,Z,Z,Z,Z,Z,Z,Z,Z,Z,Z,Z,Z,Z,Z,Z,Z,Z,Z,Z,Z,Z,Z,Z,Z,Z,Z,Z], [.row (.i64 s.2) 0])
def Qq_ (v1075 : List Int) (v1076 : Int) (x : (List Int)) : Out := (.normal, [Z,Z,Z,Z,Z,Z,Z,.own 0 0 ((x).length),Z,Z,Z,Z,Z,Z,Z,Z,Z,Z,Z,Z,Z,Z,Z,Z,Z,Z,Z,Z,Z,Z,Z,Z,Z,Z,Z,Z,Z,Z,Z,Z,Z,Z,Z,Z,Z,Z,Z,Z], [.row (.i64 x) 0])
def Za_ : List Nat := KL true [7,2,39]
def Zu_ : Exit → List Nat
  | .exit 0 => KL true [7,1,40]
  | .ret => KL true [4,1,43]
  | _ => []
noncomputable def P6_ (v1075 : List Int) (v1076 : Int) : LOr := fun id e L =>
  match id with
  | 0 => .need (normA 0 Za_ e L = some (Jl_ v1075 v1076 ((gI (vAt e 8)), (gRI L (vAt e 7))))) (.call (Ki_ ((gI (vAt e 8)), (gRI L (vAt e 7)))) fun x => .leaf (Qq_ v1075 v1076 x))
  | _ => .fail
noncomputable def Hn_ : List (FuncId × DFn × Bool) := [(56, S2_, true)]
theorem Yn_ : OrcOk Try.prog (tabD Hn_) (tabM Hn_) := Ae_ Aoj_ (Ai_ _)
theorem Aoi_ (v1075 : List Int) (v1076 : Int) (s : Int × (List Int)) : bodyT TT (tabD Hn_) (tabM Hn_) (P6_ v1075 v1076) 0 Za_ Zu_ (Ab_ Try.f32 0) 0 (Jl_ v1075 v1076 s) = (Jb_ s).bind fun y => .leaf (outS (Jl_ v1075 v1076) (Qq_ v1075 v1076) y) := by kernel_rfl
theorem Ak6_ (v1075 : List Int) (v1076 : Int) : At_ Try.prog 0 (P6_ v1075 v1076) 0 (Ab_ Try.f32 0) := by
  intro e L out h
  exact lo_ok (E := Jl_ v1075 v1076) (gT := Jb_) (X := Qq_ v1075 v1076) (s0 := ((gI (vAt e 8)), (gRI L (vAt e 7)))) tok Yn_ mixed (Ad_ (l := []) (by kernel_rfl) trivial) (Aoi_ v1075 v1076) rfl (by intro x; rfl) h
noncomputable def Kb_ (v1075 : List Int) (v1076 : Int) : Tree ((List Int)) :=
  (.br (decide (v1076 < (0 : Int))) (
  .fail
  ) (
  (.call (Hc_ (IntKind.u64.wrap (((v1075.length : Nat) : Int))) (IntKind.u64.wrap (v1076))) fun v1082 =>
  (.br (decide ((0 : Int) < v1082.1)) (
  .fail
  ) (
  (.br (decide ((9223372036854775807 : Int) < v1082.2)) (
  .fail
  ) (
  (.need (IntKind.i64.wrap (v1082.2) = IntKind.i64.wrap (v1082.2)) <|
  (.grd (inb (IntKind.i64.wrap (v1082.2)) (maxN + 1)) <|
  (.need (some (Jl_ v1075 v1076 (((min v1075.length (Int.toNat (IntKind.i64.wrap (v1082.2))) : Nat) : Int), overL (List.replicate (Int.toNat (IntKind.i64.wrap (v1082.2))) (0 : Int)) 0 (AM.sub v1075 (0 : Int) ((min v1075.length (Int.toNat (IntKind.i64.wrap (v1082.2))) : Nat) : Int)))) = some (Jl_ v1075 v1076 (((min v1075.length (Int.toNat (IntKind.i64.wrap (v1082.2))) : Nat) : Int), overL (List.replicate (Int.toNat (IntKind.i64.wrap (v1082.2))) (0 : Int)) 0 (AM.sub v1075 (0 : Int) ((min v1075.length (Int.toNat (IntKind.i64.wrap (v1082.2))) : Nat) : Int))))) <|
  (.call (Ki_ (((min v1075.length (Int.toNat (IntKind.i64.wrap (v1082.2))) : Nat) : Int), overL (List.replicate (Int.toNat (IntKind.i64.wrap (v1082.2))) (0 : Int)) 0 (AM.sub v1075 (0 : Int) ((min v1075.length (Int.toNat (IntKind.i64.wrap (v1082.2))) : Nat) : Int)))) fun v1089 =>
  .leaf v1089))))
  ))
  )))
  ))
noncomputable def Eh_ (v1075 : List Int) (v1076 : Int) : Option ((List Int)) := (Kb_ v1075 v1076).run
def Io_ (v1075 : List Int) (v1076 : Int) (y : (List Int)) : Rs := (.own 0 0 ((y).length), [.row (.i64 y) 0])
theorem Ajd_ (v1075 : List Int) (v1076 : Int) : (den TT (tabD Hn_) (tabM Hn_) (P6_ v1075 v1076) (Ah_ Try.f32) ([.bslc (BR.root 0) (.i64 v1075), .int .i64 v1076] ++ List.replicate (Try.f32.ntmps - ([.bslc (BR.root 0) (.i64 v1075), .int .i64 v1076] : List DV).length) .undef) []).bind (retD TT Try.f32.results.toList 0) = (Kb_ v1075 v1076).bind fun y => .leaf (Io_ v1075 v1076 y) := by kernel_rfl
theorem Aac_ (v1075 : List Int) (v1076 : Int) (F : Fr) (h0 : St F [] F.H0) (hA : DVs.Ok F [] [.bslc (BR.root 0) (.i64 v1075), .int .i64 v1076]) {y : (List Int)} (hy : Eh_ v1075 v1076 = some y) : ∃ F' H', Fwd 0 F F' [] (Io_ v1075 v1076 y).2 ∧ FnOk Try.prog 32 (DVs.av F [.bslc (BR.root 0) (.i64 v1075), .int .i64 v1076]) F.H0 ((Io_ v1075 v1076 y).1.av F') H' ∧ St F' (Io_ v1075 v1076 y).2 H' ∧ (Io_ v1075 v1076 y).1.Ok F' (Io_ v1075 v1076 y).2 :=
  Aj_ tok Yn_ mixed Try.func32 Try.call32 (by kernel_rfl) (Ad_ (l := [(0, Ab_ Try.f32 0)]) (by kernel_rfl) ⟨Ak6_ v1075 v1076, trivial⟩) (Ajd_ v1075 v1076) hy h0 hA
noncomputable def Q2_ : DFn := fun args L =>
  match args with
  | [a1, .int .i64 v1076] =>
    optT (As_ L a1) fun v1075 =>
    .call (Eh_ v1075 v1076) fun y => .leaf (.own (L.length + 0) 0 ((y).length), L ++ [.row (.i64 y) 0])
  | _ => .fail
theorem Agn_ : COk Try.prog 32 Q2_ true := by
  intro F L H args r L' hs ha hr
  unfold Q2_ at hr
  split at hr
  · rename_i a1 v1076
    obtain ⟨v1075, hv1075, hr⟩ := Aa_ hr
    simp only [Tree.run] at hr
    obtain ⟨y, hy, hr⟩ := Option.bind_eq_some_iff.1 hr
    simp only [Tree.run, Option.some.injEq, Prod.mk.injEq] at hr
    obtain ⟨rfl, rfl⟩ := hr
    exact Dc_ hs (fun k => (([a1.av F] : List AV)[k]?).getD .top) [a1, .int .i64 v1076] [.bslc (BR.root 0) (.i64 v1075), .int .i64 v1076] (fun F' h0 hi hρ => ⟨by simp [DVs.av, DV.av, BR.av, hρ], Aac_ v1075 v1076 F' (Ak_ hi) ⟨Ag_ hi (by rw [h0, hρ]; exact An_ hs (DVs.okAt ha 0 rfl) hv1075), trivial, trivial⟩ hy⟩) rfl rfl
  · cases hr
noncomputable def G7_ (v1071 : Int) (v1072 : List Int) (v2016 v2017 v2018 v2019 : Int) (v2021 : List Int) (s : Int × (List Int)) : Tree ((Int × (List Int)) ⊕ ((List Int))) :=
  (.br (decide (s.1 < v2019)) (
  (.grd (inb s.1 ((v2021).length)) <|
  (.grd (inb v2018 ((s.2).length)) <|
  (.call (Cl_ v1071 v1072 s.1 v2018) fun v2023 =>
  (.grd (inb v2018 ((s.2).length)) <|
  .leaf (.inl (IntKind.i64.wrap (s.1 + (1 : Int)), List.set s.2 (Int.toNat v2018) (IntKind.i64.wrap ((nth s.2 (Int.toNat v2018)) + (IntKind.i64.wrap ((nth v2021 (Int.toNat s.1)) * v2023))))))))))
  ) (
  .leaf (.inr s.2)
  ))
noncomputable def R7_ (v1071 : Int) (v1072 : List Int) (v2016 v2017 v2018 v2019 : Int) (v2021 : List Int) (s0 : Int × (List Int)) : Option ((List Int)) := Af_ (fun s => (G7_ v1071 v1072 v2016 v2017 v2018 v2019 v2021 s).run) s0
def F2_ (v1070 v1071 : Int) (v1072 : List Int) (v1073 v2016 v2017 v2018 v2019 : Int) (v2021 : List Int) (s : Int × (List Int)) : Sd := ([Z,.int .i64 v1073,.ptr 0 (0 : Nat) 0 (3 : Nat),Z,Z,Z,Z,.nilslc,.int .i64 v2016,.own 1 0 ((v2021).length),.own 2 0 ((s.2).length),.int .i64 v2017,.int .i64 v2018,Z,Z,Z,Z,Z,Z,Z,Z,Z,Z,Z,Z,Z,Z,Z,Z,Z,Z,Z,Z,Z,Z,Z,Z,Z,Z,.int .i64 v1071,.int .i64 v2018,Z,Z,.own 1 0 ((v2021).length),.int .i64 v2019,.int .i64 s.1,Z,Z,Z,Z,Z,Z,Z,Z,Z,Z,Z,Z,Z,Z,Z,Z,Z,Z,Z,Z,Z,Z,Z,Z,Z,Z,Z,Z,Z,Z,Z,Z,Z,Z,Z,Z,Z,Z,Z,Z,Z,Z,Z,Z,Z,Z,Z,Z,Z,Z,Z,Z,Z,Z,Z,Z,Z,Z,Z,Z,Z,Z,Z,Z,Z,Z,Z,Z,Z,Z,Z,Z,Z,Z], [.gen [.int .i64 v1070, .int .i64 v1071, .bslc (BR.root 0) (.i64 v1072)] false 0, .row (.i64 v2021) 0, .row (.i64 s.2) 0])
def Qv_ (v1070 v1071 : Int) (v1072 : List Int) (v1073 v2016 v2017 v2018 v2019 : Int) (v2021 : List Int) (x : (List Int)) : Out := (.normal, [Z,.int .i64 v1073,.ptr 0 (0 : Nat) 0 (3 : Nat),Z,Z,Z,Z,.nilslc,.int .i64 v2016,.own 1 0 ((v2021).length),.own 2 0 ((x).length),.int .i64 v2017,.int .i64 v2018,Z,Z,Z,Z,Z,Z,Z,Z,Z,Z,Z,Z,Z,Z,Z,Z,Z,Z,Z,Z,Z,Z,Z,Z,Z,Z,.int .i64 v1071,.int .i64 v2018,Z,Z,Z,Z,Z,Z,Z,Z,Z,Z,Z,Z,Z,Z,Z,Z,Z,Z,Z,Z,Z,Z,Z,Z,Z,Z,Z,Z,Z,Z,Z,Z,Z,Z,Z,Z,Z,Z,Z,Z,Z,Z,Z,Z,Z,Z,Z,Z,Z,Z,Z,Z,Z,Z,Z,Z,Z,Z,Z,Z,Z,Z,Z,Z,Z,Z,Z,Z,Z,Z,Z,Z,Z,Z,Z,Z,Z,Z,Z], [.gen [.int .i64 v1070, .int .i64 v1071, .bslc (BR.root 0) (.i64 v1072)] false 0, .row (.i64 v2021) 0, .row (.i64 x) 0])
def U9_ : List Nat := KL true [1,2,4,6,26,2,2,3,74]
def Acu_ : Exit → List Nat
  | .exit 0 => KL true [7,2,111]
  | .exit 1 => KL true [1,2,4,3,110]
  | .exit 2 => KL true [1,2,4,5,108]
  | .exit 3 => KL true [1,2,4,5,27,2,79]
  | .exit 4 => KL true [1,2,4,6,26,2,79]
  | .ret => KL true [4,3,113]
  | _ => []
noncomputable def Hm_ (v1070 v1071 : Int) (v1072 : List Int) (v1073 v1995 : Int) (v1998 : List Int) (s : Int × Int × (List Int)) : Tree ((Int × Int × (List Int)) ⊕ (Int × (List Int))) :=
  (.br (decide (s.2.1 < v1071)) (
  (.need (some (F2_ v1070 v1071 v1072 v1073 v1995 s.1 s.2.1 (((v1998).length : Nat) : Int) v1998 ((0 : Int), s.2.2)) = some (F2_ v1070 v1071 v1072 v1073 v1995 s.1 s.2.1 (((v1998).length : Nat) : Int) v1998 ((0 : Int), s.2.2))) <|
  (.call (R7_ v1071 v1072 v1995 s.1 s.2.1 (((v1998).length : Nat) : Int) v1998 ((0 : Int), s.2.2)) fun v2024 =>
  (.grd (inb s.2.1 ((v2024).length)) <|
  (.grd (inb s.2.1 ((v2024).length)) <|
  .leaf (.inl (IntKind.i64.wrap (s.1 + (IntKind.i64.wrap ((nth v2024 (Int.toNat s.2.1)) * (nth v2024 (Int.toNat s.2.1))))), IntKind.i64.wrap (s.2.1 + (1 : Int)), v2024))))))
  ) (
  .leaf (.inr (s.1, s.2.2))
  ))
noncomputable def Qd_ (v1070 v1071 : Int) (v1072 : List Int) (v1073 v1995 : Int) (v1998 : List Int) (s0 : Int × Int × (List Int)) : Option (Int × (List Int)) := Af_ (fun s => (Hm_ v1070 v1071 v1072 v1073 v1995 v1998 s).run) s0
def Fj_ (v1070 v1071 : Int) (v1072 : List Int) (v1073 v1995 : Int) (v1998 : List Int) (s : Int × Int × (List Int)) : Sd := ([Z,.int .i64 v1073,.ptr 0 (0 : Nat) 0 (3 : Nat),Z,Z,Z,Z,.nilslc,.int .i64 v1995,.own 1 0 ((v1998).length),.own 2 0 ((s.2.2).length),.int .i64 s.1,Z,Z,Z,Z,Z,Z,Z,Z,Z,Z,Z,Z,Z,Z,Z,Z,Z,Z,Z,Z,Z,Z,Z,Z,Z,Z,Z,.int .i64 v1071,.int .i64 s.2.1,Z,Z,Z,Z,Z,Z,Z,Z,Z,Z,Z,Z,Z,Z,Z,Z,Z,Z,Z,Z,Z,Z,Z,Z,Z,Z,Z,Z,Z,Z,Z,Z,Z,Z,Z,Z,Z,Z,Z,Z,Z,Z,Z,Z,Z,Z,Z,Z,Z,Z,Z,Z,Z,Z,Z,Z,Z,Z,Z,Z,Z,Z,Z,Z,Z,Z,Z,Z,Z,Z,Z,Z,Z,Z,Z,Z,Z,Z,Z], [.gen [.int .i64 v1070, .int .i64 v1071, .bslc (BR.root 0) (.i64 v1072)] false 0, .row (.i64 v1998) 0, .row (.i64 s.2.2) 0])
def Pt_ (v1070 v1071 : Int) (v1072 : List Int) (v1073 v1995 : Int) (v1998 : List Int) (x : Int × (List Int)) : Out := (.normal, [Z,.int .i64 v1073,.ptr 0 (0 : Nat) 0 (3 : Nat),Z,Z,Z,Z,.nilslc,.int .i64 v1995,.own 1 0 ((v1998).length),.own 2 0 ((x.2).length),.int .i64 x.1,Z,Z,Z,Z,Z,Z,Z,Z,Z,Z,Z,Z,Z,Z,Z,Z,Z,Z,Z,Z,Z,Z,Z,Z,Z,Z,Z,Z,Z,Z,Z,Z,Z,Z,Z,Z,Z,Z,Z,Z,Z,Z,Z,Z,Z,Z,Z,Z,Z,Z,Z,Z,Z,Z,Z,Z,Z,Z,Z,Z,Z,Z,Z,Z,Z,Z,Z,Z,Z,Z,Z,Z,Z,Z,Z,Z,Z,Z,Z,Z,Z,Z,Z,Z,Z,Z,Z,Z,Z,Z,Z,Z,Z,Z,Z,Z,Z,Z,Z,Z,Z,Z,Z,Z,Z,Z,Z,Z], [.gen [.int .i64 v1070, .int .i64 v1071, .bslc (BR.root 0) (.i64 v1072)] false 0, .row (.i64 v1998) 0, .row (.i64 x.2) 0])
def Us_ : List Nat := KL true [1,2,4,5,27,2,79]
def Ai6_ : Exit → List Nat
  | .exit 0 => KL true [7,2,111]
  | .exit 1 => KL true [1,2,4,3,110]
  | .exit 2 => KL true [1,2,4,5,108]
  | .ret => KL true [4,3,113]
  | _ => []
noncomputable def C7_ (v1073 v2034 : Int) (v2036 : List Int) (s : Int × (List Int)) : Tree ((Int × (List Int)) ⊕ (Int × (List Int))) :=
  (.br (decide ((0 : Int) ≤ s.1)) (
  (.grd (inb s.1 ((s.2).length)) <|
  (.br (decide (nth s.2 (Int.toNat s.1) = v1073)) (
  (.grd (inb s.1 ((s.2).length)) <|
  .leaf (.inl (IntKind.i64.wrap (s.1 - (1 : Int)), List.set s.2 (Int.toNat s.1) (IntKind.i64.wrap (0 - v1073)))))
  ) (
  .leaf (.inr (s.1, s.2))
  )))
  ) (
  .leaf (.inr (s.1, s.2))
  ))
noncomputable def Ig_ (v1073 v2034 : Int) (v2036 : List Int) (s0 : Int × (List Int)) : Option (Int × (List Int)) := Af_ (fun s => (C7_ v1073 v2034 v2036 s).run) s0
def Cd_ (v1070 v1071 : Int) (v1072 : List Int) (v1073 v2034 : Int) (v2036 : List Int) (s : Int × (List Int)) : Sd := ([Z,.int .i64 v1073,.ptr 0 (0 : Nat) 0 (3 : Nat),Z,Z,Z,Z,.own 1 0 ((v2036).length),.int .i64 v2034,.own 2 0 ((s.2).length),Z,Z,Z,Z,Z,.int .i64 s.1,Z,Z,Z,Z,Z,Z,Z,Z,Z,Z,Z,Z,Z,Z,Z,Z,Z,Z,Z,Z,Z,Z,Z,Z,Z,Z,Z,Z,Z,Z,Z,Z,Z,Z,Z,Z,Z,Z,Z,Z,Z,Z,Z,Z,Z,Z,Z,Z,Z,Z,Z,Z,Z,Z,Z,Z,Z,Z,Z,Z,Z,Z,Z,Z,Z,Z,Z,Z,Z,Z,Z,Z,Z,Z,Z,Z,Z,Z,Z,Z,Z,Z,Z,Z,Z,Z,Z,Z,Z,Z,Z,Z,Z,Z,Z,Z,Z,Z,Z,Z,Z,Z,Z,Z], [.gen [.int .i64 v1070, .int .i64 v1071, .bslc (BR.root 0) (.i64 v1072)] false 0, .row (.i64 v2036) 0, .row (.i64 s.2) 0])
def On_ (v1070 v1071 : Int) (v1072 : List Int) (v1073 v2034 : Int) (v2036 : List Int) (x : Int × (List Int)) : Out := (.normal, [Z,.int .i64 v1073,.ptr 0 (0 : Nat) 0 (3 : Nat),Z,Z,Z,Z,.own 1 0 ((v2036).length),.int .i64 v2034,.own 2 0 ((x.2).length),Z,Z,Z,Z,Z,.int .i64 x.1,Z,Z,Z,Z,Z,Z,Z,Z,Z,Z,Z,Z,Z,Z,Z,Z,Z,Z,Z,Z,Z,Z,Z,Z,Z,Z,Z,Z,Z,Z,Z,Z,Z,Z,Z,Z,Z,Z,Z,Z,Z,Z,Z,Z,Z,Z,Z,Z,Z,Z,Z,Z,Z,Z,Z,Z,Z,Z,Z,Z,Z,Z,Z,Z,Z,Z,Z,Z,Z,Z,Z,Z,Z,Z,Z,Z,Z,Z,Z,Z,Z,Z,Z,Z,Z,Z,Z,Z,Z,Z,Z,Z,Z,Z,Z,Z,Z,Z,Z,Z,Z,Z,Z,Z], [.gen [.int .i64 v1070, .int .i64 v1071, .bslc (BR.root 0) (.i64 v1072)] false 0, .row (.i64 v2036) 0, .row (.i64 x.2) 0])
def Yw_ : List Nat := KL true [1,2,4,3,5,1,104]
def Amh_ : Exit → List Nat
  | .exit 0 => KL true [7,2,111]
  | .exit 1 => KL true [1,2,4,3,110]
  | .exit 6 => KL true [1,2,4,3,5,1,104]
  | .ret => KL true [4,3,113]
  | _ => []
noncomputable def Se_ (v1073 v2045 : Int) (s : Int × (List Int)) : Tree ((Int × (List Int)) ⊕ (Int × (List Int))) :=
  (.br (decide ((0 : Int) ≤ s.1)) (
  (.grd (inb s.1 ((s.2).length)) <|
  (.br (decide (nth s.2 (Int.toNat s.1) = v1073)) (
  (.grd (inb s.1 ((s.2).length)) <|
  .leaf (.inl (IntKind.i64.wrap (s.1 - (1 : Int)), List.set s.2 (Int.toNat s.1) (IntKind.i64.wrap (0 - v1073)))))
  ) (
  .leaf (.inr (s.1, s.2))
  )))
  ) (
  .leaf (.inr (s.1, s.2))
  ))
noncomputable def Q0_ (v1073 v2045 : Int) (s0 : Int × (List Int)) : Option (Int × (List Int)) := Af_ (fun s => (Se_ v1073 v2045 s).run) s0
def Hv_ (v1070 v1071 : Int) (v1072 : List Int) (v1073 v2045 : Int) (s : Int × (List Int)) : Sd := ([Z,.int .i64 v1073,.ptr 0 (0 : Nat) 0 (3 : Nat),Z,Z,Z,Z,.nilslc,.int .i64 v2045,.own 1 0 ((s.2).length),Z,Z,Z,Z,Z,.int .i64 s.1,Z,Z,Z,Z,Z,Z,Z,Z,Z,Z,Z,Z,Z,Z,Z,Z,Z,Z,Z,Z,Z,Z,Z,Z,Z,Z,Z,Z,Z,Z,Z,Z,Z,Z,Z,Z,Z,Z,Z,Z,Z,Z,Z,Z,Z,Z,Z,Z,Z,Z,Z,Z,Z,Z,Z,Z,Z,Z,Z,Z,Z,Z,Z,Z,Z,Z,Z,Z,Z,Z,Z,Z,Z,Z,Z,Z,Z,Z,Z,Z,Z,Z,Z,Z,Z,Z,Z,Z,Z,Z,Z,Z,Z,Z,Z,Z,Z,Z,Z,Z,Z,Z,Z,Z], [.gen [.int .i64 v1070, .int .i64 v1071, .bslc (BR.root 0) (.i64 v1072)] false 0, .row (.i64 s.2) 0])
def P9_ (v1070 v1071 : Int) (v1072 : List Int) (v1073 v2045 : Int) (x : Int × (List Int)) : Out := (.normal, [Z,.int .i64 v1073,.ptr 0 (0 : Nat) 0 (3 : Nat),Z,Z,Z,Z,.nilslc,.int .i64 v2045,.own 1 0 ((x.2).length),Z,Z,Z,Z,Z,.int .i64 x.1,Z,Z,Z,Z,Z,Z,Z,Z,Z,Z,Z,Z,Z,Z,Z,Z,Z,Z,Z,Z,Z,Z,Z,Z,Z,Z,Z,Z,Z,Z,Z,Z,Z,Z,Z,Z,Z,Z,Z,Z,Z,Z,Z,Z,Z,Z,Z,Z,Z,Z,Z,Z,Z,Z,Z,Z,Z,Z,Z,Z,Z,Z,Z,Z,Z,Z,Z,Z,Z,Z,Z,Z,Z,Z,Z,Z,Z,Z,Z,Z,Z,Z,Z,Z,Z,Z,Z,Z,Z,Z,Z,Z,Z,Z,Z,Z,Z,Z,Z,Z,Z,Z,Z,Z], [.gen [.int .i64 v1070, .int .i64 v1071, .bslc (BR.root 0) (.i64 v1072)] false 0, .row (.i64 x.2) 0])
def W8_ : List Nat := KL true [1,2,4,3,5,1,104]
def Ahd_ : Exit → List Nat
  | .exit 0 => KL true [7,2,111]
  | .exit 1 => KL true [1,2,4,3,110]
  | .exit 6 => KL true [1,2,4,3,5,1,104]
  | .ret => KL true [4,3,113]
  | _ => []
noncomputable def I7_ (v1071 : Int) (v1072 : List Int) (v2139 v2140 v2141 v2142 : Int) (v2144 v2145 : List Int) (s : Int × (List Int)) : Tree ((Int × (List Int)) ⊕ ((List Int))) :=
  (.br (decide (s.1 < v2142)) (
  (.grd (inb s.1 ((v2145).length)) <|
  (.grd (inb v2141 ((s.2).length)) <|
  (.call (Cl_ v1071 v1072 s.1 v2141) fun v2147 =>
  (.grd (inb v2141 ((s.2).length)) <|
  .leaf (.inl (IntKind.i64.wrap (s.1 + (1 : Int)), List.set s.2 (Int.toNat v2141) (IntKind.i64.wrap ((nth s.2 (Int.toNat v2141)) + (IntKind.i64.wrap ((nth v2145 (Int.toNat s.1)) * v2147))))))))))
  ) (
  .leaf (.inr s.2)
  ))
noncomputable def Q7_ (v1071 : Int) (v1072 : List Int) (v2139 v2140 v2141 v2142 : Int) (v2144 v2145 : List Int) (s0 : Int × (List Int)) : Option ((List Int)) := Af_ (fun s => (I7_ v1071 v1072 v2139 v2140 v2141 v2142 v2144 v2145 s).run) s0
def Hf_ (v1070 v1071 : Int) (v1072 : List Int) (v1073 v2139 v2140 v2141 v2142 : Int) (v2144 v2145 : List Int) (s : Int × (List Int)) : Sd := ([Z,.int .i64 v1073,.ptr 0 (0 : Nat) 0 (3 : Nat),Z,Z,Z,Z,.own 1 0 ((v2144).length),.int .i64 v2139,.own 2 0 ((v2145).length),.own 3 0 ((s.2).length),.int .i64 v2140,.int .i64 v2141,Z,Z,Z,Z,Z,Z,Z,Z,Z,Z,Z,Z,Z,Z,Z,Z,Z,Z,Z,Z,Z,Z,Z,Z,Z,Z,.int .i64 v1071,.int .i64 v2141,Z,Z,.own 2 0 ((v2145).length),.int .i64 v2142,.int .i64 s.1,Z,Z,Z,Z,Z,Z,Z,Z,Z,Z,Z,Z,Z,Z,Z,Z,Z,Z,Z,Z,Z,Z,Z,Z,Z,Z,Z,Z,Z,Z,Z,Z,Z,Z,Z,Z,Z,Z,Z,Z,Z,Z,Z,Z,Z,Z,Z,Z,Z,Z,Z,Z,Z,Z,Z,Z,Z,Z,Z,Z,Z,Z,Z,Z,Z,Z,Z,Z,Z,Z,Z,Z,Z,Z], [.gen [.int .i64 v1070, .int .i64 v1071, .bslc (BR.root 0) (.i64 v1072)] false 0, .row (.i64 v2144) 0, .row (.i64 v2145) 0, .row (.i64 s.2) 0])
def Op_ (v1070 v1071 : Int) (v1072 : List Int) (v1073 v2139 v2140 v2141 v2142 : Int) (v2144 v2145 : List Int) (x : (List Int)) : Out := (.normal, [Z,.int .i64 v1073,.ptr 0 (0 : Nat) 0 (3 : Nat),Z,Z,Z,Z,.own 1 0 ((v2144).length),.int .i64 v2139,.own 2 0 ((v2145).length),.own 3 0 ((x).length),.int .i64 v2140,.int .i64 v2141,Z,Z,Z,Z,Z,Z,Z,Z,Z,Z,Z,Z,Z,Z,Z,Z,Z,Z,Z,Z,Z,Z,Z,Z,Z,Z,.int .i64 v1071,.int .i64 v2141,Z,Z,Z,Z,Z,Z,Z,Z,Z,Z,Z,Z,Z,Z,Z,Z,Z,Z,Z,Z,Z,Z,Z,Z,Z,Z,Z,Z,Z,Z,Z,Z,Z,Z,Z,Z,Z,Z,Z,Z,Z,Z,Z,Z,Z,Z,Z,Z,Z,Z,Z,Z,Z,Z,Z,Z,Z,Z,Z,Z,Z,Z,Z,Z,Z,Z,Z,Z,Z,Z,Z,Z,Z,Z,Z,Z,Z,Z,Z], [.gen [.int .i64 v1070, .int .i64 v1071, .bslc (BR.root 0) (.i64 v1072)] false 0, .row (.i64 v2144) 0, .row (.i64 v2145) 0, .row (.i64 x) 0])
def Uu_ : List Nat := KL true [1,2,4,6,26,2,2,3,74]
def Abp_ : Exit → List Nat
  | .exit 0 => KL true [7,2,111]
  | .exit 1 => KL true [1,2,4,3,110]
  | .exit 2 => KL true [1,2,4,5,108]
  | .exit 3 => KL true [1,2,4,5,27,2,79]
  | .exit 4 => KL true [1,2,4,6,26,2,79]
  | .ret => KL true [4,3,113]
  | _ => []
noncomputable def I6_ (v1070 v1071 : Int) (v1072 : List Int) (v1073 v2115 : Int) (v2118 v2119 : List Int) (s : Int × Int × (List Int)) : Tree ((Int × Int × (List Int)) ⊕ (Int × (List Int))) :=
  (.br (decide (s.2.1 < v1071)) (
  (.need (some (Hf_ v1070 v1071 v1072 v1073 v2115 s.1 s.2.1 (((v2119).length : Nat) : Int) v2118 v2119 ((0 : Int), s.2.2)) = some (Hf_ v1070 v1071 v1072 v1073 v2115 s.1 s.2.1 (((v2119).length : Nat) : Int) v2118 v2119 ((0 : Int), s.2.2))) <|
  (.call (Q7_ v1071 v1072 v2115 s.1 s.2.1 (((v2119).length : Nat) : Int) v2118 v2119 ((0 : Int), s.2.2)) fun v2148 =>
  (.grd (inb s.2.1 ((v2148).length)) <|
  (.grd (inb s.2.1 ((v2148).length)) <|
  .leaf (.inl (IntKind.i64.wrap (s.1 + (IntKind.i64.wrap ((nth v2148 (Int.toNat s.2.1)) * (nth v2148 (Int.toNat s.2.1))))), IntKind.i64.wrap (s.2.1 + (1 : Int)), v2148))))))
  ) (
  .leaf (.inr (s.1, s.2.2))
  ))
noncomputable def Qm_ (v1070 v1071 : Int) (v1072 : List Int) (v1073 v2115 : Int) (v2118 v2119 : List Int) (s0 : Int × Int × (List Int)) : Option (Int × (List Int)) := Af_ (fun s => (I6_ v1070 v1071 v1072 v1073 v2115 v2118 v2119 s).run) s0
def Fc_ (v1070 v1071 : Int) (v1072 : List Int) (v1073 v2115 : Int) (v2118 v2119 : List Int) (s : Int × Int × (List Int)) : Sd := ([Z,.int .i64 v1073,.ptr 0 (0 : Nat) 0 (3 : Nat),Z,Z,Z,Z,.own 1 0 ((v2118).length),.int .i64 v2115,.own 2 0 ((v2119).length),.own 3 0 ((s.2.2).length),.int .i64 s.1,Z,Z,Z,Z,Z,Z,Z,Z,Z,Z,Z,Z,Z,Z,Z,Z,Z,Z,Z,Z,Z,Z,Z,Z,Z,Z,Z,.int .i64 v1071,.int .i64 s.2.1,Z,Z,Z,Z,Z,Z,Z,Z,Z,Z,Z,Z,Z,Z,Z,Z,Z,Z,Z,Z,Z,Z,Z,Z,Z,Z,Z,Z,Z,Z,Z,Z,Z,Z,Z,Z,Z,Z,Z,Z,Z,Z,Z,Z,Z,Z,Z,Z,Z,Z,Z,Z,Z,Z,Z,Z,Z,Z,Z,Z,Z,Z,Z,Z,Z,Z,Z,Z,Z,Z,Z,Z,Z,Z,Z,Z,Z,Z,Z], [.gen [.int .i64 v1070, .int .i64 v1071, .bslc (BR.root 0) (.i64 v1072)] false 0, .row (.i64 v2118) 0, .row (.i64 v2119) 0, .row (.i64 s.2.2) 0])
def P3_ (v1070 v1071 : Int) (v1072 : List Int) (v1073 v2115 : Int) (v2118 v2119 : List Int) (x : Int × (List Int)) : Out := (.normal, [Z,.int .i64 v1073,.ptr 0 (0 : Nat) 0 (3 : Nat),Z,Z,Z,Z,.own 1 0 ((v2118).length),.int .i64 v2115,.own 2 0 ((v2119).length),.own 3 0 ((x.2).length),.int .i64 x.1,Z,Z,Z,Z,Z,Z,Z,Z,Z,Z,Z,Z,Z,Z,Z,Z,Z,Z,Z,Z,Z,Z,Z,Z,Z,Z,Z,Z,Z,Z,Z,Z,Z,Z,Z,Z,Z,Z,Z,Z,Z,Z,Z,Z,Z,Z,Z,Z,Z,Z,Z,Z,Z,Z,Z,Z,Z,Z,Z,Z,Z,Z,Z,Z,Z,Z,Z,Z,Z,Z,Z,Z,Z,Z,Z,Z,Z,Z,Z,Z,Z,Z,Z,Z,Z,Z,Z,Z,Z,Z,Z,Z,Z,Z,Z,Z,Z,Z,Z,Z,Z,Z,Z,Z,Z,Z,Z,Z], [.gen [.int .i64 v1070, .int .i64 v1071, .bslc (BR.root 0) (.i64 v1072)] false 0, .row (.i64 v2118) 0, .row (.i64 v2119) 0, .row (.i64 x.2) 0])
def Vl_ : List Nat := KL true [1,2,4,5,27,2,79]
def Af1_ : Exit → List Nat
  | .exit 0 => KL true [7,2,111]
  | .exit 1 => KL true [1,2,4,3,110]
  | .exit 2 => KL true [1,2,4,5,108]
  | .ret => KL true [4,3,113]
  | _ => []
noncomputable def Ax_ (v1070 v1071 : Int) (v1072 : List Int) (v1073 : Int) (s : (Int × (List Int)) ⊕ (Int × (List Int) × (List Int))) : Tree (((Int × (List Int)) ⊕ (Int × (List Int) × (List Int))) ⊕ ((Int × (List Int)) ⊕ (Int))) :=
  (match s with
  | .inl s => (
  (.need (v1071 = v1071) <|
  (.grd (inb v1071 (maxN + 1)) <|
  (.need (some (Fj_ v1070 v1071 v1072 v1073 s.1 s.2 ((0 : Int), (0 : Int), List.replicate (Int.toNat v1071) (0 : Int))) = some (Fj_ v1070 v1071 v1072 v1073 s.1 s.2 ((0 : Int), (0 : Int), List.replicate (Int.toNat v1071) (0 : Int)))) <|
  (.call (Qd_ v1070 v1071 v1072 v1073 s.1 s.2 ((0 : Int), (0 : Int), List.replicate (Int.toNat v1071) (0 : Int))) fun v2025 =>
  (.br (decide ((0 : Int) < v2025.1)) (
  (.need (some (Cd_ v1070 v1071 v1072 v1073 v2025.1 v2025.2 (IntKind.i64.wrap ((((s.2).length : Nat) : Int) - (1 : Int)), s.2)) = some (Cd_ v1070 v1071 v1072 v1073 v2025.1 v2025.2 (IntKind.i64.wrap ((((s.2).length : Nat) : Int) - (1 : Int)), s.2))) <|
  (.call (Ig_ v1073 v2025.1 v2025.2 (IntKind.i64.wrap ((((s.2).length : Nat) : Int) - (1 : Int)), s.2)) fun v2038 =>
  (.br (decide (v2038.1 < (0 : Int))) (
  .leaf (.inr (.inl (v2025.1, v2025.2)))
  ) (
  (.grd (inb v2038.1 ((v2038.2).length)) <|
  (.grd (inb v2038.1 ((v2038.2).length)) <|
  .leaf (.inl (.inr (v2025.1, v2025.2, List.set v2038.2 (Int.toNat v2038.1) (IntKind.i64.wrap ((nth v2038.2 (Int.toNat v2038.1)) + (1 : Int))))))))
  ))))
  ) (
  (.need (some (Hv_ v1070 v1071 v1072 v1073 s.1 (IntKind.i64.wrap ((((s.2).length : Nat) : Int) - (1 : Int)), s.2)) = some (Hv_ v1070 v1071 v1072 v1073 s.1 (IntKind.i64.wrap ((((s.2).length : Nat) : Int) - (1 : Int)), s.2))) <|
  (.call (Q0_ v1073 s.1 (IntKind.i64.wrap ((((s.2).length : Nat) : Int) - (1 : Int)), s.2)) fun v2048 =>
  (.br (decide (v2048.1 < (0 : Int))) (
  .leaf (.inr (.inr s.1))
  ) (
  (.grd (inb v2048.1 ((v2048.2).length)) <|
  (.grd (inb v2048.1 ((v2048.2).length)) <|
  .leaf (.inl (.inl (s.1, List.set v2048.2 (Int.toNat v2048.1) (IntKind.i64.wrap ((nth v2048.2 (Int.toNat v2048.1)) + (1 : Int))))))))
  ))))
  )))))))
  | .inr s => (
  (.need (v1071 = v1071) <|
  (.grd (inb v1071 (maxN + 1)) <|
  (.need (some (Fc_ v1070 v1071 v1072 v1073 s.1 s.2.1 s.2.2 ((0 : Int), (0 : Int), List.replicate (Int.toNat v1071) (0 : Int))) = some (Fc_ v1070 v1071 v1072 v1073 s.1 s.2.1 s.2.2 ((0 : Int), (0 : Int), List.replicate (Int.toNat v1071) (0 : Int)))) <|
  (.call (Qm_ v1070 v1071 v1072 v1073 s.1 s.2.1 s.2.2 ((0 : Int), (0 : Int), List.replicate (Int.toNat v1071) (0 : Int))) fun v2149 =>
  (.br (decide ((0 : Int) < v2149.1)) (
  (.br (decide (v2149.1 < s.1)) (
  (.need (some (Cd_ v1070 v1071 v1072 v1073 v2149.1 v2149.2 (IntKind.i64.wrap ((((s.2.2).length : Nat) : Int) - (1 : Int)), s.2.2)) = some (Cd_ v1070 v1071 v1072 v1073 v2149.1 v2149.2 (IntKind.i64.wrap ((((s.2.2).length : Nat) : Int) - (1 : Int)), s.2.2))) <|
  (.call (Ig_ v1073 v2149.1 v2149.2 (IntKind.i64.wrap ((((s.2.2).length : Nat) : Int) - (1 : Int)), s.2.2)) fun v2162 =>
  (.br (decide (v2162.1 < (0 : Int))) (
  .leaf (.inr (.inl (v2149.1, v2149.2)))
  ) (
  (.grd (inb v2162.1 ((v2162.2).length)) <|
  (.grd (inb v2162.1 ((v2162.2).length)) <|
  .leaf (.inl (.inr (v2149.1, v2149.2, List.set v2162.2 (Int.toNat v2162.1) (IntKind.i64.wrap ((nth v2162.2 (Int.toNat v2162.1)) + (1 : Int))))))))
  ))))
  ) (
  (.need (some (Cd_ v1070 v1071 v1072 v1073 s.1 s.2.1 (IntKind.i64.wrap ((((s.2.2).length : Nat) : Int) - (1 : Int)), s.2.2)) = some (Cd_ v1070 v1071 v1072 v1073 s.1 s.2.1 (IntKind.i64.wrap ((((s.2.2).length : Nat) : Int) - (1 : Int)), s.2.2))) <|
  (.call (Ig_ v1073 s.1 s.2.1 (IntKind.i64.wrap ((((s.2.2).length : Nat) : Int) - (1 : Int)), s.2.2)) fun v2175 =>
  (.br (decide (v2175.1 < (0 : Int))) (
  .leaf (.inr (.inl (s.1, s.2.1)))
  ) (
  (.grd (inb v2175.1 ((v2175.2).length)) <|
  (.grd (inb v2175.1 ((v2175.2).length)) <|
  .leaf (.inl (.inr (s.1, s.2.1, List.set v2175.2 (Int.toNat v2175.1) (IntKind.i64.wrap ((nth v2175.2 (Int.toNat v2175.1)) + (1 : Int))))))))
  ))))
  ))
  ) (
  (.need (some (Cd_ v1070 v1071 v1072 v1073 s.1 s.2.1 (IntKind.i64.wrap ((((s.2.2).length : Nat) : Int) - (1 : Int)), s.2.2)) = some (Cd_ v1070 v1071 v1072 v1073 s.1 s.2.1 (IntKind.i64.wrap ((((s.2.2).length : Nat) : Int) - (1 : Int)), s.2.2))) <|
  (.call (Ig_ v1073 s.1 s.2.1 (IntKind.i64.wrap ((((s.2.2).length : Nat) : Int) - (1 : Int)), s.2.2)) fun v2188 =>
  (.br (decide (v2188.1 < (0 : Int))) (
  .leaf (.inr (.inl (s.1, s.2.1)))
  ) (
  (.grd (inb v2188.1 ((v2188.2).length)) <|
  (.grd (inb v2188.1 ((v2188.2).length)) <|
  .leaf (.inl (.inr (s.1, s.2.1, List.set v2188.2 (Int.toNat v2188.1) (IntKind.i64.wrap ((nth v2188.2 (Int.toNat v2188.1)) + (1 : Int))))))))
  ))))
  ))))))))
noncomputable def Nf_ (v1070 v1071 : Int) (v1072 : List Int) (v1073 : Int) (s0 : (Int × (List Int)) ⊕ (Int × (List Int) × (List Int))) : Option ((Int × (List Int)) ⊕ (Int)) := Af_ (fun s => (Ax_ v1070 v1071 v1072 v1073 s).run) s0
def Cv_ (v1070 v1071 : Int) (v1072 : List Int) (v1073 : Int) (s : (Int × (List Int)) ⊕ (Int × (List Int) × (List Int))) : Sd := (match s with | .inl s => ( ([Z,.int .i64 v1073,.ptr 0 (0 : Nat) 0 (3 : Nat),Z,Z,Z,Z,.nilslc,.int .i64 s.1,.own 1 0 ((s.2).length),Z,Z,Z,Z,Z,Z,Z,Z,Z,Z,Z,Z,Z,Z,Z,Z,Z,Z,Z,Z,Z,Z,Z,Z,Z,Z,Z,Z,Z,Z,Z,Z,Z,Z,Z,Z,Z,Z,Z,Z,Z,Z,Z,Z,Z,Z,Z,Z,Z,Z,Z,Z,Z,Z,Z,Z,Z,Z,Z,Z,Z,Z,Z,Z,Z,Z,Z,Z,Z,Z,Z,Z,Z,Z,Z,Z,Z,Z,Z,Z,Z,Z,Z,Z,Z,Z,Z,Z,Z,Z,Z,Z,Z,Z,Z,Z,Z,Z,Z,Z,Z,Z,Z,Z,Z,Z,Z,Z,Z,Z], [.gen [.int .i64 v1070, .int .i64 v1071, .bslc (BR.root 0) (.i64 v1072)] false 0, .row (.i64 s.2) 0])) | .inr s => ( ([Z,.int .i64 v1073,.ptr 0 (0 : Nat) 0 (3 : Nat),Z,Z,Z,Z,.own 1 0 ((s.2.1).length),.int .i64 s.1,.own 2 0 ((s.2.2).length),Z,Z,Z,Z,Z,Z,Z,Z,Z,Z,Z,Z,Z,Z,Z,Z,Z,Z,Z,Z,Z,Z,Z,Z,Z,Z,Z,Z,Z,Z,Z,Z,Z,Z,Z,Z,Z,Z,Z,Z,Z,Z,Z,Z,Z,Z,Z,Z,Z,Z,Z,Z,Z,Z,Z,Z,Z,Z,Z,Z,Z,Z,Z,Z,Z,Z,Z,Z,Z,Z,Z,Z,Z,Z,Z,Z,Z,Z,Z,Z,Z,Z,Z,Z,Z,Z,Z,Z,Z,Z,Z,Z,Z,Z,Z,Z,Z,Z,Z,Z,Z,Z,Z,Z,Z,Z,Z,Z,Z,Z], [.gen [.int .i64 v1070, .int .i64 v1071, .bslc (BR.root 0) (.i64 v1072)] false 0, .row (.i64 s.2.1) 0, .row (.i64 s.2.2) 0]))) 
def Go_ (v1070 v1071 : Int) (v1072 : List Int) (v1073 : Int) (x : (Int × (List Int)) ⊕ (Int)) : Out := (match x with | .inl x => (.normal, [Z,Z,Z,Z,Z,Z,Z,.own 0 0 ((x.2).length),.int .i64 x.1,Z,Z,Z,Z,Z,Z,Z,Z,Z,Z,Z,Z,Z,Z,Z,Z,Z,Z,Z,Z,Z,Z,Z,Z,Z,Z,Z,Z,Z,Z,Z,Z,Z,Z,Z,Z,Z,Z,Z,Z,Z,Z,Z,Z,Z,Z,Z,Z,Z,Z,Z,Z,Z,Z,Z,Z,Z,Z,Z,Z,Z,Z,Z,Z,Z,Z,Z,Z,Z,Z,Z,Z,Z,Z,Z,Z,Z,Z,Z,Z,Z,Z,Z,Z,Z,Z,Z,Z,Z,Z,Z,Z,Z,Z,Z,Z,Z,Z,Z,Z,Z,Z,Z,Z,Z,Z,Z,Z,Z,Z,Z], [.row (.i64 x.2) 0]) | .inr x => (.normal, [Z,Z,Z,Z,Z,Z,Z,.nilslc,.int .i64 x,Z,Z,Z,Z,Z,Z,Z,Z,Z,Z,Z,Z,Z,Z,Z,Z,Z,Z,Z,Z,Z,Z,Z,Z,Z,Z,Z,Z,Z,Z,Z,Z,Z,Z,Z,Z,Z,Z,Z,Z,Z,Z,Z,Z,Z,Z,Z,Z,Z,Z,Z,Z,Z,Z,Z,Z,Z,Z,Z,Z,Z,Z,Z,Z,Z,Z,Z,Z,Z,Z,Z,Z,Z,Z,Z,Z,Z,Z,Z,Z,Z,Z,Z,Z,Z,Z,Z,Z,Z,Z,Z,Z,Z,Z,Z,Z,Z,Z,Z,Z,Z,Z,Z,Z,Z,Z,Z,Z,Z,Z,Z], []))
def Mp_ : List Nat := KL true [1,2,4,3,110]
def Ry_ : Exit → List Nat
  | .exit 0 => KL true [7,2,111]
  | .ret => KL true [4,3,113]
  | _ => []
noncomputable def B0_ (v1070 v1071 : Int) (v1072 : List Int) (v1073 : Int) : LOr := fun id e L =>
  match id with
  | 4 => (match (match (vAt e 7) with | .nilslc => true | _ => false) with | true => .need (normA 0 U9_ e L = some (F2_ v1070 v1071 v1072 v1073 (gI (vAt e 8)) (gI (vAt e 11)) (gI (vAt e 12)) (gI (vAt e 44)) (gRI L (vAt e 9)) ((gI (vAt e 45)), (gRI L (vAt e 10))))) (.call (R7_ v1071 v1072 (gI (vAt e 8)) (gI (vAt e 11)) (gI (vAt e 12)) (gI (vAt e 44)) (gRI L (vAt e 9)) ((gI (vAt e 45)), (gRI L (vAt e 10)))) fun x => .leaf (Qv_ v1070 v1071 v1072 v1073 (gI (vAt e 8)) (gI (vAt e 11)) (gI (vAt e 12)) (gI (vAt e 44)) (gRI L (vAt e 9)) x)) | false => .need (normA 0 Uu_ e L = some (Hf_ v1070 v1071 v1072 v1073 (gI (vAt e 8)) (gI (vAt e 11)) (gI (vAt e 12)) (gI (vAt e 44)) (gRI L (vAt e 7)) (gRI L (vAt e 9)) ((gI (vAt e 45)), (gRI L (vAt e 10))))) (.call (Q7_ v1071 v1072 (gI (vAt e 8)) (gI (vAt e 11)) (gI (vAt e 12)) (gI (vAt e 44)) (gRI L (vAt e 7)) (gRI L (vAt e 9)) ((gI (vAt e 45)), (gRI L (vAt e 10)))) fun x => .leaf (Op_ v1070 v1071 v1072 v1073 (gI (vAt e 8)) (gI (vAt e 11)) (gI (vAt e 12)) (gI (vAt e 44)) (gRI L (vAt e 7)) (gRI L (vAt e 9)) x)))
  | 2 => (match (match (vAt e 7) with | .nilslc => true | _ => false) with | true => .need (normA 0 Us_ e L = some (Fj_ v1070 v1071 v1072 v1073 (gI (vAt e 8)) (gRI L (vAt e 9)) ((gI (vAt e 11)), (gI (vAt e 40)), (gRI L (vAt e 10))))) (.call (Qd_ v1070 v1071 v1072 v1073 (gI (vAt e 8)) (gRI L (vAt e 9)) ((gI (vAt e 11)), (gI (vAt e 40)), (gRI L (vAt e 10)))) fun x => .leaf (Pt_ v1070 v1071 v1072 v1073 (gI (vAt e 8)) (gRI L (vAt e 9)) x)) | false => .need (normA 0 Vl_ e L = some (Fc_ v1070 v1071 v1072 v1073 (gI (vAt e 8)) (gRI L (vAt e 7)) (gRI L (vAt e 9)) ((gI (vAt e 11)), (gI (vAt e 40)), (gRI L (vAt e 10))))) (.call (Qm_ v1070 v1071 v1072 v1073 (gI (vAt e 8)) (gRI L (vAt e 7)) (gRI L (vAt e 9)) ((gI (vAt e 11)), (gI (vAt e 40)), (gRI L (vAt e 10)))) fun x => .leaf (P3_ v1070 v1071 v1072 v1073 (gI (vAt e 8)) (gRI L (vAt e 7)) (gRI L (vAt e 9)) x)))
  | 6 => (match (match (vAt e 7) with | .own .. => true | _ => false) with | true => .need (normA 0 Yw_ e L = some (Cd_ v1070 v1071 v1072 v1073 (gI (vAt e 8)) (gRI L (vAt e 7)) ((gI (vAt e 15)), (gRI L (vAt e 9))))) (.call (Ig_ v1073 (gI (vAt e 8)) (gRI L (vAt e 7)) ((gI (vAt e 15)), (gRI L (vAt e 9)))) fun x => .leaf (On_ v1070 v1071 v1072 v1073 (gI (vAt e 8)) (gRI L (vAt e 7)) x)) | false => .need (normA 0 W8_ e L = some (Hv_ v1070 v1071 v1072 v1073 (gI (vAt e 8)) ((gI (vAt e 15)), (gRI L (vAt e 9))))) (.call (Q0_ v1073 (gI (vAt e 8)) ((gI (vAt e 15)), (gRI L (vAt e 9)))) fun x => .leaf (P9_ v1070 v1071 v1072 v1073 (gI (vAt e 8)) x)))
  | 0 => .need (normA 0 Mp_ e L = some (Cv_ v1070 v1071 v1072 v1073 (.inl ((gI (vAt e 8)), (gRI L (vAt e 9)))))) (.call (Nf_ v1070 v1071 v1072 v1073 (.inl ((gI (vAt e 8)), (gRI L (vAt e 9))))) fun x => .sum x (fun b0 => .leaf (Go_ v1070 v1071 v1072 v1073 (.inl b0))) (fun c0 => .leaf (Go_ v1070 v1071 v1072 v1073 (.inr c0))))
  | _ => .fail
noncomputable def A1_ : List (FuncId × DFn × Bool) := [(20, Kg_, true), (21, Iw_, true), (32, Q2_, true), (33, Df_, true)]
theorem Dg_ : OrcOk Try.prog (tabD A1_) (tabM A1_) := Ae_ Rb_ (Ae_ Ny_ (Ae_ Agn_ (Ae_ Gp_ (Ai_ _))))
theorem Adv_ (v1070 v1071 : Int) (v1072 : List Int) (v1073 v2016 v2017 v2018 v2019 : Int) (v2021 : List Int) (s : Int × (List Int)) : bodyT TT (tabD A1_) (tabM A1_) (B0_ v1070 v1071 v1072 v1073) 0 U9_ Acu_ (Ab_ Try.f10 4) 4 (F2_ v1070 v1071 v1072 v1073 v2016 v2017 v2018 v2019 v2021 s) = (G7_ v1071 v1072 v2016 v2017 v2018 v2019 v2021 s).bind fun y => .leaf (outS (F2_ v1070 v1071 v1072 v1073 v2016 v2017 v2018 v2019 v2021) (Qv_ v1070 v1071 v1072 v1073 v2016 v2017 v2018 v2019 v2021) y) := by kernel_rfl
theorem Ap4_ (v1070 v1071 : Int) (v1072 : List Int) (v1073 v2139 v2140 v2141 v2142 : Int) (v2144 v2145 : List Int) (s : Int × (List Int)) : bodyT TT (tabD A1_) (tabM A1_) (B0_ v1070 v1071 v1072 v1073) 0 Uu_ Abp_ (Ab_ Try.f10 4) 4 (Hf_ v1070 v1071 v1072 v1073 v2139 v2140 v2141 v2142 v2144 v2145 s) = (I7_ v1071 v1072 v2139 v2140 v2141 v2142 v2144 v2145 s).bind fun y => .leaf (outS (Hf_ v1070 v1071 v1072 v1073 v2139 v2140 v2141 v2142 v2144 v2145) (Op_ v1070 v1071 v1072 v1073 v2139 v2140 v2141 v2142 v2144 v2145) y) := by kernel_rfl
theorem Xl_ (v1070 v1071 : Int) (v1072 : List Int) (v1073 : Int) : At_ Try.prog 0 (B0_ v1070 v1071 v1072 v1073) 4 (Ab_ Try.f10 4) := by
  intro e L out h
  change (match (match (vAt e 7) with | .nilslc => true | _ => false) with | true => _ | false => _ : Tree Out).run = some out at h
  split at h
  · exact lo_ok (E := F2_ v1070 v1071 v1072 v1073 (gI (vAt e 8)) (gI (vAt e 11)) (gI (vAt e 12)) (gI (vAt e 44)) (gRI L (vAt e 9))) (gT := G7_ v1071 v1072 (gI (vAt e 8)) (gI (vAt e 11)) (gI (vAt e 12)) (gI (vAt e 44)) (gRI L (vAt e 9))) (X := Qv_ v1070 v1071 v1072 v1073 (gI (vAt e 8)) (gI (vAt e 11)) (gI (vAt e 12)) (gI (vAt e 44)) (gRI L (vAt e 9))) (s0 := ((gI (vAt e 45)), (gRI L (vAt e 10)))) tok Dg_ mixed (Ad_ (l := []) (by kernel_rfl) trivial) (Adv_ v1070 v1071 v1072 v1073 (gI (vAt e 8)) (gI (vAt e 11)) (gI (vAt e 12)) (gI (vAt e 44)) (gRI L (vAt e 9))) rfl (by intro x; rfl) h
  ·
    exact lo_ok (E := Hf_ v1070 v1071 v1072 v1073 (gI (vAt e 8)) (gI (vAt e 11)) (gI (vAt e 12)) (gI (vAt e 44)) (gRI L (vAt e 7)) (gRI L (vAt e 9))) (gT := I7_ v1071 v1072 (gI (vAt e 8)) (gI (vAt e 11)) (gI (vAt e 12)) (gI (vAt e 44)) (gRI L (vAt e 7)) (gRI L (vAt e 9))) (X := Op_ v1070 v1071 v1072 v1073 (gI (vAt e 8)) (gI (vAt e 11)) (gI (vAt e 12)) (gI (vAt e 44)) (gRI L (vAt e 7)) (gRI L (vAt e 9))) (s0 := ((gI (vAt e 45)), (gRI L (vAt e 10)))) tok Dg_ mixed (Ad_ (l := []) (by kernel_rfl) trivial) (Ap4_ v1070 v1071 v1072 v1073 (gI (vAt e 8)) (gI (vAt e 11)) (gI (vAt e 12)) (gI (vAt e 44)) (gRI L (vAt e 7)) (gRI L (vAt e 9))) rfl (by intro x; rfl) h
theorem Acf_ (v1070 v1071 : Int) (v1072 : List Int) (v1073 v1995 : Int) (v1998 : List Int) (s : Int × Int × (List Int)) : bodyT TT (tabD A1_) (tabM A1_) (B0_ v1070 v1071 v1072 v1073) 0 Us_ Ai6_ (Ab_ Try.f10 2) 2 (Fj_ v1070 v1071 v1072 v1073 v1995 v1998 s) = (Hm_ v1070 v1071 v1072 v1073 v1995 v1998 s).bind fun y => .leaf (outS (Fj_ v1070 v1071 v1072 v1073 v1995 v1998) (Pt_ v1070 v1071 v1072 v1073 v1995 v1998) y) := by kernel_rfl
theorem Aqn_ (v1070 v1071 : Int) (v1072 : List Int) (v1073 v2115 : Int) (v2118 v2119 : List Int) (s : Int × Int × (List Int)) : bodyT TT (tabD A1_) (tabM A1_) (B0_ v1070 v1071 v1072 v1073) 0 Vl_ Af1_ (Ab_ Try.f10 2) 2 (Fc_ v1070 v1071 v1072 v1073 v2115 v2118 v2119 s) = (I6_ v1070 v1071 v1072 v1073 v2115 v2118 v2119 s).bind fun y => .leaf (outS (Fc_ v1070 v1071 v1072 v1073 v2115 v2118 v2119) (P3_ v1070 v1071 v1072 v1073 v2115 v2118 v2119) y) := by kernel_rfl
theorem Aqm_ (v1070 v1071 : Int) (v1072 : List Int) (v1073 : Int) : At_ Try.prog 0 (B0_ v1070 v1071 v1072 v1073) 2 (Ab_ Try.f10 2) := by
  intro e L out h
  change (match (match (vAt e 7) with | .nilslc => true | _ => false) with | true => _ | false => _ : Tree Out).run = some out at h
  split at h
  · exact lo_ok (E := Fj_ v1070 v1071 v1072 v1073 (gI (vAt e 8)) (gRI L (vAt e 9))) (gT := Hm_ v1070 v1071 v1072 v1073 (gI (vAt e 8)) (gRI L (vAt e 9))) (X := Pt_ v1070 v1071 v1072 v1073 (gI (vAt e 8)) (gRI L (vAt e 9))) (s0 := ((gI (vAt e 11)), (gI (vAt e 40)), (gRI L (vAt e 10)))) tok Dg_ mixed (Ad_ (l := [(4, Ab_ Try.f10 4)]) (by kernel_rfl) ⟨Xl_ v1070 v1071 v1072 v1073, trivial⟩) (Acf_ v1070 v1071 v1072 v1073 (gI (vAt e 8)) (gRI L (vAt e 9))) rfl (by intro x; rfl) h
  ·
    exact lo_ok (E := Fc_ v1070 v1071 v1072 v1073 (gI (vAt e 8)) (gRI L (vAt e 7)) (gRI L (vAt e 9))) (gT := I6_ v1070 v1071 v1072 v1073 (gI (vAt e 8)) (gRI L (vAt e 7)) (gRI L (vAt e 9))) (X := P3_ v1070 v1071 v1072 v1073 (gI (vAt e 8)) (gRI L (vAt e 7)) (gRI L (vAt e 9))) (s0 := ((gI (vAt e 11)), (gI (vAt e 40)), (gRI L (vAt e 10)))) tok Dg_ mixed (Ad_ (l := [(4, Ab_ Try.f10 4)]) (by kernel_rfl) ⟨Xl_ v1070 v1071 v1072 v1073, trivial⟩) (Aqn_ v1070 v1071 v1072 v1073 (gI (vAt e 8)) (gRI L (vAt e 7)) (gRI L (vAt e 9))) rfl (by intro x; rfl) h
theorem Abb_ (v1070 v1071 : Int) (v1072 : List Int) (v1073 v2034 : Int) (v2036 : List Int) (s : Int × (List Int)) : bodyT TT (tabD A1_) (tabM A1_) (B0_ v1070 v1071 v1072 v1073) 0 Yw_ Amh_ (Ab_ Try.f10 6) 6 (Cd_ v1070 v1071 v1072 v1073 v2034 v2036 s) = (C7_ v1073 v2034 v2036 s).bind fun y => .leaf (outS (Cd_ v1070 v1071 v1072 v1073 v2034 v2036) (On_ v1070 v1071 v1072 v1073 v2034 v2036) y) := by kernel_rfl
theorem Aja_ (v1070 v1071 : Int) (v1072 : List Int) (v1073 v2045 : Int) (s : Int × (List Int)) : bodyT TT (tabD A1_) (tabM A1_) (B0_ v1070 v1071 v1072 v1073) 0 W8_ Ahd_ (Ab_ Try.f10 6) 6 (Hv_ v1070 v1071 v1072 v1073 v2045 s) = (Se_ v1073 v2045 s).bind fun y => .leaf (outS (Hv_ v1070 v1071 v1072 v1073 v2045) (P9_ v1070 v1071 v1072 v1073 v2045) y) := by kernel_rfl
theorem Aob_ (v1070 v1071 : Int) (v1072 : List Int) (v1073 : Int) : At_ Try.prog 0 (B0_ v1070 v1071 v1072 v1073) 6 (Ab_ Try.f10 6) := by
  intro e L out h
  change (match (match (vAt e 7) with | .own .. => true | _ => false) with | true => _ | false => _ : Tree Out).run = some out at h
  split at h
  · exact lo_ok (E := Cd_ v1070 v1071 v1072 v1073 (gI (vAt e 8)) (gRI L (vAt e 7))) (gT := C7_ v1073 (gI (vAt e 8)) (gRI L (vAt e 7))) (X := On_ v1070 v1071 v1072 v1073 (gI (vAt e 8)) (gRI L (vAt e 7))) (s0 := ((gI (vAt e 15)), (gRI L (vAt e 9)))) tok Dg_ mixed (Ad_ (l := []) (by kernel_rfl) trivial) (Abb_ v1070 v1071 v1072 v1073 (gI (vAt e 8)) (gRI L (vAt e 7))) rfl (by intro x; rfl) h
  ·
    exact lo_ok (E := Hv_ v1070 v1071 v1072 v1073 (gI (vAt e 8))) (gT := Se_ v1073 (gI (vAt e 8))) (X := P9_ v1070 v1071 v1072 v1073 (gI (vAt e 8))) (s0 := ((gI (vAt e 15)), (gRI L (vAt e 9)))) tok Dg_ mixed (Ad_ (l := []) (by kernel_rfl) trivial) (Aja_ v1070 v1071 v1072 v1073 (gI (vAt e 8))) rfl (by intro x; rfl) h
theorem Afx_ (v1070 v1071 : Int) (v1072 : List Int) (v1073 : Int) (s : Int × (List Int)) : bodyT TT (tabD A1_) (tabM A1_) (B0_ v1070 v1071 v1072 v1073) 0 Mp_ Ry_ (Ab_ Try.f10 0) 0 (Cv_ v1070 v1071 v1072 v1073 (.inl s)) = (Ax_ v1070 v1071 v1072 v1073 (.inl s)).bind fun y => .leaf (outS (Cv_ v1070 v1071 v1072 v1073) (Go_ v1070 v1071 v1072 v1073) y) := by kernel_rfl
theorem Afj_ (v1070 v1071 : Int) (v1072 : List Int) (v1073 : Int) (s : Int × (List Int) × (List Int)) : bodyT TT (tabD A1_) (tabM A1_) (B0_ v1070 v1071 v1072 v1073) 0 Mp_ Ry_ (Ab_ Try.f10 0) 0 (Cv_ v1070 v1071 v1072 v1073 (.inr s)) = (Ax_ v1070 v1071 v1072 v1073 (.inr s)).bind fun y => .leaf (outS (Cv_ v1070 v1071 v1072 v1073) (Go_ v1070 v1071 v1072 v1073) y) := by kernel_rfl
theorem Aph_ (v1070 v1071 : Int) (v1072 : List Int) (v1073 : Int) (s : (Int × (List Int)) ⊕ (Int × (List Int) × (List Int))) : bodyT TT (tabD A1_) (tabM A1_) (B0_ v1070 v1071 v1072 v1073) 0 Mp_ Ry_ (Ab_ Try.f10 0) 0 (Cv_ v1070 v1071 v1072 v1073 s) = (Ax_ v1070 v1071 v1072 v1073 s).bind fun y => .leaf (outS (Cv_ v1070 v1071 v1072 v1073) (Go_ v1070 v1071 v1072 v1073) y) := by 
  rcases s with s | s
  · exact Afx_ v1070 v1071 v1072 v1073 s
  · exact Afj_ v1070 v1071 v1072 v1073 s
theorem Aan_ (v1070 v1071 : Int) (v1072 : List Int) (v1073 : Int) : At_ Try.prog 0 (B0_ v1070 v1071 v1072 v1073) 0 (Ab_ Try.f10 0) := by
  intro e L out h
  exact lo_ok (E := Cv_ v1070 v1071 v1072 v1073) (gT := Ax_ v1070 v1071 v1072 v1073) (X := Go_ v1070 v1071 v1072 v1073) (s0 := .inl ((gI (vAt e 8)), (gRI L (vAt e 9)))) tok Dg_ mixed (Ad_ (l := [(2, Ab_ Try.f10 2), (6, Ab_ Try.f10 6)]) (by kernel_rfl) ⟨Aqm_ v1070 v1071 v1072 v1073, Aob_ v1070 v1071 v1072 v1073, trivial⟩) (Aph_ v1070 v1071 v1072 v1073) rfl (by intro x; (cases x with | inl b => rfl | inr x => exact rfl)) h
noncomputable def Pm_ (v1070 v1071 : Int) (v1072 : List Int) (v1073 : Int) : Tree ((Int) ⊕ (Int × (List Int))) :=
  (.call (Cf_ v1070 v1071 v1072) fun v1074 =>
  (.br (!v1074) (
  .leaf (.inl (0 : Int))
  ) (
  (.br (decide ((4 : Int) < v1070)) (
  .leaf (.inl (0 : Int))
  ) (
  (.br (!(Bn_ v1073 (1 : Int) (3 : Int))) (
  .leaf (.inl (0 : Int))
  ) (
  (.call (Eh_ ([IntKind.i64.wrap (0 - v1073)] : List Int) v1070) fun v1090 =>
  (.need (some (Cv_ v1070 v1071 v1072 v1073 (.inl ((0 : Int), v1090))) = some (Cv_ v1070 v1071 v1072 v1073 (.inl ((0 : Int), v1090)))) <|
  (.call (Nf_ v1070 v1071 v1072 v1073 (.inl ((0 : Int), v1090))) fun v2189 =>
  (.sum v2189 (fun v2190 =>
  .leaf (.inr (v2190.1, v2190.2))
  ) (fun v2191 =>
  .leaf (.inl v2191)
  )))))
  ))
  ))
  )))
noncomputable def Ew_ (v1070 v1071 : Int) (v1072 : List Int) (v1073 : Int) : Option ((Int) ⊕ (Int × (List Int))) := (Pm_ v1070 v1071 v1072 v1073).run
def G0_ (v1070 v1071 : Int) (v1072 : List Int) (v1073 : Int) (y : (Int) ⊕ (Int × (List Int))) : Rs := (match y with | .inl y => (.tup [.nilslc, .int .i64 y, .lit false], []) | .inr y => (.tup [.own 0 0 ((y.2).length), .int .i64 y.1, .lit true], [.row (.i64 y.2) 0]))
theorem An8_ (v1070 v1071 : Int) (v1072 : List Int) (v1073 : Int) : (den TT (tabD A1_) (tabM A1_) (B0_ v1070 v1071 v1072 v1073) (Ah_ Try.f10) ([.agg [.int .i64 v1070, .int .i64 v1071, .bslc (BR.root 0) (.i64 v1072)], .int .i64 v1073] ++ List.replicate (Try.f10.ntmps - ([.agg [.int .i64 v1070, .int .i64 v1071, .bslc (BR.root 0) (.i64 v1072)], .int .i64 v1073] : List DV).length) .undef) []).bind (retD TT Try.f10.results.toList 0) = (Pm_ v1070 v1071 v1072 v1073).bind fun y => .leaf (G0_ v1070 v1071 v1072 v1073 y) := by kernel_rfl
theorem Yi_ (v1070 v1071 : Int) (v1072 : List Int) (v1073 : Int) (F : Fr) (h0 : St F [] F.H0) (hA : DVs.Ok F [] [.agg [.int .i64 v1070, .int .i64 v1071, .bslc (BR.root 0) (.i64 v1072)], .int .i64 v1073]) {y : (Int) ⊕ (Int × (List Int))} (hy : Ew_ v1070 v1071 v1072 v1073 = some y) : ∃ F' H', Fwd 0 F F' [] (G0_ v1070 v1071 v1072 v1073 y).2 ∧ FnOk Try.prog 10 (DVs.av F [.agg [.int .i64 v1070, .int .i64 v1071, .bslc (BR.root 0) (.i64 v1072)], .int .i64 v1073]) F.H0 ((G0_ v1070 v1071 v1072 v1073 y).1.av F') H' ∧ St F' (G0_ v1070 v1071 v1072 v1073 y).2 H' ∧ (G0_ v1070 v1071 v1072 v1073 y).1.Ok F' (G0_ v1070 v1071 v1072 v1073 y).2 :=
  Aj_ tok Dg_ mixed Try.func10 Try.call10 (by kernel_rfl) (Ad_ (l := [(0, Ab_ Try.f10 0)]) (by kernel_rfl) ⟨Aan_ v1070 v1071 v1072 v1073, trivial⟩) (An8_ v1070 v1071 v1072 v1073) hy h0 hA
noncomputable def O2_ : DFn := fun args L =>
  match args with
  | [.agg [.int .i64 v1070, .int .i64 v1071, a1], .int .i64 v1073] =>
    optT (As_ L a1) fun v1072 =>
    .call (Ew_ v1070 v1071 v1072 v1073) fun y => .sum y (fun y0 => .leaf (.tup [.nilslc, .int .i64 y0, .lit false], L)) (fun z0 => .leaf (.tup [.own (L.length + 0) 0 ((z0.2).length), .int .i64 z0.1, .lit true], L ++ [.row (.i64 z0.2) 0]))
  | _ => .fail
theorem Abf_ : COk Try.prog 10 O2_ true := by
  intro F L H args r L' hs ha hr
  unfold O2_ at hr
  split at hr
  · rename_i v1070 v1071 a1 v1073
    obtain ⟨v1072, hv1072, hr⟩ := Aa_ hr
    simp only [Tree.run] at hr
    obtain ⟨y, hy, hr⟩ := Option.bind_eq_some_iff.1 hr
    cases y with
    | inl y =>
      simp only [Tree.run, Option.some.injEq, Prod.mk.injEq] at hr
      obtain ⟨rfl, rfl⟩ := hr
      exact Aw_ hs (fun k => (([a1.av F] : List AV)[k]?).getD .top) [.agg [.int .i64 v1070, .int .i64 v1071, a1], .int .i64 v1073] [.agg [.int .i64 v1070, .int .i64 v1071, .bslc (BR.root 0) (.i64 v1072)], .int .i64 v1073] (fun F' h0 hi hρ => ⟨by simp [DVs.av, DV.av, BR.av, hρ], Yi_ v1070 v1071 v1072 v1073 F' (Ak_ hi) ⟨⟨trivial, trivial, Ag_ hi (by rw [h0, hρ]; exact An_ hs (DVs.okAt (DVs.okAt ha 0 rfl) 2 rfl) hv1072), trivial⟩, trivial, trivial⟩ hy⟩) rfl
    | inr y =>
      simp only [Tree.run, Option.some.injEq, Prod.mk.injEq] at hr
      obtain ⟨rfl, rfl⟩ := hr
      exact Dc_ hs (fun k => (([a1.av F] : List AV)[k]?).getD .top) [.agg [.int .i64 v1070, .int .i64 v1071, a1], .int .i64 v1073] [.agg [.int .i64 v1070, .int .i64 v1071, .bslc (BR.root 0) (.i64 v1072)], .int .i64 v1073] (fun F' h0 hi hρ => ⟨by simp [DVs.av, DV.av, BR.av, hρ], Yi_ v1070 v1071 v1072 v1073 F' (Ak_ hi) ⟨⟨trivial, trivial, Ag_ hi (by rw [h0, hρ]; exact An_ hs (DVs.okAt (DVs.okAt ha 0 rfl) 2 rfl) hv1072), trivial⟩, trivial, trivial⟩ hy⟩) rfl rfl
  · cases hr
noncomputable def He_ (v2216 v2217 : List Int) (s : Int) : Tree ((Int) ⊕ ((Unit) ⊕ (Unit))) :=
  (.br (decide (s < ((v2216.length : Nat) : Int))) (
  (.grd (inb s v2216.length) <|
  (.grd (inb s v2217.length) <|
  (.br (!decide (nth v2216 (Int.toNat s) = nth v2217 (Int.toNat s))) (
  .leaf (.inr (.inl ()))
  ) (
  .leaf (.inl (IntKind.i64.wrap (s + (1 : Int))))
  ))))
  ) (
  .leaf (.inr (.inr ()))
  ))
noncomputable def O3_ (v2216 v2217 : List Int) (s0 : Int) : Option ((Unit) ⊕ (Unit)) := Af_ (fun s => (He_ v2216 v2217 s).run) s0
def Hg_ (v2216 v2217 : List Int) (s : Int) : Sd := ([.bslc (BR.root 0) (.i64 v2216),.bslc (BR.root 1) (.i64 v2217),Z,Z,Z,Z,Z,Z,Z,Z,Z,Z,.int .i64 ((v2216.length : Nat) : Int),.int .i64 s,Z,Z,Z,Z,Z,Z,Z,Z,Z,Z,Z,Z], [])
def Ls_ (v2216 v2217 : List Int) (x : (Unit) ⊕ (Unit)) : Out := (match x with | .inl x => (.ret, [Z,Z,Z,Z,.lit false,Z,Z,Z,Z,Z,Z,Z,Z,Z,Z,Z,Z,Z,Z,Z,Z,Z,Z,Z,Z,Z], []) | .inr x => (.normal, [Z,Z,Z,Z,Z,Z,Z,Z,Z,Z,Z,Z,Z,Z,Z,Z,Z,Z,Z,Z,Z,Z,Z,Z,Z,Z], []))
def Y8_ : List Nat := KL true [0,2,10,2,12]
def Ap3_ : Exit → List Nat
  | .exit 0 => KL true [26]
  | .ret => KL true [4,1,21]
  | _ => []
noncomputable def Rf_ (v2216 v2217 : List Int) : LOr := fun id e L =>
  match id with
  | 0 => .need (normA 0 Y8_ e L = some (Hg_ v2216 v2217 (gI (vAt e 13)))) (.call (O3_ v2216 v2217 (gI (vAt e 13))) fun x => .sum x (fun b0 => .leaf (Ls_ v2216 v2217 (.inl b0))) (fun c0 => .leaf (Ls_ v2216 v2217 (.inr c0))))
  | _ => .fail
noncomputable def Fo_ : List (FuncId × DFn × Bool) := []
theorem W6_ : OrcOk Try.prog (tabD Fo_) (tabM Fo_) := Ai_ _
theorem Al3_ (v2216 v2217 : List Int) (s : Int) : bodyT TT (tabD Fo_) (tabM Fo_) (Rf_ v2216 v2217) 0 Y8_ Ap3_ (Ab_ Try.f34 0) 0 (Hg_ v2216 v2217 s) = (He_ v2216 v2217 s).bind fun y => .leaf (outS (Hg_ v2216 v2217) (Ls_ v2216 v2217) y) := by kernel_rfl
theorem Aby_ (v2216 v2217 : List Int) : At_ Try.prog 0 (Rf_ v2216 v2217) 0 (Ab_ Try.f34 0) := by
  intro e L out h
  exact lo_ok (E := Hg_ v2216 v2217) (gT := He_ v2216 v2217) (X := Ls_ v2216 v2217) (s0 := (gI (vAt e 13))) tok W6_ mixed (Ad_ (l := []) (by kernel_rfl) trivial) (Al3_ v2216 v2217) rfl (by intro x; (cases x with | inl b => rfl | inr x => exact rfl)) h
noncomputable def O1_ (v2216 v2217 : List Int) : Tree (Bool) :=
  (.br (!decide (((v2216.length : Nat) : Int) = ((v2217.length : Nat) : Int))) (
  .leaf false
  ) (
  (.need (some (Hg_ v2216 v2217 (0 : Int)) = some (Hg_ v2216 v2217 (0 : Int))) <|
  (.call (O3_ v2216 v2217 (0 : Int)) fun v2221 =>
  (.sum v2221 (fun v2222 =>
  .leaf false
  ) (fun v2223 =>
  .leaf true
  ))))
  ))
noncomputable def Lq_ (v2216 v2217 : List Int) : Option (Bool) := (O1_ v2216 v2217).run
def Ga_ (v2216 v2217 : List Int) (y : Bool) : Rs := (.bool y, [])
theorem Ale_ (v2216 v2217 : List Int) : (den TT (tabD Fo_) (tabM Fo_) (Rf_ v2216 v2217) (Ah_ Try.f34) ([.bslc (BR.root 0) (.i64 v2216), .bslc (BR.root 1) (.i64 v2217)] ++ List.replicate (Try.f34.ntmps - ([.bslc (BR.root 0) (.i64 v2216), .bslc (BR.root 1) (.i64 v2217)] : List DV).length) .undef) []).bind (retD TT Try.f34.results.toList 0) = (O1_ v2216 v2217).bind fun y => .leaf (Ga_ v2216 v2217 y) := by kernel_rfl
theorem Ara_ (v2216 v2217 : List Int) (F : Fr) (h0 : St F [] F.H0) (hA : DVs.Ok F [] [.bslc (BR.root 0) (.i64 v2216), .bslc (BR.root 1) (.i64 v2217)]) {y : Bool} (hy : Lq_ v2216 v2217 = some y) : ∃ F' H', Fwd 0 F F' [] (Ga_ v2216 v2217 y).2 ∧ FnOk Try.prog 34 (DVs.av F [.bslc (BR.root 0) (.i64 v2216), .bslc (BR.root 1) (.i64 v2217)]) F.H0 ((Ga_ v2216 v2217 y).1.av F') H' ∧ St F' (Ga_ v2216 v2217 y).2 H' ∧ (Ga_ v2216 v2217 y).1.Ok F' (Ga_ v2216 v2217 y).2 :=
  Aj_ tok W6_ mixed Try.func34 Try.call34 (by kernel_rfl) (Ad_ (l := [(0, Ab_ Try.f34 0)]) (by kernel_rfl) ⟨Aby_ v2216 v2217, trivial⟩) (Ale_ v2216 v2217) hy h0 hA
noncomputable def Ps_ : DFn := fun args L =>
  match args with
  | [a1, a2] =>
    optT (As_ L a1) fun v2216 =>
    optT (As_ L a2) fun v2217 =>
    .call (Lq_ v2216 v2217) fun y => .leaf (.bool y, L)
  | _ => .fail
theorem Ab4_ : COk Try.prog 34 Ps_ true := by
  intro F L H args r L' hs ha hr
  unfold Ps_ at hr
  split at hr
  · rename_i a1 a2
    obtain ⟨v2216, hv2216, hr⟩ := Aa_ hr
    obtain ⟨v2217, hv2217, hr⟩ := Aa_ hr
    simp only [Tree.run] at hr
    obtain ⟨y, hy, hr⟩ := Option.bind_eq_some_iff.1 hr
    simp only [Tree.run, Option.some.injEq, Prod.mk.injEq] at hr
    obtain ⟨rfl, rfl⟩ := hr
    exact Aw_ hs (fun k => (([a1.av F, a2.av F] : List AV)[k]?).getD .top) [a1, a2] [.bslc (BR.root 0) (.i64 v2216), .bslc (BR.root 1) (.i64 v2217)] (fun F' h0 hi hρ => ⟨by simp [DVs.av, DV.av, BR.av, hρ], Ara_ v2216 v2217 F' (Ak_ hi) ⟨Ag_ hi (by rw [h0, hρ]; exact An_ hs (DVs.okAt ha 0 rfl) hv2216), Ag_ hi (by rw [h0, hρ]; exact An_ hs (DVs.okAt ha 1 rfl) hv2217), trivial⟩ hy⟩) rfl
  · cases hr
noncomputable def Amt_ (v2210 v2211 : Int) (v2212 : List Int) (v2213 v2214 : Int) (v2215 : List Int) : LOr := fun id e L =>
  match id with
  | _ => .fail
noncomputable def Lx_ : List (FuncId × DFn × Bool) := [(34, Ps_, true)]
theorem Z2_ : OrcOk Try.prog (tabD Lx_) (tabM Lx_) := Ae_ Ab4_ (Ai_ _)
noncomputable def Q9_ (v2210 v2211 : Int) (v2212 : List Int) (v2213 v2214 : Int) (v2215 : List Int) : Tree (Bool) :=
  (.br (decide (v2210 = v2213)) (
  (.br (decide (v2211 = v2214)) (
  (.call (Lq_ v2212 v2215) fun v2224 =>
  .leaf v2224)
  ) (
  .leaf false
  ))
  ) (
  .leaf false
  ))
noncomputable def Em_ (v2210 v2211 : Int) (v2212 : List Int) (v2213 v2214 : Int) (v2215 : List Int) : Option (Bool) := (Q9_ v2210 v2211 v2212 v2213 v2214 v2215).run
def Fm_ (v2210 v2211 : Int) (v2212 : List Int) (v2213 v2214 : Int) (v2215 : List Int) (y : Bool) : Rs := (.bool y, [])
theorem Aq4_ (v2210 v2211 : Int) (v2212 : List Int) (v2213 v2214 : Int) (v2215 : List Int) : (den TT (tabD Lx_) (tabM Lx_) (Amt_ v2210 v2211 v2212 v2213 v2214 v2215) (Ah_ Try.f11) ([.agg [.int .i64 v2210, .int .i64 v2211, .bslc (BR.root 0) (.i64 v2212)], .agg [.int .i64 v2213, .int .i64 v2214, .bslc (BR.root 1) (.i64 v2215)]] ++ List.replicate (Try.f11.ntmps - ([.agg [.int .i64 v2210, .int .i64 v2211, .bslc (BR.root 0) (.i64 v2212)], .agg [.int .i64 v2213, .int .i64 v2214, .bslc (BR.root 1) (.i64 v2215)]] : List DV).length) .undef) []).bind (retD TT Try.f11.results.toList 0) = (Q9_ v2210 v2211 v2212 v2213 v2214 v2215).bind fun y => .leaf (Fm_ v2210 v2211 v2212 v2213 v2214 v2215 y) := by kernel_rfl
theorem Aqi_ (v2210 v2211 : Int) (v2212 : List Int) (v2213 v2214 : Int) (v2215 : List Int) (F : Fr) (h0 : St F [] F.H0) (hA : DVs.Ok F [] [.agg [.int .i64 v2210, .int .i64 v2211, .bslc (BR.root 0) (.i64 v2212)], .agg [.int .i64 v2213, .int .i64 v2214, .bslc (BR.root 1) (.i64 v2215)]]) {y : Bool} (hy : Em_ v2210 v2211 v2212 v2213 v2214 v2215 = some y) : ∃ F' H', Fwd 0 F F' [] (Fm_ v2210 v2211 v2212 v2213 v2214 v2215 y).2 ∧ FnOk Try.prog 11 (DVs.av F [.agg [.int .i64 v2210, .int .i64 v2211, .bslc (BR.root 0) (.i64 v2212)], .agg [.int .i64 v2213, .int .i64 v2214, .bslc (BR.root 1) (.i64 v2215)]]) F.H0 ((Fm_ v2210 v2211 v2212 v2213 v2214 v2215 y).1.av F') H' ∧ St F' (Fm_ v2210 v2211 v2212 v2213 v2214 v2215 y).2 H' ∧ (Fm_ v2210 v2211 v2212 v2213 v2214 v2215 y).1.Ok F' (Fm_ v2210 v2211 v2212 v2213 v2214 v2215 y).2 :=
  Aj_ tok Z2_ mixed Try.func11 Try.call11 (by kernel_rfl) (Ad_ (l := []) (by kernel_rfl) trivial) (Aq4_ v2210 v2211 v2212 v2213 v2214 v2215) hy h0 hA
noncomputable def Ow_ : DFn := fun args L =>
  match args with
  | [.agg [.int .i64 v2210, .int .i64 v2211, a1], .agg [.int .i64 v2213, .int .i64 v2214, a2]] =>
    optT (As_ L a1) fun v2212 =>
    optT (As_ L a2) fun v2215 =>
    .call (Em_ v2210 v2211 v2212 v2213 v2214 v2215) fun y => .leaf (.bool y, L)
  | _ => .fail
theorem Ah0_ : COk Try.prog 11 Ow_ true := by
  intro F L H args r L' hs ha hr
  unfold Ow_ at hr
  split at hr
  · rename_i v2210 v2211 a1 v2213 v2214 a2
    obtain ⟨v2212, hv2212, hr⟩ := Aa_ hr
    obtain ⟨v2215, hv2215, hr⟩ := Aa_ hr
    simp only [Tree.run] at hr
    obtain ⟨y, hy, hr⟩ := Option.bind_eq_some_iff.1 hr
    simp only [Tree.run, Option.some.injEq, Prod.mk.injEq] at hr
    obtain ⟨rfl, rfl⟩ := hr
    exact Aw_ hs (fun k => (([a1.av F, a2.av F] : List AV)[k]?).getD .top) [.agg [.int .i64 v2210, .int .i64 v2211, a1], .agg [.int .i64 v2213, .int .i64 v2214, a2]] [.agg [.int .i64 v2210, .int .i64 v2211, .bslc (BR.root 0) (.i64 v2212)], .agg [.int .i64 v2213, .int .i64 v2214, .bslc (BR.root 1) (.i64 v2215)]] (fun F' h0 hi hρ => ⟨by simp [DVs.av, DV.av, BR.av, hρ], Aqi_ v2210 v2211 v2212 v2213 v2214 v2215 F' (Ak_ hi) ⟨⟨trivial, trivial, Ag_ hi (by rw [h0, hρ]; exact An_ hs (DVs.okAt (DVs.okAt ha 0 rfl) 2 rfl) hv2212), trivial⟩, ⟨trivial, trivial, Ag_ hi (by rw [h0, hρ]; exact An_ hs (DVs.okAt (DVs.okAt ha 1 rfl) 2 rfl) hv2215), trivial⟩, trivial⟩ hy⟩) rfl
  · cases hr
noncomputable def Hj_ (v65 v67 v68 : Int) (s : Int × (List Int)) : Tree ((Int × (List Int)) ⊕ ((List Int))) :=
  (.br (decide (s.1 < v65)) (
  (.grd (inb (IntKind.i64.wrap ((IntKind.i64.wrap (s.1 * v65)) + s.1)) ((s.2).length)) <|
  (.grd (inb (IntKind.i64.wrap ((IntKind.i64.wrap (s.1 * v65)) + s.1)) ((s.2).length)) <|
  .leaf (.inl (IntKind.i64.wrap (s.1 + (1 : Int)), List.set s.2 (Int.toNat (IntKind.i64.wrap ((IntKind.i64.wrap (s.1 * v65)) + s.1))) (IntKind.i64.wrap ((nth s.2 (Int.toNat (IntKind.i64.wrap ((IntKind.i64.wrap (s.1 * v65)) + s.1)))) + (20 : Int)))))))
  ) (
  .leaf (.inr s.2)
  ))
noncomputable def Lj_ (v65 v67 v68 : Int) (s0 : Int × (List Int)) : Option ((List Int)) := Af_ (fun s => (Hj_ v65 v67 v68 s).run) s0
def Fl_ (v1 v2 : List Int) (v65 v67 v68 : Int) (s : Int × (List Int)) : Sd := ([Z,Z,Z,Z,Z,.int .i64 v65,.ptr 0 (0 : Nat) 0 (3 : Nat),.int .i64 s.1,Z,Z,Z,Z,Z,Z,Z,Z,Z,Z,Z,Z,Z,Z,Z,Z,Z,Z,Z,Z,Z,Z,Z,Z,Z,Z,Z,Z,Z,Z,Z,Z,Z,Z,Z,Z,Z,Z,Z,Z,Z,Z,Z,Z,Z,Z,Z,Z,Z,Z,Z,Z,Z,Z,Z,Z,Z,Z,Z,Z,Z,Z,Z,Z,Z,Z,Z,Z,Z,Z,Z,Z,Z,Z,Z,Z,Z,Z,Z,Z,Z,Z,Z,Z,Z,Z,Z,Z,Z,Z,Z,Z,Z,Z,Z,Z,Z,Z,Z,Z,Z,Z,Z,Z,Z,Z,Z,Z,Z,Z,Z,Z,Z,Z,Z,Z,Z,Z,Z,Z,Z,Z,Z,Z,Z,Z,Z,Z,Z,Z,Z,Z,Z,Z,Z,Z,Z,Z,Z,Z,Z,Z,Z,Z,Z,Z,Z,Z,Z,Z,Z,Z,Z,Z,Z,Z,Z,Z,Z,Z,Z,Z,Z,Z,Z,Z,Z,Z,Z,Z,Z,Z,Z,Z,Z,Z,Z,Z,Z,Z,Z,Z,Z,Z,Z,Z,Z,Z,Z,Z,Z,Z,Z,Z,Z,Z,Z,Z,Z,Z,Z,Z,Z,Z,Z,Z,Z,Z,Z,Z,Z,Z,Z,Z,Z,Z,Z,Z,Z,Z], [.gen [.int .i64 v67, .int .i64 v68, .own 1 0 ((s.2).length)] false 0, .row (.i64 s.2) 0])
def Pq_ (v1 v2 : List Int) (v65 v67 v68 : Int) (x : (List Int)) : Out := (.normal, [Z,Z,Z,Z,Z,.int .i64 v65,.ptr 0 (0 : Nat) 0 (3 : Nat),Z,Z,Z,Z,Z,Z,Z,Z,Z,Z,Z,Z,Z,Z,Z,Z,Z,Z,Z,Z,Z,Z,Z,Z,Z,Z,Z,Z,Z,Z,Z,Z,Z,Z,Z,Z,Z,Z,Z,Z,Z,Z,Z,Z,Z,Z,Z,Z,Z,Z,Z,Z,Z,Z,Z,Z,Z,Z,Z,Z,Z,Z,Z,Z,Z,Z,Z,Z,Z,Z,Z,Z,Z,Z,Z,Z,Z,Z,Z,Z,Z,Z,Z,Z,Z,Z,Z,Z,Z,Z,Z,Z,Z,Z,Z,Z,Z,Z,Z,Z,Z,Z,Z,Z,Z,Z,Z,Z,Z,Z,Z,Z,Z,Z,Z,Z,Z,Z,Z,Z,Z,Z,Z,Z,Z,Z,Z,Z,Z,Z,Z,Z,Z,Z,Z,Z,Z,Z,Z,Z,Z,Z,Z,Z,Z,Z,Z,Z,Z,Z,Z,Z,Z,Z,Z,Z,Z,Z,Z,Z,Z,Z,Z,Z,Z,Z,Z,Z,Z,Z,Z,Z,Z,Z,Z,Z,Z,Z,Z,Z,Z,Z,Z,Z,Z,Z,Z,Z,Z,Z,Z,Z,Z,Z,Z,Z,Z,Z,Z,Z,Z,Z,Z,Z,Z,Z,Z,Z,Z,Z,Z,Z,Z,Z,Z,Z,Z,Z,Z,Z,Z], [.gen [.int .i64 v67, .int .i64 v68, .own 1 0 ((x).length)] false 0, .row (.i64 x) 0])
def Y4_ : List Nat := KL true [5,3,220]
def Ag9_ : Exit → List Nat
  | .exit 0 => KL true [5,2,221]
  | .ret => KL true [4,1,223]
  | _ => []
noncomputable def Jf_ (v1056 v1057 v1060 v1061 v1062 v1063 : Int) (v1064 v1065 : List Int) (s : Bool × Int) : Tree ((Bool × Int) ⊕ (Bool)) :=
  (.br (decide (s.2 < (((v1065).length : Nat) : Int))) (
  (.br s.1 (
  (.grd (inb s.2 ((v1065).length)) <|
  (.br (decide ((-100 : Int) ≤ nth v1065 (Int.toNat s.2))) (
  (.grd (inb s.2 ((v1065).length)) <|
  .leaf (.inl (decide (nth v1065 (Int.toNat s.2) ≤ (100 : Int)), IntKind.i64.wrap (s.2 + (1 : Int)))))
  ) (
  .leaf (.inl (false, IntKind.i64.wrap (s.2 + (1 : Int))))
  )))
  ) (
  .leaf (.inl (false, IntKind.i64.wrap (s.2 + (1 : Int))))
  ))
  ) (
  .leaf (.inr s.1)
  ))
noncomputable def Nq_ (v1056 v1057 v1060 v1061 v1062 v1063 : Int) (v1064 v1065 : List Int) (s0 : Bool × Int) : Option (Bool) := Af_ (fun s => (Jf_ v1056 v1057 v1060 v1061 v1062 v1063 v1064 v1065 s).run) s0
def Fy_ (v1 v2 : List Int) (v1056 v1057 v1060 v1061 v1062 v1063 : Int) (v1064 v1065 : List Int) (s : Bool × Int) : Sd := ([Z,Z,Z,Z,Z,.int .i64 v1056,.ptr 0 (0 : Nat) 0 (3 : Nat),Z,.ptr 1 (0 : Nat) 0 (3 : Nat),Z,Z,.int .i64 v1057,Z,.bool s.1,.int .i64 s.2,Z,Z,Z,Z,Z,Z,Z,Z,Z,Z,Z,Z,Z,Z,Z,Z,Z,Z,Z,Z,Z,Z,Z,Z,Z,Z,Z,Z,Z,Z,Z,Z,Z,Z,Z,Z,Z,Z,Z,Z,Z,Z,Z,Z,Z,Z,Z,Z,Z,Z,Z,Z,Z,Z,Z,Z,Z,Z,Z,Z,Z,Z,Z,Z,Z,Z,Z,Z,Z,Z,Z,Z,Z,Z,Z,Z,Z,Z,Z,Z,Z,Z,Z,Z,Z,Z,Z,Z,Z,Z,Z,Z,Z,Z,Z,Z,Z,Z,Z,Z,Z,Z,Z,Z,Z,Z,Z,Z,Z,Z,Z,Z,Z,Z,Z,Z,Z,Z,Z,Z,Z,Z,Z,Z,Z,Z,Z,Z,Z,Z,Z,Z,Z,Z,Z,Z,Z,Z,Z,Z,Z,Z,Z,Z,Z,Z,Z,Z,Z,Z,Z,Z,Z,Z,Z,Z,Z,Z,Z,Z,Z,Z,Z,Z,Z,Z,Z,Z,Z,Z,Z,Z,Z,Z,Z,Z,Z,Z,Z,Z,Z,Z,Z,Z,Z,Z,Z,Z,Z,Z,Z,Z,Z,Z,Z,Z,Z,Z,Z,Z,Z,Z,Z,Z,Z,Z,Z,Z,Z,Z,Z,Z,Z], [.gen [.int .i64 v1060, .int .i64 v1061, .own 2 0 ((v1064).length)] false 0, .gen [.int .i64 v1062, .int .i64 v1063, .own 3 0 ((v1065).length)] false 0, .row (.i64 v1064) 0, .row (.i64 v1065) 0])
def Rw_ (v1 v2 : List Int) (v1056 v1057 v1060 v1061 v1062 v1063 : Int) (v1064 v1065 : List Int) (x : Bool) : Out := (.normal, [Z,Z,Z,Z,Z,.int .i64 v1056,.ptr 0 (0 : Nat) 0 (3 : Nat),Z,.ptr 1 (0 : Nat) 0 (3 : Nat),Z,Z,.int .i64 v1057,Z,.bool x,Z,Z,Z,Z,Z,Z,Z,Z,Z,Z,Z,Z,Z,Z,Z,Z,Z,Z,Z,Z,Z,Z,Z,Z,Z,Z,Z,Z,Z,Z,Z,Z,Z,Z,Z,Z,Z,Z,Z,Z,Z,Z,Z,Z,Z,Z,Z,Z,Z,Z,Z,Z,Z,Z,Z,Z,Z,Z,Z,Z,Z,Z,Z,Z,Z,Z,Z,Z,Z,Z,Z,Z,Z,Z,Z,Z,Z,Z,Z,Z,Z,Z,Z,Z,Z,Z,Z,Z,Z,Z,Z,Z,Z,Z,Z,Z,Z,Z,Z,Z,Z,Z,Z,Z,Z,Z,Z,Z,Z,Z,Z,Z,Z,Z,Z,Z,Z,Z,Z,Z,Z,Z,Z,Z,Z,Z,Z,Z,Z,Z,Z,Z,Z,Z,Z,Z,Z,Z,Z,Z,Z,Z,Z,Z,Z,Z,Z,Z,Z,Z,Z,Z,Z,Z,Z,Z,Z,Z,Z,Z,Z,Z,Z,Z,Z,Z,Z,Z,Z,Z,Z,Z,Z,Z,Z,Z,Z,Z,Z,Z,Z,Z,Z,Z,Z,Z,Z,Z,Z,Z,Z,Z,Z,Z,Z,Z,Z,Z,Z,Z,Z,Z,Z,Z,Z,Z,Z,Z,Z,Z,Z,Z,Z,Z], [.gen [.int .i64 v1060, .int .i64 v1061, .own 2 0 ((v1064).length)] false 0, .gen [.int .i64 v1062, .int .i64 v1063, .own 3 0 ((v1065).length)] false 0, .row (.i64 v1064) 0, .row (.i64 v1065) 0])
def Wu_ : List Nat := [1,1,1,1,1,0,0,1,0,1,1,0,1,2,0,1,1,1,1,1,1,1,1,1,1,1,1,1,1,1,1,1,1,1,1,1,1,1,1,1,1,1,1,1,1,1,1,1,1,1,1,1,1,1,1,1,1,1,1,1,1,1,1,1,1,1,1,1,1,1,1,1,1,1,1,1,1,1,1,1,1,1,1,1,1,1,1,1,1,1,1,1,1,1,1,1,1,1,1,1,1,1,1,1,1,1,1,1,1,1,1,1,1,1,1,1,1,1,1,1,1,1,1,1,1,1,1,1,1,1,1,1,1,1,1,1,1,1,1,1,1,1,1,1,1,1,1,1,1,1,1,1,1,1,1,1,1,1,1,1,1,1,1,1,1,1,1,1,1,1,1,1,1,1,1,1,1,1,1,1,1,1,1,1,1,1,1,1,1,1,1,1,1,1,1,1,1,1,1,1,1,1,1,1,1,1,1,1,1,1,1,1,1,1,1,1,1,1,1,1,1,1,1,1,1,1,1,1]
def Ao4_ : Exit → List Nat
  | .exit 2 => KL true [5,2,1,1,2,1,1,1,214]
  | .ret => KL true [4,1,223]
  | _ => []
noncomputable def Fg_ (v2242 v2243 v2246 v2247 : Int) (v2248 v2249 : List Int) (s : Int × Int) : Tree ((Int × Int) ⊕ (Int)) :=
  (.br (decide (s.2 < v2242)) (
  (.grd (inb s.2 ((v2248).length)) <|
  (.grd (inb s.2 ((v2248).length)) <|
  .leaf (.inl (IntKind.i64.wrap (s.1 + (IntKind.i64.wrap ((nth v2248 (Int.toNat s.2)) * (nth v2248 (Int.toNat s.2))))), IntKind.i64.wrap (s.2 + (1 : Int))))))
  ) (
  .leaf (.inr s.1)
  ))
noncomputable def J5_ (v2242 v2243 v2246 v2247 : Int) (v2248 v2249 : List Int) (s0 : Int × Int) : Option (Int) := Af_ (fun s => (Fg_ v2242 v2243 v2246 v2247 v2248 v2249 s).run) s0
def Dx_ (v1 v2 : List Int) (v2242 v2243 v2246 v2247 : Int) (v2248 v2249 : List Int) (s : Int × Int) : Sd := ([Z,Z,Z,Z,Z,.int .i64 v2242,Z,Z,.ptr 0 (0 : Nat) 0 (3 : Nat),Z,Z,Z,Z,Z,Z,Z,Z,.own 1 0 ((v2248).length),.int .i64 v2243,Z,Z,Z,Z,.int .i64 s.1,.int .i64 s.2,Z,Z,Z,Z,Z,Z,Z,Z,Z,Z,Z,Z,Z,Z,Z,Z,Z,Z,Z,Z,Z,Z,Z,Z,Z,Z,Z,Z,Z,Z,Z,Z,Z,Z,Z,Z,Z,Z,Z,Z,Z,Z,Z,Z,Z,Z,Z,Z,Z,Z,Z,Z,Z,Z,Z,Z,Z,Z,Z,Z,Z,Z,Z,Z,Z,Z,Z,Z,Z,Z,Z,Z,Z,Z,Z,Z,Z,Z,Z,Z,Z,Z,Z,Z,Z,Z,Z,Z,Z,Z,Z,Z,Z,Z,Z,Z,Z,Z,Z,Z,Z,Z,Z,Z,Z,Z,Z,Z,Z,Z,Z,Z,Z,Z,Z,Z,Z,Z,Z,Z,Z,Z,Z,Z,Z,Z,Z,Z,Z,Z,Z,Z,Z,Z,Z,Z,Z,Z,Z,Z,Z,Z,Z,Z,Z,Z,Z,Z,Z,Z,Z,Z,Z,Z,Z,Z,Z,Z,Z,Z,Z,Z,Z,Z,Z,Z,Z,Z,Z,Z,Z,Z,Z,Z,Z,Z,Z,Z,Z,Z,Z,Z,Z,Z,Z,Z,Z,Z,Z,Z,Z,Z,Z,Z,Z,Z,Z,Z,Z,Z,Z,Z,Z], [.gen [.int .i64 v2246, .int .i64 v2247, .own 2 0 ((v2249).length)] false 0, .row (.i64 v2248) 0, .row (.i64 v2249) 0])
def Qx_ (v1 v2 : List Int) (v2242 v2243 v2246 v2247 : Int) (v2248 v2249 : List Int) (x : Int) : Out := (.normal, [Z,Z,Z,Z,Z,.int .i64 v2242,Z,Z,.ptr 0 (0 : Nat) 0 (3 : Nat),Z,Z,Z,Z,Z,Z,Z,Z,Z,.int .i64 v2243,Z,Z,Z,Z,.int .i64 x,Z,Z,Z,Z,Z,Z,Z,Z,Z,Z,Z,Z,Z,Z,Z,Z,Z,Z,Z,Z,Z,Z,Z,Z,Z,Z,Z,Z,Z,Z,Z,Z,Z,Z,Z,Z,Z,Z,Z,Z,Z,Z,Z,Z,Z,Z,Z,Z,Z,Z,Z,Z,Z,Z,Z,Z,Z,Z,Z,Z,Z,Z,Z,Z,Z,Z,Z,Z,Z,Z,Z,Z,Z,Z,Z,Z,Z,Z,Z,Z,Z,Z,Z,Z,Z,Z,Z,Z,Z,Z,Z,Z,Z,Z,Z,Z,Z,Z,Z,Z,Z,Z,Z,Z,Z,Z,Z,Z,Z,Z,Z,Z,Z,Z,Z,Z,Z,Z,Z,Z,Z,Z,Z,Z,Z,Z,Z,Z,Z,Z,Z,Z,Z,Z,Z,Z,Z,Z,Z,Z,Z,Z,Z,Z,Z,Z,Z,Z,Z,Z,Z,Z,Z,Z,Z,Z,Z,Z,Z,Z,Z,Z,Z,Z,Z,Z,Z,Z,Z,Z,Z,Z,Z,Z,Z,Z,Z,Z,Z,Z,Z,Z,Z,Z,Z,Z,Z,Z,Z,Z,Z,Z,Z,Z,Z,Z,Z,Z,Z,Z,Z,Z,Z,Z], [.gen [.int .i64 v2246, .int .i64 v2247, .own 1 0 ((v2249).length)] false 0, .row (.i64 v2249) 0])
def Ye_ : List Nat := KL true [5,1,2,1,8,2,4,2,203]
def Am3_ : Exit → List Nat
  | .exit 4 => KL true [5,1,2,1,9,1,4,1,204]
  | .ret => KL true [4,1,223]
  | _ => []
noncomputable def I4_ (v2335 v2336 v2337 v2340 v2341 : Int) (v2342 : List Int) (s : Int × Int) : Tree ((Int × Int) ⊕ (Int)) :=
  (.br (decide (s.2 < v2335)) (
  (.grd (inb (IntKind.i64.wrap ((IntKind.i64.wrap (v2337 * v2335)) + s.2)) ((v2342).length)) <|
  (.grd (inb (IntKind.i64.wrap ((IntKind.i64.wrap (v2337 * v2335)) + s.2)) ((v2342).length)) <|
  .leaf (.inl (IntKind.i64.wrap (s.1 + (IntKind.i64.wrap ((nth v2342 (Int.toNat (IntKind.i64.wrap ((IntKind.i64.wrap (v2337 * v2335)) + s.2)))) * (nth v2342 (Int.toNat (IntKind.i64.wrap ((IntKind.i64.wrap (v2337 * v2335)) + s.2))))))), IntKind.i64.wrap (s.2 + (1 : Int))))))
  ) (
  .leaf (.inr s.1)
  ))
noncomputable def Pu_ (v2335 v2336 v2337 v2340 v2341 : Int) (v2342 : List Int) (s0 : Int × Int) : Option (Int) := Af_ (fun s => (I4_ v2335 v2336 v2337 v2340 v2341 v2342 s).run) s0
def Ih_ (v1 v2 : List Int) (v2335 v2336 v2337 v2340 v2341 : Int) (v2342 : List Int) (s : Int × Int) : Sd := ([Z,Z,Z,Z,Z,.int .i64 v2335,Z,Z,.ptr 0 (0 : Nat) 0 (3 : Nat),Z,Z,Z,Z,Z,Z,Z,Z,Z,.int .i64 v2336,Z,Z,Z,Z,Z,Z,.int .i64 v2337,.int .i64 s.1,.int .i64 s.2,Z,Z,Z,Z,Z,Z,Z,Z,Z,Z,Z,Z,Z,Z,Z,Z,Z,Z,Z,Z,Z,Z,Z,Z,Z,Z,Z,Z,Z,Z,Z,Z,Z,Z,Z,Z,Z,Z,Z,Z,Z,Z,Z,Z,Z,Z,Z,Z,Z,Z,Z,Z,Z,Z,Z,Z,Z,Z,Z,Z,Z,Z,Z,Z,Z,Z,Z,Z,Z,Z,Z,Z,Z,Z,Z,Z,Z,Z,Z,Z,Z,Z,Z,Z,Z,Z,Z,Z,Z,Z,Z,Z,Z,Z,Z,Z,Z,Z,Z,Z,Z,Z,Z,Z,Z,Z,Z,Z,Z,Z,Z,Z,Z,Z,Z,Z,Z,Z,Z,Z,Z,Z,Z,Z,Z,Z,Z,Z,Z,Z,Z,Z,Z,Z,Z,Z,Z,Z,Z,Z,Z,Z,Z,Z,Z,Z,Z,Z,Z,Z,Z,Z,Z,Z,Z,Z,Z,Z,Z,Z,Z,Z,Z,Z,Z,Z,Z,Z,Z,Z,Z,Z,Z,Z,Z,Z,Z,Z,Z,Z,Z,Z,Z,Z,Z,Z,Z,Z,Z,Z,Z,Z,Z,Z,Z,Z,Z,Z,Z,Z], [.gen [.int .i64 v2340, .int .i64 v2341, .own 1 0 ((v2342).length)] false 0, .row (.i64 v2342) 0])
def Pe_ (v1 v2 : List Int) (v2335 v2336 v2337 v2340 v2341 : Int) (v2342 : List Int) (x : Int) : Out := (.normal, [Z,Z,Z,Z,Z,.int .i64 v2335,Z,Z,.ptr 0 (0 : Nat) 0 (3 : Nat),Z,Z,Z,Z,Z,Z,Z,Z,Z,.int .i64 v2336,Z,Z,Z,Z,Z,Z,.int .i64 v2337,.int .i64 x,Z,Z,Z,Z,Z,Z,Z,Z,Z,Z,Z,Z,Z,Z,Z,Z,Z,Z,Z,Z,Z,Z,Z,Z,Z,Z,Z,Z,Z,Z,Z,Z,Z,Z,Z,Z,Z,Z,Z,Z,Z,Z,Z,Z,Z,Z,Z,Z,Z,Z,Z,Z,Z,Z,Z,Z,Z,Z,Z,Z,Z,Z,Z,Z,Z,Z,Z,Z,Z,Z,Z,Z,Z,Z,Z,Z,Z,Z,Z,Z,Z,Z,Z,Z,Z,Z,Z,Z,Z,Z,Z,Z,Z,Z,Z,Z,Z,Z,Z,Z,Z,Z,Z,Z,Z,Z,Z,Z,Z,Z,Z,Z,Z,Z,Z,Z,Z,Z,Z,Z,Z,Z,Z,Z,Z,Z,Z,Z,Z,Z,Z,Z,Z,Z,Z,Z,Z,Z,Z,Z,Z,Z,Z,Z,Z,Z,Z,Z,Z,Z,Z,Z,Z,Z,Z,Z,Z,Z,Z,Z,Z,Z,Z,Z,Z,Z,Z,Z,Z,Z,Z,Z,Z,Z,Z,Z,Z,Z,Z,Z,Z,Z,Z,Z,Z,Z,Z,Z,Z,Z,Z,Z,Z,Z,Z,Z,Z,Z,Z,Z,Z], [.gen [.int .i64 v2340, .int .i64 v2341, .own 1 0 ((v2342).length)] false 0, .row (.i64 v2342) 0])
def Yc_ : List Nat := KL true [5,1,2,1,9,1,6,3,200]
def Aee_ : Exit → List Nat
  | .exit 6 => KL true [228]
  | .exit 7 => KL true [5,1,2,1,9,1,6,1,202]
  | .exit 8 => KL true [5,1,2,1,9,1,6,2,201]
  | .ret => KL true [4,1,223]
  | _ => []
noncomputable def E7_ (v1 v2 : List Int) (v2313 v2314 v2316 v2317 : Int) (v2318 : List Int) (s : Int) : Tree ((Int) ⊕ ((Unit) ⊕ (Unit))) :=
  (.br (decide (s < v2313)) (
  (.need (some (Ih_ v1 v2 v2313 v2314 s v2316 v2317 v2318 ((0 : Int), (0 : Int))) = some (Ih_ v1 v2 v2313 v2314 s v2316 v2317 v2318 ((0 : Int), (0 : Int)))) <|
  (.call (Pu_ v2313 v2314 s v2316 v2317 v2318 ((0 : Int), (0 : Int))) fun v2343 =>
  (.br (decide (v2343 < v2314)) (
  .leaf (.inr (.inl ()))
  ) (
  .leaf (.inl (IntKind.i64.wrap (s + (1 : Int))))
  ))))
  ) (
  .leaf (.inr (.inr ()))
  ))
noncomputable def K0_ (v1 v2 : List Int) (v2313 v2314 v2316 v2317 : Int) (v2318 : List Int) (s0 : Int) : Option ((Unit) ⊕ (Unit)) := Af_ (fun s => (E7_ v1 v2 v2313 v2314 v2316 v2317 v2318 s).run) s0
def Ds_ (v1 v2 : List Int) (v2313 v2314 v2316 v2317 : Int) (v2318 : List Int) (s : Int) : Sd := ([Z,Z,Z,Z,Z,.int .i64 v2313,Z,Z,.ptr 0 (0 : Nat) 0 (3 : Nat),Z,Z,Z,Z,Z,Z,Z,Z,Z,.int .i64 v2314,Z,Z,Z,Z,Z,Z,.int .i64 s,Z,Z,Z,Z,Z,Z,Z,Z,Z,Z,Z,Z,Z,Z,Z,Z,Z,Z,Z,Z,Z,Z,Z,Z,Z,Z,Z,Z,Z,Z,Z,Z,Z,Z,Z,Z,Z,Z,Z,Z,Z,Z,Z,Z,Z,Z,Z,Z,Z,Z,Z,Z,Z,Z,Z,Z,Z,Z,Z,Z,Z,Z,Z,Z,Z,Z,Z,Z,Z,Z,Z,Z,Z,Z,Z,Z,Z,Z,Z,Z,Z,Z,Z,Z,Z,Z,Z,Z,Z,Z,Z,Z,Z,Z,Z,Z,Z,Z,Z,Z,Z,Z,Z,Z,Z,Z,Z,Z,Z,Z,Z,Z,Z,Z,Z,Z,Z,Z,Z,Z,Z,Z,Z,Z,Z,Z,Z,Z,Z,Z,Z,Z,Z,Z,Z,Z,Z,Z,Z,Z,Z,Z,Z,Z,Z,Z,Z,Z,Z,Z,Z,Z,Z,Z,Z,Z,Z,Z,Z,Z,Z,Z,Z,Z,Z,Z,Z,Z,Z,Z,Z,Z,Z,Z,Z,Z,Z,Z,Z,Z,Z,Z,Z,Z,Z,Z,Z,Z,Z,Z,Z,Z,Z,Z,Z,Z,Z,Z,Z,Z,Z,Z], [.gen [.int .i64 v2316, .int .i64 v2317, .own 1 0 ((v2318).length)] false 0, .row (.i64 v2318) 0])
def M6_ (v1 v2 : List Int) (v2313 v2314 v2316 v2317 : Int) (v2318 : List Int) (x : (Unit) ⊕ (Unit)) : Out := (match x with | .inl x => (.ret, [Z,Z,Z,Z,.lit false,Z,Z,Z,Z,Z,Z,Z,Z,Z,Z,Z,Z,Z,Z,Z,Z,Z,Z,Z,Z,Z,Z,Z,Z,Z,Z,Z,Z,Z,Z,Z,Z,Z,Z,Z,Z,Z,Z,Z,Z,Z,Z,Z,Z,Z,Z,Z,Z,Z,Z,Z,Z,Z,Z,Z,Z,Z,Z,Z,Z,Z,Z,Z,Z,Z,Z,Z,Z,Z,Z,Z,Z,Z,Z,Z,Z,Z,Z,Z,Z,Z,Z,Z,Z,Z,Z,Z,Z,Z,Z,Z,Z,Z,Z,Z,Z,Z,Z,Z,Z,Z,Z,Z,Z,Z,Z,Z,Z,Z,Z,Z,Z,Z,Z,Z,Z,Z,Z,Z,Z,Z,Z,Z,Z,Z,Z,Z,Z,Z,Z,Z,Z,Z,Z,Z,Z,Z,Z,Z,Z,Z,Z,Z,Z,Z,Z,Z,Z,Z,Z,Z,Z,Z,Z,Z,Z,Z,Z,Z,Z,Z,Z,Z,Z,Z,Z,Z,Z,Z,Z,Z,Z,Z,Z,Z,Z,Z,Z,Z,Z,Z,Z,Z,Z,Z,Z,Z,Z,Z,Z,Z,Z,Z,Z,Z,Z,Z,Z,Z,Z,Z,Z,Z,Z,Z,Z,Z,Z,Z,Z,Z,Z,Z,Z,Z,Z,Z,Z,Z,Z,Z,Z,Z], []) | .inr x => (.normal, [Z,Z,Z,Z,Z,Z,Z,Z,Z,Z,Z,Z,Z,Z,Z,Z,Z,Z,Z,Z,Z,Z,Z,Z,Z,Z,Z,Z,Z,Z,Z,Z,Z,Z,Z,Z,Z,Z,Z,Z,Z,Z,Z,Z,Z,Z,Z,Z,Z,Z,Z,Z,Z,Z,Z,Z,Z,Z,Z,Z,Z,Z,Z,Z,Z,Z,Z,Z,Z,Z,Z,Z,Z,Z,Z,Z,Z,Z,Z,Z,Z,Z,Z,Z,Z,Z,Z,Z,Z,Z,Z,Z,Z,Z,Z,Z,Z,Z,Z,Z,Z,Z,Z,Z,Z,Z,Z,Z,Z,Z,Z,Z,Z,Z,Z,Z,Z,Z,Z,Z,Z,Z,Z,Z,Z,Z,Z,Z,Z,Z,Z,Z,Z,Z,Z,Z,Z,Z,Z,Z,Z,Z,Z,Z,Z,Z,Z,Z,Z,Z,Z,Z,Z,Z,Z,Z,Z,Z,Z,Z,Z,Z,Z,Z,Z,Z,Z,Z,Z,Z,Z,Z,Z,Z,Z,Z,Z,Z,Z,Z,Z,Z,Z,Z,Z,Z,Z,Z,Z,Z,Z,Z,Z,Z,Z,Z,Z,Z,Z,Z,Z,Z,Z,Z,Z,Z,Z,Z,Z,Z,Z,Z,Z,Z,Z,Z,Z,Z,Z,Z,Z,Z,Z,Z,Z,Z,Z,Z], []))
def U1_ : List Nat := KL true [5,1,2,1,9,1,6,1,202]
def Abe_ : Exit → List Nat
  | .exit 6 => KL true [228]
  | .ret => KL true [4,1,223]
  | _ => []
noncomputable def Cj_ (v1 v2 : List Int) : LOr := fun id e L =>
  match id with
  | 0 => .need (normA 0 Y4_ e L = some (Fl_ v1 v2 (gI (vAt e 5)) (gI (cAt L (vAt e 6) 0)) (gI (cAt L (vAt e 6) 1)) ((gI (vAt e 7)), (gRI L (cAt L (vAt e 6) 2))))) (.call (Lj_ (gI (vAt e 5)) (gI (cAt L (vAt e 6) 0)) (gI (cAt L (vAt e 6) 1)) ((gI (vAt e 7)), (gRI L (cAt L (vAt e 6) 2)))) fun x => .leaf (Pq_ v1 v2 (gI (vAt e 5)) (gI (cAt L (vAt e 6) 0)) (gI (cAt L (vAt e 6) 1)) x))
  | 2 => .need (normA 0 Wu_ e L = some (Fy_ v1 v2 (gI (vAt e 5)) (gI (vAt e 11)) (gI (cAt L (vAt e 6) 0)) (gI (cAt L (vAt e 6) 1)) (gI (cAt L (vAt e 8) 0)) (gI (cAt L (vAt e 8) 1)) (gRI L (cAt L (vAt e 6) 2)) (gRI L (cAt L (vAt e 8) 2)) ((gB (vAt e 13)), (gI (vAt e 14))))) (.call (Nq_ (gI (vAt e 5)) (gI (vAt e 11)) (gI (cAt L (vAt e 6) 0)) (gI (cAt L (vAt e 6) 1)) (gI (cAt L (vAt e 8) 0)) (gI (cAt L (vAt e 8) 1)) (gRI L (cAt L (vAt e 6) 2)) (gRI L (cAt L (vAt e 8) 2)) ((gB (vAt e 13)), (gI (vAt e 14)))) fun x => .leaf (Rw_ v1 v2 (gI (vAt e 5)) (gI (vAt e 11)) (gI (cAt L (vAt e 6) 0)) (gI (cAt L (vAt e 6) 1)) (gI (cAt L (vAt e 8) 0)) (gI (cAt L (vAt e 8) 1)) (gRI L (cAt L (vAt e 6) 2)) (gRI L (cAt L (vAt e 8) 2)) x))
  | 4 => .need (normA 0 Ye_ e L = some (Dx_ v1 v2 (gI (vAt e 5)) (gI (vAt e 18)) (gI (cAt L (vAt e 8) 0)) (gI (cAt L (vAt e 8) 1)) (gRI L (vAt e 17)) (gRI L (cAt L (vAt e 8) 2)) ((gI (vAt e 23)), (gI (vAt e 24))))) (.call (J5_ (gI (vAt e 5)) (gI (vAt e 18)) (gI (cAt L (vAt e 8) 0)) (gI (cAt L (vAt e 8) 1)) (gRI L (vAt e 17)) (gRI L (cAt L (vAt e 8) 2)) ((gI (vAt e 23)), (gI (vAt e 24)))) fun x => .leaf (Qx_ v1 v2 (gI (vAt e 5)) (gI (vAt e 18)) (gI (cAt L (vAt e 8) 0)) (gI (cAt L (vAt e 8) 1)) (gRI L (vAt e 17)) (gRI L (cAt L (vAt e 8) 2)) x))
  | 8 => .need (normA 0 Yc_ e L = some (Ih_ v1 v2 (gI (vAt e 5)) (gI (vAt e 18)) (gI (vAt e 25)) (gI (cAt L (vAt e 8) 0)) (gI (cAt L (vAt e 8) 1)) (gRI L (cAt L (vAt e 8) 2)) ((gI (vAt e 26)), (gI (vAt e 27))))) (.call (Pu_ (gI (vAt e 5)) (gI (vAt e 18)) (gI (vAt e 25)) (gI (cAt L (vAt e 8) 0)) (gI (cAt L (vAt e 8) 1)) (gRI L (cAt L (vAt e 8) 2)) ((gI (vAt e 26)), (gI (vAt e 27)))) fun x => .leaf (Pe_ v1 v2 (gI (vAt e 5)) (gI (vAt e 18)) (gI (vAt e 25)) (gI (cAt L (vAt e 8) 0)) (gI (cAt L (vAt e 8) 1)) (gRI L (cAt L (vAt e 8) 2)) x))
  | 6 => .need (normA 0 U1_ e L = some (Ds_ v1 v2 (gI (vAt e 5)) (gI (vAt e 18)) (gI (cAt L (vAt e 8) 0)) (gI (cAt L (vAt e 8) 1)) (gRI L (cAt L (vAt e 8) 2)) (gI (vAt e 25)))) (.call (K0_ v1 v2 (gI (vAt e 5)) (gI (vAt e 18)) (gI (cAt L (vAt e 8) 0)) (gI (cAt L (vAt e 8) 1)) (gRI L (cAt L (vAt e 8) 2)) (gI (vAt e 25))) fun x => .sum x (fun b0 => .leaf (M6_ v1 v2 (gI (vAt e 5)) (gI (vAt e 18)) (gI (cAt L (vAt e 8) 0)) (gI (cAt L (vAt e 8) 1)) (gRI L (cAt L (vAt e 8) 2)) (.inl b0))) (fun c0 => .leaf (M6_ v1 v2 (gI (vAt e 5)) (gI (vAt e 18)) (gI (cAt L (vAt e 8) 0)) (gI (cAt L (vAt e 8) 1)) (gRI L (cAt L (vAt e 8) 2)) (.inr c0))))
  | _ => .fail
noncomputable def By_ : List (FuncId × DFn × Bool) := [(5, Oj_, true), (6, Rc_, true), (7, N3_, true), (8, Ql_, true), (9, Tm_, true), (10, O2_, true), (11, Ow_, true)]
theorem Gr_ : OrcOk Try.prog (tabD By_) (tabM By_) := Ae_ Akq_ (Ae_ Ac6_ (Ae_ Akd_ (Ae_ Ain_ (Ae_ Ah2_ (Ae_ Abf_ (Ae_ Ah0_ (Ai_ _)))))))
theorem Akp_ (v1 v2 : List Int) (v65 v67 v68 : Int) (s : Int × (List Int)) : bodyT TT (tabD By_) (tabM By_) (Cj_ v1 v2) 0 Y4_ Ag9_ (Ab_ Try.f3 0) 0 (Fl_ v1 v2 v65 v67 v68 s) = (Hj_ v65 v67 v68 s).bind fun y => .leaf (outS (Fl_ v1 v2 v65 v67 v68) (Pq_ v1 v2 v65 v67 v68) y) := by kernel_rfl
theorem Am4_ (v1 v2 : List Int) : At_ Try.prog 0 (Cj_ v1 v2) 0 (Ab_ Try.f3 0) := by
  intro e L out h
  exact lo_ok (E := Fl_ v1 v2 (gI (vAt e 5)) (gI (cAt L (vAt e 6) 0)) (gI (cAt L (vAt e 6) 1))) (gT := Hj_ (gI (vAt e 5)) (gI (cAt L (vAt e 6) 0)) (gI (cAt L (vAt e 6) 1))) (X := Pq_ v1 v2 (gI (vAt e 5)) (gI (cAt L (vAt e 6) 0)) (gI (cAt L (vAt e 6) 1))) (s0 := ((gI (vAt e 7)), (gRI L (cAt L (vAt e 6) 2)))) tok Gr_ mixed (Ad_ (l := []) (by kernel_rfl) trivial) (Akp_ v1 v2 (gI (vAt e 5)) (gI (cAt L (vAt e 6) 0)) (gI (cAt L (vAt e 6) 1))) rfl (by intro x; rfl) h
theorem Aal_ (v1 v2 : List Int) (v1056 v1057 v1060 v1061 v1062 v1063 : Int) (v1064 v1065 : List Int) (s : Bool × Int) : bodyT TT (tabD By_) (tabM By_) (Cj_ v1 v2) 0 Wu_ Ao4_ (Ab_ Try.f3 2) 2 (Fy_ v1 v2 v1056 v1057 v1060 v1061 v1062 v1063 v1064 v1065 s) = (Jf_ v1056 v1057 v1060 v1061 v1062 v1063 v1064 v1065 s).bind fun y => .leaf (outS (Fy_ v1 v2 v1056 v1057 v1060 v1061 v1062 v1063 v1064 v1065) (Rw_ v1 v2 v1056 v1057 v1060 v1061 v1062 v1063 v1064 v1065) y) := by kernel_rfl
theorem Aql_ (v1 v2 : List Int) : At_ Try.prog 0 (Cj_ v1 v2) 2 (Ab_ Try.f3 2) := by
  intro e L out h
  exact lo_ok (E := Fy_ v1 v2 (gI (vAt e 5)) (gI (vAt e 11)) (gI (cAt L (vAt e 6) 0)) (gI (cAt L (vAt e 6) 1)) (gI (cAt L (vAt e 8) 0)) (gI (cAt L (vAt e 8) 1)) (gRI L (cAt L (vAt e 6) 2)) (gRI L (cAt L (vAt e 8) 2))) (gT := Jf_ (gI (vAt e 5)) (gI (vAt e 11)) (gI (cAt L (vAt e 6) 0)) (gI (cAt L (vAt e 6) 1)) (gI (cAt L (vAt e 8) 0)) (gI (cAt L (vAt e 8) 1)) (gRI L (cAt L (vAt e 6) 2)) (gRI L (cAt L (vAt e 8) 2))) (X := Rw_ v1 v2 (gI (vAt e 5)) (gI (vAt e 11)) (gI (cAt L (vAt e 6) 0)) (gI (cAt L (vAt e 6) 1)) (gI (cAt L (vAt e 8) 0)) (gI (cAt L (vAt e 8) 1)) (gRI L (cAt L (vAt e 6) 2)) (gRI L (cAt L (vAt e 8) 2))) (s0 := ((gB (vAt e 13)), (gI (vAt e 14)))) tok Gr_ mixed (Ad_ (l := []) (by kernel_rfl) trivial) (Aal_ v1 v2 (gI (vAt e 5)) (gI (vAt e 11)) (gI (cAt L (vAt e 6) 0)) (gI (cAt L (vAt e 6) 1)) (gI (cAt L (vAt e 8) 0)) (gI (cAt L (vAt e 8) 1)) (gRI L (cAt L (vAt e 6) 2)) (gRI L (cAt L (vAt e 8) 2))) rfl (by intro x; rfl) h
theorem Afr_ (v1 v2 : List Int) (v2242 v2243 v2246 v2247 : Int) (v2248 v2249 : List Int) (s : Int × Int) : bodyT TT (tabD By_) (tabM By_) (Cj_ v1 v2) 0 Ye_ Am3_ (Ab_ Try.f3 4) 4 (Dx_ v1 v2 v2242 v2243 v2246 v2247 v2248 v2249 s) = (Fg_ v2242 v2243 v2246 v2247 v2248 v2249 s).bind fun y => .leaf (outS (Dx_ v1 v2 v2242 v2243 v2246 v2247 v2248 v2249) (Qx_ v1 v2 v2242 v2243 v2246 v2247 v2248 v2249) y) := by kernel_rfl
theorem Alg_ (v1 v2 : List Int) : At_ Try.prog 0 (Cj_ v1 v2) 4 (Ab_ Try.f3 4) := by
  intro e L out h
  exact lo_ok (E := Dx_ v1 v2 (gI (vAt e 5)) (gI (vAt e 18)) (gI (cAt L (vAt e 8) 0)) (gI (cAt L (vAt e 8) 1)) (gRI L (vAt e 17)) (gRI L (cAt L (vAt e 8) 2))) (gT := Fg_ (gI (vAt e 5)) (gI (vAt e 18)) (gI (cAt L (vAt e 8) 0)) (gI (cAt L (vAt e 8) 1)) (gRI L (vAt e 17)) (gRI L (cAt L (vAt e 8) 2))) (X := Qx_ v1 v2 (gI (vAt e 5)) (gI (vAt e 18)) (gI (cAt L (vAt e 8) 0)) (gI (cAt L (vAt e 8) 1)) (gRI L (vAt e 17)) (gRI L (cAt L (vAt e 8) 2))) (s0 := ((gI (vAt e 23)), (gI (vAt e 24)))) tok Gr_ mixed (Ad_ (l := []) (by kernel_rfl) trivial) (Afr_ v1 v2 (gI (vAt e 5)) (gI (vAt e 18)) (gI (cAt L (vAt e 8) 0)) (gI (cAt L (vAt e 8) 1)) (gRI L (vAt e 17)) (gRI L (cAt L (vAt e 8) 2))) rfl (by intro x; rfl) h
theorem Aeh_ (v1 v2 : List Int) (v2335 v2336 v2337 v2340 v2341 : Int) (v2342 : List Int) (s : Int × Int) : bodyT TT (tabD By_) (tabM By_) (Cj_ v1 v2) 0 Yc_ Aee_ (Ab_ Try.f3 8) 8 (Ih_ v1 v2 v2335 v2336 v2337 v2340 v2341 v2342 s) = (I4_ v2335 v2336 v2337 v2340 v2341 v2342 s).bind fun y => .leaf (outS (Ih_ v1 v2 v2335 v2336 v2337 v2340 v2341 v2342) (Pe_ v1 v2 v2335 v2336 v2337 v2340 v2341 v2342) y) := by kernel_rfl
theorem Ao2_ (v1 v2 : List Int) : At_ Try.prog 0 (Cj_ v1 v2) 8 (Ab_ Try.f3 8) := by
  intro e L out h
  exact lo_ok (E := Ih_ v1 v2 (gI (vAt e 5)) (gI (vAt e 18)) (gI (vAt e 25)) (gI (cAt L (vAt e 8) 0)) (gI (cAt L (vAt e 8) 1)) (gRI L (cAt L (vAt e 8) 2))) (gT := I4_ (gI (vAt e 5)) (gI (vAt e 18)) (gI (vAt e 25)) (gI (cAt L (vAt e 8) 0)) (gI (cAt L (vAt e 8) 1)) (gRI L (cAt L (vAt e 8) 2))) (X := Pe_ v1 v2 (gI (vAt e 5)) (gI (vAt e 18)) (gI (vAt e 25)) (gI (cAt L (vAt e 8) 0)) (gI (cAt L (vAt e 8) 1)) (gRI L (cAt L (vAt e 8) 2))) (s0 := ((gI (vAt e 26)), (gI (vAt e 27)))) tok Gr_ mixed (Ad_ (l := []) (by kernel_rfl) trivial) (Aeh_ v1 v2 (gI (vAt e 5)) (gI (vAt e 18)) (gI (vAt e 25)) (gI (cAt L (vAt e 8) 0)) (gI (cAt L (vAt e 8) 1)) (gRI L (cAt L (vAt e 8) 2))) rfl (by intro x; rfl) h
theorem Zq_ (v1 v2 : List Int) (v2313 v2314 v2316 v2317 : Int) (v2318 : List Int) (s : Int) : bodyT TT (tabD By_) (tabM By_) (Cj_ v1 v2) 0 U1_ Abe_ (Ab_ Try.f3 6) 6 (Ds_ v1 v2 v2313 v2314 v2316 v2317 v2318 s) = (E7_ v1 v2 v2313 v2314 v2316 v2317 v2318 s).bind fun y => .leaf (outS (Ds_ v1 v2 v2313 v2314 v2316 v2317 v2318) (M6_ v1 v2 v2313 v2314 v2316 v2317 v2318) y) := by kernel_rfl
theorem Ah1_ (v1 v2 : List Int) : At_ Try.prog 0 (Cj_ v1 v2) 6 (Ab_ Try.f3 6) := by
  intro e L out h
  exact lo_ok (E := Ds_ v1 v2 (gI (vAt e 5)) (gI (vAt e 18)) (gI (cAt L (vAt e 8) 0)) (gI (cAt L (vAt e 8) 1)) (gRI L (cAt L (vAt e 8) 2))) (gT := E7_ v1 v2 (gI (vAt e 5)) (gI (vAt e 18)) (gI (cAt L (vAt e 8) 0)) (gI (cAt L (vAt e 8) 1)) (gRI L (cAt L (vAt e 8) 2))) (X := M6_ v1 v2 (gI (vAt e 5)) (gI (vAt e 18)) (gI (cAt L (vAt e 8) 0)) (gI (cAt L (vAt e 8) 1)) (gRI L (cAt L (vAt e 8) 2))) (s0 := (gI (vAt e 25))) tok Gr_ mixed (Ad_ (l := [(8, Ab_ Try.f3 8)]) (by kernel_rfl) ⟨Ao2_ v1 v2, trivial⟩) (Zq_ v1 v2 (gI (vAt e 5)) (gI (vAt e 18)) (gI (cAt L (vAt e 8) 0)) (gI (cAt L (vAt e 8) 1)) (gRI L (cAt L (vAt e 8) 2))) rfl (by intro x; (cases x with | inl b => rfl | inr x => exact rfl)) h
noncomputable def J4_ (v1 v2 : List Int) : Tree (Bool) :=
  (.br (Dn_ v1 v2) (
  .leaf true
  ) (
  (.call (Ea_ v2 (40 : Int) (3 : Int)) fun v8 =>
  (.call (Im_ v1 (IntKind.i64.wrap ((1 : Int) + v8)) (IntKind.i64.wrap ((1 : Int) + v8))) fun v54 =>
  (.need (some (Fl_ v1 v2 (IntKind.i64.wrap ((1 : Int) + v8)) v54.1 v54.2.1 ((0 : Int), v54.2.2)) = some (Fl_ v1 v2 (IntKind.i64.wrap ((1 : Int) + v8)) v54.1 v54.2.1 ((0 : Int), v54.2.2))) <|
  (.call (Lj_ (IntKind.i64.wrap ((1 : Int) + v8)) v54.1 v54.2.1 ((0 : Int), v54.2.2)) fun v70 =>
  (.call (B7_ v54.1 v54.2.1 v70 (1000 : Int)) fun v863 =>
  (.sum v863 (fun v864 =>
  (.call (C4_ v54.1 v54.2.1 v70) fun v1022 =>
  (.sum v1022 (fun v1023 =>
  .leaf false
  ) (fun v1024 =>
  .leaf false
  )))
  ) (fun v865 =>
  (.call (C4_ v54.1 v54.2.1 v70) fun v1025 =>
  (.sum v1025 (fun v1026 =>
  .leaf false
  ) (fun v1027 =>
  (.br (!decide (v865.1 = (IntKind.i64.wrap ((1 : Int) + v8)))) (
  .leaf false
  ) (
  (.br (!decide (v865.2.1 = (IntKind.i64.wrap ((1 : Int) + v8)))) (
  .leaf false
  ) (
  (.br (decide (v865.2.2.1 < (0 : Int))) (
  .leaf false
  ) (
  (.br (decide ((1000 : Int) < v865.2.2.1)) (
  .leaf false
  ) (
  (.need (some (Fy_ v1 v2 (IntKind.i64.wrap ((1 : Int) + v8)) v1027 v54.1 v54.2.1 v865.1 v865.2.1 v70 v865.2.2.2 (true, (0 : Int))) = some (Fy_ v1 v2 (IntKind.i64.wrap ((1 : Int) + v8)) v1027 v54.1 v54.2.1 v865.1 v865.2.1 v70 v865.2.2.2 (true, (0 : Int)))) <|
  (.call (Nq_ (IntKind.i64.wrap ((1 : Int) + v8)) v1027 v54.1 v54.2.1 v865.1 v865.2.1 v70 v865.2.2.2 (true, (0 : Int))) fun v1066 =>
  (.br (!v1066) (
  .leaf false
  ) (
  (.call (C4_ v865.1 v865.2.1 v865.2.2.2) fun v1067 =>
  (.sum v1067 (fun v1068 =>
  (.call (Ew_ v865.1 v865.2.1 v865.2.2.2 (2 : Int)) fun v2192 =>
  (.sum v2192 (fun v2193 =>
  (.call (B7_ v54.1 v54.2.1 v70 (0 : Int)) fun v2195 =>
  (.sum v2195 (fun v2196 =>
  .leaf false
  ) (fun v2197 =>
  .leaf false
  )))
  ) (fun v2194 =>
  (.call (B7_ v54.1 v54.2.1 v70 (0 : Int)) fun v2198 =>
  (.sum v2198 (fun v2199 =>
  .leaf false
  ) (fun v2200 =>
  .leaf false
  )))
  )))
  ) (fun v1069 =>
  (.call (Ew_ v865.1 v865.2.1 v865.2.2.2 (2 : Int)) fun v2201 =>
  (.sum v2201 (fun v2202 =>
  (.call (B7_ v54.1 v54.2.1 v70 (0 : Int)) fun v2204 =>
  (.sum v2204 (fun v2205 =>
  .leaf false
  ) (fun v2206 =>
  .leaf false
  )))
  ) (fun v2203 =>
  (.call (B7_ v54.1 v54.2.1 v70 (0 : Int)) fun v2207 =>
  (.sum v2207 (fun v2208 =>
  .leaf false
  ) (fun v2209 =>
  (.br (!decide (v1069 = v1027)) (
  (.br (!decide (v1069 = IntKind.i64.wrap (0 - v1027))) (
  .leaf false
  ) (
  (.br (!decide ((((v2203.2).length : Nat) : Int) = (IntKind.i64.wrap ((1 : Int) + v8)))) (
  .leaf false
  ) (
  (.br (!decide (v2209.2.2.1 = (0 : Int))) (
  .leaf false
  ) (
  (.call (Em_ v2209.1 v2209.2.1 v2209.2.2.2 v54.1 v54.2.1 v70) fun v2225 =>
  (.br (!v2225) (
  .leaf false
  ) (
  (.need (some (Dx_ v1 v2 (IntKind.i64.wrap ((1 : Int) + v8)) v2203.1 v865.1 v865.2.1 v2203.2 v865.2.2.2 ((0 : Int), (0 : Int))) = some (Dx_ v1 v2 (IntKind.i64.wrap ((1 : Int) + v8)) v2203.1 v865.1 v865.2.1 v2203.2 v865.2.2.2 ((0 : Int), (0 : Int)))) <|
  (.call (J5_ (IntKind.i64.wrap ((1 : Int) + v8)) v2203.1 v865.1 v865.2.1 v2203.2 v865.2.2.2 ((0 : Int), (0 : Int))) fun v2250 =>
  (.br (!decide (v2250 = v2203.1)) (
  .leaf false
  ) (
  (.br (decide (v2203.1 < (1 : Int))) (
  .leaf false
  ) (
  (.need (some (Ds_ v1 v2 (IntKind.i64.wrap ((1 : Int) + v8)) v2203.1 v865.1 v865.2.1 v865.2.2.2 (0 : Int)) = some (Ds_ v1 v2 (IntKind.i64.wrap ((1 : Int) + v8)) v2203.1 v865.1 v865.2.1 v865.2.2.2 (0 : Int))) <|
  (.call (K0_ v1 v2 (IntKind.i64.wrap ((1 : Int) + v8)) v2203.1 v865.1 v865.2.1 v865.2.2.2 (0 : Int)) fun v2344 =>
  (.sum v2344 (fun v2345 =>
  .leaf false
  ) (fun v2346 =>
  .leaf true
  ))))
  ))
  ))))
  )))
  ))
  ))
  ))
  ) (
  (.br (!decide ((((v2203.2).length : Nat) : Int) = (IntKind.i64.wrap ((1 : Int) + v8)))) (
  .leaf false
  ) (
  (.br (!decide (v2209.2.2.1 = (0 : Int))) (
  .leaf false
  ) (
  (.call (Em_ v2209.1 v2209.2.1 v2209.2.2.2 v54.1 v54.2.1 v70) fun v2347 =>
  (.br (!v2347) (
  .leaf false
  ) (
  (.need (some (Dx_ v1 v2 (IntKind.i64.wrap ((1 : Int) + v8)) v2203.1 v865.1 v865.2.1 v2203.2 v865.2.2.2 ((0 : Int), (0 : Int))) = some (Dx_ v1 v2 (IntKind.i64.wrap ((1 : Int) + v8)) v2203.1 v865.1 v865.2.1 v2203.2 v865.2.2.2 ((0 : Int), (0 : Int)))) <|
  (.call (J5_ (IntKind.i64.wrap ((1 : Int) + v8)) v2203.1 v865.1 v865.2.1 v2203.2 v865.2.2.2 ((0 : Int), (0 : Int))) fun v2372 =>
  (.br (!decide (v2372 = v2203.1)) (
  .leaf false
  ) (
  (.br (decide (v2203.1 < (1 : Int))) (
  .leaf false
  ) (
  (.need (some (Ds_ v1 v2 (IntKind.i64.wrap ((1 : Int) + v8)) v2203.1 v865.1 v865.2.1 v865.2.2.2 (0 : Int)) = some (Ds_ v1 v2 (IntKind.i64.wrap ((1 : Int) + v8)) v2203.1 v865.1 v865.2.1 v865.2.2.2 (0 : Int))) <|
  (.call (K0_ v1 v2 (IntKind.i64.wrap ((1 : Int) + v8)) v2203.1 v865.1 v865.2.1 v865.2.2.2 (0 : Int)) fun v2466 =>
  (.sum v2466 (fun v2467 =>
  .leaf false
  ) (fun v2468 =>
  .leaf true
  ))))
  ))
  ))))
  )))
  ))
  ))
  ))
  )))
  )))
  )))
  ))))
  ))
  ))
  ))
  ))
  )))
  )))))))
  ))
noncomputable def F9_ (v1 v2 : List Int) : Option (Bool) := (J4_ v1 v2).run
def Iq_ (v1 v2 : List Int) (y : Bool) : Rs := (.bool y, [])
theorem Amm_ (v1 v2 : List Int) : (den TT (tabD By_) (tabM By_) (Cj_ v1 v2) (Ah_ Try.f3) ([.bslc (BR.root 0) (.u8 v1), .bslc (BR.root 1) (.u8 v2)] ++ List.replicate (Try.f3.ntmps - ([.bslc (BR.root 0) (.u8 v1), .bslc (BR.root 1) (.u8 v2)] : List DV).length) .undef) []).bind (retD TT Try.f3.results.toList 0) = (J4_ v1 v2).bind fun y => .leaf (Iq_ v1 v2 y) := by kernel_rfl
theorem Ahu_ (v1 v2 : List Int) (F : Fr) (h0 : St F [] F.H0) (hA : DVs.Ok F [] [.bslc (BR.root 0) (.u8 v1), .bslc (BR.root 1) (.u8 v2)]) {y : Bool} (hy : F9_ v1 v2 = some y) : ∃ F' H', Fwd 0 F F' [] (Iq_ v1 v2 y).2 ∧ FnOk Try.prog 3 (DVs.av F [.bslc (BR.root 0) (.u8 v1), .bslc (BR.root 1) (.u8 v2)]) F.H0 ((Iq_ v1 v2 y).1.av F') H' ∧ St F' (Iq_ v1 v2 y).2 H' ∧ (Iq_ v1 v2 y).1.Ok F' (Iq_ v1 v2 y).2 :=
  Aj_ tok Gr_ mixed Try.func3 Try.call3 (by kernel_rfl) (Ad_ (l := [(0, Ab_ Try.f3 0), (2, Ab_ Try.f3 2), (4, Ab_ Try.f3 4), (6, Ab_ Try.f3 6)]) (by kernel_rfl) ⟨Am4_ v1 v2, Aql_ v1 v2, Alg_ v1 v2, Ah1_ v1 v2, trivial⟩) (Amm_ v1 v2) hy h0 hA
noncomputable def Ab0_ (v2471 v2472 : Nat) : LOr := fun id e L =>
  match id with
  | _ => .fail
noncomputable def Li_ : List (FuncId × DFn × Bool) := []
theorem Akz_ : OrcOk Try.prog (tabD Li_) (tabM Li_) := Ai_ _
noncomputable def Om_ (v2471 v2472 : Nat) : Tree (Bool) :=
  (.br (decide ((48 : Int) < ((v2471 : Nat) : Int))) (
  .leaf true
  ) (
  .leaf (decide ((48 : Int) < ((v2472 : Nat) : Int)))
  ))
noncomputable def Qh_ (v2471 v2472 : Nat) : Option (Bool) := (Om_ v2471 v2472).run
def Gx_ (v2471 v2472 : Nat) (y : Bool) : Rs := (.bool y, [])
theorem Aot_ (v2471 v2472 : Nat) : (den TT (tabD Li_) (tabM Li_) (Ab0_ v2471 v2472) (Ah_ Try.f5) ([.hslc (BR.root 0) v2471, .hslc (BR.root 1) v2472] ++ List.replicate (Try.f5.ntmps - ([.hslc (BR.root 0) v2471, .hslc (BR.root 1) v2472] : List DV).length) .undef) []).bind (retD TT Try.f5.results.toList 0) = (Om_ v2471 v2472).bind fun y => .leaf (Gx_ v2471 v2472 y) := by kernel_rfl
theorem Ai1_ (v2471 v2472 : Nat) (F : Fr) (h0 : St F [] F.H0) (hA : DVs.Ok F [] [.hslc (BR.root 0) v2471, .hslc (BR.root 1) v2472]) {y : Bool} (hy : Qh_ v2471 v2472 = some y) : ∃ F' H', Fwd 0 F F' [] (Gx_ v2471 v2472 y).2 ∧ FnOk Try.prog 5 (DVs.av F [.hslc (BR.root 0) v2471, .hslc (BR.root 1) v2472]) F.H0 ((Gx_ v2471 v2472 y).1.av F') H' ∧ St F' (Gx_ v2471 v2472 y).2 H' ∧ (Gx_ v2471 v2472 y).1.Ok F' (Gx_ v2471 v2472 y).2 :=
  Aj_ tok Akz_ mixed Try.func5 Try.call5 (by kernel_rfl) (Ad_ (l := []) (by kernel_rfl) trivial) (Aot_ v2471 v2472) hy h0 hA
def Er_ (v2471 v2472 : Nat) : Bool :=
  if (decide ((48 : Int) < ((v2471 : Nat) : Int))) = true then (
  true
  ) else (
  decide ((48 : Int) < ((v2472 : Nat) : Int))
  )
theorem Amf_ (v2471 v2472 : Nat) : Qh_ v2471 v2472 = some (Er_ v2471 v2472) := by
  unfold Qh_ Om_ Er_
  simp only [Tree.run]
  repeat' (first | rfl | split)
noncomputable def Oy_ : DFn := fun args L =>
  match args with
  | [a1, a2] =>
    optT (lenV L a1) fun v2471 =>
    optT (lenV L a2) fun v2472 =>
    .leaf (.bool (Er_ v2471 v2472), L)
  | _ => .fail
theorem Apo_ : COk Try.prog 5 Oy_ true := by
  intro F L H args r L' hs ha hr
  unfold Oy_ at hr
  split at hr
  · rename_i a1 a2
    obtain ⟨v2471, hv2471, hr⟩ := Aa_ hr
    obtain ⟨v2472, hv2472, hr⟩ := Aa_ hr
    have hy := Amf_ v2471 v2472
    generalize Er_ v2471 v2472 = y at hy hr
    simp only [Tree.run, Option.some.injEq, Prod.mk.injEq] at hr
    obtain ⟨rfl, rfl⟩ := hr
    exact Aw_ hs (fun k => (([a1.av F, a2.av F] : List AV)[k]?).getD .top) [a1, a2] [.hslc (BR.root 0) v2471, .hslc (BR.root 1) v2472] (fun F' h0 hi hρ => ⟨by simp [DVs.av, DV.av, BR.av, hρ], Ai1_ v2471 v2472 F' (Ak_ hi) ⟨Hu_ hi (by rw [h0, hρ]; exact Ui_ hs (DVs.okAt ha 0 rfl) hv2471), Hu_ hi (by rw [h0, hρ]; exact Ui_ hs (DVs.okAt ha 1 rfl) hv2472), trivial⟩ hy⟩) rfl
  · cases hr
noncomputable def Kx_ (v2469 v2470 : Nat) : LOr := fun id e L =>
  match id with
  | _ => .fail
noncomputable def L9_ : List (FuncId × DFn × Bool) := [(5, Oy_, true)]
theorem Ak8_ : OrcOk Try.prog (tabD L9_) (tabM L9_) := Ae_ Apo_ (Ai_ _)
noncomputable def O7_ (v2469 v2470 : Nat) : Tree (Bool) :=
  (.br (Er_ v2469 v2470) (
  .leaf true
  ) (
  .fail
  ))
noncomputable def P4_ (v2469 v2470 : Nat) : Option (Bool) := (O7_ v2469 v2470).run
def H0_ (v2469 v2470 : Nat) (y : Bool) : Rs := (.bool y, [])
theorem Alj_ (v2469 v2470 : Nat) : (den TT (tabD L9_) (tabM L9_) (Kx_ v2469 v2470) (Ah_ Try.f3) ([.hslc (BR.root 0) v2469, .hslc (BR.root 1) v2470] ++ List.replicate (Try.f3.ntmps - ([.hslc (BR.root 0) v2469, .hslc (BR.root 1) v2470] : List DV).length) .undef) []).bind (retD TT Try.f3.results.toList 0) = (O7_ v2469 v2470).bind fun y => .leaf (H0_ v2469 v2470 y) := by kernel_rfl
theorem Ah7_ (v2469 v2470 : Nat) : At_ Try.prog 0 (Kx_ v2469 v2470) 0 (Ab_ Try.f3 0) := fun e L out h => absurd (show (none : Option Out) = some out from h) (by simp)
theorem Aah_ (v2469 v2470 : Nat) : At_ Try.prog 0 (Kx_ v2469 v2470) 2 (Ab_ Try.f3 2) := fun e L out h => absurd (show (none : Option Out) = some out from h) (by simp)
theorem Aqz_ (v2469 v2470 : Nat) : At_ Try.prog 0 (Kx_ v2469 v2470) 4 (Ab_ Try.f3 4) := fun e L out h => absurd (show (none : Option Out) = some out from h) (by simp)
theorem Al6_ (v2469 v2470 : Nat) : At_ Try.prog 0 (Kx_ v2469 v2470) 6 (Ab_ Try.f3 6) := fun e L out h => absurd (show (none : Option Out) = some out from h) (by simp)
theorem Yb_ (v2469 v2470 : Nat) (F : Fr) (h0 : St F [] F.H0) (hA : DVs.Ok F [] [.hslc (BR.root 0) v2469, .hslc (BR.root 1) v2470]) {y : Bool} (hy : P4_ v2469 v2470 = some y) : ∃ F' H', Fwd 0 F F' [] (H0_ v2469 v2470 y).2 ∧ FnOk Try.prog 3 (DVs.av F [.hslc (BR.root 0) v2469, .hslc (BR.root 1) v2470]) F.H0 ((H0_ v2469 v2470 y).1.av F') H' ∧ St F' (H0_ v2469 v2470 y).2 H' ∧ (H0_ v2469 v2470 y).1.Ok F' (H0_ v2469 v2470 y).2 :=
  Aj_ tok Ak8_ mixed Try.func3 Try.call3 (by kernel_rfl) (Ad_ (l := [(0, Ab_ Try.f3 0), (2, Ab_ Try.f3 2), (4, Ab_ Try.f3 4), (6, Ab_ Try.f3 6)]) (by kernel_rfl) ⟨Ah7_ v2469 v2470, Aah_ v2469 v2470, Aqz_ v2469 v2470, Al6_ v2469 v2470, trivial⟩) (Alj_ v2469 v2470) hy h0 hA
end Go.Proofs.Ytmgpbchacndndaa.AM
