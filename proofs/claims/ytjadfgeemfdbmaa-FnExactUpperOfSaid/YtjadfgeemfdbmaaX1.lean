/- Functions: what they come to. -/
import Derived.Test.YtjadfgeemfdbmaaX0
set_option maxRecDepth 100000
set_option maxHeartbeats 4000000
set_option linter.unusedSimpArgs false
set_option linter.unusedVariables false
namespace Go.Proofs.Ytjadfgeemfdbmaa.AM
open Go.Proofs
/-! impl.UpperOf -/
noncomputable def impl_UpperOf_LO (v169 : Int) (v170 : Int) (v171 : List Nat) (v172 : List Int) : LOr := fun id e L =>
  match id with
  | _ => .fail
noncomputable def impl_UpperOf_tab : List (FuncId × DFn × Bool) := [(49, impl_ValidFactor_F, true), (120, impl_Matrix_upper_F, true)]
theorem impl_UpperOf_hO : OrcOk Try.prog (tabD impl_UpperOf_tab) (tabM impl_UpperOf_tab) := tabD_cons impl_ValidFactor_Fok (tabD_cons impl_Matrix_upper_Fok (tabD_nil _))
noncomputable def impl_UpperOf_T (v169 : Int) (v170 : Int) (v171 : List Nat) (v172 : List Int) : Tree ((Unit) ⊕ (Int × Int × (List Nat))) :=
  (.call (impl_ValidFactor_g v169 v170 v171 v172) fun v241 =>
  (.br (!v241) (
   .leaf (.inl ())
  ) (
   (.call (impl_Matrix_upper_g v169 v170 v171) fun v349 =>
   .leaf (.inr (v349.1, v349.2.1, v349.2.2)))
  )))

noncomputable def impl_UpperOf_g (v169 : Int) (v170 : Int) (v171 : List Nat) (v172 : List Int) : Option ((Unit) ⊕ (Int × Int × (List Nat))) := (impl_UpperOf_T v169 v170 v171 v172).run
def impl_UpperOf_enc (v169 : Int) (v170 : Int) (v171 : List Nat) (v172 : List Int) (y : (Unit) ⊕ (Int × Int × (List Nat))) : Rs := (match y with | .inl y => (.tup [.agg [.int .i64 (0 : Int), .int .i64 (0 : Int), .nilslc], .lit false], []) | .inr y => (.tup [.agg [.int .i64 y.1, .int .i64 y.2.1, .own 0 0 ((y.2.2).length)], .lit true], [.row (.f32 y.2.2) 0]))
theorem impl_UpperOf_den (v169 : Int) (v170 : Int) (v171 : List Nat) (v172 : List Int) : (den TT (tabD impl_UpperOf_tab) (tabM impl_UpperOf_tab) (impl_UpperOf_LO v169 v170 v171 v172) (codeOf Try.f55) ([.agg [.int .i64 v169, .int .i64 v170, .bslc (BR.root 0) (.f32 v171), .bslc (BR.root 1) (.i64 v172)]] ++ List.replicate (Try.f55.ntmps - ([.agg [.int .i64 v169, .int .i64 v170, .bslc (BR.root 0) (.f32 v171), .bslc (BR.root 1) (.i64 v172)]] : List DV).length) .undef) []).bind (retD TT Try.f55.results.toList 0) = (impl_UpperOf_T v169 v170 v171 v172).bind fun y => .leaf (impl_UpperOf_enc v169 v170 v171 v172 y) := by kernel_rfl
theorem impl_UpperOf_fn (v169 : Int) (v170 : Int) (v171 : List Nat) (v172 : List Int) (F : Fr) (hm : F.ids.length = 0) (h0 : St F [] F.H0) (hA : DVs.Ok F [] [.agg [.int .i64 v169, .int .i64 v170, .bslc (BR.root 0) (.f32 v171), .bslc (BR.root 1) (.i64 v172)]]) {y : (Unit) ⊕ (Int × Int × (List Nat))} (hy : impl_UpperOf_g v169 v170 v171 v172 = some y) : ∃ H', FnOk Try.prog 55 (DVs.av F [.agg [.int .i64 v169, .int .i64 v170, .bslc (BR.root 0) (.f32 v171), .bslc (BR.root 1) (.i64 v172)]]) F.H0 ((impl_UpperOf_enc v169 v170 v171 v172 y).1.av F) H' ∧ St F (impl_UpperOf_enc v169 v170 v171 v172 y).2 H' ∧ (impl_UpperOf_enc v169 v170 v171 v172 y).1.Ok F (impl_UpperOf_enc v169 v170 v171 v172 y).2 :=
  fn_fin tok impl_UpperOf_hO mixed Try.func55 Try.call55 (by kernel_rfl) (LoopsOk_eq (l := []) (by kernel_rfl) trivial) (impl_UpperOf_den v169 v170 v171 v172) hy hm h0 hA
noncomputable def impl_UpperOf_F : DFn := fun args L =>
  match args with
  | [.agg [.int .i64 v169, .int .i64 v170, a1, a2]] =>
    optT (rowF32 L a1) fun v171 =>
    optT (rowI64 L a2) fun v172 =>
    .call (impl_UpperOf_g v169 v170 v171 v172) fun y => .sum y (fun y0 => .leaf (.tup [.agg [.int .i64 (0 : Int), .int .i64 (0 : Int), .nilslc], .lit false], L)) (fun z0 => .leaf (.tup [.agg [.int .i64 z0.1, .int .i64 z0.2.1, .own (L.length + 0) 0 ((z0.2.2).length)], .lit true], L ++ [.row (.f32 z0.2.2) 0]))
  | _ => .fail
theorem impl_UpperOf_Fok : COk Try.prog 55 impl_UpperOf_F true := by
  intro F L H args r L' hs ha hr
  unfold impl_UpperOf_F at hr
  split at hr
  · rename_i v169 v170 a1 a2
    obtain ⟨v171, hv171, hr⟩ := optT_run hr
    obtain ⟨v172, hv172, hr⟩ := optT_run hr
    simp only [Tree.run] at hr
    obtain ⟨y, hy, hr⟩ := Option.bind_eq_some_iff.1 hr
    cases y with
    | inl y =>
      simp only [Tree.run, Option.some.injEq, Prod.mk.injEq] at hr
      obtain ⟨rfl, rfl⟩ := hr
      exact call_ok0 hs (fun k => (([a1.av F, a2.av F] : List AV)[k]?).getD .top) [.agg [.int .i64 v169, .int .i64 v170, a1, a2]] [.agg [.int .i64 v169, .int .i64 v170, .bslc (BR.root 0) (.f32 v171), .bslc (BR.root 1) (.i64 v172)]] (fun F' h0 hi hρ => ⟨by simp [DVs.av, DV.av, BR.av, hρ], impl_UpperOf_fn v169 v170 v171 v172 F' (by rw [hi]; rfl) (st_nil hi) ⟨⟨trivial, trivial, bslc_ok hi (by rw [h0, hρ]; exact rowF32_ok hs (DVs.okAt (DVs.okAt ha 0 rfl) 2 rfl) hv171), bslc_ok hi (by rw [h0, hρ]; exact rowI64_ok hs (DVs.okAt (DVs.okAt ha 0 rfl) 3 rfl) hv172), trivial⟩, trivial⟩ hy⟩) rfl
    | inr y =>
      simp only [Tree.run, Option.some.injEq, Prod.mk.injEq] at hr
      obtain ⟨rfl, rfl⟩ := hr
      exact call_ok1 hs (fun k => (([a1.av F, a2.av F] : List AV)[k]?).getD .top) [.agg [.int .i64 v169, .int .i64 v170, a1, a2]] [.agg [.int .i64 v169, .int .i64 v170, .bslc (BR.root 0) (.f32 v171), .bslc (BR.root 1) (.i64 v172)]] (fun F' h0 hi hρ => ⟨by simp [DVs.av, DV.av, BR.av, hρ], impl_UpperOf_fn v169 v170 v171 v172 F' (by rw [hi]; rfl) (st_nil hi) ⟨⟨trivial, trivial, bslc_ok hi (by rw [h0, hρ]; exact rowF32_ok hs (DVs.okAt (DVs.okAt ha 0 rfl) 2 rfl) hv171), bslc_ok hi (by rw [h0, hρ]; exact rowI64_ok hs (DVs.okAt (DVs.okAt ha 0 rfl) 3 rfl) hv172), trivial⟩, trivial⟩ hy⟩) rfl rfl
  · cases hr
/-! laws.sameFloat -/
noncomputable def laws_sameFloat_LO (v362 : Nat) (v363 : Nat) : LOr := fun id e L =>
  match id with
  | _ => .fail
noncomputable def laws_sameFloat_tab : List (FuncId × DFn × Bool) := []
theorem laws_sameFloat_hO : OrcOk Try.prog (tabD laws_sameFloat_tab) (tabM laws_sameFloat_tab) := tabD_nil _
noncomputable def laws_sameFloat_T (v362 : Nat) (v363 : Nat) : Tree (Bool) :=
  (.br (!feq .f64 v362 v362) (
   (.br (!feq .f64 v362 v362) (
    .leaf (!feq .f64 v363 v363)
   ) (
    .leaf false
   ))
  ) (
   (.br (!feq .f64 v363 v363) (
    (.br (!feq .f64 v362 v362) (
     .leaf (!feq .f64 v363 v363)
    ) (
     .leaf false
    ))
   ) (
    (.br (feq .f64 v362 (0 : Nat)) (
     (.br (feq .f64 v363 (0 : Nat)) (
      .leaf ((fgrt .f64 (fdiv .f64 (4607182418800017408 : Nat) v362) (0 : Nat)) == (fgrt .f64 (fdiv .f64 (4607182418800017408 : Nat) v363) (0 : Nat)))
     ) (
      .leaf (feq .f64 v362 v363)
     ))
    ) (
     .leaf (feq .f64 v362 v363)
    ))
   ))
  ))

noncomputable def laws_sameFloat_g (v362 : Nat) (v363 : Nat) : Option (Bool) := (laws_sameFloat_T v362 v363).run
def laws_sameFloat_enc (v362 : Nat) (v363 : Nat) (y : Bool) : Rs := (.bool y, [])
theorem laws_sameFloat_den (v362 : Nat) (v363 : Nat) : (den TT (tabD laws_sameFloat_tab) (tabM laws_sameFloat_tab) (laws_sameFloat_LO v362 v363) (codeOf Try.f53) ([.flt .f64 v362, .flt .f64 v363] ++ List.replicate (Try.f53.ntmps - ([.flt .f64 v362, .flt .f64 v363] : List DV).length) .undef) []).bind (retD TT Try.f53.results.toList 0) = (laws_sameFloat_T v362 v363).bind fun y => .leaf (laws_sameFloat_enc v362 v363 y) := by kernel_rfl
theorem laws_sameFloat_fn (v362 : Nat) (v363 : Nat) (F : Fr) (hm : F.ids.length = 0) (h0 : St F [] F.H0) (hA : DVs.Ok F [] [.flt .f64 v362, .flt .f64 v363]) {y : Bool} (hy : laws_sameFloat_g v362 v363 = some y) : ∃ H', FnOk Try.prog 53 (DVs.av F [.flt .f64 v362, .flt .f64 v363]) F.H0 ((laws_sameFloat_enc v362 v363 y).1.av F) H' ∧ St F (laws_sameFloat_enc v362 v363 y).2 H' ∧ (laws_sameFloat_enc v362 v363 y).1.Ok F (laws_sameFloat_enc v362 v363 y).2 :=
  fn_fin tok laws_sameFloat_hO mixed Try.func53 Try.call53 (by kernel_rfl) (LoopsOk_eq (l := []) (by kernel_rfl) trivial) (laws_sameFloat_den v362 v363) hy hm h0 hA
def laws_sameFloat_v (v362 : Nat) (v363 : Nat) : Bool :=
  if (!feq .f64 v362 v362) = true then (
   if (!feq .f64 v362 v362) = true then (
    !feq .f64 v363 v363
   ) else (
    false
   )
  ) else (
   if (!feq .f64 v363 v363) = true then (
    if (!feq .f64 v362 v362) = true then (
     !feq .f64 v363 v363
    ) else (
     false
    )
   ) else (
    if (feq .f64 v362 (0 : Nat)) = true then (
     if (feq .f64 v363 (0 : Nat)) = true then (
      (fgrt .f64 (fdiv .f64 (4607182418800017408 : Nat) v362) (0 : Nat)) == (fgrt .f64 (fdiv .f64 (4607182418800017408 : Nat) v363) (0 : Nat))
     ) else (
      feq .f64 v362 v363
     )
    ) else (
     feq .f64 v362 v363
    )
   )
  )
theorem laws_sameFloat_tot (v362 : Nat) (v363 : Nat) : laws_sameFloat_g v362 v363 = some (laws_sameFloat_v v362 v363) := by
  unfold laws_sameFloat_g laws_sameFloat_T laws_sameFloat_v
  simp only [Tree.run]
  repeat' (first | rfl | split)
noncomputable def laws_sameFloat_F : DFn := fun args L =>
  match args with
  | [.flt .f64 v362, .flt .f64 v363] =>
    .leaf (.bool (laws_sameFloat_v v362 v363), L)
  | _ => .fail
theorem laws_sameFloat_Fok : COk Try.prog 53 laws_sameFloat_F true := by
  intro F L H args r L' hs ha hr
  unfold laws_sameFloat_F at hr
  split at hr
  · rename_i v362 v363
    have hy := laws_sameFloat_tot v362 v363
    generalize laws_sameFloat_v v362 v363 = y at hy hr
    simp only [Tree.run, Option.some.injEq, Prod.mk.injEq] at hr
    obtain ⟨rfl, rfl⟩ := hr
    exact call_ok0 hs (fun k => (([] : List AV)[k]?).getD .top) [.flt .f64 v362, .flt .f64 v363] [.flt .f64 v362, .flt .f64 v363] (fun F' h0 hi hρ => ⟨by simp [DVs.av, DV.av, BR.av, hρ], laws_sameFloat_fn v362 v363 F' (by rw [hi]; rfl) (st_nil hi) ⟨trivial, trivial, trivial⟩ hy⟩) rfl
  · cases hr
/-! laws.eqFloat32S -/
noncomputable def laws_eqFloat32S_l0_T (v359 : List Nat) (v360 : List Nat) (s : Int) : Tree ((Int) ⊕ ((Unit) ⊕ (Unit))) :=
  (.br (decide (s < ((v359.length : Nat) : Int))) (
   (.grd (inb s v359.length) <|
   (.grd (inb s v360.length) <|
   (.br (!(laws_sameFloat_v (wid (nth v359 (Int.toNat s))) (wid (nth v360 (Int.toNat s))))) (
    .leaf (.inr (.inl ()))
   ) (
    .leaf (.inl (IntKind.i64.wrap (s + (1 : Int))))
   ))))
  ) (
   .leaf (.inr (.inr ()))
  ))

noncomputable def laws_eqFloat32S_l0_g (v359 : List Nat) (v360 : List Nat) (s0 : Int) : Option ((Unit) ⊕ (Unit)) := whileM (fun s => (laws_eqFloat32S_l0_T v359 v360 s).run) s0
def laws_eqFloat32S_l0_E (v359 : List Nat) (v360 : List Nat) (s : Int) : Sd := ([.bslc (BR.root 0) (.f32 v359), .bslc (BR.root 1) (.f32 v360), .top, .top, .top, .int .i64 s, .top, .top, .top, .top, .top, .top, .top, .top, .top, .top, .top, .top, .top, .top, .top, .top, .top, .top, .top, .top, .top, .top, .top], [])
def laws_eqFloat32S_l0_X (v359 : List Nat) (v360 : List Nat) (x : (Unit) ⊕ (Unit)) : Out := (match x with | .inl x => (.ret, [.top, .top, .top, .top, .lit false, .top, .top, .top, .top, .top, .top, .top, .top, .top, .top, .top, .top, .top, .top, .top, .top, .top, .top, .top, .top, .top, .top, .top, .top], []) | .inr x => (.normal, [.top, .top, .top, .top, .top, .top, .top, .top, .top, .top, .top, .top, .top, .top, .top, .top, .top, .top, .top, .top, .top, .top, .top, .top, .top, .top, .top, .top, .top], []))
def laws_eqFloat32S_l0_kill : List Nat := [0, 0, 1, 1, 1, 0, 1, 1, 1, 1, 1, 1, 1, 1, 1, 1, 1, 1, 1, 1, 1, 1, 1, 1, 1, 1, 1, 1, 1]
def laws_eqFloat32S_l0_nx : Exit → List Nat
  | .exit 0 => [1, 1, 1, 1, 1, 1, 1, 1, 1, 1, 1, 1, 1, 1, 1, 1, 1, 1, 1, 1, 1, 1, 1, 1, 1, 1, 1, 1, 1]
  | .ret => [1, 1, 1, 1, 0, 1, 1, 1, 1, 1, 1, 1, 1, 1, 1, 1, 1, 1, 1, 1, 1, 1, 1, 1, 1, 1, 1, 1, 1]
  | _ => []
noncomputable def laws_eqFloat32S_LO (v359 : List Nat) (v360 : List Nat) : LOr := fun id e L =>
  match id with
  | 0 => .need (normA 0 laws_eqFloat32S_l0_kill e L = some (laws_eqFloat32S_l0_E v359 v360 (gI (vAt e 5)))) (.call (laws_eqFloat32S_l0_g v359 v360 (gI (vAt e 5))) fun x => .sum x (fun b0 => .leaf (laws_eqFloat32S_l0_X v359 v360 (.inl b0))) (fun c0 => .leaf (laws_eqFloat32S_l0_X v359 v360 (.inr c0))))
  | _ => .fail
noncomputable def laws_eqFloat32S_tab : List (FuncId × DFn × Bool) := [(53, laws_sameFloat_F, true)]
theorem laws_eqFloat32S_hO : OrcOk Try.prog (tabD laws_eqFloat32S_tab) (tabM laws_eqFloat32S_tab) := tabD_cons laws_sameFloat_Fok (tabD_nil _)
theorem laws_eqFloat32S_l0_be (v359 : List Nat) (v360 : List Nat) (s : Int) : bodyT TT (tabD laws_eqFloat32S_tab) (tabM laws_eqFloat32S_tab) (laws_eqFloat32S_LO v359 v360) 0 laws_eqFloat32S_l0_kill laws_eqFloat32S_l0_nx (bodyOf Try.f20 0) 0 (laws_eqFloat32S_l0_E v359 v360 s) = (laws_eqFloat32S_l0_T v359 v360 s).bind fun y => .leaf (outS (laws_eqFloat32S_l0_E v359 v360) (laws_eqFloat32S_l0_X v359 v360) y) := by kernel_rfl
theorem laws_eqFloat32S_l0_ok (v359 : List Nat) (v360 : List Nat) : LSound Try.prog 0 (laws_eqFloat32S_LO v359 v360) 0 (bodyOf Try.f20 0) := by
  intro e L out h
  exact lo_ok (E := laws_eqFloat32S_l0_E v359 v360) (gT := laws_eqFloat32S_l0_T v359 v360) (X := laws_eqFloat32S_l0_X v359 v360) (s0 := (gI (vAt e 5))) tok laws_eqFloat32S_hO mixed (LoopsOk_eq (l := []) (by kernel_rfl) trivial) (laws_eqFloat32S_l0_be v359 v360) rfl (by intro x; (cases x with | inl b => rfl | inr x => exact rfl)) h
noncomputable def laws_eqFloat32S_T (v359 : List Nat) (v360 : List Nat) : Tree (Bool) :=
  (.br (!decide (((v359.length : Nat) : Int) = ((v360.length : Nat) : Int))) (
   .leaf false
  ) (
   (.need (some (laws_eqFloat32S_l0_E v359 v360 (0 : Int)) = some (laws_eqFloat32S_l0_E v359 v360 (0 : Int))) <|
   (.call (laws_eqFloat32S_l0_g v359 v360 (0 : Int)) fun v366 =>
   (.sum v366 (fun v367 =>
    .leaf false
   ) (fun v368 =>
    .leaf true
   ))))
  ))

noncomputable def laws_eqFloat32S_g (v359 : List Nat) (v360 : List Nat) : Option (Bool) := (laws_eqFloat32S_T v359 v360).run
def laws_eqFloat32S_enc (v359 : List Nat) (v360 : List Nat) (y : Bool) : Rs := (.bool y, [])
theorem laws_eqFloat32S_den (v359 : List Nat) (v360 : List Nat) : (den TT (tabD laws_eqFloat32S_tab) (tabM laws_eqFloat32S_tab) (laws_eqFloat32S_LO v359 v360) (codeOf Try.f20) ([.bslc (BR.root 0) (.f32 v359), .bslc (BR.root 1) (.f32 v360)] ++ List.replicate (Try.f20.ntmps - ([.bslc (BR.root 0) (.f32 v359), .bslc (BR.root 1) (.f32 v360)] : List DV).length) .undef) []).bind (retD TT Try.f20.results.toList 0) = (laws_eqFloat32S_T v359 v360).bind fun y => .leaf (laws_eqFloat32S_enc v359 v360 y) := by kernel_rfl
theorem laws_eqFloat32S_fn (v359 : List Nat) (v360 : List Nat) (F : Fr) (hm : F.ids.length = 0) (h0 : St F [] F.H0) (hA : DVs.Ok F [] [.bslc (BR.root 0) (.f32 v359), .bslc (BR.root 1) (.f32 v360)]) {y : Bool} (hy : laws_eqFloat32S_g v359 v360 = some y) : ∃ H', FnOk Try.prog 20 (DVs.av F [.bslc (BR.root 0) (.f32 v359), .bslc (BR.root 1) (.f32 v360)]) F.H0 ((laws_eqFloat32S_enc v359 v360 y).1.av F) H' ∧ St F (laws_eqFloat32S_enc v359 v360 y).2 H' ∧ (laws_eqFloat32S_enc v359 v360 y).1.Ok F (laws_eqFloat32S_enc v359 v360 y).2 :=
  fn_fin tok laws_eqFloat32S_hO mixed Try.func20 Try.call20 (by kernel_rfl) (LoopsOk_eq (l := [(0, bodyOf Try.f20 0)]) (by kernel_rfl) ⟨laws_eqFloat32S_l0_ok v359 v360, trivial⟩) (laws_eqFloat32S_den v359 v360) hy hm h0 hA
noncomputable def laws_eqFloat32S_F : DFn := fun args L =>
  match args with
  | [a1, a2] =>
    optT (rowF32 L a1) fun v359 =>
    optT (rowF32 L a2) fun v360 =>
    .call (laws_eqFloat32S_g v359 v360) fun y => .leaf (.bool y, L)
  | _ => .fail
theorem laws_eqFloat32S_Fok : COk Try.prog 20 laws_eqFloat32S_F true := by
  intro F L H args r L' hs ha hr
  unfold laws_eqFloat32S_F at hr
  split at hr
  · rename_i a1 a2
    obtain ⟨v359, hv359, hr⟩ := optT_run hr
    obtain ⟨v360, hv360, hr⟩ := optT_run hr
    simp only [Tree.run] at hr
    obtain ⟨y, hy, hr⟩ := Option.bind_eq_some_iff.1 hr
    simp only [Tree.run, Option.some.injEq, Prod.mk.injEq] at hr
    obtain ⟨rfl, rfl⟩ := hr
    exact call_ok0 hs (fun k => (([a1.av F, a2.av F] : List AV)[k]?).getD .top) [a1, a2] [.bslc (BR.root 0) (.f32 v359), .bslc (BR.root 1) (.f32 v360)] (fun F' h0 hi hρ => ⟨by simp [DVs.av, DV.av, BR.av, hρ], laws_eqFloat32S_fn v359 v360 F' (by rw [hi]; rfl) (st_nil hi) ⟨bslc_ok hi (by rw [h0, hρ]; exact rowF32_ok hs (DVs.okAt ha 0 rfl) hv359), bslc_ok hi (by rw [h0, hρ]; exact rowF32_ok hs (DVs.okAt ha 1 rfl) hv360), trivial⟩ hy⟩) rfl
  · cases hr
/-! laws.eqMatrix -/
noncomputable def laws_eqMatrix_LO (v353 : Int) (v354 : Int) (v355 : List Nat) (v356 : Int) (v357 : Int) (v358 : List Nat) : LOr := fun id e L =>
  match id with
  | _ => .fail
noncomputable def laws_eqMatrix_tab : List (FuncId × DFn × Bool) := [(20, laws_eqFloat32S_F, true)]
theorem laws_eqMatrix_hO : OrcOk Try.prog (tabD laws_eqMatrix_tab) (tabM laws_eqMatrix_tab) := tabD_cons laws_eqFloat32S_Fok (tabD_nil _)
noncomputable def laws_eqMatrix_T (v353 : Int) (v354 : Int) (v355 : List Nat) (v356 : Int) (v357 : Int) (v358 : List Nat) : Tree (Bool) :=
  (.br (!decide (v353 = v356)) (
   .leaf false
  ) (
   (.br (!decide (v354 = v357)) (
    .leaf false
   ) (
    (.call (laws_eqFloat32S_g v355 v358) fun v369 =>
    (.br (!v369) (
     .leaf false
    ) (
     .leaf true
    )))
   ))
  ))

noncomputable def laws_eqMatrix_g (v353 : Int) (v354 : Int) (v355 : List Nat) (v356 : Int) (v357 : Int) (v358 : List Nat) : Option (Bool) := (laws_eqMatrix_T v353 v354 v355 v356 v357 v358).run
def laws_eqMatrix_enc (v353 : Int) (v354 : Int) (v355 : List Nat) (v356 : Int) (v357 : Int) (v358 : List Nat) (y : Bool) : Rs := (.bool y, [])
theorem laws_eqMatrix_den (v353 : Int) (v354 : Int) (v355 : List Nat) (v356 : Int) (v357 : Int) (v358 : List Nat) : (den TT (tabD laws_eqMatrix_tab) (tabM laws_eqMatrix_tab) (laws_eqMatrix_LO v353 v354 v355 v356 v357 v358) (codeOf Try.f33) ([.agg [.int .i64 v353, .int .i64 v354, .bslc (BR.root 0) (.f32 v355)], .agg [.int .i64 v356, .int .i64 v357, .bslc (BR.root 1) (.f32 v358)]] ++ List.replicate (Try.f33.ntmps - ([.agg [.int .i64 v353, .int .i64 v354, .bslc (BR.root 0) (.f32 v355)], .agg [.int .i64 v356, .int .i64 v357, .bslc (BR.root 1) (.f32 v358)]] : List DV).length) .undef) []).bind (retD TT Try.f33.results.toList 0) = (laws_eqMatrix_T v353 v354 v355 v356 v357 v358).bind fun y => .leaf (laws_eqMatrix_enc v353 v354 v355 v356 v357 v358 y) := by kernel_rfl
theorem laws_eqMatrix_fn (v353 : Int) (v354 : Int) (v355 : List Nat) (v356 : Int) (v357 : Int) (v358 : List Nat) (F : Fr) (hm : F.ids.length = 0) (h0 : St F [] F.H0) (hA : DVs.Ok F [] [.agg [.int .i64 v353, .int .i64 v354, .bslc (BR.root 0) (.f32 v355)], .agg [.int .i64 v356, .int .i64 v357, .bslc (BR.root 1) (.f32 v358)]]) {y : Bool} (hy : laws_eqMatrix_g v353 v354 v355 v356 v357 v358 = some y) : ∃ H', FnOk Try.prog 33 (DVs.av F [.agg [.int .i64 v353, .int .i64 v354, .bslc (BR.root 0) (.f32 v355)], .agg [.int .i64 v356, .int .i64 v357, .bslc (BR.root 1) (.f32 v358)]]) F.H0 ((laws_eqMatrix_enc v353 v354 v355 v356 v357 v358 y).1.av F) H' ∧ St F (laws_eqMatrix_enc v353 v354 v355 v356 v357 v358 y).2 H' ∧ (laws_eqMatrix_enc v353 v354 v355 v356 v357 v358 y).1.Ok F (laws_eqMatrix_enc v353 v354 v355 v356 v357 v358 y).2 :=
  fn_fin tok laws_eqMatrix_hO mixed Try.func33 Try.call33 (by kernel_rfl) (LoopsOk_eq (l := []) (by kernel_rfl) trivial) (laws_eqMatrix_den v353 v354 v355 v356 v357 v358) hy hm h0 hA
noncomputable def laws_eqMatrix_F : DFn := fun args L =>
  match args with
  | [.agg [.int .i64 v353, .int .i64 v354, a1], .agg [.int .i64 v356, .int .i64 v357, a2]] =>
    optT (rowF32 L a1) fun v355 =>
    optT (rowF32 L a2) fun v358 =>
    .call (laws_eqMatrix_g v353 v354 v355 v356 v357 v358) fun y => .leaf (.bool y, L)
  | _ => .fail
theorem laws_eqMatrix_Fok : COk Try.prog 33 laws_eqMatrix_F true := by
  intro F L H args r L' hs ha hr
  unfold laws_eqMatrix_F at hr
  split at hr
  · rename_i v353 v354 a1 v356 v357 a2
    obtain ⟨v355, hv355, hr⟩ := optT_run hr
    obtain ⟨v358, hv358, hr⟩ := optT_run hr
    simp only [Tree.run] at hr
    obtain ⟨y, hy, hr⟩ := Option.bind_eq_some_iff.1 hr
    simp only [Tree.run, Option.some.injEq, Prod.mk.injEq] at hr
    obtain ⟨rfl, rfl⟩ := hr
    exact call_ok0 hs (fun k => (([a1.av F, a2.av F] : List AV)[k]?).getD .top) [.agg [.int .i64 v353, .int .i64 v354, a1], .agg [.int .i64 v356, .int .i64 v357, a2]] [.agg [.int .i64 v353, .int .i64 v354, .bslc (BR.root 0) (.f32 v355)], .agg [.int .i64 v356, .int .i64 v357, .bslc (BR.root 1) (.f32 v358)]] (fun F' h0 hi hρ => ⟨by simp [DVs.av, DV.av, BR.av, hρ], laws_eqMatrix_fn v353 v354 v355 v356 v357 v358 F' (by rw [hi]; rfl) (st_nil hi) ⟨⟨trivial, trivial, bslc_ok hi (by rw [h0, hρ]; exact rowF32_ok hs (DVs.okAt (DVs.okAt ha 0 rfl) 2 rfl) hv355), trivial⟩, ⟨trivial, trivial, bslc_ok hi (by rw [h0, hρ]; exact rowF32_ok hs (DVs.okAt (DVs.okAt ha 1 rfl) 2 rfl) hv358), trivial⟩, trivial⟩ hy⟩) rfl
  · cases hr
/-! laws.eqInt64S -/
noncomputable def laws_eqInt64S_l0_T (v381 : List Int) (v382 : List Int) (s : Int) : Tree ((Int) ⊕ ((Unit) ⊕ (Unit))) :=
  (.br (decide (s < ((v381.length : Nat) : Int))) (
   (.grd (inb s v381.length) <|
   (.grd (inb s v382.length) <|
   (.br (!decide (nth v381 (Int.toNat s) = nth v382 (Int.toNat s))) (
    .leaf (.inr (.inl ()))
   ) (
    .leaf (.inl (IntKind.i64.wrap (s + (1 : Int))))
   ))))
  ) (
   .leaf (.inr (.inr ()))
  ))

noncomputable def laws_eqInt64S_l0_g (v381 : List Int) (v382 : List Int) (s0 : Int) : Option ((Unit) ⊕ (Unit)) := whileM (fun s => (laws_eqInt64S_l0_T v381 v382 s).run) s0
def laws_eqInt64S_l0_E (v381 : List Int) (v382 : List Int) (s : Int) : Sd := ([.bslc (BR.root 0) (.i64 v381), .bslc (BR.root 1) (.i64 v382), .top, .top, .top, .int .i64 s, .top, .top, .top, .top, .top, .top, .top, .top, .top, .top, .top, .top, .top, .top, .top, .top, .top, .top, .top, .top], [])
def laws_eqInt64S_l0_X (v381 : List Int) (v382 : List Int) (x : (Unit) ⊕ (Unit)) : Out := (match x with | .inl x => (.ret, [.top, .top, .top, .top, .lit false, .top, .top, .top, .top, .top, .top, .top, .top, .top, .top, .top, .top, .top, .top, .top, .top, .top, .top, .top, .top, .top], []) | .inr x => (.normal, [.top, .top, .top, .top, .top, .top, .top, .top, .top, .top, .top, .top, .top, .top, .top, .top, .top, .top, .top, .top, .top, .top, .top, .top, .top, .top], []))
def laws_eqInt64S_l0_kill : List Nat := [0, 0, 1, 1, 1, 0, 1, 1, 1, 1, 1, 1, 1, 1, 1, 1, 1, 1, 1, 1, 1, 1, 1, 1, 1, 1]
def laws_eqInt64S_l0_nx : Exit → List Nat
  | .exit 0 => [1, 1, 1, 1, 1, 1, 1, 1, 1, 1, 1, 1, 1, 1, 1, 1, 1, 1, 1, 1, 1, 1, 1, 1, 1, 1]
  | .ret => [1, 1, 1, 1, 0, 1, 1, 1, 1, 1, 1, 1, 1, 1, 1, 1, 1, 1, 1, 1, 1, 1, 1, 1, 1, 1]
  | _ => []
noncomputable def laws_eqInt64S_LO (v381 : List Int) (v382 : List Int) : LOr := fun id e L =>
  match id with
  | 0 => .need (normA 0 laws_eqInt64S_l0_kill e L = some (laws_eqInt64S_l0_E v381 v382 (gI (vAt e 5)))) (.call (laws_eqInt64S_l0_g v381 v382 (gI (vAt e 5))) fun x => .sum x (fun b0 => .leaf (laws_eqInt64S_l0_X v381 v382 (.inl b0))) (fun c0 => .leaf (laws_eqInt64S_l0_X v381 v382 (.inr c0))))
  | _ => .fail
noncomputable def laws_eqInt64S_tab : List (FuncId × DFn × Bool) := []
theorem laws_eqInt64S_hO : OrcOk Try.prog (tabD laws_eqInt64S_tab) (tabM laws_eqInt64S_tab) := tabD_nil _
theorem laws_eqInt64S_l0_be (v381 : List Int) (v382 : List Int) (s : Int) : bodyT TT (tabD laws_eqInt64S_tab) (tabM laws_eqInt64S_tab) (laws_eqInt64S_LO v381 v382) 0 laws_eqInt64S_l0_kill laws_eqInt64S_l0_nx (bodyOf Try.f44 0) 0 (laws_eqInt64S_l0_E v381 v382 s) = (laws_eqInt64S_l0_T v381 v382 s).bind fun y => .leaf (outS (laws_eqInt64S_l0_E v381 v382) (laws_eqInt64S_l0_X v381 v382) y) := by kernel_rfl
theorem laws_eqInt64S_l0_ok (v381 : List Int) (v382 : List Int) : LSound Try.prog 0 (laws_eqInt64S_LO v381 v382) 0 (bodyOf Try.f44 0) := by
  intro e L out h
  exact lo_ok (E := laws_eqInt64S_l0_E v381 v382) (gT := laws_eqInt64S_l0_T v381 v382) (X := laws_eqInt64S_l0_X v381 v382) (s0 := (gI (vAt e 5))) tok laws_eqInt64S_hO mixed (LoopsOk_eq (l := []) (by kernel_rfl) trivial) (laws_eqInt64S_l0_be v381 v382) rfl (by intro x; (cases x with | inl b => rfl | inr x => exact rfl)) h
noncomputable def laws_eqInt64S_T (v381 : List Int) (v382 : List Int) : Tree (Bool) :=
  (.br (!decide (((v381.length : Nat) : Int) = ((v382.length : Nat) : Int))) (
   .leaf false
  ) (
   (.need (some (laws_eqInt64S_l0_E v381 v382 (0 : Int)) = some (laws_eqInt64S_l0_E v381 v382 (0 : Int))) <|
   (.call (laws_eqInt64S_l0_g v381 v382 (0 : Int)) fun v386 =>
   (.sum v386 (fun v387 =>
    .leaf false
   ) (fun v388 =>
    .leaf true
   ))))
  ))

noncomputable def laws_eqInt64S_g (v381 : List Int) (v382 : List Int) : Option (Bool) := (laws_eqInt64S_T v381 v382).run
def laws_eqInt64S_enc (v381 : List Int) (v382 : List Int) (y : Bool) : Rs := (.bool y, [])
theorem laws_eqInt64S_den (v381 : List Int) (v382 : List Int) : (den TT (tabD laws_eqInt64S_tab) (tabM laws_eqInt64S_tab) (laws_eqInt64S_LO v381 v382) (codeOf Try.f44) ([.bslc (BR.root 0) (.i64 v381), .bslc (BR.root 1) (.i64 v382)] ++ List.replicate (Try.f44.ntmps - ([.bslc (BR.root 0) (.i64 v381), .bslc (BR.root 1) (.i64 v382)] : List DV).length) .undef) []).bind (retD TT Try.f44.results.toList 0) = (laws_eqInt64S_T v381 v382).bind fun y => .leaf (laws_eqInt64S_enc v381 v382 y) := by kernel_rfl
theorem laws_eqInt64S_fn (v381 : List Int) (v382 : List Int) (F : Fr) (hm : F.ids.length = 0) (h0 : St F [] F.H0) (hA : DVs.Ok F [] [.bslc (BR.root 0) (.i64 v381), .bslc (BR.root 1) (.i64 v382)]) {y : Bool} (hy : laws_eqInt64S_g v381 v382 = some y) : ∃ H', FnOk Try.prog 44 (DVs.av F [.bslc (BR.root 0) (.i64 v381), .bslc (BR.root 1) (.i64 v382)]) F.H0 ((laws_eqInt64S_enc v381 v382 y).1.av F) H' ∧ St F (laws_eqInt64S_enc v381 v382 y).2 H' ∧ (laws_eqInt64S_enc v381 v382 y).1.Ok F (laws_eqInt64S_enc v381 v382 y).2 :=
  fn_fin tok laws_eqInt64S_hO mixed Try.func44 Try.call44 (by kernel_rfl) (LoopsOk_eq (l := [(0, bodyOf Try.f44 0)]) (by kernel_rfl) ⟨laws_eqInt64S_l0_ok v381 v382, trivial⟩) (laws_eqInt64S_den v381 v382) hy hm h0 hA
noncomputable def laws_eqInt64S_F : DFn := fun args L =>
  match args with
  | [a1, a2] =>
    optT (rowI64 L a1) fun v381 =>
    optT (rowI64 L a2) fun v382 =>
    .call (laws_eqInt64S_g v381 v382) fun y => .leaf (.bool y, L)
  | _ => .fail
theorem laws_eqInt64S_Fok : COk Try.prog 44 laws_eqInt64S_F true := by
  intro F L H args r L' hs ha hr
  unfold laws_eqInt64S_F at hr
  split at hr
  · rename_i a1 a2
    obtain ⟨v381, hv381, hr⟩ := optT_run hr
    obtain ⟨v382, hv382, hr⟩ := optT_run hr
    simp only [Tree.run] at hr
    obtain ⟨y, hy, hr⟩ := Option.bind_eq_some_iff.1 hr
    simp only [Tree.run, Option.some.injEq, Prod.mk.injEq] at hr
    obtain ⟨rfl, rfl⟩ := hr
    exact call_ok0 hs (fun k => (([a1.av F, a2.av F] : List AV)[k]?).getD .top) [a1, a2] [.bslc (BR.root 0) (.i64 v381), .bslc (BR.root 1) (.i64 v382)] (fun F' h0 hi hρ => ⟨by simp [DVs.av, DV.av, BR.av, hρ], laws_eqInt64S_fn v381 v382 F' (by rw [hi]; rfl) (st_nil hi) ⟨bslc_ok hi (by rw [h0, hρ]; exact rowI64_ok hs (DVs.okAt ha 0 rfl) hv381), bslc_ok hi (by rw [h0, hρ]; exact rowI64_ok hs (DVs.okAt ha 1 rfl) hv382), trivial⟩ hy⟩) rfl
  · cases hr
/-! laws.eqFactor -/
noncomputable def laws_eqFactor_LO (v372 : Int) (v373 : Int) (v374 : List Nat) (v375 : List Int) (v376 : Int) (v377 : Int) (v378 : List Nat) (v379 : List Int) : LOr := fun id e L =>
  match id with
  | _ => .fail
noncomputable def laws_eqFactor_tab : List (FuncId × DFn × Bool) := [(33, laws_eqMatrix_F, true), (44, laws_eqInt64S_F, true)]
theorem laws_eqFactor_hO : OrcOk Try.prog (tabD laws_eqFactor_tab) (tabM laws_eqFactor_tab) := tabD_cons laws_eqMatrix_Fok (tabD_cons laws_eqInt64S_Fok (tabD_nil _))
noncomputable def laws_eqFactor_T (v372 : Int) (v373 : Int) (v374 : List Nat) (v375 : List Int) (v376 : Int) (v377 : Int) (v378 : List Nat) (v379 : List Int) : Tree (Bool) :=
  (.call (laws_eqMatrix_g v372 v373 v374 v376 v377 v378) fun v380 =>
  (.br (!v380) (
   .leaf false
  ) (
   (.call (laws_eqInt64S_g v375 v379) fun v389 =>
   (.br (!v389) (
    .leaf false
   ) (
    .leaf true
   )))
  )))

noncomputable def laws_eqFactor_g (v372 : Int) (v373 : Int) (v374 : List Nat) (v375 : List Int) (v376 : Int) (v377 : Int) (v378 : List Nat) (v379 : List Int) : Option (Bool) := (laws_eqFactor_T v372 v373 v374 v375 v376 v377 v378 v379).run
def laws_eqFactor_enc (v372 : Int) (v373 : Int) (v374 : List Nat) (v375 : List Int) (v376 : Int) (v377 : Int) (v378 : List Nat) (v379 : List Int) (y : Bool) : Rs := (.bool y, [])
theorem laws_eqFactor_den (v372 : Int) (v373 : Int) (v374 : List Nat) (v375 : List Int) (v376 : Int) (v377 : Int) (v378 : List Nat) (v379 : List Int) : (den TT (tabD laws_eqFactor_tab) (tabM laws_eqFactor_tab) (laws_eqFactor_LO v372 v373 v374 v375 v376 v377 v378 v379) (codeOf Try.f50) ([.agg [.int .i64 v372, .int .i64 v373, .bslc (BR.root 0) (.f32 v374), .bslc (BR.root 1) (.i64 v375)], .agg [.int .i64 v376, .int .i64 v377, .bslc (BR.root 2) (.f32 v378), .bslc (BR.root 3) (.i64 v379)]] ++ List.replicate (Try.f50.ntmps - ([.agg [.int .i64 v372, .int .i64 v373, .bslc (BR.root 0) (.f32 v374), .bslc (BR.root 1) (.i64 v375)], .agg [.int .i64 v376, .int .i64 v377, .bslc (BR.root 2) (.f32 v378), .bslc (BR.root 3) (.i64 v379)]] : List DV).length) .undef) []).bind (retD TT Try.f50.results.toList 0) = (laws_eqFactor_T v372 v373 v374 v375 v376 v377 v378 v379).bind fun y => .leaf (laws_eqFactor_enc v372 v373 v374 v375 v376 v377 v378 v379 y) := by kernel_rfl
theorem laws_eqFactor_fn (v372 : Int) (v373 : Int) (v374 : List Nat) (v375 : List Int) (v376 : Int) (v377 : Int) (v378 : List Nat) (v379 : List Int) (F : Fr) (hm : F.ids.length = 0) (h0 : St F [] F.H0) (hA : DVs.Ok F [] [.agg [.int .i64 v372, .int .i64 v373, .bslc (BR.root 0) (.f32 v374), .bslc (BR.root 1) (.i64 v375)], .agg [.int .i64 v376, .int .i64 v377, .bslc (BR.root 2) (.f32 v378), .bslc (BR.root 3) (.i64 v379)]]) {y : Bool} (hy : laws_eqFactor_g v372 v373 v374 v375 v376 v377 v378 v379 = some y) : ∃ H', FnOk Try.prog 50 (DVs.av F [.agg [.int .i64 v372, .int .i64 v373, .bslc (BR.root 0) (.f32 v374), .bslc (BR.root 1) (.i64 v375)], .agg [.int .i64 v376, .int .i64 v377, .bslc (BR.root 2) (.f32 v378), .bslc (BR.root 3) (.i64 v379)]]) F.H0 ((laws_eqFactor_enc v372 v373 v374 v375 v376 v377 v378 v379 y).1.av F) H' ∧ St F (laws_eqFactor_enc v372 v373 v374 v375 v376 v377 v378 v379 y).2 H' ∧ (laws_eqFactor_enc v372 v373 v374 v375 v376 v377 v378 v379 y).1.Ok F (laws_eqFactor_enc v372 v373 v374 v375 v376 v377 v378 v379 y).2 :=
  fn_fin tok laws_eqFactor_hO mixed Try.func50 Try.call50 (by kernel_rfl) (LoopsOk_eq (l := []) (by kernel_rfl) trivial) (laws_eqFactor_den v372 v373 v374 v375 v376 v377 v378 v379) hy hm h0 hA
noncomputable def laws_eqFactor_F : DFn := fun args L =>
  match args with
  | [.agg [.int .i64 v372, .int .i64 v373, a1, a2], .agg [.int .i64 v376, .int .i64 v377, a3, a4]] =>
    optT (rowF32 L a1) fun v374 =>
    optT (rowI64 L a2) fun v375 =>
    optT (rowF32 L a3) fun v378 =>
    optT (rowI64 L a4) fun v379 =>
    .call (laws_eqFactor_g v372 v373 v374 v375 v376 v377 v378 v379) fun y => .leaf (.bool y, L)
  | _ => .fail
theorem laws_eqFactor_Fok : COk Try.prog 50 laws_eqFactor_F true := by
  intro F L H args r L' hs ha hr
  unfold laws_eqFactor_F at hr
  split at hr
  · rename_i v372 v373 a1 a2 v376 v377 a3 a4
    obtain ⟨v374, hv374, hr⟩ := optT_run hr
    obtain ⟨v375, hv375, hr⟩ := optT_run hr
    obtain ⟨v378, hv378, hr⟩ := optT_run hr
    obtain ⟨v379, hv379, hr⟩ := optT_run hr
    simp only [Tree.run] at hr
    obtain ⟨y, hy, hr⟩ := Option.bind_eq_some_iff.1 hr
    simp only [Tree.run, Option.some.injEq, Prod.mk.injEq] at hr
    obtain ⟨rfl, rfl⟩ := hr
    exact call_ok0 hs (fun k => (([a1.av F, a2.av F, a3.av F, a4.av F] : List AV)[k]?).getD .top) [.agg [.int .i64 v372, .int .i64 v373, a1, a2], .agg [.int .i64 v376, .int .i64 v377, a3, a4]] [.agg [.int .i64 v372, .int .i64 v373, .bslc (BR.root 0) (.f32 v374), .bslc (BR.root 1) (.i64 v375)], .agg [.int .i64 v376, .int .i64 v377, .bslc (BR.root 2) (.f32 v378), .bslc (BR.root 3) (.i64 v379)]] (fun F' h0 hi hρ => ⟨by simp [DVs.av, DV.av, BR.av, hρ], laws_eqFactor_fn v372 v373 v374 v375 v376 v377 v378 v379 F' (by rw [hi]; rfl) (st_nil hi) ⟨⟨trivial, trivial, bslc_ok hi (by rw [h0, hρ]; exact rowF32_ok hs (DVs.okAt (DVs.okAt ha 0 rfl) 2 rfl) hv374), bslc_ok hi (by rw [h0, hρ]; exact rowI64_ok hs (DVs.okAt (DVs.okAt ha 0 rfl) 3 rfl) hv375), trivial⟩, ⟨trivial, trivial, bslc_ok hi (by rw [h0, hρ]; exact rowF32_ok hs (DVs.okAt (DVs.okAt ha 1 rfl) 2 rfl) hv378), bslc_ok hi (by rw [h0, hρ]; exact rowI64_ok hs (DVs.okAt (DVs.okAt ha 1 rfl) 3 rfl) hv379), trivial⟩, trivial⟩ hy⟩) rfl
  · cases hr
/-! laws.markFloat32S -/
noncomputable def laws_markFloat32S_l0_T (s : Int × Int × (List Nat)) : Tree ((Int × Int × (List Nat)) ⊕ (Int × (List Nat))) :=
  (.br (decide (s.2.1 < (((s.2.2).length : Nat) : Int))) (
   (.grd (inb s.2.1 ((s.2.2).length)) <|
   .leaf (.inl (IntKind.i64.wrap (s.1 + (1 : Int)), IntKind.i64.wrap (s.2.1 + (1 : Int)), List.set s.2.2 (Int.toNat s.2.1) (fofint .f32 s.1))))
  ) (
   .leaf (.inr (s.1, s.2.2))
  ))

noncomputable def laws_markFloat32S_l0_g (s0 : Int × Int × (List Nat)) : Option (Int × (List Nat)) := whileM (fun s => (laws_markFloat32S_l0_T s).run) s0
def laws_markFloat32S_l0_E (v404 : List Nat) (v405 : Int) (s : Int × Int × (List Nat)) : Sd := ([.own 0 0 ((s.2.2).length), .int .i64 s.1, .top, .top, .top, .int .i64 s.2.1, .top, .top, .top, .top, .top, .top, .top, .top, .top, .top, .top, .top, .top, .top], [.row (.f32 s.2.2) 0])
def laws_markFloat32S_l0_X (v404 : List Nat) (v405 : Int) (x : Int × (List Nat)) : Out := (.normal, [.top, .int .i64 x.1, .top, .top, .top, .top, .top, .top, .top, .top, .top, .top, .top, .top, .top, .top, .top, .top, .top, .top], [.row (.f32 x.2) 0])
def laws_markFloat32S_l0_kill : List Nat := [0, 0, 1, 1, 1, 0, 1, 1, 1, 1, 1, 1, 1, 1, 1, 1, 1, 1, 1, 1]
def laws_markFloat32S_l0_nx : Exit → List Nat
  | .exit 0 => [1, 0, 1, 1, 1, 1, 1, 1, 1, 1, 1, 1, 1, 1, 1, 1, 1, 1, 1, 1]
  | .ret => [1, 1, 1, 1, 0, 1, 1, 1, 1, 1, 1, 1, 1, 1, 1, 1, 1, 1, 1, 1]
  | _ => []
noncomputable def laws_markFloat32S_LO (v404 : List Nat) (v405 : Int) : LOr := fun id e L =>
  match id with
  | 0 => .need (normA 1 laws_markFloat32S_l0_kill e L = some (laws_markFloat32S_l0_E v404 v405 ((gI (vAt e 1)), (gI (vAt e 5)), (gRF L (vAt e 0))))) (.call (laws_markFloat32S_l0_g ((gI (vAt e 1)), (gI (vAt e 5)), (gRF L (vAt e 0)))) fun x => .leaf (laws_markFloat32S_l0_X v404 v405 x))
  | _ => .fail
noncomputable def laws_markFloat32S_tab : List (FuncId × DFn × Bool) := []
theorem laws_markFloat32S_hO : OrcOk Try.prog (tabD laws_markFloat32S_tab) (tabM laws_markFloat32S_tab) := tabD_nil _
theorem laws_markFloat32S_l0_be (v404 : List Nat) (v405 : Int) (s : Int × Int × (List Nat)) : bodyT TT (tabD laws_markFloat32S_tab) (tabM laws_markFloat32S_tab) (laws_markFloat32S_LO v404 v405) 1 laws_markFloat32S_l0_kill laws_markFloat32S_l0_nx (bodyOf Try.f23 0) 0 (laws_markFloat32S_l0_E v404 v405 s) = (laws_markFloat32S_l0_T s).bind fun y => .leaf (outS (laws_markFloat32S_l0_E v404 v405) (laws_markFloat32S_l0_X v404 v405) y) := by kernel_rfl
theorem laws_markFloat32S_l0_ok (v404 : List Nat) (v405 : Int) : LSound Try.prog 1 (laws_markFloat32S_LO v404 v405) 0 (bodyOf Try.f23 0) := by
  intro e L out h
  exact lo_ok (E := laws_markFloat32S_l0_E v404 v405) (gT := laws_markFloat32S_l0_T) (X := laws_markFloat32S_l0_X v404 v405) (s0 := ((gI (vAt e 1)), (gI (vAt e 5)), (gRF L (vAt e 0)))) tok laws_markFloat32S_hO mixed (LoopsOk_eq (l := []) (by kernel_rfl) trivial) (laws_markFloat32S_l0_be v404 v405) rfl (by intro x; rfl) h
noncomputable def laws_markFloat32S_T (v404 : List Nat) (v405 : Int) : Tree (Int × (List Nat)) :=
  (.need (some (laws_markFloat32S_l0_E v404 v405 (v405, (0 : Int), v404)) = some (laws_markFloat32S_l0_E v404 v405 (v405, (0 : Int), v404))) <|
  (.call (laws_markFloat32S_l0_g (v405, (0 : Int), v404)) fun v414 =>
  .leaf (v414.1, v414.2)))

noncomputable def laws_markFloat32S_g (v404 : List Nat) (v405 : Int) : Option (Int × (List Nat)) := (laws_markFloat32S_T v404 v405).run
def laws_markFloat32S_enc (v404 : List Nat) (v405 : Int) (y : Int × (List Nat)) : Rs := (.int .i64 y.1, [.row (.f32 y.2) 0])
theorem laws_markFloat32S_den (v404 : List Nat) (v405 : Int) : (den TT (tabD laws_markFloat32S_tab) (tabM laws_markFloat32S_tab) (laws_markFloat32S_LO v404 v405) (codeOf Try.f23) ([.own 0 0 v404.length, .int .i64 v405] ++ List.replicate (Try.f23.ntmps - ([.own 0 0 v404.length, .int .i64 v405] : List DV).length) .undef) [.row (.f32 v404) 0]).bind (retD TT Try.f23.results.toList 1) = (laws_markFloat32S_T v404 v405).bind fun y => .leaf (laws_markFloat32S_enc v404 v405 y) := by kernel_rfl
theorem laws_markFloat32S_fn (v404 : List Nat) (v405 : Int) (F : Fr) (hm : F.ids.length = 1) (h0 : St F [.row (.f32 v404) 0] F.H0) (hA : DVs.Ok F [.row (.f32 v404) 0] [.own 0 0 v404.length, .int .i64 v405]) {y : Int × (List Nat)} (hy : laws_markFloat32S_g v404 v405 = some y) : ∃ H', FnOk Try.prog 23 (DVs.av F [.own 0 0 v404.length, .int .i64 v405]) F.H0 ((laws_markFloat32S_enc v404 v405 y).1.av F) H' ∧ St F (laws_markFloat32S_enc v404 v405 y).2 H' ∧ (laws_markFloat32S_enc v404 v405 y).1.Ok F (laws_markFloat32S_enc v404 v405 y).2 :=
  fn_fin tok laws_markFloat32S_hO mixed Try.func23 Try.call23 (by kernel_rfl) (LoopsOk_eq (l := [(0, bodyOf Try.f23 0)]) (by kernel_rfl) ⟨laws_markFloat32S_l0_ok v404 v405, trivial⟩) (laws_markFloat32S_den v404 v405) hy hm h0 hA
noncomputable def laws_markFloat32S_F : DFn := fun args L =>
  match args with
  | [a1, .int .i64 v405] =>
    optT (ownF32 L a1) fun qv404 =>
    (match sepB [qv404.1] [] with
    | true =>
    .call (laws_markFloat32S_g qv404.2 v405) fun y => .grd (decide (y.2.length = qv404.2.length)) (.leaf (.int .i64 y.1, setRows L ([qv404.1].zip [.f32 y.2])))
    | false => .fail)
  | _ => .fail
theorem laws_markFloat32S_Fok : COk Try.prog 23 laws_markFloat32S_F false := by
  intro F L H args r L' hs ha hr
  unfold laws_markFloat32S_F at hr
  split at hr
  · rename_i a1 v405
    obtain ⟨⟨jv404, v404⟩, hqv404, hr⟩ := optT_run hr
    simp only at hr
    split at hr
    · rename_i hsep
      obtain ⟨hnd, hsepv⟩ := sepB_spec hsep
      simp only [Tree.run] at hr
      obtain ⟨y, hy, hr⟩ := Option.bind_eq_some_iff.1 hr
      try simp only [Tree.run] at hr
      obtain ⟨hl0, hr⟩ := ite_run hr
      simp only [Option.some.injEq, Prod.mk.injEq] at hr
      obtain ⟨rfl, rfl⟩ := hr
      obtain ⟨hr0, hu0, ha0, hb0⟩ := (ownR_spec (DVs.okAt ha 0 rfl) (ownF32_or hqv404))
      exact mut_ok hs (fun k => (([a1.av F] : List AV)[k]?).getD .top) [a1, .int .i64 v405] [.own 0 0 v404.length, .int .i64 v405] [jv404] [.f32 v404] [.f32 y.2] hnd rfl rfl (fun i j q h1 h2 => by
          rcases i with _ | i
          · simp at h1 h2; subst h1; subst h2; exact hr0
          · simp at h1) (fun i q q' h1 h2 => by
          rcases i with _ | i
          · simp at h1 h2; subst h1; subst h2; exact of_decide_eq_true hl0
          · simp at h1) (fun j hj => by simp at hj; subst hj; simp [DVs.refs, DV.refs, hu0]) (fun F' h0 hi hρ hst hS => ⟨by (have ab0 : F'.abs 0 = F.abs jv404 := (by simp [Fr.abs, hi]); simp [DVs.av, DV.av, BR.av, hρ, Row.len, ha0, ab0]), by
          obtain ⟨H1, k1, k2, _⟩ := laws_markFloat32S_fn v404 v405 F' (by rw [hi]; rfl) hst ⟨⟨_, rfl, Nat.le_refl _, Nat.le_refl _, fun _ => rfl, (ownR_spec (DVs.okAt ha 0 rfl) (ownF32_or hqv404)).2.2.2⟩, trivial, trivial⟩ hy
          exact ⟨H1, k1, k2⟩⟩) (fun F' => rfl) (fun L' => trivial)
    · cases hr
  · cases hr
/-! laws.markMatrix -/
noncomputable def laws_markMatrix_LO (v415 : Int) (v416 : Int) (v417 : List Nat) (v418 : Int) : LOr := fun id e L =>
  match id with
  | _ => .fail
noncomputable def laws_markMatrix_tab : List (FuncId × DFn × Bool) := [(23, laws_markFloat32S_F, false)]
theorem laws_markMatrix_hO : OrcOk Try.prog (tabD laws_markMatrix_tab) (tabM laws_markMatrix_tab) := tabD_cons laws_markFloat32S_Fok (tabD_nil _)
noncomputable def laws_markMatrix_T (v417 : List Nat) (v418 : Int) : Tree (Int × (List Nat)) :=
  (.call (laws_markFloat32S_g v417 v418) fun v419 =>
  (.grd (decide (v419.2.length = v417.length)) <|
  .leaf (v419.1, v419.2)))

noncomputable def laws_markMatrix_g (v417 : List Nat) (v418 : Int) : Option (Int × (List Nat)) := (laws_markMatrix_T v417 v418).run
def laws_markMatrix_enc (v415 : Int) (v416 : Int) (v417 : List Nat) (v418 : Int) (y : Int × (List Nat)) : Rs := (.int .i64 y.1, [.row (.f32 y.2) 0])
theorem laws_markMatrix_den (v415 : Int) (v416 : Int) (v417 : List Nat) (v418 : Int) : (den TT (tabD laws_markMatrix_tab) (tabM laws_markMatrix_tab) (laws_markMatrix_LO v415 v416 v417 v418) (codeOf Try.f34) ([.agg [.int .i64 v415, .int .i64 v416, .own 0 0 v417.length], .int .i64 v418] ++ List.replicate (Try.f34.ntmps - ([.agg [.int .i64 v415, .int .i64 v416, .own 0 0 v417.length], .int .i64 v418] : List DV).length) .undef) [.row (.f32 v417) 0]).bind (retD TT Try.f34.results.toList 1) = (laws_markMatrix_T v417 v418).bind fun y => .leaf (laws_markMatrix_enc v415 v416 v417 v418 y) := by kernel_rfl
theorem laws_markMatrix_fn (v415 : Int) (v416 : Int) (v417 : List Nat) (v418 : Int) (F : Fr) (hm : F.ids.length = 1) (h0 : St F [.row (.f32 v417) 0] F.H0) (hA : DVs.Ok F [.row (.f32 v417) 0] [.agg [.int .i64 v415, .int .i64 v416, .own 0 0 v417.length], .int .i64 v418]) {y : Int × (List Nat)} (hy : laws_markMatrix_g v417 v418 = some y) : ∃ H', FnOk Try.prog 34 (DVs.av F [.agg [.int .i64 v415, .int .i64 v416, .own 0 0 v417.length], .int .i64 v418]) F.H0 ((laws_markMatrix_enc v415 v416 v417 v418 y).1.av F) H' ∧ St F (laws_markMatrix_enc v415 v416 v417 v418 y).2 H' ∧ (laws_markMatrix_enc v415 v416 v417 v418 y).1.Ok F (laws_markMatrix_enc v415 v416 v417 v418 y).2 :=
  fn_fin tok laws_markMatrix_hO mixed Try.func34 Try.call34 (by kernel_rfl) (LoopsOk_eq (l := []) (by kernel_rfl) trivial) (laws_markMatrix_den v415 v416 v417 v418) hy hm h0 hA
noncomputable def laws_markMatrix_F : DFn := fun args L =>
  match args with
  | [.agg [.int .i64 v415, .int .i64 v416, a1], .int .i64 v418] =>
    optT (ownF32 L a1) fun qv417 =>
    (match sepB [qv417.1] [] with
    | true =>
    .call (laws_markMatrix_g qv417.2 v418) fun y => .grd (decide (y.2.length = qv417.2.length)) (.leaf (.int .i64 y.1, setRows L ([qv417.1].zip [.f32 y.2])))
    | false => .fail)
  | _ => .fail
theorem laws_markMatrix_Fok : COk Try.prog 34 laws_markMatrix_F false := by
  intro F L H args r L' hs ha hr
  unfold laws_markMatrix_F at hr
  split at hr
  · rename_i v415 v416 a1 v418
    obtain ⟨⟨jv417, v417⟩, hqv417, hr⟩ := optT_run hr
    simp only at hr
    split at hr
    · rename_i hsep
      obtain ⟨hnd, hsepv⟩ := sepB_spec hsep
      simp only [Tree.run] at hr
      obtain ⟨y, hy, hr⟩ := Option.bind_eq_some_iff.1 hr
      try simp only [Tree.run] at hr
      obtain ⟨hl0, hr⟩ := ite_run hr
      simp only [Option.some.injEq, Prod.mk.injEq] at hr
      obtain ⟨rfl, rfl⟩ := hr
      obtain ⟨hr0, hu0, ha0, hb0⟩ := (ownR_spec (DVs.okAt (DVs.okAt ha 0 rfl) 2 rfl) (ownF32_or hqv417))
      exact mut_ok hs (fun k => (([a1.av F] : List AV)[k]?).getD .top) [.agg [.int .i64 v415, .int .i64 v416, a1], .int .i64 v418] [.agg [.int .i64 v415, .int .i64 v416, .own 0 0 v417.length], .int .i64 v418] [jv417] [.f32 v417] [.f32 y.2] hnd rfl rfl (fun i j q h1 h2 => by
          rcases i with _ | i
          · simp at h1 h2; subst h1; subst h2; exact hr0
          · simp at h1) (fun i q q' h1 h2 => by
          rcases i with _ | i
          · simp at h1 h2; subst h1; subst h2; exact of_decide_eq_true hl0
          · simp at h1) (fun j hj => by simp at hj; subst hj; simp [DVs.refs, DV.refs, hu0]) (fun F' h0 hi hρ hst hS => ⟨by (have ab0 : F'.abs 0 = F.abs jv417 := (by simp [Fr.abs, hi]); simp [DVs.av, DV.av, BR.av, hρ, Row.len, ha0, ab0]), by
          obtain ⟨H1, k1, k2, _⟩ := laws_markMatrix_fn v415 v416 v417 v418 F' (by rw [hi]; rfl) hst ⟨⟨trivial, trivial, ⟨_, rfl, Nat.le_refl _, Nat.le_refl _, fun _ => rfl, (ownR_spec (DVs.okAt (DVs.okAt ha 0 rfl) 2 rfl) (ownF32_or hqv417)).2.2.2⟩, trivial⟩, trivial, trivial⟩ hy
          exact ⟨H1, k1, k2⟩⟩) (fun F' => rfl) (fun L' => trivial)
    · cases hr
  · cases hr
/-! laws.markInt64S -/
noncomputable def laws_markInt64S_l0_T (s : Int × Int × (List Int)) : Tree ((Int × Int × (List Int)) ⊕ (Int × (List Int))) :=
  (.br (decide (s.2.1 < (((s.2.2).length : Nat) : Int))) (
   (.grd (inb s.2.1 ((s.2.2).length)) <|
   .leaf (.inl (IntKind.i64.wrap (s.1 + (1 : Int)), IntKind.i64.wrap (s.2.1 + (1 : Int)), List.set s.2.2 (Int.toNat s.2.1) s.1)))
  ) (
   .leaf (.inr (s.1, s.2.2))
  ))

noncomputable def laws_markInt64S_l0_g (s0 : Int × Int × (List Int)) : Option (Int × (List Int)) := whileM (fun s => (laws_markInt64S_l0_T s).run) s0
def laws_markInt64S_l0_E (v430 : List Int) (v431 : Int) (s : Int × Int × (List Int)) : Sd := ([.own 0 0 ((s.2.2).length), .int .i64 s.1, .top, .top, .top, .int .i64 s.2.1, .top, .top, .top, .top, .top, .top, .top, .top, .top, .top, .top, .top, .top], [.row (.i64 s.2.2) 0])
def laws_markInt64S_l0_X (v430 : List Int) (v431 : Int) (x : Int × (List Int)) : Out := (.normal, [.top, .int .i64 x.1, .top, .top, .top, .top, .top, .top, .top, .top, .top, .top, .top, .top, .top, .top, .top, .top, .top], [.row (.i64 x.2) 0])
def laws_markInt64S_l0_kill : List Nat := [0, 0, 1, 1, 1, 0, 1, 1, 1, 1, 1, 1, 1, 1, 1, 1, 1, 1, 1]
def laws_markInt64S_l0_nx : Exit → List Nat
  | .exit 0 => [1, 0, 1, 1, 1, 1, 1, 1, 1, 1, 1, 1, 1, 1, 1, 1, 1, 1, 1]
  | .ret => [1, 1, 1, 1, 0, 1, 1, 1, 1, 1, 1, 1, 1, 1, 1, 1, 1, 1, 1]
  | _ => []
noncomputable def laws_markInt64S_LO (v430 : List Int) (v431 : Int) : LOr := fun id e L =>
  match id with
  | 0 => .need (normA 1 laws_markInt64S_l0_kill e L = some (laws_markInt64S_l0_E v430 v431 ((gI (vAt e 1)), (gI (vAt e 5)), (gRI L (vAt e 0))))) (.call (laws_markInt64S_l0_g ((gI (vAt e 1)), (gI (vAt e 5)), (gRI L (vAt e 0)))) fun x => .leaf (laws_markInt64S_l0_X v430 v431 x))
  | _ => .fail
noncomputable def laws_markInt64S_tab : List (FuncId × DFn × Bool) := []
theorem laws_markInt64S_hO : OrcOk Try.prog (tabD laws_markInt64S_tab) (tabM laws_markInt64S_tab) := tabD_nil _
theorem laws_markInt64S_l0_be (v430 : List Int) (v431 : Int) (s : Int × Int × (List Int)) : bodyT TT (tabD laws_markInt64S_tab) (tabM laws_markInt64S_tab) (laws_markInt64S_LO v430 v431) 1 laws_markInt64S_l0_kill laws_markInt64S_l0_nx (bodyOf Try.f45 0) 0 (laws_markInt64S_l0_E v430 v431 s) = (laws_markInt64S_l0_T s).bind fun y => .leaf (outS (laws_markInt64S_l0_E v430 v431) (laws_markInt64S_l0_X v430 v431) y) := by kernel_rfl
theorem laws_markInt64S_l0_ok (v430 : List Int) (v431 : Int) : LSound Try.prog 1 (laws_markInt64S_LO v430 v431) 0 (bodyOf Try.f45 0) := by
  intro e L out h
  exact lo_ok (E := laws_markInt64S_l0_E v430 v431) (gT := laws_markInt64S_l0_T) (X := laws_markInt64S_l0_X v430 v431) (s0 := ((gI (vAt e 1)), (gI (vAt e 5)), (gRI L (vAt e 0)))) tok laws_markInt64S_hO mixed (LoopsOk_eq (l := []) (by kernel_rfl) trivial) (laws_markInt64S_l0_be v430 v431) rfl (by intro x; rfl) h
noncomputable def laws_markInt64S_T (v430 : List Int) (v431 : Int) : Tree (Int × (List Int)) :=
  (.need (some (laws_markInt64S_l0_E v430 v431 (v431, (0 : Int), v430)) = some (laws_markInt64S_l0_E v430 v431 (v431, (0 : Int), v430))) <|
  (.call (laws_markInt64S_l0_g (v431, (0 : Int), v430)) fun v440 =>
  .leaf (v440.1, v440.2)))

noncomputable def laws_markInt64S_g (v430 : List Int) (v431 : Int) : Option (Int × (List Int)) := (laws_markInt64S_T v430 v431).run
def laws_markInt64S_enc (v430 : List Int) (v431 : Int) (y : Int × (List Int)) : Rs := (.int .i64 y.1, [.row (.i64 y.2) 0])
theorem laws_markInt64S_den (v430 : List Int) (v431 : Int) : (den TT (tabD laws_markInt64S_tab) (tabM laws_markInt64S_tab) (laws_markInt64S_LO v430 v431) (codeOf Try.f45) ([.own 0 0 v430.length, .int .i64 v431] ++ List.replicate (Try.f45.ntmps - ([.own 0 0 v430.length, .int .i64 v431] : List DV).length) .undef) [.row (.i64 v430) 0]).bind (retD TT Try.f45.results.toList 1) = (laws_markInt64S_T v430 v431).bind fun y => .leaf (laws_markInt64S_enc v430 v431 y) := by kernel_rfl
theorem laws_markInt64S_fn (v430 : List Int) (v431 : Int) (F : Fr) (hm : F.ids.length = 1) (h0 : St F [.row (.i64 v430) 0] F.H0) (hA : DVs.Ok F [.row (.i64 v430) 0] [.own 0 0 v430.length, .int .i64 v431]) {y : Int × (List Int)} (hy : laws_markInt64S_g v430 v431 = some y) : ∃ H', FnOk Try.prog 45 (DVs.av F [.own 0 0 v430.length, .int .i64 v431]) F.H0 ((laws_markInt64S_enc v430 v431 y).1.av F) H' ∧ St F (laws_markInt64S_enc v430 v431 y).2 H' ∧ (laws_markInt64S_enc v430 v431 y).1.Ok F (laws_markInt64S_enc v430 v431 y).2 :=
  fn_fin tok laws_markInt64S_hO mixed Try.func45 Try.call45 (by kernel_rfl) (LoopsOk_eq (l := [(0, bodyOf Try.f45 0)]) (by kernel_rfl) ⟨laws_markInt64S_l0_ok v430 v431, trivial⟩) (laws_markInt64S_den v430 v431) hy hm h0 hA
noncomputable def laws_markInt64S_F : DFn := fun args L =>
  match args with
  | [a1, .int .i64 v431] =>
    optT (ownI64 L a1) fun qv430 =>
    (match sepB [qv430.1] [] with
    | true =>
    .call (laws_markInt64S_g qv430.2 v431) fun y => .grd (decide (y.2.length = qv430.2.length)) (.leaf (.int .i64 y.1, setRows L ([qv430.1].zip [.i64 y.2])))
    | false => .fail)
  | _ => .fail
theorem laws_markInt64S_Fok : COk Try.prog 45 laws_markInt64S_F false := by
  intro F L H args r L' hs ha hr
  unfold laws_markInt64S_F at hr
  split at hr
  · rename_i a1 v431
    obtain ⟨⟨jv430, v430⟩, hqv430, hr⟩ := optT_run hr
    simp only at hr
    split at hr
    · rename_i hsep
      obtain ⟨hnd, hsepv⟩ := sepB_spec hsep
      simp only [Tree.run] at hr
      obtain ⟨y, hy, hr⟩ := Option.bind_eq_some_iff.1 hr
      try simp only [Tree.run] at hr
      obtain ⟨hl0, hr⟩ := ite_run hr
      simp only [Option.some.injEq, Prod.mk.injEq] at hr
      obtain ⟨rfl, rfl⟩ := hr
      obtain ⟨hr0, hu0, ha0, hb0⟩ := (ownR_spec (DVs.okAt ha 0 rfl) (ownI64_or hqv430))
      exact mut_ok hs (fun k => (([a1.av F] : List AV)[k]?).getD .top) [a1, .int .i64 v431] [.own 0 0 v430.length, .int .i64 v431] [jv430] [.i64 v430] [.i64 y.2] hnd rfl rfl (fun i j q h1 h2 => by
          rcases i with _ | i
          · simp at h1 h2; subst h1; subst h2; exact hr0
          · simp at h1) (fun i q q' h1 h2 => by
          rcases i with _ | i
          · simp at h1 h2; subst h1; subst h2; exact of_decide_eq_true hl0
          · simp at h1) (fun j hj => by simp at hj; subst hj; simp [DVs.refs, DV.refs, hu0]) (fun F' h0 hi hρ hst hS => ⟨by (have ab0 : F'.abs 0 = F.abs jv430 := (by simp [Fr.abs, hi]); simp [DVs.av, DV.av, BR.av, hρ, Row.len, ha0, ab0]), by
          obtain ⟨H1, k1, k2, _⟩ := laws_markInt64S_fn v430 v431 F' (by rw [hi]; rfl) hst ⟨⟨_, rfl, Nat.le_refl _, Nat.le_refl _, fun _ => rfl, (ownR_spec (DVs.okAt ha 0 rfl) (ownI64_or hqv430)).2.2.2⟩, trivial, trivial⟩ hy
          exact ⟨H1, k1, k2⟩⟩) (fun F' => rfl) (fun L' => trivial)
    · cases hr
  · cases hr
/-! laws.markFactor -/
noncomputable def laws_markFactor_LO (v441 : Int) (v442 : Int) (v443 : List Nat) (v444 : List Int) (v445 : Int) : LOr := fun id e L =>
  match id with
  | _ => .fail
noncomputable def laws_markFactor_tab : List (FuncId × DFn × Bool) := [(34, laws_markMatrix_F, false), (45, laws_markInt64S_F, false)]
theorem laws_markFactor_hO : OrcOk Try.prog (tabD laws_markFactor_tab) (tabM laws_markFactor_tab) := tabD_cons laws_markMatrix_Fok (tabD_cons laws_markInt64S_Fok (tabD_nil _))
noncomputable def laws_markFactor_T (v443 : List Nat) (v444 : List Int) (v445 : Int) : Tree (Int × (List Nat) × (List Int)) :=
  (.call (laws_markMatrix_g v443 v445) fun v446 =>
  (.grd (decide (v446.2.length = v443.length)) <|
  (.call (laws_markInt64S_g v444 v446.1) fun v447 =>
  (.grd (decide (v447.2.length = v444.length)) <|
  .leaf (v447.1, v446.2, v447.2)))))

noncomputable def laws_markFactor_g (v443 : List Nat) (v444 : List Int) (v445 : Int) : Option (Int × (List Nat) × (List Int)) := (laws_markFactor_T v443 v444 v445).run
def laws_markFactor_enc (v441 : Int) (v442 : Int) (v443 : List Nat) (v444 : List Int) (v445 : Int) (y : Int × (List Nat) × (List Int)) : Rs := (.int .i64 y.1, [.row (.f32 y.2.1) 0, .row (.i64 y.2.2) 0])
theorem laws_markFactor_den (v441 : Int) (v442 : Int) (v443 : List Nat) (v444 : List Int) (v445 : Int) : (den TT (tabD laws_markFactor_tab) (tabM laws_markFactor_tab) (laws_markFactor_LO v441 v442 v443 v444 v445) (codeOf Try.f56) ([.agg [.int .i64 v441, .int .i64 v442, .own 0 0 v443.length, .own 1 0 v444.length], .int .i64 v445] ++ List.replicate (Try.f56.ntmps - ([.agg [.int .i64 v441, .int .i64 v442, .own 0 0 v443.length, .own 1 0 v444.length], .int .i64 v445] : List DV).length) .undef) [.row (.f32 v443) 0, .row (.i64 v444) 0]).bind (retD TT Try.f56.results.toList 2) = (laws_markFactor_T v443 v444 v445).bind fun y => .leaf (laws_markFactor_enc v441 v442 v443 v444 v445 y) := by kernel_rfl
theorem laws_markFactor_fn (v441 : Int) (v442 : Int) (v443 : List Nat) (v444 : List Int) (v445 : Int) (F : Fr) (hm : F.ids.length = 2) (h0 : St F [.row (.f32 v443) 0, .row (.i64 v444) 0] F.H0) (hA : DVs.Ok F [.row (.f32 v443) 0, .row (.i64 v444) 0] [.agg [.int .i64 v441, .int .i64 v442, .own 0 0 v443.length, .own 1 0 v444.length], .int .i64 v445]) {y : Int × (List Nat) × (List Int)} (hy : laws_markFactor_g v443 v444 v445 = some y) : ∃ H', FnOk Try.prog 56 (DVs.av F [.agg [.int .i64 v441, .int .i64 v442, .own 0 0 v443.length, .own 1 0 v444.length], .int .i64 v445]) F.H0 ((laws_markFactor_enc v441 v442 v443 v444 v445 y).1.av F) H' ∧ St F (laws_markFactor_enc v441 v442 v443 v444 v445 y).2 H' ∧ (laws_markFactor_enc v441 v442 v443 v444 v445 y).1.Ok F (laws_markFactor_enc v441 v442 v443 v444 v445 y).2 :=
  fn_fin tok laws_markFactor_hO mixed Try.func56 Try.call56 (by kernel_rfl) (LoopsOk_eq (l := []) (by kernel_rfl) trivial) (laws_markFactor_den v441 v442 v443 v444 v445) hy hm h0 hA
noncomputable def laws_markFactor_F : DFn := fun args L =>
  match args with
  | [.agg [.int .i64 v441, .int .i64 v442, a1, a2], .int .i64 v445] =>
    optT (ownF32 L a1) fun qv443 =>
    optT (ownI64 L a2) fun qv444 =>
    (match sepB [qv443.1, qv444.1] [] with
    | true =>
    .call (laws_markFactor_g qv443.2 qv444.2 v445) fun y => .grd (decide (y.2.1.length = qv443.2.length)) (.grd (decide (y.2.2.length = qv444.2.length)) (.leaf (.int .i64 y.1, setRows L ([qv443.1, qv444.1].zip [.f32 y.2.1, .i64 y.2.2]))))
    | false => .fail)
  | _ => .fail
theorem laws_markFactor_Fok : COk Try.prog 56 laws_markFactor_F false := by
  intro F L H args r L' hs ha hr
  unfold laws_markFactor_F at hr
  split at hr
  · rename_i v441 v442 a1 a2 v445
    obtain ⟨⟨jv443, v443⟩, hqv443, hr⟩ := optT_run hr
    simp only at hr
    obtain ⟨⟨jv444, v444⟩, hqv444, hr⟩ := optT_run hr
    simp only at hr
    split at hr
    · rename_i hsep
      obtain ⟨hnd, hsepv⟩ := sepB_spec hsep
      simp only [Tree.run] at hr
      obtain ⟨y, hy, hr⟩ := Option.bind_eq_some_iff.1 hr
      try simp only [Tree.run] at hr
      obtain ⟨hl0, hr⟩ := ite_run hr
      obtain ⟨hl1, hr⟩ := ite_run hr
      simp only [Option.some.injEq, Prod.mk.injEq] at hr
      obtain ⟨rfl, rfl⟩ := hr
      obtain ⟨hr0, hu0, ha0, hb0⟩ := (ownR_spec (DVs.okAt (DVs.okAt ha 0 rfl) 2 rfl) (ownF32_or hqv443))
      obtain ⟨hr1, hu1, ha1, hb1⟩ := (ownR_spec (DVs.okAt (DVs.okAt ha 0 rfl) 3 rfl) (ownI64_or hqv444))
      exact mut_ok hs (fun k => (([a1.av F, a2.av F] : List AV)[k]?).getD .top) [.agg [.int .i64 v441, .int .i64 v442, a1, a2], .int .i64 v445] [.agg [.int .i64 v441, .int .i64 v442, .own 0 0 v443.length, .own 1 0 v444.length], .int .i64 v445] [jv443, jv444] [.f32 v443, .i64 v444] [.f32 y.2.1, .i64 y.2.2] hnd rfl rfl (fun i j q h1 h2 => by
          rcases i with _ | _ | i
          · simp at h1 h2; subst h1; subst h2; exact hr0
          · simp at h1 h2; subst h1; subst h2; exact hr1
          · simp at h1) (fun i q q' h1 h2 => by
          rcases i with _ | _ | i
          · simp at h1 h2; subst h1; subst h2; exact of_decide_eq_true hl0
          · simp at h1 h2; subst h1; subst h2; exact of_decide_eq_true hl1
          · simp at h1) (fun j hj => by simp at hj; rcases hj with rfl | rfl <;> simp [DVs.refs, DV.refs, hu0, hu1]) (fun F' h0 hi hρ hst hS => ⟨by (have ab0 : F'.abs 0 = F.abs jv443 := (by simp [Fr.abs, hi]); have ab1 : F'.abs 1 = F.abs jv444 := (by simp [Fr.abs, hi]); simp [DVs.av, DV.av, BR.av, hρ, Row.len, ha0, ab0, ha1, ab1]), by
          obtain ⟨H1, k1, k2, _⟩ := laws_markFactor_fn v441 v442 v443 v444 v445 F' (by rw [hi]; rfl) hst ⟨⟨trivial, trivial, ⟨_, rfl, Nat.le_refl _, Nat.le_refl _, fun _ => rfl, (ownR_spec (DVs.okAt (DVs.okAt ha 0 rfl) 2 rfl) (ownF32_or hqv443)).2.2.2⟩, ⟨_, rfl, Nat.le_refl _, Nat.le_refl _, fun _ => rfl, (ownR_spec (DVs.okAt (DVs.okAt ha 0 rfl) 3 rfl) (ownI64_or hqv444)).2.2.2⟩, trivial⟩, trivial, trivial⟩ hy
          exact ⟨H1, k1, k2⟩⟩) (fun F' => rfl) (fun L' => trivial)
    · cases hr
  · cases hr
/-! laws.markFloat32S -/
noncomputable def laws_markFloat32S_i1_l0_T (s : Unit) : Tree ((Unit) ⊕ (Unit)) :=
  (.br (decide ((0 : Int) < (0 : Int))) (
   .fail
  ) (
   .leaf (.inr ())
  ))

noncomputable def laws_markFloat32S_i1_l0_g (s0 : Unit) : Option (Unit) := whileM (fun s => (laws_markFloat32S_i1_l0_T s).run) s0
def laws_markFloat32S_i1_l0_E (v453 : Int) (s : Unit) : Sd := ([.nilslc, .int .i64 v453, .top, .top, .top, .int .i64 (0 : Int), .top, .top, .top, .top, .top, .top, .top, .top, .top, .top, .top, .top, .top, .top], [])
def laws_markFloat32S_i1_l0_X (v453 : Int) (x : Unit) : Out := (.normal, [.top, .int .i64 v453, .top, .top, .top, .top, .top, .top, .top, .top, .top, .top, .top, .top, .top, .top, .top, .top, .top, .top], [])
def laws_markFloat32S_i1_l0_kill : List Nat := [0, 0, 1, 1, 1, 0, 1, 1, 1, 1, 1, 1, 1, 1, 1, 1, 1, 1, 1, 1]
def laws_markFloat32S_i1_l0_nx : Exit → List Nat
  | .exit 0 => [1, 0, 1, 1, 1, 1, 1, 1, 1, 1, 1, 1, 1, 1, 1, 1, 1, 1, 1, 1]
  | .ret => [1, 1, 1, 1, 0, 1, 1, 1, 1, 1, 1, 1, 1, 1, 1, 1, 1, 1, 1, 1]
  | _ => []
noncomputable def laws_markFloat32S_i1_LO (v453 : Int) : LOr := fun id e L =>
  match id with
  | 0 => .need (normA 0 laws_markFloat32S_i1_l0_kill e L = some (laws_markFloat32S_i1_l0_E v453 ())) (.call (laws_markFloat32S_i1_l0_g ()) fun x => .leaf (laws_markFloat32S_i1_l0_X v453 x))
  | _ => .fail
noncomputable def laws_markFloat32S_i1_tab : List (FuncId × DFn × Bool) := []
theorem laws_markFloat32S_i1_hO : OrcOk Try.prog (tabD laws_markFloat32S_i1_tab) (tabM laws_markFloat32S_i1_tab) := tabD_nil _
theorem laws_markFloat32S_i1_l0_be (v453 : Int) (s : Unit) : bodyT TT (tabD laws_markFloat32S_i1_tab) (tabM laws_markFloat32S_i1_tab) (laws_markFloat32S_i1_LO v453) 0 laws_markFloat32S_i1_l0_kill laws_markFloat32S_i1_l0_nx (bodyOf Try.f23 0) 0 (laws_markFloat32S_i1_l0_E v453 s) = (laws_markFloat32S_i1_l0_T s).bind fun y => .leaf (outS (laws_markFloat32S_i1_l0_E v453) (laws_markFloat32S_i1_l0_X v453) y) := by kernel_rfl
theorem laws_markFloat32S_i1_l0_ok (v453 : Int) : LSound Try.prog 0 (laws_markFloat32S_i1_LO v453) 0 (bodyOf Try.f23 0) := by
  intro e L out h
  exact lo_ok (E := laws_markFloat32S_i1_l0_E v453) (gT := laws_markFloat32S_i1_l0_T) (X := laws_markFloat32S_i1_l0_X v453) (s0 := ()) tok laws_markFloat32S_i1_hO mixed (LoopsOk_eq (l := []) (by kernel_rfl) trivial) (laws_markFloat32S_i1_l0_be v453) rfl (by intro x; rfl) h
noncomputable def laws_markFloat32S_i1_T (v453 : Int) : Tree (Int) :=
  (.need (some (laws_markFloat32S_i1_l0_E v453 ()) = some (laws_markFloat32S_i1_l0_E v453 ())) <|
  (.call (laws_markFloat32S_i1_l0_g ()) fun v456 =>
  .leaf v453))

noncomputable def laws_markFloat32S_i1_g (v453 : Int) : Option (Int) := (laws_markFloat32S_i1_T v453).run
def laws_markFloat32S_i1_enc (v453 : Int) (y : Int) : Rs := (.int .i64 y, [])
theorem laws_markFloat32S_i1_den (v453 : Int) : (den TT (tabD laws_markFloat32S_i1_tab) (tabM laws_markFloat32S_i1_tab) (laws_markFloat32S_i1_LO v453) (codeOf Try.f23) ([.nilslc, .int .i64 v453] ++ List.replicate (Try.f23.ntmps - ([.nilslc, .int .i64 v453] : List DV).length) .undef) []).bind (retD TT Try.f23.results.toList 0) = (laws_markFloat32S_i1_T v453).bind fun y => .leaf (laws_markFloat32S_i1_enc v453 y) := by kernel_rfl
theorem laws_markFloat32S_i1_fn (v453 : Int) (F : Fr) (hm : F.ids.length = 0) (h0 : St F [] F.H0) (hA : DVs.Ok F [] [.nilslc, .int .i64 v453]) {y : Int} (hy : laws_markFloat32S_i1_g v453 = some y) : ∃ H', FnOk Try.prog 23 (DVs.av F [.nilslc, .int .i64 v453]) F.H0 ((laws_markFloat32S_i1_enc v453 y).1.av F) H' ∧ St F (laws_markFloat32S_i1_enc v453 y).2 H' ∧ (laws_markFloat32S_i1_enc v453 y).1.Ok F (laws_markFloat32S_i1_enc v453 y).2 :=
  fn_fin tok laws_markFloat32S_i1_hO mixed Try.func23 Try.call23 (by kernel_rfl) (LoopsOk_eq (l := [(0, bodyOf Try.f23 0)]) (by kernel_rfl) ⟨laws_markFloat32S_i1_l0_ok v453, trivial⟩) (laws_markFloat32S_i1_den v453) hy hm h0 hA
noncomputable def laws_markFloat32S_i1_F : DFn := fun args L =>
  match args with
  | [.nilslc, .int .i64 v453] =>
    .call (laws_markFloat32S_i1_g v453) fun y => .leaf (.int .i64 y, L)
  | _ => .fail
theorem laws_markFloat32S_i1_Fok : COk Try.prog 23 laws_markFloat32S_i1_F true := by
  intro F L H args r L' hs ha hr
  unfold laws_markFloat32S_i1_F at hr
  split at hr
  · rename_i v453
    simp only [Tree.run] at hr
    obtain ⟨y, hy, hr⟩ := Option.bind_eq_some_iff.1 hr
    simp only [Tree.run, Option.some.injEq, Prod.mk.injEq] at hr
    obtain ⟨rfl, rfl⟩ := hr
    exact call_ok0 hs (fun k => (([] : List AV)[k]?).getD .top) [.nilslc, .int .i64 v453] [.nilslc, .int .i64 v453] (fun F' h0 hi hρ => ⟨by simp [DVs.av, DV.av, BR.av, hρ], laws_markFloat32S_i1_fn v453 F' (by rw [hi]; rfl) (st_nil hi) ⟨trivial, trivial, trivial⟩ hy⟩) rfl
  · cases hr
/-! laws.markMatrix -/
noncomputable def laws_markMatrix_i1_LO (v450 : Int) (v451 : Int) (v452 : Int) : LOr := fun id e L =>
  match id with
  | _ => .fail
noncomputable def laws_markMatrix_i1_tab : List (FuncId × DFn × Bool) := [(23, laws_markFloat32S_i1_F, true)]
theorem laws_markMatrix_i1_hO : OrcOk Try.prog (tabD laws_markMatrix_i1_tab) (tabM laws_markMatrix_i1_tab) := tabD_cons laws_markFloat32S_i1_Fok (tabD_nil _)
noncomputable def laws_markMatrix_i1_T (v452 : Int) : Tree (Int) :=
  (.call (laws_markFloat32S_i1_g v452) fun v457 =>
  .leaf v457)

noncomputable def laws_markMatrix_i1_g (v452 : Int) : Option (Int) := (laws_markMatrix_i1_T v452).run
def laws_markMatrix_i1_enc (v450 : Int) (v451 : Int) (v452 : Int) (y : Int) : Rs := (.int .i64 y, [])
theorem laws_markMatrix_i1_den (v450 : Int) (v451 : Int) (v452 : Int) : (den TT (tabD laws_markMatrix_i1_tab) (tabM laws_markMatrix_i1_tab) (laws_markMatrix_i1_LO v450 v451 v452) (codeOf Try.f34) ([.agg [.int .i64 v450, .int .i64 v451, .nilslc], .int .i64 v452] ++ List.replicate (Try.f34.ntmps - ([.agg [.int .i64 v450, .int .i64 v451, .nilslc], .int .i64 v452] : List DV).length) .undef) []).bind (retD TT Try.f34.results.toList 0) = (laws_markMatrix_i1_T v452).bind fun y => .leaf (laws_markMatrix_i1_enc v450 v451 v452 y) := by kernel_rfl
theorem laws_markMatrix_i1_fn (v450 : Int) (v451 : Int) (v452 : Int) (F : Fr) (hm : F.ids.length = 0) (h0 : St F [] F.H0) (hA : DVs.Ok F [] [.agg [.int .i64 v450, .int .i64 v451, .nilslc], .int .i64 v452]) {y : Int} (hy : laws_markMatrix_i1_g v452 = some y) : ∃ H', FnOk Try.prog 34 (DVs.av F [.agg [.int .i64 v450, .int .i64 v451, .nilslc], .int .i64 v452]) F.H0 ((laws_markMatrix_i1_enc v450 v451 v452 y).1.av F) H' ∧ St F (laws_markMatrix_i1_enc v450 v451 v452 y).2 H' ∧ (laws_markMatrix_i1_enc v450 v451 v452 y).1.Ok F (laws_markMatrix_i1_enc v450 v451 v452 y).2 :=
  fn_fin tok laws_markMatrix_i1_hO mixed Try.func34 Try.call34 (by kernel_rfl) (LoopsOk_eq (l := []) (by kernel_rfl) trivial) (laws_markMatrix_i1_den v450 v451 v452) hy hm h0 hA
noncomputable def laws_markMatrix_i1_F : DFn := fun args L =>
  match args with
  | [.agg [.int .i64 v450, .int .i64 v451, .nilslc], .int .i64 v452] =>
    .call (laws_markMatrix_i1_g v452) fun y => .leaf (.int .i64 y, L)
  | _ => .fail
theorem laws_markMatrix_i1_Fok : COk Try.prog 34 laws_markMatrix_i1_F true := by
  intro F L H args r L' hs ha hr
  unfold laws_markMatrix_i1_F at hr
  split at hr
  · rename_i v450 v451 v452
    simp only [Tree.run] at hr
    obtain ⟨y, hy, hr⟩ := Option.bind_eq_some_iff.1 hr
    simp only [Tree.run, Option.some.injEq, Prod.mk.injEq] at hr
    obtain ⟨rfl, rfl⟩ := hr
    exact call_ok0 hs (fun k => (([] : List AV)[k]?).getD .top) [.agg [.int .i64 v450, .int .i64 v451, .nilslc], .int .i64 v452] [.agg [.int .i64 v450, .int .i64 v451, .nilslc], .int .i64 v452] (fun F' h0 hi hρ => ⟨by simp [DVs.av, DV.av, BR.av, hρ], laws_markMatrix_i1_fn v450 v451 v452 F' (by rw [hi]; rfl) (st_nil hi) ⟨⟨trivial, trivial, trivial, trivial⟩, trivial, trivial⟩ hy⟩) rfl
  · cases hr
/-! laws.heldFloat32S -/
noncomputable def laws_heldFloat32S_l0_T (v463 : List Nat) (s : Int × Int) : Tree ((Int × Int) ⊕ ((Unit) ⊕ (Int))) :=
  (.br (decide (s.2 < ((v463.length : Nat) : Int))) (
   (.grd (inb s.2 v463.length) <|
   (.br (!feq .f32 (nth v463 (Int.toNat s.2)) (fofint .f32 s.1)) (
    .leaf (.inr (.inl ()))
   ) (
    .leaf (.inl (IntKind.i64.wrap (s.1 + (1 : Int)), IntKind.i64.wrap (s.2 + (1 : Int))))
   )))
  ) (
   .leaf (.inr (.inr s.1))
  ))

noncomputable def laws_heldFloat32S_l0_g (v463 : List Nat) (s0 : Int × Int) : Option ((Unit) ⊕ (Int)) := whileM (fun s => (laws_heldFloat32S_l0_T v463 s).run) s0
def laws_heldFloat32S_l0_E (v463 : List Nat) (v464 : Int) (s : Int × Int) : Sd := ([.bslc (BR.root 0) (.f32 v463), .int .i64 s.1, .top, .top, .top, .int .i64 s.2, .top, .top, .top, .top, .top, .top, .top, .top, .top, .top, .top, .top, .top, .top, .top, .top], [])
def laws_heldFloat32S_l0_X (v463 : List Nat) (v464 : Int) (x : (Unit) ⊕ (Int)) : Out := (match x with | .inl x => (.ret, [.top, .top, .top, .top, .int .i64 (-1 : Int), .top, .top, .top, .top, .top, .top, .top, .top, .top, .top, .top, .top, .top, .top, .top, .top, .top], []) | .inr x => (.normal, [.top, .int .i64 x, .top, .top, .top, .top, .top, .top, .top, .top, .top, .top, .top, .top, .top, .top, .top, .top, .top, .top, .top, .top], []))
def laws_heldFloat32S_l0_kill : List Nat := [0, 0, 1, 1, 1, 0, 1, 1, 1, 1, 1, 1, 1, 1, 1, 1, 1, 1, 1, 1, 1, 1]
def laws_heldFloat32S_l0_nx : Exit → List Nat
  | .exit 0 => [1, 0, 1, 1, 1, 1, 1, 1, 1, 1, 1, 1, 1, 1, 1, 1, 1, 1, 1, 1, 1, 1]
  | .ret => [1, 1, 1, 1, 0, 1, 1, 1, 1, 1, 1, 1, 1, 1, 1, 1, 1, 1, 1, 1, 1, 1]
  | _ => []
noncomputable def laws_heldFloat32S_LO (v463 : List Nat) (v464 : Int) : LOr := fun id e L =>
  match id with
  | 0 => .need (normA 0 laws_heldFloat32S_l0_kill e L = some (laws_heldFloat32S_l0_E v463 v464 ((gI (vAt e 1)), (gI (vAt e 5))))) (.call (laws_heldFloat32S_l0_g v463 ((gI (vAt e 1)), (gI (vAt e 5)))) fun x => .sum x (fun b0 => .leaf (laws_heldFloat32S_l0_X v463 v464 (.inl b0))) (fun c0 => .leaf (laws_heldFloat32S_l0_X v463 v464 (.inr c0))))
  | _ => .fail
noncomputable def laws_heldFloat32S_tab : List (FuncId × DFn × Bool) := []
theorem laws_heldFloat32S_hO : OrcOk Try.prog (tabD laws_heldFloat32S_tab) (tabM laws_heldFloat32S_tab) := tabD_nil _
theorem laws_heldFloat32S_l0_be (v463 : List Nat) (v464 : Int) (s : Int × Int) : bodyT TT (tabD laws_heldFloat32S_tab) (tabM laws_heldFloat32S_tab) (laws_heldFloat32S_LO v463 v464) 0 laws_heldFloat32S_l0_kill laws_heldFloat32S_l0_nx (bodyOf Try.f24 0) 0 (laws_heldFloat32S_l0_E v463 v464 s) = (laws_heldFloat32S_l0_T v463 s).bind fun y => .leaf (outS (laws_heldFloat32S_l0_E v463 v464) (laws_heldFloat32S_l0_X v463 v464) y) := by kernel_rfl
theorem laws_heldFloat32S_l0_ok (v463 : List Nat) (v464 : Int) : LSound Try.prog 0 (laws_heldFloat32S_LO v463 v464) 0 (bodyOf Try.f24 0) := by
  intro e L out h
  exact lo_ok (E := laws_heldFloat32S_l0_E v463 v464) (gT := laws_heldFloat32S_l0_T v463) (X := laws_heldFloat32S_l0_X v463 v464) (s0 := ((gI (vAt e 1)), (gI (vAt e 5)))) tok laws_heldFloat32S_hO mixed (LoopsOk_eq (l := []) (by kernel_rfl) trivial) (laws_heldFloat32S_l0_be v463 v464) rfl (by intro x; (cases x with | inl b => rfl | inr x => exact rfl)) h
noncomputable def laws_heldFloat32S_T (v463 : List Nat) (v464 : Int) : Tree (Int) :=
  (.need (some (laws_heldFloat32S_l0_E v463 v464 (v464, (0 : Int))) = some (laws_heldFloat32S_l0_E v463 v464 (v464, (0 : Int)))) <|
  (.call (laws_heldFloat32S_l0_g v463 (v464, (0 : Int))) fun v471 =>
  (.sum v471 (fun v472 =>
   .leaf (-1 : Int)
  ) (fun v473 =>
   .leaf v473
  ))))

noncomputable def laws_heldFloat32S_g (v463 : List Nat) (v464 : Int) : Option (Int) := (laws_heldFloat32S_T v463 v464).run
def laws_heldFloat32S_enc (v463 : List Nat) (v464 : Int) (y : Int) : Rs := (.int .i64 y, [])
theorem laws_heldFloat32S_den (v463 : List Nat) (v464 : Int) : (den TT (tabD laws_heldFloat32S_tab) (tabM laws_heldFloat32S_tab) (laws_heldFloat32S_LO v463 v464) (codeOf Try.f24) ([.bslc (BR.root 0) (.f32 v463), .int .i64 v464] ++ List.replicate (Try.f24.ntmps - ([.bslc (BR.root 0) (.f32 v463), .int .i64 v464] : List DV).length) .undef) []).bind (retD TT Try.f24.results.toList 0) = (laws_heldFloat32S_T v463 v464).bind fun y => .leaf (laws_heldFloat32S_enc v463 v464 y) := by kernel_rfl
theorem laws_heldFloat32S_fn (v463 : List Nat) (v464 : Int) (F : Fr) (hm : F.ids.length = 0) (h0 : St F [] F.H0) (hA : DVs.Ok F [] [.bslc (BR.root 0) (.f32 v463), .int .i64 v464]) {y : Int} (hy : laws_heldFloat32S_g v463 v464 = some y) : ∃ H', FnOk Try.prog 24 (DVs.av F [.bslc (BR.root 0) (.f32 v463), .int .i64 v464]) F.H0 ((laws_heldFloat32S_enc v463 v464 y).1.av F) H' ∧ St F (laws_heldFloat32S_enc v463 v464 y).2 H' ∧ (laws_heldFloat32S_enc v463 v464 y).1.Ok F (laws_heldFloat32S_enc v463 v464 y).2 :=
  fn_fin tok laws_heldFloat32S_hO mixed Try.func24 Try.call24 (by kernel_rfl) (LoopsOk_eq (l := [(0, bodyOf Try.f24 0)]) (by kernel_rfl) ⟨laws_heldFloat32S_l0_ok v463 v464, trivial⟩) (laws_heldFloat32S_den v463 v464) hy hm h0 hA
noncomputable def laws_heldFloat32S_F : DFn := fun args L =>
  match args with
  | [a1, .int .i64 v464] =>
    optT (rowF32 L a1) fun v463 =>
    .call (laws_heldFloat32S_g v463 v464) fun y => .leaf (.int .i64 y, L)
  | _ => .fail
theorem laws_heldFloat32S_Fok : COk Try.prog 24 laws_heldFloat32S_F true := by
  intro F L H args r L' hs ha hr
  unfold laws_heldFloat32S_F at hr
  split at hr
  · rename_i a1 v464
    obtain ⟨v463, hv463, hr⟩ := optT_run hr
    simp only [Tree.run] at hr
    obtain ⟨y, hy, hr⟩ := Option.bind_eq_some_iff.1 hr
    simp only [Tree.run, Option.some.injEq, Prod.mk.injEq] at hr
    obtain ⟨rfl, rfl⟩ := hr
    exact call_ok0 hs (fun k => (([a1.av F] : List AV)[k]?).getD .top) [a1, .int .i64 v464] [.bslc (BR.root 0) (.f32 v463), .int .i64 v464] (fun F' h0 hi hρ => ⟨by simp [DVs.av, DV.av, BR.av, hρ], laws_heldFloat32S_fn v463 v464 F' (by rw [hi]; rfl) (st_nil hi) ⟨bslc_ok hi (by rw [h0, hρ]; exact rowF32_ok hs (DVs.okAt ha 0 rfl) hv463), trivial, trivial⟩ hy⟩) rfl
  · cases hr
/-! laws.heldMatrix -/
noncomputable def laws_heldMatrix_LO (v459 : Int) (v460 : Int) (v461 : List Nat) (v462 : Int) : LOr := fun id e L =>
  match id with
  | _ => .fail
noncomputable def laws_heldMatrix_tab : List (FuncId × DFn × Bool) := [(24, laws_heldFloat32S_F, true)]
theorem laws_heldMatrix_hO : OrcOk Try.prog (tabD laws_heldMatrix_tab) (tabM laws_heldMatrix_tab) := tabD_cons laws_heldFloat32S_Fok (tabD_nil _)
noncomputable def laws_heldMatrix_T (v461 : List Nat) (v462 : Int) : Tree (Int) :=
  (.call (laws_heldFloat32S_g v461 v462) fun v474 =>
  (.br (decide (v474 < (0 : Int))) (
   .leaf (-1 : Int)
  ) (
   .leaf v474
  )))

noncomputable def laws_heldMatrix_g (v461 : List Nat) (v462 : Int) : Option (Int) := (laws_heldMatrix_T v461 v462).run
def laws_heldMatrix_enc (v459 : Int) (v460 : Int) (v461 : List Nat) (v462 : Int) (y : Int) : Rs := (.int .i64 y, [])
theorem laws_heldMatrix_den (v459 : Int) (v460 : Int) (v461 : List Nat) (v462 : Int) : (den TT (tabD laws_heldMatrix_tab) (tabM laws_heldMatrix_tab) (laws_heldMatrix_LO v459 v460 v461 v462) (codeOf Try.f35) ([.agg [.int .i64 v459, .int .i64 v460, .bslc (BR.root 0) (.f32 v461)], .int .i64 v462] ++ List.replicate (Try.f35.ntmps - ([.agg [.int .i64 v459, .int .i64 v460, .bslc (BR.root 0) (.f32 v461)], .int .i64 v462] : List DV).length) .undef) []).bind (retD TT Try.f35.results.toList 0) = (laws_heldMatrix_T v461 v462).bind fun y => .leaf (laws_heldMatrix_enc v459 v460 v461 v462 y) := by kernel_rfl
theorem laws_heldMatrix_fn (v459 : Int) (v460 : Int) (v461 : List Nat) (v462 : Int) (F : Fr) (hm : F.ids.length = 0) (h0 : St F [] F.H0) (hA : DVs.Ok F [] [.agg [.int .i64 v459, .int .i64 v460, .bslc (BR.root 0) (.f32 v461)], .int .i64 v462]) {y : Int} (hy : laws_heldMatrix_g v461 v462 = some y) : ∃ H', FnOk Try.prog 35 (DVs.av F [.agg [.int .i64 v459, .int .i64 v460, .bslc (BR.root 0) (.f32 v461)], .int .i64 v462]) F.H0 ((laws_heldMatrix_enc v459 v460 v461 v462 y).1.av F) H' ∧ St F (laws_heldMatrix_enc v459 v460 v461 v462 y).2 H' ∧ (laws_heldMatrix_enc v459 v460 v461 v462 y).1.Ok F (laws_heldMatrix_enc v459 v460 v461 v462 y).2 :=
  fn_fin tok laws_heldMatrix_hO mixed Try.func35 Try.call35 (by kernel_rfl) (LoopsOk_eq (l := []) (by kernel_rfl) trivial) (laws_heldMatrix_den v459 v460 v461 v462) hy hm h0 hA
noncomputable def laws_heldMatrix_F : DFn := fun args L =>
  match args with
  | [.agg [.int .i64 v459, .int .i64 v460, a1], .int .i64 v462] =>
    optT (rowF32 L a1) fun v461 =>
    .call (laws_heldMatrix_g v461 v462) fun y => .leaf (.int .i64 y, L)
  | _ => .fail
theorem laws_heldMatrix_Fok : COk Try.prog 35 laws_heldMatrix_F true := by
  intro F L H args r L' hs ha hr
  unfold laws_heldMatrix_F at hr
  split at hr
  · rename_i v459 v460 a1 v462
    obtain ⟨v461, hv461, hr⟩ := optT_run hr
    simp only [Tree.run] at hr
    obtain ⟨y, hy, hr⟩ := Option.bind_eq_some_iff.1 hr
    simp only [Tree.run, Option.some.injEq, Prod.mk.injEq] at hr
    obtain ⟨rfl, rfl⟩ := hr
    exact call_ok0 hs (fun k => (([a1.av F] : List AV)[k]?).getD .top) [.agg [.int .i64 v459, .int .i64 v460, a1], .int .i64 v462] [.agg [.int .i64 v459, .int .i64 v460, .bslc (BR.root 0) (.f32 v461)], .int .i64 v462] (fun F' h0 hi hρ => ⟨by simp [DVs.av, DV.av, BR.av, hρ], laws_heldMatrix_fn v459 v460 v461 v462 F' (by rw [hi]; rfl) (st_nil hi) ⟨⟨trivial, trivial, bslc_ok hi (by rw [h0, hρ]; exact rowF32_ok hs (DVs.okAt (DVs.okAt ha 0 rfl) 2 rfl) hv461), trivial⟩, trivial, trivial⟩ hy⟩) rfl
  · cases hr
/-! laws.FnExactUpperOf -/
noncomputable def laws_FnExactUpperOf_LO (v1 : Int) (v2 : Int) (v3 : List Nat) (v4 : List Int) : LOr := fun id e L =>
  match id with
  | _ => .fail
noncomputable def laws_FnExactUpperOf_tab : List (FuncId × DFn × Bool) := [(46, laws_szFactor_F, true), (48, laws_toFactor_F, true), (54, spec_UpperOf_F, true), (55, impl_UpperOf_F, true), (33, laws_eqMatrix_F, true), (50, laws_eqFactor_F, true), (56, laws_markFactor_F, false), (34, (orD (fun args => match args with | [.agg [_, _, .nilslc], _] => true | _ => false) laws_markMatrix_i1_F laws_markMatrix_F), false), (35, laws_heldMatrix_F, true)]
theorem laws_FnExactUpperOf_hO : OrcOk Try.prog (tabD laws_FnExactUpperOf_tab) (tabM laws_FnExactUpperOf_tab) := tabD_cons laws_szFactor_Fok (tabD_cons laws_toFactor_Fok (tabD_cons spec_UpperOf_Fok (tabD_cons impl_UpperOf_Fok (tabD_cons laws_eqMatrix_Fok (tabD_cons laws_eqFactor_Fok (tabD_cons laws_markFactor_Fok (tabD_cons (orD_ok (COk.weak laws_markMatrix_i1_Fok) laws_markMatrix_Fok) (tabD_cons laws_heldMatrix_Fok (tabD_nil _)))))))))
noncomputable def laws_FnExactUpperOf_T (v1 : Int) (v2 : Int) (v3 : List Nat) (v4 : List Int) : Tree (Bool) :=
  (.br (decide ((laws_szFactor_v v3 v4 (1048576 : Int)) < (0 : Int))) (
   .leaf true
  ) (
   (.call (laws_toFactor_g v1 v2 v3 v4) fun v42 =>
   (.call (spec_UpperOf_g v42.1 v42.2.1 v42.2.2.1 v42.2.2.2) fun v165 =>
   (.sum v165 (fun v166 =>
    (.call (laws_toFactor_g v1 v2 v3 v4) fun v168 =>
    (.call (impl_UpperOf_g v168.1 v168.2.1 v168.2.2.1 v168.2.2.2) fun v350 =>
    (.sum v350 (fun v351 =>
     (.call (laws_eqMatrix_g (0 : Int) (0 : Int) ([] : List Nat) (0 : Int) (0 : Int) ([] : List Nat)) fun v370 =>
     (.br (!v370) (
      .leaf false
     ) (
      (.br (!(false == false)) (
       .leaf false
      ) (
       (.call (laws_toFactor_g v1 v2 v3 v4) fun v371 =>
       (.call (laws_eqFactor_g v168.1 v168.2.1 v168.2.2.1 v168.2.2.2 v371.1 v371.2.1 v371.2.2.1 v371.2.2.2) fun v390 =>
       (.br (!v390) (
        .leaf false
       ) (
        (.call (laws_markFactor_g v168.2.2.1 v168.2.2.2 (1 : Int)) fun v448 =>
        (.grd (decide (v448.2.1.length = v168.2.2.1.length)) <|
        (.grd (decide (v448.2.2.length = v168.2.2.2.length)) <|
        (.br (decide (v448.1 < (0 : Int))) (
         .leaf false
        ) (
         (.call (laws_eqMatrix_g (0 : Int) (0 : Int) ([] : List Nat) (0 : Int) (0 : Int) ([] : List Nat)) fun v449 =>
         (.br (!v449) (
          .leaf false
         ) (
          (.br (!(false == false)) (
           .leaf false
          ) (
           (.call (laws_markMatrix_i1_g (1 : Int)) fun v458 =>
           (.call (laws_heldMatrix_g ([] : List Nat) (1 : Int)) fun v475 =>
           (.br (decide (v475 < (0 : Int))) (
            .leaf false
           ) (
            (.br (!decide (v475 = v458)) (
             .leaf false
            ) (
             (.call (laws_toFactor_g v1 v2 v3 v4) fun v476 =>
             (.call (impl_UpperOf_g v476.1 v476.2.1 v476.2.2.1 v476.2.2.2) fun v477 =>
             (.sum v477 (fun v478 =>
              (.call (laws_eqMatrix_g (0 : Int) (0 : Int) ([] : List Nat) (0 : Int) (0 : Int) ([] : List Nat)) fun v480 =>
              (.br (!v480) (
               .leaf false
              ) (
               (.br (!(false == false)) (
                .leaf false
               ) (
                (.call (laws_heldMatrix_g ([] : List Nat) (1 : Int)) fun v481 =>
                (.br (decide (v481 < (0 : Int))) (
                 .leaf false
                ) (
                 (.br (!decide (v481 = v458)) (
                  .leaf false
                 ) (
                  .leaf true
                 ))
                )))
               ))
              )))
             ) (fun v479 =>
              (.call (laws_eqMatrix_g v479.1 v479.2.1 v479.2.2 (0 : Int) (0 : Int) ([] : List Nat)) fun v482 =>
              (.br (!v482) (
               .leaf false
              ) (
               (.br (!(true == false)) (
                .leaf false
               ) (
                (.call (laws_heldMatrix_g ([] : List Nat) (1 : Int)) fun v483 =>
                (.br (decide (v483 < (0 : Int))) (
                 .leaf false
                ) (
                 (.br (!decide (v483 = v458)) (
                  .leaf false
                 ) (
                  .leaf true
                 ))
                )))
               ))
              )))
             ))))
            ))
           ))))
          ))
         )))
        )))))
       ))))
      ))
     )))
    ) (fun v352 =>
     (.call (laws_eqMatrix_g v352.1 v352.2.1 v352.2.2 (0 : Int) (0 : Int) ([] : List Nat)) fun v484 =>
     (.br (!v484) (
      .leaf false
     ) (
      (.br (!(true == false)) (
       .leaf false
      ) (
       (.call (laws_toFactor_g v1 v2 v3 v4) fun v485 =>
       (.call (laws_eqFactor_g v168.1 v168.2.1 v168.2.2.1 v168.2.2.2 v485.1 v485.2.1 v485.2.2.1 v485.2.2.2) fun v486 =>
       (.br (!v486) (
        .leaf false
       ) (
        (.call (laws_markFactor_g v168.2.2.1 v168.2.2.2 (1 : Int)) fun v487 =>
        (.grd (decide (v487.2.1.length = v168.2.2.1.length)) <|
        (.grd (decide (v487.2.2.length = v168.2.2.2.length)) <|
        (.br (decide (v487.1 < (0 : Int))) (
         .leaf false
        ) (
         (.call (laws_eqMatrix_g v352.1 v352.2.1 v352.2.2 (0 : Int) (0 : Int) ([] : List Nat)) fun v488 =>
         (.br (!v488) (
          .leaf false
         ) (
          (.br (!(true == false)) (
           .leaf false
          ) (
           (.call (laws_markMatrix_g v352.2.2 (1 : Int)) fun v489 =>
           (.grd (decide (v489.2.length = v352.2.2.length)) <|
           (.call (laws_heldMatrix_g v489.2 (1 : Int)) fun v490 =>
           (.br (decide (v490 < (0 : Int))) (
            .leaf false
           ) (
            (.br (!decide (v490 = v489.1)) (
             .leaf false
            ) (
             (.call (laws_toFactor_g v1 v2 v3 v4) fun v491 =>
             (.call (impl_UpperOf_g v491.1 v491.2.1 v491.2.2.1 v491.2.2.2) fun v492 =>
             (.sum v492 (fun v493 =>
              (.call (laws_eqMatrix_g (0 : Int) (0 : Int) ([] : List Nat) (0 : Int) (0 : Int) ([] : List Nat)) fun v495 =>
              (.br (!v495) (
               .leaf false
              ) (
               (.br (!(false == false)) (
                .leaf false
               ) (
                (.call (laws_heldMatrix_g v489.2 (1 : Int)) fun v496 =>
                (.br (decide (v496 < (0 : Int))) (
                 .leaf false
                ) (
                 (.br (!decide (v496 = v489.1)) (
                  .leaf false
                 ) (
                  .leaf true
                 ))
                )))
               ))
              )))
             ) (fun v494 =>
              (.call (laws_eqMatrix_g v494.1 v494.2.1 v494.2.2 (0 : Int) (0 : Int) ([] : List Nat)) fun v497 =>
              (.br (!v497) (
               .leaf false
              ) (
               (.br (!(true == false)) (
                .leaf false
               ) (
                (.call (laws_heldMatrix_g v489.2 (1 : Int)) fun v498 =>
                (.br (decide (v498 < (0 : Int))) (
                 .leaf false
                ) (
                 (.br (!decide (v498 = v489.1)) (
                  .leaf false
                 ) (
                  .leaf true
                 ))
                )))
               ))
              )))
             ))))
            ))
           )))))
          ))
         )))
        )))))
       ))))
      ))
     )))
    ))))
   ) (fun v167 =>
    (.call (laws_toFactor_g v1 v2 v3 v4) fun v499 =>
    (.call (impl_UpperOf_g v499.1 v499.2.1 v499.2.2.1 v499.2.2.2) fun v500 =>
    (.sum v500 (fun v501 =>
     (.call (laws_eqMatrix_g (0 : Int) (0 : Int) ([] : List Nat) v167.1 v167.2.1 v167.2.2) fun v503 =>
     (.br (!v503) (
      .leaf false
     ) (
      (.br (!(false == true)) (
       .leaf false
      ) (
       (.call (laws_toFactor_g v1 v2 v3 v4) fun v504 =>
       (.call (laws_eqFactor_g v499.1 v499.2.1 v499.2.2.1 v499.2.2.2 v504.1 v504.2.1 v504.2.2.1 v504.2.2.2) fun v505 =>
       (.br (!v505) (
        .leaf false
       ) (
        (.call (laws_markFactor_g v499.2.2.1 v499.2.2.2 (1 : Int)) fun v506 =>
        (.grd (decide (v506.2.1.length = v499.2.2.1.length)) <|
        (.grd (decide (v506.2.2.length = v499.2.2.2.length)) <|
        (.br (decide (v506.1 < (0 : Int))) (
         .leaf false
        ) (
         (.call (laws_eqMatrix_g (0 : Int) (0 : Int) ([] : List Nat) v167.1 v167.2.1 v167.2.2) fun v507 =>
         (.br (!v507) (
          .leaf false
         ) (
          (.br (!(false == true)) (
           .leaf false
          ) (
           (.call (laws_markMatrix_i1_g (1 : Int)) fun v508 =>
           (.call (laws_heldMatrix_g ([] : List Nat) (1 : Int)) fun v509 =>
           (.br (decide (v509 < (0 : Int))) (
            .leaf false
           ) (
            (.br (!decide (v509 = v508)) (
             .leaf false
            ) (
             (.call (laws_toFactor_g v1 v2 v3 v4) fun v510 =>
             (.call (impl_UpperOf_g v510.1 v510.2.1 v510.2.2.1 v510.2.2.2) fun v511 =>
             (.sum v511 (fun v512 =>
              (.call (laws_eqMatrix_g (0 : Int) (0 : Int) ([] : List Nat) v167.1 v167.2.1 v167.2.2) fun v514 =>
              (.br (!v514) (
               .leaf false
              ) (
               (.br (!(false == true)) (
                .leaf false
               ) (
                (.call (laws_heldMatrix_g ([] : List Nat) (1 : Int)) fun v515 =>
                (.br (decide (v515 < (0 : Int))) (
                 .leaf false
                ) (
                 (.br (!decide (v515 = v508)) (
                  .leaf false
                 ) (
                  .leaf true
                 ))
                )))
               ))
              )))
             ) (fun v513 =>
              (.call (laws_eqMatrix_g v513.1 v513.2.1 v513.2.2 v167.1 v167.2.1 v167.2.2) fun v516 =>
              (.br (!v516) (
               .leaf false
              ) (
               (.br (!(true == true)) (
                .leaf false
               ) (
                (.call (laws_heldMatrix_g ([] : List Nat) (1 : Int)) fun v517 =>
                (.br (decide (v517 < (0 : Int))) (
                 .leaf false
                ) (
                 (.br (!decide (v517 = v508)) (
                  .leaf false
                 ) (
                  .leaf true
                 ))
                )))
               ))
              )))
             ))))
            ))
           ))))
          ))
         )))
        )))))
       ))))
      ))
     )))
    ) (fun v502 =>
     (.call (laws_eqMatrix_g v502.1 v502.2.1 v502.2.2 v167.1 v167.2.1 v167.2.2) fun v518 =>
     (.br (!v518) (
      .leaf false
     ) (
      (.br (!(true == true)) (
       .leaf false
      ) (
       (.call (laws_toFactor_g v1 v2 v3 v4) fun v519 =>
       (.call (laws_eqFactor_g v499.1 v499.2.1 v499.2.2.1 v499.2.2.2 v519.1 v519.2.1 v519.2.2.1 v519.2.2.2) fun v520 =>
       (.br (!v520) (
        .leaf false
       ) (
        (.call (laws_markFactor_g v499.2.2.1 v499.2.2.2 (1 : Int)) fun v521 =>
        (.grd (decide (v521.2.1.length = v499.2.2.1.length)) <|
        (.grd (decide (v521.2.2.length = v499.2.2.2.length)) <|
        (.br (decide (v521.1 < (0 : Int))) (
         .leaf false
        ) (
         (.call (laws_eqMatrix_g v502.1 v502.2.1 v502.2.2 v167.1 v167.2.1 v167.2.2) fun v522 =>
         (.br (!v522) (
          .leaf false
         ) (
          (.br (!(true == true)) (
           .leaf false
          ) (
           (.call (laws_markMatrix_g v502.2.2 (1 : Int)) fun v523 =>
           (.grd (decide (v523.2.length = v502.2.2.length)) <|
           (.call (laws_heldMatrix_g v523.2 (1 : Int)) fun v524 =>
           (.br (decide (v524 < (0 : Int))) (
            .leaf false
           ) (
            (.br (!decide (v524 = v523.1)) (
             .leaf false
            ) (
             (.call (laws_toFactor_g v1 v2 v3 v4) fun v525 =>
             (.call (impl_UpperOf_g v525.1 v525.2.1 v525.2.2.1 v525.2.2.2) fun v526 =>
             (.sum v526 (fun v527 =>
              (.call (laws_eqMatrix_g (0 : Int) (0 : Int) ([] : List Nat) v167.1 v167.2.1 v167.2.2) fun v529 =>
              (.br (!v529) (
               .leaf false
              ) (
               (.br (!(false == true)) (
                .leaf false
               ) (
                (.call (laws_heldMatrix_g v523.2 (1 : Int)) fun v530 =>
                (.br (decide (v530 < (0 : Int))) (
                 .leaf false
                ) (
                 (.br (!decide (v530 = v523.1)) (
                  .leaf false
                 ) (
                  .leaf true
                 ))
                )))
               ))
              )))
             ) (fun v528 =>
              (.call (laws_eqMatrix_g v528.1 v528.2.1 v528.2.2 v167.1 v167.2.1 v167.2.2) fun v531 =>
              (.br (!v531) (
               .leaf false
              ) (
               (.br (!(true == true)) (
                .leaf false
               ) (
                (.call (laws_heldMatrix_g v523.2 (1 : Int)) fun v532 =>
                (.br (decide (v532 < (0 : Int))) (
                 .leaf false
                ) (
                 (.br (!decide (v532 = v523.1)) (
                  .leaf false
                 ) (
                  .leaf true
                 ))
                )))
               ))
              )))
             ))))
            ))
           )))))
          ))
         )))
        )))))
       ))))
      ))
     )))
    ))))
   ))))
  ))

noncomputable def laws_FnExactUpperOf_g (v1 : Int) (v2 : Int) (v3 : List Nat) (v4 : List Int) : Option (Bool) := (laws_FnExactUpperOf_T v1 v2 v3 v4).run
def laws_FnExactUpperOf_enc (v1 : Int) (v2 : Int) (v3 : List Nat) (v4 : List Int) (y : Bool) : Rs := (.bool y, [])
theorem laws_FnExactUpperOf_den (v1 : Int) (v2 : Int) (v3 : List Nat) (v4 : List Int) : (den TT (tabD laws_FnExactUpperOf_tab) (tabM laws_FnExactUpperOf_tab) (laws_FnExactUpperOf_LO v1 v2 v3 v4) (codeOf Try.f11) ([.agg [.int .i64 v1, .int .i64 v2, .bslc (BR.root 0) (.f32 v3), .bslc (BR.root 1) (.i64 v4)]] ++ List.replicate (Try.f11.ntmps - ([.agg [.int .i64 v1, .int .i64 v2, .bslc (BR.root 0) (.f32 v3), .bslc (BR.root 1) (.i64 v4)]] : List DV).length) .undef) []).bind (retD TT Try.f11.results.toList 0) = (laws_FnExactUpperOf_T v1 v2 v3 v4).bind fun y => .leaf (laws_FnExactUpperOf_enc v1 v2 v3 v4 y) := by kernel_rfl
theorem laws_FnExactUpperOf_fn (v1 : Int) (v2 : Int) (v3 : List Nat) (v4 : List Int) (F : Fr) (hm : F.ids.length = 0) (h0 : St F [] F.H0) (hA : DVs.Ok F [] [.agg [.int .i64 v1, .int .i64 v2, .bslc (BR.root 0) (.f32 v3), .bslc (BR.root 1) (.i64 v4)]]) {y : Bool} (hy : laws_FnExactUpperOf_g v1 v2 v3 v4 = some y) : ∃ H', FnOk Try.prog 11 (DVs.av F [.agg [.int .i64 v1, .int .i64 v2, .bslc (BR.root 0) (.f32 v3), .bslc (BR.root 1) (.i64 v4)]]) F.H0 ((laws_FnExactUpperOf_enc v1 v2 v3 v4 y).1.av F) H' ∧ St F (laws_FnExactUpperOf_enc v1 v2 v3 v4 y).2 H' ∧ (laws_FnExactUpperOf_enc v1 v2 v3 v4 y).1.Ok F (laws_FnExactUpperOf_enc v1 v2 v3 v4 y).2 :=
  fn_fin tok laws_FnExactUpperOf_hO mixed Try.func11 Try.call11 (by kernel_rfl) (LoopsOk_eq (l := []) (by kernel_rfl) trivial) (laws_FnExactUpperOf_den v1 v2 v3 v4) hy hm h0 hA
noncomputable def laws_FnExactUpperOf_F : DFn := fun args L =>
  match args with
  | [.agg [.int .i64 v1, .int .i64 v2, a1, a2]] =>
    optT (rowF32 L a1) fun v3 =>
    optT (rowI64 L a2) fun v4 =>
    .call (laws_FnExactUpperOf_g v1 v2 v3 v4) fun y => .leaf (.bool y, L)
  | _ => .fail
theorem laws_FnExactUpperOf_Fok : COk Try.prog 11 laws_FnExactUpperOf_F true := by
  intro F L H args r L' hs ha hr
  unfold laws_FnExactUpperOf_F at hr
  split at hr
  · rename_i v1 v2 a1 a2
    obtain ⟨v3, hv3, hr⟩ := optT_run hr
    obtain ⟨v4, hv4, hr⟩ := optT_run hr
    simp only [Tree.run] at hr
    obtain ⟨y, hy, hr⟩ := Option.bind_eq_some_iff.1 hr
    simp only [Tree.run, Option.some.injEq, Prod.mk.injEq] at hr
    obtain ⟨rfl, rfl⟩ := hr
    exact call_ok0 hs (fun k => (([a1.av F, a2.av F] : List AV)[k]?).getD .top) [.agg [.int .i64 v1, .int .i64 v2, a1, a2]] [.agg [.int .i64 v1, .int .i64 v2, .bslc (BR.root 0) (.f32 v3), .bslc (BR.root 1) (.i64 v4)]] (fun F' h0 hi hρ => ⟨by simp [DVs.av, DV.av, BR.av, hρ], laws_FnExactUpperOf_fn v1 v2 v3 v4 F' (by rw [hi]; rfl) (st_nil hi) ⟨⟨trivial, trivial, bslc_ok hi (by rw [h0, hρ]; exact rowF32_ok hs (DVs.okAt (DVs.okAt ha 0 rfl) 2 rfl) hv3), bslc_ok hi (by rw [h0, hρ]; exact rowI64_ok hs (DVs.okAt (DVs.okAt ha 0 rfl) 3 rfl) hv4), trivial⟩, trivial⟩ hy⟩) rfl
  · cases hr
/-! laws.szFloat32S -/
noncomputable def laws_szFloat32S_len_LO (v546 : Nat) (v547 : Int) : LOr := fun id e L =>
  match id with
  | _ => .fail
noncomputable def laws_szFloat32S_len_tab : List (FuncId × DFn × Bool) := []
theorem laws_szFloat32S_len_hO : OrcOk Try.prog (tabD laws_szFloat32S_len_tab) (tabM laws_szFloat32S_len_tab) := tabD_nil _
noncomputable def laws_szFloat32S_len_T (v546 : Nat) (v547 : Int) : Tree (Int) :=
  (.br (decide (IntKind.i64.wrap (v547 - ((v546 : Nat) : Int)) < (0 : Int))) (
   .leaf (-1 : Int)
  ) (
   .leaf (IntKind.i64.wrap (v547 - ((v546 : Nat) : Int)))
  ))

noncomputable def laws_szFloat32S_len_g (v546 : Nat) (v547 : Int) : Option (Int) := (laws_szFloat32S_len_T v546 v547).run
def laws_szFloat32S_len_enc (v546 : Nat) (v547 : Int) (y : Int) : Rs := (.int .i64 y, [])
theorem laws_szFloat32S_len_den (v546 : Nat) (v547 : Int) : (den TT (tabD laws_szFloat32S_len_tab) (tabM laws_szFloat32S_len_tab) (laws_szFloat32S_len_LO v546 v547) (codeOf Try.f64) ([.hslc (BR.root 0) v546, .int .i64 v547] ++ List.replicate (Try.f64.ntmps - ([.hslc (BR.root 0) v546, .int .i64 v547] : List DV).length) .undef) []).bind (retD TT Try.f64.results.toList 0) = (laws_szFloat32S_len_T v546 v547).bind fun y => .leaf (laws_szFloat32S_len_enc v546 v547 y) := by kernel_rfl
theorem laws_szFloat32S_len_fn (v546 : Nat) (v547 : Int) (F : Fr) (hm : F.ids.length = 0) (h0 : St F [] F.H0) (hA : DVs.Ok F [] [.hslc (BR.root 0) v546, .int .i64 v547]) {y : Int} (hy : laws_szFloat32S_len_g v546 v547 = some y) : ∃ H', FnOk Try.prog 64 (DVs.av F [.hslc (BR.root 0) v546, .int .i64 v547]) F.H0 ((laws_szFloat32S_len_enc v546 v547 y).1.av F) H' ∧ St F (laws_szFloat32S_len_enc v546 v547 y).2 H' ∧ (laws_szFloat32S_len_enc v546 v547 y).1.Ok F (laws_szFloat32S_len_enc v546 v547 y).2 :=
  fn_fin tok laws_szFloat32S_len_hO mixed Try.func64 Try.call64 (by kernel_rfl) (LoopsOk_eq (l := []) (by kernel_rfl) trivial) (laws_szFloat32S_len_den v546 v547) hy hm h0 hA
def laws_szFloat32S_len_v (v546 : Nat) (v547 : Int) : Int :=
  if (decide (IntKind.i64.wrap (v547 - ((v546 : Nat) : Int)) < (0 : Int))) = true then (
   (-1 : Int)
  ) else (
   IntKind.i64.wrap (v547 - ((v546 : Nat) : Int))
  )
theorem laws_szFloat32S_len_tot (v546 : Nat) (v547 : Int) : laws_szFloat32S_len_g v546 v547 = some (laws_szFloat32S_len_v v546 v547) := by
  unfold laws_szFloat32S_len_g laws_szFloat32S_len_T laws_szFloat32S_len_v
  simp only [Tree.run]
  repeat' (first | rfl | split)
noncomputable def laws_szFloat32S_len_F : DFn := fun args L =>
  match args with
  | [a1, .int .i64 v547] =>
    optT (lenV L a1) fun v546 =>
    .leaf (.int .i64 (laws_szFloat32S_len_v v546 v547), L)
  | _ => .fail
theorem laws_szFloat32S_len_Fok : COk Try.prog 64 laws_szFloat32S_len_F true := by
  intro F L H args r L' hs ha hr
  unfold laws_szFloat32S_len_F at hr
  split at hr
  · rename_i a1 v547
    obtain ⟨v546, hv546, hr⟩ := optT_run hr
    have hy := laws_szFloat32S_len_tot v546 v547
    generalize laws_szFloat32S_len_v v546 v547 = y at hy hr
    simp only [Tree.run, Option.some.injEq, Prod.mk.injEq] at hr
    obtain ⟨rfl, rfl⟩ := hr
    exact call_ok0 hs (fun k => (([a1.av F] : List AV)[k]?).getD .top) [a1, .int .i64 v547] [.hslc (BR.root 0) v546, .int .i64 v547] (fun F' h0 hi hρ => ⟨by simp [DVs.av, DV.av, BR.av, hρ], laws_szFloat32S_len_fn v546 v547 F' (by rw [hi]; rfl) (st_nil hi) ⟨hslc_ok hi (by rw [h0, hρ]; exact lenV_ok hs (DVs.okAt ha 0 rfl) hv546), trivial, trivial⟩ hy⟩) rfl
  · cases hr
/-! laws.szMatrix -/
noncomputable def laws_szMatrix_len_LO (v542 : Int) (v543 : Int) (v544 : Nat) (v545 : Int) : LOr := fun id e L =>
  match id with
  | _ => .fail
noncomputable def laws_szMatrix_len_tab : List (FuncId × DFn × Bool) := [(64, laws_szFloat32S_len_F, true)]
theorem laws_szMatrix_len_hO : OrcOk Try.prog (tabD laws_szMatrix_len_tab) (tabM laws_szMatrix_len_tab) := tabD_cons laws_szFloat32S_len_Fok (tabD_nil _)
noncomputable def laws_szMatrix_len_T (v544 : Nat) (v545 : Int) : Tree (Int) :=
  (.br (decide ((laws_szFloat32S_len_v v544 v545) < (0 : Int))) (
   .leaf (-1 : Int)
  ) (
   .leaf (laws_szFloat32S_len_v v544 v545)
  ))

noncomputable def laws_szMatrix_len_g (v544 : Nat) (v545 : Int) : Option (Int) := (laws_szMatrix_len_T v544 v545).run
def laws_szMatrix_len_enc (v542 : Int) (v543 : Int) (v544 : Nat) (v545 : Int) (y : Int) : Rs := (.int .i64 y, [])
theorem laws_szMatrix_len_den (v542 : Int) (v543 : Int) (v544 : Nat) (v545 : Int) : (den TT (tabD laws_szMatrix_len_tab) (tabM laws_szMatrix_len_tab) (laws_szMatrix_len_LO v542 v543 v544 v545) (codeOf Try.f29) ([.agg [.int .i64 v542, .int .i64 v543, .hslc (BR.root 0) v544], .int .i64 v545] ++ List.replicate (Try.f29.ntmps - ([.agg [.int .i64 v542, .int .i64 v543, .hslc (BR.root 0) v544], .int .i64 v545] : List DV).length) .undef) []).bind (retD TT Try.f29.results.toList 0) = (laws_szMatrix_len_T v544 v545).bind fun y => .leaf (laws_szMatrix_len_enc v542 v543 v544 v545 y) := by kernel_rfl
theorem laws_szMatrix_len_fn (v542 : Int) (v543 : Int) (v544 : Nat) (v545 : Int) (F : Fr) (hm : F.ids.length = 0) (h0 : St F [] F.H0) (hA : DVs.Ok F [] [.agg [.int .i64 v542, .int .i64 v543, .hslc (BR.root 0) v544], .int .i64 v545]) {y : Int} (hy : laws_szMatrix_len_g v544 v545 = some y) : ∃ H', FnOk Try.prog 29 (DVs.av F [.agg [.int .i64 v542, .int .i64 v543, .hslc (BR.root 0) v544], .int .i64 v545]) F.H0 ((laws_szMatrix_len_enc v542 v543 v544 v545 y).1.av F) H' ∧ St F (laws_szMatrix_len_enc v542 v543 v544 v545 y).2 H' ∧ (laws_szMatrix_len_enc v542 v543 v544 v545 y).1.Ok F (laws_szMatrix_len_enc v542 v543 v544 v545 y).2 :=
  fn_fin tok laws_szMatrix_len_hO mixed Try.func29 Try.call29 (by kernel_rfl) (LoopsOk_eq (l := []) (by kernel_rfl) trivial) (laws_szMatrix_len_den v542 v543 v544 v545) hy hm h0 hA
def laws_szMatrix_len_v (v544 : Nat) (v545 : Int) : Int :=
  if (decide ((laws_szFloat32S_len_v v544 v545) < (0 : Int))) = true then (
   (-1 : Int)
  ) else (
   (laws_szFloat32S_len_v v544 v545)
  )
theorem laws_szMatrix_len_tot (v544 : Nat) (v545 : Int) : laws_szMatrix_len_g v544 v545 = some (laws_szMatrix_len_v v544 v545) := by
  unfold laws_szMatrix_len_g laws_szMatrix_len_T laws_szMatrix_len_v
  simp only [Tree.run]
  repeat' (first | rfl | split)
noncomputable def laws_szMatrix_len_F : DFn := fun args L =>
  match args with
  | [.agg [.int .i64 v542, .int .i64 v543, a1], .int .i64 v545] =>
    optT (lenV L a1) fun v544 =>
    .leaf (.int .i64 (laws_szMatrix_len_v v544 v545), L)
  | _ => .fail
theorem laws_szMatrix_len_Fok : COk Try.prog 29 laws_szMatrix_len_F true := by
  intro F L H args r L' hs ha hr
  unfold laws_szMatrix_len_F at hr
  split at hr
  · rename_i v542 v543 a1 v545
    obtain ⟨v544, hv544, hr⟩ := optT_run hr
    have hy := laws_szMatrix_len_tot v544 v545
    generalize laws_szMatrix_len_v v544 v545 = y at hy hr
    simp only [Tree.run, Option.some.injEq, Prod.mk.injEq] at hr
    obtain ⟨rfl, rfl⟩ := hr
    exact call_ok0 hs (fun k => (([a1.av F] : List AV)[k]?).getD .top) [.agg [.int .i64 v542, .int .i64 v543, a1], .int .i64 v545] [.agg [.int .i64 v542, .int .i64 v543, .hslc (BR.root 0) v544], .int .i64 v545] (fun F' h0 hi hρ => ⟨by simp [DVs.av, DV.av, BR.av, hρ], laws_szMatrix_len_fn v542 v543 v544 v545 F' (by rw [hi]; rfl) (st_nil hi) ⟨⟨trivial, trivial, hslc_ok hi (by rw [h0, hρ]; exact lenV_ok hs (DVs.okAt (DVs.okAt ha 0 rfl) 2 rfl) hv544), trivial⟩, trivial, trivial⟩ hy⟩) rfl
  · cases hr
/-! laws.szInt64S -/
noncomputable def laws_szInt64S_len_LO (v548 : Nat) (v549 : Int) : LOr := fun id e L =>
  match id with
  | _ => .fail
noncomputable def laws_szInt64S_len_tab : List (FuncId × DFn × Bool) := []
theorem laws_szInt64S_len_hO : OrcOk Try.prog (tabD laws_szInt64S_len_tab) (tabM laws_szInt64S_len_tab) := tabD_nil _
noncomputable def laws_szInt64S_len_T (v548 : Nat) (v549 : Int) : Tree (Int) :=
  (.br (decide (IntKind.i64.wrap (v549 - ((v548 : Nat) : Int)) < (0 : Int))) (
   .leaf (-1 : Int)
  ) (
   .leaf (IntKind.i64.wrap (v549 - ((v548 : Nat) : Int)))
  ))

noncomputable def laws_szInt64S_len_g (v548 : Nat) (v549 : Int) : Option (Int) := (laws_szInt64S_len_T v548 v549).run
def laws_szInt64S_len_enc (v548 : Nat) (v549 : Int) (y : Int) : Rs := (.int .i64 y, [])
theorem laws_szInt64S_len_den (v548 : Nat) (v549 : Int) : (den TT (tabD laws_szInt64S_len_tab) (tabM laws_szInt64S_len_tab) (laws_szInt64S_len_LO v548 v549) (codeOf Try.f63) ([.hslc (BR.root 0) v548, .int .i64 v549] ++ List.replicate (Try.f63.ntmps - ([.hslc (BR.root 0) v548, .int .i64 v549] : List DV).length) .undef) []).bind (retD TT Try.f63.results.toList 0) = (laws_szInt64S_len_T v548 v549).bind fun y => .leaf (laws_szInt64S_len_enc v548 v549 y) := by kernel_rfl
theorem laws_szInt64S_len_fn (v548 : Nat) (v549 : Int) (F : Fr) (hm : F.ids.length = 0) (h0 : St F [] F.H0) (hA : DVs.Ok F [] [.hslc (BR.root 0) v548, .int .i64 v549]) {y : Int} (hy : laws_szInt64S_len_g v548 v549 = some y) : ∃ H', FnOk Try.prog 63 (DVs.av F [.hslc (BR.root 0) v548, .int .i64 v549]) F.H0 ((laws_szInt64S_len_enc v548 v549 y).1.av F) H' ∧ St F (laws_szInt64S_len_enc v548 v549 y).2 H' ∧ (laws_szInt64S_len_enc v548 v549 y).1.Ok F (laws_szInt64S_len_enc v548 v549 y).2 :=
  fn_fin tok laws_szInt64S_len_hO mixed Try.func63 Try.call63 (by kernel_rfl) (LoopsOk_eq (l := []) (by kernel_rfl) trivial) (laws_szInt64S_len_den v548 v549) hy hm h0 hA
def laws_szInt64S_len_v (v548 : Nat) (v549 : Int) : Int :=
  if (decide (IntKind.i64.wrap (v549 - ((v548 : Nat) : Int)) < (0 : Int))) = true then (
   (-1 : Int)
  ) else (
   IntKind.i64.wrap (v549 - ((v548 : Nat) : Int))
  )
theorem laws_szInt64S_len_tot (v548 : Nat) (v549 : Int) : laws_szInt64S_len_g v548 v549 = some (laws_szInt64S_len_v v548 v549) := by
  unfold laws_szInt64S_len_g laws_szInt64S_len_T laws_szInt64S_len_v
  simp only [Tree.run]
  repeat' (first | rfl | split)
noncomputable def laws_szInt64S_len_F : DFn := fun args L =>
  match args with
  | [a1, .int .i64 v549] =>
    optT (lenV L a1) fun v548 =>
    .leaf (.int .i64 (laws_szInt64S_len_v v548 v549), L)
  | _ => .fail
theorem laws_szInt64S_len_Fok : COk Try.prog 63 laws_szInt64S_len_F true := by
  intro F L H args r L' hs ha hr
  unfold laws_szInt64S_len_F at hr
  split at hr
  · rename_i a1 v549
    obtain ⟨v548, hv548, hr⟩ := optT_run hr
    have hy := laws_szInt64S_len_tot v548 v549
    generalize laws_szInt64S_len_v v548 v549 = y at hy hr
    simp only [Tree.run, Option.some.injEq, Prod.mk.injEq] at hr
    obtain ⟨rfl, rfl⟩ := hr
    exact call_ok0 hs (fun k => (([a1.av F] : List AV)[k]?).getD .top) [a1, .int .i64 v549] [.hslc (BR.root 0) v548, .int .i64 v549] (fun F' h0 hi hρ => ⟨by simp [DVs.av, DV.av, BR.av, hρ], laws_szInt64S_len_fn v548 v549 F' (by rw [hi]; rfl) (st_nil hi) ⟨hslc_ok hi (by rw [h0, hρ]; exact lenV_ok hs (DVs.okAt ha 0 rfl) hv548), trivial, trivial⟩ hy⟩) rfl
  · cases hr
/-! laws.szFactor -/
noncomputable def laws_szFactor_len_LO (v537 : Int) (v538 : Int) (v539 : Nat) (v540 : Nat) (v541 : Int) : LOr := fun id e L =>
  match id with
  | _ => .fail
noncomputable def laws_szFactor_len_tab : List (FuncId × DFn × Bool) := [(29, laws_szMatrix_len_F, true), (63, laws_szInt64S_len_F, true)]
theorem laws_szFactor_len_hO : OrcOk Try.prog (tabD laws_szFactor_len_tab) (tabM laws_szFactor_len_tab) := tabD_cons laws_szMatrix_len_Fok (tabD_cons laws_szInt64S_len_Fok (tabD_nil _))
noncomputable def laws_szFactor_len_T (v539 : Nat) (v540 : Nat) (v541 : Int) : Tree (Int) :=
  (.br (decide ((laws_szMatrix_len_v v539 v541) < (0 : Int))) (
   .leaf (-1 : Int)
  ) (
   (.br (decide ((laws_szInt64S_len_v v540 (laws_szMatrix_len_v v539 v541)) < (0 : Int))) (
    .leaf (-1 : Int)
   ) (
    .leaf (laws_szInt64S_len_v v540 (laws_szMatrix_len_v v539 v541))
   ))
  ))

noncomputable def laws_szFactor_len_g (v539 : Nat) (v540 : Nat) (v541 : Int) : Option (Int) := (laws_szFactor_len_T v539 v540 v541).run
def laws_szFactor_len_enc (v537 : Int) (v538 : Int) (v539 : Nat) (v540 : Nat) (v541 : Int) (y : Int) : Rs := (.int .i64 y, [])
theorem laws_szFactor_len_den (v537 : Int) (v538 : Int) (v539 : Nat) (v540 : Nat) (v541 : Int) : (den TT (tabD laws_szFactor_len_tab) (tabM laws_szFactor_len_tab) (laws_szFactor_len_LO v537 v538 v539 v540 v541) (codeOf Try.f46) ([.agg [.int .i64 v537, .int .i64 v538, .hslc (BR.root 0) v539, .hslc (BR.root 1) v540], .int .i64 v541] ++ List.replicate (Try.f46.ntmps - ([.agg [.int .i64 v537, .int .i64 v538, .hslc (BR.root 0) v539, .hslc (BR.root 1) v540], .int .i64 v541] : List DV).length) .undef) []).bind (retD TT Try.f46.results.toList 0) = (laws_szFactor_len_T v539 v540 v541).bind fun y => .leaf (laws_szFactor_len_enc v537 v538 v539 v540 v541 y) := by kernel_rfl
theorem laws_szFactor_len_fn (v537 : Int) (v538 : Int) (v539 : Nat) (v540 : Nat) (v541 : Int) (F : Fr) (hm : F.ids.length = 0) (h0 : St F [] F.H0) (hA : DVs.Ok F [] [.agg [.int .i64 v537, .int .i64 v538, .hslc (BR.root 0) v539, .hslc (BR.root 1) v540], .int .i64 v541]) {y : Int} (hy : laws_szFactor_len_g v539 v540 v541 = some y) : ∃ H', FnOk Try.prog 46 (DVs.av F [.agg [.int .i64 v537, .int .i64 v538, .hslc (BR.root 0) v539, .hslc (BR.root 1) v540], .int .i64 v541]) F.H0 ((laws_szFactor_len_enc v537 v538 v539 v540 v541 y).1.av F) H' ∧ St F (laws_szFactor_len_enc v537 v538 v539 v540 v541 y).2 H' ∧ (laws_szFactor_len_enc v537 v538 v539 v540 v541 y).1.Ok F (laws_szFactor_len_enc v537 v538 v539 v540 v541 y).2 :=
  fn_fin tok laws_szFactor_len_hO mixed Try.func46 Try.call46 (by kernel_rfl) (LoopsOk_eq (l := []) (by kernel_rfl) trivial) (laws_szFactor_len_den v537 v538 v539 v540 v541) hy hm h0 hA
def laws_szFactor_len_v (v539 : Nat) (v540 : Nat) (v541 : Int) : Int :=
  if (decide ((laws_szMatrix_len_v v539 v541) < (0 : Int))) = true then (
   (-1 : Int)
  ) else (
   if (decide ((laws_szInt64S_len_v v540 (laws_szMatrix_len_v v539 v541)) < (0 : Int))) = true then (
    (-1 : Int)
   ) else (
    (laws_szInt64S_len_v v540 (laws_szMatrix_len_v v539 v541))
   )
  )
theorem laws_szFactor_len_tot (v539 : Nat) (v540 : Nat) (v541 : Int) : laws_szFactor_len_g v539 v540 v541 = some (laws_szFactor_len_v v539 v540 v541) := by
  unfold laws_szFactor_len_g laws_szFactor_len_T laws_szFactor_len_v
  simp only [Tree.run]
  repeat' (first | rfl | split)
noncomputable def laws_szFactor_len_F : DFn := fun args L =>
  match args with
  | [.agg [.int .i64 v537, .int .i64 v538, a1, a2], .int .i64 v541] =>
    optT (lenV L a1) fun v539 =>
    optT (lenV L a2) fun v540 =>
    .leaf (.int .i64 (laws_szFactor_len_v v539 v540 v541), L)
  | _ => .fail
theorem laws_szFactor_len_Fok : COk Try.prog 46 laws_szFactor_len_F true := by
  intro F L H args r L' hs ha hr
  unfold laws_szFactor_len_F at hr
  split at hr
  · rename_i v537 v538 a1 a2 v541
    obtain ⟨v539, hv539, hr⟩ := optT_run hr
    obtain ⟨v540, hv540, hr⟩ := optT_run hr
    have hy := laws_szFactor_len_tot v539 v540 v541
    generalize laws_szFactor_len_v v539 v540 v541 = y at hy hr
    simp only [Tree.run, Option.some.injEq, Prod.mk.injEq] at hr
    obtain ⟨rfl, rfl⟩ := hr
    exact call_ok0 hs (fun k => (([a1.av F, a2.av F] : List AV)[k]?).getD .top) [.agg [.int .i64 v537, .int .i64 v538, a1, a2], .int .i64 v541] [.agg [.int .i64 v537, .int .i64 v538, .hslc (BR.root 0) v539, .hslc (BR.root 1) v540], .int .i64 v541] (fun F' h0 hi hρ => ⟨by simp [DVs.av, DV.av, BR.av, hρ], laws_szFactor_len_fn v537 v538 v539 v540 v541 F' (by rw [hi]; rfl) (st_nil hi) ⟨⟨trivial, trivial, hslc_ok hi (by rw [h0, hρ]; exact lenV_ok hs (DVs.okAt (DVs.okAt ha 0 rfl) 2 rfl) hv539), hslc_ok hi (by rw [h0, hρ]; exact lenV_ok hs (DVs.okAt (DVs.okAt ha 0 rfl) 3 rfl) hv540), trivial⟩, trivial, trivial⟩ hy⟩) rfl
  · cases hr
/-! laws.FnExactUpperOf -/
noncomputable def laws_FnExactUpperOf_len_LO (v533 : Int) (v534 : Int) (v535 : Nat) (v536 : Nat) : LOr := fun id e L =>
  match id with
  | _ => .fail
noncomputable def laws_FnExactUpperOf_len_tab : List (FuncId × DFn × Bool) := [(46, laws_szFactor_len_F, true)]
theorem laws_FnExactUpperOf_len_hO : OrcOk Try.prog (tabD laws_FnExactUpperOf_len_tab) (tabM laws_FnExactUpperOf_len_tab) := tabD_cons laws_szFactor_len_Fok (tabD_nil _)
noncomputable def laws_FnExactUpperOf_len_T (v535 : Nat) (v536 : Nat) : Tree (Bool) :=
  (.br (decide ((laws_szFactor_len_v v535 v536 (1048576 : Int)) < (0 : Int))) (
   .leaf true
  ) (
   .fail
  ))

noncomputable def laws_FnExactUpperOf_len_g (v535 : Nat) (v536 : Nat) : Option (Bool) := (laws_FnExactUpperOf_len_T v535 v536).run
def laws_FnExactUpperOf_len_enc (v533 : Int) (v534 : Int) (v535 : Nat) (v536 : Nat) (y : Bool) : Rs := (.bool y, [])
theorem laws_FnExactUpperOf_len_den (v533 : Int) (v534 : Int) (v535 : Nat) (v536 : Nat) : (den TT (tabD laws_FnExactUpperOf_len_tab) (tabM laws_FnExactUpperOf_len_tab) (laws_FnExactUpperOf_len_LO v533 v534 v535 v536) (codeOf Try.f11) ([.agg [.int .i64 v533, .int .i64 v534, .hslc (BR.root 0) v535, .hslc (BR.root 1) v536]] ++ List.replicate (Try.f11.ntmps - ([.agg [.int .i64 v533, .int .i64 v534, .hslc (BR.root 0) v535, .hslc (BR.root 1) v536]] : List DV).length) .undef) []).bind (retD TT Try.f11.results.toList 0) = (laws_FnExactUpperOf_len_T v535 v536).bind fun y => .leaf (laws_FnExactUpperOf_len_enc v533 v534 v535 v536 y) := by kernel_rfl
theorem laws_FnExactUpperOf_len_fn (v533 : Int) (v534 : Int) (v535 : Nat) (v536 : Nat) (F : Fr) (hm : F.ids.length = 0) (h0 : St F [] F.H0) (hA : DVs.Ok F [] [.agg [.int .i64 v533, .int .i64 v534, .hslc (BR.root 0) v535, .hslc (BR.root 1) v536]]) {y : Bool} (hy : laws_FnExactUpperOf_len_g v535 v536 = some y) : ∃ H', FnOk Try.prog 11 (DVs.av F [.agg [.int .i64 v533, .int .i64 v534, .hslc (BR.root 0) v535, .hslc (BR.root 1) v536]]) F.H0 ((laws_FnExactUpperOf_len_enc v533 v534 v535 v536 y).1.av F) H' ∧ St F (laws_FnExactUpperOf_len_enc v533 v534 v535 v536 y).2 H' ∧ (laws_FnExactUpperOf_len_enc v533 v534 v535 v536 y).1.Ok F (laws_FnExactUpperOf_len_enc v533 v534 v535 v536 y).2 :=
  fn_fin tok laws_FnExactUpperOf_len_hO mixed Try.func11 Try.call11 (by kernel_rfl) (LoopsOk_eq (l := []) (by kernel_rfl) trivial) (laws_FnExactUpperOf_len_den v533 v534 v535 v536) hy hm h0 hA
noncomputable def laws_FnExactUpperOf_len_F : DFn := fun args L =>
  match args with
  | [.agg [.int .i64 v533, .int .i64 v534, a1, a2]] =>
    optT (lenV L a1) fun v535 =>
    optT (lenV L a2) fun v536 =>
    .call (laws_FnExactUpperOf_len_g v535 v536) fun y => .leaf (.bool y, L)
  | _ => .fail
theorem laws_FnExactUpperOf_len_Fok : COk Try.prog 11 laws_FnExactUpperOf_len_F true := by
  intro F L H args r L' hs ha hr
  unfold laws_FnExactUpperOf_len_F at hr
  split at hr
  · rename_i v533 v534 a1 a2
    obtain ⟨v535, hv535, hr⟩ := optT_run hr
    obtain ⟨v536, hv536, hr⟩ := optT_run hr
    simp only [Tree.run] at hr
    obtain ⟨y, hy, hr⟩ := Option.bind_eq_some_iff.1 hr
    simp only [Tree.run, Option.some.injEq, Prod.mk.injEq] at hr
    obtain ⟨rfl, rfl⟩ := hr
    exact call_ok0 hs (fun k => (([a1.av F, a2.av F] : List AV)[k]?).getD .top) [.agg [.int .i64 v533, .int .i64 v534, a1, a2]] [.agg [.int .i64 v533, .int .i64 v534, .hslc (BR.root 0) v535, .hslc (BR.root 1) v536]] (fun F' h0 hi hρ => ⟨by simp [DVs.av, DV.av, BR.av, hρ], laws_FnExactUpperOf_len_fn v533 v534 v535 v536 F' (by rw [hi]; rfl) (st_nil hi) ⟨⟨trivial, trivial, hslc_ok hi (by rw [h0, hρ]; exact lenV_ok hs (DVs.okAt (DVs.okAt ha 0 rfl) 2 rfl) hv535), hslc_ok hi (by rw [h0, hρ]; exact lenV_ok hs (DVs.okAt (DVs.okAt ha 0 rfl) 3 rfl) hv536), trivial⟩, trivial⟩ hy⟩) rfl
  · cases hr
end Go.Proofs.Ytjadfgeemfdbmaa.AM
