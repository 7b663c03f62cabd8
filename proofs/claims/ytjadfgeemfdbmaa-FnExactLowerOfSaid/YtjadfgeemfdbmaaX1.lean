/- Functions: what they come to. -/
import Derived.Test.YtjadfgeemfdbmaaX0
set_option maxRecDepth 100000
set_option maxHeartbeats 4000000
set_option linter.unusedSimpArgs false
set_option linter.unusedVariables false
namespace Go.Proofs.Ytjadfgeemfdbmaa.AM
open Go.Proofs
/-! impl.LowerOf -/
noncomputable def impl_LowerOf_LO (v189 : Int) (v190 : Int) (v191 : List Nat) (v192 : List Int) : LOr := fun id e L =>
  match id with
  | _ => .fail
noncomputable def impl_LowerOf_tab : List (FuncId × DFn × Bool) := [(49, impl_ValidFactor_F, true), (91, impl_made_F, true)]
theorem impl_LowerOf_hO : OrcOk Try.prog (tabD impl_LowerOf_tab) (tabM impl_LowerOf_tab) := tabD_cons impl_ValidFactor_Fok (tabD_cons impl_made_Fok (tabD_nil _))
noncomputable def impl_LowerOf_T (v189 : Int) (v190 : Int) (v191 : List Nat) (v192 : List Int) : Tree ((Unit) ⊕ (Int × Int × (List Nat))) :=
  (.call (impl_ValidFactor_g v189 v190 v191 v192) fun v261 =>
  (.br (!v261) (
   .leaf (.inl ())
  ) (
   (.call (impl_made_g v189 v189 v189 v190 v191 v192) fun v367 =>
   .leaf (.inr (v367.1, v367.2.1, v367.2.2)))
  )))

noncomputable def impl_LowerOf_g (v189 : Int) (v190 : Int) (v191 : List Nat) (v192 : List Int) : Option ((Unit) ⊕ (Int × Int × (List Nat))) := (impl_LowerOf_T v189 v190 v191 v192).run
def impl_LowerOf_enc (v189 : Int) (v190 : Int) (v191 : List Nat) (v192 : List Int) (y : (Unit) ⊕ (Int × Int × (List Nat))) : Rs := (match y with | .inl y => (.tup [.agg [.int .i64 (0 : Int), .int .i64 (0 : Int), .nilslc], .lit false], []) | .inr y => (.tup [.agg [.int .i64 y.1, .int .i64 y.2.1, .own 0 0 ((y.2.2).length)], .lit true], [.row (.f32 y.2.2) 0]))
theorem impl_LowerOf_den (v189 : Int) (v190 : Int) (v191 : List Nat) (v192 : List Int) : (den TT (tabD impl_LowerOf_tab) (tabM impl_LowerOf_tab) (impl_LowerOf_LO v189 v190 v191 v192) (codeOf Try.f60) ([.agg [.int .i64 v189, .int .i64 v190, .bslc (BR.root 0) (.f32 v191), .bslc (BR.root 1) (.i64 v192)]] ++ List.replicate (Try.f60.ntmps - ([.agg [.int .i64 v189, .int .i64 v190, .bslc (BR.root 0) (.f32 v191), .bslc (BR.root 1) (.i64 v192)]] : List DV).length) .undef) []).bind (retD TT Try.f60.results.toList 0) = (impl_LowerOf_T v189 v190 v191 v192).bind fun y => .leaf (impl_LowerOf_enc v189 v190 v191 v192 y) := by kernel_rfl
theorem impl_LowerOf_fn (v189 : Int) (v190 : Int) (v191 : List Nat) (v192 : List Int) (F : Fr) (hm : F.ids.length = 0) (h0 : St F [] F.H0) (hA : DVs.Ok F [] [.agg [.int .i64 v189, .int .i64 v190, .bslc (BR.root 0) (.f32 v191), .bslc (BR.root 1) (.i64 v192)]]) {y : (Unit) ⊕ (Int × Int × (List Nat))} (hy : impl_LowerOf_g v189 v190 v191 v192 = some y) : ∃ H', FnOk Try.prog 60 (DVs.av F [.agg [.int .i64 v189, .int .i64 v190, .bslc (BR.root 0) (.f32 v191), .bslc (BR.root 1) (.i64 v192)]]) F.H0 ((impl_LowerOf_enc v189 v190 v191 v192 y).1.av F) H' ∧ St F (impl_LowerOf_enc v189 v190 v191 v192 y).2 H' ∧ (impl_LowerOf_enc v189 v190 v191 v192 y).1.Ok F (impl_LowerOf_enc v189 v190 v191 v192 y).2 :=
  fn_fin tok impl_LowerOf_hO mixed Try.func60 Try.call60 (by kernel_rfl) (LoopsOk_eq (l := []) (by kernel_rfl) trivial) (impl_LowerOf_den v189 v190 v191 v192) hy hm h0 hA
noncomputable def impl_LowerOf_F : DFn := fun args L =>
  match args with
  | [.agg [.int .i64 v189, .int .i64 v190, a1, a2]] =>
    optT (rowF32 L a1) fun v191 =>
    optT (rowI64 L a2) fun v192 =>
    .call (impl_LowerOf_g v189 v190 v191 v192) fun y => .sum y (fun y0 => .leaf (.tup [.agg [.int .i64 (0 : Int), .int .i64 (0 : Int), .nilslc], .lit false], L)) (fun z0 => .leaf (.tup [.agg [.int .i64 z0.1, .int .i64 z0.2.1, .own (L.length + 0) 0 ((z0.2.2).length)], .lit true], L ++ [.row (.f32 z0.2.2) 0]))
  | _ => .fail
theorem impl_LowerOf_Fok : COk Try.prog 60 impl_LowerOf_F true := by
  intro F L H args r L' hs ha hr
  unfold impl_LowerOf_F at hr
  split at hr
  · rename_i v189 v190 a1 a2
    obtain ⟨v191, hv191, hr⟩ := optT_run hr
    obtain ⟨v192, hv192, hr⟩ := optT_run hr
    simp only [Tree.run] at hr
    obtain ⟨y, hy, hr⟩ := Option.bind_eq_some_iff.1 hr
    cases y with
    | inl y =>
      simp only [Tree.run, Option.some.injEq, Prod.mk.injEq] at hr
      obtain ⟨rfl, rfl⟩ := hr
      exact call_ok0 hs (fun k => (([a1.av F, a2.av F] : List AV)[k]?).getD .top) [.agg [.int .i64 v189, .int .i64 v190, a1, a2]] [.agg [.int .i64 v189, .int .i64 v190, .bslc (BR.root 0) (.f32 v191), .bslc (BR.root 1) (.i64 v192)]] (fun F' h0 hi hρ => ⟨by simp [DVs.av, DV.av, BR.av, hρ], impl_LowerOf_fn v189 v190 v191 v192 F' (by rw [hi]; rfl) (st_nil hi) ⟨⟨trivial, trivial, bslc_ok hi (by rw [h0, hρ]; exact rowF32_ok hs (DVs.okAt (DVs.okAt ha 0 rfl) 2 rfl) hv191), bslc_ok hi (by rw [h0, hρ]; exact rowI64_ok hs (DVs.okAt (DVs.okAt ha 0 rfl) 3 rfl) hv192), trivial⟩, trivial⟩ hy⟩) rfl
    | inr y =>
      simp only [Tree.run, Option.some.injEq, Prod.mk.injEq] at hr
      obtain ⟨rfl, rfl⟩ := hr
      exact call_ok1 hs (fun k => (([a1.av F, a2.av F] : List AV)[k]?).getD .top) [.agg [.int .i64 v189, .int .i64 v190, a1, a2]] [.agg [.int .i64 v189, .int .i64 v190, .bslc (BR.root 0) (.f32 v191), .bslc (BR.root 1) (.i64 v192)]] (fun F' h0 hi hρ => ⟨by simp [DVs.av, DV.av, BR.av, hρ], impl_LowerOf_fn v189 v190 v191 v192 F' (by rw [hi]; rfl) (st_nil hi) ⟨⟨trivial, trivial, bslc_ok hi (by rw [h0, hρ]; exact rowF32_ok hs (DVs.okAt (DVs.okAt ha 0 rfl) 2 rfl) hv191), bslc_ok hi (by rw [h0, hρ]; exact rowI64_ok hs (DVs.okAt (DVs.okAt ha 0 rfl) 3 rfl) hv192), trivial⟩, trivial⟩ hy⟩) rfl rfl
  · cases hr
/-! laws.sameFloat -/
noncomputable def laws_sameFloat_LO (v380 : Nat) (v381 : Nat) : LOr := fun id e L =>
  match id with
  | _ => .fail
noncomputable def laws_sameFloat_tab : List (FuncId × DFn × Bool) := []
theorem laws_sameFloat_hO : OrcOk Try.prog (tabD laws_sameFloat_tab) (tabM laws_sameFloat_tab) := tabD_nil _
noncomputable def laws_sameFloat_T (v380 : Nat) (v381 : Nat) : Tree (Bool) :=
  (.br (!feq .f64 v380 v380) (
   (.br (!feq .f64 v380 v380) (
    .leaf (!feq .f64 v381 v381)
   ) (
    .leaf false
   ))
  ) (
   (.br (!feq .f64 v381 v381) (
    (.br (!feq .f64 v380 v380) (
     .leaf (!feq .f64 v381 v381)
    ) (
     .leaf false
    ))
   ) (
    (.br (feq .f64 v380 (0 : Nat)) (
     (.br (feq .f64 v381 (0 : Nat)) (
      .leaf ((fgrt .f64 (fdiv .f64 (4607182418800017408 : Nat) v380) (0 : Nat)) == (fgrt .f64 (fdiv .f64 (4607182418800017408 : Nat) v381) (0 : Nat)))
     ) (
      .leaf (feq .f64 v380 v381)
     ))
    ) (
     .leaf (feq .f64 v380 v381)
    ))
   ))
  ))

noncomputable def laws_sameFloat_g (v380 : Nat) (v381 : Nat) : Option (Bool) := (laws_sameFloat_T v380 v381).run
def laws_sameFloat_enc (v380 : Nat) (v381 : Nat) (y : Bool) : Rs := (.bool y, [])
theorem laws_sameFloat_den (v380 : Nat) (v381 : Nat) : (den TT (tabD laws_sameFloat_tab) (tabM laws_sameFloat_tab) (laws_sameFloat_LO v380 v381) (codeOf Try.f53) ([.flt .f64 v380, .flt .f64 v381] ++ List.replicate (Try.f53.ntmps - ([.flt .f64 v380, .flt .f64 v381] : List DV).length) .undef) []).bind (retD TT Try.f53.results.toList 0) = (laws_sameFloat_T v380 v381).bind fun y => .leaf (laws_sameFloat_enc v380 v381 y) := by kernel_rfl
theorem laws_sameFloat_fn (v380 : Nat) (v381 : Nat) (F : Fr) (hm : F.ids.length = 0) (h0 : St F [] F.H0) (hA : DVs.Ok F [] [.flt .f64 v380, .flt .f64 v381]) {y : Bool} (hy : laws_sameFloat_g v380 v381 = some y) : ∃ H', FnOk Try.prog 53 (DVs.av F [.flt .f64 v380, .flt .f64 v381]) F.H0 ((laws_sameFloat_enc v380 v381 y).1.av F) H' ∧ St F (laws_sameFloat_enc v380 v381 y).2 H' ∧ (laws_sameFloat_enc v380 v381 y).1.Ok F (laws_sameFloat_enc v380 v381 y).2 :=
  fn_fin tok laws_sameFloat_hO mixed Try.func53 Try.call53 (by kernel_rfl) (LoopsOk_eq (l := []) (by kernel_rfl) trivial) (laws_sameFloat_den v380 v381) hy hm h0 hA
def laws_sameFloat_v (v380 : Nat) (v381 : Nat) : Bool :=
  if (!feq .f64 v380 v380) = true then (
   if (!feq .f64 v380 v380) = true then (
    !feq .f64 v381 v381
   ) else (
    false
   )
  ) else (
   if (!feq .f64 v381 v381) = true then (
    if (!feq .f64 v380 v380) = true then (
     !feq .f64 v381 v381
    ) else (
     false
    )
   ) else (
    if (feq .f64 v380 (0 : Nat)) = true then (
     if (feq .f64 v381 (0 : Nat)) = true then (
      (fgrt .f64 (fdiv .f64 (4607182418800017408 : Nat) v380) (0 : Nat)) == (fgrt .f64 (fdiv .f64 (4607182418800017408 : Nat) v381) (0 : Nat))
     ) else (
      feq .f64 v380 v381
     )
    ) else (
     feq .f64 v380 v381
    )
   )
  )
theorem laws_sameFloat_tot (v380 : Nat) (v381 : Nat) : laws_sameFloat_g v380 v381 = some (laws_sameFloat_v v380 v381) := by
  unfold laws_sameFloat_g laws_sameFloat_T laws_sameFloat_v
  simp only [Tree.run]
  repeat' (first | rfl | split)
noncomputable def laws_sameFloat_F : DFn := fun args L =>
  match args with
  | [.flt .f64 v380, .flt .f64 v381] =>
    .leaf (.bool (laws_sameFloat_v v380 v381), L)
  | _ => .fail
theorem laws_sameFloat_Fok : COk Try.prog 53 laws_sameFloat_F true := by
  intro F L H args r L' hs ha hr
  unfold laws_sameFloat_F at hr
  split at hr
  · rename_i v380 v381
    have hy := laws_sameFloat_tot v380 v381
    generalize laws_sameFloat_v v380 v381 = y at hy hr
    simp only [Tree.run, Option.some.injEq, Prod.mk.injEq] at hr
    obtain ⟨rfl, rfl⟩ := hr
    exact call_ok0 hs (fun k => (([] : List AV)[k]?).getD .top) [.flt .f64 v380, .flt .f64 v381] [.flt .f64 v380, .flt .f64 v381] (fun F' h0 hi hρ => ⟨by simp [DVs.av, DV.av, BR.av, hρ], laws_sameFloat_fn v380 v381 F' (by rw [hi]; rfl) (st_nil hi) ⟨trivial, trivial, trivial⟩ hy⟩) rfl
  · cases hr
/-! laws.eqFloat32S -/
noncomputable def laws_eqFloat32S_l0_T (v377 : List Nat) (v378 : List Nat) (s : Int) : Tree ((Int) ⊕ ((Unit) ⊕ (Unit))) :=
  (.br (decide (s < ((v377.length : Nat) : Int))) (
   (.grd (inb s v377.length) <|
   (.grd (inb s v378.length) <|
   (.br (!(laws_sameFloat_v (wid (nth v377 (Int.toNat s))) (wid (nth v378 (Int.toNat s))))) (
    .leaf (.inr (.inl ()))
   ) (
    .leaf (.inl (IntKind.i64.wrap (s + (1 : Int))))
   ))))
  ) (
   .leaf (.inr (.inr ()))
  ))

noncomputable def laws_eqFloat32S_l0_g (v377 : List Nat) (v378 : List Nat) (s0 : Int) : Option ((Unit) ⊕ (Unit)) := whileM (fun s => (laws_eqFloat32S_l0_T v377 v378 s).run) s0
def laws_eqFloat32S_l0_E (v377 : List Nat) (v378 : List Nat) (s : Int) : Sd := ([.bslc (BR.root 0) (.f32 v377), .bslc (BR.root 1) (.f32 v378), .top, .top, .top, .int .i64 s, .top, .top, .top, .top, .top, .top, .top, .top, .top, .top, .top, .top, .top, .top, .top, .top, .top, .top, .top, .top, .top, .top, .top], [])
def laws_eqFloat32S_l0_X (v377 : List Nat) (v378 : List Nat) (x : (Unit) ⊕ (Unit)) : Out := (match x with | .inl x => (.ret, [.top, .top, .top, .top, .lit false, .top, .top, .top, .top, .top, .top, .top, .top, .top, .top, .top, .top, .top, .top, .top, .top, .top, .top, .top, .top, .top, .top, .top, .top], []) | .inr x => (.normal, [.top, .top, .top, .top, .top, .top, .top, .top, .top, .top, .top, .top, .top, .top, .top, .top, .top, .top, .top, .top, .top, .top, .top, .top, .top, .top, .top, .top, .top], []))
def laws_eqFloat32S_l0_kill : List Nat := [0, 0, 1, 1, 1, 0, 1, 1, 1, 1, 1, 1, 1, 1, 1, 1, 1, 1, 1, 1, 1, 1, 1, 1, 1, 1, 1, 1, 1]
def laws_eqFloat32S_l0_nx : Exit → List Nat
  | .exit 0 => [1, 1, 1, 1, 1, 1, 1, 1, 1, 1, 1, 1, 1, 1, 1, 1, 1, 1, 1, 1, 1, 1, 1, 1, 1, 1, 1, 1, 1]
  | .ret => [1, 1, 1, 1, 0, 1, 1, 1, 1, 1, 1, 1, 1, 1, 1, 1, 1, 1, 1, 1, 1, 1, 1, 1, 1, 1, 1, 1, 1]
  | _ => []
noncomputable def laws_eqFloat32S_LO (v377 : List Nat) (v378 : List Nat) : LOr := fun id e L =>
  match id with
  | 0 => .need (normA 0 laws_eqFloat32S_l0_kill e L = some (laws_eqFloat32S_l0_E v377 v378 (gI (vAt e 5)))) (.call (laws_eqFloat32S_l0_g v377 v378 (gI (vAt e 5))) fun x => .sum x (fun b0 => .leaf (laws_eqFloat32S_l0_X v377 v378 (.inl b0))) (fun c0 => .leaf (laws_eqFloat32S_l0_X v377 v378 (.inr c0))))
  | _ => .fail
noncomputable def laws_eqFloat32S_tab : List (FuncId × DFn × Bool) := [(53, laws_sameFloat_F, true)]
theorem laws_eqFloat32S_hO : OrcOk Try.prog (tabD laws_eqFloat32S_tab) (tabM laws_eqFloat32S_tab) := tabD_cons laws_sameFloat_Fok (tabD_nil _)
theorem laws_eqFloat32S_l0_be (v377 : List Nat) (v378 : List Nat) (s : Int) : bodyT TT (tabD laws_eqFloat32S_tab) (tabM laws_eqFloat32S_tab) (laws_eqFloat32S_LO v377 v378) 0 laws_eqFloat32S_l0_kill laws_eqFloat32S_l0_nx (bodyOf Try.f20 0) 0 (laws_eqFloat32S_l0_E v377 v378 s) = (laws_eqFloat32S_l0_T v377 v378 s).bind fun y => .leaf (outS (laws_eqFloat32S_l0_E v377 v378) (laws_eqFloat32S_l0_X v377 v378) y) := by kernel_rfl
theorem laws_eqFloat32S_l0_ok (v377 : List Nat) (v378 : List Nat) : LSound Try.prog 0 (laws_eqFloat32S_LO v377 v378) 0 (bodyOf Try.f20 0) := by
  intro e L out h
  exact lo_ok (E := laws_eqFloat32S_l0_E v377 v378) (gT := laws_eqFloat32S_l0_T v377 v378) (X := laws_eqFloat32S_l0_X v377 v378) (s0 := (gI (vAt e 5))) tok laws_eqFloat32S_hO mixed (LoopsOk_eq (l := []) (by kernel_rfl) trivial) (laws_eqFloat32S_l0_be v377 v378) rfl (by intro x; (cases x with | inl b => rfl | inr x => exact rfl)) h
noncomputable def laws_eqFloat32S_T (v377 : List Nat) (v378 : List Nat) : Tree (Bool) :=
  (.br (!decide (((v377.length : Nat) : Int) = ((v378.length : Nat) : Int))) (
   .leaf false
  ) (
   (.need (some (laws_eqFloat32S_l0_E v377 v378 (0 : Int)) = some (laws_eqFloat32S_l0_E v377 v378 (0 : Int))) <|
   (.call (laws_eqFloat32S_l0_g v377 v378 (0 : Int)) fun v384 =>
   (.sum v384 (fun v385 =>
    .leaf false
   ) (fun v386 =>
    .leaf true
   ))))
  ))

noncomputable def laws_eqFloat32S_g (v377 : List Nat) (v378 : List Nat) : Option (Bool) := (laws_eqFloat32S_T v377 v378).run
def laws_eqFloat32S_enc (v377 : List Nat) (v378 : List Nat) (y : Bool) : Rs := (.bool y, [])
theorem laws_eqFloat32S_den (v377 : List Nat) (v378 : List Nat) : (den TT (tabD laws_eqFloat32S_tab) (tabM laws_eqFloat32S_tab) (laws_eqFloat32S_LO v377 v378) (codeOf Try.f20) ([.bslc (BR.root 0) (.f32 v377), .bslc (BR.root 1) (.f32 v378)] ++ List.replicate (Try.f20.ntmps - ([.bslc (BR.root 0) (.f32 v377), .bslc (BR.root 1) (.f32 v378)] : List DV).length) .undef) []).bind (retD TT Try.f20.results.toList 0) = (laws_eqFloat32S_T v377 v378).bind fun y => .leaf (laws_eqFloat32S_enc v377 v378 y) := by kernel_rfl
theorem laws_eqFloat32S_fn (v377 : List Nat) (v378 : List Nat) (F : Fr) (hm : F.ids.length = 0) (h0 : St F [] F.H0) (hA : DVs.Ok F [] [.bslc (BR.root 0) (.f32 v377), .bslc (BR.root 1) (.f32 v378)]) {y : Bool} (hy : laws_eqFloat32S_g v377 v378 = some y) : ∃ H', FnOk Try.prog 20 (DVs.av F [.bslc (BR.root 0) (.f32 v377), .bslc (BR.root 1) (.f32 v378)]) F.H0 ((laws_eqFloat32S_enc v377 v378 y).1.av F) H' ∧ St F (laws_eqFloat32S_enc v377 v378 y).2 H' ∧ (laws_eqFloat32S_enc v377 v378 y).1.Ok F (laws_eqFloat32S_enc v377 v378 y).2 :=
  fn_fin tok laws_eqFloat32S_hO mixed Try.func20 Try.call20 (by kernel_rfl) (LoopsOk_eq (l := [(0, bodyOf Try.f20 0)]) (by kernel_rfl) ⟨laws_eqFloat32S_l0_ok v377 v378, trivial⟩) (laws_eqFloat32S_den v377 v378) hy hm h0 hA
noncomputable def laws_eqFloat32S_F : DFn := fun args L =>
  match args with
  | [a1, a2] =>
    optT (rowF32 L a1) fun v377 =>
    optT (rowF32 L a2) fun v378 =>
    .call (laws_eqFloat32S_g v377 v378) fun y => .leaf (.bool y, L)
  | _ => .fail
theorem laws_eqFloat32S_Fok : COk Try.prog 20 laws_eqFloat32S_F true := by
  intro F L H args r L' hs ha hr
  unfold laws_eqFloat32S_F at hr
  split at hr
  · rename_i a1 a2
    obtain ⟨v377, hv377, hr⟩ := optT_run hr
    obtain ⟨v378, hv378, hr⟩ := optT_run hr
    simp only [Tree.run] at hr
    obtain ⟨y, hy, hr⟩ := Option.bind_eq_some_iff.1 hr
    simp only [Tree.run, Option.some.injEq, Prod.mk.injEq] at hr
    obtain ⟨rfl, rfl⟩ := hr
    exact call_ok0 hs (fun k => (([a1.av F, a2.av F] : List AV)[k]?).getD .top) [a1, a2] [.bslc (BR.root 0) (.f32 v377), .bslc (BR.root 1) (.f32 v378)] (fun F' h0 hi hρ => ⟨by simp [DVs.av, DV.av, BR.av, hρ], laws_eqFloat32S_fn v377 v378 F' (by rw [hi]; rfl) (st_nil hi) ⟨bslc_ok hi (by rw [h0, hρ]; exact rowF32_ok hs (DVs.okAt ha 0 rfl) hv377), bslc_ok hi (by rw [h0, hρ]; exact rowF32_ok hs (DVs.okAt ha 1 rfl) hv378), trivial⟩ hy⟩) rfl
  · cases hr
/-! laws.eqMatrix -/
noncomputable def laws_eqMatrix_LO (v371 : Int) (v372 : Int) (v373 : List Nat) (v374 : Int) (v375 : Int) (v376 : List Nat) : LOr := fun id e L =>
  match id with
  | _ => .fail
noncomputable def laws_eqMatrix_tab : List (FuncId × DFn × Bool) := [(20, laws_eqFloat32S_F, true)]
theorem laws_eqMatrix_hO : OrcOk Try.prog (tabD laws_eqMatrix_tab) (tabM laws_eqMatrix_tab) := tabD_cons laws_eqFloat32S_Fok (tabD_nil _)
noncomputable def laws_eqMatrix_T (v371 : Int) (v372 : Int) (v373 : List Nat) (v374 : Int) (v375 : Int) (v376 : List Nat) : Tree (Bool) :=
  (.br (!decide (v371 = v374)) (
   .leaf false
  ) (
   (.br (!decide (v372 = v375)) (
    .leaf false
   ) (
    (.call (laws_eqFloat32S_g v373 v376) fun v387 =>
    (.br (!v387) (
     .leaf false
    ) (
     .leaf true
    )))
   ))
  ))

noncomputable def laws_eqMatrix_g (v371 : Int) (v372 : Int) (v373 : List Nat) (v374 : Int) (v375 : Int) (v376 : List Nat) : Option (Bool) := (laws_eqMatrix_T v371 v372 v373 v374 v375 v376).run
def laws_eqMatrix_enc (v371 : Int) (v372 : Int) (v373 : List Nat) (v374 : Int) (v375 : Int) (v376 : List Nat) (y : Bool) : Rs := (.bool y, [])
theorem laws_eqMatrix_den (v371 : Int) (v372 : Int) (v373 : List Nat) (v374 : Int) (v375 : Int) (v376 : List Nat) : (den TT (tabD laws_eqMatrix_tab) (tabM laws_eqMatrix_tab) (laws_eqMatrix_LO v371 v372 v373 v374 v375 v376) (codeOf Try.f33) ([.agg [.int .i64 v371, .int .i64 v372, .bslc (BR.root 0) (.f32 v373)], .agg [.int .i64 v374, .int .i64 v375, .bslc (BR.root 1) (.f32 v376)]] ++ List.replicate (Try.f33.ntmps - ([.agg [.int .i64 v371, .int .i64 v372, .bslc (BR.root 0) (.f32 v373)], .agg [.int .i64 v374, .int .i64 v375, .bslc (BR.root 1) (.f32 v376)]] : List DV).length) .undef) []).bind (retD TT Try.f33.results.toList 0) = (laws_eqMatrix_T v371 v372 v373 v374 v375 v376).bind fun y => .leaf (laws_eqMatrix_enc v371 v372 v373 v374 v375 v376 y) := by kernel_rfl
theorem laws_eqMatrix_fn (v371 : Int) (v372 : Int) (v373 : List Nat) (v374 : Int) (v375 : Int) (v376 : List Nat) (F : Fr) (hm : F.ids.length = 0) (h0 : St F [] F.H0) (hA : DVs.Ok F [] [.agg [.int .i64 v371, .int .i64 v372, .bslc (BR.root 0) (.f32 v373)], .agg [.int .i64 v374, .int .i64 v375, .bslc (BR.root 1) (.f32 v376)]]) {y : Bool} (hy : laws_eqMatrix_g v371 v372 v373 v374 v375 v376 = some y) : ∃ H', FnOk Try.prog 33 (DVs.av F [.agg [.int .i64 v371, .int .i64 v372, .bslc (BR.root 0) (.f32 v373)], .agg [.int .i64 v374, .int .i64 v375, .bslc (BR.root 1) (.f32 v376)]]) F.H0 ((laws_eqMatrix_enc v371 v372 v373 v374 v375 v376 y).1.av F) H' ∧ St F (laws_eqMatrix_enc v371 v372 v373 v374 v375 v376 y).2 H' ∧ (laws_eqMatrix_enc v371 v372 v373 v374 v375 v376 y).1.Ok F (laws_eqMatrix_enc v371 v372 v373 v374 v375 v376 y).2 :=
  fn_fin tok laws_eqMatrix_hO mixed Try.func33 Try.call33 (by kernel_rfl) (LoopsOk_eq (l := []) (by kernel_rfl) trivial) (laws_eqMatrix_den v371 v372 v373 v374 v375 v376) hy hm h0 hA
noncomputable def laws_eqMatrix_F : DFn := fun args L =>
  match args with
  | [.agg [.int .i64 v371, .int .i64 v372, a1], .agg [.int .i64 v374, .int .i64 v375, a2]] =>
    optT (rowF32 L a1) fun v373 =>
    optT (rowF32 L a2) fun v376 =>
    .call (laws_eqMatrix_g v371 v372 v373 v374 v375 v376) fun y => .leaf (.bool y, L)
  | _ => .fail
theorem laws_eqMatrix_Fok : COk Try.prog 33 laws_eqMatrix_F true := by
  intro F L H args r L' hs ha hr
  unfold laws_eqMatrix_F at hr
  split at hr
  · rename_i v371 v372 a1 v374 v375 a2
    obtain ⟨v373, hv373, hr⟩ := optT_run hr
    obtain ⟨v376, hv376, hr⟩ := optT_run hr
    simp only [Tree.run] at hr
    obtain ⟨y, hy, hr⟩ := Option.bind_eq_some_iff.1 hr
    simp only [Tree.run, Option.some.injEq, Prod.mk.injEq] at hr
    obtain ⟨rfl, rfl⟩ := hr
    exact call_ok0 hs (fun k => (([a1.av F, a2.av F] : List AV)[k]?).getD .top) [.agg [.int .i64 v371, .int .i64 v372, a1], .agg [.int .i64 v374, .int .i64 v375, a2]] [.agg [.int .i64 v371, .int .i64 v372, .bslc (BR.root 0) (.f32 v373)], .agg [.int .i64 v374, .int .i64 v375, .bslc (BR.root 1) (.f32 v376)]] (fun F' h0 hi hρ => ⟨by simp [DVs.av, DV.av, BR.av, hρ], laws_eqMatrix_fn v371 v372 v373 v374 v375 v376 F' (by rw [hi]; rfl) (st_nil hi) ⟨⟨trivial, trivial, bslc_ok hi (by rw [h0, hρ]; exact rowF32_ok hs (DVs.okAt (DVs.okAt ha 0 rfl) 2 rfl) hv373), trivial⟩, ⟨trivial, trivial, bslc_ok hi (by rw [h0, hρ]; exact rowF32_ok hs (DVs.okAt (DVs.okAt ha 1 rfl) 2 rfl) hv376), trivial⟩, trivial⟩ hy⟩) rfl
  · cases hr
/-! laws.eqInt64S -/
noncomputable def laws_eqInt64S_l0_T (v399 : List Int) (v400 : List Int) (s : Int) : Tree ((Int) ⊕ ((Unit) ⊕ (Unit))) :=
  (.br (decide (s < ((v399.length : Nat) : Int))) (
   (.grd (inb s v399.length) <|
   (.grd (inb s v400.length) <|
   (.br (!decide (nth v399 (Int.toNat s) = nth v400 (Int.toNat s))) (
    .leaf (.inr (.inl ()))
   ) (
    .leaf (.inl (IntKind.i64.wrap (s + (1 : Int))))
   ))))
  ) (
   .leaf (.inr (.inr ()))
  ))

noncomputable def laws_eqInt64S_l0_g (v399 : List Int) (v400 : List Int) (s0 : Int) : Option ((Unit) ⊕ (Unit)) := whileM (fun s => (laws_eqInt64S_l0_T v399 v400 s).run) s0
def laws_eqInt64S_l0_E (v399 : List Int) (v400 : List Int) (s : Int) : Sd := ([.bslc (BR.root 0) (.i64 v399), .bslc (BR.root 1) (.i64 v400), .top, .top, .top, .int .i64 s, .top, .top, .top, .top, .top, .top, .top, .top, .top, .top, .top, .top, .top, .top, .top, .top, .top, .top, .top, .top], [])
def laws_eqInt64S_l0_X (v399 : List Int) (v400 : List Int) (x : (Unit) ⊕ (Unit)) : Out := (match x with | .inl x => (.ret, [.top, .top, .top, .top, .lit false, .top, .top, .top, .top, .top, .top, .top, .top, .top, .top, .top, .top, .top, .top, .top, .top, .top, .top, .top, .top, .top], []) | .inr x => (.normal, [.top, .top, .top, .top, .top, .top, .top, .top, .top, .top, .top, .top, .top, .top, .top, .top, .top, .top, .top, .top, .top, .top, .top, .top, .top, .top], []))
def laws_eqInt64S_l0_kill : List Nat := [0, 0, 1, 1, 1, 0, 1, 1, 1, 1, 1, 1, 1, 1, 1, 1, 1, 1, 1, 1, 1, 1, 1, 1, 1, 1]
def laws_eqInt64S_l0_nx : Exit → List Nat
  | .exit 0 => [1, 1, 1, 1, 1, 1, 1, 1, 1, 1, 1, 1, 1, 1, 1, 1, 1, 1, 1, 1, 1, 1, 1, 1, 1, 1]
  | .ret => [1, 1, 1, 1, 0, 1, 1, 1, 1, 1, 1, 1, 1, 1, 1, 1, 1, 1, 1, 1, 1, 1, 1, 1, 1, 1]
  | _ => []
noncomputable def laws_eqInt64S_LO (v399 : List Int) (v400 : List Int) : LOr := fun id e L =>
  match id with
  | 0 => .need (normA 0 laws_eqInt64S_l0_kill e L = some (laws_eqInt64S_l0_E v399 v400 (gI (vAt e 5)))) (.call (laws_eqInt64S_l0_g v399 v400 (gI (vAt e 5))) fun x => .sum x (fun b0 => .leaf (laws_eqInt64S_l0_X v399 v400 (.inl b0))) (fun c0 => .leaf (laws_eqInt64S_l0_X v399 v400 (.inr c0))))
  | _ => .fail
noncomputable def laws_eqInt64S_tab : List (FuncId × DFn × Bool) := []
theorem laws_eqInt64S_hO : OrcOk Try.prog (tabD laws_eqInt64S_tab) (tabM laws_eqInt64S_tab) := tabD_nil _
theorem laws_eqInt64S_l0_be (v399 : List Int) (v400 : List Int) (s : Int) : bodyT TT (tabD laws_eqInt64S_tab) (tabM laws_eqInt64S_tab) (laws_eqInt64S_LO v399 v400) 0 laws_eqInt64S_l0_kill laws_eqInt64S_l0_nx (bodyOf Try.f44 0) 0 (laws_eqInt64S_l0_E v399 v400 s) = (laws_eqInt64S_l0_T v399 v400 s).bind fun y => .leaf (outS (laws_eqInt64S_l0_E v399 v400) (laws_eqInt64S_l0_X v399 v400) y) := by kernel_rfl
theorem laws_eqInt64S_l0_ok (v399 : List Int) (v400 : List Int) : LSound Try.prog 0 (laws_eqInt64S_LO v399 v400) 0 (bodyOf Try.f44 0) := by
  intro e L out h
  exact lo_ok (E := laws_eqInt64S_l0_E v399 v400) (gT := laws_eqInt64S_l0_T v399 v400) (X := laws_eqInt64S_l0_X v399 v400) (s0 := (gI (vAt e 5))) tok laws_eqInt64S_hO mixed (LoopsOk_eq (l := []) (by kernel_rfl) trivial) (laws_eqInt64S_l0_be v399 v400) rfl (by intro x; (cases x with | inl b => rfl | inr x => exact rfl)) h
noncomputable def laws_eqInt64S_T (v399 : List Int) (v400 : List Int) : Tree (Bool) :=
  (.br (!decide (((v399.length : Nat) : Int) = ((v400.length : Nat) : Int))) (
   .leaf false
  ) (
   (.need (some (laws_eqInt64S_l0_E v399 v400 (0 : Int)) = some (laws_eqInt64S_l0_E v399 v400 (0 : Int))) <|
   (.call (laws_eqInt64S_l0_g v399 v400 (0 : Int)) fun v404 =>
   (.sum v404 (fun v405 =>
    .leaf false
   ) (fun v406 =>
    .leaf true
   ))))
  ))

noncomputable def laws_eqInt64S_g (v399 : List Int) (v400 : List Int) : Option (Bool) := (laws_eqInt64S_T v399 v400).run
def laws_eqInt64S_enc (v399 : List Int) (v400 : List Int) (y : Bool) : Rs := (.bool y, [])
theorem laws_eqInt64S_den (v399 : List Int) (v400 : List Int) : (den TT (tabD laws_eqInt64S_tab) (tabM laws_eqInt64S_tab) (laws_eqInt64S_LO v399 v400) (codeOf Try.f44) ([.bslc (BR.root 0) (.i64 v399), .bslc (BR.root 1) (.i64 v400)] ++ List.replicate (Try.f44.ntmps - ([.bslc (BR.root 0) (.i64 v399), .bslc (BR.root 1) (.i64 v400)] : List DV).length) .undef) []).bind (retD TT Try.f44.results.toList 0) = (laws_eqInt64S_T v399 v400).bind fun y => .leaf (laws_eqInt64S_enc v399 v400 y) := by kernel_rfl
theorem laws_eqInt64S_fn (v399 : List Int) (v400 : List Int) (F : Fr) (hm : F.ids.length = 0) (h0 : St F [] F.H0) (hA : DVs.Ok F [] [.bslc (BR.root 0) (.i64 v399), .bslc (BR.root 1) (.i64 v400)]) {y : Bool} (hy : laws_eqInt64S_g v399 v400 = some y) : ∃ H', FnOk Try.prog 44 (DVs.av F [.bslc (BR.root 0) (.i64 v399), .bslc (BR.root 1) (.i64 v400)]) F.H0 ((laws_eqInt64S_enc v399 v400 y).1.av F) H' ∧ St F (laws_eqInt64S_enc v399 v400 y).2 H' ∧ (laws_eqInt64S_enc v399 v400 y).1.Ok F (laws_eqInt64S_enc v399 v400 y).2 :=
  fn_fin tok laws_eqInt64S_hO mixed Try.func44 Try.call44 (by kernel_rfl) (LoopsOk_eq (l := [(0, bodyOf Try.f44 0)]) (by kernel_rfl) ⟨laws_eqInt64S_l0_ok v399 v400, trivial⟩) (laws_eqInt64S_den v399 v400) hy hm h0 hA
noncomputable def laws_eqInt64S_F : DFn := fun args L =>
  match args with
  | [a1, a2] =>
    optT (rowI64 L a1) fun v399 =>
    optT (rowI64 L a2) fun v400 =>
    .call (laws_eqInt64S_g v399 v400) fun y => .leaf (.bool y, L)
  | _ => .fail
theorem laws_eqInt64S_Fok : COk Try.prog 44 laws_eqInt64S_F true := by
  intro F L H args r L' hs ha hr
  unfold laws_eqInt64S_F at hr
  split at hr
  · rename_i a1 a2
    obtain ⟨v399, hv399, hr⟩ := optT_run hr
    obtain ⟨v400, hv400, hr⟩ := optT_run hr
    simp only [Tree.run] at hr
    obtain ⟨y, hy, hr⟩ := Option.bind_eq_some_iff.1 hr
    simp only [Tree.run, Option.some.injEq, Prod.mk.injEq] at hr
    obtain ⟨rfl, rfl⟩ := hr
    exact call_ok0 hs (fun k => (([a1.av F, a2.av F] : List AV)[k]?).getD .top) [a1, a2] [.bslc (BR.root 0) (.i64 v399), .bslc (BR.root 1) (.i64 v400)] (fun F' h0 hi hρ => ⟨by simp [DVs.av, DV.av, BR.av, hρ], laws_eqInt64S_fn v399 v400 F' (by rw [hi]; rfl) (st_nil hi) ⟨bslc_ok hi (by rw [h0, hρ]; exact rowI64_ok hs (DVs.okAt ha 0 rfl) hv399), bslc_ok hi (by rw [h0, hρ]; exact rowI64_ok hs (DVs.okAt ha 1 rfl) hv400), trivial⟩ hy⟩) rfl
  · cases hr
/-! laws.eqFactor -/
noncomputable def laws_eqFactor_LO (v390 : Int) (v391 : Int) (v392 : List Nat) (v393 : List Int) (v394 : Int) (v395 : Int) (v396 : List Nat) (v397 : List Int) : LOr := fun id e L =>
  match id with
  | _ => .fail
noncomputable def laws_eqFactor_tab : List (FuncId × DFn × Bool) := [(33, laws_eqMatrix_F, true), (44, laws_eqInt64S_F, true)]
theorem laws_eqFactor_hO : OrcOk Try.prog (tabD laws_eqFactor_tab) (tabM laws_eqFactor_tab) := tabD_cons laws_eqMatrix_Fok (tabD_cons laws_eqInt64S_Fok (tabD_nil _))
noncomputable def laws_eqFactor_T (v390 : Int) (v391 : Int) (v392 : List Nat) (v393 : List Int) (v394 : Int) (v395 : Int) (v396 : List Nat) (v397 : List Int) : Tree (Bool) :=
  (.call (laws_eqMatrix_g v390 v391 v392 v394 v395 v396) fun v398 =>
  (.br (!v398) (
   .leaf false
  ) (
   (.call (laws_eqInt64S_g v393 v397) fun v407 =>
   (.br (!v407) (
    .leaf false
   ) (
    .leaf true
   )))
  )))

noncomputable def laws_eqFactor_g (v390 : Int) (v391 : Int) (v392 : List Nat) (v393 : List Int) (v394 : Int) (v395 : Int) (v396 : List Nat) (v397 : List Int) : Option (Bool) := (laws_eqFactor_T v390 v391 v392 v393 v394 v395 v396 v397).run
def laws_eqFactor_enc (v390 : Int) (v391 : Int) (v392 : List Nat) (v393 : List Int) (v394 : Int) (v395 : Int) (v396 : List Nat) (v397 : List Int) (y : Bool) : Rs := (.bool y, [])
theorem laws_eqFactor_den (v390 : Int) (v391 : Int) (v392 : List Nat) (v393 : List Int) (v394 : Int) (v395 : Int) (v396 : List Nat) (v397 : List Int) : (den TT (tabD laws_eqFactor_tab) (tabM laws_eqFactor_tab) (laws_eqFactor_LO v390 v391 v392 v393 v394 v395 v396 v397) (codeOf Try.f50) ([.agg [.int .i64 v390, .int .i64 v391, .bslc (BR.root 0) (.f32 v392), .bslc (BR.root 1) (.i64 v393)], .agg [.int .i64 v394, .int .i64 v395, .bslc (BR.root 2) (.f32 v396), .bslc (BR.root 3) (.i64 v397)]] ++ List.replicate (Try.f50.ntmps - ([.agg [.int .i64 v390, .int .i64 v391, .bslc (BR.root 0) (.f32 v392), .bslc (BR.root 1) (.i64 v393)], .agg [.int .i64 v394, .int .i64 v395, .bslc (BR.root 2) (.f32 v396), .bslc (BR.root 3) (.i64 v397)]] : List DV).length) .undef) []).bind (retD TT Try.f50.results.toList 0) = (laws_eqFactor_T v390 v391 v392 v393 v394 v395 v396 v397).bind fun y => .leaf (laws_eqFactor_enc v390 v391 v392 v393 v394 v395 v396 v397 y) := by kernel_rfl
theorem laws_eqFactor_fn (v390 : Int) (v391 : Int) (v392 : List Nat) (v393 : List Int) (v394 : Int) (v395 : Int) (v396 : List Nat) (v397 : List Int) (F : Fr) (hm : F.ids.length = 0) (h0 : St F [] F.H0) (hA : DVs.Ok F [] [.agg [.int .i64 v390, .int .i64 v391, .bslc (BR.root 0) (.f32 v392), .bslc (BR.root 1) (.i64 v393)], .agg [.int .i64 v394, .int .i64 v395, .bslc (BR.root 2) (.f32 v396), .bslc (BR.root 3) (.i64 v397)]]) {y : Bool} (hy : laws_eqFactor_g v390 v391 v392 v393 v394 v395 v396 v397 = some y) : ∃ H', FnOk Try.prog 50 (DVs.av F [.agg [.int .i64 v390, .int .i64 v391, .bslc (BR.root 0) (.f32 v392), .bslc (BR.root 1) (.i64 v393)], .agg [.int .i64 v394, .int .i64 v395, .bslc (BR.root 2) (.f32 v396), .bslc (BR.root 3) (.i64 v397)]]) F.H0 ((laws_eqFactor_enc v390 v391 v392 v393 v394 v395 v396 v397 y).1.av F) H' ∧ St F (laws_eqFactor_enc v390 v391 v392 v393 v394 v395 v396 v397 y).2 H' ∧ (laws_eqFactor_enc v390 v391 v392 v393 v394 v395 v396 v397 y).1.Ok F (laws_eqFactor_enc v390 v391 v392 v393 v394 v395 v396 v397 y).2 :=
  fn_fin tok laws_eqFactor_hO mixed Try.func50 Try.call50 (by kernel_rfl) (LoopsOk_eq (l := []) (by kernel_rfl) trivial) (laws_eqFactor_den v390 v391 v392 v393 v394 v395 v396 v397) hy hm h0 hA
noncomputable def laws_eqFactor_F : DFn := fun args L =>
  match args with
  | [.agg [.int .i64 v390, .int .i64 v391, a1, a2], .agg [.int .i64 v394, .int .i64 v395, a3, a4]] =>
    optT (rowF32 L a1) fun v392 =>
    optT (rowI64 L a2) fun v393 =>
    optT (rowF32 L a3) fun v396 =>
    optT (rowI64 L a4) fun v397 =>
    .call (laws_eqFactor_g v390 v391 v392 v393 v394 v395 v396 v397) fun y => .leaf (.bool y, L)
  | _ => .fail
theorem laws_eqFactor_Fok : COk Try.prog 50 laws_eqFactor_F true := by
  intro F L H args r L' hs ha hr
  unfold laws_eqFactor_F at hr
  split at hr
  · rename_i v390 v391 a1 a2 v394 v395 a3 a4
    obtain ⟨v392, hv392, hr⟩ := optT_run hr
    obtain ⟨v393, hv393, hr⟩ := optT_run hr
    obtain ⟨v396, hv396, hr⟩ := optT_run hr
    obtain ⟨v397, hv397, hr⟩ := optT_run hr
    simp only [Tree.run] at hr
    obtain ⟨y, hy, hr⟩ := Option.bind_eq_some_iff.1 hr
    simp only [Tree.run, Option.some.injEq, Prod.mk.injEq] at hr
    obtain ⟨rfl, rfl⟩ := hr
    exact call_ok0 hs (fun k => (([a1.av F, a2.av F, a3.av F, a4.av F] : List AV)[k]?).getD .top) [.agg [.int .i64 v390, .int .i64 v391, a1, a2], .agg [.int .i64 v394, .int .i64 v395, a3, a4]] [.agg [.int .i64 v390, .int .i64 v391, .bslc (BR.root 0) (.f32 v392), .bslc (BR.root 1) (.i64 v393)], .agg [.int .i64 v394, .int .i64 v395, .bslc (BR.root 2) (.f32 v396), .bslc (BR.root 3) (.i64 v397)]] (fun F' h0 hi hρ => ⟨by simp [DVs.av, DV.av, BR.av, hρ], laws_eqFactor_fn v390 v391 v392 v393 v394 v395 v396 v397 F' (by rw [hi]; rfl) (st_nil hi) ⟨⟨trivial, trivial, bslc_ok hi (by rw [h0, hρ]; exact rowF32_ok hs (DVs.okAt (DVs.okAt ha 0 rfl) 2 rfl) hv392), bslc_ok hi (by rw [h0, hρ]; exact rowI64_ok hs (DVs.okAt (DVs.okAt ha 0 rfl) 3 rfl) hv393), trivial⟩, ⟨trivial, trivial, bslc_ok hi (by rw [h0, hρ]; exact rowF32_ok hs (DVs.okAt (DVs.okAt ha 1 rfl) 2 rfl) hv396), bslc_ok hi (by rw [h0, hρ]; exact rowI64_ok hs (DVs.okAt (DVs.okAt ha 1 rfl) 3 rfl) hv397), trivial⟩, trivial⟩ hy⟩) rfl
  · cases hr
/-! laws.markFloat32S -/
noncomputable def laws_markFloat32S_l0_T (s : Int × Int × (List Nat)) : Tree ((Int × Int × (List Nat)) ⊕ (Int × (List Nat))) :=
  (.br (decide (s.2.1 < (((s.2.2).length : Nat) : Int))) (
   (.grd (inb s.2.1 ((s.2.2).length)) <|
   .leaf (.inl (IntKind.i64.wrap (s.1 + (1 : Int)), IntKind.i64.wrap (s.2.1 + (1 : Int)), List.set s.2.2 (Int.toNat s.2.1) (fofint .f32 s.1))))
  ) (
   .leaf (.inr (s.1, s.2.2))
  ))

noncomputable def laws_markFloat32S_l0_g (s0 : Int × Int × (List Nat)) : Option (Int × (List Nat)) := whileM (fun s => (laws_markFloat32S_l0_T s).run) s0
def laws_markFloat32S_l0_E (v422 : List Nat) (v423 : Int) (s : Int × Int × (List Nat)) : Sd := ([.own 0 0 ((s.2.2).length), .int .i64 s.1, .top, .top, .top, .int .i64 s.2.1, .top, .top, .top, .top, .top, .top, .top, .top, .top, .top, .top, .top, .top, .top], [.row (.f32 s.2.2) 0])
def laws_markFloat32S_l0_X (v422 : List Nat) (v423 : Int) (x : Int × (List Nat)) : Out := (.normal, [.top, .int .i64 x.1, .top, .top, .top, .top, .top, .top, .top, .top, .top, .top, .top, .top, .top, .top, .top, .top, .top, .top], [.row (.f32 x.2) 0])
def laws_markFloat32S_l0_kill : List Nat := [0, 0, 1, 1, 1, 0, 1, 1, 1, 1, 1, 1, 1, 1, 1, 1, 1, 1, 1, 1]
def laws_markFloat32S_l0_nx : Exit → List Nat
  | .exit 0 => [1, 0, 1, 1, 1, 1, 1, 1, 1, 1, 1, 1, 1, 1, 1, 1, 1, 1, 1, 1]
  | .ret => [1, 1, 1, 1, 0, 1, 1, 1, 1, 1, 1, 1, 1, 1, 1, 1, 1, 1, 1, 1]
  | _ => []
noncomputable def laws_markFloat32S_LO (v422 : List Nat) (v423 : Int) : LOr := fun id e L =>
  match id with
  | 0 => .need (normA 1 laws_markFloat32S_l0_kill e L = some (laws_markFloat32S_l0_E v422 v423 ((gI (vAt e 1)), (gI (vAt e 5)), (gRF L (vAt e 0))))) (.call (laws_markFloat32S_l0_g ((gI (vAt e 1)), (gI (vAt e 5)), (gRF L (vAt e 0)))) fun x => .leaf (laws_markFloat32S_l0_X v422 v423 x))
  | _ => .fail
noncomputable def laws_markFloat32S_tab : List (FuncId × DFn × Bool) := []
theorem laws_markFloat32S_hO : OrcOk Try.prog (tabD laws_markFloat32S_tab) (tabM laws_markFloat32S_tab) := tabD_nil _
theorem laws_markFloat32S_l0_be (v422 : List Nat) (v423 : Int) (s : Int × Int × (List Nat)) : bodyT TT (tabD laws_markFloat32S_tab) (tabM laws_markFloat32S_tab) (laws_markFloat32S_LO v422 v423) 1 laws_markFloat32S_l0_kill laws_markFloat32S_l0_nx (bodyOf Try.f23 0) 0 (laws_markFloat32S_l0_E v422 v423 s) = (laws_markFloat32S_l0_T s).bind fun y => .leaf (outS (laws_markFloat32S_l0_E v422 v423) (laws_markFloat32S_l0_X v422 v423) y) := by kernel_rfl
theorem laws_markFloat32S_l0_ok (v422 : List Nat) (v423 : Int) : LSound Try.prog 1 (laws_markFloat32S_LO v422 v423) 0 (bodyOf Try.f23 0) := by
  intro e L out h
  exact lo_ok (E := laws_markFloat32S_l0_E v422 v423) (gT := laws_markFloat32S_l0_T) (X := laws_markFloat32S_l0_X v422 v423) (s0 := ((gI (vAt e 1)), (gI (vAt e 5)), (gRF L (vAt e 0)))) tok laws_markFloat32S_hO mixed (LoopsOk_eq (l := []) (by kernel_rfl) trivial) (laws_markFloat32S_l0_be v422 v423) rfl (by intro x; rfl) h
noncomputable def laws_markFloat32S_T (v422 : List Nat) (v423 : Int) : Tree (Int × (List Nat)) :=
  (.need (some (laws_markFloat32S_l0_E v422 v423 (v423, (0 : Int), v422)) = some (laws_markFloat32S_l0_E v422 v423 (v423, (0 : Int), v422))) <|
  (.call (laws_markFloat32S_l0_g (v423, (0 : Int), v422)) fun v432 =>
  .leaf (v432.1, v432.2)))

noncomputable def laws_markFloat32S_g (v422 : List Nat) (v423 : Int) : Option (Int × (List Nat)) := (laws_markFloat32S_T v422 v423).run
def laws_markFloat32S_enc (v422 : List Nat) (v423 : Int) (y : Int × (List Nat)) : Rs := (.int .i64 y.1, [.row (.f32 y.2) 0])
theorem laws_markFloat32S_den (v422 : List Nat) (v423 : Int) : (den TT (tabD laws_markFloat32S_tab) (tabM laws_markFloat32S_tab) (laws_markFloat32S_LO v422 v423) (codeOf Try.f23) ([.own 0 0 v422.length, .int .i64 v423] ++ List.replicate (Try.f23.ntmps - ([.own 0 0 v422.length, .int .i64 v423] : List DV).length) .undef) [.row (.f32 v422) 0]).bind (retD TT Try.f23.results.toList 1) = (laws_markFloat32S_T v422 v423).bind fun y => .leaf (laws_markFloat32S_enc v422 v423 y) := by kernel_rfl
theorem laws_markFloat32S_fn (v422 : List Nat) (v423 : Int) (F : Fr) (hm : F.ids.length = 1) (h0 : St F [.row (.f32 v422) 0] F.H0) (hA : DVs.Ok F [.row (.f32 v422) 0] [.own 0 0 v422.length, .int .i64 v423]) {y : Int × (List Nat)} (hy : laws_markFloat32S_g v422 v423 = some y) : ∃ H', FnOk Try.prog 23 (DVs.av F [.own 0 0 v422.length, .int .i64 v423]) F.H0 ((laws_markFloat32S_enc v422 v423 y).1.av F) H' ∧ St F (laws_markFloat32S_enc v422 v423 y).2 H' ∧ (laws_markFloat32S_enc v422 v423 y).1.Ok F (laws_markFloat32S_enc v422 v423 y).2 :=
  fn_fin tok laws_markFloat32S_hO mixed Try.func23 Try.call23 (by kernel_rfl) (LoopsOk_eq (l := [(0, bodyOf Try.f23 0)]) (by kernel_rfl) ⟨laws_markFloat32S_l0_ok v422 v423, trivial⟩) (laws_markFloat32S_den v422 v423) hy hm h0 hA
noncomputable def laws_markFloat32S_F : DFn := fun args L =>
  match args with
  | [a1, .int .i64 v423] =>
    optT (ownF32 L a1) fun qv422 =>
    (match sepB [qv422.1] [] with
    | true =>
    .call (laws_markFloat32S_g qv422.2 v423) fun y => .grd (decide (y.2.length = qv422.2.length)) (.leaf (.int .i64 y.1, setRows L ([qv422.1].zip [.f32 y.2])))
    | false => .fail)
  | _ => .fail
theorem laws_markFloat32S_Fok : COk Try.prog 23 laws_markFloat32S_F false := by
  intro F L H args r L' hs ha hr
  unfold laws_markFloat32S_F at hr
  split at hr
  · rename_i a1 v423
    obtain ⟨⟨jv422, v422⟩, hqv422, hr⟩ := optT_run hr
    simp only at hr
    split at hr
    · rename_i hsep
      obtain ⟨hnd, hsepv⟩ := sepB_spec hsep
      simp only [Tree.run] at hr
      obtain ⟨y, hy, hr⟩ := Option.bind_eq_some_iff.1 hr
      try simp only [Tree.run] at hr
      obtain ⟨hl0, hr⟩ := ite_run hr
      simp only [Option.some.injEq, Prod.mk.injEq] at hr
      obtain ⟨rfl, rfl⟩ := hr
      obtain ⟨hr0, hu0, ha0, hb0⟩ := (ownR_spec (DVs.okAt ha 0 rfl) (ownF32_or hqv422))
      exact mut_ok hs (fun k => (([a1.av F] : List AV)[k]?).getD .top) [a1, .int .i64 v423] [.own 0 0 v422.length, .int .i64 v423] [jv422] [.f32 v422] [.f32 y.2] hnd rfl rfl (fun i j q h1 h2 => by
          rcases i with _ | i
          · simp at h1 h2; subst h1; subst h2; exact hr0
          · simp at h1) (fun i q q' h1 h2 => by
          rcases i with _ | i
          · simp at h1 h2; subst h1; subst h2; exact of_decide_eq_true hl0
          · simp at h1) (fun j hj => by simp at hj; subst hj; simp [DVs.refs, DV.refs, hu0]) (fun F' h0 hi hρ hst hS => ⟨by (have ab0 : F'.abs 0 = F.abs jv422 := (by simp [Fr.abs, hi]); simp [DVs.av, DV.av, BR.av, hρ, Row.len, ha0, ab0]), by
          obtain ⟨H1, k1, k2, _⟩ := laws_markFloat32S_fn v422 v423 F' (by rw [hi]; rfl) hst ⟨⟨_, rfl, Nat.le_refl _, Nat.le_refl _, fun _ => rfl, (ownR_spec (DVs.okAt ha 0 rfl) (ownF32_or hqv422)).2.2.2⟩, trivial, trivial⟩ hy
          exact ⟨H1, k1, k2⟩⟩) (fun F' => rfl) (fun L' => trivial)
    · cases hr
  · cases hr
/-! laws.markMatrix -/
noncomputable def laws_markMatrix_LO (v433 : Int) (v434 : Int) (v435 : List Nat) (v436 : Int) : LOr := fun id e L =>
  match id with
  | _ => .fail
noncomputable def laws_markMatrix_tab : List (FuncId × DFn × Bool) := [(23, laws_markFloat32S_F, false)]
theorem laws_markMatrix_hO : OrcOk Try.prog (tabD laws_markMatrix_tab) (tabM laws_markMatrix_tab) := tabD_cons laws_markFloat32S_Fok (tabD_nil _)
noncomputable def laws_markMatrix_T (v435 : List Nat) (v436 : Int) : Tree (Int × (List Nat)) :=
  (.call (laws_markFloat32S_g v435 v436) fun v437 =>
  (.grd (decide (v437.2.length = v435.length)) <|
  .leaf (v437.1, v437.2)))

noncomputable def laws_markMatrix_g (v435 : List Nat) (v436 : Int) : Option (Int × (List Nat)) := (laws_markMatrix_T v435 v436).run
def laws_markMatrix_enc (v433 : Int) (v434 : Int) (v435 : List Nat) (v436 : Int) (y : Int × (List Nat)) : Rs := (.int .i64 y.1, [.row (.f32 y.2) 0])
theorem laws_markMatrix_den (v433 : Int) (v434 : Int) (v435 : List Nat) (v436 : Int) : (den TT (tabD laws_markMatrix_tab) (tabM laws_markMatrix_tab) (laws_markMatrix_LO v433 v434 v435 v436) (codeOf Try.f34) ([.agg [.int .i64 v433, .int .i64 v434, .own 0 0 v435.length], .int .i64 v436] ++ List.replicate (Try.f34.ntmps - ([.agg [.int .i64 v433, .int .i64 v434, .own 0 0 v435.length], .int .i64 v436] : List DV).length) .undef) [.row (.f32 v435) 0]).bind (retD TT Try.f34.results.toList 1) = (laws_markMatrix_T v435 v436).bind fun y => .leaf (laws_markMatrix_enc v433 v434 v435 v436 y) := by kernel_rfl
theorem laws_markMatrix_fn (v433 : Int) (v434 : Int) (v435 : List Nat) (v436 : Int) (F : Fr) (hm : F.ids.length = 1) (h0 : St F [.row (.f32 v435) 0] F.H0) (hA : DVs.Ok F [.row (.f32 v435) 0] [.agg [.int .i64 v433, .int .i64 v434, .own 0 0 v435.length], .int .i64 v436]) {y : Int × (List Nat)} (hy : laws_markMatrix_g v435 v436 = some y) : ∃ H', FnOk Try.prog 34 (DVs.av F [.agg [.int .i64 v433, .int .i64 v434, .own 0 0 v435.length], .int .i64 v436]) F.H0 ((laws_markMatrix_enc v433 v434 v435 v436 y).1.av F) H' ∧ St F (laws_markMatrix_enc v433 v434 v435 v436 y).2 H' ∧ (laws_markMatrix_enc v433 v434 v435 v436 y).1.Ok F (laws_markMatrix_enc v433 v434 v435 v436 y).2 :=
  fn_fin tok laws_markMatrix_hO mixed Try.func34 Try.call34 (by kernel_rfl) (LoopsOk_eq (l := []) (by kernel_rfl) trivial) (laws_markMatrix_den v433 v434 v435 v436) hy hm h0 hA
noncomputable def laws_markMatrix_F : DFn := fun args L =>
  match args with
  | [.agg [.int .i64 v433, .int .i64 v434, a1], .int .i64 v436] =>
    optT (ownF32 L a1) fun qv435 =>
    (match sepB [qv435.1] [] with
    | true =>
    .call (laws_markMatrix_g qv435.2 v436) fun y => .grd (decide (y.2.length = qv435.2.length)) (.leaf (.int .i64 y.1, setRows L ([qv435.1].zip [.f32 y.2])))
    | false => .fail)
  | _ => .fail
theorem laws_markMatrix_Fok : COk Try.prog 34 laws_markMatrix_F false := by
  intro F L H args r L' hs ha hr
  unfold laws_markMatrix_F at hr
  split at hr
  · rename_i v433 v434 a1 v436
    obtain ⟨⟨jv435, v435⟩, hqv435, hr⟩ := optT_run hr
    simp only at hr
    split at hr
    · rename_i hsep
      obtain ⟨hnd, hsepv⟩ := sepB_spec hsep
      simp only [Tree.run] at hr
      obtain ⟨y, hy, hr⟩ := Option.bind_eq_some_iff.1 hr
      try simp only [Tree.run] at hr
      obtain ⟨hl0, hr⟩ := ite_run hr
      simp only [Option.some.injEq, Prod.mk.injEq] at hr
      obtain ⟨rfl, rfl⟩ := hr
      obtain ⟨hr0, hu0, ha0, hb0⟩ := (ownR_spec (DVs.okAt (DVs.okAt ha 0 rfl) 2 rfl) (ownF32_or hqv435))
      exact mut_ok hs (fun k => (([a1.av F] : List AV)[k]?).getD .top) [.agg [.int .i64 v433, .int .i64 v434, a1], .int .i64 v436] [.agg [.int .i64 v433, .int .i64 v434, .own 0 0 v435.length], .int .i64 v436] [jv435] [.f32 v435] [.f32 y.2] hnd rfl rfl (fun i j q h1 h2 => by
          rcases i with _ | i
          · simp at h1 h2; subst h1; subst h2; exact hr0
          · simp at h1) (fun i q q' h1 h2 => by
          rcases i with _ | i
          · simp at h1 h2; subst h1; subst h2; exact of_decide_eq_true hl0
          · simp at h1) (fun j hj => by simp at hj; subst hj; simp [DVs.refs, DV.refs, hu0]) (fun F' h0 hi hρ hst hS => ⟨by (have ab0 : F'.abs 0 = F.abs jv435 := (by simp [Fr.abs, hi]); simp [DVs.av, DV.av, BR.av, hρ, Row.len, ha0, ab0]), by
          obtain ⟨H1, k1, k2, _⟩ := laws_markMatrix_fn v433 v434 v435 v436 F' (by rw [hi]; rfl) hst ⟨⟨trivial, trivial, ⟨_, rfl, Nat.le_refl _, Nat.le_refl _, fun _ => rfl, (ownR_spec (DVs.okAt (DVs.okAt ha 0 rfl) 2 rfl) (ownF32_or hqv435)).2.2.2⟩, trivial⟩, trivial, trivial⟩ hy
          exact ⟨H1, k1, k2⟩⟩) (fun F' => rfl) (fun L' => trivial)
    · cases hr
  · cases hr
/-! laws.markInt64S -/
noncomputable def laws_markInt64S_l0_T (s : Int × Int × (List Int)) : Tree ((Int × Int × (List Int)) ⊕ (Int × (List Int))) :=
  (.br (decide (s.2.1 < (((s.2.2).length : Nat) : Int))) (
   (.grd (inb s.2.1 ((s.2.2).length)) <|
   .leaf (.inl (IntKind.i64.wrap (s.1 + (1 : Int)), IntKind.i64.wrap (s.2.1 + (1 : Int)), List.set s.2.2 (Int.toNat s.2.1) s.1)))
  ) (
   .leaf (.inr (s.1, s.2.2))
  ))

noncomputable def laws_markInt64S_l0_g (s0 : Int × Int × (List Int)) : Option (Int × (List Int)) := whileM (fun s => (laws_markInt64S_l0_T s).run) s0
def laws_markInt64S_l0_E (v448 : List Int) (v449 : Int) (s : Int × Int × (List Int)) : Sd := ([.own 0 0 ((s.2.2).length), .int .i64 s.1, .top, .top, .top, .int .i64 s.2.1, .top, .top, .top, .top, .top, .top, .top, .top, .top, .top, .top, .top, .top], [.row (.i64 s.2.2) 0])
def laws_markInt64S_l0_X (v448 : List Int) (v449 : Int) (x : Int × (List Int)) : Out := (.normal, [.top, .int .i64 x.1, .top, .top, .top, .top, .top, .top, .top, .top, .top, .top, .top, .top, .top, .top, .top, .top, .top], [.row (.i64 x.2) 0])
def laws_markInt64S_l0_kill : List Nat := [0, 0, 1, 1, 1, 0, 1, 1, 1, 1, 1, 1, 1, 1, 1, 1, 1, 1, 1]
def laws_markInt64S_l0_nx : Exit → List Nat
  | .exit 0 => [1, 0, 1, 1, 1, 1, 1, 1, 1, 1, 1, 1, 1, 1, 1, 1, 1, 1, 1]
  | .ret => [1, 1, 1, 1, 0, 1, 1, 1, 1, 1, 1, 1, 1, 1, 1, 1, 1, 1, 1]
  | _ => []
noncomputable def laws_markInt64S_LO (v448 : List Int) (v449 : Int) : LOr := fun id e L =>
  match id with
  | 0 => .need (normA 1 laws_markInt64S_l0_kill e L = some (laws_markInt64S_l0_E v448 v449 ((gI (vAt e 1)), (gI (vAt e 5)), (gRI L (vAt e 0))))) (.call (laws_markInt64S_l0_g ((gI (vAt e 1)), (gI (vAt e 5)), (gRI L (vAt e 0)))) fun x => .leaf (laws_markInt64S_l0_X v448 v449 x))
  | _ => .fail
noncomputable def laws_markInt64S_tab : List (FuncId × DFn × Bool) := []
theorem laws_markInt64S_hO : OrcOk Try.prog (tabD laws_markInt64S_tab) (tabM laws_markInt64S_tab) := tabD_nil _
theorem laws_markInt64S_l0_be (v448 : List Int) (v449 : Int) (s : Int × Int × (List Int)) : bodyT TT (tabD laws_markInt64S_tab) (tabM laws_markInt64S_tab) (laws_markInt64S_LO v448 v449) 1 laws_markInt64S_l0_kill laws_markInt64S_l0_nx (bodyOf Try.f45 0) 0 (laws_markInt64S_l0_E v448 v449 s) = (laws_markInt64S_l0_T s).bind fun y => .leaf (outS (laws_markInt64S_l0_E v448 v449) (laws_markInt64S_l0_X v448 v449) y) := by kernel_rfl
theorem laws_markInt64S_l0_ok (v448 : List Int) (v449 : Int) : LSound Try.prog 1 (laws_markInt64S_LO v448 v449) 0 (bodyOf Try.f45 0) := by
  intro e L out h
  exact lo_ok (E := laws_markInt64S_l0_E v448 v449) (gT := laws_markInt64S_l0_T) (X := laws_markInt64S_l0_X v448 v449) (s0 := ((gI (vAt e 1)), (gI (vAt e 5)), (gRI L (vAt e 0)))) tok laws_markInt64S_hO mixed (LoopsOk_eq (l := []) (by kernel_rfl) trivial) (laws_markInt64S_l0_be v448 v449) rfl (by intro x; rfl) h
noncomputable def laws_markInt64S_T (v448 : List Int) (v449 : Int) : Tree (Int × (List Int)) :=
  (.need (some (laws_markInt64S_l0_E v448 v449 (v449, (0 : Int), v448)) = some (laws_markInt64S_l0_E v448 v449 (v449, (0 : Int), v448))) <|
  (.call (laws_markInt64S_l0_g (v449, (0 : Int), v448)) fun v458 =>
  .leaf (v458.1, v458.2)))

noncomputable def laws_markInt64S_g (v448 : List Int) (v449 : Int) : Option (Int × (List Int)) := (laws_markInt64S_T v448 v449).run
def laws_markInt64S_enc (v448 : List Int) (v449 : Int) (y : Int × (List Int)) : Rs := (.int .i64 y.1, [.row (.i64 y.2) 0])
theorem laws_markInt64S_den (v448 : List Int) (v449 : Int) : (den TT (tabD laws_markInt64S_tab) (tabM laws_markInt64S_tab) (laws_markInt64S_LO v448 v449) (codeOf Try.f45) ([.own 0 0 v448.length, .int .i64 v449] ++ List.replicate (Try.f45.ntmps - ([.own 0 0 v448.length, .int .i64 v449] : List DV).length) .undef) [.row (.i64 v448) 0]).bind (retD TT Try.f45.results.toList 1) = (laws_markInt64S_T v448 v449).bind fun y => .leaf (laws_markInt64S_enc v448 v449 y) := by kernel_rfl
theorem laws_markInt64S_fn (v448 : List Int) (v449 : Int) (F : Fr) (hm : F.ids.length = 1) (h0 : St F [.row (.i64 v448) 0] F.H0) (hA : DVs.Ok F [.row (.i64 v448) 0] [.own 0 0 v448.length, .int .i64 v449]) {y : Int × (List Int)} (hy : laws_markInt64S_g v448 v449 = some y) : ∃ H', FnOk Try.prog 45 (DVs.av F [.own 0 0 v448.length, .int .i64 v449]) F.H0 ((laws_markInt64S_enc v448 v449 y).1.av F) H' ∧ St F (laws_markInt64S_enc v448 v449 y).2 H' ∧ (laws_markInt64S_enc v448 v449 y).1.Ok F (laws_markInt64S_enc v448 v449 y).2 :=
  fn_fin tok laws_markInt64S_hO mixed Try.func45 Try.call45 (by kernel_rfl) (LoopsOk_eq (l := [(0, bodyOf Try.f45 0)]) (by kernel_rfl) ⟨laws_markInt64S_l0_ok v448 v449, trivial⟩) (laws_markInt64S_den v448 v449) hy hm h0 hA
noncomputable def laws_markInt64S_F : DFn := fun args L =>
  match args with
  | [a1, .int .i64 v449] =>
    optT (ownI64 L a1) fun qv448 =>
    (match sepB [qv448.1] [] with
    | true =>
    .call (laws_markInt64S_g qv448.2 v449) fun y => .grd (decide (y.2.length = qv448.2.length)) (.leaf (.int .i64 y.1, setRows L ([qv448.1].zip [.i64 y.2])))
    | false => .fail)
  | _ => .fail
theorem laws_markInt64S_Fok : COk Try.prog 45 laws_markInt64S_F false := by
  intro F L H args r L' hs ha hr
  unfold laws_markInt64S_F at hr
  split at hr
  · rename_i a1 v449
    obtain ⟨⟨jv448, v448⟩, hqv448, hr⟩ := optT_run hr
    simp only at hr
    split at hr
    · rename_i hsep
      obtain ⟨hnd, hsepv⟩ := sepB_spec hsep
      simp only [Tree.run] at hr
      obtain ⟨y, hy, hr⟩ := Option.bind_eq_some_iff.1 hr
      try simp only [Tree.run] at hr
      obtain ⟨hl0, hr⟩ := ite_run hr
      simp only [Option.some.injEq, Prod.mk.injEq] at hr
      obtain ⟨rfl, rfl⟩ := hr
      obtain ⟨hr0, hu0, ha0, hb0⟩ := (ownR_spec (DVs.okAt ha 0 rfl) (ownI64_or hqv448))
      exact mut_ok hs (fun k => (([a1.av F] : List AV)[k]?).getD .top) [a1, .int .i64 v449] [.own 0 0 v448.length, .int .i64 v449] [jv448] [.i64 v448] [.i64 y.2] hnd rfl rfl (fun i j q h1 h2 => by
          rcases i with _ | i
          · simp at h1 h2; subst h1; subst h2; exact hr0
          · simp at h1) (fun i q q' h1 h2 => by
          rcases i with _ | i
          · simp at h1 h2; subst h1; subst h2; exact of_decide_eq_true hl0
          · simp at h1) (fun j hj => by simp at hj; subst hj; simp [DVs.refs, DV.refs, hu0]) (fun F' h0 hi hρ hst hS => ⟨by (have ab0 : F'.abs 0 = F.abs jv448 := (by simp [Fr.abs, hi]); simp [DVs.av, DV.av, BR.av, hρ, Row.len, ha0, ab0]), by
          obtain ⟨H1, k1, k2, _⟩ := laws_markInt64S_fn v448 v449 F' (by rw [hi]; rfl) hst ⟨⟨_, rfl, Nat.le_refl _, Nat.le_refl _, fun _ => rfl, (ownR_spec (DVs.okAt ha 0 rfl) (ownI64_or hqv448)).2.2.2⟩, trivial, trivial⟩ hy
          exact ⟨H1, k1, k2⟩⟩) (fun F' => rfl) (fun L' => trivial)
    · cases hr
  · cases hr
/-! laws.markFactor -/
noncomputable def laws_markFactor_LO (v459 : Int) (v460 : Int) (v461 : List Nat) (v462 : List Int) (v463 : Int) : LOr := fun id e L =>
  match id with
  | _ => .fail
noncomputable def laws_markFactor_tab : List (FuncId × DFn × Bool) := [(34, laws_markMatrix_F, false), (45, laws_markInt64S_F, false)]
theorem laws_markFactor_hO : OrcOk Try.prog (tabD laws_markFactor_tab) (tabM laws_markFactor_tab) := tabD_cons laws_markMatrix_Fok (tabD_cons laws_markInt64S_Fok (tabD_nil _))
noncomputable def laws_markFactor_T (v461 : List Nat) (v462 : List Int) (v463 : Int) : Tree (Int × (List Nat) × (List Int)) :=
  (.call (laws_markMatrix_g v461 v463) fun v464 =>
  (.grd (decide (v464.2.length = v461.length)) <|
  (.call (laws_markInt64S_g v462 v464.1) fun v465 =>
  (.grd (decide (v465.2.length = v462.length)) <|
  .leaf (v465.1, v464.2, v465.2)))))

noncomputable def laws_markFactor_g (v461 : List Nat) (v462 : List Int) (v463 : Int) : Option (Int × (List Nat) × (List Int)) := (laws_markFactor_T v461 v462 v463).run
def laws_markFactor_enc (v459 : Int) (v460 : Int) (v461 : List Nat) (v462 : List Int) (v463 : Int) (y : Int × (List Nat) × (List Int)) : Rs := (.int .i64 y.1, [.row (.f32 y.2.1) 0, .row (.i64 y.2.2) 0])
theorem laws_markFactor_den (v459 : Int) (v460 : Int) (v461 : List Nat) (v462 : List Int) (v463 : Int) : (den TT (tabD laws_markFactor_tab) (tabM laws_markFactor_tab) (laws_markFactor_LO v459 v460 v461 v462 v463) (codeOf Try.f56) ([.agg [.int .i64 v459, .int .i64 v460, .own 0 0 v461.length, .own 1 0 v462.length], .int .i64 v463] ++ List.replicate (Try.f56.ntmps - ([.agg [.int .i64 v459, .int .i64 v460, .own 0 0 v461.length, .own 1 0 v462.length], .int .i64 v463] : List DV).length) .undef) [.row (.f32 v461) 0, .row (.i64 v462) 0]).bind (retD TT Try.f56.results.toList 2) = (laws_markFactor_T v461 v462 v463).bind fun y => .leaf (laws_markFactor_enc v459 v460 v461 v462 v463 y) := by kernel_rfl
theorem laws_markFactor_fn (v459 : Int) (v460 : Int) (v461 : List Nat) (v462 : List Int) (v463 : Int) (F : Fr) (hm : F.ids.length = 2) (h0 : St F [.row (.f32 v461) 0, .row (.i64 v462) 0] F.H0) (hA : DVs.Ok F [.row (.f32 v461) 0, .row (.i64 v462) 0] [.agg [.int .i64 v459, .int .i64 v460, .own 0 0 v461.length, .own 1 0 v462.length], .int .i64 v463]) {y : Int × (List Nat) × (List Int)} (hy : laws_markFactor_g v461 v462 v463 = some y) : ∃ H', FnOk Try.prog 56 (DVs.av F [.agg [.int .i64 v459, .int .i64 v460, .own 0 0 v461.length, .own 1 0 v462.length], .int .i64 v463]) F.H0 ((laws_markFactor_enc v459 v460 v461 v462 v463 y).1.av F) H' ∧ St F (laws_markFactor_enc v459 v460 v461 v462 v463 y).2 H' ∧ (laws_markFactor_enc v459 v460 v461 v462 v463 y).1.Ok F (laws_markFactor_enc v459 v460 v461 v462 v463 y).2 :=
  fn_fin tok laws_markFactor_hO mixed Try.func56 Try.call56 (by kernel_rfl) (LoopsOk_eq (l := []) (by kernel_rfl) trivial) (laws_markFactor_den v459 v460 v461 v462 v463) hy hm h0 hA
noncomputable def laws_markFactor_F : DFn := fun args L =>
  match args with
  | [.agg [.int .i64 v459, .int .i64 v460, a1, a2], .int .i64 v463] =>
    optT (ownF32 L a1) fun qv461 =>
    optT (ownI64 L a2) fun qv462 =>
    (match sepB [qv461.1, qv462.1] [] with
    | true =>
    .call (laws_markFactor_g qv461.2 qv462.2 v463) fun y => .grd (decide (y.2.1.length = qv461.2.length)) (.grd (decide (y.2.2.length = qv462.2.length)) (.leaf (.int .i64 y.1, setRows L ([qv461.1, qv462.1].zip [.f32 y.2.1, .i64 y.2.2]))))
    | false => .fail)
  | _ => .fail
theorem laws_markFactor_Fok : COk Try.prog 56 laws_markFactor_F false := by
  intro F L H args r L' hs ha hr
  unfold laws_markFactor_F at hr
  split at hr
  · rename_i v459 v460 a1 a2 v463
    obtain ⟨⟨jv461, v461⟩, hqv461, hr⟩ := optT_run hr
    simp only at hr
    obtain ⟨⟨jv462, v462⟩, hqv462, hr⟩ := optT_run hr
    simp only at hr
    split at hr
    · rename_i hsep
      obtain ⟨hnd, hsepv⟩ := sepB_spec hsep
      simp only [Tree.run] at hr
      obtain ⟨y, hy, hr⟩ := Option.bind_eq_some_iff.1 hr
      try simp only [Tree.run] at hr
      obtain ⟨hl0, hr⟩ := ite_run hr
      obtain ⟨hl1, hr⟩ := ite_run hr
      simp only [Option.some.injEq, Prod.mk.injEq] at hr
      obtain ⟨rfl, rfl⟩ := hr
      obtain ⟨hr0, hu0, ha0, hb0⟩ := (ownR_spec (DVs.okAt (DVs.okAt ha 0 rfl) 2 rfl) (ownF32_or hqv461))
      obtain ⟨hr1, hu1, ha1, hb1⟩ := (ownR_spec (DVs.okAt (DVs.okAt ha 0 rfl) 3 rfl) (ownI64_or hqv462))
      exact mut_ok hs (fun k => (([a1.av F, a2.av F] : List AV)[k]?).getD .top) [.agg [.int .i64 v459, .int .i64 v460, a1, a2], .int .i64 v463] [.agg [.int .i64 v459, .int .i64 v460, .own 0 0 v461.length, .own 1 0 v462.length], .int .i64 v463] [jv461, jv462] [.f32 v461, .i64 v462] [.f32 y.2.1, .i64 y.2.2] hnd rfl rfl (fun i j q h1 h2 => by
          rcases i with _ | _ | i
          · simp at h1 h2; subst h1; subst h2; exact hr0
          · simp at h1 h2; subst h1; subst h2; exact hr1
          · simp at h1) (fun i q q' h1 h2 => by
          rcases i with _ | _ | i
          · simp at h1 h2; subst h1; subst h2; exact of_decide_eq_true hl0
          · simp at h1 h2; subst h1; subst h2; exact of_decide_eq_true hl1
          · simp at h1) (fun j hj => by simp at hj; rcases hj with rfl | rfl <;> simp [DVs.refs, DV.refs, hu0, hu1]) (fun F' h0 hi hρ hst hS => ⟨by (have ab0 : F'.abs 0 = F.abs jv461 := (by simp [Fr.abs, hi]); have ab1 : F'.abs 1 = F.abs jv462 := (by simp [Fr.abs, hi]); simp [DVs.av, DV.av, BR.av, hρ, Row.len, ha0, ab0, ha1, ab1]), by
          obtain ⟨H1, k1, k2, _⟩ := laws_markFactor_fn v459 v460 v461 v462 v463 F' (by rw [hi]; rfl) hst ⟨⟨trivial, trivial, ⟨_, rfl, Nat.le_refl _, Nat.le_refl _, fun _ => rfl, (ownR_spec (DVs.okAt (DVs.okAt ha 0 rfl) 2 rfl) (ownF32_or hqv461)).2.2.2⟩, ⟨_, rfl, Nat.le_refl _, Nat.le_refl _, fun _ => rfl, (ownR_spec (DVs.okAt (DVs.okAt ha 0 rfl) 3 rfl) (ownI64_or hqv462)).2.2.2⟩, trivial⟩, trivial, trivial⟩ hy
          exact ⟨H1, k1, k2⟩⟩) (fun F' => rfl) (fun L' => trivial)
    · cases hr
  · cases hr
/-! laws.markFloat32S -/
noncomputable def laws_markFloat32S_i1_l0_T (s : Unit) : Tree ((Unit) ⊕ (Unit)) :=
  (.br (decide ((0 : Int) < (0 : Int))) (
   .fail
  ) (
   .leaf (.inr ())
  ))

noncomputable def laws_markFloat32S_i1_l0_g (s0 : Unit) : Option (Unit) := whileM (fun s => (laws_markFloat32S_i1_l0_T s).run) s0
def laws_markFloat32S_i1_l0_E (v471 : Int) (s : Unit) : Sd := ([.nilslc, .int .i64 v471, .top, .top, .top, .int .i64 (0 : Int), .top, .top, .top, .top, .top, .top, .top, .top, .top, .top, .top, .top, .top, .top], [])
def laws_markFloat32S_i1_l0_X (v471 : Int) (x : Unit) : Out := (.normal, [.top, .int .i64 v471, .top, .top, .top, .top, .top, .top, .top, .top, .top, .top, .top, .top, .top, .top, .top, .top, .top, .top], [])
def laws_markFloat32S_i1_l0_kill : List Nat := [0, 0, 1, 1, 1, 0, 1, 1, 1, 1, 1, 1, 1, 1, 1, 1, 1, 1, 1, 1]
def laws_markFloat32S_i1_l0_nx : Exit → List Nat
  | .exit 0 => [1, 0, 1, 1, 1, 1, 1, 1, 1, 1, 1, 1, 1, 1, 1, 1, 1, 1, 1, 1]
  | .ret => [1, 1, 1, 1, 0, 1, 1, 1, 1, 1, 1, 1, 1, 1, 1, 1, 1, 1, 1, 1]
  | _ => []
noncomputable def laws_markFloat32S_i1_LO (v471 : Int) : LOr := fun id e L =>
  match id with
  | 0 => .need (normA 0 laws_markFloat32S_i1_l0_kill e L = some (laws_markFloat32S_i1_l0_E v471 ())) (.call (laws_markFloat32S_i1_l0_g ()) fun x => .leaf (laws_markFloat32S_i1_l0_X v471 x))
  | _ => .fail
noncomputable def laws_markFloat32S_i1_tab : List (FuncId × DFn × Bool) := []
theorem laws_markFloat32S_i1_hO : OrcOk Try.prog (tabD laws_markFloat32S_i1_tab) (tabM laws_markFloat32S_i1_tab) := tabD_nil _
theorem laws_markFloat32S_i1_l0_be (v471 : Int) (s : Unit) : bodyT TT (tabD laws_markFloat32S_i1_tab) (tabM laws_markFloat32S_i1_tab) (laws_markFloat32S_i1_LO v471) 0 laws_markFloat32S_i1_l0_kill laws_markFloat32S_i1_l0_nx (bodyOf Try.f23 0) 0 (laws_markFloat32S_i1_l0_E v471 s) = (laws_markFloat32S_i1_l0_T s).bind fun y => .leaf (outS (laws_markFloat32S_i1_l0_E v471) (laws_markFloat32S_i1_l0_X v471) y) := by kernel_rfl
theorem laws_markFloat32S_i1_l0_ok (v471 : Int) : LSound Try.prog 0 (laws_markFloat32S_i1_LO v471) 0 (bodyOf Try.f23 0) := by
  intro e L out h
  exact lo_ok (E := laws_markFloat32S_i1_l0_E v471) (gT := laws_markFloat32S_i1_l0_T) (X := laws_markFloat32S_i1_l0_X v471) (s0 := ()) tok laws_markFloat32S_i1_hO mixed (LoopsOk_eq (l := []) (by kernel_rfl) trivial) (laws_markFloat32S_i1_l0_be v471) rfl (by intro x; rfl) h
noncomputable def laws_markFloat32S_i1_T (v471 : Int) : Tree (Int) :=
  (.need (some (laws_markFloat32S_i1_l0_E v471 ()) = some (laws_markFloat32S_i1_l0_E v471 ())) <|
  (.call (laws_markFloat32S_i1_l0_g ()) fun v474 =>
  .leaf v471))

noncomputable def laws_markFloat32S_i1_g (v471 : Int) : Option (Int) := (laws_markFloat32S_i1_T v471).run
def laws_markFloat32S_i1_enc (v471 : Int) (y : Int) : Rs := (.int .i64 y, [])
theorem laws_markFloat32S_i1_den (v471 : Int) : (den TT (tabD laws_markFloat32S_i1_tab) (tabM laws_markFloat32S_i1_tab) (laws_markFloat32S_i1_LO v471) (codeOf Try.f23) ([.nilslc, .int .i64 v471] ++ List.replicate (Try.f23.ntmps - ([.nilslc, .int .i64 v471] : List DV).length) .undef) []).bind (retD TT Try.f23.results.toList 0) = (laws_markFloat32S_i1_T v471).bind fun y => .leaf (laws_markFloat32S_i1_enc v471 y) := by kernel_rfl
theorem laws_markFloat32S_i1_fn (v471 : Int) (F : Fr) (hm : F.ids.length = 0) (h0 : St F [] F.H0) (hA : DVs.Ok F [] [.nilslc, .int .i64 v471]) {y : Int} (hy : laws_markFloat32S_i1_g v471 = some y) : ∃ H', FnOk Try.prog 23 (DVs.av F [.nilslc, .int .i64 v471]) F.H0 ((laws_markFloat32S_i1_enc v471 y).1.av F) H' ∧ St F (laws_markFloat32S_i1_enc v471 y).2 H' ∧ (laws_markFloat32S_i1_enc v471 y).1.Ok F (laws_markFloat32S_i1_enc v471 y).2 :=
  fn_fin tok laws_markFloat32S_i1_hO mixed Try.func23 Try.call23 (by kernel_rfl) (LoopsOk_eq (l := [(0, bodyOf Try.f23 0)]) (by kernel_rfl) ⟨laws_markFloat32S_i1_l0_ok v471, trivial⟩) (laws_markFloat32S_i1_den v471) hy hm h0 hA
noncomputable def laws_markFloat32S_i1_F : DFn := fun args L =>
  match args with
  | [.nilslc, .int .i64 v471] =>
    .call (laws_markFloat32S_i1_g v471) fun y => .leaf (.int .i64 y, L)
  | _ => .fail
theorem laws_markFloat32S_i1_Fok : COk Try.prog 23 laws_markFloat32S_i1_F true := by
  intro F L H args r L' hs ha hr
  unfold laws_markFloat32S_i1_F at hr
  split at hr
  · rename_i v471
    simp only [Tree.run] at hr
    obtain ⟨y, hy, hr⟩ := Option.bind_eq_some_iff.1 hr
    simp only [Tree.run, Option.some.injEq, Prod.mk.injEq] at hr
    obtain ⟨rfl, rfl⟩ := hr
    exact call_ok0 hs (fun k => (([] : List AV)[k]?).getD .top) [.nilslc, .int .i64 v471] [.nilslc, .int .i64 v471] (fun F' h0 hi hρ => ⟨by simp [DVs.av, DV.av, BR.av, hρ], laws_markFloat32S_i1_fn v471 F' (by rw [hi]; rfl) (st_nil hi) ⟨trivial, trivial, trivial⟩ hy⟩) rfl
  · cases hr
/-! laws.markMatrix -/
noncomputable def laws_markMatrix_i1_LO (v468 : Int) (v469 : Int) (v470 : Int) : LOr := fun id e L =>
  match id with
  | _ => .fail
noncomputable def laws_markMatrix_i1_tab : List (FuncId × DFn × Bool) := [(23, laws_markFloat32S_i1_F, true)]
theorem laws_markMatrix_i1_hO : OrcOk Try.prog (tabD laws_markMatrix_i1_tab) (tabM laws_markMatrix_i1_tab) := tabD_cons laws_markFloat32S_i1_Fok (tabD_nil _)
noncomputable def laws_markMatrix_i1_T (v470 : Int) : Tree (Int) :=
  (.call (laws_markFloat32S_i1_g v470) fun v475 =>
  .leaf v475)

noncomputable def laws_markMatrix_i1_g (v470 : Int) : Option (Int) := (laws_markMatrix_i1_T v470).run
def laws_markMatrix_i1_enc (v468 : Int) (v469 : Int) (v470 : Int) (y : Int) : Rs := (.int .i64 y, [])
theorem laws_markMatrix_i1_den (v468 : Int) (v469 : Int) (v470 : Int) : (den TT (tabD laws_markMatrix_i1_tab) (tabM laws_markMatrix_i1_tab) (laws_markMatrix_i1_LO v468 v469 v470) (codeOf Try.f34) ([.agg [.int .i64 v468, .int .i64 v469, .nilslc], .int .i64 v470] ++ List.replicate (Try.f34.ntmps - ([.agg [.int .i64 v468, .int .i64 v469, .nilslc], .int .i64 v470] : List DV).length) .undef) []).bind (retD TT Try.f34.results.toList 0) = (laws_markMatrix_i1_T v470).bind fun y => .leaf (laws_markMatrix_i1_enc v468 v469 v470 y) := by kernel_rfl
theorem laws_markMatrix_i1_fn (v468 : Int) (v469 : Int) (v470 : Int) (F : Fr) (hm : F.ids.length = 0) (h0 : St F [] F.H0) (hA : DVs.Ok F [] [.agg [.int .i64 v468, .int .i64 v469, .nilslc], .int .i64 v470]) {y : Int} (hy : laws_markMatrix_i1_g v470 = some y) : ∃ H', FnOk Try.prog 34 (DVs.av F [.agg [.int .i64 v468, .int .i64 v469, .nilslc], .int .i64 v470]) F.H0 ((laws_markMatrix_i1_enc v468 v469 v470 y).1.av F) H' ∧ St F (laws_markMatrix_i1_enc v468 v469 v470 y).2 H' ∧ (laws_markMatrix_i1_enc v468 v469 v470 y).1.Ok F (laws_markMatrix_i1_enc v468 v469 v470 y).2 :=
  fn_fin tok laws_markMatrix_i1_hO mixed Try.func34 Try.call34 (by kernel_rfl) (LoopsOk_eq (l := []) (by kernel_rfl) trivial) (laws_markMatrix_i1_den v468 v469 v470) hy hm h0 hA
noncomputable def laws_markMatrix_i1_F : DFn := fun args L =>
  match args with
  | [.agg [.int .i64 v468, .int .i64 v469, .nilslc], .int .i64 v470] =>
    .call (laws_markMatrix_i1_g v470) fun y => .leaf (.int .i64 y, L)
  | _ => .fail
theorem laws_markMatrix_i1_Fok : COk Try.prog 34 laws_markMatrix_i1_F true := by
  intro F L H args r L' hs ha hr
  unfold laws_markMatrix_i1_F at hr
  split at hr
  · rename_i v468 v469 v470
    simp only [Tree.run] at hr
    obtain ⟨y, hy, hr⟩ := Option.bind_eq_some_iff.1 hr
    simp only [Tree.run, Option.some.injEq, Prod.mk.injEq] at hr
    obtain ⟨rfl, rfl⟩ := hr
    exact call_ok0 hs (fun k => (([] : List AV)[k]?).getD .top) [.agg [.int .i64 v468, .int .i64 v469, .nilslc], .int .i64 v470] [.agg [.int .i64 v468, .int .i64 v469, .nilslc], .int .i64 v470] (fun F' h0 hi hρ => ⟨by simp [DVs.av, DV.av, BR.av, hρ], laws_markMatrix_i1_fn v468 v469 v470 F' (by rw [hi]; rfl) (st_nil hi) ⟨⟨trivial, trivial, trivial, trivial⟩, trivial, trivial⟩ hy⟩) rfl
  · cases hr
/-! laws.heldFloat32S -/
noncomputable def laws_heldFloat32S_l0_T (v481 : List Nat) (s : Int × Int) : Tree ((Int × Int) ⊕ ((Unit) ⊕ (Int))) :=
  (.br (decide (s.2 < ((v481.length : Nat) : Int))) (
   (.grd (inb s.2 v481.length) <|
   (.br (!feq .f32 (nth v481 (Int.toNat s.2)) (fofint .f32 s.1)) (
    .leaf (.inr (.inl ()))
   ) (
    .leaf (.inl (IntKind.i64.wrap (s.1 + (1 : Int)), IntKind.i64.wrap (s.2 + (1 : Int))))
   )))
  ) (
   .leaf (.inr (.inr s.1))
  ))

noncomputable def laws_heldFloat32S_l0_g (v481 : List Nat) (s0 : Int × Int) : Option ((Unit) ⊕ (Int)) := whileM (fun s => (laws_heldFloat32S_l0_T v481 s).run) s0
def laws_heldFloat32S_l0_E (v481 : List Nat) (v482 : Int) (s : Int × Int) : Sd := ([.bslc (BR.root 0) (.f32 v481), .int .i64 s.1, .top, .top, .top, .int .i64 s.2, .top, .top, .top, .top, .top, .top, .top, .top, .top, .top, .top, .top, .top, .top, .top, .top], [])
def laws_heldFloat32S_l0_X (v481 : List Nat) (v482 : Int) (x : (Unit) ⊕ (Int)) : Out := (match x with | .inl x => (.ret, [.top, .top, .top, .top, .int .i64 (-1 : Int), .top, .top, .top, .top, .top, .top, .top, .top, .top, .top, .top, .top, .top, .top, .top, .top, .top], []) | .inr x => (.normal, [.top, .int .i64 x, .top, .top, .top, .top, .top, .top, .top, .top, .top, .top, .top, .top, .top, .top, .top, .top, .top, .top, .top, .top], []))
def laws_heldFloat32S_l0_kill : List Nat := [0, 0, 1, 1, 1, 0, 1, 1, 1, 1, 1, 1, 1, 1, 1, 1, 1, 1, 1, 1, 1, 1]
def laws_heldFloat32S_l0_nx : Exit → List Nat
  | .exit 0 => [1, 0, 1, 1, 1, 1, 1, 1, 1, 1, 1, 1, 1, 1, 1, 1, 1, 1, 1, 1, 1, 1]
  | .ret => [1, 1, 1, 1, 0, 1, 1, 1, 1, 1, 1, 1, 1, 1, 1, 1, 1, 1, 1, 1, 1, 1]
  | _ => []
noncomputable def laws_heldFloat32S_LO (v481 : List Nat) (v482 : Int) : LOr := fun id e L =>
  match id with
  | 0 => .need (normA 0 laws_heldFloat32S_l0_kill e L = some (laws_heldFloat32S_l0_E v481 v482 ((gI (vAt e 1)), (gI (vAt e 5))))) (.call (laws_heldFloat32S_l0_g v481 ((gI (vAt e 1)), (gI (vAt e 5)))) fun x => .sum x (fun b0 => .leaf (laws_heldFloat32S_l0_X v481 v482 (.inl b0))) (fun c0 => .leaf (laws_heldFloat32S_l0_X v481 v482 (.inr c0))))
  | _ => .fail
noncomputable def laws_heldFloat32S_tab : List (FuncId × DFn × Bool) := []
theorem laws_heldFloat32S_hO : OrcOk Try.prog (tabD laws_heldFloat32S_tab) (tabM laws_heldFloat32S_tab) := tabD_nil _
theorem laws_heldFloat32S_l0_be (v481 : List Nat) (v482 : Int) (s : Int × Int) : bodyT TT (tabD laws_heldFloat32S_tab) (tabM laws_heldFloat32S_tab) (laws_heldFloat32S_LO v481 v482) 0 laws_heldFloat32S_l0_kill laws_heldFloat32S_l0_nx (bodyOf Try.f24 0) 0 (laws_heldFloat32S_l0_E v481 v482 s) = (laws_heldFloat32S_l0_T v481 s).bind fun y => .leaf (outS (laws_heldFloat32S_l0_E v481 v482) (laws_heldFloat32S_l0_X v481 v482) y) := by kernel_rfl
theorem laws_heldFloat32S_l0_ok (v481 : List Nat) (v482 : Int) : LSound Try.prog 0 (laws_heldFloat32S_LO v481 v482) 0 (bodyOf Try.f24 0) := by
  intro e L out h
  exact lo_ok (E := laws_heldFloat32S_l0_E v481 v482) (gT := laws_heldFloat32S_l0_T v481) (X := laws_heldFloat32S_l0_X v481 v482) (s0 := ((gI (vAt e 1)), (gI (vAt e 5)))) tok laws_heldFloat32S_hO mixed (LoopsOk_eq (l := []) (by kernel_rfl) trivial) (laws_heldFloat32S_l0_be v481 v482) rfl (by intro x; (cases x with | inl b => rfl | inr x => exact rfl)) h
noncomputable def laws_heldFloat32S_T (v481 : List Nat) (v482 : Int) : Tree (Int) :=
  (.need (some (laws_heldFloat32S_l0_E v481 v482 (v482, (0 : Int))) = some (laws_heldFloat32S_l0_E v481 v482 (v482, (0 : Int)))) <|
  (.call (laws_heldFloat32S_l0_g v481 (v482, (0 : Int))) fun v489 =>
  (.sum v489 (fun v490 =>
   .leaf (-1 : Int)
  ) (fun v491 =>
   .leaf v491
  ))))

noncomputable def laws_heldFloat32S_g (v481 : List Nat) (v482 : Int) : Option (Int) := (laws_heldFloat32S_T v481 v482).run
def laws_heldFloat32S_enc (v481 : List Nat) (v482 : Int) (y : Int) : Rs := (.int .i64 y, [])
theorem laws_heldFloat32S_den (v481 : List Nat) (v482 : Int) : (den TT (tabD laws_heldFloat32S_tab) (tabM laws_heldFloat32S_tab) (laws_heldFloat32S_LO v481 v482) (codeOf Try.f24) ([.bslc (BR.root 0) (.f32 v481), .int .i64 v482] ++ List.replicate (Try.f24.ntmps - ([.bslc (BR.root 0) (.f32 v481), .int .i64 v482] : List DV).length) .undef) []).bind (retD TT Try.f24.results.toList 0) = (laws_heldFloat32S_T v481 v482).bind fun y => .leaf (laws_heldFloat32S_enc v481 v482 y) := by kernel_rfl
theorem laws_heldFloat32S_fn (v481 : List Nat) (v482 : Int) (F : Fr) (hm : F.ids.length = 0) (h0 : St F [] F.H0) (hA : DVs.Ok F [] [.bslc (BR.root 0) (.f32 v481), .int .i64 v482]) {y : Int} (hy : laws_heldFloat32S_g v481 v482 = some y) : ∃ H', FnOk Try.prog 24 (DVs.av F [.bslc (BR.root 0) (.f32 v481), .int .i64 v482]) F.H0 ((laws_heldFloat32S_enc v481 v482 y).1.av F) H' ∧ St F (laws_heldFloat32S_enc v481 v482 y).2 H' ∧ (laws_heldFloat32S_enc v481 v482 y).1.Ok F (laws_heldFloat32S_enc v481 v482 y).2 :=
  fn_fin tok laws_heldFloat32S_hO mixed Try.func24 Try.call24 (by kernel_rfl) (LoopsOk_eq (l := [(0, bodyOf Try.f24 0)]) (by kernel_rfl) ⟨laws_heldFloat32S_l0_ok v481 v482, trivial⟩) (laws_heldFloat32S_den v481 v482) hy hm h0 hA
noncomputable def laws_heldFloat32S_F : DFn := fun args L =>
  match args with
  | [a1, .int .i64 v482] =>
    optT (rowF32 L a1) fun v481 =>
    .call (laws_heldFloat32S_g v481 v482) fun y => .leaf (.int .i64 y, L)
  | _ => .fail
theorem laws_heldFloat32S_Fok : COk Try.prog 24 laws_heldFloat32S_F true := by
  intro F L H args r L' hs ha hr
  unfold laws_heldFloat32S_F at hr
  split at hr
  · rename_i a1 v482
    obtain ⟨v481, hv481, hr⟩ := optT_run hr
    simp only [Tree.run] at hr
    obtain ⟨y, hy, hr⟩ := Option.bind_eq_some_iff.1 hr
    simp only [Tree.run, Option.some.injEq, Prod.mk.injEq] at hr
    obtain ⟨rfl, rfl⟩ := hr
    exact call_ok0 hs (fun k => (([a1.av F] : List AV)[k]?).getD .top) [a1, .int .i64 v482] [.bslc (BR.root 0) (.f32 v481), .int .i64 v482] (fun F' h0 hi hρ => ⟨by simp [DVs.av, DV.av, BR.av, hρ], laws_heldFloat32S_fn v481 v482 F' (by rw [hi]; rfl) (st_nil hi) ⟨bslc_ok hi (by rw [h0, hρ]; exact rowF32_ok hs (DVs.okAt ha 0 rfl) hv481), trivial, trivial⟩ hy⟩) rfl
  · cases hr
/-! laws.heldMatrix -/
noncomputable def laws_heldMatrix_LO (v477 : Int) (v478 : Int) (v479 : List Nat) (v480 : Int) : LOr := fun id e L =>
  match id with
  | _ => .fail
noncomputable def laws_heldMatrix_tab : List (FuncId × DFn × Bool) := [(24, laws_heldFloat32S_F, true)]
theorem laws_heldMatrix_hO : OrcOk Try.prog (tabD laws_heldMatrix_tab) (tabM laws_heldMatrix_tab) := tabD_cons laws_heldFloat32S_Fok (tabD_nil _)
noncomputable def laws_heldMatrix_T (v479 : List Nat) (v480 : Int) : Tree (Int) :=
  (.call (laws_heldFloat32S_g v479 v480) fun v492 =>
  (.br (decide (v492 < (0 : Int))) (
   .leaf (-1 : Int)
  ) (
   .leaf v492
  )))

noncomputable def laws_heldMatrix_g (v479 : List Nat) (v480 : Int) : Option (Int) := (laws_heldMatrix_T v479 v480).run
def laws_heldMatrix_enc (v477 : Int) (v478 : Int) (v479 : List Nat) (v480 : Int) (y : Int) : Rs := (.int .i64 y, [])
theorem laws_heldMatrix_den (v477 : Int) (v478 : Int) (v479 : List Nat) (v480 : Int) : (den TT (tabD laws_heldMatrix_tab) (tabM laws_heldMatrix_tab) (laws_heldMatrix_LO v477 v478 v479 v480) (codeOf Try.f35) ([.agg [.int .i64 v477, .int .i64 v478, .bslc (BR.root 0) (.f32 v479)], .int .i64 v480] ++ List.replicate (Try.f35.ntmps - ([.agg [.int .i64 v477, .int .i64 v478, .bslc (BR.root 0) (.f32 v479)], .int .i64 v480] : List DV).length) .undef) []).bind (retD TT Try.f35.results.toList 0) = (laws_heldMatrix_T v479 v480).bind fun y => .leaf (laws_heldMatrix_enc v477 v478 v479 v480 y) := by kernel_rfl
theorem laws_heldMatrix_fn (v477 : Int) (v478 : Int) (v479 : List Nat) (v480 : Int) (F : Fr) (hm : F.ids.length = 0) (h0 : St F [] F.H0) (hA : DVs.Ok F [] [.agg [.int .i64 v477, .int .i64 v478, .bslc (BR.root 0) (.f32 v479)], .int .i64 v480]) {y : Int} (hy : laws_heldMatrix_g v479 v480 = some y) : ∃ H', FnOk Try.prog 35 (DVs.av F [.agg [.int .i64 v477, .int .i64 v478, .bslc (BR.root 0) (.f32 v479)], .int .i64 v480]) F.H0 ((laws_heldMatrix_enc v477 v478 v479 v480 y).1.av F) H' ∧ St F (laws_heldMatrix_enc v477 v478 v479 v480 y).2 H' ∧ (laws_heldMatrix_enc v477 v478 v479 v480 y).1.Ok F (laws_heldMatrix_enc v477 v478 v479 v480 y).2 :=
  fn_fin tok laws_heldMatrix_hO mixed Try.func35 Try.call35 (by kernel_rfl) (LoopsOk_eq (l := []) (by kernel_rfl) trivial) (laws_heldMatrix_den v477 v478 v479 v480) hy hm h0 hA
noncomputable def laws_heldMatrix_F : DFn := fun args L =>
  match args with
  | [.agg [.int .i64 v477, .int .i64 v478, a1], .int .i64 v480] =>
    optT (rowF32 L a1) fun v479 =>
    .call (laws_heldMatrix_g v479 v480) fun y => .leaf (.int .i64 y, L)
  | _ => .fail
theorem laws_heldMatrix_Fok : COk Try.prog 35 laws_heldMatrix_F true := by
  intro F L H args r L' hs ha hr
  unfold laws_heldMatrix_F at hr
  split at hr
  · rename_i v477 v478 a1 v480
    obtain ⟨v479, hv479, hr⟩ := optT_run hr
    simp only [Tree.run] at hr
    obtain ⟨y, hy, hr⟩ := Option.bind_eq_some_iff.1 hr
    simp only [Tree.run, Option.some.injEq, Prod.mk.injEq] at hr
    obtain ⟨rfl, rfl⟩ := hr
    exact call_ok0 hs (fun k => (([a1.av F] : List AV)[k]?).getD .top) [.agg [.int .i64 v477, .int .i64 v478, a1], .int .i64 v480] [.agg [.int .i64 v477, .int .i64 v478, .bslc (BR.root 0) (.f32 v479)], .int .i64 v480] (fun F' h0 hi hρ => ⟨by simp [DVs.av, DV.av, BR.av, hρ], laws_heldMatrix_fn v477 v478 v479 v480 F' (by rw [hi]; rfl) (st_nil hi) ⟨⟨trivial, trivial, bslc_ok hi (by rw [h0, hρ]; exact rowF32_ok hs (DVs.okAt (DVs.okAt ha 0 rfl) 2 rfl) hv479), trivial⟩, trivial, trivial⟩ hy⟩) rfl
  · cases hr
/-! laws.FnExactLowerOf -/
noncomputable def laws_FnExactLowerOf_LO (v1 : Int) (v2 : Int) (v3 : List Nat) (v4 : List Int) : LOr := fun id e L =>
  match id with
  | _ => .fail
noncomputable def laws_FnExactLowerOf_tab : List (FuncId × DFn × Bool) := [(46, laws_szFactor_F, true), (48, laws_toFactor_F, true), (59, spec_LowerOf_F, true), (60, impl_LowerOf_F, true), (33, laws_eqMatrix_F, true), (50, laws_eqFactor_F, true), (56, laws_markFactor_F, false), (34, (orD (fun args => match args with | [.agg [_, _, .nilslc], _] => true | _ => false) laws_markMatrix_i1_F laws_markMatrix_F), false), (35, laws_heldMatrix_F, true)]
theorem laws_FnExactLowerOf_hO : OrcOk Try.prog (tabD laws_FnExactLowerOf_tab) (tabM laws_FnExactLowerOf_tab) := tabD_cons laws_szFactor_Fok (tabD_cons laws_toFactor_Fok (tabD_cons spec_LowerOf_Fok (tabD_cons impl_LowerOf_Fok (tabD_cons laws_eqMatrix_Fok (tabD_cons laws_eqFactor_Fok (tabD_cons laws_markFactor_Fok (tabD_cons (orD_ok (COk.weak laws_markMatrix_i1_Fok) laws_markMatrix_Fok) (tabD_cons laws_heldMatrix_Fok (tabD_nil _)))))))))
noncomputable def laws_FnExactLowerOf_T (v1 : Int) (v2 : Int) (v3 : List Nat) (v4 : List Int) : Tree (Bool) :=
  (.br (decide ((laws_szFactor_v v3 v4 (1048576 : Int)) < (0 : Int))) (
   .leaf true
  ) (
   (.call (laws_toFactor_g v1 v2 v3 v4) fun v42 =>
   (.call (spec_LowerOf_g v42.1 v42.2.1 v42.2.2.1 v42.2.2.2) fun v185 =>
   (.sum v185 (fun v186 =>
    (.call (laws_toFactor_g v1 v2 v3 v4) fun v188 =>
    (.call (impl_LowerOf_g v188.1 v188.2.1 v188.2.2.1 v188.2.2.2) fun v368 =>
    (.sum v368 (fun v369 =>
     (.call (laws_eqMatrix_g (0 : Int) (0 : Int) ([] : List Nat) (0 : Int) (0 : Int) ([] : List Nat)) fun v388 =>
     (.br (!v388) (
      .leaf false
     ) (
      (.br (!(false == false)) (
       .leaf false
      ) (
       (.call (laws_toFactor_g v1 v2 v3 v4) fun v389 =>
       (.call (laws_eqFactor_g v188.1 v188.2.1 v188.2.2.1 v188.2.2.2 v389.1 v389.2.1 v389.2.2.1 v389.2.2.2) fun v408 =>
       (.br (!v408) (
        .leaf false
       ) (
        (.call (laws_markFactor_g v188.2.2.1 v188.2.2.2 (1 : Int)) fun v466 =>
        (.grd (decide (v466.2.1.length = v188.2.2.1.length)) <|
        (.grd (decide (v466.2.2.length = v188.2.2.2.length)) <|
        (.br (decide (v466.1 < (0 : Int))) (
         .leaf false
        ) (
         (.call (laws_eqMatrix_g (0 : Int) (0 : Int) ([] : List Nat) (0 : Int) (0 : Int) ([] : List Nat)) fun v467 =>
         (.br (!v467) (
          .leaf false
         ) (
          (.br (!(false == false)) (
           .leaf false
          ) (
           (.call (laws_markMatrix_i1_g (1 : Int)) fun v476 =>
           (.call (laws_heldMatrix_g ([] : List Nat) (1 : Int)) fun v493 =>
           (.br (decide (v493 < (0 : Int))) (
            .leaf false
           ) (
            (.br (!decide (v493 = v476)) (
             .leaf false
            ) (
             (.call (laws_toFactor_g v1 v2 v3 v4) fun v494 =>
             (.call (impl_LowerOf_g v494.1 v494.2.1 v494.2.2.1 v494.2.2.2) fun v495 =>
             (.sum v495 (fun v496 =>
              (.call (laws_eqMatrix_g (0 : Int) (0 : Int) ([] : List Nat) (0 : Int) (0 : Int) ([] : List Nat)) fun v498 =>
              (.br (!v498) (
               .leaf false
              ) (
               (.br (!(false == false)) (
                .leaf false
               ) (
                (.call (laws_heldMatrix_g ([] : List Nat) (1 : Int)) fun v499 =>
                (.br (decide (v499 < (0 : Int))) (
                 .leaf false
                ) (
                 (.br (!decide (v499 = v476)) (
                  .leaf false
                 ) (
                  .leaf true
                 ))
                )))
               ))
              )))
             ) (fun v497 =>
              (.call (laws_eqMatrix_g v497.1 v497.2.1 v497.2.2 (0 : Int) (0 : Int) ([] : List Nat)) fun v500 =>
              (.br (!v500) (
               .leaf false
              ) (
               (.br (!(true == false)) (
                .leaf false
               ) (
                (.call (laws_heldMatrix_g ([] : List Nat) (1 : Int)) fun v501 =>
                (.br (decide (v501 < (0 : Int))) (
                 .leaf false
                ) (
                 (.br (!decide (v501 = v476)) (
                  .leaf false
                 ) (
                  .leaf true
                 ))
                )))
               ))
              )))
             ))))
            ))
           ))))
          ))
         )))
        )))))
       ))))
      ))
     )))
    ) (fun v370 =>
     (.call (laws_eqMatrix_g v370.1 v370.2.1 v370.2.2 (0 : Int) (0 : Int) ([] : List Nat)) fun v502 =>
     (.br (!v502) (
      .leaf false
     ) (
      (.br (!(true == false)) (
       .leaf false
      ) (
       (.call (laws_toFactor_g v1 v2 v3 v4) fun v503 =>
       (.call (laws_eqFactor_g v188.1 v188.2.1 v188.2.2.1 v188.2.2.2 v503.1 v503.2.1 v503.2.2.1 v503.2.2.2) fun v504 =>
       (.br (!v504) (
        .leaf false
       ) (
        (.call (laws_markFactor_g v188.2.2.1 v188.2.2.2 (1 : Int)) fun v505 =>
        (.grd (decide (v505.2.1.length = v188.2.2.1.length)) <|
        (.grd (decide (v505.2.2.length = v188.2.2.2.length)) <|
        (.br (decide (v505.1 < (0 : Int))) (
         .leaf false
        ) (
         (.call (laws_eqMatrix_g v370.1 v370.2.1 v370.2.2 (0 : Int) (0 : Int) ([] : List Nat)) fun v506 =>
         (.br (!v506) (
          .leaf false
         ) (
          (.br (!(true == false)) (
           .leaf false
          ) (
           (.call (laws_markMatrix_g v370.2.2 (1 : Int)) fun v507 =>
           (.grd (decide (v507.2.length = v370.2.2.length)) <|
           (.call (laws_heldMatrix_g v507.2 (1 : Int)) fun v508 =>
           (.br (decide (v508 < (0 : Int))) (
            .leaf false
           ) (
            (.br (!decide (v508 = v507.1)) (
             .leaf false
            ) (
             (.call (laws_toFactor_g v1 v2 v3 v4) fun v509 =>
             (.call (impl_LowerOf_g v509.1 v509.2.1 v509.2.2.1 v509.2.2.2) fun v510 =>
             (.sum v510 (fun v511 =>
              (.call (laws_eqMatrix_g (0 : Int) (0 : Int) ([] : List Nat) (0 : Int) (0 : Int) ([] : List Nat)) fun v513 =>
              (.br (!v513) (
               .leaf false
              ) (
               (.br (!(false == false)) (
                .leaf false
               ) (
                (.call (laws_heldMatrix_g v507.2 (1 : Int)) fun v514 =>
                (.br (decide (v514 < (0 : Int))) (
                 .leaf false
                ) (
                 (.br (!decide (v514 = v507.1)) (
                  .leaf false
                 ) (
                  .leaf true
                 ))
                )))
               ))
              )))
             ) (fun v512 =>
              (.call (laws_eqMatrix_g v512.1 v512.2.1 v512.2.2 (0 : Int) (0 : Int) ([] : List Nat)) fun v515 =>
              (.br (!v515) (
               .leaf false
              ) (
               (.br (!(true == false)) (
                .leaf false
               ) (
                (.call (laws_heldMatrix_g v507.2 (1 : Int)) fun v516 =>
                (.br (decide (v516 < (0 : Int))) (
                 .leaf false
                ) (
                 (.br (!decide (v516 = v507.1)) (
                  .leaf false
                 ) (
                  .leaf true
                 ))
                )))
               ))
              )))
             ))))
            ))
           )))))
          ))
         )))
        )))))
       ))))
      ))
     )))
    ))))
   ) (fun v187 =>
    (.call (laws_toFactor_g v1 v2 v3 v4) fun v517 =>
    (.call (impl_LowerOf_g v517.1 v517.2.1 v517.2.2.1 v517.2.2.2) fun v518 =>
    (.sum v518 (fun v519 =>
     (.call (laws_eqMatrix_g (0 : Int) (0 : Int) ([] : List Nat) v187.1 v187.2.1 v187.2.2) fun v521 =>
     (.br (!v521) (
      .leaf false
     ) (
      (.br (!(false == true)) (
       .leaf false
      ) (
       (.call (laws_toFactor_g v1 v2 v3 v4) fun v522 =>
       (.call (laws_eqFactor_g v517.1 v517.2.1 v517.2.2.1 v517.2.2.2 v522.1 v522.2.1 v522.2.2.1 v522.2.2.2) fun v523 =>
       (.br (!v523) (
        .leaf false
       ) (
        (.call (laws_markFactor_g v517.2.2.1 v517.2.2.2 (1 : Int)) fun v524 =>
        (.grd (decide (v524.2.1.length = v517.2.2.1.length)) <|
        (.grd (decide (v524.2.2.length = v517.2.2.2.length)) <|
        (.br (decide (v524.1 < (0 : Int))) (
         .leaf false
        ) (
         (.call (laws_eqMatrix_g (0 : Int) (0 : Int) ([] : List Nat) v187.1 v187.2.1 v187.2.2) fun v525 =>
         (.br (!v525) (
          .leaf false
         ) (
          (.br (!(false == true)) (
           .leaf false
          ) (
           (.call (laws_markMatrix_i1_g (1 : Int)) fun v526 =>
           (.call (laws_heldMatrix_g ([] : List Nat) (1 : Int)) fun v527 =>
           (.br (decide (v527 < (0 : Int))) (
            .leaf false
           ) (
            (.br (!decide (v527 = v526)) (
             .leaf false
            ) (
             (.call (laws_toFactor_g v1 v2 v3 v4) fun v528 =>
             (.call (impl_LowerOf_g v528.1 v528.2.1 v528.2.2.1 v528.2.2.2) fun v529 =>
             (.sum v529 (fun v530 =>
              (.call (laws_eqMatrix_g (0 : Int) (0 : Int) ([] : List Nat) v187.1 v187.2.1 v187.2.2) fun v532 =>
              (.br (!v532) (
               .leaf false
              ) (
               (.br (!(false == true)) (
                .leaf false
               ) (
                (.call (laws_heldMatrix_g ([] : List Nat) (1 : Int)) fun v533 =>
                (.br (decide (v533 < (0 : Int))) (
                 .leaf false
                ) (
                 (.br (!decide (v533 = v526)) (
                  .leaf false
                 ) (
                  .leaf true
                 ))
                )))
               ))
              )))
             ) (fun v531 =>
              (.call (laws_eqMatrix_g v531.1 v531.2.1 v531.2.2 v187.1 v187.2.1 v187.2.2) fun v534 =>
              (.br (!v534) (
               .leaf false
              ) (
               (.br (!(true == true)) (
                .leaf false
               ) (
                (.call (laws_heldMatrix_g ([] : List Nat) (1 : Int)) fun v535 =>
                (.br (decide (v535 < (0 : Int))) (
                 .leaf false
                ) (
                 (.br (!decide (v535 = v526)) (
                  .leaf false
                 ) (
                  .leaf true
                 ))
                )))
               ))
              )))
             ))))
            ))
           ))))
          ))
         )))
        )))))
       ))))
      ))
     )))
    ) (fun v520 =>
     (.call (laws_eqMatrix_g v520.1 v520.2.1 v520.2.2 v187.1 v187.2.1 v187.2.2) fun v536 =>
     (.br (!v536) (
      .leaf false
     ) (
      (.br (!(true == true)) (
       .leaf false
      ) (
       (.call (laws_toFactor_g v1 v2 v3 v4) fun v537 =>
       (.call (laws_eqFactor_g v517.1 v517.2.1 v517.2.2.1 v517.2.2.2 v537.1 v537.2.1 v537.2.2.1 v537.2.2.2) fun v538 =>
       (.br (!v538) (
        .leaf false
       ) (
        (.call (laws_markFactor_g v517.2.2.1 v517.2.2.2 (1 : Int)) fun v539 =>
        (.grd (decide (v539.2.1.length = v517.2.2.1.length)) <|
        (.grd (decide (v539.2.2.length = v517.2.2.2.length)) <|
        (.br (decide (v539.1 < (0 : Int))) (
         .leaf false
        ) (
         (.call (laws_eqMatrix_g v520.1 v520.2.1 v520.2.2 v187.1 v187.2.1 v187.2.2) fun v540 =>
         (.br (!v540) (
          .leaf false
         ) (
          (.br (!(true == true)) (
           .leaf false
          ) (
           (.call (laws_markMatrix_g v520.2.2 (1 : Int)) fun v541 =>
           (.grd (decide (v541.2.length = v520.2.2.length)) <|
           (.call (laws_heldMatrix_g v541.2 (1 : Int)) fun v542 =>
           (.br (decide (v542 < (0 : Int))) (
            .leaf false
           ) (
            (.br (!decide (v542 = v541.1)) (
             .leaf false
            ) (
             (.call (laws_toFactor_g v1 v2 v3 v4) fun v543 =>
             (.call (impl_LowerOf_g v543.1 v543.2.1 v543.2.2.1 v543.2.2.2) fun v544 =>
             (.sum v544 (fun v545 =>
              (.call (laws_eqMatrix_g (0 : Int) (0 : Int) ([] : List Nat) v187.1 v187.2.1 v187.2.2) fun v547 =>
              (.br (!v547) (
               .leaf false
              ) (
               (.br (!(false == true)) (
                .leaf false
               ) (
                (.call (laws_heldMatrix_g v541.2 (1 : Int)) fun v548 =>
                (.br (decide (v548 < (0 : Int))) (
                 .leaf false
                ) (
                 (.br (!decide (v548 = v541.1)) (
                  .leaf false
                 ) (
                  .leaf true
                 ))
                )))
               ))
              )))
             ) (fun v546 =>
              (.call (laws_eqMatrix_g v546.1 v546.2.1 v546.2.2 v187.1 v187.2.1 v187.2.2) fun v549 =>
              (.br (!v549) (
               .leaf false
              ) (
               (.br (!(true == true)) (
                .leaf false
               ) (
                (.call (laws_heldMatrix_g v541.2 (1 : Int)) fun v550 =>
                (.br (decide (v550 < (0 : Int))) (
                 .leaf false
                ) (
                 (.br (!decide (v550 = v541.1)) (
                  .leaf false
                 ) (
                  .leaf true
                 ))
                )))
               ))
              )))
             ))))
            ))
           )))))
          ))
         )))
        )))))
       ))))
      ))
     )))
    ))))
   ))))
  ))

noncomputable def laws_FnExactLowerOf_g (v1 : Int) (v2 : Int) (v3 : List Nat) (v4 : List Int) : Option (Bool) := (laws_FnExactLowerOf_T v1 v2 v3 v4).run
def laws_FnExactLowerOf_enc (v1 : Int) (v2 : Int) (v3 : List Nat) (v4 : List Int) (y : Bool) : Rs := (.bool y, [])
theorem laws_FnExactLowerOf_den (v1 : Int) (v2 : Int) (v3 : List Nat) (v4 : List Int) : (den TT (tabD laws_FnExactLowerOf_tab) (tabM laws_FnExactLowerOf_tab) (laws_FnExactLowerOf_LO v1 v2 v3 v4) (codeOf Try.f13) ([.agg [.int .i64 v1, .int .i64 v2, .bslc (BR.root 0) (.f32 v3), .bslc (BR.root 1) (.i64 v4)]] ++ List.replicate (Try.f13.ntmps - ([.agg [.int .i64 v1, .int .i64 v2, .bslc (BR.root 0) (.f32 v3), .bslc (BR.root 1) (.i64 v4)]] : List DV).length) .undef) []).bind (retD TT Try.f13.results.toList 0) = (laws_FnExactLowerOf_T v1 v2 v3 v4).bind fun y => .leaf (laws_FnExactLowerOf_enc v1 v2 v3 v4 y) := by kernel_rfl
theorem laws_FnExactLowerOf_fn (v1 : Int) (v2 : Int) (v3 : List Nat) (v4 : List Int) (F : Fr) (hm : F.ids.length = 0) (h0 : St F [] F.H0) (hA : DVs.Ok F [] [.agg [.int .i64 v1, .int .i64 v2, .bslc (BR.root 0) (.f32 v3), .bslc (BR.root 1) (.i64 v4)]]) {y : Bool} (hy : laws_FnExactLowerOf_g v1 v2 v3 v4 = some y) : ∃ H', FnOk Try.prog 13 (DVs.av F [.agg [.int .i64 v1, .int .i64 v2, .bslc (BR.root 0) (.f32 v3), .bslc (BR.root 1) (.i64 v4)]]) F.H0 ((laws_FnExactLowerOf_enc v1 v2 v3 v4 y).1.av F) H' ∧ St F (laws_FnExactLowerOf_enc v1 v2 v3 v4 y).2 H' ∧ (laws_FnExactLowerOf_enc v1 v2 v3 v4 y).1.Ok F (laws_FnExactLowerOf_enc v1 v2 v3 v4 y).2 :=
  fn_fin tok laws_FnExactLowerOf_hO mixed Try.func13 Try.call13 (by kernel_rfl) (LoopsOk_eq (l := []) (by kernel_rfl) trivial) (laws_FnExactLowerOf_den v1 v2 v3 v4) hy hm h0 hA
noncomputable def laws_FnExactLowerOf_F : DFn := fun args L =>
  match args with
  | [.agg [.int .i64 v1, .int .i64 v2, a1, a2]] =>
    optT (rowF32 L a1) fun v3 =>
    optT (rowI64 L a2) fun v4 =>
    .call (laws_FnExactLowerOf_g v1 v2 v3 v4) fun y => .leaf (.bool y, L)
  | _ => .fail
theorem laws_FnExactLowerOf_Fok : COk Try.prog 13 laws_FnExactLowerOf_F true := by
  intro F L H args r L' hs ha hr
  unfold laws_FnExactLowerOf_F at hr
  split at hr
  · rename_i v1 v2 a1 a2
    obtain ⟨v3, hv3, hr⟩ := optT_run hr
    obtain ⟨v4, hv4, hr⟩ := optT_run hr
    simp only [Tree.run] at hr
    obtain ⟨y, hy, hr⟩ := Option.bind_eq_some_iff.1 hr
    simp only [Tree.run, Option.some.injEq, Prod.mk.injEq] at hr
    obtain ⟨rfl, rfl⟩ := hr
    exact call_ok0 hs (fun k => (([a1.av F, a2.av F] : List AV)[k]?).getD .top) [.agg [.int .i64 v1, .int .i64 v2, a1, a2]] [.agg [.int .i64 v1, .int .i64 v2, .bslc (BR.root 0) (.f32 v3), .bslc (BR.root 1) (.i64 v4)]] (fun F' h0 hi hρ => ⟨by simp [DVs.av, DV.av, BR.av, hρ], laws_FnExactLowerOf_fn v1 v2 v3 v4 F' (by rw [hi]; rfl) (st_nil hi) ⟨⟨trivial, trivial, bslc_ok hi (by rw [h0, hρ]; exact rowF32_ok hs (DVs.okAt (DVs.okAt ha 0 rfl) 2 rfl) hv3), bslc_ok hi (by rw [h0, hρ]; exact rowI64_ok hs (DVs.okAt (DVs.okAt ha 0 rfl) 3 rfl) hv4), trivial⟩, trivial⟩ hy⟩) rfl
  · cases hr
/-! laws.szFloat32S -/
noncomputable def laws_szFloat32S_len_LO (v564 : Nat) (v565 : Int) : LOr := fun id e L =>
  match id with
  | _ => .fail
noncomputable def laws_szFloat32S_len_tab : List (FuncId × DFn × Bool) := []
theorem laws_szFloat32S_len_hO : OrcOk Try.prog (tabD laws_szFloat32S_len_tab) (tabM laws_szFloat32S_len_tab) := tabD_nil _
noncomputable def laws_szFloat32S_len_T (v564 : Nat) (v565 : Int) : Tree (Int) :=
  (.br (decide (IntKind.i64.wrap (v565 - ((v564 : Nat) : Int)) < (0 : Int))) (
   .leaf (-1 : Int)
  ) (
   .leaf (IntKind.i64.wrap (v565 - ((v564 : Nat) : Int)))
  ))

noncomputable def laws_szFloat32S_len_g (v564 : Nat) (v565 : Int) : Option (Int) := (laws_szFloat32S_len_T v564 v565).run
def laws_szFloat32S_len_enc (v564 : Nat) (v565 : Int) (y : Int) : Rs := (.int .i64 y, [])
theorem laws_szFloat32S_len_den (v564 : Nat) (v565 : Int) : (den TT (tabD laws_szFloat32S_len_tab) (tabM laws_szFloat32S_len_tab) (laws_szFloat32S_len_LO v564 v565) (codeOf Try.f64) ([.hslc (BR.root 0) v564, .int .i64 v565] ++ List.replicate (Try.f64.ntmps - ([.hslc (BR.root 0) v564, .int .i64 v565] : List DV).length) .undef) []).bind (retD TT Try.f64.results.toList 0) = (laws_szFloat32S_len_T v564 v565).bind fun y => .leaf (laws_szFloat32S_len_enc v564 v565 y) := by kernel_rfl
theorem laws_szFloat32S_len_fn (v564 : Nat) (v565 : Int) (F : Fr) (hm : F.ids.length = 0) (h0 : St F [] F.H0) (hA : DVs.Ok F [] [.hslc (BR.root 0) v564, .int .i64 v565]) {y : Int} (hy : laws_szFloat32S_len_g v564 v565 = some y) : ∃ H', FnOk Try.prog 64 (DVs.av F [.hslc (BR.root 0) v564, .int .i64 v565]) F.H0 ((laws_szFloat32S_len_enc v564 v565 y).1.av F) H' ∧ St F (laws_szFloat32S_len_enc v564 v565 y).2 H' ∧ (laws_szFloat32S_len_enc v564 v565 y).1.Ok F (laws_szFloat32S_len_enc v564 v565 y).2 :=
  fn_fin tok laws_szFloat32S_len_hO mixed Try.func64 Try.call64 (by kernel_rfl) (LoopsOk_eq (l := []) (by kernel_rfl) trivial) (laws_szFloat32S_len_den v564 v565) hy hm h0 hA
def laws_szFloat32S_len_v (v564 : Nat) (v565 : Int) : Int :=
  if (decide (IntKind.i64.wrap (v565 - ((v564 : Nat) : Int)) < (0 : Int))) = true then (
   (-1 : Int)
  ) else (
   IntKind.i64.wrap (v565 - ((v564 : Nat) : Int))
  )
theorem laws_szFloat32S_len_tot (v564 : Nat) (v565 : Int) : laws_szFloat32S_len_g v564 v565 = some (laws_szFloat32S_len_v v564 v565) := by
  unfold laws_szFloat32S_len_g laws_szFloat32S_len_T laws_szFloat32S_len_v
  simp only [Tree.run]
  repeat' (first | rfl | split)
noncomputable def laws_szFloat32S_len_F : DFn := fun args L =>
  match args with
  | [a1, .int .i64 v565] =>
    optT (lenV L a1) fun v564 =>
    .leaf (.int .i64 (laws_szFloat32S_len_v v564 v565), L)
  | _ => .fail
theorem laws_szFloat32S_len_Fok : COk Try.prog 64 laws_szFloat32S_len_F true := by
  intro F L H args r L' hs ha hr
  unfold laws_szFloat32S_len_F at hr
  split at hr
  · rename_i a1 v565
    obtain ⟨v564, hv564, hr⟩ := optT_run hr
    have hy := laws_szFloat32S_len_tot v564 v565
    generalize laws_szFloat32S_len_v v564 v565 = y at hy hr
    simp only [Tree.run, Option.some.injEq, Prod.mk.injEq] at hr
    obtain ⟨rfl, rfl⟩ := hr
    exact call_ok0 hs (fun k => (([a1.av F] : List AV)[k]?).getD .top) [a1, .int .i64 v565] [.hslc (BR.root 0) v564, .int .i64 v565] (fun F' h0 hi hρ => ⟨by simp [DVs.av, DV.av, BR.av, hρ], laws_szFloat32S_len_fn v564 v565 F' (by rw [hi]; rfl) (st_nil hi) ⟨hslc_ok hi (by rw [h0, hρ]; exact lenV_ok hs (DVs.okAt ha 0 rfl) hv564), trivial, trivial⟩ hy⟩) rfl
  · cases hr
/-! laws.szMatrix -/
noncomputable def laws_szMatrix_len_LO (v560 : Int) (v561 : Int) (v562 : Nat) (v563 : Int) : LOr := fun id e L =>
  match id with
  | _ => .fail
noncomputable def laws_szMatrix_len_tab : List (FuncId × DFn × Bool) := [(64, laws_szFloat32S_len_F, true)]
theorem laws_szMatrix_len_hO : OrcOk Try.prog (tabD laws_szMatrix_len_tab) (tabM laws_szMatrix_len_tab) := tabD_cons laws_szFloat32S_len_Fok (tabD_nil _)
noncomputable def laws_szMatrix_len_T (v562 : Nat) (v563 : Int) : Tree (Int) :=
  (.br (decide ((laws_szFloat32S_len_v v562 v563) < (0 : Int))) (
   .leaf (-1 : Int)
  ) (
   .leaf (laws_szFloat32S_len_v v562 v563)
  ))

noncomputable def laws_szMatrix_len_g (v562 : Nat) (v563 : Int) : Option (Int) := (laws_szMatrix_len_T v562 v563).run
def laws_szMatrix_len_enc (v560 : Int) (v561 : Int) (v562 : Nat) (v563 : Int) (y : Int) : Rs := (.int .i64 y, [])
theorem laws_szMatrix_len_den (v560 : Int) (v561 : Int) (v562 : Nat) (v563 : Int) : (den TT (tabD laws_szMatrix_len_tab) (tabM laws_szMatrix_len_tab) (laws_szMatrix_len_LO v560 v561 v562 v563) (codeOf Try.f29) ([.agg [.int .i64 v560, .int .i64 v561, .hslc (BR.root 0) v562], .int .i64 v563] ++ List.replicate (Try.f29.ntmps - ([.agg [.int .i64 v560, .int .i64 v561, .hslc (BR.root 0) v562], .int .i64 v563] : List DV).length) .undef) []).bind (retD TT Try.f29.results.toList 0) = (laws_szMatrix_len_T v562 v563).bind fun y => .leaf (laws_szMatrix_len_enc v560 v561 v562 v563 y) := by kernel_rfl
theorem laws_szMatrix_len_fn (v560 : Int) (v561 : Int) (v562 : Nat) (v563 : Int) (F : Fr) (hm : F.ids.length = 0) (h0 : St F [] F.H0) (hA : DVs.Ok F [] [.agg [.int .i64 v560, .int .i64 v561, .hslc (BR.root 0) v562], .int .i64 v563]) {y : Int} (hy : laws_szMatrix_len_g v562 v563 = some y) : ∃ H', FnOk Try.prog 29 (DVs.av F [.agg [.int .i64 v560, .int .i64 v561, .hslc (BR.root 0) v562], .int .i64 v563]) F.H0 ((laws_szMatrix_len_enc v560 v561 v562 v563 y).1.av F) H' ∧ St F (laws_szMatrix_len_enc v560 v561 v562 v563 y).2 H' ∧ (laws_szMatrix_len_enc v560 v561 v562 v563 y).1.Ok F (laws_szMatrix_len_enc v560 v561 v562 v563 y).2 :=
  fn_fin tok laws_szMatrix_len_hO mixed Try.func29 Try.call29 (by kernel_rfl) (LoopsOk_eq (l := []) (by kernel_rfl) trivial) (laws_szMatrix_len_den v560 v561 v562 v563) hy hm h0 hA
def laws_szMatrix_len_v (v562 : Nat) (v563 : Int) : Int :=
  if (decide ((laws_szFloat32S_len_v v562 v563) < (0 : Int))) = true then (
   (-1 : Int)
  ) else (
   (laws_szFloat32S_len_v v562 v563)
  )
theorem laws_szMatrix_len_tot (v562 : Nat) (v563 : Int) : laws_szMatrix_len_g v562 v563 = some (laws_szMatrix_len_v v562 v563) := by
  unfold laws_szMatrix_len_g laws_szMatrix_len_T laws_szMatrix_len_v
  simp only [Tree.run]
  repeat' (first | rfl | split)
noncomputable def laws_szMatrix_len_F : DFn := fun args L =>
  match args with
  | [.agg [.int .i64 v560, .int .i64 v561, a1], .int .i64 v563] =>
    optT (lenV L a1) fun v562 =>
    .leaf (.int .i64 (laws_szMatrix_len_v v562 v563), L)
  | _ => .fail
theorem laws_szMatrix_len_Fok : COk Try.prog 29 laws_szMatrix_len_F true := by
  intro F L H args r L' hs ha hr
  unfold laws_szMatrix_len_F at hr
  split at hr
  · rename_i v560 v561 a1 v563
    obtain ⟨v562, hv562, hr⟩ := optT_run hr
    have hy := laws_szMatrix_len_tot v562 v563
    generalize laws_szMatrix_len_v v562 v563 = y at hy hr
    simp only [Tree.run, Option.some.injEq, Prod.mk.injEq] at hr
    obtain ⟨rfl, rfl⟩ := hr
    exact call_ok0 hs (fun k => (([a1.av F] : List AV)[k]?).getD .top) [.agg [.int .i64 v560, .int .i64 v561, a1], .int .i64 v563] [.agg [.int .i64 v560, .int .i64 v561, .hslc (BR.root 0) v562], .int .i64 v563] (fun F' h0 hi hρ => ⟨by simp [DVs.av, DV.av, BR.av, hρ], laws_szMatrix_len_fn v560 v561 v562 v563 F' (by rw [hi]; rfl) (st_nil hi) ⟨⟨trivial, trivial, hslc_ok hi (by rw [h0, hρ]; exact lenV_ok hs (DVs.okAt (DVs.okAt ha 0 rfl) 2 rfl) hv562), trivial⟩, trivial, trivial⟩ hy⟩) rfl
  · cases hr
/-! laws.szInt64S -/
noncomputable def laws_szInt64S_len_LO (v566 : Nat) (v567 : Int) : LOr := fun id e L =>
  match id with
  | _ => .fail
noncomputable def laws_szInt64S_len_tab : List (FuncId × DFn × Bool) := []
theorem laws_szInt64S_len_hO : OrcOk Try.prog (tabD laws_szInt64S_len_tab) (tabM laws_szInt64S_len_tab) := tabD_nil _
noncomputable def laws_szInt64S_len_T (v566 : Nat) (v567 : Int) : Tree (Int) :=
  (.br (decide (IntKind.i64.wrap (v567 - ((v566 : Nat) : Int)) < (0 : Int))) (
   .leaf (-1 : Int)
  ) (
   .leaf (IntKind.i64.wrap (v567 - ((v566 : Nat) : Int)))
  ))

noncomputable def laws_szInt64S_len_g (v566 : Nat) (v567 : Int) : Option (Int) := (laws_szInt64S_len_T v566 v567).run
def laws_szInt64S_len_enc (v566 : Nat) (v567 : Int) (y : Int) : Rs := (.int .i64 y, [])
theorem laws_szInt64S_len_den (v566 : Nat) (v567 : Int) : (den TT (tabD laws_szInt64S_len_tab) (tabM laws_szInt64S_len_tab) (laws_szInt64S_len_LO v566 v567) (codeOf Try.f63) ([.hslc (BR.root 0) v566, .int .i64 v567] ++ List.replicate (Try.f63.ntmps - ([.hslc (BR.root 0) v566, .int .i64 v567] : List DV).length) .undef) []).bind (retD TT Try.f63.results.toList 0) = (laws_szInt64S_len_T v566 v567).bind fun y => .leaf (laws_szInt64S_len_enc v566 v567 y) := by kernel_rfl
theorem laws_szInt64S_len_fn (v566 : Nat) (v567 : Int) (F : Fr) (hm : F.ids.length = 0) (h0 : St F [] F.H0) (hA : DVs.Ok F [] [.hslc (BR.root 0) v566, .int .i64 v567]) {y : Int} (hy : laws_szInt64S_len_g v566 v567 = some y) : ∃ H', FnOk Try.prog 63 (DVs.av F [.hslc (BR.root 0) v566, .int .i64 v567]) F.H0 ((laws_szInt64S_len_enc v566 v567 y).1.av F) H' ∧ St F (laws_szInt64S_len_enc v566 v567 y).2 H' ∧ (laws_szInt64S_len_enc v566 v567 y).1.Ok F (laws_szInt64S_len_enc v566 v567 y).2 :=
  fn_fin tok laws_szInt64S_len_hO mixed Try.func63 Try.call63 (by kernel_rfl) (LoopsOk_eq (l := []) (by kernel_rfl) trivial) (laws_szInt64S_len_den v566 v567) hy hm h0 hA
def laws_szInt64S_len_v (v566 : Nat) (v567 : Int) : Int :=
  if (decide (IntKind.i64.wrap (v567 - ((v566 : Nat) : Int)) < (0 : Int))) = true then (
   (-1 : Int)
  ) else (
   IntKind.i64.wrap (v567 - ((v566 : Nat) : Int))
  )
theorem laws_szInt64S_len_tot (v566 : Nat) (v567 : Int) : laws_szInt64S_len_g v566 v567 = some (laws_szInt64S_len_v v566 v567) := by
  unfold laws_szInt64S_len_g laws_szInt64S_len_T laws_szInt64S_len_v
  simp only [Tree.run]
  repeat' (first | rfl | split)
noncomputable def laws_szInt64S_len_F : DFn := fun args L =>
  match args with
  | [a1, .int .i64 v567] =>
    optT (lenV L a1) fun v566 =>
    .leaf (.int .i64 (laws_szInt64S_len_v v566 v567), L)
  | _ => .fail
theorem laws_szInt64S_len_Fok : COk Try.prog 63 laws_szInt64S_len_F true := by
  intro F L H args r L' hs ha hr
  unfold laws_szInt64S_len_F at hr
  split at hr
  · rename_i a1 v567
    obtain ⟨v566, hv566, hr⟩ := optT_run hr
    have hy := laws_szInt64S_len_tot v566 v567
    generalize laws_szInt64S_len_v v566 v567 = y at hy hr
    simp only [Tree.run, Option.some.injEq, Prod.mk.injEq] at hr
    obtain ⟨rfl, rfl⟩ := hr
    exact call_ok0 hs (fun k => (([a1.av F] : List AV)[k]?).getD .top) [a1, .int .i64 v567] [.hslc (BR.root 0) v566, .int .i64 v567] (fun F' h0 hi hρ => ⟨by simp [DVs.av, DV.av, BR.av, hρ], laws_szInt64S_len_fn v566 v567 F' (by rw [hi]; rfl) (st_nil hi) ⟨hslc_ok hi (by rw [h0, hρ]; exact lenV_ok hs (DVs.okAt ha 0 rfl) hv566), trivial, trivial⟩ hy⟩) rfl
  · cases hr
/-! laws.szFactor -/
noncomputable def laws_szFactor_len_LO (v555 : Int) (v556 : Int) (v557 : Nat) (v558 : Nat) (v559 : Int) : LOr := fun id e L =>
  match id with
  | _ => .fail
noncomputable def laws_szFactor_len_tab : List (FuncId × DFn × Bool) := [(29, laws_szMatrix_len_F, true), (63, laws_szInt64S_len_F, true)]
theorem laws_szFactor_len_hO : OrcOk Try.prog (tabD laws_szFactor_len_tab) (tabM laws_szFactor_len_tab) := tabD_cons laws_szMatrix_len_Fok (tabD_cons laws_szInt64S_len_Fok (tabD_nil _))
noncomputable def laws_szFactor_len_T (v557 : Nat) (v558 : Nat) (v559 : Int) : Tree (Int) :=
  (.br (decide ((laws_szMatrix_len_v v557 v559) < (0 : Int))) (
   .leaf (-1 : Int)
  ) (
   (.br (decide ((laws_szInt64S_len_v v558 (laws_szMatrix_len_v v557 v559)) < (0 : Int))) (
    .leaf (-1 : Int)
   ) (
    .leaf (laws_szInt64S_len_v v558 (laws_szMatrix_len_v v557 v559))
   ))
  ))

noncomputable def laws_szFactor_len_g (v557 : Nat) (v558 : Nat) (v559 : Int) : Option (Int) := (laws_szFactor_len_T v557 v558 v559).run
def laws_szFactor_len_enc (v555 : Int) (v556 : Int) (v557 : Nat) (v558 : Nat) (v559 : Int) (y : Int) : Rs := (.int .i64 y, [])
theorem laws_szFactor_len_den (v555 : Int) (v556 : Int) (v557 : Nat) (v558 : Nat) (v559 : Int) : (den TT (tabD laws_szFactor_len_tab) (tabM laws_szFactor_len_tab) (laws_szFactor_len_LO v555 v556 v557 v558 v559) (codeOf Try.f46) ([.agg [.int .i64 v555, .int .i64 v556, .hslc (BR.root 0) v557, .hslc (BR.root 1) v558], .int .i64 v559] ++ List.replicate (Try.f46.ntmps - ([.agg [.int .i64 v555, .int .i64 v556, .hslc (BR.root 0) v557, .hslc (BR.root 1) v558], .int .i64 v559] : List DV).length) .undef) []).bind (retD TT Try.f46.results.toList 0) = (laws_szFactor_len_T v557 v558 v559).bind fun y => .leaf (laws_szFactor_len_enc v555 v556 v557 v558 v559 y) := by kernel_rfl
theorem laws_szFactor_len_fn (v555 : Int) (v556 : Int) (v557 : Nat) (v558 : Nat) (v559 : Int) (F : Fr) (hm : F.ids.length = 0) (h0 : St F [] F.H0) (hA : DVs.Ok F [] [.agg [.int .i64 v555, .int .i64 v556, .hslc (BR.root 0) v557, .hslc (BR.root 1) v558], .int .i64 v559]) {y : Int} (hy : laws_szFactor_len_g v557 v558 v559 = some y) : ∃ H', FnOk Try.prog 46 (DVs.av F [.agg [.int .i64 v555, .int .i64 v556, .hslc (BR.root 0) v557, .hslc (BR.root 1) v558], .int .i64 v559]) F.H0 ((laws_szFactor_len_enc v555 v556 v557 v558 v559 y).1.av F) H' ∧ St F (laws_szFactor_len_enc v555 v556 v557 v558 v559 y).2 H' ∧ (laws_szFactor_len_enc v555 v556 v557 v558 v559 y).1.Ok F (laws_szFactor_len_enc v555 v556 v557 v558 v559 y).2 :=
  fn_fin tok laws_szFactor_len_hO mixed Try.func46 Try.call46 (by kernel_rfl) (LoopsOk_eq (l := []) (by kernel_rfl) trivial) (laws_szFactor_len_den v555 v556 v557 v558 v559) hy hm h0 hA
def laws_szFactor_len_v (v557 : Nat) (v558 : Nat) (v559 : Int) : Int :=
  if (decide ((laws_szMatrix_len_v v557 v559) < (0 : Int))) = true then (
   (-1 : Int)
  ) else (
   if (decide ((laws_szInt64S_len_v v558 (laws_szMatrix_len_v v557 v559)) < (0 : Int))) = true then (
    (-1 : Int)
   ) else (
    (laws_szInt64S_len_v v558 (laws_szMatrix_len_v v557 v559))
   )
  )
theorem laws_szFactor_len_tot (v557 : Nat) (v558 : Nat) (v559 : Int) : laws_szFactor_len_g v557 v558 v559 = some (laws_szFactor_len_v v557 v558 v559) := by
  unfold laws_szFactor_len_g laws_szFactor_len_T laws_szFactor_len_v
  simp only [Tree.run]
  repeat' (first | rfl | split)
noncomputable def laws_szFactor_len_F : DFn := fun args L =>
  match args with
  | [.agg [.int .i64 v555, .int .i64 v556, a1, a2], .int .i64 v559] =>
    optT (lenV L a1) fun v557 =>
    optT (lenV L a2) fun v558 =>
    .leaf (.int .i64 (laws_szFactor_len_v v557 v558 v559), L)
  | _ => .fail
theorem laws_szFactor_len_Fok : COk Try.prog 46 laws_szFactor_len_F true := by
  intro F L H args r L' hs ha hr
  unfold laws_szFactor_len_F at hr
  split at hr
  · rename_i v555 v556 a1 a2 v559
    obtain ⟨v557, hv557, hr⟩ := optT_run hr
    obtain ⟨v558, hv558, hr⟩ := optT_run hr
    have hy := laws_szFactor_len_tot v557 v558 v559
    generalize laws_szFactor_len_v v557 v558 v559 = y at hy hr
    simp only [Tree.run, Option.some.injEq, Prod.mk.injEq] at hr
    obtain ⟨rfl, rfl⟩ := hr
    exact call_ok0 hs (fun k => (([a1.av F, a2.av F] : List AV)[k]?).getD .top) [.agg [.int .i64 v555, .int .i64 v556, a1, a2], .int .i64 v559] [.agg [.int .i64 v555, .int .i64 v556, .hslc (BR.root 0) v557, .hslc (BR.root 1) v558], .int .i64 v559] (fun F' h0 hi hρ => ⟨by simp [DVs.av, DV.av, BR.av, hρ], laws_szFactor_len_fn v555 v556 v557 v558 v559 F' (by rw [hi]; rfl) (st_nil hi) ⟨⟨trivial, trivial, hslc_ok hi (by rw [h0, hρ]; exact lenV_ok hs (DVs.okAt (DVs.okAt ha 0 rfl) 2 rfl) hv557), hslc_ok hi (by rw [h0, hρ]; exact lenV_ok hs (DVs.okAt (DVs.okAt ha 0 rfl) 3 rfl) hv558), trivial⟩, trivial, trivial⟩ hy⟩) rfl
  · cases hr
/-! laws.FnExactLowerOf -/
noncomputable def laws_FnExactLowerOf_len_LO (v551 : Int) (v552 : Int) (v553 : Nat) (v554 : Nat) : LOr := fun id e L =>
  match id with
  | _ => .fail
noncomputable def laws_FnExactLowerOf_len_tab : List (FuncId × DFn × Bool) := [(46, laws_szFactor_len_F, true)]
theorem laws_FnExactLowerOf_len_hO : OrcOk Try.prog (tabD laws_FnExactLowerOf_len_tab) (tabM laws_FnExactLowerOf_len_tab) := tabD_cons laws_szFactor_len_Fok (tabD_nil _)
noncomputable def laws_FnExactLowerOf_len_T (v553 : Nat) (v554 : Nat) : Tree (Bool) :=
  (.br (decide ((laws_szFactor_len_v v553 v554 (1048576 : Int)) < (0 : Int))) (
   .leaf true
  ) (
   .fail
  ))

noncomputable def laws_FnExactLowerOf_len_g (v553 : Nat) (v554 : Nat) : Option (Bool) := (laws_FnExactLowerOf_len_T v553 v554).run
def laws_FnExactLowerOf_len_enc (v551 : Int) (v552 : Int) (v553 : Nat) (v554 : Nat) (y : Bool) : Rs := (.bool y, [])
theorem laws_FnExactLowerOf_len_den (v551 : Int) (v552 : Int) (v553 : Nat) (v554 : Nat) : (den TT (tabD laws_FnExactLowerOf_len_tab) (tabM laws_FnExactLowerOf_len_tab) (laws_FnExactLowerOf_len_LO v551 v552 v553 v554) (codeOf Try.f13) ([.agg [.int .i64 v551, .int .i64 v552, .hslc (BR.root 0) v553, .hslc (BR.root 1) v554]] ++ List.replicate (Try.f13.ntmps - ([.agg [.int .i64 v551, .int .i64 v552, .hslc (BR.root 0) v553, .hslc (BR.root 1) v554]] : List DV).length) .undef) []).bind (retD TT Try.f13.results.toList 0) = (laws_FnExactLowerOf_len_T v553 v554).bind fun y => .leaf (laws_FnExactLowerOf_len_enc v551 v552 v553 v554 y) := by kernel_rfl
theorem laws_FnExactLowerOf_len_fn (v551 : Int) (v552 : Int) (v553 : Nat) (v554 : Nat) (F : Fr) (hm : F.ids.length = 0) (h0 : St F [] F.H0) (hA : DVs.Ok F [] [.agg [.int .i64 v551, .int .i64 v552, .hslc (BR.root 0) v553, .hslc (BR.root 1) v554]]) {y : Bool} (hy : laws_FnExactLowerOf_len_g v553 v554 = some y) : ∃ H', FnOk Try.prog 13 (DVs.av F [.agg [.int .i64 v551, .int .i64 v552, .hslc (BR.root 0) v553, .hslc (BR.root 1) v554]]) F.H0 ((laws_FnExactLowerOf_len_enc v551 v552 v553 v554 y).1.av F) H' ∧ St F (laws_FnExactLowerOf_len_enc v551 v552 v553 v554 y).2 H' ∧ (laws_FnExactLowerOf_len_enc v551 v552 v553 v554 y).1.Ok F (laws_FnExactLowerOf_len_enc v551 v552 v553 v554 y).2 :=
  fn_fin tok laws_FnExactLowerOf_len_hO mixed Try.func13 Try.call13 (by kernel_rfl) (LoopsOk_eq (l := []) (by kernel_rfl) trivial) (laws_FnExactLowerOf_len_den v551 v552 v553 v554) hy hm h0 hA
noncomputable def laws_FnExactLowerOf_len_F : DFn := fun args L =>
  match args with
  | [.agg [.int .i64 v551, .int .i64 v552, a1, a2]] =>
    optT (lenV L a1) fun v553 =>
    optT (lenV L a2) fun v554 =>
    .call (laws_FnExactLowerOf_len_g v553 v554) fun y => .leaf (.bool y, L)
  | _ => .fail
theorem laws_FnExactLowerOf_len_Fok : COk Try.prog 13 laws_FnExactLowerOf_len_F true := by
  intro F L H args r L' hs ha hr
  unfold laws_FnExactLowerOf_len_F at hr
  split at hr
  · rename_i v551 v552 a1 a2
    obtain ⟨v553, hv553, hr⟩ := optT_run hr
    obtain ⟨v554, hv554, hr⟩ := optT_run hr
    simp only [Tree.run] at hr
    obtain ⟨y, hy, hr⟩ := Option.bind_eq_some_iff.1 hr
    simp only [Tree.run, Option.some.injEq, Prod.mk.injEq] at hr
    obtain ⟨rfl, rfl⟩ := hr
    exact call_ok0 hs (fun k => (([a1.av F, a2.av F] : List AV)[k]?).getD .top) [.agg [.int .i64 v551, .int .i64 v552, a1, a2]] [.agg [.int .i64 v551, .int .i64 v552, .hslc (BR.root 0) v553, .hslc (BR.root 1) v554]] (fun F' h0 hi hρ => ⟨by simp [DVs.av, DV.av, BR.av, hρ], laws_FnExactLowerOf_len_fn v551 v552 v553 v554 F' (by rw [hi]; rfl) (st_nil hi) ⟨⟨trivial, trivial, hslc_ok hi (by rw [h0, hρ]; exact lenV_ok hs (DVs.okAt (DVs.okAt ha 0 rfl) 2 rfl) hv553), hslc_ok hi (by rw [h0, hρ]; exact lenV_ok hs (DVs.okAt (DVs.okAt ha 0 rfl) 3 rfl) hv554), trivial⟩, trivial⟩ hy⟩) rfl
  · cases hr
end Go.Proofs.Ytjadfgeemfdbmaa.AM
