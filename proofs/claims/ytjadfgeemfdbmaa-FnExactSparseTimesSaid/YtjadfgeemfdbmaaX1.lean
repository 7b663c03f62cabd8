/- Functions: what they come to. -/
import Derived.Test.YtjadfgeemfdbmaaX0
set_option maxRecDepth 100000
set_option maxHeartbeats 4000000
set_option linter.unusedSimpArgs false
set_option linter.unusedVariables false
namespace Go.Proofs.Ytjadfgeemfdbmaa.AM
open Go.Proofs
/-! (impl.Sparse).each -/
noncomputable def impl_Sparse_each_l0_T (v290 : List Int) (v291 : List Int) (v292 : List Nat) (v293 : Int) (v295 : List Nat) (s : Int × Nat) : Tree ((Int × Nat) ⊕ (Nat)) :=
  (.grd (inb (IntKind.i64.wrap (v293 + (1 : Int))) v290.length) <|
  (.br (decide (s.1 < nth v290 (Int.toNat (IntKind.i64.wrap (v293 + (1 : Int)))))) (
   (.grd (inb s.1 v291.length) <|
   (.grd (inb s.1 v292.length) <|
   (.call (impl_Sparse_times_1_i1_g (nth v291 (Int.toNat s.1)) (nth v292 (Int.toNat s.1)) s.2 v295) fun v311 =>
   .leaf (.inl (IntKind.i64.wrap (s.1 + (1 : Int)), v311)))))
  ) (
   .leaf (.inr s.2)
  )))

noncomputable def impl_Sparse_each_l0_g (v290 : List Int) (v291 : List Int) (v292 : List Nat) (v293 : Int) (v295 : List Nat) (s0 : Int × Nat) : Option (Nat) := whileM (fun s => (impl_Sparse_each_l0_T v290 v291 v292 v293 v295 s).run) s0
def impl_Sparse_each_l0_E (v289 : Int) (v290 : List Int) (v291 : List Int) (v292 : List Nat) (v293 : Int) (v294 : Nat) (v295 : List Nat) (s : Int × Nat) : Sd := ([.top, .int .i64 v293, .fn 136 [.ptr 0 (0 : Nat) 0 (1 : Nat), .bptr (BR.root 4) [.bslc (BR.root 5) (.f32 v295)]], .ptr 1 (0 : Nat) 0 (4 : Nat), .top, .top, .int .i64 s.1, .top, .top, .top, .top, .top, .top, .top, .top, .top, .top, .top, .top, .top, .top, .top, .top, .top, .top, .top, .top, .top, .top, .top, .top, .top, .top, .top], [.gen [.flt .f32 s.2] true 0, .gen [.int .i64 v289, .bslc (BR.root 0) (.i64 v290), .bslc (BR.root 1) (.i64 v291), .bslc (BR.root 2) (.f32 v292)] false 0])
def impl_Sparse_each_l0_X (v289 : Int) (v290 : List Int) (v291 : List Int) (v292 : List Nat) (v293 : Int) (v294 : Nat) (v295 : List Nat) (x : Nat) : Out := (.normal, [.top, .top, .top, .top, .top, .top, .top, .top, .top, .top, .top, .top, .top, .top, .top, .top, .top, .top, .top, .top, .top, .top, .top, .top, .top, .top, .top, .top, .top, .top, .top, .top, .top, .top], [.gen [.flt .f32 x] true 0])
def impl_Sparse_each_l0_kill : List Nat := [1, 0, 0, 0, 1, 1, 0, 1, 1, 1, 1, 1, 1, 1, 1, 1, 1, 1, 1, 1, 1, 1, 1, 1, 1, 1, 1, 1, 1, 1, 1, 1, 1, 1]
def impl_Sparse_each_l0_nx : Exit → List Nat
  | .exit 0 => [1, 1, 1, 1, 1, 1, 1, 1, 1, 1, 1, 1, 1, 1, 1, 1, 1, 1, 1, 1, 1, 1, 1, 1, 1, 1, 1, 1, 1, 1, 1, 1, 1, 1]
  | .ret => [1, 1, 1, 1, 1, 1, 1, 1, 1, 1, 1, 1, 1, 1, 1, 1, 1, 1, 1, 1, 1, 1, 1, 1, 1, 1, 1, 1, 1, 1, 1, 1, 1, 1]
  | _ => []
noncomputable def impl_Sparse_each_LO (v289 : Int) (v290 : List Int) (v291 : List Int) (v292 : List Nat) (v293 : Int) (v294 : Nat) (v295 : List Nat) : LOr := fun id e L =>
  match id with
  | 0 => .need (normA 1 impl_Sparse_each_l0_kill e L = some (impl_Sparse_each_l0_E v289 v290 v291 v292 v293 v294 v295 ((gI (vAt e 6)), (gF (cAt L (aAt (vAt e 2) 0) 0))))) (.call (impl_Sparse_each_l0_g v290 v291 v292 v293 v295 ((gI (vAt e 6)), (gF (cAt L (aAt (vAt e 2) 0) 0)))) fun x => .leaf (impl_Sparse_each_l0_X v289 v290 v291 v292 v293 v294 v295 x))
  | _ => .fail
noncomputable def impl_Sparse_each_tab : List (FuncId × DFn × Bool) := [(136, impl_Sparse_times_1_i1_F, false)]
theorem impl_Sparse_each_hO : OrcOk Try.prog (tabD impl_Sparse_each_tab) (tabM impl_Sparse_each_tab) := tabD_cons impl_Sparse_times_1_i1_Fok (tabD_nil _)
theorem impl_Sparse_each_l0_be (v289 : Int) (v290 : List Int) (v291 : List Int) (v292 : List Nat) (v293 : Int) (v294 : Nat) (v295 : List Nat) (s : Int × Nat) : bodyT TT (tabD impl_Sparse_each_tab) (tabM impl_Sparse_each_tab) (impl_Sparse_each_LO v289 v290 v291 v292 v293 v294 v295) 1 impl_Sparse_each_l0_kill impl_Sparse_each_l0_nx (bodyOf Try.f78 0) 0 (impl_Sparse_each_l0_E v289 v290 v291 v292 v293 v294 v295 s) = (impl_Sparse_each_l0_T v290 v291 v292 v293 v295 s).bind fun y => .leaf (outS (impl_Sparse_each_l0_E v289 v290 v291 v292 v293 v294 v295) (impl_Sparse_each_l0_X v289 v290 v291 v292 v293 v294 v295) y) := by kernel_rfl
theorem impl_Sparse_each_l0_ok (v289 : Int) (v290 : List Int) (v291 : List Int) (v292 : List Nat) (v293 : Int) (v294 : Nat) (v295 : List Nat) : LSound Try.prog 1 (impl_Sparse_each_LO v289 v290 v291 v292 v293 v294 v295) 0 (bodyOf Try.f78 0) := by
  intro e L out h
  exact lo_ok (E := impl_Sparse_each_l0_E v289 v290 v291 v292 v293 v294 v295) (gT := impl_Sparse_each_l0_T v290 v291 v292 v293 v295) (X := impl_Sparse_each_l0_X v289 v290 v291 v292 v293 v294 v295) (s0 := ((gI (vAt e 6)), (gF (cAt L (aAt (vAt e 2) 0) 0)))) tok impl_Sparse_each_hO mixed (LoopsOk_eq (l := []) (by kernel_rfl) trivial) (impl_Sparse_each_l0_be v289 v290 v291 v292 v293 v294 v295) rfl (by intro x; rfl) h
noncomputable def impl_Sparse_each_T (v289 : Int) (v290 : List Int) (v291 : List Int) (v292 : List Nat) (v293 : Int) (v294 : Nat) (v295 : List Nat) : Tree (Nat) :=
  (.grd (inb v293 v290.length) <|
  (.need (some (impl_Sparse_each_l0_E v289 v290 v291 v292 v293 v294 v295 (nth v290 (Int.toNat v293), v294)) = some (impl_Sparse_each_l0_E v289 v290 v291 v292 v293 v294 v295 (nth v290 (Int.toNat v293), v294))) <|
  (.call (impl_Sparse_each_l0_g v290 v291 v292 v293 v295 (nth v290 (Int.toNat v293), v294)) fun v312 =>
  .leaf v312)))

noncomputable def impl_Sparse_each_g (v289 : Int) (v290 : List Int) (v291 : List Int) (v292 : List Nat) (v293 : Int) (v294 : Nat) (v295 : List Nat) : Option (Nat) := (impl_Sparse_each_T v289 v290 v291 v292 v293 v294 v295).run
def impl_Sparse_each_enc (v289 : Int) (v290 : List Int) (v291 : List Int) (v292 : List Nat) (v293 : Int) (v294 : Nat) (v295 : List Nat) (y : Nat) : Rs := (.tup [], [.gen [.flt .f32 y] true 0])
theorem impl_Sparse_each_den (v289 : Int) (v290 : List Int) (v291 : List Int) (v292 : List Nat) (v293 : Int) (v294 : Nat) (v295 : List Nat) : (den TT (tabD impl_Sparse_each_tab) (tabM impl_Sparse_each_tab) (impl_Sparse_each_LO v289 v290 v291 v292 v293 v294 v295) (codeOf Try.f78) ([.agg [.int .i64 v289, .bslc (BR.root 0) (.i64 v290), .bslc (BR.root 1) (.i64 v291), .bslc (BR.root 2) (.f32 v292)], .int .i64 v293, .fn 136 [.ptr 0 (0 : Nat) 0 (1 : Nat), .bptr (BR.root 4) [.bslc (BR.root 5) (.f32 v295)]]] ++ List.replicate (Try.f78.ntmps - ([.agg [.int .i64 v289, .bslc (BR.root 0) (.i64 v290), .bslc (BR.root 1) (.i64 v291), .bslc (BR.root 2) (.f32 v292)], .int .i64 v293, .fn 136 [.ptr 0 (0 : Nat) 0 (1 : Nat), .bptr (BR.root 4) [.bslc (BR.root 5) (.f32 v295)]]] : List DV).length) .undef) [.gen [.flt .f32 v294] true 0]).bind (retD TT Try.f78.results.toList 1) = (impl_Sparse_each_T v289 v290 v291 v292 v293 v294 v295).bind fun y => .leaf (impl_Sparse_each_enc v289 v290 v291 v292 v293 v294 v295 y) := by kernel_rfl
theorem impl_Sparse_each_fn (v289 : Int) (v290 : List Int) (v291 : List Int) (v292 : List Nat) (v293 : Int) (v294 : Nat) (v295 : List Nat) (F : Fr) (hm : F.ids.length = 1) (h0 : St F [.gen [.flt .f32 v294] true 0] F.H0) (hA : DVs.Ok F [.gen [.flt .f32 v294] true 0] [.agg [.int .i64 v289, .bslc (BR.root 0) (.i64 v290), .bslc (BR.root 1) (.i64 v291), .bslc (BR.root 2) (.f32 v292)], .int .i64 v293, .fn 136 [.ptr 0 (0 : Nat) 0 (1 : Nat), .bptr (BR.root 4) [.bslc (BR.root 5) (.f32 v295)]]]) {y : Nat} (hy : impl_Sparse_each_g v289 v290 v291 v292 v293 v294 v295 = some y) : ∃ H', FnOk Try.prog 78 (DVs.av F [.agg [.int .i64 v289, .bslc (BR.root 0) (.i64 v290), .bslc (BR.root 1) (.i64 v291), .bslc (BR.root 2) (.f32 v292)], .int .i64 v293, .fn 136 [.ptr 0 (0 : Nat) 0 (1 : Nat), .bptr (BR.root 4) [.bslc (BR.root 5) (.f32 v295)]]]) F.H0 ((impl_Sparse_each_enc v289 v290 v291 v292 v293 v294 v295 y).1.av F) H' ∧ St F (impl_Sparse_each_enc v289 v290 v291 v292 v293 v294 v295 y).2 H' ∧ (impl_Sparse_each_enc v289 v290 v291 v292 v293 v294 v295 y).1.Ok F (impl_Sparse_each_enc v289 v290 v291 v292 v293 v294 v295 y).2 :=
  fn_fin tok impl_Sparse_each_hO mixed Try.func78 Try.call78 (by kernel_rfl) (LoopsOk_eq (l := [(0, bodyOf Try.f78 0)]) (by kernel_rfl) ⟨impl_Sparse_each_l0_ok v289 v290 v291 v292 v293 v294 v295, trivial⟩) (impl_Sparse_each_den v289 v290 v291 v292 v293 v294 v295) hy hm h0 hA
noncomputable def impl_Sparse_each_F : DFn := fun args L =>
  match args with
  | [.agg [.int .i64 v289, a1, a2, a3], .int .i64 v293, .fn 136 [a4, a5]] =>
    optT (rowI64 L a1) fun v290 =>
    optT (rowI64 L a2) fun v291 =>
    optT (rowF32 L a3) fun v292 =>
    optT (genOf L 1 true a4) fun qg3 =>
    (match qg3.2 with
    | [.flt .f32 v294] =>
    optT (cellsOf L 1 a5) fun cs4 =>
    (match cs4 with
    | [a6] =>
    optT (rowF32 L a6) fun v295 =>
    (match sepB [qg3.1] [a1, a2, a3, DV.tip a5, a6] with
    | true =>
    .call (impl_Sparse_each_g v289 v290 v291 v292 v293 v294 v295) fun y => .leaf (.tup [], setB L [(qg3.1, .gen [.flt .f32 y] true (verAt L qg3.1))] ++ [])
    | false => .fail)
    | _ => .fail)
    | _ => .fail)
  | _ => .fail
theorem impl_Sparse_each_Fok : COk Try.prog 78 impl_Sparse_each_F false := by
  intro F L H args r L' hs ha hr
  unfold impl_Sparse_each_F at hr
  split at hr
  · rename_i v289 a1 a2 a3 v293 a4 a5
    obtain ⟨v290, hv290, hr⟩ := optT_run hr
    obtain ⟨v291, hv291, hr⟩ := optT_run hr
    obtain ⟨v292, hv292, hr⟩ := optT_run hr
    obtain ⟨⟨jg3, cg3⟩, hg3, hr⟩ := optT_run hr
    simp only at hr
    split at hr
    · rename_i v294
      obtain ⟨hge3, hgu3, hga3, hgn3, hgc3, hgf3⟩ := genOf_spec hs (DVs.okAt (DVs.okAt ha 2 rfl) 0 rfl) hg3
      obtain ⟨cs4, hcp4, hr⟩ := optT_run hr
      split at hr
      · rename_i a6
        obtain ⟨v295, hv295, hr⟩ := optT_run hr
        split at hr
        · rename_i hsep
          obtain ⟨hnd, hsepv⟩ := sepB_spec hsep
          simp only [Tree.run] at hr
          obtain ⟨y, hy, hr⟩ := Option.bind_eq_some_iff.1 hr
          try simp only [Tree.run] at hr
          simp only [Option.some.injEq, Prod.mk.injEq] at hr
          obtain ⟨rfl, rfl⟩ := hr
          exact mutG_ok hs [a1, a2, a3, a4, a5, a6] ⟨(DVs.okAt (DVs.okAt ha 0 rfl) 1 rfl), (DVs.okAt (DVs.okAt ha 0 rfl) 2 rfl), (DVs.okAt (DVs.okAt ha 0 rfl) 3 rfl), (DVs.okAt (DVs.okAt ha 2 rfl) 0 rfl), (DVs.okAt (DVs.okAt ha 2 rfl) 1 rfl), (DVs.okAt (cellsOf_ok hs (DVs.okAt (DVs.okAt ha 2 rfl) 1 rfl) hcp4).2 0 rfl), trivial⟩ [.agg [.int .i64 v289, a1, a2, a3], .int .i64 v293, .fn 136 [a4, a5]] [.agg [.int .i64 v289, .bslc (BR.root 0) (.i64 v290), .bslc (BR.root 1) (.i64 v291), .bslc (BR.root 2) (.f32 v292)], .int .i64 v293, .fn 136 [.ptr 0 (0 : Nat) 0 (1 : Nat), .bptr (BR.root 4) [.bslc (BR.root 5) (.f32 v295)]]] [jg3] [verAt L jg3] [.gen [.flt .f32 v294] true 0] [.gen [.flt .f32 y] true 0] [.gen [.flt .f32 y] true (verAt L jg3)] [] hnd rfl rfl (fun j hj => by
              simp at hj
              subst hj; exact ex_lt hge3) (fun j hj => by
              simp at hj
              subst hj; exact reach_refs (by simp [DVs.refs, DV.refs, hgu3])) (fun F' h0 hi hρ ab hS => by
              have ab0 := ab 0 _ rfl;
              refine ⟨fun i j b' h1 h2 => ?_, by simp [DBlk.blk, DVs.av, DV.av, BR.av, hρ, Row.len, hga3, ab0], fun hst => impl_Sparse_each_fn v289 v290 v291 v292 v293 v294 v295 F' (by rw [hi]; rfl) hst ⟨⟨trivial, bslcM hS (by rw [hρ]; rfl) (hsepv a1 (by simp)) (DVs.okAt (DVs.okAt ha 0 rfl) 1 rfl) (rowI64_or hv290), bslcM hS (by rw [hρ]; rfl) (hsepv a2 (by simp)) (DVs.okAt (DVs.okAt ha 0 rfl) 2 rfl) (rowI64_or hv291), bslcM hS (by rw [hρ]; rfl) (hsepv a3 (by simp)) (DVs.okAt (DVs.okAt ha 0 rfl) 3 rfl) (rowF32_or hv292), trivial⟩, trivial, ⟨⟨_, rfl, Nat.le_refl _, by decide, Nat.le_refl _, fun _ => rfl⟩, (bptrM hS (by rw [hρ]; rfl) (hsepv (DV.tip a5) (by simp)) (DVs.okAt (DVs.okAt ha 2 rfl) 1 rfl) hcp4 (by simp [DBlk.blk, DVs.av, DV.av, BR.av, hρ, Row.len, hga3, ab0]) ⟨bslcM hS (by rw [hρ]; rfl) (hsepv a6 (by simp)) (DVs.okAt (cellsOf_ok hs (DVs.okAt (DVs.okAt ha 2 rfl) 1 rfl) hcp4).2 0 rfl) (rowF32_or hv295), trivial⟩), trivial⟩, trivial⟩ hy⟩
              rcases i with _ | i
              · simp at h1 h2; subst h1; subst h2; obtain ⟨ver_, hv_⟩ := hge3; exact ⟨_, hv_, by simp [DBlk.blk, DVs.av, DV.av, BR.av, hρ, Row.len, hga3, ab0], ⟨⟨trivial, trivial⟩, fun _ c hc => by simp at hc; subst hc; rfl⟩⟩
              · simp at h1) rfl rfl (fun i j b b' h1 h2 h3 => by
              rcases i with _ | i
              · simp at h1; subst h1; cases h3; exact growG hge3 rfl h2
              · simp at h1)
        · cases hr
      · cases hr
    · cases hr
  · cases hr
/-! (impl.Sparse).times -/
noncomputable def impl_Sparse_times_l0_T (v265 : Int) (v266 : List Int) (v267 : List Int) (v268 : List Nat) (v269 : List Nat) (s : Int × (List Nat)) : Tree ((Int × (List Nat)) ⊕ ((List Nat))) :=
  (.br (decide (s.1 < v265)) (
   (.call (impl_Sparse_each_g v265 v266 v267 v268 s.1 (0 : Nat) v269) fun v319 =>
   (.grd (fits (s.2 ++ ([v319] : List Nat)).length) <|
   .leaf (.inl (IntKind.i64.wrap (s.1 + (1 : Int)), s.2 ++ ([v319] : List Nat)))))
  ) (
   .leaf (.inr s.2)
  ))

noncomputable def impl_Sparse_times_l0_g (v265 : Int) (v266 : List Int) (v267 : List Int) (v268 : List Nat) (v269 : List Nat) (s0 : Int × (List Nat)) : Option ((List Nat)) := whileM (fun s => (impl_Sparse_times_l0_T v265 v266 v267 v268 v269 s).run) s0
def impl_Sparse_times_l0_E (v265 : Int) (v266 : List Int) (v267 : List Int) (v268 : List Nat) (v269 : List Nat) (s : Int × (List Nat)) : Sd := ([.top, .top, .ptr 0 (0 : Nat) 0 (4 : Nat), .ptr 1 (0 : Nat) 0 (1 : Nat), .top, .own 2 0 ((s.2).length), .top, .top, .top, .top, .int .i64 v265, .int .i64 s.1, .top, .top, .top, .top, .top, .top, .top, .top, .top, .top, .top, .top], [.gen [.int .i64 v265, .bslc (BR.root 0) (.i64 v266), .bslc (BR.root 1) (.i64 v267), .bslc (BR.root 2) (.f32 v268)] false 0, .gen [.bslc (BR.root 3) (.f32 v269)] false 0, .row (.f32 s.2) 0])
def impl_Sparse_times_l0_X (v265 : Int) (v266 : List Int) (v267 : List Int) (v268 : List Nat) (v269 : List Nat) (x : (List Nat)) : Out := (.normal, [.top, .top, .top, .top, .top, .own 0 0 ((x).length), .top, .top, .top, .top, .top, .top, .top, .top, .top, .top, .top, .top, .top, .top, .top, .top, .top, .top], [.row (.f32 x) 0])
def impl_Sparse_times_l0_kill : List Nat := [1, 1, 0, 0, 1, 0, 1, 1, 1, 1, 0, 0, 1, 1, 1, 1, 1, 1, 1, 1, 1, 1, 1, 1]
def impl_Sparse_times_l0_nx : Exit → List Nat
  | .exit 0 => [1, 1, 1, 1, 1, 0, 1, 1, 1, 1, 1, 1, 1, 1, 1, 1, 1, 1, 1, 1, 1, 1, 1, 1]
  | .ret => [1, 1, 1, 1, 0, 1, 1, 1, 1, 1, 1, 1, 1, 1, 1, 1, 1, 1, 1, 1, 1, 1, 1, 1]
  | _ => []
noncomputable def impl_Sparse_times_LO (v265 : Int) (v266 : List Int) (v267 : List Int) (v268 : List Nat) (v269 : List Nat) : LOr := fun id e L =>
  match id with
  | 0 => .need (normA 0 impl_Sparse_times_l0_kill e L = some (impl_Sparse_times_l0_E v265 v266 v267 v268 v269 ((gI (vAt e 11)), (gRF L (vAt e 5))))) (.call (impl_Sparse_times_l0_g v265 v266 v267 v268 v269 ((gI (vAt e 11)), (gRF L (vAt e 5)))) fun x => .leaf (impl_Sparse_times_l0_X v265 v266 v267 v268 v269 x))
  | _ => .fail
noncomputable def impl_Sparse_times_tab : List (FuncId × DFn × Bool) := [(78, impl_Sparse_each_F, false)]
theorem impl_Sparse_times_hO : OrcOk Try.prog (tabD impl_Sparse_times_tab) (tabM impl_Sparse_times_tab) := tabD_cons impl_Sparse_each_Fok (tabD_nil _)
theorem impl_Sparse_times_l0_be (v265 : Int) (v266 : List Int) (v267 : List Int) (v268 : List Nat) (v269 : List Nat) (s : Int × (List Nat)) : bodyT TT (tabD impl_Sparse_times_tab) (tabM impl_Sparse_times_tab) (impl_Sparse_times_LO v265 v266 v267 v268 v269) 0 impl_Sparse_times_l0_kill impl_Sparse_times_l0_nx (bodyOf Try.f70 0) 0 (impl_Sparse_times_l0_E v265 v266 v267 v268 v269 s) = (impl_Sparse_times_l0_T v265 v266 v267 v268 v269 s).bind fun y => .leaf (outS (impl_Sparse_times_l0_E v265 v266 v267 v268 v269) (impl_Sparse_times_l0_X v265 v266 v267 v268 v269) y) := by kernel_rfl
theorem impl_Sparse_times_l0_ok (v265 : Int) (v266 : List Int) (v267 : List Int) (v268 : List Nat) (v269 : List Nat) : LSound Try.prog 0 (impl_Sparse_times_LO v265 v266 v267 v268 v269) 0 (bodyOf Try.f70 0) := by
  intro e L out h
  exact lo_ok (E := impl_Sparse_times_l0_E v265 v266 v267 v268 v269) (gT := impl_Sparse_times_l0_T v265 v266 v267 v268 v269) (X := impl_Sparse_times_l0_X v265 v266 v267 v268 v269) (s0 := ((gI (vAt e 11)), (gRF L (vAt e 5)))) tok impl_Sparse_times_hO mixed (LoopsOk_eq (l := []) (by kernel_rfl) trivial) (impl_Sparse_times_l0_be v265 v266 v267 v268 v269) rfl (by intro x; rfl) h
noncomputable def impl_Sparse_times_T (v265 : Int) (v266 : List Int) (v267 : List Int) (v268 : List Nat) (v269 : List Nat) : Tree ((List Nat)) :=
  (.need (some (impl_Sparse_times_l0_E v265 v266 v267 v268 v269 ((0 : Int), ([] : List Nat))) = some (impl_Sparse_times_l0_E v265 v266 v267 v268 v269 ((0 : Int), ([] : List Nat)))) <|
  (.call (impl_Sparse_times_l0_g v265 v266 v267 v268 v269 ((0 : Int), ([] : List Nat))) fun v320 =>
  .leaf v320))

noncomputable def impl_Sparse_times_g (v265 : Int) (v266 : List Int) (v267 : List Int) (v268 : List Nat) (v269 : List Nat) : Option ((List Nat)) := (impl_Sparse_times_T v265 v266 v267 v268 v269).run
def impl_Sparse_times_enc (v265 : Int) (v266 : List Int) (v267 : List Int) (v268 : List Nat) (v269 : List Nat) (y : (List Nat)) : Rs := (.own 0 0 ((y).length), [.row (.f32 y) 0])
theorem impl_Sparse_times_den (v265 : Int) (v266 : List Int) (v267 : List Int) (v268 : List Nat) (v269 : List Nat) : (den TT (tabD impl_Sparse_times_tab) (tabM impl_Sparse_times_tab) (impl_Sparse_times_LO v265 v266 v267 v268 v269) (codeOf Try.f70) ([.agg [.int .i64 v265, .bslc (BR.root 0) (.i64 v266), .bslc (BR.root 1) (.i64 v267), .bslc (BR.root 2) (.f32 v268)], .bslc (BR.root 3) (.f32 v269)] ++ List.replicate (Try.f70.ntmps - ([.agg [.int .i64 v265, .bslc (BR.root 0) (.i64 v266), .bslc (BR.root 1) (.i64 v267), .bslc (BR.root 2) (.f32 v268)], .bslc (BR.root 3) (.f32 v269)] : List DV).length) .undef) []).bind (retD TT Try.f70.results.toList 0) = (impl_Sparse_times_T v265 v266 v267 v268 v269).bind fun y => .leaf (impl_Sparse_times_enc v265 v266 v267 v268 v269 y) := by kernel_rfl
theorem impl_Sparse_times_fn (v265 : Int) (v266 : List Int) (v267 : List Int) (v268 : List Nat) (v269 : List Nat) (F : Fr) (hm : F.ids.length = 0) (h0 : St F [] F.H0) (hA : DVs.Ok F [] [.agg [.int .i64 v265, .bslc (BR.root 0) (.i64 v266), .bslc (BR.root 1) (.i64 v267), .bslc (BR.root 2) (.f32 v268)], .bslc (BR.root 3) (.f32 v269)]) {y : (List Nat)} (hy : impl_Sparse_times_g v265 v266 v267 v268 v269 = some y) : ∃ H', FnOk Try.prog 70 (DVs.av F [.agg [.int .i64 v265, .bslc (BR.root 0) (.i64 v266), .bslc (BR.root 1) (.i64 v267), .bslc (BR.root 2) (.f32 v268)], .bslc (BR.root 3) (.f32 v269)]) F.H0 ((impl_Sparse_times_enc v265 v266 v267 v268 v269 y).1.av F) H' ∧ St F (impl_Sparse_times_enc v265 v266 v267 v268 v269 y).2 H' ∧ (impl_Sparse_times_enc v265 v266 v267 v268 v269 y).1.Ok F (impl_Sparse_times_enc v265 v266 v267 v268 v269 y).2 :=
  fn_fin tok impl_Sparse_times_hO mixed Try.func70 Try.call70 (by kernel_rfl) (LoopsOk_eq (l := [(0, bodyOf Try.f70 0)]) (by kernel_rfl) ⟨impl_Sparse_times_l0_ok v265 v266 v267 v268 v269, trivial⟩) (impl_Sparse_times_den v265 v266 v267 v268 v269) hy hm h0 hA
noncomputable def impl_Sparse_times_F : DFn := fun args L =>
  match args with
  | [.agg [.int .i64 v265, a1, a2, a3], a4] =>
    optT (rowI64 L a1) fun v266 =>
    optT (rowI64 L a2) fun v267 =>
    optT (rowF32 L a3) fun v268 =>
    optT (rowF32 L a4) fun v269 =>
    .call (impl_Sparse_times_g v265 v266 v267 v268 v269) fun y => .leaf (.own (L.length + 0) 0 ((y).length), L ++ [.row (.f32 y) 0])
  | _ => .fail
theorem impl_Sparse_times_Fok : COk Try.prog 70 impl_Sparse_times_F true := by
  intro F L H args r L' hs ha hr
  unfold impl_Sparse_times_F at hr
  split at hr
  · rename_i v265 a1 a2 a3 a4
    obtain ⟨v266, hv266, hr⟩ := optT_run hr
    obtain ⟨v267, hv267, hr⟩ := optT_run hr
    obtain ⟨v268, hv268, hr⟩ := optT_run hr
    obtain ⟨v269, hv269, hr⟩ := optT_run hr
    simp only [Tree.run] at hr
    obtain ⟨y, hy, hr⟩ := Option.bind_eq_some_iff.1 hr
    simp only [Tree.run, Option.some.injEq, Prod.mk.injEq] at hr
    obtain ⟨rfl, rfl⟩ := hr
    exact call_ok1 hs (fun k => (([a1.av F, a2.av F, a3.av F, a4.av F] : List AV)[k]?).getD .top) [.agg [.int .i64 v265, a1, a2, a3], a4] [.agg [.int .i64 v265, .bslc (BR.root 0) (.i64 v266), .bslc (BR.root 1) (.i64 v267), .bslc (BR.root 2) (.f32 v268)], .bslc (BR.root 3) (.f32 v269)] (fun F' h0 hi hρ => ⟨by simp [DVs.av, DV.av, BR.av, hρ], impl_Sparse_times_fn v265 v266 v267 v268 v269 F' (by rw [hi]; rfl) (st_nil hi) ⟨⟨trivial, bslc_ok hi (by rw [h0, hρ]; exact rowI64_ok hs (DVs.okAt (DVs.okAt ha 0 rfl) 1 rfl) hv266), bslc_ok hi (by rw [h0, hρ]; exact rowI64_ok hs (DVs.okAt (DVs.okAt ha 0 rfl) 2 rfl) hv267), bslc_ok hi (by rw [h0, hρ]; exact rowF32_ok hs (DVs.okAt (DVs.okAt ha 0 rfl) 3 rfl) hv268), trivial⟩, bslc_ok hi (by rw [h0, hρ]; exact rowF32_ok hs (DVs.okAt ha 1 rfl) hv269), trivial⟩ hy⟩) rfl rfl
  · cases hr
/-! impl.allFinite -/
noncomputable def impl_allFinite_LO (v322 : List Nat) : LOr := fun id e L =>
  match id with
  | _ => .fail
noncomputable def impl_allFinite_tab : List (FuncId × DFn × Bool) := [(135, impl_areFinite_F, true)]
theorem impl_allFinite_hO : OrcOk Try.prog (tabD impl_allFinite_tab) (tabM impl_allFinite_tab) := tabD_cons impl_areFinite_Fok (tabD_nil _)
noncomputable def impl_allFinite_T (v322 : List Nat) : Tree ((Unit) ⊕ (Unit)) :=
  (.call (impl_areFinite_g v322) fun v323 =>
  (.br (!v323) (
   .leaf (.inl ())
  ) (
   .leaf (.inr ())
  )))

noncomputable def impl_allFinite_g (v322 : List Nat) : Option ((Unit) ⊕ (Unit)) := (impl_allFinite_T v322).run
def impl_allFinite_enc (v322 : List Nat) (y : (Unit) ⊕ (Unit)) : Rs := (match y with | .inl y => (.tup [.nilslc, .lit false], []) | .inr y => (.tup [.bslc (BR.root 0) (.f32 v322), .lit true], []))
theorem impl_allFinite_den (v322 : List Nat) : (den TT (tabD impl_allFinite_tab) (tabM impl_allFinite_tab) (impl_allFinite_LO v322) (codeOf Try.f69) ([.bslc (BR.root 0) (.f32 v322)] ++ List.replicate (Try.f69.ntmps - ([.bslc (BR.root 0) (.f32 v322)] : List DV).length) .undef) []).bind (retD TT Try.f69.results.toList 0) = (impl_allFinite_T v322).bind fun y => .leaf (impl_allFinite_enc v322 y) := by kernel_rfl
theorem impl_allFinite_fn (v322 : List Nat) (F : Fr) (hm : F.ids.length = 0) (h0 : St F [] F.H0) (hA : DVs.Ok F [] [.bslc (BR.root 0) (.f32 v322)]) {y : (Unit) ⊕ (Unit)} (hy : impl_allFinite_g v322 = some y) : ∃ H', FnOk Try.prog 69 (DVs.av F [.bslc (BR.root 0) (.f32 v322)]) F.H0 ((impl_allFinite_enc v322 y).1.av F) H' ∧ St F (impl_allFinite_enc v322 y).2 H' ∧ (impl_allFinite_enc v322 y).1.Ok F (impl_allFinite_enc v322 y).2 :=
  fn_fin tok impl_allFinite_hO mixed Try.func69 Try.call69 (by kernel_rfl) (LoopsOk_eq (l := []) (by kernel_rfl) trivial) (impl_allFinite_den v322) hy hm h0 hA
noncomputable def impl_allFinite_F : DFn := fun args L =>
  match args with
  | [a1] =>
    optT (rowF32 L a1) fun v322 =>
    .call (impl_allFinite_g v322) fun y => .sum y (fun y0 => .leaf (.tup [.nilslc, .lit false], L)) (fun z0 => .leaf (.tup [a1, .lit true], L))
  | _ => .fail
theorem impl_allFinite_Fok : COk Try.prog 69 impl_allFinite_F true := by
  intro F L H args r L' hs ha hr
  unfold impl_allFinite_F at hr
  split at hr
  · rename_i a1
    obtain ⟨v322, hv322, hr⟩ := optT_run hr
    simp only [Tree.run] at hr
    obtain ⟨y, hy, hr⟩ := Option.bind_eq_some_iff.1 hr
    cases y with
    | inl y =>
      simp only [Tree.run, Option.some.injEq, Prod.mk.injEq] at hr
      obtain ⟨rfl, rfl⟩ := hr
      exact call_ok0 hs (fun k => (([a1.av F] : List AV)[k]?).getD .top) [a1] [.bslc (BR.root 0) (.f32 v322)] (fun F' h0 hi hρ => ⟨by simp [DVs.av, DV.av, BR.av, hρ], impl_allFinite_fn v322 F' (by rw [hi]; rfl) (st_nil hi) ⟨bslc_ok hi (by rw [h0, hρ]; exact rowF32_ok hs (DVs.okAt ha 0 rfl) hv322), trivial⟩ hy⟩) rfl
    | inr y =>
      simp only [Tree.run, Option.some.injEq, Prod.mk.injEq] at hr
      obtain ⟨rfl, rfl⟩ := hr
      exact call_al0 hs (fun k => (([a1.av F] : List AV)[k]?).getD .top) [a1] [.bslc (BR.root 0) (.f32 v322)] (fun F' h0 hi hρ => ⟨by simp [DVs.av, DV.av, BR.av, hρ], impl_allFinite_fn v322 F' (by rw [hi]; rfl) (st_nil hi) ⟨bslc_ok hi (by rw [h0, hρ]; exact rowF32_ok hs (DVs.okAt ha 0 rfl) hv322), trivial⟩ hy⟩) (fun F' h0 hi hρ => by simp [impl_allFinite_enc, DVs.av, DV.av, BR.av, hρ]) ⟨(DVs.okAt ha 0 rfl), trivial, trivial⟩
  · cases hr
/-! impl.SparseTimes -/
noncomputable def impl_SparseTimes_LO (v158 : Int) (v159 : List Int) (v160 : List Int) (v161 : List Nat) (v162 : List Nat) : LOr := fun id e L =>
  match id with
  | _ => .fail
noncomputable def impl_SparseTimes_tab : List (FuncId × DFn × Bool) := [(68, impl_Sparse_takes_F, true), (70, impl_Sparse_times_F, true), (69, impl_allFinite_F, true)]
theorem impl_SparseTimes_hO : OrcOk Try.prog (tabD impl_SparseTimes_tab) (tabM impl_SparseTimes_tab) := tabD_cons impl_Sparse_takes_Fok (tabD_cons impl_Sparse_times_Fok (tabD_cons impl_allFinite_Fok (tabD_nil _)))
noncomputable def impl_SparseTimes_T (v158 : Int) (v159 : List Int) (v160 : List Int) (v161 : List Nat) (v162 : List Nat) : Tree ((Unit) ⊕ ((List Nat))) :=
  (.call (impl_Sparse_takes_g v158 v159 v160 v161 v162) fun v264 =>
  (.br (!v264) (
   .leaf (.inl ())
  ) (
   (.call (impl_Sparse_times_g v158 v159 v160 v161 v162) fun v321 =>
   (.call (impl_allFinite_g v321) fun v324 =>
   (.sum v324 (fun v325 =>
    .leaf (.inl ())
   ) (fun v326 =>
    .leaf (.inr v321)
   ))))
  )))

noncomputable def impl_SparseTimes_g (v158 : Int) (v159 : List Int) (v160 : List Int) (v161 : List Nat) (v162 : List Nat) : Option ((Unit) ⊕ ((List Nat))) := (impl_SparseTimes_T v158 v159 v160 v161 v162).run
def impl_SparseTimes_enc (v158 : Int) (v159 : List Int) (v160 : List Int) (v161 : List Nat) (v162 : List Nat) (y : (Unit) ⊕ ((List Nat))) : Rs := (match y with | .inl y => (.tup [.nilslc, .lit false], []) | .inr y => (.tup [.own 0 0 ((y).length), .lit true], [.row (.f32 y) 0]))
theorem impl_SparseTimes_den (v158 : Int) (v159 : List Int) (v160 : List Int) (v161 : List Nat) (v162 : List Nat) : (den TT (tabD impl_SparseTimes_tab) (tabM impl_SparseTimes_tab) (impl_SparseTimes_LO v158 v159 v160 v161 v162) (codeOf Try.f19) ([.agg [.int .i64 v158, .bslc (BR.root 0) (.i64 v159), .bslc (BR.root 1) (.i64 v160), .bslc (BR.root 2) (.f32 v161)], .bslc (BR.root 3) (.f32 v162)] ++ List.replicate (Try.f19.ntmps - ([.agg [.int .i64 v158, .bslc (BR.root 0) (.i64 v159), .bslc (BR.root 1) (.i64 v160), .bslc (BR.root 2) (.f32 v161)], .bslc (BR.root 3) (.f32 v162)] : List DV).length) .undef) []).bind (retD TT Try.f19.results.toList 0) = (impl_SparseTimes_T v158 v159 v160 v161 v162).bind fun y => .leaf (impl_SparseTimes_enc v158 v159 v160 v161 v162 y) := by kernel_rfl
theorem impl_SparseTimes_fn (v158 : Int) (v159 : List Int) (v160 : List Int) (v161 : List Nat) (v162 : List Nat) (F : Fr) (hm : F.ids.length = 0) (h0 : St F [] F.H0) (hA : DVs.Ok F [] [.agg [.int .i64 v158, .bslc (BR.root 0) (.i64 v159), .bslc (BR.root 1) (.i64 v160), .bslc (BR.root 2) (.f32 v161)], .bslc (BR.root 3) (.f32 v162)]) {y : (Unit) ⊕ ((List Nat))} (hy : impl_SparseTimes_g v158 v159 v160 v161 v162 = some y) : ∃ H', FnOk Try.prog 19 (DVs.av F [.agg [.int .i64 v158, .bslc (BR.root 0) (.i64 v159), .bslc (BR.root 1) (.i64 v160), .bslc (BR.root 2) (.f32 v161)], .bslc (BR.root 3) (.f32 v162)]) F.H0 ((impl_SparseTimes_enc v158 v159 v160 v161 v162 y).1.av F) H' ∧ St F (impl_SparseTimes_enc v158 v159 v160 v161 v162 y).2 H' ∧ (impl_SparseTimes_enc v158 v159 v160 v161 v162 y).1.Ok F (impl_SparseTimes_enc v158 v159 v160 v161 v162 y).2 :=
  fn_fin tok impl_SparseTimes_hO mixed Try.func19 Try.call19 (by kernel_rfl) (LoopsOk_eq (l := []) (by kernel_rfl) trivial) (impl_SparseTimes_den v158 v159 v160 v161 v162) hy hm h0 hA
noncomputable def impl_SparseTimes_F : DFn := fun args L =>
  match args with
  | [.agg [.int .i64 v158, a1, a2, a3], a4] =>
    optT (rowI64 L a1) fun v159 =>
    optT (rowI64 L a2) fun v160 =>
    optT (rowF32 L a3) fun v161 =>
    optT (rowF32 L a4) fun v162 =>
    .call (impl_SparseTimes_g v158 v159 v160 v161 v162) fun y => .sum y (fun y0 => .leaf (.tup [.nilslc, .lit false], L)) (fun z0 => .leaf (.tup [.own (L.length + 0) 0 ((z0).length), .lit true], L ++ [.row (.f32 z0) 0]))
  | _ => .fail
theorem impl_SparseTimes_Fok : COk Try.prog 19 impl_SparseTimes_F true := by
  intro F L H args r L' hs ha hr
  unfold impl_SparseTimes_F at hr
  split at hr
  · rename_i v158 a1 a2 a3 a4
    obtain ⟨v159, hv159, hr⟩ := optT_run hr
    obtain ⟨v160, hv160, hr⟩ := optT_run hr
    obtain ⟨v161, hv161, hr⟩ := optT_run hr
    obtain ⟨v162, hv162, hr⟩ := optT_run hr
    simp only [Tree.run] at hr
    obtain ⟨y, hy, hr⟩ := Option.bind_eq_some_iff.1 hr
    cases y with
    | inl y =>
      simp only [Tree.run, Option.some.injEq, Prod.mk.injEq] at hr
      obtain ⟨rfl, rfl⟩ := hr
      exact call_ok0 hs (fun k => (([a1.av F, a2.av F, a3.av F, a4.av F] : List AV)[k]?).getD .top) [.agg [.int .i64 v158, a1, a2, a3], a4] [.agg [.int .i64 v158, .bslc (BR.root 0) (.i64 v159), .bslc (BR.root 1) (.i64 v160), .bslc (BR.root 2) (.f32 v161)], .bslc (BR.root 3) (.f32 v162)] (fun F' h0 hi hρ => ⟨by simp [DVs.av, DV.av, BR.av, hρ], impl_SparseTimes_fn v158 v159 v160 v161 v162 F' (by rw [hi]; rfl) (st_nil hi) ⟨⟨trivial, bslc_ok hi (by rw [h0, hρ]; exact rowI64_ok hs (DVs.okAt (DVs.okAt ha 0 rfl) 1 rfl) hv159), bslc_ok hi (by rw [h0, hρ]; exact rowI64_ok hs (DVs.okAt (DVs.okAt ha 0 rfl) 2 rfl) hv160), bslc_ok hi (by rw [h0, hρ]; exact rowF32_ok hs (DVs.okAt (DVs.okAt ha 0 rfl) 3 rfl) hv161), trivial⟩, bslc_ok hi (by rw [h0, hρ]; exact rowF32_ok hs (DVs.okAt ha 1 rfl) hv162), trivial⟩ hy⟩) rfl
    | inr y =>
      simp only [Tree.run, Option.some.injEq, Prod.mk.injEq] at hr
      obtain ⟨rfl, rfl⟩ := hr
      exact call_ok1 hs (fun k => (([a1.av F, a2.av F, a3.av F, a4.av F] : List AV)[k]?).getD .top) [.agg [.int .i64 v158, a1, a2, a3], a4] [.agg [.int .i64 v158, .bslc (BR.root 0) (.i64 v159), .bslc (BR.root 1) (.i64 v160), .bslc (BR.root 2) (.f32 v161)], .bslc (BR.root 3) (.f32 v162)] (fun F' h0 hi hρ => ⟨by simp [DVs.av, DV.av, BR.av, hρ], impl_SparseTimes_fn v158 v159 v160 v161 v162 F' (by rw [hi]; rfl) (st_nil hi) ⟨⟨trivial, bslc_ok hi (by rw [h0, hρ]; exact rowI64_ok hs (DVs.okAt (DVs.okAt ha 0 rfl) 1 rfl) hv159), bslc_ok hi (by rw [h0, hρ]; exact rowI64_ok hs (DVs.okAt (DVs.okAt ha 0 rfl) 2 rfl) hv160), bslc_ok hi (by rw [h0, hρ]; exact rowF32_ok hs (DVs.okAt (DVs.okAt ha 0 rfl) 3 rfl) hv161), trivial⟩, bslc_ok hi (by rw [h0, hρ]; exact rowF32_ok hs (DVs.okAt ha 1 rfl) hv162), trivial⟩ hy⟩) rfl rfl
  · cases hr
/-! laws.sameFloat -/
noncomputable def laws_sameFloat_LO (v333 : Nat) (v334 : Nat) : LOr := fun id e L =>
  match id with
  | _ => .fail
noncomputable def laws_sameFloat_tab : List (FuncId × DFn × Bool) := []
theorem laws_sameFloat_hO : OrcOk Try.prog (tabD laws_sameFloat_tab) (tabM laws_sameFloat_tab) := tabD_nil _
noncomputable def laws_sameFloat_T (v333 : Nat) (v334 : Nat) : Tree (Bool) :=
  (.br (!feq .f64 v333 v333) (
   (.br (!feq .f64 v333 v333) (
    .leaf (!feq .f64 v334 v334)
   ) (
    .leaf false
   ))
  ) (
   (.br (!feq .f64 v334 v334) (
    (.br (!feq .f64 v333 v333) (
     .leaf (!feq .f64 v334 v334)
    ) (
     .leaf false
    ))
   ) (
    (.br (feq .f64 v333 (0 : Nat)) (
     (.br (feq .f64 v334 (0 : Nat)) (
      .leaf ((fgrt .f64 (fdiv .f64 (4607182418800017408 : Nat) v333) (0 : Nat)) == (fgrt .f64 (fdiv .f64 (4607182418800017408 : Nat) v334) (0 : Nat)))
     ) (
      .leaf (feq .f64 v333 v334)
     ))
    ) (
     .leaf (feq .f64 v333 v334)
    ))
   ))
  ))

noncomputable def laws_sameFloat_g (v333 : Nat) (v334 : Nat) : Option (Bool) := (laws_sameFloat_T v333 v334).run
def laws_sameFloat_enc (v333 : Nat) (v334 : Nat) (y : Bool) : Rs := (.bool y, [])
theorem laws_sameFloat_den (v333 : Nat) (v334 : Nat) : (den TT (tabD laws_sameFloat_tab) (tabM laws_sameFloat_tab) (laws_sameFloat_LO v333 v334) (codeOf Try.f53) ([.flt .f64 v333, .flt .f64 v334] ++ List.replicate (Try.f53.ntmps - ([.flt .f64 v333, .flt .f64 v334] : List DV).length) .undef) []).bind (retD TT Try.f53.results.toList 0) = (laws_sameFloat_T v333 v334).bind fun y => .leaf (laws_sameFloat_enc v333 v334 y) := by kernel_rfl
theorem laws_sameFloat_fn (v333 : Nat) (v334 : Nat) (F : Fr) (hm : F.ids.length = 0) (h0 : St F [] F.H0) (hA : DVs.Ok F [] [.flt .f64 v333, .flt .f64 v334]) {y : Bool} (hy : laws_sameFloat_g v333 v334 = some y) : ∃ H', FnOk Try.prog 53 (DVs.av F [.flt .f64 v333, .flt .f64 v334]) F.H0 ((laws_sameFloat_enc v333 v334 y).1.av F) H' ∧ St F (laws_sameFloat_enc v333 v334 y).2 H' ∧ (laws_sameFloat_enc v333 v334 y).1.Ok F (laws_sameFloat_enc v333 v334 y).2 :=
  fn_fin tok laws_sameFloat_hO mixed Try.func53 Try.call53 (by kernel_rfl) (LoopsOk_eq (l := []) (by kernel_rfl) trivial) (laws_sameFloat_den v333 v334) hy hm h0 hA
def laws_sameFloat_v (v333 : Nat) (v334 : Nat) : Bool :=
  if (!feq .f64 v333 v333) = true then (
   if (!feq .f64 v333 v333) = true then (
    !feq .f64 v334 v334
   ) else (
    false
   )
  ) else (
   if (!feq .f64 v334 v334) = true then (
    if (!feq .f64 v333 v333) = true then (
     !feq .f64 v334 v334
    ) else (
     false
    )
   ) else (
    if (feq .f64 v333 (0 : Nat)) = true then (
     if (feq .f64 v334 (0 : Nat)) = true then (
      (fgrt .f64 (fdiv .f64 (4607182418800017408 : Nat) v333) (0 : Nat)) == (fgrt .f64 (fdiv .f64 (4607182418800017408 : Nat) v334) (0 : Nat))
     ) else (
      feq .f64 v333 v334
     )
    ) else (
     feq .f64 v333 v334
    )
   )
  )
theorem laws_sameFloat_tot (v333 : Nat) (v334 : Nat) : laws_sameFloat_g v333 v334 = some (laws_sameFloat_v v333 v334) := by
  unfold laws_sameFloat_g laws_sameFloat_T laws_sameFloat_v
  simp only [Tree.run]
  repeat' (first | rfl | split)
noncomputable def laws_sameFloat_F : DFn := fun args L =>
  match args with
  | [.flt .f64 v333, .flt .f64 v334] =>
    .leaf (.bool (laws_sameFloat_v v333 v334), L)
  | _ => .fail
theorem laws_sameFloat_Fok : COk Try.prog 53 laws_sameFloat_F true := by
  intro F L H args r L' hs ha hr
  unfold laws_sameFloat_F at hr
  split at hr
  · rename_i v333 v334
    have hy := laws_sameFloat_tot v333 v334
    generalize laws_sameFloat_v v333 v334 = y at hy hr
    simp only [Tree.run, Option.some.injEq, Prod.mk.injEq] at hr
    obtain ⟨rfl, rfl⟩ := hr
    exact call_ok0 hs (fun k => (([] : List AV)[k]?).getD .top) [.flt .f64 v333, .flt .f64 v334] [.flt .f64 v333, .flt .f64 v334] (fun F' h0 hi hρ => ⟨by simp [DVs.av, DV.av, BR.av, hρ], laws_sameFloat_fn v333 v334 F' (by rw [hi]; rfl) (st_nil hi) ⟨trivial, trivial, trivial⟩ hy⟩) rfl
  · cases hr
/-! laws.eqFloat32S -/
noncomputable def laws_eqFloat32S_l0_T (v330 : List Nat) (v331 : List Nat) (s : Int) : Tree ((Int) ⊕ ((Unit) ⊕ (Unit))) :=
  (.br (decide (s < ((v330.length : Nat) : Int))) (
   (.grd (inb s v330.length) <|
   (.grd (inb s v331.length) <|
   (.br (!(laws_sameFloat_v (wid (nth v330 (Int.toNat s))) (wid (nth v331 (Int.toNat s))))) (
    .leaf (.inr (.inl ()))
   ) (
    .leaf (.inl (IntKind.i64.wrap (s + (1 : Int))))
   ))))
  ) (
   .leaf (.inr (.inr ()))
  ))

noncomputable def laws_eqFloat32S_l0_g (v330 : List Nat) (v331 : List Nat) (s0 : Int) : Option ((Unit) ⊕ (Unit)) := whileM (fun s => (laws_eqFloat32S_l0_T v330 v331 s).run) s0
def laws_eqFloat32S_l0_E (v330 : List Nat) (v331 : List Nat) (s : Int) : Sd := ([.bslc (BR.root 0) (.f32 v330), .bslc (BR.root 1) (.f32 v331), .top, .top, .top, .int .i64 s, .top, .top, .top, .top, .top, .top, .top, .top, .top, .top, .top, .top, .top, .top, .top, .top, .top, .top, .top, .top, .top, .top, .top], [])
def laws_eqFloat32S_l0_X (v330 : List Nat) (v331 : List Nat) (x : (Unit) ⊕ (Unit)) : Out := (match x with | .inl x => (.ret, [.top, .top, .top, .top, .lit false, .top, .top, .top, .top, .top, .top, .top, .top, .top, .top, .top, .top, .top, .top, .top, .top, .top, .top, .top, .top, .top, .top, .top, .top], []) | .inr x => (.normal, [.top, .top, .top, .top, .top, .top, .top, .top, .top, .top, .top, .top, .top, .top, .top, .top, .top, .top, .top, .top, .top, .top, .top, .top, .top, .top, .top, .top, .top], []))
def laws_eqFloat32S_l0_kill : List Nat := [0, 0, 1, 1, 1, 0, 1, 1, 1, 1, 1, 1, 1, 1, 1, 1, 1, 1, 1, 1, 1, 1, 1, 1, 1, 1, 1, 1, 1]
def laws_eqFloat32S_l0_nx : Exit → List Nat
  | .exit 0 => [1, 1, 1, 1, 1, 1, 1, 1, 1, 1, 1, 1, 1, 1, 1, 1, 1, 1, 1, 1, 1, 1, 1, 1, 1, 1, 1, 1, 1]
  | .ret => [1, 1, 1, 1, 0, 1, 1, 1, 1, 1, 1, 1, 1, 1, 1, 1, 1, 1, 1, 1, 1, 1, 1, 1, 1, 1, 1, 1, 1]
  | _ => []
noncomputable def laws_eqFloat32S_LO (v330 : List Nat) (v331 : List Nat) : LOr := fun id e L =>
  match id with
  | 0 => .need (normA 0 laws_eqFloat32S_l0_kill e L = some (laws_eqFloat32S_l0_E v330 v331 (gI (vAt e 5)))) (.call (laws_eqFloat32S_l0_g v330 v331 (gI (vAt e 5))) fun x => .sum x (fun b0 => .leaf (laws_eqFloat32S_l0_X v330 v331 (.inl b0))) (fun c0 => .leaf (laws_eqFloat32S_l0_X v330 v331 (.inr c0))))
  | _ => .fail
noncomputable def laws_eqFloat32S_tab : List (FuncId × DFn × Bool) := [(53, laws_sameFloat_F, true)]
theorem laws_eqFloat32S_hO : OrcOk Try.prog (tabD laws_eqFloat32S_tab) (tabM laws_eqFloat32S_tab) := tabD_cons laws_sameFloat_Fok (tabD_nil _)
theorem laws_eqFloat32S_l0_be (v330 : List Nat) (v331 : List Nat) (s : Int) : bodyT TT (tabD laws_eqFloat32S_tab) (tabM laws_eqFloat32S_tab) (laws_eqFloat32S_LO v330 v331) 0 laws_eqFloat32S_l0_kill laws_eqFloat32S_l0_nx (bodyOf Try.f20 0) 0 (laws_eqFloat32S_l0_E v330 v331 s) = (laws_eqFloat32S_l0_T v330 v331 s).bind fun y => .leaf (outS (laws_eqFloat32S_l0_E v330 v331) (laws_eqFloat32S_l0_X v330 v331) y) := by kernel_rfl
theorem laws_eqFloat32S_l0_ok (v330 : List Nat) (v331 : List Nat) : LSound Try.prog 0 (laws_eqFloat32S_LO v330 v331) 0 (bodyOf Try.f20 0) := by
  intro e L out h
  exact lo_ok (E := laws_eqFloat32S_l0_E v330 v331) (gT := laws_eqFloat32S_l0_T v330 v331) (X := laws_eqFloat32S_l0_X v330 v331) (s0 := (gI (vAt e 5))) tok laws_eqFloat32S_hO mixed (LoopsOk_eq (l := []) (by kernel_rfl) trivial) (laws_eqFloat32S_l0_be v330 v331) rfl (by intro x; (cases x with | inl b => rfl | inr x => exact rfl)) h
noncomputable def laws_eqFloat32S_T (v330 : List Nat) (v331 : List Nat) : Tree (Bool) :=
  (.br (!decide (((v330.length : Nat) : Int) = ((v331.length : Nat) : Int))) (
   .leaf false
  ) (
   (.need (some (laws_eqFloat32S_l0_E v330 v331 (0 : Int)) = some (laws_eqFloat32S_l0_E v330 v331 (0 : Int))) <|
   (.call (laws_eqFloat32S_l0_g v330 v331 (0 : Int)) fun v337 =>
   (.sum v337 (fun v338 =>
    .leaf false
   ) (fun v339 =>
    .leaf true
   ))))
  ))

noncomputable def laws_eqFloat32S_g (v330 : List Nat) (v331 : List Nat) : Option (Bool) := (laws_eqFloat32S_T v330 v331).run
def laws_eqFloat32S_enc (v330 : List Nat) (v331 : List Nat) (y : Bool) : Rs := (.bool y, [])
theorem laws_eqFloat32S_den (v330 : List Nat) (v331 : List Nat) : (den TT (tabD laws_eqFloat32S_tab) (tabM laws_eqFloat32S_tab) (laws_eqFloat32S_LO v330 v331) (codeOf Try.f20) ([.bslc (BR.root 0) (.f32 v330), .bslc (BR.root 1) (.f32 v331)] ++ List.replicate (Try.f20.ntmps - ([.bslc (BR.root 0) (.f32 v330), .bslc (BR.root 1) (.f32 v331)] : List DV).length) .undef) []).bind (retD TT Try.f20.results.toList 0) = (laws_eqFloat32S_T v330 v331).bind fun y => .leaf (laws_eqFloat32S_enc v330 v331 y) := by kernel_rfl
theorem laws_eqFloat32S_fn (v330 : List Nat) (v331 : List Nat) (F : Fr) (hm : F.ids.length = 0) (h0 : St F [] F.H0) (hA : DVs.Ok F [] [.bslc (BR.root 0) (.f32 v330), .bslc (BR.root 1) (.f32 v331)]) {y : Bool} (hy : laws_eqFloat32S_g v330 v331 = some y) : ∃ H', FnOk Try.prog 20 (DVs.av F [.bslc (BR.root 0) (.f32 v330), .bslc (BR.root 1) (.f32 v331)]) F.H0 ((laws_eqFloat32S_enc v330 v331 y).1.av F) H' ∧ St F (laws_eqFloat32S_enc v330 v331 y).2 H' ∧ (laws_eqFloat32S_enc v330 v331 y).1.Ok F (laws_eqFloat32S_enc v330 v331 y).2 :=
  fn_fin tok laws_eqFloat32S_hO mixed Try.func20 Try.call20 (by kernel_rfl) (LoopsOk_eq (l := [(0, bodyOf Try.f20 0)]) (by kernel_rfl) ⟨laws_eqFloat32S_l0_ok v330 v331, trivial⟩) (laws_eqFloat32S_den v330 v331) hy hm h0 hA
noncomputable def laws_eqFloat32S_F : DFn := fun args L =>
  match args with
  | [a1, a2] =>
    optT (rowF32 L a1) fun v330 =>
    optT (rowF32 L a2) fun v331 =>
    .call (laws_eqFloat32S_g v330 v331) fun y => .leaf (.bool y, L)
  | _ => .fail
theorem laws_eqFloat32S_Fok : COk Try.prog 20 laws_eqFloat32S_F true := by
  intro F L H args r L' hs ha hr
  unfold laws_eqFloat32S_F at hr
  split at hr
  · rename_i a1 a2
    obtain ⟨v330, hv330, hr⟩ := optT_run hr
    obtain ⟨v331, hv331, hr⟩ := optT_run hr
    simp only [Tree.run] at hr
    obtain ⟨y, hy, hr⟩ := Option.bind_eq_some_iff.1 hr
    simp only [Tree.run, Option.some.injEq, Prod.mk.injEq] at hr
    obtain ⟨rfl, rfl⟩ := hr
    exact call_ok0 hs (fun k => (([a1.av F, a2.av F] : List AV)[k]?).getD .top) [a1, a2] [.bslc (BR.root 0) (.f32 v330), .bslc (BR.root 1) (.f32 v331)] (fun F' h0 hi hρ => ⟨by simp [DVs.av, DV.av, BR.av, hρ], laws_eqFloat32S_fn v330 v331 F' (by rw [hi]; rfl) (st_nil hi) ⟨bslc_ok hi (by rw [h0, hρ]; exact rowF32_ok hs (DVs.okAt ha 0 rfl) hv330), bslc_ok hi (by rw [h0, hρ]; exact rowF32_ok hs (DVs.okAt ha 1 rfl) hv331), trivial⟩ hy⟩) rfl
  · cases hr
/-! laws.eqInt64S -/
noncomputable def laws_eqInt64S_l0_T (v350 : List Int) (v351 : List Int) (s : Int) : Tree ((Int) ⊕ ((Unit) ⊕ (Unit))) :=
  (.br (decide (s < ((v350.length : Nat) : Int))) (
   (.grd (inb s v350.length) <|
   (.grd (inb s v351.length) <|
   (.br (!decide (nth v350 (Int.toNat s) = nth v351 (Int.toNat s))) (
    .leaf (.inr (.inl ()))
   ) (
    .leaf (.inl (IntKind.i64.wrap (s + (1 : Int))))
   ))))
  ) (
   .leaf (.inr (.inr ()))
  ))

noncomputable def laws_eqInt64S_l0_g (v350 : List Int) (v351 : List Int) (s0 : Int) : Option ((Unit) ⊕ (Unit)) := whileM (fun s => (laws_eqInt64S_l0_T v350 v351 s).run) s0
def laws_eqInt64S_l0_E (v350 : List Int) (v351 : List Int) (s : Int) : Sd := ([.bslc (BR.root 0) (.i64 v350), .bslc (BR.root 1) (.i64 v351), .top, .top, .top, .int .i64 s, .top, .top, .top, .top, .top, .top, .top, .top, .top, .top, .top, .top, .top, .top, .top, .top, .top, .top, .top, .top], [])
def laws_eqInt64S_l0_X (v350 : List Int) (v351 : List Int) (x : (Unit) ⊕ (Unit)) : Out := (match x with | .inl x => (.ret, [.top, .top, .top, .top, .lit false, .top, .top, .top, .top, .top, .top, .top, .top, .top, .top, .top, .top, .top, .top, .top, .top, .top, .top, .top, .top, .top], []) | .inr x => (.normal, [.top, .top, .top, .top, .top, .top, .top, .top, .top, .top, .top, .top, .top, .top, .top, .top, .top, .top, .top, .top, .top, .top, .top, .top, .top, .top], []))
def laws_eqInt64S_l0_kill : List Nat := [0, 0, 1, 1, 1, 0, 1, 1, 1, 1, 1, 1, 1, 1, 1, 1, 1, 1, 1, 1, 1, 1, 1, 1, 1, 1]
def laws_eqInt64S_l0_nx : Exit → List Nat
  | .exit 0 => [1, 1, 1, 1, 1, 1, 1, 1, 1, 1, 1, 1, 1, 1, 1, 1, 1, 1, 1, 1, 1, 1, 1, 1, 1, 1]
  | .ret => [1, 1, 1, 1, 0, 1, 1, 1, 1, 1, 1, 1, 1, 1, 1, 1, 1, 1, 1, 1, 1, 1, 1, 1, 1, 1]
  | _ => []
noncomputable def laws_eqInt64S_LO (v350 : List Int) (v351 : List Int) : LOr := fun id e L =>
  match id with
  | 0 => .need (normA 0 laws_eqInt64S_l0_kill e L = some (laws_eqInt64S_l0_E v350 v351 (gI (vAt e 5)))) (.call (laws_eqInt64S_l0_g v350 v351 (gI (vAt e 5))) fun x => .sum x (fun b0 => .leaf (laws_eqInt64S_l0_X v350 v351 (.inl b0))) (fun c0 => .leaf (laws_eqInt64S_l0_X v350 v351 (.inr c0))))
  | _ => .fail
noncomputable def laws_eqInt64S_tab : List (FuncId × DFn × Bool) := []
theorem laws_eqInt64S_hO : OrcOk Try.prog (tabD laws_eqInt64S_tab) (tabM laws_eqInt64S_tab) := tabD_nil _
theorem laws_eqInt64S_l0_be (v350 : List Int) (v351 : List Int) (s : Int) : bodyT TT (tabD laws_eqInt64S_tab) (tabM laws_eqInt64S_tab) (laws_eqInt64S_LO v350 v351) 0 laws_eqInt64S_l0_kill laws_eqInt64S_l0_nx (bodyOf Try.f44 0) 0 (laws_eqInt64S_l0_E v350 v351 s) = (laws_eqInt64S_l0_T v350 v351 s).bind fun y => .leaf (outS (laws_eqInt64S_l0_E v350 v351) (laws_eqInt64S_l0_X v350 v351) y) := by kernel_rfl
theorem laws_eqInt64S_l0_ok (v350 : List Int) (v351 : List Int) : LSound Try.prog 0 (laws_eqInt64S_LO v350 v351) 0 (bodyOf Try.f44 0) := by
  intro e L out h
  exact lo_ok (E := laws_eqInt64S_l0_E v350 v351) (gT := laws_eqInt64S_l0_T v350 v351) (X := laws_eqInt64S_l0_X v350 v351) (s0 := (gI (vAt e 5))) tok laws_eqInt64S_hO mixed (LoopsOk_eq (l := []) (by kernel_rfl) trivial) (laws_eqInt64S_l0_be v350 v351) rfl (by intro x; (cases x with | inl b => rfl | inr x => exact rfl)) h
noncomputable def laws_eqInt64S_T (v350 : List Int) (v351 : List Int) : Tree (Bool) :=
  (.br (!decide (((v350.length : Nat) : Int) = ((v351.length : Nat) : Int))) (
   .leaf false
  ) (
   (.need (some (laws_eqInt64S_l0_E v350 v351 (0 : Int)) = some (laws_eqInt64S_l0_E v350 v351 (0 : Int))) <|
   (.call (laws_eqInt64S_l0_g v350 v351 (0 : Int)) fun v355 =>
   (.sum v355 (fun v356 =>
    .leaf false
   ) (fun v357 =>
    .leaf true
   ))))
  ))

noncomputable def laws_eqInt64S_g (v350 : List Int) (v351 : List Int) : Option (Bool) := (laws_eqInt64S_T v350 v351).run
def laws_eqInt64S_enc (v350 : List Int) (v351 : List Int) (y : Bool) : Rs := (.bool y, [])
theorem laws_eqInt64S_den (v350 : List Int) (v351 : List Int) : (den TT (tabD laws_eqInt64S_tab) (tabM laws_eqInt64S_tab) (laws_eqInt64S_LO v350 v351) (codeOf Try.f44) ([.bslc (BR.root 0) (.i64 v350), .bslc (BR.root 1) (.i64 v351)] ++ List.replicate (Try.f44.ntmps - ([.bslc (BR.root 0) (.i64 v350), .bslc (BR.root 1) (.i64 v351)] : List DV).length) .undef) []).bind (retD TT Try.f44.results.toList 0) = (laws_eqInt64S_T v350 v351).bind fun y => .leaf (laws_eqInt64S_enc v350 v351 y) := by kernel_rfl
theorem laws_eqInt64S_fn (v350 : List Int) (v351 : List Int) (F : Fr) (hm : F.ids.length = 0) (h0 : St F [] F.H0) (hA : DVs.Ok F [] [.bslc (BR.root 0) (.i64 v350), .bslc (BR.root 1) (.i64 v351)]) {y : Bool} (hy : laws_eqInt64S_g v350 v351 = some y) : ∃ H', FnOk Try.prog 44 (DVs.av F [.bslc (BR.root 0) (.i64 v350), .bslc (BR.root 1) (.i64 v351)]) F.H0 ((laws_eqInt64S_enc v350 v351 y).1.av F) H' ∧ St F (laws_eqInt64S_enc v350 v351 y).2 H' ∧ (laws_eqInt64S_enc v350 v351 y).1.Ok F (laws_eqInt64S_enc v350 v351 y).2 :=
  fn_fin tok laws_eqInt64S_hO mixed Try.func44 Try.call44 (by kernel_rfl) (LoopsOk_eq (l := [(0, bodyOf Try.f44 0)]) (by kernel_rfl) ⟨laws_eqInt64S_l0_ok v350 v351, trivial⟩) (laws_eqInt64S_den v350 v351) hy hm h0 hA
noncomputable def laws_eqInt64S_F : DFn := fun args L =>
  match args with
  | [a1, a2] =>
    optT (rowI64 L a1) fun v350 =>
    optT (rowI64 L a2) fun v351 =>
    .call (laws_eqInt64S_g v350 v351) fun y => .leaf (.bool y, L)
  | _ => .fail
theorem laws_eqInt64S_Fok : COk Try.prog 44 laws_eqInt64S_F true := by
  intro F L H args r L' hs ha hr
  unfold laws_eqInt64S_F at hr
  split at hr
  · rename_i a1 a2
    obtain ⟨v350, hv350, hr⟩ := optT_run hr
    obtain ⟨v351, hv351, hr⟩ := optT_run hr
    simp only [Tree.run] at hr
    obtain ⟨y, hy, hr⟩ := Option.bind_eq_some_iff.1 hr
    simp only [Tree.run, Option.some.injEq, Prod.mk.injEq] at hr
    obtain ⟨rfl, rfl⟩ := hr
    exact call_ok0 hs (fun k => (([a1.av F, a2.av F] : List AV)[k]?).getD .top) [a1, a2] [.bslc (BR.root 0) (.i64 v350), .bslc (BR.root 1) (.i64 v351)] (fun F' h0 hi hρ => ⟨by simp [DVs.av, DV.av, BR.av, hρ], laws_eqInt64S_fn v350 v351 F' (by rw [hi]; rfl) (st_nil hi) ⟨bslc_ok hi (by rw [h0, hρ]; exact rowI64_ok hs (DVs.okAt ha 0 rfl) hv350), bslc_ok hi (by rw [h0, hρ]; exact rowI64_ok hs (DVs.okAt ha 1 rfl) hv351), trivial⟩ hy⟩) rfl
  · cases hr
/-! laws.eqSparse -/
noncomputable def laws_eqSparse_LO (v342 : Int) (v343 : List Int) (v344 : List Int) (v345 : List Nat) (v346 : Int) (v347 : List Int) (v348 : List Int) (v349 : List Nat) : LOr := fun id e L =>
  match id with
  | _ => .fail
noncomputable def laws_eqSparse_tab : List (FuncId × DFn × Bool) := [(44, laws_eqInt64S_F, true), (20, laws_eqFloat32S_F, true)]
theorem laws_eqSparse_hO : OrcOk Try.prog (tabD laws_eqSparse_tab) (tabM laws_eqSparse_tab) := tabD_cons laws_eqInt64S_Fok (tabD_cons laws_eqFloat32S_Fok (tabD_nil _))
noncomputable def laws_eqSparse_T (v342 : Int) (v343 : List Int) (v344 : List Int) (v345 : List Nat) (v346 : Int) (v347 : List Int) (v348 : List Int) (v349 : List Nat) : Tree (Bool) :=
  (.br (!decide (v342 = v346)) (
   .leaf false
  ) (
   (.call (laws_eqInt64S_g v343 v347) fun v358 =>
   (.br (!v358) (
    .leaf false
   ) (
    (.call (laws_eqInt64S_g v344 v348) fun v359 =>
    (.br (!v359) (
     .leaf false
    ) (
     (.call (laws_eqFloat32S_g v345 v349) fun v360 =>
     (.br (!v360) (
      .leaf false
     ) (
      .leaf true
     )))
    )))
   )))
  ))

noncomputable def laws_eqSparse_g (v342 : Int) (v343 : List Int) (v344 : List Int) (v345 : List Nat) (v346 : Int) (v347 : List Int) (v348 : List Int) (v349 : List Nat) : Option (Bool) := (laws_eqSparse_T v342 v343 v344 v345 v346 v347 v348 v349).run
def laws_eqSparse_enc (v342 : Int) (v343 : List Int) (v344 : List Int) (v345 : List Nat) (v346 : Int) (v347 : List Int) (v348 : List Int) (v349 : List Nat) (y : Bool) : Rs := (.bool y, [])
theorem laws_eqSparse_den (v342 : Int) (v343 : List Int) (v344 : List Int) (v345 : List Nat) (v346 : Int) (v347 : List Int) (v348 : List Int) (v349 : List Nat) : (den TT (tabD laws_eqSparse_tab) (tabM laws_eqSparse_tab) (laws_eqSparse_LO v342 v343 v344 v345 v346 v347 v348 v349) (codeOf Try.f21) ([.agg [.int .i64 v342, .bslc (BR.root 0) (.i64 v343), .bslc (BR.root 1) (.i64 v344), .bslc (BR.root 2) (.f32 v345)], .agg [.int .i64 v346, .bslc (BR.root 3) (.i64 v347), .bslc (BR.root 4) (.i64 v348), .bslc (BR.root 5) (.f32 v349)]] ++ List.replicate (Try.f21.ntmps - ([.agg [.int .i64 v342, .bslc (BR.root 0) (.i64 v343), .bslc (BR.root 1) (.i64 v344), .bslc (BR.root 2) (.f32 v345)], .agg [.int .i64 v346, .bslc (BR.root 3) (.i64 v347), .bslc (BR.root 4) (.i64 v348), .bslc (BR.root 5) (.f32 v349)]] : List DV).length) .undef) []).bind (retD TT Try.f21.results.toList 0) = (laws_eqSparse_T v342 v343 v344 v345 v346 v347 v348 v349).bind fun y => .leaf (laws_eqSparse_enc v342 v343 v344 v345 v346 v347 v348 v349 y) := by kernel_rfl
theorem laws_eqSparse_fn (v342 : Int) (v343 : List Int) (v344 : List Int) (v345 : List Nat) (v346 : Int) (v347 : List Int) (v348 : List Int) (v349 : List Nat) (F : Fr) (hm : F.ids.length = 0) (h0 : St F [] F.H0) (hA : DVs.Ok F [] [.agg [.int .i64 v342, .bslc (BR.root 0) (.i64 v343), .bslc (BR.root 1) (.i64 v344), .bslc (BR.root 2) (.f32 v345)], .agg [.int .i64 v346, .bslc (BR.root 3) (.i64 v347), .bslc (BR.root 4) (.i64 v348), .bslc (BR.root 5) (.f32 v349)]]) {y : Bool} (hy : laws_eqSparse_g v342 v343 v344 v345 v346 v347 v348 v349 = some y) : ∃ H', FnOk Try.prog 21 (DVs.av F [.agg [.int .i64 v342, .bslc (BR.root 0) (.i64 v343), .bslc (BR.root 1) (.i64 v344), .bslc (BR.root 2) (.f32 v345)], .agg [.int .i64 v346, .bslc (BR.root 3) (.i64 v347), .bslc (BR.root 4) (.i64 v348), .bslc (BR.root 5) (.f32 v349)]]) F.H0 ((laws_eqSparse_enc v342 v343 v344 v345 v346 v347 v348 v349 y).1.av F) H' ∧ St F (laws_eqSparse_enc v342 v343 v344 v345 v346 v347 v348 v349 y).2 H' ∧ (laws_eqSparse_enc v342 v343 v344 v345 v346 v347 v348 v349 y).1.Ok F (laws_eqSparse_enc v342 v343 v344 v345 v346 v347 v348 v349 y).2 :=
  fn_fin tok laws_eqSparse_hO mixed Try.func21 Try.call21 (by kernel_rfl) (LoopsOk_eq (l := []) (by kernel_rfl) trivial) (laws_eqSparse_den v342 v343 v344 v345 v346 v347 v348 v349) hy hm h0 hA
noncomputable def laws_eqSparse_F : DFn := fun args L =>
  match args with
  | [.agg [.int .i64 v342, a1, a2, a3], .agg [.int .i64 v346, a4, a5, a6]] =>
    optT (rowI64 L a1) fun v343 =>
    optT (rowI64 L a2) fun v344 =>
    optT (rowF32 L a3) fun v345 =>
    optT (rowI64 L a4) fun v347 =>
    optT (rowI64 L a5) fun v348 =>
    optT (rowF32 L a6) fun v349 =>
    .call (laws_eqSparse_g v342 v343 v344 v345 v346 v347 v348 v349) fun y => .leaf (.bool y, L)
  | _ => .fail
theorem laws_eqSparse_Fok : COk Try.prog 21 laws_eqSparse_F true := by
  intro F L H args r L' hs ha hr
  unfold laws_eqSparse_F at hr
  split at hr
  · rename_i v342 a1 a2 a3 v346 a4 a5 a6
    obtain ⟨v343, hv343, hr⟩ := optT_run hr
    obtain ⟨v344, hv344, hr⟩ := optT_run hr
    obtain ⟨v345, hv345, hr⟩ := optT_run hr
    obtain ⟨v347, hv347, hr⟩ := optT_run hr
    obtain ⟨v348, hv348, hr⟩ := optT_run hr
    obtain ⟨v349, hv349, hr⟩ := optT_run hr
    simp only [Tree.run] at hr
    obtain ⟨y, hy, hr⟩ := Option.bind_eq_some_iff.1 hr
    simp only [Tree.run, Option.some.injEq, Prod.mk.injEq] at hr
    obtain ⟨rfl, rfl⟩ := hr
    exact call_ok0 hs (fun k => (([a1.av F, a2.av F, a3.av F, a4.av F, a5.av F, a6.av F] : List AV)[k]?).getD .top) [.agg [.int .i64 v342, a1, a2, a3], .agg [.int .i64 v346, a4, a5, a6]] [.agg [.int .i64 v342, .bslc (BR.root 0) (.i64 v343), .bslc (BR.root 1) (.i64 v344), .bslc (BR.root 2) (.f32 v345)], .agg [.int .i64 v346, .bslc (BR.root 3) (.i64 v347), .bslc (BR.root 4) (.i64 v348), .bslc (BR.root 5) (.f32 v349)]] (fun F' h0 hi hρ => ⟨by simp [DVs.av, DV.av, BR.av, hρ], laws_eqSparse_fn v342 v343 v344 v345 v346 v347 v348 v349 F' (by rw [hi]; rfl) (st_nil hi) ⟨⟨trivial, bslc_ok hi (by rw [h0, hρ]; exact rowI64_ok hs (DVs.okAt (DVs.okAt ha 0 rfl) 1 rfl) hv343), bslc_ok hi (by rw [h0, hρ]; exact rowI64_ok hs (DVs.okAt (DVs.okAt ha 0 rfl) 2 rfl) hv344), bslc_ok hi (by rw [h0, hρ]; exact rowF32_ok hs (DVs.okAt (DVs.okAt ha 0 rfl) 3 rfl) hv345), trivial⟩, ⟨trivial, bslc_ok hi (by rw [h0, hρ]; exact rowI64_ok hs (DVs.okAt (DVs.okAt ha 1 rfl) 1 rfl) hv347), bslc_ok hi (by rw [h0, hρ]; exact rowI64_ok hs (DVs.okAt (DVs.okAt ha 1 rfl) 2 rfl) hv348), bslc_ok hi (by rw [h0, hρ]; exact rowF32_ok hs (DVs.okAt (DVs.okAt ha 1 rfl) 3 rfl) hv349), trivial⟩, trivial⟩ hy⟩) rfl
  · cases hr
/-! laws.markInt64S -/
noncomputable def laws_markInt64S_l0_T (s : Int × Int × (List Int)) : Tree ((Int × Int × (List Int)) ⊕ (Int × (List Int))) :=
  (.br (decide (s.2.1 < (((s.2.2).length : Nat) : Int))) (
   (.grd (inb s.2.1 ((s.2.2).length)) <|
   .leaf (.inl (IntKind.i64.wrap (s.1 + (1 : Int)), IntKind.i64.wrap (s.2.1 + (1 : Int)), List.set s.2.2 (Int.toNat s.2.1) s.1)))
  ) (
   .leaf (.inr (s.1, s.2.2))
  ))

noncomputable def laws_markInt64S_l0_g (s0 : Int × Int × (List Int)) : Option (Int × (List Int)) := whileM (fun s => (laws_markInt64S_l0_T s).run) s0
def laws_markInt64S_l0_E (v373 : List Int) (v374 : Int) (s : Int × Int × (List Int)) : Sd := ([.own 0 0 ((s.2.2).length), .int .i64 s.1, .top, .top, .top, .int .i64 s.2.1, .top, .top, .top, .top, .top, .top, .top, .top, .top, .top, .top, .top, .top], [.row (.i64 s.2.2) 0])
def laws_markInt64S_l0_X (v373 : List Int) (v374 : Int) (x : Int × (List Int)) : Out := (.normal, [.top, .int .i64 x.1, .top, .top, .top, .top, .top, .top, .top, .top, .top, .top, .top, .top, .top, .top, .top, .top, .top], [.row (.i64 x.2) 0])
def laws_markInt64S_l0_kill : List Nat := [0, 0, 1, 1, 1, 0, 1, 1, 1, 1, 1, 1, 1, 1, 1, 1, 1, 1, 1]
def laws_markInt64S_l0_nx : Exit → List Nat
  | .exit 0 => [1, 0, 1, 1, 1, 1, 1, 1, 1, 1, 1, 1, 1, 1, 1, 1, 1, 1, 1]
  | .ret => [1, 1, 1, 1, 0, 1, 1, 1, 1, 1, 1, 1, 1, 1, 1, 1, 1, 1, 1]
  | _ => []
noncomputable def laws_markInt64S_LO (v373 : List Int) (v374 : Int) : LOr := fun id e L =>
  match id with
  | 0 => .need (normA 1 laws_markInt64S_l0_kill e L = some (laws_markInt64S_l0_E v373 v374 ((gI (vAt e 1)), (gI (vAt e 5)), (gRI L (vAt e 0))))) (.call (laws_markInt64S_l0_g ((gI (vAt e 1)), (gI (vAt e 5)), (gRI L (vAt e 0)))) fun x => .leaf (laws_markInt64S_l0_X v373 v374 x))
  | _ => .fail
noncomputable def laws_markInt64S_tab : List (FuncId × DFn × Bool) := []
theorem laws_markInt64S_hO : OrcOk Try.prog (tabD laws_markInt64S_tab) (tabM laws_markInt64S_tab) := tabD_nil _
theorem laws_markInt64S_l0_be (v373 : List Int) (v374 : Int) (s : Int × Int × (List Int)) : bodyT TT (tabD laws_markInt64S_tab) (tabM laws_markInt64S_tab) (laws_markInt64S_LO v373 v374) 1 laws_markInt64S_l0_kill laws_markInt64S_l0_nx (bodyOf Try.f45 0) 0 (laws_markInt64S_l0_E v373 v374 s) = (laws_markInt64S_l0_T s).bind fun y => .leaf (outS (laws_markInt64S_l0_E v373 v374) (laws_markInt64S_l0_X v373 v374) y) := by kernel_rfl
theorem laws_markInt64S_l0_ok (v373 : List Int) (v374 : Int) : LSound Try.prog 1 (laws_markInt64S_LO v373 v374) 0 (bodyOf Try.f45 0) := by
  intro e L out h
  exact lo_ok (E := laws_markInt64S_l0_E v373 v374) (gT := laws_markInt64S_l0_T) (X := laws_markInt64S_l0_X v373 v374) (s0 := ((gI (vAt e 1)), (gI (vAt e 5)), (gRI L (vAt e 0)))) tok laws_markInt64S_hO mixed (LoopsOk_eq (l := []) (by kernel_rfl) trivial) (laws_markInt64S_l0_be v373 v374) rfl (by intro x; rfl) h
noncomputable def laws_markInt64S_T (v373 : List Int) (v374 : Int) : Tree (Int × (List Int)) :=
  (.need (some (laws_markInt64S_l0_E v373 v374 (v374, (0 : Int), v373)) = some (laws_markInt64S_l0_E v373 v374 (v374, (0 : Int), v373))) <|
  (.call (laws_markInt64S_l0_g (v374, (0 : Int), v373)) fun v383 =>
  .leaf (v383.1, v383.2)))

noncomputable def laws_markInt64S_g (v373 : List Int) (v374 : Int) : Option (Int × (List Int)) := (laws_markInt64S_T v373 v374).run
def laws_markInt64S_enc (v373 : List Int) (v374 : Int) (y : Int × (List Int)) : Rs := (.int .i64 y.1, [.row (.i64 y.2) 0])
theorem laws_markInt64S_den (v373 : List Int) (v374 : Int) : (den TT (tabD laws_markInt64S_tab) (tabM laws_markInt64S_tab) (laws_markInt64S_LO v373 v374) (codeOf Try.f45) ([.own 0 0 v373.length, .int .i64 v374] ++ List.replicate (Try.f45.ntmps - ([.own 0 0 v373.length, .int .i64 v374] : List DV).length) .undef) [.row (.i64 v373) 0]).bind (retD TT Try.f45.results.toList 1) = (laws_markInt64S_T v373 v374).bind fun y => .leaf (laws_markInt64S_enc v373 v374 y) := by kernel_rfl
theorem laws_markInt64S_fn (v373 : List Int) (v374 : Int) (F : Fr) (hm : F.ids.length = 1) (h0 : St F [.row (.i64 v373) 0] F.H0) (hA : DVs.Ok F [.row (.i64 v373) 0] [.own 0 0 v373.length, .int .i64 v374]) {y : Int × (List Int)} (hy : laws_markInt64S_g v373 v374 = some y) : ∃ H', FnOk Try.prog 45 (DVs.av F [.own 0 0 v373.length, .int .i64 v374]) F.H0 ((laws_markInt64S_enc v373 v374 y).1.av F) H' ∧ St F (laws_markInt64S_enc v373 v374 y).2 H' ∧ (laws_markInt64S_enc v373 v374 y).1.Ok F (laws_markInt64S_enc v373 v374 y).2 :=
  fn_fin tok laws_markInt64S_hO mixed Try.func45 Try.call45 (by kernel_rfl) (LoopsOk_eq (l := [(0, bodyOf Try.f45 0)]) (by kernel_rfl) ⟨laws_markInt64S_l0_ok v373 v374, trivial⟩) (laws_markInt64S_den v373 v374) hy hm h0 hA
noncomputable def laws_markInt64S_F : DFn := fun args L =>
  match args with
  | [a1, .int .i64 v374] =>
    optT (ownI64 L a1) fun qv373 =>
    (match sepB [qv373.1] [] with
    | true =>
    .call (laws_markInt64S_g qv373.2 v374) fun y => .grd (decide (y.2.length = qv373.2.length)) (.leaf (.int .i64 y.1, setRows L ([qv373.1].zip [.i64 y.2])))
    | false => .fail)
  | _ => .fail
theorem laws_markInt64S_Fok : COk Try.prog 45 laws_markInt64S_F false := by
  intro F L H args r L' hs ha hr
  unfold laws_markInt64S_F at hr
  split at hr
  · rename_i a1 v374
    obtain ⟨⟨jv373, v373⟩, hqv373, hr⟩ := optT_run hr
    simp only at hr
    split at hr
    · rename_i hsep
      obtain ⟨hnd, hsepv⟩ := sepB_spec hsep
      simp only [Tree.run] at hr
      obtain ⟨y, hy, hr⟩ := Option.bind_eq_some_iff.1 hr
      try simp only [Tree.run] at hr
      obtain ⟨hl0, hr⟩ := ite_run hr
      simp only [Option.some.injEq, Prod.mk.injEq] at hr
      obtain ⟨rfl, rfl⟩ := hr
      obtain ⟨hr0, hu0, ha0, hb0⟩ := (ownR_spec (DVs.okAt ha 0 rfl) (ownI64_or hqv373))
      exact mut_ok hs (fun k => (([a1.av F] : List AV)[k]?).getD .top) [a1, .int .i64 v374] [.own 0 0 v373.length, .int .i64 v374] [jv373] [.i64 v373] [.i64 y.2] hnd rfl rfl (fun i j q h1 h2 => by
          rcases i with _ | i
          · simp at h1 h2; subst h1; subst h2; exact hr0
          · simp at h1) (fun i q q' h1 h2 => by
          rcases i with _ | i
          · simp at h1 h2; subst h1; subst h2; exact of_decide_eq_true hl0
          · simp at h1) (fun j hj => by simp at hj; subst hj; simp [DVs.refs, DV.refs, hu0]) (fun F' h0 hi hρ hst hS => ⟨by (have ab0 : F'.abs 0 = F.abs jv373 := (by simp [Fr.abs, hi]); simp [DVs.av, DV.av, BR.av, hρ, Row.len, ha0, ab0]), by
          obtain ⟨H1, k1, k2, _⟩ := laws_markInt64S_fn v373 v374 F' (by rw [hi]; rfl) hst ⟨⟨_, rfl, Nat.le_refl _, Nat.le_refl _, fun _ => rfl, (ownR_spec (DVs.okAt ha 0 rfl) (ownI64_or hqv373)).2.2.2⟩, trivial, trivial⟩ hy
          exact ⟨H1, k1, k2⟩⟩) (fun F' => rfl) (fun L' => trivial)
    · cases hr
  · cases hr
/-! laws.markFloat32S -/
noncomputable def laws_markFloat32S_l0_T (s : Int × Int × (List Nat)) : Tree ((Int × Int × (List Nat)) ⊕ (Int × (List Nat))) :=
  (.br (decide (s.2.1 < (((s.2.2).length : Nat) : Int))) (
   (.grd (inb s.2.1 ((s.2.2).length)) <|
   .leaf (.inl (IntKind.i64.wrap (s.1 + (1 : Int)), IntKind.i64.wrap (s.2.1 + (1 : Int)), List.set s.2.2 (Int.toNat s.2.1) (fofint .f32 s.1))))
  ) (
   .leaf (.inr (s.1, s.2.2))
  ))

noncomputable def laws_markFloat32S_l0_g (s0 : Int × Int × (List Nat)) : Option (Int × (List Nat)) := whileM (fun s => (laws_markFloat32S_l0_T s).run) s0
def laws_markFloat32S_l0_E (v401 : List Nat) (v402 : Int) (s : Int × Int × (List Nat)) : Sd := ([.own 0 0 ((s.2.2).length), .int .i64 s.1, .top, .top, .top, .int .i64 s.2.1, .top, .top, .top, .top, .top, .top, .top, .top, .top, .top, .top, .top, .top, .top], [.row (.f32 s.2.2) 0])
def laws_markFloat32S_l0_X (v401 : List Nat) (v402 : Int) (x : Int × (List Nat)) : Out := (.normal, [.top, .int .i64 x.1, .top, .top, .top, .top, .top, .top, .top, .top, .top, .top, .top, .top, .top, .top, .top, .top, .top, .top], [.row (.f32 x.2) 0])
def laws_markFloat32S_l0_kill : List Nat := [0, 0, 1, 1, 1, 0, 1, 1, 1, 1, 1, 1, 1, 1, 1, 1, 1, 1, 1, 1]
def laws_markFloat32S_l0_nx : Exit → List Nat
  | .exit 0 => [1, 0, 1, 1, 1, 1, 1, 1, 1, 1, 1, 1, 1, 1, 1, 1, 1, 1, 1, 1]
  | .ret => [1, 1, 1, 1, 0, 1, 1, 1, 1, 1, 1, 1, 1, 1, 1, 1, 1, 1, 1, 1]
  | _ => []
noncomputable def laws_markFloat32S_LO (v401 : List Nat) (v402 : Int) : LOr := fun id e L =>
  match id with
  | 0 => .need (normA 1 laws_markFloat32S_l0_kill e L = some (laws_markFloat32S_l0_E v401 v402 ((gI (vAt e 1)), (gI (vAt e 5)), (gRF L (vAt e 0))))) (.call (laws_markFloat32S_l0_g ((gI (vAt e 1)), (gI (vAt e 5)), (gRF L (vAt e 0)))) fun x => .leaf (laws_markFloat32S_l0_X v401 v402 x))
  | _ => .fail
noncomputable def laws_markFloat32S_tab : List (FuncId × DFn × Bool) := []
theorem laws_markFloat32S_hO : OrcOk Try.prog (tabD laws_markFloat32S_tab) (tabM laws_markFloat32S_tab) := tabD_nil _
theorem laws_markFloat32S_l0_be (v401 : List Nat) (v402 : Int) (s : Int × Int × (List Nat)) : bodyT TT (tabD laws_markFloat32S_tab) (tabM laws_markFloat32S_tab) (laws_markFloat32S_LO v401 v402) 1 laws_markFloat32S_l0_kill laws_markFloat32S_l0_nx (bodyOf Try.f23 0) 0 (laws_markFloat32S_l0_E v401 v402 s) = (laws_markFloat32S_l0_T s).bind fun y => .leaf (outS (laws_markFloat32S_l0_E v401 v402) (laws_markFloat32S_l0_X v401 v402) y) := by kernel_rfl
theorem laws_markFloat32S_l0_ok (v401 : List Nat) (v402 : Int) : LSound Try.prog 1 (laws_markFloat32S_LO v401 v402) 0 (bodyOf Try.f23 0) := by
  intro e L out h
  exact lo_ok (E := laws_markFloat32S_l0_E v401 v402) (gT := laws_markFloat32S_l0_T) (X := laws_markFloat32S_l0_X v401 v402) (s0 := ((gI (vAt e 1)), (gI (vAt e 5)), (gRF L (vAt e 0)))) tok laws_markFloat32S_hO mixed (LoopsOk_eq (l := []) (by kernel_rfl) trivial) (laws_markFloat32S_l0_be v401 v402) rfl (by intro x; rfl) h
noncomputable def laws_markFloat32S_T (v401 : List Nat) (v402 : Int) : Tree (Int × (List Nat)) :=
  (.need (some (laws_markFloat32S_l0_E v401 v402 (v402, (0 : Int), v401)) = some (laws_markFloat32S_l0_E v401 v402 (v402, (0 : Int), v401))) <|
  (.call (laws_markFloat32S_l0_g (v402, (0 : Int), v401)) fun v411 =>
  .leaf (v411.1, v411.2)))

noncomputable def laws_markFloat32S_g (v401 : List Nat) (v402 : Int) : Option (Int × (List Nat)) := (laws_markFloat32S_T v401 v402).run
def laws_markFloat32S_enc (v401 : List Nat) (v402 : Int) (y : Int × (List Nat)) : Rs := (.int .i64 y.1, [.row (.f32 y.2) 0])
theorem laws_markFloat32S_den (v401 : List Nat) (v402 : Int) : (den TT (tabD laws_markFloat32S_tab) (tabM laws_markFloat32S_tab) (laws_markFloat32S_LO v401 v402) (codeOf Try.f23) ([.own 0 0 v401.length, .int .i64 v402] ++ List.replicate (Try.f23.ntmps - ([.own 0 0 v401.length, .int .i64 v402] : List DV).length) .undef) [.row (.f32 v401) 0]).bind (retD TT Try.f23.results.toList 1) = (laws_markFloat32S_T v401 v402).bind fun y => .leaf (laws_markFloat32S_enc v401 v402 y) := by kernel_rfl
theorem laws_markFloat32S_fn (v401 : List Nat) (v402 : Int) (F : Fr) (hm : F.ids.length = 1) (h0 : St F [.row (.f32 v401) 0] F.H0) (hA : DVs.Ok F [.row (.f32 v401) 0] [.own 0 0 v401.length, .int .i64 v402]) {y : Int × (List Nat)} (hy : laws_markFloat32S_g v401 v402 = some y) : ∃ H', FnOk Try.prog 23 (DVs.av F [.own 0 0 v401.length, .int .i64 v402]) F.H0 ((laws_markFloat32S_enc v401 v402 y).1.av F) H' ∧ St F (laws_markFloat32S_enc v401 v402 y).2 H' ∧ (laws_markFloat32S_enc v401 v402 y).1.Ok F (laws_markFloat32S_enc v401 v402 y).2 :=
  fn_fin tok laws_markFloat32S_hO mixed Try.func23 Try.call23 (by kernel_rfl) (LoopsOk_eq (l := [(0, bodyOf Try.f23 0)]) (by kernel_rfl) ⟨laws_markFloat32S_l0_ok v401 v402, trivial⟩) (laws_markFloat32S_den v401 v402) hy hm h0 hA
noncomputable def laws_markFloat32S_F : DFn := fun args L =>
  match args with
  | [a1, .int .i64 v402] =>
    optT (ownF32 L a1) fun qv401 =>
    (match sepB [qv401.1] [] with
    | true =>
    .call (laws_markFloat32S_g qv401.2 v402) fun y => .grd (decide (y.2.length = qv401.2.length)) (.leaf (.int .i64 y.1, setRows L ([qv401.1].zip [.f32 y.2])))
    | false => .fail)
  | _ => .fail
theorem laws_markFloat32S_Fok : COk Try.prog 23 laws_markFloat32S_F false := by
  intro F L H args r L' hs ha hr
  unfold laws_markFloat32S_F at hr
  split at hr
  · rename_i a1 v402
    obtain ⟨⟨jv401, v401⟩, hqv401, hr⟩ := optT_run hr
    simp only at hr
    split at hr
    · rename_i hsep
      obtain ⟨hnd, hsepv⟩ := sepB_spec hsep
      simp only [Tree.run] at hr
      obtain ⟨y, hy, hr⟩ := Option.bind_eq_some_iff.1 hr
      try simp only [Tree.run] at hr
      obtain ⟨hl0, hr⟩ := ite_run hr
      simp only [Option.some.injEq, Prod.mk.injEq] at hr
      obtain ⟨rfl, rfl⟩ := hr
      obtain ⟨hr0, hu0, ha0, hb0⟩ := (ownR_spec (DVs.okAt ha 0 rfl) (ownF32_or hqv401))
      exact mut_ok hs (fun k => (([a1.av F] : List AV)[k]?).getD .top) [a1, .int .i64 v402] [.own 0 0 v401.length, .int .i64 v402] [jv401] [.f32 v401] [.f32 y.2] hnd rfl rfl (fun i j q h1 h2 => by
          rcases i with _ | i
          · simp at h1 h2; subst h1; subst h2; exact hr0
          · simp at h1) (fun i q q' h1 h2 => by
          rcases i with _ | i
          · simp at h1 h2; subst h1; subst h2; exact of_decide_eq_true hl0
          · simp at h1) (fun j hj => by simp at hj; subst hj; simp [DVs.refs, DV.refs, hu0]) (fun F' h0 hi hρ hst hS => ⟨by (have ab0 : F'.abs 0 = F.abs jv401 := (by simp [Fr.abs, hi]); simp [DVs.av, DV.av, BR.av, hρ, Row.len, ha0, ab0]), by
          obtain ⟨H1, k1, k2, _⟩ := laws_markFloat32S_fn v401 v402 F' (by rw [hi]; rfl) hst ⟨⟨_, rfl, Nat.le_refl _, Nat.le_refl _, fun _ => rfl, (ownR_spec (DVs.okAt ha 0 rfl) (ownF32_or hqv401)).2.2.2⟩, trivial, trivial⟩ hy
          exact ⟨H1, k1, k2⟩⟩) (fun F' => rfl) (fun L' => trivial)
    · cases hr
  · cases hr
/-! laws.markSparse -/
noncomputable def laws_markSparse_LO (v412 : Int) (v413 : List Int) (v414 : List Int) (v415 : List Nat) (v416 : Int) : LOr := fun id e L =>
  match id with
  | _ => .fail
noncomputable def laws_markSparse_tab : List (FuncId × DFn × Bool) := [(45, laws_markInt64S_F, false), (23, laws_markFloat32S_F, false)]
theorem laws_markSparse_hO : OrcOk Try.prog (tabD laws_markSparse_tab) (tabM laws_markSparse_tab) := tabD_cons laws_markInt64S_Fok (tabD_cons laws_markFloat32S_Fok (tabD_nil _))
noncomputable def laws_markSparse_T (v413 : List Int) (v414 : List Int) (v415 : List Nat) (v416 : Int) : Tree (Int × (List Int) × (List Int) × (List Nat)) :=
  (.call (laws_markInt64S_g v413 v416) fun v417 =>
  (.grd (decide (v417.2.length = v413.length)) <|
  (.call (laws_markInt64S_g v414 v417.1) fun v418 =>
  (.grd (decide (v418.2.length = v414.length)) <|
  (.call (laws_markFloat32S_g v415 v418.1) fun v419 =>
  (.grd (decide (v419.2.length = v415.length)) <|
  .leaf (v419.1, v417.2, v418.2, v419.2)))))))

noncomputable def laws_markSparse_g (v413 : List Int) (v414 : List Int) (v415 : List Nat) (v416 : Int) : Option (Int × (List Int) × (List Int) × (List Nat)) := (laws_markSparse_T v413 v414 v415 v416).run
def laws_markSparse_enc (v412 : Int) (v413 : List Int) (v414 : List Int) (v415 : List Nat) (v416 : Int) (y : Int × (List Int) × (List Int) × (List Nat)) : Rs := (.int .i64 y.1, [.row (.i64 y.2.1) 0, .row (.i64 y.2.2.1) 0, .row (.f32 y.2.2.2) 0])
theorem laws_markSparse_den (v412 : Int) (v413 : List Int) (v414 : List Int) (v415 : List Nat) (v416 : Int) : (den TT (tabD laws_markSparse_tab) (tabM laws_markSparse_tab) (laws_markSparse_LO v412 v413 v414 v415 v416) (codeOf Try.f22) ([.agg [.int .i64 v412, .own 0 0 v413.length, .own 1 0 v414.length, .own 2 0 v415.length], .int .i64 v416] ++ List.replicate (Try.f22.ntmps - ([.agg [.int .i64 v412, .own 0 0 v413.length, .own 1 0 v414.length, .own 2 0 v415.length], .int .i64 v416] : List DV).length) .undef) [.row (.i64 v413) 0, .row (.i64 v414) 0, .row (.f32 v415) 0]).bind (retD TT Try.f22.results.toList 3) = (laws_markSparse_T v413 v414 v415 v416).bind fun y => .leaf (laws_markSparse_enc v412 v413 v414 v415 v416 y) := by kernel_rfl
theorem laws_markSparse_fn (v412 : Int) (v413 : List Int) (v414 : List Int) (v415 : List Nat) (v416 : Int) (F : Fr) (hm : F.ids.length = 3) (h0 : St F [.row (.i64 v413) 0, .row (.i64 v414) 0, .row (.f32 v415) 0] F.H0) (hA : DVs.Ok F [.row (.i64 v413) 0, .row (.i64 v414) 0, .row (.f32 v415) 0] [.agg [.int .i64 v412, .own 0 0 v413.length, .own 1 0 v414.length, .own 2 0 v415.length], .int .i64 v416]) {y : Int × (List Int) × (List Int) × (List Nat)} (hy : laws_markSparse_g v413 v414 v415 v416 = some y) : ∃ H', FnOk Try.prog 22 (DVs.av F [.agg [.int .i64 v412, .own 0 0 v413.length, .own 1 0 v414.length, .own 2 0 v415.length], .int .i64 v416]) F.H0 ((laws_markSparse_enc v412 v413 v414 v415 v416 y).1.av F) H' ∧ St F (laws_markSparse_enc v412 v413 v414 v415 v416 y).2 H' ∧ (laws_markSparse_enc v412 v413 v414 v415 v416 y).1.Ok F (laws_markSparse_enc v412 v413 v414 v415 v416 y).2 :=
  fn_fin tok laws_markSparse_hO mixed Try.func22 Try.call22 (by kernel_rfl) (LoopsOk_eq (l := []) (by kernel_rfl) trivial) (laws_markSparse_den v412 v413 v414 v415 v416) hy hm h0 hA
noncomputable def laws_markSparse_F : DFn := fun args L =>
  match args with
  | [.agg [.int .i64 v412, a1, a2, a3], .int .i64 v416] =>
    optT (ownI64 L a1) fun qv413 =>
    optT (ownI64 L a2) fun qv414 =>
    optT (ownF32 L a3) fun qv415 =>
    (match sepB [qv413.1, qv414.1, qv415.1] [] with
    | true =>
    .call (laws_markSparse_g qv413.2 qv414.2 qv415.2 v416) fun y => .grd (decide (y.2.1.length = qv413.2.length)) (.grd (decide (y.2.2.1.length = qv414.2.length)) (.grd (decide (y.2.2.2.length = qv415.2.length)) (.leaf (.int .i64 y.1, setRows L ([qv413.1, qv414.1, qv415.1].zip [.i64 y.2.1, .i64 y.2.2.1, .f32 y.2.2.2])))))
    | false => .fail)
  | _ => .fail
theorem laws_markSparse_Fok : COk Try.prog 22 laws_markSparse_F false := by
  intro F L H args r L' hs ha hr
  unfold laws_markSparse_F at hr
  split at hr
  · rename_i v412 a1 a2 a3 v416
    obtain ⟨⟨jv413, v413⟩, hqv413, hr⟩ := optT_run hr
    simp only at hr
    obtain ⟨⟨jv414, v414⟩, hqv414, hr⟩ := optT_run hr
    simp only at hr
    obtain ⟨⟨jv415, v415⟩, hqv415, hr⟩ := optT_run hr
    simp only at hr
    split at hr
    · rename_i hsep
      obtain ⟨hnd, hsepv⟩ := sepB_spec hsep
      simp only [Tree.run] at hr
      obtain ⟨y, hy, hr⟩ := Option.bind_eq_some_iff.1 hr
      try simp only [Tree.run] at hr
      obtain ⟨hl0, hr⟩ := ite_run hr
      obtain ⟨hl1, hr⟩ := ite_run hr
      obtain ⟨hl2, hr⟩ := ite_run hr
      simp only [Option.some.injEq, Prod.mk.injEq] at hr
      obtain ⟨rfl, rfl⟩ := hr
      obtain ⟨hr0, hu0, ha0, hb0⟩ := (ownR_spec (DVs.okAt (DVs.okAt ha 0 rfl) 1 rfl) (ownI64_or hqv413))
      obtain ⟨hr1, hu1, ha1, hb1⟩ := (ownR_spec (DVs.okAt (DVs.okAt ha 0 rfl) 2 rfl) (ownI64_or hqv414))
      obtain ⟨hr2, hu2, ha2, hb2⟩ := (ownR_spec (DVs.okAt (DVs.okAt ha 0 rfl) 3 rfl) (ownF32_or hqv415))
      exact mut_ok hs (fun k => (([a1.av F, a2.av F, a3.av F] : List AV)[k]?).getD .top) [.agg [.int .i64 v412, a1, a2, a3], .int .i64 v416] [.agg [.int .i64 v412, .own 0 0 v413.length, .own 1 0 v414.length, .own 2 0 v415.length], .int .i64 v416] [jv413, jv414, jv415] [.i64 v413, .i64 v414, .f32 v415] [.i64 y.2.1, .i64 y.2.2.1, .f32 y.2.2.2] hnd rfl rfl (fun i j q h1 h2 => by
          rcases i with _ | _ | _ | i
          · simp at h1 h2; subst h1; subst h2; exact hr0
          · simp at h1 h2; subst h1; subst h2; exact hr1
          · simp at h1 h2; subst h1; subst h2; exact hr2
          · simp at h1) (fun i q q' h1 h2 => by
          rcases i with _ | _ | _ | i
          · simp at h1 h2; subst h1; subst h2; exact of_decide_eq_true hl0
          · simp at h1 h2; subst h1; subst h2; exact of_decide_eq_true hl1
          · simp at h1 h2; subst h1; subst h2; exact of_decide_eq_true hl2
          · simp at h1) (fun j hj => by simp at hj; rcases hj with rfl | rfl | rfl <;> simp [DVs.refs, DV.refs, hu0, hu1, hu2]) (fun F' h0 hi hρ hst hS => ⟨by (have ab0 : F'.abs 0 = F.abs jv413 := (by simp [Fr.abs, hi]); have ab1 : F'.abs 1 = F.abs jv414 := (by simp [Fr.abs, hi]); have ab2 : F'.abs 2 = F.abs jv415 := (by simp [Fr.abs, hi]); simp [DVs.av, DV.av, BR.av, hρ, Row.len, ha0, ab0, ha1, ab1, ha2, ab2]), by
          obtain ⟨H1, k1, k2, _⟩ := laws_markSparse_fn v412 v413 v414 v415 v416 F' (by rw [hi]; rfl) hst ⟨⟨trivial, ⟨_, rfl, Nat.le_refl _, Nat.le_refl _, fun _ => rfl, (ownR_spec (DVs.okAt (DVs.okAt ha 0 rfl) 1 rfl) (ownI64_or hqv413)).2.2.2⟩, ⟨_, rfl, Nat.le_refl _, Nat.le_refl _, fun _ => rfl, (ownR_spec (DVs.okAt (DVs.okAt ha 0 rfl) 2 rfl) (ownI64_or hqv414)).2.2.2⟩, ⟨_, rfl, Nat.le_refl _, Nat.le_refl _, fun _ => rfl, (ownR_spec (DVs.okAt (DVs.okAt ha 0 rfl) 3 rfl) (ownF32_or hqv415)).2.2.2⟩, trivial⟩, trivial, trivial⟩ hy
          exact ⟨H1, k1, k2⟩⟩) (fun F' => rfl) (fun L' => trivial)
    · cases hr
  · cases hr
/-! laws.markFloat32S -/
noncomputable def laws_markFloat32S_i1_l0_T (s : Unit) : Tree ((Unit) ⊕ (Unit)) :=
  (.br (decide ((0 : Int) < (0 : Int))) (
   .fail
  ) (
   .leaf (.inr ())
  ))

noncomputable def laws_markFloat32S_i1_l0_g (s0 : Unit) : Option (Unit) := whileM (fun s => (laws_markFloat32S_i1_l0_T s).run) s0
def laws_markFloat32S_i1_l0_E (v423 : Int) (s : Unit) : Sd := ([.nilslc, .int .i64 v423, .top, .top, .top, .int .i64 (0 : Int), .top, .top, .top, .top, .top, .top, .top, .top, .top, .top, .top, .top, .top, .top], [])
def laws_markFloat32S_i1_l0_X (v423 : Int) (x : Unit) : Out := (.normal, [.top, .int .i64 v423, .top, .top, .top, .top, .top, .top, .top, .top, .top, .top, .top, .top, .top, .top, .top, .top, .top, .top], [])
def laws_markFloat32S_i1_l0_kill : List Nat := [0, 0, 1, 1, 1, 0, 1, 1, 1, 1, 1, 1, 1, 1, 1, 1, 1, 1, 1, 1]
def laws_markFloat32S_i1_l0_nx : Exit → List Nat
  | .exit 0 => [1, 0, 1, 1, 1, 1, 1, 1, 1, 1, 1, 1, 1, 1, 1, 1, 1, 1, 1, 1]
  | .ret => [1, 1, 1, 1, 0, 1, 1, 1, 1, 1, 1, 1, 1, 1, 1, 1, 1, 1, 1, 1]
  | _ => []
noncomputable def laws_markFloat32S_i1_LO (v423 : Int) : LOr := fun id e L =>
  match id with
  | 0 => .need (normA 0 laws_markFloat32S_i1_l0_kill e L = some (laws_markFloat32S_i1_l0_E v423 ())) (.call (laws_markFloat32S_i1_l0_g ()) fun x => .leaf (laws_markFloat32S_i1_l0_X v423 x))
  | _ => .fail
noncomputable def laws_markFloat32S_i1_tab : List (FuncId × DFn × Bool) := []
theorem laws_markFloat32S_i1_hO : OrcOk Try.prog (tabD laws_markFloat32S_i1_tab) (tabM laws_markFloat32S_i1_tab) := tabD_nil _
theorem laws_markFloat32S_i1_l0_be (v423 : Int) (s : Unit) : bodyT TT (tabD laws_markFloat32S_i1_tab) (tabM laws_markFloat32S_i1_tab) (laws_markFloat32S_i1_LO v423) 0 laws_markFloat32S_i1_l0_kill laws_markFloat32S_i1_l0_nx (bodyOf Try.f23 0) 0 (laws_markFloat32S_i1_l0_E v423 s) = (laws_markFloat32S_i1_l0_T s).bind fun y => .leaf (outS (laws_markFloat32S_i1_l0_E v423) (laws_markFloat32S_i1_l0_X v423) y) := by kernel_rfl
theorem laws_markFloat32S_i1_l0_ok (v423 : Int) : LSound Try.prog 0 (laws_markFloat32S_i1_LO v423) 0 (bodyOf Try.f23 0) := by
  intro e L out h
  exact lo_ok (E := laws_markFloat32S_i1_l0_E v423) (gT := laws_markFloat32S_i1_l0_T) (X := laws_markFloat32S_i1_l0_X v423) (s0 := ()) tok laws_markFloat32S_i1_hO mixed (LoopsOk_eq (l := []) (by kernel_rfl) trivial) (laws_markFloat32S_i1_l0_be v423) rfl (by intro x; rfl) h
noncomputable def laws_markFloat32S_i1_T (v423 : Int) : Tree (Int) :=
  (.need (some (laws_markFloat32S_i1_l0_E v423 ()) = some (laws_markFloat32S_i1_l0_E v423 ())) <|
  (.call (laws_markFloat32S_i1_l0_g ()) fun v426 =>
  .leaf v423))

noncomputable def laws_markFloat32S_i1_g (v423 : Int) : Option (Int) := (laws_markFloat32S_i1_T v423).run
def laws_markFloat32S_i1_enc (v423 : Int) (y : Int) : Rs := (.int .i64 y, [])
theorem laws_markFloat32S_i1_den (v423 : Int) : (den TT (tabD laws_markFloat32S_i1_tab) (tabM laws_markFloat32S_i1_tab) (laws_markFloat32S_i1_LO v423) (codeOf Try.f23) ([.nilslc, .int .i64 v423] ++ List.replicate (Try.f23.ntmps - ([.nilslc, .int .i64 v423] : List DV).length) .undef) []).bind (retD TT Try.f23.results.toList 0) = (laws_markFloat32S_i1_T v423).bind fun y => .leaf (laws_markFloat32S_i1_enc v423 y) := by kernel_rfl
theorem laws_markFloat32S_i1_fn (v423 : Int) (F : Fr) (hm : F.ids.length = 0) (h0 : St F [] F.H0) (hA : DVs.Ok F [] [.nilslc, .int .i64 v423]) {y : Int} (hy : laws_markFloat32S_i1_g v423 = some y) : ∃ H', FnOk Try.prog 23 (DVs.av F [.nilslc, .int .i64 v423]) F.H0 ((laws_markFloat32S_i1_enc v423 y).1.av F) H' ∧ St F (laws_markFloat32S_i1_enc v423 y).2 H' ∧ (laws_markFloat32S_i1_enc v423 y).1.Ok F (laws_markFloat32S_i1_enc v423 y).2 :=
  fn_fin tok laws_markFloat32S_i1_hO mixed Try.func23 Try.call23 (by kernel_rfl) (LoopsOk_eq (l := [(0, bodyOf Try.f23 0)]) (by kernel_rfl) ⟨laws_markFloat32S_i1_l0_ok v423, trivial⟩) (laws_markFloat32S_i1_den v423) hy hm h0 hA
noncomputable def laws_markFloat32S_i1_F : DFn := fun args L =>
  match args with
  | [.nilslc, .int .i64 v423] =>
    .call (laws_markFloat32S_i1_g v423) fun y => .leaf (.int .i64 y, L)
  | _ => .fail
theorem laws_markFloat32S_i1_Fok : COk Try.prog 23 laws_markFloat32S_i1_F true := by
  intro F L H args r L' hs ha hr
  unfold laws_markFloat32S_i1_F at hr
  split at hr
  · rename_i v423
    simp only [Tree.run] at hr
    obtain ⟨y, hy, hr⟩ := Option.bind_eq_some_iff.1 hr
    simp only [Tree.run, Option.some.injEq, Prod.mk.injEq] at hr
    obtain ⟨rfl, rfl⟩ := hr
    exact call_ok0 hs (fun k => (([] : List AV)[k]?).getD .top) [.nilslc, .int .i64 v423] [.nilslc, .int .i64 v423] (fun F' h0 hi hρ => ⟨by simp [DVs.av, DV.av, BR.av, hρ], laws_markFloat32S_i1_fn v423 F' (by rw [hi]; rfl) (st_nil hi) ⟨trivial, trivial, trivial⟩ hy⟩) rfl
  · cases hr
/-! laws.heldFloat32S -/
noncomputable def laws_heldFloat32S_l0_T (v428 : List Nat) (s : Int × Int) : Tree ((Int × Int) ⊕ ((Unit) ⊕ (Int))) :=
  (.br (decide (s.2 < ((v428.length : Nat) : Int))) (
   (.grd (inb s.2 v428.length) <|
   (.br (!feq .f32 (nth v428 (Int.toNat s.2)) (fofint .f32 s.1)) (
    .leaf (.inr (.inl ()))
   ) (
    .leaf (.inl (IntKind.i64.wrap (s.1 + (1 : Int)), IntKind.i64.wrap (s.2 + (1 : Int))))
   )))
  ) (
   .leaf (.inr (.inr s.1))
  ))

noncomputable def laws_heldFloat32S_l0_g (v428 : List Nat) (s0 : Int × Int) : Option ((Unit) ⊕ (Int)) := whileM (fun s => (laws_heldFloat32S_l0_T v428 s).run) s0
def laws_heldFloat32S_l0_E (v428 : List Nat) (v429 : Int) (s : Int × Int) : Sd := ([.bslc (BR.root 0) (.f32 v428), .int .i64 s.1, .top, .top, .top, .int .i64 s.2, .top, .top, .top, .top, .top, .top, .top, .top, .top, .top, .top, .top, .top, .top, .top, .top], [])
def laws_heldFloat32S_l0_X (v428 : List Nat) (v429 : Int) (x : (Unit) ⊕ (Int)) : Out := (match x with | .inl x => (.ret, [.top, .top, .top, .top, .int .i64 (-1 : Int), .top, .top, .top, .top, .top, .top, .top, .top, .top, .top, .top, .top, .top, .top, .top, .top, .top], []) | .inr x => (.normal, [.top, .int .i64 x, .top, .top, .top, .top, .top, .top, .top, .top, .top, .top, .top, .top, .top, .top, .top, .top, .top, .top, .top, .top], []))
def laws_heldFloat32S_l0_kill : List Nat := [0, 0, 1, 1, 1, 0, 1, 1, 1, 1, 1, 1, 1, 1, 1, 1, 1, 1, 1, 1, 1, 1]
def laws_heldFloat32S_l0_nx : Exit → List Nat
  | .exit 0 => [1, 0, 1, 1, 1, 1, 1, 1, 1, 1, 1, 1, 1, 1, 1, 1, 1, 1, 1, 1, 1, 1]
  | .ret => [1, 1, 1, 1, 0, 1, 1, 1, 1, 1, 1, 1, 1, 1, 1, 1, 1, 1, 1, 1, 1, 1]
  | _ => []
noncomputable def laws_heldFloat32S_LO (v428 : List Nat) (v429 : Int) : LOr := fun id e L =>
  match id with
  | 0 => .need (normA 0 laws_heldFloat32S_l0_kill e L = some (laws_heldFloat32S_l0_E v428 v429 ((gI (vAt e 1)), (gI (vAt e 5))))) (.call (laws_heldFloat32S_l0_g v428 ((gI (vAt e 1)), (gI (vAt e 5)))) fun x => .sum x (fun b0 => .leaf (laws_heldFloat32S_l0_X v428 v429 (.inl b0))) (fun c0 => .leaf (laws_heldFloat32S_l0_X v428 v429 (.inr c0))))
  | _ => .fail
noncomputable def laws_heldFloat32S_tab : List (FuncId × DFn × Bool) := []
theorem laws_heldFloat32S_hO : OrcOk Try.prog (tabD laws_heldFloat32S_tab) (tabM laws_heldFloat32S_tab) := tabD_nil _
theorem laws_heldFloat32S_l0_be (v428 : List Nat) (v429 : Int) (s : Int × Int) : bodyT TT (tabD laws_heldFloat32S_tab) (tabM laws_heldFloat32S_tab) (laws_heldFloat32S_LO v428 v429) 0 laws_heldFloat32S_l0_kill laws_heldFloat32S_l0_nx (bodyOf Try.f24 0) 0 (laws_heldFloat32S_l0_E v428 v429 s) = (laws_heldFloat32S_l0_T v428 s).bind fun y => .leaf (outS (laws_heldFloat32S_l0_E v428 v429) (laws_heldFloat32S_l0_X v428 v429) y) := by kernel_rfl
theorem laws_heldFloat32S_l0_ok (v428 : List Nat) (v429 : Int) : LSound Try.prog 0 (laws_heldFloat32S_LO v428 v429) 0 (bodyOf Try.f24 0) := by
  intro e L out h
  exact lo_ok (E := laws_heldFloat32S_l0_E v428 v429) (gT := laws_heldFloat32S_l0_T v428) (X := laws_heldFloat32S_l0_X v428 v429) (s0 := ((gI (vAt e 1)), (gI (vAt e 5)))) tok laws_heldFloat32S_hO mixed (LoopsOk_eq (l := []) (by kernel_rfl) trivial) (laws_heldFloat32S_l0_be v428 v429) rfl (by intro x; (cases x with | inl b => rfl | inr x => exact rfl)) h
noncomputable def laws_heldFloat32S_T (v428 : List Nat) (v429 : Int) : Tree (Int) :=
  (.need (some (laws_heldFloat32S_l0_E v428 v429 (v429, (0 : Int))) = some (laws_heldFloat32S_l0_E v428 v429 (v429, (0 : Int)))) <|
  (.call (laws_heldFloat32S_l0_g v428 (v429, (0 : Int))) fun v436 =>
  (.sum v436 (fun v437 =>
   .leaf (-1 : Int)
  ) (fun v438 =>
   .leaf v438
  ))))

noncomputable def laws_heldFloat32S_g (v428 : List Nat) (v429 : Int) : Option (Int) := (laws_heldFloat32S_T v428 v429).run
def laws_heldFloat32S_enc (v428 : List Nat) (v429 : Int) (y : Int) : Rs := (.int .i64 y, [])
theorem laws_heldFloat32S_den (v428 : List Nat) (v429 : Int) : (den TT (tabD laws_heldFloat32S_tab) (tabM laws_heldFloat32S_tab) (laws_heldFloat32S_LO v428 v429) (codeOf Try.f24) ([.bslc (BR.root 0) (.f32 v428), .int .i64 v429] ++ List.replicate (Try.f24.ntmps - ([.bslc (BR.root 0) (.f32 v428), .int .i64 v429] : List DV).length) .undef) []).bind (retD TT Try.f24.results.toList 0) = (laws_heldFloat32S_T v428 v429).bind fun y => .leaf (laws_heldFloat32S_enc v428 v429 y) := by kernel_rfl
theorem laws_heldFloat32S_fn (v428 : List Nat) (v429 : Int) (F : Fr) (hm : F.ids.length = 0) (h0 : St F [] F.H0) (hA : DVs.Ok F [] [.bslc (BR.root 0) (.f32 v428), .int .i64 v429]) {y : Int} (hy : laws_heldFloat32S_g v428 v429 = some y) : ∃ H', FnOk Try.prog 24 (DVs.av F [.bslc (BR.root 0) (.f32 v428), .int .i64 v429]) F.H0 ((laws_heldFloat32S_enc v428 v429 y).1.av F) H' ∧ St F (laws_heldFloat32S_enc v428 v429 y).2 H' ∧ (laws_heldFloat32S_enc v428 v429 y).1.Ok F (laws_heldFloat32S_enc v428 v429 y).2 :=
  fn_fin tok laws_heldFloat32S_hO mixed Try.func24 Try.call24 (by kernel_rfl) (LoopsOk_eq (l := [(0, bodyOf Try.f24 0)]) (by kernel_rfl) ⟨laws_heldFloat32S_l0_ok v428 v429, trivial⟩) (laws_heldFloat32S_den v428 v429) hy hm h0 hA
noncomputable def laws_heldFloat32S_F : DFn := fun args L =>
  match args with
  | [a1, .int .i64 v429] =>
    optT (rowF32 L a1) fun v428 =>
    .call (laws_heldFloat32S_g v428 v429) fun y => .leaf (.int .i64 y, L)
  | _ => .fail
theorem laws_heldFloat32S_Fok : COk Try.prog 24 laws_heldFloat32S_F true := by
  intro F L H args r L' hs ha hr
  unfold laws_heldFloat32S_F at hr
  split at hr
  · rename_i a1 v429
    obtain ⟨v428, hv428, hr⟩ := optT_run hr
    simp only [Tree.run] at hr
    obtain ⟨y, hy, hr⟩ := Option.bind_eq_some_iff.1 hr
    simp only [Tree.run, Option.some.injEq, Prod.mk.injEq] at hr
    obtain ⟨rfl, rfl⟩ := hr
    exact call_ok0 hs (fun k => (([a1.av F] : List AV)[k]?).getD .top) [a1, .int .i64 v429] [.bslc (BR.root 0) (.f32 v428), .int .i64 v429] (fun F' h0 hi hρ => ⟨by simp [DVs.av, DV.av, BR.av, hρ], laws_heldFloat32S_fn v428 v429 F' (by rw [hi]; rfl) (st_nil hi) ⟨bslc_ok hi (by rw [h0, hρ]; exact rowF32_ok hs (DVs.okAt ha 0 rfl) hv428), trivial, trivial⟩ hy⟩) rfl
  · cases hr
/-! laws.FnExactSparseTimes -/
noncomputable def laws_FnExactSparseTimes_LO (v1 : Int) (v2 : List Int) (v3 : List Int) (v4 : List Nat) (v5 : List Nat) : LOr := fun id e L =>
  match id with
  | _ => .fail
noncomputable def laws_FnExactSparseTimes_tab : List (FuncId × DFn × Bool) := [(15, laws_szSparse_F, true), (17, laws_toSparse_F, true), (18, laws_toFloat32S_F, true), (16, spec_SparseTimes_F, true), (19, impl_SparseTimes_F, true), (20, laws_eqFloat32S_F, true), (21, laws_eqSparse_F, true), (22, laws_markSparse_F, false), (23, (orD (fun args => match args with | [.nilslc, _] => true | _ => false) laws_markFloat32S_i1_F laws_markFloat32S_F), false), (24, laws_heldFloat32S_F, true)]
theorem laws_FnExactSparseTimes_hO : OrcOk Try.prog (tabD laws_FnExactSparseTimes_tab) (tabM laws_FnExactSparseTimes_tab) := tabD_cons laws_szSparse_Fok (tabD_cons laws_toSparse_Fok (tabD_cons laws_toFloat32S_Fok (tabD_cons spec_SparseTimes_Fok (tabD_cons impl_SparseTimes_Fok (tabD_cons laws_eqFloat32S_Fok (tabD_cons laws_eqSparse_Fok (tabD_cons laws_markSparse_Fok (tabD_cons (orD_ok (COk.weak laws_markFloat32S_i1_Fok) laws_markFloat32S_Fok) (tabD_cons laws_heldFloat32S_Fok (tabD_nil _))))))))))
noncomputable def laws_FnExactSparseTimes_T (v1 : Int) (v2 : List Int) (v3 : List Int) (v4 : List Nat) (v5 : List Nat) : Tree (Bool) :=
  (.br (decide ((1048576 : Int) < ((v5.length : Nat) : Int))) (
   .leaf true
  ) (
   (.br (decide ((laws_szSparse_v v2 v3 v4 (1048576 : Int)) < (0 : Int))) (
    .leaf true
   ) (
    (.call (laws_toSparse_g v1 v2 v3 v4) fun v36 =>
    (.call (laws_toFloat32S_g v5) fun v37 =>
    (.call (spec_SparseTimes_g v36.1 v36.2.1 v36.2.2.1 v36.2.2.2 v37) fun v153 =>
    (.sum v153 (fun v154 =>
     (.call (laws_toSparse_g v1 v2 v3 v4) fun v156 =>
     (.call (laws_toFloat32S_g v5) fun v157 =>
     (.call (impl_SparseTimes_g v156.1 v156.2.1 v156.2.2.1 v156.2.2.2 v157) fun v327 =>
     (.sum v327 (fun v328 =>
      (.call (laws_eqFloat32S_g ([] : List Nat) ([] : List Nat)) fun v340 =>
      (.br (!v340) (
       .leaf false
      ) (
       (.br (!(false == false)) (
        .leaf false
       ) (
        (.call (laws_toSparse_g v1 v2 v3 v4) fun v341 =>
        (.call (laws_eqSparse_g v156.1 v156.2.1 v156.2.2.1 v156.2.2.2 v341.1 v341.2.1 v341.2.2.1 v341.2.2.2) fun v361 =>
        (.br (!v361) (
         .leaf false
        ) (
         (.call (laws_toFloat32S_g v5) fun v362 =>
         (.call (laws_eqFloat32S_g v157 v362) fun v363 =>
         (.br (!v363) (
          .leaf false
         ) (
          (.call (laws_markSparse_g v156.2.1 v156.2.2.1 v156.2.2.2 (1 : Int)) fun v420 =>
          (.grd (decide (v420.2.1.length = v156.2.1.length)) <|
          (.grd (decide (v420.2.2.1.length = v156.2.2.1.length)) <|
          (.grd (decide (v420.2.2.2.length = v156.2.2.2.length)) <|
          (.call (laws_markFloat32S_g v157 v420.1) fun v421 =>
          (.grd (decide (v421.2.length = v157.length)) <|
          (.br (decide (v421.1 < (0 : Int))) (
           .leaf false
          ) (
           (.call (laws_eqFloat32S_g ([] : List Nat) ([] : List Nat)) fun v422 =>
           (.br (!v422) (
            .leaf false
           ) (
            (.br (!(false == false)) (
             .leaf false
            ) (
             (.call (laws_markFloat32S_i1_g (1 : Int)) fun v427 =>
             (.call (laws_heldFloat32S_g ([] : List Nat) (1 : Int)) fun v439 =>
             (.br (decide (v439 < (0 : Int))) (
              .leaf false
             ) (
              (.br (!decide (v439 = v427)) (
               .leaf false
              ) (
               (.call (laws_toSparse_g v1 v2 v3 v4) fun v440 =>
               (.call (laws_toFloat32S_g v5) fun v441 =>
               (.call (impl_SparseTimes_g v440.1 v440.2.1 v440.2.2.1 v440.2.2.2 v441) fun v442 =>
               (.sum v442 (fun v443 =>
                (.call (laws_eqFloat32S_g ([] : List Nat) ([] : List Nat)) fun v445 =>
                (.br (!v445) (
                 .leaf false
                ) (
                 (.br (!(false == false)) (
                  .leaf false
                 ) (
                  (.call (laws_heldFloat32S_g ([] : List Nat) (1 : Int)) fun v446 =>
                  (.br (decide (v446 < (0 : Int))) (
                   .leaf false
                  ) (
                   (.br (!decide (v446 = v427)) (
                    .leaf false
                   ) (
                    .leaf true
                   ))
                  )))
                 ))
                )))
               ) (fun v444 =>
                (.call (laws_eqFloat32S_g v444 ([] : List Nat)) fun v447 =>
                (.br (!v447) (
                 .leaf false
                ) (
                 (.br (!(true == false)) (
                  .leaf false
                 ) (
                  (.call (laws_heldFloat32S_g ([] : List Nat) (1 : Int)) fun v448 =>
                  (.br (decide (v448 < (0 : Int))) (
                   .leaf false
                  ) (
                   (.br (!decide (v448 = v427)) (
                    .leaf false
                   ) (
                    .leaf true
                   ))
                  )))
                 ))
                )))
               )))))
              ))
             ))))
            ))
           )))
          ))))))))
         ))))
        ))))
       ))
      )))
     ) (fun v329 =>
      (.call (laws_eqFloat32S_g v329 ([] : List Nat)) fun v449 =>
      (.br (!v449) (
       .leaf false
      ) (
       (.br (!(true == false)) (
        .leaf false
       ) (
        (.call (laws_toSparse_g v1 v2 v3 v4) fun v450 =>
        (.call (laws_eqSparse_g v156.1 v156.2.1 v156.2.2.1 v156.2.2.2 v450.1 v450.2.1 v450.2.2.1 v450.2.2.2) fun v451 =>
        (.br (!v451) (
         .leaf false
        ) (
         (.call (laws_toFloat32S_g v5) fun v452 =>
         (.call (laws_eqFloat32S_g v157 v452) fun v453 =>
         (.br (!v453) (
          .leaf false
         ) (
          (.call (laws_markSparse_g v156.2.1 v156.2.2.1 v156.2.2.2 (1 : Int)) fun v454 =>
          (.grd (decide (v454.2.1.length = v156.2.1.length)) <|
          (.grd (decide (v454.2.2.1.length = v156.2.2.1.length)) <|
          (.grd (decide (v454.2.2.2.length = v156.2.2.2.length)) <|
          (.call (laws_markFloat32S_g v157 v454.1) fun v455 =>
          (.grd (decide (v455.2.length = v157.length)) <|
          (.br (decide (v455.1 < (0 : Int))) (
           .leaf false
          ) (
           (.call (laws_eqFloat32S_g v329 ([] : List Nat)) fun v456 =>
           (.br (!v456) (
            .leaf false
           ) (
            (.br (!(true == false)) (
             .leaf false
            ) (
             (.call (laws_markFloat32S_g v329 (1 : Int)) fun v457 =>
             (.grd (decide (v457.2.length = v329.length)) <|
             (.call (laws_heldFloat32S_g v457.2 (1 : Int)) fun v458 =>
             (.br (decide (v458 < (0 : Int))) (
              .leaf false
             ) (
              (.br (!decide (v458 = v457.1)) (
               .leaf false
              ) (
               (.call (laws_toSparse_g v1 v2 v3 v4) fun v459 =>
               (.call (laws_toFloat32S_g v5) fun v460 =>
               (.call (impl_SparseTimes_g v459.1 v459.2.1 v459.2.2.1 v459.2.2.2 v460) fun v461 =>
               (.sum v461 (fun v462 =>
                (.call (laws_eqFloat32S_g ([] : List Nat) ([] : List Nat)) fun v464 =>
                (.br (!v464) (
                 .leaf false
                ) (
                 (.br (!(false == false)) (
                  .leaf false
                 ) (
                  (.call (laws_heldFloat32S_g v457.2 (1 : Int)) fun v465 =>
                  (.br (decide (v465 < (0 : Int))) (
                   .leaf false
                  ) (
                   (.br (!decide (v465 = v457.1)) (
                    .leaf false
                   ) (
                    .leaf true
                   ))
                  )))
                 ))
                )))
               ) (fun v463 =>
                (.call (laws_eqFloat32S_g v463 ([] : List Nat)) fun v466 =>
                (.br (!v466) (
                 .leaf false
                ) (
                 (.br (!(true == false)) (
                  .leaf false
                 ) (
                  (.call (laws_heldFloat32S_g v457.2 (1 : Int)) fun v467 =>
                  (.br (decide (v467 < (0 : Int))) (
                   .leaf false
                  ) (
                   (.br (!decide (v467 = v457.1)) (
                    .leaf false
                   ) (
                    .leaf true
                   ))
                  )))
                 ))
                )))
               )))))
              ))
             )))))
            ))
           )))
          ))))))))
         ))))
        ))))
       ))
      )))
     )))))
    ) (fun v155 =>
     (.call (laws_toSparse_g v1 v2 v3 v4) fun v468 =>
     (.call (laws_toFloat32S_g v5) fun v469 =>
     (.call (impl_SparseTimes_g v468.1 v468.2.1 v468.2.2.1 v468.2.2.2 v469) fun v470 =>
     (.sum v470 (fun v471 =>
      (.call (laws_eqFloat32S_g ([] : List Nat) v155) fun v473 =>
      (.br (!v473) (
       .leaf false
      ) (
       (.br (!(false == true)) (
        .leaf false
       ) (
        (.call (laws_toSparse_g v1 v2 v3 v4) fun v474 =>
        (.call (laws_eqSparse_g v468.1 v468.2.1 v468.2.2.1 v468.2.2.2 v474.1 v474.2.1 v474.2.2.1 v474.2.2.2) fun v475 =>
        (.br (!v475) (
         .leaf false
        ) (
         (.call (laws_toFloat32S_g v5) fun v476 =>
         (.call (laws_eqFloat32S_g v469 v476) fun v477 =>
         (.br (!v477) (
          .leaf false
         ) (
          (.call (laws_markSparse_g v468.2.1 v468.2.2.1 v468.2.2.2 (1 : Int)) fun v478 =>
          (.grd (decide (v478.2.1.length = v468.2.1.length)) <|
          (.grd (decide (v478.2.2.1.length = v468.2.2.1.length)) <|
          (.grd (decide (v478.2.2.2.length = v468.2.2.2.length)) <|
          (.call (laws_markFloat32S_g v469 v478.1) fun v479 =>
          (.grd (decide (v479.2.length = v469.length)) <|
          (.br (decide (v479.1 < (0 : Int))) (
           .leaf false
          ) (
           (.call (laws_eqFloat32S_g ([] : List Nat) v155) fun v480 =>
           (.br (!v480) (
            .leaf false
           ) (
            (.br (!(false == true)) (
             .leaf false
            ) (
             (.call (laws_markFloat32S_i1_g (1 : Int)) fun v481 =>
             (.call (laws_heldFloat32S_g ([] : List Nat) (1 : Int)) fun v482 =>
             (.br (decide (v482 < (0 : Int))) (
              .leaf false
             ) (
              (.br (!decide (v482 = v481)) (
               .leaf false
              ) (
               (.call (laws_toSparse_g v1 v2 v3 v4) fun v483 =>
               (.call (laws_toFloat32S_g v5) fun v484 =>
               (.call (impl_SparseTimes_g v483.1 v483.2.1 v483.2.2.1 v483.2.2.2 v484) fun v485 =>
               (.sum v485 (fun v486 =>
                (.call (laws_eqFloat32S_g ([] : List Nat) v155) fun v488 =>
                (.br (!v488) (
                 .leaf false
                ) (
                 (.br (!(false == true)) (
                  .leaf false
                 ) (
                  (.call (laws_heldFloat32S_g ([] : List Nat) (1 : Int)) fun v489 =>
                  (.br (decide (v489 < (0 : Int))) (
                   .leaf false
                  ) (
                   (.br (!decide (v489 = v481)) (
                    .leaf false
                   ) (
                    .leaf true
                   ))
                  )))
                 ))
                )))
               ) (fun v487 =>
                (.call (laws_eqFloat32S_g v487 v155) fun v490 =>
                (.br (!v490) (
                 .leaf false
                ) (
                 (.br (!(true == true)) (
                  .leaf false
                 ) (
                  (.call (laws_heldFloat32S_g ([] : List Nat) (1 : Int)) fun v491 =>
                  (.br (decide (v491 < (0 : Int))) (
                   .leaf false
                  ) (
                   (.br (!decide (v491 = v481)) (
                    .leaf false
                   ) (
                    .leaf true
                   ))
                  )))
                 ))
                )))
               )))))
              ))
             ))))
            ))
           )))
          ))))))))
         ))))
        ))))
       ))
      )))
     ) (fun v472 =>
      (.call (laws_eqFloat32S_g v472 v155) fun v492 =>
      (.br (!v492) (
       .leaf false
      ) (
       (.br (!(true == true)) (
        .leaf false
       ) (
        (.call (laws_toSparse_g v1 v2 v3 v4) fun v493 =>
        (.call (laws_eqSparse_g v468.1 v468.2.1 v468.2.2.1 v468.2.2.2 v493.1 v493.2.1 v493.2.2.1 v493.2.2.2) fun v494 =>
        (.br (!v494) (
         .leaf false
        ) (
         (.call (laws_toFloat32S_g v5) fun v495 =>
         (.call (laws_eqFloat32S_g v469 v495) fun v496 =>
         (.br (!v496) (
          .leaf false
         ) (
          (.call (laws_markSparse_g v468.2.1 v468.2.2.1 v468.2.2.2 (1 : Int)) fun v497 =>
          (.grd (decide (v497.2.1.length = v468.2.1.length)) <|
          (.grd (decide (v497.2.2.1.length = v468.2.2.1.length)) <|
          (.grd (decide (v497.2.2.2.length = v468.2.2.2.length)) <|
          (.call (laws_markFloat32S_g v469 v497.1) fun v498 =>
          (.grd (decide (v498.2.length = v469.length)) <|
          (.br (decide (v498.1 < (0 : Int))) (
           .leaf false
          ) (
           (.call (laws_eqFloat32S_g v472 v155) fun v499 =>
           (.br (!v499) (
            .leaf false
           ) (
            (.br (!(true == true)) (
             .leaf false
            ) (
             (.call (laws_markFloat32S_g v472 (1 : Int)) fun v500 =>
             (.grd (decide (v500.2.length = v472.length)) <|
             (.call (laws_heldFloat32S_g v500.2 (1 : Int)) fun v501 =>
             (.br (decide (v501 < (0 : Int))) (
              .leaf false
             ) (
              (.br (!decide (v501 = v500.1)) (
               .leaf false
              ) (
               (.call (laws_toSparse_g v1 v2 v3 v4) fun v502 =>
               (.call (laws_toFloat32S_g v5) fun v503 =>
               (.call (impl_SparseTimes_g v502.1 v502.2.1 v502.2.2.1 v502.2.2.2 v503) fun v504 =>
               (.sum v504 (fun v505 =>
                (.call (laws_eqFloat32S_g ([] : List Nat) v155) fun v507 =>
                (.br (!v507) (
                 .leaf false
                ) (
                 (.br (!(false == true)) (
                  .leaf false
                 ) (
                  (.call (laws_heldFloat32S_g v500.2 (1 : Int)) fun v508 =>
                  (.br (decide (v508 < (0 : Int))) (
                   .leaf false
                  ) (
                   (.br (!decide (v508 = v500.1)) (
                    .leaf false
                   ) (
                    .leaf true
                   ))
                  )))
                 ))
                )))
               ) (fun v506 =>
                (.call (laws_eqFloat32S_g v506 v155) fun v509 =>
                (.br (!v509) (
                 .leaf false
                ) (
                 (.br (!(true == true)) (
                  .leaf false
                 ) (
                  (.call (laws_heldFloat32S_g v500.2 (1 : Int)) fun v510 =>
                  (.br (decide (v510 < (0 : Int))) (
                   .leaf false
                  ) (
                   (.br (!decide (v510 = v500.1)) (
                    .leaf false
                   ) (
                    .leaf true
                   ))
                  )))
                 ))
                )))
               )))))
              ))
             )))))
            ))
           )))
          ))))))))
         ))))
        ))))
       ))
      )))
     )))))
    )))))
   ))
  ))

noncomputable def laws_FnExactSparseTimes_g (v1 : Int) (v2 : List Int) (v3 : List Int) (v4 : List Nat) (v5 : List Nat) : Option (Bool) := (laws_FnExactSparseTimes_T v1 v2 v3 v4 v5).run
def laws_FnExactSparseTimes_enc (v1 : Int) (v2 : List Int) (v3 : List Int) (v4 : List Nat) (v5 : List Nat) (y : Bool) : Rs := (.bool y, [])
theorem laws_FnExactSparseTimes_den (v1 : Int) (v2 : List Int) (v3 : List Int) (v4 : List Nat) (v5 : List Nat) : (den TT (tabD laws_FnExactSparseTimes_tab) (tabM laws_FnExactSparseTimes_tab) (laws_FnExactSparseTimes_LO v1 v2 v3 v4 v5) (codeOf Try.f3) ([.agg [.int .i64 v1, .bslc (BR.root 0) (.i64 v2), .bslc (BR.root 1) (.i64 v3), .bslc (BR.root 2) (.f32 v4)], .bslc (BR.root 3) (.f32 v5)] ++ List.replicate (Try.f3.ntmps - ([.agg [.int .i64 v1, .bslc (BR.root 0) (.i64 v2), .bslc (BR.root 1) (.i64 v3), .bslc (BR.root 2) (.f32 v4)], .bslc (BR.root 3) (.f32 v5)] : List DV).length) .undef) []).bind (retD TT Try.f3.results.toList 0) = (laws_FnExactSparseTimes_T v1 v2 v3 v4 v5).bind fun y => .leaf (laws_FnExactSparseTimes_enc v1 v2 v3 v4 v5 y) := by kernel_rfl
theorem laws_FnExactSparseTimes_fn (v1 : Int) (v2 : List Int) (v3 : List Int) (v4 : List Nat) (v5 : List Nat) (F : Fr) (hm : F.ids.length = 0) (h0 : St F [] F.H0) (hA : DVs.Ok F [] [.agg [.int .i64 v1, .bslc (BR.root 0) (.i64 v2), .bslc (BR.root 1) (.i64 v3), .bslc (BR.root 2) (.f32 v4)], .bslc (BR.root 3) (.f32 v5)]) {y : Bool} (hy : laws_FnExactSparseTimes_g v1 v2 v3 v4 v5 = some y) : ∃ H', FnOk Try.prog 3 (DVs.av F [.agg [.int .i64 v1, .bslc (BR.root 0) (.i64 v2), .bslc (BR.root 1) (.i64 v3), .bslc (BR.root 2) (.f32 v4)], .bslc (BR.root 3) (.f32 v5)]) F.H0 ((laws_FnExactSparseTimes_enc v1 v2 v3 v4 v5 y).1.av F) H' ∧ St F (laws_FnExactSparseTimes_enc v1 v2 v3 v4 v5 y).2 H' ∧ (laws_FnExactSparseTimes_enc v1 v2 v3 v4 v5 y).1.Ok F (laws_FnExactSparseTimes_enc v1 v2 v3 v4 v5 y).2 :=
  fn_fin tok laws_FnExactSparseTimes_hO mixed Try.func3 Try.call3 (by kernel_rfl) (LoopsOk_eq (l := []) (by kernel_rfl) trivial) (laws_FnExactSparseTimes_den v1 v2 v3 v4 v5) hy hm h0 hA
noncomputable def laws_FnExactSparseTimes_F : DFn := fun args L =>
  match args with
  | [.agg [.int .i64 v1, a1, a2, a3], a4] =>
    optT (rowI64 L a1) fun v2 =>
    optT (rowI64 L a2) fun v3 =>
    optT (rowF32 L a3) fun v4 =>
    optT (rowF32 L a4) fun v5 =>
    .call (laws_FnExactSparseTimes_g v1 v2 v3 v4 v5) fun y => .leaf (.bool y, L)
  | _ => .fail
theorem laws_FnExactSparseTimes_Fok : COk Try.prog 3 laws_FnExactSparseTimes_F true := by
  intro F L H args r L' hs ha hr
  unfold laws_FnExactSparseTimes_F at hr
  split at hr
  · rename_i v1 a1 a2 a3 a4
    obtain ⟨v2, hv2, hr⟩ := optT_run hr
    obtain ⟨v3, hv3, hr⟩ := optT_run hr
    obtain ⟨v4, hv4, hr⟩ := optT_run hr
    obtain ⟨v5, hv5, hr⟩ := optT_run hr
    simp only [Tree.run] at hr
    obtain ⟨y, hy, hr⟩ := Option.bind_eq_some_iff.1 hr
    simp only [Tree.run, Option.some.injEq, Prod.mk.injEq] at hr
    obtain ⟨rfl, rfl⟩ := hr
    exact call_ok0 hs (fun k => (([a1.av F, a2.av F, a3.av F, a4.av F] : List AV)[k]?).getD .top) [.agg [.int .i64 v1, a1, a2, a3], a4] [.agg [.int .i64 v1, .bslc (BR.root 0) (.i64 v2), .bslc (BR.root 1) (.i64 v3), .bslc (BR.root 2) (.f32 v4)], .bslc (BR.root 3) (.f32 v5)] (fun F' h0 hi hρ => ⟨by simp [DVs.av, DV.av, BR.av, hρ], laws_FnExactSparseTimes_fn v1 v2 v3 v4 v5 F' (by rw [hi]; rfl) (st_nil hi) ⟨⟨trivial, bslc_ok hi (by rw [h0, hρ]; exact rowI64_ok hs (DVs.okAt (DVs.okAt ha 0 rfl) 1 rfl) hv2), bslc_ok hi (by rw [h0, hρ]; exact rowI64_ok hs (DVs.okAt (DVs.okAt ha 0 rfl) 2 rfl) hv3), bslc_ok hi (by rw [h0, hρ]; exact rowF32_ok hs (DVs.okAt (DVs.okAt ha 0 rfl) 3 rfl) hv4), trivial⟩, bslc_ok hi (by rw [h0, hρ]; exact rowF32_ok hs (DVs.okAt ha 1 rfl) hv5), trivial⟩ hy⟩) rfl
  · cases hr
/-! laws.szInt64S -/
noncomputable def laws_szInt64S_len_LO (v521 : Nat) (v522 : Int) : LOr := fun id e L =>
  match id with
  | _ => .fail
noncomputable def laws_szInt64S_len_tab : List (FuncId × DFn × Bool) := []
theorem laws_szInt64S_len_hO : OrcOk Try.prog (tabD laws_szInt64S_len_tab) (tabM laws_szInt64S_len_tab) := tabD_nil _
noncomputable def laws_szInt64S_len_T (v521 : Nat) (v522 : Int) : Tree (Int) :=
  (.br (decide (IntKind.i64.wrap (v522 - ((v521 : Nat) : Int)) < (0 : Int))) (
   .leaf (-1 : Int)
  ) (
   .leaf (IntKind.i64.wrap (v522 - ((v521 : Nat) : Int)))
  ))

noncomputable def laws_szInt64S_len_g (v521 : Nat) (v522 : Int) : Option (Int) := (laws_szInt64S_len_T v521 v522).run
def laws_szInt64S_len_enc (v521 : Nat) (v522 : Int) (y : Int) : Rs := (.int .i64 y, [])
theorem laws_szInt64S_len_den (v521 : Nat) (v522 : Int) : (den TT (tabD laws_szInt64S_len_tab) (tabM laws_szInt64S_len_tab) (laws_szInt64S_len_LO v521 v522) (codeOf Try.f63) ([.hslc (BR.root 0) v521, .int .i64 v522] ++ List.replicate (Try.f63.ntmps - ([.hslc (BR.root 0) v521, .int .i64 v522] : List DV).length) .undef) []).bind (retD TT Try.f63.results.toList 0) = (laws_szInt64S_len_T v521 v522).bind fun y => .leaf (laws_szInt64S_len_enc v521 v522 y) := by kernel_rfl
theorem laws_szInt64S_len_fn (v521 : Nat) (v522 : Int) (F : Fr) (hm : F.ids.length = 0) (h0 : St F [] F.H0) (hA : DVs.Ok F [] [.hslc (BR.root 0) v521, .int .i64 v522]) {y : Int} (hy : laws_szInt64S_len_g v521 v522 = some y) : ∃ H', FnOk Try.prog 63 (DVs.av F [.hslc (BR.root 0) v521, .int .i64 v522]) F.H0 ((laws_szInt64S_len_enc v521 v522 y).1.av F) H' ∧ St F (laws_szInt64S_len_enc v521 v522 y).2 H' ∧ (laws_szInt64S_len_enc v521 v522 y).1.Ok F (laws_szInt64S_len_enc v521 v522 y).2 :=
  fn_fin tok laws_szInt64S_len_hO mixed Try.func63 Try.call63 (by kernel_rfl) (LoopsOk_eq (l := []) (by kernel_rfl) trivial) (laws_szInt64S_len_den v521 v522) hy hm h0 hA
def laws_szInt64S_len_v (v521 : Nat) (v522 : Int) : Int :=
  if (decide (IntKind.i64.wrap (v522 - ((v521 : Nat) : Int)) < (0 : Int))) = true then (
   (-1 : Int)
  ) else (
   IntKind.i64.wrap (v522 - ((v521 : Nat) : Int))
  )
theorem laws_szInt64S_len_tot (v521 : Nat) (v522 : Int) : laws_szInt64S_len_g v521 v522 = some (laws_szInt64S_len_v v521 v522) := by
  unfold laws_szInt64S_len_g laws_szInt64S_len_T laws_szInt64S_len_v
  simp only [Tree.run]
  repeat' (first | rfl | split)
noncomputable def laws_szInt64S_len_F : DFn := fun args L =>
  match args with
  | [a1, .int .i64 v522] =>
    optT (lenV L a1) fun v521 =>
    .leaf (.int .i64 (laws_szInt64S_len_v v521 v522), L)
  | _ => .fail
theorem laws_szInt64S_len_Fok : COk Try.prog 63 laws_szInt64S_len_F true := by
  intro F L H args r L' hs ha hr
  unfold laws_szInt64S_len_F at hr
  split at hr
  · rename_i a1 v522
    obtain ⟨v521, hv521, hr⟩ := optT_run hr
    have hy := laws_szInt64S_len_tot v521 v522
    generalize laws_szInt64S_len_v v521 v522 = y at hy hr
    simp only [Tree.run, Option.some.injEq, Prod.mk.injEq] at hr
    obtain ⟨rfl, rfl⟩ := hr
    exact call_ok0 hs (fun k => (([a1.av F] : List AV)[k]?).getD .top) [a1, .int .i64 v522] [.hslc (BR.root 0) v521, .int .i64 v522] (fun F' h0 hi hρ => ⟨by simp [DVs.av, DV.av, BR.av, hρ], laws_szInt64S_len_fn v521 v522 F' (by rw [hi]; rfl) (st_nil hi) ⟨hslc_ok hi (by rw [h0, hρ]; exact lenV_ok hs (DVs.okAt ha 0 rfl) hv521), trivial, trivial⟩ hy⟩) rfl
  · cases hr
/-! laws.szFloat32S -/
noncomputable def laws_szFloat32S_len_LO (v523 : Nat) (v524 : Int) : LOr := fun id e L =>
  match id with
  | _ => .fail
noncomputable def laws_szFloat32S_len_tab : List (FuncId × DFn × Bool) := []
theorem laws_szFloat32S_len_hO : OrcOk Try.prog (tabD laws_szFloat32S_len_tab) (tabM laws_szFloat32S_len_tab) := tabD_nil _
noncomputable def laws_szFloat32S_len_T (v523 : Nat) (v524 : Int) : Tree (Int) :=
  (.br (decide (IntKind.i64.wrap (v524 - ((v523 : Nat) : Int)) < (0 : Int))) (
   .leaf (-1 : Int)
  ) (
   .leaf (IntKind.i64.wrap (v524 - ((v523 : Nat) : Int)))
  ))

noncomputable def laws_szFloat32S_len_g (v523 : Nat) (v524 : Int) : Option (Int) := (laws_szFloat32S_len_T v523 v524).run
def laws_szFloat32S_len_enc (v523 : Nat) (v524 : Int) (y : Int) : Rs := (.int .i64 y, [])
theorem laws_szFloat32S_len_den (v523 : Nat) (v524 : Int) : (den TT (tabD laws_szFloat32S_len_tab) (tabM laws_szFloat32S_len_tab) (laws_szFloat32S_len_LO v523 v524) (codeOf Try.f64) ([.hslc (BR.root 0) v523, .int .i64 v524] ++ List.replicate (Try.f64.ntmps - ([.hslc (BR.root 0) v523, .int .i64 v524] : List DV).length) .undef) []).bind (retD TT Try.f64.results.toList 0) = (laws_szFloat32S_len_T v523 v524).bind fun y => .leaf (laws_szFloat32S_len_enc v523 v524 y) := by kernel_rfl
theorem laws_szFloat32S_len_fn (v523 : Nat) (v524 : Int) (F : Fr) (hm : F.ids.length = 0) (h0 : St F [] F.H0) (hA : DVs.Ok F [] [.hslc (BR.root 0) v523, .int .i64 v524]) {y : Int} (hy : laws_szFloat32S_len_g v523 v524 = some y) : ∃ H', FnOk Try.prog 64 (DVs.av F [.hslc (BR.root 0) v523, .int .i64 v524]) F.H0 ((laws_szFloat32S_len_enc v523 v524 y).1.av F) H' ∧ St F (laws_szFloat32S_len_enc v523 v524 y).2 H' ∧ (laws_szFloat32S_len_enc v523 v524 y).1.Ok F (laws_szFloat32S_len_enc v523 v524 y).2 :=
  fn_fin tok laws_szFloat32S_len_hO mixed Try.func64 Try.call64 (by kernel_rfl) (LoopsOk_eq (l := []) (by kernel_rfl) trivial) (laws_szFloat32S_len_den v523 v524) hy hm h0 hA
def laws_szFloat32S_len_v (v523 : Nat) (v524 : Int) : Int :=
  if (decide (IntKind.i64.wrap (v524 - ((v523 : Nat) : Int)) < (0 : Int))) = true then (
   (-1 : Int)
  ) else (
   IntKind.i64.wrap (v524 - ((v523 : Nat) : Int))
  )
theorem laws_szFloat32S_len_tot (v523 : Nat) (v524 : Int) : laws_szFloat32S_len_g v523 v524 = some (laws_szFloat32S_len_v v523 v524) := by
  unfold laws_szFloat32S_len_g laws_szFloat32S_len_T laws_szFloat32S_len_v
  simp only [Tree.run]
  repeat' (first | rfl | split)
noncomputable def laws_szFloat32S_len_F : DFn := fun args L =>
  match args with
  | [a1, .int .i64 v524] =>
    optT (lenV L a1) fun v523 =>
    .leaf (.int .i64 (laws_szFloat32S_len_v v523 v524), L)
  | _ => .fail
theorem laws_szFloat32S_len_Fok : COk Try.prog 64 laws_szFloat32S_len_F true := by
  intro F L H args r L' hs ha hr
  unfold laws_szFloat32S_len_F at hr
  split at hr
  · rename_i a1 v524
    obtain ⟨v523, hv523, hr⟩ := optT_run hr
    have hy := laws_szFloat32S_len_tot v523 v524
    generalize laws_szFloat32S_len_v v523 v524 = y at hy hr
    simp only [Tree.run, Option.some.injEq, Prod.mk.injEq] at hr
    obtain ⟨rfl, rfl⟩ := hr
    exact call_ok0 hs (fun k => (([a1.av F] : List AV)[k]?).getD .top) [a1, .int .i64 v524] [.hslc (BR.root 0) v523, .int .i64 v524] (fun F' h0 hi hρ => ⟨by simp [DVs.av, DV.av, BR.av, hρ], laws_szFloat32S_len_fn v523 v524 F' (by rw [hi]; rfl) (st_nil hi) ⟨hslc_ok hi (by rw [h0, hρ]; exact lenV_ok hs (DVs.okAt ha 0 rfl) hv523), trivial, trivial⟩ hy⟩) rfl
  · cases hr
/-! laws.szSparse -/
noncomputable def laws_szSparse_len_LO (v516 : Int) (v517 : Nat) (v518 : Nat) (v519 : Nat) (v520 : Int) : LOr := fun id e L =>
  match id with
  | _ => .fail
noncomputable def laws_szSparse_len_tab : List (FuncId × DFn × Bool) := [(63, laws_szInt64S_len_F, true), (64, laws_szFloat32S_len_F, true)]
theorem laws_szSparse_len_hO : OrcOk Try.prog (tabD laws_szSparse_len_tab) (tabM laws_szSparse_len_tab) := tabD_cons laws_szInt64S_len_Fok (tabD_cons laws_szFloat32S_len_Fok (tabD_nil _))
noncomputable def laws_szSparse_len_T (v517 : Nat) (v518 : Nat) (v519 : Nat) (v520 : Int) : Tree (Int) :=
  (.br (decide ((laws_szInt64S_len_v v517 v520) < (0 : Int))) (
   .leaf (-1 : Int)
  ) (
   (.br (decide ((laws_szInt64S_len_v v518 (laws_szInt64S_len_v v517 v520)) < (0 : Int))) (
    .leaf (-1 : Int)
   ) (
    (.br (decide ((laws_szFloat32S_len_v v519 (laws_szInt64S_len_v v518 (laws_szInt64S_len_v v517 v520))) < (0 : Int))) (
     .leaf (-1 : Int)
    ) (
     .leaf (laws_szFloat32S_len_v v519 (laws_szInt64S_len_v v518 (laws_szInt64S_len_v v517 v520)))
    ))
   ))
  ))

noncomputable def laws_szSparse_len_g (v517 : Nat) (v518 : Nat) (v519 : Nat) (v520 : Int) : Option (Int) := (laws_szSparse_len_T v517 v518 v519 v520).run
def laws_szSparse_len_enc (v516 : Int) (v517 : Nat) (v518 : Nat) (v519 : Nat) (v520 : Int) (y : Int) : Rs := (.int .i64 y, [])
theorem laws_szSparse_len_den (v516 : Int) (v517 : Nat) (v518 : Nat) (v519 : Nat) (v520 : Int) : (den TT (tabD laws_szSparse_len_tab) (tabM laws_szSparse_len_tab) (laws_szSparse_len_LO v516 v517 v518 v519 v520) (codeOf Try.f15) ([.agg [.int .i64 v516, .hslc (BR.root 0) v517, .hslc (BR.root 1) v518, .hslc (BR.root 2) v519], .int .i64 v520] ++ List.replicate (Try.f15.ntmps - ([.agg [.int .i64 v516, .hslc (BR.root 0) v517, .hslc (BR.root 1) v518, .hslc (BR.root 2) v519], .int .i64 v520] : List DV).length) .undef) []).bind (retD TT Try.f15.results.toList 0) = (laws_szSparse_len_T v517 v518 v519 v520).bind fun y => .leaf (laws_szSparse_len_enc v516 v517 v518 v519 v520 y) := by kernel_rfl
theorem laws_szSparse_len_fn (v516 : Int) (v517 : Nat) (v518 : Nat) (v519 : Nat) (v520 : Int) (F : Fr) (hm : F.ids.length = 0) (h0 : St F [] F.H0) (hA : DVs.Ok F [] [.agg [.int .i64 v516, .hslc (BR.root 0) v517, .hslc (BR.root 1) v518, .hslc (BR.root 2) v519], .int .i64 v520]) {y : Int} (hy : laws_szSparse_len_g v517 v518 v519 v520 = some y) : ∃ H', FnOk Try.prog 15 (DVs.av F [.agg [.int .i64 v516, .hslc (BR.root 0) v517, .hslc (BR.root 1) v518, .hslc (BR.root 2) v519], .int .i64 v520]) F.H0 ((laws_szSparse_len_enc v516 v517 v518 v519 v520 y).1.av F) H' ∧ St F (laws_szSparse_len_enc v516 v517 v518 v519 v520 y).2 H' ∧ (laws_szSparse_len_enc v516 v517 v518 v519 v520 y).1.Ok F (laws_szSparse_len_enc v516 v517 v518 v519 v520 y).2 :=
  fn_fin tok laws_szSparse_len_hO mixed Try.func15 Try.call15 (by kernel_rfl) (LoopsOk_eq (l := []) (by kernel_rfl) trivial) (laws_szSparse_len_den v516 v517 v518 v519 v520) hy hm h0 hA
def laws_szSparse_len_v (v517 : Nat) (v518 : Nat) (v519 : Nat) (v520 : Int) : Int :=
  if (decide ((laws_szInt64S_len_v v517 v520) < (0 : Int))) = true then (
   (-1 : Int)
  ) else (
   if (decide ((laws_szInt64S_len_v v518 (laws_szInt64S_len_v v517 v520)) < (0 : Int))) = true then (
    (-1 : Int)
   ) else (
    if (decide ((laws_szFloat32S_len_v v519 (laws_szInt64S_len_v v518 (laws_szInt64S_len_v v517 v520))) < (0 : Int))) = true then (
     (-1 : Int)
    ) else (
     (laws_szFloat32S_len_v v519 (laws_szInt64S_len_v v518 (laws_szInt64S_len_v v517 v520)))
    )
   )
  )
theorem laws_szSparse_len_tot (v517 : Nat) (v518 : Nat) (v519 : Nat) (v520 : Int) : laws_szSparse_len_g v517 v518 v519 v520 = some (laws_szSparse_len_v v517 v518 v519 v520) := by
  unfold laws_szSparse_len_g laws_szSparse_len_T laws_szSparse_len_v
  simp only [Tree.run]
  repeat' (first | rfl | split)
noncomputable def laws_szSparse_len_F : DFn := fun args L =>
  match args with
  | [.agg [.int .i64 v516, a1, a2, a3], .int .i64 v520] =>
    optT (lenV L a1) fun v517 =>
    optT (lenV L a2) fun v518 =>
    optT (lenV L a3) fun v519 =>
    .leaf (.int .i64 (laws_szSparse_len_v v517 v518 v519 v520), L)
  | _ => .fail
theorem laws_szSparse_len_Fok : COk Try.prog 15 laws_szSparse_len_F true := by
  intro F L H args r L' hs ha hr
  unfold laws_szSparse_len_F at hr
  split at hr
  · rename_i v516 a1 a2 a3 v520
    obtain ⟨v517, hv517, hr⟩ := optT_run hr
    obtain ⟨v518, hv518, hr⟩ := optT_run hr
    obtain ⟨v519, hv519, hr⟩ := optT_run hr
    have hy := laws_szSparse_len_tot v517 v518 v519 v520
    generalize laws_szSparse_len_v v517 v518 v519 v520 = y at hy hr
    simp only [Tree.run, Option.some.injEq, Prod.mk.injEq] at hr
    obtain ⟨rfl, rfl⟩ := hr
    exact call_ok0 hs (fun k => (([a1.av F, a2.av F, a3.av F] : List AV)[k]?).getD .top) [.agg [.int .i64 v516, a1, a2, a3], .int .i64 v520] [.agg [.int .i64 v516, .hslc (BR.root 0) v517, .hslc (BR.root 1) v518, .hslc (BR.root 2) v519], .int .i64 v520] (fun F' h0 hi hρ => ⟨by simp [DVs.av, DV.av, BR.av, hρ], laws_szSparse_len_fn v516 v517 v518 v519 v520 F' (by rw [hi]; rfl) (st_nil hi) ⟨⟨trivial, hslc_ok hi (by rw [h0, hρ]; exact lenV_ok hs (DVs.okAt (DVs.okAt ha 0 rfl) 1 rfl) hv517), hslc_ok hi (by rw [h0, hρ]; exact lenV_ok hs (DVs.okAt (DVs.okAt ha 0 rfl) 2 rfl) hv518), hslc_ok hi (by rw [h0, hρ]; exact lenV_ok hs (DVs.okAt (DVs.okAt ha 0 rfl) 3 rfl) hv519), trivial⟩, trivial, trivial⟩ hy⟩) rfl
  · cases hr
/-! laws.FnExactSparseTimes -/
noncomputable def laws_FnExactSparseTimes_len_LO (v511 : Int) (v512 : Nat) (v513 : Nat) (v514 : Nat) (v515 : Nat) : LOr := fun id e L =>
  match id with
  | _ => .fail
noncomputable def laws_FnExactSparseTimes_len_tab : List (FuncId × DFn × Bool) := [(15, laws_szSparse_len_F, true)]
theorem laws_FnExactSparseTimes_len_hO : OrcOk Try.prog (tabD laws_FnExactSparseTimes_len_tab) (tabM laws_FnExactSparseTimes_len_tab) := tabD_cons laws_szSparse_len_Fok (tabD_nil _)
noncomputable def laws_FnExactSparseTimes_len_T (v512 : Nat) (v513 : Nat) (v514 : Nat) (v515 : Nat) : Tree (Bool) :=
  (.br (decide ((1048576 : Int) < ((v515 : Nat) : Int))) (
   .leaf true
  ) (
   (.br (decide ((laws_szSparse_len_v v512 v513 v514 (1048576 : Int)) < (0 : Int))) (
    .leaf true
   ) (
    .fail
   ))
  ))

noncomputable def laws_FnExactSparseTimes_len_g (v512 : Nat) (v513 : Nat) (v514 : Nat) (v515 : Nat) : Option (Bool) := (laws_FnExactSparseTimes_len_T v512 v513 v514 v515).run
def laws_FnExactSparseTimes_len_enc (v511 : Int) (v512 : Nat) (v513 : Nat) (v514 : Nat) (v515 : Nat) (y : Bool) : Rs := (.bool y, [])
theorem laws_FnExactSparseTimes_len_den (v511 : Int) (v512 : Nat) (v513 : Nat) (v514 : Nat) (v515 : Nat) : (den TT (tabD laws_FnExactSparseTimes_len_tab) (tabM laws_FnExactSparseTimes_len_tab) (laws_FnExactSparseTimes_len_LO v511 v512 v513 v514 v515) (codeOf Try.f3) ([.agg [.int .i64 v511, .hslc (BR.root 0) v512, .hslc (BR.root 1) v513, .hslc (BR.root 2) v514], .hslc (BR.root 3) v515] ++ List.replicate (Try.f3.ntmps - ([.agg [.int .i64 v511, .hslc (BR.root 0) v512, .hslc (BR.root 1) v513, .hslc (BR.root 2) v514], .hslc (BR.root 3) v515] : List DV).length) .undef) []).bind (retD TT Try.f3.results.toList 0) = (laws_FnExactSparseTimes_len_T v512 v513 v514 v515).bind fun y => .leaf (laws_FnExactSparseTimes_len_enc v511 v512 v513 v514 v515 y) := by kernel_rfl
theorem laws_FnExactSparseTimes_len_fn (v511 : Int) (v512 : Nat) (v513 : Nat) (v514 : Nat) (v515 : Nat) (F : Fr) (hm : F.ids.length = 0) (h0 : St F [] F.H0) (hA : DVs.Ok F [] [.agg [.int .i64 v511, .hslc (BR.root 0) v512, .hslc (BR.root 1) v513, .hslc (BR.root 2) v514], .hslc (BR.root 3) v515]) {y : Bool} (hy : laws_FnExactSparseTimes_len_g v512 v513 v514 v515 = some y) : ∃ H', FnOk Try.prog 3 (DVs.av F [.agg [.int .i64 v511, .hslc (BR.root 0) v512, .hslc (BR.root 1) v513, .hslc (BR.root 2) v514], .hslc (BR.root 3) v515]) F.H0 ((laws_FnExactSparseTimes_len_enc v511 v512 v513 v514 v515 y).1.av F) H' ∧ St F (laws_FnExactSparseTimes_len_enc v511 v512 v513 v514 v515 y).2 H' ∧ (laws_FnExactSparseTimes_len_enc v511 v512 v513 v514 v515 y).1.Ok F (laws_FnExactSparseTimes_len_enc v511 v512 v513 v514 v515 y).2 :=
  fn_fin tok laws_FnExactSparseTimes_len_hO mixed Try.func3 Try.call3 (by kernel_rfl) (LoopsOk_eq (l := []) (by kernel_rfl) trivial) (laws_FnExactSparseTimes_len_den v511 v512 v513 v514 v515) hy hm h0 hA
noncomputable def laws_FnExactSparseTimes_len_F : DFn := fun args L =>
  match args with
  | [.agg [.int .i64 v511, a1, a2, a3], a4] =>
    optT (lenV L a1) fun v512 =>
    optT (lenV L a2) fun v513 =>
    optT (lenV L a3) fun v514 =>
    optT (lenV L a4) fun v515 =>
    .call (laws_FnExactSparseTimes_len_g v512 v513 v514 v515) fun y => .leaf (.bool y, L)
  | _ => .fail
theorem laws_FnExactSparseTimes_len_Fok : COk Try.prog 3 laws_FnExactSparseTimes_len_F true := by
  intro F L H args r L' hs ha hr
  unfold laws_FnExactSparseTimes_len_F at hr
  split at hr
  · rename_i v511 a1 a2 a3 a4
    obtain ⟨v512, hv512, hr⟩ := optT_run hr
    obtain ⟨v513, hv513, hr⟩ := optT_run hr
    obtain ⟨v514, hv514, hr⟩ := optT_run hr
    obtain ⟨v515, hv515, hr⟩ := optT_run hr
    simp only [Tree.run] at hr
    obtain ⟨y, hy, hr⟩ := Option.bind_eq_some_iff.1 hr
    simp only [Tree.run, Option.some.injEq, Prod.mk.injEq] at hr
    obtain ⟨rfl, rfl⟩ := hr
    exact call_ok0 hs (fun k => (([a1.av F, a2.av F, a3.av F, a4.av F] : List AV)[k]?).getD .top) [.agg [.int .i64 v511, a1, a2, a3], a4] [.agg [.int .i64 v511, .hslc (BR.root 0) v512, .hslc (BR.root 1) v513, .hslc (BR.root 2) v514], .hslc (BR.root 3) v515] (fun F' h0 hi hρ => ⟨by simp [DVs.av, DV.av, BR.av, hρ], laws_FnExactSparseTimes_len_fn v511 v512 v513 v514 v515 F' (by rw [hi]; rfl) (st_nil hi) ⟨⟨trivial, hslc_ok hi (by rw [h0, hρ]; exact lenV_ok hs (DVs.okAt (DVs.okAt ha 0 rfl) 1 rfl) hv512), hslc_ok hi (by rw [h0, hρ]; exact lenV_ok hs (DVs.okAt (DVs.okAt ha 0 rfl) 2 rfl) hv513), hslc_ok hi (by rw [h0, hρ]; exact lenV_ok hs (DVs.okAt (DVs.okAt ha 0 rfl) 3 rfl) hv514), trivial⟩, hslc_ok hi (by rw [h0, hρ]; exact lenV_ok hs (DVs.okAt ha 1 rfl) hv515), trivial⟩ hy⟩) rfl
  · cases hr
end Go.Proofs.Ytjadfgeemfdbmaa.AM
