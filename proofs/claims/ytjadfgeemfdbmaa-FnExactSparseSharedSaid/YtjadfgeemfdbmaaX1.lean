/- Functions: what they come to. -/
import Derived.Test.YtjadfgeemfdbmaaX0
set_option maxRecDepth 100000
set_option maxHeartbeats 4000000
set_option linter.unusedSimpArgs false
set_option linter.unusedVariables false
namespace Go.Proofs.Ytjadfgeemfdbmaa.AM
open Go.Proofs
/-! (impl.Sparse).each -/
noncomputable def impl_Sparse_each_l0_T (v298 : List Int) (v299 : List Int) (v300 : List Nat) (v301 : Int) (v303 : List Nat) (s : Int × Nat) : Tree ((Int × Nat) ⊕ (Nat)) :=
  (.grd (inb (IntKind.i64.wrap (v301 + (1 : Int))) v298.length) <|
  (.br (decide (s.1 < nth v298 (Int.toNat (IntKind.i64.wrap (v301 + (1 : Int)))))) (
   (.grd (inb s.1 v299.length) <|
   (.grd (inb s.1 v300.length) <|
   (.call (impl_Sparse_times_1_i1_g (nth v299 (Int.toNat s.1)) (nth v300 (Int.toNat s.1)) s.2 v303) fun v319 =>
   .leaf (.inl (IntKind.i64.wrap (s.1 + (1 : Int)), v319)))))
  ) (
   .leaf (.inr s.2)
  )))

noncomputable def impl_Sparse_each_l0_g (v298 : List Int) (v299 : List Int) (v300 : List Nat) (v301 : Int) (v303 : List Nat) (s0 : Int × Nat) : Option (Nat) := whileM (fun s => (impl_Sparse_each_l0_T v298 v299 v300 v301 v303 s).run) s0
def impl_Sparse_each_l0_E (v297 : Int) (v298 : List Int) (v299 : List Int) (v300 : List Nat) (v301 : Int) (v302 : Nat) (v303 : List Nat) (s : Int × Nat) : Sd := ([.top, .int .i64 v301, .fn 136 [.ptr 0 (0 : Nat) 0 (1 : Nat), .bptr (BR.root 4) [.bslc (BR.root 5) (.f32 v303)]], .ptr 1 (0 : Nat) 0 (4 : Nat), .top, .top, .int .i64 s.1, .top, .top, .top, .top, .top, .top, .top, .top, .top, .top, .top, .top, .top, .top, .top, .top, .top, .top, .top, .top, .top, .top, .top, .top, .top, .top, .top], [.gen [.flt .f32 s.2] true 0, .gen [.int .i64 v297, .bslc (BR.root 0) (.i64 v298), .bslc (BR.root 1) (.i64 v299), .bslc (BR.root 2) (.f32 v300)] false 0])
def impl_Sparse_each_l0_X (v297 : Int) (v298 : List Int) (v299 : List Int) (v300 : List Nat) (v301 : Int) (v302 : Nat) (v303 : List Nat) (x : Nat) : Out := (.normal, [.top, .top, .top, .top, .top, .top, .top, .top, .top, .top, .top, .top, .top, .top, .top, .top, .top, .top, .top, .top, .top, .top, .top, .top, .top, .top, .top, .top, .top, .top, .top, .top, .top, .top], [.gen [.flt .f32 x] true 0])
def impl_Sparse_each_l0_kill : List Nat := [1, 0, 0, 0, 1, 1, 0, 1, 1, 1, 1, 1, 1, 1, 1, 1, 1, 1, 1, 1, 1, 1, 1, 1, 1, 1, 1, 1, 1, 1, 1, 1, 1, 1]
def impl_Sparse_each_l0_nx : Exit → List Nat
  | .exit 0 => [1, 1, 1, 1, 1, 1, 1, 1, 1, 1, 1, 1, 1, 1, 1, 1, 1, 1, 1, 1, 1, 1, 1, 1, 1, 1, 1, 1, 1, 1, 1, 1, 1, 1]
  | .ret => [1, 1, 1, 1, 1, 1, 1, 1, 1, 1, 1, 1, 1, 1, 1, 1, 1, 1, 1, 1, 1, 1, 1, 1, 1, 1, 1, 1, 1, 1, 1, 1, 1, 1]
  | _ => []
noncomputable def impl_Sparse_each_LO (v297 : Int) (v298 : List Int) (v299 : List Int) (v300 : List Nat) (v301 : Int) (v302 : Nat) (v303 : List Nat) : LOr := fun id e L =>
  match id with
  | 0 => .need (normA 1 impl_Sparse_each_l0_kill e L = some (impl_Sparse_each_l0_E v297 v298 v299 v300 v301 v302 v303 ((gI (vAt e 6)), (gF (cAt L (aAt (vAt e 2) 0) 0))))) (.call (impl_Sparse_each_l0_g v298 v299 v300 v301 v303 ((gI (vAt e 6)), (gF (cAt L (aAt (vAt e 2) 0) 0)))) fun x => .leaf (impl_Sparse_each_l0_X v297 v298 v299 v300 v301 v302 v303 x))
  | _ => .fail
noncomputable def impl_Sparse_each_tab : List (FuncId × DFn × Bool) := [(136, impl_Sparse_times_1_i1_F, false)]
theorem impl_Sparse_each_hO : OrcOk Try.prog (tabD impl_Sparse_each_tab) (tabM impl_Sparse_each_tab) := tabD_cons impl_Sparse_times_1_i1_Fok (tabD_nil _)
theorem impl_Sparse_each_l0_be (v297 : Int) (v298 : List Int) (v299 : List Int) (v300 : List Nat) (v301 : Int) (v302 : Nat) (v303 : List Nat) (s : Int × Nat) : bodyT TT (tabD impl_Sparse_each_tab) (tabM impl_Sparse_each_tab) (impl_Sparse_each_LO v297 v298 v299 v300 v301 v302 v303) 1 impl_Sparse_each_l0_kill impl_Sparse_each_l0_nx (bodyOf Try.f78 0) 0 (impl_Sparse_each_l0_E v297 v298 v299 v300 v301 v302 v303 s) = (impl_Sparse_each_l0_T v298 v299 v300 v301 v303 s).bind fun y => .leaf (outS (impl_Sparse_each_l0_E v297 v298 v299 v300 v301 v302 v303) (impl_Sparse_each_l0_X v297 v298 v299 v300 v301 v302 v303) y) := by kernel_rfl
theorem impl_Sparse_each_l0_ok (v297 : Int) (v298 : List Int) (v299 : List Int) (v300 : List Nat) (v301 : Int) (v302 : Nat) (v303 : List Nat) : LSound Try.prog 1 (impl_Sparse_each_LO v297 v298 v299 v300 v301 v302 v303) 0 (bodyOf Try.f78 0) := by
  intro e L out h
  exact lo_ok (E := impl_Sparse_each_l0_E v297 v298 v299 v300 v301 v302 v303) (gT := impl_Sparse_each_l0_T v298 v299 v300 v301 v303) (X := impl_Sparse_each_l0_X v297 v298 v299 v300 v301 v302 v303) (s0 := ((gI (vAt e 6)), (gF (cAt L (aAt (vAt e 2) 0) 0)))) tok impl_Sparse_each_hO mixed (LoopsOk_eq (l := []) (by kernel_rfl) trivial) (impl_Sparse_each_l0_be v297 v298 v299 v300 v301 v302 v303) rfl (by intro x; rfl) h
noncomputable def impl_Sparse_each_T (v297 : Int) (v298 : List Int) (v299 : List Int) (v300 : List Nat) (v301 : Int) (v302 : Nat) (v303 : List Nat) : Tree (Nat) :=
  (.grd (inb v301 v298.length) <|
  (.need (some (impl_Sparse_each_l0_E v297 v298 v299 v300 v301 v302 v303 (nth v298 (Int.toNat v301), v302)) = some (impl_Sparse_each_l0_E v297 v298 v299 v300 v301 v302 v303 (nth v298 (Int.toNat v301), v302))) <|
  (.call (impl_Sparse_each_l0_g v298 v299 v300 v301 v303 (nth v298 (Int.toNat v301), v302)) fun v320 =>
  .leaf v320)))

noncomputable def impl_Sparse_each_g (v297 : Int) (v298 : List Int) (v299 : List Int) (v300 : List Nat) (v301 : Int) (v302 : Nat) (v303 : List Nat) : Option (Nat) := (impl_Sparse_each_T v297 v298 v299 v300 v301 v302 v303).run
def impl_Sparse_each_enc (v297 : Int) (v298 : List Int) (v299 : List Int) (v300 : List Nat) (v301 : Int) (v302 : Nat) (v303 : List Nat) (y : Nat) : Rs := (.tup [], [.gen [.flt .f32 y] true 0])
theorem impl_Sparse_each_den (v297 : Int) (v298 : List Int) (v299 : List Int) (v300 : List Nat) (v301 : Int) (v302 : Nat) (v303 : List Nat) : (den TT (tabD impl_Sparse_each_tab) (tabM impl_Sparse_each_tab) (impl_Sparse_each_LO v297 v298 v299 v300 v301 v302 v303) (codeOf Try.f78) ([.agg [.int .i64 v297, .bslc (BR.root 0) (.i64 v298), .bslc (BR.root 1) (.i64 v299), .bslc (BR.root 2) (.f32 v300)], .int .i64 v301, .fn 136 [.ptr 0 (0 : Nat) 0 (1 : Nat), .bptr (BR.root 4) [.bslc (BR.root 5) (.f32 v303)]]] ++ List.replicate (Try.f78.ntmps - ([.agg [.int .i64 v297, .bslc (BR.root 0) (.i64 v298), .bslc (BR.root 1) (.i64 v299), .bslc (BR.root 2) (.f32 v300)], .int .i64 v301, .fn 136 [.ptr 0 (0 : Nat) 0 (1 : Nat), .bptr (BR.root 4) [.bslc (BR.root 5) (.f32 v303)]]] : List DV).length) .undef) [.gen [.flt .f32 v302] true 0]).bind (retD TT Try.f78.results.toList 1) = (impl_Sparse_each_T v297 v298 v299 v300 v301 v302 v303).bind fun y => .leaf (impl_Sparse_each_enc v297 v298 v299 v300 v301 v302 v303 y) := by kernel_rfl
theorem impl_Sparse_each_fn (v297 : Int) (v298 : List Int) (v299 : List Int) (v300 : List Nat) (v301 : Int) (v302 : Nat) (v303 : List Nat) (F : Fr) (hm : F.ids.length = 1) (h0 : St F [.gen [.flt .f32 v302] true 0] F.H0) (hA : DVs.Ok F [.gen [.flt .f32 v302] true 0] [.agg [.int .i64 v297, .bslc (BR.root 0) (.i64 v298), .bslc (BR.root 1) (.i64 v299), .bslc (BR.root 2) (.f32 v300)], .int .i64 v301, .fn 136 [.ptr 0 (0 : Nat) 0 (1 : Nat), .bptr (BR.root 4) [.bslc (BR.root 5) (.f32 v303)]]]) {y : Nat} (hy : impl_Sparse_each_g v297 v298 v299 v300 v301 v302 v303 = some y) : ∃ H', FnOk Try.prog 78 (DVs.av F [.agg [.int .i64 v297, .bslc (BR.root 0) (.i64 v298), .bslc (BR.root 1) (.i64 v299), .bslc (BR.root 2) (.f32 v300)], .int .i64 v301, .fn 136 [.ptr 0 (0 : Nat) 0 (1 : Nat), .bptr (BR.root 4) [.bslc (BR.root 5) (.f32 v303)]]]) F.H0 ((impl_Sparse_each_enc v297 v298 v299 v300 v301 v302 v303 y).1.av F) H' ∧ St F (impl_Sparse_each_enc v297 v298 v299 v300 v301 v302 v303 y).2 H' ∧ (impl_Sparse_each_enc v297 v298 v299 v300 v301 v302 v303 y).1.Ok F (impl_Sparse_each_enc v297 v298 v299 v300 v301 v302 v303 y).2 :=
  fn_fin tok impl_Sparse_each_hO mixed Try.func78 Try.call78 (by kernel_rfl) (LoopsOk_eq (l := [(0, bodyOf Try.f78 0)]) (by kernel_rfl) ⟨impl_Sparse_each_l0_ok v297 v298 v299 v300 v301 v302 v303, trivial⟩) (impl_Sparse_each_den v297 v298 v299 v300 v301 v302 v303) hy hm h0 hA
noncomputable def impl_Sparse_each_F : DFn := fun args L =>
  match args with
  | [.agg [.int .i64 v297, a1, a2, a3], .int .i64 v301, .fn 136 [a4, a5]] =>
    optT (rowI64 L a1) fun v298 =>
    optT (rowI64 L a2) fun v299 =>
    optT (rowF32 L a3) fun v300 =>
    optT (genOf L 1 true a4) fun qg3 =>
    (match qg3.2 with
    | [.flt .f32 v302] =>
    optT (cellsOf L 1 a5) fun cs4 =>
    (match cs4 with
    | [a6] =>
    optT (rowF32 L a6) fun v303 =>
    (match sepB [qg3.1] [a1, a2, a3, DV.tip a5, a6] with
    | true =>
    .call (impl_Sparse_each_g v297 v298 v299 v300 v301 v302 v303) fun y => .leaf (.tup [], setB L [(qg3.1, .gen [.flt .f32 y] true (verAt L qg3.1))] ++ [])
    | false => .fail)
    | _ => .fail)
    | _ => .fail)
  | _ => .fail
theorem impl_Sparse_each_Fok : COk Try.prog 78 impl_Sparse_each_F false := by
  intro F L H args r L' hs ha hr
  unfold impl_Sparse_each_F at hr
  split at hr
  · rename_i v297 a1 a2 a3 v301 a4 a5
    obtain ⟨v298, hv298, hr⟩ := optT_run hr
    obtain ⟨v299, hv299, hr⟩ := optT_run hr
    obtain ⟨v300, hv300, hr⟩ := optT_run hr
    obtain ⟨⟨jg3, cg3⟩, hg3, hr⟩ := optT_run hr
    simp only at hr
    split at hr
    · rename_i v302
      obtain ⟨hge3, hgu3, hga3, hgn3, hgc3, hgf3⟩ := genOf_spec hs (DVs.okAt (DVs.okAt ha 2 rfl) 0 rfl) hg3
      obtain ⟨cs4, hcp4, hr⟩ := optT_run hr
      split at hr
      · rename_i a6
        obtain ⟨v303, hv303, hr⟩ := optT_run hr
        split at hr
        · rename_i hsep
          obtain ⟨hnd, hsepv⟩ := sepB_spec hsep
          simp only [Tree.run] at hr
          obtain ⟨y, hy, hr⟩ := Option.bind_eq_some_iff.1 hr
          try simp only [Tree.run] at hr
          simp only [Option.some.injEq, Prod.mk.injEq] at hr
          obtain ⟨rfl, rfl⟩ := hr
          exact mutG_ok hs [a1, a2, a3, a4, a5, a6] ⟨(DVs.okAt (DVs.okAt ha 0 rfl) 1 rfl), (DVs.okAt (DVs.okAt ha 0 rfl) 2 rfl), (DVs.okAt (DVs.okAt ha 0 rfl) 3 rfl), (DVs.okAt (DVs.okAt ha 2 rfl) 0 rfl), (DVs.okAt (DVs.okAt ha 2 rfl) 1 rfl), (DVs.okAt (cellsOf_ok hs (DVs.okAt (DVs.okAt ha 2 rfl) 1 rfl) hcp4).2 0 rfl), trivial⟩ [.agg [.int .i64 v297, a1, a2, a3], .int .i64 v301, .fn 136 [a4, a5]] [.agg [.int .i64 v297, .bslc (BR.root 0) (.i64 v298), .bslc (BR.root 1) (.i64 v299), .bslc (BR.root 2) (.f32 v300)], .int .i64 v301, .fn 136 [.ptr 0 (0 : Nat) 0 (1 : Nat), .bptr (BR.root 4) [.bslc (BR.root 5) (.f32 v303)]]] [jg3] [verAt L jg3] [.gen [.flt .f32 v302] true 0] [.gen [.flt .f32 y] true 0] [.gen [.flt .f32 y] true (verAt L jg3)] [] hnd rfl rfl (fun j hj => by
              simp at hj
              subst hj; exact ex_lt hge3) (fun j hj => by
              simp at hj
              subst hj; exact reach_refs (by simp [DVs.refs, DV.refs, hgu3])) (fun F' h0 hi hρ ab hS => by
              have ab0 := ab 0 _ rfl;
              refine ⟨fun i j b' h1 h2 => ?_, by simp [DBlk.blk, DVs.av, DV.av, BR.av, hρ, Row.len, hga3, ab0], fun hst => impl_Sparse_each_fn v297 v298 v299 v300 v301 v302 v303 F' (by rw [hi]; rfl) hst ⟨⟨trivial, bslcM hS (by rw [hρ]; rfl) (hsepv a1 (by simp)) (DVs.okAt (DVs.okAt ha 0 rfl) 1 rfl) (rowI64_or hv298), bslcM hS (by rw [hρ]; rfl) (hsepv a2 (by simp)) (DVs.okAt (DVs.okAt ha 0 rfl) 2 rfl) (rowI64_or hv299), bslcM hS (by rw [hρ]; rfl) (hsepv a3 (by simp)) (DVs.okAt (DVs.okAt ha 0 rfl) 3 rfl) (rowF32_or hv300), trivial⟩, trivial, ⟨⟨_, rfl, Nat.le_refl _, by decide, Nat.le_refl _, fun _ => rfl⟩, (bptrM hS (by rw [hρ]; rfl) (hsepv (DV.tip a5) (by simp)) (DVs.okAt (DVs.okAt ha 2 rfl) 1 rfl) hcp4 (by simp [DBlk.blk, DVs.av, DV.av, BR.av, hρ, Row.len, hga3, ab0]) ⟨bslcM hS (by rw [hρ]; rfl) (hsepv a6 (by simp)) (DVs.okAt (cellsOf_ok hs (DVs.okAt (DVs.okAt ha 2 rfl) 1 rfl) hcp4).2 0 rfl) (rowF32_or hv303), trivial⟩), trivial⟩, trivial⟩ hy⟩
              rcases i with _ | i
              · simp at h1 h2; subst h1; subst h2; obtain ⟨ver_, hv_⟩ := hge3; exact ⟨_, hv_, by simp [DBlk.blk, DVs.av, DV.av, BR.av, hρ, Row.len, hga3, ab0], ⟨⟨trivial, trivial⟩, fun _ c hc => by simp at hc; subst hc; rfl⟩⟩
              · simp at h1) rfl rfl (fun i j b b' h1 h2 h3 => by
              rcases i with _ | i
              · simp at h1; subst h1; cases h3; exact growG hge3 rfl h2
              · simp at h1)
        · cases hr
      · cases hr
    · cases hr
  · cases hr
/-! (impl.Sparse).times -/
noncomputable def impl_Sparse_times_l0_T (v273 : Int) (v274 : List Int) (v275 : List Int) (v276 : List Nat) (v277 : List Nat) (s : Int × (List Nat)) : Tree ((Int × (List Nat)) ⊕ ((List Nat))) :=
  (.br (decide (s.1 < v273)) (
   (.call (impl_Sparse_each_g v273 v274 v275 v276 s.1 (0 : Nat) v277) fun v327 =>
   (.grd (fits (s.2 ++ ([v327] : List Nat)).length) <|
   .leaf (.inl (IntKind.i64.wrap (s.1 + (1 : Int)), s.2 ++ ([v327] : List Nat)))))
  ) (
   .leaf (.inr s.2)
  ))

noncomputable def impl_Sparse_times_l0_g (v273 : Int) (v274 : List Int) (v275 : List Int) (v276 : List Nat) (v277 : List Nat) (s0 : Int × (List Nat)) : Option ((List Nat)) := whileM (fun s => (impl_Sparse_times_l0_T v273 v274 v275 v276 v277 s).run) s0
def impl_Sparse_times_l0_E (v273 : Int) (v274 : List Int) (v275 : List Int) (v276 : List Nat) (v277 : List Nat) (s : Int × (List Nat)) : Sd := ([.top, .top, .ptr 0 (0 : Nat) 0 (4 : Nat), .ptr 1 (0 : Nat) 0 (1 : Nat), .top, .own 2 0 ((s.2).length), .top, .top, .top, .top, .int .i64 v273, .int .i64 s.1, .top, .top, .top, .top, .top, .top, .top, .top, .top, .top, .top, .top], [.gen [.int .i64 v273, .bslc (BR.root 0) (.i64 v274), .bslc (BR.root 1) (.i64 v275), .bslc (BR.root 2) (.f32 v276)] false 0, .gen [.bslc (BR.root 3) (.f32 v277)] false 0, .row (.f32 s.2) 0])
def impl_Sparse_times_l0_X (v273 : Int) (v274 : List Int) (v275 : List Int) (v276 : List Nat) (v277 : List Nat) (x : (List Nat)) : Out := (.normal, [.top, .top, .top, .top, .top, .own 0 0 ((x).length), .top, .top, .top, .top, .top, .top, .top, .top, .top, .top, .top, .top, .top, .top, .top, .top, .top, .top], [.row (.f32 x) 0])
def impl_Sparse_times_l0_kill : List Nat := [1, 1, 0, 0, 1, 0, 1, 1, 1, 1, 0, 0, 1, 1, 1, 1, 1, 1, 1, 1, 1, 1, 1, 1]
def impl_Sparse_times_l0_nx : Exit → List Nat
  | .exit 0 => [1, 1, 1, 1, 1, 0, 1, 1, 1, 1, 1, 1, 1, 1, 1, 1, 1, 1, 1, 1, 1, 1, 1, 1]
  | .ret => [1, 1, 1, 1, 0, 1, 1, 1, 1, 1, 1, 1, 1, 1, 1, 1, 1, 1, 1, 1, 1, 1, 1, 1]
  | _ => []
noncomputable def impl_Sparse_times_LO (v273 : Int) (v274 : List Int) (v275 : List Int) (v276 : List Nat) (v277 : List Nat) : LOr := fun id e L =>
  match id with
  | 0 => .need (normA 0 impl_Sparse_times_l0_kill e L = some (impl_Sparse_times_l0_E v273 v274 v275 v276 v277 ((gI (vAt e 11)), (gRF L (vAt e 5))))) (.call (impl_Sparse_times_l0_g v273 v274 v275 v276 v277 ((gI (vAt e 11)), (gRF L (vAt e 5)))) fun x => .leaf (impl_Sparse_times_l0_X v273 v274 v275 v276 v277 x))
  | _ => .fail
noncomputable def impl_Sparse_times_tab : List (FuncId × DFn × Bool) := [(78, impl_Sparse_each_F, false)]
theorem impl_Sparse_times_hO : OrcOk Try.prog (tabD impl_Sparse_times_tab) (tabM impl_Sparse_times_tab) := tabD_cons impl_Sparse_each_Fok (tabD_nil _)
theorem impl_Sparse_times_l0_be (v273 : Int) (v274 : List Int) (v275 : List Int) (v276 : List Nat) (v277 : List Nat) (s : Int × (List Nat)) : bodyT TT (tabD impl_Sparse_times_tab) (tabM impl_Sparse_times_tab) (impl_Sparse_times_LO v273 v274 v275 v276 v277) 0 impl_Sparse_times_l0_kill impl_Sparse_times_l0_nx (bodyOf Try.f70 0) 0 (impl_Sparse_times_l0_E v273 v274 v275 v276 v277 s) = (impl_Sparse_times_l0_T v273 v274 v275 v276 v277 s).bind fun y => .leaf (outS (impl_Sparse_times_l0_E v273 v274 v275 v276 v277) (impl_Sparse_times_l0_X v273 v274 v275 v276 v277) y) := by kernel_rfl
theorem impl_Sparse_times_l0_ok (v273 : Int) (v274 : List Int) (v275 : List Int) (v276 : List Nat) (v277 : List Nat) : LSound Try.prog 0 (impl_Sparse_times_LO v273 v274 v275 v276 v277) 0 (bodyOf Try.f70 0) := by
  intro e L out h
  exact lo_ok (E := impl_Sparse_times_l0_E v273 v274 v275 v276 v277) (gT := impl_Sparse_times_l0_T v273 v274 v275 v276 v277) (X := impl_Sparse_times_l0_X v273 v274 v275 v276 v277) (s0 := ((gI (vAt e 11)), (gRF L (vAt e 5)))) tok impl_Sparse_times_hO mixed (LoopsOk_eq (l := []) (by kernel_rfl) trivial) (impl_Sparse_times_l0_be v273 v274 v275 v276 v277) rfl (by intro x; rfl) h
noncomputable def impl_Sparse_times_T (v273 : Int) (v274 : List Int) (v275 : List Int) (v276 : List Nat) (v277 : List Nat) : Tree ((List Nat)) :=
  (.need (some (impl_Sparse_times_l0_E v273 v274 v275 v276 v277 ((0 : Int), ([] : List Nat))) = some (impl_Sparse_times_l0_E v273 v274 v275 v276 v277 ((0 : Int), ([] : List Nat)))) <|
  (.call (impl_Sparse_times_l0_g v273 v274 v275 v276 v277 ((0 : Int), ([] : List Nat))) fun v328 =>
  .leaf v328))

noncomputable def impl_Sparse_times_g (v273 : Int) (v274 : List Int) (v275 : List Int) (v276 : List Nat) (v277 : List Nat) : Option ((List Nat)) := (impl_Sparse_times_T v273 v274 v275 v276 v277).run
def impl_Sparse_times_enc (v273 : Int) (v274 : List Int) (v275 : List Int) (v276 : List Nat) (v277 : List Nat) (y : (List Nat)) : Rs := (.own 0 0 ((y).length), [.row (.f32 y) 0])
theorem impl_Sparse_times_den (v273 : Int) (v274 : List Int) (v275 : List Int) (v276 : List Nat) (v277 : List Nat) : (den TT (tabD impl_Sparse_times_tab) (tabM impl_Sparse_times_tab) (impl_Sparse_times_LO v273 v274 v275 v276 v277) (codeOf Try.f70) ([.agg [.int .i64 v273, .bslc (BR.root 0) (.i64 v274), .bslc (BR.root 1) (.i64 v275), .bslc (BR.root 2) (.f32 v276)], .bslc (BR.root 3) (.f32 v277)] ++ List.replicate (Try.f70.ntmps - ([.agg [.int .i64 v273, .bslc (BR.root 0) (.i64 v274), .bslc (BR.root 1) (.i64 v275), .bslc (BR.root 2) (.f32 v276)], .bslc (BR.root 3) (.f32 v277)] : List DV).length) .undef) []).bind (retD TT Try.f70.results.toList 0) = (impl_Sparse_times_T v273 v274 v275 v276 v277).bind fun y => .leaf (impl_Sparse_times_enc v273 v274 v275 v276 v277 y) := by kernel_rfl
theorem impl_Sparse_times_fn (v273 : Int) (v274 : List Int) (v275 : List Int) (v276 : List Nat) (v277 : List Nat) (F : Fr) (hm : F.ids.length = 0) (h0 : St F [] F.H0) (hA : DVs.Ok F [] [.agg [.int .i64 v273, .bslc (BR.root 0) (.i64 v274), .bslc (BR.root 1) (.i64 v275), .bslc (BR.root 2) (.f32 v276)], .bslc (BR.root 3) (.f32 v277)]) {y : (List Nat)} (hy : impl_Sparse_times_g v273 v274 v275 v276 v277 = some y) : ∃ H', FnOk Try.prog 70 (DVs.av F [.agg [.int .i64 v273, .bslc (BR.root 0) (.i64 v274), .bslc (BR.root 1) (.i64 v275), .bslc (BR.root 2) (.f32 v276)], .bslc (BR.root 3) (.f32 v277)]) F.H0 ((impl_Sparse_times_enc v273 v274 v275 v276 v277 y).1.av F) H' ∧ St F (impl_Sparse_times_enc v273 v274 v275 v276 v277 y).2 H' ∧ (impl_Sparse_times_enc v273 v274 v275 v276 v277 y).1.Ok F (impl_Sparse_times_enc v273 v274 v275 v276 v277 y).2 :=
  fn_fin tok impl_Sparse_times_hO mixed Try.func70 Try.call70 (by kernel_rfl) (LoopsOk_eq (l := [(0, bodyOf Try.f70 0)]) (by kernel_rfl) ⟨impl_Sparse_times_l0_ok v273 v274 v275 v276 v277, trivial⟩) (impl_Sparse_times_den v273 v274 v275 v276 v277) hy hm h0 hA
noncomputable def impl_Sparse_times_F : DFn := fun args L =>
  match args with
  | [.agg [.int .i64 v273, a1, a2, a3], a4] =>
    optT (rowI64 L a1) fun v274 =>
    optT (rowI64 L a2) fun v275 =>
    optT (rowF32 L a3) fun v276 =>
    optT (rowF32 L a4) fun v277 =>
    .call (impl_Sparse_times_g v273 v274 v275 v276 v277) fun y => .leaf (.own (L.length + 0) 0 ((y).length), L ++ [.row (.f32 y) 0])
  | _ => .fail
theorem impl_Sparse_times_Fok : COk Try.prog 70 impl_Sparse_times_F true := by
  intro F L H args r L' hs ha hr
  unfold impl_Sparse_times_F at hr
  split at hr
  · rename_i v273 a1 a2 a3 a4
    obtain ⟨v274, hv274, hr⟩ := optT_run hr
    obtain ⟨v275, hv275, hr⟩ := optT_run hr
    obtain ⟨v276, hv276, hr⟩ := optT_run hr
    obtain ⟨v277, hv277, hr⟩ := optT_run hr
    simp only [Tree.run] at hr
    obtain ⟨y, hy, hr⟩ := Option.bind_eq_some_iff.1 hr
    simp only [Tree.run, Option.some.injEq, Prod.mk.injEq] at hr
    obtain ⟨rfl, rfl⟩ := hr
    exact call_ok1 hs (fun k => (([a1.av F, a2.av F, a3.av F, a4.av F] : List AV)[k]?).getD .top) [.agg [.int .i64 v273, a1, a2, a3], a4] [.agg [.int .i64 v273, .bslc (BR.root 0) (.i64 v274), .bslc (BR.root 1) (.i64 v275), .bslc (BR.root 2) (.f32 v276)], .bslc (BR.root 3) (.f32 v277)] (fun F' h0 hi hρ => ⟨by simp [DVs.av, DV.av, BR.av, hρ], impl_Sparse_times_fn v273 v274 v275 v276 v277 F' (by rw [hi]; rfl) (st_nil hi) ⟨⟨trivial, bslc_ok hi (by rw [h0, hρ]; exact rowI64_ok hs (DVs.okAt (DVs.okAt ha 0 rfl) 1 rfl) hv274), bslc_ok hi (by rw [h0, hρ]; exact rowI64_ok hs (DVs.okAt (DVs.okAt ha 0 rfl) 2 rfl) hv275), bslc_ok hi (by rw [h0, hρ]; exact rowF32_ok hs (DVs.okAt (DVs.okAt ha 0 rfl) 3 rfl) hv276), trivial⟩, bslc_ok hi (by rw [h0, hρ]; exact rowF32_ok hs (DVs.okAt ha 1 rfl) hv277), trivial⟩ hy⟩) rfl rfl
  · cases hr
/-! impl.allFinite -/
noncomputable def impl_allFinite_LO (v330 : List Nat) : LOr := fun id e L =>
  match id with
  | _ => .fail
noncomputable def impl_allFinite_tab : List (FuncId × DFn × Bool) := [(135, impl_areFinite_F, true)]
theorem impl_allFinite_hO : OrcOk Try.prog (tabD impl_allFinite_tab) (tabM impl_allFinite_tab) := tabD_cons impl_areFinite_Fok (tabD_nil _)
noncomputable def impl_allFinite_T (v330 : List Nat) : Tree ((Unit) ⊕ (Unit)) :=
  (.call (impl_areFinite_g v330) fun v331 =>
  (.br (!v331) (
   .leaf (.inl ())
  ) (
   .leaf (.inr ())
  )))

noncomputable def impl_allFinite_g (v330 : List Nat) : Option ((Unit) ⊕ (Unit)) := (impl_allFinite_T v330).run
def impl_allFinite_enc (v330 : List Nat) (y : (Unit) ⊕ (Unit)) : Rs := (match y with | .inl y => (.tup [.nilslc, .lit false], []) | .inr y => (.tup [.bslc (BR.root 0) (.f32 v330), .lit true], []))
theorem impl_allFinite_den (v330 : List Nat) : (den TT (tabD impl_allFinite_tab) (tabM impl_allFinite_tab) (impl_allFinite_LO v330) (codeOf Try.f69) ([.bslc (BR.root 0) (.f32 v330)] ++ List.replicate (Try.f69.ntmps - ([.bslc (BR.root 0) (.f32 v330)] : List DV).length) .undef) []).bind (retD TT Try.f69.results.toList 0) = (impl_allFinite_T v330).bind fun y => .leaf (impl_allFinite_enc v330 y) := by kernel_rfl
theorem impl_allFinite_fn (v330 : List Nat) (F : Fr) (hm : F.ids.length = 0) (h0 : St F [] F.H0) (hA : DVs.Ok F [] [.bslc (BR.root 0) (.f32 v330)]) {y : (Unit) ⊕ (Unit)} (hy : impl_allFinite_g v330 = some y) : ∃ H', FnOk Try.prog 69 (DVs.av F [.bslc (BR.root 0) (.f32 v330)]) F.H0 ((impl_allFinite_enc v330 y).1.av F) H' ∧ St F (impl_allFinite_enc v330 y).2 H' ∧ (impl_allFinite_enc v330 y).1.Ok F (impl_allFinite_enc v330 y).2 :=
  fn_fin tok impl_allFinite_hO mixed Try.func69 Try.call69 (by kernel_rfl) (LoopsOk_eq (l := []) (by kernel_rfl) trivial) (impl_allFinite_den v330) hy hm h0 hA
noncomputable def impl_allFinite_F : DFn := fun args L =>
  match args with
  | [a1] =>
    optT (rowF32 L a1) fun v330 =>
    .call (impl_allFinite_g v330) fun y => .sum y (fun y0 => .leaf (.tup [.nilslc, .lit false], L)) (fun z0 => .leaf (.tup [a1, .lit true], L))
  | _ => .fail
theorem impl_allFinite_Fok : COk Try.prog 69 impl_allFinite_F true := by
  intro F L H args r L' hs ha hr
  unfold impl_allFinite_F at hr
  split at hr
  · rename_i a1
    obtain ⟨v330, hv330, hr⟩ := optT_run hr
    simp only [Tree.run] at hr
    obtain ⟨y, hy, hr⟩ := Option.bind_eq_some_iff.1 hr
    cases y with
    | inl y =>
      simp only [Tree.run, Option.some.injEq, Prod.mk.injEq] at hr
      obtain ⟨rfl, rfl⟩ := hr
      exact call_ok0 hs (fun k => (([a1.av F] : List AV)[k]?).getD .top) [a1] [.bslc (BR.root 0) (.f32 v330)] (fun F' h0 hi hρ => ⟨by simp [DVs.av, DV.av, BR.av, hρ], impl_allFinite_fn v330 F' (by rw [hi]; rfl) (st_nil hi) ⟨bslc_ok hi (by rw [h0, hρ]; exact rowF32_ok hs (DVs.okAt ha 0 rfl) hv330), trivial⟩ hy⟩) rfl
    | inr y =>
      simp only [Tree.run, Option.some.injEq, Prod.mk.injEq] at hr
      obtain ⟨rfl, rfl⟩ := hr
      exact call_al0 hs (fun k => (([a1.av F] : List AV)[k]?).getD .top) [a1] [.bslc (BR.root 0) (.f32 v330)] (fun F' h0 hi hρ => ⟨by simp [DVs.av, DV.av, BR.av, hρ], impl_allFinite_fn v330 F' (by rw [hi]; rfl) (st_nil hi) ⟨bslc_ok hi (by rw [h0, hρ]; exact rowF32_ok hs (DVs.okAt ha 0 rfl) hv330), trivial⟩ hy⟩) (fun F' h0 hi hρ => by simp [impl_allFinite_enc, DVs.av, DV.av, BR.av, hρ]) ⟨(DVs.okAt ha 0 rfl), trivial, trivial⟩
  · cases hr
/-! impl.SparseTimes -/
noncomputable def impl_SparseTimes_LO (v169 : Int) (v170 : List Int) (v171 : List Int) (v172 : List Nat) (v173 : List Nat) : LOr := fun id e L =>
  match id with
  | _ => .fail
noncomputable def impl_SparseTimes_tab : List (FuncId × DFn × Bool) := [(68, impl_Sparse_takes_F, true), (70, impl_Sparse_times_F, true), (69, impl_allFinite_F, true)]
theorem impl_SparseTimes_hO : OrcOk Try.prog (tabD impl_SparseTimes_tab) (tabM impl_SparseTimes_tab) := tabD_cons impl_Sparse_takes_Fok (tabD_cons impl_Sparse_times_Fok (tabD_cons impl_allFinite_Fok (tabD_nil _)))
noncomputable def impl_SparseTimes_T (v169 : Int) (v170 : List Int) (v171 : List Int) (v172 : List Nat) (v173 : List Nat) : Tree ((Unit) ⊕ ((List Nat))) :=
  (.call (impl_Sparse_takes_g v169 v170 v171 v172 v173) fun v272 =>
  (.br (!v272) (
   .leaf (.inl ())
  ) (
   (.call (impl_Sparse_times_g v169 v170 v171 v172 v173) fun v329 =>
   (.call (impl_allFinite_g v329) fun v332 =>
   (.sum v332 (fun v333 =>
    .leaf (.inl ())
   ) (fun v334 =>
    .leaf (.inr v329)
   ))))
  )))

noncomputable def impl_SparseTimes_g (v169 : Int) (v170 : List Int) (v171 : List Int) (v172 : List Nat) (v173 : List Nat) : Option ((Unit) ⊕ ((List Nat))) := (impl_SparseTimes_T v169 v170 v171 v172 v173).run
def impl_SparseTimes_enc (v169 : Int) (v170 : List Int) (v171 : List Int) (v172 : List Nat) (v173 : List Nat) (y : (Unit) ⊕ ((List Nat))) : Rs := (match y with | .inl y => (.tup [.nilslc, .lit false], []) | .inr y => (.tup [.own 0 0 ((y).length), .lit true], [.row (.f32 y) 0]))
theorem impl_SparseTimes_den (v169 : Int) (v170 : List Int) (v171 : List Int) (v172 : List Nat) (v173 : List Nat) : (den TT (tabD impl_SparseTimes_tab) (tabM impl_SparseTimes_tab) (impl_SparseTimes_LO v169 v170 v171 v172 v173) (codeOf Try.f19) ([.agg [.int .i64 v169, .bslc (BR.root 0) (.i64 v170), .bslc (BR.root 1) (.i64 v171), .bslc (BR.root 2) (.f32 v172)], .bslc (BR.root 3) (.f32 v173)] ++ List.replicate (Try.f19.ntmps - ([.agg [.int .i64 v169, .bslc (BR.root 0) (.i64 v170), .bslc (BR.root 1) (.i64 v171), .bslc (BR.root 2) (.f32 v172)], .bslc (BR.root 3) (.f32 v173)] : List DV).length) .undef) []).bind (retD TT Try.f19.results.toList 0) = (impl_SparseTimes_T v169 v170 v171 v172 v173).bind fun y => .leaf (impl_SparseTimes_enc v169 v170 v171 v172 v173 y) := by kernel_rfl
theorem impl_SparseTimes_fn (v169 : Int) (v170 : List Int) (v171 : List Int) (v172 : List Nat) (v173 : List Nat) (F : Fr) (hm : F.ids.length = 0) (h0 : St F [] F.H0) (hA : DVs.Ok F [] [.agg [.int .i64 v169, .bslc (BR.root 0) (.i64 v170), .bslc (BR.root 1) (.i64 v171), .bslc (BR.root 2) (.f32 v172)], .bslc (BR.root 3) (.f32 v173)]) {y : (Unit) ⊕ ((List Nat))} (hy : impl_SparseTimes_g v169 v170 v171 v172 v173 = some y) : ∃ H', FnOk Try.prog 19 (DVs.av F [.agg [.int .i64 v169, .bslc (BR.root 0) (.i64 v170), .bslc (BR.root 1) (.i64 v171), .bslc (BR.root 2) (.f32 v172)], .bslc (BR.root 3) (.f32 v173)]) F.H0 ((impl_SparseTimes_enc v169 v170 v171 v172 v173 y).1.av F) H' ∧ St F (impl_SparseTimes_enc v169 v170 v171 v172 v173 y).2 H' ∧ (impl_SparseTimes_enc v169 v170 v171 v172 v173 y).1.Ok F (impl_SparseTimes_enc v169 v170 v171 v172 v173 y).2 :=
  fn_fin tok impl_SparseTimes_hO mixed Try.func19 Try.call19 (by kernel_rfl) (LoopsOk_eq (l := []) (by kernel_rfl) trivial) (impl_SparseTimes_den v169 v170 v171 v172 v173) hy hm h0 hA
noncomputable def impl_SparseTimes_F : DFn := fun args L =>
  match args with
  | [.agg [.int .i64 v169, a1, a2, a3], a4] =>
    optT (rowI64 L a1) fun v170 =>
    optT (rowI64 L a2) fun v171 =>
    optT (rowF32 L a3) fun v172 =>
    optT (rowF32 L a4) fun v173 =>
    .call (impl_SparseTimes_g v169 v170 v171 v172 v173) fun y => .sum y (fun y0 => .leaf (.tup [.nilslc, .lit false], L)) (fun z0 => .leaf (.tup [.own (L.length + 0) 0 ((z0).length), .lit true], L ++ [.row (.f32 z0) 0]))
  | _ => .fail
theorem impl_SparseTimes_Fok : COk Try.prog 19 impl_SparseTimes_F true := by
  intro F L H args r L' hs ha hr
  unfold impl_SparseTimes_F at hr
  split at hr
  · rename_i v169 a1 a2 a3 a4
    obtain ⟨v170, hv170, hr⟩ := optT_run hr
    obtain ⟨v171, hv171, hr⟩ := optT_run hr
    obtain ⟨v172, hv172, hr⟩ := optT_run hr
    obtain ⟨v173, hv173, hr⟩ := optT_run hr
    simp only [Tree.run] at hr
    obtain ⟨y, hy, hr⟩ := Option.bind_eq_some_iff.1 hr
    cases y with
    | inl y =>
      simp only [Tree.run, Option.some.injEq, Prod.mk.injEq] at hr
      obtain ⟨rfl, rfl⟩ := hr
      exact call_ok0 hs (fun k => (([a1.av F, a2.av F, a3.av F, a4.av F] : List AV)[k]?).getD .top) [.agg [.int .i64 v169, a1, a2, a3], a4] [.agg [.int .i64 v169, .bslc (BR.root 0) (.i64 v170), .bslc (BR.root 1) (.i64 v171), .bslc (BR.root 2) (.f32 v172)], .bslc (BR.root 3) (.f32 v173)] (fun F' h0 hi hρ => ⟨by simp [DVs.av, DV.av, BR.av, hρ], impl_SparseTimes_fn v169 v170 v171 v172 v173 F' (by rw [hi]; rfl) (st_nil hi) ⟨⟨trivial, bslc_ok hi (by rw [h0, hρ]; exact rowI64_ok hs (DVs.okAt (DVs.okAt ha 0 rfl) 1 rfl) hv170), bslc_ok hi (by rw [h0, hρ]; exact rowI64_ok hs (DVs.okAt (DVs.okAt ha 0 rfl) 2 rfl) hv171), bslc_ok hi (by rw [h0, hρ]; exact rowF32_ok hs (DVs.okAt (DVs.okAt ha 0 rfl) 3 rfl) hv172), trivial⟩, bslc_ok hi (by rw [h0, hρ]; exact rowF32_ok hs (DVs.okAt ha 1 rfl) hv173), trivial⟩ hy⟩) rfl
    | inr y =>
      simp only [Tree.run, Option.some.injEq, Prod.mk.injEq] at hr
      obtain ⟨rfl, rfl⟩ := hr
      exact call_ok1 hs (fun k => (([a1.av F, a2.av F, a3.av F, a4.av F] : List AV)[k]?).getD .top) [.agg [.int .i64 v169, a1, a2, a3], a4] [.agg [.int .i64 v169, .bslc (BR.root 0) (.i64 v170), .bslc (BR.root 1) (.i64 v171), .bslc (BR.root 2) (.f32 v172)], .bslc (BR.root 3) (.f32 v173)] (fun F' h0 hi hρ => ⟨by simp [DVs.av, DV.av, BR.av, hρ], impl_SparseTimes_fn v169 v170 v171 v172 v173 F' (by rw [hi]; rfl) (st_nil hi) ⟨⟨trivial, bslc_ok hi (by rw [h0, hρ]; exact rowI64_ok hs (DVs.okAt (DVs.okAt ha 0 rfl) 1 rfl) hv170), bslc_ok hi (by rw [h0, hρ]; exact rowI64_ok hs (DVs.okAt (DVs.okAt ha 0 rfl) 2 rfl) hv171), bslc_ok hi (by rw [h0, hρ]; exact rowF32_ok hs (DVs.okAt (DVs.okAt ha 0 rfl) 3 rfl) hv172), trivial⟩, bslc_ok hi (by rw [h0, hρ]; exact rowF32_ok hs (DVs.okAt ha 1 rfl) hv173), trivial⟩ hy⟩) rfl rfl
  · cases hr
/-! impl.SparseShared -/
noncomputable def impl_SparseShared_LO (v160 : Int) (v161 : List Int) (v162 : List Int) (v163 : List Nat) (v164 : List Nat) (v165 : Int) : LOr := fun id e L =>
  match id with
  | _ => .fail
noncomputable def impl_SparseShared_tab : List (FuncId × DFn × Bool) := [(72, impl_inRange_F, true), (19, impl_SparseTimes_F, true)]
theorem impl_SparseShared_hO : OrcOk Try.prog (tabD impl_SparseShared_tab) (tabM impl_SparseShared_tab) := tabD_cons impl_inRange_Fok (tabD_cons impl_SparseTimes_Fok (tabD_nil _))
noncomputable def impl_SparseShared_T (v160 : Int) (v161 : List Int) (v162 : List Int) (v163 : List Nat) (v164 : List Nat) (v165 : Int) : Tree ((Unit) ⊕ ((List Nat))) :=
  (.br (!(impl_inRange_v v165 (1 : Int) (8 : Int))) (
   .leaf (.inl ())
  ) (
   (.call (impl_SparseTimes_g v160 v161 v162 v163 v164) fun v335 =>
   (.sum v335 (fun v336 =>
    .leaf (.inl ())
   ) (fun v337 =>
    .leaf (.inr v337)
   )))
  ))

noncomputable def impl_SparseShared_g (v160 : Int) (v161 : List Int) (v162 : List Int) (v163 : List Nat) (v164 : List Nat) (v165 : Int) : Option ((Unit) ⊕ ((List Nat))) := (impl_SparseShared_T v160 v161 v162 v163 v164 v165).run
def impl_SparseShared_enc (v160 : Int) (v161 : List Int) (v162 : List Int) (v163 : List Nat) (v164 : List Nat) (v165 : Int) (y : (Unit) ⊕ ((List Nat))) : Rs := (match y with | .inl y => (.tup [.nilslc, .lit false], []) | .inr y => (.tup [.own 0 0 ((y).length), .lit true], [.row (.f32 y) 0]))
theorem impl_SparseShared_den (v160 : Int) (v161 : List Int) (v162 : List Int) (v163 : List Nat) (v164 : List Nat) (v165 : Int) : (den TT (tabD impl_SparseShared_tab) (tabM impl_SparseShared_tab) (impl_SparseShared_LO v160 v161 v162 v163 v164 v165) (codeOf Try.f26) ([.agg [.int .i64 v160, .bslc (BR.root 0) (.i64 v161), .bslc (BR.root 1) (.i64 v162), .bslc (BR.root 2) (.f32 v163)], .bslc (BR.root 3) (.f32 v164), .int .i64 v165] ++ List.replicate (Try.f26.ntmps - ([.agg [.int .i64 v160, .bslc (BR.root 0) (.i64 v161), .bslc (BR.root 1) (.i64 v162), .bslc (BR.root 2) (.f32 v163)], .bslc (BR.root 3) (.f32 v164), .int .i64 v165] : List DV).length) .undef) []).bind (retD TT Try.f26.results.toList 0) = (impl_SparseShared_T v160 v161 v162 v163 v164 v165).bind fun y => .leaf (impl_SparseShared_enc v160 v161 v162 v163 v164 v165 y) := by kernel_rfl
theorem impl_SparseShared_fn (v160 : Int) (v161 : List Int) (v162 : List Int) (v163 : List Nat) (v164 : List Nat) (v165 : Int) (F : Fr) (hm : F.ids.length = 0) (h0 : St F [] F.H0) (hA : DVs.Ok F [] [.agg [.int .i64 v160, .bslc (BR.root 0) (.i64 v161), .bslc (BR.root 1) (.i64 v162), .bslc (BR.root 2) (.f32 v163)], .bslc (BR.root 3) (.f32 v164), .int .i64 v165]) {y : (Unit) ⊕ ((List Nat))} (hy : impl_SparseShared_g v160 v161 v162 v163 v164 v165 = some y) : ∃ H', FnOk Try.prog 26 (DVs.av F [.agg [.int .i64 v160, .bslc (BR.root 0) (.i64 v161), .bslc (BR.root 1) (.i64 v162), .bslc (BR.root 2) (.f32 v163)], .bslc (BR.root 3) (.f32 v164), .int .i64 v165]) F.H0 ((impl_SparseShared_enc v160 v161 v162 v163 v164 v165 y).1.av F) H' ∧ St F (impl_SparseShared_enc v160 v161 v162 v163 v164 v165 y).2 H' ∧ (impl_SparseShared_enc v160 v161 v162 v163 v164 v165 y).1.Ok F (impl_SparseShared_enc v160 v161 v162 v163 v164 v165 y).2 :=
  fn_fin tok impl_SparseShared_hO mixed Try.func26 Try.call26 (by kernel_rfl) (LoopsOk_eq (l := []) (by kernel_rfl) trivial) (impl_SparseShared_den v160 v161 v162 v163 v164 v165) hy hm h0 hA
noncomputable def impl_SparseShared_F : DFn := fun args L =>
  match args with
  | [.agg [.int .i64 v160, a1, a2, a3], a4, .int .i64 v165] =>
    optT (rowI64 L a1) fun v161 =>
    optT (rowI64 L a2) fun v162 =>
    optT (rowF32 L a3) fun v163 =>
    optT (rowF32 L a4) fun v164 =>
    .call (impl_SparseShared_g v160 v161 v162 v163 v164 v165) fun y => .sum y (fun y0 => .leaf (.tup [.nilslc, .lit false], L)) (fun z0 => .leaf (.tup [.own (L.length + 0) 0 ((z0).length), .lit true], L ++ [.row (.f32 z0) 0]))
  | _ => .fail
theorem impl_SparseShared_Fok : COk Try.prog 26 impl_SparseShared_F true := by
  intro F L H args r L' hs ha hr
  unfold impl_SparseShared_F at hr
  split at hr
  · rename_i v160 a1 a2 a3 a4 v165
    obtain ⟨v161, hv161, hr⟩ := optT_run hr
    obtain ⟨v162, hv162, hr⟩ := optT_run hr
    obtain ⟨v163, hv163, hr⟩ := optT_run hr
    obtain ⟨v164, hv164, hr⟩ := optT_run hr
    simp only [Tree.run] at hr
    obtain ⟨y, hy, hr⟩ := Option.bind_eq_some_iff.1 hr
    cases y with
    | inl y =>
      simp only [Tree.run, Option.some.injEq, Prod.mk.injEq] at hr
      obtain ⟨rfl, rfl⟩ := hr
      exact call_ok0 hs (fun k => (([a1.av F, a2.av F, a3.av F, a4.av F] : List AV)[k]?).getD .top) [.agg [.int .i64 v160, a1, a2, a3], a4, .int .i64 v165] [.agg [.int .i64 v160, .bslc (BR.root 0) (.i64 v161), .bslc (BR.root 1) (.i64 v162), .bslc (BR.root 2) (.f32 v163)], .bslc (BR.root 3) (.f32 v164), .int .i64 v165] (fun F' h0 hi hρ => ⟨by simp [DVs.av, DV.av, BR.av, hρ], impl_SparseShared_fn v160 v161 v162 v163 v164 v165 F' (by rw [hi]; rfl) (st_nil hi) ⟨⟨trivial, bslc_ok hi (by rw [h0, hρ]; exact rowI64_ok hs (DVs.okAt (DVs.okAt ha 0 rfl) 1 rfl) hv161), bslc_ok hi (by rw [h0, hρ]; exact rowI64_ok hs (DVs.okAt (DVs.okAt ha 0 rfl) 2 rfl) hv162), bslc_ok hi (by rw [h0, hρ]; exact rowF32_ok hs (DVs.okAt (DVs.okAt ha 0 rfl) 3 rfl) hv163), trivial⟩, bslc_ok hi (by rw [h0, hρ]; exact rowF32_ok hs (DVs.okAt ha 1 rfl) hv164), trivial, trivial⟩ hy⟩) rfl
    | inr y =>
      simp only [Tree.run, Option.some.injEq, Prod.mk.injEq] at hr
      obtain ⟨rfl, rfl⟩ := hr
      exact call_ok1 hs (fun k => (([a1.av F, a2.av F, a3.av F, a4.av F] : List AV)[k]?).getD .top) [.agg [.int .i64 v160, a1, a2, a3], a4, .int .i64 v165] [.agg [.int .i64 v160, .bslc (BR.root 0) (.i64 v161), .bslc (BR.root 1) (.i64 v162), .bslc (BR.root 2) (.f32 v163)], .bslc (BR.root 3) (.f32 v164), .int .i64 v165] (fun F' h0 hi hρ => ⟨by simp [DVs.av, DV.av, BR.av, hρ], impl_SparseShared_fn v160 v161 v162 v163 v164 v165 F' (by rw [hi]; rfl) (st_nil hi) ⟨⟨trivial, bslc_ok hi (by rw [h0, hρ]; exact rowI64_ok hs (DVs.okAt (DVs.okAt ha 0 rfl) 1 rfl) hv161), bslc_ok hi (by rw [h0, hρ]; exact rowI64_ok hs (DVs.okAt (DVs.okAt ha 0 rfl) 2 rfl) hv162), bslc_ok hi (by rw [h0, hρ]; exact rowF32_ok hs (DVs.okAt (DVs.okAt ha 0 rfl) 3 rfl) hv163), trivial⟩, bslc_ok hi (by rw [h0, hρ]; exact rowF32_ok hs (DVs.okAt ha 1 rfl) hv164), trivial, trivial⟩ hy⟩) rfl rfl
  · cases hr
/-! laws.sameFloat -/
noncomputable def laws_sameFloat_LO (v344 : Nat) (v345 : Nat) : LOr := fun id e L =>
  match id with
  | _ => .fail
noncomputable def laws_sameFloat_tab : List (FuncId × DFn × Bool) := []
theorem laws_sameFloat_hO : OrcOk Try.prog (tabD laws_sameFloat_tab) (tabM laws_sameFloat_tab) := tabD_nil _
noncomputable def laws_sameFloat_T (v344 : Nat) (v345 : Nat) : Tree (Bool) :=
  (.br (!feq .f64 v344 v344) (
   (.br (!feq .f64 v344 v344) (
    .leaf (!feq .f64 v345 v345)
   ) (
    .leaf false
   ))
  ) (
   (.br (!feq .f64 v345 v345) (
    (.br (!feq .f64 v344 v344) (
     .leaf (!feq .f64 v345 v345)
    ) (
     .leaf false
    ))
   ) (
    (.br (feq .f64 v344 (0 : Nat)) (
     (.br (feq .f64 v345 (0 : Nat)) (
      .leaf ((fgrt .f64 (fdiv .f64 (4607182418800017408 : Nat) v344) (0 : Nat)) == (fgrt .f64 (fdiv .f64 (4607182418800017408 : Nat) v345) (0 : Nat)))
     ) (
      .leaf (feq .f64 v344 v345)
     ))
    ) (
     .leaf (feq .f64 v344 v345)
    ))
   ))
  ))

noncomputable def laws_sameFloat_g (v344 : Nat) (v345 : Nat) : Option (Bool) := (laws_sameFloat_T v344 v345).run
def laws_sameFloat_enc (v344 : Nat) (v345 : Nat) (y : Bool) : Rs := (.bool y, [])
theorem laws_sameFloat_den (v344 : Nat) (v345 : Nat) : (den TT (tabD laws_sameFloat_tab) (tabM laws_sameFloat_tab) (laws_sameFloat_LO v344 v345) (codeOf Try.f53) ([.flt .f64 v344, .flt .f64 v345] ++ List.replicate (Try.f53.ntmps - ([.flt .f64 v344, .flt .f64 v345] : List DV).length) .undef) []).bind (retD TT Try.f53.results.toList 0) = (laws_sameFloat_T v344 v345).bind fun y => .leaf (laws_sameFloat_enc v344 v345 y) := by kernel_rfl
theorem laws_sameFloat_fn (v344 : Nat) (v345 : Nat) (F : Fr) (hm : F.ids.length = 0) (h0 : St F [] F.H0) (hA : DVs.Ok F [] [.flt .f64 v344, .flt .f64 v345]) {y : Bool} (hy : laws_sameFloat_g v344 v345 = some y) : ∃ H', FnOk Try.prog 53 (DVs.av F [.flt .f64 v344, .flt .f64 v345]) F.H0 ((laws_sameFloat_enc v344 v345 y).1.av F) H' ∧ St F (laws_sameFloat_enc v344 v345 y).2 H' ∧ (laws_sameFloat_enc v344 v345 y).1.Ok F (laws_sameFloat_enc v344 v345 y).2 :=
  fn_fin tok laws_sameFloat_hO mixed Try.func53 Try.call53 (by kernel_rfl) (LoopsOk_eq (l := []) (by kernel_rfl) trivial) (laws_sameFloat_den v344 v345) hy hm h0 hA
def laws_sameFloat_v (v344 : Nat) (v345 : Nat) : Bool :=
  if (!feq .f64 v344 v344) = true then (
   if (!feq .f64 v344 v344) = true then (
    !feq .f64 v345 v345
   ) else (
    false
   )
  ) else (
   if (!feq .f64 v345 v345) = true then (
    if (!feq .f64 v344 v344) = true then (
     !feq .f64 v345 v345
    ) else (
     false
    )
   ) else (
    if (feq .f64 v344 (0 : Nat)) = true then (
     if (feq .f64 v345 (0 : Nat)) = true then (
      (fgrt .f64 (fdiv .f64 (4607182418800017408 : Nat) v344) (0 : Nat)) == (fgrt .f64 (fdiv .f64 (4607182418800017408 : Nat) v345) (0 : Nat))
     ) else (
      feq .f64 v344 v345
     )
    ) else (
     feq .f64 v344 v345
    )
   )
  )
theorem laws_sameFloat_tot (v344 : Nat) (v345 : Nat) : laws_sameFloat_g v344 v345 = some (laws_sameFloat_v v344 v345) := by
  unfold laws_sameFloat_g laws_sameFloat_T laws_sameFloat_v
  simp only [Tree.run]
  repeat' (first | rfl | split)
noncomputable def laws_sameFloat_F : DFn := fun args L =>
  match args with
  | [.flt .f64 v344, .flt .f64 v345] =>
    .leaf (.bool (laws_sameFloat_v v344 v345), L)
  | _ => .fail
theorem laws_sameFloat_Fok : COk Try.prog 53 laws_sameFloat_F true := by
  intro F L H args r L' hs ha hr
  unfold laws_sameFloat_F at hr
  split at hr
  · rename_i v344 v345
    have hy := laws_sameFloat_tot v344 v345
    generalize laws_sameFloat_v v344 v345 = y at hy hr
    simp only [Tree.run, Option.some.injEq, Prod.mk.injEq] at hr
    obtain ⟨rfl, rfl⟩ := hr
    exact call_ok0 hs (fun k => (([] : List AV)[k]?).getD .top) [.flt .f64 v344, .flt .f64 v345] [.flt .f64 v344, .flt .f64 v345] (fun F' h0 hi hρ => ⟨by simp [DVs.av, DV.av, BR.av, hρ], laws_sameFloat_fn v344 v345 F' (by rw [hi]; rfl) (st_nil hi) ⟨trivial, trivial, trivial⟩ hy⟩) rfl
  · cases hr
/-! laws.eqFloat32S -/
noncomputable def laws_eqFloat32S_l0_T (v341 : List Nat) (v342 : List Nat) (s : Int) : Tree ((Int) ⊕ ((Unit) ⊕ (Unit))) :=
  (.br (decide (s < ((v341.length : Nat) : Int))) (
   (.grd (inb s v341.length) <|
   (.grd (inb s v342.length) <|
   (.br (!(laws_sameFloat_v (wid (nth v341 (Int.toNat s))) (wid (nth v342 (Int.toNat s))))) (
    .leaf (.inr (.inl ()))
   ) (
    .leaf (.inl (IntKind.i64.wrap (s + (1 : Int))))
   ))))
  ) (
   .leaf (.inr (.inr ()))
  ))

noncomputable def laws_eqFloat32S_l0_g (v341 : List Nat) (v342 : List Nat) (s0 : Int) : Option ((Unit) ⊕ (Unit)) := whileM (fun s => (laws_eqFloat32S_l0_T v341 v342 s).run) s0
def laws_eqFloat32S_l0_E (v341 : List Nat) (v342 : List Nat) (s : Int) : Sd := ([.bslc (BR.root 0) (.f32 v341), .bslc (BR.root 1) (.f32 v342), .top, .top, .top, .int .i64 s, .top, .top, .top, .top, .top, .top, .top, .top, .top, .top, .top, .top, .top, .top, .top, .top, .top, .top, .top, .top, .top, .top, .top], [])
def laws_eqFloat32S_l0_X (v341 : List Nat) (v342 : List Nat) (x : (Unit) ⊕ (Unit)) : Out := (match x with | .inl x => (.ret, [.top, .top, .top, .top, .lit false, .top, .top, .top, .top, .top, .top, .top, .top, .top, .top, .top, .top, .top, .top, .top, .top, .top, .top, .top, .top, .top, .top, .top, .top], []) | .inr x => (.normal, [.top, .top, .top, .top, .top, .top, .top, .top, .top, .top, .top, .top, .top, .top, .top, .top, .top, .top, .top, .top, .top, .top, .top, .top, .top, .top, .top, .top, .top], []))
def laws_eqFloat32S_l0_kill : List Nat := [0, 0, 1, 1, 1, 0, 1, 1, 1, 1, 1, 1, 1, 1, 1, 1, 1, 1, 1, 1, 1, 1, 1, 1, 1, 1, 1, 1, 1]
def laws_eqFloat32S_l0_nx : Exit → List Nat
  | .exit 0 => [1, 1, 1, 1, 1, 1, 1, 1, 1, 1, 1, 1, 1, 1, 1, 1, 1, 1, 1, 1, 1, 1, 1, 1, 1, 1, 1, 1, 1]
  | .ret => [1, 1, 1, 1, 0, 1, 1, 1, 1, 1, 1, 1, 1, 1, 1, 1, 1, 1, 1, 1, 1, 1, 1, 1, 1, 1, 1, 1, 1]
  | _ => []
noncomputable def laws_eqFloat32S_LO (v341 : List Nat) (v342 : List Nat) : LOr := fun id e L =>
  match id with
  | 0 => .need (normA 0 laws_eqFloat32S_l0_kill e L = some (laws_eqFloat32S_l0_E v341 v342 (gI (vAt e 5)))) (.call (laws_eqFloat32S_l0_g v341 v342 (gI (vAt e 5))) fun x => .sum x (fun b0 => .leaf (laws_eqFloat32S_l0_X v341 v342 (.inl b0))) (fun c0 => .leaf (laws_eqFloat32S_l0_X v341 v342 (.inr c0))))
  | _ => .fail
noncomputable def laws_eqFloat32S_tab : List (FuncId × DFn × Bool) := [(53, laws_sameFloat_F, true)]
theorem laws_eqFloat32S_hO : OrcOk Try.prog (tabD laws_eqFloat32S_tab) (tabM laws_eqFloat32S_tab) := tabD_cons laws_sameFloat_Fok (tabD_nil _)
theorem laws_eqFloat32S_l0_be (v341 : List Nat) (v342 : List Nat) (s : Int) : bodyT TT (tabD laws_eqFloat32S_tab) (tabM laws_eqFloat32S_tab) (laws_eqFloat32S_LO v341 v342) 0 laws_eqFloat32S_l0_kill laws_eqFloat32S_l0_nx (bodyOf Try.f20 0) 0 (laws_eqFloat32S_l0_E v341 v342 s) = (laws_eqFloat32S_l0_T v341 v342 s).bind fun y => .leaf (outS (laws_eqFloat32S_l0_E v341 v342) (laws_eqFloat32S_l0_X v341 v342) y) := by kernel_rfl
theorem laws_eqFloat32S_l0_ok (v341 : List Nat) (v342 : List Nat) : LSound Try.prog 0 (laws_eqFloat32S_LO v341 v342) 0 (bodyOf Try.f20 0) := by
  intro e L out h
  exact lo_ok (E := laws_eqFloat32S_l0_E v341 v342) (gT := laws_eqFloat32S_l0_T v341 v342) (X := laws_eqFloat32S_l0_X v341 v342) (s0 := (gI (vAt e 5))) tok laws_eqFloat32S_hO mixed (LoopsOk_eq (l := []) (by kernel_rfl) trivial) (laws_eqFloat32S_l0_be v341 v342) rfl (by intro x; (cases x with | inl b => rfl | inr x => exact rfl)) h
noncomputable def laws_eqFloat32S_T (v341 : List Nat) (v342 : List Nat) : Tree (Bool) :=
  (.br (!decide (((v341.length : Nat) : Int) = ((v342.length : Nat) : Int))) (
   .leaf false
  ) (
   (.need (some (laws_eqFloat32S_l0_E v341 v342 (0 : Int)) = some (laws_eqFloat32S_l0_E v341 v342 (0 : Int))) <|
   (.call (laws_eqFloat32S_l0_g v341 v342 (0 : Int)) fun v348 =>
   (.sum v348 (fun v349 =>
    .leaf false
   ) (fun v350 =>
    .leaf true
   ))))
  ))

noncomputable def laws_eqFloat32S_g (v341 : List Nat) (v342 : List Nat) : Option (Bool) := (laws_eqFloat32S_T v341 v342).run
def laws_eqFloat32S_enc (v341 : List Nat) (v342 : List Nat) (y : Bool) : Rs := (.bool y, [])
theorem laws_eqFloat32S_den (v341 : List Nat) (v342 : List Nat) : (den TT (tabD laws_eqFloat32S_tab) (tabM laws_eqFloat32S_tab) (laws_eqFloat32S_LO v341 v342) (codeOf Try.f20) ([.bslc (BR.root 0) (.f32 v341), .bslc (BR.root 1) (.f32 v342)] ++ List.replicate (Try.f20.ntmps - ([.bslc (BR.root 0) (.f32 v341), .bslc (BR.root 1) (.f32 v342)] : List DV).length) .undef) []).bind (retD TT Try.f20.results.toList 0) = (laws_eqFloat32S_T v341 v342).bind fun y => .leaf (laws_eqFloat32S_enc v341 v342 y) := by kernel_rfl
theorem laws_eqFloat32S_fn (v341 : List Nat) (v342 : List Nat) (F : Fr) (hm : F.ids.length = 0) (h0 : St F [] F.H0) (hA : DVs.Ok F [] [.bslc (BR.root 0) (.f32 v341), .bslc (BR.root 1) (.f32 v342)]) {y : Bool} (hy : laws_eqFloat32S_g v341 v342 = some y) : ∃ H', FnOk Try.prog 20 (DVs.av F [.bslc (BR.root 0) (.f32 v341), .bslc (BR.root 1) (.f32 v342)]) F.H0 ((laws_eqFloat32S_enc v341 v342 y).1.av F) H' ∧ St F (laws_eqFloat32S_enc v341 v342 y).2 H' ∧ (laws_eqFloat32S_enc v341 v342 y).1.Ok F (laws_eqFloat32S_enc v341 v342 y).2 :=
  fn_fin tok laws_eqFloat32S_hO mixed Try.func20 Try.call20 (by kernel_rfl) (LoopsOk_eq (l := [(0, bodyOf Try.f20 0)]) (by kernel_rfl) ⟨laws_eqFloat32S_l0_ok v341 v342, trivial⟩) (laws_eqFloat32S_den v341 v342) hy hm h0 hA
noncomputable def laws_eqFloat32S_F : DFn := fun args L =>
  match args with
  | [a1, a2] =>
    optT (rowF32 L a1) fun v341 =>
    optT (rowF32 L a2) fun v342 =>
    .call (laws_eqFloat32S_g v341 v342) fun y => .leaf (.bool y, L)
  | _ => .fail
theorem laws_eqFloat32S_Fok : COk Try.prog 20 laws_eqFloat32S_F true := by
  intro F L H args r L' hs ha hr
  unfold laws_eqFloat32S_F at hr
  split at hr
  · rename_i a1 a2
    obtain ⟨v341, hv341, hr⟩ := optT_run hr
    obtain ⟨v342, hv342, hr⟩ := optT_run hr
    simp only [Tree.run] at hr
    obtain ⟨y, hy, hr⟩ := Option.bind_eq_some_iff.1 hr
    simp only [Tree.run, Option.some.injEq, Prod.mk.injEq] at hr
    obtain ⟨rfl, rfl⟩ := hr
    exact call_ok0 hs (fun k => (([a1.av F, a2.av F] : List AV)[k]?).getD .top) [a1, a2] [.bslc (BR.root 0) (.f32 v341), .bslc (BR.root 1) (.f32 v342)] (fun F' h0 hi hρ => ⟨by simp [DVs.av, DV.av, BR.av, hρ], laws_eqFloat32S_fn v341 v342 F' (by rw [hi]; rfl) (st_nil hi) ⟨bslc_ok hi (by rw [h0, hρ]; exact rowF32_ok hs (DVs.okAt ha 0 rfl) hv341), bslc_ok hi (by rw [h0, hρ]; exact rowF32_ok hs (DVs.okAt ha 1 rfl) hv342), trivial⟩ hy⟩) rfl
  · cases hr
/-! laws.eqInt64S -/
noncomputable def laws_eqInt64S_l0_T (v361 : List Int) (v362 : List Int) (s : Int) : Tree ((Int) ⊕ ((Unit) ⊕ (Unit))) :=
  (.br (decide (s < ((v361.length : Nat) : Int))) (
   (.grd (inb s v361.length) <|
   (.grd (inb s v362.length) <|
   (.br (!decide (nth v361 (Int.toNat s) = nth v362 (Int.toNat s))) (
    .leaf (.inr (.inl ()))
   ) (
    .leaf (.inl (IntKind.i64.wrap (s + (1 : Int))))
   ))))
  ) (
   .leaf (.inr (.inr ()))
  ))

noncomputable def laws_eqInt64S_l0_g (v361 : List Int) (v362 : List Int) (s0 : Int) : Option ((Unit) ⊕ (Unit)) := whileM (fun s => (laws_eqInt64S_l0_T v361 v362 s).run) s0
def laws_eqInt64S_l0_E (v361 : List Int) (v362 : List Int) (s : Int) : Sd := ([.bslc (BR.root 0) (.i64 v361), .bslc (BR.root 1) (.i64 v362), .top, .top, .top, .int .i64 s, .top, .top, .top, .top, .top, .top, .top, .top, .top, .top, .top, .top, .top, .top, .top, .top, .top, .top, .top, .top], [])
def laws_eqInt64S_l0_X (v361 : List Int) (v362 : List Int) (x : (Unit) ⊕ (Unit)) : Out := (match x with | .inl x => (.ret, [.top, .top, .top, .top, .lit false, .top, .top, .top, .top, .top, .top, .top, .top, .top, .top, .top, .top, .top, .top, .top, .top, .top, .top, .top, .top, .top], []) | .inr x => (.normal, [.top, .top, .top, .top, .top, .top, .top, .top, .top, .top, .top, .top, .top, .top, .top, .top, .top, .top, .top, .top, .top, .top, .top, .top, .top, .top], []))
def laws_eqInt64S_l0_kill : List Nat := [0, 0, 1, 1, 1, 0, 1, 1, 1, 1, 1, 1, 1, 1, 1, 1, 1, 1, 1, 1, 1, 1, 1, 1, 1, 1]
def laws_eqInt64S_l0_nx : Exit → List Nat
  | .exit 0 => [1, 1, 1, 1, 1, 1, 1, 1, 1, 1, 1, 1, 1, 1, 1, 1, 1, 1, 1, 1, 1, 1, 1, 1, 1, 1]
  | .ret => [1, 1, 1, 1, 0, 1, 1, 1, 1, 1, 1, 1, 1, 1, 1, 1, 1, 1, 1, 1, 1, 1, 1, 1, 1, 1]
  | _ => []
noncomputable def laws_eqInt64S_LO (v361 : List Int) (v362 : List Int) : LOr := fun id e L =>
  match id with
  | 0 => .need (normA 0 laws_eqInt64S_l0_kill e L = some (laws_eqInt64S_l0_E v361 v362 (gI (vAt e 5)))) (.call (laws_eqInt64S_l0_g v361 v362 (gI (vAt e 5))) fun x => .sum x (fun b0 => .leaf (laws_eqInt64S_l0_X v361 v362 (.inl b0))) (fun c0 => .leaf (laws_eqInt64S_l0_X v361 v362 (.inr c0))))
  | _ => .fail
noncomputable def laws_eqInt64S_tab : List (FuncId × DFn × Bool) := []
theorem laws_eqInt64S_hO : OrcOk Try.prog (tabD laws_eqInt64S_tab) (tabM laws_eqInt64S_tab) := tabD_nil _
theorem laws_eqInt64S_l0_be (v361 : List Int) (v362 : List Int) (s : Int) : bodyT TT (tabD laws_eqInt64S_tab) (tabM laws_eqInt64S_tab) (laws_eqInt64S_LO v361 v362) 0 laws_eqInt64S_l0_kill laws_eqInt64S_l0_nx (bodyOf Try.f44 0) 0 (laws_eqInt64S_l0_E v361 v362 s) = (laws_eqInt64S_l0_T v361 v362 s).bind fun y => .leaf (outS (laws_eqInt64S_l0_E v361 v362) (laws_eqInt64S_l0_X v361 v362) y) := by kernel_rfl
theorem laws_eqInt64S_l0_ok (v361 : List Int) (v362 : List Int) : LSound Try.prog 0 (laws_eqInt64S_LO v361 v362) 0 (bodyOf Try.f44 0) := by
  intro e L out h
  exact lo_ok (E := laws_eqInt64S_l0_E v361 v362) (gT := laws_eqInt64S_l0_T v361 v362) (X := laws_eqInt64S_l0_X v361 v362) (s0 := (gI (vAt e 5))) tok laws_eqInt64S_hO mixed (LoopsOk_eq (l := []) (by kernel_rfl) trivial) (laws_eqInt64S_l0_be v361 v362) rfl (by intro x; (cases x with | inl b => rfl | inr x => exact rfl)) h
noncomputable def laws_eqInt64S_T (v361 : List Int) (v362 : List Int) : Tree (Bool) :=
  (.br (!decide (((v361.length : Nat) : Int) = ((v362.length : Nat) : Int))) (
   .leaf false
  ) (
   (.need (some (laws_eqInt64S_l0_E v361 v362 (0 : Int)) = some (laws_eqInt64S_l0_E v361 v362 (0 : Int))) <|
   (.call (laws_eqInt64S_l0_g v361 v362 (0 : Int)) fun v366 =>
   (.sum v366 (fun v367 =>
    .leaf false
   ) (fun v368 =>
    .leaf true
   ))))
  ))

noncomputable def laws_eqInt64S_g (v361 : List Int) (v362 : List Int) : Option (Bool) := (laws_eqInt64S_T v361 v362).run
def laws_eqInt64S_enc (v361 : List Int) (v362 : List Int) (y : Bool) : Rs := (.bool y, [])
theorem laws_eqInt64S_den (v361 : List Int) (v362 : List Int) : (den TT (tabD laws_eqInt64S_tab) (tabM laws_eqInt64S_tab) (laws_eqInt64S_LO v361 v362) (codeOf Try.f44) ([.bslc (BR.root 0) (.i64 v361), .bslc (BR.root 1) (.i64 v362)] ++ List.replicate (Try.f44.ntmps - ([.bslc (BR.root 0) (.i64 v361), .bslc (BR.root 1) (.i64 v362)] : List DV).length) .undef) []).bind (retD TT Try.f44.results.toList 0) = (laws_eqInt64S_T v361 v362).bind fun y => .leaf (laws_eqInt64S_enc v361 v362 y) := by kernel_rfl
theorem laws_eqInt64S_fn (v361 : List Int) (v362 : List Int) (F : Fr) (hm : F.ids.length = 0) (h0 : St F [] F.H0) (hA : DVs.Ok F [] [.bslc (BR.root 0) (.i64 v361), .bslc (BR.root 1) (.i64 v362)]) {y : Bool} (hy : laws_eqInt64S_g v361 v362 = some y) : ∃ H', FnOk Try.prog 44 (DVs.av F [.bslc (BR.root 0) (.i64 v361), .bslc (BR.root 1) (.i64 v362)]) F.H0 ((laws_eqInt64S_enc v361 v362 y).1.av F) H' ∧ St F (laws_eqInt64S_enc v361 v362 y).2 H' ∧ (laws_eqInt64S_enc v361 v362 y).1.Ok F (laws_eqInt64S_enc v361 v362 y).2 :=
  fn_fin tok laws_eqInt64S_hO mixed Try.func44 Try.call44 (by kernel_rfl) (LoopsOk_eq (l := [(0, bodyOf Try.f44 0)]) (by kernel_rfl) ⟨laws_eqInt64S_l0_ok v361 v362, trivial⟩) (laws_eqInt64S_den v361 v362) hy hm h0 hA
noncomputable def laws_eqInt64S_F : DFn := fun args L =>
  match args with
  | [a1, a2] =>
    optT (rowI64 L a1) fun v361 =>
    optT (rowI64 L a2) fun v362 =>
    .call (laws_eqInt64S_g v361 v362) fun y => .leaf (.bool y, L)
  | _ => .fail
theorem laws_eqInt64S_Fok : COk Try.prog 44 laws_eqInt64S_F true := by
  intro F L H args r L' hs ha hr
  unfold laws_eqInt64S_F at hr
  split at hr
  · rename_i a1 a2
    obtain ⟨v361, hv361, hr⟩ := optT_run hr
    obtain ⟨v362, hv362, hr⟩ := optT_run hr
    simp only [Tree.run] at hr
    obtain ⟨y, hy, hr⟩ := Option.bind_eq_some_iff.1 hr
    simp only [Tree.run, Option.some.injEq, Prod.mk.injEq] at hr
    obtain ⟨rfl, rfl⟩ := hr
    exact call_ok0 hs (fun k => (([a1.av F, a2.av F] : List AV)[k]?).getD .top) [a1, a2] [.bslc (BR.root 0) (.i64 v361), .bslc (BR.root 1) (.i64 v362)] (fun F' h0 hi hρ => ⟨by simp [DVs.av, DV.av, BR.av, hρ], laws_eqInt64S_fn v361 v362 F' (by rw [hi]; rfl) (st_nil hi) ⟨bslc_ok hi (by rw [h0, hρ]; exact rowI64_ok hs (DVs.okAt ha 0 rfl) hv361), bslc_ok hi (by rw [h0, hρ]; exact rowI64_ok hs (DVs.okAt ha 1 rfl) hv362), trivial⟩ hy⟩) rfl
  · cases hr
/-! laws.eqSparse -/
noncomputable def laws_eqSparse_LO (v353 : Int) (v354 : List Int) (v355 : List Int) (v356 : List Nat) (v357 : Int) (v358 : List Int) (v359 : List Int) (v360 : List Nat) : LOr := fun id e L =>
  match id with
  | _ => .fail
noncomputable def laws_eqSparse_tab : List (FuncId × DFn × Bool) := [(44, laws_eqInt64S_F, true), (20, laws_eqFloat32S_F, true)]
theorem laws_eqSparse_hO : OrcOk Try.prog (tabD laws_eqSparse_tab) (tabM laws_eqSparse_tab) := tabD_cons laws_eqInt64S_Fok (tabD_cons laws_eqFloat32S_Fok (tabD_nil _))
noncomputable def laws_eqSparse_T (v353 : Int) (v354 : List Int) (v355 : List Int) (v356 : List Nat) (v357 : Int) (v358 : List Int) (v359 : List Int) (v360 : List Nat) : Tree (Bool) :=
  (.br (!decide (v353 = v357)) (
   .leaf false
  ) (
   (.call (laws_eqInt64S_g v354 v358) fun v369 =>
   (.br (!v369) (
    .leaf false
   ) (
    (.call (laws_eqInt64S_g v355 v359) fun v370 =>
    (.br (!v370) (
     .leaf false
    ) (
     (.call (laws_eqFloat32S_g v356 v360) fun v371 =>
     (.br (!v371) (
      .leaf false
     ) (
      .leaf true
     )))
    )))
   )))
  ))

noncomputable def laws_eqSparse_g (v353 : Int) (v354 : List Int) (v355 : List Int) (v356 : List Nat) (v357 : Int) (v358 : List Int) (v359 : List Int) (v360 : List Nat) : Option (Bool) := (laws_eqSparse_T v353 v354 v355 v356 v357 v358 v359 v360).run
def laws_eqSparse_enc (v353 : Int) (v354 : List Int) (v355 : List Int) (v356 : List Nat) (v357 : Int) (v358 : List Int) (v359 : List Int) (v360 : List Nat) (y : Bool) : Rs := (.bool y, [])
theorem laws_eqSparse_den (v353 : Int) (v354 : List Int) (v355 : List Int) (v356 : List Nat) (v357 : Int) (v358 : List Int) (v359 : List Int) (v360 : List Nat) : (den TT (tabD laws_eqSparse_tab) (tabM laws_eqSparse_tab) (laws_eqSparse_LO v353 v354 v355 v356 v357 v358 v359 v360) (codeOf Try.f21) ([.agg [.int .i64 v353, .bslc (BR.root 0) (.i64 v354), .bslc (BR.root 1) (.i64 v355), .bslc (BR.root 2) (.f32 v356)], .agg [.int .i64 v357, .bslc (BR.root 3) (.i64 v358), .bslc (BR.root 4) (.i64 v359), .bslc (BR.root 5) (.f32 v360)]] ++ List.replicate (Try.f21.ntmps - ([.agg [.int .i64 v353, .bslc (BR.root 0) (.i64 v354), .bslc (BR.root 1) (.i64 v355), .bslc (BR.root 2) (.f32 v356)], .agg [.int .i64 v357, .bslc (BR.root 3) (.i64 v358), .bslc (BR.root 4) (.i64 v359), .bslc (BR.root 5) (.f32 v360)]] : List DV).length) .undef) []).bind (retD TT Try.f21.results.toList 0) = (laws_eqSparse_T v353 v354 v355 v356 v357 v358 v359 v360).bind fun y => .leaf (laws_eqSparse_enc v353 v354 v355 v356 v357 v358 v359 v360 y) := by kernel_rfl
theorem laws_eqSparse_fn (v353 : Int) (v354 : List Int) (v355 : List Int) (v356 : List Nat) (v357 : Int) (v358 : List Int) (v359 : List Int) (v360 : List Nat) (F : Fr) (hm : F.ids.length = 0) (h0 : St F [] F.H0) (hA : DVs.Ok F [] [.agg [.int .i64 v353, .bslc (BR.root 0) (.i64 v354), .bslc (BR.root 1) (.i64 v355), .bslc (BR.root 2) (.f32 v356)], .agg [.int .i64 v357, .bslc (BR.root 3) (.i64 v358), .bslc (BR.root 4) (.i64 v359), .bslc (BR.root 5) (.f32 v360)]]) {y : Bool} (hy : laws_eqSparse_g v353 v354 v355 v356 v357 v358 v359 v360 = some y) : ∃ H', FnOk Try.prog 21 (DVs.av F [.agg [.int .i64 v353, .bslc (BR.root 0) (.i64 v354), .bslc (BR.root 1) (.i64 v355), .bslc (BR.root 2) (.f32 v356)], .agg [.int .i64 v357, .bslc (BR.root 3) (.i64 v358), .bslc (BR.root 4) (.i64 v359), .bslc (BR.root 5) (.f32 v360)]]) F.H0 ((laws_eqSparse_enc v353 v354 v355 v356 v357 v358 v359 v360 y).1.av F) H' ∧ St F (laws_eqSparse_enc v353 v354 v355 v356 v357 v358 v359 v360 y).2 H' ∧ (laws_eqSparse_enc v353 v354 v355 v356 v357 v358 v359 v360 y).1.Ok F (laws_eqSparse_enc v353 v354 v355 v356 v357 v358 v359 v360 y).2 :=
  fn_fin tok laws_eqSparse_hO mixed Try.func21 Try.call21 (by kernel_rfl) (LoopsOk_eq (l := []) (by kernel_rfl) trivial) (laws_eqSparse_den v353 v354 v355 v356 v357 v358 v359 v360) hy hm h0 hA
noncomputable def laws_eqSparse_F : DFn := fun args L =>
  match args with
  | [.agg [.int .i64 v353, a1, a2, a3], .agg [.int .i64 v357, a4, a5, a6]] =>
    optT (rowI64 L a1) fun v354 =>
    optT (rowI64 L a2) fun v355 =>
    optT (rowF32 L a3) fun v356 =>
    optT (rowI64 L a4) fun v358 =>
    optT (rowI64 L a5) fun v359 =>
    optT (rowF32 L a6) fun v360 =>
    .call (laws_eqSparse_g v353 v354 v355 v356 v357 v358 v359 v360) fun y => .leaf (.bool y, L)
  | _ => .fail
theorem laws_eqSparse_Fok : COk Try.prog 21 laws_eqSparse_F true := by
  intro F L H args r L' hs ha hr
  unfold laws_eqSparse_F at hr
  split at hr
  · rename_i v353 a1 a2 a3 v357 a4 a5 a6
    obtain ⟨v354, hv354, hr⟩ := optT_run hr
    obtain ⟨v355, hv355, hr⟩ := optT_run hr
    obtain ⟨v356, hv356, hr⟩ := optT_run hr
    obtain ⟨v358, hv358, hr⟩ := optT_run hr
    obtain ⟨v359, hv359, hr⟩ := optT_run hr
    obtain ⟨v360, hv360, hr⟩ := optT_run hr
    simp only [Tree.run] at hr
    obtain ⟨y, hy, hr⟩ := Option.bind_eq_some_iff.1 hr
    simp only [Tree.run, Option.some.injEq, Prod.mk.injEq] at hr
    obtain ⟨rfl, rfl⟩ := hr
    exact call_ok0 hs (fun k => (([a1.av F, a2.av F, a3.av F, a4.av F, a5.av F, a6.av F] : List AV)[k]?).getD .top) [.agg [.int .i64 v353, a1, a2, a3], .agg [.int .i64 v357, a4, a5, a6]] [.agg [.int .i64 v353, .bslc (BR.root 0) (.i64 v354), .bslc (BR.root 1) (.i64 v355), .bslc (BR.root 2) (.f32 v356)], .agg [.int .i64 v357, .bslc (BR.root 3) (.i64 v358), .bslc (BR.root 4) (.i64 v359), .bslc (BR.root 5) (.f32 v360)]] (fun F' h0 hi hρ => ⟨by simp [DVs.av, DV.av, BR.av, hρ], laws_eqSparse_fn v353 v354 v355 v356 v357 v358 v359 v360 F' (by rw [hi]; rfl) (st_nil hi) ⟨⟨trivial, bslc_ok hi (by rw [h0, hρ]; exact rowI64_ok hs (DVs.okAt (DVs.okAt ha 0 rfl) 1 rfl) hv354), bslc_ok hi (by rw [h0, hρ]; exact rowI64_ok hs (DVs.okAt (DVs.okAt ha 0 rfl) 2 rfl) hv355), bslc_ok hi (by rw [h0, hρ]; exact rowF32_ok hs (DVs.okAt (DVs.okAt ha 0 rfl) 3 rfl) hv356), trivial⟩, ⟨trivial, bslc_ok hi (by rw [h0, hρ]; exact rowI64_ok hs (DVs.okAt (DVs.okAt ha 1 rfl) 1 rfl) hv358), bslc_ok hi (by rw [h0, hρ]; exact rowI64_ok hs (DVs.okAt (DVs.okAt ha 1 rfl) 2 rfl) hv359), bslc_ok hi (by rw [h0, hρ]; exact rowF32_ok hs (DVs.okAt (DVs.okAt ha 1 rfl) 3 rfl) hv360), trivial⟩, trivial⟩ hy⟩) rfl
  · cases hr
/-! laws.markInt64S -/
noncomputable def laws_markInt64S_l0_T (s : Int × Int × (List Int)) : Tree ((Int × Int × (List Int)) ⊕ (Int × (List Int))) :=
  (.br (decide (s.2.1 < (((s.2.2).length : Nat) : Int))) (
   (.grd (inb s.2.1 ((s.2.2).length)) <|
   .leaf (.inl (IntKind.i64.wrap (s.1 + (1 : Int)), IntKind.i64.wrap (s.2.1 + (1 : Int)), List.set s.2.2 (Int.toNat s.2.1) s.1)))
  ) (
   .leaf (.inr (s.1, s.2.2))
  ))

noncomputable def laws_markInt64S_l0_g (s0 : Int × Int × (List Int)) : Option (Int × (List Int)) := whileM (fun s => (laws_markInt64S_l0_T s).run) s0
def laws_markInt64S_l0_E (v384 : List Int) (v385 : Int) (s : Int × Int × (List Int)) : Sd := ([.own 0 0 ((s.2.2).length), .int .i64 s.1, .top, .top, .top, .int .i64 s.2.1, .top, .top, .top, .top, .top, .top, .top, .top, .top, .top, .top, .top, .top], [.row (.i64 s.2.2) 0])
def laws_markInt64S_l0_X (v384 : List Int) (v385 : Int) (x : Int × (List Int)) : Out := (.normal, [.top, .int .i64 x.1, .top, .top, .top, .top, .top, .top, .top, .top, .top, .top, .top, .top, .top, .top, .top, .top, .top], [.row (.i64 x.2) 0])
def laws_markInt64S_l0_kill : List Nat := [0, 0, 1, 1, 1, 0, 1, 1, 1, 1, 1, 1, 1, 1, 1, 1, 1, 1, 1]
def laws_markInt64S_l0_nx : Exit → List Nat
  | .exit 0 => [1, 0, 1, 1, 1, 1, 1, 1, 1, 1, 1, 1, 1, 1, 1, 1, 1, 1, 1]
  | .ret => [1, 1, 1, 1, 0, 1, 1, 1, 1, 1, 1, 1, 1, 1, 1, 1, 1, 1, 1]
  | _ => []
noncomputable def laws_markInt64S_LO (v384 : List Int) (v385 : Int) : LOr := fun id e L =>
  match id with
  | 0 => .need (normA 1 laws_markInt64S_l0_kill e L = some (laws_markInt64S_l0_E v384 v385 ((gI (vAt e 1)), (gI (vAt e 5)), (gRI L (vAt e 0))))) (.call (laws_markInt64S_l0_g ((gI (vAt e 1)), (gI (vAt e 5)), (gRI L (vAt e 0)))) fun x => .leaf (laws_markInt64S_l0_X v384 v385 x))
  | _ => .fail
noncomputable def laws_markInt64S_tab : List (FuncId × DFn × Bool) := []
theorem laws_markInt64S_hO : OrcOk Try.prog (tabD laws_markInt64S_tab) (tabM laws_markInt64S_tab) := tabD_nil _
theorem laws_markInt64S_l0_be (v384 : List Int) (v385 : Int) (s : Int × Int × (List Int)) : bodyT TT (tabD laws_markInt64S_tab) (tabM laws_markInt64S_tab) (laws_markInt64S_LO v384 v385) 1 laws_markInt64S_l0_kill laws_markInt64S_l0_nx (bodyOf Try.f45 0) 0 (laws_markInt64S_l0_E v384 v385 s) = (laws_markInt64S_l0_T s).bind fun y => .leaf (outS (laws_markInt64S_l0_E v384 v385) (laws_markInt64S_l0_X v384 v385) y) := by kernel_rfl
theorem laws_markInt64S_l0_ok (v384 : List Int) (v385 : Int) : LSound Try.prog 1 (laws_markInt64S_LO v384 v385) 0 (bodyOf Try.f45 0) := by
  intro e L out h
  exact lo_ok (E := laws_markInt64S_l0_E v384 v385) (gT := laws_markInt64S_l0_T) (X := laws_markInt64S_l0_X v384 v385) (s0 := ((gI (vAt e 1)), (gI (vAt e 5)), (gRI L (vAt e 0)))) tok laws_markInt64S_hO mixed (LoopsOk_eq (l := []) (by kernel_rfl) trivial) (laws_markInt64S_l0_be v384 v385) rfl (by intro x; rfl) h
noncomputable def laws_markInt64S_T (v384 : List Int) (v385 : Int) : Tree (Int × (List Int)) :=
  (.need (some (laws_markInt64S_l0_E v384 v385 (v385, (0 : Int), v384)) = some (laws_markInt64S_l0_E v384 v385 (v385, (0 : Int), v384))) <|
  (.call (laws_markInt64S_l0_g (v385, (0 : Int), v384)) fun v394 =>
  .leaf (v394.1, v394.2)))

noncomputable def laws_markInt64S_g (v384 : List Int) (v385 : Int) : Option (Int × (List Int)) := (laws_markInt64S_T v384 v385).run
def laws_markInt64S_enc (v384 : List Int) (v385 : Int) (y : Int × (List Int)) : Rs := (.int .i64 y.1, [.row (.i64 y.2) 0])
theorem laws_markInt64S_den (v384 : List Int) (v385 : Int) : (den TT (tabD laws_markInt64S_tab) (tabM laws_markInt64S_tab) (laws_markInt64S_LO v384 v385) (codeOf Try.f45) ([.own 0 0 v384.length, .int .i64 v385] ++ List.replicate (Try.f45.ntmps - ([.own 0 0 v384.length, .int .i64 v385] : List DV).length) .undef) [.row (.i64 v384) 0]).bind (retD TT Try.f45.results.toList 1) = (laws_markInt64S_T v384 v385).bind fun y => .leaf (laws_markInt64S_enc v384 v385 y) := by kernel_rfl
theorem laws_markInt64S_fn (v384 : List Int) (v385 : Int) (F : Fr) (hm : F.ids.length = 1) (h0 : St F [.row (.i64 v384) 0] F.H0) (hA : DVs.Ok F [.row (.i64 v384) 0] [.own 0 0 v384.length, .int .i64 v385]) {y : Int × (List Int)} (hy : laws_markInt64S_g v384 v385 = some y) : ∃ H', FnOk Try.prog 45 (DVs.av F [.own 0 0 v384.length, .int .i64 v385]) F.H0 ((laws_markInt64S_enc v384 v385 y).1.av F) H' ∧ St F (laws_markInt64S_enc v384 v385 y).2 H' ∧ (laws_markInt64S_enc v384 v385 y).1.Ok F (laws_markInt64S_enc v384 v385 y).2 :=
  fn_fin tok laws_markInt64S_hO mixed Try.func45 Try.call45 (by kernel_rfl) (LoopsOk_eq (l := [(0, bodyOf Try.f45 0)]) (by kernel_rfl) ⟨laws_markInt64S_l0_ok v384 v385, trivial⟩) (laws_markInt64S_den v384 v385) hy hm h0 hA
noncomputable def laws_markInt64S_F : DFn := fun args L =>
  match args with
  | [a1, .int .i64 v385] =>
    optT (ownI64 L a1) fun qv384 =>
    (match sepB [qv384.1] [] with
    | true =>
    .call (laws_markInt64S_g qv384.2 v385) fun y => .grd (decide (y.2.length = qv384.2.length)) (.leaf (.int .i64 y.1, setRows L ([qv384.1].zip [.i64 y.2])))
    | false => .fail)
  | _ => .fail
theorem laws_markInt64S_Fok : COk Try.prog 45 laws_markInt64S_F false := by
  intro F L H args r L' hs ha hr
  unfold laws_markInt64S_F at hr
  split at hr
  · rename_i a1 v385
    obtain ⟨⟨jv384, v384⟩, hqv384, hr⟩ := optT_run hr
    simp only at hr
    split at hr
    · rename_i hsep
      obtain ⟨hnd, hsepv⟩ := sepB_spec hsep
      simp only [Tree.run] at hr
      obtain ⟨y, hy, hr⟩ := Option.bind_eq_some_iff.1 hr
      try simp only [Tree.run] at hr
      obtain ⟨hl0, hr⟩ := ite_run hr
      simp only [Option.some.injEq, Prod.mk.injEq] at hr
      obtain ⟨rfl, rfl⟩ := hr
      obtain ⟨hr0, hu0, ha0, hb0⟩ := (ownR_spec (DVs.okAt ha 0 rfl) (ownI64_or hqv384))
      exact mut_ok hs (fun k => (([a1.av F] : List AV)[k]?).getD .top) [a1, .int .i64 v385] [.own 0 0 v384.length, .int .i64 v385] [jv384] [.i64 v384] [.i64 y.2] hnd rfl rfl (fun i j q h1 h2 => by
          rcases i with _ | i
          · simp at h1 h2; subst h1; subst h2; exact hr0
          · simp at h1) (fun i q q' h1 h2 => by
          rcases i with _ | i
          · simp at h1 h2; subst h1; subst h2; exact of_decide_eq_true hl0
          · simp at h1) (fun j hj => by simp at hj; subst hj; simp [DVs.refs, DV.refs, hu0]) (fun F' h0 hi hρ hst hS => ⟨by (have ab0 : F'.abs 0 = F.abs jv384 := (by simp [Fr.abs, hi]); simp [DVs.av, DV.av, BR.av, hρ, Row.len, ha0, ab0]), by
          obtain ⟨H1, k1, k2, _⟩ := laws_markInt64S_fn v384 v385 F' (by rw [hi]; rfl) hst ⟨⟨_, rfl, Nat.le_refl _, Nat.le_refl _, fun _ => rfl, (ownR_spec (DVs.okAt ha 0 rfl) (ownI64_or hqv384)).2.2.2⟩, trivial, trivial⟩ hy
          exact ⟨H1, k1, k2⟩⟩) (fun F' => rfl) (fun L' => trivial)
    · cases hr
  · cases hr
/-! laws.markFloat32S -/
noncomputable def laws_markFloat32S_l0_T (s : Int × Int × (List Nat)) : Tree ((Int × Int × (List Nat)) ⊕ (Int × (List Nat))) :=
  (.br (decide (s.2.1 < (((s.2.2).length : Nat) : Int))) (
   (.grd (inb s.2.1 ((s.2.2).length)) <|
   .leaf (.inl (IntKind.i64.wrap (s.1 + (1 : Int)), IntKind.i64.wrap (s.2.1 + (1 : Int)), List.set s.2.2 (Int.toNat s.2.1) (fofint .f32 s.1))))
  ) (
   .leaf (.inr (s.1, s.2.2))
  ))

noncomputable def laws_markFloat32S_l0_g (s0 : Int × Int × (List Nat)) : Option (Int × (List Nat)) := whileM (fun s => (laws_markFloat32S_l0_T s).run) s0
def laws_markFloat32S_l0_E (v412 : List Nat) (v413 : Int) (s : Int × Int × (List Nat)) : Sd := ([.own 0 0 ((s.2.2).length), .int .i64 s.1, .top, .top, .top, .int .i64 s.2.1, .top, .top, .top, .top, .top, .top, .top, .top, .top, .top, .top, .top, .top, .top], [.row (.f32 s.2.2) 0])
def laws_markFloat32S_l0_X (v412 : List Nat) (v413 : Int) (x : Int × (List Nat)) : Out := (.normal, [.top, .int .i64 x.1, .top, .top, .top, .top, .top, .top, .top, .top, .top, .top, .top, .top, .top, .top, .top, .top, .top, .top], [.row (.f32 x.2) 0])
def laws_markFloat32S_l0_kill : List Nat := [0, 0, 1, 1, 1, 0, 1, 1, 1, 1, 1, 1, 1, 1, 1, 1, 1, 1, 1, 1]
def laws_markFloat32S_l0_nx : Exit → List Nat
  | .exit 0 => [1, 0, 1, 1, 1, 1, 1, 1, 1, 1, 1, 1, 1, 1, 1, 1, 1, 1, 1, 1]
  | .ret => [1, 1, 1, 1, 0, 1, 1, 1, 1, 1, 1, 1, 1, 1, 1, 1, 1, 1, 1, 1]
  | _ => []
noncomputable def laws_markFloat32S_LO (v412 : List Nat) (v413 : Int) : LOr := fun id e L =>
  match id with
  | 0 => .need (normA 1 laws_markFloat32S_l0_kill e L = some (laws_markFloat32S_l0_E v412 v413 ((gI (vAt e 1)), (gI (vAt e 5)), (gRF L (vAt e 0))))) (.call (laws_markFloat32S_l0_g ((gI (vAt e 1)), (gI (vAt e 5)), (gRF L (vAt e 0)))) fun x => .leaf (laws_markFloat32S_l0_X v412 v413 x))
  | _ => .fail
noncomputable def laws_markFloat32S_tab : List (FuncId × DFn × Bool) := []
theorem laws_markFloat32S_hO : OrcOk Try.prog (tabD laws_markFloat32S_tab) (tabM laws_markFloat32S_tab) := tabD_nil _
theorem laws_markFloat32S_l0_be (v412 : List Nat) (v413 : Int) (s : Int × Int × (List Nat)) : bodyT TT (tabD laws_markFloat32S_tab) (tabM laws_markFloat32S_tab) (laws_markFloat32S_LO v412 v413) 1 laws_markFloat32S_l0_kill laws_markFloat32S_l0_nx (bodyOf Try.f23 0) 0 (laws_markFloat32S_l0_E v412 v413 s) = (laws_markFloat32S_l0_T s).bind fun y => .leaf (outS (laws_markFloat32S_l0_E v412 v413) (laws_markFloat32S_l0_X v412 v413) y) := by kernel_rfl
theorem laws_markFloat32S_l0_ok (v412 : List Nat) (v413 : Int) : LSound Try.prog 1 (laws_markFloat32S_LO v412 v413) 0 (bodyOf Try.f23 0) := by
  intro e L out h
  exact lo_ok (E := laws_markFloat32S_l0_E v412 v413) (gT := laws_markFloat32S_l0_T) (X := laws_markFloat32S_l0_X v412 v413) (s0 := ((gI (vAt e 1)), (gI (vAt e 5)), (gRF L (vAt e 0)))) tok laws_markFloat32S_hO mixed (LoopsOk_eq (l := []) (by kernel_rfl) trivial) (laws_markFloat32S_l0_be v412 v413) rfl (by intro x; rfl) h
noncomputable def laws_markFloat32S_T (v412 : List Nat) (v413 : Int) : Tree (Int × (List Nat)) :=
  (.need (some (laws_markFloat32S_l0_E v412 v413 (v413, (0 : Int), v412)) = some (laws_markFloat32S_l0_E v412 v413 (v413, (0 : Int), v412))) <|
  (.call (laws_markFloat32S_l0_g (v413, (0 : Int), v412)) fun v422 =>
  .leaf (v422.1, v422.2)))

noncomputable def laws_markFloat32S_g (v412 : List Nat) (v413 : Int) : Option (Int × (List Nat)) := (laws_markFloat32S_T v412 v413).run
def laws_markFloat32S_enc (v412 : List Nat) (v413 : Int) (y : Int × (List Nat)) : Rs := (.int .i64 y.1, [.row (.f32 y.2) 0])
theorem laws_markFloat32S_den (v412 : List Nat) (v413 : Int) : (den TT (tabD laws_markFloat32S_tab) (tabM laws_markFloat32S_tab) (laws_markFloat32S_LO v412 v413) (codeOf Try.f23) ([.own 0 0 v412.length, .int .i64 v413] ++ List.replicate (Try.f23.ntmps - ([.own 0 0 v412.length, .int .i64 v413] : List DV).length) .undef) [.row (.f32 v412) 0]).bind (retD TT Try.f23.results.toList 1) = (laws_markFloat32S_T v412 v413).bind fun y => .leaf (laws_markFloat32S_enc v412 v413 y) := by kernel_rfl
theorem laws_markFloat32S_fn (v412 : List Nat) (v413 : Int) (F : Fr) (hm : F.ids.length = 1) (h0 : St F [.row (.f32 v412) 0] F.H0) (hA : DVs.Ok F [.row (.f32 v412) 0] [.own 0 0 v412.length, .int .i64 v413]) {y : Int × (List Nat)} (hy : laws_markFloat32S_g v412 v413 = some y) : ∃ H', FnOk Try.prog 23 (DVs.av F [.own 0 0 v412.length, .int .i64 v413]) F.H0 ((laws_markFloat32S_enc v412 v413 y).1.av F) H' ∧ St F (laws_markFloat32S_enc v412 v413 y).2 H' ∧ (laws_markFloat32S_enc v412 v413 y).1.Ok F (laws_markFloat32S_enc v412 v413 y).2 :=
  fn_fin tok laws_markFloat32S_hO mixed Try.func23 Try.call23 (by kernel_rfl) (LoopsOk_eq (l := [(0, bodyOf Try.f23 0)]) (by kernel_rfl) ⟨laws_markFloat32S_l0_ok v412 v413, trivial⟩) (laws_markFloat32S_den v412 v413) hy hm h0 hA
noncomputable def laws_markFloat32S_F : DFn := fun args L =>
  match args with
  | [a1, .int .i64 v413] =>
    optT (ownF32 L a1) fun qv412 =>
    (match sepB [qv412.1] [] with
    | true =>
    .call (laws_markFloat32S_g qv412.2 v413) fun y => .grd (decide (y.2.length = qv412.2.length)) (.leaf (.int .i64 y.1, setRows L ([qv412.1].zip [.f32 y.2])))
    | false => .fail)
  | _ => .fail
theorem laws_markFloat32S_Fok : COk Try.prog 23 laws_markFloat32S_F false := by
  intro F L H args r L' hs ha hr
  unfold laws_markFloat32S_F at hr
  split at hr
  · rename_i a1 v413
    obtain ⟨⟨jv412, v412⟩, hqv412, hr⟩ := optT_run hr
    simp only at hr
    split at hr
    · rename_i hsep
      obtain ⟨hnd, hsepv⟩ := sepB_spec hsep
      simp only [Tree.run] at hr
      obtain ⟨y, hy, hr⟩ := Option.bind_eq_some_iff.1 hr
      try simp only [Tree.run] at hr
      obtain ⟨hl0, hr⟩ := ite_run hr
      simp only [Option.some.injEq, Prod.mk.injEq] at hr
      obtain ⟨rfl, rfl⟩ := hr
      obtain ⟨hr0, hu0, ha0, hb0⟩ := (ownR_spec (DVs.okAt ha 0 rfl) (ownF32_or hqv412))
      exact mut_ok hs (fun k => (([a1.av F] : List AV)[k]?).getD .top) [a1, .int .i64 v413] [.own 0 0 v412.length, .int .i64 v413] [jv412] [.f32 v412] [.f32 y.2] hnd rfl rfl (fun i j q h1 h2 => by
          rcases i with _ | i
          · simp at h1 h2; subst h1; subst h2; exact hr0
          · simp at h1) (fun i q q' h1 h2 => by
          rcases i with _ | i
          · simp at h1 h2; subst h1; subst h2; exact of_decide_eq_true hl0
          · simp at h1) (fun j hj => by simp at hj; subst hj; simp [DVs.refs, DV.refs, hu0]) (fun F' h0 hi hρ hst hS => ⟨by (have ab0 : F'.abs 0 = F.abs jv412 := (by simp [Fr.abs, hi]); simp [DVs.av, DV.av, BR.av, hρ, Row.len, ha0, ab0]), by
          obtain ⟨H1, k1, k2, _⟩ := laws_markFloat32S_fn v412 v413 F' (by rw [hi]; rfl) hst ⟨⟨_, rfl, Nat.le_refl _, Nat.le_refl _, fun _ => rfl, (ownR_spec (DVs.okAt ha 0 rfl) (ownF32_or hqv412)).2.2.2⟩, trivial, trivial⟩ hy
          exact ⟨H1, k1, k2⟩⟩) (fun F' => rfl) (fun L' => trivial)
    · cases hr
  · cases hr
/-! laws.markSparse -/
noncomputable def laws_markSparse_LO (v423 : Int) (v424 : List Int) (v425 : List Int) (v426 : List Nat) (v427 : Int) : LOr := fun id e L =>
  match id with
  | _ => .fail
noncomputable def laws_markSparse_tab : List (FuncId × DFn × Bool) := [(45, laws_markInt64S_F, false), (23, laws_markFloat32S_F, false)]
theorem laws_markSparse_hO : OrcOk Try.prog (tabD laws_markSparse_tab) (tabM laws_markSparse_tab) := tabD_cons laws_markInt64S_Fok (tabD_cons laws_markFloat32S_Fok (tabD_nil _))
noncomputable def laws_markSparse_T (v424 : List Int) (v425 : List Int) (v426 : List Nat) (v427 : Int) : Tree (Int × (List Int) × (List Int) × (List Nat)) :=
  (.call (laws_markInt64S_g v424 v427) fun v428 =>
  (.grd (decide (v428.2.length = v424.length)) <|
  (.call (laws_markInt64S_g v425 v428.1) fun v429 =>
  (.grd (decide (v429.2.length = v425.length)) <|
  (.call (laws_markFloat32S_g v426 v429.1) fun v430 =>
  (.grd (decide (v430.2.length = v426.length)) <|
  .leaf (v430.1, v428.2, v429.2, v430.2)))))))

noncomputable def laws_markSparse_g (v424 : List Int) (v425 : List Int) (v426 : List Nat) (v427 : Int) : Option (Int × (List Int) × (List Int) × (List Nat)) := (laws_markSparse_T v424 v425 v426 v427).run
def laws_markSparse_enc (v423 : Int) (v424 : List Int) (v425 : List Int) (v426 : List Nat) (v427 : Int) (y : Int × (List Int) × (List Int) × (List Nat)) : Rs := (.int .i64 y.1, [.row (.i64 y.2.1) 0, .row (.i64 y.2.2.1) 0, .row (.f32 y.2.2.2) 0])
theorem laws_markSparse_den (v423 : Int) (v424 : List Int) (v425 : List Int) (v426 : List Nat) (v427 : Int) : (den TT (tabD laws_markSparse_tab) (tabM laws_markSparse_tab) (laws_markSparse_LO v423 v424 v425 v426 v427) (codeOf Try.f22) ([.agg [.int .i64 v423, .own 0 0 v424.length, .own 1 0 v425.length, .own 2 0 v426.length], .int .i64 v427] ++ List.replicate (Try.f22.ntmps - ([.agg [.int .i64 v423, .own 0 0 v424.length, .own 1 0 v425.length, .own 2 0 v426.length], .int .i64 v427] : List DV).length) .undef) [.row (.i64 v424) 0, .row (.i64 v425) 0, .row (.f32 v426) 0]).bind (retD TT Try.f22.results.toList 3) = (laws_markSparse_T v424 v425 v426 v427).bind fun y => .leaf (laws_markSparse_enc v423 v424 v425 v426 v427 y) := by kernel_rfl
theorem laws_markSparse_fn (v423 : Int) (v424 : List Int) (v425 : List Int) (v426 : List Nat) (v427 : Int) (F : Fr) (hm : F.ids.length = 3) (h0 : St F [.row (.i64 v424) 0, .row (.i64 v425) 0, .row (.f32 v426) 0] F.H0) (hA : DVs.Ok F [.row (.i64 v424) 0, .row (.i64 v425) 0, .row (.f32 v426) 0] [.agg [.int .i64 v423, .own 0 0 v424.length, .own 1 0 v425.length, .own 2 0 v426.length], .int .i64 v427]) {y : Int × (List Int) × (List Int) × (List Nat)} (hy : laws_markSparse_g v424 v425 v426 v427 = some y) : ∃ H', FnOk Try.prog 22 (DVs.av F [.agg [.int .i64 v423, .own 0 0 v424.length, .own 1 0 v425.length, .own 2 0 v426.length], .int .i64 v427]) F.H0 ((laws_markSparse_enc v423 v424 v425 v426 v427 y).1.av F) H' ∧ St F (laws_markSparse_enc v423 v424 v425 v426 v427 y).2 H' ∧ (laws_markSparse_enc v423 v424 v425 v426 v427 y).1.Ok F (laws_markSparse_enc v423 v424 v425 v426 v427 y).2 :=
  fn_fin tok laws_markSparse_hO mixed Try.func22 Try.call22 (by kernel_rfl) (LoopsOk_eq (l := []) (by kernel_rfl) trivial) (laws_markSparse_den v423 v424 v425 v426 v427) hy hm h0 hA
noncomputable def laws_markSparse_F : DFn := fun args L =>
  match args with
  | [.agg [.int .i64 v423, a1, a2, a3], .int .i64 v427] =>
    optT (ownI64 L a1) fun qv424 =>
    optT (ownI64 L a2) fun qv425 =>
    optT (ownF32 L a3) fun qv426 =>
    (match sepB [qv424.1, qv425.1, qv426.1] [] with
    | true =>
    .call (laws_markSparse_g qv424.2 qv425.2 qv426.2 v427) fun y => .grd (decide (y.2.1.length = qv424.2.length)) (.grd (decide (y.2.2.1.length = qv425.2.length)) (.grd (decide (y.2.2.2.length = qv426.2.length)) (.leaf (.int .i64 y.1, setRows L ([qv424.1, qv425.1, qv426.1].zip [.i64 y.2.1, .i64 y.2.2.1, .f32 y.2.2.2])))))
    | false => .fail)
  | _ => .fail
theorem laws_markSparse_Fok : COk Try.prog 22 laws_markSparse_F false := by
  intro F L H args r L' hs ha hr
  unfold laws_markSparse_F at hr
  split at hr
  · rename_i v423 a1 a2 a3 v427
    obtain ⟨⟨jv424, v424⟩, hqv424, hr⟩ := optT_run hr
    simp only at hr
    obtain ⟨⟨jv425, v425⟩, hqv425, hr⟩ := optT_run hr
    simp only at hr
    obtain ⟨⟨jv426, v426⟩, hqv426, hr⟩ := optT_run hr
    simp only at hr
    split at hr
    · rename_i hsep
      obtain ⟨hnd, hsepv⟩ := sepB_spec hsep
      simp only [Tree.run] at hr
      obtain ⟨y, hy, hr⟩ := Option.bind_eq_some_iff.1 hr
      try simp only [Tree.run] at hr
      obtain ⟨hl0, hr⟩ := ite_run hr
      obtain ⟨hl1, hr⟩ := ite_run hr
      obtain ⟨hl2, hr⟩ := ite_run hr
      simp only [Option.some.injEq, Prod.mk.injEq] at hr
      obtain ⟨rfl, rfl⟩ := hr
      obtain ⟨hr0, hu0, ha0, hb0⟩ := (ownR_spec (DVs.okAt (DVs.okAt ha 0 rfl) 1 rfl) (ownI64_or hqv424))
      obtain ⟨hr1, hu1, ha1, hb1⟩ := (ownR_spec (DVs.okAt (DVs.okAt ha 0 rfl) 2 rfl) (ownI64_or hqv425))
      obtain ⟨hr2, hu2, ha2, hb2⟩ := (ownR_spec (DVs.okAt (DVs.okAt ha 0 rfl) 3 rfl) (ownF32_or hqv426))
      exact mut_ok hs (fun k => (([a1.av F, a2.av F, a3.av F] : List AV)[k]?).getD .top) [.agg [.int .i64 v423, a1, a2, a3], .int .i64 v427] [.agg [.int .i64 v423, .own 0 0 v424.length, .own 1 0 v425.length, .own 2 0 v426.length], .int .i64 v427] [jv424, jv425, jv426] [.i64 v424, .i64 v425, .f32 v426] [.i64 y.2.1, .i64 y.2.2.1, .f32 y.2.2.2] hnd rfl rfl (fun i j q h1 h2 => by
          rcases i with _ | _ | _ | i
          · simp at h1 h2; subst h1; subst h2; exact hr0
          · simp at h1 h2; subst h1; subst h2; exact hr1
          · simp at h1 h2; subst h1; subst h2; exact hr2
          · simp at h1) (fun i q q' h1 h2 => by
          rcases i with _ | _ | _ | i
          · simp at h1 h2; subst h1; subst h2; exact of_decide_eq_true hl0
          · simp at h1 h2; subst h1; subst h2; exact of_decide_eq_true hl1
          · simp at h1 h2; subst h1; subst h2; exact of_decide_eq_true hl2
          · simp at h1) (fun j hj => by simp at hj; rcases hj with rfl | rfl | rfl <;> simp [DVs.refs, DV.refs, hu0, hu1, hu2]) (fun F' h0 hi hρ hst hS => ⟨by (have ab0 : F'.abs 0 = F.abs jv424 := (by simp [Fr.abs, hi]); have ab1 : F'.abs 1 = F.abs jv425 := (by simp [Fr.abs, hi]); have ab2 : F'.abs 2 = F.abs jv426 := (by simp [Fr.abs, hi]); simp [DVs.av, DV.av, BR.av, hρ, Row.len, ha0, ab0, ha1, ab1, ha2, ab2]), by
          obtain ⟨H1, k1, k2, _⟩ := laws_markSparse_fn v423 v424 v425 v426 v427 F' (by rw [hi]; rfl) hst ⟨⟨trivial, ⟨_, rfl, Nat.le_refl _, Nat.le_refl _, fun _ => rfl, (ownR_spec (DVs.okAt (DVs.okAt ha 0 rfl) 1 rfl) (ownI64_or hqv424)).2.2.2⟩, ⟨_, rfl, Nat.le_refl _, Nat.le_refl _, fun _ => rfl, (ownR_spec (DVs.okAt (DVs.okAt ha 0 rfl) 2 rfl) (ownI64_or hqv425)).2.2.2⟩, ⟨_, rfl, Nat.le_refl _, Nat.le_refl _, fun _ => rfl, (ownR_spec (DVs.okAt (DVs.okAt ha 0 rfl) 3 rfl) (ownF32_or hqv426)).2.2.2⟩, trivial⟩, trivial, trivial⟩ hy
          exact ⟨H1, k1, k2⟩⟩) (fun F' => rfl) (fun L' => trivial)
    · cases hr
  · cases hr
/-! laws.markFloat32S -/
noncomputable def laws_markFloat32S_i1_l0_T (s : Unit) : Tree ((Unit) ⊕ (Unit)) :=
  (.br (decide ((0 : Int) < (0 : Int))) (
   .fail
  ) (
   .leaf (.inr ())
  ))

noncomputable def laws_markFloat32S_i1_l0_g (s0 : Unit) : Option (Unit) := whileM (fun s => (laws_markFloat32S_i1_l0_T s).run) s0
def laws_markFloat32S_i1_l0_E (v434 : Int) (s : Unit) : Sd := ([.nilslc, .int .i64 v434, .top, .top, .top, .int .i64 (0 : Int), .top, .top, .top, .top, .top, .top, .top, .top, .top, .top, .top, .top, .top, .top], [])
def laws_markFloat32S_i1_l0_X (v434 : Int) (x : Unit) : Out := (.normal, [.top, .int .i64 v434, .top, .top, .top, .top, .top, .top, .top, .top, .top, .top, .top, .top, .top, .top, .top, .top, .top, .top], [])
def laws_markFloat32S_i1_l0_kill : List Nat := [0, 0, 1, 1, 1, 0, 1, 1, 1, 1, 1, 1, 1, 1, 1, 1, 1, 1, 1, 1]
def laws_markFloat32S_i1_l0_nx : Exit → List Nat
  | .exit 0 => [1, 0, 1, 1, 1, 1, 1, 1, 1, 1, 1, 1, 1, 1, 1, 1, 1, 1, 1, 1]
  | .ret => [1, 1, 1, 1, 0, 1, 1, 1, 1, 1, 1, 1, 1, 1, 1, 1, 1, 1, 1, 1]
  | _ => []
noncomputable def laws_markFloat32S_i1_LO (v434 : Int) : LOr := fun id e L =>
  match id with
  | 0 => .need (normA 0 laws_markFloat32S_i1_l0_kill e L = some (laws_markFloat32S_i1_l0_E v434 ())) (.call (laws_markFloat32S_i1_l0_g ()) fun x => .leaf (laws_markFloat32S_i1_l0_X v434 x))
  | _ => .fail
noncomputable def laws_markFloat32S_i1_tab : List (FuncId × DFn × Bool) := []
theorem laws_markFloat32S_i1_hO : OrcOk Try.prog (tabD laws_markFloat32S_i1_tab) (tabM laws_markFloat32S_i1_tab) := tabD_nil _
theorem laws_markFloat32S_i1_l0_be (v434 : Int) (s : Unit) : bodyT TT (tabD laws_markFloat32S_i1_tab) (tabM laws_markFloat32S_i1_tab) (laws_markFloat32S_i1_LO v434) 0 laws_markFloat32S_i1_l0_kill laws_markFloat32S_i1_l0_nx (bodyOf Try.f23 0) 0 (laws_markFloat32S_i1_l0_E v434 s) = (laws_markFloat32S_i1_l0_T s).bind fun y => .leaf (outS (laws_markFloat32S_i1_l0_E v434) (laws_markFloat32S_i1_l0_X v434) y) := by kernel_rfl
theorem laws_markFloat32S_i1_l0_ok (v434 : Int) : LSound Try.prog 0 (laws_markFloat32S_i1_LO v434) 0 (bodyOf Try.f23 0) := by
  intro e L out h
  exact lo_ok (E := laws_markFloat32S_i1_l0_E v434) (gT := laws_markFloat32S_i1_l0_T) (X := laws_markFloat32S_i1_l0_X v434) (s0 := ()) tok laws_markFloat32S_i1_hO mixed (LoopsOk_eq (l := []) (by kernel_rfl) trivial) (laws_markFloat32S_i1_l0_be v434) rfl (by intro x; rfl) h
noncomputable def laws_markFloat32S_i1_T (v434 : Int) : Tree (Int) :=
  (.need (some (laws_markFloat32S_i1_l0_E v434 ()) = some (laws_markFloat32S_i1_l0_E v434 ())) <|
  (.call (laws_markFloat32S_i1_l0_g ()) fun v437 =>
  .leaf v434))

noncomputable def laws_markFloat32S_i1_g (v434 : Int) : Option (Int) := (laws_markFloat32S_i1_T v434).run
def laws_markFloat32S_i1_enc (v434 : Int) (y : Int) : Rs := (.int .i64 y, [])
theorem laws_markFloat32S_i1_den (v434 : Int) : (den TT (tabD laws_markFloat32S_i1_tab) (tabM laws_markFloat32S_i1_tab) (laws_markFloat32S_i1_LO v434) (codeOf Try.f23) ([.nilslc, .int .i64 v434] ++ List.replicate (Try.f23.ntmps - ([.nilslc, .int .i64 v434] : List DV).length) .undef) []).bind (retD TT Try.f23.results.toList 0) = (laws_markFloat32S_i1_T v434).bind fun y => .leaf (laws_markFloat32S_i1_enc v434 y) := by kernel_rfl
theorem laws_markFloat32S_i1_fn (v434 : Int) (F : Fr) (hm : F.ids.length = 0) (h0 : St F [] F.H0) (hA : DVs.Ok F [] [.nilslc, .int .i64 v434]) {y : Int} (hy : laws_markFloat32S_i1_g v434 = some y) : ∃ H', FnOk Try.prog 23 (DVs.av F [.nilslc, .int .i64 v434]) F.H0 ((laws_markFloat32S_i1_enc v434 y).1.av F) H' ∧ St F (laws_markFloat32S_i1_enc v434 y).2 H' ∧ (laws_markFloat32S_i1_enc v434 y).1.Ok F (laws_markFloat32S_i1_enc v434 y).2 :=
  fn_fin tok laws_markFloat32S_i1_hO mixed Try.func23 Try.call23 (by kernel_rfl) (LoopsOk_eq (l := [(0, bodyOf Try.f23 0)]) (by kernel_rfl) ⟨laws_markFloat32S_i1_l0_ok v434, trivial⟩) (laws_markFloat32S_i1_den v434) hy hm h0 hA
noncomputable def laws_markFloat32S_i1_F : DFn := fun args L =>
  match args with
  | [.nilslc, .int .i64 v434] =>
    .call (laws_markFloat32S_i1_g v434) fun y => .leaf (.int .i64 y, L)
  | _ => .fail
theorem laws_markFloat32S_i1_Fok : COk Try.prog 23 laws_markFloat32S_i1_F true := by
  intro F L H args r L' hs ha hr
  unfold laws_markFloat32S_i1_F at hr
  split at hr
  · rename_i v434
    simp only [Tree.run] at hr
    obtain ⟨y, hy, hr⟩ := Option.bind_eq_some_iff.1 hr
    simp only [Tree.run, Option.some.injEq, Prod.mk.injEq] at hr
    obtain ⟨rfl, rfl⟩ := hr
    exact call_ok0 hs (fun k => (([] : List AV)[k]?).getD .top) [.nilslc, .int .i64 v434] [.nilslc, .int .i64 v434] (fun F' h0 hi hρ => ⟨by simp [DVs.av, DV.av, BR.av, hρ], laws_markFloat32S_i1_fn v434 F' (by rw [hi]; rfl) (st_nil hi) ⟨trivial, trivial, trivial⟩ hy⟩) rfl
  · cases hr
/-! laws.heldFloat32S -/
noncomputable def laws_heldFloat32S_l0_T (v439 : List Nat) (s : Int × Int) : Tree ((Int × Int) ⊕ ((Unit) ⊕ (Int))) :=
  (.br (decide (s.2 < ((v439.length : Nat) : Int))) (
   (.grd (inb s.2 v439.length) <|
   (.br (!feq .f32 (nth v439 (Int.toNat s.2)) (fofint .f32 s.1)) (
    .leaf (.inr (.inl ()))
   ) (
    .leaf (.inl (IntKind.i64.wrap (s.1 + (1 : Int)), IntKind.i64.wrap (s.2 + (1 : Int))))
   )))
  ) (
   .leaf (.inr (.inr s.1))
  ))

noncomputable def laws_heldFloat32S_l0_g (v439 : List Nat) (s0 : Int × Int) : Option ((Unit) ⊕ (Int)) := whileM (fun s => (laws_heldFloat32S_l0_T v439 s).run) s0
def laws_heldFloat32S_l0_E (v439 : List Nat) (v440 : Int) (s : Int × Int) : Sd := ([.bslc (BR.root 0) (.f32 v439), .int .i64 s.1, .top, .top, .top, .int .i64 s.2, .top, .top, .top, .top, .top, .top, .top, .top, .top, .top, .top, .top, .top, .top, .top, .top], [])
def laws_heldFloat32S_l0_X (v439 : List Nat) (v440 : Int) (x : (Unit) ⊕ (Int)) : Out := (match x with | .inl x => (.ret, [.top, .top, .top, .top, .int .i64 (-1 : Int), .top, .top, .top, .top, .top, .top, .top, .top, .top, .top, .top, .top, .top, .top, .top, .top, .top], []) | .inr x => (.normal, [.top, .int .i64 x, .top, .top, .top, .top, .top, .top, .top, .top, .top, .top, .top, .top, .top, .top, .top, .top, .top, .top, .top, .top], []))
def laws_heldFloat32S_l0_kill : List Nat := [0, 0, 1, 1, 1, 0, 1, 1, 1, 1, 1, 1, 1, 1, 1, 1, 1, 1, 1, 1, 1, 1]
def laws_heldFloat32S_l0_nx : Exit → List Nat
  | .exit 0 => [1, 0, 1, 1, 1, 1, 1, 1, 1, 1, 1, 1, 1, 1, 1, 1, 1, 1, 1, 1, 1, 1]
  | .ret => [1, 1, 1, 1, 0, 1, 1, 1, 1, 1, 1, 1, 1, 1, 1, 1, 1, 1, 1, 1, 1, 1]
  | _ => []
noncomputable def laws_heldFloat32S_LO (v439 : List Nat) (v440 : Int) : LOr := fun id e L =>
  match id with
  | 0 => .need (normA 0 laws_heldFloat32S_l0_kill e L = some (laws_heldFloat32S_l0_E v439 v440 ((gI (vAt e 1)), (gI (vAt e 5))))) (.call (laws_heldFloat32S_l0_g v439 ((gI (vAt e 1)), (gI (vAt e 5)))) fun x => .sum x (fun b0 => .leaf (laws_heldFloat32S_l0_X v439 v440 (.inl b0))) (fun c0 => .leaf (laws_heldFloat32S_l0_X v439 v440 (.inr c0))))
  | _ => .fail
noncomputable def laws_heldFloat32S_tab : List (FuncId × DFn × Bool) := []
theorem laws_heldFloat32S_hO : OrcOk Try.prog (tabD laws_heldFloat32S_tab) (tabM laws_heldFloat32S_tab) := tabD_nil _
theorem laws_heldFloat32S_l0_be (v439 : List Nat) (v440 : Int) (s : Int × Int) : bodyT TT (tabD laws_heldFloat32S_tab) (tabM laws_heldFloat32S_tab) (laws_heldFloat32S_LO v439 v440) 0 laws_heldFloat32S_l0_kill laws_heldFloat32S_l0_nx (bodyOf Try.f24 0) 0 (laws_heldFloat32S_l0_E v439 v440 s) = (laws_heldFloat32S_l0_T v439 s).bind fun y => .leaf (outS (laws_heldFloat32S_l0_E v439 v440) (laws_heldFloat32S_l0_X v439 v440) y) := by kernel_rfl
theorem laws_heldFloat32S_l0_ok (v439 : List Nat) (v440 : Int) : LSound Try.prog 0 (laws_heldFloat32S_LO v439 v440) 0 (bodyOf Try.f24 0) := by
  intro e L out h
  exact lo_ok (E := laws_heldFloat32S_l0_E v439 v440) (gT := laws_heldFloat32S_l0_T v439) (X := laws_heldFloat32S_l0_X v439 v440) (s0 := ((gI (vAt e 1)), (gI (vAt e 5)))) tok laws_heldFloat32S_hO mixed (LoopsOk_eq (l := []) (by kernel_rfl) trivial) (laws_heldFloat32S_l0_be v439 v440) rfl (by intro x; (cases x with | inl b => rfl | inr x => exact rfl)) h
noncomputable def laws_heldFloat32S_T (v439 : List Nat) (v440 : Int) : Tree (Int) :=
  (.need (some (laws_heldFloat32S_l0_E v439 v440 (v440, (0 : Int))) = some (laws_heldFloat32S_l0_E v439 v440 (v440, (0 : Int)))) <|
  (.call (laws_heldFloat32S_l0_g v439 (v440, (0 : Int))) fun v447 =>
  (.sum v447 (fun v448 =>
   .leaf (-1 : Int)
  ) (fun v449 =>
   .leaf v449
  ))))

noncomputable def laws_heldFloat32S_g (v439 : List Nat) (v440 : Int) : Option (Int) := (laws_heldFloat32S_T v439 v440).run
def laws_heldFloat32S_enc (v439 : List Nat) (v440 : Int) (y : Int) : Rs := (.int .i64 y, [])
theorem laws_heldFloat32S_den (v439 : List Nat) (v440 : Int) : (den TT (tabD laws_heldFloat32S_tab) (tabM laws_heldFloat32S_tab) (laws_heldFloat32S_LO v439 v440) (codeOf Try.f24) ([.bslc (BR.root 0) (.f32 v439), .int .i64 v440] ++ List.replicate (Try.f24.ntmps - ([.bslc (BR.root 0) (.f32 v439), .int .i64 v440] : List DV).length) .undef) []).bind (retD TT Try.f24.results.toList 0) = (laws_heldFloat32S_T v439 v440).bind fun y => .leaf (laws_heldFloat32S_enc v439 v440 y) := by kernel_rfl
theorem laws_heldFloat32S_fn (v439 : List Nat) (v440 : Int) (F : Fr) (hm : F.ids.length = 0) (h0 : St F [] F.H0) (hA : DVs.Ok F [] [.bslc (BR.root 0) (.f32 v439), .int .i64 v440]) {y : Int} (hy : laws_heldFloat32S_g v439 v440 = some y) : ∃ H', FnOk Try.prog 24 (DVs.av F [.bslc (BR.root 0) (.f32 v439), .int .i64 v440]) F.H0 ((laws_heldFloat32S_enc v439 v440 y).1.av F) H' ∧ St F (laws_heldFloat32S_enc v439 v440 y).2 H' ∧ (laws_heldFloat32S_enc v439 v440 y).1.Ok F (laws_heldFloat32S_enc v439 v440 y).2 :=
  fn_fin tok laws_heldFloat32S_hO mixed Try.func24 Try.call24 (by kernel_rfl) (LoopsOk_eq (l := [(0, bodyOf Try.f24 0)]) (by kernel_rfl) ⟨laws_heldFloat32S_l0_ok v439 v440, trivial⟩) (laws_heldFloat32S_den v439 v440) hy hm h0 hA
noncomputable def laws_heldFloat32S_F : DFn := fun args L =>
  match args with
  | [a1, .int .i64 v440] =>
    optT (rowF32 L a1) fun v439 =>
    .call (laws_heldFloat32S_g v439 v440) fun y => .leaf (.int .i64 y, L)
  | _ => .fail
theorem laws_heldFloat32S_Fok : COk Try.prog 24 laws_heldFloat32S_F true := by
  intro F L H args r L' hs ha hr
  unfold laws_heldFloat32S_F at hr
  split at hr
  · rename_i a1 v440
    obtain ⟨v439, hv439, hr⟩ := optT_run hr
    simp only [Tree.run] at hr
    obtain ⟨y, hy, hr⟩ := Option.bind_eq_some_iff.1 hr
    simp only [Tree.run, Option.some.injEq, Prod.mk.injEq] at hr
    obtain ⟨rfl, rfl⟩ := hr
    exact call_ok0 hs (fun k => (([a1.av F] : List AV)[k]?).getD .top) [a1, .int .i64 v440] [.bslc (BR.root 0) (.f32 v439), .int .i64 v440] (fun F' h0 hi hρ => ⟨by simp [DVs.av, DV.av, BR.av, hρ], laws_heldFloat32S_fn v439 v440 F' (by rw [hi]; rfl) (st_nil hi) ⟨bslc_ok hi (by rw [h0, hρ]; exact rowF32_ok hs (DVs.okAt ha 0 rfl) hv439), trivial, trivial⟩ hy⟩) rfl
  · cases hr
/-! laws.FnExactSparseShared -/
noncomputable def laws_FnExactSparseShared_LO (v1 : Int) (v2 : List Int) (v3 : List Int) (v4 : List Nat) (v5 : List Nat) (v6 : Int) : LOr := fun id e L =>
  match id with
  | _ => .fail
noncomputable def laws_FnExactSparseShared_tab : List (FuncId × DFn × Bool) := [(15, laws_szSparse_F, true), (17, laws_toSparse_F, true), (18, laws_toFloat32S_F, true), (25, spec_SparseShared_F, true), (26, impl_SparseShared_F, true), (20, laws_eqFloat32S_F, true), (21, laws_eqSparse_F, true), (22, laws_markSparse_F, false), (23, (orD (fun args => match args with | [.nilslc, _] => true | _ => false) laws_markFloat32S_i1_F laws_markFloat32S_F), false), (24, laws_heldFloat32S_F, true)]
theorem laws_FnExactSparseShared_hO : OrcOk Try.prog (tabD laws_FnExactSparseShared_tab) (tabM laws_FnExactSparseShared_tab) := tabD_cons laws_szSparse_Fok (tabD_cons laws_toSparse_Fok (tabD_cons laws_toFloat32S_Fok (tabD_cons spec_SparseShared_Fok (tabD_cons impl_SparseShared_Fok (tabD_cons laws_eqFloat32S_Fok (tabD_cons laws_eqSparse_Fok (tabD_cons laws_markSparse_Fok (tabD_cons (orD_ok (COk.weak laws_markFloat32S_i1_Fok) laws_markFloat32S_Fok) (tabD_cons laws_heldFloat32S_Fok (tabD_nil _))))))))))
noncomputable def laws_FnExactSparseShared_T (v1 : Int) (v2 : List Int) (v3 : List Int) (v4 : List Nat) (v5 : List Nat) (v6 : Int) : Tree (Bool) :=
  (.br (decide ((1048576 : Int) < ((v5.length : Nat) : Int))) (
   .leaf true
  ) (
   (.br (decide ((laws_szSparse_v v2 v3 v4 (1048576 : Int)) < (0 : Int))) (
    .leaf true
   ) (
    (.call (laws_toSparse_g v1 v2 v3 v4) fun v37 =>
    (.call (laws_toFloat32S_g v5) fun v38 =>
    (.call (spec_SparseShared_g v37.1 v37.2.1 v37.2.2.1 v37.2.2.2 v38 v6) fun v155 =>
    (.sum v155 (fun v156 =>
     (.call (laws_toSparse_g v1 v2 v3 v4) fun v158 =>
     (.call (laws_toFloat32S_g v5) fun v159 =>
     (.call (impl_SparseShared_g v158.1 v158.2.1 v158.2.2.1 v158.2.2.2 v159 v6) fun v338 =>
     (.sum v338 (fun v339 =>
      (.call (laws_eqFloat32S_g ([] : List Nat) ([] : List Nat)) fun v351 =>
      (.br (!v351) (
       .leaf false
      ) (
       (.br (!(false == false)) (
        .leaf false
       ) (
        (.call (laws_toSparse_g v1 v2 v3 v4) fun v352 =>
        (.call (laws_eqSparse_g v158.1 v158.2.1 v158.2.2.1 v158.2.2.2 v352.1 v352.2.1 v352.2.2.1 v352.2.2.2) fun v372 =>
        (.br (!v372) (
         .leaf false
        ) (
         (.call (laws_toFloat32S_g v5) fun v373 =>
         (.call (laws_eqFloat32S_g v159 v373) fun v374 =>
         (.br (!v374) (
          .leaf false
         ) (
          (.call (laws_markSparse_g v158.2.1 v158.2.2.1 v158.2.2.2 (1 : Int)) fun v431 =>
          (.grd (decide (v431.2.1.length = v158.2.1.length)) <|
          (.grd (decide (v431.2.2.1.length = v158.2.2.1.length)) <|
          (.grd (decide (v431.2.2.2.length = v158.2.2.2.length)) <|
          (.call (laws_markFloat32S_g v159 v431.1) fun v432 =>
          (.grd (decide (v432.2.length = v159.length)) <|
          (.br (decide (v432.1 < (0 : Int))) (
           .leaf false
          ) (
           (.call (laws_eqFloat32S_g ([] : List Nat) ([] : List Nat)) fun v433 =>
           (.br (!v433) (
            .leaf false
           ) (
            (.br (!(false == false)) (
             .leaf false
            ) (
             (.call (laws_markFloat32S_i1_g (1 : Int)) fun v438 =>
             (.call (laws_heldFloat32S_g ([] : List Nat) (1 : Int)) fun v450 =>
             (.br (decide (v450 < (0 : Int))) (
              .leaf false
             ) (
              (.br (!decide (v450 = v438)) (
               .leaf false
              ) (
               (.call (laws_toSparse_g v1 v2 v3 v4) fun v451 =>
               (.call (laws_toFloat32S_g v5) fun v452 =>
               (.call (impl_SparseShared_g v451.1 v451.2.1 v451.2.2.1 v451.2.2.2 v452 v6) fun v453 =>
               (.sum v453 (fun v454 =>
                (.call (laws_eqFloat32S_g ([] : List Nat) ([] : List Nat)) fun v456 =>
                (.br (!v456) (
                 .leaf false
                ) (
                 (.br (!(false == false)) (
                  .leaf false
                 ) (
                  (.call (laws_heldFloat32S_g ([] : List Nat) (1 : Int)) fun v457 =>
                  (.br (decide (v457 < (0 : Int))) (
                   .leaf false
                  ) (
                   (.br (!decide (v457 = v438)) (
                    .leaf false
                   ) (
                    .leaf true
                   ))
                  )))
                 ))
                )))
               ) (fun v455 =>
                (.call (laws_eqFloat32S_g v455 ([] : List Nat)) fun v458 =>
                (.br (!v458) (
                 .leaf false
                ) (
                 (.br (!(true == false)) (
                  .leaf false
                 ) (
                  (.call (laws_heldFloat32S_g ([] : List Nat) (1 : Int)) fun v459 =>
                  (.br (decide (v459 < (0 : Int))) (
                   .leaf false
                  ) (
                   (.br (!decide (v459 = v438)) (
                    .leaf false
                   ) (
                    .leaf true
                   ))
                  )))
                 ))
                )))
               )))))
              ))
             ))))
            ))
           )))
          ))))))))
         ))))
        ))))
       ))
      )))
     ) (fun v340 =>
      (.call (laws_eqFloat32S_g v340 ([] : List Nat)) fun v460 =>
      (.br (!v460) (
       .leaf false
      ) (
       (.br (!(true == false)) (
        .leaf false
       ) (
        (.call (laws_toSparse_g v1 v2 v3 v4) fun v461 =>
        (.call (laws_eqSparse_g v158.1 v158.2.1 v158.2.2.1 v158.2.2.2 v461.1 v461.2.1 v461.2.2.1 v461.2.2.2) fun v462 =>
        (.br (!v462) (
         .leaf false
        ) (
         (.call (laws_toFloat32S_g v5) fun v463 =>
         (.call (laws_eqFloat32S_g v159 v463) fun v464 =>
         (.br (!v464) (
          .leaf false
         ) (
          (.call (laws_markSparse_g v158.2.1 v158.2.2.1 v158.2.2.2 (1 : Int)) fun v465 =>
          (.grd (decide (v465.2.1.length = v158.2.1.length)) <|
          (.grd (decide (v465.2.2.1.length = v158.2.2.1.length)) <|
          (.grd (decide (v465.2.2.2.length = v158.2.2.2.length)) <|
          (.call (laws_markFloat32S_g v159 v465.1) fun v466 =>
          (.grd (decide (v466.2.length = v159.length)) <|
          (.br (decide (v466.1 < (0 : Int))) (
           .leaf false
          ) (
           (.call (laws_eqFloat32S_g v340 ([] : List Nat)) fun v467 =>
           (.br (!v467) (
            .leaf false
           ) (
            (.br (!(true == false)) (
             .leaf false
            ) (
             (.call (laws_markFloat32S_g v340 (1 : Int)) fun v468 =>
             (.grd (decide (v468.2.length = v340.length)) <|
             (.call (laws_heldFloat32S_g v468.2 (1 : Int)) fun v469 =>
             (.br (decide (v469 < (0 : Int))) (
              .leaf false
             ) (
              (.br (!decide (v469 = v468.1)) (
               .leaf false
              ) (
               (.call (laws_toSparse_g v1 v2 v3 v4) fun v470 =>
               (.call (laws_toFloat32S_g v5) fun v471 =>
               (.call (impl_SparseShared_g v470.1 v470.2.1 v470.2.2.1 v470.2.2.2 v471 v6) fun v472 =>
               (.sum v472 (fun v473 =>
                (.call (laws_eqFloat32S_g ([] : List Nat) ([] : List Nat)) fun v475 =>
                (.br (!v475) (
                 .leaf false
                ) (
                 (.br (!(false == false)) (
                  .leaf false
                 ) (
                  (.call (laws_heldFloat32S_g v468.2 (1 : Int)) fun v476 =>
                  (.br (decide (v476 < (0 : Int))) (
                   .leaf false
                  ) (
                   (.br (!decide (v476 = v468.1)) (
                    .leaf false
                   ) (
                    .leaf true
                   ))
                  )))
                 ))
                )))
               ) (fun v474 =>
                (.call (laws_eqFloat32S_g v474 ([] : List Nat)) fun v477 =>
                (.br (!v477) (
                 .leaf false
                ) (
                 (.br (!(true == false)) (
                  .leaf false
                 ) (
                  (.call (laws_heldFloat32S_g v468.2 (1 : Int)) fun v478 =>
                  (.br (decide (v478 < (0 : Int))) (
                   .leaf false
                  ) (
                   (.br (!decide (v478 = v468.1)) (
                    .leaf false
                   ) (
                    .leaf true
                   ))
                  )))
                 ))
                )))
               )))))
              ))
             )))))
            ))
           )))
          ))))))))
         ))))
        ))))
       ))
      )))
     )))))
    ) (fun v157 =>
     (.call (laws_toSparse_g v1 v2 v3 v4) fun v479 =>
     (.call (laws_toFloat32S_g v5) fun v480 =>
     (.call (impl_SparseShared_g v479.1 v479.2.1 v479.2.2.1 v479.2.2.2 v480 v6) fun v481 =>
     (.sum v481 (fun v482 =>
      (.call (laws_eqFloat32S_g ([] : List Nat) v157) fun v484 =>
      (.br (!v484) (
       .leaf false
      ) (
       (.br (!(false == true)) (
        .leaf false
       ) (
        (.call (laws_toSparse_g v1 v2 v3 v4) fun v485 =>
        (.call (laws_eqSparse_g v479.1 v479.2.1 v479.2.2.1 v479.2.2.2 v485.1 v485.2.1 v485.2.2.1 v485.2.2.2) fun v486 =>
        (.br (!v486) (
         .leaf false
        ) (
         (.call (laws_toFloat32S_g v5) fun v487 =>
         (.call (laws_eqFloat32S_g v480 v487) fun v488 =>
         (.br (!v488) (
          .leaf false
         ) (
          (.call (laws_markSparse_g v479.2.1 v479.2.2.1 v479.2.2.2 (1 : Int)) fun v489 =>
          (.grd (decide (v489.2.1.length = v479.2.1.length)) <|
          (.grd (decide (v489.2.2.1.length = v479.2.2.1.length)) <|
          (.grd (decide (v489.2.2.2.length = v479.2.2.2.length)) <|
          (.call (laws_markFloat32S_g v480 v489.1) fun v490 =>
          (.grd (decide (v490.2.length = v480.length)) <|
          (.br (decide (v490.1 < (0 : Int))) (
           .leaf false
          ) (
           (.call (laws_eqFloat32S_g ([] : List Nat) v157) fun v491 =>
           (.br (!v491) (
            .leaf false
           ) (
            (.br (!(false == true)) (
             .leaf false
            ) (
             (.call (laws_markFloat32S_i1_g (1 : Int)) fun v492 =>
             (.call (laws_heldFloat32S_g ([] : List Nat) (1 : Int)) fun v493 =>
             (.br (decide (v493 < (0 : Int))) (
              .leaf false
             ) (
              (.br (!decide (v493 = v492)) (
               .leaf false
              ) (
               (.call (laws_toSparse_g v1 v2 v3 v4) fun v494 =>
               (.call (laws_toFloat32S_g v5) fun v495 =>
               (.call (impl_SparseShared_g v494.1 v494.2.1 v494.2.2.1 v494.2.2.2 v495 v6) fun v496 =>
               (.sum v496 (fun v497 =>
                (.call (laws_eqFloat32S_g ([] : List Nat) v157) fun v499 =>
                (.br (!v499) (
                 .leaf false
                ) (
                 (.br (!(false == true)) (
                  .leaf false
                 ) (
                  (.call (laws_heldFloat32S_g ([] : List Nat) (1 : Int)) fun v500 =>
                  (.br (decide (v500 < (0 : Int))) (
                   .leaf false
                  ) (
                   (.br (!decide (v500 = v492)) (
                    .leaf false
                   ) (
                    .leaf true
                   ))
                  )))
                 ))
                )))
               ) (fun v498 =>
                (.call (laws_eqFloat32S_g v498 v157) fun v501 =>
                (.br (!v501) (
                 .leaf false
                ) (
                 (.br (!(true == true)) (
                  .leaf false
                 ) (
                  (.call (laws_heldFloat32S_g ([] : List Nat) (1 : Int)) fun v502 =>
                  (.br (decide (v502 < (0 : Int))) (
                   .leaf false
                  ) (
                   (.br (!decide (v502 = v492)) (
                    .leaf false
                   ) (
                    .leaf true
                   ))
                  )))
                 ))
                )))
               )))))
              ))
             ))))
            ))
           )))
          ))))))))
         ))))
        ))))
       ))
      )))
     ) (fun v483 =>
      (.call (laws_eqFloat32S_g v483 v157) fun v503 =>
      (.br (!v503) (
       .leaf false
      ) (
       (.br (!(true == true)) (
        .leaf false
       ) (
        (.call (laws_toSparse_g v1 v2 v3 v4) fun v504 =>
        (.call (laws_eqSparse_g v479.1 v479.2.1 v479.2.2.1 v479.2.2.2 v504.1 v504.2.1 v504.2.2.1 v504.2.2.2) fun v505 =>
        (.br (!v505) (
         .leaf false
        ) (
         (.call (laws_toFloat32S_g v5) fun v506 =>
         (.call (laws_eqFloat32S_g v480 v506) fun v507 =>
         (.br (!v507) (
          .leaf false
         ) (
          (.call (laws_markSparse_g v479.2.1 v479.2.2.1 v479.2.2.2 (1 : Int)) fun v508 =>
          (.grd (decide (v508.2.1.length = v479.2.1.length)) <|
          (.grd (decide (v508.2.2.1.length = v479.2.2.1.length)) <|
          (.grd (decide (v508.2.2.2.length = v479.2.2.2.length)) <|
          (.call (laws_markFloat32S_g v480 v508.1) fun v509 =>
          (.grd (decide (v509.2.length = v480.length)) <|
          (.br (decide (v509.1 < (0 : Int))) (
           .leaf false
          ) (
           (.call (laws_eqFloat32S_g v483 v157) fun v510 =>
           (.br (!v510) (
            .leaf false
           ) (
            (.br (!(true == true)) (
             .leaf false
            ) (
             (.call (laws_markFloat32S_g v483 (1 : Int)) fun v511 =>
             (.grd (decide (v511.2.length = v483.length)) <|
             (.call (laws_heldFloat32S_g v511.2 (1 : Int)) fun v512 =>
             (.br (decide (v512 < (0 : Int))) (
              .leaf false
             ) (
              (.br (!decide (v512 = v511.1)) (
               .leaf false
              ) (
               (.call (laws_toSparse_g v1 v2 v3 v4) fun v513 =>
               (.call (laws_toFloat32S_g v5) fun v514 =>
               (.call (impl_SparseShared_g v513.1 v513.2.1 v513.2.2.1 v513.2.2.2 v514 v6) fun v515 =>
               (.sum v515 (fun v516 =>
                (.call (laws_eqFloat32S_g ([] : List Nat) v157) fun v518 =>
                (.br (!v518) (
                 .leaf false
                ) (
                 (.br (!(false == true)) (
                  .leaf false
                 ) (
                  (.call (laws_heldFloat32S_g v511.2 (1 : Int)) fun v519 =>
                  (.br (decide (v519 < (0 : Int))) (
                   .leaf false
                  ) (
                   (.br (!decide (v519 = v511.1)) (
                    .leaf false
                   ) (
                    .leaf true
                   ))
                  )))
                 ))
                )))
               ) (fun v517 =>
                (.call (laws_eqFloat32S_g v517 v157) fun v520 =>
                (.br (!v520) (
                 .leaf false
                ) (
                 (.br (!(true == true)) (
                  .leaf false
                 ) (
                  (.call (laws_heldFloat32S_g v511.2 (1 : Int)) fun v521 =>
                  (.br (decide (v521 < (0 : Int))) (
                   .leaf false
                  ) (
                   (.br (!decide (v521 = v511.1)) (
                    .leaf false
                   ) (
                    .leaf true
                   ))
                  )))
                 ))
                )))
               )))))
              ))
             )))))
            ))
           )))
          ))))))))
         ))))
        ))))
       ))
      )))
     )))))
    )))))
   ))
  ))

noncomputable def laws_FnExactSparseShared_g (v1 : Int) (v2 : List Int) (v3 : List Int) (v4 : List Nat) (v5 : List Nat) (v6 : Int) : Option (Bool) := (laws_FnExactSparseShared_T v1 v2 v3 v4 v5 v6).run
def laws_FnExactSparseShared_enc (v1 : Int) (v2 : List Int) (v3 : List Int) (v4 : List Nat) (v5 : List Nat) (v6 : Int) (y : Bool) : Rs := (.bool y, [])
theorem laws_FnExactSparseShared_den (v1 : Int) (v2 : List Int) (v3 : List Int) (v4 : List Nat) (v5 : List Nat) (v6 : Int) : (den TT (tabD laws_FnExactSparseShared_tab) (tabM laws_FnExactSparseShared_tab) (laws_FnExactSparseShared_LO v1 v2 v3 v4 v5 v6) (codeOf Try.f4) ([.agg [.int .i64 v1, .bslc (BR.root 0) (.i64 v2), .bslc (BR.root 1) (.i64 v3), .bslc (BR.root 2) (.f32 v4)], .bslc (BR.root 3) (.f32 v5), .int .i64 v6] ++ List.replicate (Try.f4.ntmps - ([.agg [.int .i64 v1, .bslc (BR.root 0) (.i64 v2), .bslc (BR.root 1) (.i64 v3), .bslc (BR.root 2) (.f32 v4)], .bslc (BR.root 3) (.f32 v5), .int .i64 v6] : List DV).length) .undef) []).bind (retD TT Try.f4.results.toList 0) = (laws_FnExactSparseShared_T v1 v2 v3 v4 v5 v6).bind fun y => .leaf (laws_FnExactSparseShared_enc v1 v2 v3 v4 v5 v6 y) := by kernel_rfl
theorem laws_FnExactSparseShared_fn (v1 : Int) (v2 : List Int) (v3 : List Int) (v4 : List Nat) (v5 : List Nat) (v6 : Int) (F : Fr) (hm : F.ids.length = 0) (h0 : St F [] F.H0) (hA : DVs.Ok F [] [.agg [.int .i64 v1, .bslc (BR.root 0) (.i64 v2), .bslc (BR.root 1) (.i64 v3), .bslc (BR.root 2) (.f32 v4)], .bslc (BR.root 3) (.f32 v5), .int .i64 v6]) {y : Bool} (hy : laws_FnExactSparseShared_g v1 v2 v3 v4 v5 v6 = some y) : ∃ H', FnOk Try.prog 4 (DVs.av F [.agg [.int .i64 v1, .bslc (BR.root 0) (.i64 v2), .bslc (BR.root 1) (.i64 v3), .bslc (BR.root 2) (.f32 v4)], .bslc (BR.root 3) (.f32 v5), .int .i64 v6]) F.H0 ((laws_FnExactSparseShared_enc v1 v2 v3 v4 v5 v6 y).1.av F) H' ∧ St F (laws_FnExactSparseShared_enc v1 v2 v3 v4 v5 v6 y).2 H' ∧ (laws_FnExactSparseShared_enc v1 v2 v3 v4 v5 v6 y).1.Ok F (laws_FnExactSparseShared_enc v1 v2 v3 v4 v5 v6 y).2 :=
  fn_fin tok laws_FnExactSparseShared_hO mixed Try.func4 Try.call4 (by kernel_rfl) (LoopsOk_eq (l := []) (by kernel_rfl) trivial) (laws_FnExactSparseShared_den v1 v2 v3 v4 v5 v6) hy hm h0 hA
noncomputable def laws_FnExactSparseShared_F : DFn := fun args L =>
  match args with
  | [.agg [.int .i64 v1, a1, a2, a3], a4, .int .i64 v6] =>
    optT (rowI64 L a1) fun v2 =>
    optT (rowI64 L a2) fun v3 =>
    optT (rowF32 L a3) fun v4 =>
    optT (rowF32 L a4) fun v5 =>
    .call (laws_FnExactSparseShared_g v1 v2 v3 v4 v5 v6) fun y => .leaf (.bool y, L)
  | _ => .fail
theorem laws_FnExactSparseShared_Fok : COk Try.prog 4 laws_FnExactSparseShared_F true := by
  intro F L H args r L' hs ha hr
  unfold laws_FnExactSparseShared_F at hr
  split at hr
  · rename_i v1 a1 a2 a3 a4 v6
    obtain ⟨v2, hv2, hr⟩ := optT_run hr
    obtain ⟨v3, hv3, hr⟩ := optT_run hr
    obtain ⟨v4, hv4, hr⟩ := optT_run hr
    obtain ⟨v5, hv5, hr⟩ := optT_run hr
    simp only [Tree.run] at hr
    obtain ⟨y, hy, hr⟩ := Option.bind_eq_some_iff.1 hr
    simp only [Tree.run, Option.some.injEq, Prod.mk.injEq] at hr
    obtain ⟨rfl, rfl⟩ := hr
    exact call_ok0 hs (fun k => (([a1.av F, a2.av F, a3.av F, a4.av F] : List AV)[k]?).getD .top) [.agg [.int .i64 v1, a1, a2, a3], a4, .int .i64 v6] [.agg [.int .i64 v1, .bslc (BR.root 0) (.i64 v2), .bslc (BR.root 1) (.i64 v3), .bslc (BR.root 2) (.f32 v4)], .bslc (BR.root 3) (.f32 v5), .int .i64 v6] (fun F' h0 hi hρ => ⟨by simp [DVs.av, DV.av, BR.av, hρ], laws_FnExactSparseShared_fn v1 v2 v3 v4 v5 v6 F' (by rw [hi]; rfl) (st_nil hi) ⟨⟨trivial, bslc_ok hi (by rw [h0, hρ]; exact rowI64_ok hs (DVs.okAt (DVs.okAt ha 0 rfl) 1 rfl) hv2), bslc_ok hi (by rw [h0, hρ]; exact rowI64_ok hs (DVs.okAt (DVs.okAt ha 0 rfl) 2 rfl) hv3), bslc_ok hi (by rw [h0, hρ]; exact rowF32_ok hs (DVs.okAt (DVs.okAt ha 0 rfl) 3 rfl) hv4), trivial⟩, bslc_ok hi (by rw [h0, hρ]; exact rowF32_ok hs (DVs.okAt ha 1 rfl) hv5), trivial, trivial⟩ hy⟩) rfl
  · cases hr
/-! laws.szInt64S -/
noncomputable def laws_szInt64S_len_LO (v533 : Nat) (v534 : Int) : LOr := fun id e L =>
  match id with
  | _ => .fail
noncomputable def laws_szInt64S_len_tab : List (FuncId × DFn × Bool) := []
theorem laws_szInt64S_len_hO : OrcOk Try.prog (tabD laws_szInt64S_len_tab) (tabM laws_szInt64S_len_tab) := tabD_nil _
noncomputable def laws_szInt64S_len_T (v533 : Nat) (v534 : Int) : Tree (Int) :=
  (.br (decide (IntKind.i64.wrap (v534 - ((v533 : Nat) : Int)) < (0 : Int))) (
   .leaf (-1 : Int)
  ) (
   .leaf (IntKind.i64.wrap (v534 - ((v533 : Nat) : Int)))
  ))

noncomputable def laws_szInt64S_len_g (v533 : Nat) (v534 : Int) : Option (Int) := (laws_szInt64S_len_T v533 v534).run
def laws_szInt64S_len_enc (v533 : Nat) (v534 : Int) (y : Int) : Rs := (.int .i64 y, [])
theorem laws_szInt64S_len_den (v533 : Nat) (v534 : Int) : (den TT (tabD laws_szInt64S_len_tab) (tabM laws_szInt64S_len_tab) (laws_szInt64S_len_LO v533 v534) (codeOf Try.f63) ([.hslc (BR.root 0) v533, .int .i64 v534] ++ List.replicate (Try.f63.ntmps - ([.hslc (BR.root 0) v533, .int .i64 v534] : List DV).length) .undef) []).bind (retD TT Try.f63.results.toList 0) = (laws_szInt64S_len_T v533 v534).bind fun y => .leaf (laws_szInt64S_len_enc v533 v534 y) := by kernel_rfl
theorem laws_szInt64S_len_fn (v533 : Nat) (v534 : Int) (F : Fr) (hm : F.ids.length = 0) (h0 : St F [] F.H0) (hA : DVs.Ok F [] [.hslc (BR.root 0) v533, .int .i64 v534]) {y : Int} (hy : laws_szInt64S_len_g v533 v534 = some y) : ∃ H', FnOk Try.prog 63 (DVs.av F [.hslc (BR.root 0) v533, .int .i64 v534]) F.H0 ((laws_szInt64S_len_enc v533 v534 y).1.av F) H' ∧ St F (laws_szInt64S_len_enc v533 v534 y).2 H' ∧ (laws_szInt64S_len_enc v533 v534 y).1.Ok F (laws_szInt64S_len_enc v533 v534 y).2 :=
  fn_fin tok laws_szInt64S_len_hO mixed Try.func63 Try.call63 (by kernel_rfl) (LoopsOk_eq (l := []) (by kernel_rfl) trivial) (laws_szInt64S_len_den v533 v534) hy hm h0 hA
def laws_szInt64S_len_v (v533 : Nat) (v534 : Int) : Int :=
  if (decide (IntKind.i64.wrap (v534 - ((v533 : Nat) : Int)) < (0 : Int))) = true then (
   (-1 : Int)
  ) else (
   IntKind.i64.wrap (v534 - ((v533 : Nat) : Int))
  )
theorem laws_szInt64S_len_tot (v533 : Nat) (v534 : Int) : laws_szInt64S_len_g v533 v534 = some (laws_szInt64S_len_v v533 v534) := by
  unfold laws_szInt64S_len_g laws_szInt64S_len_T laws_szInt64S_len_v
  simp only [Tree.run]
  repeat' (first | rfl | split)
noncomputable def laws_szInt64S_len_F : DFn := fun args L =>
  match args with
  | [a1, .int .i64 v534] =>
    optT (lenV L a1) fun v533 =>
    .leaf (.int .i64 (laws_szInt64S_len_v v533 v534), L)
  | _ => .fail
theorem laws_szInt64S_len_Fok : COk Try.prog 63 laws_szInt64S_len_F true := by
  intro F L H args r L' hs ha hr
  unfold laws_szInt64S_len_F at hr
  split at hr
  · rename_i a1 v534
    obtain ⟨v533, hv533, hr⟩ := optT_run hr
    have hy := laws_szInt64S_len_tot v533 v534
    generalize laws_szInt64S_len_v v533 v534 = y at hy hr
    simp only [Tree.run, Option.some.injEq, Prod.mk.injEq] at hr
    obtain ⟨rfl, rfl⟩ := hr
    exact call_ok0 hs (fun k => (([a1.av F] : List AV)[k]?).getD .top) [a1, .int .i64 v534] [.hslc (BR.root 0) v533, .int .i64 v534] (fun F' h0 hi hρ => ⟨by simp [DVs.av, DV.av, BR.av, hρ], laws_szInt64S_len_fn v533 v534 F' (by rw [hi]; rfl) (st_nil hi) ⟨hslc_ok hi (by rw [h0, hρ]; exact lenV_ok hs (DVs.okAt ha 0 rfl) hv533), trivial, trivial⟩ hy⟩) rfl
  · cases hr
/-! laws.szFloat32S -/
noncomputable def laws_szFloat32S_len_LO (v535 : Nat) (v536 : Int) : LOr := fun id e L =>
  match id with
  | _ => .fail
noncomputable def laws_szFloat32S_len_tab : List (FuncId × DFn × Bool) := []
theorem laws_szFloat32S_len_hO : OrcOk Try.prog (tabD laws_szFloat32S_len_tab) (tabM laws_szFloat32S_len_tab) := tabD_nil _
noncomputable def laws_szFloat32S_len_T (v535 : Nat) (v536 : Int) : Tree (Int) :=
  (.br (decide (IntKind.i64.wrap (v536 - ((v535 : Nat) : Int)) < (0 : Int))) (
   .leaf (-1 : Int)
  ) (
   .leaf (IntKind.i64.wrap (v536 - ((v535 : Nat) : Int)))
  ))

noncomputable def laws_szFloat32S_len_g (v535 : Nat) (v536 : Int) : Option (Int) := (laws_szFloat32S_len_T v535 v536).run
def laws_szFloat32S_len_enc (v535 : Nat) (v536 : Int) (y : Int) : Rs := (.int .i64 y, [])
theorem laws_szFloat32S_len_den (v535 : Nat) (v536 : Int) : (den TT (tabD laws_szFloat32S_len_tab) (tabM laws_szFloat32S_len_tab) (laws_szFloat32S_len_LO v535 v536) (codeOf Try.f64) ([.hslc (BR.root 0) v535, .int .i64 v536] ++ List.replicate (Try.f64.ntmps - ([.hslc (BR.root 0) v535, .int .i64 v536] : List DV).length) .undef) []).bind (retD TT Try.f64.results.toList 0) = (laws_szFloat32S_len_T v535 v536).bind fun y => .leaf (laws_szFloat32S_len_enc v535 v536 y) := by kernel_rfl
theorem laws_szFloat32S_len_fn (v535 : Nat) (v536 : Int) (F : Fr) (hm : F.ids.length = 0) (h0 : St F [] F.H0) (hA : DVs.Ok F [] [.hslc (BR.root 0) v535, .int .i64 v536]) {y : Int} (hy : laws_szFloat32S_len_g v535 v536 = some y) : ∃ H', FnOk Try.prog 64 (DVs.av F [.hslc (BR.root 0) v535, .int .i64 v536]) F.H0 ((laws_szFloat32S_len_enc v535 v536 y).1.av F) H' ∧ St F (laws_szFloat32S_len_enc v535 v536 y).2 H' ∧ (laws_szFloat32S_len_enc v535 v536 y).1.Ok F (laws_szFloat32S_len_enc v535 v536 y).2 :=
  fn_fin tok laws_szFloat32S_len_hO mixed Try.func64 Try.call64 (by kernel_rfl) (LoopsOk_eq (l := []) (by kernel_rfl) trivial) (laws_szFloat32S_len_den v535 v536) hy hm h0 hA
def laws_szFloat32S_len_v (v535 : Nat) (v536 : Int) : Int :=
  if (decide (IntKind.i64.wrap (v536 - ((v535 : Nat) : Int)) < (0 : Int))) = true then (
   (-1 : Int)
  ) else (
   IntKind.i64.wrap (v536 - ((v535 : Nat) : Int))
  )
theorem laws_szFloat32S_len_tot (v535 : Nat) (v536 : Int) : laws_szFloat32S_len_g v535 v536 = some (laws_szFloat32S_len_v v535 v536) := by
  unfold laws_szFloat32S_len_g laws_szFloat32S_len_T laws_szFloat32S_len_v
  simp only [Tree.run]
  repeat' (first | rfl | split)
noncomputable def laws_szFloat32S_len_F : DFn := fun args L =>
  match args with
  | [a1, .int .i64 v536] =>
    optT (lenV L a1) fun v535 =>
    .leaf (.int .i64 (laws_szFloat32S_len_v v535 v536), L)
  | _ => .fail
theorem laws_szFloat32S_len_Fok : COk Try.prog 64 laws_szFloat32S_len_F true := by
  intro F L H args r L' hs ha hr
  unfold laws_szFloat32S_len_F at hr
  split at hr
  · rename_i a1 v536
    obtain ⟨v535, hv535, hr⟩ := optT_run hr
    have hy := laws_szFloat32S_len_tot v535 v536
    generalize laws_szFloat32S_len_v v535 v536 = y at hy hr
    simp only [Tree.run, Option.some.injEq, Prod.mk.injEq] at hr
    obtain ⟨rfl, rfl⟩ := hr
    exact call_ok0 hs (fun k => (([a1.av F] : List AV)[k]?).getD .top) [a1, .int .i64 v536] [.hslc (BR.root 0) v535, .int .i64 v536] (fun F' h0 hi hρ => ⟨by simp [DVs.av, DV.av, BR.av, hρ], laws_szFloat32S_len_fn v535 v536 F' (by rw [hi]; rfl) (st_nil hi) ⟨hslc_ok hi (by rw [h0, hρ]; exact lenV_ok hs (DVs.okAt ha 0 rfl) hv535), trivial, trivial⟩ hy⟩) rfl
  · cases hr
/-! laws.szSparse -/
noncomputable def laws_szSparse_len_LO (v528 : Int) (v529 : Nat) (v530 : Nat) (v531 : Nat) (v532 : Int) : LOr := fun id e L =>
  match id with
  | _ => .fail
noncomputable def laws_szSparse_len_tab : List (FuncId × DFn × Bool) := [(63, laws_szInt64S_len_F, true), (64, laws_szFloat32S_len_F, true)]
theorem laws_szSparse_len_hO : OrcOk Try.prog (tabD laws_szSparse_len_tab) (tabM laws_szSparse_len_tab) := tabD_cons laws_szInt64S_len_Fok (tabD_cons laws_szFloat32S_len_Fok (tabD_nil _))
noncomputable def laws_szSparse_len_T (v529 : Nat) (v530 : Nat) (v531 : Nat) (v532 : Int) : Tree (Int) :=
  (.br (decide ((laws_szInt64S_len_v v529 v532) < (0 : Int))) (
   .leaf (-1 : Int)
  ) (
   (.br (decide ((laws_szInt64S_len_v v530 (laws_szInt64S_len_v v529 v532)) < (0 : Int))) (
    .leaf (-1 : Int)
   ) (
    (.br (decide ((laws_szFloat32S_len_v v531 (laws_szInt64S_len_v v530 (laws_szInt64S_len_v v529 v532))) < (0 : Int))) (
     .leaf (-1 : Int)
    ) (
     .leaf (laws_szFloat32S_len_v v531 (laws_szInt64S_len_v v530 (laws_szInt64S_len_v v529 v532)))
    ))
   ))
  ))

noncomputable def laws_szSparse_len_g (v529 : Nat) (v530 : Nat) (v531 : Nat) (v532 : Int) : Option (Int) := (laws_szSparse_len_T v529 v530 v531 v532).run
def laws_szSparse_len_enc (v528 : Int) (v529 : Nat) (v530 : Nat) (v531 : Nat) (v532 : Int) (y : Int) : Rs := (.int .i64 y, [])
theorem laws_szSparse_len_den (v528 : Int) (v529 : Nat) (v530 : Nat) (v531 : Nat) (v532 : Int) : (den TT (tabD laws_szSparse_len_tab) (tabM laws_szSparse_len_tab) (laws_szSparse_len_LO v528 v529 v530 v531 v532) (codeOf Try.f15) ([.agg [.int .i64 v528, .hslc (BR.root 0) v529, .hslc (BR.root 1) v530, .hslc (BR.root 2) v531], .int .i64 v532] ++ List.replicate (Try.f15.ntmps - ([.agg [.int .i64 v528, .hslc (BR.root 0) v529, .hslc (BR.root 1) v530, .hslc (BR.root 2) v531], .int .i64 v532] : List DV).length) .undef) []).bind (retD TT Try.f15.results.toList 0) = (laws_szSparse_len_T v529 v530 v531 v532).bind fun y => .leaf (laws_szSparse_len_enc v528 v529 v530 v531 v532 y) := by kernel_rfl
theorem laws_szSparse_len_fn (v528 : Int) (v529 : Nat) (v530 : Nat) (v531 : Nat) (v532 : Int) (F : Fr) (hm : F.ids.length = 0) (h0 : St F [] F.H0) (hA : DVs.Ok F [] [.agg [.int .i64 v528, .hslc (BR.root 0) v529, .hslc (BR.root 1) v530, .hslc (BR.root 2) v531], .int .i64 v532]) {y : Int} (hy : laws_szSparse_len_g v529 v530 v531 v532 = some y) : ∃ H', FnOk Try.prog 15 (DVs.av F [.agg [.int .i64 v528, .hslc (BR.root 0) v529, .hslc (BR.root 1) v530, .hslc (BR.root 2) v531], .int .i64 v532]) F.H0 ((laws_szSparse_len_enc v528 v529 v530 v531 v532 y).1.av F) H' ∧ St F (laws_szSparse_len_enc v528 v529 v530 v531 v532 y).2 H' ∧ (laws_szSparse_len_enc v528 v529 v530 v531 v532 y).1.Ok F (laws_szSparse_len_enc v528 v529 v530 v531 v532 y).2 :=
  fn_fin tok laws_szSparse_len_hO mixed Try.func15 Try.call15 (by kernel_rfl) (LoopsOk_eq (l := []) (by kernel_rfl) trivial) (laws_szSparse_len_den v528 v529 v530 v531 v532) hy hm h0 hA
def laws_szSparse_len_v (v529 : Nat) (v530 : Nat) (v531 : Nat) (v532 : Int) : Int :=
  if (decide ((laws_szInt64S_len_v v529 v532) < (0 : Int))) = true then (
   (-1 : Int)
  ) else (
   if (decide ((laws_szInt64S_len_v v530 (laws_szInt64S_len_v v529 v532)) < (0 : Int))) = true then (
    (-1 : Int)
   ) else (
    if (decide ((laws_szFloat32S_len_v v531 (laws_szInt64S_len_v v530 (laws_szInt64S_len_v v529 v532))) < (0 : Int))) = true then (
     (-1 : Int)
    ) else (
     (laws_szFloat32S_len_v v531 (laws_szInt64S_len_v v530 (laws_szInt64S_len_v v529 v532)))
    )
   )
  )
theorem laws_szSparse_len_tot (v529 : Nat) (v530 : Nat) (v531 : Nat) (v532 : Int) : laws_szSparse_len_g v529 v530 v531 v532 = some (laws_szSparse_len_v v529 v530 v531 v532) := by
  unfold laws_szSparse_len_g laws_szSparse_len_T laws_szSparse_len_v
  simp only [Tree.run]
  repeat' (first | rfl | split)
noncomputable def laws_szSparse_len_F : DFn := fun args L =>
  match args with
  | [.agg [.int .i64 v528, a1, a2, a3], .int .i64 v532] =>
    optT (lenV L a1) fun v529 =>
    optT (lenV L a2) fun v530 =>
    optT (lenV L a3) fun v531 =>
    .leaf (.int .i64 (laws_szSparse_len_v v529 v530 v531 v532), L)
  | _ => .fail
theorem laws_szSparse_len_Fok : COk Try.prog 15 laws_szSparse_len_F true := by
  intro F L H args r L' hs ha hr
  unfold laws_szSparse_len_F at hr
  split at hr
  · rename_i v528 a1 a2 a3 v532
    obtain ⟨v529, hv529, hr⟩ := optT_run hr
    obtain ⟨v530, hv530, hr⟩ := optT_run hr
    obtain ⟨v531, hv531, hr⟩ := optT_run hr
    have hy := laws_szSparse_len_tot v529 v530 v531 v532
    generalize laws_szSparse_len_v v529 v530 v531 v532 = y at hy hr
    simp only [Tree.run, Option.some.injEq, Prod.mk.injEq] at hr
    obtain ⟨rfl, rfl⟩ := hr
    exact call_ok0 hs (fun k => (([a1.av F, a2.av F, a3.av F] : List AV)[k]?).getD .top) [.agg [.int .i64 v528, a1, a2, a3], .int .i64 v532] [.agg [.int .i64 v528, .hslc (BR.root 0) v529, .hslc (BR.root 1) v530, .hslc (BR.root 2) v531], .int .i64 v532] (fun F' h0 hi hρ => ⟨by simp [DVs.av, DV.av, BR.av, hρ], laws_szSparse_len_fn v528 v529 v530 v531 v532 F' (by rw [hi]; rfl) (st_nil hi) ⟨⟨trivial, hslc_ok hi (by rw [h0, hρ]; exact lenV_ok hs (DVs.okAt (DVs.okAt ha 0 rfl) 1 rfl) hv529), hslc_ok hi (by rw [h0, hρ]; exact lenV_ok hs (DVs.okAt (DVs.okAt ha 0 rfl) 2 rfl) hv530), hslc_ok hi (by rw [h0, hρ]; exact lenV_ok hs (DVs.okAt (DVs.okAt ha 0 rfl) 3 rfl) hv531), trivial⟩, trivial, trivial⟩ hy⟩) rfl
  · cases hr
/-! laws.FnExactSparseShared -/
noncomputable def laws_FnExactSparseShared_len_LO (v522 : Int) (v523 : Nat) (v524 : Nat) (v525 : Nat) (v526 : Nat) (v527 : Int) : LOr := fun id e L =>
  match id with
  | _ => .fail
noncomputable def laws_FnExactSparseShared_len_tab : List (FuncId × DFn × Bool) := [(15, laws_szSparse_len_F, true)]
theorem laws_FnExactSparseShared_len_hO : OrcOk Try.prog (tabD laws_FnExactSparseShared_len_tab) (tabM laws_FnExactSparseShared_len_tab) := tabD_cons laws_szSparse_len_Fok (tabD_nil _)
noncomputable def laws_FnExactSparseShared_len_T (v523 : Nat) (v524 : Nat) (v525 : Nat) (v526 : Nat) : Tree (Bool) :=
  (.br (decide ((1048576 : Int) < ((v526 : Nat) : Int))) (
   .leaf true
  ) (
   (.br (decide ((laws_szSparse_len_v v523 v524 v525 (1048576 : Int)) < (0 : Int))) (
    .leaf true
   ) (
    .fail
   ))
  ))

noncomputable def laws_FnExactSparseShared_len_g (v523 : Nat) (v524 : Nat) (v525 : Nat) (v526 : Nat) : Option (Bool) := (laws_FnExactSparseShared_len_T v523 v524 v525 v526).run
def laws_FnExactSparseShared_len_enc (v522 : Int) (v523 : Nat) (v524 : Nat) (v525 : Nat) (v526 : Nat) (v527 : Int) (y : Bool) : Rs := (.bool y, [])
theorem laws_FnExactSparseShared_len_den (v522 : Int) (v523 : Nat) (v524 : Nat) (v525 : Nat) (v526 : Nat) (v527 : Int) : (den TT (tabD laws_FnExactSparseShared_len_tab) (tabM laws_FnExactSparseShared_len_tab) (laws_FnExactSparseShared_len_LO v522 v523 v524 v525 v526 v527) (codeOf Try.f4) ([.agg [.int .i64 v522, .hslc (BR.root 0) v523, .hslc (BR.root 1) v524, .hslc (BR.root 2) v525], .hslc (BR.root 3) v526, .int .i64 v527] ++ List.replicate (Try.f4.ntmps - ([.agg [.int .i64 v522, .hslc (BR.root 0) v523, .hslc (BR.root 1) v524, .hslc (BR.root 2) v525], .hslc (BR.root 3) v526, .int .i64 v527] : List DV).length) .undef) []).bind (retD TT Try.f4.results.toList 0) = (laws_FnExactSparseShared_len_T v523 v524 v525 v526).bind fun y => .leaf (laws_FnExactSparseShared_len_enc v522 v523 v524 v525 v526 v527 y) := by kernel_rfl
theorem laws_FnExactSparseShared_len_fn (v522 : Int) (v523 : Nat) (v524 : Nat) (v525 : Nat) (v526 : Nat) (v527 : Int) (F : Fr) (hm : F.ids.length = 0) (h0 : St F [] F.H0) (hA : DVs.Ok F [] [.agg [.int .i64 v522, .hslc (BR.root 0) v523, .hslc (BR.root 1) v524, .hslc (BR.root 2) v525], .hslc (BR.root 3) v526, .int .i64 v527]) {y : Bool} (hy : laws_FnExactSparseShared_len_g v523 v524 v525 v526 = some y) : ∃ H', FnOk Try.prog 4 (DVs.av F [.agg [.int .i64 v522, .hslc (BR.root 0) v523, .hslc (BR.root 1) v524, .hslc (BR.root 2) v525], .hslc (BR.root 3) v526, .int .i64 v527]) F.H0 ((laws_FnExactSparseShared_len_enc v522 v523 v524 v525 v526 v527 y).1.av F) H' ∧ St F (laws_FnExactSparseShared_len_enc v522 v523 v524 v525 v526 v527 y).2 H' ∧ (laws_FnExactSparseShared_len_enc v522 v523 v524 v525 v526 v527 y).1.Ok F (laws_FnExactSparseShared_len_enc v522 v523 v524 v525 v526 v527 y).2 :=
  fn_fin tok laws_FnExactSparseShared_len_hO mixed Try.func4 Try.call4 (by kernel_rfl) (LoopsOk_eq (l := []) (by kernel_rfl) trivial) (laws_FnExactSparseShared_len_den v522 v523 v524 v525 v526 v527) hy hm h0 hA
noncomputable def laws_FnExactSparseShared_len_F : DFn := fun args L =>
  match args with
  | [.agg [.int .i64 v522, a1, a2, a3], a4, .int .i64 v527] =>
    optT (lenV L a1) fun v523 =>
    optT (lenV L a2) fun v524 =>
    optT (lenV L a3) fun v525 =>
    optT (lenV L a4) fun v526 =>
    .call (laws_FnExactSparseShared_len_g v523 v524 v525 v526) fun y => .leaf (.bool y, L)
  | _ => .fail
theorem laws_FnExactSparseShared_len_Fok : COk Try.prog 4 laws_FnExactSparseShared_len_F true := by
  intro F L H args r L' hs ha hr
  unfold laws_FnExactSparseShared_len_F at hr
  split at hr
  · rename_i v522 a1 a2 a3 a4 v527
    obtain ⟨v523, hv523, hr⟩ := optT_run hr
    obtain ⟨v524, hv524, hr⟩ := optT_run hr
    obtain ⟨v525, hv525, hr⟩ := optT_run hr
    obtain ⟨v526, hv526, hr⟩ := optT_run hr
    simp only [Tree.run] at hr
    obtain ⟨y, hy, hr⟩ := Option.bind_eq_some_iff.1 hr
    simp only [Tree.run, Option.some.injEq, Prod.mk.injEq] at hr
    obtain ⟨rfl, rfl⟩ := hr
    exact call_ok0 hs (fun k => (([a1.av F, a2.av F, a3.av F, a4.av F] : List AV)[k]?).getD .top) [.agg [.int .i64 v522, a1, a2, a3], a4, .int .i64 v527] [.agg [.int .i64 v522, .hslc (BR.root 0) v523, .hslc (BR.root 1) v524, .hslc (BR.root 2) v525], .hslc (BR.root 3) v526, .int .i64 v527] (fun F' h0 hi hρ => ⟨by simp [DVs.av, DV.av, BR.av, hρ], laws_FnExactSparseShared_len_fn v522 v523 v524 v525 v526 v527 F' (by rw [hi]; rfl) (st_nil hi) ⟨⟨trivial, hslc_ok hi (by rw [h0, hρ]; exact lenV_ok hs (DVs.okAt (DVs.okAt ha 0 rfl) 1 rfl) hv523), hslc_ok hi (by rw [h0, hρ]; exact lenV_ok hs (DVs.okAt (DVs.okAt ha 0 rfl) 2 rfl) hv524), hslc_ok hi (by rw [h0, hρ]; exact lenV_ok hs (DVs.okAt (DVs.okAt ha 0 rfl) 3 rfl) hv525), trivial⟩, hslc_ok hi (by rw [h0, hρ]; exact lenV_ok hs (DVs.okAt ha 1 rfl) hv526), trivial, trivial⟩ hy⟩) rfl
  · cases hr
end Go.Proofs.Ytjadfgeemfdbmaa.AM
