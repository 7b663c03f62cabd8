/- Functions: what they come to. -/
import Derived.Test.YtooakheodgndaaaX0
set_option maxRecDepth 100000
set_option maxHeartbeats 4000000
set_option linter.unusedSimpArgs false
set_option linter.unusedVariables false
namespace Go.Proofs.Ytooakheodgndaaa.AM
open Go.Proofs
/-! impl.less -/
noncomputable def impl_less_l0_T (v1898 : List Nat) (v1899 : Nat) (v1900 : List Nat) (s : Int × (List Nat)) : Tree ((Int × (List Nat)) ⊕ ((List Nat))) :=
  (.br (decide (s.1 < ((v1898.length : Nat) : Int))) (
   (.grd (inb s.1 ((s.2).length)) <|
   (.grd (inb s.1 v1900.length) <|
   (.grd (inb s.1 ((s.2).length)) <|
   .leaf (.inl (IntKind.i64.wrap (s.1 + (1 : Int)), List.set s.2 (Int.toNat s.1) (fsub .f32 (nth s.2 (Int.toNat s.1)) (impl_mul_v v1899 (nth v1900 (Int.toNat s.1)))))))))
  ) (
   .leaf (.inr s.2)
  ))

noncomputable def impl_less_l0_g (v1898 : List Nat) (v1899 : Nat) (v1900 : List Nat) (s0 : Int × (List Nat)) : Option ((List Nat)) := whileM (fun s => (impl_less_l0_T v1898 v1899 v1900 s).run) s0
def impl_less_l0_E (v1898 : List Nat) (v1899 : Nat) (v1900 : List Nat) (s : Int × (List Nat)) : Sd := ([.own 0 0 ((s.2).length), .flt .f32 v1899, .bslc (BR.root 1) (.f32 v1900), .top, .top, .top, .top, .top, .int .i64 ((v1898.length : Nat) : Int), .int .i64 s.1, .top, .top, .top, .top, .top, .top, .top, .top, .top, .top, .top, .top, .top, .top, .top], [.row (.f32 s.2) 0])
def impl_less_l0_X (v1898 : List Nat) (v1899 : Nat) (v1900 : List Nat) (x : (List Nat)) : Out := (.normal, [.top, .top, .top, .top, .top, .top, .top, .top, .top, .top, .top, .top, .top, .top, .top, .top, .top, .top, .top, .top, .top, .top, .top, .top, .top], [.row (.f32 x) 0])
def impl_less_l0_kill : List Nat := [0, 0, 0, 1, 1, 1, 1, 1, 0, 0, 1, 1, 1, 1, 1, 1, 1, 1, 1, 1, 1, 1, 1, 1, 1]
def impl_less_l0_nx : Exit → List Nat
  | .exit 0 => [1, 1, 1, 1, 1, 1, 1, 1, 1, 1, 1, 1, 1, 1, 1, 1, 1, 1, 1, 1, 1, 1, 1, 1, 1]
  | .ret => [1, 1, 1, 1, 1, 1, 1, 1, 1, 1, 1, 1, 1, 1, 1, 1, 1, 1, 1, 1, 1, 1, 1, 1, 1]
  | _ => []
noncomputable def impl_less_LO (v1898 : List Nat) (v1899 : Nat) (v1900 : List Nat) : LOr := fun id e L =>
  match id with
  | 0 => .need (normA 1 impl_less_l0_kill e L = some (impl_less_l0_E v1898 v1899 v1900 ((gI (vAt e 9)), (gRF L (vAt e 0))))) (.call (impl_less_l0_g v1898 v1899 v1900 ((gI (vAt e 9)), (gRF L (vAt e 0)))) fun x => .leaf (impl_less_l0_X v1898 v1899 v1900 x))
  | _ => .fail
noncomputable def impl_less_tab : List (FuncId × DFn × Bool) := [(65, impl_mul_F, true)]
theorem impl_less_hO : OrcOk Try.prog (tabD impl_less_tab) (tabM impl_less_tab) := tabD_cons impl_mul_Fok (tabD_nil _)
theorem impl_less_l0_be (v1898 : List Nat) (v1899 : Nat) (v1900 : List Nat) (s : Int × (List Nat)) : bodyT TT (tabD impl_less_tab) (tabM impl_less_tab) (impl_less_LO v1898 v1899 v1900) 1 impl_less_l0_kill impl_less_l0_nx (bodyOf Try.f107 0) 0 (impl_less_l0_E v1898 v1899 v1900 s) = (impl_less_l0_T v1898 v1899 v1900 s).bind fun y => .leaf (outS (impl_less_l0_E v1898 v1899 v1900) (impl_less_l0_X v1898 v1899 v1900) y) := by kernel_rfl
theorem impl_less_l0_ok (v1898 : List Nat) (v1899 : Nat) (v1900 : List Nat) : LSound Try.prog 1 (impl_less_LO v1898 v1899 v1900) 0 (bodyOf Try.f107 0) := by
  intro e L out h
  exact lo_ok (E := impl_less_l0_E v1898 v1899 v1900) (gT := impl_less_l0_T v1898 v1899 v1900) (X := impl_less_l0_X v1898 v1899 v1900) (s0 := ((gI (vAt e 9)), (gRF L (vAt e 0)))) tok impl_less_hO mixed (LoopsOk_eq (l := []) (by kernel_rfl) trivial) (impl_less_l0_be v1898 v1899 v1900) rfl (by intro x; rfl) h
noncomputable def impl_less_T (v1898 : List Nat) (v1899 : Nat) (v1900 : List Nat) : Tree ((List Nat)) :=
  (.need (some (impl_less_l0_E v1898 v1899 v1900 ((0 : Int), v1898)) = some (impl_less_l0_E v1898 v1899 v1900 ((0 : Int), v1898))) <|
  (.call (impl_less_l0_g v1898 v1899 v1900 ((0 : Int), v1898)) fun v1906 =>
  .leaf v1906))

noncomputable def impl_less_g (v1898 : List Nat) (v1899 : Nat) (v1900 : List Nat) : Option ((List Nat)) := (impl_less_T v1898 v1899 v1900).run
def impl_less_enc (v1898 : List Nat) (v1899 : Nat) (v1900 : List Nat) (y : (List Nat)) : Rs := (.tup [], [.row (.f32 y) 0])
theorem impl_less_den (v1898 : List Nat) (v1899 : Nat) (v1900 : List Nat) : (den TT (tabD impl_less_tab) (tabM impl_less_tab) (impl_less_LO v1898 v1899 v1900) (codeOf Try.f107) ([.own 0 0 v1898.length, .flt .f32 v1899, .bslc (BR.root 1) (.f32 v1900)] ++ List.replicate (Try.f107.ntmps - ([.own 0 0 v1898.length, .flt .f32 v1899, .bslc (BR.root 1) (.f32 v1900)] : List DV).length) .undef) [.row (.f32 v1898) 0]).bind (retD TT Try.f107.results.toList 1) = (impl_less_T v1898 v1899 v1900).bind fun y => .leaf (impl_less_enc v1898 v1899 v1900 y) := by kernel_rfl
theorem impl_less_fn (v1898 : List Nat) (v1899 : Nat) (v1900 : List Nat) (F : Fr) (hm : F.ids.length = 1) (h0 : St F [.row (.f32 v1898) 0] F.H0) (hA : DVs.Ok F [.row (.f32 v1898) 0] [.own 0 0 v1898.length, .flt .f32 v1899, .bslc (BR.root 1) (.f32 v1900)]) {y : (List Nat)} (hy : impl_less_g v1898 v1899 v1900 = some y) : ∃ H', FnOk Try.prog 107 (DVs.av F [.own 0 0 v1898.length, .flt .f32 v1899, .bslc (BR.root 1) (.f32 v1900)]) F.H0 ((impl_less_enc v1898 v1899 v1900 y).1.av F) H' ∧ St F (impl_less_enc v1898 v1899 v1900 y).2 H' ∧ (impl_less_enc v1898 v1899 v1900 y).1.Ok F (impl_less_enc v1898 v1899 v1900 y).2 :=
  fn_fin tok impl_less_hO mixed Try.func107 Try.call107 (by kernel_rfl) (LoopsOk_eq (l := [(0, bodyOf Try.f107 0)]) (by kernel_rfl) ⟨impl_less_l0_ok v1898 v1899 v1900, trivial⟩) (impl_less_den v1898 v1899 v1900) hy hm h0 hA
noncomputable def impl_less_F : DFn := fun args L =>
  match args with
  | [a1, .flt .f32 v1899, a2] =>
    optT (ownF32 L a1) fun qv1898 =>
    optT (rowF32 L a2) fun v1900 =>
    (match sepB [qv1898.1] [a2] with
    | true =>
    .call (impl_less_g qv1898.2 v1899 v1900) fun y => .grd (decide (y.length = qv1898.2.length)) (.leaf (.tup [], setRows L ([qv1898.1].zip [.f32 y])))
    | false => .fail)
  | _ => .fail
theorem impl_less_Fok : COk Try.prog 107 impl_less_F false := by
  intro F L H args r L' hs ha hr
  unfold impl_less_F at hr
  split at hr
  · rename_i a1 v1899 a2
    obtain ⟨⟨jv1898, v1898⟩, hqv1898, hr⟩ := optT_run hr
    simp only at hr
    obtain ⟨v1900, hv1900, hr⟩ := optT_run hr
    split at hr
    · rename_i hsep
      obtain ⟨hnd, hsepv⟩ := sepB_spec hsep
      simp only [Tree.run] at hr
      obtain ⟨y, hy, hr⟩ := Option.bind_eq_some_iff.1 hr
      try simp only [Tree.run] at hr
      obtain ⟨hl0, hr⟩ := ite_run hr
      simp only [Option.some.injEq, Prod.mk.injEq] at hr
      obtain ⟨rfl, rfl⟩ := hr
      obtain ⟨hr0, hu0, ha0, hb0⟩ := (ownR_spec (DVs.okAt ha 0 rfl) (ownF32_or hqv1898))
      exact mut_ok hs (fun k => (([a1.av F, a2.av F] : List AV)[k]?).getD .top) [a1, .flt .f32 v1899, a2] [.own 0 0 v1898.length, .flt .f32 v1899, .bslc (BR.root 1) (.f32 v1900)] [jv1898] [.f32 v1898] [.f32 y] hnd rfl rfl (fun i j q h1 h2 => by
          rcases i with _ | i
          · simp at h1 h2; subst h1; subst h2; exact hr0
          · simp at h1) (fun i q q' h1 h2 => by
          rcases i with _ | i
          · simp at h1 h2; subst h1; subst h2; exact of_decide_eq_true hl0
          · simp at h1) (fun j hj => by simp at hj; subst hj; simp [DVs.refs, DV.refs, hu0]) (fun F' h0 hi hρ hst hS => ⟨by (have ab0 : F'.abs 0 = F.abs jv1898 := (by simp [Fr.abs, hi]); simp [DVs.av, DV.av, BR.av, hρ, Row.len, ha0, ab0]), by
          obtain ⟨H1, k1, k2, _⟩ := impl_less_fn v1898 v1899 v1900 F' (by rw [hi]; rfl) hst ⟨⟨_, rfl, Nat.le_refl _, Nat.le_refl _, fun _ => rfl, (ownR_spec (DVs.okAt ha 0 rfl) (ownF32_or hqv1898)).2.2.2⟩, trivial, bslcM hS (by rw [hρ]; rfl) (hsepv a2 (by simp)) (DVs.okAt ha 2 rfl) (rowF32_or hv1900), trivial⟩ hy
          exact ⟨H1, k1, k2⟩⟩) (fun F' => rfl) (fun L' => trivial)
    · cases hr
  · cases hr
/-! impl.RootNumber -/
noncomputable def impl_RootNumber_LO (v2050 : Nat) : LOr := fun id e L =>
  match id with
  | _ => .fail
noncomputable def impl_RootNumber_tab : List (FuncId × DFn × Bool) := [(157, math_Sqrt_F, true)]
theorem impl_RootNumber_hO : OrcOk Try.prog (tabD impl_RootNumber_tab) (tabM impl_RootNumber_tab) := tabD_cons math_Sqrt_Fok (tabD_nil _)
noncomputable def impl_RootNumber_T (v2050 : Nat) : Tree (Nat) :=
  (.call (fconv .f64 (math_Sqrt_v (wid v2050)) .f32) fun v2051 =>
  .leaf v2051)

noncomputable def impl_RootNumber_g (v2050 : Nat) : Option (Nat) := (impl_RootNumber_T v2050).run
def impl_RootNumber_enc (v2050 : Nat) (y : Nat) : Rs := (.flt .f32 y, [])
theorem impl_RootNumber_den (v2050 : Nat) : (den TT (tabD impl_RootNumber_tab) (tabM impl_RootNumber_tab) (impl_RootNumber_LO v2050) (codeOf Try.f114) ([.flt .f32 v2050] ++ List.replicate (Try.f114.ntmps - ([.flt .f32 v2050] : List DV).length) .undef) []).bind (retD TT Try.f114.results.toList 0) = (impl_RootNumber_T v2050).bind fun y => .leaf (impl_RootNumber_enc v2050 y) := by kernel_rfl
theorem impl_RootNumber_fn (v2050 : Nat) (F : Fr) (hm : F.ids.length = 0) (h0 : St F [] F.H0) (hA : DVs.Ok F [] [.flt .f32 v2050]) {y : Nat} (hy : impl_RootNumber_g v2050 = some y) : ∃ H', FnOk Try.prog 114 (DVs.av F [.flt .f32 v2050]) F.H0 ((impl_RootNumber_enc v2050 y).1.av F) H' ∧ St F (impl_RootNumber_enc v2050 y).2 H' ∧ (impl_RootNumber_enc v2050 y).1.Ok F (impl_RootNumber_enc v2050 y).2 :=
  fn_fin tok impl_RootNumber_hO mixed Try.func114 Try.call114 (by kernel_rfl) (LoopsOk_eq (l := []) (by kernel_rfl) trivial) (impl_RootNumber_den v2050) hy hm h0 hA
noncomputable def impl_RootNumber_F : DFn := fun args L =>
  match args with
  | [.flt .f32 v2050] =>
    .call (impl_RootNumber_g v2050) fun y => .leaf (.flt .f32 y, L)
  | _ => .fail
theorem impl_RootNumber_Fok : COk Try.prog 114 impl_RootNumber_F true := by
  intro F L H args r L' hs ha hr
  unfold impl_RootNumber_F at hr
  split at hr
  · rename_i v2050
    simp only [Tree.run] at hr
    obtain ⟨y, hy, hr⟩ := Option.bind_eq_some_iff.1 hr
    simp only [Tree.run, Option.some.injEq, Prod.mk.injEq] at hr
    obtain ⟨rfl, rfl⟩ := hr
    exact call_ok0 hs (fun k => (([] : List AV)[k]?).getD .top) [.flt .f32 v2050] [.flt .f32 v2050] (fun F' h0 hi hρ => ⟨by simp [DVs.av, DV.av, BR.av, hρ], impl_RootNumber_fn v2050 F' (by rw [hi]; rfl) (st_nil hi) ⟨trivial, trivial⟩ hy⟩) rfl
  · cases hr
/-! impl.norm -/
noncomputable def impl_norm_LO (v2048 : List Nat) : LOr := fun id e L =>
  match id with
  | _ => .fail
noncomputable def impl_norm_tab : List (FuncId × DFn × Bool) := [(82, impl_dot_F, true), (114, impl_RootNumber_F, true)]
theorem impl_norm_hO : OrcOk Try.prog (tabD impl_norm_tab) (tabM impl_norm_tab) := tabD_cons impl_dot_Fok (tabD_cons impl_RootNumber_Fok (tabD_nil _))
noncomputable def impl_norm_T (v2048 : List Nat) : Tree (Nat) :=
  (.call (impl_dot_g v2048 v2048) fun v2049 =>
  (.call (impl_RootNumber_g v2049) fun v2052 =>
  .leaf v2052))

noncomputable def impl_norm_g (v2048 : List Nat) : Option (Nat) := (impl_norm_T v2048).run
def impl_norm_enc (v2048 : List Nat) (y : Nat) : Rs := (.flt .f32 y, [])
theorem impl_norm_den (v2048 : List Nat) : (den TT (tabD impl_norm_tab) (tabM impl_norm_tab) (impl_norm_LO v2048) (codeOf Try.f118) ([.bslc (BR.root 0) (.f32 v2048)] ++ List.replicate (Try.f118.ntmps - ([.bslc (BR.root 0) (.f32 v2048)] : List DV).length) .undef) []).bind (retD TT Try.f118.results.toList 0) = (impl_norm_T v2048).bind fun y => .leaf (impl_norm_enc v2048 y) := by kernel_rfl
theorem impl_norm_fn (v2048 : List Nat) (F : Fr) (hm : F.ids.length = 0) (h0 : St F [] F.H0) (hA : DVs.Ok F [] [.bslc (BR.root 0) (.f32 v2048)]) {y : Nat} (hy : impl_norm_g v2048 = some y) : ∃ H', FnOk Try.prog 118 (DVs.av F [.bslc (BR.root 0) (.f32 v2048)]) F.H0 ((impl_norm_enc v2048 y).1.av F) H' ∧ St F (impl_norm_enc v2048 y).2 H' ∧ (impl_norm_enc v2048 y).1.Ok F (impl_norm_enc v2048 y).2 :=
  fn_fin tok impl_norm_hO mixed Try.func118 Try.call118 (by kernel_rfl) (LoopsOk_eq (l := []) (by kernel_rfl) trivial) (impl_norm_den v2048) hy hm h0 hA
noncomputable def impl_norm_F : DFn := fun args L =>
  match args with
  | [a1] =>
    optT (rowF32 L a1) fun v2048 =>
    .call (impl_norm_g v2048) fun y => .leaf (.flt .f32 y, L)
  | _ => .fail
theorem impl_norm_Fok : COk Try.prog 118 impl_norm_F true := by
  intro F L H args r L' hs ha hr
  unfold impl_norm_F at hr
  split at hr
  · rename_i a1
    obtain ⟨v2048, hv2048, hr⟩ := optT_run hr
    simp only [Tree.run] at hr
    obtain ⟨y, hy, hr⟩ := Option.bind_eq_some_iff.1 hr
    simp only [Tree.run, Option.some.injEq, Prod.mk.injEq] at hr
    obtain ⟨rfl, rfl⟩ := hr
    exact call_ok0 hs (fun k => (([a1.av F] : List AV)[k]?).getD .top) [a1] [.bslc (BR.root 0) (.f32 v2048)] (fun F' h0 hi hρ => ⟨by simp [DVs.av, DV.av, BR.av, hρ], impl_norm_fn v2048 F' (by rw [hi]; rfl) (st_nil hi) ⟨bslc_ok hi (by rw [h0, hρ]; exact rowF32_ok hs (DVs.okAt ha 0 rfl) hv2048), trivial⟩ hy⟩) rfl
  · cases hr
/-! (impl.Matrix).setColumn -/
noncomputable def impl_Matrix_setColumn_l0_T (v2092 : Int) (v2093 : Int) (v2095 : Int) (v2096 : List Nat) (s : Int × (List Nat)) : Tree ((Int × (List Nat)) ⊕ ((List Nat))) :=
  (.br (decide (s.1 < v2092)) (
   (.grd (inb s.1 v2096.length) <|
   (.call (impl_Matrix_set_g v2093 s.2 s.1 v2095) fun v2104 =>
   (.grd (decide ((List.set s.2 (Int.toNat (IntKind.i64.wrap ((IntKind.i64.wrap (s.1 * v2093)) + v2095))) (nth v2096 (Int.toNat s.1))).length = s.2.length)) <|
   .leaf (.inl (IntKind.i64.wrap (s.1 + (1 : Int)), List.set s.2 (Int.toNat (IntKind.i64.wrap ((IntKind.i64.wrap (s.1 * v2093)) + v2095))) (nth v2096 (Int.toNat s.1)))))))
  ) (
   .leaf (.inr s.2)
  ))

noncomputable def impl_Matrix_setColumn_l0_g (v2092 : Int) (v2093 : Int) (v2095 : Int) (v2096 : List Nat) (s0 : Int × (List Nat)) : Option ((List Nat)) := whileM (fun s => (impl_Matrix_setColumn_l0_T v2092 v2093 v2095 v2096 s).run) s0
def impl_Matrix_setColumn_l0_E (v2092 : Int) (v2093 : Int) (v2094 : List Nat) (v2095 : Int) (v2096 : List Nat) (s : Int × (List Nat)) : Sd := ([.top, .int .i64 v2095, .bslc (BR.root 1) (.f32 v2096), .ptr 1 (0 : Nat) 0 (3 : Nat), .top, .top, .top, .top, .int .i64 v2092, .int .i64 s.1, .top, .top, .top, .top, .top, .top, .top, .top, .top, .top, .top], [.row (.f32 s.2) 0, .gen [.int .i64 v2092, .int .i64 v2093, .own 0 0 ((s.2).length)] false 0])
def impl_Matrix_setColumn_l0_X (v2092 : Int) (v2093 : Int) (v2094 : List Nat) (v2095 : Int) (v2096 : List Nat) (x : (List Nat)) : Out := (.normal, [.top, .top, .top, .top, .top, .top, .top, .top, .top, .top, .top, .top, .top, .top, .top, .top, .top, .top, .top, .top, .top], [.row (.f32 x) 0])
def impl_Matrix_setColumn_l0_kill : List Nat := [1, 0, 0, 0, 1, 1, 1, 1, 0, 0, 1, 1, 1, 1, 1, 1, 1, 1, 1, 1, 1]
def impl_Matrix_setColumn_l0_nx : Exit → List Nat
  | .exit 0 => [1, 1, 1, 1, 1, 1, 1, 1, 1, 1, 1, 1, 1, 1, 1, 1, 1, 1, 1, 1, 1]
  | .ret => [1, 1, 1, 1, 1, 1, 1, 1, 1, 1, 1, 1, 1, 1, 1, 1, 1, 1, 1, 1, 1]
  | _ => []
noncomputable def impl_Matrix_setColumn_LO (v2092 : Int) (v2093 : Int) (v2094 : List Nat) (v2095 : Int) (v2096 : List Nat) : LOr := fun id e L =>
  match id with
  | 0 => .need (normA 1 impl_Matrix_setColumn_l0_kill e L = some (impl_Matrix_setColumn_l0_E v2092 v2093 v2094 v2095 v2096 ((gI (vAt e 9)), (gRF L (cAt L (vAt e 3) 2))))) (.call (impl_Matrix_setColumn_l0_g v2092 v2093 v2095 v2096 ((gI (vAt e 9)), (gRF L (cAt L (vAt e 3) 2)))) fun x => .leaf (impl_Matrix_setColumn_l0_X v2092 v2093 v2094 v2095 v2096 x))
  | _ => .fail
noncomputable def impl_Matrix_setColumn_tab : List (FuncId × DFn × Bool) := [(66, impl_Matrix_set_F, false)]
theorem impl_Matrix_setColumn_hO : OrcOk Try.prog (tabD impl_Matrix_setColumn_tab) (tabM impl_Matrix_setColumn_tab) := tabD_cons impl_Matrix_set_Fok (tabD_nil _)
theorem impl_Matrix_setColumn_l0_be (v2092 : Int) (v2093 : Int) (v2094 : List Nat) (v2095 : Int) (v2096 : List Nat) (s : Int × (List Nat)) : bodyT TT (tabD impl_Matrix_setColumn_tab) (tabM impl_Matrix_setColumn_tab) (impl_Matrix_setColumn_LO v2092 v2093 v2094 v2095 v2096) 1 impl_Matrix_setColumn_l0_kill impl_Matrix_setColumn_l0_nx (bodyOf Try.f119 0) 0 (impl_Matrix_setColumn_l0_E v2092 v2093 v2094 v2095 v2096 s) = (impl_Matrix_setColumn_l0_T v2092 v2093 v2095 v2096 s).bind fun y => .leaf (outS (impl_Matrix_setColumn_l0_E v2092 v2093 v2094 v2095 v2096) (impl_Matrix_setColumn_l0_X v2092 v2093 v2094 v2095 v2096) y) := by kernel_rfl
theorem impl_Matrix_setColumn_l0_ok (v2092 : Int) (v2093 : Int) (v2094 : List Nat) (v2095 : Int) (v2096 : List Nat) : LSound Try.prog 1 (impl_Matrix_setColumn_LO v2092 v2093 v2094 v2095 v2096) 0 (bodyOf Try.f119 0) := by
  intro e L out h
  exact lo_ok (E := impl_Matrix_setColumn_l0_E v2092 v2093 v2094 v2095 v2096) (gT := impl_Matrix_setColumn_l0_T v2092 v2093 v2095 v2096) (X := impl_Matrix_setColumn_l0_X v2092 v2093 v2094 v2095 v2096) (s0 := ((gI (vAt e 9)), (gRF L (cAt L (vAt e 3) 2)))) tok impl_Matrix_setColumn_hO mixed (LoopsOk_eq (l := []) (by kernel_rfl) trivial) (impl_Matrix_setColumn_l0_be v2092 v2093 v2094 v2095 v2096) rfl (by intro x; rfl) h
noncomputable def impl_Matrix_setColumn_T (v2092 : Int) (v2093 : Int) (v2094 : List Nat) (v2095 : Int) (v2096 : List Nat) : Tree ((List Nat)) :=
  (.need (some (impl_Matrix_setColumn_l0_E v2092 v2093 v2094 v2095 v2096 ((0 : Int), v2094)) = some (impl_Matrix_setColumn_l0_E v2092 v2093 v2094 v2095 v2096 ((0 : Int), v2094))) <|
  (.call (impl_Matrix_setColumn_l0_g v2092 v2093 v2095 v2096 ((0 : Int), v2094)) fun v2105 =>
  .leaf v2105))

noncomputable def impl_Matrix_setColumn_g (v2092 : Int) (v2093 : Int) (v2094 : List Nat) (v2095 : Int) (v2096 : List Nat) : Option ((List Nat)) := (impl_Matrix_setColumn_T v2092 v2093 v2094 v2095 v2096).run
def impl_Matrix_setColumn_enc (v2092 : Int) (v2093 : Int) (v2094 : List Nat) (v2095 : Int) (v2096 : List Nat) (y : (List Nat)) : Rs := (.tup [], [.row (.f32 y) 0])
theorem impl_Matrix_setColumn_den (v2092 : Int) (v2093 : Int) (v2094 : List Nat) (v2095 : Int) (v2096 : List Nat) : (den TT (tabD impl_Matrix_setColumn_tab) (tabM impl_Matrix_setColumn_tab) (impl_Matrix_setColumn_LO v2092 v2093 v2094 v2095 v2096) (codeOf Try.f119) ([.agg [.int .i64 v2092, .int .i64 v2093, .own 0 0 v2094.length], .int .i64 v2095, .bslc (BR.root 1) (.f32 v2096)] ++ List.replicate (Try.f119.ntmps - ([.agg [.int .i64 v2092, .int .i64 v2093, .own 0 0 v2094.length], .int .i64 v2095, .bslc (BR.root 1) (.f32 v2096)] : List DV).length) .undef) [.row (.f32 v2094) 0]).bind (retD TT Try.f119.results.toList 1) = (impl_Matrix_setColumn_T v2092 v2093 v2094 v2095 v2096).bind fun y => .leaf (impl_Matrix_setColumn_enc v2092 v2093 v2094 v2095 v2096 y) := by kernel_rfl
theorem impl_Matrix_setColumn_fn (v2092 : Int) (v2093 : Int) (v2094 : List Nat) (v2095 : Int) (v2096 : List Nat) (F : Fr) (hm : F.ids.length = 1) (h0 : St F [.row (.f32 v2094) 0] F.H0) (hA : DVs.Ok F [.row (.f32 v2094) 0] [.agg [.int .i64 v2092, .int .i64 v2093, .own 0 0 v2094.length], .int .i64 v2095, .bslc (BR.root 1) (.f32 v2096)]) {y : (List Nat)} (hy : impl_Matrix_setColumn_g v2092 v2093 v2094 v2095 v2096 = some y) : ∃ H', FnOk Try.prog 119 (DVs.av F [.agg [.int .i64 v2092, .int .i64 v2093, .own 0 0 v2094.length], .int .i64 v2095, .bslc (BR.root 1) (.f32 v2096)]) F.H0 ((impl_Matrix_setColumn_enc v2092 v2093 v2094 v2095 v2096 y).1.av F) H' ∧ St F (impl_Matrix_setColumn_enc v2092 v2093 v2094 v2095 v2096 y).2 H' ∧ (impl_Matrix_setColumn_enc v2092 v2093 v2094 v2095 v2096 y).1.Ok F (impl_Matrix_setColumn_enc v2092 v2093 v2094 v2095 v2096 y).2 :=
  fn_fin tok impl_Matrix_setColumn_hO mixed Try.func119 Try.call119 (by kernel_rfl) (LoopsOk_eq (l := [(0, bodyOf Try.f119 0)]) (by kernel_rfl) ⟨impl_Matrix_setColumn_l0_ok v2092 v2093 v2094 v2095 v2096, trivial⟩) (impl_Matrix_setColumn_den v2092 v2093 v2094 v2095 v2096) hy hm h0 hA
noncomputable def impl_Matrix_setColumn_F : DFn := fun args L =>
  match args with
  | [.agg [.int .i64 v2092, .int .i64 v2093, a1], .int .i64 v2095, a2] =>
    optT (ownF32 L a1) fun qv2094 =>
    optT (rowF32 L a2) fun v2096 =>
    (match sepB [qv2094.1] [a2] with
    | true =>
    .call (impl_Matrix_setColumn_g v2092 v2093 qv2094.2 v2095 v2096) fun y => .grd (decide (y.length = qv2094.2.length)) (.leaf (.tup [], setRows L ([qv2094.1].zip [.f32 y])))
    | false => .fail)
  | _ => .fail
theorem impl_Matrix_setColumn_Fok : COk Try.prog 119 impl_Matrix_setColumn_F false := by
  intro F L H args r L' hs ha hr
  unfold impl_Matrix_setColumn_F at hr
  split at hr
  · rename_i v2092 v2093 a1 v2095 a2
    obtain ⟨⟨jv2094, v2094⟩, hqv2094, hr⟩ := optT_run hr
    simp only at hr
    obtain ⟨v2096, hv2096, hr⟩ := optT_run hr
    split at hr
    · rename_i hsep
      obtain ⟨hnd, hsepv⟩ := sepB_spec hsep
      simp only [Tree.run] at hr
      obtain ⟨y, hy, hr⟩ := Option.bind_eq_some_iff.1 hr
      try simp only [Tree.run] at hr
      obtain ⟨hl0, hr⟩ := ite_run hr
      simp only [Option.some.injEq, Prod.mk.injEq] at hr
      obtain ⟨rfl, rfl⟩ := hr
      obtain ⟨hr0, hu0, ha0, hb0⟩ := (ownR_spec (DVs.okAt (DVs.okAt ha 0 rfl) 2 rfl) (ownF32_or hqv2094))
      exact mut_ok hs (fun k => (([a1.av F, a2.av F] : List AV)[k]?).getD .top) [.agg [.int .i64 v2092, .int .i64 v2093, a1], .int .i64 v2095, a2] [.agg [.int .i64 v2092, .int .i64 v2093, .own 0 0 v2094.length], .int .i64 v2095, .bslc (BR.root 1) (.f32 v2096)] [jv2094] [.f32 v2094] [.f32 y] hnd rfl rfl (fun i j q h1 h2 => by
          rcases i with _ | i
          · simp at h1 h2; subst h1; subst h2; exact hr0
          · simp at h1) (fun i q q' h1 h2 => by
          rcases i with _ | i
          · simp at h1 h2; subst h1; subst h2; exact of_decide_eq_true hl0
          · simp at h1) (fun j hj => by simp at hj; subst hj; simp [DVs.refs, DV.refs, hu0]) (fun F' h0 hi hρ hst hS => ⟨by (have ab0 : F'.abs 0 = F.abs jv2094 := (by simp [Fr.abs, hi]); simp [DVs.av, DV.av, BR.av, hρ, Row.len, ha0, ab0]), by
          obtain ⟨H1, k1, k2, _⟩ := impl_Matrix_setColumn_fn v2092 v2093 v2094 v2095 v2096 F' (by rw [hi]; rfl) hst ⟨⟨trivial, trivial, ⟨_, rfl, Nat.le_refl _, Nat.le_refl _, fun _ => rfl, (ownR_spec (DVs.okAt (DVs.okAt ha 0 rfl) 2 rfl) (ownF32_or hqv2094)).2.2.2⟩, trivial⟩, trivial, bslcM hS (by rw [hρ]; rfl) (hsepv a2 (by simp)) (DVs.okAt ha 2 rfl) (rowF32_or hv2096), trivial⟩ hy
          exact ⟨H1, k1, k2⟩⟩) (fun F' => rfl) (fun L' => trivial)
    · cases hr
  · cases hr
/-! impl.MirrorFactor -/
noncomputable def impl_MirrorFactor_l4_T (v2492 : Int) (v2493 : Int) (v2495 : Int) (v2496 : Int) (v2497 : Int) (v2498 : Int) (v2500 : List Nat) (s : Int × (List Nat) × (List Nat)) : Tree ((Int × (List Nat) × (List Nat)) ⊕ ((List Nat) × (List Nat))) :=
  (.br (decide (s.1 < v2492)) (
   (.call (impl_Matrix_column_g v2495 v2496 v2500 s.1) fun v2502 =>
   (.call (impl_dot_g v2502 s.2.1) fun v2503 =>
   (.call (impl_Matrix_at_g v2498 s.2.2 s.1 v2492) fun v2504 =>
   (.call (impl_Matrix_set_g v2498 s.2.2 s.1 v2492) fun v2505 =>
   (.grd (decide ((List.set s.2.2 (Int.toNat (IntKind.i64.wrap ((IntKind.i64.wrap (s.1 * v2498)) + v2492))) (fadd .f32 v2504 v2503)).length = s.2.2.length)) <|
   (.call (impl_Matrix_column_g v2495 v2496 v2500 s.1) fun v2506 =>
   (.call (impl_less_g s.2.1 v2503 v2506) fun v2507 =>
   (.grd (decide (v2507.length = s.2.1.length)) <|
   .leaf (.inl (IntKind.i64.wrap (s.1 + (1 : Int)), v2507, List.set s.2.2 (Int.toNat (IntKind.i64.wrap ((IntKind.i64.wrap (s.1 * v2498)) + v2492))) (fadd .f32 v2504 v2503)))))))))))
  ) (
   .leaf (.inr (s.2.1, s.2.2))
  ))

noncomputable def impl_MirrorFactor_l4_g (v2492 : Int) (v2493 : Int) (v2495 : Int) (v2496 : Int) (v2497 : Int) (v2498 : Int) (v2500 : List Nat) (s0 : Int × (List Nat) × (List Nat)) : Option ((List Nat) × (List Nat)) := whileM (fun s => (impl_MirrorFactor_l4_T v2492 v2493 v2495 v2496 v2497 v2498 v2500 s).run) s0
def impl_MirrorFactor_l4_E (v1789 : Int) (v1790 : Int) (v1791 : List Nat) (v2492 : Int) (v2493 : Int) (v2495 : Int) (v2496 : Int) (v2497 : Int) (v2498 : Int) (v2500 : List Nat) (s : Int × (List Nat) × (List Nat)) : Sd := ([.top, .ptr 0 (0 : Nat) 0 (3 : Nat), .ptr 1 (0 : Nat) 0 (3 : Nat), .ptr 2 (0 : Nat) 0 (3 : Nat), .top, .ptr 3 (0 : Nat) 0 (3 : Nat), .ptr 4 (0 : Nat) 0 (3 : Nat), .int .i64 v2492, .own 5 0 ((s.2.1).length), .top, .top, .top, .top, .top, .top, .top, .top, .top, .top, .top, .top, .top, .top, .top, .top, .top, .top, .top, .top, .int .i64 v1790, .int .i64 v2492, .top, .top, .top, .top, .top, .int .i64 v2493, .top, .int .i64 v2492, .int .i64 s.1, .top, .top, .top, .top, .top, .top, .top, .top, .top, .top, .top, .top, .top, .top, .top, .top, .top, .top, .top, .top, .top, .top, .top, .top, .top, .top, .top, .top, .top, .top, .top, .top, .top, .top, .top, .top, .top, .top, .top, .top, .top, .top, .top, .top, .top, .top, .top, .top, .top, .top, .top, .top, .top, .top, .top, .top, .top, .top, .top, .top, .top, .top, .top, .top, .top, .top, .top], [.gen [.int .i64 v1789, .int .i64 v1790, .bslc (BR.root 0) (.f32 v1791)] false 0, .gen [.int .i64 (0 : Int), .int .i64 (0 : Int), .nilslc] false 0, .gen [.int .i64 (0 : Int), .int .i64 (0 : Int), .nilslc] false 0, .gen [.int .i64 v2495, .int .i64 v2496, .own 6 0 ((v2500).length)] false 0, .gen [.int .i64 v2497, .int .i64 v2498, .own 7 0 ((s.2.2).length)] false 0, .row (.f32 s.2.1) 0, .row (.f32 v2500) 0, .row (.f32 s.2.2) 0])
def impl_MirrorFactor_l4_X (v1789 : Int) (v1790 : Int) (v1791 : List Nat) (v2492 : Int) (v2493 : Int) (v2495 : Int) (v2496 : Int) (v2497 : Int) (v2498 : Int) (v2500 : List Nat) (x : (List Nat) × (List Nat)) : Out := (.normal, [.top, .ptr 0 (0 : Nat) 0 (3 : Nat), .ptr 1 (0 : Nat) 0 (3 : Nat), .ptr 2 (0 : Nat) 0 (3 : Nat), .top, .ptr 3 (0 : Nat) 0 (3 : Nat), .ptr 4 (0 : Nat) 0 (3 : Nat), .int .i64 v2492, .own 5 0 ((x.1).length), .top, .top, .top, .top, .top, .top, .top, .top, .top, .top, .top, .top, .top, .top, .top, .top, .top, .top, .top, .top, .int .i64 v1790, .int .i64 v2492, .top, .top, .top, .top, .top, .int .i64 v2493, .top, .top, .top, .top, .top, .top, .top, .top, .top, .top, .top, .top, .top, .top, .top, .top, .top, .top, .top, .top, .top, .top, .top, .top, .top, .top, .top, .top, .top, .top, .top, .top, .top, .top, .top, .top, .top, .top, .top, .top, .top, .top, .top, .top, .top, .top, .top, .top, .top, .top, .top, .top, .top, .top, .top, .top, .top, .top, .top, .top, .top, .top, .top, .top, .top, .top, .top, .top, .top, .top], [.gen [.int .i64 v1789, .int .i64 v1790, .bslc (BR.root 0) (.f32 v1791)] false 0, .gen [.int .i64 (0 : Int), .int .i64 (0 : Int), .nilslc] false 0, .gen [.int .i64 (0 : Int), .int .i64 (0 : Int), .nilslc] false 0, .gen [.int .i64 v2495, .int .i64 v2496, .own 6 0 ((v2500).length)] false 0, .gen [.int .i64 v2497, .int .i64 v2498, .own 7 0 ((x.2).length)] false 0, .row (.f32 x.1) 0, .row (.f32 v2500) 0, .row (.f32 x.2) 0])
def impl_MirrorFactor_l4_kill : List Nat := [1, 0, 0, 0, 1, 0, 0, 0, 0, 1, 1, 1, 1, 1, 1, 1, 1, 1, 1, 1, 1, 1, 1, 1, 1, 1, 1, 1, 1, 0, 0, 1, 1, 1, 1, 1, 0, 1, 0, 0, 1, 1, 1, 1, 1, 1, 1, 1, 1, 1, 1, 1, 1, 1, 1, 1, 1, 1, 1, 1, 1, 1, 1, 1, 1, 1, 1, 1, 1, 1, 1, 1, 1, 1, 1, 1, 1, 1, 1, 1, 1, 1, 1, 1, 1, 1, 1, 1, 1, 1, 1, 1, 1, 1, 1, 1, 1, 1, 1, 1, 1, 1, 1, 1, 1, 1, 1]
def impl_MirrorFactor_l4_nx : Exit → List Nat
  | .exit 0 => [1, 1, 0, 0, 1, 0, 0, 1, 1, 1, 1, 1, 1, 1, 1, 1, 1, 1, 1, 1, 1, 1, 1, 1, 1, 1, 1, 1, 1, 1, 1, 1, 1, 1, 1, 1, 1, 1, 1, 1, 1, 1, 1, 1, 1, 1, 1, 1, 1, 1, 1, 1, 1, 1, 1, 1, 1, 1, 1, 1, 1, 1, 1, 1, 1, 1, 1, 1, 1, 1, 1, 1, 1, 1, 1, 1, 1, 1, 1, 1, 1, 1, 1, 1, 1, 1, 1, 1, 1, 1, 1, 1, 1, 1, 1, 1, 1, 1, 1, 1, 1, 1, 1, 1, 1, 1, 1]
  | .exit 1 => [1, 0, 0, 0, 1, 0, 0, 1, 1, 1, 1, 1, 1, 1, 1, 1, 1, 1, 1, 1, 1, 1, 1, 1, 1, 1, 1, 1, 1, 0, 0, 1, 1, 1, 1, 1, 1, 1, 1, 1, 1, 1, 1, 1, 1, 1, 1, 1, 1, 1, 1, 1, 1, 1, 1, 1, 1, 1, 1, 1, 1, 1, 1, 1, 1, 1, 1, 1, 1, 1, 1, 1, 1, 1, 1, 1, 1, 1, 1, 1, 1, 1, 1, 1, 1, 1, 1, 1, 1, 1, 1, 1, 1, 1, 1, 1, 1, 1, 1, 1, 1, 1, 1, 1, 1, 1, 1]
  | .exit 2 => [1, 0, 0, 0, 1, 0, 0, 0, 0, 1, 1, 1, 1, 1, 1, 1, 1, 1, 1, 1, 1, 1, 1, 1, 1, 1, 1, 1, 1, 0, 0, 1, 1, 1, 1, 1, 1, 1, 1, 1, 1, 1, 1, 1, 1, 1, 1, 1, 1, 1, 1, 1, 1, 1, 1, 1, 1, 1, 1, 1, 1, 1, 1, 1, 1, 1, 1, 1, 1, 1, 1, 1, 1, 1, 1, 1, 1, 1, 1, 1, 1, 1, 1, 1, 1, 1, 1, 1, 1, 1, 1, 1, 1, 1, 1, 1, 1, 1, 1, 1, 1, 1, 1, 1, 1, 1, 1]
  | .exit 3 => [1, 0, 0, 0, 1, 0, 0, 0, 0, 1, 1, 1, 1, 1, 1, 1, 1, 1, 1, 1, 1, 1, 1, 1, 1, 1, 1, 1, 1, 0, 0, 1, 1, 1, 1, 1, 0, 1, 1, 1, 1, 1, 1, 1, 1, 1, 1, 1, 1, 1, 1, 1, 1, 1, 1, 1, 1, 1, 1, 1, 1, 1, 1, 1, 1, 1, 1, 1, 1, 1, 1, 1, 1, 1, 1, 1, 1, 1, 1, 1, 1, 1, 1, 1, 1, 1, 1, 1, 1, 1, 1, 1, 1, 1, 1, 1, 1, 1, 1, 1, 1, 1, 1, 1, 1, 1, 1]
  | .exit 4 => [1, 0, 0, 0, 1, 0, 0, 0, 0, 1, 1, 1, 1, 1, 1, 1, 1, 1, 1, 1, 1, 1, 1, 1, 1, 1, 1, 1, 1, 0, 0, 1, 1, 1, 1, 1, 0, 1, 1, 1, 1, 1, 1, 1, 1, 1, 1, 1, 1, 1, 1, 1, 1, 1, 1, 1, 1, 1, 1, 1, 1, 1, 1, 1, 1, 1, 1, 1, 1, 1, 1, 1, 1, 1, 1, 1, 1, 1, 1, 1, 1, 1, 1, 1, 1, 1, 1, 1, 1, 1, 1, 1, 1, 1, 1, 1, 1, 1, 1, 1, 1, 1, 1, 1, 1, 1, 1]
  | .ret => [1, 1, 0, 0, 0, 1, 1, 1, 1, 1, 1, 1, 1, 1, 1, 1, 1, 1, 1, 1, 1, 1, 1, 1, 1, 1, 1, 1, 1, 1, 1, 1, 1, 1, 1, 1, 1, 1, 1, 1, 1, 1, 1, 1, 1, 1, 1, 1, 1, 1, 1, 1, 1, 1, 1, 1, 1, 1, 1, 1, 1, 1, 1, 1, 1, 1, 1, 1, 1, 1, 1, 1, 1, 1, 1, 1, 1, 1, 1, 1, 1, 1, 1, 1, 1, 1, 1, 1, 1, 1, 1, 1, 1, 1, 1, 1, 1, 1, 1, 1, 1, 1, 1, 1, 1, 1, 1]
  | _ => []
noncomputable def impl_MirrorFactor_l2_T (v1789 : Int) (v1790 : Int) (v1791 : List Nat) (v2451 : Int) (v2453 : Int) (v2454 : Int) (v2455 : Int) (v2456 : Int) (v2458 : List Nat) (s : Int × (List Nat) × (List Nat)) : Tree ((Int × (List Nat) × (List Nat)) ⊕ ((List Nat) × (List Nat))) :=
  (.br (decide (s.1 < (2 : Int))) (
   (.need (some (impl_MirrorFactor_l4_E v1789 v1790 v1791 v2451 s.1 v2453 v2454 v2455 v2456 v2458 ((0 : Int), s.2.1, s.2.2)) = some (impl_MirrorFactor_l4_E v1789 v1790 v1791 v2451 s.1 v2453 v2454 v2455 v2456 v2458 ((0 : Int), s.2.1, s.2.2))) <|
   (.call (impl_MirrorFactor_l4_g v2451 s.1 v2453 v2454 v2455 v2456 v2458 ((0 : Int), s.2.1, s.2.2)) fun v2508 =>
   .leaf (.inl (IntKind.i64.wrap (s.1 + (1 : Int)), v2508.1, v2508.2))))
  ) (
   .leaf (.inr (s.2.1, s.2.2))
  ))

noncomputable def impl_MirrorFactor_l2_g (v1789 : Int) (v1790 : Int) (v1791 : List Nat) (v2451 : Int) (v2453 : Int) (v2454 : Int) (v2455 : Int) (v2456 : Int) (v2458 : List Nat) (s0 : Int × (List Nat) × (List Nat)) : Option ((List Nat) × (List Nat)) := whileM (fun s => (impl_MirrorFactor_l2_T v1789 v1790 v1791 v2451 v2453 v2454 v2455 v2456 v2458 s).run) s0
def impl_MirrorFactor_l2_E (v1789 : Int) (v1790 : Int) (v1791 : List Nat) (v2451 : Int) (v2453 : Int) (v2454 : Int) (v2455 : Int) (v2456 : Int) (v2458 : List Nat) (s : Int × (List Nat) × (List Nat)) : Sd := ([.top, .ptr 0 (0 : Nat) 0 (3 : Nat), .ptr 1 (0 : Nat) 0 (3 : Nat), .ptr 2 (0 : Nat) 0 (3 : Nat), .top, .ptr 3 (0 : Nat) 0 (3 : Nat), .ptr 4 (0 : Nat) 0 (3 : Nat), .int .i64 v2451, .own 5 0 ((s.2.1).length), .top, .top, .top, .top, .top, .top, .top, .top, .top, .top, .top, .top, .top, .top, .top, .top, .top, .top, .top, .top, .int .i64 v1790, .int .i64 v2451, .top, .top, .top, .top, .top, .int .i64 s.1, .top, .top, .top, .top, .top, .top, .top, .top, .top, .top, .top, .top, .top, .top, .top, .top, .top, .top, .top, .top, .top, .top, .top, .top, .top, .top, .top, .top, .top, .top, .top, .top, .top, .top, .top, .top, .top, .top, .top, .top, .top, .top, .top, .top, .top, .top, .top, .top, .top, .top, .top, .top, .top, .top, .top, .top, .top, .top, .top, .top, .top, .top, .top, .top, .top, .top, .top, .top, .top, .top], [.gen [.int .i64 v1789, .int .i64 v1790, .bslc (BR.root 0) (.f32 v1791)] false 0, .gen [.int .i64 (0 : Int), .int .i64 (0 : Int), .nilslc] false 0, .gen [.int .i64 (0 : Int), .int .i64 (0 : Int), .nilslc] false 0, .gen [.int .i64 v2453, .int .i64 v2454, .own 6 0 ((v2458).length)] false 0, .gen [.int .i64 v2455, .int .i64 v2456, .own 7 0 ((s.2.2).length)] false 0, .row (.f32 s.2.1) 0, .row (.f32 v2458) 0, .row (.f32 s.2.2) 0])
def impl_MirrorFactor_l2_X (v1789 : Int) (v1790 : Int) (v1791 : List Nat) (v2451 : Int) (v2453 : Int) (v2454 : Int) (v2455 : Int) (v2456 : Int) (v2458 : List Nat) (x : (List Nat) × (List Nat)) : Out := (.normal, [.top, .ptr 0 (0 : Nat) 0 (3 : Nat), .ptr 1 (0 : Nat) 0 (3 : Nat), .ptr 2 (0 : Nat) 0 (3 : Nat), .top, .ptr 3 (0 : Nat) 0 (3 : Nat), .ptr 4 (0 : Nat) 0 (3 : Nat), .int .i64 v2451, .own 5 0 ((x.1).length), .top, .top, .top, .top, .top, .top, .top, .top, .top, .top, .top, .top, .top, .top, .top, .top, .top, .top, .top, .top, .int .i64 v1790, .int .i64 v2451, .top, .top, .top, .top, .top, .top, .top, .top, .top, .top, .top, .top, .top, .top, .top, .top, .top, .top, .top, .top, .top, .top, .top, .top, .top, .top, .top, .top, .top, .top, .top, .top, .top, .top, .top, .top, .top, .top, .top, .top, .top, .top, .top, .top, .top, .top, .top, .top, .top, .top, .top, .top, .top, .top, .top, .top, .top, .top, .top, .top, .top, .top, .top, .top, .top, .top, .top, .top, .top, .top, .top, .top, .top, .top, .top, .top], [.gen [.int .i64 v1789, .int .i64 v1790, .bslc (BR.root 0) (.f32 v1791)] false 0, .gen [.int .i64 (0 : Int), .int .i64 (0 : Int), .nilslc] false 0, .gen [.int .i64 (0 : Int), .int .i64 (0 : Int), .nilslc] false 0, .gen [.int .i64 v2453, .int .i64 v2454, .own 6 0 ((v2458).length)] false 0, .gen [.int .i64 v2455, .int .i64 v2456, .own 7 0 ((x.2).length)] false 0, .row (.f32 x.1) 0, .row (.f32 v2458) 0, .row (.f32 x.2) 0])
def impl_MirrorFactor_l2_kill : List Nat := [1, 0, 0, 0, 1, 0, 0, 0, 0, 1, 1, 1, 1, 1, 1, 1, 1, 1, 1, 1, 1, 1, 1, 1, 1, 1, 1, 1, 1, 0, 0, 1, 1, 1, 1, 1, 0, 1, 1, 1, 1, 1, 1, 1, 1, 1, 1, 1, 1, 1, 1, 1, 1, 1, 1, 1, 1, 1, 1, 1, 1, 1, 1, 1, 1, 1, 1, 1, 1, 1, 1, 1, 1, 1, 1, 1, 1, 1, 1, 1, 1, 1, 1, 1, 1, 1, 1, 1, 1, 1, 1, 1, 1, 1, 1, 1, 1, 1, 1, 1, 1, 1, 1, 1, 1, 1, 1]
def impl_MirrorFactor_l2_nx : Exit → List Nat
  | .exit 0 => [1, 1, 0, 0, 1, 0, 0, 1, 1, 1, 1, 1, 1, 1, 1, 1, 1, 1, 1, 1, 1, 1, 1, 1, 1, 1, 1, 1, 1, 1, 1, 1, 1, 1, 1, 1, 1, 1, 1, 1, 1, 1, 1, 1, 1, 1, 1, 1, 1, 1, 1, 1, 1, 1, 1, 1, 1, 1, 1, 1, 1, 1, 1, 1, 1, 1, 1, 1, 1, 1, 1, 1, 1, 1, 1, 1, 1, 1, 1, 1, 1, 1, 1, 1, 1, 1, 1, 1, 1, 1, 1, 1, 1, 1, 1, 1, 1, 1, 1, 1, 1, 1, 1, 1, 1, 1, 1]
  | .exit 1 => [1, 0, 0, 0, 1, 0, 0, 1, 1, 1, 1, 1, 1, 1, 1, 1, 1, 1, 1, 1, 1, 1, 1, 1, 1, 1, 1, 1, 1, 0, 0, 1, 1, 1, 1, 1, 1, 1, 1, 1, 1, 1, 1, 1, 1, 1, 1, 1, 1, 1, 1, 1, 1, 1, 1, 1, 1, 1, 1, 1, 1, 1, 1, 1, 1, 1, 1, 1, 1, 1, 1, 1, 1, 1, 1, 1, 1, 1, 1, 1, 1, 1, 1, 1, 1, 1, 1, 1, 1, 1, 1, 1, 1, 1, 1, 1, 1, 1, 1, 1, 1, 1, 1, 1, 1, 1, 1]
  | .exit 2 => [1, 0, 0, 0, 1, 0, 0, 0, 0, 1, 1, 1, 1, 1, 1, 1, 1, 1, 1, 1, 1, 1, 1, 1, 1, 1, 1, 1, 1, 0, 0, 1, 1, 1, 1, 1, 1, 1, 1, 1, 1, 1, 1, 1, 1, 1, 1, 1, 1, 1, 1, 1, 1, 1, 1, 1, 1, 1, 1, 1, 1, 1, 1, 1, 1, 1, 1, 1, 1, 1, 1, 1, 1, 1, 1, 1, 1, 1, 1, 1, 1, 1, 1, 1, 1, 1, 1, 1, 1, 1, 1, 1, 1, 1, 1, 1, 1, 1, 1, 1, 1, 1, 1, 1, 1, 1, 1]
  | .ret => [1, 1, 0, 0, 0, 1, 1, 1, 1, 1, 1, 1, 1, 1, 1, 1, 1, 1, 1, 1, 1, 1, 1, 1, 1, 1, 1, 1, 1, 1, 1, 1, 1, 1, 1, 1, 1, 1, 1, 1, 1, 1, 1, 1, 1, 1, 1, 1, 1, 1, 1, 1, 1, 1, 1, 1, 1, 1, 1, 1, 1, 1, 1, 1, 1, 1, 1, 1, 1, 1, 1, 1, 1, 1, 1, 1, 1, 1, 1, 1, 1, 1, 1, 1, 1, 1, 1, 1, 1, 1, 1, 1, 1, 1, 1, 1, 1, 1, 1, 1, 1, 1, 1, 1, 1, 1, 1]
  | _ => []
noncomputable def impl_MirrorFactor_l6_T (v2534 : Int) (v2535 : Nat) (v2536 : Int) (v2538 : Int) (v2539 : Int) (v2540 : Int) (v2541 : Int) (v2543 : List Nat) (v2544 : List Nat) (s : Int × (List Nat)) : Tree ((Int × (List Nat)) ⊕ ((List Nat))) :=
  (.br (decide (s.1 < v2536)) (
   (.grd (inb s.1 ((s.2).length)) <|
   (.grd (inb s.1 ((s.2).length)) <|
   .leaf (.inl (IntKind.i64.wrap (s.1 + (1 : Int)), List.set s.2 (Int.toNat s.1) (fdiv .f32 (nth s.2 (Int.toNat s.1)) v2535)))))
  ) (
   .leaf (.inr s.2)
  ))

noncomputable def impl_MirrorFactor_l6_g (v2534 : Int) (v2535 : Nat) (v2536 : Int) (v2538 : Int) (v2539 : Int) (v2540 : Int) (v2541 : Int) (v2543 : List Nat) (v2544 : List Nat) (s0 : Int × (List Nat)) : Option ((List Nat)) := whileM (fun s => (impl_MirrorFactor_l6_T v2534 v2535 v2536 v2538 v2539 v2540 v2541 v2543 v2544 s).run) s0
def impl_MirrorFactor_l6_E (v1789 : Int) (v1790 : Int) (v1791 : List Nat) (v2534 : Int) (v2535 : Nat) (v2536 : Int) (v2538 : Int) (v2539 : Int) (v2540 : Int) (v2541 : Int) (v2543 : List Nat) (v2544 : List Nat) (s : Int × (List Nat)) : Sd := ([.top, .ptr 0 (0 : Nat) 0 (3 : Nat), .ptr 1 (0 : Nat) 0 (3 : Nat), .ptr 2 (0 : Nat) 0 (3 : Nat), .top, .ptr 3 (0 : Nat) 0 (3 : Nat), .ptr 4 (0 : Nat) 0 (3 : Nat), .int .i64 v2534, .own 5 0 ((s.2).length), .top, .top, .flt .f32 v2535, .top, .top, .top, .top, .top, .top, .top, .top, .top, .top, .top, .top, .top, .top, .top, .top, .top, .int .i64 v1790, .int .i64 v2534, .top, .top, .top, .top, .top, .top, .top, .top, .top, .top, .top, .top, .top, .top, .top, .top, .top, .top, .top, .top, .top, .top, .top, .top, .top, .top, .top, .top, .top, .top, .top, .top, .top, .top, .top, .top, .top, .top, .top, .top, .top, .top, .top, .top, .top, .top, .top, .int .i64 v2536, .int .i64 s.1, .top, .top, .top, .top, .top, .top, .top, .top, .top, .top, .top, .top, .top, .top, .top, .top, .top, .top, .top, .top, .top, .top, .top, .top, .top, .top, .top], [.gen [.int .i64 v1789, .int .i64 v1790, .bslc (BR.root 0) (.f32 v1791)] false 0, .gen [.int .i64 (0 : Int), .int .i64 (0 : Int), .nilslc] false 0, .gen [.int .i64 (0 : Int), .int .i64 (0 : Int), .nilslc] false 0, .gen [.int .i64 v2538, .int .i64 v2539, .own 6 0 ((v2543).length)] false 0, .gen [.int .i64 v2540, .int .i64 v2541, .own 7 0 ((v2544).length)] false 0, .row (.f32 s.2) 0, .row (.f32 v2543) 0, .row (.f32 v2544) 0])
def impl_MirrorFactor_l6_X (v1789 : Int) (v1790 : Int) (v1791 : List Nat) (v2534 : Int) (v2535 : Nat) (v2536 : Int) (v2538 : Int) (v2539 : Int) (v2540 : Int) (v2541 : Int) (v2543 : List Nat) (v2544 : List Nat) (x : (List Nat)) : Out := (.normal, [.top, .ptr 0 (0 : Nat) 0 (3 : Nat), .ptr 1 (0 : Nat) 0 (3 : Nat), .ptr 2 (0 : Nat) 0 (3 : Nat), .top, .ptr 3 (0 : Nat) 0 (3 : Nat), .ptr 4 (0 : Nat) 0 (3 : Nat), .int .i64 v2534, .own 5 0 ((x).length), .top, .top, .top, .top, .top, .top, .top, .top, .top, .top, .top, .top, .top, .top, .top, .top, .top, .top, .top, .top, .int .i64 v1790, .int .i64 v2534, .top, .top, .top, .top, .top, .top, .top, .top, .top, .top, .top, .top, .top, .top, .top, .top, .top, .top, .top, .top, .top, .top, .top, .top, .top, .top, .top, .top, .top, .top, .top, .top, .top, .top, .top, .top, .top, .top, .top, .top, .top, .top, .top, .top, .top, .top, .top, .top, .top, .top, .top, .top, .top, .top, .top, .top, .top, .top, .top, .top, .top, .top, .top, .top, .top, .top, .top, .top, .top, .top, .top, .top, .top, .top, .top, .top], [.gen [.int .i64 v1789, .int .i64 v1790, .bslc (BR.root 0) (.f32 v1791)] false 0, .gen [.int .i64 (0 : Int), .int .i64 (0 : Int), .nilslc] false 0, .gen [.int .i64 (0 : Int), .int .i64 (0 : Int), .nilslc] false 0, .gen [.int .i64 v2538, .int .i64 v2539, .own 6 0 ((v2543).length)] false 0, .gen [.int .i64 v2540, .int .i64 v2541, .own 7 0 ((v2544).length)] false 0, .row (.f32 x) 0, .row (.f32 v2543) 0, .row (.f32 v2544) 0])
def impl_MirrorFactor_l6_kill : List Nat := [1, 0, 0, 0, 1, 0, 0, 0, 0, 1, 1, 0, 1, 1, 1, 1, 1, 1, 1, 1, 1, 1, 1, 1, 1, 1, 1, 1, 1, 0, 0, 1, 1, 1, 1, 1, 1, 1, 1, 1, 1, 1, 1, 1, 1, 1, 1, 1, 1, 1, 1, 1, 1, 1, 1, 1, 1, 1, 1, 1, 1, 1, 1, 1, 1, 1, 1, 1, 1, 1, 1, 1, 1, 1, 1, 1, 1, 1, 0, 0, 1, 1, 1, 1, 1, 1, 1, 1, 1, 1, 1, 1, 1, 1, 1, 1, 1, 1, 1, 1, 1, 1, 1, 1, 1, 1, 1]
def impl_MirrorFactor_l6_nx : Exit → List Nat
  | .exit 0 => [1, 1, 0, 0, 1, 0, 0, 1, 1, 1, 1, 1, 1, 1, 1, 1, 1, 1, 1, 1, 1, 1, 1, 1, 1, 1, 1, 1, 1, 1, 1, 1, 1, 1, 1, 1, 1, 1, 1, 1, 1, 1, 1, 1, 1, 1, 1, 1, 1, 1, 1, 1, 1, 1, 1, 1, 1, 1, 1, 1, 1, 1, 1, 1, 1, 1, 1, 1, 1, 1, 1, 1, 1, 1, 1, 1, 1, 1, 1, 1, 1, 1, 1, 1, 1, 1, 1, 1, 1, 1, 1, 1, 1, 1, 1, 1, 1, 1, 1, 1, 1, 1, 1, 1, 1, 1, 1]
  | .exit 1 => [1, 0, 0, 0, 1, 0, 0, 1, 1, 1, 1, 1, 1, 1, 1, 1, 1, 1, 1, 1, 1, 1, 1, 1, 1, 1, 1, 1, 1, 0, 0, 1, 1, 1, 1, 1, 1, 1, 1, 1, 1, 1, 1, 1, 1, 1, 1, 1, 1, 1, 1, 1, 1, 1, 1, 1, 1, 1, 1, 1, 1, 1, 1, 1, 1, 1, 1, 1, 1, 1, 1, 1, 1, 1, 1, 1, 1, 1, 1, 1, 1, 1, 1, 1, 1, 1, 1, 1, 1, 1, 1, 1, 1, 1, 1, 1, 1, 1, 1, 1, 1, 1, 1, 1, 1, 1, 1]
  | .exit 6 => [1, 0, 0, 0, 1, 0, 0, 0, 0, 1, 1, 1, 1, 1, 1, 1, 1, 1, 1, 1, 1, 1, 1, 1, 1, 1, 1, 1, 1, 0, 0, 1, 1, 1, 1, 1, 1, 1, 1, 1, 1, 1, 1, 1, 1, 1, 1, 1, 1, 1, 1, 1, 1, 1, 1, 1, 1, 1, 1, 1, 1, 1, 1, 1, 1, 1, 1, 1, 1, 1, 1, 1, 1, 1, 1, 1, 1, 1, 1, 1, 1, 1, 1, 1, 1, 1, 1, 1, 1, 1, 1, 1, 1, 1, 1, 1, 1, 1, 1, 1, 1, 1, 1, 1, 1, 1, 1]
  | .ret => [1, 1, 0, 0, 0, 1, 1, 1, 1, 1, 1, 1, 1, 1, 1, 1, 1, 1, 1, 1, 1, 1, 1, 1, 1, 1, 1, 1, 1, 1, 1, 1, 1, 1, 1, 1, 1, 1, 1, 1, 1, 1, 1, 1, 1, 1, 1, 1, 1, 1, 1, 1, 1, 1, 1, 1, 1, 1, 1, 1, 1, 1, 1, 1, 1, 1, 1, 1, 1, 1, 1, 1, 1, 1, 1, 1, 1, 1, 1, 1, 1, 1, 1, 1, 1, 1, 1, 1, 1, 1, 1, 1, 1, 1, 1, 1, 1, 1, 1, 1, 1, 1, 1, 1, 1, 1, 1]
  | _ => []
noncomputable def impl_MirrorFactor_l0_T (v1789 : Int) (v1790 : Int) (v1791 : List Nat) (v2328 : Int) (v2329 : Int) (v2330 : Int) (v2331 : Int) (s : Int × (List Nat) × (List Nat)) : Tree ((Int × (List Nat) × (List Nat)) ⊕ ((Unit) ⊕ ((List Nat) × (List Nat)))) :=
  (.br (decide (s.1 < v1790)) (
   (.call (impl_Matrix_column_g v1789 v1790 v1791 s.1) fun v2334 =>
   (.need (some (impl_MirrorFactor_l2_E v1789 v1790 v1791 s.1 v2328 v2329 v2330 v2331 s.2.1 ((0 : Int), v2334, s.2.2)) = some (impl_MirrorFactor_l2_E v1789 v1790 v1791 s.1 v2328 v2329 v2330 v2331 s.2.1 ((0 : Int), v2334, s.2.2))) <|
   (.call (impl_MirrorFactor_l2_g v1789 v1790 v1791 s.1 v2328 v2329 v2330 v2331 s.2.1 ((0 : Int), v2334, s.2.2)) fun v2509 =>
   (.call (impl_norm_g v2509.1) fun v2510 =>
   (.br (!(fgrt .f32 v2510 (0 : Nat))) (
    .leaf (.inr (.inl ()))
   ) (
    (.call (impl_Matrix_set_g v2331 v2509.2 s.1 s.1) fun v2511 =>
    (.grd (decide ((List.set v2509.2 (Int.toNat (IntKind.i64.wrap ((IntKind.i64.wrap (s.1 * v2331)) + s.1))) v2510).length = v2509.2.length)) <|
    (.need (some (impl_MirrorFactor_l6_E v1789 v1790 v1791 s.1 v2510 (((v2509.1).length : Nat) : Int) v2328 v2329 v2330 v2331 s.2.1 (List.set v2509.2 (Int.toNat (IntKind.i64.wrap ((IntKind.i64.wrap (s.1 * v2331)) + s.1))) v2510) ((0 : Int), v2509.1)) = some (impl_MirrorFactor_l6_E v1789 v1790 v1791 s.1 v2510 (((v2509.1).length : Nat) : Int) v2328 v2329 v2330 v2331 s.2.1 (List.set v2509.2 (Int.toNat (IntKind.i64.wrap ((IntKind.i64.wrap (s.1 * v2331)) + s.1))) v2510) ((0 : Int), v2509.1))) <|
    (.call (impl_MirrorFactor_l6_g s.1 v2510 (((v2509.1).length : Nat) : Int) v2328 v2329 v2330 v2331 s.2.1 (List.set v2509.2 (Int.toNat (IntKind.i64.wrap ((IntKind.i64.wrap (s.1 * v2331)) + s.1))) v2510) ((0 : Int), v2509.1)) fun v2545 =>
    (.call (impl_Matrix_setColumn_g v2328 v2329 s.2.1 s.1 v2545) fun v2546 =>
    (.grd (decide (v2546.length = s.2.1.length)) <|
    .leaf (.inl (IntKind.i64.wrap (s.1 + (1 : Int)), v2546, (List.set v2509.2 (Int.toNat (IntKind.i64.wrap ((IntKind.i64.wrap (s.1 * v2331)) + s.1))) v2510)))))))))
   ))))))
  ) (
   .leaf (.inr (.inr (s.2.1, s.2.2)))
  ))

noncomputable def impl_MirrorFactor_l0_g (v1789 : Int) (v1790 : Int) (v1791 : List Nat) (v2328 : Int) (v2329 : Int) (v2330 : Int) (v2331 : Int) (s0 : Int × (List Nat) × (List Nat)) : Option ((Unit) ⊕ ((List Nat) × (List Nat))) := whileM (fun s => (impl_MirrorFactor_l0_T v1789 v1790 v1791 v2328 v2329 v2330 v2331 s).run) s0
def impl_MirrorFactor_l0_E (v1789 : Int) (v1790 : Int) (v1791 : List Nat) (v2328 : Int) (v2329 : Int) (v2330 : Int) (v2331 : Int) (s : Int × (List Nat) × (List Nat)) : Sd := ([.top, .ptr 0 (0 : Nat) 0 (3 : Nat), .ptr 1 (0 : Nat) 0 (3 : Nat), .ptr 2 (0 : Nat) 0 (3 : Nat), .top, .ptr 3 (0 : Nat) 0 (3 : Nat), .ptr 4 (0 : Nat) 0 (3 : Nat), .top, .top, .top, .top, .top, .top, .top, .top, .top, .top, .top, .top, .top, .top, .top, .top, .top, .top, .top, .top, .top, .top, .int .i64 v1790, .int .i64 s.1, .top, .top, .top, .top, .top, .top, .top, .top, .top, .top, .top, .top, .top, .top, .top, .top, .top, .top, .top, .top, .top, .top, .top, .top, .top, .top, .top, .top, .top, .top, .top, .top, .top, .top, .top, .top, .top, .top, .top, .top, .top, .top, .top, .top, .top, .top, .top, .top, .top, .top, .top, .top, .top, .top, .top, .top, .top, .top, .top, .top, .top, .top, .top, .top, .top, .top, .top, .top, .top, .top, .top, .top, .top, .top, .top, .top], [.gen [.int .i64 v1789, .int .i64 v1790, .bslc (BR.root 0) (.f32 v1791)] false 0, .gen [.int .i64 (0 : Int), .int .i64 (0 : Int), .nilslc] false 0, .gen [.int .i64 (0 : Int), .int .i64 (0 : Int), .nilslc] false 0, .gen [.int .i64 v2328, .int .i64 v2329, .own 5 0 ((s.2.1).length)] false 0, .gen [.int .i64 v2330, .int .i64 v2331, .own 6 0 ((s.2.2).length)] false 0, .row (.f32 s.2.1) 0, .row (.f32 s.2.2) 0])
def impl_MirrorFactor_l0_X (v1789 : Int) (v1790 : Int) (v1791 : List Nat) (v2328 : Int) (v2329 : Int) (v2330 : Int) (v2331 : Int) (x : (Unit) ⊕ ((List Nat) × (List Nat))) : Out := (match x with | .inl x => (.ret, [.top, .top, .ptr 0 (0 : Nat) 0 (3 : Nat), .ptr 1 (0 : Nat) 0 (3 : Nat), .lit false, .top, .top, .top, .top, .top, .top, .top, .top, .top, .top, .top, .top, .top, .top, .top, .top, .top, .top, .top, .top, .top, .top, .top, .top, .top, .top, .top, .top, .top, .top, .top, .top, .top, .top, .top, .top, .top, .top, .top, .top, .top, .top, .top, .top, .top, .top, .top, .top, .top, .top, .top, .top, .top, .top, .top, .top, .top, .top, .top, .top, .top, .top, .top, .top, .top, .top, .top, .top, .top, .top, .top, .top, .top, .top, .top, .top, .top, .top, .top, .top, .top, .top, .top, .top, .top, .top, .top, .top, .top, .top, .top, .top, .top, .top, .top, .top, .top, .top, .top, .top, .top, .top], [.gen [.int .i64 (0 : Int), .int .i64 (0 : Int), .nilslc] false 0, .gen [.int .i64 (0 : Int), .int .i64 (0 : Int), .nilslc] false 0]) | .inr x => (.normal, [.top, .top, .ptr 0 (0 : Nat) 0 (3 : Nat), .ptr 1 (0 : Nat) 0 (3 : Nat), .top, .ptr 2 (0 : Nat) 0 (3 : Nat), .ptr 3 (0 : Nat) 0 (3 : Nat), .top, .top, .top, .top, .top, .top, .top, .top, .top, .top, .top, .top, .top, .top, .top, .top, .top, .top, .top, .top, .top, .top, .top, .top, .top, .top, .top, .top, .top, .top, .top, .top, .top, .top, .top, .top, .top, .top, .top, .top, .top, .top, .top, .top, .top, .top, .top, .top, .top, .top, .top, .top, .top, .top, .top, .top, .top, .top, .top, .top, .top, .top, .top, .top, .top, .top, .top, .top, .top, .top, .top, .top, .top, .top, .top, .top, .top, .top, .top, .top, .top, .top, .top, .top, .top, .top, .top, .top, .top, .top, .top, .top, .top, .top, .top, .top, .top, .top, .top, .top], [.gen [.int .i64 (0 : Int), .int .i64 (0 : Int), .nilslc] false 0, .gen [.int .i64 (0 : Int), .int .i64 (0 : Int), .nilslc] false 0, .gen [.int .i64 v2328, .int .i64 v2329, .own 4 0 ((x.1).length)] false 0, .gen [.int .i64 v2330, .int .i64 v2331, .own 5 0 ((x.2).length)] false 0, .row (.f32 x.1) 0, .row (.f32 x.2) 0]))
def impl_MirrorFactor_l0_kill : List Nat := [1, 0, 0, 0, 1, 0, 0, 1, 1, 1, 1, 1, 1, 1, 1, 1, 1, 1, 1, 1, 1, 1, 1, 1, 1, 1, 1, 1, 1, 0, 0, 1, 1, 1, 1, 1, 1, 1, 1, 1, 1, 1, 1, 1, 1, 1, 1, 1, 1, 1, 1, 1, 1, 1, 1, 1, 1, 1, 1, 1, 1, 1, 1, 1, 1, 1, 1, 1, 1, 1, 1, 1, 1, 1, 1, 1, 1, 1, 1, 1, 1, 1, 1, 1, 1, 1, 1, 1, 1, 1, 1, 1, 1, 1, 1, 1, 1, 1, 1, 1, 1, 1, 1, 1, 1, 1, 1]
def impl_MirrorFactor_l0_nx : Exit → List Nat
  | .exit 0 => [1, 1, 0, 0, 1, 0, 0, 1, 1, 1, 1, 1, 1, 1, 1, 1, 1, 1, 1, 1, 1, 1, 1, 1, 1, 1, 1, 1, 1, 1, 1, 1, 1, 1, 1, 1, 1, 1, 1, 1, 1, 1, 1, 1, 1, 1, 1, 1, 1, 1, 1, 1, 1, 1, 1, 1, 1, 1, 1, 1, 1, 1, 1, 1, 1, 1, 1, 1, 1, 1, 1, 1, 1, 1, 1, 1, 1, 1, 1, 1, 1, 1, 1, 1, 1, 1, 1, 1, 1, 1, 1, 1, 1, 1, 1, 1, 1, 1, 1, 1, 1, 1, 1, 1, 1, 1, 1]
  | .ret => [1, 1, 0, 0, 0, 1, 1, 1, 1, 1, 1, 1, 1, 1, 1, 1, 1, 1, 1, 1, 1, 1, 1, 1, 1, 1, 1, 1, 1, 1, 1, 1, 1, 1, 1, 1, 1, 1, 1, 1, 1, 1, 1, 1, 1, 1, 1, 1, 1, 1, 1, 1, 1, 1, 1, 1, 1, 1, 1, 1, 1, 1, 1, 1, 1, 1, 1, 1, 1, 1, 1, 1, 1, 1, 1, 1, 1, 1, 1, 1, 1, 1, 1, 1, 1, 1, 1, 1, 1, 1, 1, 1, 1, 1, 1, 1, 1, 1, 1, 1, 1, 1, 1, 1, 1, 1, 1]
  | _ => []
noncomputable def impl_MirrorFactor_LO (v1789 : Int) (v1790 : Int) (v1791 : List Nat) : LOr := fun id e L =>
  match id with
  | 4 => .need (normA 0 impl_MirrorFactor_l4_kill e L = some (impl_MirrorFactor_l4_E v1789 v1790 v1791 (gI (vAt e 7)) (gI (vAt e 36)) (gI (cAt L (vAt e 5) 0)) (gI (cAt L (vAt e 5) 1)) (gI (cAt L (vAt e 6) 0)) (gI (cAt L (vAt e 6) 1)) (gRF L (cAt L (vAt e 5) 2)) ((gI (vAt e 39)), (gRF L (vAt e 8)), (gRF L (cAt L (vAt e 6) 2))))) (.call (impl_MirrorFactor_l4_g (gI (vAt e 7)) (gI (vAt e 36)) (gI (cAt L (vAt e 5) 0)) (gI (cAt L (vAt e 5) 1)) (gI (cAt L (vAt e 6) 0)) (gI (cAt L (vAt e 6) 1)) (gRF L (cAt L (vAt e 5) 2)) ((gI (vAt e 39)), (gRF L (vAt e 8)), (gRF L (cAt L (vAt e 6) 2)))) fun x => .leaf (impl_MirrorFactor_l4_X v1789 v1790 v1791 (gI (vAt e 7)) (gI (vAt e 36)) (gI (cAt L (vAt e 5) 0)) (gI (cAt L (vAt e 5) 1)) (gI (cAt L (vAt e 6) 0)) (gI (cAt L (vAt e 6) 1)) (gRF L (cAt L (vAt e 5) 2)) x))
  | 2 => .need (normA 0 impl_MirrorFactor_l2_kill e L = some (impl_MirrorFactor_l2_E v1789 v1790 v1791 (gI (vAt e 7)) (gI (cAt L (vAt e 5) 0)) (gI (cAt L (vAt e 5) 1)) (gI (cAt L (vAt e 6) 0)) (gI (cAt L (vAt e 6) 1)) (gRF L (cAt L (vAt e 5) 2)) ((gI (vAt e 36)), (gRF L (vAt e 8)), (gRF L (cAt L (vAt e 6) 2))))) (.call (impl_MirrorFactor_l2_g v1789 v1790 v1791 (gI (vAt e 7)) (gI (cAt L (vAt e 5) 0)) (gI (cAt L (vAt e 5) 1)) (gI (cAt L (vAt e 6) 0)) (gI (cAt L (vAt e 6) 1)) (gRF L (cAt L (vAt e 5) 2)) ((gI (vAt e 36)), (gRF L (vAt e 8)), (gRF L (cAt L (vAt e 6) 2)))) fun x => .leaf (impl_MirrorFactor_l2_X v1789 v1790 v1791 (gI (vAt e 7)) (gI (cAt L (vAt e 5) 0)) (gI (cAt L (vAt e 5) 1)) (gI (cAt L (vAt e 6) 0)) (gI (cAt L (vAt e 6) 1)) (gRF L (cAt L (vAt e 5) 2)) x))
  | 6 => .need (normA 0 impl_MirrorFactor_l6_kill e L = some (impl_MirrorFactor_l6_E v1789 v1790 v1791 (gI (vAt e 7)) (gF (vAt e 11)) (gI (vAt e 78)) (gI (cAt L (vAt e 5) 0)) (gI (cAt L (vAt e 5) 1)) (gI (cAt L (vAt e 6) 0)) (gI (cAt L (vAt e 6) 1)) (gRF L (cAt L (vAt e 5) 2)) (gRF L (cAt L (vAt e 6) 2)) ((gI (vAt e 79)), (gRF L (vAt e 8))))) (.call (impl_MirrorFactor_l6_g (gI (vAt e 7)) (gF (vAt e 11)) (gI (vAt e 78)) (gI (cAt L (vAt e 5) 0)) (gI (cAt L (vAt e 5) 1)) (gI (cAt L (vAt e 6) 0)) (gI (cAt L (vAt e 6) 1)) (gRF L (cAt L (vAt e 5) 2)) (gRF L (cAt L (vAt e 6) 2)) ((gI (vAt e 79)), (gRF L (vAt e 8)))) fun x => .leaf (impl_MirrorFactor_l6_X v1789 v1790 v1791 (gI (vAt e 7)) (gF (vAt e 11)) (gI (vAt e 78)) (gI (cAt L (vAt e 5) 0)) (gI (cAt L (vAt e 5) 1)) (gI (cAt L (vAt e 6) 0)) (gI (cAt L (vAt e 6) 1)) (gRF L (cAt L (vAt e 5) 2)) (gRF L (cAt L (vAt e 6) 2)) x))
  | 0 => .need (normA 0 impl_MirrorFactor_l0_kill e L = some (impl_MirrorFactor_l0_E v1789 v1790 v1791 (gI (cAt L (vAt e 5) 0)) (gI (cAt L (vAt e 5) 1)) (gI (cAt L (vAt e 6) 0)) (gI (cAt L (vAt e 6) 1)) ((gI (vAt e 30)), (gRF L (cAt L (vAt e 5) 2)), (gRF L (cAt L (vAt e 6) 2))))) (.call (impl_MirrorFactor_l0_g v1789 v1790 v1791 (gI (cAt L (vAt e 5) 0)) (gI (cAt L (vAt e 5) 1)) (gI (cAt L (vAt e 6) 0)) (gI (cAt L (vAt e 6) 1)) ((gI (vAt e 30)), (gRF L (cAt L (vAt e 5) 2)), (gRF L (cAt L (vAt e 6) 2)))) fun x => .sum x (fun b0 => .leaf (impl_MirrorFactor_l0_X v1789 v1790 v1791 (gI (cAt L (vAt e 5) 0)) (gI (cAt L (vAt e 5) 1)) (gI (cAt L (vAt e 6) 0)) (gI (cAt L (vAt e 6) 1)) (.inl b0))) (fun c0 => .leaf (impl_MirrorFactor_l0_X v1789 v1790 v1791 (gI (cAt L (vAt e 5) 0)) (gI (cAt L (vAt e 5) 1)) (gI (cAt L (vAt e 6) 0)) (gI (cAt L (vAt e 6) 1)) (.inr c0))))
  | _ => .fail
noncomputable def impl_MirrorFactor_tab : List (FuncId × DFn × Bool) := [(116, impl_isTall_F, true), (117, impl_newMatrix_F, true), (81, impl_Matrix_column_F, true), (82, impl_dot_F, true), (64, impl_Matrix_at_F, true), (66, impl_Matrix_set_F, false), (107, impl_less_F, false), (118, impl_norm_F, true), (119, impl_Matrix_setColumn_F, false), (67, impl_ValidMatrix_F, true)]
theorem impl_MirrorFactor_hO : OrcOk Try.prog (tabD impl_MirrorFactor_tab) (tabM impl_MirrorFactor_tab) := tabD_cons impl_isTall_Fok (tabD_cons impl_newMatrix_Fok (tabD_cons impl_Matrix_column_Fok (tabD_cons impl_dot_Fok (tabD_cons impl_Matrix_at_Fok (tabD_cons impl_Matrix_set_Fok (tabD_cons impl_less_Fok (tabD_cons impl_norm_Fok (tabD_cons impl_Matrix_setColumn_Fok (tabD_cons impl_ValidMatrix_Fok (tabD_nil _))))))))))
theorem impl_MirrorFactor_l4_be (v1789 : Int) (v1790 : Int) (v1791 : List Nat) (v2492 : Int) (v2493 : Int) (v2495 : Int) (v2496 : Int) (v2497 : Int) (v2498 : Int) (v2500 : List Nat) (s : Int × (List Nat) × (List Nat)) : bodyT TT (tabD impl_MirrorFactor_tab) (tabM impl_MirrorFactor_tab) (impl_MirrorFactor_LO v1789 v1790 v1791) 0 impl_MirrorFactor_l4_kill impl_MirrorFactor_l4_nx (bodyOf Try.f51 4) 4 (impl_MirrorFactor_l4_E v1789 v1790 v1791 v2492 v2493 v2495 v2496 v2497 v2498 v2500 s) = (impl_MirrorFactor_l4_T v2492 v2493 v2495 v2496 v2497 v2498 v2500 s).bind fun y => .leaf (outS (impl_MirrorFactor_l4_E v1789 v1790 v1791 v2492 v2493 v2495 v2496 v2497 v2498 v2500) (impl_MirrorFactor_l4_X v1789 v1790 v1791 v2492 v2493 v2495 v2496 v2497 v2498 v2500) y) := by kernel_rfl
theorem impl_MirrorFactor_l4_ok (v1789 : Int) (v1790 : Int) (v1791 : List Nat) : LSound Try.prog 0 (impl_MirrorFactor_LO v1789 v1790 v1791) 4 (bodyOf Try.f51 4) := by
  intro e L out h
  exact lo_ok (E := impl_MirrorFactor_l4_E v1789 v1790 v1791 (gI (vAt e 7)) (gI (vAt e 36)) (gI (cAt L (vAt e 5) 0)) (gI (cAt L (vAt e 5) 1)) (gI (cAt L (vAt e 6) 0)) (gI (cAt L (vAt e 6) 1)) (gRF L (cAt L (vAt e 5) 2))) (gT := impl_MirrorFactor_l4_T (gI (vAt e 7)) (gI (vAt e 36)) (gI (cAt L (vAt e 5) 0)) (gI (cAt L (vAt e 5) 1)) (gI (cAt L (vAt e 6) 0)) (gI (cAt L (vAt e 6) 1)) (gRF L (cAt L (vAt e 5) 2))) (X := impl_MirrorFactor_l4_X v1789 v1790 v1791 (gI (vAt e 7)) (gI (vAt e 36)) (gI (cAt L (vAt e 5) 0)) (gI (cAt L (vAt e 5) 1)) (gI (cAt L (vAt e 6) 0)) (gI (cAt L (vAt e 6) 1)) (gRF L (cAt L (vAt e 5) 2))) (s0 := ((gI (vAt e 39)), (gRF L (vAt e 8)), (gRF L (cAt L (vAt e 6) 2)))) tok impl_MirrorFactor_hO mixed (LoopsOk_eq (l := []) (by kernel_rfl) trivial) (impl_MirrorFactor_l4_be v1789 v1790 v1791 (gI (vAt e 7)) (gI (vAt e 36)) (gI (cAt L (vAt e 5) 0)) (gI (cAt L (vAt e 5) 1)) (gI (cAt L (vAt e 6) 0)) (gI (cAt L (vAt e 6) 1)) (gRF L (cAt L (vAt e 5) 2))) rfl (by intro x; rfl) h
theorem impl_MirrorFactor_l2_be (v1789 : Int) (v1790 : Int) (v1791 : List Nat) (v2451 : Int) (v2453 : Int) (v2454 : Int) (v2455 : Int) (v2456 : Int) (v2458 : List Nat) (s : Int × (List Nat) × (List Nat)) : bodyT TT (tabD impl_MirrorFactor_tab) (tabM impl_MirrorFactor_tab) (impl_MirrorFactor_LO v1789 v1790 v1791) 0 impl_MirrorFactor_l2_kill impl_MirrorFactor_l2_nx (bodyOf Try.f51 2) 2 (impl_MirrorFactor_l2_E v1789 v1790 v1791 v2451 v2453 v2454 v2455 v2456 v2458 s) = (impl_MirrorFactor_l2_T v1789 v1790 v1791 v2451 v2453 v2454 v2455 v2456 v2458 s).bind fun y => .leaf (outS (impl_MirrorFactor_l2_E v1789 v1790 v1791 v2451 v2453 v2454 v2455 v2456 v2458) (impl_MirrorFactor_l2_X v1789 v1790 v1791 v2451 v2453 v2454 v2455 v2456 v2458) y) := by kernel_rfl
theorem impl_MirrorFactor_l2_ok (v1789 : Int) (v1790 : Int) (v1791 : List Nat) : LSound Try.prog 0 (impl_MirrorFactor_LO v1789 v1790 v1791) 2 (bodyOf Try.f51 2) := by
  intro e L out h
  exact lo_ok (E := impl_MirrorFactor_l2_E v1789 v1790 v1791 (gI (vAt e 7)) (gI (cAt L (vAt e 5) 0)) (gI (cAt L (vAt e 5) 1)) (gI (cAt L (vAt e 6) 0)) (gI (cAt L (vAt e 6) 1)) (gRF L (cAt L (vAt e 5) 2))) (gT := impl_MirrorFactor_l2_T v1789 v1790 v1791 (gI (vAt e 7)) (gI (cAt L (vAt e 5) 0)) (gI (cAt L (vAt e 5) 1)) (gI (cAt L (vAt e 6) 0)) (gI (cAt L (vAt e 6) 1)) (gRF L (cAt L (vAt e 5) 2))) (X := impl_MirrorFactor_l2_X v1789 v1790 v1791 (gI (vAt e 7)) (gI (cAt L (vAt e 5) 0)) (gI (cAt L (vAt e 5) 1)) (gI (cAt L (vAt e 6) 0)) (gI (cAt L (vAt e 6) 1)) (gRF L (cAt L (vAt e 5) 2))) (s0 := ((gI (vAt e 36)), (gRF L (vAt e 8)), (gRF L (cAt L (vAt e 6) 2)))) tok impl_MirrorFactor_hO mixed (LoopsOk_eq (l := [(4, bodyOf Try.f51 4)]) (by kernel_rfl) ⟨impl_MirrorFactor_l4_ok v1789 v1790 v1791, trivial⟩) (impl_MirrorFactor_l2_be v1789 v1790 v1791 (gI (vAt e 7)) (gI (cAt L (vAt e 5) 0)) (gI (cAt L (vAt e 5) 1)) (gI (cAt L (vAt e 6) 0)) (gI (cAt L (vAt e 6) 1)) (gRF L (cAt L (vAt e 5) 2))) rfl (by intro x; rfl) h
theorem impl_MirrorFactor_l6_be (v1789 : Int) (v1790 : Int) (v1791 : List Nat) (v2534 : Int) (v2535 : Nat) (v2536 : Int) (v2538 : Int) (v2539 : Int) (v2540 : Int) (v2541 : Int) (v2543 : List Nat) (v2544 : List Nat) (s : Int × (List Nat)) : bodyT TT (tabD impl_MirrorFactor_tab) (tabM impl_MirrorFactor_tab) (impl_MirrorFactor_LO v1789 v1790 v1791) 0 impl_MirrorFactor_l6_kill impl_MirrorFactor_l6_nx (bodyOf Try.f51 6) 6 (impl_MirrorFactor_l6_E v1789 v1790 v1791 v2534 v2535 v2536 v2538 v2539 v2540 v2541 v2543 v2544 s) = (impl_MirrorFactor_l6_T v2534 v2535 v2536 v2538 v2539 v2540 v2541 v2543 v2544 s).bind fun y => .leaf (outS (impl_MirrorFactor_l6_E v1789 v1790 v1791 v2534 v2535 v2536 v2538 v2539 v2540 v2541 v2543 v2544) (impl_MirrorFactor_l6_X v1789 v1790 v1791 v2534 v2535 v2536 v2538 v2539 v2540 v2541 v2543 v2544) y) := by kernel_rfl
theorem impl_MirrorFactor_l6_ok (v1789 : Int) (v1790 : Int) (v1791 : List Nat) : LSound Try.prog 0 (impl_MirrorFactor_LO v1789 v1790 v1791) 6 (bodyOf Try.f51 6) := by
  intro e L out h
  exact lo_ok (E := impl_MirrorFactor_l6_E v1789 v1790 v1791 (gI (vAt e 7)) (gF (vAt e 11)) (gI (vAt e 78)) (gI (cAt L (vAt e 5) 0)) (gI (cAt L (vAt e 5) 1)) (gI (cAt L (vAt e 6) 0)) (gI (cAt L (vAt e 6) 1)) (gRF L (cAt L (vAt e 5) 2)) (gRF L (cAt L (vAt e 6) 2))) (gT := impl_MirrorFactor_l6_T (gI (vAt e 7)) (gF (vAt e 11)) (gI (vAt e 78)) (gI (cAt L (vAt e 5) 0)) (gI (cAt L (vAt e 5) 1)) (gI (cAt L (vAt e 6) 0)) (gI (cAt L (vAt e 6) 1)) (gRF L (cAt L (vAt e 5) 2)) (gRF L (cAt L (vAt e 6) 2))) (X := impl_MirrorFactor_l6_X v1789 v1790 v1791 (gI (vAt e 7)) (gF (vAt e 11)) (gI (vAt e 78)) (gI (cAt L (vAt e 5) 0)) (gI (cAt L (vAt e 5) 1)) (gI (cAt L (vAt e 6) 0)) (gI (cAt L (vAt e 6) 1)) (gRF L (cAt L (vAt e 5) 2)) (gRF L (cAt L (vAt e 6) 2))) (s0 := ((gI (vAt e 79)), (gRF L (vAt e 8)))) tok impl_MirrorFactor_hO mixed (LoopsOk_eq (l := []) (by kernel_rfl) trivial) (impl_MirrorFactor_l6_be v1789 v1790 v1791 (gI (vAt e 7)) (gF (vAt e 11)) (gI (vAt e 78)) (gI (cAt L (vAt e 5) 0)) (gI (cAt L (vAt e 5) 1)) (gI (cAt L (vAt e 6) 0)) (gI (cAt L (vAt e 6) 1)) (gRF L (cAt L (vAt e 5) 2)) (gRF L (cAt L (vAt e 6) 2))) rfl (by intro x; rfl) h
theorem impl_MirrorFactor_l0_be (v1789 : Int) (v1790 : Int) (v1791 : List Nat) (v2328 : Int) (v2329 : Int) (v2330 : Int) (v2331 : Int) (s : Int × (List Nat) × (List Nat)) : bodyT TT (tabD impl_MirrorFactor_tab) (tabM impl_MirrorFactor_tab) (impl_MirrorFactor_LO v1789 v1790 v1791) 0 impl_MirrorFactor_l0_kill impl_MirrorFactor_l0_nx (bodyOf Try.f51 0) 0 (impl_MirrorFactor_l0_E v1789 v1790 v1791 v2328 v2329 v2330 v2331 s) = (impl_MirrorFactor_l0_T v1789 v1790 v1791 v2328 v2329 v2330 v2331 s).bind fun y => .leaf (outS (impl_MirrorFactor_l0_E v1789 v1790 v1791 v2328 v2329 v2330 v2331) (impl_MirrorFactor_l0_X v1789 v1790 v1791 v2328 v2329 v2330 v2331) y) := by kernel_rfl
theorem impl_MirrorFactor_l0_ok (v1789 : Int) (v1790 : Int) (v1791 : List Nat) : LSound Try.prog 0 (impl_MirrorFactor_LO v1789 v1790 v1791) 0 (bodyOf Try.f51 0) := by
  intro e L out h
  exact lo_ok (E := impl_MirrorFactor_l0_E v1789 v1790 v1791 (gI (cAt L (vAt e 5) 0)) (gI (cAt L (vAt e 5) 1)) (gI (cAt L (vAt e 6) 0)) (gI (cAt L (vAt e 6) 1))) (gT := impl_MirrorFactor_l0_T v1789 v1790 v1791 (gI (cAt L (vAt e 5) 0)) (gI (cAt L (vAt e 5) 1)) (gI (cAt L (vAt e 6) 0)) (gI (cAt L (vAt e 6) 1))) (X := impl_MirrorFactor_l0_X v1789 v1790 v1791 (gI (cAt L (vAt e 5) 0)) (gI (cAt L (vAt e 5) 1)) (gI (cAt L (vAt e 6) 0)) (gI (cAt L (vAt e 6) 1))) (s0 := ((gI (vAt e 30)), (gRF L (cAt L (vAt e 5) 2)), (gRF L (cAt L (vAt e 6) 2)))) tok impl_MirrorFactor_hO mixed (LoopsOk_eq (l := [(2, bodyOf Try.f51 2), (6, bodyOf Try.f51 6)]) (by kernel_rfl) ⟨impl_MirrorFactor_l2_ok v1789 v1790 v1791, impl_MirrorFactor_l6_ok v1789 v1790 v1791, trivial⟩) (impl_MirrorFactor_l0_be v1789 v1790 v1791 (gI (cAt L (vAt e 5) 0)) (gI (cAt L (vAt e 5) 1)) (gI (cAt L (vAt e 6) 0)) (gI (cAt L (vAt e 6) 1))) rfl (by intro x; (cases x with | inl b => rfl | inr x => exact rfl)) h
noncomputable def impl_MirrorFactor_T (v1789 : Int) (v1790 : Int) (v1791 : List Nat) : Tree ((Unit) ⊕ (Int × Int × Int × Int × (List Nat) × (List Nat))) :=
  (.call (impl_isTall_g v1789 v1790 v1791) fun v1822 =>
  (.br (!v1822) (
   .leaf (.inl ())
  ) (
   (.call (impl_newMatrix_g v1789 v1790) fun v1825 =>
   (.call (impl_newMatrix_g v1790 v1790) fun v1826 =>
   (.need (some (impl_MirrorFactor_l0_E v1789 v1790 v1791 v1825.1 v1825.2 v1826.1 v1826.2 ((0 : Int), List.replicate (Int.toNat (IntKind.i64.wrap (v1789 * v1790))) (0 : Nat), List.replicate (Int.toNat (IntKind.i64.wrap (v1790 * v1790))) (0 : Nat))) = some (impl_MirrorFactor_l0_E v1789 v1790 v1791 v1825.1 v1825.2 v1826.1 v1826.2 ((0 : Int), List.replicate (Int.toNat (IntKind.i64.wrap (v1789 * v1790))) (0 : Nat), List.replicate (Int.toNat (IntKind.i64.wrap (v1790 * v1790))) (0 : Nat)))) <|
   (.call (impl_MirrorFactor_l0_g v1789 v1790 v1791 v1825.1 v1825.2 v1826.1 v1826.2 ((0 : Int), List.replicate (Int.toNat (IntKind.i64.wrap (v1789 * v1790))) (0 : Nat), List.replicate (Int.toNat (IntKind.i64.wrap (v1790 * v1790))) (0 : Nat))) fun v2547 =>
   (.sum v2547 (fun v2548 =>
    .leaf (.inl ())
   ) (fun v2549 =>
    (.call (impl_ValidMatrix_g v1825.1 v1825.2 v2549.1) fun v2550 =>
    (.br (!v2550) (
     .leaf (.inl ())
    ) (
     (.call (impl_ValidMatrix_g v1826.1 v1826.2 v2549.2) fun v2551 =>
     (.br (!v2551) (
      .leaf (.inl ())
     ) (
      .leaf (.inr (v1825.1, v1825.2, v1826.1, v1826.2, v2549.1, v2549.2))
     )))
    )))
   ))))))
  )))

noncomputable def impl_MirrorFactor_g (v1789 : Int) (v1790 : Int) (v1791 : List Nat) : Option ((Unit) ⊕ (Int × Int × Int × Int × (List Nat) × (List Nat))) := (impl_MirrorFactor_T v1789 v1790 v1791).run
def impl_MirrorFactor_enc (v1789 : Int) (v1790 : Int) (v1791 : List Nat) (y : (Unit) ⊕ (Int × Int × Int × Int × (List Nat) × (List Nat))) : Rs := (match y with | .inl y => (.tup [.agg [.int .i64 (0 : Int), .int .i64 (0 : Int), .nilslc], .agg [.int .i64 (0 : Int), .int .i64 (0 : Int), .nilslc], .lit false], []) | .inr y => (.tup [.agg [.int .i64 y.1, .int .i64 y.2.1, .own 0 0 ((y.2.2.2.2.1).length)], .agg [.int .i64 y.2.2.1, .int .i64 y.2.2.2.1, .own 1 0 ((y.2.2.2.2.2).length)], .lit true], [.row (.f32 y.2.2.2.2.1) 0, .row (.f32 y.2.2.2.2.2) 0]))
theorem impl_MirrorFactor_den (v1789 : Int) (v1790 : Int) (v1791 : List Nat) : (den TT (tabD impl_MirrorFactor_tab) (tabM impl_MirrorFactor_tab) (impl_MirrorFactor_LO v1789 v1790 v1791) (codeOf Try.f51) ([.agg [.int .i64 v1789, .int .i64 v1790, .bslc (BR.root 0) (.f32 v1791)]] ++ List.replicate (Try.f51.ntmps - ([.agg [.int .i64 v1789, .int .i64 v1790, .bslc (BR.root 0) (.f32 v1791)]] : List DV).length) .undef) []).bind (retD TT Try.f51.results.toList 0) = (impl_MirrorFactor_T v1789 v1790 v1791).bind fun y => .leaf (impl_MirrorFactor_enc v1789 v1790 v1791 y) := by kernel_rfl
theorem impl_MirrorFactor_fn (v1789 : Int) (v1790 : Int) (v1791 : List Nat) (F : Fr) (hm : F.ids.length = 0) (h0 : St F [] F.H0) (hA : DVs.Ok F [] [.agg [.int .i64 v1789, .int .i64 v1790, .bslc (BR.root 0) (.f32 v1791)]]) {y : (Unit) ⊕ (Int × Int × Int × Int × (List Nat) × (List Nat))} (hy : impl_MirrorFactor_g v1789 v1790 v1791 = some y) : ∃ H', FnOk Try.prog 51 (DVs.av F [.agg [.int .i64 v1789, .int .i64 v1790, .bslc (BR.root 0) (.f32 v1791)]]) F.H0 ((impl_MirrorFactor_enc v1789 v1790 v1791 y).1.av F) H' ∧ St F (impl_MirrorFactor_enc v1789 v1790 v1791 y).2 H' ∧ (impl_MirrorFactor_enc v1789 v1790 v1791 y).1.Ok F (impl_MirrorFactor_enc v1789 v1790 v1791 y).2 :=
  fn_fin tok impl_MirrorFactor_hO mixed Try.func51 Try.call51 (by kernel_rfl) (LoopsOk_eq (l := [(0, bodyOf Try.f51 0)]) (by kernel_rfl) ⟨impl_MirrorFactor_l0_ok v1789 v1790 v1791, trivial⟩) (impl_MirrorFactor_den v1789 v1790 v1791) hy hm h0 hA
noncomputable def impl_MirrorFactor_F : DFn := fun args L =>
  match args with
  | [.agg [.int .i64 v1789, .int .i64 v1790, a1]] =>
    optT (rowF32 L a1) fun v1791 =>
    .call (impl_MirrorFactor_g v1789 v1790 v1791) fun y => .sum y (fun y0 => .leaf (.tup [.agg [.int .i64 (0 : Int), .int .i64 (0 : Int), .nilslc], .agg [.int .i64 (0 : Int), .int .i64 (0 : Int), .nilslc], .lit false], L)) (fun z0 => .leaf (.tup [.agg [.int .i64 z0.1, .int .i64 z0.2.1, .own (L.length + 0) 0 ((z0.2.2.2.2.1).length)], .agg [.int .i64 z0.2.2.1, .int .i64 z0.2.2.2.1, .own (L.length + 1) 0 ((z0.2.2.2.2.2).length)], .lit true], L ++ [.row (.f32 z0.2.2.2.2.1) 0, .row (.f32 z0.2.2.2.2.2) 0]))
  | _ => .fail
theorem impl_MirrorFactor_Fok : COk Try.prog 51 impl_MirrorFactor_F true := by
  intro F L H args r L' hs ha hr
  unfold impl_MirrorFactor_F at hr
  split at hr
  · rename_i v1789 v1790 a1
    obtain ⟨v1791, hv1791, hr⟩ := optT_run hr
    simp only [Tree.run] at hr
    obtain ⟨y, hy, hr⟩ := Option.bind_eq_some_iff.1 hr
    cases y with
    | inl y =>
      simp only [Tree.run, Option.some.injEq, Prod.mk.injEq] at hr
      obtain ⟨rfl, rfl⟩ := hr
      exact call_ok0 hs (fun k => (([a1.av F] : List AV)[k]?).getD .top) [.agg [.int .i64 v1789, .int .i64 v1790, a1]] [.agg [.int .i64 v1789, .int .i64 v1790, .bslc (BR.root 0) (.f32 v1791)]] (fun F' h0 hi hρ => ⟨by simp [DVs.av, DV.av, BR.av, hρ], impl_MirrorFactor_fn v1789 v1790 v1791 F' (by rw [hi]; rfl) (st_nil hi) ⟨⟨trivial, trivial, bslc_ok hi (by rw [h0, hρ]; exact rowF32_ok hs (DVs.okAt (DVs.okAt ha 0 rfl) 2 rfl) hv1791), trivial⟩, trivial⟩ hy⟩) rfl
    | inr y =>
      simp only [Tree.run, Option.some.injEq, Prod.mk.injEq] at hr
      obtain ⟨rfl, rfl⟩ := hr
      exact call_ok1 hs (fun k => (([a1.av F] : List AV)[k]?).getD .top) [.agg [.int .i64 v1789, .int .i64 v1790, a1]] [.agg [.int .i64 v1789, .int .i64 v1790, .bslc (BR.root 0) (.f32 v1791)]] (fun F' h0 hi hρ => ⟨by simp [DVs.av, DV.av, BR.av, hρ], impl_MirrorFactor_fn v1789 v1790 v1791 F' (by rw [hi]; rfl) (st_nil hi) ⟨⟨trivial, trivial, bslc_ok hi (by rw [h0, hρ]; exact rowF32_ok hs (DVs.okAt (DVs.okAt ha 0 rfl) 2 rfl) hv1791), trivial⟩, trivial⟩ hy⟩) rfl rfl
  · cases hr
/-! laws.sameFloat -/
noncomputable def laws_sameFloat_LO (v2564 : Nat) (v2565 : Nat) : LOr := fun id e L =>
  match id with
  | _ => .fail
noncomputable def laws_sameFloat_tab : List (FuncId × DFn × Bool) := []
theorem laws_sameFloat_hO : OrcOk Try.prog (tabD laws_sameFloat_tab) (tabM laws_sameFloat_tab) := tabD_nil _
noncomputable def laws_sameFloat_T (v2564 : Nat) (v2565 : Nat) : Tree (Bool) :=
  (.br (!feq .f64 v2564 v2564) (
   (.br (!feq .f64 v2564 v2564) (
    .leaf (!feq .f64 v2565 v2565)
   ) (
    .leaf false
   ))
  ) (
   (.br (!feq .f64 v2565 v2565) (
    (.br (!feq .f64 v2564 v2564) (
     .leaf (!feq .f64 v2565 v2565)
    ) (
     .leaf false
    ))
   ) (
    (.br (feq .f64 v2564 (0 : Nat)) (
     (.br (feq .f64 v2565 (0 : Nat)) (
      .leaf ((fgrt .f64 (fdiv .f64 (4607182418800017408 : Nat) v2564) (0 : Nat)) == (fgrt .f64 (fdiv .f64 (4607182418800017408 : Nat) v2565) (0 : Nat)))
     ) (
      .leaf (feq .f64 v2564 v2565)
     ))
    ) (
     .leaf (feq .f64 v2564 v2565)
    ))
   ))
  ))

noncomputable def laws_sameFloat_g (v2564 : Nat) (v2565 : Nat) : Option (Bool) := (laws_sameFloat_T v2564 v2565).run
def laws_sameFloat_enc (v2564 : Nat) (v2565 : Nat) (y : Bool) : Rs := (.bool y, [])
theorem laws_sameFloat_den (v2564 : Nat) (v2565 : Nat) : (den TT (tabD laws_sameFloat_tab) (tabM laws_sameFloat_tab) (laws_sameFloat_LO v2564 v2565) (codeOf Try.f31) ([.flt .f64 v2564, .flt .f64 v2565] ++ List.replicate (Try.f31.ntmps - ([.flt .f64 v2564, .flt .f64 v2565] : List DV).length) .undef) []).bind (retD TT Try.f31.results.toList 0) = (laws_sameFloat_T v2564 v2565).bind fun y => .leaf (laws_sameFloat_enc v2564 v2565 y) := by kernel_rfl
theorem laws_sameFloat_fn (v2564 : Nat) (v2565 : Nat) (F : Fr) (hm : F.ids.length = 0) (h0 : St F [] F.H0) (hA : DVs.Ok F [] [.flt .f64 v2564, .flt .f64 v2565]) {y : Bool} (hy : laws_sameFloat_g v2564 v2565 = some y) : ∃ H', FnOk Try.prog 31 (DVs.av F [.flt .f64 v2564, .flt .f64 v2565]) F.H0 ((laws_sameFloat_enc v2564 v2565 y).1.av F) H' ∧ St F (laws_sameFloat_enc v2564 v2565 y).2 H' ∧ (laws_sameFloat_enc v2564 v2565 y).1.Ok F (laws_sameFloat_enc v2564 v2565 y).2 :=
  fn_fin tok laws_sameFloat_hO mixed Try.func31 Try.call31 (by kernel_rfl) (LoopsOk_eq (l := []) (by kernel_rfl) trivial) (laws_sameFloat_den v2564 v2565) hy hm h0 hA
def laws_sameFloat_v (v2564 : Nat) (v2565 : Nat) : Bool :=
  if (!feq .f64 v2564 v2564) = true then (
   if (!feq .f64 v2564 v2564) = true then (
    !feq .f64 v2565 v2565
   ) else (
    false
   )
  ) else (
   if (!feq .f64 v2565 v2565) = true then (
    if (!feq .f64 v2564 v2564) = true then (
     !feq .f64 v2565 v2565
    ) else (
     false
    )
   ) else (
    if (feq .f64 v2564 (0 : Nat)) = true then (
     if (feq .f64 v2565 (0 : Nat)) = true then (
      (fgrt .f64 (fdiv .f64 (4607182418800017408 : Nat) v2564) (0 : Nat)) == (fgrt .f64 (fdiv .f64 (4607182418800017408 : Nat) v2565) (0 : Nat))
     ) else (
      feq .f64 v2564 v2565
     )
    ) else (
     feq .f64 v2564 v2565
    )
   )
  )
theorem laws_sameFloat_tot (v2564 : Nat) (v2565 : Nat) : laws_sameFloat_g v2564 v2565 = some (laws_sameFloat_v v2564 v2565) := by
  unfold laws_sameFloat_g laws_sameFloat_T laws_sameFloat_v
  simp only [Tree.run]
  repeat' (first | rfl | split)
noncomputable def laws_sameFloat_F : DFn := fun args L =>
  match args with
  | [.flt .f64 v2564, .flt .f64 v2565] =>
    .leaf (.bool (laws_sameFloat_v v2564 v2565), L)
  | _ => .fail
theorem laws_sameFloat_Fok : COk Try.prog 31 laws_sameFloat_F true := by
  intro F L H args r L' hs ha hr
  unfold laws_sameFloat_F at hr
  split at hr
  · rename_i v2564 v2565
    have hy := laws_sameFloat_tot v2564 v2565
    generalize laws_sameFloat_v v2564 v2565 = y at hy hr
    simp only [Tree.run, Option.some.injEq, Prod.mk.injEq] at hr
    obtain ⟨rfl, rfl⟩ := hr
    exact call_ok0 hs (fun k => (([] : List AV)[k]?).getD .top) [.flt .f64 v2564, .flt .f64 v2565] [.flt .f64 v2564, .flt .f64 v2565] (fun F' h0 hi hρ => ⟨by simp [DVs.av, DV.av, BR.av, hρ], laws_sameFloat_fn v2564 v2565 F' (by rw [hi]; rfl) (st_nil hi) ⟨trivial, trivial, trivial⟩ hy⟩) rfl
  · cases hr
/-! laws.eqFloat32S -/
noncomputable def laws_eqFloat32S_l0_T (v2561 : List Nat) (v2562 : List Nat) (s : Int) : Tree ((Int) ⊕ ((Unit) ⊕ (Unit))) :=
  (.br (decide (s < ((v2561.length : Nat) : Int))) (
   (.grd (inb s v2561.length) <|
   (.grd (inb s v2562.length) <|
   (.br (!(laws_sameFloat_v (wid (nth v2561 (Int.toNat s))) (wid (nth v2562 (Int.toNat s))))) (
    .leaf (.inr (.inl ()))
   ) (
    .leaf (.inl (IntKind.i64.wrap (s + (1 : Int))))
   ))))
  ) (
   .leaf (.inr (.inr ()))
  ))

noncomputable def laws_eqFloat32S_l0_g (v2561 : List Nat) (v2562 : List Nat) (s0 : Int) : Option ((Unit) ⊕ (Unit)) := whileM (fun s => (laws_eqFloat32S_l0_T v2561 v2562 s).run) s0
def laws_eqFloat32S_l0_E (v2561 : List Nat) (v2562 : List Nat) (s : Int) : Sd := ([.bslc (BR.root 0) (.f32 v2561), .bslc (BR.root 1) (.f32 v2562), .top, .top, .top, .int .i64 s, .top, .top, .top, .top, .top, .top, .top, .top, .top, .top, .top, .top, .top, .top, .top, .top, .top, .top, .top, .top, .top, .top, .top], [])
def laws_eqFloat32S_l0_X (v2561 : List Nat) (v2562 : List Nat) (x : (Unit) ⊕ (Unit)) : Out := (match x with | .inl x => (.ret, [.top, .top, .top, .top, .lit false, .top, .top, .top, .top, .top, .top, .top, .top, .top, .top, .top, .top, .top, .top, .top, .top, .top, .top, .top, .top, .top, .top, .top, .top], []) | .inr x => (.normal, [.top, .top, .top, .top, .top, .top, .top, .top, .top, .top, .top, .top, .top, .top, .top, .top, .top, .top, .top, .top, .top, .top, .top, .top, .top, .top, .top, .top, .top], []))
def laws_eqFloat32S_l0_kill : List Nat := [0, 0, 1, 1, 1, 0, 1, 1, 1, 1, 1, 1, 1, 1, 1, 1, 1, 1, 1, 1, 1, 1, 1, 1, 1, 1, 1, 1, 1]
def laws_eqFloat32S_l0_nx : Exit → List Nat
  | .exit 0 => [1, 1, 1, 1, 1, 1, 1, 1, 1, 1, 1, 1, 1, 1, 1, 1, 1, 1, 1, 1, 1, 1, 1, 1, 1, 1, 1, 1, 1]
  | .ret => [1, 1, 1, 1, 0, 1, 1, 1, 1, 1, 1, 1, 1, 1, 1, 1, 1, 1, 1, 1, 1, 1, 1, 1, 1, 1, 1, 1, 1]
  | _ => []
noncomputable def laws_eqFloat32S_LO (v2561 : List Nat) (v2562 : List Nat) : LOr := fun id e L =>
  match id with
  | 0 => .need (normA 0 laws_eqFloat32S_l0_kill e L = some (laws_eqFloat32S_l0_E v2561 v2562 (gI (vAt e 5)))) (.call (laws_eqFloat32S_l0_g v2561 v2562 (gI (vAt e 5))) fun x => .sum x (fun b0 => .leaf (laws_eqFloat32S_l0_X v2561 v2562 (.inl b0))) (fun c0 => .leaf (laws_eqFloat32S_l0_X v2561 v2562 (.inr c0))))
  | _ => .fail
noncomputable def laws_eqFloat32S_tab : List (FuncId × DFn × Bool) := [(31, laws_sameFloat_F, true)]
theorem laws_eqFloat32S_hO : OrcOk Try.prog (tabD laws_eqFloat32S_tab) (tabM laws_eqFloat32S_tab) := tabD_cons laws_sameFloat_Fok (tabD_nil _)
theorem laws_eqFloat32S_l0_be (v2561 : List Nat) (v2562 : List Nat) (s : Int) : bodyT TT (tabD laws_eqFloat32S_tab) (tabM laws_eqFloat32S_tab) (laws_eqFloat32S_LO v2561 v2562) 0 laws_eqFloat32S_l0_kill laws_eqFloat32S_l0_nx (bodyOf Try.f20 0) 0 (laws_eqFloat32S_l0_E v2561 v2562 s) = (laws_eqFloat32S_l0_T v2561 v2562 s).bind fun y => .leaf (outS (laws_eqFloat32S_l0_E v2561 v2562) (laws_eqFloat32S_l0_X v2561 v2562) y) := by kernel_rfl
theorem laws_eqFloat32S_l0_ok (v2561 : List Nat) (v2562 : List Nat) : LSound Try.prog 0 (laws_eqFloat32S_LO v2561 v2562) 0 (bodyOf Try.f20 0) := by
  intro e L out h
  exact lo_ok (E := laws_eqFloat32S_l0_E v2561 v2562) (gT := laws_eqFloat32S_l0_T v2561 v2562) (X := laws_eqFloat32S_l0_X v2561 v2562) (s0 := (gI (vAt e 5))) tok laws_eqFloat32S_hO mixed (LoopsOk_eq (l := []) (by kernel_rfl) trivial) (laws_eqFloat32S_l0_be v2561 v2562) rfl (by intro x; (cases x with | inl b => rfl | inr x => exact rfl)) h
noncomputable def laws_eqFloat32S_T (v2561 : List Nat) (v2562 : List Nat) : Tree (Bool) :=
  (.br (!decide (((v2561.length : Nat) : Int) = ((v2562.length : Nat) : Int))) (
   .leaf false
  ) (
   (.need (some (laws_eqFloat32S_l0_E v2561 v2562 (0 : Int)) = some (laws_eqFloat32S_l0_E v2561 v2562 (0 : Int))) <|
   (.call (laws_eqFloat32S_l0_g v2561 v2562 (0 : Int)) fun v2568 =>
   (.sum v2568 (fun v2569 =>
    .leaf false
   ) (fun v2570 =>
    .leaf true
   ))))
  ))

noncomputable def laws_eqFloat32S_g (v2561 : List Nat) (v2562 : List Nat) : Option (Bool) := (laws_eqFloat32S_T v2561 v2562).run
def laws_eqFloat32S_enc (v2561 : List Nat) (v2562 : List Nat) (y : Bool) : Rs := (.bool y, [])
theorem laws_eqFloat32S_den (v2561 : List Nat) (v2562 : List Nat) : (den TT (tabD laws_eqFloat32S_tab) (tabM laws_eqFloat32S_tab) (laws_eqFloat32S_LO v2561 v2562) (codeOf Try.f20) ([.bslc (BR.root 0) (.f32 v2561), .bslc (BR.root 1) (.f32 v2562)] ++ List.replicate (Try.f20.ntmps - ([.bslc (BR.root 0) (.f32 v2561), .bslc (BR.root 1) (.f32 v2562)] : List DV).length) .undef) []).bind (retD TT Try.f20.results.toList 0) = (laws_eqFloat32S_T v2561 v2562).bind fun y => .leaf (laws_eqFloat32S_enc v2561 v2562 y) := by kernel_rfl
theorem laws_eqFloat32S_fn (v2561 : List Nat) (v2562 : List Nat) (F : Fr) (hm : F.ids.length = 0) (h0 : St F [] F.H0) (hA : DVs.Ok F [] [.bslc (BR.root 0) (.f32 v2561), .bslc (BR.root 1) (.f32 v2562)]) {y : Bool} (hy : laws_eqFloat32S_g v2561 v2562 = some y) : ∃ H', FnOk Try.prog 20 (DVs.av F [.bslc (BR.root 0) (.f32 v2561), .bslc (BR.root 1) (.f32 v2562)]) F.H0 ((laws_eqFloat32S_enc v2561 v2562 y).1.av F) H' ∧ St F (laws_eqFloat32S_enc v2561 v2562 y).2 H' ∧ (laws_eqFloat32S_enc v2561 v2562 y).1.Ok F (laws_eqFloat32S_enc v2561 v2562 y).2 :=
  fn_fin tok laws_eqFloat32S_hO mixed Try.func20 Try.call20 (by kernel_rfl) (LoopsOk_eq (l := [(0, bodyOf Try.f20 0)]) (by kernel_rfl) ⟨laws_eqFloat32S_l0_ok v2561 v2562, trivial⟩) (laws_eqFloat32S_den v2561 v2562) hy hm h0 hA
noncomputable def laws_eqFloat32S_F : DFn := fun args L =>
  match args with
  | [a1, a2] =>
    optT (rowF32 L a1) fun v2561 =>
    optT (rowF32 L a2) fun v2562 =>
    .call (laws_eqFloat32S_g v2561 v2562) fun y => .leaf (.bool y, L)
  | _ => .fail
theorem laws_eqFloat32S_Fok : COk Try.prog 20 laws_eqFloat32S_F true := by
  intro F L H args r L' hs ha hr
  unfold laws_eqFloat32S_F at hr
  split at hr
  · rename_i a1 a2
    obtain ⟨v2561, hv2561, hr⟩ := optT_run hr
    obtain ⟨v2562, hv2562, hr⟩ := optT_run hr
    simp only [Tree.run] at hr
    obtain ⟨y, hy, hr⟩ := Option.bind_eq_some_iff.1 hr
    simp only [Tree.run, Option.some.injEq, Prod.mk.injEq] at hr
    obtain ⟨rfl, rfl⟩ := hr
    exact call_ok0 hs (fun k => (([a1.av F, a2.av F] : List AV)[k]?).getD .top) [a1, a2] [.bslc (BR.root 0) (.f32 v2561), .bslc (BR.root 1) (.f32 v2562)] (fun F' h0 hi hρ => ⟨by simp [DVs.av, DV.av, BR.av, hρ], laws_eqFloat32S_fn v2561 v2562 F' (by rw [hi]; rfl) (st_nil hi) ⟨bslc_ok hi (by rw [h0, hρ]; exact rowF32_ok hs (DVs.okAt ha 0 rfl) hv2561), bslc_ok hi (by rw [h0, hρ]; exact rowF32_ok hs (DVs.okAt ha 1 rfl) hv2562), trivial⟩ hy⟩) rfl
  · cases hr
/-! laws.eqMatrix -/
noncomputable def laws_eqMatrix_LO (v2555 : Int) (v2556 : Int) (v2557 : List Nat) (v2558 : Int) (v2559 : Int) (v2560 : List Nat) : LOr := fun id e L =>
  match id with
  | _ => .fail
noncomputable def laws_eqMatrix_tab : List (FuncId × DFn × Bool) := [(20, laws_eqFloat32S_F, true)]
theorem laws_eqMatrix_hO : OrcOk Try.prog (tabD laws_eqMatrix_tab) (tabM laws_eqMatrix_tab) := tabD_cons laws_eqFloat32S_Fok (tabD_nil _)
noncomputable def laws_eqMatrix_T (v2555 : Int) (v2556 : Int) (v2557 : List Nat) (v2558 : Int) (v2559 : Int) (v2560 : List Nat) : Tree (Bool) :=
  (.br (!decide (v2555 = v2558)) (
   .leaf false
  ) (
   (.br (!decide (v2556 = v2559)) (
    .leaf false
   ) (
    (.call (laws_eqFloat32S_g v2557 v2560) fun v2571 =>
    (.br (!v2571) (
     .leaf false
    ) (
     .leaf true
    )))
   ))
  ))

noncomputable def laws_eqMatrix_g (v2555 : Int) (v2556 : Int) (v2557 : List Nat) (v2558 : Int) (v2559 : Int) (v2560 : List Nat) : Option (Bool) := (laws_eqMatrix_T v2555 v2556 v2557 v2558 v2559 v2560).run
def laws_eqMatrix_enc (v2555 : Int) (v2556 : Int) (v2557 : List Nat) (v2558 : Int) (v2559 : Int) (v2560 : List Nat) (y : Bool) : Rs := (.bool y, [])
theorem laws_eqMatrix_den (v2555 : Int) (v2556 : Int) (v2557 : List Nat) (v2558 : Int) (v2559 : Int) (v2560 : List Nat) : (den TT (tabD laws_eqMatrix_tab) (tabM laws_eqMatrix_tab) (laws_eqMatrix_LO v2555 v2556 v2557 v2558 v2559 v2560) (codeOf Try.f19) ([.agg [.int .i64 v2555, .int .i64 v2556, .bslc (BR.root 0) (.f32 v2557)], .agg [.int .i64 v2558, .int .i64 v2559, .bslc (BR.root 1) (.f32 v2560)]] ++ List.replicate (Try.f19.ntmps - ([.agg [.int .i64 v2555, .int .i64 v2556, .bslc (BR.root 0) (.f32 v2557)], .agg [.int .i64 v2558, .int .i64 v2559, .bslc (BR.root 1) (.f32 v2560)]] : List DV).length) .undef) []).bind (retD TT Try.f19.results.toList 0) = (laws_eqMatrix_T v2555 v2556 v2557 v2558 v2559 v2560).bind fun y => .leaf (laws_eqMatrix_enc v2555 v2556 v2557 v2558 v2559 v2560 y) := by kernel_rfl
theorem laws_eqMatrix_fn (v2555 : Int) (v2556 : Int) (v2557 : List Nat) (v2558 : Int) (v2559 : Int) (v2560 : List Nat) (F : Fr) (hm : F.ids.length = 0) (h0 : St F [] F.H0) (hA : DVs.Ok F [] [.agg [.int .i64 v2555, .int .i64 v2556, .bslc (BR.root 0) (.f32 v2557)], .agg [.int .i64 v2558, .int .i64 v2559, .bslc (BR.root 1) (.f32 v2560)]]) {y : Bool} (hy : laws_eqMatrix_g v2555 v2556 v2557 v2558 v2559 v2560 = some y) : ∃ H', FnOk Try.prog 19 (DVs.av F [.agg [.int .i64 v2555, .int .i64 v2556, .bslc (BR.root 0) (.f32 v2557)], .agg [.int .i64 v2558, .int .i64 v2559, .bslc (BR.root 1) (.f32 v2560)]]) F.H0 ((laws_eqMatrix_enc v2555 v2556 v2557 v2558 v2559 v2560 y).1.av F) H' ∧ St F (laws_eqMatrix_enc v2555 v2556 v2557 v2558 v2559 v2560 y).2 H' ∧ (laws_eqMatrix_enc v2555 v2556 v2557 v2558 v2559 v2560 y).1.Ok F (laws_eqMatrix_enc v2555 v2556 v2557 v2558 v2559 v2560 y).2 :=
  fn_fin tok laws_eqMatrix_hO mixed Try.func19 Try.call19 (by kernel_rfl) (LoopsOk_eq (l := []) (by kernel_rfl) trivial) (laws_eqMatrix_den v2555 v2556 v2557 v2558 v2559 v2560) hy hm h0 hA
noncomputable def laws_eqMatrix_F : DFn := fun args L =>
  match args with
  | [.agg [.int .i64 v2555, .int .i64 v2556, a1], .agg [.int .i64 v2558, .int .i64 v2559, a2]] =>
    optT (rowF32 L a1) fun v2557 =>
    optT (rowF32 L a2) fun v2560 =>
    .call (laws_eqMatrix_g v2555 v2556 v2557 v2558 v2559 v2560) fun y => .leaf (.bool y, L)
  | _ => .fail
theorem laws_eqMatrix_Fok : COk Try.prog 19 laws_eqMatrix_F true := by
  intro F L H args r L' hs ha hr
  unfold laws_eqMatrix_F at hr
  split at hr
  · rename_i v2555 v2556 a1 v2558 v2559 a2
    obtain ⟨v2557, hv2557, hr⟩ := optT_run hr
    obtain ⟨v2560, hv2560, hr⟩ := optT_run hr
    simp only [Tree.run] at hr
    obtain ⟨y, hy, hr⟩ := Option.bind_eq_some_iff.1 hr
    simp only [Tree.run, Option.some.injEq, Prod.mk.injEq] at hr
    obtain ⟨rfl, rfl⟩ := hr
    exact call_ok0 hs (fun k => (([a1.av F, a2.av F] : List AV)[k]?).getD .top) [.agg [.int .i64 v2555, .int .i64 v2556, a1], .agg [.int .i64 v2558, .int .i64 v2559, a2]] [.agg [.int .i64 v2555, .int .i64 v2556, .bslc (BR.root 0) (.f32 v2557)], .agg [.int .i64 v2558, .int .i64 v2559, .bslc (BR.root 1) (.f32 v2560)]] (fun F' h0 hi hρ => ⟨by simp [DVs.av, DV.av, BR.av, hρ], laws_eqMatrix_fn v2555 v2556 v2557 v2558 v2559 v2560 F' (by rw [hi]; rfl) (st_nil hi) ⟨⟨trivial, trivial, bslc_ok hi (by rw [h0, hρ]; exact rowF32_ok hs (DVs.okAt (DVs.okAt ha 0 rfl) 2 rfl) hv2557), trivial⟩, ⟨trivial, trivial, bslc_ok hi (by rw [h0, hρ]; exact rowF32_ok hs (DVs.okAt (DVs.okAt ha 1 rfl) 2 rfl) hv2560), trivial⟩, trivial⟩ hy⟩) rfl
  · cases hr
/-! laws.markFloat32S -/
noncomputable def laws_markFloat32S_l0_T (s : Int × Int × (List Nat)) : Tree ((Int × Int × (List Nat)) ⊕ (Int × (List Nat))) :=
  (.br (decide (s.2.1 < (((s.2.2).length : Nat) : Int))) (
   (.grd (inb s.2.1 ((s.2.2).length)) <|
   .leaf (.inl (IntKind.i64.wrap (s.1 + (1 : Int)), IntKind.i64.wrap (s.2.1 + (1 : Int)), List.set s.2.2 (Int.toNat s.2.1) (fofint .f32 s.1))))
  ) (
   .leaf (.inr (s.1, s.2.2))
  ))

noncomputable def laws_markFloat32S_l0_g (s0 : Int × Int × (List Nat)) : Option (Int × (List Nat)) := whileM (fun s => (laws_markFloat32S_l0_T s).run) s0
def laws_markFloat32S_l0_E (v2584 : List Nat) (v2585 : Int) (s : Int × Int × (List Nat)) : Sd := ([.own 0 0 ((s.2.2).length), .int .i64 s.1, .top, .top, .top, .int .i64 s.2.1, .top, .top, .top, .top, .top, .top, .top, .top, .top, .top, .top, .top, .top, .top], [.row (.f32 s.2.2) 0])
def laws_markFloat32S_l0_X (v2584 : List Nat) (v2585 : Int) (x : Int × (List Nat)) : Out := (.normal, [.top, .int .i64 x.1, .top, .top, .top, .top, .top, .top, .top, .top, .top, .top, .top, .top, .top, .top, .top, .top, .top, .top], [.row (.f32 x.2) 0])
def laws_markFloat32S_l0_kill : List Nat := [0, 0, 1, 1, 1, 0, 1, 1, 1, 1, 1, 1, 1, 1, 1, 1, 1, 1, 1, 1]
def laws_markFloat32S_l0_nx : Exit → List Nat
  | .exit 0 => [1, 0, 1, 1, 1, 1, 1, 1, 1, 1, 1, 1, 1, 1, 1, 1, 1, 1, 1, 1]
  | .ret => [1, 1, 1, 1, 0, 1, 1, 1, 1, 1, 1, 1, 1, 1, 1, 1, 1, 1, 1, 1]
  | _ => []
noncomputable def laws_markFloat32S_LO (v2584 : List Nat) (v2585 : Int) : LOr := fun id e L =>
  match id with
  | 0 => .need (normA 1 laws_markFloat32S_l0_kill e L = some (laws_markFloat32S_l0_E v2584 v2585 ((gI (vAt e 1)), (gI (vAt e 5)), (gRF L (vAt e 0))))) (.call (laws_markFloat32S_l0_g ((gI (vAt e 1)), (gI (vAt e 5)), (gRF L (vAt e 0)))) fun x => .leaf (laws_markFloat32S_l0_X v2584 v2585 x))
  | _ => .fail
noncomputable def laws_markFloat32S_tab : List (FuncId × DFn × Bool) := []
theorem laws_markFloat32S_hO : OrcOk Try.prog (tabD laws_markFloat32S_tab) (tabM laws_markFloat32S_tab) := tabD_nil _
theorem laws_markFloat32S_l0_be (v2584 : List Nat) (v2585 : Int) (s : Int × Int × (List Nat)) : bodyT TT (tabD laws_markFloat32S_tab) (tabM laws_markFloat32S_tab) (laws_markFloat32S_LO v2584 v2585) 1 laws_markFloat32S_l0_kill laws_markFloat32S_l0_nx (bodyOf Try.f22 0) 0 (laws_markFloat32S_l0_E v2584 v2585 s) = (laws_markFloat32S_l0_T s).bind fun y => .leaf (outS (laws_markFloat32S_l0_E v2584 v2585) (laws_markFloat32S_l0_X v2584 v2585) y) := by kernel_rfl
theorem laws_markFloat32S_l0_ok (v2584 : List Nat) (v2585 : Int) : LSound Try.prog 1 (laws_markFloat32S_LO v2584 v2585) 0 (bodyOf Try.f22 0) := by
  intro e L out h
  exact lo_ok (E := laws_markFloat32S_l0_E v2584 v2585) (gT := laws_markFloat32S_l0_T) (X := laws_markFloat32S_l0_X v2584 v2585) (s0 := ((gI (vAt e 1)), (gI (vAt e 5)), (gRF L (vAt e 0)))) tok laws_markFloat32S_hO mixed (LoopsOk_eq (l := []) (by kernel_rfl) trivial) (laws_markFloat32S_l0_be v2584 v2585) rfl (by intro x; rfl) h
noncomputable def laws_markFloat32S_T (v2584 : List Nat) (v2585 : Int) : Tree (Int × (List Nat)) :=
  (.need (some (laws_markFloat32S_l0_E v2584 v2585 (v2585, (0 : Int), v2584)) = some (laws_markFloat32S_l0_E v2584 v2585 (v2585, (0 : Int), v2584))) <|
  (.call (laws_markFloat32S_l0_g (v2585, (0 : Int), v2584)) fun v2594 =>
  .leaf (v2594.1, v2594.2)))

noncomputable def laws_markFloat32S_g (v2584 : List Nat) (v2585 : Int) : Option (Int × (List Nat)) := (laws_markFloat32S_T v2584 v2585).run
def laws_markFloat32S_enc (v2584 : List Nat) (v2585 : Int) (y : Int × (List Nat)) : Rs := (.int .i64 y.1, [.row (.f32 y.2) 0])
theorem laws_markFloat32S_den (v2584 : List Nat) (v2585 : Int) : (den TT (tabD laws_markFloat32S_tab) (tabM laws_markFloat32S_tab) (laws_markFloat32S_LO v2584 v2585) (codeOf Try.f22) ([.own 0 0 v2584.length, .int .i64 v2585] ++ List.replicate (Try.f22.ntmps - ([.own 0 0 v2584.length, .int .i64 v2585] : List DV).length) .undef) [.row (.f32 v2584) 0]).bind (retD TT Try.f22.results.toList 1) = (laws_markFloat32S_T v2584 v2585).bind fun y => .leaf (laws_markFloat32S_enc v2584 v2585 y) := by kernel_rfl
theorem laws_markFloat32S_fn (v2584 : List Nat) (v2585 : Int) (F : Fr) (hm : F.ids.length = 1) (h0 : St F [.row (.f32 v2584) 0] F.H0) (hA : DVs.Ok F [.row (.f32 v2584) 0] [.own 0 0 v2584.length, .int .i64 v2585]) {y : Int × (List Nat)} (hy : laws_markFloat32S_g v2584 v2585 = some y) : ∃ H', FnOk Try.prog 22 (DVs.av F [.own 0 0 v2584.length, .int .i64 v2585]) F.H0 ((laws_markFloat32S_enc v2584 v2585 y).1.av F) H' ∧ St F (laws_markFloat32S_enc v2584 v2585 y).2 H' ∧ (laws_markFloat32S_enc v2584 v2585 y).1.Ok F (laws_markFloat32S_enc v2584 v2585 y).2 :=
  fn_fin tok laws_markFloat32S_hO mixed Try.func22 Try.call22 (by kernel_rfl) (LoopsOk_eq (l := [(0, bodyOf Try.f22 0)]) (by kernel_rfl) ⟨laws_markFloat32S_l0_ok v2584 v2585, trivial⟩) (laws_markFloat32S_den v2584 v2585) hy hm h0 hA
noncomputable def laws_markFloat32S_F : DFn := fun args L =>
  match args with
  | [a1, .int .i64 v2585] =>
    optT (ownF32 L a1) fun qv2584 =>
    (match sepB [qv2584.1] [] with
    | true =>
    .call (laws_markFloat32S_g qv2584.2 v2585) fun y => .grd (decide (y.2.length = qv2584.2.length)) (.leaf (.int .i64 y.1, setRows L ([qv2584.1].zip [.f32 y.2])))
    | false => .fail)
  | _ => .fail
theorem laws_markFloat32S_Fok : COk Try.prog 22 laws_markFloat32S_F false := by
  intro F L H args r L' hs ha hr
  unfold laws_markFloat32S_F at hr
  split at hr
  · rename_i a1 v2585
    obtain ⟨⟨jv2584, v2584⟩, hqv2584, hr⟩ := optT_run hr
    simp only at hr
    split at hr
    · rename_i hsep
      obtain ⟨hnd, hsepv⟩ := sepB_spec hsep
      simp only [Tree.run] at hr
      obtain ⟨y, hy, hr⟩ := Option.bind_eq_some_iff.1 hr
      try simp only [Tree.run] at hr
      obtain ⟨hl0, hr⟩ := ite_run hr
      simp only [Option.some.injEq, Prod.mk.injEq] at hr
      obtain ⟨rfl, rfl⟩ := hr
      obtain ⟨hr0, hu0, ha0, hb0⟩ := (ownR_spec (DVs.okAt ha 0 rfl) (ownF32_or hqv2584))
      exact mut_ok hs (fun k => (([a1.av F] : List AV)[k]?).getD .top) [a1, .int .i64 v2585] [.own 0 0 v2584.length, .int .i64 v2585] [jv2584] [.f32 v2584] [.f32 y.2] hnd rfl rfl (fun i j q h1 h2 => by
          rcases i with _ | i
          · simp at h1 h2; subst h1; subst h2; exact hr0
          · simp at h1) (fun i q q' h1 h2 => by
          rcases i with _ | i
          · simp at h1 h2; subst h1; subst h2; exact of_decide_eq_true hl0
          · simp at h1) (fun j hj => by simp at hj; subst hj; simp [DVs.refs, DV.refs, hu0]) (fun F' h0 hi hρ hst hS => ⟨by (have ab0 : F'.abs 0 = F.abs jv2584 := (by simp [Fr.abs, hi]); simp [DVs.av, DV.av, BR.av, hρ, Row.len, ha0, ab0]), by
          obtain ⟨H1, k1, k2, _⟩ := laws_markFloat32S_fn v2584 v2585 F' (by rw [hi]; rfl) hst ⟨⟨_, rfl, Nat.le_refl _, Nat.le_refl _, fun _ => rfl, (ownR_spec (DVs.okAt ha 0 rfl) (ownF32_or hqv2584)).2.2.2⟩, trivial, trivial⟩ hy
          exact ⟨H1, k1, k2⟩⟩) (fun F' => rfl) (fun L' => trivial)
    · cases hr
  · cases hr
/-! laws.markMatrix -/
noncomputable def laws_markMatrix_LO (v2595 : Int) (v2596 : Int) (v2597 : List Nat) (v2598 : Int) : LOr := fun id e L =>
  match id with
  | _ => .fail
noncomputable def laws_markMatrix_tab : List (FuncId × DFn × Bool) := [(22, laws_markFloat32S_F, false)]
theorem laws_markMatrix_hO : OrcOk Try.prog (tabD laws_markMatrix_tab) (tabM laws_markMatrix_tab) := tabD_cons laws_markFloat32S_Fok (tabD_nil _)
noncomputable def laws_markMatrix_T (v2597 : List Nat) (v2598 : Int) : Tree (Int × (List Nat)) :=
  (.call (laws_markFloat32S_g v2597 v2598) fun v2599 =>
  (.grd (decide (v2599.2.length = v2597.length)) <|
  .leaf (v2599.1, v2599.2)))

noncomputable def laws_markMatrix_g (v2597 : List Nat) (v2598 : Int) : Option (Int × (List Nat)) := (laws_markMatrix_T v2597 v2598).run
def laws_markMatrix_enc (v2595 : Int) (v2596 : Int) (v2597 : List Nat) (v2598 : Int) (y : Int × (List Nat)) : Rs := (.int .i64 y.1, [.row (.f32 y.2) 0])
theorem laws_markMatrix_den (v2595 : Int) (v2596 : Int) (v2597 : List Nat) (v2598 : Int) : (den TT (tabD laws_markMatrix_tab) (tabM laws_markMatrix_tab) (laws_markMatrix_LO v2595 v2596 v2597 v2598) (codeOf Try.f21) ([.agg [.int .i64 v2595, .int .i64 v2596, .own 0 0 v2597.length], .int .i64 v2598] ++ List.replicate (Try.f21.ntmps - ([.agg [.int .i64 v2595, .int .i64 v2596, .own 0 0 v2597.length], .int .i64 v2598] : List DV).length) .undef) [.row (.f32 v2597) 0]).bind (retD TT Try.f21.results.toList 1) = (laws_markMatrix_T v2597 v2598).bind fun y => .leaf (laws_markMatrix_enc v2595 v2596 v2597 v2598 y) := by kernel_rfl
theorem laws_markMatrix_fn (v2595 : Int) (v2596 : Int) (v2597 : List Nat) (v2598 : Int) (F : Fr) (hm : F.ids.length = 1) (h0 : St F [.row (.f32 v2597) 0] F.H0) (hA : DVs.Ok F [.row (.f32 v2597) 0] [.agg [.int .i64 v2595, .int .i64 v2596, .own 0 0 v2597.length], .int .i64 v2598]) {y : Int × (List Nat)} (hy : laws_markMatrix_g v2597 v2598 = some y) : ∃ H', FnOk Try.prog 21 (DVs.av F [.agg [.int .i64 v2595, .int .i64 v2596, .own 0 0 v2597.length], .int .i64 v2598]) F.H0 ((laws_markMatrix_enc v2595 v2596 v2597 v2598 y).1.av F) H' ∧ St F (laws_markMatrix_enc v2595 v2596 v2597 v2598 y).2 H' ∧ (laws_markMatrix_enc v2595 v2596 v2597 v2598 y).1.Ok F (laws_markMatrix_enc v2595 v2596 v2597 v2598 y).2 :=
  fn_fin tok laws_markMatrix_hO mixed Try.func21 Try.call21 (by kernel_rfl) (LoopsOk_eq (l := []) (by kernel_rfl) trivial) (laws_markMatrix_den v2595 v2596 v2597 v2598) hy hm h0 hA
noncomputable def laws_markMatrix_F : DFn := fun args L =>
  match args with
  | [.agg [.int .i64 v2595, .int .i64 v2596, a1], .int .i64 v2598] =>
    optT (ownF32 L a1) fun qv2597 =>
    (match sepB [qv2597.1] [] with
    | true =>
    .call (laws_markMatrix_g qv2597.2 v2598) fun y => .grd (decide (y.2.length = qv2597.2.length)) (.leaf (.int .i64 y.1, setRows L ([qv2597.1].zip [.f32 y.2])))
    | false => .fail)
  | _ => .fail
theorem laws_markMatrix_Fok : COk Try.prog 21 laws_markMatrix_F false := by
  intro F L H args r L' hs ha hr
  unfold laws_markMatrix_F at hr
  split at hr
  · rename_i v2595 v2596 a1 v2598
    obtain ⟨⟨jv2597, v2597⟩, hqv2597, hr⟩ := optT_run hr
    simp only at hr
    split at hr
    · rename_i hsep
      obtain ⟨hnd, hsepv⟩ := sepB_spec hsep
      simp only [Tree.run] at hr
      obtain ⟨y, hy, hr⟩ := Option.bind_eq_some_iff.1 hr
      try simp only [Tree.run] at hr
      obtain ⟨hl0, hr⟩ := ite_run hr
      simp only [Option.some.injEq, Prod.mk.injEq] at hr
      obtain ⟨rfl, rfl⟩ := hr
      obtain ⟨hr0, hu0, ha0, hb0⟩ := (ownR_spec (DVs.okAt (DVs.okAt ha 0 rfl) 2 rfl) (ownF32_or hqv2597))
      exact mut_ok hs (fun k => (([a1.av F] : List AV)[k]?).getD .top) [.agg [.int .i64 v2595, .int .i64 v2596, a1], .int .i64 v2598] [.agg [.int .i64 v2595, .int .i64 v2596, .own 0 0 v2597.length], .int .i64 v2598] [jv2597] [.f32 v2597] [.f32 y.2] hnd rfl rfl (fun i j q h1 h2 => by
          rcases i with _ | i
          · simp at h1 h2; subst h1; subst h2; exact hr0
          · simp at h1) (fun i q q' h1 h2 => by
          rcases i with _ | i
          · simp at h1 h2; subst h1; subst h2; exact of_decide_eq_true hl0
          · simp at h1) (fun j hj => by simp at hj; subst hj; simp [DVs.refs, DV.refs, hu0]) (fun F' h0 hi hρ hst hS => ⟨by (have ab0 : F'.abs 0 = F.abs jv2597 := (by simp [Fr.abs, hi]); simp [DVs.av, DV.av, BR.av, hρ, Row.len, ha0, ab0]), by
          obtain ⟨H1, k1, k2, _⟩ := laws_markMatrix_fn v2595 v2596 v2597 v2598 F' (by rw [hi]; rfl) hst ⟨⟨trivial, trivial, ⟨_, rfl, Nat.le_refl _, Nat.le_refl _, fun _ => rfl, (ownR_spec (DVs.okAt (DVs.okAt ha 0 rfl) 2 rfl) (ownF32_or hqv2597)).2.2.2⟩, trivial⟩, trivial, trivial⟩ hy
          exact ⟨H1, k1, k2⟩⟩) (fun F' => rfl) (fun L' => trivial)
    · cases hr
  · cases hr
/-! laws.markFloat32S -/
noncomputable def laws_markFloat32S_i1_l0_T (s : Unit) : Tree ((Unit) ⊕ (Unit)) :=
  (.br (decide ((0 : Int) < (0 : Int))) (
   .fail
  ) (
   .leaf (.inr ())
  ))

noncomputable def laws_markFloat32S_i1_l0_g (s0 : Unit) : Option (Unit) := whileM (fun s => (laws_markFloat32S_i1_l0_T s).run) s0
def laws_markFloat32S_i1_l0_E (v2606 : Int) (s : Unit) : Sd := ([.nilslc, .int .i64 v2606, .top, .top, .top, .int .i64 (0 : Int), .top, .top, .top, .top, .top, .top, .top, .top, .top, .top, .top, .top, .top, .top], [])
def laws_markFloat32S_i1_l0_X (v2606 : Int) (x : Unit) : Out := (.normal, [.top, .int .i64 v2606, .top, .top, .top, .top, .top, .top, .top, .top, .top, .top, .top, .top, .top, .top, .top, .top, .top, .top], [])
def laws_markFloat32S_i1_l0_kill : List Nat := [0, 0, 1, 1, 1, 0, 1, 1, 1, 1, 1, 1, 1, 1, 1, 1, 1, 1, 1, 1]
def laws_markFloat32S_i1_l0_nx : Exit → List Nat
  | .exit 0 => [1, 0, 1, 1, 1, 1, 1, 1, 1, 1, 1, 1, 1, 1, 1, 1, 1, 1, 1, 1]
  | .ret => [1, 1, 1, 1, 0, 1, 1, 1, 1, 1, 1, 1, 1, 1, 1, 1, 1, 1, 1, 1]
  | _ => []
noncomputable def laws_markFloat32S_i1_LO (v2606 : Int) : LOr := fun id e L =>
  match id with
  | 0 => .need (normA 0 laws_markFloat32S_i1_l0_kill e L = some (laws_markFloat32S_i1_l0_E v2606 ())) (.call (laws_markFloat32S_i1_l0_g ()) fun x => .leaf (laws_markFloat32S_i1_l0_X v2606 x))
  | _ => .fail
noncomputable def laws_markFloat32S_i1_tab : List (FuncId × DFn × Bool) := []
theorem laws_markFloat32S_i1_hO : OrcOk Try.prog (tabD laws_markFloat32S_i1_tab) (tabM laws_markFloat32S_i1_tab) := tabD_nil _
theorem laws_markFloat32S_i1_l0_be (v2606 : Int) (s : Unit) : bodyT TT (tabD laws_markFloat32S_i1_tab) (tabM laws_markFloat32S_i1_tab) (laws_markFloat32S_i1_LO v2606) 0 laws_markFloat32S_i1_l0_kill laws_markFloat32S_i1_l0_nx (bodyOf Try.f22 0) 0 (laws_markFloat32S_i1_l0_E v2606 s) = (laws_markFloat32S_i1_l0_T s).bind fun y => .leaf (outS (laws_markFloat32S_i1_l0_E v2606) (laws_markFloat32S_i1_l0_X v2606) y) := by kernel_rfl
theorem laws_markFloat32S_i1_l0_ok (v2606 : Int) : LSound Try.prog 0 (laws_markFloat32S_i1_LO v2606) 0 (bodyOf Try.f22 0) := by
  intro e L out h
  exact lo_ok (E := laws_markFloat32S_i1_l0_E v2606) (gT := laws_markFloat32S_i1_l0_T) (X := laws_markFloat32S_i1_l0_X v2606) (s0 := ()) tok laws_markFloat32S_i1_hO mixed (LoopsOk_eq (l := []) (by kernel_rfl) trivial) (laws_markFloat32S_i1_l0_be v2606) rfl (by intro x; rfl) h
noncomputable def laws_markFloat32S_i1_T (v2606 : Int) : Tree (Int) :=
  (.need (some (laws_markFloat32S_i1_l0_E v2606 ()) = some (laws_markFloat32S_i1_l0_E v2606 ())) <|
  (.call (laws_markFloat32S_i1_l0_g ()) fun v2609 =>
  .leaf v2606))

noncomputable def laws_markFloat32S_i1_g (v2606 : Int) : Option (Int) := (laws_markFloat32S_i1_T v2606).run
def laws_markFloat32S_i1_enc (v2606 : Int) (y : Int) : Rs := (.int .i64 y, [])
theorem laws_markFloat32S_i1_den (v2606 : Int) : (den TT (tabD laws_markFloat32S_i1_tab) (tabM laws_markFloat32S_i1_tab) (laws_markFloat32S_i1_LO v2606) (codeOf Try.f22) ([.nilslc, .int .i64 v2606] ++ List.replicate (Try.f22.ntmps - ([.nilslc, .int .i64 v2606] : List DV).length) .undef) []).bind (retD TT Try.f22.results.toList 0) = (laws_markFloat32S_i1_T v2606).bind fun y => .leaf (laws_markFloat32S_i1_enc v2606 y) := by kernel_rfl
theorem laws_markFloat32S_i1_fn (v2606 : Int) (F : Fr) (hm : F.ids.length = 0) (h0 : St F [] F.H0) (hA : DVs.Ok F [] [.nilslc, .int .i64 v2606]) {y : Int} (hy : laws_markFloat32S_i1_g v2606 = some y) : ∃ H', FnOk Try.prog 22 (DVs.av F [.nilslc, .int .i64 v2606]) F.H0 ((laws_markFloat32S_i1_enc v2606 y).1.av F) H' ∧ St F (laws_markFloat32S_i1_enc v2606 y).2 H' ∧ (laws_markFloat32S_i1_enc v2606 y).1.Ok F (laws_markFloat32S_i1_enc v2606 y).2 :=
  fn_fin tok laws_markFloat32S_i1_hO mixed Try.func22 Try.call22 (by kernel_rfl) (LoopsOk_eq (l := [(0, bodyOf Try.f22 0)]) (by kernel_rfl) ⟨laws_markFloat32S_i1_l0_ok v2606, trivial⟩) (laws_markFloat32S_i1_den v2606) hy hm h0 hA
noncomputable def laws_markFloat32S_i1_F : DFn := fun args L =>
  match args with
  | [.nilslc, .int .i64 v2606] =>
    .call (laws_markFloat32S_i1_g v2606) fun y => .leaf (.int .i64 y, L)
  | _ => .fail
theorem laws_markFloat32S_i1_Fok : COk Try.prog 22 laws_markFloat32S_i1_F true := by
  intro F L H args r L' hs ha hr
  unfold laws_markFloat32S_i1_F at hr
  split at hr
  · rename_i v2606
    simp only [Tree.run] at hr
    obtain ⟨y, hy, hr⟩ := Option.bind_eq_some_iff.1 hr
    simp only [Tree.run, Option.some.injEq, Prod.mk.injEq] at hr
    obtain ⟨rfl, rfl⟩ := hr
    exact call_ok0 hs (fun k => (([] : List AV)[k]?).getD .top) [.nilslc, .int .i64 v2606] [.nilslc, .int .i64 v2606] (fun F' h0 hi hρ => ⟨by simp [DVs.av, DV.av, BR.av, hρ], laws_markFloat32S_i1_fn v2606 F' (by rw [hi]; rfl) (st_nil hi) ⟨trivial, trivial, trivial⟩ hy⟩) rfl
  · cases hr
/-! laws.markMatrix -/
noncomputable def laws_markMatrix_i1_LO (v2603 : Int) (v2604 : Int) (v2605 : Int) : LOr := fun id e L =>
  match id with
  | _ => .fail
noncomputable def laws_markMatrix_i1_tab : List (FuncId × DFn × Bool) := [(22, laws_markFloat32S_i1_F, true)]
theorem laws_markMatrix_i1_hO : OrcOk Try.prog (tabD laws_markMatrix_i1_tab) (tabM laws_markMatrix_i1_tab) := tabD_cons laws_markFloat32S_i1_Fok (tabD_nil _)
noncomputable def laws_markMatrix_i1_T (v2605 : Int) : Tree (Int) :=
  (.call (laws_markFloat32S_i1_g v2605) fun v2610 =>
  .leaf v2610)

noncomputable def laws_markMatrix_i1_g (v2605 : Int) : Option (Int) := (laws_markMatrix_i1_T v2605).run
def laws_markMatrix_i1_enc (v2603 : Int) (v2604 : Int) (v2605 : Int) (y : Int) : Rs := (.int .i64 y, [])
theorem laws_markMatrix_i1_den (v2603 : Int) (v2604 : Int) (v2605 : Int) : (den TT (tabD laws_markMatrix_i1_tab) (tabM laws_markMatrix_i1_tab) (laws_markMatrix_i1_LO v2603 v2604 v2605) (codeOf Try.f21) ([.agg [.int .i64 v2603, .int .i64 v2604, .nilslc], .int .i64 v2605] ++ List.replicate (Try.f21.ntmps - ([.agg [.int .i64 v2603, .int .i64 v2604, .nilslc], .int .i64 v2605] : List DV).length) .undef) []).bind (retD TT Try.f21.results.toList 0) = (laws_markMatrix_i1_T v2605).bind fun y => .leaf (laws_markMatrix_i1_enc v2603 v2604 v2605 y) := by kernel_rfl
theorem laws_markMatrix_i1_fn (v2603 : Int) (v2604 : Int) (v2605 : Int) (F : Fr) (hm : F.ids.length = 0) (h0 : St F [] F.H0) (hA : DVs.Ok F [] [.agg [.int .i64 v2603, .int .i64 v2604, .nilslc], .int .i64 v2605]) {y : Int} (hy : laws_markMatrix_i1_g v2605 = some y) : ∃ H', FnOk Try.prog 21 (DVs.av F [.agg [.int .i64 v2603, .int .i64 v2604, .nilslc], .int .i64 v2605]) F.H0 ((laws_markMatrix_i1_enc v2603 v2604 v2605 y).1.av F) H' ∧ St F (laws_markMatrix_i1_enc v2603 v2604 v2605 y).2 H' ∧ (laws_markMatrix_i1_enc v2603 v2604 v2605 y).1.Ok F (laws_markMatrix_i1_enc v2603 v2604 v2605 y).2 :=
  fn_fin tok laws_markMatrix_i1_hO mixed Try.func21 Try.call21 (by kernel_rfl) (LoopsOk_eq (l := []) (by kernel_rfl) trivial) (laws_markMatrix_i1_den v2603 v2604 v2605) hy hm h0 hA
noncomputable def laws_markMatrix_i1_F : DFn := fun args L =>
  match args with
  | [.agg [.int .i64 v2603, .int .i64 v2604, .nilslc], .int .i64 v2605] =>
    .call (laws_markMatrix_i1_g v2605) fun y => .leaf (.int .i64 y, L)
  | _ => .fail
theorem laws_markMatrix_i1_Fok : COk Try.prog 21 laws_markMatrix_i1_F true := by
  intro F L H args r L' hs ha hr
  unfold laws_markMatrix_i1_F at hr
  split at hr
  · rename_i v2603 v2604 v2605
    simp only [Tree.run] at hr
    obtain ⟨y, hy, hr⟩ := Option.bind_eq_some_iff.1 hr
    simp only [Tree.run, Option.some.injEq, Prod.mk.injEq] at hr
    obtain ⟨rfl, rfl⟩ := hr
    exact call_ok0 hs (fun k => (([] : List AV)[k]?).getD .top) [.agg [.int .i64 v2603, .int .i64 v2604, .nilslc], .int .i64 v2605] [.agg [.int .i64 v2603, .int .i64 v2604, .nilslc], .int .i64 v2605] (fun F' h0 hi hρ => ⟨by simp [DVs.av, DV.av, BR.av, hρ], laws_markMatrix_i1_fn v2603 v2604 v2605 F' (by rw [hi]; rfl) (st_nil hi) ⟨⟨trivial, trivial, trivial, trivial⟩, trivial, trivial⟩ hy⟩) rfl
  · cases hr
/-! laws.heldFloat32S -/
noncomputable def laws_heldFloat32S_l0_T (v2617 : List Nat) (s : Int × Int) : Tree ((Int × Int) ⊕ ((Unit) ⊕ (Int))) :=
  (.br (decide (s.2 < ((v2617.length : Nat) : Int))) (
   (.grd (inb s.2 v2617.length) <|
   (.br (!feq .f32 (nth v2617 (Int.toNat s.2)) (fofint .f32 s.1)) (
    .leaf (.inr (.inl ()))
   ) (
    .leaf (.inl (IntKind.i64.wrap (s.1 + (1 : Int)), IntKind.i64.wrap (s.2 + (1 : Int))))
   )))
  ) (
   .leaf (.inr (.inr s.1))
  ))

noncomputable def laws_heldFloat32S_l0_g (v2617 : List Nat) (s0 : Int × Int) : Option ((Unit) ⊕ (Int)) := whileM (fun s => (laws_heldFloat32S_l0_T v2617 s).run) s0
def laws_heldFloat32S_l0_E (v2617 : List Nat) (v2618 : Int) (s : Int × Int) : Sd := ([.bslc (BR.root 0) (.f32 v2617), .int .i64 s.1, .top, .top, .top, .int .i64 s.2, .top, .top, .top, .top, .top, .top, .top, .top, .top, .top, .top, .top, .top, .top, .top, .top], [])
def laws_heldFloat32S_l0_X (v2617 : List Nat) (v2618 : Int) (x : (Unit) ⊕ (Int)) : Out := (match x with | .inl x => (.ret, [.top, .top, .top, .top, .int .i64 (-1 : Int), .top, .top, .top, .top, .top, .top, .top, .top, .top, .top, .top, .top, .top, .top, .top, .top, .top], []) | .inr x => (.normal, [.top, .int .i64 x, .top, .top, .top, .top, .top, .top, .top, .top, .top, .top, .top, .top, .top, .top, .top, .top, .top, .top, .top, .top], []))
def laws_heldFloat32S_l0_kill : List Nat := [0, 0, 1, 1, 1, 0, 1, 1, 1, 1, 1, 1, 1, 1, 1, 1, 1, 1, 1, 1, 1, 1]
def laws_heldFloat32S_l0_nx : Exit → List Nat
  | .exit 0 => [1, 0, 1, 1, 1, 1, 1, 1, 1, 1, 1, 1, 1, 1, 1, 1, 1, 1, 1, 1, 1, 1]
  | .ret => [1, 1, 1, 1, 0, 1, 1, 1, 1, 1, 1, 1, 1, 1, 1, 1, 1, 1, 1, 1, 1, 1]
  | _ => []
noncomputable def laws_heldFloat32S_LO (v2617 : List Nat) (v2618 : Int) : LOr := fun id e L =>
  match id with
  | 0 => .need (normA 0 laws_heldFloat32S_l0_kill e L = some (laws_heldFloat32S_l0_E v2617 v2618 ((gI (vAt e 1)), (gI (vAt e 5))))) (.call (laws_heldFloat32S_l0_g v2617 ((gI (vAt e 1)), (gI (vAt e 5)))) fun x => .sum x (fun b0 => .leaf (laws_heldFloat32S_l0_X v2617 v2618 (.inl b0))) (fun c0 => .leaf (laws_heldFloat32S_l0_X v2617 v2618 (.inr c0))))
  | _ => .fail
noncomputable def laws_heldFloat32S_tab : List (FuncId × DFn × Bool) := []
theorem laws_heldFloat32S_hO : OrcOk Try.prog (tabD laws_heldFloat32S_tab) (tabM laws_heldFloat32S_tab) := tabD_nil _
theorem laws_heldFloat32S_l0_be (v2617 : List Nat) (v2618 : Int) (s : Int × Int) : bodyT TT (tabD laws_heldFloat32S_tab) (tabM laws_heldFloat32S_tab) (laws_heldFloat32S_LO v2617 v2618) 0 laws_heldFloat32S_l0_kill laws_heldFloat32S_l0_nx (bodyOf Try.f24 0) 0 (laws_heldFloat32S_l0_E v2617 v2618 s) = (laws_heldFloat32S_l0_T v2617 s).bind fun y => .leaf (outS (laws_heldFloat32S_l0_E v2617 v2618) (laws_heldFloat32S_l0_X v2617 v2618) y) := by kernel_rfl
theorem laws_heldFloat32S_l0_ok (v2617 : List Nat) (v2618 : Int) : LSound Try.prog 0 (laws_heldFloat32S_LO v2617 v2618) 0 (bodyOf Try.f24 0) := by
  intro e L out h
  exact lo_ok (E := laws_heldFloat32S_l0_E v2617 v2618) (gT := laws_heldFloat32S_l0_T v2617) (X := laws_heldFloat32S_l0_X v2617 v2618) (s0 := ((gI (vAt e 1)), (gI (vAt e 5)))) tok laws_heldFloat32S_hO mixed (LoopsOk_eq (l := []) (by kernel_rfl) trivial) (laws_heldFloat32S_l0_be v2617 v2618) rfl (by intro x; (cases x with | inl b => rfl | inr x => exact rfl)) h
noncomputable def laws_heldFloat32S_T (v2617 : List Nat) (v2618 : Int) : Tree (Int) :=
  (.need (some (laws_heldFloat32S_l0_E v2617 v2618 (v2618, (0 : Int))) = some (laws_heldFloat32S_l0_E v2617 v2618 (v2618, (0 : Int)))) <|
  (.call (laws_heldFloat32S_l0_g v2617 (v2618, (0 : Int))) fun v2625 =>
  (.sum v2625 (fun v2626 =>
   .leaf (-1 : Int)
  ) (fun v2627 =>
   .leaf v2627
  ))))

noncomputable def laws_heldFloat32S_g (v2617 : List Nat) (v2618 : Int) : Option (Int) := (laws_heldFloat32S_T v2617 v2618).run
def laws_heldFloat32S_enc (v2617 : List Nat) (v2618 : Int) (y : Int) : Rs := (.int .i64 y, [])
theorem laws_heldFloat32S_den (v2617 : List Nat) (v2618 : Int) : (den TT (tabD laws_heldFloat32S_tab) (tabM laws_heldFloat32S_tab) (laws_heldFloat32S_LO v2617 v2618) (codeOf Try.f24) ([.bslc (BR.root 0) (.f32 v2617), .int .i64 v2618] ++ List.replicate (Try.f24.ntmps - ([.bslc (BR.root 0) (.f32 v2617), .int .i64 v2618] : List DV).length) .undef) []).bind (retD TT Try.f24.results.toList 0) = (laws_heldFloat32S_T v2617 v2618).bind fun y => .leaf (laws_heldFloat32S_enc v2617 v2618 y) := by kernel_rfl
theorem laws_heldFloat32S_fn (v2617 : List Nat) (v2618 : Int) (F : Fr) (hm : F.ids.length = 0) (h0 : St F [] F.H0) (hA : DVs.Ok F [] [.bslc (BR.root 0) (.f32 v2617), .int .i64 v2618]) {y : Int} (hy : laws_heldFloat32S_g v2617 v2618 = some y) : ∃ H', FnOk Try.prog 24 (DVs.av F [.bslc (BR.root 0) (.f32 v2617), .int .i64 v2618]) F.H0 ((laws_heldFloat32S_enc v2617 v2618 y).1.av F) H' ∧ St F (laws_heldFloat32S_enc v2617 v2618 y).2 H' ∧ (laws_heldFloat32S_enc v2617 v2618 y).1.Ok F (laws_heldFloat32S_enc v2617 v2618 y).2 :=
  fn_fin tok laws_heldFloat32S_hO mixed Try.func24 Try.call24 (by kernel_rfl) (LoopsOk_eq (l := [(0, bodyOf Try.f24 0)]) (by kernel_rfl) ⟨laws_heldFloat32S_l0_ok v2617 v2618, trivial⟩) (laws_heldFloat32S_den v2617 v2618) hy hm h0 hA
noncomputable def laws_heldFloat32S_F : DFn := fun args L =>
  match args with
  | [a1, .int .i64 v2618] =>
    optT (rowF32 L a1) fun v2617 =>
    .call (laws_heldFloat32S_g v2617 v2618) fun y => .leaf (.int .i64 y, L)
  | _ => .fail
theorem laws_heldFloat32S_Fok : COk Try.prog 24 laws_heldFloat32S_F true := by
  intro F L H args r L' hs ha hr
  unfold laws_heldFloat32S_F at hr
  split at hr
  · rename_i a1 v2618
    obtain ⟨v2617, hv2617, hr⟩ := optT_run hr
    simp only [Tree.run] at hr
    obtain ⟨y, hy, hr⟩ := Option.bind_eq_some_iff.1 hr
    simp only [Tree.run, Option.some.injEq, Prod.mk.injEq] at hr
    obtain ⟨rfl, rfl⟩ := hr
    exact call_ok0 hs (fun k => (([a1.av F] : List AV)[k]?).getD .top) [a1, .int .i64 v2618] [.bslc (BR.root 0) (.f32 v2617), .int .i64 v2618] (fun F' h0 hi hρ => ⟨by simp [DVs.av, DV.av, BR.av, hρ], laws_heldFloat32S_fn v2617 v2618 F' (by rw [hi]; rfl) (st_nil hi) ⟨bslc_ok hi (by rw [h0, hρ]; exact rowF32_ok hs (DVs.okAt ha 0 rfl) hv2617), trivial, trivial⟩ hy⟩) rfl
  · cases hr
/-! laws.heldMatrix -/
noncomputable def laws_heldMatrix_LO (v2613 : Int) (v2614 : Int) (v2615 : List Nat) (v2616 : Int) : LOr := fun id e L =>
  match id with
  | _ => .fail
noncomputable def laws_heldMatrix_tab : List (FuncId × DFn × Bool) := [(24, laws_heldFloat32S_F, true)]
theorem laws_heldMatrix_hO : OrcOk Try.prog (tabD laws_heldMatrix_tab) (tabM laws_heldMatrix_tab) := tabD_cons laws_heldFloat32S_Fok (tabD_nil _)
noncomputable def laws_heldMatrix_T (v2615 : List Nat) (v2616 : Int) : Tree (Int) :=
  (.call (laws_heldFloat32S_g v2615 v2616) fun v2628 =>
  (.br (decide (v2628 < (0 : Int))) (
   .leaf (-1 : Int)
  ) (
   .leaf v2628
  )))

noncomputable def laws_heldMatrix_g (v2615 : List Nat) (v2616 : Int) : Option (Int) := (laws_heldMatrix_T v2615 v2616).run
def laws_heldMatrix_enc (v2613 : Int) (v2614 : Int) (v2615 : List Nat) (v2616 : Int) (y : Int) : Rs := (.int .i64 y, [])
theorem laws_heldMatrix_den (v2613 : Int) (v2614 : Int) (v2615 : List Nat) (v2616 : Int) : (den TT (tabD laws_heldMatrix_tab) (tabM laws_heldMatrix_tab) (laws_heldMatrix_LO v2613 v2614 v2615 v2616) (codeOf Try.f23) ([.agg [.int .i64 v2613, .int .i64 v2614, .bslc (BR.root 0) (.f32 v2615)], .int .i64 v2616] ++ List.replicate (Try.f23.ntmps - ([.agg [.int .i64 v2613, .int .i64 v2614, .bslc (BR.root 0) (.f32 v2615)], .int .i64 v2616] : List DV).length) .undef) []).bind (retD TT Try.f23.results.toList 0) = (laws_heldMatrix_T v2615 v2616).bind fun y => .leaf (laws_heldMatrix_enc v2613 v2614 v2615 v2616 y) := by kernel_rfl
theorem laws_heldMatrix_fn (v2613 : Int) (v2614 : Int) (v2615 : List Nat) (v2616 : Int) (F : Fr) (hm : F.ids.length = 0) (h0 : St F [] F.H0) (hA : DVs.Ok F [] [.agg [.int .i64 v2613, .int .i64 v2614, .bslc (BR.root 0) (.f32 v2615)], .int .i64 v2616]) {y : Int} (hy : laws_heldMatrix_g v2615 v2616 = some y) : ∃ H', FnOk Try.prog 23 (DVs.av F [.agg [.int .i64 v2613, .int .i64 v2614, .bslc (BR.root 0) (.f32 v2615)], .int .i64 v2616]) F.H0 ((laws_heldMatrix_enc v2613 v2614 v2615 v2616 y).1.av F) H' ∧ St F (laws_heldMatrix_enc v2613 v2614 v2615 v2616 y).2 H' ∧ (laws_heldMatrix_enc v2613 v2614 v2615 v2616 y).1.Ok F (laws_heldMatrix_enc v2613 v2614 v2615 v2616 y).2 :=
  fn_fin tok laws_heldMatrix_hO mixed Try.func23 Try.call23 (by kernel_rfl) (LoopsOk_eq (l := []) (by kernel_rfl) trivial) (laws_heldMatrix_den v2613 v2614 v2615 v2616) hy hm h0 hA
noncomputable def laws_heldMatrix_F : DFn := fun args L =>
  match args with
  | [.agg [.int .i64 v2613, .int .i64 v2614, a1], .int .i64 v2616] =>
    optT (rowF32 L a1) fun v2615 =>
    .call (laws_heldMatrix_g v2615 v2616) fun y => .leaf (.int .i64 y, L)
  | _ => .fail
theorem laws_heldMatrix_Fok : COk Try.prog 23 laws_heldMatrix_F true := by
  intro F L H args r L' hs ha hr
  unfold laws_heldMatrix_F at hr
  split at hr
  · rename_i v2613 v2614 a1 v2616
    obtain ⟨v2615, hv2615, hr⟩ := optT_run hr
    simp only [Tree.run] at hr
    obtain ⟨y, hy, hr⟩ := Option.bind_eq_some_iff.1 hr
    simp only [Tree.run, Option.some.injEq, Prod.mk.injEq] at hr
    obtain ⟨rfl, rfl⟩ := hr
    exact call_ok0 hs (fun k => (([a1.av F] : List AV)[k]?).getD .top) [.agg [.int .i64 v2613, .int .i64 v2614, a1], .int .i64 v2616] [.agg [.int .i64 v2613, .int .i64 v2614, .bslc (BR.root 0) (.f32 v2615)], .int .i64 v2616] (fun F' h0 hi hρ => ⟨by simp [DVs.av, DV.av, BR.av, hρ], laws_heldMatrix_fn v2613 v2614 v2615 v2616 F' (by rw [hi]; rfl) (st_nil hi) ⟨⟨trivial, trivial, bslc_ok hi (by rw [h0, hρ]; exact rowF32_ok hs (DVs.okAt (DVs.okAt ha 0 rfl) 2 rfl) hv2615), trivial⟩, trivial, trivial⟩ hy⟩) rfl
  · cases hr
/-! laws.FnExactMirrorFactor -/
noncomputable def laws_FnExactMirrorFactor_LO (v1 : Int) (v2 : Int) (v3 : List Nat) : LOr := fun id e L =>
  match id with
  | _ => .fail
noncomputable def laws_FnExactMirrorFactor_tab : List (FuncId × DFn × Bool) := [(15, laws_szMatrix_F, true), (17, laws_toMatrix_F, true), (50, spec_MirrorFactor_F, true), (51, impl_MirrorFactor_F, true), (19, laws_eqMatrix_F, true), (21, (orD (fun args => match args with | [.agg [_, _, .nilslc], _] => true | _ => false) laws_markMatrix_i1_F laws_markMatrix_F), false), (23, laws_heldMatrix_F, true)]
theorem laws_FnExactMirrorFactor_hO : OrcOk Try.prog (tabD laws_FnExactMirrorFactor_tab) (tabM laws_FnExactMirrorFactor_tab) := tabD_cons laws_szMatrix_Fok (tabD_cons laws_toMatrix_Fok (tabD_cons spec_MirrorFactor_Fok (tabD_cons impl_MirrorFactor_Fok (tabD_cons laws_eqMatrix_Fok (tabD_cons (orD_ok (COk.weak laws_markMatrix_i1_Fok) laws_markMatrix_Fok) (tabD_cons laws_heldMatrix_Fok (tabD_nil _)))))))
noncomputable def laws_FnExactMirrorFactor_T (v1 : Int) (v2 : Int) (v3 : List Nat) : Tree (Bool) :=
  (.br (decide ((laws_szMatrix_v v3 (1048576 : Int)) < (0 : Int))) (
   .leaf true
  ) (
   (.call (laws_toMatrix_g v1 v2 v3) fun v21 =>
   (.call (spec_MirrorFactor_g v21.1 v21.2.1 v21.2.2) fun v1785 =>
   (.sum v1785 (fun v1786 =>
    (.call (laws_toMatrix_g v1 v2 v3) fun v1788 =>
    (.call (impl_MirrorFactor_g v1788.1 v1788.2.1 v1788.2.2) fun v2552 =>
    (.sum v2552 (fun v2553 =>
     (.call (laws_eqMatrix_g (0 : Int) (0 : Int) ([] : List Nat) (0 : Int) (0 : Int) ([] : List Nat)) fun v2572 =>
     (.br (!v2572) (
      .leaf false
     ) (
      (.call (laws_eqMatrix_g (0 : Int) (0 : Int) ([] : List Nat) (0 : Int) (0 : Int) ([] : List Nat)) fun v2573 =>
      (.br (!v2573) (
       .leaf false
      ) (
       (.br (!(false == false)) (
        .leaf false
       ) (
        (.call (laws_toMatrix_g v1 v2 v3) fun v2574 =>
        (.call (laws_eqMatrix_g v1788.1 v1788.2.1 v1788.2.2 v2574.1 v2574.2.1 v2574.2.2) fun v2575 =>
        (.br (!v2575) (
         .leaf false
        ) (
         (.call (laws_markMatrix_g v1788.2.2 (1 : Int)) fun v2600 =>
         (.grd (decide (v2600.2.length = v1788.2.2.length)) <|
         (.br (decide (v2600.1 < (0 : Int))) (
          .leaf false
         ) (
          (.call (laws_eqMatrix_g (0 : Int) (0 : Int) ([] : List Nat) (0 : Int) (0 : Int) ([] : List Nat)) fun v2601 =>
          (.br (!v2601) (
           .leaf false
          ) (
           (.call (laws_eqMatrix_g (0 : Int) (0 : Int) ([] : List Nat) (0 : Int) (0 : Int) ([] : List Nat)) fun v2602 =>
           (.br (!v2602) (
            .leaf false
           ) (
            (.br (!(false == false)) (
             .leaf false
            ) (
             (.call (laws_markMatrix_i1_g (1 : Int)) fun v2611 =>
             (.call (laws_markMatrix_i1_g v2611) fun v2612 =>
             (.call (laws_heldMatrix_g ([] : List Nat) (1 : Int)) fun v2629 =>
             (.br (decide (v2629 < (0 : Int))) (
              .leaf false
             ) (
              (.call (laws_heldMatrix_g ([] : List Nat) v2629) fun v2630 =>
              (.br (decide (v2630 < (0 : Int))) (
               .leaf false
              ) (
               (.br (!decide (v2630 = v2612)) (
                .leaf false
               ) (
                (.call (laws_toMatrix_g v1 v2 v3) fun v2631 =>
                (.call (impl_MirrorFactor_g v2631.1 v2631.2.1 v2631.2.2) fun v2632 =>
                (.sum v2632 (fun v2633 =>
                 (.call (laws_eqMatrix_g (0 : Int) (0 : Int) ([] : List Nat) (0 : Int) (0 : Int) ([] : List Nat)) fun v2635 =>
                 (.br (!v2635) (
                  .leaf false
                 ) (
                  (.call (laws_eqMatrix_g (0 : Int) (0 : Int) ([] : List Nat) (0 : Int) (0 : Int) ([] : List Nat)) fun v2636 =>
                  (.br (!v2636) (
                   .leaf false
                  ) (
                   (.br (!(false == false)) (
                    .leaf false
                   ) (
                    (.call (laws_heldMatrix_g ([] : List Nat) (1 : Int)) fun v2637 =>
                    (.br (decide (v2637 < (0 : Int))) (
                     .leaf false
                    ) (
                     (.call (laws_heldMatrix_g ([] : List Nat) v2637) fun v2638 =>
                     (.br (decide (v2638 < (0 : Int))) (
                      .leaf false
                     ) (
                      (.br (!decide (v2638 = v2612)) (
                       .leaf false
                      ) (
                       .leaf true
                      ))
                     )))
                    )))
                   ))
                  )))
                 )))
                ) (fun v2634 =>
                 (.call (laws_eqMatrix_g v2634.1 v2634.2.1 v2634.2.2.2.2.1 (0 : Int) (0 : Int) ([] : List Nat)) fun v2639 =>
                 (.br (!v2639) (
                  .leaf false
                 ) (
                  (.call (laws_eqMatrix_g v2634.2.2.1 v2634.2.2.2.1 v2634.2.2.2.2.2 (0 : Int) (0 : Int) ([] : List Nat)) fun v2640 =>
                  (.br (!v2640) (
                   .leaf false
                  ) (
                   (.br (!(true == false)) (
                    .leaf false
                   ) (
                    (.call (laws_heldMatrix_g ([] : List Nat) (1 : Int)) fun v2641 =>
                    (.br (decide (v2641 < (0 : Int))) (
                     .leaf false
                    ) (
                     (.call (laws_heldMatrix_g ([] : List Nat) v2641) fun v2642 =>
                     (.br (decide (v2642 < (0 : Int))) (
                      .leaf false
                     ) (
                      (.br (!decide (v2642 = v2612)) (
                       .leaf false
                      ) (
                       .leaf true
                      ))
                     )))
                    )))
                   ))
                  )))
                 )))
                ))))
               ))
              )))
             )))))
            ))
           )))
          )))
         ))))
        ))))
       ))
      )))
     )))
    ) (fun v2554 =>
     (.call (laws_eqMatrix_g v2554.1 v2554.2.1 v2554.2.2.2.2.1 (0 : Int) (0 : Int) ([] : List Nat)) fun v2643 =>
     (.br (!v2643) (
      .leaf false
     ) (
      (.call (laws_eqMatrix_g v2554.2.2.1 v2554.2.2.2.1 v2554.2.2.2.2.2 (0 : Int) (0 : Int) ([] : List Nat)) fun v2644 =>
      (.br (!v2644) (
       .leaf false
      ) (
       (.br (!(true == false)) (
        .leaf false
       ) (
        (.call (laws_toMatrix_g v1 v2 v3) fun v2645 =>
        (.call (laws_eqMatrix_g v1788.1 v1788.2.1 v1788.2.2 v2645.1 v2645.2.1 v2645.2.2) fun v2646 =>
        (.br (!v2646) (
         .leaf false
        ) (
         (.call (laws_markMatrix_g v1788.2.2 (1 : Int)) fun v2647 =>
         (.grd (decide (v2647.2.length = v1788.2.2.length)) <|
         (.br (decide (v2647.1 < (0 : Int))) (
          .leaf false
         ) (
          (.call (laws_eqMatrix_g v2554.1 v2554.2.1 v2554.2.2.2.2.1 (0 : Int) (0 : Int) ([] : List Nat)) fun v2648 =>
          (.br (!v2648) (
           .leaf false
          ) (
           (.call (laws_eqMatrix_g v2554.2.2.1 v2554.2.2.2.1 v2554.2.2.2.2.2 (0 : Int) (0 : Int) ([] : List Nat)) fun v2649 =>
           (.br (!v2649) (
            .leaf false
           ) (
            (.br (!(true == false)) (
             .leaf false
            ) (
             (.call (laws_markMatrix_g v2554.2.2.2.2.1 (1 : Int)) fun v2650 =>
             (.grd (decide (v2650.2.length = v2554.2.2.2.2.1.length)) <|
             (.call (laws_markMatrix_g v2554.2.2.2.2.2 v2650.1) fun v2651 =>
             (.grd (decide (v2651.2.length = v2554.2.2.2.2.2.length)) <|
             (.call (laws_heldMatrix_g v2650.2 (1 : Int)) fun v2652 =>
             (.br (decide (v2652 < (0 : Int))) (
              .leaf false
             ) (
              (.call (laws_heldMatrix_g v2651.2 v2652) fun v2653 =>
              (.br (decide (v2653 < (0 : Int))) (
               .leaf false
              ) (
               (.br (!decide (v2653 = v2651.1)) (
                .leaf false
               ) (
                (.call (laws_toMatrix_g v1 v2 v3) fun v2654 =>
                (.call (impl_MirrorFactor_g v2654.1 v2654.2.1 v2654.2.2) fun v2655 =>
                (.sum v2655 (fun v2656 =>
                 (.call (laws_eqMatrix_g (0 : Int) (0 : Int) ([] : List Nat) (0 : Int) (0 : Int) ([] : List Nat)) fun v2658 =>
                 (.br (!v2658) (
                  .leaf false
                 ) (
                  (.call (laws_eqMatrix_g (0 : Int) (0 : Int) ([] : List Nat) (0 : Int) (0 : Int) ([] : List Nat)) fun v2659 =>
                  (.br (!v2659) (
                   .leaf false
                  ) (
                   (.br (!(false == false)) (
                    .leaf false
                   ) (
                    (.call (laws_heldMatrix_g v2650.2 (1 : Int)) fun v2660 =>
                    (.br (decide (v2660 < (0 : Int))) (
                     .leaf false
                    ) (
                     (.call (laws_heldMatrix_g v2651.2 v2660) fun v2661 =>
                     (.br (decide (v2661 < (0 : Int))) (
                      .leaf false
                     ) (
                      (.br (!decide (v2661 = v2651.1)) (
                       .leaf false
                      ) (
                       .leaf true
                      ))
                     )))
                    )))
                   ))
                  )))
                 )))
                ) (fun v2657 =>
                 (.call (laws_eqMatrix_g v2657.1 v2657.2.1 v2657.2.2.2.2.1 (0 : Int) (0 : Int) ([] : List Nat)) fun v2662 =>
                 (.br (!v2662) (
                  .leaf false
                 ) (
                  (.call (laws_eqMatrix_g v2657.2.2.1 v2657.2.2.2.1 v2657.2.2.2.2.2 (0 : Int) (0 : Int) ([] : List Nat)) fun v2663 =>
                  (.br (!v2663) (
                   .leaf false
                  ) (
                   (.br (!(true == false)) (
                    .leaf false
                   ) (
                    (.call (laws_heldMatrix_g v2650.2 (1 : Int)) fun v2664 =>
                    (.br (decide (v2664 < (0 : Int))) (
                     .leaf false
                    ) (
                     (.call (laws_heldMatrix_g v2651.2 v2664) fun v2665 =>
                     (.br (decide (v2665 < (0 : Int))) (
                      .leaf false
                     ) (
                      (.br (!decide (v2665 = v2651.1)) (
                       .leaf false
                      ) (
                       .leaf true
                      ))
                     )))
                    )))
                   ))
                  )))
                 )))
                ))))
               ))
              )))
             )))))))
            ))
           )))
          )))
         ))))
        ))))
       ))
      )))
     )))
    ))))
   ) (fun v1787 =>
    (.call (laws_toMatrix_g v1 v2 v3) fun v2666 =>
    (.call (impl_MirrorFactor_g v2666.1 v2666.2.1 v2666.2.2) fun v2667 =>
    (.sum v2667 (fun v2668 =>
     (.call (laws_eqMatrix_g (0 : Int) (0 : Int) ([] : List Nat) v1787.1 v1787.2.1 v1787.2.2.2.2.1) fun v2670 =>
     (.br (!v2670) (
      .leaf false
     ) (
      (.call (laws_eqMatrix_g (0 : Int) (0 : Int) ([] : List Nat) v1787.2.2.1 v1787.2.2.2.1 v1787.2.2.2.2.2) fun v2671 =>
      (.br (!v2671) (
       .leaf false
      ) (
       (.br (!(false == true)) (
        .leaf false
       ) (
        (.call (laws_toMatrix_g v1 v2 v3) fun v2672 =>
        (.call (laws_eqMatrix_g v2666.1 v2666.2.1 v2666.2.2 v2672.1 v2672.2.1 v2672.2.2) fun v2673 =>
        (.br (!v2673) (
         .leaf false
        ) (
         (.call (laws_markMatrix_g v2666.2.2 (1 : Int)) fun v2674 =>
         (.grd (decide (v2674.2.length = v2666.2.2.length)) <|
         (.br (decide (v2674.1 < (0 : Int))) (
          .leaf false
         ) (
          (.call (laws_eqMatrix_g (0 : Int) (0 : Int) ([] : List Nat) v1787.1 v1787.2.1 v1787.2.2.2.2.1) fun v2675 =>
          (.br (!v2675) (
           .leaf false
          ) (
           (.call (laws_eqMatrix_g (0 : Int) (0 : Int) ([] : List Nat) v1787.2.2.1 v1787.2.2.2.1 v1787.2.2.2.2.2) fun v2676 =>
           (.br (!v2676) (
            .leaf false
           ) (
            (.br (!(false == true)) (
             .leaf false
            ) (
             (.call (laws_markMatrix_i1_g (1 : Int)) fun v2677 =>
             (.call (laws_markMatrix_i1_g v2677) fun v2678 =>
             (.call (laws_heldMatrix_g ([] : List Nat) (1 : Int)) fun v2679 =>
             (.br (decide (v2679 < (0 : Int))) (
              .leaf false
             ) (
              (.call (laws_heldMatrix_g ([] : List Nat) v2679) fun v2680 =>
              (.br (decide (v2680 < (0 : Int))) (
               .leaf false
              ) (
               (.br (!decide (v2680 = v2678)) (
                .leaf false
               ) (
                (.call (laws_toMatrix_g v1 v2 v3) fun v2681 =>
                (.call (impl_MirrorFactor_g v2681.1 v2681.2.1 v2681.2.2) fun v2682 =>
                (.sum v2682 (fun v2683 =>
                 (.call (laws_eqMatrix_g (0 : Int) (0 : Int) ([] : List Nat) v1787.1 v1787.2.1 v1787.2.2.2.2.1) fun v2685 =>
                 (.br (!v2685) (
                  .leaf false
                 ) (
                  (.call (laws_eqMatrix_g (0 : Int) (0 : Int) ([] : List Nat) v1787.2.2.1 v1787.2.2.2.1 v1787.2.2.2.2.2) fun v2686 =>
                  (.br (!v2686) (
                   .leaf false
                  ) (
                   (.br (!(false == true)) (
                    .leaf false
                   ) (
                    (.call (laws_heldMatrix_g ([] : List Nat) (1 : Int)) fun v2687 =>
                    (.br (decide (v2687 < (0 : Int))) (
                     .leaf false
                    ) (
                     (.call (laws_heldMatrix_g ([] : List Nat) v2687) fun v2688 =>
                     (.br (decide (v2688 < (0 : Int))) (
                      .leaf false
                     ) (
                      (.br (!decide (v2688 = v2678)) (
                       .leaf false
                      ) (
                       .leaf true
                      ))
                     )))
                    )))
                   ))
                  )))
                 )))
                ) (fun v2684 =>
                 (.call (laws_eqMatrix_g v2684.1 v2684.2.1 v2684.2.2.2.2.1 v1787.1 v1787.2.1 v1787.2.2.2.2.1) fun v2689 =>
                 (.br (!v2689) (
                  .leaf false
                 ) (
                  (.call (laws_eqMatrix_g v2684.2.2.1 v2684.2.2.2.1 v2684.2.2.2.2.2 v1787.2.2.1 v1787.2.2.2.1 v1787.2.2.2.2.2) fun v2690 =>
                  (.br (!v2690) (
                   .leaf false
                  ) (
                   (.br (!(true == true)) (
                    .leaf false
                   ) (
                    (.call (laws_heldMatrix_g ([] : List Nat) (1 : Int)) fun v2691 =>
                    (.br (decide (v2691 < (0 : Int))) (
                     .leaf false
                    ) (
                     (.call (laws_heldMatrix_g ([] : List Nat) v2691) fun v2692 =>
                     (.br (decide (v2692 < (0 : Int))) (
                      .leaf false
                     ) (
                      (.br (!decide (v2692 = v2678)) (
                       .leaf false
                      ) (
                       .leaf true
                      ))
                     )))
                    )))
                   ))
                  )))
                 )))
                ))))
               ))
              )))
             )))))
            ))
           )))
          )))
         ))))
        ))))
       ))
      )))
     )))
    ) (fun v2669 =>
     (.call (laws_eqMatrix_g v2669.1 v2669.2.1 v2669.2.2.2.2.1 v1787.1 v1787.2.1 v1787.2.2.2.2.1) fun v2693 =>
     (.br (!v2693) (
      .leaf false
     ) (
      (.call (laws_eqMatrix_g v2669.2.2.1 v2669.2.2.2.1 v2669.2.2.2.2.2 v1787.2.2.1 v1787.2.2.2.1 v1787.2.2.2.2.2) fun v2694 =>
      (.br (!v2694) (
       .leaf false
      ) (
       (.br (!(true == true)) (
        .leaf false
       ) (
        (.call (laws_toMatrix_g v1 v2 v3) fun v2695 =>
        (.call (laws_eqMatrix_g v2666.1 v2666.2.1 v2666.2.2 v2695.1 v2695.2.1 v2695.2.2) fun v2696 =>
        (.br (!v2696) (
         .leaf false
        ) (
         (.call (laws_markMatrix_g v2666.2.2 (1 : Int)) fun v2697 =>
         (.grd (decide (v2697.2.length = v2666.2.2.length)) <|
         (.br (decide (v2697.1 < (0 : Int))) (
          .leaf false
         ) (
          (.call (laws_eqMatrix_g v2669.1 v2669.2.1 v2669.2.2.2.2.1 v1787.1 v1787.2.1 v1787.2.2.2.2.1) fun v2698 =>
          (.br (!v2698) (
           .leaf false
          ) (
           (.call (laws_eqMatrix_g v2669.2.2.1 v2669.2.2.2.1 v2669.2.2.2.2.2 v1787.2.2.1 v1787.2.2.2.1 v1787.2.2.2.2.2) fun v2699 =>
           (.br (!v2699) (
            .leaf false
           ) (
            (.br (!(true == true)) (
             .leaf false
            ) (
             (.call (laws_markMatrix_g v2669.2.2.2.2.1 (1 : Int)) fun v2700 =>
             (.grd (decide (v2700.2.length = v2669.2.2.2.2.1.length)) <|
             (.call (laws_markMatrix_g v2669.2.2.2.2.2 v2700.1) fun v2701 =>
             (.grd (decide (v2701.2.length = v2669.2.2.2.2.2.length)) <|
             (.call (laws_heldMatrix_g v2700.2 (1 : Int)) fun v2702 =>
             (.br (decide (v2702 < (0 : Int))) (
              .leaf false
             ) (
              (.call (laws_heldMatrix_g v2701.2 v2702) fun v2703 =>
              (.br (decide (v2703 < (0 : Int))) (
               .leaf false
              ) (
               (.br (!decide (v2703 = v2701.1)) (
                .leaf false
               ) (
                (.call (laws_toMatrix_g v1 v2 v3) fun v2704 =>
                (.call (impl_MirrorFactor_g v2704.1 v2704.2.1 v2704.2.2) fun v2705 =>
                (.sum v2705 (fun v2706 =>
                 (.call (laws_eqMatrix_g (0 : Int) (0 : Int) ([] : List Nat) v1787.1 v1787.2.1 v1787.2.2.2.2.1) fun v2708 =>
                 (.br (!v2708) (
                  .leaf false
                 ) (
                  (.call (laws_eqMatrix_g (0 : Int) (0 : Int) ([] : List Nat) v1787.2.2.1 v1787.2.2.2.1 v1787.2.2.2.2.2) fun v2709 =>
                  (.br (!v2709) (
                   .leaf false
                  ) (
                   (.br (!(false == true)) (
                    .leaf false
                   ) (
                    (.call (laws_heldMatrix_g v2700.2 (1 : Int)) fun v2710 =>
                    (.br (decide (v2710 < (0 : Int))) (
                     .leaf false
                    ) (
                     (.call (laws_heldMatrix_g v2701.2 v2710) fun v2711 =>
                     (.br (decide (v2711 < (0 : Int))) (
                      .leaf false
                     ) (
                      (.br (!decide (v2711 = v2701.1)) (
                       .leaf false
                      ) (
                       .leaf true
                      ))
                     )))
                    )))
                   ))
                  )))
                 )))
                ) (fun v2707 =>
                 (.call (laws_eqMatrix_g v2707.1 v2707.2.1 v2707.2.2.2.2.1 v1787.1 v1787.2.1 v1787.2.2.2.2.1) fun v2712 =>
                 (.br (!v2712) (
                  .leaf false
                 ) (
                  (.call (laws_eqMatrix_g v2707.2.2.1 v2707.2.2.2.1 v2707.2.2.2.2.2 v1787.2.2.1 v1787.2.2.2.1 v1787.2.2.2.2.2) fun v2713 =>
                  (.br (!v2713) (
                   .leaf false
                  ) (
                   (.br (!(true == true)) (
                    .leaf false
                   ) (
                    (.call (laws_heldMatrix_g v2700.2 (1 : Int)) fun v2714 =>
                    (.br (decide (v2714 < (0 : Int))) (
                     .leaf false
                    ) (
                     (.call (laws_heldMatrix_g v2701.2 v2714) fun v2715 =>
                     (.br (decide (v2715 < (0 : Int))) (
                      .leaf false
                     ) (
                      (.br (!decide (v2715 = v2701.1)) (
                       .leaf false
                      ) (
                       .leaf true
                      ))
                     )))
                    )))
                   ))
                  )))
                 )))
                ))))
               ))
              )))
             )))))))
            ))
           )))
          )))
         ))))
        ))))
       ))
      )))
     )))
    ))))
   ))))
  ))

noncomputable def laws_FnExactMirrorFactor_g (v1 : Int) (v2 : Int) (v3 : List Nat) : Option (Bool) := (laws_FnExactMirrorFactor_T v1 v2 v3).run
def laws_FnExactMirrorFactor_enc (v1 : Int) (v2 : Int) (v3 : List Nat) (y : Bool) : Rs := (.bool y, [])
theorem laws_FnExactMirrorFactor_den (v1 : Int) (v2 : Int) (v3 : List Nat) : (den TT (tabD laws_FnExactMirrorFactor_tab) (tabM laws_FnExactMirrorFactor_tab) (laws_FnExactMirrorFactor_LO v1 v2 v3) (codeOf Try.f12) ([.agg [.int .i64 v1, .int .i64 v2, .bslc (BR.root 0) (.f32 v3)]] ++ List.replicate (Try.f12.ntmps - ([.agg [.int .i64 v1, .int .i64 v2, .bslc (BR.root 0) (.f32 v3)]] : List DV).length) .undef) []).bind (retD TT Try.f12.results.toList 0) = (laws_FnExactMirrorFactor_T v1 v2 v3).bind fun y => .leaf (laws_FnExactMirrorFactor_enc v1 v2 v3 y) := by kernel_rfl
theorem laws_FnExactMirrorFactor_fn (v1 : Int) (v2 : Int) (v3 : List Nat) (F : Fr) (hm : F.ids.length = 0) (h0 : St F [] F.H0) (hA : DVs.Ok F [] [.agg [.int .i64 v1, .int .i64 v2, .bslc (BR.root 0) (.f32 v3)]]) {y : Bool} (hy : laws_FnExactMirrorFactor_g v1 v2 v3 = some y) : ∃ H', FnOk Try.prog 12 (DVs.av F [.agg [.int .i64 v1, .int .i64 v2, .bslc (BR.root 0) (.f32 v3)]]) F.H0 ((laws_FnExactMirrorFactor_enc v1 v2 v3 y).1.av F) H' ∧ St F (laws_FnExactMirrorFactor_enc v1 v2 v3 y).2 H' ∧ (laws_FnExactMirrorFactor_enc v1 v2 v3 y).1.Ok F (laws_FnExactMirrorFactor_enc v1 v2 v3 y).2 :=
  fn_fin tok laws_FnExactMirrorFactor_hO mixed Try.func12 Try.call12 (by kernel_rfl) (LoopsOk_eq (l := []) (by kernel_rfl) trivial) (laws_FnExactMirrorFactor_den v1 v2 v3) hy hm h0 hA
noncomputable def laws_FnExactMirrorFactor_F : DFn := fun args L =>
  match args with
  | [.agg [.int .i64 v1, .int .i64 v2, a1]] =>
    optT (rowF32 L a1) fun v3 =>
    .call (laws_FnExactMirrorFactor_g v1 v2 v3) fun y => .leaf (.bool y, L)
  | _ => .fail
theorem laws_FnExactMirrorFactor_Fok : COk Try.prog 12 laws_FnExactMirrorFactor_F true := by
  intro F L H args r L' hs ha hr
  unfold laws_FnExactMirrorFactor_F at hr
  split at hr
  · rename_i v1 v2 a1
    obtain ⟨v3, hv3, hr⟩ := optT_run hr
    simp only [Tree.run] at hr
    obtain ⟨y, hy, hr⟩ := Option.bind_eq_some_iff.1 hr
    simp only [Tree.run, Option.some.injEq, Prod.mk.injEq] at hr
    obtain ⟨rfl, rfl⟩ := hr
    exact call_ok0 hs (fun k => (([a1.av F] : List AV)[k]?).getD .top) [.agg [.int .i64 v1, .int .i64 v2, a1]] [.agg [.int .i64 v1, .int .i64 v2, .bslc (BR.root 0) (.f32 v3)]] (fun F' h0 hi hρ => ⟨by simp [DVs.av, DV.av, BR.av, hρ], laws_FnExactMirrorFactor_fn v1 v2 v3 F' (by rw [hi]; rfl) (st_nil hi) ⟨⟨trivial, trivial, bslc_ok hi (by rw [h0, hρ]; exact rowF32_ok hs (DVs.okAt (DVs.okAt ha 0 rfl) 2 rfl) hv3), trivial⟩, trivial⟩ hy⟩) rfl
  · cases hr
/-! laws.szFloat32S -/
noncomputable def laws_szFloat32S_len_LO (v2723 : Nat) (v2724 : Int) : LOr := fun id e L =>
  match id with
  | _ => .fail
noncomputable def laws_szFloat32S_len_tab : List (FuncId × DFn × Bool) := []
theorem laws_szFloat32S_len_hO : OrcOk Try.prog (tabD laws_szFloat32S_len_tab) (tabM laws_szFloat32S_len_tab) := tabD_nil _
noncomputable def laws_szFloat32S_len_T (v2723 : Nat) (v2724 : Int) : Tree (Int) :=
  (.br (decide (IntKind.i64.wrap (v2724 - ((v2723 : Nat) : Int)) < (0 : Int))) (
   .leaf (-1 : Int)
  ) (
   .leaf (IntKind.i64.wrap (v2724 - ((v2723 : Nat) : Int)))
  ))

noncomputable def laws_szFloat32S_len_g (v2723 : Nat) (v2724 : Int) : Option (Int) := (laws_szFloat32S_len_T v2723 v2724).run
def laws_szFloat32S_len_enc (v2723 : Nat) (v2724 : Int) (y : Int) : Rs := (.int .i64 y, [])
theorem laws_szFloat32S_len_den (v2723 : Nat) (v2724 : Int) : (den TT (tabD laws_szFloat32S_len_tab) (tabM laws_szFloat32S_len_tab) (laws_szFloat32S_len_LO v2723 v2724) (codeOf Try.f56) ([.hslc (BR.root 0) v2723, .int .i64 v2724] ++ List.replicate (Try.f56.ntmps - ([.hslc (BR.root 0) v2723, .int .i64 v2724] : List DV).length) .undef) []).bind (retD TT Try.f56.results.toList 0) = (laws_szFloat32S_len_T v2723 v2724).bind fun y => .leaf (laws_szFloat32S_len_enc v2723 v2724 y) := by kernel_rfl
theorem laws_szFloat32S_len_fn (v2723 : Nat) (v2724 : Int) (F : Fr) (hm : F.ids.length = 0) (h0 : St F [] F.H0) (hA : DVs.Ok F [] [.hslc (BR.root 0) v2723, .int .i64 v2724]) {y : Int} (hy : laws_szFloat32S_len_g v2723 v2724 = some y) : ∃ H', FnOk Try.prog 56 (DVs.av F [.hslc (BR.root 0) v2723, .int .i64 v2724]) F.H0 ((laws_szFloat32S_len_enc v2723 v2724 y).1.av F) H' ∧ St F (laws_szFloat32S_len_enc v2723 v2724 y).2 H' ∧ (laws_szFloat32S_len_enc v2723 v2724 y).1.Ok F (laws_szFloat32S_len_enc v2723 v2724 y).2 :=
  fn_fin tok laws_szFloat32S_len_hO mixed Try.func56 Try.call56 (by kernel_rfl) (LoopsOk_eq (l := []) (by kernel_rfl) trivial) (laws_szFloat32S_len_den v2723 v2724) hy hm h0 hA
def laws_szFloat32S_len_v (v2723 : Nat) (v2724 : Int) : Int :=
  if (decide (IntKind.i64.wrap (v2724 - ((v2723 : Nat) : Int)) < (0 : Int))) = true then (
   (-1 : Int)
  ) else (
   IntKind.i64.wrap (v2724 - ((v2723 : Nat) : Int))
  )
theorem laws_szFloat32S_len_tot (v2723 : Nat) (v2724 : Int) : laws_szFloat32S_len_g v2723 v2724 = some (laws_szFloat32S_len_v v2723 v2724) := by
  unfold laws_szFloat32S_len_g laws_szFloat32S_len_T laws_szFloat32S_len_v
  simp only [Tree.run]
  repeat' (first | rfl | split)
noncomputable def laws_szFloat32S_len_F : DFn := fun args L =>
  match args with
  | [a1, .int .i64 v2724] =>
    optT (lenV L a1) fun v2723 =>
    .leaf (.int .i64 (laws_szFloat32S_len_v v2723 v2724), L)
  | _ => .fail
theorem laws_szFloat32S_len_Fok : COk Try.prog 56 laws_szFloat32S_len_F true := by
  intro F L H args r L' hs ha hr
  unfold laws_szFloat32S_len_F at hr
  split at hr
  · rename_i a1 v2724
    obtain ⟨v2723, hv2723, hr⟩ := optT_run hr
    have hy := laws_szFloat32S_len_tot v2723 v2724
    generalize laws_szFloat32S_len_v v2723 v2724 = y at hy hr
    simp only [Tree.run, Option.some.injEq, Prod.mk.injEq] at hr
    obtain ⟨rfl, rfl⟩ := hr
    exact call_ok0 hs (fun k => (([a1.av F] : List AV)[k]?).getD .top) [a1, .int .i64 v2724] [.hslc (BR.root 0) v2723, .int .i64 v2724] (fun F' h0 hi hρ => ⟨by simp [DVs.av, DV.av, BR.av, hρ], laws_szFloat32S_len_fn v2723 v2724 F' (by rw [hi]; rfl) (st_nil hi) ⟨hslc_ok hi (by rw [h0, hρ]; exact lenV_ok hs (DVs.okAt ha 0 rfl) hv2723), trivial, trivial⟩ hy⟩) rfl
  · cases hr
/-! laws.szMatrix -/
noncomputable def laws_szMatrix_len_LO (v2719 : Int) (v2720 : Int) (v2721 : Nat) (v2722 : Int) : LOr := fun id e L =>
  match id with
  | _ => .fail
noncomputable def laws_szMatrix_len_tab : List (FuncId × DFn × Bool) := [(56, laws_szFloat32S_len_F, true)]
theorem laws_szMatrix_len_hO : OrcOk Try.prog (tabD laws_szMatrix_len_tab) (tabM laws_szMatrix_len_tab) := tabD_cons laws_szFloat32S_len_Fok (tabD_nil _)
noncomputable def laws_szMatrix_len_T (v2721 : Nat) (v2722 : Int) : Tree (Int) :=
  (.br (decide ((laws_szFloat32S_len_v v2721 v2722) < (0 : Int))) (
   .leaf (-1 : Int)
  ) (
   .leaf (laws_szFloat32S_len_v v2721 v2722)
  ))

noncomputable def laws_szMatrix_len_g (v2721 : Nat) (v2722 : Int) : Option (Int) := (laws_szMatrix_len_T v2721 v2722).run
def laws_szMatrix_len_enc (v2719 : Int) (v2720 : Int) (v2721 : Nat) (v2722 : Int) (y : Int) : Rs := (.int .i64 y, [])
theorem laws_szMatrix_len_den (v2719 : Int) (v2720 : Int) (v2721 : Nat) (v2722 : Int) : (den TT (tabD laws_szMatrix_len_tab) (tabM laws_szMatrix_len_tab) (laws_szMatrix_len_LO v2719 v2720 v2721 v2722) (codeOf Try.f15) ([.agg [.int .i64 v2719, .int .i64 v2720, .hslc (BR.root 0) v2721], .int .i64 v2722] ++ List.replicate (Try.f15.ntmps - ([.agg [.int .i64 v2719, .int .i64 v2720, .hslc (BR.root 0) v2721], .int .i64 v2722] : List DV).length) .undef) []).bind (retD TT Try.f15.results.toList 0) = (laws_szMatrix_len_T v2721 v2722).bind fun y => .leaf (laws_szMatrix_len_enc v2719 v2720 v2721 v2722 y) := by kernel_rfl
theorem laws_szMatrix_len_fn (v2719 : Int) (v2720 : Int) (v2721 : Nat) (v2722 : Int) (F : Fr) (hm : F.ids.length = 0) (h0 : St F [] F.H0) (hA : DVs.Ok F [] [.agg [.int .i64 v2719, .int .i64 v2720, .hslc (BR.root 0) v2721], .int .i64 v2722]) {y : Int} (hy : laws_szMatrix_len_g v2721 v2722 = some y) : ∃ H', FnOk Try.prog 15 (DVs.av F [.agg [.int .i64 v2719, .int .i64 v2720, .hslc (BR.root 0) v2721], .int .i64 v2722]) F.H0 ((laws_szMatrix_len_enc v2719 v2720 v2721 v2722 y).1.av F) H' ∧ St F (laws_szMatrix_len_enc v2719 v2720 v2721 v2722 y).2 H' ∧ (laws_szMatrix_len_enc v2719 v2720 v2721 v2722 y).1.Ok F (laws_szMatrix_len_enc v2719 v2720 v2721 v2722 y).2 :=
  fn_fin tok laws_szMatrix_len_hO mixed Try.func15 Try.call15 (by kernel_rfl) (LoopsOk_eq (l := []) (by kernel_rfl) trivial) (laws_szMatrix_len_den v2719 v2720 v2721 v2722) hy hm h0 hA
def laws_szMatrix_len_v (v2721 : Nat) (v2722 : Int) : Int :=
  if (decide ((laws_szFloat32S_len_v v2721 v2722) < (0 : Int))) = true then (
   (-1 : Int)
  ) else (
   (laws_szFloat32S_len_v v2721 v2722)
  )
theorem laws_szMatrix_len_tot (v2721 : Nat) (v2722 : Int) : laws_szMatrix_len_g v2721 v2722 = some (laws_szMatrix_len_v v2721 v2722) := by
  unfold laws_szMatrix_len_g laws_szMatrix_len_T laws_szMatrix_len_v
  simp only [Tree.run]
  repeat' (first | rfl | split)
noncomputable def laws_szMatrix_len_F : DFn := fun args L =>
  match args with
  | [.agg [.int .i64 v2719, .int .i64 v2720, a1], .int .i64 v2722] =>
    optT (lenV L a1) fun v2721 =>
    .leaf (.int .i64 (laws_szMatrix_len_v v2721 v2722), L)
  | _ => .fail
theorem laws_szMatrix_len_Fok : COk Try.prog 15 laws_szMatrix_len_F true := by
  intro F L H args r L' hs ha hr
  unfold laws_szMatrix_len_F at hr
  split at hr
  · rename_i v2719 v2720 a1 v2722
    obtain ⟨v2721, hv2721, hr⟩ := optT_run hr
    have hy := laws_szMatrix_len_tot v2721 v2722
    generalize laws_szMatrix_len_v v2721 v2722 = y at hy hr
    simp only [Tree.run, Option.some.injEq, Prod.mk.injEq] at hr
    obtain ⟨rfl, rfl⟩ := hr
    exact call_ok0 hs (fun k => (([a1.av F] : List AV)[k]?).getD .top) [.agg [.int .i64 v2719, .int .i64 v2720, a1], .int .i64 v2722] [.agg [.int .i64 v2719, .int .i64 v2720, .hslc (BR.root 0) v2721], .int .i64 v2722] (fun F' h0 hi hρ => ⟨by simp [DVs.av, DV.av, BR.av, hρ], laws_szMatrix_len_fn v2719 v2720 v2721 v2722 F' (by rw [hi]; rfl) (st_nil hi) ⟨⟨trivial, trivial, hslc_ok hi (by rw [h0, hρ]; exact lenV_ok hs (DVs.okAt (DVs.okAt ha 0 rfl) 2 rfl) hv2721), trivial⟩, trivial, trivial⟩ hy⟩) rfl
  · cases hr
/-! laws.FnExactMirrorFactor -/
noncomputable def laws_FnExactMirrorFactor_len_LO (v2716 : Int) (v2717 : Int) (v2718 : Nat) : LOr := fun id e L =>
  match id with
  | _ => .fail
noncomputable def laws_FnExactMirrorFactor_len_tab : List (FuncId × DFn × Bool) := [(15, laws_szMatrix_len_F, true)]
theorem laws_FnExactMirrorFactor_len_hO : OrcOk Try.prog (tabD laws_FnExactMirrorFactor_len_tab) (tabM laws_FnExactMirrorFactor_len_tab) := tabD_cons laws_szMatrix_len_Fok (tabD_nil _)
noncomputable def laws_FnExactMirrorFactor_len_T (v2718 : Nat) : Tree (Bool) :=
  (.br (decide ((laws_szMatrix_len_v v2718 (1048576 : Int)) < (0 : Int))) (
   .leaf true
  ) (
   .fail
  ))

noncomputable def laws_FnExactMirrorFactor_len_g (v2718 : Nat) : Option (Bool) := (laws_FnExactMirrorFactor_len_T v2718).run
def laws_FnExactMirrorFactor_len_enc (v2716 : Int) (v2717 : Int) (v2718 : Nat) (y : Bool) : Rs := (.bool y, [])
theorem laws_FnExactMirrorFactor_len_den (v2716 : Int) (v2717 : Int) (v2718 : Nat) : (den TT (tabD laws_FnExactMirrorFactor_len_tab) (tabM laws_FnExactMirrorFactor_len_tab) (laws_FnExactMirrorFactor_len_LO v2716 v2717 v2718) (codeOf Try.f12) ([.agg [.int .i64 v2716, .int .i64 v2717, .hslc (BR.root 0) v2718]] ++ List.replicate (Try.f12.ntmps - ([.agg [.int .i64 v2716, .int .i64 v2717, .hslc (BR.root 0) v2718]] : List DV).length) .undef) []).bind (retD TT Try.f12.results.toList 0) = (laws_FnExactMirrorFactor_len_T v2718).bind fun y => .leaf (laws_FnExactMirrorFactor_len_enc v2716 v2717 v2718 y) := by kernel_rfl
theorem laws_FnExactMirrorFactor_len_fn (v2716 : Int) (v2717 : Int) (v2718 : Nat) (F : Fr) (hm : F.ids.length = 0) (h0 : St F [] F.H0) (hA : DVs.Ok F [] [.agg [.int .i64 v2716, .int .i64 v2717, .hslc (BR.root 0) v2718]]) {y : Bool} (hy : laws_FnExactMirrorFactor_len_g v2718 = some y) : ∃ H', FnOk Try.prog 12 (DVs.av F [.agg [.int .i64 v2716, .int .i64 v2717, .hslc (BR.root 0) v2718]]) F.H0 ((laws_FnExactMirrorFactor_len_enc v2716 v2717 v2718 y).1.av F) H' ∧ St F (laws_FnExactMirrorFactor_len_enc v2716 v2717 v2718 y).2 H' ∧ (laws_FnExactMirrorFactor_len_enc v2716 v2717 v2718 y).1.Ok F (laws_FnExactMirrorFactor_len_enc v2716 v2717 v2718 y).2 :=
  fn_fin tok laws_FnExactMirrorFactor_len_hO mixed Try.func12 Try.call12 (by kernel_rfl) (LoopsOk_eq (l := []) (by kernel_rfl) trivial) (laws_FnExactMirrorFactor_len_den v2716 v2717 v2718) hy hm h0 hA
noncomputable def laws_FnExactMirrorFactor_len_F : DFn := fun args L =>
  match args with
  | [.agg [.int .i64 v2716, .int .i64 v2717, a1]] =>
    optT (lenV L a1) fun v2718 =>
    .call (laws_FnExactMirrorFactor_len_g v2718) fun y => .leaf (.bool y, L)
  | _ => .fail
theorem laws_FnExactMirrorFactor_len_Fok : COk Try.prog 12 laws_FnExactMirrorFactor_len_F true := by
  intro F L H args r L' hs ha hr
  unfold laws_FnExactMirrorFactor_len_F at hr
  split at hr
  · rename_i v2716 v2717 a1
    obtain ⟨v2718, hv2718, hr⟩ := optT_run hr
    simp only [Tree.run] at hr
    obtain ⟨y, hy, hr⟩ := Option.bind_eq_some_iff.1 hr
    simp only [Tree.run, Option.some.injEq, Prod.mk.injEq] at hr
    obtain ⟨rfl, rfl⟩ := hr
    exact call_ok0 hs (fun k => (([a1.av F] : List AV)[k]?).getD .top) [.agg [.int .i64 v2716, .int .i64 v2717, a1]] [.agg [.int .i64 v2716, .int .i64 v2717, .hslc (BR.root 0) v2718]] (fun F' h0 hi hρ => ⟨by simp [DVs.av, DV.av, BR.av, hρ], laws_FnExactMirrorFactor_len_fn v2716 v2717 v2718 F' (by rw [hi]; rfl) (st_nil hi) ⟨⟨trivial, trivial, hslc_ok hi (by rw [h0, hρ]; exact lenV_ok hs (DVs.okAt (DVs.okAt ha 0 rfl) 2 rfl) hv2718), trivial⟩, trivial⟩ hy⟩) rfl
  · cases hr
end Go.Proofs.Ytooakheodgndaaa.AM
