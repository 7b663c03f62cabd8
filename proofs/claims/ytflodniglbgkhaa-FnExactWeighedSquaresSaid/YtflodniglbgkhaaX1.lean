/- Functions: what they come to. -/
import Derived.Test.YtflodniglbgkhaaX0
set_option maxRecDepth 100000
set_option maxHeartbeats 4000000
set_option linter.unusedSimpArgs false
set_option linter.unusedVariables false
namespace Go.Proofs.Ytflodniglbgkhaa.AM
open Go.Proofs
/-! (impl.Matrix).at -/
noncomputable def impl_Matrix_at_LO (v2085 : Int) (v2086 : Int) (v2087 : List Nat) (v2088 : Int) (v2089 : Int) : LOr := fun id e L =>
  match id with
  | _ => .fail
noncomputable def impl_Matrix_at_tab : List (FuncId × DFn × Bool) := []
theorem impl_Matrix_at_hO : OrcOk Try.prog (tabD impl_Matrix_at_tab) (tabM impl_Matrix_at_tab) := tabD_nil _
noncomputable def impl_Matrix_at_T (v2086 : Int) (v2087 : List Nat) (v2088 : Int) (v2089 : Int) : Tree (Nat) :=
  (.grd (inb (IntKind.i64.wrap ((IntKind.i64.wrap (v2088 * v2086)) + v2089)) v2087.length) <|
  .leaf (nth v2087 (Int.toNat (IntKind.i64.wrap ((IntKind.i64.wrap (v2088 * v2086)) + v2089)))))

noncomputable def impl_Matrix_at_g (v2086 : Int) (v2087 : List Nat) (v2088 : Int) (v2089 : Int) : Option (Nat) := (impl_Matrix_at_T v2086 v2087 v2088 v2089).run
def impl_Matrix_at_enc (v2085 : Int) (v2086 : Int) (v2087 : List Nat) (v2088 : Int) (v2089 : Int) (y : Nat) : Rs := (.flt .f32 y, [])
theorem impl_Matrix_at_den (v2085 : Int) (v2086 : Int) (v2087 : List Nat) (v2088 : Int) (v2089 : Int) : (den TT (tabD impl_Matrix_at_tab) (tabM impl_Matrix_at_tab) (impl_Matrix_at_LO v2085 v2086 v2087 v2088 v2089) (codeOf Try.f49) ([.agg [.int .i64 v2085, .int .i64 v2086, .bslc (BR.root 0) (.f32 v2087)], .int .i64 v2088, .int .i64 v2089] ++ List.replicate (Try.f49.ntmps - ([.agg [.int .i64 v2085, .int .i64 v2086, .bslc (BR.root 0) (.f32 v2087)], .int .i64 v2088, .int .i64 v2089] : List DV).length) .undef) []).bind (retD TT Try.f49.results.toList 0) = (impl_Matrix_at_T v2086 v2087 v2088 v2089).bind fun y => .leaf (impl_Matrix_at_enc v2085 v2086 v2087 v2088 v2089 y) := by kernel_rfl
theorem impl_Matrix_at_fn (v2085 : Int) (v2086 : Int) (v2087 : List Nat) (v2088 : Int) (v2089 : Int) (F : Fr) (hm : F.ids.length = 0) (h0 : St F [] F.H0) (hA : DVs.Ok F [] [.agg [.int .i64 v2085, .int .i64 v2086, .bslc (BR.root 0) (.f32 v2087)], .int .i64 v2088, .int .i64 v2089]) {y : Nat} (hy : impl_Matrix_at_g v2086 v2087 v2088 v2089 = some y) : ∃ H', FnOk Try.prog 49 (DVs.av F [.agg [.int .i64 v2085, .int .i64 v2086, .bslc (BR.root 0) (.f32 v2087)], .int .i64 v2088, .int .i64 v2089]) F.H0 ((impl_Matrix_at_enc v2085 v2086 v2087 v2088 v2089 y).1.av F) H' ∧ St F (impl_Matrix_at_enc v2085 v2086 v2087 v2088 v2089 y).2 H' ∧ (impl_Matrix_at_enc v2085 v2086 v2087 v2088 v2089 y).1.Ok F (impl_Matrix_at_enc v2085 v2086 v2087 v2088 v2089 y).2 :=
  fn_fin tok impl_Matrix_at_hO mixed Try.func49 Try.call49 (by kernel_rfl) (LoopsOk_eq (l := []) (by kernel_rfl) trivial) (impl_Matrix_at_den v2085 v2086 v2087 v2088 v2089) hy hm h0 hA
noncomputable def impl_Matrix_at_F : DFn := fun args L =>
  match args with
  | [.agg [.int .i64 v2085, .int .i64 v2086, a1], .int .i64 v2088, .int .i64 v2089] =>
    optT (rowF32 L a1) fun v2087 =>
    .call (impl_Matrix_at_g v2086 v2087 v2088 v2089) fun y => .leaf (.flt .f32 y, L)
  | _ => .fail
theorem impl_Matrix_at_Fok : COk Try.prog 49 impl_Matrix_at_F true := by
  intro F L H args r L' hs ha hr
  unfold impl_Matrix_at_F at hr
  split at hr
  · rename_i v2085 v2086 a1 v2088 v2089
    obtain ⟨v2087, hv2087, hr⟩ := optT_run hr
    simp only [Tree.run] at hr
    obtain ⟨y, hy, hr⟩ := Option.bind_eq_some_iff.1 hr
    simp only [Tree.run, Option.some.injEq, Prod.mk.injEq] at hr
    obtain ⟨rfl, rfl⟩ := hr
    exact call_ok0 hs (fun k => (([a1.av F] : List AV)[k]?).getD .top) [.agg [.int .i64 v2085, .int .i64 v2086, a1], .int .i64 v2088, .int .i64 v2089] [.agg [.int .i64 v2085, .int .i64 v2086, .bslc (BR.root 0) (.f32 v2087)], .int .i64 v2088, .int .i64 v2089] (fun F' h0 hi hρ => ⟨by simp [DVs.av, DV.av, BR.av, hρ], impl_Matrix_at_fn v2085 v2086 v2087 v2088 v2089 F' (by rw [hi]; rfl) (st_nil hi) ⟨⟨trivial, trivial, bslc_ok hi (by rw [h0, hρ]; exact rowF32_ok hs (DVs.okAt (DVs.okAt ha 0 rfl) 2 rfl) hv2087), trivial⟩, trivial, trivial, trivial⟩ hy⟩) rfl
  · cases hr
/-! impl.WeighedSquares$2 -/
noncomputable def impl_WeighedSquares_2_LO (v2079 : Int) (v2080 : Int) (v2081 : Int) (v2082 : Int) (v2083 : List Nat) (v2084 : List Nat) : LOr := fun id e L =>
  match id with
  | _ => .fail
noncomputable def impl_WeighedSquares_2_tab : List (FuncId × DFn × Bool) := [(49, impl_Matrix_at_F, true), (52, impl_RootNumber_F, true), (50, impl_mul_F, true)]
theorem impl_WeighedSquares_2_hO : OrcOk Try.prog (tabD impl_WeighedSquares_2_tab) (tabM impl_WeighedSquares_2_tab) := tabD_cons impl_Matrix_at_Fok (tabD_cons impl_RootNumber_Fok (tabD_cons impl_mul_Fok (tabD_nil _)))
noncomputable def impl_WeighedSquares_2_T (v2079 : Int) (v2080 : Int) (v2082 : Int) (v2083 : List Nat) (v2084 : List Nat) : Tree (Nat) :=
  (.call (impl_Matrix_at_g v2082 v2083 v2079 v2080) fun v2090 =>
  (.grd (inb v2079 v2084.length) <|
  (.call (impl_RootNumber_g (nth v2084 (Int.toNat v2079))) fun v2091 =>
  .leaf (impl_mul_v v2090 v2091))))

noncomputable def impl_WeighedSquares_2_g (v2079 : Int) (v2080 : Int) (v2082 : Int) (v2083 : List Nat) (v2084 : List Nat) : Option (Nat) := (impl_WeighedSquares_2_T v2079 v2080 v2082 v2083 v2084).run
def impl_WeighedSquares_2_enc (v2079 : Int) (v2080 : Int) (v2081 : Int) (v2082 : Int) (v2083 : List Nat) (v2084 : List Nat) (y : Nat) : Rs := (.flt .f32 y, [])
theorem impl_WeighedSquares_2_den (v2079 : Int) (v2080 : Int) (v2081 : Int) (v2082 : Int) (v2083 : List Nat) (v2084 : List Nat) : (den TT (tabD impl_WeighedSquares_2_tab) (tabM impl_WeighedSquares_2_tab) (impl_WeighedSquares_2_LO v2079 v2080 v2081 v2082 v2083 v2084) (codeOf Try.f110) ([.int .i64 v2079, .int .i64 v2080, .bptr (BR.root 0) [.int .i64 v2081, .int .i64 v2082, .bslc (BR.root 1) (.f32 v2083)], .bptr (BR.root 2) [.bslc (BR.root 3) (.f32 v2084)]] ++ List.replicate (Try.f110.ntmps - ([.int .i64 v2079, .int .i64 v2080, .bptr (BR.root 0) [.int .i64 v2081, .int .i64 v2082, .bslc (BR.root 1) (.f32 v2083)], .bptr (BR.root 2) [.bslc (BR.root 3) (.f32 v2084)]] : List DV).length) .undef) []).bind (retD TT Try.f110.results.toList 0) = (impl_WeighedSquares_2_T v2079 v2080 v2082 v2083 v2084).bind fun y => .leaf (impl_WeighedSquares_2_enc v2079 v2080 v2081 v2082 v2083 v2084 y) := by kernel_rfl
theorem impl_WeighedSquares_2_fn (v2079 : Int) (v2080 : Int) (v2081 : Int) (v2082 : Int) (v2083 : List Nat) (v2084 : List Nat) (F : Fr) (hm : F.ids.length = 0) (h0 : St F [] F.H0) (hA : DVs.Ok F [] [.int .i64 v2079, .int .i64 v2080, .bptr (BR.root 0) [.int .i64 v2081, .int .i64 v2082, .bslc (BR.root 1) (.f32 v2083)], .bptr (BR.root 2) [.bslc (BR.root 3) (.f32 v2084)]]) {y : Nat} (hy : impl_WeighedSquares_2_g v2079 v2080 v2082 v2083 v2084 = some y) : ∃ H', FnOk Try.prog 110 (DVs.av F [.int .i64 v2079, .int .i64 v2080, .bptr (BR.root 0) [.int .i64 v2081, .int .i64 v2082, .bslc (BR.root 1) (.f32 v2083)], .bptr (BR.root 2) [.bslc (BR.root 3) (.f32 v2084)]]) F.H0 ((impl_WeighedSquares_2_enc v2079 v2080 v2081 v2082 v2083 v2084 y).1.av F) H' ∧ St F (impl_WeighedSquares_2_enc v2079 v2080 v2081 v2082 v2083 v2084 y).2 H' ∧ (impl_WeighedSquares_2_enc v2079 v2080 v2081 v2082 v2083 v2084 y).1.Ok F (impl_WeighedSquares_2_enc v2079 v2080 v2081 v2082 v2083 v2084 y).2 :=
  fn_fin tok impl_WeighedSquares_2_hO mixed Try.func110 Try.call110 (by kernel_rfl) (LoopsOk_eq (l := []) (by kernel_rfl) trivial) (impl_WeighedSquares_2_den v2079 v2080 v2081 v2082 v2083 v2084) hy hm h0 hA
noncomputable def impl_WeighedSquares_2_F : DFn := fun args L =>
  match args with
  | [.int .i64 v2079, .int .i64 v2080, a1, a3] =>
    optT (cellsOf L 3 a1) fun cs0 =>
    (match cs0 with
    | [.int .i64 v2081, .int .i64 v2082, a2] =>
    optT (rowF32 L a2) fun v2083 =>
    optT (cellsOf L 1 a3) fun cs2 =>
    (match cs2 with
    | [a4] =>
    optT (rowF32 L a4) fun v2084 =>
    .call (impl_WeighedSquares_2_g v2079 v2080 v2082 v2083 v2084) fun y => .leaf (.flt .f32 y, L)
    | _ => .fail)
    | _ => .fail)
  | _ => .fail
theorem impl_WeighedSquares_2_Fok : COk Try.prog 110 impl_WeighedSquares_2_F true := by
  intro F L H args r L' hs ha hr
  unfold impl_WeighedSquares_2_F at hr
  split at hr
  · rename_i v2079 v2080 a1 a3
    obtain ⟨cs0, hcp0, hr⟩ := optT_run hr
    split at hr
    · rename_i v2081 v2082 a2
      obtain ⟨v2083, hv2083, hr⟩ := optT_run hr
      obtain ⟨cs2, hcp2, hr⟩ := optT_run hr
      split at hr
      · rename_i a4
        obtain ⟨v2084, hv2084, hr⟩ := optT_run hr
        simp only [Tree.run] at hr
        obtain ⟨y, hy, hr⟩ := Option.bind_eq_some_iff.1 hr
        simp only [Tree.run, Option.some.injEq, Prod.mk.injEq] at hr
        obtain ⟨rfl, rfl⟩ := hr
        exact call_ok0 hs (fun k => (([a1.av F, a2.av F, a3.av F, a4.av F] : List AV)[k]?).getD .top) [.int .i64 v2079, .int .i64 v2080, a1, a3] [.int .i64 v2079, .int .i64 v2080, .bptr (BR.root 0) [.int .i64 v2081, .int .i64 v2082, .bslc (BR.root 1) (.f32 v2083)], .bptr (BR.root 2) [.bslc (BR.root 3) (.f32 v2084)]] (fun F' h0 hi hρ => ⟨by simp [DVs.av, DV.av, BR.av, hρ], impl_WeighedSquares_2_fn v2079 v2080 v2081 v2082 v2083 v2084 F' (by rw [hi]; rfl) (st_nil hi) ⟨trivial, trivial, bptr_ok hi (by rw [h0]; simpa [DVs.av, DV.av, BR.av, hρ] using (cellsOf_ok hs (DVs.okAt ha 2 rfl) hcp0).1) ⟨trivial, trivial, bslc_ok hi (by rw [h0, hρ]; exact rowF32_ok hs (DVs.okAt (cellsOf_ok hs (DVs.okAt ha 2 rfl) hcp0).2 2 rfl) hv2083), trivial⟩, bptr_ok hi (by rw [h0]; simpa [DVs.av, DV.av, BR.av, hρ] using (cellsOf_ok hs (DVs.okAt ha 3 rfl) hcp2).1) ⟨bslc_ok hi (by rw [h0, hρ]; exact rowF32_ok hs (DVs.okAt (cellsOf_ok hs (DVs.okAt ha 3 rfl) hcp2).2 0 rfl) hv2084), trivial⟩, trivial⟩ hy⟩) rfl
      · cases hr
    · cases hr
  · cases hr
/-! (impl.Matrix).set -/
noncomputable def impl_Matrix_set_LO (v2099 : Int) (v2100 : Int) (v2101 : List Nat) (v2102 : Int) (v2103 : Int) (v2104 : Nat) : LOr := fun id e L =>
  match id with
  | _ => .fail
noncomputable def impl_Matrix_set_tab : List (FuncId × DFn × Bool) := []
theorem impl_Matrix_set_hO : OrcOk Try.prog (tabD impl_Matrix_set_tab) (tabM impl_Matrix_set_tab) := tabD_nil _
noncomputable def impl_Matrix_set_T (v2100 : Int) (v2101 : List Nat) (v2102 : Int) (v2103 : Int) : Tree (Unit) :=
  (.grd (inb (IntKind.i64.wrap ((IntKind.i64.wrap (v2102 * v2100)) + v2103)) v2101.length) <|
  .leaf ())

noncomputable def impl_Matrix_set_g (v2100 : Int) (v2101 : List Nat) (v2102 : Int) (v2103 : Int) : Option (Unit) := (impl_Matrix_set_T v2100 v2101 v2102 v2103).run
def impl_Matrix_set_enc (v2099 : Int) (v2100 : Int) (v2101 : List Nat) (v2102 : Int) (v2103 : Int) (v2104 : Nat) (y : Unit) : Rs := (.tup [], [.row (.f32 (List.set v2101 (Int.toNat (IntKind.i64.wrap ((IntKind.i64.wrap (v2102 * v2100)) + v2103))) v2104)) 0])
theorem impl_Matrix_set_den (v2099 : Int) (v2100 : Int) (v2101 : List Nat) (v2102 : Int) (v2103 : Int) (v2104 : Nat) : (den TT (tabD impl_Matrix_set_tab) (tabM impl_Matrix_set_tab) (impl_Matrix_set_LO v2099 v2100 v2101 v2102 v2103 v2104) (codeOf Try.f51) ([.agg [.int .i64 v2099, .int .i64 v2100, .own 0 0 v2101.length], .int .i64 v2102, .int .i64 v2103, .flt .f32 v2104] ++ List.replicate (Try.f51.ntmps - ([.agg [.int .i64 v2099, .int .i64 v2100, .own 0 0 v2101.length], .int .i64 v2102, .int .i64 v2103, .flt .f32 v2104] : List DV).length) .undef) [.row (.f32 v2101) 0]).bind (retD TT Try.f51.results.toList 1) = (impl_Matrix_set_T v2100 v2101 v2102 v2103).bind fun y => .leaf (impl_Matrix_set_enc v2099 v2100 v2101 v2102 v2103 v2104 y) := by kernel_rfl
theorem impl_Matrix_set_fn (v2099 : Int) (v2100 : Int) (v2101 : List Nat) (v2102 : Int) (v2103 : Int) (v2104 : Nat) (F : Fr) (hm : F.ids.length = 1) (h0 : St F [.row (.f32 v2101) 0] F.H0) (hA : DVs.Ok F [.row (.f32 v2101) 0] [.agg [.int .i64 v2099, .int .i64 v2100, .own 0 0 v2101.length], .int .i64 v2102, .int .i64 v2103, .flt .f32 v2104]) {y : Unit} (hy : impl_Matrix_set_g v2100 v2101 v2102 v2103 = some y) : ∃ H', FnOk Try.prog 51 (DVs.av F [.agg [.int .i64 v2099, .int .i64 v2100, .own 0 0 v2101.length], .int .i64 v2102, .int .i64 v2103, .flt .f32 v2104]) F.H0 ((impl_Matrix_set_enc v2099 v2100 v2101 v2102 v2103 v2104 y).1.av F) H' ∧ St F (impl_Matrix_set_enc v2099 v2100 v2101 v2102 v2103 v2104 y).2 H' ∧ (impl_Matrix_set_enc v2099 v2100 v2101 v2102 v2103 v2104 y).1.Ok F (impl_Matrix_set_enc v2099 v2100 v2101 v2102 v2103 v2104 y).2 :=
  fn_fin tok impl_Matrix_set_hO mixed Try.func51 Try.call51 (by kernel_rfl) (LoopsOk_eq (l := []) (by kernel_rfl) trivial) (impl_Matrix_set_den v2099 v2100 v2101 v2102 v2103 v2104) hy hm h0 hA
noncomputable def impl_Matrix_set_F : DFn := fun args L =>
  match args with
  | [.agg [.int .i64 v2099, .int .i64 v2100, a1], .int .i64 v2102, .int .i64 v2103, .flt .f32 v2104] =>
    optT (ownF32 L a1) fun qv2101 =>
    (match sepB [qv2101.1] [] with
    | true =>
    .call (impl_Matrix_set_g v2100 qv2101.2 v2102 v2103) fun y => .grd (decide ((List.set qv2101.2 (Int.toNat (IntKind.i64.wrap ((IntKind.i64.wrap (v2102 * v2100)) + v2103))) v2104).length = qv2101.2.length)) (.leaf (.tup [], setRows L ([qv2101.1].zip [.f32 (List.set qv2101.2 (Int.toNat (IntKind.i64.wrap ((IntKind.i64.wrap (v2102 * v2100)) + v2103))) v2104)])))
    | false => .fail)
  | _ => .fail
theorem impl_Matrix_set_Fok : COk Try.prog 51 impl_Matrix_set_F false := by
  intro F L H args r L' hs ha hr
  unfold impl_Matrix_set_F at hr
  split at hr
  · rename_i v2099 v2100 a1 v2102 v2103 v2104
    obtain ⟨⟨jv2101, v2101⟩, hqv2101, hr⟩ := optT_run hr
    simp only at hr
    split at hr
    · rename_i hsep
      obtain ⟨hnd, hsepv⟩ := sepB_spec hsep
      simp only [Tree.run] at hr
      obtain ⟨y, hy, hr⟩ := Option.bind_eq_some_iff.1 hr
      try simp only [Tree.run] at hr
      obtain ⟨hl0, hr⟩ := ite_run hr
      simp only [Option.some.injEq, Prod.mk.injEq] at hr
      obtain ⟨rfl, rfl⟩ := hr
      obtain ⟨hr0, hu0, ha0, hb0⟩ := (ownR_spec (DVs.okAt (DVs.okAt ha 0 rfl) 2 rfl) (ownF32_or hqv2101))
      exact mut_ok hs (fun k => (([a1.av F] : List AV)[k]?).getD .top) [.agg [.int .i64 v2099, .int .i64 v2100, a1], .int .i64 v2102, .int .i64 v2103, .flt .f32 v2104] [.agg [.int .i64 v2099, .int .i64 v2100, .own 0 0 v2101.length], .int .i64 v2102, .int .i64 v2103, .flt .f32 v2104] [jv2101] [.f32 v2101] [.f32 (List.set v2101 (Int.toNat (IntKind.i64.wrap ((IntKind.i64.wrap (v2102 * v2100)) + v2103))) v2104)] hnd rfl rfl (fun i j q h1 h2 => by
          rcases i with _ | i
          · simp at h1 h2; subst h1; subst h2; exact hr0
          · simp at h1) (fun i q q' h1 h2 => by
          rcases i with _ | i
          · simp at h1 h2; subst h1; subst h2; exact of_decide_eq_true hl0
          · simp at h1) (fun j hj => by simp at hj; subst hj; simp [DVs.refs, DV.refs, hu0]) (fun F' h0 hi hρ hst hS => ⟨by (have ab0 : F'.abs 0 = F.abs jv2101 := (by simp [Fr.abs, hi]); simp [DVs.av, DV.av, BR.av, hρ, Row.len, ha0, ab0]), by
          obtain ⟨H1, k1, k2, _⟩ := impl_Matrix_set_fn v2099 v2100 v2101 v2102 v2103 v2104 F' (by rw [hi]; rfl) hst ⟨⟨trivial, trivial, ⟨_, rfl, Nat.le_refl _, Nat.le_refl _, fun _ => rfl, (ownR_spec (DVs.okAt (DVs.okAt ha 0 rfl) 2 rfl) (ownF32_or hqv2101)).2.2.2⟩, trivial⟩, trivial, trivial, trivial, trivial⟩ hy
          exact ⟨H1, k1, k2⟩⟩) (fun F' => rfl) (fun L' => trivial)
    · cases hr
  · cases hr
/-! impl.made -/
noncomputable def impl_made_l2_T (v2064 : Int) (v2066 : Int) (v2067 : List Nat) (v2068 : List Nat) (v2165 : Int) (v2167 : Int) (v2168 : Int) (s : Int × (List Nat)) : Tree ((Int × (List Nat)) ⊕ ((List Nat))) :=
  (.br (decide (s.1 < v2064)) (
   (.call (impl_WeighedSquares_2_g v2165 s.1 v2066 v2067 v2068) fun v2170 =>
   (.call (impl_Matrix_set_g v2168 s.2 v2165 s.1) fun v2171 =>
   (.grd (decide ((List.set s.2 (Int.toNat (IntKind.i64.wrap ((IntKind.i64.wrap (v2165 * v2168)) + s.1))) v2170).length = s.2.length)) <|
   .leaf (.inl (IntKind.i64.wrap (s.1 + (1 : Int)), List.set s.2 (Int.toNat (IntKind.i64.wrap ((IntKind.i64.wrap (v2165 * v2168)) + s.1))) v2170)))))
  ) (
   .leaf (.inr s.2)
  ))

noncomputable def impl_made_l2_g (v2064 : Int) (v2066 : Int) (v2067 : List Nat) (v2068 : List Nat) (v2165 : Int) (v2167 : Int) (v2168 : Int) (s0 : Int × (List Nat)) : Option ((List Nat)) := whileM (fun s => (impl_made_l2_T v2064 v2066 v2067 v2068 v2165 v2167 v2168 s).run) s0
def impl_made_l2_E (v2063 : Int) (v2064 : Int) (v2065 : Int) (v2066 : Int) (v2067 : List Nat) (v2068 : List Nat) (v2165 : Int) (v2167 : Int) (v2168 : Int) (s : Int × (List Nat)) : Sd := ([.top, .int .i64 v2064, .fn 110 [.bptr (BR.root 0) [.int .i64 v2065, .int .i64 v2066, .bslc (BR.root 1) (.f32 v2067)], .bptr (BR.root 2) [.bslc (BR.root 3) (.f32 v2068)]], .top, .top, .top, .ptr 0 (0 : Nat) 0 (3 : Nat), .ptr 1 (0 : Nat) 0 (3 : Nat), .int .i64 v2165, .top, .top, .top, .top, .int .i64 v2063, .int .i64 v2165, .top, .top, .int .i64 v2064, .int .i64 s.1, .top, .top, .top, .top, .top, .top, .top, .top, .top, .top, .top, .top, .top], [.gen [.int .i64 (0 : Int), .int .i64 (0 : Int), .nilslc] false 0, .gen [.int .i64 v2167, .int .i64 v2168, .own 2 0 ((s.2).length)] false 0, .row (.f32 s.2) 0])
def impl_made_l2_X (v2063 : Int) (v2064 : Int) (v2065 : Int) (v2066 : Int) (v2067 : List Nat) (v2068 : List Nat) (v2165 : Int) (v2167 : Int) (v2168 : Int) (x : (List Nat)) : Out := (.normal, [.top, .int .i64 v2064, .fn 110 [.bptr (BR.root 0) [.int .i64 v2065, .int .i64 v2066, .bslc (BR.root 1) (.f32 v2067)], .bptr (BR.root 2) [.bslc (BR.root 3) (.f32 v2068)]], .top, .top, .top, .ptr 0 (0 : Nat) 0 (3 : Nat), .ptr 1 (0 : Nat) 0 (3 : Nat), .top, .top, .top, .top, .top, .int .i64 v2063, .int .i64 v2165, .top, .top, .top, .top, .top, .top, .top, .top, .top, .top, .top, .top, .top, .top, .top, .top, .top], [.gen [.int .i64 (0 : Int), .int .i64 (0 : Int), .nilslc] false 0, .gen [.int .i64 v2167, .int .i64 v2168, .own 2 0 ((x).length)] false 0, .row (.f32 x) 0])
def impl_made_l2_kill : List Nat := [1, 0, 0, 1, 1, 1, 0, 0, 0, 1, 1, 1, 1, 0, 0, 1, 1, 0, 0, 1, 1, 1, 1, 1, 1, 1, 1, 1, 1, 1, 1, 1]
def impl_made_l2_nx : Exit → List Nat
  | .exit 0 => [1, 1, 1, 1, 1, 1, 0, 0, 1, 1, 1, 1, 1, 1, 1, 1, 1, 1, 1, 1, 1, 1, 1, 1, 1, 1, 1, 1, 1, 1, 1, 1]
  | .exit 1 => [1, 0, 0, 1, 1, 1, 0, 0, 1, 1, 1, 1, 1, 0, 0, 1, 1, 1, 1, 1, 1, 1, 1, 1, 1, 1, 1, 1, 1, 1, 1, 1]
  | .exit 2 => [1, 0, 0, 1, 1, 1, 0, 0, 1, 1, 1, 1, 1, 0, 0, 1, 1, 1, 1, 1, 1, 1, 1, 1, 1, 1, 1, 1, 1, 1, 1, 1]
  | .ret => [1, 1, 1, 1, 1, 1, 0, 1, 1, 1, 1, 1, 1, 1, 1, 1, 1, 1, 1, 1, 1, 1, 1, 1, 1, 1, 1, 1, 1, 1, 1, 1]
  | _ => []
noncomputable def impl_made_l0_T (v2063 : Int) (v2064 : Int) (v2065 : Int) (v2066 : Int) (v2067 : List Nat) (v2068 : List Nat) (v2148 : Int) (v2149 : Int) (s : Int × (List Nat)) : Tree ((Int × (List Nat)) ⊕ ((List Nat))) :=
  (.br (decide (s.1 < v2063)) (
   (.need (some (impl_made_l2_E v2063 v2064 v2065 v2066 v2067 v2068 s.1 v2148 v2149 ((0 : Int), s.2)) = some (impl_made_l2_E v2063 v2064 v2065 v2066 v2067 v2068 s.1 v2148 v2149 ((0 : Int), s.2))) <|
   (.call (impl_made_l2_g v2064 v2066 v2067 v2068 s.1 v2148 v2149 ((0 : Int), s.2)) fun v2172 =>
   .leaf (.inl (IntKind.i64.wrap (s.1 + (1 : Int)), v2172))))
  ) (
   .leaf (.inr s.2)
  ))

noncomputable def impl_made_l0_g (v2063 : Int) (v2064 : Int) (v2065 : Int) (v2066 : Int) (v2067 : List Nat) (v2068 : List Nat) (v2148 : Int) (v2149 : Int) (s0 : Int × (List Nat)) : Option ((List Nat)) := whileM (fun s => (impl_made_l0_T v2063 v2064 v2065 v2066 v2067 v2068 v2148 v2149 s).run) s0
def impl_made_l0_E (v2063 : Int) (v2064 : Int) (v2065 : Int) (v2066 : Int) (v2067 : List Nat) (v2068 : List Nat) (v2148 : Int) (v2149 : Int) (s : Int × (List Nat)) : Sd := ([.top, .int .i64 v2064, .fn 110 [.bptr (BR.root 0) [.int .i64 v2065, .int .i64 v2066, .bslc (BR.root 1) (.f32 v2067)], .bptr (BR.root 2) [.bslc (BR.root 3) (.f32 v2068)]], .top, .top, .top, .ptr 0 (0 : Nat) 0 (3 : Nat), .ptr 1 (0 : Nat) 0 (3 : Nat), .top, .top, .top, .top, .top, .int .i64 v2063, .int .i64 s.1, .top, .top, .top, .top, .top, .top, .top, .top, .top, .top, .top, .top, .top, .top, .top, .top, .top], [.gen [.int .i64 (0 : Int), .int .i64 (0 : Int), .nilslc] false 0, .gen [.int .i64 v2148, .int .i64 v2149, .own 2 0 ((s.2).length)] false 0, .row (.f32 s.2) 0])
def impl_made_l0_X (v2063 : Int) (v2064 : Int) (v2065 : Int) (v2066 : Int) (v2067 : List Nat) (v2068 : List Nat) (v2148 : Int) (v2149 : Int) (x : (List Nat)) : Out := (.normal, [.top, .top, .top, .top, .top, .top, .ptr 0 (0 : Nat) 0 (3 : Nat), .ptr 1 (0 : Nat) 0 (3 : Nat), .top, .top, .top, .top, .top, .top, .top, .top, .top, .top, .top, .top, .top, .top, .top, .top, .top, .top, .top, .top, .top, .top, .top, .top], [.gen [.int .i64 (0 : Int), .int .i64 (0 : Int), .nilslc] false 0, .gen [.int .i64 v2148, .int .i64 v2149, .own 2 0 ((x).length)] false 0, .row (.f32 x) 0])
def impl_made_l0_kill : List Nat := [1, 0, 0, 1, 1, 1, 0, 0, 1, 1, 1, 1, 1, 0, 0, 1, 1, 1, 1, 1, 1, 1, 1, 1, 1, 1, 1, 1, 1, 1, 1, 1]
def impl_made_l0_nx : Exit → List Nat
  | .exit 0 => [1, 1, 1, 1, 1, 1, 0, 0, 1, 1, 1, 1, 1, 1, 1, 1, 1, 1, 1, 1, 1, 1, 1, 1, 1, 1, 1, 1, 1, 1, 1, 1]
  | .ret => [1, 1, 1, 1, 1, 1, 0, 1, 1, 1, 1, 1, 1, 1, 1, 1, 1, 1, 1, 1, 1, 1, 1, 1, 1, 1, 1, 1, 1, 1, 1, 1]
  | _ => []
noncomputable def impl_made_LO (v2063 : Int) (v2064 : Int) (v2065 : Int) (v2066 : Int) (v2067 : List Nat) (v2068 : List Nat) : LOr := fun id e L =>
  match id with
  | 2 => .need (normA 0 impl_made_l2_kill e L = some (impl_made_l2_E v2063 v2064 v2065 v2066 v2067 v2068 (gI (vAt e 8)) (gI (cAt L (vAt e 7) 0)) (gI (cAt L (vAt e 7) 1)) ((gI (vAt e 18)), (gRF L (cAt L (vAt e 7) 2))))) (.call (impl_made_l2_g v2064 v2066 v2067 v2068 (gI (vAt e 8)) (gI (cAt L (vAt e 7) 0)) (gI (cAt L (vAt e 7) 1)) ((gI (vAt e 18)), (gRF L (cAt L (vAt e 7) 2)))) fun x => .leaf (impl_made_l2_X v2063 v2064 v2065 v2066 v2067 v2068 (gI (vAt e 8)) (gI (cAt L (vAt e 7) 0)) (gI (cAt L (vAt e 7) 1)) x))
  | 0 => .need (normA 0 impl_made_l0_kill e L = some (impl_made_l0_E v2063 v2064 v2065 v2066 v2067 v2068 (gI (cAt L (vAt e 7) 0)) (gI (cAt L (vAt e 7) 1)) ((gI (vAt e 14)), (gRF L (cAt L (vAt e 7) 2))))) (.call (impl_made_l0_g v2063 v2064 v2065 v2066 v2067 v2068 (gI (cAt L (vAt e 7) 0)) (gI (cAt L (vAt e 7) 1)) ((gI (vAt e 14)), (gRF L (cAt L (vAt e 7) 2)))) fun x => .leaf (impl_made_l0_X v2063 v2064 v2065 v2066 v2067 v2068 (gI (cAt L (vAt e 7) 0)) (gI (cAt L (vAt e 7) 1)) x))
  | _ => .fail
noncomputable def impl_made_tab : List (FuncId × DFn × Bool) := [(48, impl_newMatrix_F, true), (110, impl_WeighedSquares_2_F, true), (51, impl_Matrix_set_F, false)]
theorem impl_made_hO : OrcOk Try.prog (tabD impl_made_tab) (tabM impl_made_tab) := tabD_cons impl_newMatrix_Fok (tabD_cons impl_WeighedSquares_2_Fok (tabD_cons impl_Matrix_set_Fok (tabD_nil _)))
theorem impl_made_l2_be (v2063 : Int) (v2064 : Int) (v2065 : Int) (v2066 : Int) (v2067 : List Nat) (v2068 : List Nat) (v2165 : Int) (v2167 : Int) (v2168 : Int) (s : Int × (List Nat)) : bodyT TT (tabD impl_made_tab) (tabM impl_made_tab) (impl_made_LO v2063 v2064 v2065 v2066 v2067 v2068) 0 impl_made_l2_kill impl_made_l2_nx (bodyOf Try.f96 2) 2 (impl_made_l2_E v2063 v2064 v2065 v2066 v2067 v2068 v2165 v2167 v2168 s) = (impl_made_l2_T v2064 v2066 v2067 v2068 v2165 v2167 v2168 s).bind fun y => .leaf (outS (impl_made_l2_E v2063 v2064 v2065 v2066 v2067 v2068 v2165 v2167 v2168) (impl_made_l2_X v2063 v2064 v2065 v2066 v2067 v2068 v2165 v2167 v2168) y) := by kernel_rfl
theorem impl_made_l2_ok (v2063 : Int) (v2064 : Int) (v2065 : Int) (v2066 : Int) (v2067 : List Nat) (v2068 : List Nat) : LSound Try.prog 0 (impl_made_LO v2063 v2064 v2065 v2066 v2067 v2068) 2 (bodyOf Try.f96 2) := by
  intro e L out h
  exact lo_ok (E := impl_made_l2_E v2063 v2064 v2065 v2066 v2067 v2068 (gI (vAt e 8)) (gI (cAt L (vAt e 7) 0)) (gI (cAt L (vAt e 7) 1))) (gT := impl_made_l2_T v2064 v2066 v2067 v2068 (gI (vAt e 8)) (gI (cAt L (vAt e 7) 0)) (gI (cAt L (vAt e 7) 1))) (X := impl_made_l2_X v2063 v2064 v2065 v2066 v2067 v2068 (gI (vAt e 8)) (gI (cAt L (vAt e 7) 0)) (gI (cAt L (vAt e 7) 1))) (s0 := ((gI (vAt e 18)), (gRF L (cAt L (vAt e 7) 2)))) tok impl_made_hO mixed (LoopsOk_eq (l := []) (by kernel_rfl) trivial) (impl_made_l2_be v2063 v2064 v2065 v2066 v2067 v2068 (gI (vAt e 8)) (gI (cAt L (vAt e 7) 0)) (gI (cAt L (vAt e 7) 1))) rfl (by intro x; rfl) h
theorem impl_made_l0_be (v2063 : Int) (v2064 : Int) (v2065 : Int) (v2066 : Int) (v2067 : List Nat) (v2068 : List Nat) (v2148 : Int) (v2149 : Int) (s : Int × (List Nat)) : bodyT TT (tabD impl_made_tab) (tabM impl_made_tab) (impl_made_LO v2063 v2064 v2065 v2066 v2067 v2068) 0 impl_made_l0_kill impl_made_l0_nx (bodyOf Try.f96 0) 0 (impl_made_l0_E v2063 v2064 v2065 v2066 v2067 v2068 v2148 v2149 s) = (impl_made_l0_T v2063 v2064 v2065 v2066 v2067 v2068 v2148 v2149 s).bind fun y => .leaf (outS (impl_made_l0_E v2063 v2064 v2065 v2066 v2067 v2068 v2148 v2149) (impl_made_l0_X v2063 v2064 v2065 v2066 v2067 v2068 v2148 v2149) y) := by kernel_rfl
theorem impl_made_l0_ok (v2063 : Int) (v2064 : Int) (v2065 : Int) (v2066 : Int) (v2067 : List Nat) (v2068 : List Nat) : LSound Try.prog 0 (impl_made_LO v2063 v2064 v2065 v2066 v2067 v2068) 0 (bodyOf Try.f96 0) := by
  intro e L out h
  exact lo_ok (E := impl_made_l0_E v2063 v2064 v2065 v2066 v2067 v2068 (gI (cAt L (vAt e 7) 0)) (gI (cAt L (vAt e 7) 1))) (gT := impl_made_l0_T v2063 v2064 v2065 v2066 v2067 v2068 (gI (cAt L (vAt e 7) 0)) (gI (cAt L (vAt e 7) 1))) (X := impl_made_l0_X v2063 v2064 v2065 v2066 v2067 v2068 (gI (cAt L (vAt e 7) 0)) (gI (cAt L (vAt e 7) 1))) (s0 := ((gI (vAt e 14)), (gRF L (cAt L (vAt e 7) 2)))) tok impl_made_hO mixed (LoopsOk_eq (l := [(2, bodyOf Try.f96 2)]) (by kernel_rfl) ⟨impl_made_l2_ok v2063 v2064 v2065 v2066 v2067 v2068, trivial⟩) (impl_made_l0_be v2063 v2064 v2065 v2066 v2067 v2068 (gI (cAt L (vAt e 7) 0)) (gI (cAt L (vAt e 7) 1))) rfl (by intro x; rfl) h
noncomputable def impl_made_T (v2063 : Int) (v2064 : Int) (v2065 : Int) (v2066 : Int) (v2067 : List Nat) (v2068 : List Nat) : Tree (Int × Int × (List Nat)) :=
  (.call (impl_newMatrix_g v2063 v2064) fun v2071 =>
  (.need (some (impl_made_l0_E v2063 v2064 v2065 v2066 v2067 v2068 v2071.1 v2071.2 ((0 : Int), List.replicate (Int.toNat (IntKind.i64.wrap (v2063 * v2064))) (0 : Nat))) = some (impl_made_l0_E v2063 v2064 v2065 v2066 v2067 v2068 v2071.1 v2071.2 ((0 : Int), List.replicate (Int.toNat (IntKind.i64.wrap (v2063 * v2064))) (0 : Nat)))) <|
  (.call (impl_made_l0_g v2063 v2064 v2065 v2066 v2067 v2068 v2071.1 v2071.2 ((0 : Int), List.replicate (Int.toNat (IntKind.i64.wrap (v2063 * v2064))) (0 : Nat))) fun v2173 =>
  .leaf (v2071.1, v2071.2, v2173))))

noncomputable def impl_made_g (v2063 : Int) (v2064 : Int) (v2065 : Int) (v2066 : Int) (v2067 : List Nat) (v2068 : List Nat) : Option (Int × Int × (List Nat)) := (impl_made_T v2063 v2064 v2065 v2066 v2067 v2068).run
def impl_made_enc (v2063 : Int) (v2064 : Int) (v2065 : Int) (v2066 : Int) (v2067 : List Nat) (v2068 : List Nat) (y : Int × Int × (List Nat)) : Rs := (.agg [.int .i64 y.1, .int .i64 y.2.1, .own 0 0 ((y.2.2).length)], [.row (.f32 y.2.2) 0])
theorem impl_made_den (v2063 : Int) (v2064 : Int) (v2065 : Int) (v2066 : Int) (v2067 : List Nat) (v2068 : List Nat) : (den TT (tabD impl_made_tab) (tabM impl_made_tab) (impl_made_LO v2063 v2064 v2065 v2066 v2067 v2068) (codeOf Try.f96) ([.int .i64 v2063, .int .i64 v2064, .fn 110 [.bptr (BR.root 0) [.int .i64 v2065, .int .i64 v2066, .bslc (BR.root 1) (.f32 v2067)], .bptr (BR.root 2) [.bslc (BR.root 3) (.f32 v2068)]]] ++ List.replicate (Try.f96.ntmps - ([.int .i64 v2063, .int .i64 v2064, .fn 110 [.bptr (BR.root 0) [.int .i64 v2065, .int .i64 v2066, .bslc (BR.root 1) (.f32 v2067)], .bptr (BR.root 2) [.bslc (BR.root 3) (.f32 v2068)]]] : List DV).length) .undef) []).bind (retD TT Try.f96.results.toList 0) = (impl_made_T v2063 v2064 v2065 v2066 v2067 v2068).bind fun y => .leaf (impl_made_enc v2063 v2064 v2065 v2066 v2067 v2068 y) := by kernel_rfl
theorem impl_made_fn (v2063 : Int) (v2064 : Int) (v2065 : Int) (v2066 : Int) (v2067 : List Nat) (v2068 : List Nat) (F : Fr) (hm : F.ids.length = 0) (h0 : St F [] F.H0) (hA : DVs.Ok F [] [.int .i64 v2063, .int .i64 v2064, .fn 110 [.bptr (BR.root 0) [.int .i64 v2065, .int .i64 v2066, .bslc (BR.root 1) (.f32 v2067)], .bptr (BR.root 2) [.bslc (BR.root 3) (.f32 v2068)]]]) {y : Int × Int × (List Nat)} (hy : impl_made_g v2063 v2064 v2065 v2066 v2067 v2068 = some y) : ∃ H', FnOk Try.prog 96 (DVs.av F [.int .i64 v2063, .int .i64 v2064, .fn 110 [.bptr (BR.root 0) [.int .i64 v2065, .int .i64 v2066, .bslc (BR.root 1) (.f32 v2067)], .bptr (BR.root 2) [.bslc (BR.root 3) (.f32 v2068)]]]) F.H0 ((impl_made_enc v2063 v2064 v2065 v2066 v2067 v2068 y).1.av F) H' ∧ St F (impl_made_enc v2063 v2064 v2065 v2066 v2067 v2068 y).2 H' ∧ (impl_made_enc v2063 v2064 v2065 v2066 v2067 v2068 y).1.Ok F (impl_made_enc v2063 v2064 v2065 v2066 v2067 v2068 y).2 :=
  fn_fin tok impl_made_hO mixed Try.func96 Try.call96 (by kernel_rfl) (LoopsOk_eq (l := [(0, bodyOf Try.f96 0)]) (by kernel_rfl) ⟨impl_made_l0_ok v2063 v2064 v2065 v2066 v2067 v2068, trivial⟩) (impl_made_den v2063 v2064 v2065 v2066 v2067 v2068) hy hm h0 hA
noncomputable def impl_made_F : DFn := fun args L =>
  match args with
  | [.int .i64 v2063, .int .i64 v2064, .fn 110 [a1, a3]] =>
    optT (cellsOf L 3 a1) fun cs0 =>
    (match cs0 with
    | [.int .i64 v2065, .int .i64 v2066, a2] =>
    optT (rowF32 L a2) fun v2067 =>
    optT (cellsOf L 1 a3) fun cs2 =>
    (match cs2 with
    | [a4] =>
    optT (rowF32 L a4) fun v2068 =>
    .call (impl_made_g v2063 v2064 v2065 v2066 v2067 v2068) fun y => .leaf (.agg [.int .i64 y.1, .int .i64 y.2.1, .own (L.length + 0) 0 ((y.2.2).length)], L ++ [.row (.f32 y.2.2) 0])
    | _ => .fail)
    | _ => .fail)
  | _ => .fail
theorem impl_made_Fok : COk Try.prog 96 impl_made_F true := by
  intro F L H args r L' hs ha hr
  unfold impl_made_F at hr
  split at hr
  · rename_i v2063 v2064 a1 a3
    obtain ⟨cs0, hcp0, hr⟩ := optT_run hr
    split at hr
    · rename_i v2065 v2066 a2
      obtain ⟨v2067, hv2067, hr⟩ := optT_run hr
      obtain ⟨cs2, hcp2, hr⟩ := optT_run hr
      split at hr
      · rename_i a4
        obtain ⟨v2068, hv2068, hr⟩ := optT_run hr
        simp only [Tree.run] at hr
        obtain ⟨y, hy, hr⟩ := Option.bind_eq_some_iff.1 hr
        simp only [Tree.run, Option.some.injEq, Prod.mk.injEq] at hr
        obtain ⟨rfl, rfl⟩ := hr
        exact call_ok1 hs (fun k => (([a1.av F, a2.av F, a3.av F, a4.av F] : List AV)[k]?).getD .top) [.int .i64 v2063, .int .i64 v2064, .fn 110 [a1, a3]] [.int .i64 v2063, .int .i64 v2064, .fn 110 [.bptr (BR.root 0) [.int .i64 v2065, .int .i64 v2066, .bslc (BR.root 1) (.f32 v2067)], .bptr (BR.root 2) [.bslc (BR.root 3) (.f32 v2068)]]] (fun F' h0 hi hρ => ⟨by simp [DVs.av, DV.av, BR.av, hρ], impl_made_fn v2063 v2064 v2065 v2066 v2067 v2068 F' (by rw [hi]; rfl) (st_nil hi) ⟨trivial, trivial, ⟨bptr_ok hi (by rw [h0]; simpa [DVs.av, DV.av, BR.av, hρ] using (cellsOf_ok hs (DVs.okAt (DVs.okAt ha 2 rfl) 0 rfl) hcp0).1) ⟨trivial, trivial, bslc_ok hi (by rw [h0, hρ]; exact rowF32_ok hs (DVs.okAt (cellsOf_ok hs (DVs.okAt (DVs.okAt ha 2 rfl) 0 rfl) hcp0).2 2 rfl) hv2067), trivial⟩, bptr_ok hi (by rw [h0]; simpa [DVs.av, DV.av, BR.av, hρ] using (cellsOf_ok hs (DVs.okAt (DVs.okAt ha 2 rfl) 1 rfl) hcp2).1) ⟨bslc_ok hi (by rw [h0, hρ]; exact rowF32_ok hs (DVs.okAt (cellsOf_ok hs (DVs.okAt (DVs.okAt ha 2 rfl) 1 rfl) hcp2).2 0 rfl) hv2068), trivial⟩, trivial⟩, trivial⟩ hy⟩) rfl rfl
      · cases hr
    · cases hr
  · cases hr
/-! impl.isTall -/
noncomputable def impl_isTall_LO (v2183 : Int) (v2184 : Int) (v2185 : List Nat) : LOr := fun id e L =>
  match id with
  | _ => .fail
noncomputable def impl_isTall_tab : List (FuncId × DFn × Bool) := [(102, impl_ValidMatrix_F, true)]
theorem impl_isTall_hO : OrcOk Try.prog (tabD impl_isTall_tab) (tabM impl_isTall_tab) := tabD_cons impl_ValidMatrix_Fok (tabD_nil _)
noncomputable def impl_isTall_T (v2183 : Int) (v2184 : Int) (v2185 : List Nat) : Tree (Bool) :=
  (.call (impl_ValidMatrix_g v2183 v2184 v2185) fun v2186 =>
  (.br v2186 (
   .leaf (decide (v2184 ≤ v2183))
  ) (
   .leaf false
  )))

noncomputable def impl_isTall_g (v2183 : Int) (v2184 : Int) (v2185 : List Nat) : Option (Bool) := (impl_isTall_T v2183 v2184 v2185).run
def impl_isTall_enc (v2183 : Int) (v2184 : Int) (v2185 : List Nat) (y : Bool) : Rs := (.bool y, [])
theorem impl_isTall_den (v2183 : Int) (v2184 : Int) (v2185 : List Nat) : (den TT (tabD impl_isTall_tab) (tabM impl_isTall_tab) (impl_isTall_LO v2183 v2184 v2185) (codeOf Try.f167) ([.agg [.int .i64 v2183, .int .i64 v2184, .bslc (BR.root 0) (.f32 v2185)]] ++ List.replicate (Try.f167.ntmps - ([.agg [.int .i64 v2183, .int .i64 v2184, .bslc (BR.root 0) (.f32 v2185)]] : List DV).length) .undef) []).bind (retD TT Try.f167.results.toList 0) = (impl_isTall_T v2183 v2184 v2185).bind fun y => .leaf (impl_isTall_enc v2183 v2184 v2185 y) := by kernel_rfl
theorem impl_isTall_fn (v2183 : Int) (v2184 : Int) (v2185 : List Nat) (F : Fr) (hm : F.ids.length = 0) (h0 : St F [] F.H0) (hA : DVs.Ok F [] [.agg [.int .i64 v2183, .int .i64 v2184, .bslc (BR.root 0) (.f32 v2185)]]) {y : Bool} (hy : impl_isTall_g v2183 v2184 v2185 = some y) : ∃ H', FnOk Try.prog 167 (DVs.av F [.agg [.int .i64 v2183, .int .i64 v2184, .bslc (BR.root 0) (.f32 v2185)]]) F.H0 ((impl_isTall_enc v2183 v2184 v2185 y).1.av F) H' ∧ St F (impl_isTall_enc v2183 v2184 v2185 y).2 H' ∧ (impl_isTall_enc v2183 v2184 v2185 y).1.Ok F (impl_isTall_enc v2183 v2184 v2185 y).2 :=
  fn_fin tok impl_isTall_hO mixed Try.func167 Try.call167 (by kernel_rfl) (LoopsOk_eq (l := []) (by kernel_rfl) trivial) (impl_isTall_den v2183 v2184 v2185) hy hm h0 hA
noncomputable def impl_isTall_F : DFn := fun args L =>
  match args with
  | [.agg [.int .i64 v2183, .int .i64 v2184, a1]] =>
    optT (rowF32 L a1) fun v2185 =>
    .call (impl_isTall_g v2183 v2184 v2185) fun y => .leaf (.bool y, L)
  | _ => .fail
theorem impl_isTall_Fok : COk Try.prog 167 impl_isTall_F true := by
  intro F L H args r L' hs ha hr
  unfold impl_isTall_F at hr
  split at hr
  · rename_i v2183 v2184 a1
    obtain ⟨v2185, hv2185, hr⟩ := optT_run hr
    simp only [Tree.run] at hr
    obtain ⟨y, hy, hr⟩ := Option.bind_eq_some_iff.1 hr
    simp only [Tree.run, Option.some.injEq, Prod.mk.injEq] at hr
    obtain ⟨rfl, rfl⟩ := hr
    exact call_ok0 hs (fun k => (([a1.av F] : List AV)[k]?).getD .top) [.agg [.int .i64 v2183, .int .i64 v2184, a1]] [.agg [.int .i64 v2183, .int .i64 v2184, .bslc (BR.root 0) (.f32 v2185)]] (fun F' h0 hi hρ => ⟨by simp [DVs.av, DV.av, BR.av, hρ], impl_isTall_fn v2183 v2184 v2185 F' (by rw [hi]; rfl) (st_nil hi) ⟨⟨trivial, trivial, bslc_ok hi (by rw [h0, hρ]; exact rowF32_ok hs (DVs.okAt (DVs.okAt ha 0 rfl) 2 rfl) hv2185), trivial⟩, trivial⟩ hy⟩) rfl
  · cases hr
/-! (impl.Matrix).column -/
noncomputable def impl_Matrix_column_l0_T (v2195 : Int) (v2196 : Int) (v2197 : List Nat) (v2198 : Int) (s : Int × (List Nat)) : Tree ((Int × (List Nat)) ⊕ ((List Nat))) :=
  (.br (decide (s.1 < v2195)) (
   (.call (impl_Matrix_at_g v2196 v2197 s.1 v2198) fun v2206 =>
   (.grd (fits (s.2 ++ ([v2206] : List Nat)).length) <|
   .leaf (.inl (IntKind.i64.wrap (s.1 + (1 : Int)), s.2 ++ ([v2206] : List Nat)))))
  ) (
   .leaf (.inr s.2)
  ))

noncomputable def impl_Matrix_column_l0_g (v2195 : Int) (v2196 : Int) (v2197 : List Nat) (v2198 : Int) (s0 : Int × (List Nat)) : Option ((List Nat)) := whileM (fun s => (impl_Matrix_column_l0_T v2195 v2196 v2197 v2198 s).run) s0
def impl_Matrix_column_l0_E (v2195 : Int) (v2196 : Int) (v2197 : List Nat) (v2198 : Int) (s : Int × (List Nat)) : Sd := ([.top, .int .i64 v2198, .ptr 0 (0 : Nat) 0 (3 : Nat), .top, .top, .own 1 0 ((s.2).length), .top, .top, .top, .int .i64 v2195, .int .i64 s.1, .top, .top, .top, .top, .top, .top, .top, .top, .top, .top, .top], [.gen [.int .i64 v2195, .int .i64 v2196, .bslc (BR.root 0) (.f32 v2197)] false 0, .row (.f32 s.2) 0])
def impl_Matrix_column_l0_X (v2195 : Int) (v2196 : Int) (v2197 : List Nat) (v2198 : Int) (x : (List Nat)) : Out := (.normal, [.top, .top, .top, .top, .top, .own 0 0 ((x).length), .top, .top, .top, .top, .top, .top, .top, .top, .top, .top, .top, .top, .top, .top, .top, .top], [.row (.f32 x) 0])
def impl_Matrix_column_l0_kill : List Nat := [1, 0, 0, 1, 1, 0, 1, 1, 1, 0, 0, 1, 1, 1, 1, 1, 1, 1, 1, 1, 1, 1]
def impl_Matrix_column_l0_nx : Exit → List Nat
  | .exit 0 => [1, 1, 1, 1, 1, 0, 1, 1, 1, 1, 1, 1, 1, 1, 1, 1, 1, 1, 1, 1, 1, 1]
  | .ret => [1, 1, 1, 1, 0, 1, 1, 1, 1, 1, 1, 1, 1, 1, 1, 1, 1, 1, 1, 1, 1, 1]
  | _ => []
noncomputable def impl_Matrix_column_LO (v2195 : Int) (v2196 : Int) (v2197 : List Nat) (v2198 : Int) : LOr := fun id e L =>
  match id with
  | 0 => .need (normA 0 impl_Matrix_column_l0_kill e L = some (impl_Matrix_column_l0_E v2195 v2196 v2197 v2198 ((gI (vAt e 10)), (gRF L (vAt e 5))))) (.call (impl_Matrix_column_l0_g v2195 v2196 v2197 v2198 ((gI (vAt e 10)), (gRF L (vAt e 5)))) fun x => .leaf (impl_Matrix_column_l0_X v2195 v2196 v2197 v2198 x))
  | _ => .fail
noncomputable def impl_Matrix_column_tab : List (FuncId × DFn × Bool) := [(49, impl_Matrix_at_F, true)]
theorem impl_Matrix_column_hO : OrcOk Try.prog (tabD impl_Matrix_column_tab) (tabM impl_Matrix_column_tab) := tabD_cons impl_Matrix_at_Fok (tabD_nil _)
theorem impl_Matrix_column_l0_be (v2195 : Int) (v2196 : Int) (v2197 : List Nat) (v2198 : Int) (s : Int × (List Nat)) : bodyT TT (tabD impl_Matrix_column_tab) (tabM impl_Matrix_column_tab) (impl_Matrix_column_LO v2195 v2196 v2197 v2198) 0 impl_Matrix_column_l0_kill impl_Matrix_column_l0_nx (bodyOf Try.f166 0) 0 (impl_Matrix_column_l0_E v2195 v2196 v2197 v2198 s) = (impl_Matrix_column_l0_T v2195 v2196 v2197 v2198 s).bind fun y => .leaf (outS (impl_Matrix_column_l0_E v2195 v2196 v2197 v2198) (impl_Matrix_column_l0_X v2195 v2196 v2197 v2198) y) := by kernel_rfl
theorem impl_Matrix_column_l0_ok (v2195 : Int) (v2196 : Int) (v2197 : List Nat) (v2198 : Int) : LSound Try.prog 0 (impl_Matrix_column_LO v2195 v2196 v2197 v2198) 0 (bodyOf Try.f166 0) := by
  intro e L out h
  exact lo_ok (E := impl_Matrix_column_l0_E v2195 v2196 v2197 v2198) (gT := impl_Matrix_column_l0_T v2195 v2196 v2197 v2198) (X := impl_Matrix_column_l0_X v2195 v2196 v2197 v2198) (s0 := ((gI (vAt e 10)), (gRF L (vAt e 5)))) tok impl_Matrix_column_hO mixed (LoopsOk_eq (l := []) (by kernel_rfl) trivial) (impl_Matrix_column_l0_be v2195 v2196 v2197 v2198) rfl (by intro x; rfl) h
noncomputable def impl_Matrix_column_T (v2195 : Int) (v2196 : Int) (v2197 : List Nat) (v2198 : Int) : Tree ((List Nat)) :=
  (.need (some (impl_Matrix_column_l0_E v2195 v2196 v2197 v2198 ((0 : Int), ([] : List Nat))) = some (impl_Matrix_column_l0_E v2195 v2196 v2197 v2198 ((0 : Int), ([] : List Nat)))) <|
  (.call (impl_Matrix_column_l0_g v2195 v2196 v2197 v2198 ((0 : Int), ([] : List Nat))) fun v2207 =>
  .leaf v2207))

noncomputable def impl_Matrix_column_g (v2195 : Int) (v2196 : Int) (v2197 : List Nat) (v2198 : Int) : Option ((List Nat)) := (impl_Matrix_column_T v2195 v2196 v2197 v2198).run
def impl_Matrix_column_enc (v2195 : Int) (v2196 : Int) (v2197 : List Nat) (v2198 : Int) (y : (List Nat)) : Rs := (.own 0 0 ((y).length), [.row (.f32 y) 0])
theorem impl_Matrix_column_den (v2195 : Int) (v2196 : Int) (v2197 : List Nat) (v2198 : Int) : (den TT (tabD impl_Matrix_column_tab) (tabM impl_Matrix_column_tab) (impl_Matrix_column_LO v2195 v2196 v2197 v2198) (codeOf Try.f166) ([.agg [.int .i64 v2195, .int .i64 v2196, .bslc (BR.root 0) (.f32 v2197)], .int .i64 v2198] ++ List.replicate (Try.f166.ntmps - ([.agg [.int .i64 v2195, .int .i64 v2196, .bslc (BR.root 0) (.f32 v2197)], .int .i64 v2198] : List DV).length) .undef) []).bind (retD TT Try.f166.results.toList 0) = (impl_Matrix_column_T v2195 v2196 v2197 v2198).bind fun y => .leaf (impl_Matrix_column_enc v2195 v2196 v2197 v2198 y) := by kernel_rfl
theorem impl_Matrix_column_fn (v2195 : Int) (v2196 : Int) (v2197 : List Nat) (v2198 : Int) (F : Fr) (hm : F.ids.length = 0) (h0 : St F [] F.H0) (hA : DVs.Ok F [] [.agg [.int .i64 v2195, .int .i64 v2196, .bslc (BR.root 0) (.f32 v2197)], .int .i64 v2198]) {y : (List Nat)} (hy : impl_Matrix_column_g v2195 v2196 v2197 v2198 = some y) : ∃ H', FnOk Try.prog 166 (DVs.av F [.agg [.int .i64 v2195, .int .i64 v2196, .bslc (BR.root 0) (.f32 v2197)], .int .i64 v2198]) F.H0 ((impl_Matrix_column_enc v2195 v2196 v2197 v2198 y).1.av F) H' ∧ St F (impl_Matrix_column_enc v2195 v2196 v2197 v2198 y).2 H' ∧ (impl_Matrix_column_enc v2195 v2196 v2197 v2198 y).1.Ok F (impl_Matrix_column_enc v2195 v2196 v2197 v2198 y).2 :=
  fn_fin tok impl_Matrix_column_hO mixed Try.func166 Try.call166 (by kernel_rfl) (LoopsOk_eq (l := [(0, bodyOf Try.f166 0)]) (by kernel_rfl) ⟨impl_Matrix_column_l0_ok v2195 v2196 v2197 v2198, trivial⟩) (impl_Matrix_column_den v2195 v2196 v2197 v2198) hy hm h0 hA
noncomputable def impl_Matrix_column_F : DFn := fun args L =>
  match args with
  | [.agg [.int .i64 v2195, .int .i64 v2196, a1], .int .i64 v2198] =>
    optT (rowF32 L a1) fun v2197 =>
    .call (impl_Matrix_column_g v2195 v2196 v2197 v2198) fun y => .leaf (.own (L.length + 0) 0 ((y).length), L ++ [.row (.f32 y) 0])
  | _ => .fail
theorem impl_Matrix_column_Fok : COk Try.prog 166 impl_Matrix_column_F true := by
  intro F L H args r L' hs ha hr
  unfold impl_Matrix_column_F at hr
  split at hr
  · rename_i v2195 v2196 a1 v2198
    obtain ⟨v2197, hv2197, hr⟩ := optT_run hr
    simp only [Tree.run] at hr
    obtain ⟨y, hy, hr⟩ := Option.bind_eq_some_iff.1 hr
    simp only [Tree.run, Option.some.injEq, Prod.mk.injEq] at hr
    obtain ⟨rfl, rfl⟩ := hr
    exact call_ok1 hs (fun k => (([a1.av F] : List AV)[k]?).getD .top) [.agg [.int .i64 v2195, .int .i64 v2196, a1], .int .i64 v2198] [.agg [.int .i64 v2195, .int .i64 v2196, .bslc (BR.root 0) (.f32 v2197)], .int .i64 v2198] (fun F' h0 hi hρ => ⟨by simp [DVs.av, DV.av, BR.av, hρ], impl_Matrix_column_fn v2195 v2196 v2197 v2198 F' (by rw [hi]; rfl) (st_nil hi) ⟨⟨trivial, trivial, bslc_ok hi (by rw [h0, hρ]; exact rowF32_ok hs (DVs.okAt (DVs.okAt ha 0 rfl) 2 rfl) hv2197), trivial⟩, trivial, trivial⟩ hy⟩) rfl rfl
  · cases hr
/-! impl.dot -/
noncomputable def impl_dot_l0_T (v2225 : List Nat) (v2226 : List Nat) (s : Nat × Int) : Tree ((Nat × Int) ⊕ (Nat)) :=
  (.br (decide (s.2 < ((v2225.length : Nat) : Int))) (
   (.grd (inb s.2 v2225.length) <|
   (.grd (inb s.2 v2226.length) <|
   .leaf (.inl (fadd .f32 s.1 (impl_mul_v (nth v2225 (Int.toNat s.2)) (nth v2226 (Int.toNat s.2))), IntKind.i64.wrap (s.2 + (1 : Int))))))
  ) (
   .leaf (.inr s.1)
  ))

noncomputable def impl_dot_l0_g (v2225 : List Nat) (v2226 : List Nat) (s0 : Nat × Int) : Option (Nat) := whileM (fun s => (impl_dot_l0_T v2225 v2226 s).run) s0
def impl_dot_l0_E (v2225 : List Nat) (v2226 : List Nat) (s : Nat × Int) : Sd := ([.top, .bslc (BR.root 1) (.f32 v2226), .top, .top, .top, .flt .f32 s.1, .top, .top, .bslc (BR.root 0) (.f32 v2225), .int .i64 ((v2225.length : Nat) : Int), .int .i64 s.2, .top, .top, .top, .top, .top, .top, .top, .top, .top, .top, .top, .top, .top, .top], [])
def impl_dot_l0_X (v2225 : List Nat) (v2226 : List Nat) (x : Nat) : Out := (.normal, [.top, .top, .top, .top, .top, .flt .f32 x, .top, .top, .top, .top, .top, .top, .top, .top, .top, .top, .top, .top, .top, .top, .top, .top, .top, .top, .top], [])
def impl_dot_l0_kill : List Nat := [1, 0, 1, 1, 1, 0, 1, 1, 0, 0, 0, 1, 1, 1, 1, 1, 1, 1, 1, 1, 1, 1, 1, 1, 1]
def impl_dot_l0_nx : Exit → List Nat
  | .exit 0 => [1, 1, 1, 1, 1, 0, 1, 1, 1, 1, 1, 1, 1, 1, 1, 1, 1, 1, 1, 1, 1, 1, 1, 1, 1]
  | .ret => [1, 1, 1, 1, 0, 1, 1, 1, 1, 1, 1, 1, 1, 1, 1, 1, 1, 1, 1, 1, 1, 1, 1, 1, 1]
  | _ => []
noncomputable def impl_dot_LO (v2225 : List Nat) (v2226 : List Nat) : LOr := fun id e L =>
  match id with
  | 0 => .need (normA 0 impl_dot_l0_kill e L = some (impl_dot_l0_E v2225 v2226 ((gF (vAt e 5)), (gI (vAt e 10))))) (.call (impl_dot_l0_g v2225 v2226 ((gF (vAt e 5)), (gI (vAt e 10)))) fun x => .leaf (impl_dot_l0_X v2225 v2226 x))
  | _ => .fail
noncomputable def impl_dot_tab : List (FuncId × DFn × Bool) := [(50, impl_mul_F, true)]
theorem impl_dot_hO : OrcOk Try.prog (tabD impl_dot_tab) (tabM impl_dot_tab) := tabD_cons impl_mul_Fok (tabD_nil _)
theorem impl_dot_l0_be (v2225 : List Nat) (v2226 : List Nat) (s : Nat × Int) : bodyT TT (tabD impl_dot_tab) (tabM impl_dot_tab) (impl_dot_LO v2225 v2226) 0 impl_dot_l0_kill impl_dot_l0_nx (bodyOf Try.f135 0) 0 (impl_dot_l0_E v2225 v2226 s) = (impl_dot_l0_T v2225 v2226 s).bind fun y => .leaf (outS (impl_dot_l0_E v2225 v2226) (impl_dot_l0_X v2225 v2226) y) := by kernel_rfl
theorem impl_dot_l0_ok (v2225 : List Nat) (v2226 : List Nat) : LSound Try.prog 0 (impl_dot_LO v2225 v2226) 0 (bodyOf Try.f135 0) := by
  intro e L out h
  exact lo_ok (E := impl_dot_l0_E v2225 v2226) (gT := impl_dot_l0_T v2225 v2226) (X := impl_dot_l0_X v2225 v2226) (s0 := ((gF (vAt e 5)), (gI (vAt e 10)))) tok impl_dot_hO mixed (LoopsOk_eq (l := []) (by kernel_rfl) trivial) (impl_dot_l0_be v2225 v2226) rfl (by intro x; rfl) h
noncomputable def impl_dot_T (v2225 : List Nat) (v2226 : List Nat) : Tree (Nat) :=
  (.need (some (impl_dot_l0_E v2225 v2226 ((0 : Nat), (0 : Int))) = some (impl_dot_l0_E v2225 v2226 ((0 : Nat), (0 : Int)))) <|
  (.call (impl_dot_l0_g v2225 v2226 ((0 : Nat), (0 : Int))) fun v2233 =>
  .leaf v2233))

noncomputable def impl_dot_g (v2225 : List Nat) (v2226 : List Nat) : Option (Nat) := (impl_dot_T v2225 v2226).run
def impl_dot_enc (v2225 : List Nat) (v2226 : List Nat) (y : Nat) : Rs := (.flt .f32 y, [])
theorem impl_dot_den (v2225 : List Nat) (v2226 : List Nat) : (den TT (tabD impl_dot_tab) (tabM impl_dot_tab) (impl_dot_LO v2225 v2226) (codeOf Try.f135) ([.bslc (BR.root 0) (.f32 v2225), .bslc (BR.root 1) (.f32 v2226)] ++ List.replicate (Try.f135.ntmps - ([.bslc (BR.root 0) (.f32 v2225), .bslc (BR.root 1) (.f32 v2226)] : List DV).length) .undef) []).bind (retD TT Try.f135.results.toList 0) = (impl_dot_T v2225 v2226).bind fun y => .leaf (impl_dot_enc v2225 v2226 y) := by kernel_rfl
theorem impl_dot_fn (v2225 : List Nat) (v2226 : List Nat) (F : Fr) (hm : F.ids.length = 0) (h0 : St F [] F.H0) (hA : DVs.Ok F [] [.bslc (BR.root 0) (.f32 v2225), .bslc (BR.root 1) (.f32 v2226)]) {y : Nat} (hy : impl_dot_g v2225 v2226 = some y) : ∃ H', FnOk Try.prog 135 (DVs.av F [.bslc (BR.root 0) (.f32 v2225), .bslc (BR.root 1) (.f32 v2226)]) F.H0 ((impl_dot_enc v2225 v2226 y).1.av F) H' ∧ St F (impl_dot_enc v2225 v2226 y).2 H' ∧ (impl_dot_enc v2225 v2226 y).1.Ok F (impl_dot_enc v2225 v2226 y).2 :=
  fn_fin tok impl_dot_hO mixed Try.func135 Try.call135 (by kernel_rfl) (LoopsOk_eq (l := [(0, bodyOf Try.f135 0)]) (by kernel_rfl) ⟨impl_dot_l0_ok v2225 v2226, trivial⟩) (impl_dot_den v2225 v2226) hy hm h0 hA
noncomputable def impl_dot_F : DFn := fun args L =>
  match args with
  | [a1, a2] =>
    optT (rowF32 L a1) fun v2225 =>
    optT (rowF32 L a2) fun v2226 =>
    .call (impl_dot_g v2225 v2226) fun y => .leaf (.flt .f32 y, L)
  | _ => .fail
theorem impl_dot_Fok : COk Try.prog 135 impl_dot_F true := by
  intro F L H args r L' hs ha hr
  unfold impl_dot_F at hr
  split at hr
  · rename_i a1 a2
    obtain ⟨v2225, hv2225, hr⟩ := optT_run hr
    obtain ⟨v2226, hv2226, hr⟩ := optT_run hr
    simp only [Tree.run] at hr
    obtain ⟨y, hy, hr⟩ := Option.bind_eq_some_iff.1 hr
    simp only [Tree.run, Option.some.injEq, Prod.mk.injEq] at hr
    obtain ⟨rfl, rfl⟩ := hr
    exact call_ok0 hs (fun k => (([a1.av F, a2.av F] : List AV)[k]?).getD .top) [a1, a2] [.bslc (BR.root 0) (.f32 v2225), .bslc (BR.root 1) (.f32 v2226)] (fun F' h0 hi hρ => ⟨by simp [DVs.av, DV.av, BR.av, hρ], impl_dot_fn v2225 v2226 F' (by rw [hi]; rfl) (st_nil hi) ⟨bslc_ok hi (by rw [h0, hρ]; exact rowF32_ok hs (DVs.okAt ha 0 rfl) hv2225), bslc_ok hi (by rw [h0, hρ]; exact rowF32_ok hs (DVs.okAt ha 1 rfl) hv2226), trivial⟩ hy⟩) rfl
  · cases hr
/-! impl.less -/
noncomputable def impl_less_l0_T (v2242 : List Nat) (v2243 : Nat) (v2244 : List Nat) (s : Int × (List Nat)) : Tree ((Int × (List Nat)) ⊕ ((List Nat))) :=
  (.br (decide (s.1 < ((v2242.length : Nat) : Int))) (
   (.grd (inb s.1 ((s.2).length)) <|
   (.grd (inb s.1 v2244.length) <|
   (.grd (inb s.1 ((s.2).length)) <|
   .leaf (.inl (IntKind.i64.wrap (s.1 + (1 : Int)), List.set s.2 (Int.toNat s.1) (fsub .f32 (nth s.2 (Int.toNat s.1)) (impl_mul_v v2243 (nth v2244 (Int.toNat s.1)))))))))
  ) (
   .leaf (.inr s.2)
  ))

noncomputable def impl_less_l0_g (v2242 : List Nat) (v2243 : Nat) (v2244 : List Nat) (s0 : Int × (List Nat)) : Option ((List Nat)) := whileM (fun s => (impl_less_l0_T v2242 v2243 v2244 s).run) s0
def impl_less_l0_E (v2242 : List Nat) (v2243 : Nat) (v2244 : List Nat) (s : Int × (List Nat)) : Sd := ([.own 0 0 ((s.2).length), .flt .f32 v2243, .bslc (BR.root 1) (.f32 v2244), .top, .top, .top, .top, .top, .int .i64 ((v2242.length : Nat) : Int), .int .i64 s.1, .top, .top, .top, .top, .top, .top, .top, .top, .top, .top, .top, .top, .top, .top, .top], [.row (.f32 s.2) 0])
def impl_less_l0_X (v2242 : List Nat) (v2243 : Nat) (v2244 : List Nat) (x : (List Nat)) : Out := (.normal, [.top, .top, .top, .top, .top, .top, .top, .top, .top, .top, .top, .top, .top, .top, .top, .top, .top, .top, .top, .top, .top, .top, .top, .top, .top], [.row (.f32 x) 0])
def impl_less_l0_kill : List Nat := [0, 0, 0, 1, 1, 1, 1, 1, 0, 0, 1, 1, 1, 1, 1, 1, 1, 1, 1, 1, 1, 1, 1, 1, 1]
def impl_less_l0_nx : Exit → List Nat
  | .exit 0 => [1, 1, 1, 1, 1, 1, 1, 1, 1, 1, 1, 1, 1, 1, 1, 1, 1, 1, 1, 1, 1, 1, 1, 1, 1]
  | .ret => [1, 1, 1, 1, 1, 1, 1, 1, 1, 1, 1, 1, 1, 1, 1, 1, 1, 1, 1, 1, 1, 1, 1, 1, 1]
  | _ => []
noncomputable def impl_less_LO (v2242 : List Nat) (v2243 : Nat) (v2244 : List Nat) : LOr := fun id e L =>
  match id with
  | 0 => .need (normA 1 impl_less_l0_kill e L = some (impl_less_l0_E v2242 v2243 v2244 ((gI (vAt e 9)), (gRF L (vAt e 0))))) (.call (impl_less_l0_g v2242 v2243 v2244 ((gI (vAt e 9)), (gRF L (vAt e 0)))) fun x => .leaf (impl_less_l0_X v2242 v2243 v2244 x))
  | _ => .fail
noncomputable def impl_less_tab : List (FuncId × DFn × Bool) := [(50, impl_mul_F, true)]
theorem impl_less_hO : OrcOk Try.prog (tabD impl_less_tab) (tabM impl_less_tab) := tabD_cons impl_mul_Fok (tabD_nil _)
theorem impl_less_l0_be (v2242 : List Nat) (v2243 : Nat) (v2244 : List Nat) (s : Int × (List Nat)) : bodyT TT (tabD impl_less_tab) (tabM impl_less_tab) (impl_less_LO v2242 v2243 v2244) 1 impl_less_l0_kill impl_less_l0_nx (bodyOf Try.f168 0) 0 (impl_less_l0_E v2242 v2243 v2244 s) = (impl_less_l0_T v2242 v2243 v2244 s).bind fun y => .leaf (outS (impl_less_l0_E v2242 v2243 v2244) (impl_less_l0_X v2242 v2243 v2244) y) := by kernel_rfl
theorem impl_less_l0_ok (v2242 : List Nat) (v2243 : Nat) (v2244 : List Nat) : LSound Try.prog 1 (impl_less_LO v2242 v2243 v2244) 0 (bodyOf Try.f168 0) := by
  intro e L out h
  exact lo_ok (E := impl_less_l0_E v2242 v2243 v2244) (gT := impl_less_l0_T v2242 v2243 v2244) (X := impl_less_l0_X v2242 v2243 v2244) (s0 := ((gI (vAt e 9)), (gRF L (vAt e 0)))) tok impl_less_hO mixed (LoopsOk_eq (l := []) (by kernel_rfl) trivial) (impl_less_l0_be v2242 v2243 v2244) rfl (by intro x; rfl) h
noncomputable def impl_less_T (v2242 : List Nat) (v2243 : Nat) (v2244 : List Nat) : Tree ((List Nat)) :=
  (.need (some (impl_less_l0_E v2242 v2243 v2244 ((0 : Int), v2242)) = some (impl_less_l0_E v2242 v2243 v2244 ((0 : Int), v2242))) <|
  (.call (impl_less_l0_g v2242 v2243 v2244 ((0 : Int), v2242)) fun v2250 =>
  .leaf v2250))

noncomputable def impl_less_g (v2242 : List Nat) (v2243 : Nat) (v2244 : List Nat) : Option ((List Nat)) := (impl_less_T v2242 v2243 v2244).run
def impl_less_enc (v2242 : List Nat) (v2243 : Nat) (v2244 : List Nat) (y : (List Nat)) : Rs := (.tup [], [.row (.f32 y) 0])
theorem impl_less_den (v2242 : List Nat) (v2243 : Nat) (v2244 : List Nat) : (den TT (tabD impl_less_tab) (tabM impl_less_tab) (impl_less_LO v2242 v2243 v2244) (codeOf Try.f168) ([.own 0 0 v2242.length, .flt .f32 v2243, .bslc (BR.root 1) (.f32 v2244)] ++ List.replicate (Try.f168.ntmps - ([.own 0 0 v2242.length, .flt .f32 v2243, .bslc (BR.root 1) (.f32 v2244)] : List DV).length) .undef) [.row (.f32 v2242) 0]).bind (retD TT Try.f168.results.toList 1) = (impl_less_T v2242 v2243 v2244).bind fun y => .leaf (impl_less_enc v2242 v2243 v2244 y) := by kernel_rfl
theorem impl_less_fn (v2242 : List Nat) (v2243 : Nat) (v2244 : List Nat) (F : Fr) (hm : F.ids.length = 1) (h0 : St F [.row (.f32 v2242) 0] F.H0) (hA : DVs.Ok F [.row (.f32 v2242) 0] [.own 0 0 v2242.length, .flt .f32 v2243, .bslc (BR.root 1) (.f32 v2244)]) {y : (List Nat)} (hy : impl_less_g v2242 v2243 v2244 = some y) : ∃ H', FnOk Try.prog 168 (DVs.av F [.own 0 0 v2242.length, .flt .f32 v2243, .bslc (BR.root 1) (.f32 v2244)]) F.H0 ((impl_less_enc v2242 v2243 v2244 y).1.av F) H' ∧ St F (impl_less_enc v2242 v2243 v2244 y).2 H' ∧ (impl_less_enc v2242 v2243 v2244 y).1.Ok F (impl_less_enc v2242 v2243 v2244 y).2 :=
  fn_fin tok impl_less_hO mixed Try.func168 Try.call168 (by kernel_rfl) (LoopsOk_eq (l := [(0, bodyOf Try.f168 0)]) (by kernel_rfl) ⟨impl_less_l0_ok v2242 v2243 v2244, trivial⟩) (impl_less_den v2242 v2243 v2244) hy hm h0 hA
noncomputable def impl_less_F : DFn := fun args L =>
  match args with
  | [a1, .flt .f32 v2243, a2] =>
    optT (ownF32 L a1) fun qv2242 =>
    optT (rowF32 L a2) fun v2244 =>
    (match sepB [qv2242.1] [a2] with
    | true =>
    .call (impl_less_g qv2242.2 v2243 v2244) fun y => .grd (decide (y.length = qv2242.2.length)) (.leaf (.tup [], setRows L ([qv2242.1].zip [.f32 y])))
    | false => .fail)
  | _ => .fail
theorem impl_less_Fok : COk Try.prog 168 impl_less_F false := by
  intro F L H args r L' hs ha hr
  unfold impl_less_F at hr
  split at hr
  · rename_i a1 v2243 a2
    obtain ⟨⟨jv2242, v2242⟩, hqv2242, hr⟩ := optT_run hr
    simp only at hr
    obtain ⟨v2244, hv2244, hr⟩ := optT_run hr
    split at hr
    · rename_i hsep
      obtain ⟨hnd, hsepv⟩ := sepB_spec hsep
      simp only [Tree.run] at hr
      obtain ⟨y, hy, hr⟩ := Option.bind_eq_some_iff.1 hr
      try simp only [Tree.run] at hr
      obtain ⟨hl0, hr⟩ := ite_run hr
      simp only [Option.some.injEq, Prod.mk.injEq] at hr
      obtain ⟨rfl, rfl⟩ := hr
      obtain ⟨hr0, hu0, ha0, hb0⟩ := (ownR_spec (DVs.okAt ha 0 rfl) (ownF32_or hqv2242))
      exact mut_ok hs (fun k => (([a1.av F, a2.av F] : List AV)[k]?).getD .top) [a1, .flt .f32 v2243, a2] [.own 0 0 v2242.length, .flt .f32 v2243, .bslc (BR.root 1) (.f32 v2244)] [jv2242] [.f32 v2242] [.f32 y] hnd rfl rfl (fun i j q h1 h2 => by
          rcases i with _ | i
          · simp at h1 h2; subst h1; subst h2; exact hr0
          · simp at h1) (fun i q q' h1 h2 => by
          rcases i with _ | i
          · simp at h1 h2; subst h1; subst h2; exact of_decide_eq_true hl0
          · simp at h1) (fun j hj => by simp at hj; subst hj; simp [DVs.refs, DV.refs, hu0]) (fun F' h0 hi hρ hst hS => ⟨by (have ab0 : F'.abs 0 = F.abs jv2242 := (by simp [Fr.abs, hi]); simp [DVs.av, DV.av, BR.av, hρ, Row.len, ha0, ab0]), by
          obtain ⟨H1, k1, k2, _⟩ := impl_less_fn v2242 v2243 v2244 F' (by rw [hi]; rfl) hst ⟨⟨_, rfl, Nat.le_refl _, Nat.le_refl _, fun _ => rfl, (ownR_spec (DVs.okAt ha 0 rfl) (ownF32_or hqv2242)).2.2.2⟩, trivial, bslcM hS (by rw [hρ]; rfl) (hsepv a2 (by simp)) (DVs.okAt ha 2 rfl) (rowF32_or hv2244), trivial⟩ hy
          exact ⟨H1, k1, k2⟩⟩) (fun F' => rfl) (fun L' => trivial)
    · cases hr
  · cases hr
/-! impl.norm -/
noncomputable def impl_norm_LO (v2392 : List Nat) : LOr := fun id e L =>
  match id with
  | _ => .fail
noncomputable def impl_norm_tab : List (FuncId × DFn × Bool) := [(135, impl_dot_F, true), (52, impl_RootNumber_F, true)]
theorem impl_norm_hO : OrcOk Try.prog (tabD impl_norm_tab) (tabM impl_norm_tab) := tabD_cons impl_dot_Fok (tabD_cons impl_RootNumber_Fok (tabD_nil _))
noncomputable def impl_norm_T (v2392 : List Nat) : Tree (Nat) :=
  (.call (impl_dot_g v2392 v2392) fun v2393 =>
  (.call (impl_RootNumber_g v2393) fun v2394 =>
  .leaf v2394))

noncomputable def impl_norm_g (v2392 : List Nat) : Option (Nat) := (impl_norm_T v2392).run
def impl_norm_enc (v2392 : List Nat) (y : Nat) : Rs := (.flt .f32 y, [])
theorem impl_norm_den (v2392 : List Nat) : (den TT (tabD impl_norm_tab) (tabM impl_norm_tab) (impl_norm_LO v2392) (codeOf Try.f169) ([.bslc (BR.root 0) (.f32 v2392)] ++ List.replicate (Try.f169.ntmps - ([.bslc (BR.root 0) (.f32 v2392)] : List DV).length) .undef) []).bind (retD TT Try.f169.results.toList 0) = (impl_norm_T v2392).bind fun y => .leaf (impl_norm_enc v2392 y) := by kernel_rfl
theorem impl_norm_fn (v2392 : List Nat) (F : Fr) (hm : F.ids.length = 0) (h0 : St F [] F.H0) (hA : DVs.Ok F [] [.bslc (BR.root 0) (.f32 v2392)]) {y : Nat} (hy : impl_norm_g v2392 = some y) : ∃ H', FnOk Try.prog 169 (DVs.av F [.bslc (BR.root 0) (.f32 v2392)]) F.H0 ((impl_norm_enc v2392 y).1.av F) H' ∧ St F (impl_norm_enc v2392 y).2 H' ∧ (impl_norm_enc v2392 y).1.Ok F (impl_norm_enc v2392 y).2 :=
  fn_fin tok impl_norm_hO mixed Try.func169 Try.call169 (by kernel_rfl) (LoopsOk_eq (l := []) (by kernel_rfl) trivial) (impl_norm_den v2392) hy hm h0 hA
noncomputable def impl_norm_F : DFn := fun args L =>
  match args with
  | [a1] =>
    optT (rowF32 L a1) fun v2392 =>
    .call (impl_norm_g v2392) fun y => .leaf (.flt .f32 y, L)
  | _ => .fail
theorem impl_norm_Fok : COk Try.prog 169 impl_norm_F true := by
  intro F L H args r L' hs ha hr
  unfold impl_norm_F at hr
  split at hr
  · rename_i a1
    obtain ⟨v2392, hv2392, hr⟩ := optT_run hr
    simp only [Tree.run] at hr
    obtain ⟨y, hy, hr⟩ := Option.bind_eq_some_iff.1 hr
    simp only [Tree.run, Option.some.injEq, Prod.mk.injEq] at hr
    obtain ⟨rfl, rfl⟩ := hr
    exact call_ok0 hs (fun k => (([a1.av F] : List AV)[k]?).getD .top) [a1] [.bslc (BR.root 0) (.f32 v2392)] (fun F' h0 hi hρ => ⟨by simp [DVs.av, DV.av, BR.av, hρ], impl_norm_fn v2392 F' (by rw [hi]; rfl) (st_nil hi) ⟨bslc_ok hi (by rw [h0, hρ]; exact rowF32_ok hs (DVs.okAt ha 0 rfl) hv2392), trivial⟩ hy⟩) rfl
  · cases hr
/-! (impl.Matrix).setColumn -/
noncomputable def impl_Matrix_setColumn_l0_T (v2434 : Int) (v2435 : Int) (v2437 : Int) (v2438 : List Nat) (s : Int × (List Nat)) : Tree ((Int × (List Nat)) ⊕ ((List Nat))) :=
  (.br (decide (s.1 < v2434)) (
   (.grd (inb s.1 v2438.length) <|
   (.call (impl_Matrix_set_g v2435 s.2 s.1 v2437) fun v2446 =>
   (.grd (decide ((List.set s.2 (Int.toNat (IntKind.i64.wrap ((IntKind.i64.wrap (s.1 * v2435)) + v2437))) (nth v2438 (Int.toNat s.1))).length = s.2.length)) <|
   .leaf (.inl (IntKind.i64.wrap (s.1 + (1 : Int)), List.set s.2 (Int.toNat (IntKind.i64.wrap ((IntKind.i64.wrap (s.1 * v2435)) + v2437))) (nth v2438 (Int.toNat s.1)))))))
  ) (
   .leaf (.inr s.2)
  ))

noncomputable def impl_Matrix_setColumn_l0_g (v2434 : Int) (v2435 : Int) (v2437 : Int) (v2438 : List Nat) (s0 : Int × (List Nat)) : Option ((List Nat)) := whileM (fun s => (impl_Matrix_setColumn_l0_T v2434 v2435 v2437 v2438 s).run) s0
def impl_Matrix_setColumn_l0_E (v2434 : Int) (v2435 : Int) (v2436 : List Nat) (v2437 : Int) (v2438 : List Nat) (s : Int × (List Nat)) : Sd := ([.top, .int .i64 v2437, .bslc (BR.root 1) (.f32 v2438), .ptr 1 (0 : Nat) 0 (3 : Nat), .top, .top, .top, .top, .int .i64 v2434, .int .i64 s.1, .top, .top, .top, .top, .top, .top, .top, .top, .top, .top, .top], [.row (.f32 s.2) 0, .gen [.int .i64 v2434, .int .i64 v2435, .own 0 0 ((s.2).length)] false 0])
def impl_Matrix_setColumn_l0_X (v2434 : Int) (v2435 : Int) (v2436 : List Nat) (v2437 : Int) (v2438 : List Nat) (x : (List Nat)) : Out := (.normal, [.top, .top, .top, .top, .top, .top, .top, .top, .top, .top, .top, .top, .top, .top, .top, .top, .top, .top, .top, .top, .top], [.row (.f32 x) 0])
def impl_Matrix_setColumn_l0_kill : List Nat := [1, 0, 0, 0, 1, 1, 1, 1, 0, 0, 1, 1, 1, 1, 1, 1, 1, 1, 1, 1, 1]
def impl_Matrix_setColumn_l0_nx : Exit → List Nat
  | .exit 0 => [1, 1, 1, 1, 1, 1, 1, 1, 1, 1, 1, 1, 1, 1, 1, 1, 1, 1, 1, 1, 1]
  | .ret => [1, 1, 1, 1, 1, 1, 1, 1, 1, 1, 1, 1, 1, 1, 1, 1, 1, 1, 1, 1, 1]
  | _ => []
noncomputable def impl_Matrix_setColumn_LO (v2434 : Int) (v2435 : Int) (v2436 : List Nat) (v2437 : Int) (v2438 : List Nat) : LOr := fun id e L =>
  match id with
  | 0 => .need (normA 1 impl_Matrix_setColumn_l0_kill e L = some (impl_Matrix_setColumn_l0_E v2434 v2435 v2436 v2437 v2438 ((gI (vAt e 9)), (gRF L (cAt L (vAt e 3) 2))))) (.call (impl_Matrix_setColumn_l0_g v2434 v2435 v2437 v2438 ((gI (vAt e 9)), (gRF L (cAt L (vAt e 3) 2)))) fun x => .leaf (impl_Matrix_setColumn_l0_X v2434 v2435 v2436 v2437 v2438 x))
  | _ => .fail
noncomputable def impl_Matrix_setColumn_tab : List (FuncId × DFn × Bool) := [(51, impl_Matrix_set_F, false)]
theorem impl_Matrix_setColumn_hO : OrcOk Try.prog (tabD impl_Matrix_setColumn_tab) (tabM impl_Matrix_setColumn_tab) := tabD_cons impl_Matrix_set_Fok (tabD_nil _)
theorem impl_Matrix_setColumn_l0_be (v2434 : Int) (v2435 : Int) (v2436 : List Nat) (v2437 : Int) (v2438 : List Nat) (s : Int × (List Nat)) : bodyT TT (tabD impl_Matrix_setColumn_tab) (tabM impl_Matrix_setColumn_tab) (impl_Matrix_setColumn_LO v2434 v2435 v2436 v2437 v2438) 1 impl_Matrix_setColumn_l0_kill impl_Matrix_setColumn_l0_nx (bodyOf Try.f170 0) 0 (impl_Matrix_setColumn_l0_E v2434 v2435 v2436 v2437 v2438 s) = (impl_Matrix_setColumn_l0_T v2434 v2435 v2437 v2438 s).bind fun y => .leaf (outS (impl_Matrix_setColumn_l0_E v2434 v2435 v2436 v2437 v2438) (impl_Matrix_setColumn_l0_X v2434 v2435 v2436 v2437 v2438) y) := by kernel_rfl
theorem impl_Matrix_setColumn_l0_ok (v2434 : Int) (v2435 : Int) (v2436 : List Nat) (v2437 : Int) (v2438 : List Nat) : LSound Try.prog 1 (impl_Matrix_setColumn_LO v2434 v2435 v2436 v2437 v2438) 0 (bodyOf Try.f170 0) := by
  intro e L out h
  exact lo_ok (E := impl_Matrix_setColumn_l0_E v2434 v2435 v2436 v2437 v2438) (gT := impl_Matrix_setColumn_l0_T v2434 v2435 v2437 v2438) (X := impl_Matrix_setColumn_l0_X v2434 v2435 v2436 v2437 v2438) (s0 := ((gI (vAt e 9)), (gRF L (cAt L (vAt e 3) 2)))) tok impl_Matrix_setColumn_hO mixed (LoopsOk_eq (l := []) (by kernel_rfl) trivial) (impl_Matrix_setColumn_l0_be v2434 v2435 v2436 v2437 v2438) rfl (by intro x; rfl) h
noncomputable def impl_Matrix_setColumn_T (v2434 : Int) (v2435 : Int) (v2436 : List Nat) (v2437 : Int) (v2438 : List Nat) : Tree ((List Nat)) :=
  (.need (some (impl_Matrix_setColumn_l0_E v2434 v2435 v2436 v2437 v2438 ((0 : Int), v2436)) = some (impl_Matrix_setColumn_l0_E v2434 v2435 v2436 v2437 v2438 ((0 : Int), v2436))) <|
  (.call (impl_Matrix_setColumn_l0_g v2434 v2435 v2437 v2438 ((0 : Int), v2436)) fun v2447 =>
  .leaf v2447))

noncomputable def impl_Matrix_setColumn_g (v2434 : Int) (v2435 : Int) (v2436 : List Nat) (v2437 : Int) (v2438 : List Nat) : Option ((List Nat)) := (impl_Matrix_setColumn_T v2434 v2435 v2436 v2437 v2438).run
def impl_Matrix_setColumn_enc (v2434 : Int) (v2435 : Int) (v2436 : List Nat) (v2437 : Int) (v2438 : List Nat) (y : (List Nat)) : Rs := (.tup [], [.row (.f32 y) 0])
theorem impl_Matrix_setColumn_den (v2434 : Int) (v2435 : Int) (v2436 : List Nat) (v2437 : Int) (v2438 : List Nat) : (den TT (tabD impl_Matrix_setColumn_tab) (tabM impl_Matrix_setColumn_tab) (impl_Matrix_setColumn_LO v2434 v2435 v2436 v2437 v2438) (codeOf Try.f170) ([.agg [.int .i64 v2434, .int .i64 v2435, .own 0 0 v2436.length], .int .i64 v2437, .bslc (BR.root 1) (.f32 v2438)] ++ List.replicate (Try.f170.ntmps - ([.agg [.int .i64 v2434, .int .i64 v2435, .own 0 0 v2436.length], .int .i64 v2437, .bslc (BR.root 1) (.f32 v2438)] : List DV).length) .undef) [.row (.f32 v2436) 0]).bind (retD TT Try.f170.results.toList 1) = (impl_Matrix_setColumn_T v2434 v2435 v2436 v2437 v2438).bind fun y => .leaf (impl_Matrix_setColumn_enc v2434 v2435 v2436 v2437 v2438 y) := by kernel_rfl
theorem impl_Matrix_setColumn_fn (v2434 : Int) (v2435 : Int) (v2436 : List Nat) (v2437 : Int) (v2438 : List Nat) (F : Fr) (hm : F.ids.length = 1) (h0 : St F [.row (.f32 v2436) 0] F.H0) (hA : DVs.Ok F [.row (.f32 v2436) 0] [.agg [.int .i64 v2434, .int .i64 v2435, .own 0 0 v2436.length], .int .i64 v2437, .bslc (BR.root 1) (.f32 v2438)]) {y : (List Nat)} (hy : impl_Matrix_setColumn_g v2434 v2435 v2436 v2437 v2438 = some y) : ∃ H', FnOk Try.prog 170 (DVs.av F [.agg [.int .i64 v2434, .int .i64 v2435, .own 0 0 v2436.length], .int .i64 v2437, .bslc (BR.root 1) (.f32 v2438)]) F.H0 ((impl_Matrix_setColumn_enc v2434 v2435 v2436 v2437 v2438 y).1.av F) H' ∧ St F (impl_Matrix_setColumn_enc v2434 v2435 v2436 v2437 v2438 y).2 H' ∧ (impl_Matrix_setColumn_enc v2434 v2435 v2436 v2437 v2438 y).1.Ok F (impl_Matrix_setColumn_enc v2434 v2435 v2436 v2437 v2438 y).2 :=
  fn_fin tok impl_Matrix_setColumn_hO mixed Try.func170 Try.call170 (by kernel_rfl) (LoopsOk_eq (l := [(0, bodyOf Try.f170 0)]) (by kernel_rfl) ⟨impl_Matrix_setColumn_l0_ok v2434 v2435 v2436 v2437 v2438, trivial⟩) (impl_Matrix_setColumn_den v2434 v2435 v2436 v2437 v2438) hy hm h0 hA
noncomputable def impl_Matrix_setColumn_F : DFn := fun args L =>
  match args with
  | [.agg [.int .i64 v2434, .int .i64 v2435, a1], .int .i64 v2437, a2] =>
    optT (ownF32 L a1) fun qv2436 =>
    optT (rowF32 L a2) fun v2438 =>
    (match sepB [qv2436.1] [a2] with
    | true =>
    .call (impl_Matrix_setColumn_g v2434 v2435 qv2436.2 v2437 v2438) fun y => .grd (decide (y.length = qv2436.2.length)) (.leaf (.tup [], setRows L ([qv2436.1].zip [.f32 y])))
    | false => .fail)
  | _ => .fail
theorem impl_Matrix_setColumn_Fok : COk Try.prog 170 impl_Matrix_setColumn_F false := by
  intro F L H args r L' hs ha hr
  unfold impl_Matrix_setColumn_F at hr
  split at hr
  · rename_i v2434 v2435 a1 v2437 a2
    obtain ⟨⟨jv2436, v2436⟩, hqv2436, hr⟩ := optT_run hr
    simp only at hr
    obtain ⟨v2438, hv2438, hr⟩ := optT_run hr
    split at hr
    · rename_i hsep
      obtain ⟨hnd, hsepv⟩ := sepB_spec hsep
      simp only [Tree.run] at hr
      obtain ⟨y, hy, hr⟩ := Option.bind_eq_some_iff.1 hr
      try simp only [Tree.run] at hr
      obtain ⟨hl0, hr⟩ := ite_run hr
      simp only [Option.some.injEq, Prod.mk.injEq] at hr
      obtain ⟨rfl, rfl⟩ := hr
      obtain ⟨hr0, hu0, ha0, hb0⟩ := (ownR_spec (DVs.okAt (DVs.okAt ha 0 rfl) 2 rfl) (ownF32_or hqv2436))
      exact mut_ok hs (fun k => (([a1.av F, a2.av F] : List AV)[k]?).getD .top) [.agg [.int .i64 v2434, .int .i64 v2435, a1], .int .i64 v2437, a2] [.agg [.int .i64 v2434, .int .i64 v2435, .own 0 0 v2436.length], .int .i64 v2437, .bslc (BR.root 1) (.f32 v2438)] [jv2436] [.f32 v2436] [.f32 y] hnd rfl rfl (fun i j q h1 h2 => by
          rcases i with _ | i
          · simp at h1 h2; subst h1; subst h2; exact hr0
          · simp at h1) (fun i q q' h1 h2 => by
          rcases i with _ | i
          · simp at h1 h2; subst h1; subst h2; exact of_decide_eq_true hl0
          · simp at h1) (fun j hj => by simp at hj; subst hj; simp [DVs.refs, DV.refs, hu0]) (fun F' h0 hi hρ hst hS => ⟨by (have ab0 : F'.abs 0 = F.abs jv2436 := (by simp [Fr.abs, hi]); simp [DVs.av, DV.av, BR.av, hρ, Row.len, ha0, ab0]), by
          obtain ⟨H1, k1, k2, _⟩ := impl_Matrix_setColumn_fn v2434 v2435 v2436 v2437 v2438 F' (by rw [hi]; rfl) hst ⟨⟨trivial, trivial, ⟨_, rfl, Nat.le_refl _, Nat.le_refl _, fun _ => rfl, (ownR_spec (DVs.okAt (DVs.okAt ha 0 rfl) 2 rfl) (ownF32_or hqv2436)).2.2.2⟩, trivial⟩, trivial, bslcM hS (by rw [hρ]; rfl) (hsepv a2 (by simp)) (DVs.okAt ha 2 rfl) (rowF32_or hv2438), trivial⟩ hy
          exact ⟨H1, k1, k2⟩⟩) (fun F' => rfl) (fun L' => trivial)
    · cases hr
  · cases hr
/-! impl.MirrorFactor -/
noncomputable def impl_MirrorFactor_l4_T (v2834 : Int) (v2835 : Int) (v2837 : Int) (v2838 : Int) (v2839 : Int) (v2840 : Int) (v2842 : List Nat) (s : Int × (List Nat) × (List Nat)) : Tree ((Int × (List Nat) × (List Nat)) ⊕ ((List Nat) × (List Nat))) :=
  (.br (decide (s.1 < v2834)) (
   (.call (impl_Matrix_column_g v2837 v2838 v2842 s.1) fun v2844 =>
   (.call (impl_dot_g v2844 s.2.1) fun v2845 =>
   (.call (impl_Matrix_at_g v2840 s.2.2 s.1 v2834) fun v2846 =>
   (.call (impl_Matrix_set_g v2840 s.2.2 s.1 v2834) fun v2847 =>
   (.grd (decide ((List.set s.2.2 (Int.toNat (IntKind.i64.wrap ((IntKind.i64.wrap (s.1 * v2840)) + v2834))) (fadd .f32 v2846 v2845)).length = s.2.2.length)) <|
   (.call (impl_Matrix_column_g v2837 v2838 v2842 s.1) fun v2848 =>
   (.call (impl_less_g s.2.1 v2845 v2848) fun v2849 =>
   (.grd (decide (v2849.length = s.2.1.length)) <|
   .leaf (.inl (IntKind.i64.wrap (s.1 + (1 : Int)), v2849, List.set s.2.2 (Int.toNat (IntKind.i64.wrap ((IntKind.i64.wrap (s.1 * v2840)) + v2834))) (fadd .f32 v2846 v2845)))))))))))
  ) (
   .leaf (.inr (s.2.1, s.2.2))
  ))

noncomputable def impl_MirrorFactor_l4_g (v2834 : Int) (v2835 : Int) (v2837 : Int) (v2838 : Int) (v2839 : Int) (v2840 : Int) (v2842 : List Nat) (s0 : Int × (List Nat) × (List Nat)) : Option ((List Nat) × (List Nat)) := whileM (fun s => (impl_MirrorFactor_l4_T v2834 v2835 v2837 v2838 v2839 v2840 v2842 s).run) s0
def impl_MirrorFactor_l4_E (v2180 : Int) (v2181 : Int) (v2182 : List Nat) (v2834 : Int) (v2835 : Int) (v2837 : Int) (v2838 : Int) (v2839 : Int) (v2840 : Int) (v2842 : List Nat) (s : Int × (List Nat) × (List Nat)) : Sd := ([.top, .ptr 0 (0 : Nat) 0 (3 : Nat), .ptr 1 (0 : Nat) 0 (3 : Nat), .ptr 2 (0 : Nat) 0 (3 : Nat), .top, .ptr 3 (0 : Nat) 0 (3 : Nat), .ptr 4 (0 : Nat) 0 (3 : Nat), .int .i64 v2834, .own 5 0 ((s.2.1).length), .top, .top, .top, .top, .top, .top, .top, .top, .top, .top, .top, .top, .top, .top, .top, .top, .top, .top, .top, .top, .int .i64 v2181, .int .i64 v2834, .top, .top, .top, .top, .top, .int .i64 v2835, .top, .int .i64 v2834, .int .i64 s.1, .top, .top, .top, .top, .top, .top, .top, .top, .top, .top, .top, .top, .top, .top, .top, .top, .top, .top, .top, .top, .top, .top, .top, .top, .top, .top, .top, .top, .top, .top, .top, .top, .top, .top, .top, .top, .top, .top, .top, .top, .top, .top, .top, .top, .top, .top, .top, .top, .top, .top, .top, .top, .top, .top, .top, .top, .top, .top, .top, .top, .top, .top, .top, .top, .top, .top, .top], [.gen [.int .i64 v2180, .int .i64 v2181, .bslc (BR.root 0) (.f32 v2182)] false 0, .gen [.int .i64 (0 : Int), .int .i64 (0 : Int), .nilslc] false 0, .gen [.int .i64 (0 : Int), .int .i64 (0 : Int), .nilslc] false 0, .gen [.int .i64 v2837, .int .i64 v2838, .own 6 0 ((v2842).length)] false 0, .gen [.int .i64 v2839, .int .i64 v2840, .own 7 0 ((s.2.2).length)] false 0, .row (.f32 s.2.1) 0, .row (.f32 v2842) 0, .row (.f32 s.2.2) 0])
def impl_MirrorFactor_l4_X (v2180 : Int) (v2181 : Int) (v2182 : List Nat) (v2834 : Int) (v2835 : Int) (v2837 : Int) (v2838 : Int) (v2839 : Int) (v2840 : Int) (v2842 : List Nat) (x : (List Nat) × (List Nat)) : Out := (.normal, [.top, .ptr 0 (0 : Nat) 0 (3 : Nat), .ptr 1 (0 : Nat) 0 (3 : Nat), .ptr 2 (0 : Nat) 0 (3 : Nat), .top, .ptr 3 (0 : Nat) 0 (3 : Nat), .ptr 4 (0 : Nat) 0 (3 : Nat), .int .i64 v2834, .own 5 0 ((x.1).length), .top, .top, .top, .top, .top, .top, .top, .top, .top, .top, .top, .top, .top, .top, .top, .top, .top, .top, .top, .top, .int .i64 v2181, .int .i64 v2834, .top, .top, .top, .top, .top, .int .i64 v2835, .top, .top, .top, .top, .top, .top, .top, .top, .top, .top, .top, .top, .top, .top, .top, .top, .top, .top, .top, .top, .top, .top, .top, .top, .top, .top, .top, .top, .top, .top, .top, .top, .top, .top, .top, .top, .top, .top, .top, .top, .top, .top, .top, .top, .top, .top, .top, .top, .top, .top, .top, .top, .top, .top, .top, .top, .top, .top, .top, .top, .top, .top, .top, .top, .top, .top, .top, .top, .top, .top], [.gen [.int .i64 v2180, .int .i64 v2181, .bslc (BR.root 0) (.f32 v2182)] false 0, .gen [.int .i64 (0 : Int), .int .i64 (0 : Int), .nilslc] false 0, .gen [.int .i64 (0 : Int), .int .i64 (0 : Int), .nilslc] false 0, .gen [.int .i64 v2837, .int .i64 v2838, .own 6 0 ((v2842).length)] false 0, .gen [.int .i64 v2839, .int .i64 v2840, .own 7 0 ((x.2).length)] false 0, .row (.f32 x.1) 0, .row (.f32 v2842) 0, .row (.f32 x.2) 0])
def impl_MirrorFactor_l4_kill : List Nat := [1, 0, 0, 0, 1, 0, 0, 0, 0, 1, 1, 1, 1, 1, 1, 1, 1, 1, 1, 1, 1, 1, 1, 1, 1, 1, 1, 1, 1, 0, 0, 1, 1, 1, 1, 1, 0, 1, 0, 0, 1, 1, 1, 1, 1, 1, 1, 1, 1, 1, 1, 1, 1, 1, 1, 1, 1, 1, 1, 1, 1, 1, 1, 1, 1, 1, 1, 1, 1, 1, 1, 1, 1, 1, 1, 1, 1, 1, 1, 1, 1, 1, 1, 1, 1, 1, 1, 1, 1, 1, 1, 1, 1, 1, 1, 1, 1, 1, 1, 1, 1, 1, 1, 1, 1, 1, 1]
def impl_MirrorFactor_l4_nx : Exit → List Nat
  | .exit 0 => [1, 1, 0, 0, 1, 0, 0, 1, 1, 1, 1, 1, 1, 1, 1, 1, 1, 1, 1, 1, 1, 1, 1, 1, 1, 1, 1, 1, 1, 1, 1, 1, 1, 1, 1, 1, 1, 1, 1, 1, 1, 1, 1, 1, 1, 1, 1, 1, 1, 1, 1, 1, 1, 1, 1, 1, 1, 1, 1, 1, 1, 1, 1, 1, 1, 1, 1, 1, 1, 1, 1, 1, 1, 1, 1, 1, 1, 1, 1, 1, 1, 1, 1, 1, 1, 1, 1, 1, 1, 1, 1, 1, 1, 1, 1, 1, 1, 1, 1, 1, 1, 1, 1, 1, 1, 1, 1]
  | .exit 1 => [1, 0, 0, 0, 1, 0, 0, 1, 1, 1, 1, 1, 1, 1, 1, 1, 1, 1, 1, 1, 1, 1, 1, 1, 1, 1, 1, 1, 1, 0, 0, 1, 1, 1, 1, 1, 1, 1, 1, 1, 1, 1, 1, 1, 1, 1, 1, 1, 1, 1, 1, 1, 1, 1, 1, 1, 1, 1, 1, 1, 1, 1, 1, 1, 1, 1, 1, 1, 1, 1, 1, 1, 1, 1, 1, 1, 1, 1, 1, 1, 1, 1, 1, 1, 1, 1, 1, 1, 1, 1, 1, 1, 1, 1, 1, 1, 1, 1, 1, 1, 1, 1, 1, 1, 1, 1, 1]
  | .exit 2 => [1, 0, 0, 0, 1, 0, 0, 0, 0, 1, 1, 1, 1, 1, 1, 1, 1, 1, 1, 1, 1, 1, 1, 1, 1, 1, 1, 1, 1, 0, 0, 1, 1, 1, 1, 1, 1, 1, 1, 1, 1, 1, 1, 1, 1, 1, 1, 1, 1, 1, 1, 1, 1, 1, 1, 1, 1, 1, 1, 1, 1, 1, 1, 1, 1, 1, 1, 1, 1, 1, 1, 1, 1, 1, 1, 1, 1, 1, 1, 1, 1, 1, 1, 1, 1, 1, 1, 1, 1, 1, 1, 1, 1, 1, 1, 1, 1, 1, 1, 1, 1, 1, 1, 1, 1, 1, 1]
  | .exit 3 => [1, 0, 0, 0, 1, 0, 0, 0, 0, 1, 1, 1, 1, 1, 1, 1, 1, 1, 1, 1, 1, 1, 1, 1, 1, 1, 1, 1, 1, 0, 0, 1, 1, 1, 1, 1, 0, 1, 1, 1, 1, 1, 1, 1, 1, 1, 1, 1, 1, 1, 1, 1, 1, 1, 1, 1, 1, 1, 1, 1, 1, 1, 1, 1, 1, 1, 1, 1, 1, 1, 1, 1, 1, 1, 1, 1, 1, 1, 1, 1, 1, 1, 1, 1, 1, 1, 1, 1, 1, 1, 1, 1, 1, 1, 1, 1, 1, 1, 1, 1, 1, 1, 1, 1, 1, 1, 1]
  | .exit 4 => [1, 0, 0, 0, 1, 0, 0, 0, 0, 1, 1, 1, 1, 1, 1, 1, 1, 1, 1, 1, 1, 1, 1, 1, 1, 1, 1, 1, 1, 0, 0, 1, 1, 1, 1, 1, 0, 1, 1, 1, 1, 1, 1, 1, 1, 1, 1, 1, 1, 1, 1, 1, 1, 1, 1, 1, 1, 1, 1, 1, 1, 1, 1, 1, 1, 1, 1, 1, 1, 1, 1, 1, 1, 1, 1, 1, 1, 1, 1, 1, 1, 1, 1, 1, 1, 1, 1, 1, 1, 1, 1, 1, 1, 1, 1, 1, 1, 1, 1, 1, 1, 1, 1, 1, 1, 1, 1]
  | .ret => [1, 1, 0, 0, 0, 1, 1, 1, 1, 1, 1, 1, 1, 1, 1, 1, 1, 1, 1, 1, 1, 1, 1, 1, 1, 1, 1, 1, 1, 1, 1, 1, 1, 1, 1, 1, 1, 1, 1, 1, 1, 1, 1, 1, 1, 1, 1, 1, 1, 1, 1, 1, 1, 1, 1, 1, 1, 1, 1, 1, 1, 1, 1, 1, 1, 1, 1, 1, 1, 1, 1, 1, 1, 1, 1, 1, 1, 1, 1, 1, 1, 1, 1, 1, 1, 1, 1, 1, 1, 1, 1, 1, 1, 1, 1, 1, 1, 1, 1, 1, 1, 1, 1, 1, 1, 1, 1]
  | _ => []
noncomputable def impl_MirrorFactor_l2_T (v2180 : Int) (v2181 : Int) (v2182 : List Nat) (v2793 : Int) (v2795 : Int) (v2796 : Int) (v2797 : Int) (v2798 : Int) (v2800 : List Nat) (s : Int × (List Nat) × (List Nat)) : Tree ((Int × (List Nat) × (List Nat)) ⊕ ((List Nat) × (List Nat))) :=
  (.br (decide (s.1 < (2 : Int))) (
   (.need (some (impl_MirrorFactor_l4_E v2180 v2181 v2182 v2793 s.1 v2795 v2796 v2797 v2798 v2800 ((0 : Int), s.2.1, s.2.2)) = some (impl_MirrorFactor_l4_E v2180 v2181 v2182 v2793 s.1 v2795 v2796 v2797 v2798 v2800 ((0 : Int), s.2.1, s.2.2))) <|
   (.call (impl_MirrorFactor_l4_g v2793 s.1 v2795 v2796 v2797 v2798 v2800 ((0 : Int), s.2.1, s.2.2)) fun v2850 =>
   .leaf (.inl (IntKind.i64.wrap (s.1 + (1 : Int)), v2850.1, v2850.2))))
  ) (
   .leaf (.inr (s.2.1, s.2.2))
  ))

noncomputable def impl_MirrorFactor_l2_g (v2180 : Int) (v2181 : Int) (v2182 : List Nat) (v2793 : Int) (v2795 : Int) (v2796 : Int) (v2797 : Int) (v2798 : Int) (v2800 : List Nat) (s0 : Int × (List Nat) × (List Nat)) : Option ((List Nat) × (List Nat)) := whileM (fun s => (impl_MirrorFactor_l2_T v2180 v2181 v2182 v2793 v2795 v2796 v2797 v2798 v2800 s).run) s0
def impl_MirrorFactor_l2_E (v2180 : Int) (v2181 : Int) (v2182 : List Nat) (v2793 : Int) (v2795 : Int) (v2796 : Int) (v2797 : Int) (v2798 : Int) (v2800 : List Nat) (s : Int × (List Nat) × (List Nat)) : Sd := ([.top, .ptr 0 (0 : Nat) 0 (3 : Nat), .ptr 1 (0 : Nat) 0 (3 : Nat), .ptr 2 (0 : Nat) 0 (3 : Nat), .top, .ptr 3 (0 : Nat) 0 (3 : Nat), .ptr 4 (0 : Nat) 0 (3 : Nat), .int .i64 v2793, .own 5 0 ((s.2.1).length), .top, .top, .top, .top, .top, .top, .top, .top, .top, .top, .top, .top, .top, .top, .top, .top, .top, .top, .top, .top, .int .i64 v2181, .int .i64 v2793, .top, .top, .top, .top, .top, .int .i64 s.1, .top, .top, .top, .top, .top, .top, .top, .top, .top, .top, .top, .top, .top, .top, .top, .top, .top, .top, .top, .top, .top, .top, .top, .top, .top, .top, .top, .top, .top, .top, .top, .top, .top, .top, .top, .top, .top, .top, .top, .top, .top, .top, .top, .top, .top, .top, .top, .top, .top, .top, .top, .top, .top, .top, .top, .top, .top, .top, .top, .top, .top, .top, .top, .top, .top, .top, .top, .top, .top, .top], [.gen [.int .i64 v2180, .int .i64 v2181, .bslc (BR.root 0) (.f32 v2182)] false 0, .gen [.int .i64 (0 : Int), .int .i64 (0 : Int), .nilslc] false 0, .gen [.int .i64 (0 : Int), .int .i64 (0 : Int), .nilslc] false 0, .gen [.int .i64 v2795, .int .i64 v2796, .own 6 0 ((v2800).length)] false 0, .gen [.int .i64 v2797, .int .i64 v2798, .own 7 0 ((s.2.2).length)] false 0, .row (.f32 s.2.1) 0, .row (.f32 v2800) 0, .row (.f32 s.2.2) 0])
def impl_MirrorFactor_l2_X (v2180 : Int) (v2181 : Int) (v2182 : List Nat) (v2793 : Int) (v2795 : Int) (v2796 : Int) (v2797 : Int) (v2798 : Int) (v2800 : List Nat) (x : (List Nat) × (List Nat)) : Out := (.normal, [.top, .ptr 0 (0 : Nat) 0 (3 : Nat), .ptr 1 (0 : Nat) 0 (3 : Nat), .ptr 2 (0 : Nat) 0 (3 : Nat), .top, .ptr 3 (0 : Nat) 0 (3 : Nat), .ptr 4 (0 : Nat) 0 (3 : Nat), .int .i64 v2793, .own 5 0 ((x.1).length), .top, .top, .top, .top, .top, .top, .top, .top, .top, .top, .top, .top, .top, .top, .top, .top, .top, .top, .top, .top, .int .i64 v2181, .int .i64 v2793, .top, .top, .top, .top, .top, .top, .top, .top, .top, .top, .top, .top, .top, .top, .top, .top, .top, .top, .top, .top, .top, .top, .top, .top, .top, .top, .top, .top, .top, .top, .top, .top, .top, .top, .top, .top, .top, .top, .top, .top, .top, .top, .top, .top, .top, .top, .top, .top, .top, .top, .top, .top, .top, .top, .top, .top, .top, .top, .top, .top, .top, .top, .top, .top, .top, .top, .top, .top, .top, .top, .top, .top, .top, .top, .top, .top], [.gen [.int .i64 v2180, .int .i64 v2181, .bslc (BR.root 0) (.f32 v2182)] false 0, .gen [.int .i64 (0 : Int), .int .i64 (0 : Int), .nilslc] false 0, .gen [.int .i64 (0 : Int), .int .i64 (0 : Int), .nilslc] false 0, .gen [.int .i64 v2795, .int .i64 v2796, .own 6 0 ((v2800).length)] false 0, .gen [.int .i64 v2797, .int .i64 v2798, .own 7 0 ((x.2).length)] false 0, .row (.f32 x.1) 0, .row (.f32 v2800) 0, .row (.f32 x.2) 0])
def impl_MirrorFactor_l2_kill : List Nat := [1, 0, 0, 0, 1, 0, 0, 0, 0, 1, 1, 1, 1, 1, 1, 1, 1, 1, 1, 1, 1, 1, 1, 1, 1, 1, 1, 1, 1, 0, 0, 1, 1, 1, 1, 1, 0, 1, 1, 1, 1, 1, 1, 1, 1, 1, 1, 1, 1, 1, 1, 1, 1, 1, 1, 1, 1, 1, 1, 1, 1, 1, 1, 1, 1, 1, 1, 1, 1, 1, 1, 1, 1, 1, 1, 1, 1, 1, 1, 1, 1, 1, 1, 1, 1, 1, 1, 1, 1, 1, 1, 1, 1, 1, 1, 1, 1, 1, 1, 1, 1, 1, 1, 1, 1, 1, 1]
def impl_MirrorFactor_l2_nx : Exit → List Nat
  | .exit 0 => [1, 1, 0, 0, 1, 0, 0, 1, 1, 1, 1, 1, 1, 1, 1, 1, 1, 1, 1, 1, 1, 1, 1, 1, 1, 1, 1, 1, 1, 1, 1, 1, 1, 1, 1, 1, 1, 1, 1, 1, 1, 1, 1, 1, 1, 1, 1, 1, 1, 1, 1, 1, 1, 1, 1, 1, 1, 1, 1, 1, 1, 1, 1, 1, 1, 1, 1, 1, 1, 1, 1, 1, 1, 1, 1, 1, 1, 1, 1, 1, 1, 1, 1, 1, 1, 1, 1, 1, 1, 1, 1, 1, 1, 1, 1, 1, 1, 1, 1, 1, 1, 1, 1, 1, 1, 1, 1]
  | .exit 1 => [1, 0, 0, 0, 1, 0, 0, 1, 1, 1, 1, 1, 1, 1, 1, 1, 1, 1, 1, 1, 1, 1, 1, 1, 1, 1, 1, 1, 1, 0, 0, 1, 1, 1, 1, 1, 1, 1, 1, 1, 1, 1, 1, 1, 1, 1, 1, 1, 1, 1, 1, 1, 1, 1, 1, 1, 1, 1, 1, 1, 1, 1, 1, 1, 1, 1, 1, 1, 1, 1, 1, 1, 1, 1, 1, 1, 1, 1, 1, 1, 1, 1, 1, 1, 1, 1, 1, 1, 1, 1, 1, 1, 1, 1, 1, 1, 1, 1, 1, 1, 1, 1, 1, 1, 1, 1, 1]
  | .exit 2 => [1, 0, 0, 0, 1, 0, 0, 0, 0, 1, 1, 1, 1, 1, 1, 1, 1, 1, 1, 1, 1, 1, 1, 1, 1, 1, 1, 1, 1, 0, 0, 1, 1, 1, 1, 1, 1, 1, 1, 1, 1, 1, 1, 1, 1, 1, 1, 1, 1, 1, 1, 1, 1, 1, 1, 1, 1, 1, 1, 1, 1, 1, 1, 1, 1, 1, 1, 1, 1, 1, 1, 1, 1, 1, 1, 1, 1, 1, 1, 1, 1, 1, 1, 1, 1, 1, 1, 1, 1, 1, 1, 1, 1, 1, 1, 1, 1, 1, 1, 1, 1, 1, 1, 1, 1, 1, 1]
  | .ret => [1, 1, 0, 0, 0, 1, 1, 1, 1, 1, 1, 1, 1, 1, 1, 1, 1, 1, 1, 1, 1, 1, 1, 1, 1, 1, 1, 1, 1, 1, 1, 1, 1, 1, 1, 1, 1, 1, 1, 1, 1, 1, 1, 1, 1, 1, 1, 1, 1, 1, 1, 1, 1, 1, 1, 1, 1, 1, 1, 1, 1, 1, 1, 1, 1, 1, 1, 1, 1, 1, 1, 1, 1, 1, 1, 1, 1, 1, 1, 1, 1, 1, 1, 1, 1, 1, 1, 1, 1, 1, 1, 1, 1, 1, 1, 1, 1, 1, 1, 1, 1, 1, 1, 1, 1, 1, 1]
  | _ => []
noncomputable def impl_MirrorFactor_l6_T (v2876 : Int) (v2877 : Nat) (v2878 : Int) (v2880 : Int) (v2881 : Int) (v2882 : Int) (v2883 : Int) (v2885 : List Nat) (v2886 : List Nat) (s : Int × (List Nat)) : Tree ((Int × (List Nat)) ⊕ ((List Nat))) :=
  (.br (decide (s.1 < v2878)) (
   (.grd (inb s.1 ((s.2).length)) <|
   (.grd (inb s.1 ((s.2).length)) <|
   .leaf (.inl (IntKind.i64.wrap (s.1 + (1 : Int)), List.set s.2 (Int.toNat s.1) (fdiv .f32 (nth s.2 (Int.toNat s.1)) v2877)))))
  ) (
   .leaf (.inr s.2)
  ))

noncomputable def impl_MirrorFactor_l6_g (v2876 : Int) (v2877 : Nat) (v2878 : Int) (v2880 : Int) (v2881 : Int) (v2882 : Int) (v2883 : Int) (v2885 : List Nat) (v2886 : List Nat) (s0 : Int × (List Nat)) : Option ((List Nat)) := whileM (fun s => (impl_MirrorFactor_l6_T v2876 v2877 v2878 v2880 v2881 v2882 v2883 v2885 v2886 s).run) s0
def impl_MirrorFactor_l6_E (v2180 : Int) (v2181 : Int) (v2182 : List Nat) (v2876 : Int) (v2877 : Nat) (v2878 : Int) (v2880 : Int) (v2881 : Int) (v2882 : Int) (v2883 : Int) (v2885 : List Nat) (v2886 : List Nat) (s : Int × (List Nat)) : Sd := ([.top, .ptr 0 (0 : Nat) 0 (3 : Nat), .ptr 1 (0 : Nat) 0 (3 : Nat), .ptr 2 (0 : Nat) 0 (3 : Nat), .top, .ptr 3 (0 : Nat) 0 (3 : Nat), .ptr 4 (0 : Nat) 0 (3 : Nat), .int .i64 v2876, .own 5 0 ((s.2).length), .top, .top, .flt .f32 v2877, .top, .top, .top, .top, .top, .top, .top, .top, .top, .top, .top, .top, .top, .top, .top, .top, .top, .int .i64 v2181, .int .i64 v2876, .top, .top, .top, .top, .top, .top, .top, .top, .top, .top, .top, .top, .top, .top, .top, .top, .top, .top, .top, .top, .top, .top, .top, .top, .top, .top, .top, .top, .top, .top, .top, .top, .top, .top, .top, .top, .top, .top, .top, .top, .top, .top, .top, .top, .top, .top, .top, .int .i64 v2878, .int .i64 s.1, .top, .top, .top, .top, .top, .top, .top, .top, .top, .top, .top, .top, .top, .top, .top, .top, .top, .top, .top, .top, .top, .top, .top, .top, .top, .top, .top], [.gen [.int .i64 v2180, .int .i64 v2181, .bslc (BR.root 0) (.f32 v2182)] false 0, .gen [.int .i64 (0 : Int), .int .i64 (0 : Int), .nilslc] false 0, .gen [.int .i64 (0 : Int), .int .i64 (0 : Int), .nilslc] false 0, .gen [.int .i64 v2880, .int .i64 v2881, .own 6 0 ((v2885).length)] false 0, .gen [.int .i64 v2882, .int .i64 v2883, .own 7 0 ((v2886).length)] false 0, .row (.f32 s.2) 0, .row (.f32 v2885) 0, .row (.f32 v2886) 0])
def impl_MirrorFactor_l6_X (v2180 : Int) (v2181 : Int) (v2182 : List Nat) (v2876 : Int) (v2877 : Nat) (v2878 : Int) (v2880 : Int) (v2881 : Int) (v2882 : Int) (v2883 : Int) (v2885 : List Nat) (v2886 : List Nat) (x : (List Nat)) : Out := (.normal, [.top, .ptr 0 (0 : Nat) 0 (3 : Nat), .ptr 1 (0 : Nat) 0 (3 : Nat), .ptr 2 (0 : Nat) 0 (3 : Nat), .top, .ptr 3 (0 : Nat) 0 (3 : Nat), .ptr 4 (0 : Nat) 0 (3 : Nat), .int .i64 v2876, .own 5 0 ((x).length), .top, .top, .top, .top, .top, .top, .top, .top, .top, .top, .top, .top, .top, .top, .top, .top, .top, .top, .top, .top, .int .i64 v2181, .int .i64 v2876, .top, .top, .top, .top, .top, .top, .top, .top, .top, .top, .top, .top, .top, .top, .top, .top, .top, .top, .top, .top, .top, .top, .top, .top, .top, .top, .top, .top, .top, .top, .top, .top, .top, .top, .top, .top, .top, .top, .top, .top, .top, .top, .top, .top, .top, .top, .top, .top, .top, .top, .top, .top, .top, .top, .top, .top, .top, .top, .top, .top, .top, .top, .top, .top, .top, .top, .top, .top, .top, .top, .top, .top, .top, .top, .top, .top], [.gen [.int .i64 v2180, .int .i64 v2181, .bslc (BR.root 0) (.f32 v2182)] false 0, .gen [.int .i64 (0 : Int), .int .i64 (0 : Int), .nilslc] false 0, .gen [.int .i64 (0 : Int), .int .i64 (0 : Int), .nilslc] false 0, .gen [.int .i64 v2880, .int .i64 v2881, .own 6 0 ((v2885).length)] false 0, .gen [.int .i64 v2882, .int .i64 v2883, .own 7 0 ((v2886).length)] false 0, .row (.f32 x) 0, .row (.f32 v2885) 0, .row (.f32 v2886) 0])
def impl_MirrorFactor_l6_kill : List Nat := [1, 0, 0, 0, 1, 0, 0, 0, 0, 1, 1, 0, 1, 1, 1, 1, 1, 1, 1, 1, 1, 1, 1, 1, 1, 1, 1, 1, 1, 0, 0, 1, 1, 1, 1, 1, 1, 1, 1, 1, 1, 1, 1, 1, 1, 1, 1, 1, 1, 1, 1, 1, 1, 1, 1, 1, 1, 1, 1, 1, 1, 1, 1, 1, 1, 1, 1, 1, 1, 1, 1, 1, 1, 1, 1, 1, 1, 1, 0, 0, 1, 1, 1, 1, 1, 1, 1, 1, 1, 1, 1, 1, 1, 1, 1, 1, 1, 1, 1, 1, 1, 1, 1, 1, 1, 1, 1]
def impl_MirrorFactor_l6_nx : Exit → List Nat
  | .exit 0 => [1, 1, 0, 0, 1, 0, 0, 1, 1, 1, 1, 1, 1, 1, 1, 1, 1, 1, 1, 1, 1, 1, 1, 1, 1, 1, 1, 1, 1, 1, 1, 1, 1, 1, 1, 1, 1, 1, 1, 1, 1, 1, 1, 1, 1, 1, 1, 1, 1, 1, 1, 1, 1, 1, 1, 1, 1, 1, 1, 1, 1, 1, 1, 1, 1, 1, 1, 1, 1, 1, 1, 1, 1, 1, 1, 1, 1, 1, 1, 1, 1, 1, 1, 1, 1, 1, 1, 1, 1, 1, 1, 1, 1, 1, 1, 1, 1, 1, 1, 1, 1, 1, 1, 1, 1, 1, 1]
  | .exit 1 => [1, 0, 0, 0, 1, 0, 0, 1, 1, 1, 1, 1, 1, 1, 1, 1, 1, 1, 1, 1, 1, 1, 1, 1, 1, 1, 1, 1, 1, 0, 0, 1, 1, 1, 1, 1, 1, 1, 1, 1, 1, 1, 1, 1, 1, 1, 1, 1, 1, 1, 1, 1, 1, 1, 1, 1, 1, 1, 1, 1, 1, 1, 1, 1, 1, 1, 1, 1, 1, 1, 1, 1, 1, 1, 1, 1, 1, 1, 1, 1, 1, 1, 1, 1, 1, 1, 1, 1, 1, 1, 1, 1, 1, 1, 1, 1, 1, 1, 1, 1, 1, 1, 1, 1, 1, 1, 1]
  | .exit 6 => [1, 0, 0, 0, 1, 0, 0, 0, 0, 1, 1, 1, 1, 1, 1, 1, 1, 1, 1, 1, 1, 1, 1, 1, 1, 1, 1, 1, 1, 0, 0, 1, 1, 1, 1, 1, 1, 1, 1, 1, 1, 1, 1, 1, 1, 1, 1, 1, 1, 1, 1, 1, 1, 1, 1, 1, 1, 1, 1, 1, 1, 1, 1, 1, 1, 1, 1, 1, 1, 1, 1, 1, 1, 1, 1, 1, 1, 1, 1, 1, 1, 1, 1, 1, 1, 1, 1, 1, 1, 1, 1, 1, 1, 1, 1, 1, 1, 1, 1, 1, 1, 1, 1, 1, 1, 1, 1]
  | .ret => [1, 1, 0, 0, 0, 1, 1, 1, 1, 1, 1, 1, 1, 1, 1, 1, 1, 1, 1, 1, 1, 1, 1, 1, 1, 1, 1, 1, 1, 1, 1, 1, 1, 1, 1, 1, 1, 1, 1, 1, 1, 1, 1, 1, 1, 1, 1, 1, 1, 1, 1, 1, 1, 1, 1, 1, 1, 1, 1, 1, 1, 1, 1, 1, 1, 1, 1, 1, 1, 1, 1, 1, 1, 1, 1, 1, 1, 1, 1, 1, 1, 1, 1, 1, 1, 1, 1, 1, 1, 1, 1, 1, 1, 1, 1, 1, 1, 1, 1, 1, 1, 1, 1, 1, 1, 1, 1]
  | _ => []
noncomputable def impl_MirrorFactor_l0_T (v2180 : Int) (v2181 : Int) (v2182 : List Nat) (v2670 : Int) (v2671 : Int) (v2672 : Int) (v2673 : Int) (s : Int × (List Nat) × (List Nat)) : Tree ((Int × (List Nat) × (List Nat)) ⊕ ((Unit) ⊕ ((List Nat) × (List Nat)))) :=
  (.br (decide (s.1 < v2181)) (
   (.call (impl_Matrix_column_g v2180 v2181 v2182 s.1) fun v2676 =>
   (.need (some (impl_MirrorFactor_l2_E v2180 v2181 v2182 s.1 v2670 v2671 v2672 v2673 s.2.1 ((0 : Int), v2676, s.2.2)) = some (impl_MirrorFactor_l2_E v2180 v2181 v2182 s.1 v2670 v2671 v2672 v2673 s.2.1 ((0 : Int), v2676, s.2.2))) <|
   (.call (impl_MirrorFactor_l2_g v2180 v2181 v2182 s.1 v2670 v2671 v2672 v2673 s.2.1 ((0 : Int), v2676, s.2.2)) fun v2851 =>
   (.call (impl_norm_g v2851.1) fun v2852 =>
   (.br (!(fgrt .f32 v2852 (0 : Nat))) (
    .leaf (.inr (.inl ()))
   ) (
    (.call (impl_Matrix_set_g v2673 v2851.2 s.1 s.1) fun v2853 =>
    (.grd (decide ((List.set v2851.2 (Int.toNat (IntKind.i64.wrap ((IntKind.i64.wrap (s.1 * v2673)) + s.1))) v2852).length = v2851.2.length)) <|
    (.need (some (impl_MirrorFactor_l6_E v2180 v2181 v2182 s.1 v2852 (((v2851.1).length : Nat) : Int) v2670 v2671 v2672 v2673 s.2.1 (List.set v2851.2 (Int.toNat (IntKind.i64.wrap ((IntKind.i64.wrap (s.1 * v2673)) + s.1))) v2852) ((0 : Int), v2851.1)) = some (impl_MirrorFactor_l6_E v2180 v2181 v2182 s.1 v2852 (((v2851.1).length : Nat) : Int) v2670 v2671 v2672 v2673 s.2.1 (List.set v2851.2 (Int.toNat (IntKind.i64.wrap ((IntKind.i64.wrap (s.1 * v2673)) + s.1))) v2852) ((0 : Int), v2851.1))) <|
    (.call (impl_MirrorFactor_l6_g s.1 v2852 (((v2851.1).length : Nat) : Int) v2670 v2671 v2672 v2673 s.2.1 (List.set v2851.2 (Int.toNat (IntKind.i64.wrap ((IntKind.i64.wrap (s.1 * v2673)) + s.1))) v2852) ((0 : Int), v2851.1)) fun v2887 =>
    (.call (impl_Matrix_setColumn_g v2670 v2671 s.2.1 s.1 v2887) fun v2888 =>
    (.grd (decide (v2888.length = s.2.1.length)) <|
    .leaf (.inl (IntKind.i64.wrap (s.1 + (1 : Int)), v2888, (List.set v2851.2 (Int.toNat (IntKind.i64.wrap ((IntKind.i64.wrap (s.1 * v2673)) + s.1))) v2852)))))))))
   ))))))
  ) (
   .leaf (.inr (.inr (s.2.1, s.2.2)))
  ))

noncomputable def impl_MirrorFactor_l0_g (v2180 : Int) (v2181 : Int) (v2182 : List Nat) (v2670 : Int) (v2671 : Int) (v2672 : Int) (v2673 : Int) (s0 : Int × (List Nat) × (List Nat)) : Option ((Unit) ⊕ ((List Nat) × (List Nat))) := whileM (fun s => (impl_MirrorFactor_l0_T v2180 v2181 v2182 v2670 v2671 v2672 v2673 s).run) s0
def impl_MirrorFactor_l0_E (v2180 : Int) (v2181 : Int) (v2182 : List Nat) (v2670 : Int) (v2671 : Int) (v2672 : Int) (v2673 : Int) (s : Int × (List Nat) × (List Nat)) : Sd := ([.top, .ptr 0 (0 : Nat) 0 (3 : Nat), .ptr 1 (0 : Nat) 0 (3 : Nat), .ptr 2 (0 : Nat) 0 (3 : Nat), .top, .ptr 3 (0 : Nat) 0 (3 : Nat), .ptr 4 (0 : Nat) 0 (3 : Nat), .top, .top, .top, .top, .top, .top, .top, .top, .top, .top, .top, .top, .top, .top, .top, .top, .top, .top, .top, .top, .top, .top, .int .i64 v2181, .int .i64 s.1, .top, .top, .top, .top, .top, .top, .top, .top, .top, .top, .top, .top, .top, .top, .top, .top, .top, .top, .top, .top, .top, .top, .top, .top, .top, .top, .top, .top, .top, .top, .top, .top, .top, .top, .top, .top, .top, .top, .top, .top, .top, .top, .top, .top, .top, .top, .top, .top, .top, .top, .top, .top, .top, .top, .top, .top, .top, .top, .top, .top, .top, .top, .top, .top, .top, .top, .top, .top, .top, .top, .top, .top, .top, .top, .top, .top], [.gen [.int .i64 v2180, .int .i64 v2181, .bslc (BR.root 0) (.f32 v2182)] false 0, .gen [.int .i64 (0 : Int), .int .i64 (0 : Int), .nilslc] false 0, .gen [.int .i64 (0 : Int), .int .i64 (0 : Int), .nilslc] false 0, .gen [.int .i64 v2670, .int .i64 v2671, .own 5 0 ((s.2.1).length)] false 0, .gen [.int .i64 v2672, .int .i64 v2673, .own 6 0 ((s.2.2).length)] false 0, .row (.f32 s.2.1) 0, .row (.f32 s.2.2) 0])
def impl_MirrorFactor_l0_X (v2180 : Int) (v2181 : Int) (v2182 : List Nat) (v2670 : Int) (v2671 : Int) (v2672 : Int) (v2673 : Int) (x : (Unit) ⊕ ((List Nat) × (List Nat))) : Out := (match x with | .inl x => (.ret, [.top, .top, .ptr 0 (0 : Nat) 0 (3 : Nat), .ptr 1 (0 : Nat) 0 (3 : Nat), .lit false, .top, .top, .top, .top, .top, .top, .top, .top, .top, .top, .top, .top, .top, .top, .top, .top, .top, .top, .top, .top, .top, .top, .top, .top, .top, .top, .top, .top, .top, .top, .top, .top, .top, .top, .top, .top, .top, .top, .top, .top, .top, .top, .top, .top, .top, .top, .top, .top, .top, .top, .top, .top, .top, .top, .top, .top, .top, .top, .top, .top, .top, .top, .top, .top, .top, .top, .top, .top, .top, .top, .top, .top, .top, .top, .top, .top, .top, .top, .top, .top, .top, .top, .top, .top, .top, .top, .top, .top, .top, .top, .top, .top, .top, .top, .top, .top, .top, .top, .top, .top, .top, .top], [.gen [.int .i64 (0 : Int), .int .i64 (0 : Int), .nilslc] false 0, .gen [.int .i64 (0 : Int), .int .i64 (0 : Int), .nilslc] false 0]) | .inr x => (.normal, [.top, .top, .ptr 0 (0 : Nat) 0 (3 : Nat), .ptr 1 (0 : Nat) 0 (3 : Nat), .top, .ptr 2 (0 : Nat) 0 (3 : Nat), .ptr 3 (0 : Nat) 0 (3 : Nat), .top, .top, .top, .top, .top, .top, .top, .top, .top, .top, .top, .top, .top, .top, .top, .top, .top, .top, .top, .top, .top, .top, .top, .top, .top, .top, .top, .top, .top, .top, .top, .top, .top, .top, .top, .top, .top, .top, .top, .top, .top, .top, .top, .top, .top, .top, .top, .top, .top, .top, .top, .top, .top, .top, .top, .top, .top, .top, .top, .top, .top, .top, .top, .top, .top, .top, .top, .top, .top, .top, .top, .top, .top, .top, .top, .top, .top, .top, .top, .top, .top, .top, .top, .top, .top, .top, .top, .top, .top, .top, .top, .top, .top, .top, .top, .top, .top, .top, .top, .top], [.gen [.int .i64 (0 : Int), .int .i64 (0 : Int), .nilslc] false 0, .gen [.int .i64 (0 : Int), .int .i64 (0 : Int), .nilslc] false 0, .gen [.int .i64 v2670, .int .i64 v2671, .own 4 0 ((x.1).length)] false 0, .gen [.int .i64 v2672, .int .i64 v2673, .own 5 0 ((x.2).length)] false 0, .row (.f32 x.1) 0, .row (.f32 x.2) 0]))
def impl_MirrorFactor_l0_kill : List Nat := [1, 0, 0, 0, 1, 0, 0, 1, 1, 1, 1, 1, 1, 1, 1, 1, 1, 1, 1, 1, 1, 1, 1, 1, 1, 1, 1, 1, 1, 0, 0, 1, 1, 1, 1, 1, 1, 1, 1, 1, 1, 1, 1, 1, 1, 1, 1, 1, 1, 1, 1, 1, 1, 1, 1, 1, 1, 1, 1, 1, 1, 1, 1, 1, 1, 1, 1, 1, 1, 1, 1, 1, 1, 1, 1, 1, 1, 1, 1, 1, 1, 1, 1, 1, 1, 1, 1, 1, 1, 1, 1, 1, 1, 1, 1, 1, 1, 1, 1, 1, 1, 1, 1, 1, 1, 1, 1]
def impl_MirrorFactor_l0_nx : Exit → List Nat
  | .exit 0 => [1, 1, 0, 0, 1, 0, 0, 1, 1, 1, 1, 1, 1, 1, 1, 1, 1, 1, 1, 1, 1, 1, 1, 1, 1, 1, 1, 1, 1, 1, 1, 1, 1, 1, 1, 1, 1, 1, 1, 1, 1, 1, 1, 1, 1, 1, 1, 1, 1, 1, 1, 1, 1, 1, 1, 1, 1, 1, 1, 1, 1, 1, 1, 1, 1, 1, 1, 1, 1, 1, 1, 1, 1, 1, 1, 1, 1, 1, 1, 1, 1, 1, 1, 1, 1, 1, 1, 1, 1, 1, 1, 1, 1, 1, 1, 1, 1, 1, 1, 1, 1, 1, 1, 1, 1, 1, 1]
  | .ret => [1, 1, 0, 0, 0, 1, 1, 1, 1, 1, 1, 1, 1, 1, 1, 1, 1, 1, 1, 1, 1, 1, 1, 1, 1, 1, 1, 1, 1, 1, 1, 1, 1, 1, 1, 1, 1, 1, 1, 1, 1, 1, 1, 1, 1, 1, 1, 1, 1, 1, 1, 1, 1, 1, 1, 1, 1, 1, 1, 1, 1, 1, 1, 1, 1, 1, 1, 1, 1, 1, 1, 1, 1, 1, 1, 1, 1, 1, 1, 1, 1, 1, 1, 1, 1, 1, 1, 1, 1, 1, 1, 1, 1, 1, 1, 1, 1, 1, 1, 1, 1, 1, 1, 1, 1, 1, 1]
  | _ => []
noncomputable def impl_MirrorFactor_LO (v2180 : Int) (v2181 : Int) (v2182 : List Nat) : LOr := fun id e L =>
  match id with
  | 4 => .need (normA 0 impl_MirrorFactor_l4_kill e L = some (impl_MirrorFactor_l4_E v2180 v2181 v2182 (gI (vAt e 7)) (gI (vAt e 36)) (gI (cAt L (vAt e 5) 0)) (gI (cAt L (vAt e 5) 1)) (gI (cAt L (vAt e 6) 0)) (gI (cAt L (vAt e 6) 1)) (gRF L (cAt L (vAt e 5) 2)) ((gI (vAt e 39)), (gRF L (vAt e 8)), (gRF L (cAt L (vAt e 6) 2))))) (.call (impl_MirrorFactor_l4_g (gI (vAt e 7)) (gI (vAt e 36)) (gI (cAt L (vAt e 5) 0)) (gI (cAt L (vAt e 5) 1)) (gI (cAt L (vAt e 6) 0)) (gI (cAt L (vAt e 6) 1)) (gRF L (cAt L (vAt e 5) 2)) ((gI (vAt e 39)), (gRF L (vAt e 8)), (gRF L (cAt L (vAt e 6) 2)))) fun x => .leaf (impl_MirrorFactor_l4_X v2180 v2181 v2182 (gI (vAt e 7)) (gI (vAt e 36)) (gI (cAt L (vAt e 5) 0)) (gI (cAt L (vAt e 5) 1)) (gI (cAt L (vAt e 6) 0)) (gI (cAt L (vAt e 6) 1)) (gRF L (cAt L (vAt e 5) 2)) x))
  | 2 => .need (normA 0 impl_MirrorFactor_l2_kill e L = some (impl_MirrorFactor_l2_E v2180 v2181 v2182 (gI (vAt e 7)) (gI (cAt L (vAt e 5) 0)) (gI (cAt L (vAt e 5) 1)) (gI (cAt L (vAt e 6) 0)) (gI (cAt L (vAt e 6) 1)) (gRF L (cAt L (vAt e 5) 2)) ((gI (vAt e 36)), (gRF L (vAt e 8)), (gRF L (cAt L (vAt e 6) 2))))) (.call (impl_MirrorFactor_l2_g v2180 v2181 v2182 (gI (vAt e 7)) (gI (cAt L (vAt e 5) 0)) (gI (cAt L (vAt e 5) 1)) (gI (cAt L (vAt e 6) 0)) (gI (cAt L (vAt e 6) 1)) (gRF L (cAt L (vAt e 5) 2)) ((gI (vAt e 36)), (gRF L (vAt e 8)), (gRF L (cAt L (vAt e 6) 2)))) fun x => .leaf (impl_MirrorFactor_l2_X v2180 v2181 v2182 (gI (vAt e 7)) (gI (cAt L (vAt e 5) 0)) (gI (cAt L (vAt e 5) 1)) (gI (cAt L (vAt e 6) 0)) (gI (cAt L (vAt e 6) 1)) (gRF L (cAt L (vAt e 5) 2)) x))
  | 6 => .need (normA 0 impl_MirrorFactor_l6_kill e L = some (impl_MirrorFactor_l6_E v2180 v2181 v2182 (gI (vAt e 7)) (gF (vAt e 11)) (gI (vAt e 78)) (gI (cAt L (vAt e 5) 0)) (gI (cAt L (vAt e 5) 1)) (gI (cAt L (vAt e 6) 0)) (gI (cAt L (vAt e 6) 1)) (gRF L (cAt L (vAt e 5) 2)) (gRF L (cAt L (vAt e 6) 2)) ((gI (vAt e 79)), (gRF L (vAt e 8))))) (.call (impl_MirrorFactor_l6_g (gI (vAt e 7)) (gF (vAt e 11)) (gI (vAt e 78)) (gI (cAt L (vAt e 5) 0)) (gI (cAt L (vAt e 5) 1)) (gI (cAt L (vAt e 6) 0)) (gI (cAt L (vAt e 6) 1)) (gRF L (cAt L (vAt e 5) 2)) (gRF L (cAt L (vAt e 6) 2)) ((gI (vAt e 79)), (gRF L (vAt e 8)))) fun x => .leaf (impl_MirrorFactor_l6_X v2180 v2181 v2182 (gI (vAt e 7)) (gF (vAt e 11)) (gI (vAt e 78)) (gI (cAt L (vAt e 5) 0)) (gI (cAt L (vAt e 5) 1)) (gI (cAt L (vAt e 6) 0)) (gI (cAt L (vAt e 6) 1)) (gRF L (cAt L (vAt e 5) 2)) (gRF L (cAt L (vAt e 6) 2)) x))
  | 0 => .need (normA 0 impl_MirrorFactor_l0_kill e L = some (impl_MirrorFactor_l0_E v2180 v2181 v2182 (gI (cAt L (vAt e 5) 0)) (gI (cAt L (vAt e 5) 1)) (gI (cAt L (vAt e 6) 0)) (gI (cAt L (vAt e 6) 1)) ((gI (vAt e 30)), (gRF L (cAt L (vAt e 5) 2)), (gRF L (cAt L (vAt e 6) 2))))) (.call (impl_MirrorFactor_l0_g v2180 v2181 v2182 (gI (cAt L (vAt e 5) 0)) (gI (cAt L (vAt e 5) 1)) (gI (cAt L (vAt e 6) 0)) (gI (cAt L (vAt e 6) 1)) ((gI (vAt e 30)), (gRF L (cAt L (vAt e 5) 2)), (gRF L (cAt L (vAt e 6) 2)))) fun x => .sum x (fun b0 => .leaf (impl_MirrorFactor_l0_X v2180 v2181 v2182 (gI (cAt L (vAt e 5) 0)) (gI (cAt L (vAt e 5) 1)) (gI (cAt L (vAt e 6) 0)) (gI (cAt L (vAt e 6) 1)) (.inl b0))) (fun c0 => .leaf (impl_MirrorFactor_l0_X v2180 v2181 v2182 (gI (cAt L (vAt e 5) 0)) (gI (cAt L (vAt e 5) 1)) (gI (cAt L (vAt e 6) 0)) (gI (cAt L (vAt e 6) 1)) (.inr c0))))
  | _ => .fail
noncomputable def impl_MirrorFactor_tab : List (FuncId × DFn × Bool) := [(167, impl_isTall_F, true), (48, impl_newMatrix_F, true), (166, impl_Matrix_column_F, true), (135, impl_dot_F, true), (49, impl_Matrix_at_F, true), (51, impl_Matrix_set_F, false), (168, impl_less_F, false), (169, impl_norm_F, true), (170, impl_Matrix_setColumn_F, false), (102, impl_ValidMatrix_F, true)]
theorem impl_MirrorFactor_hO : OrcOk Try.prog (tabD impl_MirrorFactor_tab) (tabM impl_MirrorFactor_tab) := tabD_cons impl_isTall_Fok (tabD_cons impl_newMatrix_Fok (tabD_cons impl_Matrix_column_Fok (tabD_cons impl_dot_Fok (tabD_cons impl_Matrix_at_Fok (tabD_cons impl_Matrix_set_Fok (tabD_cons impl_less_Fok (tabD_cons impl_norm_Fok (tabD_cons impl_Matrix_setColumn_Fok (tabD_cons impl_ValidMatrix_Fok (tabD_nil _))))))))))
theorem impl_MirrorFactor_l4_be (v2180 : Int) (v2181 : Int) (v2182 : List Nat) (v2834 : Int) (v2835 : Int) (v2837 : Int) (v2838 : Int) (v2839 : Int) (v2840 : Int) (v2842 : List Nat) (s : Int × (List Nat) × (List Nat)) : bodyT TT (tabD impl_MirrorFactor_tab) (tabM impl_MirrorFactor_tab) (impl_MirrorFactor_LO v2180 v2181 v2182) 0 impl_MirrorFactor_l4_kill impl_MirrorFactor_l4_nx (bodyOf Try.f153 4) 4 (impl_MirrorFactor_l4_E v2180 v2181 v2182 v2834 v2835 v2837 v2838 v2839 v2840 v2842 s) = (impl_MirrorFactor_l4_T v2834 v2835 v2837 v2838 v2839 v2840 v2842 s).bind fun y => .leaf (outS (impl_MirrorFactor_l4_E v2180 v2181 v2182 v2834 v2835 v2837 v2838 v2839 v2840 v2842) (impl_MirrorFactor_l4_X v2180 v2181 v2182 v2834 v2835 v2837 v2838 v2839 v2840 v2842) y) := by kernel_rfl
theorem impl_MirrorFactor_l4_ok (v2180 : Int) (v2181 : Int) (v2182 : List Nat) : LSound Try.prog 0 (impl_MirrorFactor_LO v2180 v2181 v2182) 4 (bodyOf Try.f153 4) := by
  intro e L out h
  exact lo_ok (E := impl_MirrorFactor_l4_E v2180 v2181 v2182 (gI (vAt e 7)) (gI (vAt e 36)) (gI (cAt L (vAt e 5) 0)) (gI (cAt L (vAt e 5) 1)) (gI (cAt L (vAt e 6) 0)) (gI (cAt L (vAt e 6) 1)) (gRF L (cAt L (vAt e 5) 2))) (gT := impl_MirrorFactor_l4_T (gI (vAt e 7)) (gI (vAt e 36)) (gI (cAt L (vAt e 5) 0)) (gI (cAt L (vAt e 5) 1)) (gI (cAt L (vAt e 6) 0)) (gI (cAt L (vAt e 6) 1)) (gRF L (cAt L (vAt e 5) 2))) (X := impl_MirrorFactor_l4_X v2180 v2181 v2182 (gI (vAt e 7)) (gI (vAt e 36)) (gI (cAt L (vAt e 5) 0)) (gI (cAt L (vAt e 5) 1)) (gI (cAt L (vAt e 6) 0)) (gI (cAt L (vAt e 6) 1)) (gRF L (cAt L (vAt e 5) 2))) (s0 := ((gI (vAt e 39)), (gRF L (vAt e 8)), (gRF L (cAt L (vAt e 6) 2)))) tok impl_MirrorFactor_hO mixed (LoopsOk_eq (l := []) (by kernel_rfl) trivial) (impl_MirrorFactor_l4_be v2180 v2181 v2182 (gI (vAt e 7)) (gI (vAt e 36)) (gI (cAt L (vAt e 5) 0)) (gI (cAt L (vAt e 5) 1)) (gI (cAt L (vAt e 6) 0)) (gI (cAt L (vAt e 6) 1)) (gRF L (cAt L (vAt e 5) 2))) rfl (by intro x; rfl) h
theorem impl_MirrorFactor_l2_be (v2180 : Int) (v2181 : Int) (v2182 : List Nat) (v2793 : Int) (v2795 : Int) (v2796 : Int) (v2797 : Int) (v2798 : Int) (v2800 : List Nat) (s : Int × (List Nat) × (List Nat)) : bodyT TT (tabD impl_MirrorFactor_tab) (tabM impl_MirrorFactor_tab) (impl_MirrorFactor_LO v2180 v2181 v2182) 0 impl_MirrorFactor_l2_kill impl_MirrorFactor_l2_nx (bodyOf Try.f153 2) 2 (impl_MirrorFactor_l2_E v2180 v2181 v2182 v2793 v2795 v2796 v2797 v2798 v2800 s) = (impl_MirrorFactor_l2_T v2180 v2181 v2182 v2793 v2795 v2796 v2797 v2798 v2800 s).bind fun y => .leaf (outS (impl_MirrorFactor_l2_E v2180 v2181 v2182 v2793 v2795 v2796 v2797 v2798 v2800) (impl_MirrorFactor_l2_X v2180 v2181 v2182 v2793 v2795 v2796 v2797 v2798 v2800) y) := by kernel_rfl
theorem impl_MirrorFactor_l2_ok (v2180 : Int) (v2181 : Int) (v2182 : List Nat) : LSound Try.prog 0 (impl_MirrorFactor_LO v2180 v2181 v2182) 2 (bodyOf Try.f153 2) := by
  intro e L out h
  exact lo_ok (E := impl_MirrorFactor_l2_E v2180 v2181 v2182 (gI (vAt e 7)) (gI (cAt L (vAt e 5) 0)) (gI (cAt L (vAt e 5) 1)) (gI (cAt L (vAt e 6) 0)) (gI (cAt L (vAt e 6) 1)) (gRF L (cAt L (vAt e 5) 2))) (gT := impl_MirrorFactor_l2_T v2180 v2181 v2182 (gI (vAt e 7)) (gI (cAt L (vAt e 5) 0)) (gI (cAt L (vAt e 5) 1)) (gI (cAt L (vAt e 6) 0)) (gI (cAt L (vAt e 6) 1)) (gRF L (cAt L (vAt e 5) 2))) (X := impl_MirrorFactor_l2_X v2180 v2181 v2182 (gI (vAt e 7)) (gI (cAt L (vAt e 5) 0)) (gI (cAt L (vAt e 5) 1)) (gI (cAt L (vAt e 6) 0)) (gI (cAt L (vAt e 6) 1)) (gRF L (cAt L (vAt e 5) 2))) (s0 := ((gI (vAt e 36)), (gRF L (vAt e 8)), (gRF L (cAt L (vAt e 6) 2)))) tok impl_MirrorFactor_hO mixed (LoopsOk_eq (l := [(4, bodyOf Try.f153 4)]) (by kernel_rfl) ⟨impl_MirrorFactor_l4_ok v2180 v2181 v2182, trivial⟩) (impl_MirrorFactor_l2_be v2180 v2181 v2182 (gI (vAt e 7)) (gI (cAt L (vAt e 5) 0)) (gI (cAt L (vAt e 5) 1)) (gI (cAt L (vAt e 6) 0)) (gI (cAt L (vAt e 6) 1)) (gRF L (cAt L (vAt e 5) 2))) rfl (by intro x; rfl) h
theorem impl_MirrorFactor_l6_be (v2180 : Int) (v2181 : Int) (v2182 : List Nat) (v2876 : Int) (v2877 : Nat) (v2878 : Int) (v2880 : Int) (v2881 : Int) (v2882 : Int) (v2883 : Int) (v2885 : List Nat) (v2886 : List Nat) (s : Int × (List Nat)) : bodyT TT (tabD impl_MirrorFactor_tab) (tabM impl_MirrorFactor_tab) (impl_MirrorFactor_LO v2180 v2181 v2182) 0 impl_MirrorFactor_l6_kill impl_MirrorFactor_l6_nx (bodyOf Try.f153 6) 6 (impl_MirrorFactor_l6_E v2180 v2181 v2182 v2876 v2877 v2878 v2880 v2881 v2882 v2883 v2885 v2886 s) = (impl_MirrorFactor_l6_T v2876 v2877 v2878 v2880 v2881 v2882 v2883 v2885 v2886 s).bind fun y => .leaf (outS (impl_MirrorFactor_l6_E v2180 v2181 v2182 v2876 v2877 v2878 v2880 v2881 v2882 v2883 v2885 v2886) (impl_MirrorFactor_l6_X v2180 v2181 v2182 v2876 v2877 v2878 v2880 v2881 v2882 v2883 v2885 v2886) y) := by kernel_rfl
theorem impl_MirrorFactor_l6_ok (v2180 : Int) (v2181 : Int) (v2182 : List Nat) : LSound Try.prog 0 (impl_MirrorFactor_LO v2180 v2181 v2182) 6 (bodyOf Try.f153 6) := by
  intro e L out h
  exact lo_ok (E := impl_MirrorFactor_l6_E v2180 v2181 v2182 (gI (vAt e 7)) (gF (vAt e 11)) (gI (vAt e 78)) (gI (cAt L (vAt e 5) 0)) (gI (cAt L (vAt e 5) 1)) (gI (cAt L (vAt e 6) 0)) (gI (cAt L (vAt e 6) 1)) (gRF L (cAt L (vAt e 5) 2)) (gRF L (cAt L (vAt e 6) 2))) (gT := impl_MirrorFactor_l6_T (gI (vAt e 7)) (gF (vAt e 11)) (gI (vAt e 78)) (gI (cAt L (vAt e 5) 0)) (gI (cAt L (vAt e 5) 1)) (gI (cAt L (vAt e 6) 0)) (gI (cAt L (vAt e 6) 1)) (gRF L (cAt L (vAt e 5) 2)) (gRF L (cAt L (vAt e 6) 2))) (X := impl_MirrorFactor_l6_X v2180 v2181 v2182 (gI (vAt e 7)) (gF (vAt e 11)) (gI (vAt e 78)) (gI (cAt L (vAt e 5) 0)) (gI (cAt L (vAt e 5) 1)) (gI (cAt L (vAt e 6) 0)) (gI (cAt L (vAt e 6) 1)) (gRF L (cAt L (vAt e 5) 2)) (gRF L (cAt L (vAt e 6) 2))) (s0 := ((gI (vAt e 79)), (gRF L (vAt e 8)))) tok impl_MirrorFactor_hO mixed (LoopsOk_eq (l := []) (by kernel_rfl) trivial) (impl_MirrorFactor_l6_be v2180 v2181 v2182 (gI (vAt e 7)) (gF (vAt e 11)) (gI (vAt e 78)) (gI (cAt L (vAt e 5) 0)) (gI (cAt L (vAt e 5) 1)) (gI (cAt L (vAt e 6) 0)) (gI (cAt L (vAt e 6) 1)) (gRF L (cAt L (vAt e 5) 2)) (gRF L (cAt L (vAt e 6) 2))) rfl (by intro x; rfl) h
theorem impl_MirrorFactor_l0_be (v2180 : Int) (v2181 : Int) (v2182 : List Nat) (v2670 : Int) (v2671 : Int) (v2672 : Int) (v2673 : Int) (s : Int × (List Nat) × (List Nat)) : bodyT TT (tabD impl_MirrorFactor_tab) (tabM impl_MirrorFactor_tab) (impl_MirrorFactor_LO v2180 v2181 v2182) 0 impl_MirrorFactor_l0_kill impl_MirrorFactor_l0_nx (bodyOf Try.f153 0) 0 (impl_MirrorFactor_l0_E v2180 v2181 v2182 v2670 v2671 v2672 v2673 s) = (impl_MirrorFactor_l0_T v2180 v2181 v2182 v2670 v2671 v2672 v2673 s).bind fun y => .leaf (outS (impl_MirrorFactor_l0_E v2180 v2181 v2182 v2670 v2671 v2672 v2673) (impl_MirrorFactor_l0_X v2180 v2181 v2182 v2670 v2671 v2672 v2673) y) := by kernel_rfl
theorem impl_MirrorFactor_l0_ok (v2180 : Int) (v2181 : Int) (v2182 : List Nat) : LSound Try.prog 0 (impl_MirrorFactor_LO v2180 v2181 v2182) 0 (bodyOf Try.f153 0) := by
  intro e L out h
  exact lo_ok (E := impl_MirrorFactor_l0_E v2180 v2181 v2182 (gI (cAt L (vAt e 5) 0)) (gI (cAt L (vAt e 5) 1)) (gI (cAt L (vAt e 6) 0)) (gI (cAt L (vAt e 6) 1))) (gT := impl_MirrorFactor_l0_T v2180 v2181 v2182 (gI (cAt L (vAt e 5) 0)) (gI (cAt L (vAt e 5) 1)) (gI (cAt L (vAt e 6) 0)) (gI (cAt L (vAt e 6) 1))) (X := impl_MirrorFactor_l0_X v2180 v2181 v2182 (gI (cAt L (vAt e 5) 0)) (gI (cAt L (vAt e 5) 1)) (gI (cAt L (vAt e 6) 0)) (gI (cAt L (vAt e 6) 1))) (s0 := ((gI (vAt e 30)), (gRF L (cAt L (vAt e 5) 2)), (gRF L (cAt L (vAt e 6) 2)))) tok impl_MirrorFactor_hO mixed (LoopsOk_eq (l := [(2, bodyOf Try.f153 2), (6, bodyOf Try.f153 6)]) (by kernel_rfl) ⟨impl_MirrorFactor_l2_ok v2180 v2181 v2182, impl_MirrorFactor_l6_ok v2180 v2181 v2182, trivial⟩) (impl_MirrorFactor_l0_be v2180 v2181 v2182 (gI (cAt L (vAt e 5) 0)) (gI (cAt L (vAt e 5) 1)) (gI (cAt L (vAt e 6) 0)) (gI (cAt L (vAt e 6) 1))) rfl (by intro x; (cases x with | inl b => rfl | inr x => exact rfl)) h
noncomputable def impl_MirrorFactor_T (v2180 : Int) (v2181 : Int) (v2182 : List Nat) : Tree ((Unit) ⊕ (Int × Int × Int × Int × (List Nat) × (List Nat))) :=
  (.call (impl_isTall_g v2180 v2181 v2182) fun v2187 =>
  (.br (!v2187) (
   .leaf (.inl ())
  ) (
   (.call (impl_newMatrix_g v2180 v2181) fun v2188 =>
   (.call (impl_newMatrix_g v2181 v2181) fun v2189 =>
   (.need (some (impl_MirrorFactor_l0_E v2180 v2181 v2182 v2188.1 v2188.2 v2189.1 v2189.2 ((0 : Int), List.replicate (Int.toNat (IntKind.i64.wrap (v2180 * v2181))) (0 : Nat), List.replicate (Int.toNat (IntKind.i64.wrap (v2181 * v2181))) (0 : Nat))) = some (impl_MirrorFactor_l0_E v2180 v2181 v2182 v2188.1 v2188.2 v2189.1 v2189.2 ((0 : Int), List.replicate (Int.toNat (IntKind.i64.wrap (v2180 * v2181))) (0 : Nat), List.replicate (Int.toNat (IntKind.i64.wrap (v2181 * v2181))) (0 : Nat)))) <|
   (.call (impl_MirrorFactor_l0_g v2180 v2181 v2182 v2188.1 v2188.2 v2189.1 v2189.2 ((0 : Int), List.replicate (Int.toNat (IntKind.i64.wrap (v2180 * v2181))) (0 : Nat), List.replicate (Int.toNat (IntKind.i64.wrap (v2181 * v2181))) (0 : Nat))) fun v2889 =>
   (.sum v2889 (fun v2890 =>
    .leaf (.inl ())
   ) (fun v2891 =>
    (.call (impl_ValidMatrix_g v2188.1 v2188.2 v2891.1) fun v2892 =>
    (.br (!v2892) (
     .leaf (.inl ())
    ) (
     (.call (impl_ValidMatrix_g v2189.1 v2189.2 v2891.2) fun v2893 =>
     (.br (!v2893) (
      .leaf (.inl ())
     ) (
      .leaf (.inr (v2188.1, v2188.2, v2189.1, v2189.2, v2891.1, v2891.2))
     )))
    )))
   ))))))
  )))

noncomputable def impl_MirrorFactor_g (v2180 : Int) (v2181 : Int) (v2182 : List Nat) : Option ((Unit) ⊕ (Int × Int × Int × Int × (List Nat) × (List Nat))) := (impl_MirrorFactor_T v2180 v2181 v2182).run
def impl_MirrorFactor_enc (v2180 : Int) (v2181 : Int) (v2182 : List Nat) (y : (Unit) ⊕ (Int × Int × Int × Int × (List Nat) × (List Nat))) : Rs := (match y with | .inl y => (.tup [.agg [.int .i64 (0 : Int), .int .i64 (0 : Int), .nilslc], .agg [.int .i64 (0 : Int), .int .i64 (0 : Int), .nilslc], .lit false], []) | .inr y => (.tup [.agg [.int .i64 y.1, .int .i64 y.2.1, .own 0 0 ((y.2.2.2.2.1).length)], .agg [.int .i64 y.2.2.1, .int .i64 y.2.2.2.1, .own 1 0 ((y.2.2.2.2.2).length)], .lit true], [.row (.f32 y.2.2.2.2.1) 0, .row (.f32 y.2.2.2.2.2) 0]))
theorem impl_MirrorFactor_den (v2180 : Int) (v2181 : Int) (v2182 : List Nat) : (den TT (tabD impl_MirrorFactor_tab) (tabM impl_MirrorFactor_tab) (impl_MirrorFactor_LO v2180 v2181 v2182) (codeOf Try.f153) ([.agg [.int .i64 v2180, .int .i64 v2181, .bslc (BR.root 0) (.f32 v2182)]] ++ List.replicate (Try.f153.ntmps - ([.agg [.int .i64 v2180, .int .i64 v2181, .bslc (BR.root 0) (.f32 v2182)]] : List DV).length) .undef) []).bind (retD TT Try.f153.results.toList 0) = (impl_MirrorFactor_T v2180 v2181 v2182).bind fun y => .leaf (impl_MirrorFactor_enc v2180 v2181 v2182 y) := by kernel_rfl
theorem impl_MirrorFactor_fn (v2180 : Int) (v2181 : Int) (v2182 : List Nat) (F : Fr) (hm : F.ids.length = 0) (h0 : St F [] F.H0) (hA : DVs.Ok F [] [.agg [.int .i64 v2180, .int .i64 v2181, .bslc (BR.root 0) (.f32 v2182)]]) {y : (Unit) ⊕ (Int × Int × Int × Int × (List Nat) × (List Nat))} (hy : impl_MirrorFactor_g v2180 v2181 v2182 = some y) : ∃ H', FnOk Try.prog 153 (DVs.av F [.agg [.int .i64 v2180, .int .i64 v2181, .bslc (BR.root 0) (.f32 v2182)]]) F.H0 ((impl_MirrorFactor_enc v2180 v2181 v2182 y).1.av F) H' ∧ St F (impl_MirrorFactor_enc v2180 v2181 v2182 y).2 H' ∧ (impl_MirrorFactor_enc v2180 v2181 v2182 y).1.Ok F (impl_MirrorFactor_enc v2180 v2181 v2182 y).2 :=
  fn_fin tok impl_MirrorFactor_hO mixed Try.func153 Try.call153 (by kernel_rfl) (LoopsOk_eq (l := [(0, bodyOf Try.f153 0)]) (by kernel_rfl) ⟨impl_MirrorFactor_l0_ok v2180 v2181 v2182, trivial⟩) (impl_MirrorFactor_den v2180 v2181 v2182) hy hm h0 hA
noncomputable def impl_MirrorFactor_F : DFn := fun args L =>
  match args with
  | [.agg [.int .i64 v2180, .int .i64 v2181, a1]] =>
    optT (rowF32 L a1) fun v2182 =>
    .call (impl_MirrorFactor_g v2180 v2181 v2182) fun y => .sum y (fun y0 => .leaf (.tup [.agg [.int .i64 (0 : Int), .int .i64 (0 : Int), .nilslc], .agg [.int .i64 (0 : Int), .int .i64 (0 : Int), .nilslc], .lit false], L)) (fun z0 => .leaf (.tup [.agg [.int .i64 z0.1, .int .i64 z0.2.1, .own (L.length + 0) 0 ((z0.2.2.2.2.1).length)], .agg [.int .i64 z0.2.2.1, .int .i64 z0.2.2.2.1, .own (L.length + 1) 0 ((z0.2.2.2.2.2).length)], .lit true], L ++ [.row (.f32 z0.2.2.2.2.1) 0, .row (.f32 z0.2.2.2.2.2) 0]))
  | _ => .fail
theorem impl_MirrorFactor_Fok : COk Try.prog 153 impl_MirrorFactor_F true := by
  intro F L H args r L' hs ha hr
  unfold impl_MirrorFactor_F at hr
  split at hr
  · rename_i v2180 v2181 a1
    obtain ⟨v2182, hv2182, hr⟩ := optT_run hr
    simp only [Tree.run] at hr
    obtain ⟨y, hy, hr⟩ := Option.bind_eq_some_iff.1 hr
    cases y with
    | inl y =>
      simp only [Tree.run, Option.some.injEq, Prod.mk.injEq] at hr
      obtain ⟨rfl, rfl⟩ := hr
      exact call_ok0 hs (fun k => (([a1.av F] : List AV)[k]?).getD .top) [.agg [.int .i64 v2180, .int .i64 v2181, a1]] [.agg [.int .i64 v2180, .int .i64 v2181, .bslc (BR.root 0) (.f32 v2182)]] (fun F' h0 hi hρ => ⟨by simp [DVs.av, DV.av, BR.av, hρ], impl_MirrorFactor_fn v2180 v2181 v2182 F' (by rw [hi]; rfl) (st_nil hi) ⟨⟨trivial, trivial, bslc_ok hi (by rw [h0, hρ]; exact rowF32_ok hs (DVs.okAt (DVs.okAt ha 0 rfl) 2 rfl) hv2182), trivial⟩, trivial⟩ hy⟩) rfl
    | inr y =>
      simp only [Tree.run, Option.some.injEq, Prod.mk.injEq] at hr
      obtain ⟨rfl, rfl⟩ := hr
      exact call_ok1 hs (fun k => (([a1.av F] : List AV)[k]?).getD .top) [.agg [.int .i64 v2180, .int .i64 v2181, a1]] [.agg [.int .i64 v2180, .int .i64 v2181, .bslc (BR.root 0) (.f32 v2182)]] (fun F' h0 hi hρ => ⟨by simp [DVs.av, DV.av, BR.av, hρ], impl_MirrorFactor_fn v2180 v2181 v2182 F' (by rw [hi]; rfl) (st_nil hi) ⟨⟨trivial, trivial, bslc_ok hi (by rw [h0, hρ]; exact rowF32_ok hs (DVs.okAt (DVs.okAt ha 0 rfl) 2 rfl) hv2182), trivial⟩, trivial⟩ hy⟩) rfl rfl
  · cases hr
/-! (impl.Matrix).flip$1 -/
noncomputable def impl_Matrix_flip_1_LO (v2913 : Int) (v2914 : Int) (v2915 : Int) (v2916 : Int) (v2917 : List Nat) : LOr := fun id e L =>
  match id with
  | _ => .fail
noncomputable def impl_Matrix_flip_1_tab : List (FuncId × DFn × Bool) := [(49, impl_Matrix_at_F, true)]
theorem impl_Matrix_flip_1_hO : OrcOk Try.prog (tabD impl_Matrix_flip_1_tab) (tabM impl_Matrix_flip_1_tab) := tabD_cons impl_Matrix_at_Fok (tabD_nil _)
noncomputable def impl_Matrix_flip_1_T (v2913 : Int) (v2914 : Int) (v2916 : Int) (v2917 : List Nat) : Tree (Nat) :=
  (.call (impl_Matrix_at_g v2916 v2917 v2914 v2913) fun v2918 =>
  .leaf v2918)

noncomputable def impl_Matrix_flip_1_g (v2913 : Int) (v2914 : Int) (v2916 : Int) (v2917 : List Nat) : Option (Nat) := (impl_Matrix_flip_1_T v2913 v2914 v2916 v2917).run
def impl_Matrix_flip_1_enc (v2913 : Int) (v2914 : Int) (v2915 : Int) (v2916 : Int) (v2917 : List Nat) (y : Nat) : Rs := (.flt .f32 y, [])
theorem impl_Matrix_flip_1_den (v2913 : Int) (v2914 : Int) (v2915 : Int) (v2916 : Int) (v2917 : List Nat) : (den TT (tabD impl_Matrix_flip_1_tab) (tabM impl_Matrix_flip_1_tab) (impl_Matrix_flip_1_LO v2913 v2914 v2915 v2916 v2917) (codeOf Try.f174) ([.int .i64 v2913, .int .i64 v2914, .bptr (BR.root 0) [.int .i64 v2915, .int .i64 v2916, .bslc (BR.root 1) (.f32 v2917)]] ++ List.replicate (Try.f174.ntmps - ([.int .i64 v2913, .int .i64 v2914, .bptr (BR.root 0) [.int .i64 v2915, .int .i64 v2916, .bslc (BR.root 1) (.f32 v2917)]] : List DV).length) .undef) []).bind (retD TT Try.f174.results.toList 0) = (impl_Matrix_flip_1_T v2913 v2914 v2916 v2917).bind fun y => .leaf (impl_Matrix_flip_1_enc v2913 v2914 v2915 v2916 v2917 y) := by kernel_rfl
theorem impl_Matrix_flip_1_fn (v2913 : Int) (v2914 : Int) (v2915 : Int) (v2916 : Int) (v2917 : List Nat) (F : Fr) (hm : F.ids.length = 0) (h0 : St F [] F.H0) (hA : DVs.Ok F [] [.int .i64 v2913, .int .i64 v2914, .bptr (BR.root 0) [.int .i64 v2915, .int .i64 v2916, .bslc (BR.root 1) (.f32 v2917)]]) {y : Nat} (hy : impl_Matrix_flip_1_g v2913 v2914 v2916 v2917 = some y) : ∃ H', FnOk Try.prog 174 (DVs.av F [.int .i64 v2913, .int .i64 v2914, .bptr (BR.root 0) [.int .i64 v2915, .int .i64 v2916, .bslc (BR.root 1) (.f32 v2917)]]) F.H0 ((impl_Matrix_flip_1_enc v2913 v2914 v2915 v2916 v2917 y).1.av F) H' ∧ St F (impl_Matrix_flip_1_enc v2913 v2914 v2915 v2916 v2917 y).2 H' ∧ (impl_Matrix_flip_1_enc v2913 v2914 v2915 v2916 v2917 y).1.Ok F (impl_Matrix_flip_1_enc v2913 v2914 v2915 v2916 v2917 y).2 :=
  fn_fin tok impl_Matrix_flip_1_hO mixed Try.func174 Try.call174 (by kernel_rfl) (LoopsOk_eq (l := []) (by kernel_rfl) trivial) (impl_Matrix_flip_1_den v2913 v2914 v2915 v2916 v2917) hy hm h0 hA
noncomputable def impl_Matrix_flip_1_F : DFn := fun args L =>
  match args with
  | [.int .i64 v2913, .int .i64 v2914, a1] =>
    optT (cellsOf L 3 a1) fun cs0 =>
    (match cs0 with
    | [.int .i64 v2915, .int .i64 v2916, a2] =>
    optT (rowF32 L a2) fun v2917 =>
    .call (impl_Matrix_flip_1_g v2913 v2914 v2916 v2917) fun y => .leaf (.flt .f32 y, L)
    | _ => .fail)
  | _ => .fail
theorem impl_Matrix_flip_1_Fok : COk Try.prog 174 impl_Matrix_flip_1_F true := by
  intro F L H args r L' hs ha hr
  unfold impl_Matrix_flip_1_F at hr
  split at hr
  · rename_i v2913 v2914 a1
    obtain ⟨cs0, hcp0, hr⟩ := optT_run hr
    split at hr
    · rename_i v2915 v2916 a2
      obtain ⟨v2917, hv2917, hr⟩ := optT_run hr
      simp only [Tree.run] at hr
      obtain ⟨y, hy, hr⟩ := Option.bind_eq_some_iff.1 hr
      simp only [Tree.run, Option.some.injEq, Prod.mk.injEq] at hr
      obtain ⟨rfl, rfl⟩ := hr
      exact call_ok0 hs (fun k => (([a1.av F, a2.av F] : List AV)[k]?).getD .top) [.int .i64 v2913, .int .i64 v2914, a1] [.int .i64 v2913, .int .i64 v2914, .bptr (BR.root 0) [.int .i64 v2915, .int .i64 v2916, .bslc (BR.root 1) (.f32 v2917)]] (fun F' h0 hi hρ => ⟨by simp [DVs.av, DV.av, BR.av, hρ], impl_Matrix_flip_1_fn v2913 v2914 v2915 v2916 v2917 F' (by rw [hi]; rfl) (st_nil hi) ⟨trivial, trivial, bptr_ok hi (by rw [h0]; simpa [DVs.av, DV.av, BR.av, hρ] using (cellsOf_ok hs (DVs.okAt ha 2 rfl) hcp0).1) ⟨trivial, trivial, bslc_ok hi (by rw [h0, hρ]; exact rowF32_ok hs (DVs.okAt (cellsOf_ok hs (DVs.okAt ha 2 rfl) hcp0).2 2 rfl) hv2917), trivial⟩, trivial⟩ hy⟩) rfl
    · cases hr
  · cases hr
/-! impl.made -/
noncomputable def impl_made_i1_l2_T (v2901 : Int) (v2903 : Int) (v2904 : List Nat) (v2980 : Int) (v2982 : Int) (v2983 : Int) (s : Int × (List Nat)) : Tree ((Int × (List Nat)) ⊕ ((List Nat))) :=
  (.br (decide (s.1 < v2901)) (
   (.call (impl_Matrix_flip_1_g v2980 s.1 v2903 v2904) fun v2985 =>
   (.call (impl_Matrix_set_g v2983 s.2 v2980 s.1) fun v2986 =>
   (.grd (decide ((List.set s.2 (Int.toNat (IntKind.i64.wrap ((IntKind.i64.wrap (v2980 * v2983)) + s.1))) v2985).length = s.2.length)) <|
   .leaf (.inl (IntKind.i64.wrap (s.1 + (1 : Int)), List.set s.2 (Int.toNat (IntKind.i64.wrap ((IntKind.i64.wrap (v2980 * v2983)) + s.1))) v2985)))))
  ) (
   .leaf (.inr s.2)
  ))

noncomputable def impl_made_i1_l2_g (v2901 : Int) (v2903 : Int) (v2904 : List Nat) (v2980 : Int) (v2982 : Int) (v2983 : Int) (s0 : Int × (List Nat)) : Option ((List Nat)) := whileM (fun s => (impl_made_i1_l2_T v2901 v2903 v2904 v2980 v2982 v2983 s).run) s0
def impl_made_i1_l2_E (v2900 : Int) (v2901 : Int) (v2902 : Int) (v2903 : Int) (v2904 : List Nat) (v2980 : Int) (v2982 : Int) (v2983 : Int) (s : Int × (List Nat)) : Sd := ([.top, .int .i64 v2901, .fn 174 [.bptr (BR.root 0) [.int .i64 v2902, .int .i64 v2903, .bslc (BR.root 1) (.f32 v2904)]], .top, .top, .top, .ptr 0 (0 : Nat) 0 (3 : Nat), .ptr 1 (0 : Nat) 0 (3 : Nat), .int .i64 v2980, .top, .top, .top, .top, .int .i64 v2900, .int .i64 v2980, .top, .top, .int .i64 v2901, .int .i64 s.1, .top, .top, .top, .top, .top, .top, .top, .top, .top, .top, .top, .top, .top], [.gen [.int .i64 (0 : Int), .int .i64 (0 : Int), .nilslc] false 0, .gen [.int .i64 v2982, .int .i64 v2983, .own 2 0 ((s.2).length)] false 0, .row (.f32 s.2) 0])
def impl_made_i1_l2_X (v2900 : Int) (v2901 : Int) (v2902 : Int) (v2903 : Int) (v2904 : List Nat) (v2980 : Int) (v2982 : Int) (v2983 : Int) (x : (List Nat)) : Out := (.normal, [.top, .int .i64 v2901, .fn 174 [.bptr (BR.root 0) [.int .i64 v2902, .int .i64 v2903, .bslc (BR.root 1) (.f32 v2904)]], .top, .top, .top, .ptr 0 (0 : Nat) 0 (3 : Nat), .ptr 1 (0 : Nat) 0 (3 : Nat), .top, .top, .top, .top, .top, .int .i64 v2900, .int .i64 v2980, .top, .top, .top, .top, .top, .top, .top, .top, .top, .top, .top, .top, .top, .top, .top, .top, .top], [.gen [.int .i64 (0 : Int), .int .i64 (0 : Int), .nilslc] false 0, .gen [.int .i64 v2982, .int .i64 v2983, .own 2 0 ((x).length)] false 0, .row (.f32 x) 0])
def impl_made_i1_l2_kill : List Nat := [1, 0, 0, 1, 1, 1, 0, 0, 0, 1, 1, 1, 1, 0, 0, 1, 1, 0, 0, 1, 1, 1, 1, 1, 1, 1, 1, 1, 1, 1, 1, 1]
def impl_made_i1_l2_nx : Exit → List Nat
  | .exit 0 => [1, 1, 1, 1, 1, 1, 0, 0, 1, 1, 1, 1, 1, 1, 1, 1, 1, 1, 1, 1, 1, 1, 1, 1, 1, 1, 1, 1, 1, 1, 1, 1]
  | .exit 1 => [1, 0, 0, 1, 1, 1, 0, 0, 1, 1, 1, 1, 1, 0, 0, 1, 1, 1, 1, 1, 1, 1, 1, 1, 1, 1, 1, 1, 1, 1, 1, 1]
  | .exit 2 => [1, 0, 0, 1, 1, 1, 0, 0, 1, 1, 1, 1, 1, 0, 0, 1, 1, 1, 1, 1, 1, 1, 1, 1, 1, 1, 1, 1, 1, 1, 1, 1]
  | .ret => [1, 1, 1, 1, 1, 1, 0, 1, 1, 1, 1, 1, 1, 1, 1, 1, 1, 1, 1, 1, 1, 1, 1, 1, 1, 1, 1, 1, 1, 1, 1, 1]
  | _ => []
noncomputable def impl_made_i1_l0_T (v2900 : Int) (v2901 : Int) (v2902 : Int) (v2903 : Int) (v2904 : List Nat) (v2963 : Int) (v2964 : Int) (s : Int × (List Nat)) : Tree ((Int × (List Nat)) ⊕ ((List Nat))) :=
  (.br (decide (s.1 < v2900)) (
   (.need (some (impl_made_i1_l2_E v2900 v2901 v2902 v2903 v2904 s.1 v2963 v2964 ((0 : Int), s.2)) = some (impl_made_i1_l2_E v2900 v2901 v2902 v2903 v2904 s.1 v2963 v2964 ((0 : Int), s.2))) <|
   (.call (impl_made_i1_l2_g v2901 v2903 v2904 s.1 v2963 v2964 ((0 : Int), s.2)) fun v2987 =>
   .leaf (.inl (IntKind.i64.wrap (s.1 + (1 : Int)), v2987))))
  ) (
   .leaf (.inr s.2)
  ))

noncomputable def impl_made_i1_l0_g (v2900 : Int) (v2901 : Int) (v2902 : Int) (v2903 : Int) (v2904 : List Nat) (v2963 : Int) (v2964 : Int) (s0 : Int × (List Nat)) : Option ((List Nat)) := whileM (fun s => (impl_made_i1_l0_T v2900 v2901 v2902 v2903 v2904 v2963 v2964 s).run) s0
def impl_made_i1_l0_E (v2900 : Int) (v2901 : Int) (v2902 : Int) (v2903 : Int) (v2904 : List Nat) (v2963 : Int) (v2964 : Int) (s : Int × (List Nat)) : Sd := ([.top, .int .i64 v2901, .fn 174 [.bptr (BR.root 0) [.int .i64 v2902, .int .i64 v2903, .bslc (BR.root 1) (.f32 v2904)]], .top, .top, .top, .ptr 0 (0 : Nat) 0 (3 : Nat), .ptr 1 (0 : Nat) 0 (3 : Nat), .top, .top, .top, .top, .top, .int .i64 v2900, .int .i64 s.1, .top, .top, .top, .top, .top, .top, .top, .top, .top, .top, .top, .top, .top, .top, .top, .top, .top], [.gen [.int .i64 (0 : Int), .int .i64 (0 : Int), .nilslc] false 0, .gen [.int .i64 v2963, .int .i64 v2964, .own 2 0 ((s.2).length)] false 0, .row (.f32 s.2) 0])
def impl_made_i1_l0_X (v2900 : Int) (v2901 : Int) (v2902 : Int) (v2903 : Int) (v2904 : List Nat) (v2963 : Int) (v2964 : Int) (x : (List Nat)) : Out := (.normal, [.top, .top, .top, .top, .top, .top, .ptr 0 (0 : Nat) 0 (3 : Nat), .ptr 1 (0 : Nat) 0 (3 : Nat), .top, .top, .top, .top, .top, .top, .top, .top, .top, .top, .top, .top, .top, .top, .top, .top, .top, .top, .top, .top, .top, .top, .top, .top], [.gen [.int .i64 (0 : Int), .int .i64 (0 : Int), .nilslc] false 0, .gen [.int .i64 v2963, .int .i64 v2964, .own 2 0 ((x).length)] false 0, .row (.f32 x) 0])
def impl_made_i1_l0_kill : List Nat := [1, 0, 0, 1, 1, 1, 0, 0, 1, 1, 1, 1, 1, 0, 0, 1, 1, 1, 1, 1, 1, 1, 1, 1, 1, 1, 1, 1, 1, 1, 1, 1]
def impl_made_i1_l0_nx : Exit → List Nat
  | .exit 0 => [1, 1, 1, 1, 1, 1, 0, 0, 1, 1, 1, 1, 1, 1, 1, 1, 1, 1, 1, 1, 1, 1, 1, 1, 1, 1, 1, 1, 1, 1, 1, 1]
  | .ret => [1, 1, 1, 1, 1, 1, 0, 1, 1, 1, 1, 1, 1, 1, 1, 1, 1, 1, 1, 1, 1, 1, 1, 1, 1, 1, 1, 1, 1, 1, 1, 1]
  | _ => []
noncomputable def impl_made_i1_LO (v2900 : Int) (v2901 : Int) (v2902 : Int) (v2903 : Int) (v2904 : List Nat) : LOr := fun id e L =>
  match id with
  | 2 => .need (normA 0 impl_made_i1_l2_kill e L = some (impl_made_i1_l2_E v2900 v2901 v2902 v2903 v2904 (gI (vAt e 8)) (gI (cAt L (vAt e 7) 0)) (gI (cAt L (vAt e 7) 1)) ((gI (vAt e 18)), (gRF L (cAt L (vAt e 7) 2))))) (.call (impl_made_i1_l2_g v2901 v2903 v2904 (gI (vAt e 8)) (gI (cAt L (vAt e 7) 0)) (gI (cAt L (vAt e 7) 1)) ((gI (vAt e 18)), (gRF L (cAt L (vAt e 7) 2)))) fun x => .leaf (impl_made_i1_l2_X v2900 v2901 v2902 v2903 v2904 (gI (vAt e 8)) (gI (cAt L (vAt e 7) 0)) (gI (cAt L (vAt e 7) 1)) x))
  | 0 => .need (normA 0 impl_made_i1_l0_kill e L = some (impl_made_i1_l0_E v2900 v2901 v2902 v2903 v2904 (gI (cAt L (vAt e 7) 0)) (gI (cAt L (vAt e 7) 1)) ((gI (vAt e 14)), (gRF L (cAt L (vAt e 7) 2))))) (.call (impl_made_i1_l0_g v2900 v2901 v2902 v2903 v2904 (gI (cAt L (vAt e 7) 0)) (gI (cAt L (vAt e 7) 1)) ((gI (vAt e 14)), (gRF L (cAt L (vAt e 7) 2)))) fun x => .leaf (impl_made_i1_l0_X v2900 v2901 v2902 v2903 v2904 (gI (cAt L (vAt e 7) 0)) (gI (cAt L (vAt e 7) 1)) x))
  | _ => .fail
noncomputable def impl_made_i1_tab : List (FuncId × DFn × Bool) := [(48, impl_newMatrix_F, true), (174, impl_Matrix_flip_1_F, true), (51, impl_Matrix_set_F, false)]
theorem impl_made_i1_hO : OrcOk Try.prog (tabD impl_made_i1_tab) (tabM impl_made_i1_tab) := tabD_cons impl_newMatrix_Fok (tabD_cons impl_Matrix_flip_1_Fok (tabD_cons impl_Matrix_set_Fok (tabD_nil _)))
theorem impl_made_i1_l2_be (v2900 : Int) (v2901 : Int) (v2902 : Int) (v2903 : Int) (v2904 : List Nat) (v2980 : Int) (v2982 : Int) (v2983 : Int) (s : Int × (List Nat)) : bodyT TT (tabD impl_made_i1_tab) (tabM impl_made_i1_tab) (impl_made_i1_LO v2900 v2901 v2902 v2903 v2904) 0 impl_made_i1_l2_kill impl_made_i1_l2_nx (bodyOf Try.f96 2) 2 (impl_made_i1_l2_E v2900 v2901 v2902 v2903 v2904 v2980 v2982 v2983 s) = (impl_made_i1_l2_T v2901 v2903 v2904 v2980 v2982 v2983 s).bind fun y => .leaf (outS (impl_made_i1_l2_E v2900 v2901 v2902 v2903 v2904 v2980 v2982 v2983) (impl_made_i1_l2_X v2900 v2901 v2902 v2903 v2904 v2980 v2982 v2983) y) := by kernel_rfl
theorem impl_made_i1_l2_ok (v2900 : Int) (v2901 : Int) (v2902 : Int) (v2903 : Int) (v2904 : List Nat) : LSound Try.prog 0 (impl_made_i1_LO v2900 v2901 v2902 v2903 v2904) 2 (bodyOf Try.f96 2) := by
  intro e L out h
  exact lo_ok (E := impl_made_i1_l2_E v2900 v2901 v2902 v2903 v2904 (gI (vAt e 8)) (gI (cAt L (vAt e 7) 0)) (gI (cAt L (vAt e 7) 1))) (gT := impl_made_i1_l2_T v2901 v2903 v2904 (gI (vAt e 8)) (gI (cAt L (vAt e 7) 0)) (gI (cAt L (vAt e 7) 1))) (X := impl_made_i1_l2_X v2900 v2901 v2902 v2903 v2904 (gI (vAt e 8)) (gI (cAt L (vAt e 7) 0)) (gI (cAt L (vAt e 7) 1))) (s0 := ((gI (vAt e 18)), (gRF L (cAt L (vAt e 7) 2)))) tok impl_made_i1_hO mixed (LoopsOk_eq (l := []) (by kernel_rfl) trivial) (impl_made_i1_l2_be v2900 v2901 v2902 v2903 v2904 (gI (vAt e 8)) (gI (cAt L (vAt e 7) 0)) (gI (cAt L (vAt e 7) 1))) rfl (by intro x; rfl) h
theorem impl_made_i1_l0_be (v2900 : Int) (v2901 : Int) (v2902 : Int) (v2903 : Int) (v2904 : List Nat) (v2963 : Int) (v2964 : Int) (s : Int × (List Nat)) : bodyT TT (tabD impl_made_i1_tab) (tabM impl_made_i1_tab) (impl_made_i1_LO v2900 v2901 v2902 v2903 v2904) 0 impl_made_i1_l0_kill impl_made_i1_l0_nx (bodyOf Try.f96 0) 0 (impl_made_i1_l0_E v2900 v2901 v2902 v2903 v2904 v2963 v2964 s) = (impl_made_i1_l0_T v2900 v2901 v2902 v2903 v2904 v2963 v2964 s).bind fun y => .leaf (outS (impl_made_i1_l0_E v2900 v2901 v2902 v2903 v2904 v2963 v2964) (impl_made_i1_l0_X v2900 v2901 v2902 v2903 v2904 v2963 v2964) y) := by kernel_rfl
theorem impl_made_i1_l0_ok (v2900 : Int) (v2901 : Int) (v2902 : Int) (v2903 : Int) (v2904 : List Nat) : LSound Try.prog 0 (impl_made_i1_LO v2900 v2901 v2902 v2903 v2904) 0 (bodyOf Try.f96 0) := by
  intro e L out h
  exact lo_ok (E := impl_made_i1_l0_E v2900 v2901 v2902 v2903 v2904 (gI (cAt L (vAt e 7) 0)) (gI (cAt L (vAt e 7) 1))) (gT := impl_made_i1_l0_T v2900 v2901 v2902 v2903 v2904 (gI (cAt L (vAt e 7) 0)) (gI (cAt L (vAt e 7) 1))) (X := impl_made_i1_l0_X v2900 v2901 v2902 v2903 v2904 (gI (cAt L (vAt e 7) 0)) (gI (cAt L (vAt e 7) 1))) (s0 := ((gI (vAt e 14)), (gRF L (cAt L (vAt e 7) 2)))) tok impl_made_i1_hO mixed (LoopsOk_eq (l := [(2, bodyOf Try.f96 2)]) (by kernel_rfl) ⟨impl_made_i1_l2_ok v2900 v2901 v2902 v2903 v2904, trivial⟩) (impl_made_i1_l0_be v2900 v2901 v2902 v2903 v2904 (gI (cAt L (vAt e 7) 0)) (gI (cAt L (vAt e 7) 1))) rfl (by intro x; rfl) h
noncomputable def impl_made_i1_T (v2900 : Int) (v2901 : Int) (v2902 : Int) (v2903 : Int) (v2904 : List Nat) : Tree (Int × Int × (List Nat)) :=
  (.call (impl_newMatrix_g v2900 v2901) fun v2905 =>
  (.need (some (impl_made_i1_l0_E v2900 v2901 v2902 v2903 v2904 v2905.1 v2905.2 ((0 : Int), List.replicate (Int.toNat (IntKind.i64.wrap (v2900 * v2901))) (0 : Nat))) = some (impl_made_i1_l0_E v2900 v2901 v2902 v2903 v2904 v2905.1 v2905.2 ((0 : Int), List.replicate (Int.toNat (IntKind.i64.wrap (v2900 * v2901))) (0 : Nat)))) <|
  (.call (impl_made_i1_l0_g v2900 v2901 v2902 v2903 v2904 v2905.1 v2905.2 ((0 : Int), List.replicate (Int.toNat (IntKind.i64.wrap (v2900 * v2901))) (0 : Nat))) fun v2988 =>
  .leaf (v2905.1, v2905.2, v2988))))

noncomputable def impl_made_i1_g (v2900 : Int) (v2901 : Int) (v2902 : Int) (v2903 : Int) (v2904 : List Nat) : Option (Int × Int × (List Nat)) := (impl_made_i1_T v2900 v2901 v2902 v2903 v2904).run
def impl_made_i1_enc (v2900 : Int) (v2901 : Int) (v2902 : Int) (v2903 : Int) (v2904 : List Nat) (y : Int × Int × (List Nat)) : Rs := (.agg [.int .i64 y.1, .int .i64 y.2.1, .own 0 0 ((y.2.2).length)], [.row (.f32 y.2.2) 0])
theorem impl_made_i1_den (v2900 : Int) (v2901 : Int) (v2902 : Int) (v2903 : Int) (v2904 : List Nat) : (den TT (tabD impl_made_i1_tab) (tabM impl_made_i1_tab) (impl_made_i1_LO v2900 v2901 v2902 v2903 v2904) (codeOf Try.f96) ([.int .i64 v2900, .int .i64 v2901, .fn 174 [.bptr (BR.root 0) [.int .i64 v2902, .int .i64 v2903, .bslc (BR.root 1) (.f32 v2904)]]] ++ List.replicate (Try.f96.ntmps - ([.int .i64 v2900, .int .i64 v2901, .fn 174 [.bptr (BR.root 0) [.int .i64 v2902, .int .i64 v2903, .bslc (BR.root 1) (.f32 v2904)]]] : List DV).length) .undef) []).bind (retD TT Try.f96.results.toList 0) = (impl_made_i1_T v2900 v2901 v2902 v2903 v2904).bind fun y => .leaf (impl_made_i1_enc v2900 v2901 v2902 v2903 v2904 y) := by kernel_rfl
theorem impl_made_i1_fn (v2900 : Int) (v2901 : Int) (v2902 : Int) (v2903 : Int) (v2904 : List Nat) (F : Fr) (hm : F.ids.length = 0) (h0 : St F [] F.H0) (hA : DVs.Ok F [] [.int .i64 v2900, .int .i64 v2901, .fn 174 [.bptr (BR.root 0) [.int .i64 v2902, .int .i64 v2903, .bslc (BR.root 1) (.f32 v2904)]]]) {y : Int × Int × (List Nat)} (hy : impl_made_i1_g v2900 v2901 v2902 v2903 v2904 = some y) : ∃ H', FnOk Try.prog 96 (DVs.av F [.int .i64 v2900, .int .i64 v2901, .fn 174 [.bptr (BR.root 0) [.int .i64 v2902, .int .i64 v2903, .bslc (BR.root 1) (.f32 v2904)]]]) F.H0 ((impl_made_i1_enc v2900 v2901 v2902 v2903 v2904 y).1.av F) H' ∧ St F (impl_made_i1_enc v2900 v2901 v2902 v2903 v2904 y).2 H' ∧ (impl_made_i1_enc v2900 v2901 v2902 v2903 v2904 y).1.Ok F (impl_made_i1_enc v2900 v2901 v2902 v2903 v2904 y).2 :=
  fn_fin tok impl_made_i1_hO mixed Try.func96 Try.call96 (by kernel_rfl) (LoopsOk_eq (l := [(0, bodyOf Try.f96 0)]) (by kernel_rfl) ⟨impl_made_i1_l0_ok v2900 v2901 v2902 v2903 v2904, trivial⟩) (impl_made_i1_den v2900 v2901 v2902 v2903 v2904) hy hm h0 hA
noncomputable def impl_made_i1_F : DFn := fun args L =>
  match args with
  | [.int .i64 v2900, .int .i64 v2901, .fn 174 [a1]] =>
    optT (cellsOf L 3 a1) fun cs0 =>
    (match cs0 with
    | [.int .i64 v2902, .int .i64 v2903, a2] =>
    optT (rowF32 L a2) fun v2904 =>
    .call (impl_made_i1_g v2900 v2901 v2902 v2903 v2904) fun y => .leaf (.agg [.int .i64 y.1, .int .i64 y.2.1, .own (L.length + 0) 0 ((y.2.2).length)], L ++ [.row (.f32 y.2.2) 0])
    | _ => .fail)
  | _ => .fail
theorem impl_made_i1_Fok : COk Try.prog 96 impl_made_i1_F true := by
  intro F L H args r L' hs ha hr
  unfold impl_made_i1_F at hr
  split at hr
  · rename_i v2900 v2901 a1
    obtain ⟨cs0, hcp0, hr⟩ := optT_run hr
    split at hr
    · rename_i v2902 v2903 a2
      obtain ⟨v2904, hv2904, hr⟩ := optT_run hr
      simp only [Tree.run] at hr
      obtain ⟨y, hy, hr⟩ := Option.bind_eq_some_iff.1 hr
      simp only [Tree.run, Option.some.injEq, Prod.mk.injEq] at hr
      obtain ⟨rfl, rfl⟩ := hr
      exact call_ok1 hs (fun k => (([a1.av F, a2.av F] : List AV)[k]?).getD .top) [.int .i64 v2900, .int .i64 v2901, .fn 174 [a1]] [.int .i64 v2900, .int .i64 v2901, .fn 174 [.bptr (BR.root 0) [.int .i64 v2902, .int .i64 v2903, .bslc (BR.root 1) (.f32 v2904)]]] (fun F' h0 hi hρ => ⟨by simp [DVs.av, DV.av, BR.av, hρ], impl_made_i1_fn v2900 v2901 v2902 v2903 v2904 F' (by rw [hi]; rfl) (st_nil hi) ⟨trivial, trivial, ⟨bptr_ok hi (by rw [h0]; simpa [DVs.av, DV.av, BR.av, hρ] using (cellsOf_ok hs (DVs.okAt (DVs.okAt ha 2 rfl) 0 rfl) hcp0).1) ⟨trivial, trivial, bslc_ok hi (by rw [h0, hρ]; exact rowF32_ok hs (DVs.okAt (cellsOf_ok hs (DVs.okAt (DVs.okAt ha 2 rfl) 0 rfl) hcp0).2 2 rfl) hv2904), trivial⟩, trivial⟩, trivial⟩ hy⟩) rfl rfl
    · cases hr
  · cases hr
/-! (impl.Matrix).flip -/
noncomputable def impl_Matrix_flip_LO (v2897 : Int) (v2898 : Int) (v2899 : List Nat) : LOr := fun id e L =>
  match id with
  | _ => .fail
noncomputable def impl_Matrix_flip_tab : List (FuncId × DFn × Bool) := [(96, impl_made_i1_F, true)]
theorem impl_Matrix_flip_hO : OrcOk Try.prog (tabD impl_Matrix_flip_tab) (tabM impl_Matrix_flip_tab) := tabD_cons impl_made_i1_Fok (tabD_nil _)
noncomputable def impl_Matrix_flip_T (v2897 : Int) (v2898 : Int) (v2899 : List Nat) : Tree (Int × Int × (List Nat)) :=
  (.call (impl_made_i1_g v2898 v2897 v2897 v2898 v2899) fun v2989 =>
  .leaf (v2989.1, v2989.2.1, v2989.2.2))

noncomputable def impl_Matrix_flip_g (v2897 : Int) (v2898 : Int) (v2899 : List Nat) : Option (Int × Int × (List Nat)) := (impl_Matrix_flip_T v2897 v2898 v2899).run
def impl_Matrix_flip_enc (v2897 : Int) (v2898 : Int) (v2899 : List Nat) (y : Int × Int × (List Nat)) : Rs := (.agg [.int .i64 y.1, .int .i64 y.2.1, .own 0 0 ((y.2.2).length)], [.row (.f32 y.2.2) 0])
theorem impl_Matrix_flip_den (v2897 : Int) (v2898 : Int) (v2899 : List Nat) : (den TT (tabD impl_Matrix_flip_tab) (tabM impl_Matrix_flip_tab) (impl_Matrix_flip_LO v2897 v2898 v2899) (codeOf Try.f155) ([.agg [.int .i64 v2897, .int .i64 v2898, .bslc (BR.root 0) (.f32 v2899)]] ++ List.replicate (Try.f155.ntmps - ([.agg [.int .i64 v2897, .int .i64 v2898, .bslc (BR.root 0) (.f32 v2899)]] : List DV).length) .undef) []).bind (retD TT Try.f155.results.toList 0) = (impl_Matrix_flip_T v2897 v2898 v2899).bind fun y => .leaf (impl_Matrix_flip_enc v2897 v2898 v2899 y) := by kernel_rfl
theorem impl_Matrix_flip_fn (v2897 : Int) (v2898 : Int) (v2899 : List Nat) (F : Fr) (hm : F.ids.length = 0) (h0 : St F [] F.H0) (hA : DVs.Ok F [] [.agg [.int .i64 v2897, .int .i64 v2898, .bslc (BR.root 0) (.f32 v2899)]]) {y : Int × Int × (List Nat)} (hy : impl_Matrix_flip_g v2897 v2898 v2899 = some y) : ∃ H', FnOk Try.prog 155 (DVs.av F [.agg [.int .i64 v2897, .int .i64 v2898, .bslc (BR.root 0) (.f32 v2899)]]) F.H0 ((impl_Matrix_flip_enc v2897 v2898 v2899 y).1.av F) H' ∧ St F (impl_Matrix_flip_enc v2897 v2898 v2899 y).2 H' ∧ (impl_Matrix_flip_enc v2897 v2898 v2899 y).1.Ok F (impl_Matrix_flip_enc v2897 v2898 v2899 y).2 :=
  fn_fin tok impl_Matrix_flip_hO mixed Try.func155 Try.call155 (by kernel_rfl) (LoopsOk_eq (l := []) (by kernel_rfl) trivial) (impl_Matrix_flip_den v2897 v2898 v2899) hy hm h0 hA
noncomputable def impl_Matrix_flip_F : DFn := fun args L =>
  match args with
  | [.agg [.int .i64 v2897, .int .i64 v2898, a1]] =>
    optT (rowF32 L a1) fun v2899 =>
    .call (impl_Matrix_flip_g v2897 v2898 v2899) fun y => .leaf (.agg [.int .i64 y.1, .int .i64 y.2.1, .own (L.length + 0) 0 ((y.2.2).length)], L ++ [.row (.f32 y.2.2) 0])
  | _ => .fail
theorem impl_Matrix_flip_Fok : COk Try.prog 155 impl_Matrix_flip_F true := by
  intro F L H args r L' hs ha hr
  unfold impl_Matrix_flip_F at hr
  split at hr
  · rename_i v2897 v2898 a1
    obtain ⟨v2899, hv2899, hr⟩ := optT_run hr
    simp only [Tree.run] at hr
    obtain ⟨y, hy, hr⟩ := Option.bind_eq_some_iff.1 hr
    simp only [Tree.run, Option.some.injEq, Prod.mk.injEq] at hr
    obtain ⟨rfl, rfl⟩ := hr
    exact call_ok1 hs (fun k => (([a1.av F] : List AV)[k]?).getD .top) [.agg [.int .i64 v2897, .int .i64 v2898, a1]] [.agg [.int .i64 v2897, .int .i64 v2898, .bslc (BR.root 0) (.f32 v2899)]] (fun F' h0 hi hρ => ⟨by simp [DVs.av, DV.av, BR.av, hρ], impl_Matrix_flip_fn v2897 v2898 v2899 F' (by rw [hi]; rfl) (st_nil hi) ⟨⟨trivial, trivial, bslc_ok hi (by rw [h0, hρ]; exact rowF32_ok hs (DVs.okAt (DVs.okAt ha 0 rfl) 2 rfl) hv2899), trivial⟩, trivial⟩ hy⟩) rfl rfl
  · cases hr
/-! slices.Clone[list of float32,float32] -/
noncomputable def slices_CloneF_LO (v3000 : List Nat) : LOr := fun id e L =>
  match id with
  | _ => .fail
noncomputable def slices_CloneF_tab : List (FuncId × DFn × Bool) := []
theorem slices_CloneF_hO : OrcOk Try.prog (tabD slices_CloneF_tab) (tabM slices_CloneF_tab) := tabD_nil _
noncomputable def slices_CloneF_T (v3000 : List Nat) : Tree (Unit) :=
  (.grd (decide (0 < v3000.length)) <|
  (.grd (fits (([] : List Nat) ++ v3000).length) <|
  .leaf ()))

noncomputable def slices_CloneF_g (v3000 : List Nat) : Option (Unit) := (slices_CloneF_T v3000).run
def slices_CloneF_enc (v3000 : List Nat) (y : Unit) : Rs := (.own 0 0 ((([] : List Nat) ++ v3000).length), [.row (.f32 (([] : List Nat) ++ v3000)) 0])
theorem slices_CloneF_den (v3000 : List Nat) : (den TT (tabD slices_CloneF_tab) (tabM slices_CloneF_tab) (slices_CloneF_LO v3000) (codeOf Try.f112) ([.bslc (BR.root 0) (.f32 v3000)] ++ List.replicate (Try.f112.ntmps - ([.bslc (BR.root 0) (.f32 v3000)] : List DV).length) .undef) []).bind (retD TT Try.f112.results.toList 0) = (slices_CloneF_T v3000).bind fun y => .leaf (slices_CloneF_enc v3000 y) := by kernel_rfl
theorem slices_CloneF_fn (v3000 : List Nat) (F : Fr) (hm : F.ids.length = 0) (h0 : St F [] F.H0) (hA : DVs.Ok F [] [.bslc (BR.root 0) (.f32 v3000)]) {y : Unit} (hy : slices_CloneF_g v3000 = some y) : ∃ H', FnOk Try.prog 112 (DVs.av F [.bslc (BR.root 0) (.f32 v3000)]) F.H0 ((slices_CloneF_enc v3000 y).1.av F) H' ∧ St F (slices_CloneF_enc v3000 y).2 H' ∧ (slices_CloneF_enc v3000 y).1.Ok F (slices_CloneF_enc v3000 y).2 :=
  fn_fin tok slices_CloneF_hO mixed Try.func112 Try.call112 (by kernel_rfl) (LoopsOk_eq (l := []) (by kernel_rfl) trivial) (slices_CloneF_den v3000) hy hm h0 hA
noncomputable def slices_CloneF_F : DFn := fun args L =>
  match args with
  | [a1] =>
    optT (rowF32 L a1) fun v3000 =>
    .call (slices_CloneF_g v3000) fun y => .leaf (.own (L.length + 0) 0 ((([] : List Nat) ++ v3000).length), L ++ [.row (.f32 (([] : List Nat) ++ v3000)) 0])
  | _ => .fail
theorem slices_CloneF_Fok : COk Try.prog 112 slices_CloneF_F true := by
  intro F L H args r L' hs ha hr
  unfold slices_CloneF_F at hr
  split at hr
  · rename_i a1
    obtain ⟨v3000, hv3000, hr⟩ := optT_run hr
    simp only [Tree.run] at hr
    obtain ⟨y, hy, hr⟩ := Option.bind_eq_some_iff.1 hr
    simp only [Tree.run, Option.some.injEq, Prod.mk.injEq] at hr
    obtain ⟨rfl, rfl⟩ := hr
    exact call_ok1 hs (fun k => (([a1.av F] : List AV)[k]?).getD .top) [a1] [.bslc (BR.root 0) (.f32 v3000)] (fun F' h0 hi hρ => ⟨by simp [DVs.av, DV.av, BR.av, hρ], slices_CloneF_fn v3000 F' (by rw [hi]; rfl) (st_nil hi) ⟨bslc_ok hi (by rw [h0, hρ]; exact rowF32_ok hs (DVs.okAt ha 0 rfl) hv3000), trivial⟩ hy⟩) rfl rfl
  · cases hr
/-! (impl.Matrix).row -/
noncomputable def impl_Matrix_row_LO (v2996 : Int) (v2997 : Int) (v2998 : List Nat) (v2999 : Int) : LOr := fun id e L =>
  match id with
  | _ => .fail
noncomputable def impl_Matrix_row_tab : List (FuncId × DFn × Bool) := [(112, slices_CloneF_F, true)]
theorem impl_Matrix_row_hO : OrcOk Try.prog (tabD impl_Matrix_row_tab) (tabM impl_Matrix_row_tab) := tabD_cons slices_CloneF_Fok (tabD_nil _)
noncomputable def impl_Matrix_row_T (v2997 : Int) (v2998 : List Nat) (v2999 : Int) : Tree (Unit) :=
  (.grd (sok (IntKind.i64.wrap (v2999 * v2997)) (IntKind.i64.wrap ((IntKind.i64.wrap (v2999 + (1 : Int))) * v2997)) v2998.length) <|
  (.call (slices_CloneF_g (AM.sub v2998 (IntKind.i64.wrap (v2999 * v2997)) (IntKind.i64.wrap ((IntKind.i64.wrap (v2999 + (1 : Int))) * v2997)))) fun v3001 =>
  .leaf ()))

noncomputable def impl_Matrix_row_g (v2997 : Int) (v2998 : List Nat) (v2999 : Int) : Option (Unit) := (impl_Matrix_row_T v2997 v2998 v2999).run
def impl_Matrix_row_enc (v2996 : Int) (v2997 : Int) (v2998 : List Nat) (v2999 : Int) (y : Unit) : Rs := (.own 0 0 ((([] : List Nat) ++ (AM.sub v2998 (IntKind.i64.wrap (v2999 * v2997)) (IntKind.i64.wrap ((IntKind.i64.wrap (v2999 + (1 : Int))) * v2997)))).length), [.row (.f32 (([] : List Nat) ++ (AM.sub v2998 (IntKind.i64.wrap (v2999 * v2997)) (IntKind.i64.wrap ((IntKind.i64.wrap (v2999 + (1 : Int))) * v2997))))) 0])
theorem impl_Matrix_row_den (v2996 : Int) (v2997 : Int) (v2998 : List Nat) (v2999 : Int) : (den TT (tabD impl_Matrix_row_tab) (tabM impl_Matrix_row_tab) (impl_Matrix_row_LO v2996 v2997 v2998 v2999) (codeOf Try.f161) ([.agg [.int .i64 v2996, .int .i64 v2997, .bslc (BR.root 0) (.f32 v2998)], .int .i64 v2999] ++ List.replicate (Try.f161.ntmps - ([.agg [.int .i64 v2996, .int .i64 v2997, .bslc (BR.root 0) (.f32 v2998)], .int .i64 v2999] : List DV).length) .undef) []).bind (retD TT Try.f161.results.toList 0) = (impl_Matrix_row_T v2997 v2998 v2999).bind fun y => .leaf (impl_Matrix_row_enc v2996 v2997 v2998 v2999 y) := by kernel_rfl
theorem impl_Matrix_row_fn (v2996 : Int) (v2997 : Int) (v2998 : List Nat) (v2999 : Int) (F : Fr) (hm : F.ids.length = 0) (h0 : St F [] F.H0) (hA : DVs.Ok F [] [.agg [.int .i64 v2996, .int .i64 v2997, .bslc (BR.root 0) (.f32 v2998)], .int .i64 v2999]) {y : Unit} (hy : impl_Matrix_row_g v2997 v2998 v2999 = some y) : ∃ H', FnOk Try.prog 161 (DVs.av F [.agg [.int .i64 v2996, .int .i64 v2997, .bslc (BR.root 0) (.f32 v2998)], .int .i64 v2999]) F.H0 ((impl_Matrix_row_enc v2996 v2997 v2998 v2999 y).1.av F) H' ∧ St F (impl_Matrix_row_enc v2996 v2997 v2998 v2999 y).2 H' ∧ (impl_Matrix_row_enc v2996 v2997 v2998 v2999 y).1.Ok F (impl_Matrix_row_enc v2996 v2997 v2998 v2999 y).2 :=
  fn_fin tok impl_Matrix_row_hO mixed Try.func161 Try.call161 (by kernel_rfl) (LoopsOk_eq (l := []) (by kernel_rfl) trivial) (impl_Matrix_row_den v2996 v2997 v2998 v2999) hy hm h0 hA
noncomputable def impl_Matrix_row_F : DFn := fun args L =>
  match args with
  | [.agg [.int .i64 v2996, .int .i64 v2997, a1], .int .i64 v2999] =>
    optT (rowF32 L a1) fun v2998 =>
    .call (impl_Matrix_row_g v2997 v2998 v2999) fun y => .leaf (.own (L.length + 0) 0 ((([] : List Nat) ++ (AM.sub v2998 (IntKind.i64.wrap (v2999 * v2997)) (IntKind.i64.wrap ((IntKind.i64.wrap (v2999 + (1 : Int))) * v2997)))).length), L ++ [.row (.f32 (([] : List Nat) ++ (AM.sub v2998 (IntKind.i64.wrap (v2999 * v2997)) (IntKind.i64.wrap ((IntKind.i64.wrap (v2999 + (1 : Int))) * v2997))))) 0])
  | _ => .fail
theorem impl_Matrix_row_Fok : COk Try.prog 161 impl_Matrix_row_F true := by
  intro F L H args r L' hs ha hr
  unfold impl_Matrix_row_F at hr
  split at hr
  · rename_i v2996 v2997 a1 v2999
    obtain ⟨v2998, hv2998, hr⟩ := optT_run hr
    simp only [Tree.run] at hr
    obtain ⟨y, hy, hr⟩ := Option.bind_eq_some_iff.1 hr
    simp only [Tree.run, Option.some.injEq, Prod.mk.injEq] at hr
    obtain ⟨rfl, rfl⟩ := hr
    exact call_ok1 hs (fun k => (([a1.av F] : List AV)[k]?).getD .top) [.agg [.int .i64 v2996, .int .i64 v2997, a1], .int .i64 v2999] [.agg [.int .i64 v2996, .int .i64 v2997, .bslc (BR.root 0) (.f32 v2998)], .int .i64 v2999] (fun F' h0 hi hρ => ⟨by simp [DVs.av, DV.av, BR.av, hρ], impl_Matrix_row_fn v2996 v2997 v2998 v2999 F' (by rw [hi]; rfl) (st_nil hi) ⟨⟨trivial, trivial, bslc_ok hi (by rw [h0, hρ]; exact rowF32_ok hs (DVs.okAt (DVs.okAt ha 0 rfl) 2 rfl) hv2998), trivial⟩, trivial, trivial⟩ hy⟩) rfl rfl
  · cases hr
/-! (impl.Matrix).timesVector -/
noncomputable def impl_Matrix_timesVector_l0_T (v2991 : Int) (v2992 : Int) (v2993 : List Nat) (v2994 : List Nat) (s : Int × (List Nat)) : Tree ((Int × (List Nat)) ⊕ ((List Nat))) :=
  (.br (decide (s.1 < v2991)) (
   (.call (impl_Matrix_row_g v2992 v2993 s.1) fun v3010 =>
   (.call (impl_dot_g (([] : List Nat) ++ (AM.sub v2993 (IntKind.i64.wrap (s.1 * v2992)) (IntKind.i64.wrap ((IntKind.i64.wrap (s.1 + (1 : Int))) * v2992)))) v2994) fun v3011 =>
   (.grd (fits (s.2 ++ ([v3011] : List Nat)).length) <|
   .leaf (.inl (IntKind.i64.wrap (s.1 + (1 : Int)), s.2 ++ ([v3011] : List Nat))))))
  ) (
   .leaf (.inr s.2)
  ))

noncomputable def impl_Matrix_timesVector_l0_g (v2991 : Int) (v2992 : Int) (v2993 : List Nat) (v2994 : List Nat) (s0 : Int × (List Nat)) : Option ((List Nat)) := whileM (fun s => (impl_Matrix_timesVector_l0_T v2991 v2992 v2993 v2994 s).run) s0
def impl_Matrix_timesVector_l0_E (v2991 : Int) (v2992 : Int) (v2993 : List Nat) (v2994 : List Nat) (s : Int × (List Nat)) : Sd := ([.top, .bslc (BR.root 1) (.f32 v2994), .ptr 0 (0 : Nat) 0 (3 : Nat), .top, .top, .own 1 0 ((s.2).length), .top, .top, .top, .int .i64 v2991, .int .i64 s.1, .top, .top, .top, .top, .top, .top, .top, .top, .top, .top, .top, .top], [.gen [.int .i64 v2991, .int .i64 v2992, .bslc (BR.root 0) (.f32 v2993)] false 0, .row (.f32 s.2) 0])
def impl_Matrix_timesVector_l0_X (v2991 : Int) (v2992 : Int) (v2993 : List Nat) (v2994 : List Nat) (x : (List Nat)) : Out := (.normal, [.top, .top, .top, .top, .top, .own 0 0 ((x).length), .top, .top, .top, .top, .top, .top, .top, .top, .top, .top, .top, .top, .top, .top, .top, .top, .top], [.row (.f32 x) 0])
def impl_Matrix_timesVector_l0_kill : List Nat := [1, 0, 0, 1, 1, 0, 1, 1, 1, 0, 0, 1, 1, 1, 1, 1, 1, 1, 1, 1, 1, 1, 1]
def impl_Matrix_timesVector_l0_nx : Exit → List Nat
  | .exit 0 => [1, 1, 1, 1, 1, 0, 1, 1, 1, 1, 1, 1, 1, 1, 1, 1, 1, 1, 1, 1, 1, 1, 1]
  | .ret => [1, 1, 1, 1, 0, 1, 1, 1, 1, 1, 1, 1, 1, 1, 1, 1, 1, 1, 1, 1, 1, 1, 1]
  | _ => []
noncomputable def impl_Matrix_timesVector_LO (v2991 : Int) (v2992 : Int) (v2993 : List Nat) (v2994 : List Nat) : LOr := fun id e L =>
  match id with
  | 0 => .need (normA 0 impl_Matrix_timesVector_l0_kill e L = some (impl_Matrix_timesVector_l0_E v2991 v2992 v2993 v2994 ((gI (vAt e 10)), (gRF L (vAt e 5))))) (.call (impl_Matrix_timesVector_l0_g v2991 v2992 v2993 v2994 ((gI (vAt e 10)), (gRF L (vAt e 5)))) fun x => .leaf (impl_Matrix_timesVector_l0_X v2991 v2992 v2993 v2994 x))
  | _ => .fail
noncomputable def impl_Matrix_timesVector_tab : List (FuncId × DFn × Bool) := [(161, impl_Matrix_row_F, true), (135, impl_dot_F, true)]
theorem impl_Matrix_timesVector_hO : OrcOk Try.prog (tabD impl_Matrix_timesVector_tab) (tabM impl_Matrix_timesVector_tab) := tabD_cons impl_Matrix_row_Fok (tabD_cons impl_dot_Fok (tabD_nil _))
theorem impl_Matrix_timesVector_l0_be (v2991 : Int) (v2992 : Int) (v2993 : List Nat) (v2994 : List Nat) (s : Int × (List Nat)) : bodyT TT (tabD impl_Matrix_timesVector_tab) (tabM impl_Matrix_timesVector_tab) (impl_Matrix_timesVector_LO v2991 v2992 v2993 v2994) 0 impl_Matrix_timesVector_l0_kill impl_Matrix_timesVector_l0_nx (bodyOf Try.f137 0) 0 (impl_Matrix_timesVector_l0_E v2991 v2992 v2993 v2994 s) = (impl_Matrix_timesVector_l0_T v2991 v2992 v2993 v2994 s).bind fun y => .leaf (outS (impl_Matrix_timesVector_l0_E v2991 v2992 v2993 v2994) (impl_Matrix_timesVector_l0_X v2991 v2992 v2993 v2994) y) := by kernel_rfl
theorem impl_Matrix_timesVector_l0_ok (v2991 : Int) (v2992 : Int) (v2993 : List Nat) (v2994 : List Nat) : LSound Try.prog 0 (impl_Matrix_timesVector_LO v2991 v2992 v2993 v2994) 0 (bodyOf Try.f137 0) := by
  intro e L out h
  exact lo_ok (E := impl_Matrix_timesVector_l0_E v2991 v2992 v2993 v2994) (gT := impl_Matrix_timesVector_l0_T v2991 v2992 v2993 v2994) (X := impl_Matrix_timesVector_l0_X v2991 v2992 v2993 v2994) (s0 := ((gI (vAt e 10)), (gRF L (vAt e 5)))) tok impl_Matrix_timesVector_hO mixed (LoopsOk_eq (l := []) (by kernel_rfl) trivial) (impl_Matrix_timesVector_l0_be v2991 v2992 v2993 v2994) rfl (by intro x; rfl) h
noncomputable def impl_Matrix_timesVector_T (v2991 : Int) (v2992 : Int) (v2993 : List Nat) (v2994 : List Nat) : Tree ((List Nat)) :=
  (.need (some (impl_Matrix_timesVector_l0_E v2991 v2992 v2993 v2994 ((0 : Int), ([] : List Nat))) = some (impl_Matrix_timesVector_l0_E v2991 v2992 v2993 v2994 ((0 : Int), ([] : List Nat)))) <|
  (.call (impl_Matrix_timesVector_l0_g v2991 v2992 v2993 v2994 ((0 : Int), ([] : List Nat))) fun v3012 =>
  .leaf v3012))

noncomputable def impl_Matrix_timesVector_g (v2991 : Int) (v2992 : Int) (v2993 : List Nat) (v2994 : List Nat) : Option ((List Nat)) := (impl_Matrix_timesVector_T v2991 v2992 v2993 v2994).run
def impl_Matrix_timesVector_enc (v2991 : Int) (v2992 : Int) (v2993 : List Nat) (v2994 : List Nat) (y : (List Nat)) : Rs := (.own 0 0 ((y).length), [.row (.f32 y) 0])
theorem impl_Matrix_timesVector_den (v2991 : Int) (v2992 : Int) (v2993 : List Nat) (v2994 : List Nat) : (den TT (tabD impl_Matrix_timesVector_tab) (tabM impl_Matrix_timesVector_tab) (impl_Matrix_timesVector_LO v2991 v2992 v2993 v2994) (codeOf Try.f137) ([.agg [.int .i64 v2991, .int .i64 v2992, .bslc (BR.root 0) (.f32 v2993)], .bslc (BR.root 1) (.f32 v2994)] ++ List.replicate (Try.f137.ntmps - ([.agg [.int .i64 v2991, .int .i64 v2992, .bslc (BR.root 0) (.f32 v2993)], .bslc (BR.root 1) (.f32 v2994)] : List DV).length) .undef) []).bind (retD TT Try.f137.results.toList 0) = (impl_Matrix_timesVector_T v2991 v2992 v2993 v2994).bind fun y => .leaf (impl_Matrix_timesVector_enc v2991 v2992 v2993 v2994 y) := by kernel_rfl
theorem impl_Matrix_timesVector_fn (v2991 : Int) (v2992 : Int) (v2993 : List Nat) (v2994 : List Nat) (F : Fr) (hm : F.ids.length = 0) (h0 : St F [] F.H0) (hA : DVs.Ok F [] [.agg [.int .i64 v2991, .int .i64 v2992, .bslc (BR.root 0) (.f32 v2993)], .bslc (BR.root 1) (.f32 v2994)]) {y : (List Nat)} (hy : impl_Matrix_timesVector_g v2991 v2992 v2993 v2994 = some y) : ∃ H', FnOk Try.prog 137 (DVs.av F [.agg [.int .i64 v2991, .int .i64 v2992, .bslc (BR.root 0) (.f32 v2993)], .bslc (BR.root 1) (.f32 v2994)]) F.H0 ((impl_Matrix_timesVector_enc v2991 v2992 v2993 v2994 y).1.av F) H' ∧ St F (impl_Matrix_timesVector_enc v2991 v2992 v2993 v2994 y).2 H' ∧ (impl_Matrix_timesVector_enc v2991 v2992 v2993 v2994 y).1.Ok F (impl_Matrix_timesVector_enc v2991 v2992 v2993 v2994 y).2 :=
  fn_fin tok impl_Matrix_timesVector_hO mixed Try.func137 Try.call137 (by kernel_rfl) (LoopsOk_eq (l := [(0, bodyOf Try.f137 0)]) (by kernel_rfl) ⟨impl_Matrix_timesVector_l0_ok v2991 v2992 v2993 v2994, trivial⟩) (impl_Matrix_timesVector_den v2991 v2992 v2993 v2994) hy hm h0 hA
noncomputable def impl_Matrix_timesVector_F : DFn := fun args L =>
  match args with
  | [.agg [.int .i64 v2991, .int .i64 v2992, a1], a2] =>
    optT (rowF32 L a1) fun v2993 =>
    optT (rowF32 L a2) fun v2994 =>
    .call (impl_Matrix_timesVector_g v2991 v2992 v2993 v2994) fun y => .leaf (.own (L.length + 0) 0 ((y).length), L ++ [.row (.f32 y) 0])
  | _ => .fail
theorem impl_Matrix_timesVector_Fok : COk Try.prog 137 impl_Matrix_timesVector_F true := by
  intro F L H args r L' hs ha hr
  unfold impl_Matrix_timesVector_F at hr
  split at hr
  · rename_i v2991 v2992 a1 a2
    obtain ⟨v2993, hv2993, hr⟩ := optT_run hr
    obtain ⟨v2994, hv2994, hr⟩ := optT_run hr
    simp only [Tree.run] at hr
    obtain ⟨y, hy, hr⟩ := Option.bind_eq_some_iff.1 hr
    simp only [Tree.run, Option.some.injEq, Prod.mk.injEq] at hr
    obtain ⟨rfl, rfl⟩ := hr
    exact call_ok1 hs (fun k => (([a1.av F, a2.av F] : List AV)[k]?).getD .top) [.agg [.int .i64 v2991, .int .i64 v2992, a1], a2] [.agg [.int .i64 v2991, .int .i64 v2992, .bslc (BR.root 0) (.f32 v2993)], .bslc (BR.root 1) (.f32 v2994)] (fun F' h0 hi hρ => ⟨by simp [DVs.av, DV.av, BR.av, hρ], impl_Matrix_timesVector_fn v2991 v2992 v2993 v2994 F' (by rw [hi]; rfl) (st_nil hi) ⟨⟨trivial, trivial, bslc_ok hi (by rw [h0, hρ]; exact rowF32_ok hs (DVs.okAt (DVs.okAt ha 0 rfl) 2 rfl) hv2993), trivial⟩, bslc_ok hi (by rw [h0, hρ]; exact rowF32_ok hs (DVs.okAt ha 1 rfl) hv2994), trivial⟩ hy⟩) rfl rfl
  · cases hr
/-! impl.isSquare -/
noncomputable def impl_isSquare_LO (v3018 : Int) (v3019 : Int) (v3020 : List Nat) : LOr := fun id e L =>
  match id with
  | _ => .fail
noncomputable def impl_isSquare_tab : List (FuncId × DFn × Bool) := [(102, impl_ValidMatrix_F, true)]
theorem impl_isSquare_hO : OrcOk Try.prog (tabD impl_isSquare_tab) (tabM impl_isSquare_tab) := tabD_cons impl_ValidMatrix_Fok (tabD_nil _)
noncomputable def impl_isSquare_T (v3018 : Int) (v3019 : Int) (v3020 : List Nat) : Tree (Bool) :=
  (.call (impl_ValidMatrix_g v3018 v3019 v3020) fun v3021 =>
  (.br v3021 (
   .leaf (decide (v3018 = v3019))
  ) (
   .leaf false
  )))

noncomputable def impl_isSquare_g (v3018 : Int) (v3019 : Int) (v3020 : List Nat) : Option (Bool) := (impl_isSquare_T v3018 v3019 v3020).run
def impl_isSquare_enc (v3018 : Int) (v3019 : Int) (v3020 : List Nat) (y : Bool) : Rs := (.bool y, [])
theorem impl_isSquare_den (v3018 : Int) (v3019 : Int) (v3020 : List Nat) : (den TT (tabD impl_isSquare_tab) (tabM impl_isSquare_tab) (impl_isSquare_LO v3018 v3019 v3020) (codeOf Try.f47) ([.agg [.int .i64 v3018, .int .i64 v3019, .bslc (BR.root 0) (.f32 v3020)]] ++ List.replicate (Try.f47.ntmps - ([.agg [.int .i64 v3018, .int .i64 v3019, .bslc (BR.root 0) (.f32 v3020)]] : List DV).length) .undef) []).bind (retD TT Try.f47.results.toList 0) = (impl_isSquare_T v3018 v3019 v3020).bind fun y => .leaf (impl_isSquare_enc v3018 v3019 v3020 y) := by kernel_rfl
theorem impl_isSquare_fn (v3018 : Int) (v3019 : Int) (v3020 : List Nat) (F : Fr) (hm : F.ids.length = 0) (h0 : St F [] F.H0) (hA : DVs.Ok F [] [.agg [.int .i64 v3018, .int .i64 v3019, .bslc (BR.root 0) (.f32 v3020)]]) {y : Bool} (hy : impl_isSquare_g v3018 v3019 v3020 = some y) : ∃ H', FnOk Try.prog 47 (DVs.av F [.agg [.int .i64 v3018, .int .i64 v3019, .bslc (BR.root 0) (.f32 v3020)]]) F.H0 ((impl_isSquare_enc v3018 v3019 v3020 y).1.av F) H' ∧ St F (impl_isSquare_enc v3018 v3019 v3020 y).2 H' ∧ (impl_isSquare_enc v3018 v3019 v3020 y).1.Ok F (impl_isSquare_enc v3018 v3019 v3020 y).2 :=
  fn_fin tok impl_isSquare_hO mixed Try.func47 Try.call47 (by kernel_rfl) (LoopsOk_eq (l := []) (by kernel_rfl) trivial) (impl_isSquare_den v3018 v3019 v3020) hy hm h0 hA
noncomputable def impl_isSquare_F : DFn := fun args L =>
  match args with
  | [.agg [.int .i64 v3018, .int .i64 v3019, a1]] =>
    optT (rowF32 L a1) fun v3020 =>
    .call (impl_isSquare_g v3018 v3019 v3020) fun y => .leaf (.bool y, L)
  | _ => .fail
theorem impl_isSquare_Fok : COk Try.prog 47 impl_isSquare_F true := by
  intro F L H args r L' hs ha hr
  unfold impl_isSquare_F at hr
  split at hr
  · rename_i v3018 v3019 a1
    obtain ⟨v3020, hv3020, hr⟩ := optT_run hr
    simp only [Tree.run] at hr
    obtain ⟨y, hy, hr⟩ := Option.bind_eq_some_iff.1 hr
    simp only [Tree.run, Option.some.injEq, Prod.mk.injEq] at hr
    obtain ⟨rfl, rfl⟩ := hr
    exact call_ok0 hs (fun k => (([a1.av F] : List AV)[k]?).getD .top) [.agg [.int .i64 v3018, .int .i64 v3019, a1]] [.agg [.int .i64 v3018, .int .i64 v3019, .bslc (BR.root 0) (.f32 v3020)]] (fun F' h0 hi hρ => ⟨by simp [DVs.av, DV.av, BR.av, hρ], impl_isSquare_fn v3018 v3019 v3020 F' (by rw [hi]; rfl) (st_nil hi) ⟨⟨trivial, trivial, bslc_ok hi (by rw [h0, hρ]; exact rowF32_ok hs (DVs.okAt (DVs.okAt ha 0 rfl) 2 rfl) hv3020), trivial⟩, trivial⟩ hy⟩) rfl
  · cases hr
/-! (impl.Matrix).middle -/
noncomputable def impl_Matrix_middle_l0_T (v3024 : Int) (v3025 : Int) (v3026 : List Nat) (s : Int × (List Nat)) : Tree ((Int × (List Nat)) ⊕ ((List Nat))) :=
  (.br (decide (s.1 < imin v3024 v3025)) (
   (.call (impl_Matrix_at_g v3025 v3026 s.1 s.1) fun v3034 =>
   (.grd (fits (s.2 ++ ([v3034] : List Nat)).length) <|
   .leaf (.inl (IntKind.i64.wrap (s.1 + (1 : Int)), s.2 ++ ([v3034] : List Nat)))))
  ) (
   .leaf (.inr s.2)
  ))

noncomputable def impl_Matrix_middle_l0_g (v3024 : Int) (v3025 : Int) (v3026 : List Nat) (s0 : Int × (List Nat)) : Option ((List Nat)) := whileM (fun s => (impl_Matrix_middle_l0_T v3024 v3025 v3026 s).run) s0
def impl_Matrix_middle_l0_E (v3024 : Int) (v3025 : Int) (v3026 : List Nat) (s : Int × (List Nat)) : Sd := ([.top, .ptr 0 (0 : Nat) 0 (3 : Nat), .top, .own 1 0 ((s.2).length), .top, .top, .top, .top, .top, .top, .int .i64 (imin v3024 v3025), .int .i64 s.1, .top, .top, .top, .top, .top, .top, .top, .top, .top, .top, .top], [.gen [.int .i64 v3024, .int .i64 v3025, .bslc (BR.root 0) (.f32 v3026)] false 0, .row (.f32 s.2) 0])
def impl_Matrix_middle_l0_X (v3024 : Int) (v3025 : Int) (v3026 : List Nat) (x : (List Nat)) : Out := (.normal, [.top, .top, .top, .own 0 0 ((x).length), .top, .top, .top, .top, .top, .top, .top, .top, .top, .top, .top, .top, .top, .top, .top, .top, .top, .top, .top], [.row (.f32 x) 0])
def impl_Matrix_middle_l0_kill : List Nat := [1, 0, 1, 0, 1, 1, 1, 1, 1, 1, 0, 0, 1, 1, 1, 1, 1, 1, 1, 1, 1, 1, 1]
def impl_Matrix_middle_l0_nx : Exit → List Nat
  | .exit 0 => [1, 1, 1, 0, 1, 1, 1, 1, 1, 1, 1, 1, 1, 1, 1, 1, 1, 1, 1, 1, 1, 1, 1]
  | .ret => [1, 1, 0, 1, 1, 1, 1, 1, 1, 1, 1, 1, 1, 1, 1, 1, 1, 1, 1, 1, 1, 1, 1]
  | _ => []
noncomputable def impl_Matrix_middle_LO (v3024 : Int) (v3025 : Int) (v3026 : List Nat) : LOr := fun id e L =>
  match id with
  | 0 => .need (normA 0 impl_Matrix_middle_l0_kill e L = some (impl_Matrix_middle_l0_E v3024 v3025 v3026 ((gI (vAt e 11)), (gRF L (vAt e 3))))) (.call (impl_Matrix_middle_l0_g v3024 v3025 v3026 ((gI (vAt e 11)), (gRF L (vAt e 3)))) fun x => .leaf (impl_Matrix_middle_l0_X v3024 v3025 v3026 x))
  | _ => .fail
noncomputable def impl_Matrix_middle_tab : List (FuncId × DFn × Bool) := [(49, impl_Matrix_at_F, true)]
theorem impl_Matrix_middle_hO : OrcOk Try.prog (tabD impl_Matrix_middle_tab) (tabM impl_Matrix_middle_tab) := tabD_cons impl_Matrix_at_Fok (tabD_nil _)
theorem impl_Matrix_middle_l0_be (v3024 : Int) (v3025 : Int) (v3026 : List Nat) (s : Int × (List Nat)) : bodyT TT (tabD impl_Matrix_middle_tab) (tabM impl_Matrix_middle_tab) (impl_Matrix_middle_LO v3024 v3025 v3026) 0 impl_Matrix_middle_l0_kill impl_Matrix_middle_l0_nx (bodyOf Try.f172 0) 0 (impl_Matrix_middle_l0_E v3024 v3025 v3026 s) = (impl_Matrix_middle_l0_T v3024 v3025 v3026 s).bind fun y => .leaf (outS (impl_Matrix_middle_l0_E v3024 v3025 v3026) (impl_Matrix_middle_l0_X v3024 v3025 v3026) y) := by kernel_rfl
theorem impl_Matrix_middle_l0_ok (v3024 : Int) (v3025 : Int) (v3026 : List Nat) : LSound Try.prog 0 (impl_Matrix_middle_LO v3024 v3025 v3026) 0 (bodyOf Try.f172 0) := by
  intro e L out h
  exact lo_ok (E := impl_Matrix_middle_l0_E v3024 v3025 v3026) (gT := impl_Matrix_middle_l0_T v3024 v3025 v3026) (X := impl_Matrix_middle_l0_X v3024 v3025 v3026) (s0 := ((gI (vAt e 11)), (gRF L (vAt e 3)))) tok impl_Matrix_middle_hO mixed (LoopsOk_eq (l := []) (by kernel_rfl) trivial) (impl_Matrix_middle_l0_be v3024 v3025 v3026) rfl (by intro x; rfl) h
noncomputable def impl_Matrix_middle_T (v3024 : Int) (v3025 : Int) (v3026 : List Nat) : Tree ((List Nat)) :=
  (.need (some (impl_Matrix_middle_l0_E v3024 v3025 v3026 ((0 : Int), ([] : List Nat))) = some (impl_Matrix_middle_l0_E v3024 v3025 v3026 ((0 : Int), ([] : List Nat)))) <|
  (.call (impl_Matrix_middle_l0_g v3024 v3025 v3026 ((0 : Int), ([] : List Nat))) fun v3035 =>
  .leaf v3035))

noncomputable def impl_Matrix_middle_g (v3024 : Int) (v3025 : Int) (v3026 : List Nat) : Option ((List Nat)) := (impl_Matrix_middle_T v3024 v3025 v3026).run
def impl_Matrix_middle_enc (v3024 : Int) (v3025 : Int) (v3026 : List Nat) (y : (List Nat)) : Rs := (.own 0 0 ((y).length), [.row (.f32 y) 0])
theorem impl_Matrix_middle_den (v3024 : Int) (v3025 : Int) (v3026 : List Nat) : (den TT (tabD impl_Matrix_middle_tab) (tabM impl_Matrix_middle_tab) (impl_Matrix_middle_LO v3024 v3025 v3026) (codeOf Try.f172) ([.agg [.int .i64 v3024, .int .i64 v3025, .bslc (BR.root 0) (.f32 v3026)]] ++ List.replicate (Try.f172.ntmps - ([.agg [.int .i64 v3024, .int .i64 v3025, .bslc (BR.root 0) (.f32 v3026)]] : List DV).length) .undef) []).bind (retD TT Try.f172.results.toList 0) = (impl_Matrix_middle_T v3024 v3025 v3026).bind fun y => .leaf (impl_Matrix_middle_enc v3024 v3025 v3026 y) := by kernel_rfl
theorem impl_Matrix_middle_fn (v3024 : Int) (v3025 : Int) (v3026 : List Nat) (F : Fr) (hm : F.ids.length = 0) (h0 : St F [] F.H0) (hA : DVs.Ok F [] [.agg [.int .i64 v3024, .int .i64 v3025, .bslc (BR.root 0) (.f32 v3026)]]) {y : (List Nat)} (hy : impl_Matrix_middle_g v3024 v3025 v3026 = some y) : ∃ H', FnOk Try.prog 172 (DVs.av F [.agg [.int .i64 v3024, .int .i64 v3025, .bslc (BR.root 0) (.f32 v3026)]]) F.H0 ((impl_Matrix_middle_enc v3024 v3025 v3026 y).1.av F) H' ∧ St F (impl_Matrix_middle_enc v3024 v3025 v3026 y).2 H' ∧ (impl_Matrix_middle_enc v3024 v3025 v3026 y).1.Ok F (impl_Matrix_middle_enc v3024 v3025 v3026 y).2 :=
  fn_fin tok impl_Matrix_middle_hO mixed Try.func172 Try.call172 (by kernel_rfl) (LoopsOk_eq (l := [(0, bodyOf Try.f172 0)]) (by kernel_rfl) ⟨impl_Matrix_middle_l0_ok v3024 v3025 v3026, trivial⟩) (impl_Matrix_middle_den v3024 v3025 v3026) hy hm h0 hA
noncomputable def impl_Matrix_middle_F : DFn := fun args L =>
  match args with
  | [.agg [.int .i64 v3024, .int .i64 v3025, a1]] =>
    optT (rowF32 L a1) fun v3026 =>
    .call (impl_Matrix_middle_g v3024 v3025 v3026) fun y => .leaf (.own (L.length + 0) 0 ((y).length), L ++ [.row (.f32 y) 0])
  | _ => .fail
theorem impl_Matrix_middle_Fok : COk Try.prog 172 impl_Matrix_middle_F true := by
  intro F L H args r L' hs ha hr
  unfold impl_Matrix_middle_F at hr
  split at hr
  · rename_i v3024 v3025 a1
    obtain ⟨v3026, hv3026, hr⟩ := optT_run hr
    simp only [Tree.run] at hr
    obtain ⟨y, hy, hr⟩ := Option.bind_eq_some_iff.1 hr
    simp only [Tree.run, Option.some.injEq, Prod.mk.injEq] at hr
    obtain ⟨rfl, rfl⟩ := hr
    exact call_ok1 hs (fun k => (([a1.av F] : List AV)[k]?).getD .top) [.agg [.int .i64 v3024, .int .i64 v3025, a1]] [.agg [.int .i64 v3024, .int .i64 v3025, .bslc (BR.root 0) (.f32 v3026)]] (fun F' h0 hi hρ => ⟨by simp [DVs.av, DV.av, BR.av, hρ], impl_Matrix_middle_fn v3024 v3025 v3026 F' (by rw [hi]; rfl) (st_nil hi) ⟨⟨trivial, trivial, bslc_ok hi (by rw [h0, hρ]; exact rowF32_ok hs (DVs.okAt (DVs.okAt ha 0 rfl) 2 rfl) hv3026), trivial⟩, trivial⟩ hy⟩) rfl rfl
  · cases hr
/-! slices.Index[list of float32,float32] -/
noncomputable def slices_IndexF_l0_T (v3039 : List Nat) (v3040 : Nat) (s : Int) : Tree ((Int) ⊕ ((Int) ⊕ (Unit))) :=
  (.br (decide (s < ((v3039.length : Nat) : Int))) (
   (.grd (inb s v3039.length) <|
   (.br (feq .f32 v3040 (nth v3039 (Int.toNat s))) (
    .leaf (.inr (.inl s))
   ) (
    .leaf (.inl (IntKind.i64.wrap (s + (1 : Int))))
   )))
  ) (
   .leaf (.inr (.inr ()))
  ))

noncomputable def slices_IndexF_l0_g (v3039 : List Nat) (v3040 : Nat) (s0 : Int) : Option ((Int) ⊕ (Unit)) := whileM (fun s => (slices_IndexF_l0_T v3039 v3040 s).run) s0
def slices_IndexF_l0_E (v3039 : List Nat) (v3040 : Nat) (s : Int) : Sd := ([.bslc (BR.root 0) (.f32 v3039), .flt .f32 v3040, .top, .top, .top, .top, .top, .int .i64 ((v3039.length : Nat) : Int), .int .i64 s, .top, .top, .top, .top, .top, .top, .top, .top, .top, .top], [])
def slices_IndexF_l0_X (v3039 : List Nat) (v3040 : Nat) (x : (Int) ⊕ (Unit)) : Out := (match x with | .inl x => (.ret, [.top, .top, .top, .top, .int .i64 x, .top, .top, .top, .top, .top, .top, .top, .top, .top, .top, .top, .top, .top, .top], []) | .inr x => (.normal, [.top, .top, .top, .top, .top, .top, .top, .top, .top, .top, .top, .top, .top, .top, .top, .top, .top, .top, .top], []))
def slices_IndexF_l0_kill : List Nat := [0, 0, 1, 1, 1, 1, 1, 0, 0, 1, 1, 1, 1, 1, 1, 1, 1, 1, 1]
def slices_IndexF_l0_nx : Exit → List Nat
  | .exit 0 => [1, 1, 1, 1, 1, 1, 1, 1, 1, 1, 1, 1, 1, 1, 1, 1, 1, 1, 1]
  | .ret => [1, 1, 1, 1, 0, 1, 1, 1, 1, 1, 1, 1, 1, 1, 1, 1, 1, 1, 1]
  | _ => []
noncomputable def slices_IndexF_LO (v3039 : List Nat) (v3040 : Nat) : LOr := fun id e L =>
  match id with
  | 0 => .need (normA 0 slices_IndexF_l0_kill e L = some (slices_IndexF_l0_E v3039 v3040 (gI (vAt e 8)))) (.call (slices_IndexF_l0_g v3039 v3040 (gI (vAt e 8))) fun x => .sum x (fun b0 => .leaf (slices_IndexF_l0_X v3039 v3040 (.inl b0))) (fun c0 => .leaf (slices_IndexF_l0_X v3039 v3040 (.inr c0))))
  | _ => .fail
noncomputable def slices_IndexF_tab : List (FuncId × DFn × Bool) := []
theorem slices_IndexF_hO : OrcOk Try.prog (tabD slices_IndexF_tab) (tabM slices_IndexF_tab) := tabD_nil _
theorem slices_IndexF_l0_be (v3039 : List Nat) (v3040 : Nat) (s : Int) : bodyT TT (tabD slices_IndexF_tab) (tabM slices_IndexF_tab) (slices_IndexF_LO v3039 v3040) 0 slices_IndexF_l0_kill slices_IndexF_l0_nx (bodyOf Try.f178 0) 0 (slices_IndexF_l0_E v3039 v3040 s) = (slices_IndexF_l0_T v3039 v3040 s).bind fun y => .leaf (outS (slices_IndexF_l0_E v3039 v3040) (slices_IndexF_l0_X v3039 v3040) y) := by kernel_rfl
theorem slices_IndexF_l0_ok (v3039 : List Nat) (v3040 : Nat) : LSound Try.prog 0 (slices_IndexF_LO v3039 v3040) 0 (bodyOf Try.f178 0) := by
  intro e L out h
  exact lo_ok (E := slices_IndexF_l0_E v3039 v3040) (gT := slices_IndexF_l0_T v3039 v3040) (X := slices_IndexF_l0_X v3039 v3040) (s0 := (gI (vAt e 8))) tok slices_IndexF_hO mixed (LoopsOk_eq (l := []) (by kernel_rfl) trivial) (slices_IndexF_l0_be v3039 v3040) rfl (by intro x; (cases x with | inl b => rfl | inr x => exact rfl)) h
noncomputable def slices_IndexF_T (v3039 : List Nat) (v3040 : Nat) : Tree (Int) :=
  (.need (some (slices_IndexF_l0_E v3039 v3040 (0 : Int)) = some (slices_IndexF_l0_E v3039 v3040 (0 : Int))) <|
  (.call (slices_IndexF_l0_g v3039 v3040 (0 : Int)) fun v3044 =>
  (.sum v3044 (fun v3045 =>
   .leaf v3045
  ) (fun v3046 =>
   .leaf (-1 : Int)
  ))))

noncomputable def slices_IndexF_g (v3039 : List Nat) (v3040 : Nat) : Option (Int) := (slices_IndexF_T v3039 v3040).run
def slices_IndexF_enc (v3039 : List Nat) (v3040 : Nat) (y : Int) : Rs := (.int .i64 y, [])
theorem slices_IndexF_den (v3039 : List Nat) (v3040 : Nat) : (den TT (tabD slices_IndexF_tab) (tabM slices_IndexF_tab) (slices_IndexF_LO v3039 v3040) (codeOf Try.f178) ([.bslc (BR.root 0) (.f32 v3039), .flt .f32 v3040] ++ List.replicate (Try.f178.ntmps - ([.bslc (BR.root 0) (.f32 v3039), .flt .f32 v3040] : List DV).length) .undef) []).bind (retD TT Try.f178.results.toList 0) = (slices_IndexF_T v3039 v3040).bind fun y => .leaf (slices_IndexF_enc v3039 v3040 y) := by kernel_rfl
theorem slices_IndexF_fn (v3039 : List Nat) (v3040 : Nat) (F : Fr) (hm : F.ids.length = 0) (h0 : St F [] F.H0) (hA : DVs.Ok F [] [.bslc (BR.root 0) (.f32 v3039), .flt .f32 v3040]) {y : Int} (hy : slices_IndexF_g v3039 v3040 = some y) : ∃ H', FnOk Try.prog 178 (DVs.av F [.bslc (BR.root 0) (.f32 v3039), .flt .f32 v3040]) F.H0 ((slices_IndexF_enc v3039 v3040 y).1.av F) H' ∧ St F (slices_IndexF_enc v3039 v3040 y).2 H' ∧ (slices_IndexF_enc v3039 v3040 y).1.Ok F (slices_IndexF_enc v3039 v3040 y).2 :=
  fn_fin tok slices_IndexF_hO mixed Try.func178 Try.call178 (by kernel_rfl) (LoopsOk_eq (l := [(0, bodyOf Try.f178 0)]) (by kernel_rfl) ⟨slices_IndexF_l0_ok v3039 v3040, trivial⟩) (slices_IndexF_den v3039 v3040) hy hm h0 hA
noncomputable def slices_IndexF_F : DFn := fun args L =>
  match args with
  | [a1, .flt .f32 v3040] =>
    optT (rowF32 L a1) fun v3039 =>
    .call (slices_IndexF_g v3039 v3040) fun y => .leaf (.int .i64 y, L)
  | _ => .fail
theorem slices_IndexF_Fok : COk Try.prog 178 slices_IndexF_F true := by
  intro F L H args r L' hs ha hr
  unfold slices_IndexF_F at hr
  split at hr
  · rename_i a1 v3040
    obtain ⟨v3039, hv3039, hr⟩ := optT_run hr
    simp only [Tree.run] at hr
    obtain ⟨y, hy, hr⟩ := Option.bind_eq_some_iff.1 hr
    simp only [Tree.run, Option.some.injEq, Prod.mk.injEq] at hr
    obtain ⟨rfl, rfl⟩ := hr
    exact call_ok0 hs (fun k => (([a1.av F] : List AV)[k]?).getD .top) [a1, .flt .f32 v3040] [.bslc (BR.root 0) (.f32 v3039), .flt .f32 v3040] (fun F' h0 hi hρ => ⟨by simp [DVs.av, DV.av, BR.av, hρ], slices_IndexF_fn v3039 v3040 F' (by rw [hi]; rfl) (st_nil hi) ⟨bslc_ok hi (by rw [h0, hρ]; exact rowF32_ok hs (DVs.okAt ha 0 rfl) hv3039), trivial, trivial⟩ hy⟩) rfl
  · cases hr
/-! slices.Contains[list of float32,float32] -/
noncomputable def slices_ContainsF_LO (v3037 : List Nat) (v3038 : Nat) : LOr := fun id e L =>
  match id with
  | _ => .fail
noncomputable def slices_ContainsF_tab : List (FuncId × DFn × Bool) := [(178, slices_IndexF_F, true)]
theorem slices_ContainsF_hO : OrcOk Try.prog (tabD slices_ContainsF_tab) (tabM slices_ContainsF_tab) := tabD_cons slices_IndexF_Fok (tabD_nil _)
noncomputable def slices_ContainsF_T (v3037 : List Nat) (v3038 : Nat) : Tree (Bool) :=
  (.call (slices_IndexF_g v3037 v3038) fun v3047 =>
  .leaf (decide ((0 : Int) ≤ v3047)))

noncomputable def slices_ContainsF_g (v3037 : List Nat) (v3038 : Nat) : Option (Bool) := (slices_ContainsF_T v3037 v3038).run
def slices_ContainsF_enc (v3037 : List Nat) (v3038 : Nat) (y : Bool) : Rs := (.bool y, [])
theorem slices_ContainsF_den (v3037 : List Nat) (v3038 : Nat) : (den TT (tabD slices_ContainsF_tab) (tabM slices_ContainsF_tab) (slices_ContainsF_LO v3037 v3038) (codeOf Try.f171) ([.bslc (BR.root 0) (.f32 v3037), .flt .f32 v3038] ++ List.replicate (Try.f171.ntmps - ([.bslc (BR.root 0) (.f32 v3037), .flt .f32 v3038] : List DV).length) .undef) []).bind (retD TT Try.f171.results.toList 0) = (slices_ContainsF_T v3037 v3038).bind fun y => .leaf (slices_ContainsF_enc v3037 v3038 y) := by kernel_rfl
theorem slices_ContainsF_fn (v3037 : List Nat) (v3038 : Nat) (F : Fr) (hm : F.ids.length = 0) (h0 : St F [] F.H0) (hA : DVs.Ok F [] [.bslc (BR.root 0) (.f32 v3037), .flt .f32 v3038]) {y : Bool} (hy : slices_ContainsF_g v3037 v3038 = some y) : ∃ H', FnOk Try.prog 171 (DVs.av F [.bslc (BR.root 0) (.f32 v3037), .flt .f32 v3038]) F.H0 ((slices_ContainsF_enc v3037 v3038 y).1.av F) H' ∧ St F (slices_ContainsF_enc v3037 v3038 y).2 H' ∧ (slices_ContainsF_enc v3037 v3038 y).1.Ok F (slices_ContainsF_enc v3037 v3038 y).2 :=
  fn_fin tok slices_ContainsF_hO mixed Try.func171 Try.call171 (by kernel_rfl) (LoopsOk_eq (l := []) (by kernel_rfl) trivial) (slices_ContainsF_den v3037 v3038) hy hm h0 hA
noncomputable def slices_ContainsF_F : DFn := fun args L =>
  match args with
  | [a1, .flt .f32 v3038] =>
    optT (rowF32 L a1) fun v3037 =>
    .call (slices_ContainsF_g v3037 v3038) fun y => .leaf (.bool y, L)
  | _ => .fail
theorem slices_ContainsF_Fok : COk Try.prog 171 slices_ContainsF_F true := by
  intro F L H args r L' hs ha hr
  unfold slices_ContainsF_F at hr
  split at hr
  · rename_i a1 v3038
    obtain ⟨v3037, hv3037, hr⟩ := optT_run hr
    simp only [Tree.run] at hr
    obtain ⟨y, hy, hr⟩ := Option.bind_eq_some_iff.1 hr
    simp only [Tree.run, Option.some.injEq, Prod.mk.injEq] at hr
    obtain ⟨rfl, rfl⟩ := hr
    exact call_ok0 hs (fun k => (([a1.av F] : List AV)[k]?).getD .top) [a1, .flt .f32 v3038] [.bslc (BR.root 0) (.f32 v3037), .flt .f32 v3038] (fun F' h0 hi hρ => ⟨by simp [DVs.av, DV.av, BR.av, hρ], slices_ContainsF_fn v3037 v3038 F' (by rw [hi]; rfl) (st_nil hi) ⟨bslc_ok hi (by rw [h0, hρ]; exact rowF32_ok hs (DVs.okAt ha 0 rfl) hv3037), trivial, trivial⟩ hy⟩) rfl
  · cases hr
/-! (impl.Matrix).lessRow -/
noncomputable def impl_Matrix_lessRow_l0_T (v3056 : Int) (v3057 : List Nat) (v3059 : Int) (v3061 : Int) (v3062 : List Nat) (s : Nat × Int) : Tree ((Nat × Int) ⊕ (Nat)) :=
  (.br (decide (s.2 < v3061)) (
   (.call (impl_Matrix_at_g v3056 v3057 v3059 s.2) fun v3071 =>
   (.grd (inb s.2 v3062.length) <|
   .leaf (.inl (fsub .f32 s.1 (impl_mul_v v3071 (nth v3062 (Int.toNat s.2))), IntKind.i64.wrap (s.2 + (1 : Int))))))
  ) (
   .leaf (.inr s.1)
  ))

noncomputable def impl_Matrix_lessRow_l0_g (v3056 : Int) (v3057 : List Nat) (v3059 : Int) (v3061 : Int) (v3062 : List Nat) (s0 : Nat × Int) : Option (Nat) := whileM (fun s => (impl_Matrix_lessRow_l0_T v3056 v3057 v3059 v3061 v3062 s).run) s0
def impl_Matrix_lessRow_l0_E (v3055 : Int) (v3056 : Int) (v3057 : List Nat) (v3058 : Nat) (v3059 : Int) (v3060 : Int) (v3061 : Int) (v3062 : List Nat) (s : Nat × Int) : Sd := ([.top, .flt .f32 s.1, .int .i64 v3059, .top, .int .i64 v3061, .bslc (BR.root 1) (.f32 v3062), .ptr 0 (0 : Nat) 0 (3 : Nat), .top, .top, .top, .top, .top, .top, .int .i64 s.2, .top, .top, .top, .top, .top, .top, .top, .top, .top, .top, .top, .top, .top, .top, .top, .top, .top, .top], [.gen [.int .i64 v3055, .int .i64 v3056, .bslc (BR.root 0) (.f32 v3057)] false 0])
def impl_Matrix_lessRow_l0_X (v3055 : Int) (v3056 : Int) (v3057 : List Nat) (v3058 : Nat) (v3059 : Int) (v3060 : Int) (v3061 : Int) (v3062 : List Nat) (x : Nat) : Out := (.normal, [.top, .flt .f32 x, .top, .top, .top, .top, .top, .top, .top, .top, .top, .top, .top, .top, .top, .top, .top, .top, .top, .top, .top, .top, .top, .top, .top, .top, .top, .top, .top, .top, .top, .top], [])
def impl_Matrix_lessRow_l0_kill : List Nat := [1, 0, 0, 1, 0, 0, 0, 1, 1, 1, 1, 1, 1, 0, 1, 1, 1, 1, 1, 1, 1, 1, 1, 1, 1, 1, 1, 1, 1, 1, 1, 1]
def impl_Matrix_lessRow_l0_nx : Exit → List Nat
  | .exit 0 => [1, 0, 1, 1, 1, 1, 1, 1, 1, 1, 1, 1, 1, 1, 1, 1, 1, 1, 1, 1, 1, 1, 1, 1, 1, 1, 1, 1, 1, 1, 1, 1]
  | .ret => [1, 1, 1, 1, 1, 1, 1, 1, 1, 1, 1, 1, 0, 1, 1, 1, 1, 1, 1, 1, 1, 1, 1, 1, 1, 1, 1, 1, 1, 1, 1, 1]
  | _ => []
noncomputable def impl_Matrix_lessRow_LO (v3055 : Int) (v3056 : Int) (v3057 : List Nat) (v3058 : Nat) (v3059 : Int) (v3060 : Int) (v3061 : Int) (v3062 : List Nat) : LOr := fun id e L =>
  match id with
  | 0 => .need (normA 0 impl_Matrix_lessRow_l0_kill e L = some (impl_Matrix_lessRow_l0_E v3055 v3056 v3057 v3058 v3059 v3060 v3061 v3062 ((gF (vAt e 1)), (gI (vAt e 13))))) (.call (impl_Matrix_lessRow_l0_g v3056 v3057 v3059 v3061 v3062 ((gF (vAt e 1)), (gI (vAt e 13)))) fun x => .leaf (impl_Matrix_lessRow_l0_X v3055 v3056 v3057 v3058 v3059 v3060 v3061 v3062 x))
  | _ => .fail
noncomputable def impl_Matrix_lessRow_tab : List (FuncId × DFn × Bool) := [(49, impl_Matrix_at_F, true), (50, impl_mul_F, true)]
theorem impl_Matrix_lessRow_hO : OrcOk Try.prog (tabD impl_Matrix_lessRow_tab) (tabM impl_Matrix_lessRow_tab) := tabD_cons impl_Matrix_at_Fok (tabD_cons impl_mul_Fok (tabD_nil _))
theorem impl_Matrix_lessRow_l0_be (v3055 : Int) (v3056 : Int) (v3057 : List Nat) (v3058 : Nat) (v3059 : Int) (v3060 : Int) (v3061 : Int) (v3062 : List Nat) (s : Nat × Int) : bodyT TT (tabD impl_Matrix_lessRow_tab) (tabM impl_Matrix_lessRow_tab) (impl_Matrix_lessRow_LO v3055 v3056 v3057 v3058 v3059 v3060 v3061 v3062) 0 impl_Matrix_lessRow_l0_kill impl_Matrix_lessRow_l0_nx (bodyOf Try.f179 0) 0 (impl_Matrix_lessRow_l0_E v3055 v3056 v3057 v3058 v3059 v3060 v3061 v3062 s) = (impl_Matrix_lessRow_l0_T v3056 v3057 v3059 v3061 v3062 s).bind fun y => .leaf (outS (impl_Matrix_lessRow_l0_E v3055 v3056 v3057 v3058 v3059 v3060 v3061 v3062) (impl_Matrix_lessRow_l0_X v3055 v3056 v3057 v3058 v3059 v3060 v3061 v3062) y) := by kernel_rfl
theorem impl_Matrix_lessRow_l0_ok (v3055 : Int) (v3056 : Int) (v3057 : List Nat) (v3058 : Nat) (v3059 : Int) (v3060 : Int) (v3061 : Int) (v3062 : List Nat) : LSound Try.prog 0 (impl_Matrix_lessRow_LO v3055 v3056 v3057 v3058 v3059 v3060 v3061 v3062) 0 (bodyOf Try.f179 0) := by
  intro e L out h
  exact lo_ok (E := impl_Matrix_lessRow_l0_E v3055 v3056 v3057 v3058 v3059 v3060 v3061 v3062) (gT := impl_Matrix_lessRow_l0_T v3056 v3057 v3059 v3061 v3062) (X := impl_Matrix_lessRow_l0_X v3055 v3056 v3057 v3058 v3059 v3060 v3061 v3062) (s0 := ((gF (vAt e 1)), (gI (vAt e 13)))) tok impl_Matrix_lessRow_hO mixed (LoopsOk_eq (l := []) (by kernel_rfl) trivial) (impl_Matrix_lessRow_l0_be v3055 v3056 v3057 v3058 v3059 v3060 v3061 v3062) rfl (by intro x; rfl) h
noncomputable def impl_Matrix_lessRow_T (v3055 : Int) (v3056 : Int) (v3057 : List Nat) (v3058 : Nat) (v3059 : Int) (v3060 : Int) (v3061 : Int) (v3062 : List Nat) : Tree (Nat) :=
  (.need (some (impl_Matrix_lessRow_l0_E v3055 v3056 v3057 v3058 v3059 v3060 v3061 v3062 (v3058, v3060)) = some (impl_Matrix_lessRow_l0_E v3055 v3056 v3057 v3058 v3059 v3060 v3061 v3062 (v3058, v3060))) <|
  (.call (impl_Matrix_lessRow_l0_g v3056 v3057 v3059 v3061 v3062 (v3058, v3060)) fun v3072 =>
  .leaf v3072))

noncomputable def impl_Matrix_lessRow_g (v3055 : Int) (v3056 : Int) (v3057 : List Nat) (v3058 : Nat) (v3059 : Int) (v3060 : Int) (v3061 : Int) (v3062 : List Nat) : Option (Nat) := (impl_Matrix_lessRow_T v3055 v3056 v3057 v3058 v3059 v3060 v3061 v3062).run
def impl_Matrix_lessRow_enc (v3055 : Int) (v3056 : Int) (v3057 : List Nat) (v3058 : Nat) (v3059 : Int) (v3060 : Int) (v3061 : Int) (v3062 : List Nat) (y : Nat) : Rs := (.flt .f32 y, [])
theorem impl_Matrix_lessRow_den (v3055 : Int) (v3056 : Int) (v3057 : List Nat) (v3058 : Nat) (v3059 : Int) (v3060 : Int) (v3061 : Int) (v3062 : List Nat) : (den TT (tabD impl_Matrix_lessRow_tab) (tabM impl_Matrix_lessRow_tab) (impl_Matrix_lessRow_LO v3055 v3056 v3057 v3058 v3059 v3060 v3061 v3062) (codeOf Try.f179) ([.agg [.int .i64 v3055, .int .i64 v3056, .bslc (BR.root 0) (.f32 v3057)], .flt .f32 v3058, .int .i64 v3059, .int .i64 v3060, .int .i64 v3061, .bslc (BR.root 1) (.f32 v3062)] ++ List.replicate (Try.f179.ntmps - ([.agg [.int .i64 v3055, .int .i64 v3056, .bslc (BR.root 0) (.f32 v3057)], .flt .f32 v3058, .int .i64 v3059, .int .i64 v3060, .int .i64 v3061, .bslc (BR.root 1) (.f32 v3062)] : List DV).length) .undef) []).bind (retD TT Try.f179.results.toList 0) = (impl_Matrix_lessRow_T v3055 v3056 v3057 v3058 v3059 v3060 v3061 v3062).bind fun y => .leaf (impl_Matrix_lessRow_enc v3055 v3056 v3057 v3058 v3059 v3060 v3061 v3062 y) := by kernel_rfl
theorem impl_Matrix_lessRow_fn (v3055 : Int) (v3056 : Int) (v3057 : List Nat) (v3058 : Nat) (v3059 : Int) (v3060 : Int) (v3061 : Int) (v3062 : List Nat) (F : Fr) (hm : F.ids.length = 0) (h0 : St F [] F.H0) (hA : DVs.Ok F [] [.agg [.int .i64 v3055, .int .i64 v3056, .bslc (BR.root 0) (.f32 v3057)], .flt .f32 v3058, .int .i64 v3059, .int .i64 v3060, .int .i64 v3061, .bslc (BR.root 1) (.f32 v3062)]) {y : Nat} (hy : impl_Matrix_lessRow_g v3055 v3056 v3057 v3058 v3059 v3060 v3061 v3062 = some y) : ∃ H', FnOk Try.prog 179 (DVs.av F [.agg [.int .i64 v3055, .int .i64 v3056, .bslc (BR.root 0) (.f32 v3057)], .flt .f32 v3058, .int .i64 v3059, .int .i64 v3060, .int .i64 v3061, .bslc (BR.root 1) (.f32 v3062)]) F.H0 ((impl_Matrix_lessRow_enc v3055 v3056 v3057 v3058 v3059 v3060 v3061 v3062 y).1.av F) H' ∧ St F (impl_Matrix_lessRow_enc v3055 v3056 v3057 v3058 v3059 v3060 v3061 v3062 y).2 H' ∧ (impl_Matrix_lessRow_enc v3055 v3056 v3057 v3058 v3059 v3060 v3061 v3062 y).1.Ok F (impl_Matrix_lessRow_enc v3055 v3056 v3057 v3058 v3059 v3060 v3061 v3062 y).2 :=
  fn_fin tok impl_Matrix_lessRow_hO mixed Try.func179 Try.call179 (by kernel_rfl) (LoopsOk_eq (l := [(0, bodyOf Try.f179 0)]) (by kernel_rfl) ⟨impl_Matrix_lessRow_l0_ok v3055 v3056 v3057 v3058 v3059 v3060 v3061 v3062, trivial⟩) (impl_Matrix_lessRow_den v3055 v3056 v3057 v3058 v3059 v3060 v3061 v3062) hy hm h0 hA
noncomputable def impl_Matrix_lessRow_F : DFn := fun args L =>
  match args with
  | [.agg [.int .i64 v3055, .int .i64 v3056, a1], .flt .f32 v3058, .int .i64 v3059, .int .i64 v3060, .int .i64 v3061, a2] =>
    optT (rowF32 L a1) fun v3057 =>
    optT (rowF32 L a2) fun v3062 =>
    .call (impl_Matrix_lessRow_g v3055 v3056 v3057 v3058 v3059 v3060 v3061 v3062) fun y => .leaf (.flt .f32 y, L)
  | _ => .fail
theorem impl_Matrix_lessRow_Fok : COk Try.prog 179 impl_Matrix_lessRow_F true := by
  intro F L H args r L' hs ha hr
  unfold impl_Matrix_lessRow_F at hr
  split at hr
  · rename_i v3055 v3056 a1 v3058 v3059 v3060 v3061 a2
    obtain ⟨v3057, hv3057, hr⟩ := optT_run hr
    obtain ⟨v3062, hv3062, hr⟩ := optT_run hr
    simp only [Tree.run] at hr
    obtain ⟨y, hy, hr⟩ := Option.bind_eq_some_iff.1 hr
    simp only [Tree.run, Option.some.injEq, Prod.mk.injEq] at hr
    obtain ⟨rfl, rfl⟩ := hr
    exact call_ok0 hs (fun k => (([a1.av F, a2.av F] : List AV)[k]?).getD .top) [.agg [.int .i64 v3055, .int .i64 v3056, a1], .flt .f32 v3058, .int .i64 v3059, .int .i64 v3060, .int .i64 v3061, a2] [.agg [.int .i64 v3055, .int .i64 v3056, .bslc (BR.root 0) (.f32 v3057)], .flt .f32 v3058, .int .i64 v3059, .int .i64 v3060, .int .i64 v3061, .bslc (BR.root 1) (.f32 v3062)] (fun F' h0 hi hρ => ⟨by simp [DVs.av, DV.av, BR.av, hρ], impl_Matrix_lessRow_fn v3055 v3056 v3057 v3058 v3059 v3060 v3061 v3062 F' (by rw [hi]; rfl) (st_nil hi) ⟨⟨trivial, trivial, bslc_ok hi (by rw [h0, hρ]; exact rowF32_ok hs (DVs.okAt (DVs.okAt ha 0 rfl) 2 rfl) hv3057), trivial⟩, trivial, trivial, trivial, trivial, bslc_ok hi (by rw [h0, hρ]; exact rowF32_ok hs (DVs.okAt ha 5 rfl) hv3062), trivial⟩ hy⟩) rfl
  · cases hr
/-! (impl.Matrix).upperSolve -/
noncomputable def impl_Matrix_upperSolve_l0_T (v3049 : Int) (v3050 : Int) (v3051 : List Nat) (s : Int × (List Nat)) : Tree ((Int × (List Nat)) ⊕ ((List Nat))) :=
  (.br (decide ((0 : Int) ≤ s.1)) (
   (.grd (inb s.1 ((s.2).length)) <|
   (.call (impl_Matrix_lessRow_g v3049 v3050 v3051 (nth s.2 (Int.toNat s.1)) s.1 (IntKind.i64.wrap (s.1 + (1 : Int))) v3050 s.2) fun v3081 =>
   (.call (impl_Matrix_at_g v3050 v3051 s.1 s.1) fun v3082 =>
   (.grd (inb s.1 ((s.2).length)) <|
   .leaf (.inl (IntKind.i64.wrap (s.1 - (1 : Int)), List.set s.2 (Int.toNat s.1) (fdiv .f32 v3081 v3082)))))))
  ) (
   .leaf (.inr s.2)
  ))

noncomputable def impl_Matrix_upperSolve_l0_g (v3049 : Int) (v3050 : Int) (v3051 : List Nat) (s0 : Int × (List Nat)) : Option ((List Nat)) := whileM (fun s => (impl_Matrix_upperSolve_l0_T v3049 v3050 v3051 s).run) s0
def impl_Matrix_upperSolve_l0_E (v3049 : Int) (v3050 : Int) (v3051 : List Nat) (v3052 : List Nat) (s : Int × (List Nat)) : Sd := ([.top, .top, .ptr 0 (0 : Nat) 0 (3 : Nat), .top, .top, .own 1 0 ((s.2).length), .int .i64 s.1, .top, .top, .top, .top, .top, .top, .top, .top, .top, .top, .top, .top, .top, .top, .top, .top, .top, .top, .top, .top, .top, .top, .top, .top, .top, .top, .top, .top, .top, .top], [.gen [.int .i64 v3049, .int .i64 v3050, .bslc (BR.root 0) (.f32 v3051)] false 0, .row (.f32 s.2) 0])
def impl_Matrix_upperSolve_l0_X (v3049 : Int) (v3050 : Int) (v3051 : List Nat) (v3052 : List Nat) (x : (List Nat)) : Out := (.normal, [.top, .top, .top, .top, .top, .own 0 0 ((x).length), .top, .top, .top, .top, .top, .top, .top, .top, .top, .top, .top, .top, .top, .top, .top, .top, .top, .top, .top, .top, .top, .top, .top, .top, .top, .top, .top, .top, .top, .top, .top], [.row (.f32 x) 0])
def impl_Matrix_upperSolve_l0_kill : List Nat := [1, 1, 0, 1, 1, 0, 0, 1, 1, 1, 1, 1, 1, 1, 1, 1, 1, 1, 1, 1, 1, 1, 1, 1, 1, 1, 1, 1, 1, 1, 1, 1, 1, 1, 1, 1, 1]
def impl_Matrix_upperSolve_l0_nx : Exit → List Nat
  | .exit 0 => [1, 1, 1, 1, 1, 0, 1, 1, 1, 1, 1, 1, 1, 1, 1, 1, 1, 1, 1, 1, 1, 1, 1, 1, 1, 1, 1, 1, 1, 1, 1, 1, 1, 1, 1, 1, 1]
  | .ret => [1, 1, 1, 1, 0, 1, 1, 1, 1, 1, 1, 1, 1, 1, 1, 1, 1, 1, 1, 1, 1, 1, 1, 1, 1, 1, 1, 1, 1, 1, 1, 1, 1, 1, 1, 1, 1]
  | _ => []
noncomputable def impl_Matrix_upperSolve_LO (v3049 : Int) (v3050 : Int) (v3051 : List Nat) (v3052 : List Nat) : LOr := fun id e L =>
  match id with
  | 0 => .need (normA 0 impl_Matrix_upperSolve_l0_kill e L = some (impl_Matrix_upperSolve_l0_E v3049 v3050 v3051 v3052 ((gI (vAt e 6)), (gRF L (vAt e 5))))) (.call (impl_Matrix_upperSolve_l0_g v3049 v3050 v3051 ((gI (vAt e 6)), (gRF L (vAt e 5)))) fun x => .leaf (impl_Matrix_upperSolve_l0_X v3049 v3050 v3051 v3052 x))
  | _ => .fail
noncomputable def impl_Matrix_upperSolve_tab : List (FuncId × DFn × Bool) := [(112, slices_CloneF_F, true), (179, impl_Matrix_lessRow_F, true), (49, impl_Matrix_at_F, true)]
theorem impl_Matrix_upperSolve_hO : OrcOk Try.prog (tabD impl_Matrix_upperSolve_tab) (tabM impl_Matrix_upperSolve_tab) := tabD_cons slices_CloneF_Fok (tabD_cons impl_Matrix_lessRow_Fok (tabD_cons impl_Matrix_at_Fok (tabD_nil _)))
theorem impl_Matrix_upperSolve_l0_be (v3049 : Int) (v3050 : Int) (v3051 : List Nat) (v3052 : List Nat) (s : Int × (List Nat)) : bodyT TT (tabD impl_Matrix_upperSolve_tab) (tabM impl_Matrix_upperSolve_tab) (impl_Matrix_upperSolve_LO v3049 v3050 v3051 v3052) 0 impl_Matrix_upperSolve_l0_kill impl_Matrix_upperSolve_l0_nx (bodyOf Try.f173 0) 0 (impl_Matrix_upperSolve_l0_E v3049 v3050 v3051 v3052 s) = (impl_Matrix_upperSolve_l0_T v3049 v3050 v3051 s).bind fun y => .leaf (outS (impl_Matrix_upperSolve_l0_E v3049 v3050 v3051 v3052) (impl_Matrix_upperSolve_l0_X v3049 v3050 v3051 v3052) y) := by kernel_rfl
theorem impl_Matrix_upperSolve_l0_ok (v3049 : Int) (v3050 : Int) (v3051 : List Nat) (v3052 : List Nat) : LSound Try.prog 0 (impl_Matrix_upperSolve_LO v3049 v3050 v3051 v3052) 0 (bodyOf Try.f173 0) := by
  intro e L out h
  exact lo_ok (E := impl_Matrix_upperSolve_l0_E v3049 v3050 v3051 v3052) (gT := impl_Matrix_upperSolve_l0_T v3049 v3050 v3051) (X := impl_Matrix_upperSolve_l0_X v3049 v3050 v3051 v3052) (s0 := ((gI (vAt e 6)), (gRF L (vAt e 5)))) tok impl_Matrix_upperSolve_hO mixed (LoopsOk_eq (l := []) (by kernel_rfl) trivial) (impl_Matrix_upperSolve_l0_be v3049 v3050 v3051 v3052) rfl (by intro x; rfl) h
noncomputable def impl_Matrix_upperSolve_T (v3049 : Int) (v3050 : Int) (v3051 : List Nat) (v3052 : List Nat) : Tree ((List Nat)) :=
  (.call (slices_CloneF_g v3052) fun v3053 =>
  (.need (some (impl_Matrix_upperSolve_l0_E v3049 v3050 v3051 v3052 (IntKind.i64.wrap (v3049 - (1 : Int)), ([] : List Nat) ++ v3052)) = some (impl_Matrix_upperSolve_l0_E v3049 v3050 v3051 v3052 (IntKind.i64.wrap (v3049 - (1 : Int)), ([] : List Nat) ++ v3052))) <|
  (.call (impl_Matrix_upperSolve_l0_g v3049 v3050 v3051 (IntKind.i64.wrap (v3049 - (1 : Int)), ([] : List Nat) ++ v3052)) fun v3083 =>
  .leaf v3083)))

noncomputable def impl_Matrix_upperSolve_g (v3049 : Int) (v3050 : Int) (v3051 : List Nat) (v3052 : List Nat) : Option ((List Nat)) := (impl_Matrix_upperSolve_T v3049 v3050 v3051 v3052).run
def impl_Matrix_upperSolve_enc (v3049 : Int) (v3050 : Int) (v3051 : List Nat) (v3052 : List Nat) (y : (List Nat)) : Rs := (.own 0 0 ((y).length), [.row (.f32 y) 0])
theorem impl_Matrix_upperSolve_den (v3049 : Int) (v3050 : Int) (v3051 : List Nat) (v3052 : List Nat) : (den TT (tabD impl_Matrix_upperSolve_tab) (tabM impl_Matrix_upperSolve_tab) (impl_Matrix_upperSolve_LO v3049 v3050 v3051 v3052) (codeOf Try.f173) ([.agg [.int .i64 v3049, .int .i64 v3050, .bslc (BR.root 0) (.f32 v3051)], .bslc (BR.root 1) (.f32 v3052)] ++ List.replicate (Try.f173.ntmps - ([.agg [.int .i64 v3049, .int .i64 v3050, .bslc (BR.root 0) (.f32 v3051)], .bslc (BR.root 1) (.f32 v3052)] : List DV).length) .undef) []).bind (retD TT Try.f173.results.toList 0) = (impl_Matrix_upperSolve_T v3049 v3050 v3051 v3052).bind fun y => .leaf (impl_Matrix_upperSolve_enc v3049 v3050 v3051 v3052 y) := by kernel_rfl
theorem impl_Matrix_upperSolve_fn (v3049 : Int) (v3050 : Int) (v3051 : List Nat) (v3052 : List Nat) (F : Fr) (hm : F.ids.length = 0) (h0 : St F [] F.H0) (hA : DVs.Ok F [] [.agg [.int .i64 v3049, .int .i64 v3050, .bslc (BR.root 0) (.f32 v3051)], .bslc (BR.root 1) (.f32 v3052)]) {y : (List Nat)} (hy : impl_Matrix_upperSolve_g v3049 v3050 v3051 v3052 = some y) : ∃ H', FnOk Try.prog 173 (DVs.av F [.agg [.int .i64 v3049, .int .i64 v3050, .bslc (BR.root 0) (.f32 v3051)], .bslc (BR.root 1) (.f32 v3052)]) F.H0 ((impl_Matrix_upperSolve_enc v3049 v3050 v3051 v3052 y).1.av F) H' ∧ St F (impl_Matrix_upperSolve_enc v3049 v3050 v3051 v3052 y).2 H' ∧ (impl_Matrix_upperSolve_enc v3049 v3050 v3051 v3052 y).1.Ok F (impl_Matrix_upperSolve_enc v3049 v3050 v3051 v3052 y).2 :=
  fn_fin tok impl_Matrix_upperSolve_hO mixed Try.func173 Try.call173 (by kernel_rfl) (LoopsOk_eq (l := [(0, bodyOf Try.f173 0)]) (by kernel_rfl) ⟨impl_Matrix_upperSolve_l0_ok v3049 v3050 v3051 v3052, trivial⟩) (impl_Matrix_upperSolve_den v3049 v3050 v3051 v3052) hy hm h0 hA
noncomputable def impl_Matrix_upperSolve_F : DFn := fun args L =>
  match args with
  | [.agg [.int .i64 v3049, .int .i64 v3050, a1], a2] =>
    optT (rowF32 L a1) fun v3051 =>
    optT (rowF32 L a2) fun v3052 =>
    .call (impl_Matrix_upperSolve_g v3049 v3050 v3051 v3052) fun y => .leaf (.own (L.length + 0) 0 ((y).length), L ++ [.row (.f32 y) 0])
  | _ => .fail
theorem impl_Matrix_upperSolve_Fok : COk Try.prog 173 impl_Matrix_upperSolve_F true := by
  intro F L H args r L' hs ha hr
  unfold impl_Matrix_upperSolve_F at hr
  split at hr
  · rename_i v3049 v3050 a1 a2
    obtain ⟨v3051, hv3051, hr⟩ := optT_run hr
    obtain ⟨v3052, hv3052, hr⟩ := optT_run hr
    simp only [Tree.run] at hr
    obtain ⟨y, hy, hr⟩ := Option.bind_eq_some_iff.1 hr
    simp only [Tree.run, Option.some.injEq, Prod.mk.injEq] at hr
    obtain ⟨rfl, rfl⟩ := hr
    exact call_ok1 hs (fun k => (([a1.av F, a2.av F] : List AV)[k]?).getD .top) [.agg [.int .i64 v3049, .int .i64 v3050, a1], a2] [.agg [.int .i64 v3049, .int .i64 v3050, .bslc (BR.root 0) (.f32 v3051)], .bslc (BR.root 1) (.f32 v3052)] (fun F' h0 hi hρ => ⟨by simp [DVs.av, DV.av, BR.av, hρ], impl_Matrix_upperSolve_fn v3049 v3050 v3051 v3052 F' (by rw [hi]; rfl) (st_nil hi) ⟨⟨trivial, trivial, bslc_ok hi (by rw [h0, hρ]; exact rowF32_ok hs (DVs.okAt (DVs.okAt ha 0 rfl) 2 rfl) hv3051), trivial⟩, bslc_ok hi (by rw [h0, hρ]; exact rowF32_ok hs (DVs.okAt ha 1 rfl) hv3052), trivial⟩ hy⟩) rfl rfl
  · cases hr
/-! impl.allFinite -/
noncomputable def impl_allFinite_LO (v3085 : List Nat) : LOr := fun id e L =>
  match id with
  | _ => .fail
noncomputable def impl_allFinite_tab : List (FuncId × DFn × Bool) := [(42, impl_areFinite_F, true)]
theorem impl_allFinite_hO : OrcOk Try.prog (tabD impl_allFinite_tab) (tabM impl_allFinite_tab) := tabD_cons impl_areFinite_Fok (tabD_nil _)
noncomputable def impl_allFinite_T (v3085 : List Nat) : Tree ((Unit) ⊕ (Unit)) :=
  (.call (impl_areFinite_g v3085) fun v3086 =>
  (.br (!v3086) (
   .leaf (.inl ())
  ) (
   .leaf (.inr ())
  )))

noncomputable def impl_allFinite_g (v3085 : List Nat) : Option ((Unit) ⊕ (Unit)) := (impl_allFinite_T v3085).run
def impl_allFinite_enc (v3085 : List Nat) (y : (Unit) ⊕ (Unit)) : Rs := (match y with | .inl y => (.tup [.nilslc, .lit false], []) | .inr y => (.tup [.bslc (BR.root 0) (.f32 v3085), .lit true], []))
theorem impl_allFinite_den (v3085 : List Nat) : (den TT (tabD impl_allFinite_tab) (tabM impl_allFinite_tab) (impl_allFinite_LO v3085) (codeOf Try.f136) ([.bslc (BR.root 0) (.f32 v3085)] ++ List.replicate (Try.f136.ntmps - ([.bslc (BR.root 0) (.f32 v3085)] : List DV).length) .undef) []).bind (retD TT Try.f136.results.toList 0) = (impl_allFinite_T v3085).bind fun y => .leaf (impl_allFinite_enc v3085 y) := by kernel_rfl
theorem impl_allFinite_fn (v3085 : List Nat) (F : Fr) (hm : F.ids.length = 0) (h0 : St F [] F.H0) (hA : DVs.Ok F [] [.bslc (BR.root 0) (.f32 v3085)]) {y : (Unit) ⊕ (Unit)} (hy : impl_allFinite_g v3085 = some y) : ∃ H', FnOk Try.prog 136 (DVs.av F [.bslc (BR.root 0) (.f32 v3085)]) F.H0 ((impl_allFinite_enc v3085 y).1.av F) H' ∧ St F (impl_allFinite_enc v3085 y).2 H' ∧ (impl_allFinite_enc v3085 y).1.Ok F (impl_allFinite_enc v3085 y).2 :=
  fn_fin tok impl_allFinite_hO mixed Try.func136 Try.call136 (by kernel_rfl) (LoopsOk_eq (l := []) (by kernel_rfl) trivial) (impl_allFinite_den v3085) hy hm h0 hA
noncomputable def impl_allFinite_F : DFn := fun args L =>
  match args with
  | [a1] =>
    optT (rowF32 L a1) fun v3085 =>
    .call (impl_allFinite_g v3085) fun y => .sum y (fun y0 => .leaf (.tup [.nilslc, .lit false], L)) (fun z0 => .leaf (.tup [a1, .lit true], L))
  | _ => .fail
theorem impl_allFinite_Fok : COk Try.prog 136 impl_allFinite_F true := by
  intro F L H args r L' hs ha hr
  unfold impl_allFinite_F at hr
  split at hr
  · rename_i a1
    obtain ⟨v3085, hv3085, hr⟩ := optT_run hr
    simp only [Tree.run] at hr
    obtain ⟨y, hy, hr⟩ := Option.bind_eq_some_iff.1 hr
    cases y with
    | inl y =>
      simp only [Tree.run, Option.some.injEq, Prod.mk.injEq] at hr
      obtain ⟨rfl, rfl⟩ := hr
      exact call_ok0 hs (fun k => (([a1.av F] : List AV)[k]?).getD .top) [a1] [.bslc (BR.root 0) (.f32 v3085)] (fun F' h0 hi hρ => ⟨by simp [DVs.av, DV.av, BR.av, hρ], impl_allFinite_fn v3085 F' (by rw [hi]; rfl) (st_nil hi) ⟨bslc_ok hi (by rw [h0, hρ]; exact rowF32_ok hs (DVs.okAt ha 0 rfl) hv3085), trivial⟩ hy⟩) rfl
    | inr y =>
      simp only [Tree.run, Option.some.injEq, Prod.mk.injEq] at hr
      obtain ⟨rfl, rfl⟩ := hr
      exact call_al0 hs (fun k => (([a1.av F] : List AV)[k]?).getD .top) [a1] [.bslc (BR.root 0) (.f32 v3085)] (fun F' h0 hi hρ => ⟨by simp [DVs.av, DV.av, BR.av, hρ], impl_allFinite_fn v3085 F' (by rw [hi]; rfl) (st_nil hi) ⟨bslc_ok hi (by rw [h0, hρ]; exact rowF32_ok hs (DVs.okAt ha 0 rfl) hv3085), trivial⟩ hy⟩) (fun F' h0 hi hρ => by simp [impl_allFinite_enc, DVs.av, DV.av, BR.av, hρ]) ⟨(DVs.okAt ha 0 rfl), trivial, trivial⟩
  · cases hr
/-! impl.UpperSolve -/
noncomputable def impl_UpperSolve_LO (v3014 : Int) (v3015 : Int) (v3016 : List Nat) (v3017 : List Nat) : LOr := fun id e L =>
  match id with
  | _ => .fail
noncomputable def impl_UpperSolve_tab : List (FuncId × DFn × Bool) := [(47, impl_isSquare_F, true), (81, impl_IsVector_F, true), (82, impl_lengthF_F, true), (172, impl_Matrix_middle_F, true), (171, slices_ContainsF_F, true), (173, impl_Matrix_upperSolve_F, true), (136, impl_allFinite_F, true)]
theorem impl_UpperSolve_hO : OrcOk Try.prog (tabD impl_UpperSolve_tab) (tabM impl_UpperSolve_tab) := tabD_cons impl_isSquare_Fok (tabD_cons impl_IsVector_Fok (tabD_cons impl_lengthF_Fok (tabD_cons impl_Matrix_middle_Fok (tabD_cons slices_ContainsF_Fok (tabD_cons impl_Matrix_upperSolve_Fok (tabD_cons impl_allFinite_Fok (tabD_nil _)))))))
noncomputable def impl_UpperSolve_T (v3014 : Int) (v3015 : Int) (v3016 : List Nat) (v3017 : List Nat) : Tree ((Unit) ⊕ ((List Nat))) :=
  (.call (impl_isSquare_g v3014 v3015 v3016) fun v3022 =>
  (.br (!v3022) (
   .leaf (.inl ())
  ) (
   (.call (impl_IsVector_g v3017) fun v3023 =>
   (.br (!v3023) (
    .leaf (.inl ())
   ) (
    (.br (!decide ((impl_lengthF_v v3017) = v3014)) (
     .leaf (.inl ())
    ) (
     (.call (impl_Matrix_middle_g v3014 v3015 v3016) fun v3036 =>
     (.call (slices_ContainsF_g v3036 (0 : Nat)) fun v3048 =>
     (.br v3048 (
      .leaf (.inl ())
     ) (
      (.call (impl_Matrix_upperSolve_g v3014 v3015 v3016 v3017) fun v3084 =>
      (.call (impl_allFinite_g v3084) fun v3087 =>
      (.sum v3087 (fun v3088 =>
       .leaf (.inl ())
      ) (fun v3089 =>
       .leaf (.inr v3084)
      ))))
     ))))
    ))
   )))
  )))

noncomputable def impl_UpperSolve_g (v3014 : Int) (v3015 : Int) (v3016 : List Nat) (v3017 : List Nat) : Option ((Unit) ⊕ ((List Nat))) := (impl_UpperSolve_T v3014 v3015 v3016 v3017).run
def impl_UpperSolve_enc (v3014 : Int) (v3015 : Int) (v3016 : List Nat) (v3017 : List Nat) (y : (Unit) ⊕ ((List Nat))) : Rs := (match y with | .inl y => (.tup [.nilslc, .lit false], []) | .inr y => (.tup [.own 0 0 ((y).length), .lit true], [.row (.f32 y) 0]))
theorem impl_UpperSolve_den (v3014 : Int) (v3015 : Int) (v3016 : List Nat) (v3017 : List Nat) : (den TT (tabD impl_UpperSolve_tab) (tabM impl_UpperSolve_tab) (impl_UpperSolve_LO v3014 v3015 v3016 v3017) (codeOf Try.f154) ([.agg [.int .i64 v3014, .int .i64 v3015, .bslc (BR.root 0) (.f32 v3016)], .bslc (BR.root 1) (.f32 v3017)] ++ List.replicate (Try.f154.ntmps - ([.agg [.int .i64 v3014, .int .i64 v3015, .bslc (BR.root 0) (.f32 v3016)], .bslc (BR.root 1) (.f32 v3017)] : List DV).length) .undef) []).bind (retD TT Try.f154.results.toList 0) = (impl_UpperSolve_T v3014 v3015 v3016 v3017).bind fun y => .leaf (impl_UpperSolve_enc v3014 v3015 v3016 v3017 y) := by kernel_rfl
theorem impl_UpperSolve_fn (v3014 : Int) (v3015 : Int) (v3016 : List Nat) (v3017 : List Nat) (F : Fr) (hm : F.ids.length = 0) (h0 : St F [] F.H0) (hA : DVs.Ok F [] [.agg [.int .i64 v3014, .int .i64 v3015, .bslc (BR.root 0) (.f32 v3016)], .bslc (BR.root 1) (.f32 v3017)]) {y : (Unit) ⊕ ((List Nat))} (hy : impl_UpperSolve_g v3014 v3015 v3016 v3017 = some y) : ∃ H', FnOk Try.prog 154 (DVs.av F [.agg [.int .i64 v3014, .int .i64 v3015, .bslc (BR.root 0) (.f32 v3016)], .bslc (BR.root 1) (.f32 v3017)]) F.H0 ((impl_UpperSolve_enc v3014 v3015 v3016 v3017 y).1.av F) H' ∧ St F (impl_UpperSolve_enc v3014 v3015 v3016 v3017 y).2 H' ∧ (impl_UpperSolve_enc v3014 v3015 v3016 v3017 y).1.Ok F (impl_UpperSolve_enc v3014 v3015 v3016 v3017 y).2 :=
  fn_fin tok impl_UpperSolve_hO mixed Try.func154 Try.call154 (by kernel_rfl) (LoopsOk_eq (l := []) (by kernel_rfl) trivial) (impl_UpperSolve_den v3014 v3015 v3016 v3017) hy hm h0 hA
noncomputable def impl_UpperSolve_F : DFn := fun args L =>
  match args with
  | [.agg [.int .i64 v3014, .int .i64 v3015, a1], a2] =>
    optT (rowF32 L a1) fun v3016 =>
    optT (rowF32 L a2) fun v3017 =>
    .call (impl_UpperSolve_g v3014 v3015 v3016 v3017) fun y => .sum y (fun y0 => .leaf (.tup [.nilslc, .lit false], L)) (fun z0 => .leaf (.tup [.own (L.length + 0) 0 ((z0).length), .lit true], L ++ [.row (.f32 z0) 0]))
  | _ => .fail
theorem impl_UpperSolve_Fok : COk Try.prog 154 impl_UpperSolve_F true := by
  intro F L H args r L' hs ha hr
  unfold impl_UpperSolve_F at hr
  split at hr
  · rename_i v3014 v3015 a1 a2
    obtain ⟨v3016, hv3016, hr⟩ := optT_run hr
    obtain ⟨v3017, hv3017, hr⟩ := optT_run hr
    simp only [Tree.run] at hr
    obtain ⟨y, hy, hr⟩ := Option.bind_eq_some_iff.1 hr
    cases y with
    | inl y =>
      simp only [Tree.run, Option.some.injEq, Prod.mk.injEq] at hr
      obtain ⟨rfl, rfl⟩ := hr
      exact call_ok0 hs (fun k => (([a1.av F, a2.av F] : List AV)[k]?).getD .top) [.agg [.int .i64 v3014, .int .i64 v3015, a1], a2] [.agg [.int .i64 v3014, .int .i64 v3015, .bslc (BR.root 0) (.f32 v3016)], .bslc (BR.root 1) (.f32 v3017)] (fun F' h0 hi hρ => ⟨by simp [DVs.av, DV.av, BR.av, hρ], impl_UpperSolve_fn v3014 v3015 v3016 v3017 F' (by rw [hi]; rfl) (st_nil hi) ⟨⟨trivial, trivial, bslc_ok hi (by rw [h0, hρ]; exact rowF32_ok hs (DVs.okAt (DVs.okAt ha 0 rfl) 2 rfl) hv3016), trivial⟩, bslc_ok hi (by rw [h0, hρ]; exact rowF32_ok hs (DVs.okAt ha 1 rfl) hv3017), trivial⟩ hy⟩) rfl
    | inr y =>
      simp only [Tree.run, Option.some.injEq, Prod.mk.injEq] at hr
      obtain ⟨rfl, rfl⟩ := hr
      exact call_ok1 hs (fun k => (([a1.av F, a2.av F] : List AV)[k]?).getD .top) [.agg [.int .i64 v3014, .int .i64 v3015, a1], a2] [.agg [.int .i64 v3014, .int .i64 v3015, .bslc (BR.root 0) (.f32 v3016)], .bslc (BR.root 1) (.f32 v3017)] (fun F' h0 hi hρ => ⟨by simp [DVs.av, DV.av, BR.av, hρ], impl_UpperSolve_fn v3014 v3015 v3016 v3017 F' (by rw [hi]; rfl) (st_nil hi) ⟨⟨trivial, trivial, bslc_ok hi (by rw [h0, hρ]; exact rowF32_ok hs (DVs.okAt (DVs.okAt ha 0 rfl) 2 rfl) hv3016), trivial⟩, bslc_ok hi (by rw [h0, hρ]; exact rowF32_ok hs (DVs.okAt ha 1 rfl) hv3017), trivial⟩ hy⟩) rfl rfl
  · cases hr
/-! impl.LeastSquares -/
noncomputable def impl_LeastSquares_LO (v2175 : Int) (v2176 : Int) (v2177 : List Nat) (v2178 : List Nat) : LOr := fun id e L =>
  match id with
  | _ => .fail
noncomputable def impl_LeastSquares_tab : List (FuncId × DFn × Bool) := [(81, impl_IsVector_F, true), (82, impl_lengthF_F, true), (153, impl_MirrorFactor_F, true), (155, impl_Matrix_flip_F, true), (137, impl_Matrix_timesVector_F, true), (154, impl_UpperSolve_F, true)]
theorem impl_LeastSquares_hO : OrcOk Try.prog (tabD impl_LeastSquares_tab) (tabM impl_LeastSquares_tab) := tabD_cons impl_IsVector_Fok (tabD_cons impl_lengthF_Fok (tabD_cons impl_MirrorFactor_Fok (tabD_cons impl_Matrix_flip_Fok (tabD_cons impl_Matrix_timesVector_Fok (tabD_cons impl_UpperSolve_Fok (tabD_nil _))))))
noncomputable def impl_LeastSquares_T (v2175 : Int) (v2176 : Int) (v2177 : List Nat) (v2178 : List Nat) : Tree ((Unit) ⊕ ((List Nat))) :=
  (.call (impl_IsVector_g v2178) fun v2179 =>
  (.br (!v2179) (
   .leaf (.inl ())
  ) (
   (.br (!decide ((impl_lengthF_v v2178) = v2175)) (
    .leaf (.inl ())
   ) (
    (.call (impl_MirrorFactor_g v2175 v2176 v2177) fun v2894 =>
    (.sum v2894 (fun v2895 =>
     .leaf (.inl ())
    ) (fun v2896 =>
     (.call (impl_Matrix_flip_g v2896.1 v2896.2.1 v2896.2.2.2.2.1) fun v2990 =>
     (.call (impl_Matrix_timesVector_g v2990.1 v2990.2.1 v2990.2.2 v2178) fun v3013 =>
     (.call (impl_UpperSolve_g v2896.2.2.1 v2896.2.2.2.1 v2896.2.2.2.2.2 v3013) fun v3090 =>
     (.sum v3090 (fun v3091 =>
      .leaf (.inl ())
     ) (fun v3092 =>
      .leaf (.inr v3092)
     )))))
    )))
   ))
  )))

noncomputable def impl_LeastSquares_g (v2175 : Int) (v2176 : Int) (v2177 : List Nat) (v2178 : List Nat) : Option ((Unit) ⊕ ((List Nat))) := (impl_LeastSquares_T v2175 v2176 v2177 v2178).run
def impl_LeastSquares_enc (v2175 : Int) (v2176 : Int) (v2177 : List Nat) (v2178 : List Nat) (y : (Unit) ⊕ ((List Nat))) : Rs := (match y with | .inl y => (.tup [.nilslc, .lit false], []) | .inr y => (.tup [.own 0 0 ((y).length), .lit true], [.row (.f32 y) 0]))
theorem impl_LeastSquares_den (v2175 : Int) (v2176 : Int) (v2177 : List Nat) (v2178 : List Nat) : (den TT (tabD impl_LeastSquares_tab) (tabM impl_LeastSquares_tab) (impl_LeastSquares_LO v2175 v2176 v2177 v2178) (codeOf Try.f109) ([.agg [.int .i64 v2175, .int .i64 v2176, .bslc (BR.root 0) (.f32 v2177)], .bslc (BR.root 1) (.f32 v2178)] ++ List.replicate (Try.f109.ntmps - ([.agg [.int .i64 v2175, .int .i64 v2176, .bslc (BR.root 0) (.f32 v2177)], .bslc (BR.root 1) (.f32 v2178)] : List DV).length) .undef) []).bind (retD TT Try.f109.results.toList 0) = (impl_LeastSquares_T v2175 v2176 v2177 v2178).bind fun y => .leaf (impl_LeastSquares_enc v2175 v2176 v2177 v2178 y) := by kernel_rfl
theorem impl_LeastSquares_fn (v2175 : Int) (v2176 : Int) (v2177 : List Nat) (v2178 : List Nat) (F : Fr) (hm : F.ids.length = 0) (h0 : St F [] F.H0) (hA : DVs.Ok F [] [.agg [.int .i64 v2175, .int .i64 v2176, .bslc (BR.root 0) (.f32 v2177)], .bslc (BR.root 1) (.f32 v2178)]) {y : (Unit) ⊕ ((List Nat))} (hy : impl_LeastSquares_g v2175 v2176 v2177 v2178 = some y) : ∃ H', FnOk Try.prog 109 (DVs.av F [.agg [.int .i64 v2175, .int .i64 v2176, .bslc (BR.root 0) (.f32 v2177)], .bslc (BR.root 1) (.f32 v2178)]) F.H0 ((impl_LeastSquares_enc v2175 v2176 v2177 v2178 y).1.av F) H' ∧ St F (impl_LeastSquares_enc v2175 v2176 v2177 v2178 y).2 H' ∧ (impl_LeastSquares_enc v2175 v2176 v2177 v2178 y).1.Ok F (impl_LeastSquares_enc v2175 v2176 v2177 v2178 y).2 :=
  fn_fin tok impl_LeastSquares_hO mixed Try.func109 Try.call109 (by kernel_rfl) (LoopsOk_eq (l := []) (by kernel_rfl) trivial) (impl_LeastSquares_den v2175 v2176 v2177 v2178) hy hm h0 hA
noncomputable def impl_LeastSquares_F : DFn := fun args L =>
  match args with
  | [.agg [.int .i64 v2175, .int .i64 v2176, a1], a2] =>
    optT (rowF32 L a1) fun v2177 =>
    optT (rowF32 L a2) fun v2178 =>
    .call (impl_LeastSquares_g v2175 v2176 v2177 v2178) fun y => .sum y (fun y0 => .leaf (.tup [.nilslc, .lit false], L)) (fun z0 => .leaf (.tup [.own (L.length + 0) 0 ((z0).length), .lit true], L ++ [.row (.f32 z0) 0]))
  | _ => .fail
theorem impl_LeastSquares_Fok : COk Try.prog 109 impl_LeastSquares_F true := by
  intro F L H args r L' hs ha hr
  unfold impl_LeastSquares_F at hr
  split at hr
  · rename_i v2175 v2176 a1 a2
    obtain ⟨v2177, hv2177, hr⟩ := optT_run hr
    obtain ⟨v2178, hv2178, hr⟩ := optT_run hr
    simp only [Tree.run] at hr
    obtain ⟨y, hy, hr⟩ := Option.bind_eq_some_iff.1 hr
    cases y with
    | inl y =>
      simp only [Tree.run, Option.some.injEq, Prod.mk.injEq] at hr
      obtain ⟨rfl, rfl⟩ := hr
      exact call_ok0 hs (fun k => (([a1.av F, a2.av F] : List AV)[k]?).getD .top) [.agg [.int .i64 v2175, .int .i64 v2176, a1], a2] [.agg [.int .i64 v2175, .int .i64 v2176, .bslc (BR.root 0) (.f32 v2177)], .bslc (BR.root 1) (.f32 v2178)] (fun F' h0 hi hρ => ⟨by simp [DVs.av, DV.av, BR.av, hρ], impl_LeastSquares_fn v2175 v2176 v2177 v2178 F' (by rw [hi]; rfl) (st_nil hi) ⟨⟨trivial, trivial, bslc_ok hi (by rw [h0, hρ]; exact rowF32_ok hs (DVs.okAt (DVs.okAt ha 0 rfl) 2 rfl) hv2177), trivial⟩, bslc_ok hi (by rw [h0, hρ]; exact rowF32_ok hs (DVs.okAt ha 1 rfl) hv2178), trivial⟩ hy⟩) rfl
    | inr y =>
      simp only [Tree.run, Option.some.injEq, Prod.mk.injEq] at hr
      obtain ⟨rfl, rfl⟩ := hr
      exact call_ok1 hs (fun k => (([a1.av F, a2.av F] : List AV)[k]?).getD .top) [.agg [.int .i64 v2175, .int .i64 v2176, a1], a2] [.agg [.int .i64 v2175, .int .i64 v2176, .bslc (BR.root 0) (.f32 v2177)], .bslc (BR.root 1) (.f32 v2178)] (fun F' h0 hi hρ => ⟨by simp [DVs.av, DV.av, BR.av, hρ], impl_LeastSquares_fn v2175 v2176 v2177 v2178 F' (by rw [hi]; rfl) (st_nil hi) ⟨⟨trivial, trivial, bslc_ok hi (by rw [h0, hρ]; exact rowF32_ok hs (DVs.okAt (DVs.okAt ha 0 rfl) 2 rfl) hv2177), trivial⟩, bslc_ok hi (by rw [h0, hρ]; exact rowF32_ok hs (DVs.okAt ha 1 rfl) hv2178), trivial⟩ hy⟩) rfl rfl
  · cases hr
/-! impl.WeighedSquares -/
noncomputable def impl_WeighedSquares_l0_T (v2003 : List Nat) (v2004 : List Nat) (s : Int × (List Nat)) : Tree ((Int × (List Nat)) ⊕ ((List Nat))) :=
  (.br (decide (s.1 < ((v2004.length : Nat) : Int))) (
   (.grd (inb s.1 v2004.length) <|
   (.grd (inb s.1 v2003.length) <|
   (.call (impl_RootNumber_g (nth v2004 (Int.toNat s.1))) fun v2061 =>
   (.grd (fits (s.2 ++ ([(impl_mul_v (nth v2003 (Int.toNat s.1)) v2061)] : List Nat)).length) <|
   .leaf (.inl (IntKind.i64.wrap (s.1 + (1 : Int)), s.2 ++ ([(impl_mul_v (nth v2003 (Int.toNat s.1)) v2061)] : List Nat)))))))
  ) (
   .leaf (.inr s.2)
  ))

noncomputable def impl_WeighedSquares_l0_g (v2003 : List Nat) (v2004 : List Nat) (s0 : Int × (List Nat)) : Option ((List Nat)) := whileM (fun s => (impl_WeighedSquares_l0_T v2003 v2004 s).run) s0
def impl_WeighedSquares_l0_E (v2000 : Int) (v2001 : Int) (v2002 : List Nat) (v2003 : List Nat) (v2004 : List Nat) (s : Int × (List Nat)) : Sd := ([.top, .bslc (BR.root 1) (.f32 v2003), .top, .ptr 0 (0 : Nat) 0 (3 : Nat), .top, .ptr 1 (0 : Nat) 0 (1 : Nat), .top, .top, .own 2 0 ((s.2).length), .top, .top, .top, .top, .top, .top, .top, .top, .top, .top, .top, .top, .top, .top, .top, .top, .top, .top, .top, .top, .top, .top, .top, .bslc (BR.root 2) (.f32 v2004), .int .i64 ((v2004.length : Nat) : Int), .int .i64 s.1, .top, .top, .top, .top, .top, .top, .top, .top, .top, .top, .top, .top, .top, .top, .top, .top, .top, .top, .top, .top, .top, .top, .top, .top, .top], [.gen [.int .i64 v2000, .int .i64 v2001, .bslc (BR.root 0) (.f32 v2002)] false 0, .gen [.bslc (BR.root 2) (.f32 v2004)] false 0, .row (.f32 s.2) 0])
def impl_WeighedSquares_l0_X (v2000 : Int) (v2001 : Int) (v2002 : List Nat) (v2003 : List Nat) (v2004 : List Nat) (x : (List Nat)) : Out := (.normal, [.top, .top, .top, .ptr 0 (0 : Nat) 0 (3 : Nat), .top, .ptr 1 (0 : Nat) 0 (1 : Nat), .top, .top, .own 2 0 ((x).length), .top, .top, .top, .top, .top, .top, .top, .top, .top, .top, .top, .top, .top, .top, .top, .top, .top, .top, .top, .top, .top, .top, .top, .top, .top, .top, .top, .top, .top, .top, .top, .top, .top, .top, .top, .top, .top, .top, .top, .top, .top, .top, .top, .top, .top, .top, .top, .top, .top, .top, .top], [.gen [.int .i64 v2000, .int .i64 v2001, .bslc (BR.root 0) (.f32 v2002)] false 0, .gen [.bslc (BR.root 2) (.f32 v2004)] false 0, .row (.f32 x) 0])
def impl_WeighedSquares_l0_kill : List Nat := [1, 0, 1, 0, 1, 0, 1, 1, 0, 1, 1, 1, 1, 1, 1, 1, 1, 1, 1, 1, 1, 1, 1, 1, 1, 1, 1, 1, 1, 1, 1, 1, 0, 0, 0, 1, 1, 1, 1, 1, 1, 1, 1, 1, 1, 1, 1, 1, 1, 1, 1, 1, 1, 1, 1, 1, 1, 1, 1, 1]
def impl_WeighedSquares_l0_nx : Exit → List Nat
  | .exit 0 => [1, 1, 1, 0, 1, 0, 1, 1, 0, 1, 1, 1, 1, 1, 1, 1, 1, 1, 1, 1, 1, 1, 1, 1, 1, 1, 1, 1, 1, 1, 1, 1, 1, 1, 1, 1, 1, 1, 1, 1, 1, 1, 1, 1, 1, 1, 1, 1, 1, 1, 1, 1, 1, 1, 1, 1, 1, 1, 1, 1]
  | .ret => [1, 1, 1, 1, 1, 1, 0, 0, 1, 1, 1, 1, 1, 1, 1, 1, 1, 1, 1, 1, 1, 1, 1, 1, 1, 1, 1, 1, 1, 1, 1, 1, 1, 1, 1, 1, 1, 1, 1, 1, 1, 1, 1, 1, 1, 1, 1, 1, 1, 1, 1, 1, 1, 1, 1, 1, 1, 1, 1, 1]
  | _ => []
noncomputable def impl_WeighedSquares_LO (v2000 : Int) (v2001 : Int) (v2002 : List Nat) (v2003 : List Nat) (v2004 : List Nat) : LOr := fun id e L =>
  match id with
  | 0 => .need (normA 0 impl_WeighedSquares_l0_kill e L = some (impl_WeighedSquares_l0_E v2000 v2001 v2002 v2003 v2004 ((gI (vAt e 34)), (gRF L (vAt e 8))))) (.call (impl_WeighedSquares_l0_g v2003 v2004 ((gI (vAt e 34)), (gRF L (vAt e 8)))) fun x => .leaf (impl_WeighedSquares_l0_X v2000 v2001 v2002 v2003 v2004 x))
  | _ => .fail
noncomputable def impl_WeighedSquares_tab : List (FuncId × DFn × Bool) := [(102, impl_ValidMatrix_F, true), (106, impl_areVectors_F, true), (82, impl_lengthF_F, true), (107, slices_ContainsFuncF_i1_F, true), (52, impl_RootNumber_F, true), (50, impl_mul_F, true), (96, impl_made_F, true), (109, impl_LeastSquares_F, true)]
theorem impl_WeighedSquares_hO : OrcOk Try.prog (tabD impl_WeighedSquares_tab) (tabM impl_WeighedSquares_tab) := tabD_cons impl_ValidMatrix_Fok (tabD_cons impl_areVectors_Fok (tabD_cons impl_lengthF_Fok (tabD_cons slices_ContainsFuncF_i1_Fok (tabD_cons impl_RootNumber_Fok (tabD_cons impl_mul_Fok (tabD_cons impl_made_Fok (tabD_cons impl_LeastSquares_Fok (tabD_nil _))))))))
theorem impl_WeighedSquares_l0_be (v2000 : Int) (v2001 : Int) (v2002 : List Nat) (v2003 : List Nat) (v2004 : List Nat) (s : Int × (List Nat)) : bodyT TT (tabD impl_WeighedSquares_tab) (tabM impl_WeighedSquares_tab) (impl_WeighedSquares_LO v2000 v2001 v2002 v2003 v2004) 0 impl_WeighedSquares_l0_kill impl_WeighedSquares_l0_nx (bodyOf Try.f35 0) 0 (impl_WeighedSquares_l0_E v2000 v2001 v2002 v2003 v2004 s) = (impl_WeighedSquares_l0_T v2003 v2004 s).bind fun y => .leaf (outS (impl_WeighedSquares_l0_E v2000 v2001 v2002 v2003 v2004) (impl_WeighedSquares_l0_X v2000 v2001 v2002 v2003 v2004) y) := by kernel_rfl
theorem impl_WeighedSquares_l0_ok (v2000 : Int) (v2001 : Int) (v2002 : List Nat) (v2003 : List Nat) (v2004 : List Nat) : LSound Try.prog 0 (impl_WeighedSquares_LO v2000 v2001 v2002 v2003 v2004) 0 (bodyOf Try.f35 0) := by
  intro e L out h
  exact lo_ok (E := impl_WeighedSquares_l0_E v2000 v2001 v2002 v2003 v2004) (gT := impl_WeighedSquares_l0_T v2003 v2004) (X := impl_WeighedSquares_l0_X v2000 v2001 v2002 v2003 v2004) (s0 := ((gI (vAt e 34)), (gRF L (vAt e 8)))) tok impl_WeighedSquares_hO mixed (LoopsOk_eq (l := []) (by kernel_rfl) trivial) (impl_WeighedSquares_l0_be v2000 v2001 v2002 v2003 v2004) rfl (by intro x; rfl) h
noncomputable def impl_WeighedSquares_T (v2000 : Int) (v2001 : Int) (v2002 : List Nat) (v2003 : List Nat) (v2004 : List Nat) : Tree ((Unit) ⊕ ((List Nat))) :=
  (.call (impl_ValidMatrix_g v2000 v2001 v2002) fun v2031 =>
  (.br (!v2031) (
   .leaf (.inl ())
  ) (
   (.call (impl_areVectors_g v2003 v2004) fun v2038 =>
   (.br (!v2038) (
    .leaf (.inl ())
   ) (
    (.br (!decide ((impl_lengthF_v v2003) = v2000)) (
     .leaf (.inl ())
    ) (
     (.call (slices_ContainsFuncF_i1_g v2004) fun v2049 =>
     (.br v2049 (
      .leaf (.inl ())
     ) (
      (.need (some (impl_WeighedSquares_l0_E v2000 v2001 v2002 v2003 v2004 ((0 : Int), ([] : List Nat))) = some (impl_WeighedSquares_l0_E v2000 v2001 v2002 v2003 v2004 ((0 : Int), ([] : List Nat)))) <|
      (.call (impl_WeighedSquares_l0_g v2003 v2004 ((0 : Int), ([] : List Nat))) fun v2062 =>
      (.call (impl_made_g v2000 v2001 v2000 v2001 v2002 v2004) fun v2174 =>
      (.call (impl_LeastSquares_g v2174.1 v2174.2.1 v2174.2.2 v2062) fun v3093 =>
      (.sum v3093 (fun v3094 =>
       .leaf (.inl ())
      ) (fun v3095 =>
       .leaf (.inr v3095)
      ))))))
     )))
    ))
   )))
  )))

noncomputable def impl_WeighedSquares_g (v2000 : Int) (v2001 : Int) (v2002 : List Nat) (v2003 : List Nat) (v2004 : List Nat) : Option ((Unit) ⊕ ((List Nat))) := (impl_WeighedSquares_T v2000 v2001 v2002 v2003 v2004).run
def impl_WeighedSquares_enc (v2000 : Int) (v2001 : Int) (v2002 : List Nat) (v2003 : List Nat) (v2004 : List Nat) (y : (Unit) ⊕ ((List Nat))) : Rs := (match y with | .inl y => (.tup [.nilslc, .lit false], []) | .inr y => (.tup [.own 0 0 ((y).length), .lit true], [.row (.f32 y) 0]))
theorem impl_WeighedSquares_den (v2000 : Int) (v2001 : Int) (v2002 : List Nat) (v2003 : List Nat) (v2004 : List Nat) : (den TT (tabD impl_WeighedSquares_tab) (tabM impl_WeighedSquares_tab) (impl_WeighedSquares_LO v2000 v2001 v2002 v2003 v2004) (codeOf Try.f35) ([.agg [.int .i64 v2000, .int .i64 v2001, .bslc (BR.root 0) (.f32 v2002)], .bslc (BR.root 1) (.f32 v2003), .bslc (BR.root 2) (.f32 v2004)] ++ List.replicate (Try.f35.ntmps - ([.agg [.int .i64 v2000, .int .i64 v2001, .bslc (BR.root 0) (.f32 v2002)], .bslc (BR.root 1) (.f32 v2003), .bslc (BR.root 2) (.f32 v2004)] : List DV).length) .undef) []).bind (retD TT Try.f35.results.toList 0) = (impl_WeighedSquares_T v2000 v2001 v2002 v2003 v2004).bind fun y => .leaf (impl_WeighedSquares_enc v2000 v2001 v2002 v2003 v2004 y) := by kernel_rfl
theorem impl_WeighedSquares_fn (v2000 : Int) (v2001 : Int) (v2002 : List Nat) (v2003 : List Nat) (v2004 : List Nat) (F : Fr) (hm : F.ids.length = 0) (h0 : St F [] F.H0) (hA : DVs.Ok F [] [.agg [.int .i64 v2000, .int .i64 v2001, .bslc (BR.root 0) (.f32 v2002)], .bslc (BR.root 1) (.f32 v2003), .bslc (BR.root 2) (.f32 v2004)]) {y : (Unit) ⊕ ((List Nat))} (hy : impl_WeighedSquares_g v2000 v2001 v2002 v2003 v2004 = some y) : ∃ H', FnOk Try.prog 35 (DVs.av F [.agg [.int .i64 v2000, .int .i64 v2001, .bslc (BR.root 0) (.f32 v2002)], .bslc (BR.root 1) (.f32 v2003), .bslc (BR.root 2) (.f32 v2004)]) F.H0 ((impl_WeighedSquares_enc v2000 v2001 v2002 v2003 v2004 y).1.av F) H' ∧ St F (impl_WeighedSquares_enc v2000 v2001 v2002 v2003 v2004 y).2 H' ∧ (impl_WeighedSquares_enc v2000 v2001 v2002 v2003 v2004 y).1.Ok F (impl_WeighedSquares_enc v2000 v2001 v2002 v2003 v2004 y).2 :=
  fn_fin tok impl_WeighedSquares_hO mixed Try.func35 Try.call35 (by kernel_rfl) (LoopsOk_eq (l := [(0, bodyOf Try.f35 0)]) (by kernel_rfl) ⟨impl_WeighedSquares_l0_ok v2000 v2001 v2002 v2003 v2004, trivial⟩) (impl_WeighedSquares_den v2000 v2001 v2002 v2003 v2004) hy hm h0 hA
noncomputable def impl_WeighedSquares_F : DFn := fun args L =>
  match args with
  | [.agg [.int .i64 v2000, .int .i64 v2001, a1], a2, a3] =>
    optT (rowF32 L a1) fun v2002 =>
    optT (rowF32 L a2) fun v2003 =>
    optT (rowF32 L a3) fun v2004 =>
    .call (impl_WeighedSquares_g v2000 v2001 v2002 v2003 v2004) fun y => .sum y (fun y0 => .leaf (.tup [.nilslc, .lit false], L)) (fun z0 => .leaf (.tup [.own (L.length + 0) 0 ((z0).length), .lit true], L ++ [.row (.f32 z0) 0]))
  | _ => .fail
theorem impl_WeighedSquares_Fok : COk Try.prog 35 impl_WeighedSquares_F true := by
  intro F L H args r L' hs ha hr
  unfold impl_WeighedSquares_F at hr
  split at hr
  · rename_i v2000 v2001 a1 a2 a3
    obtain ⟨v2002, hv2002, hr⟩ := optT_run hr
    obtain ⟨v2003, hv2003, hr⟩ := optT_run hr
    obtain ⟨v2004, hv2004, hr⟩ := optT_run hr
    simp only [Tree.run] at hr
    obtain ⟨y, hy, hr⟩ := Option.bind_eq_some_iff.1 hr
    cases y with
    | inl y =>
      simp only [Tree.run, Option.some.injEq, Prod.mk.injEq] at hr
      obtain ⟨rfl, rfl⟩ := hr
      exact call_ok0 hs (fun k => (([a1.av F, a2.av F, a3.av F] : List AV)[k]?).getD .top) [.agg [.int .i64 v2000, .int .i64 v2001, a1], a2, a3] [.agg [.int .i64 v2000, .int .i64 v2001, .bslc (BR.root 0) (.f32 v2002)], .bslc (BR.root 1) (.f32 v2003), .bslc (BR.root 2) (.f32 v2004)] (fun F' h0 hi hρ => ⟨by simp [DVs.av, DV.av, BR.av, hρ], impl_WeighedSquares_fn v2000 v2001 v2002 v2003 v2004 F' (by rw [hi]; rfl) (st_nil hi) ⟨⟨trivial, trivial, bslc_ok hi (by rw [h0, hρ]; exact rowF32_ok hs (DVs.okAt (DVs.okAt ha 0 rfl) 2 rfl) hv2002), trivial⟩, bslc_ok hi (by rw [h0, hρ]; exact rowF32_ok hs (DVs.okAt ha 1 rfl) hv2003), bslc_ok hi (by rw [h0, hρ]; exact rowF32_ok hs (DVs.okAt ha 2 rfl) hv2004), trivial⟩ hy⟩) rfl
    | inr y =>
      simp only [Tree.run, Option.some.injEq, Prod.mk.injEq] at hr
      obtain ⟨rfl, rfl⟩ := hr
      exact call_ok1 hs (fun k => (([a1.av F, a2.av F, a3.av F] : List AV)[k]?).getD .top) [.agg [.int .i64 v2000, .int .i64 v2001, a1], a2, a3] [.agg [.int .i64 v2000, .int .i64 v2001, .bslc (BR.root 0) (.f32 v2002)], .bslc (BR.root 1) (.f32 v2003), .bslc (BR.root 2) (.f32 v2004)] (fun F' h0 hi hρ => ⟨by simp [DVs.av, DV.av, BR.av, hρ], impl_WeighedSquares_fn v2000 v2001 v2002 v2003 v2004 F' (by rw [hi]; rfl) (st_nil hi) ⟨⟨trivial, trivial, bslc_ok hi (by rw [h0, hρ]; exact rowF32_ok hs (DVs.okAt (DVs.okAt ha 0 rfl) 2 rfl) hv2002), trivial⟩, bslc_ok hi (by rw [h0, hρ]; exact rowF32_ok hs (DVs.okAt ha 1 rfl) hv2003), bslc_ok hi (by rw [h0, hρ]; exact rowF32_ok hs (DVs.okAt ha 2 rfl) hv2004), trivial⟩ hy⟩) rfl rfl
  · cases hr
/-! laws.sameFloat -/
noncomputable def laws_sameFloat_LO (v3102 : Nat) (v3103 : Nat) : LOr := fun id e L =>
  match id with
  | _ => .fail
noncomputable def laws_sameFloat_tab : List (FuncId × DFn × Bool) := []
theorem laws_sameFloat_hO : OrcOk Try.prog (tabD laws_sameFloat_tab) (tabM laws_sameFloat_tab) := tabD_nil _
noncomputable def laws_sameFloat_T (v3102 : Nat) (v3103 : Nat) : Tree (Bool) :=
  (.br (!feq .f64 v3102 v3102) (
   (.br (!feq .f64 v3102 v3102) (
    .leaf (!feq .f64 v3103 v3103)
   ) (
    .leaf false
   ))
  ) (
   (.br (!feq .f64 v3103 v3103) (
    (.br (!feq .f64 v3102 v3102) (
     .leaf (!feq .f64 v3103 v3103)
    ) (
     .leaf false
    ))
   ) (
    (.br (feq .f64 v3102 (0 : Nat)) (
     (.br (feq .f64 v3103 (0 : Nat)) (
      .leaf ((fgrt .f64 (fdiv .f64 (4607182418800017408 : Nat) v3102) (0 : Nat)) == (fgrt .f64 (fdiv .f64 (4607182418800017408 : Nat) v3103) (0 : Nat)))
     ) (
      .leaf (feq .f64 v3102 v3103)
     ))
    ) (
     .leaf (feq .f64 v3102 v3103)
    ))
   ))
  ))

noncomputable def laws_sameFloat_g (v3102 : Nat) (v3103 : Nat) : Option (Bool) := (laws_sameFloat_T v3102 v3103).run
def laws_sameFloat_enc (v3102 : Nat) (v3103 : Nat) (y : Bool) : Rs := (.bool y, [])
theorem laws_sameFloat_den (v3102 : Nat) (v3103 : Nat) : (den TT (tabD laws_sameFloat_tab) (tabM laws_sameFloat_tab) (laws_sameFloat_LO v3102 v3103) (codeOf Try.f13) ([.flt .f64 v3102, .flt .f64 v3103] ++ List.replicate (Try.f13.ntmps - ([.flt .f64 v3102, .flt .f64 v3103] : List DV).length) .undef) []).bind (retD TT Try.f13.results.toList 0) = (laws_sameFloat_T v3102 v3103).bind fun y => .leaf (laws_sameFloat_enc v3102 v3103 y) := by kernel_rfl
theorem laws_sameFloat_fn (v3102 : Nat) (v3103 : Nat) (F : Fr) (hm : F.ids.length = 0) (h0 : St F [] F.H0) (hA : DVs.Ok F [] [.flt .f64 v3102, .flt .f64 v3103]) {y : Bool} (hy : laws_sameFloat_g v3102 v3103 = some y) : ∃ H', FnOk Try.prog 13 (DVs.av F [.flt .f64 v3102, .flt .f64 v3103]) F.H0 ((laws_sameFloat_enc v3102 v3103 y).1.av F) H' ∧ St F (laws_sameFloat_enc v3102 v3103 y).2 H' ∧ (laws_sameFloat_enc v3102 v3103 y).1.Ok F (laws_sameFloat_enc v3102 v3103 y).2 :=
  fn_fin tok laws_sameFloat_hO mixed Try.func13 Try.call13 (by kernel_rfl) (LoopsOk_eq (l := []) (by kernel_rfl) trivial) (laws_sameFloat_den v3102 v3103) hy hm h0 hA
def laws_sameFloat_v (v3102 : Nat) (v3103 : Nat) : Bool :=
  if (!feq .f64 v3102 v3102) = true then (
   if (!feq .f64 v3102 v3102) = true then (
    !feq .f64 v3103 v3103
   ) else (
    false
   )
  ) else (
   if (!feq .f64 v3103 v3103) = true then (
    if (!feq .f64 v3102 v3102) = true then (
     !feq .f64 v3103 v3103
    ) else (
     false
    )
   ) else (
    if (feq .f64 v3102 (0 : Nat)) = true then (
     if (feq .f64 v3103 (0 : Nat)) = true then (
      (fgrt .f64 (fdiv .f64 (4607182418800017408 : Nat) v3102) (0 : Nat)) == (fgrt .f64 (fdiv .f64 (4607182418800017408 : Nat) v3103) (0 : Nat))
     ) else (
      feq .f64 v3102 v3103
     )
    ) else (
     feq .f64 v3102 v3103
    )
   )
  )
theorem laws_sameFloat_tot (v3102 : Nat) (v3103 : Nat) : laws_sameFloat_g v3102 v3103 = some (laws_sameFloat_v v3102 v3103) := by
  unfold laws_sameFloat_g laws_sameFloat_T laws_sameFloat_v
  simp only [Tree.run]
  repeat' (first | rfl | split)
noncomputable def laws_sameFloat_F : DFn := fun args L =>
  match args with
  | [.flt .f64 v3102, .flt .f64 v3103] =>
    .leaf (.bool (laws_sameFloat_v v3102 v3103), L)
  | _ => .fail
theorem laws_sameFloat_Fok : COk Try.prog 13 laws_sameFloat_F true := by
  intro F L H args r L' hs ha hr
  unfold laws_sameFloat_F at hr
  split at hr
  · rename_i v3102 v3103
    have hy := laws_sameFloat_tot v3102 v3103
    generalize laws_sameFloat_v v3102 v3103 = y at hy hr
    simp only [Tree.run, Option.some.injEq, Prod.mk.injEq] at hr
    obtain ⟨rfl, rfl⟩ := hr
    exact call_ok0 hs (fun k => (([] : List AV)[k]?).getD .top) [.flt .f64 v3102, .flt .f64 v3103] [.flt .f64 v3102, .flt .f64 v3103] (fun F' h0 hi hρ => ⟨by simp [DVs.av, DV.av, BR.av, hρ], laws_sameFloat_fn v3102 v3103 F' (by rw [hi]; rfl) (st_nil hi) ⟨trivial, trivial, trivial⟩ hy⟩) rfl
  · cases hr
/-! laws.eqFloat32S -/
noncomputable def laws_eqFloat32S_l0_T (v3099 : List Nat) (v3100 : List Nat) (s : Int) : Tree ((Int) ⊕ ((Unit) ⊕ (Unit))) :=
  (.br (decide (s < ((v3099.length : Nat) : Int))) (
   (.grd (inb s v3099.length) <|
   (.grd (inb s v3100.length) <|
   (.br (!(laws_sameFloat_v (wid (nth v3099 (Int.toNat s))) (wid (nth v3100 (Int.toNat s))))) (
    .leaf (.inr (.inl ()))
   ) (
    .leaf (.inl (IntKind.i64.wrap (s + (1 : Int))))
   ))))
  ) (
   .leaf (.inr (.inr ()))
  ))

noncomputable def laws_eqFloat32S_l0_g (v3099 : List Nat) (v3100 : List Nat) (s0 : Int) : Option ((Unit) ⊕ (Unit)) := whileM (fun s => (laws_eqFloat32S_l0_T v3099 v3100 s).run) s0
def laws_eqFloat32S_l0_E (v3099 : List Nat) (v3100 : List Nat) (s : Int) : Sd := ([.bslc (BR.root 0) (.f32 v3099), .bslc (BR.root 1) (.f32 v3100), .top, .top, .top, .int .i64 s, .top, .top, .top, .top, .top, .top, .top, .top, .top, .top, .top, .top, .top, .top, .top, .top, .top, .top, .top, .top, .top, .top, .top], [])
def laws_eqFloat32S_l0_X (v3099 : List Nat) (v3100 : List Nat) (x : (Unit) ⊕ (Unit)) : Out := (match x with | .inl x => (.ret, [.top, .top, .top, .top, .lit false, .top, .top, .top, .top, .top, .top, .top, .top, .top, .top, .top, .top, .top, .top, .top, .top, .top, .top, .top, .top, .top, .top, .top, .top], []) | .inr x => (.normal, [.top, .top, .top, .top, .top, .top, .top, .top, .top, .top, .top, .top, .top, .top, .top, .top, .top, .top, .top, .top, .top, .top, .top, .top, .top, .top, .top, .top, .top], []))
def laws_eqFloat32S_l0_kill : List Nat := [0, 0, 1, 1, 1, 0, 1, 1, 1, 1, 1, 1, 1, 1, 1, 1, 1, 1, 1, 1, 1, 1, 1, 1, 1, 1, 1, 1, 1]
def laws_eqFloat32S_l0_nx : Exit → List Nat
  | .exit 0 => [1, 1, 1, 1, 1, 1, 1, 1, 1, 1, 1, 1, 1, 1, 1, 1, 1, 1, 1, 1, 1, 1, 1, 1, 1, 1, 1, 1, 1]
  | .ret => [1, 1, 1, 1, 0, 1, 1, 1, 1, 1, 1, 1, 1, 1, 1, 1, 1, 1, 1, 1, 1, 1, 1, 1, 1, 1, 1, 1, 1]
  | _ => []
noncomputable def laws_eqFloat32S_LO (v3099 : List Nat) (v3100 : List Nat) : LOr := fun id e L =>
  match id with
  | 0 => .need (normA 0 laws_eqFloat32S_l0_kill e L = some (laws_eqFloat32S_l0_E v3099 v3100 (gI (vAt e 5)))) (.call (laws_eqFloat32S_l0_g v3099 v3100 (gI (vAt e 5))) fun x => .sum x (fun b0 => .leaf (laws_eqFloat32S_l0_X v3099 v3100 (.inl b0))) (fun c0 => .leaf (laws_eqFloat32S_l0_X v3099 v3100 (.inr c0))))
  | _ => .fail
noncomputable def laws_eqFloat32S_tab : List (FuncId × DFn × Bool) := [(13, laws_sameFloat_F, true)]
theorem laws_eqFloat32S_hO : OrcOk Try.prog (tabD laws_eqFloat32S_tab) (tabM laws_eqFloat32S_tab) := tabD_cons laws_sameFloat_Fok (tabD_nil _)
theorem laws_eqFloat32S_l0_be (v3099 : List Nat) (v3100 : List Nat) (s : Int) : bodyT TT (tabD laws_eqFloat32S_tab) (tabM laws_eqFloat32S_tab) (laws_eqFloat32S_LO v3099 v3100) 0 laws_eqFloat32S_l0_kill laws_eqFloat32S_l0_nx (bodyOf Try.f12 0) 0 (laws_eqFloat32S_l0_E v3099 v3100 s) = (laws_eqFloat32S_l0_T v3099 v3100 s).bind fun y => .leaf (outS (laws_eqFloat32S_l0_E v3099 v3100) (laws_eqFloat32S_l0_X v3099 v3100) y) := by kernel_rfl
theorem laws_eqFloat32S_l0_ok (v3099 : List Nat) (v3100 : List Nat) : LSound Try.prog 0 (laws_eqFloat32S_LO v3099 v3100) 0 (bodyOf Try.f12 0) := by
  intro e L out h
  exact lo_ok (E := laws_eqFloat32S_l0_E v3099 v3100) (gT := laws_eqFloat32S_l0_T v3099 v3100) (X := laws_eqFloat32S_l0_X v3099 v3100) (s0 := (gI (vAt e 5))) tok laws_eqFloat32S_hO mixed (LoopsOk_eq (l := []) (by kernel_rfl) trivial) (laws_eqFloat32S_l0_be v3099 v3100) rfl (by intro x; (cases x with | inl b => rfl | inr x => exact rfl)) h
noncomputable def laws_eqFloat32S_T (v3099 : List Nat) (v3100 : List Nat) : Tree (Bool) :=
  (.br (!decide (((v3099.length : Nat) : Int) = ((v3100.length : Nat) : Int))) (
   .leaf false
  ) (
   (.need (some (laws_eqFloat32S_l0_E v3099 v3100 (0 : Int)) = some (laws_eqFloat32S_l0_E v3099 v3100 (0 : Int))) <|
   (.call (laws_eqFloat32S_l0_g v3099 v3100 (0 : Int)) fun v3106 =>
   (.sum v3106 (fun v3107 =>
    .leaf false
   ) (fun v3108 =>
    .leaf true
   ))))
  ))

noncomputable def laws_eqFloat32S_g (v3099 : List Nat) (v3100 : List Nat) : Option (Bool) := (laws_eqFloat32S_T v3099 v3100).run
def laws_eqFloat32S_enc (v3099 : List Nat) (v3100 : List Nat) (y : Bool) : Rs := (.bool y, [])
theorem laws_eqFloat32S_den (v3099 : List Nat) (v3100 : List Nat) : (den TT (tabD laws_eqFloat32S_tab) (tabM laws_eqFloat32S_tab) (laws_eqFloat32S_LO v3099 v3100) (codeOf Try.f12) ([.bslc (BR.root 0) (.f32 v3099), .bslc (BR.root 1) (.f32 v3100)] ++ List.replicate (Try.f12.ntmps - ([.bslc (BR.root 0) (.f32 v3099), .bslc (BR.root 1) (.f32 v3100)] : List DV).length) .undef) []).bind (retD TT Try.f12.results.toList 0) = (laws_eqFloat32S_T v3099 v3100).bind fun y => .leaf (laws_eqFloat32S_enc v3099 v3100 y) := by kernel_rfl
theorem laws_eqFloat32S_fn (v3099 : List Nat) (v3100 : List Nat) (F : Fr) (hm : F.ids.length = 0) (h0 : St F [] F.H0) (hA : DVs.Ok F [] [.bslc (BR.root 0) (.f32 v3099), .bslc (BR.root 1) (.f32 v3100)]) {y : Bool} (hy : laws_eqFloat32S_g v3099 v3100 = some y) : ∃ H', FnOk Try.prog 12 (DVs.av F [.bslc (BR.root 0) (.f32 v3099), .bslc (BR.root 1) (.f32 v3100)]) F.H0 ((laws_eqFloat32S_enc v3099 v3100 y).1.av F) H' ∧ St F (laws_eqFloat32S_enc v3099 v3100 y).2 H' ∧ (laws_eqFloat32S_enc v3099 v3100 y).1.Ok F (laws_eqFloat32S_enc v3099 v3100 y).2 :=
  fn_fin tok laws_eqFloat32S_hO mixed Try.func12 Try.call12 (by kernel_rfl) (LoopsOk_eq (l := [(0, bodyOf Try.f12 0)]) (by kernel_rfl) ⟨laws_eqFloat32S_l0_ok v3099 v3100, trivial⟩) (laws_eqFloat32S_den v3099 v3100) hy hm h0 hA
noncomputable def laws_eqFloat32S_F : DFn := fun args L =>
  match args with
  | [a1, a2] =>
    optT (rowF32 L a1) fun v3099 =>
    optT (rowF32 L a2) fun v3100 =>
    .call (laws_eqFloat32S_g v3099 v3100) fun y => .leaf (.bool y, L)
  | _ => .fail
theorem laws_eqFloat32S_Fok : COk Try.prog 12 laws_eqFloat32S_F true := by
  intro F L H args r L' hs ha hr
  unfold laws_eqFloat32S_F at hr
  split at hr
  · rename_i a1 a2
    obtain ⟨v3099, hv3099, hr⟩ := optT_run hr
    obtain ⟨v3100, hv3100, hr⟩ := optT_run hr
    simp only [Tree.run] at hr
    obtain ⟨y, hy, hr⟩ := Option.bind_eq_some_iff.1 hr
    simp only [Tree.run, Option.some.injEq, Prod.mk.injEq] at hr
    obtain ⟨rfl, rfl⟩ := hr
    exact call_ok0 hs (fun k => (([a1.av F, a2.av F] : List AV)[k]?).getD .top) [a1, a2] [.bslc (BR.root 0) (.f32 v3099), .bslc (BR.root 1) (.f32 v3100)] (fun F' h0 hi hρ => ⟨by simp [DVs.av, DV.av, BR.av, hρ], laws_eqFloat32S_fn v3099 v3100 F' (by rw [hi]; rfl) (st_nil hi) ⟨bslc_ok hi (by rw [h0, hρ]; exact rowF32_ok hs (DVs.okAt ha 0 rfl) hv3099), bslc_ok hi (by rw [h0, hρ]; exact rowF32_ok hs (DVs.okAt ha 1 rfl) hv3100), trivial⟩ hy⟩) rfl
  · cases hr
/-! laws.eqMatrix -/
noncomputable def laws_eqMatrix_LO (v3111 : Int) (v3112 : Int) (v3113 : List Nat) (v3114 : Int) (v3115 : Int) (v3116 : List Nat) : LOr := fun id e L =>
  match id with
  | _ => .fail
noncomputable def laws_eqMatrix_tab : List (FuncId × DFn × Bool) := [(12, laws_eqFloat32S_F, true)]
theorem laws_eqMatrix_hO : OrcOk Try.prog (tabD laws_eqMatrix_tab) (tabM laws_eqMatrix_tab) := tabD_cons laws_eqFloat32S_Fok (tabD_nil _)
noncomputable def laws_eqMatrix_T (v3111 : Int) (v3112 : Int) (v3113 : List Nat) (v3114 : Int) (v3115 : Int) (v3116 : List Nat) : Tree (Bool) :=
  (.br (!decide (v3111 = v3114)) (
   .leaf false
  ) (
   (.br (!decide (v3112 = v3115)) (
    .leaf false
   ) (
    (.call (laws_eqFloat32S_g v3113 v3116) fun v3117 =>
    (.br (!v3117) (
     .leaf false
    ) (
     .leaf true
    )))
   ))
  ))

noncomputable def laws_eqMatrix_g (v3111 : Int) (v3112 : Int) (v3113 : List Nat) (v3114 : Int) (v3115 : Int) (v3116 : List Nat) : Option (Bool) := (laws_eqMatrix_T v3111 v3112 v3113 v3114 v3115 v3116).run
def laws_eqMatrix_enc (v3111 : Int) (v3112 : Int) (v3113 : List Nat) (v3114 : Int) (v3115 : Int) (v3116 : List Nat) (y : Bool) : Rs := (.bool y, [])
theorem laws_eqMatrix_den (v3111 : Int) (v3112 : Int) (v3113 : List Nat) (v3114 : Int) (v3115 : Int) (v3116 : List Nat) : (den TT (tabD laws_eqMatrix_tab) (tabM laws_eqMatrix_tab) (laws_eqMatrix_LO v3111 v3112 v3113 v3114 v3115 v3116) (codeOf Try.f20) ([.agg [.int .i64 v3111, .int .i64 v3112, .bslc (BR.root 0) (.f32 v3113)], .agg [.int .i64 v3114, .int .i64 v3115, .bslc (BR.root 1) (.f32 v3116)]] ++ List.replicate (Try.f20.ntmps - ([.agg [.int .i64 v3111, .int .i64 v3112, .bslc (BR.root 0) (.f32 v3113)], .agg [.int .i64 v3114, .int .i64 v3115, .bslc (BR.root 1) (.f32 v3116)]] : List DV).length) .undef) []).bind (retD TT Try.f20.results.toList 0) = (laws_eqMatrix_T v3111 v3112 v3113 v3114 v3115 v3116).bind fun y => .leaf (laws_eqMatrix_enc v3111 v3112 v3113 v3114 v3115 v3116 y) := by kernel_rfl
theorem laws_eqMatrix_fn (v3111 : Int) (v3112 : Int) (v3113 : List Nat) (v3114 : Int) (v3115 : Int) (v3116 : List Nat) (F : Fr) (hm : F.ids.length = 0) (h0 : St F [] F.H0) (hA : DVs.Ok F [] [.agg [.int .i64 v3111, .int .i64 v3112, .bslc (BR.root 0) (.f32 v3113)], .agg [.int .i64 v3114, .int .i64 v3115, .bslc (BR.root 1) (.f32 v3116)]]) {y : Bool} (hy : laws_eqMatrix_g v3111 v3112 v3113 v3114 v3115 v3116 = some y) : ∃ H', FnOk Try.prog 20 (DVs.av F [.agg [.int .i64 v3111, .int .i64 v3112, .bslc (BR.root 0) (.f32 v3113)], .agg [.int .i64 v3114, .int .i64 v3115, .bslc (BR.root 1) (.f32 v3116)]]) F.H0 ((laws_eqMatrix_enc v3111 v3112 v3113 v3114 v3115 v3116 y).1.av F) H' ∧ St F (laws_eqMatrix_enc v3111 v3112 v3113 v3114 v3115 v3116 y).2 H' ∧ (laws_eqMatrix_enc v3111 v3112 v3113 v3114 v3115 v3116 y).1.Ok F (laws_eqMatrix_enc v3111 v3112 v3113 v3114 v3115 v3116 y).2 :=
  fn_fin tok laws_eqMatrix_hO mixed Try.func20 Try.call20 (by kernel_rfl) (LoopsOk_eq (l := []) (by kernel_rfl) trivial) (laws_eqMatrix_den v3111 v3112 v3113 v3114 v3115 v3116) hy hm h0 hA
noncomputable def laws_eqMatrix_F : DFn := fun args L =>
  match args with
  | [.agg [.int .i64 v3111, .int .i64 v3112, a1], .agg [.int .i64 v3114, .int .i64 v3115, a2]] =>
    optT (rowF32 L a1) fun v3113 =>
    optT (rowF32 L a2) fun v3116 =>
    .call (laws_eqMatrix_g v3111 v3112 v3113 v3114 v3115 v3116) fun y => .leaf (.bool y, L)
  | _ => .fail
theorem laws_eqMatrix_Fok : COk Try.prog 20 laws_eqMatrix_F true := by
  intro F L H args r L' hs ha hr
  unfold laws_eqMatrix_F at hr
  split at hr
  · rename_i v3111 v3112 a1 v3114 v3115 a2
    obtain ⟨v3113, hv3113, hr⟩ := optT_run hr
    obtain ⟨v3116, hv3116, hr⟩ := optT_run hr
    simp only [Tree.run] at hr
    obtain ⟨y, hy, hr⟩ := Option.bind_eq_some_iff.1 hr
    simp only [Tree.run, Option.some.injEq, Prod.mk.injEq] at hr
    obtain ⟨rfl, rfl⟩ := hr
    exact call_ok0 hs (fun k => (([a1.av F, a2.av F] : List AV)[k]?).getD .top) [.agg [.int .i64 v3111, .int .i64 v3112, a1], .agg [.int .i64 v3114, .int .i64 v3115, a2]] [.agg [.int .i64 v3111, .int .i64 v3112, .bslc (BR.root 0) (.f32 v3113)], .agg [.int .i64 v3114, .int .i64 v3115, .bslc (BR.root 1) (.f32 v3116)]] (fun F' h0 hi hρ => ⟨by simp [DVs.av, DV.av, BR.av, hρ], laws_eqMatrix_fn v3111 v3112 v3113 v3114 v3115 v3116 F' (by rw [hi]; rfl) (st_nil hi) ⟨⟨trivial, trivial, bslc_ok hi (by rw [h0, hρ]; exact rowF32_ok hs (DVs.okAt (DVs.okAt ha 0 rfl) 2 rfl) hv3113), trivial⟩, ⟨trivial, trivial, bslc_ok hi (by rw [h0, hρ]; exact rowF32_ok hs (DVs.okAt (DVs.okAt ha 1 rfl) 2 rfl) hv3116), trivial⟩, trivial⟩ hy⟩) rfl
  · cases hr
/-! laws.markFloat32S -/
noncomputable def laws_markFloat32S_l0_T (s : Int × Int × (List Nat)) : Tree ((Int × Int × (List Nat)) ⊕ (Int × (List Nat))) :=
  (.br (decide (s.2.1 < (((s.2.2).length : Nat) : Int))) (
   (.grd (inb s.2.1 ((s.2.2).length)) <|
   .leaf (.inl (IntKind.i64.wrap (s.1 + (1 : Int)), IntKind.i64.wrap (s.2.1 + (1 : Int)), List.set s.2.2 (Int.toNat s.2.1) (fofint .f32 s.1))))
  ) (
   .leaf (.inr (s.1, s.2.2))
  ))

noncomputable def laws_markFloat32S_l0_g (s0 : Int × Int × (List Nat)) : Option (Int × (List Nat)) := whileM (fun s => (laws_markFloat32S_l0_T s).run) s0
def laws_markFloat32S_l0_E (v3131 : List Nat) (v3132 : Int) (s : Int × Int × (List Nat)) : Sd := ([.own 0 0 ((s.2.2).length), .int .i64 s.1, .top, .top, .top, .int .i64 s.2.1, .top, .top, .top, .top, .top, .top, .top, .top, .top, .top, .top, .top, .top, .top], [.row (.f32 s.2.2) 0])
def laws_markFloat32S_l0_X (v3131 : List Nat) (v3132 : Int) (x : Int × (List Nat)) : Out := (.normal, [.top, .int .i64 x.1, .top, .top, .top, .top, .top, .top, .top, .top, .top, .top, .top, .top, .top, .top, .top, .top, .top, .top], [.row (.f32 x.2) 0])
def laws_markFloat32S_l0_kill : List Nat := [0, 0, 1, 1, 1, 0, 1, 1, 1, 1, 1, 1, 1, 1, 1, 1, 1, 1, 1, 1]
def laws_markFloat32S_l0_nx : Exit → List Nat
  | .exit 0 => [1, 0, 1, 1, 1, 1, 1, 1, 1, 1, 1, 1, 1, 1, 1, 1, 1, 1, 1, 1]
  | .ret => [1, 1, 1, 1, 0, 1, 1, 1, 1, 1, 1, 1, 1, 1, 1, 1, 1, 1, 1, 1]
  | _ => []
noncomputable def laws_markFloat32S_LO (v3131 : List Nat) (v3132 : Int) : LOr := fun id e L =>
  match id with
  | 0 => .need (normA 1 laws_markFloat32S_l0_kill e L = some (laws_markFloat32S_l0_E v3131 v3132 ((gI (vAt e 1)), (gI (vAt e 5)), (gRF L (vAt e 0))))) (.call (laws_markFloat32S_l0_g ((gI (vAt e 1)), (gI (vAt e 5)), (gRF L (vAt e 0)))) fun x => .leaf (laws_markFloat32S_l0_X v3131 v3132 x))
  | _ => .fail
noncomputable def laws_markFloat32S_tab : List (FuncId × DFn × Bool) := []
theorem laws_markFloat32S_hO : OrcOk Try.prog (tabD laws_markFloat32S_tab) (tabM laws_markFloat32S_tab) := tabD_nil _
theorem laws_markFloat32S_l0_be (v3131 : List Nat) (v3132 : Int) (s : Int × Int × (List Nat)) : bodyT TT (tabD laws_markFloat32S_tab) (tabM laws_markFloat32S_tab) (laws_markFloat32S_LO v3131 v3132) 1 laws_markFloat32S_l0_kill laws_markFloat32S_l0_nx (bodyOf Try.f14 0) 0 (laws_markFloat32S_l0_E v3131 v3132 s) = (laws_markFloat32S_l0_T s).bind fun y => .leaf (outS (laws_markFloat32S_l0_E v3131 v3132) (laws_markFloat32S_l0_X v3131 v3132) y) := by kernel_rfl
theorem laws_markFloat32S_l0_ok (v3131 : List Nat) (v3132 : Int) : LSound Try.prog 1 (laws_markFloat32S_LO v3131 v3132) 0 (bodyOf Try.f14 0) := by
  intro e L out h
  exact lo_ok (E := laws_markFloat32S_l0_E v3131 v3132) (gT := laws_markFloat32S_l0_T) (X := laws_markFloat32S_l0_X v3131 v3132) (s0 := ((gI (vAt e 1)), (gI (vAt e 5)), (gRF L (vAt e 0)))) tok laws_markFloat32S_hO mixed (LoopsOk_eq (l := []) (by kernel_rfl) trivial) (laws_markFloat32S_l0_be v3131 v3132) rfl (by intro x; rfl) h
noncomputable def laws_markFloat32S_T (v3131 : List Nat) (v3132 : Int) : Tree (Int × (List Nat)) :=
  (.need (some (laws_markFloat32S_l0_E v3131 v3132 (v3132, (0 : Int), v3131)) = some (laws_markFloat32S_l0_E v3131 v3132 (v3132, (0 : Int), v3131))) <|
  (.call (laws_markFloat32S_l0_g (v3132, (0 : Int), v3131)) fun v3141 =>
  .leaf (v3141.1, v3141.2)))

noncomputable def laws_markFloat32S_g (v3131 : List Nat) (v3132 : Int) : Option (Int × (List Nat)) := (laws_markFloat32S_T v3131 v3132).run
def laws_markFloat32S_enc (v3131 : List Nat) (v3132 : Int) (y : Int × (List Nat)) : Rs := (.int .i64 y.1, [.row (.f32 y.2) 0])
theorem laws_markFloat32S_den (v3131 : List Nat) (v3132 : Int) : (den TT (tabD laws_markFloat32S_tab) (tabM laws_markFloat32S_tab) (laws_markFloat32S_LO v3131 v3132) (codeOf Try.f14) ([.own 0 0 v3131.length, .int .i64 v3132] ++ List.replicate (Try.f14.ntmps - ([.own 0 0 v3131.length, .int .i64 v3132] : List DV).length) .undef) [.row (.f32 v3131) 0]).bind (retD TT Try.f14.results.toList 1) = (laws_markFloat32S_T v3131 v3132).bind fun y => .leaf (laws_markFloat32S_enc v3131 v3132 y) := by kernel_rfl
theorem laws_markFloat32S_fn (v3131 : List Nat) (v3132 : Int) (F : Fr) (hm : F.ids.length = 1) (h0 : St F [.row (.f32 v3131) 0] F.H0) (hA : DVs.Ok F [.row (.f32 v3131) 0] [.own 0 0 v3131.length, .int .i64 v3132]) {y : Int × (List Nat)} (hy : laws_markFloat32S_g v3131 v3132 = some y) : ∃ H', FnOk Try.prog 14 (DVs.av F [.own 0 0 v3131.length, .int .i64 v3132]) F.H0 ((laws_markFloat32S_enc v3131 v3132 y).1.av F) H' ∧ St F (laws_markFloat32S_enc v3131 v3132 y).2 H' ∧ (laws_markFloat32S_enc v3131 v3132 y).1.Ok F (laws_markFloat32S_enc v3131 v3132 y).2 :=
  fn_fin tok laws_markFloat32S_hO mixed Try.func14 Try.call14 (by kernel_rfl) (LoopsOk_eq (l := [(0, bodyOf Try.f14 0)]) (by kernel_rfl) ⟨laws_markFloat32S_l0_ok v3131 v3132, trivial⟩) (laws_markFloat32S_den v3131 v3132) hy hm h0 hA
noncomputable def laws_markFloat32S_F : DFn := fun args L =>
  match args with
  | [a1, .int .i64 v3132] =>
    optT (ownF32 L a1) fun qv3131 =>
    (match sepB [qv3131.1] [] with
    | true =>
    .call (laws_markFloat32S_g qv3131.2 v3132) fun y => .grd (decide (y.2.length = qv3131.2.length)) (.leaf (.int .i64 y.1, setRows L ([qv3131.1].zip [.f32 y.2])))
    | false => .fail)
  | _ => .fail
theorem laws_markFloat32S_Fok : COk Try.prog 14 laws_markFloat32S_F false := by
  intro F L H args r L' hs ha hr
  unfold laws_markFloat32S_F at hr
  split at hr
  · rename_i a1 v3132
    obtain ⟨⟨jv3131, v3131⟩, hqv3131, hr⟩ := optT_run hr
    simp only at hr
    split at hr
    · rename_i hsep
      obtain ⟨hnd, hsepv⟩ := sepB_spec hsep
      simp only [Tree.run] at hr
      obtain ⟨y, hy, hr⟩ := Option.bind_eq_some_iff.1 hr
      try simp only [Tree.run] at hr
      obtain ⟨hl0, hr⟩ := ite_run hr
      simp only [Option.some.injEq, Prod.mk.injEq] at hr
      obtain ⟨rfl, rfl⟩ := hr
      obtain ⟨hr0, hu0, ha0, hb0⟩ := (ownR_spec (DVs.okAt ha 0 rfl) (ownF32_or hqv3131))
      exact mut_ok hs (fun k => (([a1.av F] : List AV)[k]?).getD .top) [a1, .int .i64 v3132] [.own 0 0 v3131.length, .int .i64 v3132] [jv3131] [.f32 v3131] [.f32 y.2] hnd rfl rfl (fun i j q h1 h2 => by
          rcases i with _ | i
          · simp at h1 h2; subst h1; subst h2; exact hr0
          · simp at h1) (fun i q q' h1 h2 => by
          rcases i with _ | i
          · simp at h1 h2; subst h1; subst h2; exact of_decide_eq_true hl0
          · simp at h1) (fun j hj => by simp at hj; subst hj; simp [DVs.refs, DV.refs, hu0]) (fun F' h0 hi hρ hst hS => ⟨by (have ab0 : F'.abs 0 = F.abs jv3131 := (by simp [Fr.abs, hi]); simp [DVs.av, DV.av, BR.av, hρ, Row.len, ha0, ab0]), by
          obtain ⟨H1, k1, k2, _⟩ := laws_markFloat32S_fn v3131 v3132 F' (by rw [hi]; rfl) hst ⟨⟨_, rfl, Nat.le_refl _, Nat.le_refl _, fun _ => rfl, (ownR_spec (DVs.okAt ha 0 rfl) (ownF32_or hqv3131)).2.2.2⟩, trivial, trivial⟩ hy
          exact ⟨H1, k1, k2⟩⟩) (fun F' => rfl) (fun L' => trivial)
    · cases hr
  · cases hr
/-! laws.markMatrix -/
noncomputable def laws_markMatrix_LO (v3142 : Int) (v3143 : Int) (v3144 : List Nat) (v3145 : Int) : LOr := fun id e L =>
  match id with
  | _ => .fail
noncomputable def laws_markMatrix_tab : List (FuncId × DFn × Bool) := [(14, laws_markFloat32S_F, false)]
theorem laws_markMatrix_hO : OrcOk Try.prog (tabD laws_markMatrix_tab) (tabM laws_markMatrix_tab) := tabD_cons laws_markFloat32S_Fok (tabD_nil _)
noncomputable def laws_markMatrix_T (v3144 : List Nat) (v3145 : Int) : Tree (Int × (List Nat)) :=
  (.call (laws_markFloat32S_g v3144 v3145) fun v3146 =>
  (.grd (decide (v3146.2.length = v3144.length)) <|
  .leaf (v3146.1, v3146.2)))

noncomputable def laws_markMatrix_g (v3144 : List Nat) (v3145 : Int) : Option (Int × (List Nat)) := (laws_markMatrix_T v3144 v3145).run
def laws_markMatrix_enc (v3142 : Int) (v3143 : Int) (v3144 : List Nat) (v3145 : Int) (y : Int × (List Nat)) : Rs := (.int .i64 y.1, [.row (.f32 y.2) 0])
theorem laws_markMatrix_den (v3142 : Int) (v3143 : Int) (v3144 : List Nat) (v3145 : Int) : (den TT (tabD laws_markMatrix_tab) (tabM laws_markMatrix_tab) (laws_markMatrix_LO v3142 v3143 v3144 v3145) (codeOf Try.f21) ([.agg [.int .i64 v3142, .int .i64 v3143, .own 0 0 v3144.length], .int .i64 v3145] ++ List.replicate (Try.f21.ntmps - ([.agg [.int .i64 v3142, .int .i64 v3143, .own 0 0 v3144.length], .int .i64 v3145] : List DV).length) .undef) [.row (.f32 v3144) 0]).bind (retD TT Try.f21.results.toList 1) = (laws_markMatrix_T v3144 v3145).bind fun y => .leaf (laws_markMatrix_enc v3142 v3143 v3144 v3145 y) := by kernel_rfl
theorem laws_markMatrix_fn (v3142 : Int) (v3143 : Int) (v3144 : List Nat) (v3145 : Int) (F : Fr) (hm : F.ids.length = 1) (h0 : St F [.row (.f32 v3144) 0] F.H0) (hA : DVs.Ok F [.row (.f32 v3144) 0] [.agg [.int .i64 v3142, .int .i64 v3143, .own 0 0 v3144.length], .int .i64 v3145]) {y : Int × (List Nat)} (hy : laws_markMatrix_g v3144 v3145 = some y) : ∃ H', FnOk Try.prog 21 (DVs.av F [.agg [.int .i64 v3142, .int .i64 v3143, .own 0 0 v3144.length], .int .i64 v3145]) F.H0 ((laws_markMatrix_enc v3142 v3143 v3144 v3145 y).1.av F) H' ∧ St F (laws_markMatrix_enc v3142 v3143 v3144 v3145 y).2 H' ∧ (laws_markMatrix_enc v3142 v3143 v3144 v3145 y).1.Ok F (laws_markMatrix_enc v3142 v3143 v3144 v3145 y).2 :=
  fn_fin tok laws_markMatrix_hO mixed Try.func21 Try.call21 (by kernel_rfl) (LoopsOk_eq (l := []) (by kernel_rfl) trivial) (laws_markMatrix_den v3142 v3143 v3144 v3145) hy hm h0 hA
noncomputable def laws_markMatrix_F : DFn := fun args L =>
  match args with
  | [.agg [.int .i64 v3142, .int .i64 v3143, a1], .int .i64 v3145] =>
    optT (ownF32 L a1) fun qv3144 =>
    (match sepB [qv3144.1] [] with
    | true =>
    .call (laws_markMatrix_g qv3144.2 v3145) fun y => .grd (decide (y.2.length = qv3144.2.length)) (.leaf (.int .i64 y.1, setRows L ([qv3144.1].zip [.f32 y.2])))
    | false => .fail)
  | _ => .fail
theorem laws_markMatrix_Fok : COk Try.prog 21 laws_markMatrix_F false := by
  intro F L H args r L' hs ha hr
  unfold laws_markMatrix_F at hr
  split at hr
  · rename_i v3142 v3143 a1 v3145
    obtain ⟨⟨jv3144, v3144⟩, hqv3144, hr⟩ := optT_run hr
    simp only at hr
    split at hr
    · rename_i hsep
      obtain ⟨hnd, hsepv⟩ := sepB_spec hsep
      simp only [Tree.run] at hr
      obtain ⟨y, hy, hr⟩ := Option.bind_eq_some_iff.1 hr
      try simp only [Tree.run] at hr
      obtain ⟨hl0, hr⟩ := ite_run hr
      simp only [Option.some.injEq, Prod.mk.injEq] at hr
      obtain ⟨rfl, rfl⟩ := hr
      obtain ⟨hr0, hu0, ha0, hb0⟩ := (ownR_spec (DVs.okAt (DVs.okAt ha 0 rfl) 2 rfl) (ownF32_or hqv3144))
      exact mut_ok hs (fun k => (([a1.av F] : List AV)[k]?).getD .top) [.agg [.int .i64 v3142, .int .i64 v3143, a1], .int .i64 v3145] [.agg [.int .i64 v3142, .int .i64 v3143, .own 0 0 v3144.length], .int .i64 v3145] [jv3144] [.f32 v3144] [.f32 y.2] hnd rfl rfl (fun i j q h1 h2 => by
          rcases i with _ | i
          · simp at h1 h2; subst h1; subst h2; exact hr0
          · simp at h1) (fun i q q' h1 h2 => by
          rcases i with _ | i
          · simp at h1 h2; subst h1; subst h2; exact of_decide_eq_true hl0
          · simp at h1) (fun j hj => by simp at hj; subst hj; simp [DVs.refs, DV.refs, hu0]) (fun F' h0 hi hρ hst hS => ⟨by (have ab0 : F'.abs 0 = F.abs jv3144 := (by simp [Fr.abs, hi]); simp [DVs.av, DV.av, BR.av, hρ, Row.len, ha0, ab0]), by
          obtain ⟨H1, k1, k2, _⟩ := laws_markMatrix_fn v3142 v3143 v3144 v3145 F' (by rw [hi]; rfl) hst ⟨⟨trivial, trivial, ⟨_, rfl, Nat.le_refl _, Nat.le_refl _, fun _ => rfl, (ownR_spec (DVs.okAt (DVs.okAt ha 0 rfl) 2 rfl) (ownF32_or hqv3144)).2.2.2⟩, trivial⟩, trivial, trivial⟩ hy
          exact ⟨H1, k1, k2⟩⟩) (fun F' => rfl) (fun L' => trivial)
    · cases hr
  · cases hr
/-! laws.markFloat32S -/
noncomputable def laws_markFloat32S_i1_l0_T (s : Unit) : Tree ((Unit) ⊕ (Unit)) :=
  (.br (decide ((0 : Int) < (0 : Int))) (
   .fail
  ) (
   .leaf (.inr ())
  ))

noncomputable def laws_markFloat32S_i1_l0_g (s0 : Unit) : Option (Unit) := whileM (fun s => (laws_markFloat32S_i1_l0_T s).run) s0
def laws_markFloat32S_i1_l0_E (v3151 : Int) (s : Unit) : Sd := ([.nilslc, .int .i64 v3151, .top, .top, .top, .int .i64 (0 : Int), .top, .top, .top, .top, .top, .top, .top, .top, .top, .top, .top, .top, .top, .top], [])
def laws_markFloat32S_i1_l0_X (v3151 : Int) (x : Unit) : Out := (.normal, [.top, .int .i64 v3151, .top, .top, .top, .top, .top, .top, .top, .top, .top, .top, .top, .top, .top, .top, .top, .top, .top, .top], [])
def laws_markFloat32S_i1_l0_kill : List Nat := [0, 0, 1, 1, 1, 0, 1, 1, 1, 1, 1, 1, 1, 1, 1, 1, 1, 1, 1, 1]
def laws_markFloat32S_i1_l0_nx : Exit → List Nat
  | .exit 0 => [1, 0, 1, 1, 1, 1, 1, 1, 1, 1, 1, 1, 1, 1, 1, 1, 1, 1, 1, 1]
  | .ret => [1, 1, 1, 1, 0, 1, 1, 1, 1, 1, 1, 1, 1, 1, 1, 1, 1, 1, 1, 1]
  | _ => []
noncomputable def laws_markFloat32S_i1_LO (v3151 : Int) : LOr := fun id e L =>
  match id with
  | 0 => .need (normA 0 laws_markFloat32S_i1_l0_kill e L = some (laws_markFloat32S_i1_l0_E v3151 ())) (.call (laws_markFloat32S_i1_l0_g ()) fun x => .leaf (laws_markFloat32S_i1_l0_X v3151 x))
  | _ => .fail
noncomputable def laws_markFloat32S_i1_tab : List (FuncId × DFn × Bool) := []
theorem laws_markFloat32S_i1_hO : OrcOk Try.prog (tabD laws_markFloat32S_i1_tab) (tabM laws_markFloat32S_i1_tab) := tabD_nil _
theorem laws_markFloat32S_i1_l0_be (v3151 : Int) (s : Unit) : bodyT TT (tabD laws_markFloat32S_i1_tab) (tabM laws_markFloat32S_i1_tab) (laws_markFloat32S_i1_LO v3151) 0 laws_markFloat32S_i1_l0_kill laws_markFloat32S_i1_l0_nx (bodyOf Try.f14 0) 0 (laws_markFloat32S_i1_l0_E v3151 s) = (laws_markFloat32S_i1_l0_T s).bind fun y => .leaf (outS (laws_markFloat32S_i1_l0_E v3151) (laws_markFloat32S_i1_l0_X v3151) y) := by kernel_rfl
theorem laws_markFloat32S_i1_l0_ok (v3151 : Int) : LSound Try.prog 0 (laws_markFloat32S_i1_LO v3151) 0 (bodyOf Try.f14 0) := by
  intro e L out h
  exact lo_ok (E := laws_markFloat32S_i1_l0_E v3151) (gT := laws_markFloat32S_i1_l0_T) (X := laws_markFloat32S_i1_l0_X v3151) (s0 := ()) tok laws_markFloat32S_i1_hO mixed (LoopsOk_eq (l := []) (by kernel_rfl) trivial) (laws_markFloat32S_i1_l0_be v3151) rfl (by intro x; rfl) h
noncomputable def laws_markFloat32S_i1_T (v3151 : Int) : Tree (Int) :=
  (.need (some (laws_markFloat32S_i1_l0_E v3151 ()) = some (laws_markFloat32S_i1_l0_E v3151 ())) <|
  (.call (laws_markFloat32S_i1_l0_g ()) fun v3154 =>
  .leaf v3151))

noncomputable def laws_markFloat32S_i1_g (v3151 : Int) : Option (Int) := (laws_markFloat32S_i1_T v3151).run
def laws_markFloat32S_i1_enc (v3151 : Int) (y : Int) : Rs := (.int .i64 y, [])
theorem laws_markFloat32S_i1_den (v3151 : Int) : (den TT (tabD laws_markFloat32S_i1_tab) (tabM laws_markFloat32S_i1_tab) (laws_markFloat32S_i1_LO v3151) (codeOf Try.f14) ([.nilslc, .int .i64 v3151] ++ List.replicate (Try.f14.ntmps - ([.nilslc, .int .i64 v3151] : List DV).length) .undef) []).bind (retD TT Try.f14.results.toList 0) = (laws_markFloat32S_i1_T v3151).bind fun y => .leaf (laws_markFloat32S_i1_enc v3151 y) := by kernel_rfl
theorem laws_markFloat32S_i1_fn (v3151 : Int) (F : Fr) (hm : F.ids.length = 0) (h0 : St F [] F.H0) (hA : DVs.Ok F [] [.nilslc, .int .i64 v3151]) {y : Int} (hy : laws_markFloat32S_i1_g v3151 = some y) : ∃ H', FnOk Try.prog 14 (DVs.av F [.nilslc, .int .i64 v3151]) F.H0 ((laws_markFloat32S_i1_enc v3151 y).1.av F) H' ∧ St F (laws_markFloat32S_i1_enc v3151 y).2 H' ∧ (laws_markFloat32S_i1_enc v3151 y).1.Ok F (laws_markFloat32S_i1_enc v3151 y).2 :=
  fn_fin tok laws_markFloat32S_i1_hO mixed Try.func14 Try.call14 (by kernel_rfl) (LoopsOk_eq (l := [(0, bodyOf Try.f14 0)]) (by kernel_rfl) ⟨laws_markFloat32S_i1_l0_ok v3151, trivial⟩) (laws_markFloat32S_i1_den v3151) hy hm h0 hA
noncomputable def laws_markFloat32S_i1_F : DFn := fun args L =>
  match args with
  | [.nilslc, .int .i64 v3151] =>
    .call (laws_markFloat32S_i1_g v3151) fun y => .leaf (.int .i64 y, L)
  | _ => .fail
theorem laws_markFloat32S_i1_Fok : COk Try.prog 14 laws_markFloat32S_i1_F true := by
  intro F L H args r L' hs ha hr
  unfold laws_markFloat32S_i1_F at hr
  split at hr
  · rename_i v3151
    simp only [Tree.run] at hr
    obtain ⟨y, hy, hr⟩ := Option.bind_eq_some_iff.1 hr
    simp only [Tree.run, Option.some.injEq, Prod.mk.injEq] at hr
    obtain ⟨rfl, rfl⟩ := hr
    exact call_ok0 hs (fun k => (([] : List AV)[k]?).getD .top) [.nilslc, .int .i64 v3151] [.nilslc, .int .i64 v3151] (fun F' h0 hi hρ => ⟨by simp [DVs.av, DV.av, BR.av, hρ], laws_markFloat32S_i1_fn v3151 F' (by rw [hi]; rfl) (st_nil hi) ⟨trivial, trivial, trivial⟩ hy⟩) rfl
  · cases hr
/-! laws.heldFloat32S -/
noncomputable def laws_heldFloat32S_l0_T (v3156 : List Nat) (s : Int × Int) : Tree ((Int × Int) ⊕ ((Unit) ⊕ (Int))) :=
  (.br (decide (s.2 < ((v3156.length : Nat) : Int))) (
   (.grd (inb s.2 v3156.length) <|
   (.br (!feq .f32 (nth v3156 (Int.toNat s.2)) (fofint .f32 s.1)) (
    .leaf (.inr (.inl ()))
   ) (
    .leaf (.inl (IntKind.i64.wrap (s.1 + (1 : Int)), IntKind.i64.wrap (s.2 + (1 : Int))))
   )))
  ) (
   .leaf (.inr (.inr s.1))
  ))

noncomputable def laws_heldFloat32S_l0_g (v3156 : List Nat) (s0 : Int × Int) : Option ((Unit) ⊕ (Int)) := whileM (fun s => (laws_heldFloat32S_l0_T v3156 s).run) s0
def laws_heldFloat32S_l0_E (v3156 : List Nat) (v3157 : Int) (s : Int × Int) : Sd := ([.bslc (BR.root 0) (.f32 v3156), .int .i64 s.1, .top, .top, .top, .int .i64 s.2, .top, .top, .top, .top, .top, .top, .top, .top, .top, .top, .top, .top, .top, .top, .top, .top], [])
def laws_heldFloat32S_l0_X (v3156 : List Nat) (v3157 : Int) (x : (Unit) ⊕ (Int)) : Out := (match x with | .inl x => (.ret, [.top, .top, .top, .top, .int .i64 (-1 : Int), .top, .top, .top, .top, .top, .top, .top, .top, .top, .top, .top, .top, .top, .top, .top, .top, .top], []) | .inr x => (.normal, [.top, .int .i64 x, .top, .top, .top, .top, .top, .top, .top, .top, .top, .top, .top, .top, .top, .top, .top, .top, .top, .top, .top, .top], []))
def laws_heldFloat32S_l0_kill : List Nat := [0, 0, 1, 1, 1, 0, 1, 1, 1, 1, 1, 1, 1, 1, 1, 1, 1, 1, 1, 1, 1, 1]
def laws_heldFloat32S_l0_nx : Exit → List Nat
  | .exit 0 => [1, 0, 1, 1, 1, 1, 1, 1, 1, 1, 1, 1, 1, 1, 1, 1, 1, 1, 1, 1, 1, 1]
  | .ret => [1, 1, 1, 1, 0, 1, 1, 1, 1, 1, 1, 1, 1, 1, 1, 1, 1, 1, 1, 1, 1, 1]
  | _ => []
noncomputable def laws_heldFloat32S_LO (v3156 : List Nat) (v3157 : Int) : LOr := fun id e L =>
  match id with
  | 0 => .need (normA 0 laws_heldFloat32S_l0_kill e L = some (laws_heldFloat32S_l0_E v3156 v3157 ((gI (vAt e 1)), (gI (vAt e 5))))) (.call (laws_heldFloat32S_l0_g v3156 ((gI (vAt e 1)), (gI (vAt e 5)))) fun x => .sum x (fun b0 => .leaf (laws_heldFloat32S_l0_X v3156 v3157 (.inl b0))) (fun c0 => .leaf (laws_heldFloat32S_l0_X v3156 v3157 (.inr c0))))
  | _ => .fail
noncomputable def laws_heldFloat32S_tab : List (FuncId × DFn × Bool) := []
theorem laws_heldFloat32S_hO : OrcOk Try.prog (tabD laws_heldFloat32S_tab) (tabM laws_heldFloat32S_tab) := tabD_nil _
theorem laws_heldFloat32S_l0_be (v3156 : List Nat) (v3157 : Int) (s : Int × Int) : bodyT TT (tabD laws_heldFloat32S_tab) (tabM laws_heldFloat32S_tab) (laws_heldFloat32S_LO v3156 v3157) 0 laws_heldFloat32S_l0_kill laws_heldFloat32S_l0_nx (bodyOf Try.f15 0) 0 (laws_heldFloat32S_l0_E v3156 v3157 s) = (laws_heldFloat32S_l0_T v3156 s).bind fun y => .leaf (outS (laws_heldFloat32S_l0_E v3156 v3157) (laws_heldFloat32S_l0_X v3156 v3157) y) := by kernel_rfl
theorem laws_heldFloat32S_l0_ok (v3156 : List Nat) (v3157 : Int) : LSound Try.prog 0 (laws_heldFloat32S_LO v3156 v3157) 0 (bodyOf Try.f15 0) := by
  intro e L out h
  exact lo_ok (E := laws_heldFloat32S_l0_E v3156 v3157) (gT := laws_heldFloat32S_l0_T v3156) (X := laws_heldFloat32S_l0_X v3156 v3157) (s0 := ((gI (vAt e 1)), (gI (vAt e 5)))) tok laws_heldFloat32S_hO mixed (LoopsOk_eq (l := []) (by kernel_rfl) trivial) (laws_heldFloat32S_l0_be v3156 v3157) rfl (by intro x; (cases x with | inl b => rfl | inr x => exact rfl)) h
noncomputable def laws_heldFloat32S_T (v3156 : List Nat) (v3157 : Int) : Tree (Int) :=
  (.need (some (laws_heldFloat32S_l0_E v3156 v3157 (v3157, (0 : Int))) = some (laws_heldFloat32S_l0_E v3156 v3157 (v3157, (0 : Int)))) <|
  (.call (laws_heldFloat32S_l0_g v3156 (v3157, (0 : Int))) fun v3164 =>
  (.sum v3164 (fun v3165 =>
   .leaf (-1 : Int)
  ) (fun v3166 =>
   .leaf v3166
  ))))

noncomputable def laws_heldFloat32S_g (v3156 : List Nat) (v3157 : Int) : Option (Int) := (laws_heldFloat32S_T v3156 v3157).run
def laws_heldFloat32S_enc (v3156 : List Nat) (v3157 : Int) (y : Int) : Rs := (.int .i64 y, [])
theorem laws_heldFloat32S_den (v3156 : List Nat) (v3157 : Int) : (den TT (tabD laws_heldFloat32S_tab) (tabM laws_heldFloat32S_tab) (laws_heldFloat32S_LO v3156 v3157) (codeOf Try.f15) ([.bslc (BR.root 0) (.f32 v3156), .int .i64 v3157] ++ List.replicate (Try.f15.ntmps - ([.bslc (BR.root 0) (.f32 v3156), .int .i64 v3157] : List DV).length) .undef) []).bind (retD TT Try.f15.results.toList 0) = (laws_heldFloat32S_T v3156 v3157).bind fun y => .leaf (laws_heldFloat32S_enc v3156 v3157 y) := by kernel_rfl
theorem laws_heldFloat32S_fn (v3156 : List Nat) (v3157 : Int) (F : Fr) (hm : F.ids.length = 0) (h0 : St F [] F.H0) (hA : DVs.Ok F [] [.bslc (BR.root 0) (.f32 v3156), .int .i64 v3157]) {y : Int} (hy : laws_heldFloat32S_g v3156 v3157 = some y) : ∃ H', FnOk Try.prog 15 (DVs.av F [.bslc (BR.root 0) (.f32 v3156), .int .i64 v3157]) F.H0 ((laws_heldFloat32S_enc v3156 v3157 y).1.av F) H' ∧ St F (laws_heldFloat32S_enc v3156 v3157 y).2 H' ∧ (laws_heldFloat32S_enc v3156 v3157 y).1.Ok F (laws_heldFloat32S_enc v3156 v3157 y).2 :=
  fn_fin tok laws_heldFloat32S_hO mixed Try.func15 Try.call15 (by kernel_rfl) (LoopsOk_eq (l := [(0, bodyOf Try.f15 0)]) (by kernel_rfl) ⟨laws_heldFloat32S_l0_ok v3156 v3157, trivial⟩) (laws_heldFloat32S_den v3156 v3157) hy hm h0 hA
noncomputable def laws_heldFloat32S_F : DFn := fun args L =>
  match args with
  | [a1, .int .i64 v3157] =>
    optT (rowF32 L a1) fun v3156 =>
    .call (laws_heldFloat32S_g v3156 v3157) fun y => .leaf (.int .i64 y, L)
  | _ => .fail
theorem laws_heldFloat32S_Fok : COk Try.prog 15 laws_heldFloat32S_F true := by
  intro F L H args r L' hs ha hr
  unfold laws_heldFloat32S_F at hr
  split at hr
  · rename_i a1 v3157
    obtain ⟨v3156, hv3156, hr⟩ := optT_run hr
    simp only [Tree.run] at hr
    obtain ⟨y, hy, hr⟩ := Option.bind_eq_some_iff.1 hr
    simp only [Tree.run, Option.some.injEq, Prod.mk.injEq] at hr
    obtain ⟨rfl, rfl⟩ := hr
    exact call_ok0 hs (fun k => (([a1.av F] : List AV)[k]?).getD .top) [a1, .int .i64 v3157] [.bslc (BR.root 0) (.f32 v3156), .int .i64 v3157] (fun F' h0 hi hρ => ⟨by simp [DVs.av, DV.av, BR.av, hρ], laws_heldFloat32S_fn v3156 v3157 F' (by rw [hi]; rfl) (st_nil hi) ⟨bslc_ok hi (by rw [h0, hρ]; exact rowF32_ok hs (DVs.okAt ha 0 rfl) hv3156), trivial, trivial⟩ hy⟩) rfl
  · cases hr
/-! laws.FnExactWeighedSquares -/
noncomputable def laws_FnExactWeighedSquares_LO (v1 : Int) (v2 : Int) (v3 : List Nat) (v4 : List Nat) (v5 : List Nat) : LOr := fun id e L =>
  match id with
  | _ => .fail
noncomputable def laws_FnExactWeighedSquares_tab : List (FuncId × DFn × Bool) := [(16, laws_szMatrix_F, true), (18, laws_toMatrix_F, true), (10, laws_toFloat32S_F, true), (34, spec_WeighedSquares_F, true), (35, impl_WeighedSquares_F, true), (12, laws_eqFloat32S_F, true), (20, laws_eqMatrix_F, true), (21, laws_markMatrix_F, false), (14, (orD (fun args => match args with | [.nilslc, _] => true | _ => false) laws_markFloat32S_i1_F laws_markFloat32S_F), false), (15, laws_heldFloat32S_F, true)]
theorem laws_FnExactWeighedSquares_hO : OrcOk Try.prog (tabD laws_FnExactWeighedSquares_tab) (tabM laws_FnExactWeighedSquares_tab) := tabD_cons laws_szMatrix_Fok (tabD_cons laws_toMatrix_Fok (tabD_cons laws_toFloat32S_Fok (tabD_cons spec_WeighedSquares_Fok (tabD_cons impl_WeighedSquares_Fok (tabD_cons laws_eqFloat32S_Fok (tabD_cons laws_eqMatrix_Fok (tabD_cons laws_markMatrix_Fok (tabD_cons (orD_ok (COk.weak laws_markFloat32S_i1_Fok) laws_markFloat32S_Fok) (tabD_cons laws_heldFloat32S_Fok (tabD_nil _))))))))))
noncomputable def laws_FnExactWeighedSquares_T (v1 : Int) (v2 : Int) (v3 : List Nat) (v4 : List Nat) (v5 : List Nat) : Tree (Bool) :=
  (.br (decide ((1048576 : Int) < ((v4.length : Nat) : Int))) (
   .leaf true
  ) (
   (.br (decide ((1048576 : Int) < ((v5.length : Nat) : Int))) (
    .leaf true
   ) (
    (.br (decide ((laws_szMatrix_v v3 (1048576 : Int)) < (0 : Int))) (
     .leaf true
    ) (
     (.call (laws_toMatrix_g v1 v2 v3) fun v23 =>
     (.call (laws_toFloat32S_g v4) fun v24 =>
     (.call (laws_toFloat32S_g v5) fun v25 =>
     (.call (spec_WeighedSquares_g v23.1 v23.2.1 v23.2.2 v24 v25) fun v1994 =>
     (.sum v1994 (fun v1995 =>
      (.call (laws_toMatrix_g v1 v2 v3) fun v1997 =>
      (.call (laws_toFloat32S_g v4) fun v1998 =>
      (.call (laws_toFloat32S_g v5) fun v1999 =>
      (.call (impl_WeighedSquares_g v1997.1 v1997.2.1 v1997.2.2 v1998 v1999) fun v3096 =>
      (.sum v3096 (fun v3097 =>
       (.call (laws_eqFloat32S_g ([] : List Nat) ([] : List Nat)) fun v3109 =>
       (.br (!v3109) (
        .leaf false
       ) (
        (.br (!(false == false)) (
         .leaf false
        ) (
         (.call (laws_toMatrix_g v1 v2 v3) fun v3110 =>
         (.call (laws_eqMatrix_g v1997.1 v1997.2.1 v1997.2.2 v3110.1 v3110.2.1 v3110.2.2) fun v3118 =>
         (.br (!v3118) (
          .leaf false
         ) (
          (.call (laws_toFloat32S_g v4) fun v3119 =>
          (.call (laws_eqFloat32S_g v1998 v3119) fun v3120 =>
          (.br (!v3120) (
           .leaf false
          ) (
           (.call (laws_toFloat32S_g v5) fun v3121 =>
           (.call (laws_eqFloat32S_g v1999 v3121) fun v3122 =>
           (.br (!v3122) (
            .leaf false
           ) (
            (.call (laws_markMatrix_g v1997.2.2 (1 : Int)) fun v3147 =>
            (.grd (decide (v3147.2.length = v1997.2.2.length)) <|
            (.call (laws_markFloat32S_g v1998 v3147.1) fun v3148 =>
            (.grd (decide (v3148.2.length = v1998.length)) <|
            (.call (laws_markFloat32S_g v1999 v3148.1) fun v3149 =>
            (.grd (decide (v3149.2.length = v1999.length)) <|
            (.br (decide (v3149.1 < (0 : Int))) (
             .leaf false
            ) (
             (.call (laws_eqFloat32S_g ([] : List Nat) ([] : List Nat)) fun v3150 =>
             (.br (!v3150) (
              .leaf false
             ) (
              (.br (!(false == false)) (
               .leaf false
              ) (
               (.call (laws_markFloat32S_i1_g (1 : Int)) fun v3155 =>
               (.call (laws_heldFloat32S_g ([] : List Nat) (1 : Int)) fun v3167 =>
               (.br (decide (v3167 < (0 : Int))) (
                .leaf false
               ) (
                (.br (!decide (v3167 = v3155)) (
                 .leaf false
                ) (
                 (.call (laws_toMatrix_g v1 v2 v3) fun v3168 =>
                 (.call (laws_toFloat32S_g v4) fun v3169 =>
                 (.call (laws_toFloat32S_g v5) fun v3170 =>
                 (.call (impl_WeighedSquares_g v3168.1 v3168.2.1 v3168.2.2 v3169 v3170) fun v3171 =>
                 (.sum v3171 (fun v3172 =>
                  (.call (laws_eqFloat32S_g ([] : List Nat) ([] : List Nat)) fun v3174 =>
                  (.br (!v3174) (
                   .leaf false
                  ) (
                   (.br (!(false == false)) (
                    .leaf false
                   ) (
                    (.call (laws_heldFloat32S_g ([] : List Nat) (1 : Int)) fun v3175 =>
                    (.br (decide (v3175 < (0 : Int))) (
                     .leaf false
                    ) (
                     (.br (!decide (v3175 = v3155)) (
                      .leaf false
                     ) (
                      .leaf true
                     ))
                    )))
                   ))
                  )))
                 ) (fun v3173 =>
                  (.call (laws_eqFloat32S_g v3173 ([] : List Nat)) fun v3176 =>
                  (.br (!v3176) (
                   .leaf false
                  ) (
                   (.br (!(true == false)) (
                    .leaf false
                   ) (
                    (.call (laws_heldFloat32S_g ([] : List Nat) (1 : Int)) fun v3177 =>
                    (.br (decide (v3177 < (0 : Int))) (
                     .leaf false
                    ) (
                     (.br (!decide (v3177 = v3155)) (
                      .leaf false
                     ) (
                      .leaf true
                     ))
                    )))
                   ))
                  )))
                 ))))))
                ))
               ))))
              ))
             )))
            ))))))))
           ))))
          ))))
         ))))
        ))
       )))
      ) (fun v3098 =>
       (.call (laws_eqFloat32S_g v3098 ([] : List Nat)) fun v3178 =>
       (.br (!v3178) (
        .leaf false
       ) (
        (.br (!(true == false)) (
         .leaf false
        ) (
         (.call (laws_toMatrix_g v1 v2 v3) fun v3179 =>
         (.call (laws_eqMatrix_g v1997.1 v1997.2.1 v1997.2.2 v3179.1 v3179.2.1 v3179.2.2) fun v3180 =>
         (.br (!v3180) (
          .leaf false
         ) (
          (.call (laws_toFloat32S_g v4) fun v3181 =>
          (.call (laws_eqFloat32S_g v1998 v3181) fun v3182 =>
          (.br (!v3182) (
           .leaf false
          ) (
           (.call (laws_toFloat32S_g v5) fun v3183 =>
           (.call (laws_eqFloat32S_g v1999 v3183) fun v3184 =>
           (.br (!v3184) (
            .leaf false
           ) (
            (.call (laws_markMatrix_g v1997.2.2 (1 : Int)) fun v3185 =>
            (.grd (decide (v3185.2.length = v1997.2.2.length)) <|
            (.call (laws_markFloat32S_g v1998 v3185.1) fun v3186 =>
            (.grd (decide (v3186.2.length = v1998.length)) <|
            (.call (laws_markFloat32S_g v1999 v3186.1) fun v3187 =>
            (.grd (decide (v3187.2.length = v1999.length)) <|
            (.br (decide (v3187.1 < (0 : Int))) (
             .leaf false
            ) (
             (.call (laws_eqFloat32S_g v3098 ([] : List Nat)) fun v3188 =>
             (.br (!v3188) (
              .leaf false
             ) (
              (.br (!(true == false)) (
               .leaf false
              ) (
               (.call (laws_markFloat32S_g v3098 (1 : Int)) fun v3189 =>
               (.grd (decide (v3189.2.length = v3098.length)) <|
               (.call (laws_heldFloat32S_g v3189.2 (1 : Int)) fun v3190 =>
               (.br (decide (v3190 < (0 : Int))) (
                .leaf false
               ) (
                (.br (!decide (v3190 = v3189.1)) (
                 .leaf false
                ) (
                 (.call (laws_toMatrix_g v1 v2 v3) fun v3191 =>
                 (.call (laws_toFloat32S_g v4) fun v3192 =>
                 (.call (laws_toFloat32S_g v5) fun v3193 =>
                 (.call (impl_WeighedSquares_g v3191.1 v3191.2.1 v3191.2.2 v3192 v3193) fun v3194 =>
                 (.sum v3194 (fun v3195 =>
                  (.call (laws_eqFloat32S_g ([] : List Nat) ([] : List Nat)) fun v3197 =>
                  (.br (!v3197) (
                   .leaf false
                  ) (
                   (.br (!(false == false)) (
                    .leaf false
                   ) (
                    (.call (laws_heldFloat32S_g v3189.2 (1 : Int)) fun v3198 =>
                    (.br (decide (v3198 < (0 : Int))) (
                     .leaf false
                    ) (
                     (.br (!decide (v3198 = v3189.1)) (
                      .leaf false
                     ) (
                      .leaf true
                     ))
                    )))
                   ))
                  )))
                 ) (fun v3196 =>
                  (.call (laws_eqFloat32S_g v3196 ([] : List Nat)) fun v3199 =>
                  (.br (!v3199) (
                   .leaf false
                  ) (
                   (.br (!(true == false)) (
                    .leaf false
                   ) (
                    (.call (laws_heldFloat32S_g v3189.2 (1 : Int)) fun v3200 =>
                    (.br (decide (v3200 < (0 : Int))) (
                     .leaf false
                    ) (
                     (.br (!decide (v3200 = v3189.1)) (
                      .leaf false
                     ) (
                      .leaf true
                     ))
                    )))
                   ))
                  )))
                 ))))))
                ))
               )))))
              ))
             )))
            ))))))))
           ))))
          ))))
         ))))
        ))
       )))
      ))))))
     ) (fun v1996 =>
      (.call (laws_toMatrix_g v1 v2 v3) fun v3201 =>
      (.call (laws_toFloat32S_g v4) fun v3202 =>
      (.call (laws_toFloat32S_g v5) fun v3203 =>
      (.call (impl_WeighedSquares_g v3201.1 v3201.2.1 v3201.2.2 v3202 v3203) fun v3204 =>
      (.sum v3204 (fun v3205 =>
       (.call (laws_eqFloat32S_g ([] : List Nat) v1996) fun v3207 =>
       (.br (!v3207) (
        .leaf false
       ) (
        (.br (!(false == true)) (
         .leaf false
        ) (
         (.call (laws_toMatrix_g v1 v2 v3) fun v3208 =>
         (.call (laws_eqMatrix_g v3201.1 v3201.2.1 v3201.2.2 v3208.1 v3208.2.1 v3208.2.2) fun v3209 =>
         (.br (!v3209) (
          .leaf false
         ) (
          (.call (laws_toFloat32S_g v4) fun v3210 =>
          (.call (laws_eqFloat32S_g v3202 v3210) fun v3211 =>
          (.br (!v3211) (
           .leaf false
          ) (
           (.call (laws_toFloat32S_g v5) fun v3212 =>
           (.call (laws_eqFloat32S_g v3203 v3212) fun v3213 =>
           (.br (!v3213) (
            .leaf false
           ) (
            (.call (laws_markMatrix_g v3201.2.2 (1 : Int)) fun v3214 =>
            (.grd (decide (v3214.2.length = v3201.2.2.length)) <|
            (.call (laws_markFloat32S_g v3202 v3214.1) fun v3215 =>
            (.grd (decide (v3215.2.length = v3202.length)) <|
            (.call (laws_markFloat32S_g v3203 v3215.1) fun v3216 =>
            (.grd (decide (v3216.2.length = v3203.length)) <|
            (.br (decide (v3216.1 < (0 : Int))) (
             .leaf false
            ) (
             (.call (laws_eqFloat32S_g ([] : List Nat) v1996) fun v3217 =>
             (.br (!v3217) (
              .leaf false
             ) (
              (.br (!(false == true)) (
               .leaf false
              ) (
               (.call (laws_markFloat32S_i1_g (1 : Int)) fun v3218 =>
               (.call (laws_heldFloat32S_g ([] : List Nat) (1 : Int)) fun v3219 =>
               (.br (decide (v3219 < (0 : Int))) (
                .leaf false
               ) (
                (.br (!decide (v3219 = v3218)) (
                 .leaf false
                ) (
                 (.call (laws_toMatrix_g v1 v2 v3) fun v3220 =>
                 (.call (laws_toFloat32S_g v4) fun v3221 =>
                 (.call (laws_toFloat32S_g v5) fun v3222 =>
                 (.call (impl_WeighedSquares_g v3220.1 v3220.2.1 v3220.2.2 v3221 v3222) fun v3223 =>
                 (.sum v3223 (fun v3224 =>
                  (.call (laws_eqFloat32S_g ([] : List Nat) v1996) fun v3226 =>
                  (.br (!v3226) (
                   .leaf false
                  ) (
                   (.br (!(false == true)) (
                    .leaf false
                   ) (
                    (.call (laws_heldFloat32S_g ([] : List Nat) (1 : Int)) fun v3227 =>
                    (.br (decide (v3227 < (0 : Int))) (
                     .leaf false
                    ) (
                     (.br (!decide (v3227 = v3218)) (
                      .leaf false
                     ) (
                      .leaf true
                     ))
                    )))
                   ))
                  )))
                 ) (fun v3225 =>
                  (.call (laws_eqFloat32S_g v3225 v1996) fun v3228 =>
                  (.br (!v3228) (
                   .leaf false
                  ) (
                   (.br (!(true == true)) (
                    .leaf false
                   ) (
                    (.call (laws_heldFloat32S_g ([] : List Nat) (1 : Int)) fun v3229 =>
                    (.br (decide (v3229 < (0 : Int))) (
                     .leaf false
                    ) (
                     (.br (!decide (v3229 = v3218)) (
                      .leaf false
                     ) (
                      .leaf true
                     ))
                    )))
                   ))
                  )))
                 ))))))
                ))
               ))))
              ))
             )))
            ))))))))
           ))))
          ))))
         ))))
        ))
       )))
      ) (fun v3206 =>
       (.call (laws_eqFloat32S_g v3206 v1996) fun v3230 =>
       (.br (!v3230) (
        .leaf false
       ) (
        (.br (!(true == true)) (
         .leaf false
        ) (
         (.call (laws_toMatrix_g v1 v2 v3) fun v3231 =>
         (.call (laws_eqMatrix_g v3201.1 v3201.2.1 v3201.2.2 v3231.1 v3231.2.1 v3231.2.2) fun v3232 =>
         (.br (!v3232) (
          .leaf false
         ) (
          (.call (laws_toFloat32S_g v4) fun v3233 =>
          (.call (laws_eqFloat32S_g v3202 v3233) fun v3234 =>
          (.br (!v3234) (
           .leaf false
          ) (
           (.call (laws_toFloat32S_g v5) fun v3235 =>
           (.call (laws_eqFloat32S_g v3203 v3235) fun v3236 =>
           (.br (!v3236) (
            .leaf false
           ) (
            (.call (laws_markMatrix_g v3201.2.2 (1 : Int)) fun v3237 =>
            (.grd (decide (v3237.2.length = v3201.2.2.length)) <|
            (.call (laws_markFloat32S_g v3202 v3237.1) fun v3238 =>
            (.grd (decide (v3238.2.length = v3202.length)) <|
            (.call (laws_markFloat32S_g v3203 v3238.1) fun v3239 =>
            (.grd (decide (v3239.2.length = v3203.length)) <|
            (.br (decide (v3239.1 < (0 : Int))) (
             .leaf false
            ) (
             (.call (laws_eqFloat32S_g v3206 v1996) fun v3240 =>
             (.br (!v3240) (
              .leaf false
             ) (
              (.br (!(true == true)) (
               .leaf false
              ) (
               (.call (laws_markFloat32S_g v3206 (1 : Int)) fun v3241 =>
               (.grd (decide (v3241.2.length = v3206.length)) <|
               (.call (laws_heldFloat32S_g v3241.2 (1 : Int)) fun v3242 =>
               (.br (decide (v3242 < (0 : Int))) (
                .leaf false
               ) (
                (.br (!decide (v3242 = v3241.1)) (
                 .leaf false
                ) (
                 (.call (laws_toMatrix_g v1 v2 v3) fun v3243 =>
                 (.call (laws_toFloat32S_g v4) fun v3244 =>
                 (.call (laws_toFloat32S_g v5) fun v3245 =>
                 (.call (impl_WeighedSquares_g v3243.1 v3243.2.1 v3243.2.2 v3244 v3245) fun v3246 =>
                 (.sum v3246 (fun v3247 =>
                  (.call (laws_eqFloat32S_g ([] : List Nat) v1996) fun v3249 =>
                  (.br (!v3249) (
                   .leaf false
                  ) (
                   (.br (!(false == true)) (
                    .leaf false
                   ) (
                    (.call (laws_heldFloat32S_g v3241.2 (1 : Int)) fun v3250 =>
                    (.br (decide (v3250 < (0 : Int))) (
                     .leaf false
                    ) (
                     (.br (!decide (v3250 = v3241.1)) (
                      .leaf false
                     ) (
                      .leaf true
                     ))
                    )))
                   ))
                  )))
                 ) (fun v3248 =>
                  (.call (laws_eqFloat32S_g v3248 v1996) fun v3251 =>
                  (.br (!v3251) (
                   .leaf false
                  ) (
                   (.br (!(true == true)) (
                    .leaf false
                   ) (
                    (.call (laws_heldFloat32S_g v3241.2 (1 : Int)) fun v3252 =>
                    (.br (decide (v3252 < (0 : Int))) (
                     .leaf false
                    ) (
                     (.br (!decide (v3252 = v3241.1)) (
                      .leaf false
                     ) (
                      .leaf true
                     ))
                    )))
                   ))
                  )))
                 ))))))
                ))
               )))))
              ))
             )))
            ))))))))
           ))))
          ))))
         ))))
        ))
       )))
      ))))))
     ))))))
    ))
   ))
  ))

noncomputable def laws_FnExactWeighedSquares_g (v1 : Int) (v2 : Int) (v3 : List Nat) (v4 : List Nat) (v5 : List Nat) : Option (Bool) := (laws_FnExactWeighedSquares_T v1 v2 v3 v4 v5).run
def laws_FnExactWeighedSquares_enc (v1 : Int) (v2 : Int) (v3 : List Nat) (v4 : List Nat) (v5 : List Nat) (y : Bool) : Rs := (.bool y, [])
theorem laws_FnExactWeighedSquares_den (v1 : Int) (v2 : Int) (v3 : List Nat) (v4 : List Nat) (v5 : List Nat) : (den TT (tabD laws_FnExactWeighedSquares_tab) (tabM laws_FnExactWeighedSquares_tab) (laws_FnExactWeighedSquares_LO v1 v2 v3 v4 v5) (codeOf Try.f8) ([.agg [.int .i64 v1, .int .i64 v2, .bslc (BR.root 0) (.f32 v3)], .bslc (BR.root 1) (.f32 v4), .bslc (BR.root 2) (.f32 v5)] ++ List.replicate (Try.f8.ntmps - ([.agg [.int .i64 v1, .int .i64 v2, .bslc (BR.root 0) (.f32 v3)], .bslc (BR.root 1) (.f32 v4), .bslc (BR.root 2) (.f32 v5)] : List DV).length) .undef) []).bind (retD TT Try.f8.results.toList 0) = (laws_FnExactWeighedSquares_T v1 v2 v3 v4 v5).bind fun y => .leaf (laws_FnExactWeighedSquares_enc v1 v2 v3 v4 v5 y) := by kernel_rfl
theorem laws_FnExactWeighedSquares_fn (v1 : Int) (v2 : Int) (v3 : List Nat) (v4 : List Nat) (v5 : List Nat) (F : Fr) (hm : F.ids.length = 0) (h0 : St F [] F.H0) (hA : DVs.Ok F [] [.agg [.int .i64 v1, .int .i64 v2, .bslc (BR.root 0) (.f32 v3)], .bslc (BR.root 1) (.f32 v4), .bslc (BR.root 2) (.f32 v5)]) {y : Bool} (hy : laws_FnExactWeighedSquares_g v1 v2 v3 v4 v5 = some y) : ∃ H', FnOk Try.prog 8 (DVs.av F [.agg [.int .i64 v1, .int .i64 v2, .bslc (BR.root 0) (.f32 v3)], .bslc (BR.root 1) (.f32 v4), .bslc (BR.root 2) (.f32 v5)]) F.H0 ((laws_FnExactWeighedSquares_enc v1 v2 v3 v4 v5 y).1.av F) H' ∧ St F (laws_FnExactWeighedSquares_enc v1 v2 v3 v4 v5 y).2 H' ∧ (laws_FnExactWeighedSquares_enc v1 v2 v3 v4 v5 y).1.Ok F (laws_FnExactWeighedSquares_enc v1 v2 v3 v4 v5 y).2 :=
  fn_fin tok laws_FnExactWeighedSquares_hO mixed Try.func8 Try.call8 (by kernel_rfl) (LoopsOk_eq (l := []) (by kernel_rfl) trivial) (laws_FnExactWeighedSquares_den v1 v2 v3 v4 v5) hy hm h0 hA
noncomputable def laws_FnExactWeighedSquares_F : DFn := fun args L =>
  match args with
  | [.agg [.int .i64 v1, .int .i64 v2, a1], a2, a3] =>
    optT (rowF32 L a1) fun v3 =>
    optT (rowF32 L a2) fun v4 =>
    optT (rowF32 L a3) fun v5 =>
    .call (laws_FnExactWeighedSquares_g v1 v2 v3 v4 v5) fun y => .leaf (.bool y, L)
  | _ => .fail
theorem laws_FnExactWeighedSquares_Fok : COk Try.prog 8 laws_FnExactWeighedSquares_F true := by
  intro F L H args r L' hs ha hr
  unfold laws_FnExactWeighedSquares_F at hr
  split at hr
  · rename_i v1 v2 a1 a2 a3
    obtain ⟨v3, hv3, hr⟩ := optT_run hr
    obtain ⟨v4, hv4, hr⟩ := optT_run hr
    obtain ⟨v5, hv5, hr⟩ := optT_run hr
    simp only [Tree.run] at hr
    obtain ⟨y, hy, hr⟩ := Option.bind_eq_some_iff.1 hr
    simp only [Tree.run, Option.some.injEq, Prod.mk.injEq] at hr
    obtain ⟨rfl, rfl⟩ := hr
    exact call_ok0 hs (fun k => (([a1.av F, a2.av F, a3.av F] : List AV)[k]?).getD .top) [.agg [.int .i64 v1, .int .i64 v2, a1], a2, a3] [.agg [.int .i64 v1, .int .i64 v2, .bslc (BR.root 0) (.f32 v3)], .bslc (BR.root 1) (.f32 v4), .bslc (BR.root 2) (.f32 v5)] (fun F' h0 hi hρ => ⟨by simp [DVs.av, DV.av, BR.av, hρ], laws_FnExactWeighedSquares_fn v1 v2 v3 v4 v5 F' (by rw [hi]; rfl) (st_nil hi) ⟨⟨trivial, trivial, bslc_ok hi (by rw [h0, hρ]; exact rowF32_ok hs (DVs.okAt (DVs.okAt ha 0 rfl) 2 rfl) hv3), trivial⟩, bslc_ok hi (by rw [h0, hρ]; exact rowF32_ok hs (DVs.okAt ha 1 rfl) hv4), bslc_ok hi (by rw [h0, hρ]; exact rowF32_ok hs (DVs.okAt ha 2 rfl) hv5), trivial⟩ hy⟩) rfl
  · cases hr
/-! laws.szFloat32S -/
noncomputable def laws_szFloat32S_len_LO (v3262 : Nat) (v3263 : Int) : LOr := fun id e L =>
  match id with
  | _ => .fail
noncomputable def laws_szFloat32S_len_tab : List (FuncId × DFn × Bool) := []
theorem laws_szFloat32S_len_hO : OrcOk Try.prog (tabD laws_szFloat32S_len_tab) (tabM laws_szFloat32S_len_tab) := tabD_nil _
noncomputable def laws_szFloat32S_len_T (v3262 : Nat) (v3263 : Int) : Tree (Int) :=
  (.br (decide (IntKind.i64.wrap (v3263 - ((v3262 : Nat) : Int)) < (0 : Int))) (
   .leaf (-1 : Int)
  ) (
   .leaf (IntKind.i64.wrap (v3263 - ((v3262 : Nat) : Int)))
  ))

noncomputable def laws_szFloat32S_len_g (v3262 : Nat) (v3263 : Int) : Option (Int) := (laws_szFloat32S_len_T v3262 v3263).run
def laws_szFloat32S_len_enc (v3262 : Nat) (v3263 : Int) (y : Int) : Rs := (.int .i64 y, [])
theorem laws_szFloat32S_len_den (v3262 : Nat) (v3263 : Int) : (den TT (tabD laws_szFloat32S_len_tab) (tabM laws_szFloat32S_len_tab) (laws_szFloat32S_len_LO v3262 v3263) (codeOf Try.f44) ([.hslc (BR.root 0) v3262, .int .i64 v3263] ++ List.replicate (Try.f44.ntmps - ([.hslc (BR.root 0) v3262, .int .i64 v3263] : List DV).length) .undef) []).bind (retD TT Try.f44.results.toList 0) = (laws_szFloat32S_len_T v3262 v3263).bind fun y => .leaf (laws_szFloat32S_len_enc v3262 v3263 y) := by kernel_rfl
theorem laws_szFloat32S_len_fn (v3262 : Nat) (v3263 : Int) (F : Fr) (hm : F.ids.length = 0) (h0 : St F [] F.H0) (hA : DVs.Ok F [] [.hslc (BR.root 0) v3262, .int .i64 v3263]) {y : Int} (hy : laws_szFloat32S_len_g v3262 v3263 = some y) : ∃ H', FnOk Try.prog 44 (DVs.av F [.hslc (BR.root 0) v3262, .int .i64 v3263]) F.H0 ((laws_szFloat32S_len_enc v3262 v3263 y).1.av F) H' ∧ St F (laws_szFloat32S_len_enc v3262 v3263 y).2 H' ∧ (laws_szFloat32S_len_enc v3262 v3263 y).1.Ok F (laws_szFloat32S_len_enc v3262 v3263 y).2 :=
  fn_fin tok laws_szFloat32S_len_hO mixed Try.func44 Try.call44 (by kernel_rfl) (LoopsOk_eq (l := []) (by kernel_rfl) trivial) (laws_szFloat32S_len_den v3262 v3263) hy hm h0 hA
def laws_szFloat32S_len_v (v3262 : Nat) (v3263 : Int) : Int :=
  if (decide (IntKind.i64.wrap (v3263 - ((v3262 : Nat) : Int)) < (0 : Int))) = true then (
   (-1 : Int)
  ) else (
   IntKind.i64.wrap (v3263 - ((v3262 : Nat) : Int))
  )
theorem laws_szFloat32S_len_tot (v3262 : Nat) (v3263 : Int) : laws_szFloat32S_len_g v3262 v3263 = some (laws_szFloat32S_len_v v3262 v3263) := by
  unfold laws_szFloat32S_len_g laws_szFloat32S_len_T laws_szFloat32S_len_v
  simp only [Tree.run]
  repeat' (first | rfl | split)
noncomputable def laws_szFloat32S_len_F : DFn := fun args L =>
  match args with
  | [a1, .int .i64 v3263] =>
    optT (lenV L a1) fun v3262 =>
    .leaf (.int .i64 (laws_szFloat32S_len_v v3262 v3263), L)
  | _ => .fail
theorem laws_szFloat32S_len_Fok : COk Try.prog 44 laws_szFloat32S_len_F true := by
  intro F L H args r L' hs ha hr
  unfold laws_szFloat32S_len_F at hr
  split at hr
  · rename_i a1 v3263
    obtain ⟨v3262, hv3262, hr⟩ := optT_run hr
    have hy := laws_szFloat32S_len_tot v3262 v3263
    generalize laws_szFloat32S_len_v v3262 v3263 = y at hy hr
    simp only [Tree.run, Option.some.injEq, Prod.mk.injEq] at hr
    obtain ⟨rfl, rfl⟩ := hr
    exact call_ok0 hs (fun k => (([a1.av F] : List AV)[k]?).getD .top) [a1, .int .i64 v3263] [.hslc (BR.root 0) v3262, .int .i64 v3263] (fun F' h0 hi hρ => ⟨by simp [DVs.av, DV.av, BR.av, hρ], laws_szFloat32S_len_fn v3262 v3263 F' (by rw [hi]; rfl) (st_nil hi) ⟨hslc_ok hi (by rw [h0, hρ]; exact lenV_ok hs (DVs.okAt ha 0 rfl) hv3262), trivial, trivial⟩ hy⟩) rfl
  · cases hr
/-! laws.szMatrix -/
noncomputable def laws_szMatrix_len_LO (v3258 : Int) (v3259 : Int) (v3260 : Nat) (v3261 : Int) : LOr := fun id e L =>
  match id with
  | _ => .fail
noncomputable def laws_szMatrix_len_tab : List (FuncId × DFn × Bool) := [(44, laws_szFloat32S_len_F, true)]
theorem laws_szMatrix_len_hO : OrcOk Try.prog (tabD laws_szMatrix_len_tab) (tabM laws_szMatrix_len_tab) := tabD_cons laws_szFloat32S_len_Fok (tabD_nil _)
noncomputable def laws_szMatrix_len_T (v3260 : Nat) (v3261 : Int) : Tree (Int) :=
  (.br (decide ((laws_szFloat32S_len_v v3260 v3261) < (0 : Int))) (
   .leaf (-1 : Int)
  ) (
   .leaf (laws_szFloat32S_len_v v3260 v3261)
  ))

noncomputable def laws_szMatrix_len_g (v3260 : Nat) (v3261 : Int) : Option (Int) := (laws_szMatrix_len_T v3260 v3261).run
def laws_szMatrix_len_enc (v3258 : Int) (v3259 : Int) (v3260 : Nat) (v3261 : Int) (y : Int) : Rs := (.int .i64 y, [])
theorem laws_szMatrix_len_den (v3258 : Int) (v3259 : Int) (v3260 : Nat) (v3261 : Int) : (den TT (tabD laws_szMatrix_len_tab) (tabM laws_szMatrix_len_tab) (laws_szMatrix_len_LO v3258 v3259 v3260 v3261) (codeOf Try.f16) ([.agg [.int .i64 v3258, .int .i64 v3259, .hslc (BR.root 0) v3260], .int .i64 v3261] ++ List.replicate (Try.f16.ntmps - ([.agg [.int .i64 v3258, .int .i64 v3259, .hslc (BR.root 0) v3260], .int .i64 v3261] : List DV).length) .undef) []).bind (retD TT Try.f16.results.toList 0) = (laws_szMatrix_len_T v3260 v3261).bind fun y => .leaf (laws_szMatrix_len_enc v3258 v3259 v3260 v3261 y) := by kernel_rfl
theorem laws_szMatrix_len_fn (v3258 : Int) (v3259 : Int) (v3260 : Nat) (v3261 : Int) (F : Fr) (hm : F.ids.length = 0) (h0 : St F [] F.H0) (hA : DVs.Ok F [] [.agg [.int .i64 v3258, .int .i64 v3259, .hslc (BR.root 0) v3260], .int .i64 v3261]) {y : Int} (hy : laws_szMatrix_len_g v3260 v3261 = some y) : ∃ H', FnOk Try.prog 16 (DVs.av F [.agg [.int .i64 v3258, .int .i64 v3259, .hslc (BR.root 0) v3260], .int .i64 v3261]) F.H0 ((laws_szMatrix_len_enc v3258 v3259 v3260 v3261 y).1.av F) H' ∧ St F (laws_szMatrix_len_enc v3258 v3259 v3260 v3261 y).2 H' ∧ (laws_szMatrix_len_enc v3258 v3259 v3260 v3261 y).1.Ok F (laws_szMatrix_len_enc v3258 v3259 v3260 v3261 y).2 :=
  fn_fin tok laws_szMatrix_len_hO mixed Try.func16 Try.call16 (by kernel_rfl) (LoopsOk_eq (l := []) (by kernel_rfl) trivial) (laws_szMatrix_len_den v3258 v3259 v3260 v3261) hy hm h0 hA
def laws_szMatrix_len_v (v3260 : Nat) (v3261 : Int) : Int :=
  if (decide ((laws_szFloat32S_len_v v3260 v3261) < (0 : Int))) = true then (
   (-1 : Int)
  ) else (
   (laws_szFloat32S_len_v v3260 v3261)
  )
theorem laws_szMatrix_len_tot (v3260 : Nat) (v3261 : Int) : laws_szMatrix_len_g v3260 v3261 = some (laws_szMatrix_len_v v3260 v3261) := by
  unfold laws_szMatrix_len_g laws_szMatrix_len_T laws_szMatrix_len_v
  simp only [Tree.run]
  repeat' (first | rfl | split)
noncomputable def laws_szMatrix_len_F : DFn := fun args L =>
  match args with
  | [.agg [.int .i64 v3258, .int .i64 v3259, a1], .int .i64 v3261] =>
    optT (lenV L a1) fun v3260 =>
    .leaf (.int .i64 (laws_szMatrix_len_v v3260 v3261), L)
  | _ => .fail
theorem laws_szMatrix_len_Fok : COk Try.prog 16 laws_szMatrix_len_F true := by
  intro F L H args r L' hs ha hr
  unfold laws_szMatrix_len_F at hr
  split at hr
  · rename_i v3258 v3259 a1 v3261
    obtain ⟨v3260, hv3260, hr⟩ := optT_run hr
    have hy := laws_szMatrix_len_tot v3260 v3261
    generalize laws_szMatrix_len_v v3260 v3261 = y at hy hr
    simp only [Tree.run, Option.some.injEq, Prod.mk.injEq] at hr
    obtain ⟨rfl, rfl⟩ := hr
    exact call_ok0 hs (fun k => (([a1.av F] : List AV)[k]?).getD .top) [.agg [.int .i64 v3258, .int .i64 v3259, a1], .int .i64 v3261] [.agg [.int .i64 v3258, .int .i64 v3259, .hslc (BR.root 0) v3260], .int .i64 v3261] (fun F' h0 hi hρ => ⟨by simp [DVs.av, DV.av, BR.av, hρ], laws_szMatrix_len_fn v3258 v3259 v3260 v3261 F' (by rw [hi]; rfl) (st_nil hi) ⟨⟨trivial, trivial, hslc_ok hi (by rw [h0, hρ]; exact lenV_ok hs (DVs.okAt (DVs.okAt ha 0 rfl) 2 rfl) hv3260), trivial⟩, trivial, trivial⟩ hy⟩) rfl
  · cases hr
/-! laws.FnExactWeighedSquares -/
noncomputable def laws_FnExactWeighedSquares_len_LO (v3253 : Int) (v3254 : Int) (v3255 : Nat) (v3256 : Nat) (v3257 : Nat) : LOr := fun id e L =>
  match id with
  | _ => .fail
noncomputable def laws_FnExactWeighedSquares_len_tab : List (FuncId × DFn × Bool) := [(16, laws_szMatrix_len_F, true)]
theorem laws_FnExactWeighedSquares_len_hO : OrcOk Try.prog (tabD laws_FnExactWeighedSquares_len_tab) (tabM laws_FnExactWeighedSquares_len_tab) := tabD_cons laws_szMatrix_len_Fok (tabD_nil _)
noncomputable def laws_FnExactWeighedSquares_len_T (v3255 : Nat) (v3256 : Nat) (v3257 : Nat) : Tree (Bool) :=
  (.br (decide ((1048576 : Int) < ((v3256 : Nat) : Int))) (
   .leaf true
  ) (
   (.br (decide ((1048576 : Int) < ((v3257 : Nat) : Int))) (
    .leaf true
   ) (
    (.br (decide ((laws_szMatrix_len_v v3255 (1048576 : Int)) < (0 : Int))) (
     .leaf true
    ) (
     .fail
    ))
   ))
  ))

noncomputable def laws_FnExactWeighedSquares_len_g (v3255 : Nat) (v3256 : Nat) (v3257 : Nat) : Option (Bool) := (laws_FnExactWeighedSquares_len_T v3255 v3256 v3257).run
def laws_FnExactWeighedSquares_len_enc (v3253 : Int) (v3254 : Int) (v3255 : Nat) (v3256 : Nat) (v3257 : Nat) (y : Bool) : Rs := (.bool y, [])
theorem laws_FnExactWeighedSquares_len_den (v3253 : Int) (v3254 : Int) (v3255 : Nat) (v3256 : Nat) (v3257 : Nat) : (den TT (tabD laws_FnExactWeighedSquares_len_tab) (tabM laws_FnExactWeighedSquares_len_tab) (laws_FnExactWeighedSquares_len_LO v3253 v3254 v3255 v3256 v3257) (codeOf Try.f8) ([.agg [.int .i64 v3253, .int .i64 v3254, .hslc (BR.root 0) v3255], .hslc (BR.root 1) v3256, .hslc (BR.root 2) v3257] ++ List.replicate (Try.f8.ntmps - ([.agg [.int .i64 v3253, .int .i64 v3254, .hslc (BR.root 0) v3255], .hslc (BR.root 1) v3256, .hslc (BR.root 2) v3257] : List DV).length) .undef) []).bind (retD TT Try.f8.results.toList 0) = (laws_FnExactWeighedSquares_len_T v3255 v3256 v3257).bind fun y => .leaf (laws_FnExactWeighedSquares_len_enc v3253 v3254 v3255 v3256 v3257 y) := by kernel_rfl
theorem laws_FnExactWeighedSquares_len_fn (v3253 : Int) (v3254 : Int) (v3255 : Nat) (v3256 : Nat) (v3257 : Nat) (F : Fr) (hm : F.ids.length = 0) (h0 : St F [] F.H0) (hA : DVs.Ok F [] [.agg [.int .i64 v3253, .int .i64 v3254, .hslc (BR.root 0) v3255], .hslc (BR.root 1) v3256, .hslc (BR.root 2) v3257]) {y : Bool} (hy : laws_FnExactWeighedSquares_len_g v3255 v3256 v3257 = some y) : ∃ H', FnOk Try.prog 8 (DVs.av F [.agg [.int .i64 v3253, .int .i64 v3254, .hslc (BR.root 0) v3255], .hslc (BR.root 1) v3256, .hslc (BR.root 2) v3257]) F.H0 ((laws_FnExactWeighedSquares_len_enc v3253 v3254 v3255 v3256 v3257 y).1.av F) H' ∧ St F (laws_FnExactWeighedSquares_len_enc v3253 v3254 v3255 v3256 v3257 y).2 H' ∧ (laws_FnExactWeighedSquares_len_enc v3253 v3254 v3255 v3256 v3257 y).1.Ok F (laws_FnExactWeighedSquares_len_enc v3253 v3254 v3255 v3256 v3257 y).2 :=
  fn_fin tok laws_FnExactWeighedSquares_len_hO mixed Try.func8 Try.call8 (by kernel_rfl) (LoopsOk_eq (l := []) (by kernel_rfl) trivial) (laws_FnExactWeighedSquares_len_den v3253 v3254 v3255 v3256 v3257) hy hm h0 hA
noncomputable def laws_FnExactWeighedSquares_len_F : DFn := fun args L =>
  match args with
  | [.agg [.int .i64 v3253, .int .i64 v3254, a1], a2, a3] =>
    optT (lenV L a1) fun v3255 =>
    optT (lenV L a2) fun v3256 =>
    optT (lenV L a3) fun v3257 =>
    .call (laws_FnExactWeighedSquares_len_g v3255 v3256 v3257) fun y => .leaf (.bool y, L)
  | _ => .fail
theorem laws_FnExactWeighedSquares_len_Fok : COk Try.prog 8 laws_FnExactWeighedSquares_len_F true := by
  intro F L H args r L' hs ha hr
  unfold laws_FnExactWeighedSquares_len_F at hr
  split at hr
  · rename_i v3253 v3254 a1 a2 a3
    obtain ⟨v3255, hv3255, hr⟩ := optT_run hr
    obtain ⟨v3256, hv3256, hr⟩ := optT_run hr
    obtain ⟨v3257, hv3257, hr⟩ := optT_run hr
    simp only [Tree.run] at hr
    obtain ⟨y, hy, hr⟩ := Option.bind_eq_some_iff.1 hr
    simp only [Tree.run, Option.some.injEq, Prod.mk.injEq] at hr
    obtain ⟨rfl, rfl⟩ := hr
    exact call_ok0 hs (fun k => (([a1.av F, a2.av F, a3.av F] : List AV)[k]?).getD .top) [.agg [.int .i64 v3253, .int .i64 v3254, a1], a2, a3] [.agg [.int .i64 v3253, .int .i64 v3254, .hslc (BR.root 0) v3255], .hslc (BR.root 1) v3256, .hslc (BR.root 2) v3257] (fun F' h0 hi hρ => ⟨by simp [DVs.av, DV.av, BR.av, hρ], laws_FnExactWeighedSquares_len_fn v3253 v3254 v3255 v3256 v3257 F' (by rw [hi]; rfl) (st_nil hi) ⟨⟨trivial, trivial, hslc_ok hi (by rw [h0, hρ]; exact lenV_ok hs (DVs.okAt (DVs.okAt ha 0 rfl) 2 rfl) hv3255), trivial⟩, hslc_ok hi (by rw [h0, hρ]; exact lenV_ok hs (DVs.okAt ha 1 rfl) hv3256), hslc_ok hi (by rw [h0, hρ]; exact lenV_ok hs (DVs.okAt ha 2 rfl) hv3257), trivial⟩ hy⟩) rfl
  · cases hr
end Go.Proofs.Ytflodniglbgkhaa.AM
