/- Functions: what they come to. -/
import Derived.Test.YtbjnjaclmcpbbaaX0
set_option maxRecDepth 100000
set_option maxHeartbeats 4000000
set_option linter.unusedSimpArgs false
set_option linter.unusedVariables false
namespace Go.Proofs.Ytbjnjaclmcpbbaa.AM
open Go.Proofs
/-! (impl.echelon).clearColumn$1 -/
noncomputable def impl_echelon_clearColumn_1_LO (v939 : Int) (v940 : Int) (v941 : Int) (v942 : List Int) (v943 : Int) (v944 : Int) (v945 : List Int) (v946 : Int) : LOr := fun id e L =>
  match id with
  | _ => .fail
noncomputable def impl_echelon_clearColumn_1_tab : List (FuncId × DFn × Bool) := [(114, impl_Whole_at_F, true)]
theorem impl_echelon_clearColumn_1_hO : OrcOk Try.prog (tabD impl_echelon_clearColumn_1_tab) (tabM impl_echelon_clearColumn_1_tab) := tabD_cons impl_Whole_at_Fok (tabD_nil _)
noncomputable def impl_echelon_clearColumn_1_T (v939 : Int) (v941 : Int) (v942 : List Int) (v946 : Int) : Tree (Int) :=
  (.call (impl_Whole_at_g v941 v942 v939 v946) fun v947 =>
  (.call (impl_Whole_at_g v941 v942 v939 v946) fun v948 =>
  .leaf (imax v947 (IntKind.i64.wrap (0 - v948)))))

noncomputable def impl_echelon_clearColumn_1_g (v939 : Int) (v941 : Int) (v942 : List Int) (v946 : Int) : Option (Int) := (impl_echelon_clearColumn_1_T v939 v941 v942 v946).run
def impl_echelon_clearColumn_1_enc (v939 : Int) (v940 : Int) (v941 : Int) (v942 : List Int) (v943 : Int) (v944 : Int) (v945 : List Int) (v946 : Int) (y : Int) : Rs := (.int .i64 y, [])
theorem impl_echelon_clearColumn_1_den (v939 : Int) (v940 : Int) (v941 : Int) (v942 : List Int) (v943 : Int) (v944 : Int) (v945 : List Int) (v946 : Int) : (den TT (tabD impl_echelon_clearColumn_1_tab) (tabM impl_echelon_clearColumn_1_tab) (impl_echelon_clearColumn_1_LO v939 v940 v941 v942 v943 v944 v945 v946) (codeOf Try.f150) ([.int .i64 v939, .bptr (BR.root 0) [.int .i64 v940, .int .i64 v941, .bslc (BR.root 1) (.i64 v942), .int .i64 v943, .int .i64 v944, .bslc (BR.root 2) (.i64 v945)], .bptr (BR.root 3) [.int .i64 v946]] ++ List.replicate (Try.f150.ntmps - ([.int .i64 v939, .bptr (BR.root 0) [.int .i64 v940, .int .i64 v941, .bslc (BR.root 1) (.i64 v942), .int .i64 v943, .int .i64 v944, .bslc (BR.root 2) (.i64 v945)], .bptr (BR.root 3) [.int .i64 v946]] : List DV).length) .undef) []).bind (retD TT Try.f150.results.toList 0) = (impl_echelon_clearColumn_1_T v939 v941 v942 v946).bind fun y => .leaf (impl_echelon_clearColumn_1_enc v939 v940 v941 v942 v943 v944 v945 v946 y) := by kernel_rfl
theorem impl_echelon_clearColumn_1_fn (v939 : Int) (v940 : Int) (v941 : Int) (v942 : List Int) (v943 : Int) (v944 : Int) (v945 : List Int) (v946 : Int) (F : Fr) (hm : F.ids.length = 0) (h0 : St F [] F.H0) (hA : DVs.Ok F [] [.int .i64 v939, .bptr (BR.root 0) [.int .i64 v940, .int .i64 v941, .bslc (BR.root 1) (.i64 v942), .int .i64 v943, .int .i64 v944, .bslc (BR.root 2) (.i64 v945)], .bptr (BR.root 3) [.int .i64 v946]]) {y : Int} (hy : impl_echelon_clearColumn_1_g v939 v941 v942 v946 = some y) : ∃ H', FnOk Try.prog 150 (DVs.av F [.int .i64 v939, .bptr (BR.root 0) [.int .i64 v940, .int .i64 v941, .bslc (BR.root 1) (.i64 v942), .int .i64 v943, .int .i64 v944, .bslc (BR.root 2) (.i64 v945)], .bptr (BR.root 3) [.int .i64 v946]]) F.H0 ((impl_echelon_clearColumn_1_enc v939 v940 v941 v942 v943 v944 v945 v946 y).1.av F) H' ∧ St F (impl_echelon_clearColumn_1_enc v939 v940 v941 v942 v943 v944 v945 v946 y).2 H' ∧ (impl_echelon_clearColumn_1_enc v939 v940 v941 v942 v943 v944 v945 v946 y).1.Ok F (impl_echelon_clearColumn_1_enc v939 v940 v941 v942 v943 v944 v945 v946 y).2 :=
  fn_fin tok impl_echelon_clearColumn_1_hO mixed Try.func150 Try.call150 (by kernel_rfl) (LoopsOk_eq (l := []) (by kernel_rfl) trivial) (impl_echelon_clearColumn_1_den v939 v940 v941 v942 v943 v944 v945 v946) hy hm h0 hA
noncomputable def impl_echelon_clearColumn_1_F : DFn := fun args L =>
  match args with
  | [.int .i64 v939, a1, a4] =>
    optT (cellsOf L 6 a1) fun cs0 =>
    (match cs0 with
    | [.int .i64 v940, .int .i64 v941, a2, .int .i64 v943, .int .i64 v944, a3] =>
    optT (rowI64 L a2) fun v942 =>
    optT (rowI64 L a3) fun v945 =>
    optT (cellsOf L 1 a4) fun cs3 =>
    (match cs3 with
    | [.int .i64 v946] =>
    .call (impl_echelon_clearColumn_1_g v939 v941 v942 v946) fun y => .leaf (.int .i64 y, L)
    | _ => .fail)
    | _ => .fail)
  | _ => .fail
theorem impl_echelon_clearColumn_1_Fok : COk Try.prog 150 impl_echelon_clearColumn_1_F true := by
  intro F L H args r L' hs ha hr
  unfold impl_echelon_clearColumn_1_F at hr
  split at hr
  · rename_i v939 a1 a4
    obtain ⟨cs0, hcp0, hr⟩ := optT_run hr
    split at hr
    · rename_i v940 v941 a2 v943 v944 a3
      obtain ⟨v942, hv942, hr⟩ := optT_run hr
      obtain ⟨v945, hv945, hr⟩ := optT_run hr
      obtain ⟨cs3, hcp3, hr⟩ := optT_run hr
      split at hr
      · rename_i v946
        simp only [Tree.run] at hr
        obtain ⟨y, hy, hr⟩ := Option.bind_eq_some_iff.1 hr
        simp only [Tree.run, Option.some.injEq, Prod.mk.injEq] at hr
        obtain ⟨rfl, rfl⟩ := hr
        exact call_ok0 hs (fun k => (([a1.av F, a2.av F, a3.av F, a4.av F] : List AV)[k]?).getD .top) [.int .i64 v939, a1, a4] [.int .i64 v939, .bptr (BR.root 0) [.int .i64 v940, .int .i64 v941, .bslc (BR.root 1) (.i64 v942), .int .i64 v943, .int .i64 v944, .bslc (BR.root 2) (.i64 v945)], .bptr (BR.root 3) [.int .i64 v946]] (fun F' h0 hi hρ => ⟨by simp [DVs.av, DV.av, BR.av, hρ], impl_echelon_clearColumn_1_fn v939 v940 v941 v942 v943 v944 v945 v946 F' (by rw [hi]; rfl) (st_nil hi) ⟨trivial, bptr_ok hi (by rw [h0]; simpa [DVs.av, DV.av, BR.av, hρ] using (cellsOf_ok hs (DVs.okAt ha 1 rfl) hcp0).1) ⟨trivial, trivial, bslc_ok hi (by rw [h0, hρ]; exact rowI64_ok hs (DVs.okAt (cellsOf_ok hs (DVs.okAt ha 1 rfl) hcp0).2 2 rfl) hv942), trivial, trivial, bslc_ok hi (by rw [h0, hρ]; exact rowI64_ok hs (DVs.okAt (cellsOf_ok hs (DVs.okAt ha 1 rfl) hcp0).2 5 rfl) hv945), trivial⟩, bptr_ok hi (by rw [h0]; simpa [DVs.av, DV.av, BR.av, hρ] using (cellsOf_ok hs (DVs.okAt ha 2 rfl) hcp3).1) ⟨trivial, trivial⟩, trivial⟩ hy⟩) rfl
      · cases hr
    · cases hr
  · cases hr
/-! (impl.echelon).clearColumn$2 -/
noncomputable def impl_echelon_clearColumn_2_LO (v930 : Int) (v931 : Int) (v932 : Int) (v933 : Int) (v934 : List Int) (v935 : Int) (v936 : Int) (v937 : List Int) (v938 : Int) : LOr := fun id e L =>
  match id with
  | _ => .fail
noncomputable def impl_echelon_clearColumn_2_tab : List (FuncId × DFn × Bool) := [(150, impl_echelon_clearColumn_1_F, true)]
theorem impl_echelon_clearColumn_2_hO : OrcOk Try.prog (tabD impl_echelon_clearColumn_2_tab) (tabM impl_echelon_clearColumn_2_tab) := tabD_cons impl_echelon_clearColumn_1_Fok (tabD_nil _)
noncomputable def impl_echelon_clearColumn_2_T (v930 : Int) (v931 : Int) (v933 : Int) (v934 : List Int) (v938 : Int) : Tree (Int) :=
  (.call (impl_echelon_clearColumn_1_g v930 v933 v934 v938) fun v949 =>
  (.call (impl_echelon_clearColumn_1_g v931 v933 v934 v938) fun v950 =>
  .leaf (IntKind.i64.wrap (v949 - v950))))

noncomputable def impl_echelon_clearColumn_2_g (v930 : Int) (v931 : Int) (v933 : Int) (v934 : List Int) (v938 : Int) : Option (Int) := (impl_echelon_clearColumn_2_T v930 v931 v933 v934 v938).run
def impl_echelon_clearColumn_2_enc (v930 : Int) (v931 : Int) (v932 : Int) (v933 : Int) (v934 : List Int) (v935 : Int) (v936 : Int) (v937 : List Int) (v938 : Int) (y : Int) : Rs := (.int .i64 y, [])
theorem impl_echelon_clearColumn_2_den (v930 : Int) (v931 : Int) (v932 : Int) (v933 : Int) (v934 : List Int) (v935 : Int) (v936 : Int) (v937 : List Int) (v938 : Int) : (den TT (tabD impl_echelon_clearColumn_2_tab) (tabM impl_echelon_clearColumn_2_tab) (impl_echelon_clearColumn_2_LO v930 v931 v932 v933 v934 v935 v936 v937 v938) (codeOf Try.f152) ([.int .i64 v930, .int .i64 v931, .bptr (BR.root 0) [.fn 150 [.bptr (BR.root 1) [.int .i64 v932, .int .i64 v933, .bslc (BR.root 2) (.i64 v934), .int .i64 v935, .int .i64 v936, .bslc (BR.root 3) (.i64 v937)], .bptr (BR.root 4) [.int .i64 v938]]]] ++ List.replicate (Try.f152.ntmps - ([.int .i64 v930, .int .i64 v931, .bptr (BR.root 0) [.fn 150 [.bptr (BR.root 1) [.int .i64 v932, .int .i64 v933, .bslc (BR.root 2) (.i64 v934), .int .i64 v935, .int .i64 v936, .bslc (BR.root 3) (.i64 v937)], .bptr (BR.root 4) [.int .i64 v938]]]] : List DV).length) .undef) []).bind (retD TT Try.f152.results.toList 0) = (impl_echelon_clearColumn_2_T v930 v931 v933 v934 v938).bind fun y => .leaf (impl_echelon_clearColumn_2_enc v930 v931 v932 v933 v934 v935 v936 v937 v938 y) := by kernel_rfl
theorem impl_echelon_clearColumn_2_fn (v930 : Int) (v931 : Int) (v932 : Int) (v933 : Int) (v934 : List Int) (v935 : Int) (v936 : Int) (v937 : List Int) (v938 : Int) (F : Fr) (hm : F.ids.length = 0) (h0 : St F [] F.H0) (hA : DVs.Ok F [] [.int .i64 v930, .int .i64 v931, .bptr (BR.root 0) [.fn 150 [.bptr (BR.root 1) [.int .i64 v932, .int .i64 v933, .bslc (BR.root 2) (.i64 v934), .int .i64 v935, .int .i64 v936, .bslc (BR.root 3) (.i64 v937)], .bptr (BR.root 4) [.int .i64 v938]]]]) {y : Int} (hy : impl_echelon_clearColumn_2_g v930 v931 v933 v934 v938 = some y) : ∃ H', FnOk Try.prog 152 (DVs.av F [.int .i64 v930, .int .i64 v931, .bptr (BR.root 0) [.fn 150 [.bptr (BR.root 1) [.int .i64 v932, .int .i64 v933, .bslc (BR.root 2) (.i64 v934), .int .i64 v935, .int .i64 v936, .bslc (BR.root 3) (.i64 v937)], .bptr (BR.root 4) [.int .i64 v938]]]]) F.H0 ((impl_echelon_clearColumn_2_enc v930 v931 v932 v933 v934 v935 v936 v937 v938 y).1.av F) H' ∧ St F (impl_echelon_clearColumn_2_enc v930 v931 v932 v933 v934 v935 v936 v937 v938 y).2 H' ∧ (impl_echelon_clearColumn_2_enc v930 v931 v932 v933 v934 v935 v936 v937 v938 y).1.Ok F (impl_echelon_clearColumn_2_enc v930 v931 v932 v933 v934 v935 v936 v937 v938 y).2 :=
  fn_fin tok impl_echelon_clearColumn_2_hO mixed Try.func152 Try.call152 (by kernel_rfl) (LoopsOk_eq (l := []) (by kernel_rfl) trivial) (impl_echelon_clearColumn_2_den v930 v931 v932 v933 v934 v935 v936 v937 v938) hy hm h0 hA
noncomputable def impl_echelon_clearColumn_2_F : DFn := fun args L =>
  match args with
  | [.int .i64 v930, .int .i64 v931, a1] =>
    optT (cellsOf L 1 a1) fun cs0 =>
    (match cs0 with
    | [.fn 150 [a2, a5]] =>
    optT (cellsOf L 6 a2) fun cs1 =>
    (match cs1 with
    | [.int .i64 v932, .int .i64 v933, a3, .int .i64 v935, .int .i64 v936, a4] =>
    optT (rowI64 L a3) fun v934 =>
    optT (rowI64 L a4) fun v937 =>
    optT (cellsOf L 1 a5) fun cs4 =>
    (match cs4 with
    | [.int .i64 v938] =>
    .call (impl_echelon_clearColumn_2_g v930 v931 v933 v934 v938) fun y => .leaf (.int .i64 y, L)
    | _ => .fail)
    | _ => .fail)
    | _ => .fail)
  | _ => .fail
theorem impl_echelon_clearColumn_2_Fok : COk Try.prog 152 impl_echelon_clearColumn_2_F true := by
  intro F L H args r L' hs ha hr
  unfold impl_echelon_clearColumn_2_F at hr
  split at hr
  · rename_i v930 v931 a1
    obtain ⟨cs0, hcp0, hr⟩ := optT_run hr
    split at hr
    · rename_i a2 a5
      obtain ⟨cs1, hcp1, hr⟩ := optT_run hr
      split at hr
      · rename_i v932 v933 a3 v935 v936 a4
        obtain ⟨v934, hv934, hr⟩ := optT_run hr
        obtain ⟨v937, hv937, hr⟩ := optT_run hr
        obtain ⟨cs4, hcp4, hr⟩ := optT_run hr
        split at hr
        · rename_i v938
          simp only [Tree.run] at hr
          obtain ⟨y, hy, hr⟩ := Option.bind_eq_some_iff.1 hr
          simp only [Tree.run, Option.some.injEq, Prod.mk.injEq] at hr
          obtain ⟨rfl, rfl⟩ := hr
          exact call_ok0 hs (fun k => (([a1.av F, a2.av F, a3.av F, a4.av F, a5.av F] : List AV)[k]?).getD .top) [.int .i64 v930, .int .i64 v931, a1] [.int .i64 v930, .int .i64 v931, .bptr (BR.root 0) [.fn 150 [.bptr (BR.root 1) [.int .i64 v932, .int .i64 v933, .bslc (BR.root 2) (.i64 v934), .int .i64 v935, .int .i64 v936, .bslc (BR.root 3) (.i64 v937)], .bptr (BR.root 4) [.int .i64 v938]]]] (fun F' h0 hi hρ => ⟨by simp [DVs.av, DV.av, BR.av, hρ], impl_echelon_clearColumn_2_fn v930 v931 v932 v933 v934 v935 v936 v937 v938 F' (by rw [hi]; rfl) (st_nil hi) ⟨trivial, trivial, bptr_ok hi (by rw [h0]; simpa [DVs.av, DV.av, BR.av, hρ] using (cellsOf_ok hs (DVs.okAt ha 2 rfl) hcp0).1) ⟨⟨bptr_ok hi (by rw [h0]; simpa [DVs.av, DV.av, BR.av, hρ] using (cellsOf_ok hs (DVs.okAt (DVs.okAt (cellsOf_ok hs (DVs.okAt ha 2 rfl) hcp0).2 0 rfl) 0 rfl) hcp1).1) ⟨trivial, trivial, bslc_ok hi (by rw [h0, hρ]; exact rowI64_ok hs (DVs.okAt (cellsOf_ok hs (DVs.okAt (DVs.okAt (cellsOf_ok hs (DVs.okAt ha 2 rfl) hcp0).2 0 rfl) 0 rfl) hcp1).2 2 rfl) hv934), trivial, trivial, bslc_ok hi (by rw [h0, hρ]; exact rowI64_ok hs (DVs.okAt (cellsOf_ok hs (DVs.okAt (DVs.okAt (cellsOf_ok hs (DVs.okAt ha 2 rfl) hcp0).2 0 rfl) 0 rfl) hcp1).2 5 rfl) hv937), trivial⟩, bptr_ok hi (by rw [h0]; simpa [DVs.av, DV.av, BR.av, hρ] using (cellsOf_ok hs (DVs.okAt (DVs.okAt (cellsOf_ok hs (DVs.okAt ha 2 rfl) hcp0).2 0 rfl) 1 rfl) hcp4).1) ⟨trivial, trivial⟩, trivial⟩, trivial⟩, trivial⟩ hy⟩) rfl
        · cases hr
      · cases hr
    · cases hr
  · cases hr
/-! slices.MinFunc[list of int64,int64] -/
noncomputable def slices_MinFuncI_l0_T (v920 : List Int) (v922 : Int) (v923 : List Int) (v927 : Int) (s : Int × Int) : Tree ((Int × Int) ⊕ (Int)) :=
  (.br (decide (s.2 < ((v920.length : Nat) : Int))) (
   (.grd (inb s.2 v920.length) <|
   (.call (impl_echelon_clearColumn_2_g (nth v920 (Int.toNat s.2)) s.1 v922 v923 v927) fun v957 =>
   (.br (decide (v957 < (0 : Int))) (
    (.grd (inb s.2 v920.length) <|
    .leaf (.inl (nth v920 (Int.toNat s.2), IntKind.i64.wrap (s.2 + (1 : Int)))))
   ) (
    .leaf (.inl (s.1, IntKind.i64.wrap (s.2 + (1 : Int))))
   ))))
  ) (
   .leaf (.inr s.1)
  ))

noncomputable def slices_MinFuncI_l0_g (v920 : List Int) (v922 : Int) (v923 : List Int) (v927 : Int) (s0 : Int × Int) : Option (Int) := whileM (fun s => (slices_MinFuncI_l0_T v920 v922 v923 v927 s).run) s0
def slices_MinFuncI_l0_E (v920 : List Int) (v921 : Int) (v922 : Int) (v923 : List Int) (v924 : Int) (v925 : Int) (v926 : List Int) (v927 : Int) (s : Int × Int) : Sd := ([.bslc (BR.root 0) (.i64 v920), .fn 152 [.bptr (BR.root 1) [.fn 150 [.bptr (BR.root 2) [.int .i64 v921, .int .i64 v922, .bslc (BR.root 3) (.i64 v923), .int .i64 v924, .int .i64 v925, .bslc (BR.root 4) (.i64 v926)], .bptr (BR.root 5) [.int .i64 v927]]]], .top, .top, .top, .int .i64 s.1, .int .i64 s.2, .top, .top, .top, .top, .top, .top, .top, .top, .top, .top, .top, .top, .top, .top, .top, .top, .top, .top, .top, .top, .top, .top, .top, .top, .top, .top], [])
def slices_MinFuncI_l0_X (v920 : List Int) (v921 : Int) (v922 : Int) (v923 : List Int) (v924 : Int) (v925 : Int) (v926 : List Int) (v927 : Int) (x : Int) : Out := (.normal, [.top, .top, .top, .top, .top, .int .i64 x, .top, .top, .top, .top, .top, .top, .top, .top, .top, .top, .top, .top, .top, .top, .top, .top, .top, .top, .top, .top, .top, .top, .top, .top, .top, .top, .top], [])
def slices_MinFuncI_l0_kill : List Nat := [0, 0, 1, 1, 1, 0, 0, 1, 1, 1, 1, 1, 1, 1, 1, 1, 1, 1, 1, 1, 1, 1, 1, 1, 1, 1, 1, 1, 1, 1, 1, 1, 1]
def slices_MinFuncI_l0_nx : Exit → List Nat
  | .exit 0 => [1, 1, 1, 1, 1, 0, 1, 1, 1, 1, 1, 1, 1, 1, 1, 1, 1, 1, 1, 1, 1, 1, 1, 1, 1, 1, 1, 1, 1, 1, 1, 1, 1]
  | .ret => [1, 1, 1, 1, 0, 1, 1, 1, 1, 1, 1, 1, 1, 1, 1, 1, 1, 1, 1, 1, 1, 1, 1, 1, 1, 1, 1, 1, 1, 1, 1, 1, 1]
  | _ => []
noncomputable def slices_MinFuncI_LO (v920 : List Int) (v921 : Int) (v922 : Int) (v923 : List Int) (v924 : Int) (v925 : Int) (v926 : List Int) (v927 : Int) : LOr := fun id e L =>
  match id with
  | 0 => .need (normA 0 slices_MinFuncI_l0_kill e L = some (slices_MinFuncI_l0_E v920 v921 v922 v923 v924 v925 v926 v927 ((gI (vAt e 5)), (gI (vAt e 6))))) (.call (slices_MinFuncI_l0_g v920 v922 v923 v927 ((gI (vAt e 5)), (gI (vAt e 6)))) fun x => .leaf (slices_MinFuncI_l0_X v920 v921 v922 v923 v924 v925 v926 v927 x))
  | _ => .fail
noncomputable def slices_MinFuncI_tab : List (FuncId × DFn × Bool) := [(152, impl_echelon_clearColumn_2_F, true)]
theorem slices_MinFuncI_hO : OrcOk Try.prog (tabD slices_MinFuncI_tab) (tabM slices_MinFuncI_tab) := tabD_cons impl_echelon_clearColumn_2_Fok (tabD_nil _)
theorem slices_MinFuncI_l0_be (v920 : List Int) (v921 : Int) (v922 : Int) (v923 : List Int) (v924 : Int) (v925 : Int) (v926 : List Int) (v927 : Int) (s : Int × Int) : bodyT TT (tabD slices_MinFuncI_tab) (tabM slices_MinFuncI_tab) (slices_MinFuncI_LO v920 v921 v922 v923 v924 v925 v926 v927) 0 slices_MinFuncI_l0_kill slices_MinFuncI_l0_nx (bodyOf Try.f151 0) 0 (slices_MinFuncI_l0_E v920 v921 v922 v923 v924 v925 v926 v927 s) = (slices_MinFuncI_l0_T v920 v922 v923 v927 s).bind fun y => .leaf (outS (slices_MinFuncI_l0_E v920 v921 v922 v923 v924 v925 v926 v927) (slices_MinFuncI_l0_X v920 v921 v922 v923 v924 v925 v926 v927) y) := by kernel_rfl
theorem slices_MinFuncI_l0_ok (v920 : List Int) (v921 : Int) (v922 : Int) (v923 : List Int) (v924 : Int) (v925 : Int) (v926 : List Int) (v927 : Int) : LSound Try.prog 0 (slices_MinFuncI_LO v920 v921 v922 v923 v924 v925 v926 v927) 0 (bodyOf Try.f151 0) := by
  intro e L out h
  exact lo_ok (E := slices_MinFuncI_l0_E v920 v921 v922 v923 v924 v925 v926 v927) (gT := slices_MinFuncI_l0_T v920 v922 v923 v927) (X := slices_MinFuncI_l0_X v920 v921 v922 v923 v924 v925 v926 v927) (s0 := ((gI (vAt e 5)), (gI (vAt e 6)))) tok slices_MinFuncI_hO mixed (LoopsOk_eq (l := []) (by kernel_rfl) trivial) (slices_MinFuncI_l0_be v920 v921 v922 v923 v924 v925 v926 v927) rfl (by intro x; rfl) h
noncomputable def slices_MinFuncI_T (v920 : List Int) (v921 : Int) (v922 : Int) (v923 : List Int) (v924 : Int) (v925 : Int) (v926 : List Int) (v927 : Int) : Tree (Int) :=
  (.br (decide (((v920.length : Nat) : Int) < (1 : Int))) (
   .fail
  ) (
   (.grd (inb (0 : Int) v920.length) <|
   (.need (some (slices_MinFuncI_l0_E v920 v921 v922 v923 v924 v925 v926 v927 (nth v920 (Int.toNat (0 : Int)), (1 : Int))) = some (slices_MinFuncI_l0_E v920 v921 v922 v923 v924 v925 v926 v927 (nth v920 (Int.toNat (0 : Int)), (1 : Int)))) <|
   (.call (slices_MinFuncI_l0_g v920 v922 v923 v927 (nth v920 (Int.toNat (0 : Int)), (1 : Int))) fun v958 =>
   .leaf v958)))
  ))

noncomputable def slices_MinFuncI_g (v920 : List Int) (v921 : Int) (v922 : Int) (v923 : List Int) (v924 : Int) (v925 : Int) (v926 : List Int) (v927 : Int) : Option (Int) := (slices_MinFuncI_T v920 v921 v922 v923 v924 v925 v926 v927).run
def slices_MinFuncI_enc (v920 : List Int) (v921 : Int) (v922 : Int) (v923 : List Int) (v924 : Int) (v925 : Int) (v926 : List Int) (v927 : Int) (y : Int) : Rs := (.int .i64 y, [])
theorem slices_MinFuncI_den (v920 : List Int) (v921 : Int) (v922 : Int) (v923 : List Int) (v924 : Int) (v925 : Int) (v926 : List Int) (v927 : Int) : (den TT (tabD slices_MinFuncI_tab) (tabM slices_MinFuncI_tab) (slices_MinFuncI_LO v920 v921 v922 v923 v924 v925 v926 v927) (codeOf Try.f151) ([.bslc (BR.root 0) (.i64 v920), .fn 152 [.bptr (BR.root 1) [.fn 150 [.bptr (BR.root 2) [.int .i64 v921, .int .i64 v922, .bslc (BR.root 3) (.i64 v923), .int .i64 v924, .int .i64 v925, .bslc (BR.root 4) (.i64 v926)], .bptr (BR.root 5) [.int .i64 v927]]]]] ++ List.replicate (Try.f151.ntmps - ([.bslc (BR.root 0) (.i64 v920), .fn 152 [.bptr (BR.root 1) [.fn 150 [.bptr (BR.root 2) [.int .i64 v921, .int .i64 v922, .bslc (BR.root 3) (.i64 v923), .int .i64 v924, .int .i64 v925, .bslc (BR.root 4) (.i64 v926)], .bptr (BR.root 5) [.int .i64 v927]]]]] : List DV).length) .undef) []).bind (retD TT Try.f151.results.toList 0) = (slices_MinFuncI_T v920 v921 v922 v923 v924 v925 v926 v927).bind fun y => .leaf (slices_MinFuncI_enc v920 v921 v922 v923 v924 v925 v926 v927 y) := by kernel_rfl
theorem slices_MinFuncI_fn (v920 : List Int) (v921 : Int) (v922 : Int) (v923 : List Int) (v924 : Int) (v925 : Int) (v926 : List Int) (v927 : Int) (F : Fr) (hm : F.ids.length = 0) (h0 : St F [] F.H0) (hA : DVs.Ok F [] [.bslc (BR.root 0) (.i64 v920), .fn 152 [.bptr (BR.root 1) [.fn 150 [.bptr (BR.root 2) [.int .i64 v921, .int .i64 v922, .bslc (BR.root 3) (.i64 v923), .int .i64 v924, .int .i64 v925, .bslc (BR.root 4) (.i64 v926)], .bptr (BR.root 5) [.int .i64 v927]]]]]) {y : Int} (hy : slices_MinFuncI_g v920 v921 v922 v923 v924 v925 v926 v927 = some y) : ∃ H', FnOk Try.prog 151 (DVs.av F [.bslc (BR.root 0) (.i64 v920), .fn 152 [.bptr (BR.root 1) [.fn 150 [.bptr (BR.root 2) [.int .i64 v921, .int .i64 v922, .bslc (BR.root 3) (.i64 v923), .int .i64 v924, .int .i64 v925, .bslc (BR.root 4) (.i64 v926)], .bptr (BR.root 5) [.int .i64 v927]]]]]) F.H0 ((slices_MinFuncI_enc v920 v921 v922 v923 v924 v925 v926 v927 y).1.av F) H' ∧ St F (slices_MinFuncI_enc v920 v921 v922 v923 v924 v925 v926 v927 y).2 H' ∧ (slices_MinFuncI_enc v920 v921 v922 v923 v924 v925 v926 v927 y).1.Ok F (slices_MinFuncI_enc v920 v921 v922 v923 v924 v925 v926 v927 y).2 :=
  fn_fin tok slices_MinFuncI_hO mixed Try.func151 Try.call151 (by kernel_rfl) (LoopsOk_eq (l := [(0, bodyOf Try.f151 0)]) (by kernel_rfl) ⟨slices_MinFuncI_l0_ok v920 v921 v922 v923 v924 v925 v926 v927, trivial⟩) (slices_MinFuncI_den v920 v921 v922 v923 v924 v925 v926 v927) hy hm h0 hA
noncomputable def slices_MinFuncI_F : DFn := fun args L =>
  match args with
  | [a1, .fn 152 [a2]] =>
    optT (rowI64 L a1) fun v920 =>
    optT (cellsOf L 1 a2) fun cs1 =>
    (match cs1 with
    | [.fn 150 [a3, a6]] =>
    optT (cellsOf L 6 a3) fun cs2 =>
    (match cs2 with
    | [.int .i64 v921, .int .i64 v922, a4, .int .i64 v924, .int .i64 v925, a5] =>
    optT (rowI64 L a4) fun v923 =>
    optT (rowI64 L a5) fun v926 =>
    optT (cellsOf L 1 a6) fun cs5 =>
    (match cs5 with
    | [.int .i64 v927] =>
    .call (slices_MinFuncI_g v920 v921 v922 v923 v924 v925 v926 v927) fun y => .leaf (.int .i64 y, L)
    | _ => .fail)
    | _ => .fail)
    | _ => .fail)
  | _ => .fail
theorem slices_MinFuncI_Fok : COk Try.prog 151 slices_MinFuncI_F true := by
  intro F L H args r L' hs ha hr
  unfold slices_MinFuncI_F at hr
  split at hr
  · rename_i a1 a2
    obtain ⟨v920, hv920, hr⟩ := optT_run hr
    obtain ⟨cs1, hcp1, hr⟩ := optT_run hr
    split at hr
    · rename_i a3 a6
      obtain ⟨cs2, hcp2, hr⟩ := optT_run hr
      split at hr
      · rename_i v921 v922 a4 v924 v925 a5
        obtain ⟨v923, hv923, hr⟩ := optT_run hr
        obtain ⟨v926, hv926, hr⟩ := optT_run hr
        obtain ⟨cs5, hcp5, hr⟩ := optT_run hr
        split at hr
        · rename_i v927
          simp only [Tree.run] at hr
          obtain ⟨y, hy, hr⟩ := Option.bind_eq_some_iff.1 hr
          simp only [Tree.run, Option.some.injEq, Prod.mk.injEq] at hr
          obtain ⟨rfl, rfl⟩ := hr
          exact call_ok0 hs (fun k => (([a1.av F, a2.av F, a3.av F, a4.av F, a5.av F, a6.av F] : List AV)[k]?).getD .top) [a1, .fn 152 [a2]] [.bslc (BR.root 0) (.i64 v920), .fn 152 [.bptr (BR.root 1) [.fn 150 [.bptr (BR.root 2) [.int .i64 v921, .int .i64 v922, .bslc (BR.root 3) (.i64 v923), .int .i64 v924, .int .i64 v925, .bslc (BR.root 4) (.i64 v926)], .bptr (BR.root 5) [.int .i64 v927]]]]] (fun F' h0 hi hρ => ⟨by simp [DVs.av, DV.av, BR.av, hρ], slices_MinFuncI_fn v920 v921 v922 v923 v924 v925 v926 v927 F' (by rw [hi]; rfl) (st_nil hi) ⟨bslc_ok hi (by rw [h0, hρ]; exact rowI64_ok hs (DVs.okAt ha 0 rfl) hv920), ⟨bptr_ok hi (by rw [h0]; simpa [DVs.av, DV.av, BR.av, hρ] using (cellsOf_ok hs (DVs.okAt (DVs.okAt ha 1 rfl) 0 rfl) hcp1).1) ⟨⟨bptr_ok hi (by rw [h0]; simpa [DVs.av, DV.av, BR.av, hρ] using (cellsOf_ok hs (DVs.okAt (DVs.okAt (cellsOf_ok hs (DVs.okAt (DVs.okAt ha 1 rfl) 0 rfl) hcp1).2 0 rfl) 0 rfl) hcp2).1) ⟨trivial, trivial, bslc_ok hi (by rw [h0, hρ]; exact rowI64_ok hs (DVs.okAt (cellsOf_ok hs (DVs.okAt (DVs.okAt (cellsOf_ok hs (DVs.okAt (DVs.okAt ha 1 rfl) 0 rfl) hcp1).2 0 rfl) 0 rfl) hcp2).2 2 rfl) hv923), trivial, trivial, bslc_ok hi (by rw [h0, hρ]; exact rowI64_ok hs (DVs.okAt (cellsOf_ok hs (DVs.okAt (DVs.okAt (cellsOf_ok hs (DVs.okAt (DVs.okAt ha 1 rfl) 0 rfl) hcp1).2 0 rfl) 0 rfl) hcp2).2 5 rfl) hv926), trivial⟩, bptr_ok hi (by rw [h0]; simpa [DVs.av, DV.av, BR.av, hρ] using (cellsOf_ok hs (DVs.okAt (DVs.okAt (cellsOf_ok hs (DVs.okAt (DVs.okAt ha 1 rfl) 0 rfl) hcp1).2 0 rfl) 1 rfl) hcp5).1) ⟨trivial, trivial⟩, trivial⟩, trivial⟩, trivial⟩, trivial⟩ hy⟩) rfl
        · cases hr
      · cases hr
    · cases hr
  · cases hr
/-! (impl.Whole).swapRows -/
noncomputable def impl_Whole_swapRows_l0_T (v975 : Int) (v977 : Int) (v978 : Int) (s : Int × (List Int)) : Tree ((Int × (List Int)) ⊕ ((List Int))) :=
  (.br (decide (s.1 < v975)) (
   (.grd (inb (IntKind.i64.wrap ((IntKind.i64.wrap (v978 * v975)) + s.1)) ((s.2).length)) <|
   (.grd (inb (IntKind.i64.wrap ((IntKind.i64.wrap (v977 * v975)) + s.1)) ((s.2).length)) <|
   (.grd (inb (IntKind.i64.wrap ((IntKind.i64.wrap (v977 * v975)) + s.1)) ((s.2).length)) <|
   (.grd (inb (IntKind.i64.wrap ((IntKind.i64.wrap (v978 * v975)) + s.1)) ((s.2).length)) <|
   .leaf (.inl (IntKind.i64.wrap (s.1 + (1 : Int)), List.set (List.set s.2 (Int.toNat (IntKind.i64.wrap ((IntKind.i64.wrap (v977 * v975)) + s.1))) (nth s.2 (Int.toNat (IntKind.i64.wrap ((IntKind.i64.wrap (v978 * v975)) + s.1))))) (Int.toNat (IntKind.i64.wrap ((IntKind.i64.wrap (v978 * v975)) + s.1))) (nth s.2 (Int.toNat (IntKind.i64.wrap ((IntKind.i64.wrap (v977 * v975)) + s.1))))))))))
  ) (
   .leaf (.inr s.2)
  ))

noncomputable def impl_Whole_swapRows_l0_g (v975 : Int) (v977 : Int) (v978 : Int) (s0 : Int × (List Int)) : Option ((List Int)) := whileM (fun s => (impl_Whole_swapRows_l0_T v975 v977 v978 s).run) s0
def impl_Whole_swapRows_l0_E (v974 : Int) (v975 : Int) (v976 : List Int) (v977 : Int) (v978 : Int) (s : Int × (List Int)) : Sd := ([.top, .int .i64 v977, .int .i64 v978, .ptr 1 (0 : Nat) 0 (3 : Nat), .top, .top, .top, .top, .top, .top, .int .i64 v975, .int .i64 s.1, .top, .top, .top, .top, .top, .top, .top, .top, .top, .top, .top, .top, .top, .top, .top, .top, .top, .top, .top, .top, .top, .top, .top, .top, .top, .top, .top, .top, .top, .top, .top, .top, .top], [.row (.i64 s.2) 0, .gen [.int .i64 v974, .int .i64 v975, .own 0 0 ((s.2).length)] false 0])
def impl_Whole_swapRows_l0_X (v974 : Int) (v975 : Int) (v976 : List Int) (v977 : Int) (v978 : Int) (x : (List Int)) : Out := (.normal, [.top, .top, .top, .top, .top, .top, .top, .top, .top, .top, .top, .top, .top, .top, .top, .top, .top, .top, .top, .top, .top, .top, .top, .top, .top, .top, .top, .top, .top, .top, .top, .top, .top, .top, .top, .top, .top, .top, .top, .top, .top, .top, .top, .top, .top], [.row (.i64 x) 0])
def impl_Whole_swapRows_l0_kill : List Nat := [1, 0, 0, 0, 1, 1, 1, 1, 1, 1, 0, 0, 1, 1, 1, 1, 1, 1, 1, 1, 1, 1, 1, 1, 1, 1, 1, 1, 1, 1, 1, 1, 1, 1, 1, 1, 1, 1, 1, 1, 1, 1, 1, 1, 1]
def impl_Whole_swapRows_l0_nx : Exit → List Nat
  | .exit 0 => [1, 1, 1, 1, 1, 1, 1, 1, 1, 1, 1, 1, 1, 1, 1, 1, 1, 1, 1, 1, 1, 1, 1, 1, 1, 1, 1, 1, 1, 1, 1, 1, 1, 1, 1, 1, 1, 1, 1, 1, 1, 1, 1, 1, 1]
  | .ret => [1, 1, 1, 1, 1, 1, 1, 1, 1, 1, 1, 1, 1, 1, 1, 1, 1, 1, 1, 1, 1, 1, 1, 1, 1, 1, 1, 1, 1, 1, 1, 1, 1, 1, 1, 1, 1, 1, 1, 1, 1, 1, 1, 1, 1]
  | _ => []
noncomputable def impl_Whole_swapRows_LO (v974 : Int) (v975 : Int) (v976 : List Int) (v977 : Int) (v978 : Int) : LOr := fun id e L =>
  match id with
  | 0 => .need (normA 1 impl_Whole_swapRows_l0_kill e L = some (impl_Whole_swapRows_l0_E v974 v975 v976 v977 v978 ((gI (vAt e 11)), (gRI L (cAt L (vAt e 3) 2))))) (.call (impl_Whole_swapRows_l0_g v975 v977 v978 ((gI (vAt e 11)), (gRI L (cAt L (vAt e 3) 2)))) fun x => .leaf (impl_Whole_swapRows_l0_X v974 v975 v976 v977 v978 x))
  | _ => .fail
noncomputable def impl_Whole_swapRows_tab : List (FuncId × DFn × Bool) := []
theorem impl_Whole_swapRows_hO : OrcOk Try.prog (tabD impl_Whole_swapRows_tab) (tabM impl_Whole_swapRows_tab) := tabD_nil _
theorem impl_Whole_swapRows_l0_be (v974 : Int) (v975 : Int) (v976 : List Int) (v977 : Int) (v978 : Int) (s : Int × (List Int)) : bodyT TT (tabD impl_Whole_swapRows_tab) (tabM impl_Whole_swapRows_tab) (impl_Whole_swapRows_LO v974 v975 v976 v977 v978) 1 impl_Whole_swapRows_l0_kill impl_Whole_swapRows_l0_nx (bodyOf Try.f104 0) 0 (impl_Whole_swapRows_l0_E v974 v975 v976 v977 v978 s) = (impl_Whole_swapRows_l0_T v975 v977 v978 s).bind fun y => .leaf (outS (impl_Whole_swapRows_l0_E v974 v975 v976 v977 v978) (impl_Whole_swapRows_l0_X v974 v975 v976 v977 v978) y) := by kernel_rfl
theorem impl_Whole_swapRows_l0_ok (v974 : Int) (v975 : Int) (v976 : List Int) (v977 : Int) (v978 : Int) : LSound Try.prog 1 (impl_Whole_swapRows_LO v974 v975 v976 v977 v978) 0 (bodyOf Try.f104 0) := by
  intro e L out h
  exact lo_ok (E := impl_Whole_swapRows_l0_E v974 v975 v976 v977 v978) (gT := impl_Whole_swapRows_l0_T v975 v977 v978) (X := impl_Whole_swapRows_l0_X v974 v975 v976 v977 v978) (s0 := ((gI (vAt e 11)), (gRI L (cAt L (vAt e 3) 2)))) tok impl_Whole_swapRows_hO mixed (LoopsOk_eq (l := []) (by kernel_rfl) trivial) (impl_Whole_swapRows_l0_be v974 v975 v976 v977 v978) rfl (by intro x; rfl) h
noncomputable def impl_Whole_swapRows_T (v974 : Int) (v975 : Int) (v976 : List Int) (v977 : Int) (v978 : Int) : Tree ((List Int)) :=
  (.need (some (impl_Whole_swapRows_l0_E v974 v975 v976 v977 v978 ((0 : Int), v976)) = some (impl_Whole_swapRows_l0_E v974 v975 v976 v977 v978 ((0 : Int), v976))) <|
  (.call (impl_Whole_swapRows_l0_g v975 v977 v978 ((0 : Int), v976)) fun v984 =>
  .leaf v984))

noncomputable def impl_Whole_swapRows_g (v974 : Int) (v975 : Int) (v976 : List Int) (v977 : Int) (v978 : Int) : Option ((List Int)) := (impl_Whole_swapRows_T v974 v975 v976 v977 v978).run
def impl_Whole_swapRows_enc (v974 : Int) (v975 : Int) (v976 : List Int) (v977 : Int) (v978 : Int) (y : (List Int)) : Rs := (.tup [], [.row (.i64 y) 0])
theorem impl_Whole_swapRows_den (v974 : Int) (v975 : Int) (v976 : List Int) (v977 : Int) (v978 : Int) : (den TT (tabD impl_Whole_swapRows_tab) (tabM impl_Whole_swapRows_tab) (impl_Whole_swapRows_LO v974 v975 v976 v977 v978) (codeOf Try.f104) ([.agg [.int .i64 v974, .int .i64 v975, .own 0 0 v976.length], .int .i64 v977, .int .i64 v978] ++ List.replicate (Try.f104.ntmps - ([.agg [.int .i64 v974, .int .i64 v975, .own 0 0 v976.length], .int .i64 v977, .int .i64 v978] : List DV).length) .undef) [.row (.i64 v976) 0]).bind (retD TT Try.f104.results.toList 1) = (impl_Whole_swapRows_T v974 v975 v976 v977 v978).bind fun y => .leaf (impl_Whole_swapRows_enc v974 v975 v976 v977 v978 y) := by kernel_rfl
theorem impl_Whole_swapRows_fn (v974 : Int) (v975 : Int) (v976 : List Int) (v977 : Int) (v978 : Int) (F : Fr) (hm : F.ids.length = 1) (h0 : St F [.row (.i64 v976) 0] F.H0) (hA : DVs.Ok F [.row (.i64 v976) 0] [.agg [.int .i64 v974, .int .i64 v975, .own 0 0 v976.length], .int .i64 v977, .int .i64 v978]) {y : (List Int)} (hy : impl_Whole_swapRows_g v974 v975 v976 v977 v978 = some y) : ∃ H', FnOk Try.prog 104 (DVs.av F [.agg [.int .i64 v974, .int .i64 v975, .own 0 0 v976.length], .int .i64 v977, .int .i64 v978]) F.H0 ((impl_Whole_swapRows_enc v974 v975 v976 v977 v978 y).1.av F) H' ∧ St F (impl_Whole_swapRows_enc v974 v975 v976 v977 v978 y).2 H' ∧ (impl_Whole_swapRows_enc v974 v975 v976 v977 v978 y).1.Ok F (impl_Whole_swapRows_enc v974 v975 v976 v977 v978 y).2 :=
  fn_fin tok impl_Whole_swapRows_hO mixed Try.func104 Try.call104 (by kernel_rfl) (LoopsOk_eq (l := [(0, bodyOf Try.f104 0)]) (by kernel_rfl) ⟨impl_Whole_swapRows_l0_ok v974 v975 v976 v977 v978, trivial⟩) (impl_Whole_swapRows_den v974 v975 v976 v977 v978) hy hm h0 hA
noncomputable def impl_Whole_swapRows_F : DFn := fun args L =>
  match args with
  | [.agg [.int .i64 v974, .int .i64 v975, a1], .int .i64 v977, .int .i64 v978] =>
    optT (ownI64 L a1) fun qv976 =>
    (match sepB [qv976.1] [] with
    | true =>
    .call (impl_Whole_swapRows_g v974 v975 qv976.2 v977 v978) fun y => .grd (decide (y.length = qv976.2.length)) (.leaf (.tup [], setRows L ([qv976.1].zip [.i64 y])))
    | false => .fail)
  | _ => .fail
theorem impl_Whole_swapRows_Fok : COk Try.prog 104 impl_Whole_swapRows_F false := by
  intro F L H args r L' hs ha hr
  unfold impl_Whole_swapRows_F at hr
  split at hr
  · rename_i v974 v975 a1 v977 v978
    obtain ⟨⟨jv976, v976⟩, hqv976, hr⟩ := optT_run hr
    simp only at hr
    split at hr
    · rename_i hsep
      obtain ⟨hnd, hsepv⟩ := sepB_spec hsep
      simp only [Tree.run] at hr
      obtain ⟨y, hy, hr⟩ := Option.bind_eq_some_iff.1 hr
      try simp only [Tree.run] at hr
      obtain ⟨hl0, hr⟩ := ite_run hr
      simp only [Option.some.injEq, Prod.mk.injEq] at hr
      obtain ⟨rfl, rfl⟩ := hr
      obtain ⟨hr0, hu0, ha0, hb0⟩ := (ownR_spec (DVs.okAt (DVs.okAt ha 0 rfl) 2 rfl) (ownI64_or hqv976))
      exact mut_ok hs (fun k => (([a1.av F] : List AV)[k]?).getD .top) [.agg [.int .i64 v974, .int .i64 v975, a1], .int .i64 v977, .int .i64 v978] [.agg [.int .i64 v974, .int .i64 v975, .own 0 0 v976.length], .int .i64 v977, .int .i64 v978] [jv976] [.i64 v976] [.i64 y] hnd rfl rfl (fun i j q h1 h2 => by
          rcases i with _ | i
          · simp at h1 h2; subst h1; subst h2; exact hr0
          · simp at h1) (fun i q q' h1 h2 => by
          rcases i with _ | i
          · simp at h1 h2; subst h1; subst h2; exact of_decide_eq_true hl0
          · simp at h1) (fun j hj => by simp at hj; subst hj; simp [DVs.refs, DV.refs, hu0]) (fun F' h0 hi hρ hst hS => ⟨by (have ab0 : F'.abs 0 = F.abs jv976 := (by simp [Fr.abs, hi]); simp [DVs.av, DV.av, BR.av, hρ, Row.len, ha0, ab0]), by
          obtain ⟨H1, k1, k2, _⟩ := impl_Whole_swapRows_fn v974 v975 v976 v977 v978 F' (by rw [hi]; rfl) hst ⟨⟨trivial, trivial, ⟨_, rfl, Nat.le_refl _, Nat.le_refl _, fun _ => rfl, (ownR_spec (DVs.okAt (DVs.okAt ha 0 rfl) 2 rfl) (ownI64_or hqv976)).2.2.2⟩, trivial⟩, trivial, trivial, trivial⟩ hy
          exact ⟨H1, k1, k2⟩⟩) (fun F' => rfl) (fun L' => trivial)
    · cases hr
  · cases hr
/-! (impl.echelon).swap -/
noncomputable def impl_echelon_swap_LO (v994 : Int) (v995 : Int) (v996 : List Int) (v997 : Int) (v998 : Int) (v999 : List Int) (v1000 : Int) (v1001 : Int) : LOr := fun id e L =>
  match id with
  | _ => .fail
noncomputable def impl_echelon_swap_tab : List (FuncId × DFn × Bool) := [(104, impl_Whole_swapRows_F, false)]
theorem impl_echelon_swap_hO : OrcOk Try.prog (tabD impl_echelon_swap_tab) (tabM impl_echelon_swap_tab) := tabD_cons impl_Whole_swapRows_Fok (tabD_nil _)
noncomputable def impl_echelon_swap_T (v994 : Int) (v995 : Int) (v996 : List Int) (v997 : Int) (v998 : Int) (v999 : List Int) (v1000 : Int) (v1001 : Int) : Tree ((List Int) × (List Int)) :=
  (.call (impl_Whole_swapRows_g v994 v995 v996 v1000 v1001) fun v1002 =>
  (.grd (decide (v1002.length = v996.length)) <|
  (.call (impl_Whole_swapRows_g v997 v998 v999 v1000 v1001) fun v1003 =>
  (.grd (decide (v1003.length = v999.length)) <|
  .leaf (v1002, v1003)))))

noncomputable def impl_echelon_swap_g (v994 : Int) (v995 : Int) (v996 : List Int) (v997 : Int) (v998 : Int) (v999 : List Int) (v1000 : Int) (v1001 : Int) : Option ((List Int) × (List Int)) := (impl_echelon_swap_T v994 v995 v996 v997 v998 v999 v1000 v1001).run
def impl_echelon_swap_enc (v994 : Int) (v995 : Int) (v996 : List Int) (v997 : Int) (v998 : Int) (v999 : List Int) (v1000 : Int) (v1001 : Int) (y : (List Int) × (List Int)) : Rs := (.tup [], [.row (.i64 y.1) 0, .row (.i64 y.2) 0])
theorem impl_echelon_swap_den (v994 : Int) (v995 : Int) (v996 : List Int) (v997 : Int) (v998 : Int) (v999 : List Int) (v1000 : Int) (v1001 : Int) : (den TT (tabD impl_echelon_swap_tab) (tabM impl_echelon_swap_tab) (impl_echelon_swap_LO v994 v995 v996 v997 v998 v999 v1000 v1001) (codeOf Try.f113) ([.agg [.int .i64 v994, .int .i64 v995, .own 0 0 v996.length, .int .i64 v997, .int .i64 v998, .own 1 0 v999.length], .int .i64 v1000, .int .i64 v1001] ++ List.replicate (Try.f113.ntmps - ([.agg [.int .i64 v994, .int .i64 v995, .own 0 0 v996.length, .int .i64 v997, .int .i64 v998, .own 1 0 v999.length], .int .i64 v1000, .int .i64 v1001] : List DV).length) .undef) [.row (.i64 v996) 0, .row (.i64 v999) 0]).bind (retD TT Try.f113.results.toList 2) = (impl_echelon_swap_T v994 v995 v996 v997 v998 v999 v1000 v1001).bind fun y => .leaf (impl_echelon_swap_enc v994 v995 v996 v997 v998 v999 v1000 v1001 y) := by kernel_rfl
theorem impl_echelon_swap_fn (v994 : Int) (v995 : Int) (v996 : List Int) (v997 : Int) (v998 : Int) (v999 : List Int) (v1000 : Int) (v1001 : Int) (F : Fr) (hm : F.ids.length = 2) (h0 : St F [.row (.i64 v996) 0, .row (.i64 v999) 0] F.H0) (hA : DVs.Ok F [.row (.i64 v996) 0, .row (.i64 v999) 0] [.agg [.int .i64 v994, .int .i64 v995, .own 0 0 v996.length, .int .i64 v997, .int .i64 v998, .own 1 0 v999.length], .int .i64 v1000, .int .i64 v1001]) {y : (List Int) × (List Int)} (hy : impl_echelon_swap_g v994 v995 v996 v997 v998 v999 v1000 v1001 = some y) : ∃ H', FnOk Try.prog 113 (DVs.av F [.agg [.int .i64 v994, .int .i64 v995, .own 0 0 v996.length, .int .i64 v997, .int .i64 v998, .own 1 0 v999.length], .int .i64 v1000, .int .i64 v1001]) F.H0 ((impl_echelon_swap_enc v994 v995 v996 v997 v998 v999 v1000 v1001 y).1.av F) H' ∧ St F (impl_echelon_swap_enc v994 v995 v996 v997 v998 v999 v1000 v1001 y).2 H' ∧ (impl_echelon_swap_enc v994 v995 v996 v997 v998 v999 v1000 v1001 y).1.Ok F (impl_echelon_swap_enc v994 v995 v996 v997 v998 v999 v1000 v1001 y).2 :=
  fn_fin tok impl_echelon_swap_hO mixed Try.func113 Try.call113 (by kernel_rfl) (LoopsOk_eq (l := []) (by kernel_rfl) trivial) (impl_echelon_swap_den v994 v995 v996 v997 v998 v999 v1000 v1001) hy hm h0 hA
noncomputable def impl_echelon_swap_F : DFn := fun args L =>
  match args with
  | [.agg [.int .i64 v994, .int .i64 v995, a1, .int .i64 v997, .int .i64 v998, a2], .int .i64 v1000, .int .i64 v1001] =>
    optT (ownI64 L a1) fun qv996 =>
    optT (ownI64 L a2) fun qv999 =>
    (match sepB [qv996.1, qv999.1] [] with
    | true =>
    .call (impl_echelon_swap_g v994 v995 qv996.2 v997 v998 qv999.2 v1000 v1001) fun y => .grd (decide (y.1.length = qv996.2.length)) (.grd (decide (y.2.length = qv999.2.length)) (.leaf (.tup [], setRows L ([qv996.1, qv999.1].zip [.i64 y.1, .i64 y.2]))))
    | false => .fail)
  | _ => .fail
theorem impl_echelon_swap_Fok : COk Try.prog 113 impl_echelon_swap_F false := by
  intro F L H args r L' hs ha hr
  unfold impl_echelon_swap_F at hr
  split at hr
  · rename_i v994 v995 a1 v997 v998 a2 v1000 v1001
    obtain ⟨⟨jv996, v996⟩, hqv996, hr⟩ := optT_run hr
    simp only at hr
    obtain ⟨⟨jv999, v999⟩, hqv999, hr⟩ := optT_run hr
    simp only at hr
    split at hr
    · rename_i hsep
      obtain ⟨hnd, hsepv⟩ := sepB_spec hsep
      simp only [Tree.run] at hr
      obtain ⟨y, hy, hr⟩ := Option.bind_eq_some_iff.1 hr
      try simp only [Tree.run] at hr
      obtain ⟨hl0, hr⟩ := ite_run hr
      obtain ⟨hl1, hr⟩ := ite_run hr
      simp only [Option.some.injEq, Prod.mk.injEq] at hr
      obtain ⟨rfl, rfl⟩ := hr
      obtain ⟨hr0, hu0, ha0, hb0⟩ := (ownR_spec (DVs.okAt (DVs.okAt ha 0 rfl) 2 rfl) (ownI64_or hqv996))
      obtain ⟨hr1, hu1, ha1, hb1⟩ := (ownR_spec (DVs.okAt (DVs.okAt ha 0 rfl) 5 rfl) (ownI64_or hqv999))
      exact mut_ok hs (fun k => (([a1.av F, a2.av F] : List AV)[k]?).getD .top) [.agg [.int .i64 v994, .int .i64 v995, a1, .int .i64 v997, .int .i64 v998, a2], .int .i64 v1000, .int .i64 v1001] [.agg [.int .i64 v994, .int .i64 v995, .own 0 0 v996.length, .int .i64 v997, .int .i64 v998, .own 1 0 v999.length], .int .i64 v1000, .int .i64 v1001] [jv996, jv999] [.i64 v996, .i64 v999] [.i64 y.1, .i64 y.2] hnd rfl rfl (fun i j q h1 h2 => by
          rcases i with _ | _ | i
          · simp at h1 h2; subst h1; subst h2; exact hr0
          · simp at h1 h2; subst h1; subst h2; exact hr1
          · simp at h1) (fun i q q' h1 h2 => by
          rcases i with _ | _ | i
          · simp at h1 h2; subst h1; subst h2; exact of_decide_eq_true hl0
          · simp at h1 h2; subst h1; subst h2; exact of_decide_eq_true hl1
          · simp at h1) (fun j hj => by simp at hj; rcases hj with rfl | rfl <;> simp [DVs.refs, DV.refs, hu0, hu1]) (fun F' h0 hi hρ hst hS => ⟨by (have ab0 : F'.abs 0 = F.abs jv996 := (by simp [Fr.abs, hi]); have ab1 : F'.abs 1 = F.abs jv999 := (by simp [Fr.abs, hi]); simp [DVs.av, DV.av, BR.av, hρ, Row.len, ha0, ab0, ha1, ab1]), by
          obtain ⟨H1, k1, k2, _⟩ := impl_echelon_swap_fn v994 v995 v996 v997 v998 v999 v1000 v1001 F' (by rw [hi]; rfl) hst ⟨⟨trivial, trivial, ⟨_, rfl, Nat.le_refl _, Nat.le_refl _, fun _ => rfl, (ownR_spec (DVs.okAt (DVs.okAt ha 0 rfl) 2 rfl) (ownI64_or hqv996)).2.2.2⟩, trivial, trivial, ⟨_, rfl, Nat.le_refl _, Nat.le_refl _, fun _ => rfl, (ownR_spec (DVs.okAt (DVs.okAt ha 0 rfl) 5 rfl) (ownI64_or hqv999)).2.2.2⟩, trivial⟩, trivial, trivial, trivial⟩ hy
          exact ⟨H1, k1, k2⟩⟩) (fun F' => rfl) (fun L' => trivial)
    · cases hr
  · cases hr
/-! impl.floorDiv -/
noncomputable def impl_floorDiv_LO (v1030 : Int) (v1031 : Int) : LOr := fun id e L =>
  match id with
  | _ => .fail
noncomputable def impl_floorDiv_tab : List (FuncId × DFn × Bool) := []
theorem impl_floorDiv_hO : OrcOk Try.prog (tabD impl_floorDiv_tab) (tabM impl_floorDiv_tab) := tabD_nil _
noncomputable def impl_floorDiv_T (v1030 : Int) (v1031 : Int) : Tree (Int) :=
  (.grd (!decide (v1031 = 0)) <|
  (.grd (!decide (v1031 = 0)) <|
  (.br (!decide (Int.tmod v1030 v1031 = (0 : Int))) (
   (.br (!((decide (v1030 < (0 : Int))) == (decide (v1031 < (0 : Int))))) (
    .leaf (IntKind.i64.wrap ((IntKind.i64.wrap (Int.tdiv v1030 v1031)) - (1 : Int)))
   ) (
    .leaf (IntKind.i64.wrap (Int.tdiv v1030 v1031))
   ))
  ) (
   .leaf (IntKind.i64.wrap (Int.tdiv v1030 v1031))
  ))))

noncomputable def impl_floorDiv_g (v1030 : Int) (v1031 : Int) : Option (Int) := (impl_floorDiv_T v1030 v1031).run
def impl_floorDiv_enc (v1030 : Int) (v1031 : Int) (y : Int) : Rs := (.int .i64 y, [])
theorem impl_floorDiv_den (v1030 : Int) (v1031 : Int) : (den TT (tabD impl_floorDiv_tab) (tabM impl_floorDiv_tab) (impl_floorDiv_LO v1030 v1031) (codeOf Try.f116) ([.int .i64 v1030, .int .i64 v1031] ++ List.replicate (Try.f116.ntmps - ([.int .i64 v1030, .int .i64 v1031] : List DV).length) .undef) []).bind (retD TT Try.f116.results.toList 0) = (impl_floorDiv_T v1030 v1031).bind fun y => .leaf (impl_floorDiv_enc v1030 v1031 y) := by kernel_rfl
theorem impl_floorDiv_fn (v1030 : Int) (v1031 : Int) (F : Fr) (hm : F.ids.length = 0) (h0 : St F [] F.H0) (hA : DVs.Ok F [] [.int .i64 v1030, .int .i64 v1031]) {y : Int} (hy : impl_floorDiv_g v1030 v1031 = some y) : ∃ H', FnOk Try.prog 116 (DVs.av F [.int .i64 v1030, .int .i64 v1031]) F.H0 ((impl_floorDiv_enc v1030 v1031 y).1.av F) H' ∧ St F (impl_floorDiv_enc v1030 v1031 y).2 H' ∧ (impl_floorDiv_enc v1030 v1031 y).1.Ok F (impl_floorDiv_enc v1030 v1031 y).2 :=
  fn_fin tok impl_floorDiv_hO mixed Try.func116 Try.call116 (by kernel_rfl) (LoopsOk_eq (l := []) (by kernel_rfl) trivial) (impl_floorDiv_den v1030 v1031) hy hm h0 hA
noncomputable def impl_floorDiv_F : DFn := fun args L =>
  match args with
  | [.int .i64 v1030, .int .i64 v1031] =>
    .call (impl_floorDiv_g v1030 v1031) fun y => .leaf (.int .i64 y, L)
  | _ => .fail
theorem impl_floorDiv_Fok : COk Try.prog 116 impl_floorDiv_F true := by
  intro F L H args r L' hs ha hr
  unfold impl_floorDiv_F at hr
  split at hr
  · rename_i v1030 v1031
    simp only [Tree.run] at hr
    obtain ⟨y, hy, hr⟩ := Option.bind_eq_some_iff.1 hr
    simp only [Tree.run, Option.some.injEq, Prod.mk.injEq] at hr
    obtain ⟨rfl, rfl⟩ := hr
    exact call_ok0 hs (fun k => (([] : List AV)[k]?).getD .top) [.int .i64 v1030, .int .i64 v1031] [.int .i64 v1030, .int .i64 v1031] (fun F' h0 hi hρ => ⟨by simp [DVs.av, DV.av, BR.av, hρ], impl_floorDiv_fn v1030 v1031 F' (by rw [hi]; rfl) (st_nil hi) ⟨trivial, trivial, trivial⟩ hy⟩) rfl
  · cases hr
/-! (impl.Whole).takeRow -/
noncomputable def impl_Whole_takeRow_l0_T (v1051 : Int) (v1053 : Int) (v1054 : Int) (v1055 : Int) (s : Int × (List Int)) : Tree ((Int × (List Int)) ⊕ ((List Int))) :=
  (.br (decide (s.1 < v1051)) (
   (.grd (inb (IntKind.i64.wrap ((IntKind.i64.wrap (v1053 * v1051)) + s.1)) ((s.2).length)) <|
   (.call (impl_Whole_at_g v1051 s.2 v1054 s.1) fun v1063 =>
   (.grd (inb (IntKind.i64.wrap ((IntKind.i64.wrap (v1053 * v1051)) + s.1)) ((s.2).length)) <|
   .leaf (.inl (IntKind.i64.wrap (s.1 + (1 : Int)), List.set s.2 (Int.toNat (IntKind.i64.wrap ((IntKind.i64.wrap (v1053 * v1051)) + s.1))) (IntKind.i64.wrap ((nth s.2 (Int.toNat (IntKind.i64.wrap ((IntKind.i64.wrap (v1053 * v1051)) + s.1)))) - (IntKind.i64.wrap (v1055 * v1063)))))))))
  ) (
   .leaf (.inr s.2)
  ))

noncomputable def impl_Whole_takeRow_l0_g (v1051 : Int) (v1053 : Int) (v1054 : Int) (v1055 : Int) (s0 : Int × (List Int)) : Option ((List Int)) := whileM (fun s => (impl_Whole_takeRow_l0_T v1051 v1053 v1054 v1055 s).run) s0
def impl_Whole_takeRow_l0_E (v1050 : Int) (v1051 : Int) (v1052 : List Int) (v1053 : Int) (v1054 : Int) (v1055 : Int) (s : Int × (List Int)) : Sd := ([.top, .int .i64 v1053, .int .i64 v1054, .int .i64 v1055, .ptr 1 (0 : Nat) 0 (3 : Nat), .top, .top, .top, .top, .top, .int .i64 v1051, .int .i64 s.1, .top, .top, .top, .top, .top, .top, .top, .top, .top, .top, .top, .top, .top, .top, .top, .top, .top, .top, .top, .top, .top], [.row (.i64 s.2) 0, .gen [.int .i64 v1050, .int .i64 v1051, .own 0 0 ((s.2).length)] false 0])
def impl_Whole_takeRow_l0_X (v1050 : Int) (v1051 : Int) (v1052 : List Int) (v1053 : Int) (v1054 : Int) (v1055 : Int) (x : (List Int)) : Out := (.normal, [.top, .top, .top, .top, .top, .top, .top, .top, .top, .top, .top, .top, .top, .top, .top, .top, .top, .top, .top, .top, .top, .top, .top, .top, .top, .top, .top, .top, .top, .top, .top, .top, .top], [.row (.i64 x) 0])
def impl_Whole_takeRow_l0_kill : List Nat := [1, 0, 0, 0, 0, 1, 1, 1, 1, 1, 0, 0, 1, 1, 1, 1, 1, 1, 1, 1, 1, 1, 1, 1, 1, 1, 1, 1, 1, 1, 1, 1, 1]
def impl_Whole_takeRow_l0_nx : Exit → List Nat
  | .exit 0 => [1, 1, 1, 1, 1, 1, 1, 1, 1, 1, 1, 1, 1, 1, 1, 1, 1, 1, 1, 1, 1, 1, 1, 1, 1, 1, 1, 1, 1, 1, 1, 1, 1]
  | .ret => [1, 1, 1, 1, 1, 1, 1, 1, 1, 1, 1, 1, 1, 1, 1, 1, 1, 1, 1, 1, 1, 1, 1, 1, 1, 1, 1, 1, 1, 1, 1, 1, 1]
  | _ => []
noncomputable def impl_Whole_takeRow_LO (v1050 : Int) (v1051 : Int) (v1052 : List Int) (v1053 : Int) (v1054 : Int) (v1055 : Int) : LOr := fun id e L =>
  match id with
  | 0 => .need (normA 1 impl_Whole_takeRow_l0_kill e L = some (impl_Whole_takeRow_l0_E v1050 v1051 v1052 v1053 v1054 v1055 ((gI (vAt e 11)), (gRI L (cAt L (vAt e 4) 2))))) (.call (impl_Whole_takeRow_l0_g v1051 v1053 v1054 v1055 ((gI (vAt e 11)), (gRI L (cAt L (vAt e 4) 2)))) fun x => .leaf (impl_Whole_takeRow_l0_X v1050 v1051 v1052 v1053 v1054 v1055 x))
  | _ => .fail
noncomputable def impl_Whole_takeRow_tab : List (FuncId × DFn × Bool) := [(114, impl_Whole_at_F, true)]
theorem impl_Whole_takeRow_hO : OrcOk Try.prog (tabD impl_Whole_takeRow_tab) (tabM impl_Whole_takeRow_tab) := tabD_cons impl_Whole_at_Fok (tabD_nil _)
theorem impl_Whole_takeRow_l0_be (v1050 : Int) (v1051 : Int) (v1052 : List Int) (v1053 : Int) (v1054 : Int) (v1055 : Int) (s : Int × (List Int)) : bodyT TT (tabD impl_Whole_takeRow_tab) (tabM impl_Whole_takeRow_tab) (impl_Whole_takeRow_LO v1050 v1051 v1052 v1053 v1054 v1055) 1 impl_Whole_takeRow_l0_kill impl_Whole_takeRow_l0_nx (bodyOf Try.f101 0) 0 (impl_Whole_takeRow_l0_E v1050 v1051 v1052 v1053 v1054 v1055 s) = (impl_Whole_takeRow_l0_T v1051 v1053 v1054 v1055 s).bind fun y => .leaf (outS (impl_Whole_takeRow_l0_E v1050 v1051 v1052 v1053 v1054 v1055) (impl_Whole_takeRow_l0_X v1050 v1051 v1052 v1053 v1054 v1055) y) := by kernel_rfl
theorem impl_Whole_takeRow_l0_ok (v1050 : Int) (v1051 : Int) (v1052 : List Int) (v1053 : Int) (v1054 : Int) (v1055 : Int) : LSound Try.prog 1 (impl_Whole_takeRow_LO v1050 v1051 v1052 v1053 v1054 v1055) 0 (bodyOf Try.f101 0) := by
  intro e L out h
  exact lo_ok (E := impl_Whole_takeRow_l0_E v1050 v1051 v1052 v1053 v1054 v1055) (gT := impl_Whole_takeRow_l0_T v1051 v1053 v1054 v1055) (X := impl_Whole_takeRow_l0_X v1050 v1051 v1052 v1053 v1054 v1055) (s0 := ((gI (vAt e 11)), (gRI L (cAt L (vAt e 4) 2)))) tok impl_Whole_takeRow_hO mixed (LoopsOk_eq (l := []) (by kernel_rfl) trivial) (impl_Whole_takeRow_l0_be v1050 v1051 v1052 v1053 v1054 v1055) rfl (by intro x; rfl) h
noncomputable def impl_Whole_takeRow_T (v1050 : Int) (v1051 : Int) (v1052 : List Int) (v1053 : Int) (v1054 : Int) (v1055 : Int) : Tree ((List Int)) :=
  (.need (some (impl_Whole_takeRow_l0_E v1050 v1051 v1052 v1053 v1054 v1055 ((0 : Int), v1052)) = some (impl_Whole_takeRow_l0_E v1050 v1051 v1052 v1053 v1054 v1055 ((0 : Int), v1052))) <|
  (.call (impl_Whole_takeRow_l0_g v1051 v1053 v1054 v1055 ((0 : Int), v1052)) fun v1064 =>
  .leaf v1064))

noncomputable def impl_Whole_takeRow_g (v1050 : Int) (v1051 : Int) (v1052 : List Int) (v1053 : Int) (v1054 : Int) (v1055 : Int) : Option ((List Int)) := (impl_Whole_takeRow_T v1050 v1051 v1052 v1053 v1054 v1055).run
def impl_Whole_takeRow_enc (v1050 : Int) (v1051 : Int) (v1052 : List Int) (v1053 : Int) (v1054 : Int) (v1055 : Int) (y : (List Int)) : Rs := (.tup [], [.row (.i64 y) 0])
theorem impl_Whole_takeRow_den (v1050 : Int) (v1051 : Int) (v1052 : List Int) (v1053 : Int) (v1054 : Int) (v1055 : Int) : (den TT (tabD impl_Whole_takeRow_tab) (tabM impl_Whole_takeRow_tab) (impl_Whole_takeRow_LO v1050 v1051 v1052 v1053 v1054 v1055) (codeOf Try.f101) ([.agg [.int .i64 v1050, .int .i64 v1051, .own 0 0 v1052.length], .int .i64 v1053, .int .i64 v1054, .int .i64 v1055] ++ List.replicate (Try.f101.ntmps - ([.agg [.int .i64 v1050, .int .i64 v1051, .own 0 0 v1052.length], .int .i64 v1053, .int .i64 v1054, .int .i64 v1055] : List DV).length) .undef) [.row (.i64 v1052) 0]).bind (retD TT Try.f101.results.toList 1) = (impl_Whole_takeRow_T v1050 v1051 v1052 v1053 v1054 v1055).bind fun y => .leaf (impl_Whole_takeRow_enc v1050 v1051 v1052 v1053 v1054 v1055 y) := by kernel_rfl
theorem impl_Whole_takeRow_fn (v1050 : Int) (v1051 : Int) (v1052 : List Int) (v1053 : Int) (v1054 : Int) (v1055 : Int) (F : Fr) (hm : F.ids.length = 1) (h0 : St F [.row (.i64 v1052) 0] F.H0) (hA : DVs.Ok F [.row (.i64 v1052) 0] [.agg [.int .i64 v1050, .int .i64 v1051, .own 0 0 v1052.length], .int .i64 v1053, .int .i64 v1054, .int .i64 v1055]) {y : (List Int)} (hy : impl_Whole_takeRow_g v1050 v1051 v1052 v1053 v1054 v1055 = some y) : ∃ H', FnOk Try.prog 101 (DVs.av F [.agg [.int .i64 v1050, .int .i64 v1051, .own 0 0 v1052.length], .int .i64 v1053, .int .i64 v1054, .int .i64 v1055]) F.H0 ((impl_Whole_takeRow_enc v1050 v1051 v1052 v1053 v1054 v1055 y).1.av F) H' ∧ St F (impl_Whole_takeRow_enc v1050 v1051 v1052 v1053 v1054 v1055 y).2 H' ∧ (impl_Whole_takeRow_enc v1050 v1051 v1052 v1053 v1054 v1055 y).1.Ok F (impl_Whole_takeRow_enc v1050 v1051 v1052 v1053 v1054 v1055 y).2 :=
  fn_fin tok impl_Whole_takeRow_hO mixed Try.func101 Try.call101 (by kernel_rfl) (LoopsOk_eq (l := [(0, bodyOf Try.f101 0)]) (by kernel_rfl) ⟨impl_Whole_takeRow_l0_ok v1050 v1051 v1052 v1053 v1054 v1055, trivial⟩) (impl_Whole_takeRow_den v1050 v1051 v1052 v1053 v1054 v1055) hy hm h0 hA
noncomputable def impl_Whole_takeRow_F : DFn := fun args L =>
  match args with
  | [.agg [.int .i64 v1050, .int .i64 v1051, a1], .int .i64 v1053, .int .i64 v1054, .int .i64 v1055] =>
    optT (ownI64 L a1) fun qv1052 =>
    (match sepB [qv1052.1] [] with
    | true =>
    .call (impl_Whole_takeRow_g v1050 v1051 qv1052.2 v1053 v1054 v1055) fun y => .grd (decide (y.length = qv1052.2.length)) (.leaf (.tup [], setRows L ([qv1052.1].zip [.i64 y])))
    | false => .fail)
  | _ => .fail
theorem impl_Whole_takeRow_Fok : COk Try.prog 101 impl_Whole_takeRow_F false := by
  intro F L H args r L' hs ha hr
  unfold impl_Whole_takeRow_F at hr
  split at hr
  · rename_i v1050 v1051 a1 v1053 v1054 v1055
    obtain ⟨⟨jv1052, v1052⟩, hqv1052, hr⟩ := optT_run hr
    simp only at hr
    split at hr
    · rename_i hsep
      obtain ⟨hnd, hsepv⟩ := sepB_spec hsep
      simp only [Tree.run] at hr
      obtain ⟨y, hy, hr⟩ := Option.bind_eq_some_iff.1 hr
      try simp only [Tree.run] at hr
      obtain ⟨hl0, hr⟩ := ite_run hr
      simp only [Option.some.injEq, Prod.mk.injEq] at hr
      obtain ⟨rfl, rfl⟩ := hr
      obtain ⟨hr0, hu0, ha0, hb0⟩ := (ownR_spec (DVs.okAt (DVs.okAt ha 0 rfl) 2 rfl) (ownI64_or hqv1052))
      exact mut_ok hs (fun k => (([a1.av F] : List AV)[k]?).getD .top) [.agg [.int .i64 v1050, .int .i64 v1051, a1], .int .i64 v1053, .int .i64 v1054, .int .i64 v1055] [.agg [.int .i64 v1050, .int .i64 v1051, .own 0 0 v1052.length], .int .i64 v1053, .int .i64 v1054, .int .i64 v1055] [jv1052] [.i64 v1052] [.i64 y] hnd rfl rfl (fun i j q h1 h2 => by
          rcases i with _ | i
          · simp at h1 h2; subst h1; subst h2; exact hr0
          · simp at h1) (fun i q q' h1 h2 => by
          rcases i with _ | i
          · simp at h1 h2; subst h1; subst h2; exact of_decide_eq_true hl0
          · simp at h1) (fun j hj => by simp at hj; subst hj; simp [DVs.refs, DV.refs, hu0]) (fun F' h0 hi hρ hst hS => ⟨by (have ab0 : F'.abs 0 = F.abs jv1052 := (by simp [Fr.abs, hi]); simp [DVs.av, DV.av, BR.av, hρ, Row.len, ha0, ab0]), by
          obtain ⟨H1, k1, k2, _⟩ := impl_Whole_takeRow_fn v1050 v1051 v1052 v1053 v1054 v1055 F' (by rw [hi]; rfl) hst ⟨⟨trivial, trivial, ⟨_, rfl, Nat.le_refl _, Nat.le_refl _, fun _ => rfl, (ownR_spec (DVs.okAt (DVs.okAt ha 0 rfl) 2 rfl) (ownI64_or hqv1052)).2.2.2⟩, trivial⟩, trivial, trivial, trivial, trivial⟩ hy
          exact ⟨H1, k1, k2⟩⟩) (fun F' => rfl) (fun L' => trivial)
    · cases hr
  · cases hr
/-! (impl.echelon).take -/
noncomputable def impl_echelon_take_LO (v1075 : Int) (v1076 : Int) (v1077 : List Int) (v1078 : Int) (v1079 : Int) (v1080 : List Int) (v1081 : Int) (v1082 : Int) (v1083 : Int) : LOr := fun id e L =>
  match id with
  | _ => .fail
noncomputable def impl_echelon_take_tab : List (FuncId × DFn × Bool) := [(101, impl_Whole_takeRow_F, false), (65, impl_ValidWhole_F, true)]
theorem impl_echelon_take_hO : OrcOk Try.prog (tabD impl_echelon_take_tab) (tabM impl_echelon_take_tab) := tabD_cons impl_Whole_takeRow_Fok (tabD_cons impl_ValidWhole_Fok (tabD_nil _))
noncomputable def impl_echelon_take_T (v1075 : Int) (v1076 : Int) (v1077 : List Int) (v1078 : Int) (v1079 : Int) (v1080 : List Int) (v1081 : Int) (v1082 : Int) (v1083 : Int) : Tree (Bool × (List Int) × (List Int)) :=
  (.call (impl_Whole_takeRow_g v1075 v1076 v1077 v1081 v1082 v1083) fun v1084 =>
  (.grd (decide (v1084.length = v1077.length)) <|
  (.call (impl_Whole_takeRow_g v1078 v1079 v1080 v1081 v1082 v1083) fun v1085 =>
  (.grd (decide (v1085.length = v1080.length)) <|
  (.call (impl_ValidWhole_g v1075 v1076 v1084) fun v1086 =>
  (.br v1086 (
   (.call (impl_ValidWhole_g v1078 v1079 v1085) fun v1087 =>
   .leaf (v1087, v1084, v1085))
  ) (
   .leaf (false, v1084, v1085)
  )))))))

noncomputable def impl_echelon_take_g (v1075 : Int) (v1076 : Int) (v1077 : List Int) (v1078 : Int) (v1079 : Int) (v1080 : List Int) (v1081 : Int) (v1082 : Int) (v1083 : Int) : Option (Bool × (List Int) × (List Int)) := (impl_echelon_take_T v1075 v1076 v1077 v1078 v1079 v1080 v1081 v1082 v1083).run
def impl_echelon_take_enc (v1075 : Int) (v1076 : Int) (v1077 : List Int) (v1078 : Int) (v1079 : Int) (v1080 : List Int) (v1081 : Int) (v1082 : Int) (v1083 : Int) (y : Bool × (List Int) × (List Int)) : Rs := (.bool y.1, [.row (.i64 y.2.1) 0, .row (.i64 y.2.2) 0])
theorem impl_echelon_take_den (v1075 : Int) (v1076 : Int) (v1077 : List Int) (v1078 : Int) (v1079 : Int) (v1080 : List Int) (v1081 : Int) (v1082 : Int) (v1083 : Int) : (den TT (tabD impl_echelon_take_tab) (tabM impl_echelon_take_tab) (impl_echelon_take_LO v1075 v1076 v1077 v1078 v1079 v1080 v1081 v1082 v1083) (codeOf Try.f115) ([.agg [.int .i64 v1075, .int .i64 v1076, .own 0 0 v1077.length, .int .i64 v1078, .int .i64 v1079, .own 1 0 v1080.length], .int .i64 v1081, .int .i64 v1082, .int .i64 v1083] ++ List.replicate (Try.f115.ntmps - ([.agg [.int .i64 v1075, .int .i64 v1076, .own 0 0 v1077.length, .int .i64 v1078, .int .i64 v1079, .own 1 0 v1080.length], .int .i64 v1081, .int .i64 v1082, .int .i64 v1083] : List DV).length) .undef) [.row (.i64 v1077) 0, .row (.i64 v1080) 0]).bind (retD TT Try.f115.results.toList 2) = (impl_echelon_take_T v1075 v1076 v1077 v1078 v1079 v1080 v1081 v1082 v1083).bind fun y => .leaf (impl_echelon_take_enc v1075 v1076 v1077 v1078 v1079 v1080 v1081 v1082 v1083 y) := by kernel_rfl
theorem impl_echelon_take_fn (v1075 : Int) (v1076 : Int) (v1077 : List Int) (v1078 : Int) (v1079 : Int) (v1080 : List Int) (v1081 : Int) (v1082 : Int) (v1083 : Int) (F : Fr) (hm : F.ids.length = 2) (h0 : St F [.row (.i64 v1077) 0, .row (.i64 v1080) 0] F.H0) (hA : DVs.Ok F [.row (.i64 v1077) 0, .row (.i64 v1080) 0] [.agg [.int .i64 v1075, .int .i64 v1076, .own 0 0 v1077.length, .int .i64 v1078, .int .i64 v1079, .own 1 0 v1080.length], .int .i64 v1081, .int .i64 v1082, .int .i64 v1083]) {y : Bool × (List Int) × (List Int)} (hy : impl_echelon_take_g v1075 v1076 v1077 v1078 v1079 v1080 v1081 v1082 v1083 = some y) : ∃ H', FnOk Try.prog 115 (DVs.av F [.agg [.int .i64 v1075, .int .i64 v1076, .own 0 0 v1077.length, .int .i64 v1078, .int .i64 v1079, .own 1 0 v1080.length], .int .i64 v1081, .int .i64 v1082, .int .i64 v1083]) F.H0 ((impl_echelon_take_enc v1075 v1076 v1077 v1078 v1079 v1080 v1081 v1082 v1083 y).1.av F) H' ∧ St F (impl_echelon_take_enc v1075 v1076 v1077 v1078 v1079 v1080 v1081 v1082 v1083 y).2 H' ∧ (impl_echelon_take_enc v1075 v1076 v1077 v1078 v1079 v1080 v1081 v1082 v1083 y).1.Ok F (impl_echelon_take_enc v1075 v1076 v1077 v1078 v1079 v1080 v1081 v1082 v1083 y).2 :=
  fn_fin tok impl_echelon_take_hO mixed Try.func115 Try.call115 (by kernel_rfl) (LoopsOk_eq (l := []) (by kernel_rfl) trivial) (impl_echelon_take_den v1075 v1076 v1077 v1078 v1079 v1080 v1081 v1082 v1083) hy hm h0 hA
noncomputable def impl_echelon_take_F : DFn := fun args L =>
  match args with
  | [.agg [.int .i64 v1075, .int .i64 v1076, a1, .int .i64 v1078, .int .i64 v1079, a2], .int .i64 v1081, .int .i64 v1082, .int .i64 v1083] =>
    optT (ownI64 L a1) fun qv1077 =>
    optT (ownI64 L a2) fun qv1080 =>
    (match sepB [qv1077.1, qv1080.1] [] with
    | true =>
    .call (impl_echelon_take_g v1075 v1076 qv1077.2 v1078 v1079 qv1080.2 v1081 v1082 v1083) fun y => .grd (decide (y.2.1.length = qv1077.2.length)) (.grd (decide (y.2.2.length = qv1080.2.length)) (.leaf (.bool y.1, setRows L ([qv1077.1, qv1080.1].zip [.i64 y.2.1, .i64 y.2.2]))))
    | false => .fail)
  | _ => .fail
theorem impl_echelon_take_Fok : COk Try.prog 115 impl_echelon_take_F false := by
  intro F L H args r L' hs ha hr
  unfold impl_echelon_take_F at hr
  split at hr
  · rename_i v1075 v1076 a1 v1078 v1079 a2 v1081 v1082 v1083
    obtain ⟨⟨jv1077, v1077⟩, hqv1077, hr⟩ := optT_run hr
    simp only at hr
    obtain ⟨⟨jv1080, v1080⟩, hqv1080, hr⟩ := optT_run hr
    simp only at hr
    split at hr
    · rename_i hsep
      obtain ⟨hnd, hsepv⟩ := sepB_spec hsep
      simp only [Tree.run] at hr
      obtain ⟨y, hy, hr⟩ := Option.bind_eq_some_iff.1 hr
      try simp only [Tree.run] at hr
      obtain ⟨hl0, hr⟩ := ite_run hr
      obtain ⟨hl1, hr⟩ := ite_run hr
      simp only [Option.some.injEq, Prod.mk.injEq] at hr
      obtain ⟨rfl, rfl⟩ := hr
      obtain ⟨hr0, hu0, ha0, hb0⟩ := (ownR_spec (DVs.okAt (DVs.okAt ha 0 rfl) 2 rfl) (ownI64_or hqv1077))
      obtain ⟨hr1, hu1, ha1, hb1⟩ := (ownR_spec (DVs.okAt (DVs.okAt ha 0 rfl) 5 rfl) (ownI64_or hqv1080))
      exact mut_ok hs (fun k => (([a1.av F, a2.av F] : List AV)[k]?).getD .top) [.agg [.int .i64 v1075, .int .i64 v1076, a1, .int .i64 v1078, .int .i64 v1079, a2], .int .i64 v1081, .int .i64 v1082, .int .i64 v1083] [.agg [.int .i64 v1075, .int .i64 v1076, .own 0 0 v1077.length, .int .i64 v1078, .int .i64 v1079, .own 1 0 v1080.length], .int .i64 v1081, .int .i64 v1082, .int .i64 v1083] [jv1077, jv1080] [.i64 v1077, .i64 v1080] [.i64 y.2.1, .i64 y.2.2] hnd rfl rfl (fun i j q h1 h2 => by
          rcases i with _ | _ | i
          · simp at h1 h2; subst h1; subst h2; exact hr0
          · simp at h1 h2; subst h1; subst h2; exact hr1
          · simp at h1) (fun i q q' h1 h2 => by
          rcases i with _ | _ | i
          · simp at h1 h2; subst h1; subst h2; exact of_decide_eq_true hl0
          · simp at h1 h2; subst h1; subst h2; exact of_decide_eq_true hl1
          · simp at h1) (fun j hj => by simp at hj; rcases hj with rfl | rfl <;> simp [DVs.refs, DV.refs, hu0, hu1]) (fun F' h0 hi hρ hst hS => ⟨by (have ab0 : F'.abs 0 = F.abs jv1077 := (by simp [Fr.abs, hi]); have ab1 : F'.abs 1 = F.abs jv1080 := (by simp [Fr.abs, hi]); simp [DVs.av, DV.av, BR.av, hρ, Row.len, ha0, ab0, ha1, ab1]), by
          obtain ⟨H1, k1, k2, _⟩ := impl_echelon_take_fn v1075 v1076 v1077 v1078 v1079 v1080 v1081 v1082 v1083 F' (by rw [hi]; rfl) hst ⟨⟨trivial, trivial, ⟨_, rfl, Nat.le_refl _, Nat.le_refl _, fun _ => rfl, (ownR_spec (DVs.okAt (DVs.okAt ha 0 rfl) 2 rfl) (ownI64_or hqv1077)).2.2.2⟩, trivial, trivial, ⟨_, rfl, Nat.le_refl _, Nat.le_refl _, fun _ => rfl, (ownR_spec (DVs.okAt (DVs.okAt ha 0 rfl) 5 rfl) (ownI64_or hqv1080)).2.2.2⟩, trivial⟩, trivial, trivial, trivial, trivial⟩ hy
          exact ⟨H1, k1, k2⟩⟩) (fun F' => rfl) (fun L' => trivial)
    · cases hr
  · cases hr
/-! (impl.echelon).clearColumn -/
noncomputable def impl_echelon_clearColumn_l2_T (v1014 : Int) (v1015 : Int) (v1017 : Int) (v1018 : Int) (v1020 : Int) (v1021 : Int) (s : Int × (List Int) × (List Int)) : Tree ((Int × (List Int) × (List Int)) ⊕ (((List Int) × (List Int)) ⊕ ((List Int) × (List Int)))) :=
  (.br (decide (s.1 < v1014)) (
   (.call (impl_Whole_at_g v1015 s.2.1 s.1 v1021) fun v1157 =>
   (.call (impl_Whole_at_g v1015 s.2.1 v1020 v1021) fun v1158 =>
   (.call (impl_floorDiv_g v1157 v1158) fun v1159 =>
   (.call (impl_echelon_take_g v1014 v1015 s.2.1 v1017 v1018 s.2.2 s.1 v1020 v1159) fun v1160 =>
   (.grd (decide (v1160.2.1.length = s.2.1.length)) <|
   (.grd (decide (v1160.2.2.length = s.2.2.length)) <|
   (.br (!v1160.1) (
    .leaf (.inr (.inl (v1160.2.1, v1160.2.2)))
   ) (
    .leaf (.inl (IntKind.i64.wrap (s.1 + (1 : Int)), v1160.2.1, v1160.2.2))
   ))))))))
  ) (
   .leaf (.inr (.inr (s.2.1, s.2.2)))
  ))

noncomputable def impl_echelon_clearColumn_l2_g (v1014 : Int) (v1015 : Int) (v1017 : Int) (v1018 : Int) (v1020 : Int) (v1021 : Int) (s0 : Int × (List Int) × (List Int)) : Option (((List Int) × (List Int)) ⊕ ((List Int) × (List Int))) := whileM (fun s => (impl_echelon_clearColumn_l2_T v1014 v1015 v1017 v1018 v1020 v1021 s).run) s0
def impl_echelon_clearColumn_l2_E (v1014 : Int) (v1015 : Int) (v1016 : List Int) (v1017 : Int) (v1018 : Int) (v1019 : List Int) (v1020 : Int) (v1021 : Int) (s : Int × (List Int) × (List Int)) : Sd := ([.top, .int .i64 v1020, .top, .ptr 2 (0 : Nat) 0 (6 : Nat), .top, .ptr 3 (0 : Nat) 0 (1 : Nat), .top, .ptr 4 (0 : Nat) 0 (1 : Nat), .top, .int .i64 s.1, .top, .top, .top, .top, .top, .top, .top, .top, .top, .top, .top, .top, .top, .top, .top, .top, .top, .top, .top, .top, .top, .top, .top, .top, .top, .top, .top, .top, .top, .top, .top, .top, .top, .top, .top, .top, .top, .top, .top, .top], [.row (.i64 s.2.1) 0, .row (.i64 s.2.2) 0, .gen [.int .i64 v1014, .int .i64 v1015, .own 0 0 ((s.2.1).length), .int .i64 v1017, .int .i64 v1018, .own 1 0 ((s.2.2).length)] false 0, .gen [.int .i64 v1021] true 0, .gen [.fn 150 [.ptr 2 (0 : Nat) 0 (6 : Nat), .ptr 3 (0 : Nat) 0 (1 : Nat)]] false 0])
def impl_echelon_clearColumn_l2_X (v1014 : Int) (v1015 : Int) (v1016 : List Int) (v1017 : Int) (v1018 : Int) (v1019 : List Int) (v1020 : Int) (v1021 : Int) (x : ((List Int) × (List Int)) ⊕ ((List Int) × (List Int))) : Out := (match x with | .inl x => (.ret, [.top, .top, .top, .top, .top, .top, .lit false, .top, .top, .top, .top, .top, .top, .top, .top, .top, .top, .top, .top, .top, .top, .top, .top, .top, .top, .top, .top, .top, .top, .top, .top, .top, .top, .top, .top, .top, .top, .top, .top, .top, .top, .top, .top, .top, .top, .top, .top, .top, .top, .top], [.row (.i64 x.1) 0, .row (.i64 x.2) 0]) | .inr x => (.normal, [.top, .int .i64 v1020, .top, .ptr 2 (0 : Nat) 0 (6 : Nat), .top, .ptr 3 (0 : Nat) 0 (1 : Nat), .top, .ptr 4 (0 : Nat) 0 (1 : Nat), .top, .top, .top, .top, .top, .top, .top, .top, .top, .top, .top, .top, .top, .top, .top, .top, .top, .top, .top, .top, .top, .top, .top, .top, .top, .top, .top, .top, .top, .top, .top, .top, .top, .top, .top, .top, .top, .top, .top, .top, .top, .top], [.row (.i64 x.1) 0, .row (.i64 x.2) 0, .gen [.int .i64 v1014, .int .i64 v1015, .own 0 0 ((x.1).length), .int .i64 v1017, .int .i64 v1018, .own 1 0 ((x.2).length)] false 0, .gen [.int .i64 v1021] true 0, .gen [.fn 150 [.ptr 2 (0 : Nat) 0 (6 : Nat), .ptr 3 (0 : Nat) 0 (1 : Nat)]] false 0]))
def impl_echelon_clearColumn_l2_kill : List Nat := [1, 0, 1, 0, 1, 0, 1, 0, 1, 0, 1, 1, 1, 1, 1, 1, 1, 1, 1, 1, 1, 1, 1, 1, 1, 1, 1, 1, 1, 1, 1, 1, 1, 1, 1, 1, 1, 1, 1, 1, 1, 1, 1, 1, 1, 1, 1, 1, 1, 1]
def impl_echelon_clearColumn_l2_nx : Exit → List Nat
  | .exit 0 => [1, 1, 1, 1, 1, 1, 0, 1, 1, 1, 1, 1, 1, 1, 1, 1, 1, 1, 1, 1, 1, 1, 1, 1, 1, 1, 1, 1, 1, 1, 1, 1, 1, 1, 1, 1, 1, 1, 1, 1, 1, 1, 1, 1, 1, 1, 1, 1, 1, 1]
  | .exit 1 => [1, 0, 1, 0, 1, 0, 1, 0, 1, 1, 1, 1, 1, 1, 1, 1, 1, 1, 1, 1, 1, 1, 1, 1, 1, 1, 1, 1, 1, 1, 1, 1, 1, 1, 1, 1, 1, 1, 1, 1, 1, 1, 1, 1, 1, 1, 1, 1, 1, 1]
  | .exit 2 => [1, 0, 1, 0, 1, 0, 1, 0, 1, 1, 1, 1, 1, 1, 1, 1, 1, 1, 1, 1, 1, 1, 1, 1, 1, 1, 1, 1, 1, 1, 1, 1, 1, 1, 1, 1, 1, 1, 1, 1, 1, 1, 1, 1, 1, 1, 1, 1, 1, 1]
  | .ret => [1, 1, 1, 1, 1, 1, 0, 1, 1, 1, 1, 1, 1, 1, 1, 1, 1, 1, 1, 1, 1, 1, 1, 1, 1, 1, 1, 1, 1, 1, 1, 1, 1, 1, 1, 1, 1, 1, 1, 1, 1, 1, 1, 1, 1, 1, 1, 1, 1, 1]
  | _ => []
noncomputable def impl_echelon_clearColumn_l0_T (v1014 : Int) (v1015 : Int) (v1016 : List Int) (v1017 : Int) (v1018 : Int) (v1019 : List Int) (v1020 : Int) (v1021 : Int) (s : (List Int) × (List Int)) : Tree (((List Int) × (List Int)) ⊕ (((List Int) × (List Int)) ⊕ ((List Int) × (List Int)))) :=
  (.call (impl_Whole_filled_g v1014 v1015 s.1 v1020 v1021) fun v1137 =>
  (.br (decide ((((v1137).length : Nat) : Int) < (2 : Int))) (
   .leaf (.inr (.inl (s.1, s.2)))
  ) (
   (.call (slices_MinFuncI_g v1137 v1014 v1015 s.1 v1017 v1018 s.2 v1021) fun v1138 =>
   (.call (impl_echelon_swap_g v1014 v1015 s.1 v1017 v1018 s.2 v1020 v1138) fun v1139 =>
   (.grd (decide (v1139.1.length = s.1.length)) <|
   (.grd (decide (v1139.2.length = s.2.length)) <|
   (.need (some (impl_echelon_clearColumn_l2_E v1014 v1015 v1016 v1017 v1018 v1019 v1020 v1021 (IntKind.i64.wrap (v1020 + (1 : Int)), v1139.1, v1139.2)) = some (impl_echelon_clearColumn_l2_E v1014 v1015 v1016 v1017 v1018 v1019 v1020 v1021 (IntKind.i64.wrap (v1020 + (1 : Int)), v1139.1, v1139.2))) <|
   (.call (impl_echelon_clearColumn_l2_g v1014 v1015 v1017 v1018 v1020 v1021 (IntKind.i64.wrap (v1020 + (1 : Int)), v1139.1, v1139.2)) fun v1161 =>
   (.sum v1161 (fun v1162 =>
    .leaf (.inr (.inr (v1162.1, v1162.2)))
   ) (fun v1163 =>
    .leaf (.inl (v1163.1, v1163.2))
   ))))))))
  )))

noncomputable def impl_echelon_clearColumn_l0_g (v1014 : Int) (v1015 : Int) (v1016 : List Int) (v1017 : Int) (v1018 : Int) (v1019 : List Int) (v1020 : Int) (v1021 : Int) (s0 : (List Int) × (List Int)) : Option (((List Int) × (List Int)) ⊕ ((List Int) × (List Int))) := whileM (fun s => (impl_echelon_clearColumn_l0_T v1014 v1015 v1016 v1017 v1018 v1019 v1020 v1021 s).run) s0
def impl_echelon_clearColumn_l0_E (v1014 : Int) (v1015 : Int) (v1016 : List Int) (v1017 : Int) (v1018 : Int) (v1019 : List Int) (v1020 : Int) (v1021 : Int) (s : (List Int) × (List Int)) : Sd := ([.top, .int .i64 v1020, .top, .ptr 2 (0 : Nat) 0 (6 : Nat), .top, .ptr 3 (0 : Nat) 0 (1 : Nat), .top, .ptr 4 (0 : Nat) 0 (1 : Nat), .top, .top, .top, .top, .top, .top, .top, .top, .top, .top, .top, .top, .top, .top, .top, .top, .top, .top, .top, .top, .top, .top, .top, .top, .top, .top, .top, .top, .top, .top, .top, .top, .top, .top, .top, .top, .top, .top, .top, .top, .top, .top], [.row (.i64 s.1) 0, .row (.i64 s.2) 0, .gen [.int .i64 v1014, .int .i64 v1015, .own 0 0 ((s.1).length), .int .i64 v1017, .int .i64 v1018, .own 1 0 ((s.2).length)] false 0, .gen [.int .i64 v1021] true 0, .gen [.fn 150 [.ptr 2 (0 : Nat) 0 (6 : Nat), .ptr 3 (0 : Nat) 0 (1 : Nat)]] false 0])
def impl_echelon_clearColumn_l0_X (v1014 : Int) (v1015 : Int) (v1016 : List Int) (v1017 : Int) (v1018 : Int) (v1019 : List Int) (v1020 : Int) (v1021 : Int) (x : ((List Int) × (List Int)) ⊕ ((List Int) × (List Int))) : Out := (match x with | .inl x => (.ret, [.top, .top, .top, .top, .top, .top, .lit true, .top, .top, .top, .top, .top, .top, .top, .top, .top, .top, .top, .top, .top, .top, .top, .top, .top, .top, .top, .top, .top, .top, .top, .top, .top, .top, .top, .top, .top, .top, .top, .top, .top, .top, .top, .top, .top, .top, .top, .top, .top, .top, .top], [.row (.i64 x.1) 0, .row (.i64 x.2) 0]) | .inr x => (.ret, [.top, .top, .top, .top, .top, .top, .lit false, .top, .top, .top, .top, .top, .top, .top, .top, .top, .top, .top, .top, .top, .top, .top, .top, .top, .top, .top, .top, .top, .top, .top, .top, .top, .top, .top, .top, .top, .top, .top, .top, .top, .top, .top, .top, .top, .top, .top, .top, .top, .top, .top], [.row (.i64 x.1) 0, .row (.i64 x.2) 0]))
def impl_echelon_clearColumn_l0_kill : List Nat := [1, 0, 1, 0, 1, 0, 1, 0, 1, 1, 1, 1, 1, 1, 1, 1, 1, 1, 1, 1, 1, 1, 1, 1, 1, 1, 1, 1, 1, 1, 1, 1, 1, 1, 1, 1, 1, 1, 1, 1, 1, 1, 1, 1, 1, 1, 1, 1, 1, 1]
def impl_echelon_clearColumn_l0_nx : Exit → List Nat
  | .exit 0 => [1, 1, 1, 1, 1, 1, 0, 1, 1, 1, 1, 1, 1, 1, 1, 1, 1, 1, 1, 1, 1, 1, 1, 1, 1, 1, 1, 1, 1, 1, 1, 1, 1, 1, 1, 1, 1, 1, 1, 1, 1, 1, 1, 1, 1, 1, 1, 1, 1, 1]
  | .ret => [1, 1, 1, 1, 1, 1, 0, 1, 1, 1, 1, 1, 1, 1, 1, 1, 1, 1, 1, 1, 1, 1, 1, 1, 1, 1, 1, 1, 1, 1, 1, 1, 1, 1, 1, 1, 1, 1, 1, 1, 1, 1, 1, 1, 1, 1, 1, 1, 1, 1]
  | _ => []
noncomputable def impl_echelon_clearColumn_LO (v1014 : Int) (v1015 : Int) (v1016 : List Int) (v1017 : Int) (v1018 : Int) (v1019 : List Int) (v1020 : Int) (v1021 : Int) : LOr := fun id e L =>
  match id with
  | 2 => .need (normA 2 impl_echelon_clearColumn_l2_kill e L = some (impl_echelon_clearColumn_l2_E v1014 v1015 v1016 v1017 v1018 v1019 v1020 v1021 ((gI (vAt e 9)), (gRI L (cAt L (vAt e 3) 2)), (gRI L (cAt L (vAt e 3) 5))))) (.call (impl_echelon_clearColumn_l2_g v1014 v1015 v1017 v1018 v1020 v1021 ((gI (vAt e 9)), (gRI L (cAt L (vAt e 3) 2)), (gRI L (cAt L (vAt e 3) 5)))) fun x => .sum x (fun b0 => .leaf (impl_echelon_clearColumn_l2_X v1014 v1015 v1016 v1017 v1018 v1019 v1020 v1021 (.inl b0))) (fun c0 => .leaf (impl_echelon_clearColumn_l2_X v1014 v1015 v1016 v1017 v1018 v1019 v1020 v1021 (.inr c0))))
  | 0 => .need (normA 2 impl_echelon_clearColumn_l0_kill e L = some (impl_echelon_clearColumn_l0_E v1014 v1015 v1016 v1017 v1018 v1019 v1020 v1021 ((gRI L (cAt L (vAt e 3) 2)), (gRI L (cAt L (vAt e 3) 5))))) (.call (impl_echelon_clearColumn_l0_g v1014 v1015 v1016 v1017 v1018 v1019 v1020 v1021 ((gRI L (cAt L (vAt e 3) 2)), (gRI L (cAt L (vAt e 3) 5)))) fun x => .sum x (fun b0 => .leaf (impl_echelon_clearColumn_l0_X v1014 v1015 v1016 v1017 v1018 v1019 v1020 v1021 (.inl b0))) (fun c0 => .leaf (impl_echelon_clearColumn_l0_X v1014 v1015 v1016 v1017 v1018 v1019 v1020 v1021 (.inr c0))))
  | _ => .fail
noncomputable def impl_echelon_clearColumn_tab : List (FuncId × DFn × Bool) := [(112, impl_Whole_filled_F, true), (151, slices_MinFuncI_F, true), (113, impl_echelon_swap_F, false), (114, impl_Whole_at_F, true), (116, impl_floorDiv_F, true), (115, impl_echelon_take_F, false)]
theorem impl_echelon_clearColumn_hO : OrcOk Try.prog (tabD impl_echelon_clearColumn_tab) (tabM impl_echelon_clearColumn_tab) := tabD_cons impl_Whole_filled_Fok (tabD_cons slices_MinFuncI_Fok (tabD_cons impl_echelon_swap_Fok (tabD_cons impl_Whole_at_Fok (tabD_cons impl_floorDiv_Fok (tabD_cons impl_echelon_take_Fok (tabD_nil _))))))
theorem impl_echelon_clearColumn_l2_be (v1014 : Int) (v1015 : Int) (v1016 : List Int) (v1017 : Int) (v1018 : Int) (v1019 : List Int) (v1020 : Int) (v1021 : Int) (s : Int × (List Int) × (List Int)) : bodyT TT (tabD impl_echelon_clearColumn_tab) (tabM impl_echelon_clearColumn_tab) (impl_echelon_clearColumn_LO v1014 v1015 v1016 v1017 v1018 v1019 v1020 v1021) 2 impl_echelon_clearColumn_l2_kill impl_echelon_clearColumn_l2_nx (bodyOf Try.f111 2) 2 (impl_echelon_clearColumn_l2_E v1014 v1015 v1016 v1017 v1018 v1019 v1020 v1021 s) = (impl_echelon_clearColumn_l2_T v1014 v1015 v1017 v1018 v1020 v1021 s).bind fun y => .leaf (outS (impl_echelon_clearColumn_l2_E v1014 v1015 v1016 v1017 v1018 v1019 v1020 v1021) (impl_echelon_clearColumn_l2_X v1014 v1015 v1016 v1017 v1018 v1019 v1020 v1021) y) := by kernel_rfl
theorem impl_echelon_clearColumn_l2_ok (v1014 : Int) (v1015 : Int) (v1016 : List Int) (v1017 : Int) (v1018 : Int) (v1019 : List Int) (v1020 : Int) (v1021 : Int) : LSound Try.prog 2 (impl_echelon_clearColumn_LO v1014 v1015 v1016 v1017 v1018 v1019 v1020 v1021) 2 (bodyOf Try.f111 2) := by
  intro e L out h
  exact lo_ok (E := impl_echelon_clearColumn_l2_E v1014 v1015 v1016 v1017 v1018 v1019 v1020 v1021) (gT := impl_echelon_clearColumn_l2_T v1014 v1015 v1017 v1018 v1020 v1021) (X := impl_echelon_clearColumn_l2_X v1014 v1015 v1016 v1017 v1018 v1019 v1020 v1021) (s0 := ((gI (vAt e 9)), (gRI L (cAt L (vAt e 3) 2)), (gRI L (cAt L (vAt e 3) 5)))) tok impl_echelon_clearColumn_hO mixed (LoopsOk_eq (l := []) (by kernel_rfl) trivial) (impl_echelon_clearColumn_l2_be v1014 v1015 v1016 v1017 v1018 v1019 v1020 v1021) rfl (by intro x; (cases x with | inl b => rfl | inr x => exact rfl)) h
theorem impl_echelon_clearColumn_l0_be (v1014 : Int) (v1015 : Int) (v1016 : List Int) (v1017 : Int) (v1018 : Int) (v1019 : List Int) (v1020 : Int) (v1021 : Int) (s : (List Int) × (List Int)) : bodyT TT (tabD impl_echelon_clearColumn_tab) (tabM impl_echelon_clearColumn_tab) (impl_echelon_clearColumn_LO v1014 v1015 v1016 v1017 v1018 v1019 v1020 v1021) 2 impl_echelon_clearColumn_l0_kill impl_echelon_clearColumn_l0_nx (bodyOf Try.f111 0) 0 (impl_echelon_clearColumn_l0_E v1014 v1015 v1016 v1017 v1018 v1019 v1020 v1021 s) = (impl_echelon_clearColumn_l0_T v1014 v1015 v1016 v1017 v1018 v1019 v1020 v1021 s).bind fun y => .leaf (outS (impl_echelon_clearColumn_l0_E v1014 v1015 v1016 v1017 v1018 v1019 v1020 v1021) (impl_echelon_clearColumn_l0_X v1014 v1015 v1016 v1017 v1018 v1019 v1020 v1021) y) := by kernel_rfl
theorem impl_echelon_clearColumn_l0_ok (v1014 : Int) (v1015 : Int) (v1016 : List Int) (v1017 : Int) (v1018 : Int) (v1019 : List Int) (v1020 : Int) (v1021 : Int) : LSound Try.prog 2 (impl_echelon_clearColumn_LO v1014 v1015 v1016 v1017 v1018 v1019 v1020 v1021) 0 (bodyOf Try.f111 0) := by
  intro e L out h
  exact lo_ok (E := impl_echelon_clearColumn_l0_E v1014 v1015 v1016 v1017 v1018 v1019 v1020 v1021) (gT := impl_echelon_clearColumn_l0_T v1014 v1015 v1016 v1017 v1018 v1019 v1020 v1021) (X := impl_echelon_clearColumn_l0_X v1014 v1015 v1016 v1017 v1018 v1019 v1020 v1021) (s0 := ((gRI L (cAt L (vAt e 3) 2)), (gRI L (cAt L (vAt e 3) 5)))) tok impl_echelon_clearColumn_hO mixed (LoopsOk_eq (l := [(2, bodyOf Try.f111 2)]) (by kernel_rfl) ⟨impl_echelon_clearColumn_l2_ok v1014 v1015 v1016 v1017 v1018 v1019 v1020 v1021, trivial⟩) (impl_echelon_clearColumn_l0_be v1014 v1015 v1016 v1017 v1018 v1019 v1020 v1021) rfl (by intro x; (cases x with | inl b => rfl | inr x => exact rfl)) h
noncomputable def impl_echelon_clearColumn_T (v1014 : Int) (v1015 : Int) (v1016 : List Int) (v1017 : Int) (v1018 : Int) (v1019 : List Int) (v1020 : Int) (v1021 : Int) : Tree (Bool × (List Int) × (List Int)) :=
  (.need (some (impl_echelon_clearColumn_l0_E v1014 v1015 v1016 v1017 v1018 v1019 v1020 v1021 (v1016, v1019)) = some (impl_echelon_clearColumn_l0_E v1014 v1015 v1016 v1017 v1018 v1019 v1020 v1021 (v1016, v1019))) <|
  (.call (impl_echelon_clearColumn_l0_g v1014 v1015 v1016 v1017 v1018 v1019 v1020 v1021 (v1016, v1019)) fun v1164 =>
  (.sum v1164 (fun v1165 =>
   .leaf (true, v1165.1, v1165.2)
  ) (fun v1166 =>
   .leaf (false, v1166.1, v1166.2)
  ))))

noncomputable def impl_echelon_clearColumn_g (v1014 : Int) (v1015 : Int) (v1016 : List Int) (v1017 : Int) (v1018 : Int) (v1019 : List Int) (v1020 : Int) (v1021 : Int) : Option (Bool × (List Int) × (List Int)) := (impl_echelon_clearColumn_T v1014 v1015 v1016 v1017 v1018 v1019 v1020 v1021).run
def impl_echelon_clearColumn_enc (v1014 : Int) (v1015 : Int) (v1016 : List Int) (v1017 : Int) (v1018 : Int) (v1019 : List Int) (v1020 : Int) (v1021 : Int) (y : Bool × (List Int) × (List Int)) : Rs := (.bool y.1, [.row (.i64 y.2.1) 0, .row (.i64 y.2.2) 0])
theorem impl_echelon_clearColumn_den (v1014 : Int) (v1015 : Int) (v1016 : List Int) (v1017 : Int) (v1018 : Int) (v1019 : List Int) (v1020 : Int) (v1021 : Int) : (den TT (tabD impl_echelon_clearColumn_tab) (tabM impl_echelon_clearColumn_tab) (impl_echelon_clearColumn_LO v1014 v1015 v1016 v1017 v1018 v1019 v1020 v1021) (codeOf Try.f111) ([.agg [.int .i64 v1014, .int .i64 v1015, .own 0 0 v1016.length, .int .i64 v1017, .int .i64 v1018, .own 1 0 v1019.length], .int .i64 v1020, .int .i64 v1021] ++ List.replicate (Try.f111.ntmps - ([.agg [.int .i64 v1014, .int .i64 v1015, .own 0 0 v1016.length, .int .i64 v1017, .int .i64 v1018, .own 1 0 v1019.length], .int .i64 v1020, .int .i64 v1021] : List DV).length) .undef) [.row (.i64 v1016) 0, .row (.i64 v1019) 0]).bind (retD TT Try.f111.results.toList 2) = (impl_echelon_clearColumn_T v1014 v1015 v1016 v1017 v1018 v1019 v1020 v1021).bind fun y => .leaf (impl_echelon_clearColumn_enc v1014 v1015 v1016 v1017 v1018 v1019 v1020 v1021 y) := by kernel_rfl
theorem impl_echelon_clearColumn_fn (v1014 : Int) (v1015 : Int) (v1016 : List Int) (v1017 : Int) (v1018 : Int) (v1019 : List Int) (v1020 : Int) (v1021 : Int) (F : Fr) (hm : F.ids.length = 2) (h0 : St F [.row (.i64 v1016) 0, .row (.i64 v1019) 0] F.H0) (hA : DVs.Ok F [.row (.i64 v1016) 0, .row (.i64 v1019) 0] [.agg [.int .i64 v1014, .int .i64 v1015, .own 0 0 v1016.length, .int .i64 v1017, .int .i64 v1018, .own 1 0 v1019.length], .int .i64 v1020, .int .i64 v1021]) {y : Bool × (List Int) × (List Int)} (hy : impl_echelon_clearColumn_g v1014 v1015 v1016 v1017 v1018 v1019 v1020 v1021 = some y) : ∃ H', FnOk Try.prog 111 (DVs.av F [.agg [.int .i64 v1014, .int .i64 v1015, .own 0 0 v1016.length, .int .i64 v1017, .int .i64 v1018, .own 1 0 v1019.length], .int .i64 v1020, .int .i64 v1021]) F.H0 ((impl_echelon_clearColumn_enc v1014 v1015 v1016 v1017 v1018 v1019 v1020 v1021 y).1.av F) H' ∧ St F (impl_echelon_clearColumn_enc v1014 v1015 v1016 v1017 v1018 v1019 v1020 v1021 y).2 H' ∧ (impl_echelon_clearColumn_enc v1014 v1015 v1016 v1017 v1018 v1019 v1020 v1021 y).1.Ok F (impl_echelon_clearColumn_enc v1014 v1015 v1016 v1017 v1018 v1019 v1020 v1021 y).2 :=
  fn_fin tok impl_echelon_clearColumn_hO mixed Try.func111 Try.call111 (by kernel_rfl) (LoopsOk_eq (l := [(0, bodyOf Try.f111 0)]) (by kernel_rfl) ⟨impl_echelon_clearColumn_l0_ok v1014 v1015 v1016 v1017 v1018 v1019 v1020 v1021, trivial⟩) (impl_echelon_clearColumn_den v1014 v1015 v1016 v1017 v1018 v1019 v1020 v1021) hy hm h0 hA
noncomputable def impl_echelon_clearColumn_F : DFn := fun args L =>
  match args with
  | [.agg [.int .i64 v1014, .int .i64 v1015, a1, .int .i64 v1017, .int .i64 v1018, a2], .int .i64 v1020, .int .i64 v1021] =>
    optT (ownI64 L a1) fun qv1016 =>
    optT (ownI64 L a2) fun qv1019 =>
    (match sepB [qv1016.1, qv1019.1] [] with
    | true =>
    .call (impl_echelon_clearColumn_g v1014 v1015 qv1016.2 v1017 v1018 qv1019.2 v1020 v1021) fun y => .grd (decide (y.2.1.length = qv1016.2.length)) (.grd (decide (y.2.2.length = qv1019.2.length)) (.leaf (.bool y.1, setRows L ([qv1016.1, qv1019.1].zip [.i64 y.2.1, .i64 y.2.2]))))
    | false => .fail)
  | _ => .fail
theorem impl_echelon_clearColumn_Fok : COk Try.prog 111 impl_echelon_clearColumn_F false := by
  intro F L H args r L' hs ha hr
  unfold impl_echelon_clearColumn_F at hr
  split at hr
  · rename_i v1014 v1015 a1 v1017 v1018 a2 v1020 v1021
    obtain ⟨⟨jv1016, v1016⟩, hqv1016, hr⟩ := optT_run hr
    simp only at hr
    obtain ⟨⟨jv1019, v1019⟩, hqv1019, hr⟩ := optT_run hr
    simp only at hr
    split at hr
    · rename_i hsep
      obtain ⟨hnd, hsepv⟩ := sepB_spec hsep
      simp only [Tree.run] at hr
      obtain ⟨y, hy, hr⟩ := Option.bind_eq_some_iff.1 hr
      try simp only [Tree.run] at hr
      obtain ⟨hl0, hr⟩ := ite_run hr
      obtain ⟨hl1, hr⟩ := ite_run hr
      simp only [Option.some.injEq, Prod.mk.injEq] at hr
      obtain ⟨rfl, rfl⟩ := hr
      obtain ⟨hr0, hu0, ha0, hb0⟩ := (ownR_spec (DVs.okAt (DVs.okAt ha 0 rfl) 2 rfl) (ownI64_or hqv1016))
      obtain ⟨hr1, hu1, ha1, hb1⟩ := (ownR_spec (DVs.okAt (DVs.okAt ha 0 rfl) 5 rfl) (ownI64_or hqv1019))
      exact mut_ok hs (fun k => (([a1.av F, a2.av F] : List AV)[k]?).getD .top) [.agg [.int .i64 v1014, .int .i64 v1015, a1, .int .i64 v1017, .int .i64 v1018, a2], .int .i64 v1020, .int .i64 v1021] [.agg [.int .i64 v1014, .int .i64 v1015, .own 0 0 v1016.length, .int .i64 v1017, .int .i64 v1018, .own 1 0 v1019.length], .int .i64 v1020, .int .i64 v1021] [jv1016, jv1019] [.i64 v1016, .i64 v1019] [.i64 y.2.1, .i64 y.2.2] hnd rfl rfl (fun i j q h1 h2 => by
          rcases i with _ | _ | i
          · simp at h1 h2; subst h1; subst h2; exact hr0
          · simp at h1 h2; subst h1; subst h2; exact hr1
          · simp at h1) (fun i q q' h1 h2 => by
          rcases i with _ | _ | i
          · simp at h1 h2; subst h1; subst h2; exact of_decide_eq_true hl0
          · simp at h1 h2; subst h1; subst h2; exact of_decide_eq_true hl1
          · simp at h1) (fun j hj => by simp at hj; rcases hj with rfl | rfl <;> simp [DVs.refs, DV.refs, hu0, hu1]) (fun F' h0 hi hρ hst hS => ⟨by (have ab0 : F'.abs 0 = F.abs jv1016 := (by simp [Fr.abs, hi]); have ab1 : F'.abs 1 = F.abs jv1019 := (by simp [Fr.abs, hi]); simp [DVs.av, DV.av, BR.av, hρ, Row.len, ha0, ab0, ha1, ab1]), by
          obtain ⟨H1, k1, k2, _⟩ := impl_echelon_clearColumn_fn v1014 v1015 v1016 v1017 v1018 v1019 v1020 v1021 F' (by rw [hi]; rfl) hst ⟨⟨trivial, trivial, ⟨_, rfl, Nat.le_refl _, Nat.le_refl _, fun _ => rfl, (ownR_spec (DVs.okAt (DVs.okAt ha 0 rfl) 2 rfl) (ownI64_or hqv1016)).2.2.2⟩, trivial, trivial, ⟨_, rfl, Nat.le_refl _, Nat.le_refl _, fun _ => rfl, (ownR_spec (DVs.okAt (DVs.okAt ha 0 rfl) 5 rfl) (ownI64_or hqv1019)).2.2.2⟩, trivial⟩, trivial, trivial, trivial⟩ hy
          exact ⟨H1, k1, k2⟩⟩) (fun F' => rfl) (fun L' => trivial)
    · cases hr
  · cases hr
/-! (impl.echelon).clearColumn$1 -/
noncomputable def impl_echelon_clearColumn_1_i1_LO (v1192 : Int) (v1193 : Int) (v1194 : Int) (v1195 : List Int) (v1196 : Int) (v1197 : Int) (v1198 : Int) : LOr := fun id e L =>
  match id with
  | _ => .fail
noncomputable def impl_echelon_clearColumn_1_i1_tab : List (FuncId × DFn × Bool) := [(114, impl_Whole_at_F, true)]
theorem impl_echelon_clearColumn_1_i1_hO : OrcOk Try.prog (tabD impl_echelon_clearColumn_1_i1_tab) (tabM impl_echelon_clearColumn_1_i1_tab) := tabD_cons impl_Whole_at_Fok (tabD_nil _)
noncomputable def impl_echelon_clearColumn_1_i1_T (v1192 : Int) (v1194 : Int) (v1195 : List Int) (v1198 : Int) : Tree (Int) :=
  (.call (impl_Whole_at_g v1194 v1195 v1192 v1198) fun v1199 =>
  (.call (impl_Whole_at_g v1194 v1195 v1192 v1198) fun v1200 =>
  .leaf (imax v1199 (IntKind.i64.wrap (0 - v1200)))))

noncomputable def impl_echelon_clearColumn_1_i1_g (v1192 : Int) (v1194 : Int) (v1195 : List Int) (v1198 : Int) : Option (Int) := (impl_echelon_clearColumn_1_i1_T v1192 v1194 v1195 v1198).run
def impl_echelon_clearColumn_1_i1_enc (v1192 : Int) (v1193 : Int) (v1194 : Int) (v1195 : List Int) (v1196 : Int) (v1197 : Int) (v1198 : Int) (y : Int) : Rs := (.int .i64 y, [])
theorem impl_echelon_clearColumn_1_i1_den (v1192 : Int) (v1193 : Int) (v1194 : Int) (v1195 : List Int) (v1196 : Int) (v1197 : Int) (v1198 : Int) : (den TT (tabD impl_echelon_clearColumn_1_i1_tab) (tabM impl_echelon_clearColumn_1_i1_tab) (impl_echelon_clearColumn_1_i1_LO v1192 v1193 v1194 v1195 v1196 v1197 v1198) (codeOf Try.f150) ([.int .i64 v1192, .bptr (BR.root 0) [.int .i64 v1193, .int .i64 v1194, .bslc (BR.root 1) (.i64 v1195), .int .i64 v1196, .int .i64 v1197, .nilslc], .bptr (BR.root 2) [.int .i64 v1198]] ++ List.replicate (Try.f150.ntmps - ([.int .i64 v1192, .bptr (BR.root 0) [.int .i64 v1193, .int .i64 v1194, .bslc (BR.root 1) (.i64 v1195), .int .i64 v1196, .int .i64 v1197, .nilslc], .bptr (BR.root 2) [.int .i64 v1198]] : List DV).length) .undef) []).bind (retD TT Try.f150.results.toList 0) = (impl_echelon_clearColumn_1_i1_T v1192 v1194 v1195 v1198).bind fun y => .leaf (impl_echelon_clearColumn_1_i1_enc v1192 v1193 v1194 v1195 v1196 v1197 v1198 y) := by kernel_rfl
theorem impl_echelon_clearColumn_1_i1_fn (v1192 : Int) (v1193 : Int) (v1194 : Int) (v1195 : List Int) (v1196 : Int) (v1197 : Int) (v1198 : Int) (F : Fr) (hm : F.ids.length = 0) (h0 : St F [] F.H0) (hA : DVs.Ok F [] [.int .i64 v1192, .bptr (BR.root 0) [.int .i64 v1193, .int .i64 v1194, .bslc (BR.root 1) (.i64 v1195), .int .i64 v1196, .int .i64 v1197, .nilslc], .bptr (BR.root 2) [.int .i64 v1198]]) {y : Int} (hy : impl_echelon_clearColumn_1_i1_g v1192 v1194 v1195 v1198 = some y) : ∃ H', FnOk Try.prog 150 (DVs.av F [.int .i64 v1192, .bptr (BR.root 0) [.int .i64 v1193, .int .i64 v1194, .bslc (BR.root 1) (.i64 v1195), .int .i64 v1196, .int .i64 v1197, .nilslc], .bptr (BR.root 2) [.int .i64 v1198]]) F.H0 ((impl_echelon_clearColumn_1_i1_enc v1192 v1193 v1194 v1195 v1196 v1197 v1198 y).1.av F) H' ∧ St F (impl_echelon_clearColumn_1_i1_enc v1192 v1193 v1194 v1195 v1196 v1197 v1198 y).2 H' ∧ (impl_echelon_clearColumn_1_i1_enc v1192 v1193 v1194 v1195 v1196 v1197 v1198 y).1.Ok F (impl_echelon_clearColumn_1_i1_enc v1192 v1193 v1194 v1195 v1196 v1197 v1198 y).2 :=
  fn_fin tok impl_echelon_clearColumn_1_i1_hO mixed Try.func150 Try.call150 (by kernel_rfl) (LoopsOk_eq (l := []) (by kernel_rfl) trivial) (impl_echelon_clearColumn_1_i1_den v1192 v1193 v1194 v1195 v1196 v1197 v1198) hy hm h0 hA
noncomputable def impl_echelon_clearColumn_1_i1_F : DFn := fun args L =>
  match args with
  | [.int .i64 v1192, a1, a3] =>
    optT (cellsOf L 6 a1) fun cs0 =>
    (match cs0 with
    | [.int .i64 v1193, .int .i64 v1194, a2, .int .i64 v1196, .int .i64 v1197, .nilslc] =>
    optT (rowI64 L a2) fun v1195 =>
    optT (cellsOf L 1 a3) fun cs2 =>
    (match cs2 with
    | [.int .i64 v1198] =>
    .call (impl_echelon_clearColumn_1_i1_g v1192 v1194 v1195 v1198) fun y => .leaf (.int .i64 y, L)
    | _ => .fail)
    | _ => .fail)
  | _ => .fail
theorem impl_echelon_clearColumn_1_i1_Fok : COk Try.prog 150 impl_echelon_clearColumn_1_i1_F true := by
  intro F L H args r L' hs ha hr
  unfold impl_echelon_clearColumn_1_i1_F at hr
  split at hr
  · rename_i v1192 a1 a3
    obtain ⟨cs0, hcp0, hr⟩ := optT_run hr
    split at hr
    · rename_i v1193 v1194 a2 v1196 v1197
      obtain ⟨v1195, hv1195, hr⟩ := optT_run hr
      obtain ⟨cs2, hcp2, hr⟩ := optT_run hr
      split at hr
      · rename_i v1198
        simp only [Tree.run] at hr
        obtain ⟨y, hy, hr⟩ := Option.bind_eq_some_iff.1 hr
        simp only [Tree.run, Option.some.injEq, Prod.mk.injEq] at hr
        obtain ⟨rfl, rfl⟩ := hr
        exact call_ok0 hs (fun k => (([a1.av F, a2.av F, a3.av F] : List AV)[k]?).getD .top) [.int .i64 v1192, a1, a3] [.int .i64 v1192, .bptr (BR.root 0) [.int .i64 v1193, .int .i64 v1194, .bslc (BR.root 1) (.i64 v1195), .int .i64 v1196, .int .i64 v1197, .nilslc], .bptr (BR.root 2) [.int .i64 v1198]] (fun F' h0 hi hρ => ⟨by simp [DVs.av, DV.av, BR.av, hρ], impl_echelon_clearColumn_1_i1_fn v1192 v1193 v1194 v1195 v1196 v1197 v1198 F' (by rw [hi]; rfl) (st_nil hi) ⟨trivial, bptr_ok hi (by rw [h0]; simpa [DVs.av, DV.av, BR.av, hρ] using (cellsOf_ok hs (DVs.okAt ha 1 rfl) hcp0).1) ⟨trivial, trivial, bslc_ok hi (by rw [h0, hρ]; exact rowI64_ok hs (DVs.okAt (cellsOf_ok hs (DVs.okAt ha 1 rfl) hcp0).2 2 rfl) hv1195), trivial, trivial, trivial, trivial⟩, bptr_ok hi (by rw [h0]; simpa [DVs.av, DV.av, BR.av, hρ] using (cellsOf_ok hs (DVs.okAt ha 2 rfl) hcp2).1) ⟨trivial, trivial⟩, trivial⟩ hy⟩) rfl
      · cases hr
    · cases hr
  · cases hr
/-! (impl.echelon).clearColumn$2 -/
noncomputable def impl_echelon_clearColumn_2_i1_LO (v1184 : Int) (v1185 : Int) (v1186 : Int) (v1187 : Int) (v1188 : List Int) (v1189 : Int) (v1190 : Int) (v1191 : Int) : LOr := fun id e L =>
  match id with
  | _ => .fail
noncomputable def impl_echelon_clearColumn_2_i1_tab : List (FuncId × DFn × Bool) := [(150, impl_echelon_clearColumn_1_i1_F, true)]
theorem impl_echelon_clearColumn_2_i1_hO : OrcOk Try.prog (tabD impl_echelon_clearColumn_2_i1_tab) (tabM impl_echelon_clearColumn_2_i1_tab) := tabD_cons impl_echelon_clearColumn_1_i1_Fok (tabD_nil _)
noncomputable def impl_echelon_clearColumn_2_i1_T (v1184 : Int) (v1185 : Int) (v1187 : Int) (v1188 : List Int) (v1191 : Int) : Tree (Int) :=
  (.call (impl_echelon_clearColumn_1_i1_g v1184 v1187 v1188 v1191) fun v1201 =>
  (.call (impl_echelon_clearColumn_1_i1_g v1185 v1187 v1188 v1191) fun v1202 =>
  .leaf (IntKind.i64.wrap (v1201 - v1202))))

noncomputable def impl_echelon_clearColumn_2_i1_g (v1184 : Int) (v1185 : Int) (v1187 : Int) (v1188 : List Int) (v1191 : Int) : Option (Int) := (impl_echelon_clearColumn_2_i1_T v1184 v1185 v1187 v1188 v1191).run
def impl_echelon_clearColumn_2_i1_enc (v1184 : Int) (v1185 : Int) (v1186 : Int) (v1187 : Int) (v1188 : List Int) (v1189 : Int) (v1190 : Int) (v1191 : Int) (y : Int) : Rs := (.int .i64 y, [])
theorem impl_echelon_clearColumn_2_i1_den (v1184 : Int) (v1185 : Int) (v1186 : Int) (v1187 : Int) (v1188 : List Int) (v1189 : Int) (v1190 : Int) (v1191 : Int) : (den TT (tabD impl_echelon_clearColumn_2_i1_tab) (tabM impl_echelon_clearColumn_2_i1_tab) (impl_echelon_clearColumn_2_i1_LO v1184 v1185 v1186 v1187 v1188 v1189 v1190 v1191) (codeOf Try.f152) ([.int .i64 v1184, .int .i64 v1185, .bptr (BR.root 0) [.fn 150 [.bptr (BR.root 1) [.int .i64 v1186, .int .i64 v1187, .bslc (BR.root 2) (.i64 v1188), .int .i64 v1189, .int .i64 v1190, .nilslc], .bptr (BR.root 3) [.int .i64 v1191]]]] ++ List.replicate (Try.f152.ntmps - ([.int .i64 v1184, .int .i64 v1185, .bptr (BR.root 0) [.fn 150 [.bptr (BR.root 1) [.int .i64 v1186, .int .i64 v1187, .bslc (BR.root 2) (.i64 v1188), .int .i64 v1189, .int .i64 v1190, .nilslc], .bptr (BR.root 3) [.int .i64 v1191]]]] : List DV).length) .undef) []).bind (retD TT Try.f152.results.toList 0) = (impl_echelon_clearColumn_2_i1_T v1184 v1185 v1187 v1188 v1191).bind fun y => .leaf (impl_echelon_clearColumn_2_i1_enc v1184 v1185 v1186 v1187 v1188 v1189 v1190 v1191 y) := by kernel_rfl
theorem impl_echelon_clearColumn_2_i1_fn (v1184 : Int) (v1185 : Int) (v1186 : Int) (v1187 : Int) (v1188 : List Int) (v1189 : Int) (v1190 : Int) (v1191 : Int) (F : Fr) (hm : F.ids.length = 0) (h0 : St F [] F.H0) (hA : DVs.Ok F [] [.int .i64 v1184, .int .i64 v1185, .bptr (BR.root 0) [.fn 150 [.bptr (BR.root 1) [.int .i64 v1186, .int .i64 v1187, .bslc (BR.root 2) (.i64 v1188), .int .i64 v1189, .int .i64 v1190, .nilslc], .bptr (BR.root 3) [.int .i64 v1191]]]]) {y : Int} (hy : impl_echelon_clearColumn_2_i1_g v1184 v1185 v1187 v1188 v1191 = some y) : ∃ H', FnOk Try.prog 152 (DVs.av F [.int .i64 v1184, .int .i64 v1185, .bptr (BR.root 0) [.fn 150 [.bptr (BR.root 1) [.int .i64 v1186, .int .i64 v1187, .bslc (BR.root 2) (.i64 v1188), .int .i64 v1189, .int .i64 v1190, .nilslc], .bptr (BR.root 3) [.int .i64 v1191]]]]) F.H0 ((impl_echelon_clearColumn_2_i1_enc v1184 v1185 v1186 v1187 v1188 v1189 v1190 v1191 y).1.av F) H' ∧ St F (impl_echelon_clearColumn_2_i1_enc v1184 v1185 v1186 v1187 v1188 v1189 v1190 v1191 y).2 H' ∧ (impl_echelon_clearColumn_2_i1_enc v1184 v1185 v1186 v1187 v1188 v1189 v1190 v1191 y).1.Ok F (impl_echelon_clearColumn_2_i1_enc v1184 v1185 v1186 v1187 v1188 v1189 v1190 v1191 y).2 :=
  fn_fin tok impl_echelon_clearColumn_2_i1_hO mixed Try.func152 Try.call152 (by kernel_rfl) (LoopsOk_eq (l := []) (by kernel_rfl) trivial) (impl_echelon_clearColumn_2_i1_den v1184 v1185 v1186 v1187 v1188 v1189 v1190 v1191) hy hm h0 hA
noncomputable def impl_echelon_clearColumn_2_i1_F : DFn := fun args L =>
  match args with
  | [.int .i64 v1184, .int .i64 v1185, a1] =>
    optT (cellsOf L 1 a1) fun cs0 =>
    (match cs0 with
    | [.fn 150 [a2, a4]] =>
    optT (cellsOf L 6 a2) fun cs1 =>
    (match cs1 with
    | [.int .i64 v1186, .int .i64 v1187, a3, .int .i64 v1189, .int .i64 v1190, .nilslc] =>
    optT (rowI64 L a3) fun v1188 =>
    optT (cellsOf L 1 a4) fun cs3 =>
    (match cs3 with
    | [.int .i64 v1191] =>
    .call (impl_echelon_clearColumn_2_i1_g v1184 v1185 v1187 v1188 v1191) fun y => .leaf (.int .i64 y, L)
    | _ => .fail)
    | _ => .fail)
    | _ => .fail)
  | _ => .fail
theorem impl_echelon_clearColumn_2_i1_Fok : COk Try.prog 152 impl_echelon_clearColumn_2_i1_F true := by
  intro F L H args r L' hs ha hr
  unfold impl_echelon_clearColumn_2_i1_F at hr
  split at hr
  · rename_i v1184 v1185 a1
    obtain ⟨cs0, hcp0, hr⟩ := optT_run hr
    split at hr
    · rename_i a2 a4
      obtain ⟨cs1, hcp1, hr⟩ := optT_run hr
      split at hr
      · rename_i v1186 v1187 a3 v1189 v1190
        obtain ⟨v1188, hv1188, hr⟩ := optT_run hr
        obtain ⟨cs3, hcp3, hr⟩ := optT_run hr
        split at hr
        · rename_i v1191
          simp only [Tree.run] at hr
          obtain ⟨y, hy, hr⟩ := Option.bind_eq_some_iff.1 hr
          simp only [Tree.run, Option.some.injEq, Prod.mk.injEq] at hr
          obtain ⟨rfl, rfl⟩ := hr
          exact call_ok0 hs (fun k => (([a1.av F, a2.av F, a3.av F, a4.av F] : List AV)[k]?).getD .top) [.int .i64 v1184, .int .i64 v1185, a1] [.int .i64 v1184, .int .i64 v1185, .bptr (BR.root 0) [.fn 150 [.bptr (BR.root 1) [.int .i64 v1186, .int .i64 v1187, .bslc (BR.root 2) (.i64 v1188), .int .i64 v1189, .int .i64 v1190, .nilslc], .bptr (BR.root 3) [.int .i64 v1191]]]] (fun F' h0 hi hρ => ⟨by simp [DVs.av, DV.av, BR.av, hρ], impl_echelon_clearColumn_2_i1_fn v1184 v1185 v1186 v1187 v1188 v1189 v1190 v1191 F' (by rw [hi]; rfl) (st_nil hi) ⟨trivial, trivial, bptr_ok hi (by rw [h0]; simpa [DVs.av, DV.av, BR.av, hρ] using (cellsOf_ok hs (DVs.okAt ha 2 rfl) hcp0).1) ⟨⟨bptr_ok hi (by rw [h0]; simpa [DVs.av, DV.av, BR.av, hρ] using (cellsOf_ok hs (DVs.okAt (DVs.okAt (cellsOf_ok hs (DVs.okAt ha 2 rfl) hcp0).2 0 rfl) 0 rfl) hcp1).1) ⟨trivial, trivial, bslc_ok hi (by rw [h0, hρ]; exact rowI64_ok hs (DVs.okAt (cellsOf_ok hs (DVs.okAt (DVs.okAt (cellsOf_ok hs (DVs.okAt ha 2 rfl) hcp0).2 0 rfl) 0 rfl) hcp1).2 2 rfl) hv1188), trivial, trivial, trivial, trivial⟩, bptr_ok hi (by rw [h0]; simpa [DVs.av, DV.av, BR.av, hρ] using (cellsOf_ok hs (DVs.okAt (DVs.okAt (cellsOf_ok hs (DVs.okAt ha 2 rfl) hcp0).2 0 rfl) 1 rfl) hcp3).1) ⟨trivial, trivial⟩, trivial⟩, trivial⟩, trivial⟩ hy⟩) rfl
        · cases hr
      · cases hr
    · cases hr
  · cases hr
/-! slices.MinFunc[list of int64,int64] -/
noncomputable def slices_MinFuncI_i1_l0_T (v1175 : List Int) (v1177 : Int) (v1178 : List Int) (v1181 : Int) (s : Int × Int) : Tree ((Int × Int) ⊕ (Int)) :=
  (.br (decide (s.2 < ((v1175.length : Nat) : Int))) (
   (.grd (inb s.2 v1175.length) <|
   (.call (impl_echelon_clearColumn_2_i1_g (nth v1175 (Int.toNat s.2)) s.1 v1177 v1178 v1181) fun v1209 =>
   (.br (decide (v1209 < (0 : Int))) (
    (.grd (inb s.2 v1175.length) <|
    .leaf (.inl (nth v1175 (Int.toNat s.2), IntKind.i64.wrap (s.2 + (1 : Int)))))
   ) (
    .leaf (.inl (s.1, IntKind.i64.wrap (s.2 + (1 : Int))))
   ))))
  ) (
   .leaf (.inr s.1)
  ))

noncomputable def slices_MinFuncI_i1_l0_g (v1175 : List Int) (v1177 : Int) (v1178 : List Int) (v1181 : Int) (s0 : Int × Int) : Option (Int) := whileM (fun s => (slices_MinFuncI_i1_l0_T v1175 v1177 v1178 v1181 s).run) s0
def slices_MinFuncI_i1_l0_E (v1175 : List Int) (v1176 : Int) (v1177 : Int) (v1178 : List Int) (v1179 : Int) (v1180 : Int) (v1181 : Int) (s : Int × Int) : Sd := ([.bslc (BR.root 0) (.i64 v1175), .fn 152 [.bptr (BR.root 1) [.fn 150 [.bptr (BR.root 2) [.int .i64 v1176, .int .i64 v1177, .bslc (BR.root 3) (.i64 v1178), .int .i64 v1179, .int .i64 v1180, .nilslc], .bptr (BR.root 4) [.int .i64 v1181]]]], .top, .top, .top, .int .i64 s.1, .int .i64 s.2, .top, .top, .top, .top, .top, .top, .top, .top, .top, .top, .top, .top, .top, .top, .top, .top, .top, .top, .top, .top, .top, .top, .top, .top, .top, .top], [])
def slices_MinFuncI_i1_l0_X (v1175 : List Int) (v1176 : Int) (v1177 : Int) (v1178 : List Int) (v1179 : Int) (v1180 : Int) (v1181 : Int) (x : Int) : Out := (.normal, [.top, .top, .top, .top, .top, .int .i64 x, .top, .top, .top, .top, .top, .top, .top, .top, .top, .top, .top, .top, .top, .top, .top, .top, .top, .top, .top, .top, .top, .top, .top, .top, .top, .top, .top], [])
def slices_MinFuncI_i1_l0_kill : List Nat := [0, 0, 1, 1, 1, 0, 0, 1, 1, 1, 1, 1, 1, 1, 1, 1, 1, 1, 1, 1, 1, 1, 1, 1, 1, 1, 1, 1, 1, 1, 1, 1, 1]
def slices_MinFuncI_i1_l0_nx : Exit → List Nat
  | .exit 0 => [1, 1, 1, 1, 1, 0, 1, 1, 1, 1, 1, 1, 1, 1, 1, 1, 1, 1, 1, 1, 1, 1, 1, 1, 1, 1, 1, 1, 1, 1, 1, 1, 1]
  | .ret => [1, 1, 1, 1, 0, 1, 1, 1, 1, 1, 1, 1, 1, 1, 1, 1, 1, 1, 1, 1, 1, 1, 1, 1, 1, 1, 1, 1, 1, 1, 1, 1, 1]
  | _ => []
noncomputable def slices_MinFuncI_i1_LO (v1175 : List Int) (v1176 : Int) (v1177 : Int) (v1178 : List Int) (v1179 : Int) (v1180 : Int) (v1181 : Int) : LOr := fun id e L =>
  match id with
  | 0 => .need (normA 0 slices_MinFuncI_i1_l0_kill e L = some (slices_MinFuncI_i1_l0_E v1175 v1176 v1177 v1178 v1179 v1180 v1181 ((gI (vAt e 5)), (gI (vAt e 6))))) (.call (slices_MinFuncI_i1_l0_g v1175 v1177 v1178 v1181 ((gI (vAt e 5)), (gI (vAt e 6)))) fun x => .leaf (slices_MinFuncI_i1_l0_X v1175 v1176 v1177 v1178 v1179 v1180 v1181 x))
  | _ => .fail
noncomputable def slices_MinFuncI_i1_tab : List (FuncId × DFn × Bool) := [(152, impl_echelon_clearColumn_2_i1_F, true)]
theorem slices_MinFuncI_i1_hO : OrcOk Try.prog (tabD slices_MinFuncI_i1_tab) (tabM slices_MinFuncI_i1_tab) := tabD_cons impl_echelon_clearColumn_2_i1_Fok (tabD_nil _)
theorem slices_MinFuncI_i1_l0_be (v1175 : List Int) (v1176 : Int) (v1177 : Int) (v1178 : List Int) (v1179 : Int) (v1180 : Int) (v1181 : Int) (s : Int × Int) : bodyT TT (tabD slices_MinFuncI_i1_tab) (tabM slices_MinFuncI_i1_tab) (slices_MinFuncI_i1_LO v1175 v1176 v1177 v1178 v1179 v1180 v1181) 0 slices_MinFuncI_i1_l0_kill slices_MinFuncI_i1_l0_nx (bodyOf Try.f151 0) 0 (slices_MinFuncI_i1_l0_E v1175 v1176 v1177 v1178 v1179 v1180 v1181 s) = (slices_MinFuncI_i1_l0_T v1175 v1177 v1178 v1181 s).bind fun y => .leaf (outS (slices_MinFuncI_i1_l0_E v1175 v1176 v1177 v1178 v1179 v1180 v1181) (slices_MinFuncI_i1_l0_X v1175 v1176 v1177 v1178 v1179 v1180 v1181) y) := by kernel_rfl
theorem slices_MinFuncI_i1_l0_ok (v1175 : List Int) (v1176 : Int) (v1177 : Int) (v1178 : List Int) (v1179 : Int) (v1180 : Int) (v1181 : Int) : LSound Try.prog 0 (slices_MinFuncI_i1_LO v1175 v1176 v1177 v1178 v1179 v1180 v1181) 0 (bodyOf Try.f151 0) := by
  intro e L out h
  exact lo_ok (E := slices_MinFuncI_i1_l0_E v1175 v1176 v1177 v1178 v1179 v1180 v1181) (gT := slices_MinFuncI_i1_l0_T v1175 v1177 v1178 v1181) (X := slices_MinFuncI_i1_l0_X v1175 v1176 v1177 v1178 v1179 v1180 v1181) (s0 := ((gI (vAt e 5)), (gI (vAt e 6)))) tok slices_MinFuncI_i1_hO mixed (LoopsOk_eq (l := []) (by kernel_rfl) trivial) (slices_MinFuncI_i1_l0_be v1175 v1176 v1177 v1178 v1179 v1180 v1181) rfl (by intro x; rfl) h
noncomputable def slices_MinFuncI_i1_T (v1175 : List Int) (v1176 : Int) (v1177 : Int) (v1178 : List Int) (v1179 : Int) (v1180 : Int) (v1181 : Int) : Tree (Int) :=
  (.br (decide (((v1175.length : Nat) : Int) < (1 : Int))) (
   .fail
  ) (
   (.grd (inb (0 : Int) v1175.length) <|
   (.need (some (slices_MinFuncI_i1_l0_E v1175 v1176 v1177 v1178 v1179 v1180 v1181 (nth v1175 (Int.toNat (0 : Int)), (1 : Int))) = some (slices_MinFuncI_i1_l0_E v1175 v1176 v1177 v1178 v1179 v1180 v1181 (nth v1175 (Int.toNat (0 : Int)), (1 : Int)))) <|
   (.call (slices_MinFuncI_i1_l0_g v1175 v1177 v1178 v1181 (nth v1175 (Int.toNat (0 : Int)), (1 : Int))) fun v1210 =>
   .leaf v1210)))
  ))

noncomputable def slices_MinFuncI_i1_g (v1175 : List Int) (v1176 : Int) (v1177 : Int) (v1178 : List Int) (v1179 : Int) (v1180 : Int) (v1181 : Int) : Option (Int) := (slices_MinFuncI_i1_T v1175 v1176 v1177 v1178 v1179 v1180 v1181).run
def slices_MinFuncI_i1_enc (v1175 : List Int) (v1176 : Int) (v1177 : Int) (v1178 : List Int) (v1179 : Int) (v1180 : Int) (v1181 : Int) (y : Int) : Rs := (.int .i64 y, [])
theorem slices_MinFuncI_i1_den (v1175 : List Int) (v1176 : Int) (v1177 : Int) (v1178 : List Int) (v1179 : Int) (v1180 : Int) (v1181 : Int) : (den TT (tabD slices_MinFuncI_i1_tab) (tabM slices_MinFuncI_i1_tab) (slices_MinFuncI_i1_LO v1175 v1176 v1177 v1178 v1179 v1180 v1181) (codeOf Try.f151) ([.bslc (BR.root 0) (.i64 v1175), .fn 152 [.bptr (BR.root 1) [.fn 150 [.bptr (BR.root 2) [.int .i64 v1176, .int .i64 v1177, .bslc (BR.root 3) (.i64 v1178), .int .i64 v1179, .int .i64 v1180, .nilslc], .bptr (BR.root 4) [.int .i64 v1181]]]]] ++ List.replicate (Try.f151.ntmps - ([.bslc (BR.root 0) (.i64 v1175), .fn 152 [.bptr (BR.root 1) [.fn 150 [.bptr (BR.root 2) [.int .i64 v1176, .int .i64 v1177, .bslc (BR.root 3) (.i64 v1178), .int .i64 v1179, .int .i64 v1180, .nilslc], .bptr (BR.root 4) [.int .i64 v1181]]]]] : List DV).length) .undef) []).bind (retD TT Try.f151.results.toList 0) = (slices_MinFuncI_i1_T v1175 v1176 v1177 v1178 v1179 v1180 v1181).bind fun y => .leaf (slices_MinFuncI_i1_enc v1175 v1176 v1177 v1178 v1179 v1180 v1181 y) := by kernel_rfl
theorem slices_MinFuncI_i1_fn (v1175 : List Int) (v1176 : Int) (v1177 : Int) (v1178 : List Int) (v1179 : Int) (v1180 : Int) (v1181 : Int) (F : Fr) (hm : F.ids.length = 0) (h0 : St F [] F.H0) (hA : DVs.Ok F [] [.bslc (BR.root 0) (.i64 v1175), .fn 152 [.bptr (BR.root 1) [.fn 150 [.bptr (BR.root 2) [.int .i64 v1176, .int .i64 v1177, .bslc (BR.root 3) (.i64 v1178), .int .i64 v1179, .int .i64 v1180, .nilslc], .bptr (BR.root 4) [.int .i64 v1181]]]]]) {y : Int} (hy : slices_MinFuncI_i1_g v1175 v1176 v1177 v1178 v1179 v1180 v1181 = some y) : ∃ H', FnOk Try.prog 151 (DVs.av F [.bslc (BR.root 0) (.i64 v1175), .fn 152 [.bptr (BR.root 1) [.fn 150 [.bptr (BR.root 2) [.int .i64 v1176, .int .i64 v1177, .bslc (BR.root 3) (.i64 v1178), .int .i64 v1179, .int .i64 v1180, .nilslc], .bptr (BR.root 4) [.int .i64 v1181]]]]]) F.H0 ((slices_MinFuncI_i1_enc v1175 v1176 v1177 v1178 v1179 v1180 v1181 y).1.av F) H' ∧ St F (slices_MinFuncI_i1_enc v1175 v1176 v1177 v1178 v1179 v1180 v1181 y).2 H' ∧ (slices_MinFuncI_i1_enc v1175 v1176 v1177 v1178 v1179 v1180 v1181 y).1.Ok F (slices_MinFuncI_i1_enc v1175 v1176 v1177 v1178 v1179 v1180 v1181 y).2 :=
  fn_fin tok slices_MinFuncI_i1_hO mixed Try.func151 Try.call151 (by kernel_rfl) (LoopsOk_eq (l := [(0, bodyOf Try.f151 0)]) (by kernel_rfl) ⟨slices_MinFuncI_i1_l0_ok v1175 v1176 v1177 v1178 v1179 v1180 v1181, trivial⟩) (slices_MinFuncI_i1_den v1175 v1176 v1177 v1178 v1179 v1180 v1181) hy hm h0 hA
noncomputable def slices_MinFuncI_i1_F : DFn := fun args L =>
  match args with
  | [a1, .fn 152 [a2]] =>
    optT (rowI64 L a1) fun v1175 =>
    optT (cellsOf L 1 a2) fun cs1 =>
    (match cs1 with
    | [.fn 150 [a3, a5]] =>
    optT (cellsOf L 6 a3) fun cs2 =>
    (match cs2 with
    | [.int .i64 v1176, .int .i64 v1177, a4, .int .i64 v1179, .int .i64 v1180, .nilslc] =>
    optT (rowI64 L a4) fun v1178 =>
    optT (cellsOf L 1 a5) fun cs4 =>
    (match cs4 with
    | [.int .i64 v1181] =>
    .call (slices_MinFuncI_i1_g v1175 v1176 v1177 v1178 v1179 v1180 v1181) fun y => .leaf (.int .i64 y, L)
    | _ => .fail)
    | _ => .fail)
    | _ => .fail)
  | _ => .fail
theorem slices_MinFuncI_i1_Fok : COk Try.prog 151 slices_MinFuncI_i1_F true := by
  intro F L H args r L' hs ha hr
  unfold slices_MinFuncI_i1_F at hr
  split at hr
  · rename_i a1 a2
    obtain ⟨v1175, hv1175, hr⟩ := optT_run hr
    obtain ⟨cs1, hcp1, hr⟩ := optT_run hr
    split at hr
    · rename_i a3 a5
      obtain ⟨cs2, hcp2, hr⟩ := optT_run hr
      split at hr
      · rename_i v1176 v1177 a4 v1179 v1180
        obtain ⟨v1178, hv1178, hr⟩ := optT_run hr
        obtain ⟨cs4, hcp4, hr⟩ := optT_run hr
        split at hr
        · rename_i v1181
          simp only [Tree.run] at hr
          obtain ⟨y, hy, hr⟩ := Option.bind_eq_some_iff.1 hr
          simp only [Tree.run, Option.some.injEq, Prod.mk.injEq] at hr
          obtain ⟨rfl, rfl⟩ := hr
          exact call_ok0 hs (fun k => (([a1.av F, a2.av F, a3.av F, a4.av F, a5.av F] : List AV)[k]?).getD .top) [a1, .fn 152 [a2]] [.bslc (BR.root 0) (.i64 v1175), .fn 152 [.bptr (BR.root 1) [.fn 150 [.bptr (BR.root 2) [.int .i64 v1176, .int .i64 v1177, .bslc (BR.root 3) (.i64 v1178), .int .i64 v1179, .int .i64 v1180, .nilslc], .bptr (BR.root 4) [.int .i64 v1181]]]]] (fun F' h0 hi hρ => ⟨by simp [DVs.av, DV.av, BR.av, hρ], slices_MinFuncI_i1_fn v1175 v1176 v1177 v1178 v1179 v1180 v1181 F' (by rw [hi]; rfl) (st_nil hi) ⟨bslc_ok hi (by rw [h0, hρ]; exact rowI64_ok hs (DVs.okAt ha 0 rfl) hv1175), ⟨bptr_ok hi (by rw [h0]; simpa [DVs.av, DV.av, BR.av, hρ] using (cellsOf_ok hs (DVs.okAt (DVs.okAt ha 1 rfl) 0 rfl) hcp1).1) ⟨⟨bptr_ok hi (by rw [h0]; simpa [DVs.av, DV.av, BR.av, hρ] using (cellsOf_ok hs (DVs.okAt (DVs.okAt (cellsOf_ok hs (DVs.okAt (DVs.okAt ha 1 rfl) 0 rfl) hcp1).2 0 rfl) 0 rfl) hcp2).1) ⟨trivial, trivial, bslc_ok hi (by rw [h0, hρ]; exact rowI64_ok hs (DVs.okAt (cellsOf_ok hs (DVs.okAt (DVs.okAt (cellsOf_ok hs (DVs.okAt (DVs.okAt ha 1 rfl) 0 rfl) hcp1).2 0 rfl) 0 rfl) hcp2).2 2 rfl) hv1178), trivial, trivial, trivial, trivial⟩, bptr_ok hi (by rw [h0]; simpa [DVs.av, DV.av, BR.av, hρ] using (cellsOf_ok hs (DVs.okAt (DVs.okAt (cellsOf_ok hs (DVs.okAt (DVs.okAt ha 1 rfl) 0 rfl) hcp1).2 0 rfl) 1 rfl) hcp4).1) ⟨trivial, trivial⟩, trivial⟩, trivial⟩, trivial⟩, trivial⟩ hy⟩) rfl
        · cases hr
      · cases hr
    · cases hr
  · cases hr
/-! (impl.Whole).swapRows -/
noncomputable def impl_Whole_swapRows_i1_l0_T (v1228 : Int) (s : Unit) : Tree ((Unit) ⊕ (Unit)) :=
  (.br (decide ((0 : Int) < v1228)) (
   .fail
  ) (
   .leaf (.inr ())
  ))

noncomputable def impl_Whole_swapRows_i1_l0_g (v1228 : Int) (s0 : Unit) : Option (Unit) := whileM (fun s => (impl_Whole_swapRows_i1_l0_T v1228 s).run) s0
def impl_Whole_swapRows_i1_l0_E (v1227 : Int) (v1228 : Int) (v1229 : Int) (v1230 : Int) (s : Unit) : Sd := ([.top, .int .i64 v1229, .int .i64 v1230, .ptr 0 (0 : Nat) 0 (3 : Nat), .top, .top, .top, .top, .top, .top, .int .i64 v1228, .int .i64 (0 : Int), .top, .top, .top, .top, .top, .top, .top, .top, .top, .top, .top, .top, .top, .top, .top, .top, .top, .top, .top, .top, .top, .top, .top, .top, .top, .top, .top, .top, .top, .top, .top, .top, .top], [.gen [.int .i64 v1227, .int .i64 v1228, .nilslc] false 0])
def impl_Whole_swapRows_i1_l0_X (v1227 : Int) (v1228 : Int) (v1229 : Int) (v1230 : Int) (x : Unit) : Out := (.normal, [.top, .top, .top, .top, .top, .top, .top, .top, .top, .top, .top, .top, .top, .top, .top, .top, .top, .top, .top, .top, .top, .top, .top, .top, .top, .top, .top, .top, .top, .top, .top, .top, .top, .top, .top, .top, .top, .top, .top, .top, .top, .top, .top, .top, .top], [])
def impl_Whole_swapRows_i1_l0_kill : List Nat := [1, 0, 0, 0, 1, 1, 1, 1, 1, 1, 0, 0, 1, 1, 1, 1, 1, 1, 1, 1, 1, 1, 1, 1, 1, 1, 1, 1, 1, 1, 1, 1, 1, 1, 1, 1, 1, 1, 1, 1, 1, 1, 1, 1, 1]
def impl_Whole_swapRows_i1_l0_nx : Exit → List Nat
  | .exit 0 => [1, 1, 1, 1, 1, 1, 1, 1, 1, 1, 1, 1, 1, 1, 1, 1, 1, 1, 1, 1, 1, 1, 1, 1, 1, 1, 1, 1, 1, 1, 1, 1, 1, 1, 1, 1, 1, 1, 1, 1, 1, 1, 1, 1, 1]
  | .ret => [1, 1, 1, 1, 1, 1, 1, 1, 1, 1, 1, 1, 1, 1, 1, 1, 1, 1, 1, 1, 1, 1, 1, 1, 1, 1, 1, 1, 1, 1, 1, 1, 1, 1, 1, 1, 1, 1, 1, 1, 1, 1, 1, 1, 1]
  | _ => []
noncomputable def impl_Whole_swapRows_i1_LO (v1227 : Int) (v1228 : Int) (v1229 : Int) (v1230 : Int) : LOr := fun id e L =>
  match id with
  | 0 => .need (normA 0 impl_Whole_swapRows_i1_l0_kill e L = some (impl_Whole_swapRows_i1_l0_E v1227 v1228 v1229 v1230 ())) (.call (impl_Whole_swapRows_i1_l0_g v1228 ()) fun x => .leaf (impl_Whole_swapRows_i1_l0_X v1227 v1228 v1229 v1230 x))
  | _ => .fail
noncomputable def impl_Whole_swapRows_i1_tab : List (FuncId × DFn × Bool) := []
theorem impl_Whole_swapRows_i1_hO : OrcOk Try.prog (tabD impl_Whole_swapRows_i1_tab) (tabM impl_Whole_swapRows_i1_tab) := tabD_nil _
theorem impl_Whole_swapRows_i1_l0_be (v1227 : Int) (v1228 : Int) (v1229 : Int) (v1230 : Int) (s : Unit) : bodyT TT (tabD impl_Whole_swapRows_i1_tab) (tabM impl_Whole_swapRows_i1_tab) (impl_Whole_swapRows_i1_LO v1227 v1228 v1229 v1230) 0 impl_Whole_swapRows_i1_l0_kill impl_Whole_swapRows_i1_l0_nx (bodyOf Try.f104 0) 0 (impl_Whole_swapRows_i1_l0_E v1227 v1228 v1229 v1230 s) = (impl_Whole_swapRows_i1_l0_T v1228 s).bind fun y => .leaf (outS (impl_Whole_swapRows_i1_l0_E v1227 v1228 v1229 v1230) (impl_Whole_swapRows_i1_l0_X v1227 v1228 v1229 v1230) y) := by kernel_rfl
theorem impl_Whole_swapRows_i1_l0_ok (v1227 : Int) (v1228 : Int) (v1229 : Int) (v1230 : Int) : LSound Try.prog 0 (impl_Whole_swapRows_i1_LO v1227 v1228 v1229 v1230) 0 (bodyOf Try.f104 0) := by
  intro e L out h
  exact lo_ok (E := impl_Whole_swapRows_i1_l0_E v1227 v1228 v1229 v1230) (gT := impl_Whole_swapRows_i1_l0_T v1228) (X := impl_Whole_swapRows_i1_l0_X v1227 v1228 v1229 v1230) (s0 := ()) tok impl_Whole_swapRows_i1_hO mixed (LoopsOk_eq (l := []) (by kernel_rfl) trivial) (impl_Whole_swapRows_i1_l0_be v1227 v1228 v1229 v1230) rfl (by intro x; rfl) h
noncomputable def impl_Whole_swapRows_i1_T (v1227 : Int) (v1228 : Int) (v1229 : Int) (v1230 : Int) : Tree (Unit) :=
  (.need (some (impl_Whole_swapRows_i1_l0_E v1227 v1228 v1229 v1230 ()) = some (impl_Whole_swapRows_i1_l0_E v1227 v1228 v1229 v1230 ())) <|
  (.call (impl_Whole_swapRows_i1_l0_g v1228 ()) fun v1232 =>
  .leaf ()))

noncomputable def impl_Whole_swapRows_i1_g (v1227 : Int) (v1228 : Int) (v1229 : Int) (v1230 : Int) : Option (Unit) := (impl_Whole_swapRows_i1_T v1227 v1228 v1229 v1230).run
def impl_Whole_swapRows_i1_enc (v1227 : Int) (v1228 : Int) (v1229 : Int) (v1230 : Int) (y : Unit) : Rs := (.tup [], [])
theorem impl_Whole_swapRows_i1_den (v1227 : Int) (v1228 : Int) (v1229 : Int) (v1230 : Int) : (den TT (tabD impl_Whole_swapRows_i1_tab) (tabM impl_Whole_swapRows_i1_tab) (impl_Whole_swapRows_i1_LO v1227 v1228 v1229 v1230) (codeOf Try.f104) ([.agg [.int .i64 v1227, .int .i64 v1228, .nilslc], .int .i64 v1229, .int .i64 v1230] ++ List.replicate (Try.f104.ntmps - ([.agg [.int .i64 v1227, .int .i64 v1228, .nilslc], .int .i64 v1229, .int .i64 v1230] : List DV).length) .undef) []).bind (retD TT Try.f104.results.toList 0) = (impl_Whole_swapRows_i1_T v1227 v1228 v1229 v1230).bind fun y => .leaf (impl_Whole_swapRows_i1_enc v1227 v1228 v1229 v1230 y) := by kernel_rfl
theorem impl_Whole_swapRows_i1_fn (v1227 : Int) (v1228 : Int) (v1229 : Int) (v1230 : Int) (F : Fr) (hm : F.ids.length = 0) (h0 : St F [] F.H0) (hA : DVs.Ok F [] [.agg [.int .i64 v1227, .int .i64 v1228, .nilslc], .int .i64 v1229, .int .i64 v1230]) {y : Unit} (hy : impl_Whole_swapRows_i1_g v1227 v1228 v1229 v1230 = some y) : ∃ H', FnOk Try.prog 104 (DVs.av F [.agg [.int .i64 v1227, .int .i64 v1228, .nilslc], .int .i64 v1229, .int .i64 v1230]) F.H0 ((impl_Whole_swapRows_i1_enc v1227 v1228 v1229 v1230 y).1.av F) H' ∧ St F (impl_Whole_swapRows_i1_enc v1227 v1228 v1229 v1230 y).2 H' ∧ (impl_Whole_swapRows_i1_enc v1227 v1228 v1229 v1230 y).1.Ok F (impl_Whole_swapRows_i1_enc v1227 v1228 v1229 v1230 y).2 :=
  fn_fin tok impl_Whole_swapRows_i1_hO mixed Try.func104 Try.call104 (by kernel_rfl) (LoopsOk_eq (l := [(0, bodyOf Try.f104 0)]) (by kernel_rfl) ⟨impl_Whole_swapRows_i1_l0_ok v1227 v1228 v1229 v1230, trivial⟩) (impl_Whole_swapRows_i1_den v1227 v1228 v1229 v1230) hy hm h0 hA
noncomputable def impl_Whole_swapRows_i1_F : DFn := fun args L =>
  match args with
  | [.agg [.int .i64 v1227, .int .i64 v1228, .nilslc], .int .i64 v1229, .int .i64 v1230] =>
    .call (impl_Whole_swapRows_i1_g v1227 v1228 v1229 v1230) fun y => .leaf (.tup [], L)
  | _ => .fail
theorem impl_Whole_swapRows_i1_Fok : COk Try.prog 104 impl_Whole_swapRows_i1_F true := by
  intro F L H args r L' hs ha hr
  unfold impl_Whole_swapRows_i1_F at hr
  split at hr
  · rename_i v1227 v1228 v1229 v1230
    simp only [Tree.run] at hr
    obtain ⟨y, hy, hr⟩ := Option.bind_eq_some_iff.1 hr
    simp only [Tree.run, Option.some.injEq, Prod.mk.injEq] at hr
    obtain ⟨rfl, rfl⟩ := hr
    exact call_ok0 hs (fun k => (([] : List AV)[k]?).getD .top) [.agg [.int .i64 v1227, .int .i64 v1228, .nilslc], .int .i64 v1229, .int .i64 v1230] [.agg [.int .i64 v1227, .int .i64 v1228, .nilslc], .int .i64 v1229, .int .i64 v1230] (fun F' h0 hi hρ => ⟨by simp [DVs.av, DV.av, BR.av, hρ], impl_Whole_swapRows_i1_fn v1227 v1228 v1229 v1230 F' (by rw [hi]; rfl) (st_nil hi) ⟨⟨trivial, trivial, trivial, trivial⟩, trivial, trivial, trivial⟩ hy⟩) rfl
  · cases hr
/-! (impl.echelon).swap -/
noncomputable def impl_echelon_swap_i1_LO (v1219 : Int) (v1220 : Int) (v1221 : List Int) (v1222 : Int) (v1223 : Int) (v1224 : Int) (v1225 : Int) : LOr := fun id e L =>
  match id with
  | _ => .fail
noncomputable def impl_echelon_swap_i1_tab : List (FuncId × DFn × Bool) := [(104, (orD (fun args => match args with | [.agg [_, _, .nilslc], _, _] => true | _ => false) impl_Whole_swapRows_i1_F impl_Whole_swapRows_F), false)]
theorem impl_echelon_swap_i1_hO : OrcOk Try.prog (tabD impl_echelon_swap_i1_tab) (tabM impl_echelon_swap_i1_tab) := tabD_cons (orD_ok (COk.weak impl_Whole_swapRows_i1_Fok) impl_Whole_swapRows_Fok) (tabD_nil _)
noncomputable def impl_echelon_swap_i1_T (v1219 : Int) (v1220 : Int) (v1221 : List Int) (v1222 : Int) (v1223 : Int) (v1224 : Int) (v1225 : Int) : Tree ((List Int)) :=
  (.call (impl_Whole_swapRows_g v1219 v1220 v1221 v1224 v1225) fun v1226 =>
  (.grd (decide (v1226.length = v1221.length)) <|
  (.call (impl_Whole_swapRows_i1_g v1222 v1223 v1224 v1225) fun v1233 =>
  .leaf v1226)))

noncomputable def impl_echelon_swap_i1_g (v1219 : Int) (v1220 : Int) (v1221 : List Int) (v1222 : Int) (v1223 : Int) (v1224 : Int) (v1225 : Int) : Option ((List Int)) := (impl_echelon_swap_i1_T v1219 v1220 v1221 v1222 v1223 v1224 v1225).run
def impl_echelon_swap_i1_enc (v1219 : Int) (v1220 : Int) (v1221 : List Int) (v1222 : Int) (v1223 : Int) (v1224 : Int) (v1225 : Int) (y : (List Int)) : Rs := (.tup [], [.row (.i64 y) 0])
theorem impl_echelon_swap_i1_den (v1219 : Int) (v1220 : Int) (v1221 : List Int) (v1222 : Int) (v1223 : Int) (v1224 : Int) (v1225 : Int) : (den TT (tabD impl_echelon_swap_i1_tab) (tabM impl_echelon_swap_i1_tab) (impl_echelon_swap_i1_LO v1219 v1220 v1221 v1222 v1223 v1224 v1225) (codeOf Try.f113) ([.agg [.int .i64 v1219, .int .i64 v1220, .own 0 0 v1221.length, .int .i64 v1222, .int .i64 v1223, .nilslc], .int .i64 v1224, .int .i64 v1225] ++ List.replicate (Try.f113.ntmps - ([.agg [.int .i64 v1219, .int .i64 v1220, .own 0 0 v1221.length, .int .i64 v1222, .int .i64 v1223, .nilslc], .int .i64 v1224, .int .i64 v1225] : List DV).length) .undef) [.row (.i64 v1221) 0]).bind (retD TT Try.f113.results.toList 1) = (impl_echelon_swap_i1_T v1219 v1220 v1221 v1222 v1223 v1224 v1225).bind fun y => .leaf (impl_echelon_swap_i1_enc v1219 v1220 v1221 v1222 v1223 v1224 v1225 y) := by kernel_rfl
theorem impl_echelon_swap_i1_fn (v1219 : Int) (v1220 : Int) (v1221 : List Int) (v1222 : Int) (v1223 : Int) (v1224 : Int) (v1225 : Int) (F : Fr) (hm : F.ids.length = 1) (h0 : St F [.row (.i64 v1221) 0] F.H0) (hA : DVs.Ok F [.row (.i64 v1221) 0] [.agg [.int .i64 v1219, .int .i64 v1220, .own 0 0 v1221.length, .int .i64 v1222, .int .i64 v1223, .nilslc], .int .i64 v1224, .int .i64 v1225]) {y : (List Int)} (hy : impl_echelon_swap_i1_g v1219 v1220 v1221 v1222 v1223 v1224 v1225 = some y) : ∃ H', FnOk Try.prog 113 (DVs.av F [.agg [.int .i64 v1219, .int .i64 v1220, .own 0 0 v1221.length, .int .i64 v1222, .int .i64 v1223, .nilslc], .int .i64 v1224, .int .i64 v1225]) F.H0 ((impl_echelon_swap_i1_enc v1219 v1220 v1221 v1222 v1223 v1224 v1225 y).1.av F) H' ∧ St F (impl_echelon_swap_i1_enc v1219 v1220 v1221 v1222 v1223 v1224 v1225 y).2 H' ∧ (impl_echelon_swap_i1_enc v1219 v1220 v1221 v1222 v1223 v1224 v1225 y).1.Ok F (impl_echelon_swap_i1_enc v1219 v1220 v1221 v1222 v1223 v1224 v1225 y).2 :=
  fn_fin tok impl_echelon_swap_i1_hO mixed Try.func113 Try.call113 (by kernel_rfl) (LoopsOk_eq (l := []) (by kernel_rfl) trivial) (impl_echelon_swap_i1_den v1219 v1220 v1221 v1222 v1223 v1224 v1225) hy hm h0 hA
noncomputable def impl_echelon_swap_i1_F : DFn := fun args L =>
  match args with
  | [.agg [.int .i64 v1219, .int .i64 v1220, a1, .int .i64 v1222, .int .i64 v1223, .nilslc], .int .i64 v1224, .int .i64 v1225] =>
    optT (ownI64 L a1) fun qv1221 =>
    (match sepB [qv1221.1] [] with
    | true =>
    .call (impl_echelon_swap_i1_g v1219 v1220 qv1221.2 v1222 v1223 v1224 v1225) fun y => .grd (decide (y.length = qv1221.2.length)) (.leaf (.tup [], setRows L ([qv1221.1].zip [.i64 y])))
    | false => .fail)
  | _ => .fail
theorem impl_echelon_swap_i1_Fok : COk Try.prog 113 impl_echelon_swap_i1_F false := by
  intro F L H args r L' hs ha hr
  unfold impl_echelon_swap_i1_F at hr
  split at hr
  · rename_i v1219 v1220 a1 v1222 v1223 v1224 v1225
    obtain ⟨⟨jv1221, v1221⟩, hqv1221, hr⟩ := optT_run hr
    simp only at hr
    split at hr
    · rename_i hsep
      obtain ⟨hnd, hsepv⟩ := sepB_spec hsep
      simp only [Tree.run] at hr
      obtain ⟨y, hy, hr⟩ := Option.bind_eq_some_iff.1 hr
      try simp only [Tree.run] at hr
      obtain ⟨hl0, hr⟩ := ite_run hr
      simp only [Option.some.injEq, Prod.mk.injEq] at hr
      obtain ⟨rfl, rfl⟩ := hr
      obtain ⟨hr0, hu0, ha0, hb0⟩ := (ownR_spec (DVs.okAt (DVs.okAt ha 0 rfl) 2 rfl) (ownI64_or hqv1221))
      exact mut_ok hs (fun k => (([a1.av F] : List AV)[k]?).getD .top) [.agg [.int .i64 v1219, .int .i64 v1220, a1, .int .i64 v1222, .int .i64 v1223, .nilslc], .int .i64 v1224, .int .i64 v1225] [.agg [.int .i64 v1219, .int .i64 v1220, .own 0 0 v1221.length, .int .i64 v1222, .int .i64 v1223, .nilslc], .int .i64 v1224, .int .i64 v1225] [jv1221] [.i64 v1221] [.i64 y] hnd rfl rfl (fun i j q h1 h2 => by
          rcases i with _ | i
          · simp at h1 h2; subst h1; subst h2; exact hr0
          · simp at h1) (fun i q q' h1 h2 => by
          rcases i with _ | i
          · simp at h1 h2; subst h1; subst h2; exact of_decide_eq_true hl0
          · simp at h1) (fun j hj => by simp at hj; subst hj; simp [DVs.refs, DV.refs, hu0]) (fun F' h0 hi hρ hst hS => ⟨by (have ab0 : F'.abs 0 = F.abs jv1221 := (by simp [Fr.abs, hi]); simp [DVs.av, DV.av, BR.av, hρ, Row.len, ha0, ab0]), by
          obtain ⟨H1, k1, k2, _⟩ := impl_echelon_swap_i1_fn v1219 v1220 v1221 v1222 v1223 v1224 v1225 F' (by rw [hi]; rfl) hst ⟨⟨trivial, trivial, ⟨_, rfl, Nat.le_refl _, Nat.le_refl _, fun _ => rfl, (ownR_spec (DVs.okAt (DVs.okAt ha 0 rfl) 2 rfl) (ownI64_or hqv1221)).2.2.2⟩, trivial, trivial, trivial, trivial⟩, trivial, trivial, trivial⟩ hy
          exact ⟨H1, k1, k2⟩⟩) (fun F' => rfl) (fun L' => trivial)
    · cases hr
  · cases hr
/-! (impl.Whole).takeRow -/
noncomputable def impl_Whole_takeRow_i1_l0_T (v1267 : Int) (s : Unit) : Tree ((Unit) ⊕ (Unit)) :=
  (.br (decide ((0 : Int) < v1267)) (
   .fail
  ) (
   .leaf (.inr ())
  ))

noncomputable def impl_Whole_takeRow_i1_l0_g (v1267 : Int) (s0 : Unit) : Option (Unit) := whileM (fun s => (impl_Whole_takeRow_i1_l0_T v1267 s).run) s0
def impl_Whole_takeRow_i1_l0_E (v1266 : Int) (v1267 : Int) (v1268 : Int) (v1269 : Int) (v1270 : Int) (s : Unit) : Sd := ([.top, .int .i64 v1268, .int .i64 v1269, .int .i64 v1270, .ptr 0 (0 : Nat) 0 (3 : Nat), .top, .top, .top, .top, .top, .int .i64 v1267, .int .i64 (0 : Int), .top, .top, .top, .top, .top, .top, .top, .top, .top, .top, .top, .top, .top, .top, .top, .top, .top, .top, .top, .top, .top], [.gen [.int .i64 v1266, .int .i64 v1267, .nilslc] false 0])
def impl_Whole_takeRow_i1_l0_X (v1266 : Int) (v1267 : Int) (v1268 : Int) (v1269 : Int) (v1270 : Int) (x : Unit) : Out := (.normal, [.top, .top, .top, .top, .top, .top, .top, .top, .top, .top, .top, .top, .top, .top, .top, .top, .top, .top, .top, .top, .top, .top, .top, .top, .top, .top, .top, .top, .top, .top, .top, .top, .top], [])
def impl_Whole_takeRow_i1_l0_kill : List Nat := [1, 0, 0, 0, 0, 1, 1, 1, 1, 1, 0, 0, 1, 1, 1, 1, 1, 1, 1, 1, 1, 1, 1, 1, 1, 1, 1, 1, 1, 1, 1, 1, 1]
def impl_Whole_takeRow_i1_l0_nx : Exit → List Nat
  | .exit 0 => [1, 1, 1, 1, 1, 1, 1, 1, 1, 1, 1, 1, 1, 1, 1, 1, 1, 1, 1, 1, 1, 1, 1, 1, 1, 1, 1, 1, 1, 1, 1, 1, 1]
  | .ret => [1, 1, 1, 1, 1, 1, 1, 1, 1, 1, 1, 1, 1, 1, 1, 1, 1, 1, 1, 1, 1, 1, 1, 1, 1, 1, 1, 1, 1, 1, 1, 1, 1]
  | _ => []
noncomputable def impl_Whole_takeRow_i1_LO (v1266 : Int) (v1267 : Int) (v1268 : Int) (v1269 : Int) (v1270 : Int) : LOr := fun id e L =>
  match id with
  | 0 => .need (normA 0 impl_Whole_takeRow_i1_l0_kill e L = some (impl_Whole_takeRow_i1_l0_E v1266 v1267 v1268 v1269 v1270 ())) (.call (impl_Whole_takeRow_i1_l0_g v1267 ()) fun x => .leaf (impl_Whole_takeRow_i1_l0_X v1266 v1267 v1268 v1269 v1270 x))
  | _ => .fail
noncomputable def impl_Whole_takeRow_i1_tab : List (FuncId × DFn × Bool) := []
theorem impl_Whole_takeRow_i1_hO : OrcOk Try.prog (tabD impl_Whole_takeRow_i1_tab) (tabM impl_Whole_takeRow_i1_tab) := tabD_nil _
theorem impl_Whole_takeRow_i1_l0_be (v1266 : Int) (v1267 : Int) (v1268 : Int) (v1269 : Int) (v1270 : Int) (s : Unit) : bodyT TT (tabD impl_Whole_takeRow_i1_tab) (tabM impl_Whole_takeRow_i1_tab) (impl_Whole_takeRow_i1_LO v1266 v1267 v1268 v1269 v1270) 0 impl_Whole_takeRow_i1_l0_kill impl_Whole_takeRow_i1_l0_nx (bodyOf Try.f101 0) 0 (impl_Whole_takeRow_i1_l0_E v1266 v1267 v1268 v1269 v1270 s) = (impl_Whole_takeRow_i1_l0_T v1267 s).bind fun y => .leaf (outS (impl_Whole_takeRow_i1_l0_E v1266 v1267 v1268 v1269 v1270) (impl_Whole_takeRow_i1_l0_X v1266 v1267 v1268 v1269 v1270) y) := by kernel_rfl
theorem impl_Whole_takeRow_i1_l0_ok (v1266 : Int) (v1267 : Int) (v1268 : Int) (v1269 : Int) (v1270 : Int) : LSound Try.prog 0 (impl_Whole_takeRow_i1_LO v1266 v1267 v1268 v1269 v1270) 0 (bodyOf Try.f101 0) := by
  intro e L out h
  exact lo_ok (E := impl_Whole_takeRow_i1_l0_E v1266 v1267 v1268 v1269 v1270) (gT := impl_Whole_takeRow_i1_l0_T v1267) (X := impl_Whole_takeRow_i1_l0_X v1266 v1267 v1268 v1269 v1270) (s0 := ()) tok impl_Whole_takeRow_i1_hO mixed (LoopsOk_eq (l := []) (by kernel_rfl) trivial) (impl_Whole_takeRow_i1_l0_be v1266 v1267 v1268 v1269 v1270) rfl (by intro x; rfl) h
noncomputable def impl_Whole_takeRow_i1_T (v1266 : Int) (v1267 : Int) (v1268 : Int) (v1269 : Int) (v1270 : Int) : Tree (Unit) :=
  (.need (some (impl_Whole_takeRow_i1_l0_E v1266 v1267 v1268 v1269 v1270 ()) = some (impl_Whole_takeRow_i1_l0_E v1266 v1267 v1268 v1269 v1270 ())) <|
  (.call (impl_Whole_takeRow_i1_l0_g v1267 ()) fun v1272 =>
  .leaf ()))

noncomputable def impl_Whole_takeRow_i1_g (v1266 : Int) (v1267 : Int) (v1268 : Int) (v1269 : Int) (v1270 : Int) : Option (Unit) := (impl_Whole_takeRow_i1_T v1266 v1267 v1268 v1269 v1270).run
def impl_Whole_takeRow_i1_enc (v1266 : Int) (v1267 : Int) (v1268 : Int) (v1269 : Int) (v1270 : Int) (y : Unit) : Rs := (.tup [], [])
theorem impl_Whole_takeRow_i1_den (v1266 : Int) (v1267 : Int) (v1268 : Int) (v1269 : Int) (v1270 : Int) : (den TT (tabD impl_Whole_takeRow_i1_tab) (tabM impl_Whole_takeRow_i1_tab) (impl_Whole_takeRow_i1_LO v1266 v1267 v1268 v1269 v1270) (codeOf Try.f101) ([.agg [.int .i64 v1266, .int .i64 v1267, .nilslc], .int .i64 v1268, .int .i64 v1269, .int .i64 v1270] ++ List.replicate (Try.f101.ntmps - ([.agg [.int .i64 v1266, .int .i64 v1267, .nilslc], .int .i64 v1268, .int .i64 v1269, .int .i64 v1270] : List DV).length) .undef) []).bind (retD TT Try.f101.results.toList 0) = (impl_Whole_takeRow_i1_T v1266 v1267 v1268 v1269 v1270).bind fun y => .leaf (impl_Whole_takeRow_i1_enc v1266 v1267 v1268 v1269 v1270 y) := by kernel_rfl
theorem impl_Whole_takeRow_i1_fn (v1266 : Int) (v1267 : Int) (v1268 : Int) (v1269 : Int) (v1270 : Int) (F : Fr) (hm : F.ids.length = 0) (h0 : St F [] F.H0) (hA : DVs.Ok F [] [.agg [.int .i64 v1266, .int .i64 v1267, .nilslc], .int .i64 v1268, .int .i64 v1269, .int .i64 v1270]) {y : Unit} (hy : impl_Whole_takeRow_i1_g v1266 v1267 v1268 v1269 v1270 = some y) : ∃ H', FnOk Try.prog 101 (DVs.av F [.agg [.int .i64 v1266, .int .i64 v1267, .nilslc], .int .i64 v1268, .int .i64 v1269, .int .i64 v1270]) F.H0 ((impl_Whole_takeRow_i1_enc v1266 v1267 v1268 v1269 v1270 y).1.av F) H' ∧ St F (impl_Whole_takeRow_i1_enc v1266 v1267 v1268 v1269 v1270 y).2 H' ∧ (impl_Whole_takeRow_i1_enc v1266 v1267 v1268 v1269 v1270 y).1.Ok F (impl_Whole_takeRow_i1_enc v1266 v1267 v1268 v1269 v1270 y).2 :=
  fn_fin tok impl_Whole_takeRow_i1_hO mixed Try.func101 Try.call101 (by kernel_rfl) (LoopsOk_eq (l := [(0, bodyOf Try.f101 0)]) (by kernel_rfl) ⟨impl_Whole_takeRow_i1_l0_ok v1266 v1267 v1268 v1269 v1270, trivial⟩) (impl_Whole_takeRow_i1_den v1266 v1267 v1268 v1269 v1270) hy hm h0 hA
noncomputable def impl_Whole_takeRow_i1_F : DFn := fun args L =>
  match args with
  | [.agg [.int .i64 v1266, .int .i64 v1267, .nilslc], .int .i64 v1268, .int .i64 v1269, .int .i64 v1270] =>
    .call (impl_Whole_takeRow_i1_g v1266 v1267 v1268 v1269 v1270) fun y => .leaf (.tup [], L)
  | _ => .fail
theorem impl_Whole_takeRow_i1_Fok : COk Try.prog 101 impl_Whole_takeRow_i1_F true := by
  intro F L H args r L' hs ha hr
  unfold impl_Whole_takeRow_i1_F at hr
  split at hr
  · rename_i v1266 v1267 v1268 v1269 v1270
    simp only [Tree.run] at hr
    obtain ⟨y, hy, hr⟩ := Option.bind_eq_some_iff.1 hr
    simp only [Tree.run, Option.some.injEq, Prod.mk.injEq] at hr
    obtain ⟨rfl, rfl⟩ := hr
    exact call_ok0 hs (fun k => (([] : List AV)[k]?).getD .top) [.agg [.int .i64 v1266, .int .i64 v1267, .nilslc], .int .i64 v1268, .int .i64 v1269, .int .i64 v1270] [.agg [.int .i64 v1266, .int .i64 v1267, .nilslc], .int .i64 v1268, .int .i64 v1269, .int .i64 v1270] (fun F' h0 hi hρ => ⟨by simp [DVs.av, DV.av, BR.av, hρ], impl_Whole_takeRow_i1_fn v1266 v1267 v1268 v1269 v1270 F' (by rw [hi]; rfl) (st_nil hi) ⟨⟨trivial, trivial, trivial, trivial⟩, trivial, trivial, trivial, trivial⟩ hy⟩) rfl
  · cases hr
/-! (impl.echelon).take -/
noncomputable def impl_echelon_take_i1_LO (v1257 : Int) (v1258 : Int) (v1259 : List Int) (v1260 : Int) (v1261 : Int) (v1262 : Int) (v1263 : Int) (v1264 : Int) : LOr := fun id e L =>
  match id with
  | _ => .fail
noncomputable def impl_echelon_take_i1_tab : List (FuncId × DFn × Bool) := [(101, (orD (fun args => match args with | [.agg [_, _, .nilslc], _, _, _] => true | _ => false) impl_Whole_takeRow_i1_F impl_Whole_takeRow_F), false), (65, impl_ValidWhole_F, true)]
theorem impl_echelon_take_i1_hO : OrcOk Try.prog (tabD impl_echelon_take_i1_tab) (tabM impl_echelon_take_i1_tab) := tabD_cons (orD_ok (COk.weak impl_Whole_takeRow_i1_Fok) impl_Whole_takeRow_Fok) (tabD_cons impl_ValidWhole_Fok (tabD_nil _))
noncomputable def impl_echelon_take_i1_T (v1257 : Int) (v1258 : Int) (v1259 : List Int) (v1260 : Int) (v1261 : Int) (v1262 : Int) (v1263 : Int) (v1264 : Int) : Tree (Bool × (List Int)) :=
  (.call (impl_Whole_takeRow_g v1257 v1258 v1259 v1262 v1263 v1264) fun v1265 =>
  (.grd (decide (v1265.length = v1259.length)) <|
  (.call (impl_Whole_takeRow_i1_g v1260 v1261 v1262 v1263 v1264) fun v1273 =>
  (.call (impl_ValidWhole_g v1257 v1258 v1265) fun v1274 =>
  (.br v1274 (
   (.call (impl_ValidWhole_g v1260 v1261 ([] : List Int)) fun v1275 =>
   .leaf (v1275, v1265))
  ) (
   .leaf (false, v1265)
  ))))))

noncomputable def impl_echelon_take_i1_g (v1257 : Int) (v1258 : Int) (v1259 : List Int) (v1260 : Int) (v1261 : Int) (v1262 : Int) (v1263 : Int) (v1264 : Int) : Option (Bool × (List Int)) := (impl_echelon_take_i1_T v1257 v1258 v1259 v1260 v1261 v1262 v1263 v1264).run
def impl_echelon_take_i1_enc (v1257 : Int) (v1258 : Int) (v1259 : List Int) (v1260 : Int) (v1261 : Int) (v1262 : Int) (v1263 : Int) (v1264 : Int) (y : Bool × (List Int)) : Rs := (.bool y.1, [.row (.i64 y.2) 0])
theorem impl_echelon_take_i1_den (v1257 : Int) (v1258 : Int) (v1259 : List Int) (v1260 : Int) (v1261 : Int) (v1262 : Int) (v1263 : Int) (v1264 : Int) : (den TT (tabD impl_echelon_take_i1_tab) (tabM impl_echelon_take_i1_tab) (impl_echelon_take_i1_LO v1257 v1258 v1259 v1260 v1261 v1262 v1263 v1264) (codeOf Try.f115) ([.agg [.int .i64 v1257, .int .i64 v1258, .own 0 0 v1259.length, .int .i64 v1260, .int .i64 v1261, .nilslc], .int .i64 v1262, .int .i64 v1263, .int .i64 v1264] ++ List.replicate (Try.f115.ntmps - ([.agg [.int .i64 v1257, .int .i64 v1258, .own 0 0 v1259.length, .int .i64 v1260, .int .i64 v1261, .nilslc], .int .i64 v1262, .int .i64 v1263, .int .i64 v1264] : List DV).length) .undef) [.row (.i64 v1259) 0]).bind (retD TT Try.f115.results.toList 1) = (impl_echelon_take_i1_T v1257 v1258 v1259 v1260 v1261 v1262 v1263 v1264).bind fun y => .leaf (impl_echelon_take_i1_enc v1257 v1258 v1259 v1260 v1261 v1262 v1263 v1264 y) := by kernel_rfl
theorem impl_echelon_take_i1_fn (v1257 : Int) (v1258 : Int) (v1259 : List Int) (v1260 : Int) (v1261 : Int) (v1262 : Int) (v1263 : Int) (v1264 : Int) (F : Fr) (hm : F.ids.length = 1) (h0 : St F [.row (.i64 v1259) 0] F.H0) (hA : DVs.Ok F [.row (.i64 v1259) 0] [.agg [.int .i64 v1257, .int .i64 v1258, .own 0 0 v1259.length, .int .i64 v1260, .int .i64 v1261, .nilslc], .int .i64 v1262, .int .i64 v1263, .int .i64 v1264]) {y : Bool × (List Int)} (hy : impl_echelon_take_i1_g v1257 v1258 v1259 v1260 v1261 v1262 v1263 v1264 = some y) : ∃ H', FnOk Try.prog 115 (DVs.av F [.agg [.int .i64 v1257, .int .i64 v1258, .own 0 0 v1259.length, .int .i64 v1260, .int .i64 v1261, .nilslc], .int .i64 v1262, .int .i64 v1263, .int .i64 v1264]) F.H0 ((impl_echelon_take_i1_enc v1257 v1258 v1259 v1260 v1261 v1262 v1263 v1264 y).1.av F) H' ∧ St F (impl_echelon_take_i1_enc v1257 v1258 v1259 v1260 v1261 v1262 v1263 v1264 y).2 H' ∧ (impl_echelon_take_i1_enc v1257 v1258 v1259 v1260 v1261 v1262 v1263 v1264 y).1.Ok F (impl_echelon_take_i1_enc v1257 v1258 v1259 v1260 v1261 v1262 v1263 v1264 y).2 :=
  fn_fin tok impl_echelon_take_i1_hO mixed Try.func115 Try.call115 (by kernel_rfl) (LoopsOk_eq (l := []) (by kernel_rfl) trivial) (impl_echelon_take_i1_den v1257 v1258 v1259 v1260 v1261 v1262 v1263 v1264) hy hm h0 hA
noncomputable def impl_echelon_take_i1_F : DFn := fun args L =>
  match args with
  | [.agg [.int .i64 v1257, .int .i64 v1258, a1, .int .i64 v1260, .int .i64 v1261, .nilslc], .int .i64 v1262, .int .i64 v1263, .int .i64 v1264] =>
    optT (ownI64 L a1) fun qv1259 =>
    (match sepB [qv1259.1] [] with
    | true =>
    .call (impl_echelon_take_i1_g v1257 v1258 qv1259.2 v1260 v1261 v1262 v1263 v1264) fun y => .grd (decide (y.2.length = qv1259.2.length)) (.leaf (.bool y.1, setRows L ([qv1259.1].zip [.i64 y.2])))
    | false => .fail)
  | _ => .fail
theorem impl_echelon_take_i1_Fok : COk Try.prog 115 impl_echelon_take_i1_F false := by
  intro F L H args r L' hs ha hr
  unfold impl_echelon_take_i1_F at hr
  split at hr
  · rename_i v1257 v1258 a1 v1260 v1261 v1262 v1263 v1264
    obtain ⟨⟨jv1259, v1259⟩, hqv1259, hr⟩ := optT_run hr
    simp only at hr
    split at hr
    · rename_i hsep
      obtain ⟨hnd, hsepv⟩ := sepB_spec hsep
      simp only [Tree.run] at hr
      obtain ⟨y, hy, hr⟩ := Option.bind_eq_some_iff.1 hr
      try simp only [Tree.run] at hr
      obtain ⟨hl0, hr⟩ := ite_run hr
      simp only [Option.some.injEq, Prod.mk.injEq] at hr
      obtain ⟨rfl, rfl⟩ := hr
      obtain ⟨hr0, hu0, ha0, hb0⟩ := (ownR_spec (DVs.okAt (DVs.okAt ha 0 rfl) 2 rfl) (ownI64_or hqv1259))
      exact mut_ok hs (fun k => (([a1.av F] : List AV)[k]?).getD .top) [.agg [.int .i64 v1257, .int .i64 v1258, a1, .int .i64 v1260, .int .i64 v1261, .nilslc], .int .i64 v1262, .int .i64 v1263, .int .i64 v1264] [.agg [.int .i64 v1257, .int .i64 v1258, .own 0 0 v1259.length, .int .i64 v1260, .int .i64 v1261, .nilslc], .int .i64 v1262, .int .i64 v1263, .int .i64 v1264] [jv1259] [.i64 v1259] [.i64 y.2] hnd rfl rfl (fun i j q h1 h2 => by
          rcases i with _ | i
          · simp at h1 h2; subst h1; subst h2; exact hr0
          · simp at h1) (fun i q q' h1 h2 => by
          rcases i with _ | i
          · simp at h1 h2; subst h1; subst h2; exact of_decide_eq_true hl0
          · simp at h1) (fun j hj => by simp at hj; subst hj; simp [DVs.refs, DV.refs, hu0]) (fun F' h0 hi hρ hst hS => ⟨by (have ab0 : F'.abs 0 = F.abs jv1259 := (by simp [Fr.abs, hi]); simp [DVs.av, DV.av, BR.av, hρ, Row.len, ha0, ab0]), by
          obtain ⟨H1, k1, k2, _⟩ := impl_echelon_take_i1_fn v1257 v1258 v1259 v1260 v1261 v1262 v1263 v1264 F' (by rw [hi]; rfl) hst ⟨⟨trivial, trivial, ⟨_, rfl, Nat.le_refl _, Nat.le_refl _, fun _ => rfl, (ownR_spec (DVs.okAt (DVs.okAt ha 0 rfl) 2 rfl) (ownI64_or hqv1259)).2.2.2⟩, trivial, trivial, trivial, trivial⟩, trivial, trivial, trivial, trivial⟩ hy
          exact ⟨H1, k1, k2⟩⟩) (fun F' => rfl) (fun L' => trivial)
    · cases hr
  · cases hr
/-! (impl.echelon).clearColumn -/
noncomputable def impl_echelon_clearColumn_i1_l2_T (v1234 : Int) (v1235 : Int) (v1237 : Int) (v1238 : Int) (v1239 : Int) (v1240 : Int) (s : Int × (List Int)) : Tree ((Int × (List Int)) ⊕ (((List Int)) ⊕ ((List Int)))) :=
  (.br (decide (s.1 < v1234)) (
   (.call (impl_Whole_at_g v1235 s.2 s.1 v1240) fun v1335 =>
   (.call (impl_Whole_at_g v1235 s.2 v1239 v1240) fun v1336 =>
   (.call (impl_floorDiv_g v1335 v1336) fun v1337 =>
   (.call (impl_echelon_take_i1_g v1234 v1235 s.2 v1237 v1238 s.1 v1239 v1337) fun v1338 =>
   (.grd (decide (v1338.2.length = s.2.length)) <|
   (.br (!v1338.1) (
    .leaf (.inr (.inl v1338.2))
   ) (
    .leaf (.inl (IntKind.i64.wrap (s.1 + (1 : Int)), v1338.2))
   )))))))
  ) (
   .leaf (.inr (.inr s.2))
  ))

noncomputable def impl_echelon_clearColumn_i1_l2_g (v1234 : Int) (v1235 : Int) (v1237 : Int) (v1238 : Int) (v1239 : Int) (v1240 : Int) (s0 : Int × (List Int)) : Option (((List Int)) ⊕ ((List Int))) := whileM (fun s => (impl_echelon_clearColumn_i1_l2_T v1234 v1235 v1237 v1238 v1239 v1240 s).run) s0
def impl_echelon_clearColumn_i1_l2_E (v1234 : Int) (v1235 : Int) (v1236 : List Int) (v1237 : Int) (v1238 : Int) (v1239 : Int) (v1240 : Int) (s : Int × (List Int)) : Sd := ([.top, .int .i64 v1239, .top, .ptr 1 (0 : Nat) 0 (6 : Nat), .top, .ptr 2 (0 : Nat) 0 (1 : Nat), .top, .ptr 3 (0 : Nat) 0 (1 : Nat), .top, .int .i64 s.1, .top, .top, .top, .top, .top, .top, .top, .top, .top, .top, .top, .top, .top, .top, .top, .top, .top, .top, .top, .top, .top, .top, .top, .top, .top, .top, .top, .top, .top, .top, .top, .top, .top, .top, .top, .top, .top, .top, .top, .top], [.row (.i64 s.2) 0, .gen [.int .i64 v1234, .int .i64 v1235, .own 0 0 ((s.2).length), .int .i64 v1237, .int .i64 v1238, .nilslc] false 0, .gen [.int .i64 v1240] true 0, .gen [.fn 150 [.ptr 1 (0 : Nat) 0 (6 : Nat), .ptr 2 (0 : Nat) 0 (1 : Nat)]] false 0])
def impl_echelon_clearColumn_i1_l2_X (v1234 : Int) (v1235 : Int) (v1236 : List Int) (v1237 : Int) (v1238 : Int) (v1239 : Int) (v1240 : Int) (x : ((List Int)) ⊕ ((List Int))) : Out := (match x with | .inl x => (.ret, [.top, .top, .top, .top, .top, .top, .lit false, .top, .top, .top, .top, .top, .top, .top, .top, .top, .top, .top, .top, .top, .top, .top, .top, .top, .top, .top, .top, .top, .top, .top, .top, .top, .top, .top, .top, .top, .top, .top, .top, .top, .top, .top, .top, .top, .top, .top, .top, .top, .top, .top], [.row (.i64 x) 0]) | .inr x => (.normal, [.top, .int .i64 v1239, .top, .ptr 1 (0 : Nat) 0 (6 : Nat), .top, .ptr 2 (0 : Nat) 0 (1 : Nat), .top, .ptr 3 (0 : Nat) 0 (1 : Nat), .top, .top, .top, .top, .top, .top, .top, .top, .top, .top, .top, .top, .top, .top, .top, .top, .top, .top, .top, .top, .top, .top, .top, .top, .top, .top, .top, .top, .top, .top, .top, .top, .top, .top, .top, .top, .top, .top, .top, .top, .top, .top], [.row (.i64 x) 0, .gen [.int .i64 v1234, .int .i64 v1235, .own 0 0 ((x).length), .int .i64 v1237, .int .i64 v1238, .nilslc] false 0, .gen [.int .i64 v1240] true 0, .gen [.fn 150 [.ptr 1 (0 : Nat) 0 (6 : Nat), .ptr 2 (0 : Nat) 0 (1 : Nat)]] false 0]))
def impl_echelon_clearColumn_i1_l2_kill : List Nat := [1, 0, 1, 0, 1, 0, 1, 0, 1, 0, 1, 1, 1, 1, 1, 1, 1, 1, 1, 1, 1, 1, 1, 1, 1, 1, 1, 1, 1, 1, 1, 1, 1, 1, 1, 1, 1, 1, 1, 1, 1, 1, 1, 1, 1, 1, 1, 1, 1, 1]
def impl_echelon_clearColumn_i1_l2_nx : Exit → List Nat
  | .exit 0 => [1, 1, 1, 1, 1, 1, 0, 1, 1, 1, 1, 1, 1, 1, 1, 1, 1, 1, 1, 1, 1, 1, 1, 1, 1, 1, 1, 1, 1, 1, 1, 1, 1, 1, 1, 1, 1, 1, 1, 1, 1, 1, 1, 1, 1, 1, 1, 1, 1, 1]
  | .exit 1 => [1, 0, 1, 0, 1, 0, 1, 0, 1, 1, 1, 1, 1, 1, 1, 1, 1, 1, 1, 1, 1, 1, 1, 1, 1, 1, 1, 1, 1, 1, 1, 1, 1, 1, 1, 1, 1, 1, 1, 1, 1, 1, 1, 1, 1, 1, 1, 1, 1, 1]
  | .exit 2 => [1, 0, 1, 0, 1, 0, 1, 0, 1, 1, 1, 1, 1, 1, 1, 1, 1, 1, 1, 1, 1, 1, 1, 1, 1, 1, 1, 1, 1, 1, 1, 1, 1, 1, 1, 1, 1, 1, 1, 1, 1, 1, 1, 1, 1, 1, 1, 1, 1, 1]
  | .ret => [1, 1, 1, 1, 1, 1, 0, 1, 1, 1, 1, 1, 1, 1, 1, 1, 1, 1, 1, 1, 1, 1, 1, 1, 1, 1, 1, 1, 1, 1, 1, 1, 1, 1, 1, 1, 1, 1, 1, 1, 1, 1, 1, 1, 1, 1, 1, 1, 1, 1]
  | _ => []
noncomputable def impl_echelon_clearColumn_i1_l0_T (v1234 : Int) (v1235 : Int) (v1236 : List Int) (v1237 : Int) (v1238 : Int) (v1239 : Int) (v1240 : Int) (s : (List Int)) : Tree (((List Int)) ⊕ (((List Int)) ⊕ ((List Int)))) :=
  (.call (impl_Whole_filled_g v1234 v1235 s v1239 v1240) fun v1318 =>
  (.br (decide ((((v1318).length : Nat) : Int) < (2 : Int))) (
   .leaf (.inr (.inl s))
  ) (
   (.call (slices_MinFuncI_i1_g v1318 v1234 v1235 s v1237 v1238 v1240) fun v1319 =>
   (.call (impl_echelon_swap_i1_g v1234 v1235 s v1237 v1238 v1239 v1319) fun v1320 =>
   (.grd (decide (v1320.length = s.length)) <|
   (.need (some (impl_echelon_clearColumn_i1_l2_E v1234 v1235 v1236 v1237 v1238 v1239 v1240 (IntKind.i64.wrap (v1239 + (1 : Int)), v1320)) = some (impl_echelon_clearColumn_i1_l2_E v1234 v1235 v1236 v1237 v1238 v1239 v1240 (IntKind.i64.wrap (v1239 + (1 : Int)), v1320))) <|
   (.call (impl_echelon_clearColumn_i1_l2_g v1234 v1235 v1237 v1238 v1239 v1240 (IntKind.i64.wrap (v1239 + (1 : Int)), v1320)) fun v1339 =>
   (.sum v1339 (fun v1340 =>
    .leaf (.inr (.inr v1340))
   ) (fun v1341 =>
    .leaf (.inl v1341)
   )))))))
  )))

noncomputable def impl_echelon_clearColumn_i1_l0_g (v1234 : Int) (v1235 : Int) (v1236 : List Int) (v1237 : Int) (v1238 : Int) (v1239 : Int) (v1240 : Int) (s0 : (List Int)) : Option (((List Int)) ⊕ ((List Int))) := whileM (fun s => (impl_echelon_clearColumn_i1_l0_T v1234 v1235 v1236 v1237 v1238 v1239 v1240 s).run) s0
def impl_echelon_clearColumn_i1_l0_E (v1234 : Int) (v1235 : Int) (v1236 : List Int) (v1237 : Int) (v1238 : Int) (v1239 : Int) (v1240 : Int) (s : (List Int)) : Sd := ([.top, .int .i64 v1239, .top, .ptr 1 (0 : Nat) 0 (6 : Nat), .top, .ptr 2 (0 : Nat) 0 (1 : Nat), .top, .ptr 3 (0 : Nat) 0 (1 : Nat), .top, .top, .top, .top, .top, .top, .top, .top, .top, .top, .top, .top, .top, .top, .top, .top, .top, .top, .top, .top, .top, .top, .top, .top, .top, .top, .top, .top, .top, .top, .top, .top, .top, .top, .top, .top, .top, .top, .top, .top, .top, .top], [.row (.i64 s) 0, .gen [.int .i64 v1234, .int .i64 v1235, .own 0 0 ((s).length), .int .i64 v1237, .int .i64 v1238, .nilslc] false 0, .gen [.int .i64 v1240] true 0, .gen [.fn 150 [.ptr 1 (0 : Nat) 0 (6 : Nat), .ptr 2 (0 : Nat) 0 (1 : Nat)]] false 0])
def impl_echelon_clearColumn_i1_l0_X (v1234 : Int) (v1235 : Int) (v1236 : List Int) (v1237 : Int) (v1238 : Int) (v1239 : Int) (v1240 : Int) (x : ((List Int)) ⊕ ((List Int))) : Out := (match x with | .inl x => (.ret, [.top, .top, .top, .top, .top, .top, .lit true, .top, .top, .top, .top, .top, .top, .top, .top, .top, .top, .top, .top, .top, .top, .top, .top, .top, .top, .top, .top, .top, .top, .top, .top, .top, .top, .top, .top, .top, .top, .top, .top, .top, .top, .top, .top, .top, .top, .top, .top, .top, .top, .top], [.row (.i64 x) 0]) | .inr x => (.ret, [.top, .top, .top, .top, .top, .top, .lit false, .top, .top, .top, .top, .top, .top, .top, .top, .top, .top, .top, .top, .top, .top, .top, .top, .top, .top, .top, .top, .top, .top, .top, .top, .top, .top, .top, .top, .top, .top, .top, .top, .top, .top, .top, .top, .top, .top, .top, .top, .top, .top, .top], [.row (.i64 x) 0]))
def impl_echelon_clearColumn_i1_l0_kill : List Nat := [1, 0, 1, 0, 1, 0, 1, 0, 1, 1, 1, 1, 1, 1, 1, 1, 1, 1, 1, 1, 1, 1, 1, 1, 1, 1, 1, 1, 1, 1, 1, 1, 1, 1, 1, 1, 1, 1, 1, 1, 1, 1, 1, 1, 1, 1, 1, 1, 1, 1]
def impl_echelon_clearColumn_i1_l0_nx : Exit → List Nat
  | .exit 0 => [1, 1, 1, 1, 1, 1, 0, 1, 1, 1, 1, 1, 1, 1, 1, 1, 1, 1, 1, 1, 1, 1, 1, 1, 1, 1, 1, 1, 1, 1, 1, 1, 1, 1, 1, 1, 1, 1, 1, 1, 1, 1, 1, 1, 1, 1, 1, 1, 1, 1]
  | .ret => [1, 1, 1, 1, 1, 1, 0, 1, 1, 1, 1, 1, 1, 1, 1, 1, 1, 1, 1, 1, 1, 1, 1, 1, 1, 1, 1, 1, 1, 1, 1, 1, 1, 1, 1, 1, 1, 1, 1, 1, 1, 1, 1, 1, 1, 1, 1, 1, 1, 1]
  | _ => []
noncomputable def impl_echelon_clearColumn_i1_LO (v1234 : Int) (v1235 : Int) (v1236 : List Int) (v1237 : Int) (v1238 : Int) (v1239 : Int) (v1240 : Int) : LOr := fun id e L =>
  match id with
  | 2 => .need (normA 1 impl_echelon_clearColumn_i1_l2_kill e L = some (impl_echelon_clearColumn_i1_l2_E v1234 v1235 v1236 v1237 v1238 v1239 v1240 ((gI (vAt e 9)), (gRI L (cAt L (vAt e 3) 2))))) (.call (impl_echelon_clearColumn_i1_l2_g v1234 v1235 v1237 v1238 v1239 v1240 ((gI (vAt e 9)), (gRI L (cAt L (vAt e 3) 2)))) fun x => .sum x (fun b0 => .leaf (impl_echelon_clearColumn_i1_l2_X v1234 v1235 v1236 v1237 v1238 v1239 v1240 (.inl b0))) (fun c0 => .leaf (impl_echelon_clearColumn_i1_l2_X v1234 v1235 v1236 v1237 v1238 v1239 v1240 (.inr c0))))
  | 0 => .need (normA 1 impl_echelon_clearColumn_i1_l0_kill e L = some (impl_echelon_clearColumn_i1_l0_E v1234 v1235 v1236 v1237 v1238 v1239 v1240 (gRI L (cAt L (vAt e 3) 2)))) (.call (impl_echelon_clearColumn_i1_l0_g v1234 v1235 v1236 v1237 v1238 v1239 v1240 (gRI L (cAt L (vAt e 3) 2))) fun x => .sum x (fun b0 => .leaf (impl_echelon_clearColumn_i1_l0_X v1234 v1235 v1236 v1237 v1238 v1239 v1240 (.inl b0))) (fun c0 => .leaf (impl_echelon_clearColumn_i1_l0_X v1234 v1235 v1236 v1237 v1238 v1239 v1240 (.inr c0))))
  | _ => .fail
noncomputable def impl_echelon_clearColumn_i1_tab : List (FuncId × DFn × Bool) := [(112, impl_Whole_filled_F, true), (151, slices_MinFuncI_i1_F, true), (113, impl_echelon_swap_i1_F, false), (114, impl_Whole_at_F, true), (116, impl_floorDiv_F, true), (115, impl_echelon_take_i1_F, false)]
theorem impl_echelon_clearColumn_i1_hO : OrcOk Try.prog (tabD impl_echelon_clearColumn_i1_tab) (tabM impl_echelon_clearColumn_i1_tab) := tabD_cons impl_Whole_filled_Fok (tabD_cons slices_MinFuncI_i1_Fok (tabD_cons impl_echelon_swap_i1_Fok (tabD_cons impl_Whole_at_Fok (tabD_cons impl_floorDiv_Fok (tabD_cons impl_echelon_take_i1_Fok (tabD_nil _))))))
theorem impl_echelon_clearColumn_i1_l2_be (v1234 : Int) (v1235 : Int) (v1236 : List Int) (v1237 : Int) (v1238 : Int) (v1239 : Int) (v1240 : Int) (s : Int × (List Int)) : bodyT TT (tabD impl_echelon_clearColumn_i1_tab) (tabM impl_echelon_clearColumn_i1_tab) (impl_echelon_clearColumn_i1_LO v1234 v1235 v1236 v1237 v1238 v1239 v1240) 1 impl_echelon_clearColumn_i1_l2_kill impl_echelon_clearColumn_i1_l2_nx (bodyOf Try.f111 2) 2 (impl_echelon_clearColumn_i1_l2_E v1234 v1235 v1236 v1237 v1238 v1239 v1240 s) = (impl_echelon_clearColumn_i1_l2_T v1234 v1235 v1237 v1238 v1239 v1240 s).bind fun y => .leaf (outS (impl_echelon_clearColumn_i1_l2_E v1234 v1235 v1236 v1237 v1238 v1239 v1240) (impl_echelon_clearColumn_i1_l2_X v1234 v1235 v1236 v1237 v1238 v1239 v1240) y) := by kernel_rfl
theorem impl_echelon_clearColumn_i1_l2_ok (v1234 : Int) (v1235 : Int) (v1236 : List Int) (v1237 : Int) (v1238 : Int) (v1239 : Int) (v1240 : Int) : LSound Try.prog 1 (impl_echelon_clearColumn_i1_LO v1234 v1235 v1236 v1237 v1238 v1239 v1240) 2 (bodyOf Try.f111 2) := by
  intro e L out h
  exact lo_ok (E := impl_echelon_clearColumn_i1_l2_E v1234 v1235 v1236 v1237 v1238 v1239 v1240) (gT := impl_echelon_clearColumn_i1_l2_T v1234 v1235 v1237 v1238 v1239 v1240) (X := impl_echelon_clearColumn_i1_l2_X v1234 v1235 v1236 v1237 v1238 v1239 v1240) (s0 := ((gI (vAt e 9)), (gRI L (cAt L (vAt e 3) 2)))) tok impl_echelon_clearColumn_i1_hO mixed (LoopsOk_eq (l := []) (by kernel_rfl) trivial) (impl_echelon_clearColumn_i1_l2_be v1234 v1235 v1236 v1237 v1238 v1239 v1240) rfl (by intro x; (cases x with | inl b => rfl | inr x => exact rfl)) h
theorem impl_echelon_clearColumn_i1_l0_be (v1234 : Int) (v1235 : Int) (v1236 : List Int) (v1237 : Int) (v1238 : Int) (v1239 : Int) (v1240 : Int) (s : (List Int)) : bodyT TT (tabD impl_echelon_clearColumn_i1_tab) (tabM impl_echelon_clearColumn_i1_tab) (impl_echelon_clearColumn_i1_LO v1234 v1235 v1236 v1237 v1238 v1239 v1240) 1 impl_echelon_clearColumn_i1_l0_kill impl_echelon_clearColumn_i1_l0_nx (bodyOf Try.f111 0) 0 (impl_echelon_clearColumn_i1_l0_E v1234 v1235 v1236 v1237 v1238 v1239 v1240 s) = (impl_echelon_clearColumn_i1_l0_T v1234 v1235 v1236 v1237 v1238 v1239 v1240 s).bind fun y => .leaf (outS (impl_echelon_clearColumn_i1_l0_E v1234 v1235 v1236 v1237 v1238 v1239 v1240) (impl_echelon_clearColumn_i1_l0_X v1234 v1235 v1236 v1237 v1238 v1239 v1240) y) := by kernel_rfl
theorem impl_echelon_clearColumn_i1_l0_ok (v1234 : Int) (v1235 : Int) (v1236 : List Int) (v1237 : Int) (v1238 : Int) (v1239 : Int) (v1240 : Int) : LSound Try.prog 1 (impl_echelon_clearColumn_i1_LO v1234 v1235 v1236 v1237 v1238 v1239 v1240) 0 (bodyOf Try.f111 0) := by
  intro e L out h
  exact lo_ok (E := impl_echelon_clearColumn_i1_l0_E v1234 v1235 v1236 v1237 v1238 v1239 v1240) (gT := impl_echelon_clearColumn_i1_l0_T v1234 v1235 v1236 v1237 v1238 v1239 v1240) (X := impl_echelon_clearColumn_i1_l0_X v1234 v1235 v1236 v1237 v1238 v1239 v1240) (s0 := (gRI L (cAt L (vAt e 3) 2))) tok impl_echelon_clearColumn_i1_hO mixed (LoopsOk_eq (l := [(2, bodyOf Try.f111 2)]) (by kernel_rfl) ⟨impl_echelon_clearColumn_i1_l2_ok v1234 v1235 v1236 v1237 v1238 v1239 v1240, trivial⟩) (impl_echelon_clearColumn_i1_l0_be v1234 v1235 v1236 v1237 v1238 v1239 v1240) rfl (by intro x; (cases x with | inl b => rfl | inr x => exact rfl)) h
noncomputable def impl_echelon_clearColumn_i1_T (v1234 : Int) (v1235 : Int) (v1236 : List Int) (v1237 : Int) (v1238 : Int) (v1239 : Int) (v1240 : Int) : Tree (Bool × (List Int)) :=
  (.need (some (impl_echelon_clearColumn_i1_l0_E v1234 v1235 v1236 v1237 v1238 v1239 v1240 v1236) = some (impl_echelon_clearColumn_i1_l0_E v1234 v1235 v1236 v1237 v1238 v1239 v1240 v1236)) <|
  (.call (impl_echelon_clearColumn_i1_l0_g v1234 v1235 v1236 v1237 v1238 v1239 v1240 v1236) fun v1342 =>
  (.sum v1342 (fun v1343 =>
   .leaf (true, v1343)
  ) (fun v1344 =>
   .leaf (false, v1344)
  ))))

noncomputable def impl_echelon_clearColumn_i1_g (v1234 : Int) (v1235 : Int) (v1236 : List Int) (v1237 : Int) (v1238 : Int) (v1239 : Int) (v1240 : Int) : Option (Bool × (List Int)) := (impl_echelon_clearColumn_i1_T v1234 v1235 v1236 v1237 v1238 v1239 v1240).run
def impl_echelon_clearColumn_i1_enc (v1234 : Int) (v1235 : Int) (v1236 : List Int) (v1237 : Int) (v1238 : Int) (v1239 : Int) (v1240 : Int) (y : Bool × (List Int)) : Rs := (.bool y.1, [.row (.i64 y.2) 0])
theorem impl_echelon_clearColumn_i1_den (v1234 : Int) (v1235 : Int) (v1236 : List Int) (v1237 : Int) (v1238 : Int) (v1239 : Int) (v1240 : Int) : (den TT (tabD impl_echelon_clearColumn_i1_tab) (tabM impl_echelon_clearColumn_i1_tab) (impl_echelon_clearColumn_i1_LO v1234 v1235 v1236 v1237 v1238 v1239 v1240) (codeOf Try.f111) ([.agg [.int .i64 v1234, .int .i64 v1235, .own 0 0 v1236.length, .int .i64 v1237, .int .i64 v1238, .nilslc], .int .i64 v1239, .int .i64 v1240] ++ List.replicate (Try.f111.ntmps - ([.agg [.int .i64 v1234, .int .i64 v1235, .own 0 0 v1236.length, .int .i64 v1237, .int .i64 v1238, .nilslc], .int .i64 v1239, .int .i64 v1240] : List DV).length) .undef) [.row (.i64 v1236) 0]).bind (retD TT Try.f111.results.toList 1) = (impl_echelon_clearColumn_i1_T v1234 v1235 v1236 v1237 v1238 v1239 v1240).bind fun y => .leaf (impl_echelon_clearColumn_i1_enc v1234 v1235 v1236 v1237 v1238 v1239 v1240 y) := by kernel_rfl
theorem impl_echelon_clearColumn_i1_fn (v1234 : Int) (v1235 : Int) (v1236 : List Int) (v1237 : Int) (v1238 : Int) (v1239 : Int) (v1240 : Int) (F : Fr) (hm : F.ids.length = 1) (h0 : St F [.row (.i64 v1236) 0] F.H0) (hA : DVs.Ok F [.row (.i64 v1236) 0] [.agg [.int .i64 v1234, .int .i64 v1235, .own 0 0 v1236.length, .int .i64 v1237, .int .i64 v1238, .nilslc], .int .i64 v1239, .int .i64 v1240]) {y : Bool × (List Int)} (hy : impl_echelon_clearColumn_i1_g v1234 v1235 v1236 v1237 v1238 v1239 v1240 = some y) : ∃ H', FnOk Try.prog 111 (DVs.av F [.agg [.int .i64 v1234, .int .i64 v1235, .own 0 0 v1236.length, .int .i64 v1237, .int .i64 v1238, .nilslc], .int .i64 v1239, .int .i64 v1240]) F.H0 ((impl_echelon_clearColumn_i1_enc v1234 v1235 v1236 v1237 v1238 v1239 v1240 y).1.av F) H' ∧ St F (impl_echelon_clearColumn_i1_enc v1234 v1235 v1236 v1237 v1238 v1239 v1240 y).2 H' ∧ (impl_echelon_clearColumn_i1_enc v1234 v1235 v1236 v1237 v1238 v1239 v1240 y).1.Ok F (impl_echelon_clearColumn_i1_enc v1234 v1235 v1236 v1237 v1238 v1239 v1240 y).2 :=
  fn_fin tok impl_echelon_clearColumn_i1_hO mixed Try.func111 Try.call111 (by kernel_rfl) (LoopsOk_eq (l := [(0, bodyOf Try.f111 0)]) (by kernel_rfl) ⟨impl_echelon_clearColumn_i1_l0_ok v1234 v1235 v1236 v1237 v1238 v1239 v1240, trivial⟩) (impl_echelon_clearColumn_i1_den v1234 v1235 v1236 v1237 v1238 v1239 v1240) hy hm h0 hA
noncomputable def impl_echelon_clearColumn_i1_F : DFn := fun args L =>
  match args with
  | [.agg [.int .i64 v1234, .int .i64 v1235, a1, .int .i64 v1237, .int .i64 v1238, .nilslc], .int .i64 v1239, .int .i64 v1240] =>
    optT (ownI64 L a1) fun qv1236 =>
    (match sepB [qv1236.1] [] with
    | true =>
    .call (impl_echelon_clearColumn_i1_g v1234 v1235 qv1236.2 v1237 v1238 v1239 v1240) fun y => .grd (decide (y.2.length = qv1236.2.length)) (.leaf (.bool y.1, setRows L ([qv1236.1].zip [.i64 y.2])))
    | false => .fail)
  | _ => .fail
theorem impl_echelon_clearColumn_i1_Fok : COk Try.prog 111 impl_echelon_clearColumn_i1_F false := by
  intro F L H args r L' hs ha hr
  unfold impl_echelon_clearColumn_i1_F at hr
  split at hr
  · rename_i v1234 v1235 a1 v1237 v1238 v1239 v1240
    obtain ⟨⟨jv1236, v1236⟩, hqv1236, hr⟩ := optT_run hr
    simp only at hr
    split at hr
    · rename_i hsep
      obtain ⟨hnd, hsepv⟩ := sepB_spec hsep
      simp only [Tree.run] at hr
      obtain ⟨y, hy, hr⟩ := Option.bind_eq_some_iff.1 hr
      try simp only [Tree.run] at hr
      obtain ⟨hl0, hr⟩ := ite_run hr
      simp only [Option.some.injEq, Prod.mk.injEq] at hr
      obtain ⟨rfl, rfl⟩ := hr
      obtain ⟨hr0, hu0, ha0, hb0⟩ := (ownR_spec (DVs.okAt (DVs.okAt ha 0 rfl) 2 rfl) (ownI64_or hqv1236))
      exact mut_ok hs (fun k => (([a1.av F] : List AV)[k]?).getD .top) [.agg [.int .i64 v1234, .int .i64 v1235, a1, .int .i64 v1237, .int .i64 v1238, .nilslc], .int .i64 v1239, .int .i64 v1240] [.agg [.int .i64 v1234, .int .i64 v1235, .own 0 0 v1236.length, .int .i64 v1237, .int .i64 v1238, .nilslc], .int .i64 v1239, .int .i64 v1240] [jv1236] [.i64 v1236] [.i64 y.2] hnd rfl rfl (fun i j q h1 h2 => by
          rcases i with _ | i
          · simp at h1 h2; subst h1; subst h2; exact hr0
          · simp at h1) (fun i q q' h1 h2 => by
          rcases i with _ | i
          · simp at h1 h2; subst h1; subst h2; exact of_decide_eq_true hl0
          · simp at h1) (fun j hj => by simp at hj; subst hj; simp [DVs.refs, DV.refs, hu0]) (fun F' h0 hi hρ hst hS => ⟨by (have ab0 : F'.abs 0 = F.abs jv1236 := (by simp [Fr.abs, hi]); simp [DVs.av, DV.av, BR.av, hρ, Row.len, ha0, ab0]), by
          obtain ⟨H1, k1, k2, _⟩ := impl_echelon_clearColumn_i1_fn v1234 v1235 v1236 v1237 v1238 v1239 v1240 F' (by rw [hi]; rfl) hst ⟨⟨trivial, trivial, ⟨_, rfl, Nat.le_refl _, Nat.le_refl _, fun _ => rfl, (ownR_spec (DVs.okAt (DVs.okAt ha 0 rfl) 2 rfl) (ownI64_or hqv1236)).2.2.2⟩, trivial, trivial, trivial, trivial⟩, trivial, trivial, trivial⟩ hy
          exact ⟨H1, k1, k2⟩⟩) (fun F' => rfl) (fun L' => trivial)
    · cases hr
  · cases hr
/-! impl.EchelonOf -/
noncomputable def impl_EchelonOf_l2_T (v770 : Int) (v771 : Int) (v1522 : Int) (v1523 : Int) (v1525 : Int) (v1526 : Int) (s : Int × (List Int)) : Tree ((Int × (List Int)) ⊕ ((Unit) ⊕ ((List Int)))) :=
  (.br (decide (s.1 < v1522)) (
   (.call (impl_Whole_at_g v771 s.2 s.1 v1523) fun v1528 =>
   (.call (impl_Whole_at_g v771 s.2 v1522 v1523) fun v1529 =>
   (.call (impl_floorDiv_g v1528 v1529) fun v1530 =>
   (.call (impl_echelon_take_i1_g v770 v771 s.2 v1525 v1526 s.1 v1522 v1530) fun v1531 =>
   (.grd (decide (v1531.2.length = s.2.length)) <|
   (.br (!v1531.1) (
    .leaf (.inr (.inl ()))
   ) (
    .leaf (.inl (IntKind.i64.wrap (s.1 + (1 : Int)), v1531.2))
   )))))))
  ) (
   .leaf (.inr (.inr s.2))
  ))

noncomputable def impl_EchelonOf_l2_g (v770 : Int) (v771 : Int) (v1522 : Int) (v1523 : Int) (v1525 : Int) (v1526 : Int) (s0 : Int × (List Int)) : Option ((Unit) ⊕ ((List Int))) := whileM (fun s => (impl_EchelonOf_l2_T v770 v771 v1522 v1523 v1525 v1526 s).run) s0
def impl_EchelonOf_l2_E (v770 : Int) (v771 : Int) (v772 : List Int) (v1522 : Int) (v1523 : Int) (v1525 : Int) (v1526 : Int) (s : Int × (List Int)) : Sd := ([.top, .ptr 0 (0 : Nat) 0 (3 : Nat), .ptr 1 (0 : Nat) 0 (3 : Nat), .ptr 2 (0 : Nat) 0 (3 : Nat), .top, .ptr 3 (0 : Nat) 0 (6 : Nat), .int .i64 v1522, .int .i64 v1523, .top, .top, .top, .top, .top, .top, .top, .top, .top, .top, .top, .top, .top, .top, .top, .top, .top, .top, .top, .top, .top, .top, .top, .top, .top, .top, .top, .top, .top, .top, .top, .top, .top, .top, .top, .top, .top, .top, .top, .top, .top, .top, .top, .top, .top, .top, .top, .top, .top, .top, .top, .top, .top, .top, .top, .top, .top, .top, .top, .top, .top, .top, .top, .top, .top, .top, .top, .int .i64 v1522, .int .i64 s.1, .top, .top, .top, .top, .top, .top, .top, .top, .top, .top, .top, .top, .top, .top, .top, .top, .top, .top, .top, .top, .top, .top, .top, .top, .top, .top, .top], [.gen [.int .i64 v770, .int .i64 v771, .bslc (BR.root 0) (.i64 v772)] false 0, .gen [.int .i64 (0 : Int), .int .i64 (0 : Int), .nilslc] false 0, .gen [.int .i64 (0 : Int), .int .i64 (0 : Int), .nilslc] false 0, .gen [.int .i64 v770, .int .i64 v771, .own 4 0 ((s.2).length), .int .i64 v1525, .int .i64 v1526, .nilslc] false 0, .row (.i64 s.2) 0])
def impl_EchelonOf_l2_X (v770 : Int) (v771 : Int) (v772 : List Int) (v1522 : Int) (v1523 : Int) (v1525 : Int) (v1526 : Int) (x : (Unit) ⊕ ((List Int))) : Out := (match x with | .inl x => (.ret, [.top, .top, .ptr 0 (0 : Nat) 0 (3 : Nat), .ptr 1 (0 : Nat) 0 (3 : Nat), .lit false, .top, .top, .top, .top, .top, .top, .top, .top, .top, .top, .top, .top, .top, .top, .top, .top, .top, .top, .top, .top, .top, .top, .top, .top, .top, .top, .top, .top, .top, .top, .top, .top, .top, .top, .top, .top, .top, .top, .top, .top, .top, .top, .top, .top, .top, .top, .top, .top, .top, .top, .top, .top, .top, .top, .top, .top, .top, .top, .top, .top, .top, .top, .top, .top, .top, .top, .top, .top, .top, .top, .top, .top, .top, .top, .top, .top, .top, .top, .top, .top, .top, .top, .top, .top, .top, .top, .top, .top, .top, .top, .top, .top, .top, .top, .top, .top, .top, .top, .top], [.gen [.int .i64 (0 : Int), .int .i64 (0 : Int), .nilslc] false 0, .gen [.int .i64 (0 : Int), .int .i64 (0 : Int), .nilslc] false 0]) | .inr x => (.normal, [.top, .ptr 0 (0 : Nat) 0 (3 : Nat), .ptr 1 (0 : Nat) 0 (3 : Nat), .ptr 2 (0 : Nat) 0 (3 : Nat), .top, .ptr 3 (0 : Nat) 0 (6 : Nat), .int .i64 v1522, .int .i64 v1523, .top, .top, .top, .top, .top, .top, .top, .top, .top, .top, .top, .top, .top, .top, .top, .top, .top, .top, .top, .top, .top, .top, .top, .top, .top, .top, .top, .top, .top, .top, .top, .top, .top, .top, .top, .top, .top, .top, .top, .top, .top, .top, .top, .top, .top, .top, .top, .top, .top, .top, .top, .top, .top, .top, .top, .top, .top, .top, .top, .top, .top, .top, .top, .top, .top, .top, .top, .top, .top, .top, .top, .top, .top, .top, .top, .top, .top, .top, .top, .top, .top, .top, .top, .top, .top, .top, .top, .top, .top, .top, .top, .top, .top, .top, .top, .top], [.gen [.int .i64 v770, .int .i64 v771, .bslc (BR.root 0) (.i64 v772)] false 0, .gen [.int .i64 (0 : Int), .int .i64 (0 : Int), .nilslc] false 0, .gen [.int .i64 (0 : Int), .int .i64 (0 : Int), .nilslc] false 0, .gen [.int .i64 v770, .int .i64 v771, .own 4 0 ((x).length), .int .i64 v1525, .int .i64 v1526, .nilslc] false 0, .row (.i64 x) 0]))
def impl_EchelonOf_l2_kill : List Nat := [1, 0, 0, 0, 1, 0, 0, 0, 1, 1, 1, 1, 1, 1, 1, 1, 1, 1, 1, 1, 1, 1, 1, 1, 1, 1, 1, 1, 1, 1, 1, 1, 1, 1, 1, 1, 1, 1, 1, 1, 1, 1, 1, 1, 1, 1, 1, 1, 1, 1, 1, 1, 1, 1, 1, 1, 1, 1, 1, 1, 1, 1, 1, 1, 1, 1, 1, 1, 1, 1, 1, 1, 1, 1, 1, 0, 0, 1, 1, 1, 1, 1, 1, 1, 1, 1, 1, 1, 1, 1, 1, 1, 1, 1, 1, 1, 1, 1, 1, 1, 1, 1, 1, 1]
def impl_EchelonOf_l2_nx : Exit → List Nat
  | .exit 0 => [1, 1, 0, 0, 1, 0, 1, 1, 1, 1, 1, 1, 1, 1, 1, 1, 1, 1, 1, 1, 1, 1, 1, 1, 1, 1, 1, 1, 1, 1, 1, 1, 1, 1, 1, 1, 1, 1, 1, 1, 1, 1, 1, 1, 1, 1, 1, 1, 1, 1, 1, 1, 1, 1, 1, 1, 1, 1, 1, 1, 1, 1, 1, 1, 1, 1, 1, 1, 1, 1, 1, 1, 1, 1, 1, 1, 1, 1, 1, 1, 1, 1, 1, 1, 1, 1, 1, 1, 1, 1, 1, 1, 1, 1, 1, 1, 1, 1, 1, 1, 1, 1, 1, 1]
  | .exit 1 => [1, 0, 0, 0, 1, 0, 0, 0, 1, 1, 1, 1, 1, 1, 1, 1, 1, 1, 1, 1, 1, 1, 1, 1, 1, 1, 1, 1, 1, 1, 1, 1, 1, 1, 1, 1, 1, 1, 1, 1, 1, 1, 1, 1, 1, 1, 1, 1, 1, 1, 1, 1, 1, 1, 1, 1, 1, 1, 1, 1, 1, 1, 1, 1, 1, 1, 1, 1, 1, 1, 1, 1, 1, 1, 1, 1, 1, 1, 1, 1, 1, 1, 1, 1, 1, 1, 1, 1, 1, 1, 1, 1, 1, 1, 1, 1, 1, 1, 1, 1, 1, 1, 1, 1]
  | .exit 2 => [1, 0, 0, 0, 1, 0, 0, 0, 1, 1, 1, 1, 1, 1, 1, 1, 1, 1, 1, 1, 1, 1, 1, 1, 1, 1, 1, 1, 1, 1, 1, 1, 1, 1, 1, 1, 1, 1, 1, 1, 1, 1, 1, 1, 1, 1, 1, 1, 1, 1, 1, 1, 1, 1, 1, 1, 1, 1, 1, 1, 1, 1, 1, 1, 1, 1, 1, 1, 1, 1, 1, 1, 1, 1, 1, 1, 1, 1, 1, 1, 1, 1, 1, 1, 1, 1, 1, 1, 1, 1, 1, 1, 1, 1, 1, 1, 1, 1, 1, 1, 1, 1, 1, 1]
  | .ret => [1, 1, 0, 0, 0, 1, 1, 1, 1, 1, 1, 1, 1, 1, 1, 1, 1, 1, 1, 1, 1, 1, 1, 1, 1, 1, 1, 1, 1, 1, 1, 1, 1, 1, 1, 1, 1, 1, 1, 1, 1, 1, 1, 1, 1, 1, 1, 1, 1, 1, 1, 1, 1, 1, 1, 1, 1, 1, 1, 1, 1, 1, 1, 1, 1, 1, 1, 1, 1, 1, 1, 1, 1, 1, 1, 1, 1, 1, 1, 1, 1, 1, 1, 1, 1, 1, 1, 1, 1, 1, 1, 1, 1, 1, 1, 1, 1, 1, 1, 1, 1, 1, 1, 1]
  | _ => []
noncomputable def impl_EchelonOf_l0_T (v770 : Int) (v771 : Int) (v772 : List Int) (v1494 : Int) (v1495 : Int) (s : Int × Int × (List Int)) : Tree ((Int × Int × (List Int)) ⊕ ((Unit) ⊕ ((List Int)))) :=
  (.br (decide (s.2.1 < v771)) (
   (.br (decide (s.1 < v770)) (
    (.call (impl_echelon_clearColumn_i1_g v770 v771 s.2.2 v1494 v1495 s.1 s.2.1) fun v1497 =>
    (.grd (decide (v1497.2.length = s.2.2.length)) <|
    (.br (!v1497.1) (
     .leaf (.inr (.inl ()))
    ) (
     (.call (impl_Whole_filled_g v770 v771 v1497.2 s.1 s.2.1) fun v1498 =>
     (.br (decide ((((v1498).length : Nat) : Int) = (0 : Int))) (
      .leaf (.inl (s.1, IntKind.i64.wrap (s.2.1 + (1 : Int)), v1497.2))
     ) (
      (.grd (inb (0 : Int) ((v1498).length)) <|
      (.call (impl_echelon_swap_i1_g v770 v771 v1497.2 v1494 v1495 s.1 (nth v1498 (Int.toNat (0 : Int)))) fun v1499 =>
      (.grd (decide (v1499.length = v1497.2.length)) <|
      (.call (impl_Whole_at_g v771 v1499 s.1 s.2.1) fun v1500 =>
      (.br (decide (v1500 < (0 : Int))) (
       (.call (impl_echelon_take_i1_g v770 v771 v1499 v1494 v1495 s.1 s.1 (2 : Int)) fun v1501 =>
       (.grd (decide (v1501.2.length = v1499.length)) <|
       (.br (!v1501.1) (
        .leaf (.inr (.inl ()))
       ) (
        (.need (some (impl_EchelonOf_l2_E v770 v771 v772 s.1 s.2.1 v1494 v1495 ((0 : Int), v1501.2)) = some (impl_EchelonOf_l2_E v770 v771 v772 s.1 s.2.1 v1494 v1495 ((0 : Int), v1501.2))) <|
        (.call (impl_EchelonOf_l2_g v770 v771 s.1 s.2.1 v1494 v1495 ((0 : Int), v1501.2)) fun v1532 =>
        (.sum v1532 (fun v1533 =>
         .leaf (.inr (.inl ()))
        ) (fun v1534 =>
         .leaf (.inl (IntKind.i64.wrap (s.1 + (1 : Int)), IntKind.i64.wrap (s.2.1 + (1 : Int)), v1534))
        ))))
       ))))
      ) (
       (.need (some (impl_EchelonOf_l2_E v770 v771 v772 s.1 s.2.1 v1494 v1495 ((0 : Int), v1499)) = some (impl_EchelonOf_l2_E v770 v771 v772 s.1 s.2.1 v1494 v1495 ((0 : Int), v1499))) <|
       (.call (impl_EchelonOf_l2_g v770 v771 s.1 s.2.1 v1494 v1495 ((0 : Int), v1499)) fun v1565 =>
       (.sum v1565 (fun v1566 =>
        .leaf (.inr (.inl ()))
       ) (fun v1567 =>
        .leaf (.inl (IntKind.i64.wrap (s.1 + (1 : Int)), IntKind.i64.wrap (s.2.1 + (1 : Int)), v1567))
       ))))
      ))))))
     )))
    ))))
   ) (
    .leaf (.inr (.inr s.2.2))
   ))
  ) (
   .leaf (.inr (.inr s.2.2))
  ))

noncomputable def impl_EchelonOf_l0_g (v770 : Int) (v771 : Int) (v772 : List Int) (v1494 : Int) (v1495 : Int) (s0 : Int × Int × (List Int)) : Option ((Unit) ⊕ ((List Int))) := whileM (fun s => (impl_EchelonOf_l0_T v770 v771 v772 v1494 v1495 s).run) s0
def impl_EchelonOf_l0_E (v770 : Int) (v771 : Int) (v772 : List Int) (v1494 : Int) (v1495 : Int) (s : Int × Int × (List Int)) : Sd := ([.top, .ptr 0 (0 : Nat) 0 (3 : Nat), .ptr 1 (0 : Nat) 0 (3 : Nat), .ptr 2 (0 : Nat) 0 (3 : Nat), .top, .ptr 3 (0 : Nat) 0 (6 : Nat), .int .i64 s.1, .int .i64 s.2.1, .top, .top, .top, .top, .top, .top, .top, .top, .top, .top, .top, .top, .top, .top, .top, .top, .top, .top, .top, .top, .top, .top, .top, .top, .top, .top, .top, .top, .top, .top, .top, .top, .top, .top, .top, .top, .top, .top, .top, .top, .top, .top, .top, .top, .top, .top, .top, .top, .top, .top, .top, .top, .top, .top, .top, .top, .top, .top, .top, .top, .top, .top, .top, .top, .top, .top, .top, .top, .top, .top, .top, .top, .top, .top, .top, .top, .top, .top, .top, .top, .top, .top, .top, .top, .top, .top, .top, .top, .top, .top, .top, .top, .top, .top, .top, .top], [.gen [.int .i64 v770, .int .i64 v771, .bslc (BR.root 0) (.i64 v772)] false 0, .gen [.int .i64 (0 : Int), .int .i64 (0 : Int), .nilslc] false 0, .gen [.int .i64 (0 : Int), .int .i64 (0 : Int), .nilslc] false 0, .gen [.int .i64 v770, .int .i64 v771, .own 4 0 ((s.2.2).length), .int .i64 v1494, .int .i64 v1495, .nilslc] false 0, .row (.i64 s.2.2) 0])
def impl_EchelonOf_l0_X (v770 : Int) (v771 : Int) (v772 : List Int) (v1494 : Int) (v1495 : Int) (x : (Unit) ⊕ ((List Int))) : Out := (match x with | .inl x => (.ret, [.top, .top, .ptr 0 (0 : Nat) 0 (3 : Nat), .ptr 1 (0 : Nat) 0 (3 : Nat), .lit false, .top, .top, .top, .top, .top, .top, .top, .top, .top, .top, .top, .top, .top, .top, .top, .top, .top, .top, .top, .top, .top, .top, .top, .top, .top, .top, .top, .top, .top, .top, .top, .top, .top, .top, .top, .top, .top, .top, .top, .top, .top, .top, .top, .top, .top, .top, .top, .top, .top, .top, .top, .top, .top, .top, .top, .top, .top, .top, .top, .top, .top, .top, .top, .top, .top, .top, .top, .top, .top, .top, .top, .top, .top, .top, .top, .top, .top, .top, .top, .top, .top, .top, .top, .top, .top, .top, .top, .top, .top, .top, .top, .top, .top, .top, .top, .top, .top, .top, .top], [.gen [.int .i64 (0 : Int), .int .i64 (0 : Int), .nilslc] false 0, .gen [.int .i64 (0 : Int), .int .i64 (0 : Int), .nilslc] false 0]) | .inr x => (.normal, [.top, .top, .ptr 0 (0 : Nat) 0 (3 : Nat), .ptr 1 (0 : Nat) 0 (3 : Nat), .top, .ptr 2 (0 : Nat) 0 (6 : Nat), .top, .top, .top, .top, .top, .top, .top, .top, .top, .top, .top, .top, .top, .top, .top, .top, .top, .top, .top, .top, .top, .top, .top, .top, .top, .top, .top, .top, .top, .top, .top, .top, .top, .top, .top, .top, .top, .top, .top, .top, .top, .top, .top, .top, .top, .top, .top, .top, .top, .top, .top, .top, .top, .top, .top, .top, .top, .top, .top, .top, .top, .top, .top, .top, .top, .top, .top, .top, .top, .top, .top, .top, .top, .top, .top, .top, .top, .top, .top, .top, .top, .top, .top, .top, .top, .top, .top, .top, .top, .top, .top, .top, .top, .top, .top, .top, .top, .top], [.gen [.int .i64 (0 : Int), .int .i64 (0 : Int), .nilslc] false 0, .gen [.int .i64 (0 : Int), .int .i64 (0 : Int), .nilslc] false 0, .gen [.int .i64 v770, .int .i64 v771, .own 3 0 ((x).length), .int .i64 v1494, .int .i64 v1495, .nilslc] false 0, .row (.i64 x) 0]))
def impl_EchelonOf_l0_kill : List Nat := [1, 0, 0, 0, 1, 0, 0, 0, 1, 1, 1, 1, 1, 1, 1, 1, 1, 1, 1, 1, 1, 1, 1, 1, 1, 1, 1, 1, 1, 1, 1, 1, 1, 1, 1, 1, 1, 1, 1, 1, 1, 1, 1, 1, 1, 1, 1, 1, 1, 1, 1, 1, 1, 1, 1, 1, 1, 1, 1, 1, 1, 1, 1, 1, 1, 1, 1, 1, 1, 1, 1, 1, 1, 1, 1, 1, 1, 1, 1, 1, 1, 1, 1, 1, 1, 1, 1, 1, 1, 1, 1, 1, 1, 1, 1, 1, 1, 1, 1, 1, 1, 1, 1, 1]
def impl_EchelonOf_l0_nx : Exit → List Nat
  | .exit 0 => [1, 1, 0, 0, 1, 0, 1, 1, 1, 1, 1, 1, 1, 1, 1, 1, 1, 1, 1, 1, 1, 1, 1, 1, 1, 1, 1, 1, 1, 1, 1, 1, 1, 1, 1, 1, 1, 1, 1, 1, 1, 1, 1, 1, 1, 1, 1, 1, 1, 1, 1, 1, 1, 1, 1, 1, 1, 1, 1, 1, 1, 1, 1, 1, 1, 1, 1, 1, 1, 1, 1, 1, 1, 1, 1, 1, 1, 1, 1, 1, 1, 1, 1, 1, 1, 1, 1, 1, 1, 1, 1, 1, 1, 1, 1, 1, 1, 1, 1, 1, 1, 1, 1, 1]
  | .ret => [1, 1, 0, 0, 0, 1, 1, 1, 1, 1, 1, 1, 1, 1, 1, 1, 1, 1, 1, 1, 1, 1, 1, 1, 1, 1, 1, 1, 1, 1, 1, 1, 1, 1, 1, 1, 1, 1, 1, 1, 1, 1, 1, 1, 1, 1, 1, 1, 1, 1, 1, 1, 1, 1, 1, 1, 1, 1, 1, 1, 1, 1, 1, 1, 1, 1, 1, 1, 1, 1, 1, 1, 1, 1, 1, 1, 1, 1, 1, 1, 1, 1, 1, 1, 1, 1, 1, 1, 1, 1, 1, 1, 1, 1, 1, 1, 1, 1, 1, 1, 1, 1, 1, 1]
  | _ => []
noncomputable def impl_EchelonOf_l2_1_T (v770 : Int) (v771 : Int) (v1769 : Int) (v1770 : Int) (v1772 : Int) (v1773 : Int) (s : Int × (List Int) × (List Int)) : Tree ((Int × (List Int) × (List Int)) ⊕ ((Unit) ⊕ ((List Int) × (List Int)))) :=
  (.br (decide (s.1 < v1769)) (
   (.call (impl_Whole_at_g v771 s.2.1 s.1 v1770) fun v1776 =>
   (.call (impl_Whole_at_g v771 s.2.1 v1769 v1770) fun v1777 =>
   (.call (impl_floorDiv_g v1776 v1777) fun v1778 =>
   (.call (impl_echelon_take_g v770 v771 s.2.1 v1772 v1773 s.2.2 s.1 v1769 v1778) fun v1779 =>
   (.grd (decide (v1779.2.1.length = s.2.1.length)) <|
   (.grd (decide (v1779.2.2.length = s.2.2.length)) <|
   (.br (!v1779.1) (
    .leaf (.inr (.inl ()))
   ) (
    .leaf (.inl (IntKind.i64.wrap (s.1 + (1 : Int)), v1779.2.1, v1779.2.2))
   ))))))))
  ) (
   .leaf (.inr (.inr (s.2.1, s.2.2)))
  ))

noncomputable def impl_EchelonOf_l2_1_g (v770 : Int) (v771 : Int) (v1769 : Int) (v1770 : Int) (v1772 : Int) (v1773 : Int) (s0 : Int × (List Int) × (List Int)) : Option ((Unit) ⊕ ((List Int) × (List Int))) := whileM (fun s => (impl_EchelonOf_l2_1_T v770 v771 v1769 v1770 v1772 v1773 s).run) s0
def impl_EchelonOf_l2_1_E (v770 : Int) (v771 : Int) (v772 : List Int) (v1769 : Int) (v1770 : Int) (v1772 : Int) (v1773 : Int) (s : Int × (List Int) × (List Int)) : Sd := ([.top, .ptr 0 (0 : Nat) 0 (3 : Nat), .ptr 1 (0 : Nat) 0 (3 : Nat), .ptr 2 (0 : Nat) 0 (3 : Nat), .top, .ptr 3 (0 : Nat) 0 (6 : Nat), .int .i64 v1769, .int .i64 v1770, .top, .top, .top, .top, .top, .top, .top, .top, .top, .top, .top, .top, .top, .top, .top, .top, .top, .top, .top, .top, .top, .top, .top, .top, .top, .top, .top, .top, .top, .top, .top, .top, .top, .top, .top, .top, .top, .top, .top, .top, .top, .top, .top, .top, .top, .top, .top, .top, .top, .top, .top, .top, .top, .top, .top, .top, .top, .top, .top, .top, .top, .top, .top, .top, .top, .top, .top, .int .i64 v1769, .int .i64 s.1, .top, .top, .top, .top, .top, .top, .top, .top, .top, .top, .top, .top, .top, .top, .top, .top, .top, .top, .top, .top, .top, .top, .top, .top, .top, .top, .top], [.gen [.int .i64 v770, .int .i64 v771, .bslc (BR.root 0) (.i64 v772)] false 0, .gen [.int .i64 (0 : Int), .int .i64 (0 : Int), .nilslc] false 0, .gen [.int .i64 (0 : Int), .int .i64 (0 : Int), .nilslc] false 0, .gen [.int .i64 v770, .int .i64 v771, .own 4 0 ((s.2.1).length), .int .i64 v1772, .int .i64 v1773, .own 5 0 ((s.2.2).length)] false 0, .row (.i64 s.2.1) 0, .row (.i64 s.2.2) 0])
def impl_EchelonOf_l2_1_X (v770 : Int) (v771 : Int) (v772 : List Int) (v1769 : Int) (v1770 : Int) (v1772 : Int) (v1773 : Int) (x : (Unit) ⊕ ((List Int) × (List Int))) : Out := (match x with | .inl x => (.ret, [.top, .top, .ptr 0 (0 : Nat) 0 (3 : Nat), .ptr 1 (0 : Nat) 0 (3 : Nat), .lit false, .top, .top, .top, .top, .top, .top, .top, .top, .top, .top, .top, .top, .top, .top, .top, .top, .top, .top, .top, .top, .top, .top, .top, .top, .top, .top, .top, .top, .top, .top, .top, .top, .top, .top, .top, .top, .top, .top, .top, .top, .top, .top, .top, .top, .top, .top, .top, .top, .top, .top, .top, .top, .top, .top, .top, .top, .top, .top, .top, .top, .top, .top, .top, .top, .top, .top, .top, .top, .top, .top, .top, .top, .top, .top, .top, .top, .top, .top, .top, .top, .top, .top, .top, .top, .top, .top, .top, .top, .top, .top, .top, .top, .top, .top, .top, .top, .top, .top, .top], [.gen [.int .i64 (0 : Int), .int .i64 (0 : Int), .nilslc] false 0, .gen [.int .i64 (0 : Int), .int .i64 (0 : Int), .nilslc] false 0]) | .inr x => (.normal, [.top, .ptr 0 (0 : Nat) 0 (3 : Nat), .ptr 1 (0 : Nat) 0 (3 : Nat), .ptr 2 (0 : Nat) 0 (3 : Nat), .top, .ptr 3 (0 : Nat) 0 (6 : Nat), .int .i64 v1769, .int .i64 v1770, .top, .top, .top, .top, .top, .top, .top, .top, .top, .top, .top, .top, .top, .top, .top, .top, .top, .top, .top, .top, .top, .top, .top, .top, .top, .top, .top, .top, .top, .top, .top, .top, .top, .top, .top, .top, .top, .top, .top, .top, .top, .top, .top, .top, .top, .top, .top, .top, .top, .top, .top, .top, .top, .top, .top, .top, .top, .top, .top, .top, .top, .top, .top, .top, .top, .top, .top, .top, .top, .top, .top, .top, .top, .top, .top, .top, .top, .top, .top, .top, .top, .top, .top, .top, .top, .top, .top, .top, .top, .top, .top, .top, .top, .top, .top, .top], [.gen [.int .i64 v770, .int .i64 v771, .bslc (BR.root 0) (.i64 v772)] false 0, .gen [.int .i64 (0 : Int), .int .i64 (0 : Int), .nilslc] false 0, .gen [.int .i64 (0 : Int), .int .i64 (0 : Int), .nilslc] false 0, .gen [.int .i64 v770, .int .i64 v771, .own 4 0 ((x.1).length), .int .i64 v1772, .int .i64 v1773, .own 5 0 ((x.2).length)] false 0, .row (.i64 x.1) 0, .row (.i64 x.2) 0]))
def impl_EchelonOf_l2_1_kill : List Nat := [1, 0, 0, 0, 1, 0, 0, 0, 1, 1, 1, 1, 1, 1, 1, 1, 1, 1, 1, 1, 1, 1, 1, 1, 1, 1, 1, 1, 1, 1, 1, 1, 1, 1, 1, 1, 1, 1, 1, 1, 1, 1, 1, 1, 1, 1, 1, 1, 1, 1, 1, 1, 1, 1, 1, 1, 1, 1, 1, 1, 1, 1, 1, 1, 1, 1, 1, 1, 1, 1, 1, 1, 1, 1, 1, 0, 0, 1, 1, 1, 1, 1, 1, 1, 1, 1, 1, 1, 1, 1, 1, 1, 1, 1, 1, 1, 1, 1, 1, 1, 1, 1, 1, 1]
def impl_EchelonOf_l2_1_nx : Exit → List Nat
  | .exit 0 => [1, 1, 0, 0, 1, 0, 1, 1, 1, 1, 1, 1, 1, 1, 1, 1, 1, 1, 1, 1, 1, 1, 1, 1, 1, 1, 1, 1, 1, 1, 1, 1, 1, 1, 1, 1, 1, 1, 1, 1, 1, 1, 1, 1, 1, 1, 1, 1, 1, 1, 1, 1, 1, 1, 1, 1, 1, 1, 1, 1, 1, 1, 1, 1, 1, 1, 1, 1, 1, 1, 1, 1, 1, 1, 1, 1, 1, 1, 1, 1, 1, 1, 1, 1, 1, 1, 1, 1, 1, 1, 1, 1, 1, 1, 1, 1, 1, 1, 1, 1, 1, 1, 1, 1]
  | .exit 1 => [1, 0, 0, 0, 1, 0, 0, 0, 1, 1, 1, 1, 1, 1, 1, 1, 1, 1, 1, 1, 1, 1, 1, 1, 1, 1, 1, 1, 1, 1, 1, 1, 1, 1, 1, 1, 1, 1, 1, 1, 1, 1, 1, 1, 1, 1, 1, 1, 1, 1, 1, 1, 1, 1, 1, 1, 1, 1, 1, 1, 1, 1, 1, 1, 1, 1, 1, 1, 1, 1, 1, 1, 1, 1, 1, 1, 1, 1, 1, 1, 1, 1, 1, 1, 1, 1, 1, 1, 1, 1, 1, 1, 1, 1, 1, 1, 1, 1, 1, 1, 1, 1, 1, 1]
  | .exit 2 => [1, 0, 0, 0, 1, 0, 0, 0, 1, 1, 1, 1, 1, 1, 1, 1, 1, 1, 1, 1, 1, 1, 1, 1, 1, 1, 1, 1, 1, 1, 1, 1, 1, 1, 1, 1, 1, 1, 1, 1, 1, 1, 1, 1, 1, 1, 1, 1, 1, 1, 1, 1, 1, 1, 1, 1, 1, 1, 1, 1, 1, 1, 1, 1, 1, 1, 1, 1, 1, 1, 1, 1, 1, 1, 1, 1, 1, 1, 1, 1, 1, 1, 1, 1, 1, 1, 1, 1, 1, 1, 1, 1, 1, 1, 1, 1, 1, 1, 1, 1, 1, 1, 1, 1]
  | .ret => [1, 1, 0, 0, 0, 1, 1, 1, 1, 1, 1, 1, 1, 1, 1, 1, 1, 1, 1, 1, 1, 1, 1, 1, 1, 1, 1, 1, 1, 1, 1, 1, 1, 1, 1, 1, 1, 1, 1, 1, 1, 1, 1, 1, 1, 1, 1, 1, 1, 1, 1, 1, 1, 1, 1, 1, 1, 1, 1, 1, 1, 1, 1, 1, 1, 1, 1, 1, 1, 1, 1, 1, 1, 1, 1, 1, 1, 1, 1, 1, 1, 1, 1, 1, 1, 1, 1, 1, 1, 1, 1, 1, 1, 1, 1, 1, 1, 1, 1, 1, 1, 1, 1, 1]
  | _ => []
noncomputable def impl_EchelonOf_l0_1_T (v770 : Int) (v771 : Int) (v772 : List Int) (v1738 : Int) (v1739 : Int) (s : Int × Int × (List Int) × (List Int)) : Tree ((Int × Int × (List Int) × (List Int)) ⊕ ((Unit) ⊕ ((List Int) × (List Int)))) :=
  (.br (decide (s.2.1 < v771)) (
   (.br (decide (s.1 < v770)) (
    (.call (impl_echelon_clearColumn_g v770 v771 s.2.2.1 v1738 v1739 s.2.2.2 s.1 s.2.1) fun v1742 =>
    (.grd (decide (v1742.2.1.length = s.2.2.1.length)) <|
    (.grd (decide (v1742.2.2.length = s.2.2.2.length)) <|
    (.br (!v1742.1) (
     .leaf (.inr (.inl ()))
    ) (
     (.call (impl_Whole_filled_g v770 v771 v1742.2.1 s.1 s.2.1) fun v1743 =>
     (.br (decide ((((v1743).length : Nat) : Int) = (0 : Int))) (
      .leaf (.inl (s.1, IntKind.i64.wrap (s.2.1 + (1 : Int)), v1742.2.1, v1742.2.2))
     ) (
      (.grd (inb (0 : Int) ((v1743).length)) <|
      (.call (impl_echelon_swap_g v770 v771 v1742.2.1 v1738 v1739 v1742.2.2 s.1 (nth v1743 (Int.toNat (0 : Int)))) fun v1744 =>
      (.grd (decide (v1744.1.length = v1742.2.1.length)) <|
      (.grd (decide (v1744.2.length = v1742.2.2.length)) <|
      (.call (impl_Whole_at_g v771 v1744.1 s.1 s.2.1) fun v1745 =>
      (.br (decide (v1745 < (0 : Int))) (
       (.call (impl_echelon_take_g v770 v771 v1744.1 v1738 v1739 v1744.2 s.1 s.1 (2 : Int)) fun v1746 =>
       (.grd (decide (v1746.2.1.length = v1744.1.length)) <|
       (.grd (decide (v1746.2.2.length = v1744.2.length)) <|
       (.br (!v1746.1) (
        .leaf (.inr (.inl ()))
       ) (
        (.need (some (impl_EchelonOf_l2_1_E v770 v771 v772 s.1 s.2.1 v1738 v1739 ((0 : Int), v1746.2.1, v1746.2.2)) = some (impl_EchelonOf_l2_1_E v770 v771 v772 s.1 s.2.1 v1738 v1739 ((0 : Int), v1746.2.1, v1746.2.2))) <|
        (.call (impl_EchelonOf_l2_1_g v770 v771 s.1 s.2.1 v1738 v1739 ((0 : Int), v1746.2.1, v1746.2.2)) fun v1780 =>
        (.sum v1780 (fun v1781 =>
         .leaf (.inr (.inl ()))
        ) (fun v1782 =>
         .leaf (.inl (IntKind.i64.wrap (s.1 + (1 : Int)), IntKind.i64.wrap (s.2.1 + (1 : Int)), v1782.1, v1782.2))
        ))))
       )))))
      ) (
       (.need (some (impl_EchelonOf_l2_1_E v770 v771 v772 s.1 s.2.1 v1738 v1739 ((0 : Int), v1744.1, v1744.2)) = some (impl_EchelonOf_l2_1_E v770 v771 v772 s.1 s.2.1 v1738 v1739 ((0 : Int), v1744.1, v1744.2))) <|
       (.call (impl_EchelonOf_l2_1_g v770 v771 s.1 s.2.1 v1738 v1739 ((0 : Int), v1744.1, v1744.2)) fun v1816 =>
       (.sum v1816 (fun v1817 =>
        .leaf (.inr (.inl ()))
       ) (fun v1818 =>
        .leaf (.inl (IntKind.i64.wrap (s.1 + (1 : Int)), IntKind.i64.wrap (s.2.1 + (1 : Int)), v1818.1, v1818.2))
       ))))
      )))))))
     )))
    )))))
   ) (
    .leaf (.inr (.inr (s.2.2.1, s.2.2.2)))
   ))
  ) (
   .leaf (.inr (.inr (s.2.2.1, s.2.2.2)))
  ))

noncomputable def impl_EchelonOf_l0_1_g (v770 : Int) (v771 : Int) (v772 : List Int) (v1738 : Int) (v1739 : Int) (s0 : Int × Int × (List Int) × (List Int)) : Option ((Unit) ⊕ ((List Int) × (List Int))) := whileM (fun s => (impl_EchelonOf_l0_1_T v770 v771 v772 v1738 v1739 s).run) s0
def impl_EchelonOf_l0_1_E (v770 : Int) (v771 : Int) (v772 : List Int) (v1738 : Int) (v1739 : Int) (s : Int × Int × (List Int) × (List Int)) : Sd := ([.top, .ptr 0 (0 : Nat) 0 (3 : Nat), .ptr 1 (0 : Nat) 0 (3 : Nat), .ptr 2 (0 : Nat) 0 (3 : Nat), .top, .ptr 3 (0 : Nat) 0 (6 : Nat), .int .i64 s.1, .int .i64 s.2.1, .top, .top, .top, .top, .top, .top, .top, .top, .top, .top, .top, .top, .top, .top, .top, .top, .top, .top, .top, .top, .top, .top, .top, .top, .top, .top, .top, .top, .top, .top, .top, .top, .top, .top, .top, .top, .top, .top, .top, .top, .top, .top, .top, .top, .top, .top, .top, .top, .top, .top, .top, .top, .top, .top, .top, .top, .top, .top, .top, .top, .top, .top, .top, .top, .top, .top, .top, .top, .top, .top, .top, .top, .top, .top, .top, .top, .top, .top, .top, .top, .top, .top, .top, .top, .top, .top, .top, .top, .top, .top, .top, .top, .top, .top, .top, .top], [.gen [.int .i64 v770, .int .i64 v771, .bslc (BR.root 0) (.i64 v772)] false 0, .gen [.int .i64 (0 : Int), .int .i64 (0 : Int), .nilslc] false 0, .gen [.int .i64 (0 : Int), .int .i64 (0 : Int), .nilslc] false 0, .gen [.int .i64 v770, .int .i64 v771, .own 4 0 ((s.2.2.1).length), .int .i64 v1738, .int .i64 v1739, .own 5 0 ((s.2.2.2).length)] false 0, .row (.i64 s.2.2.1) 0, .row (.i64 s.2.2.2) 0])
def impl_EchelonOf_l0_1_X (v770 : Int) (v771 : Int) (v772 : List Int) (v1738 : Int) (v1739 : Int) (x : (Unit) ⊕ ((List Int) × (List Int))) : Out := (match x with | .inl x => (.ret, [.top, .top, .ptr 0 (0 : Nat) 0 (3 : Nat), .ptr 1 (0 : Nat) 0 (3 : Nat), .lit false, .top, .top, .top, .top, .top, .top, .top, .top, .top, .top, .top, .top, .top, .top, .top, .top, .top, .top, .top, .top, .top, .top, .top, .top, .top, .top, .top, .top, .top, .top, .top, .top, .top, .top, .top, .top, .top, .top, .top, .top, .top, .top, .top, .top, .top, .top, .top, .top, .top, .top, .top, .top, .top, .top, .top, .top, .top, .top, .top, .top, .top, .top, .top, .top, .top, .top, .top, .top, .top, .top, .top, .top, .top, .top, .top, .top, .top, .top, .top, .top, .top, .top, .top, .top, .top, .top, .top, .top, .top, .top, .top, .top, .top, .top, .top, .top, .top, .top, .top], [.gen [.int .i64 (0 : Int), .int .i64 (0 : Int), .nilslc] false 0, .gen [.int .i64 (0 : Int), .int .i64 (0 : Int), .nilslc] false 0]) | .inr x => (.normal, [.top, .top, .ptr 0 (0 : Nat) 0 (3 : Nat), .ptr 1 (0 : Nat) 0 (3 : Nat), .top, .ptr 2 (0 : Nat) 0 (6 : Nat), .top, .top, .top, .top, .top, .top, .top, .top, .top, .top, .top, .top, .top, .top, .top, .top, .top, .top, .top, .top, .top, .top, .top, .top, .top, .top, .top, .top, .top, .top, .top, .top, .top, .top, .top, .top, .top, .top, .top, .top, .top, .top, .top, .top, .top, .top, .top, .top, .top, .top, .top, .top, .top, .top, .top, .top, .top, .top, .top, .top, .top, .top, .top, .top, .top, .top, .top, .top, .top, .top, .top, .top, .top, .top, .top, .top, .top, .top, .top, .top, .top, .top, .top, .top, .top, .top, .top, .top, .top, .top, .top, .top, .top, .top, .top, .top, .top, .top], [.gen [.int .i64 (0 : Int), .int .i64 (0 : Int), .nilslc] false 0, .gen [.int .i64 (0 : Int), .int .i64 (0 : Int), .nilslc] false 0, .gen [.int .i64 v770, .int .i64 v771, .own 3 0 ((x.1).length), .int .i64 v1738, .int .i64 v1739, .own 4 0 ((x.2).length)] false 0, .row (.i64 x.1) 0, .row (.i64 x.2) 0]))
def impl_EchelonOf_l0_1_kill : List Nat := [1, 0, 0, 0, 1, 0, 0, 0, 1, 1, 1, 1, 1, 1, 1, 1, 1, 1, 1, 1, 1, 1, 1, 1, 1, 1, 1, 1, 1, 1, 1, 1, 1, 1, 1, 1, 1, 1, 1, 1, 1, 1, 1, 1, 1, 1, 1, 1, 1, 1, 1, 1, 1, 1, 1, 1, 1, 1, 1, 1, 1, 1, 1, 1, 1, 1, 1, 1, 1, 1, 1, 1, 1, 1, 1, 1, 1, 1, 1, 1, 1, 1, 1, 1, 1, 1, 1, 1, 1, 1, 1, 1, 1, 1, 1, 1, 1, 1, 1, 1, 1, 1, 1, 1]
def impl_EchelonOf_l0_1_nx : Exit → List Nat
  | .exit 0 => [1, 1, 0, 0, 1, 0, 1, 1, 1, 1, 1, 1, 1, 1, 1, 1, 1, 1, 1, 1, 1, 1, 1, 1, 1, 1, 1, 1, 1, 1, 1, 1, 1, 1, 1, 1, 1, 1, 1, 1, 1, 1, 1, 1, 1, 1, 1, 1, 1, 1, 1, 1, 1, 1, 1, 1, 1, 1, 1, 1, 1, 1, 1, 1, 1, 1, 1, 1, 1, 1, 1, 1, 1, 1, 1, 1, 1, 1, 1, 1, 1, 1, 1, 1, 1, 1, 1, 1, 1, 1, 1, 1, 1, 1, 1, 1, 1, 1, 1, 1, 1, 1, 1, 1]
  | .ret => [1, 1, 0, 0, 0, 1, 1, 1, 1, 1, 1, 1, 1, 1, 1, 1, 1, 1, 1, 1, 1, 1, 1, 1, 1, 1, 1, 1, 1, 1, 1, 1, 1, 1, 1, 1, 1, 1, 1, 1, 1, 1, 1, 1, 1, 1, 1, 1, 1, 1, 1, 1, 1, 1, 1, 1, 1, 1, 1, 1, 1, 1, 1, 1, 1, 1, 1, 1, 1, 1, 1, 1, 1, 1, 1, 1, 1, 1, 1, 1, 1, 1, 1, 1, 1, 1, 1, 1, 1, 1, 1, 1, 1, 1, 1, 1, 1, 1, 1, 1, 1, 1, 1, 1]
  | _ => []
noncomputable def impl_EchelonOf_LO (v770 : Int) (v771 : Int) (v772 : List Int) : LOr := fun id e L =>
  match id with
  | 2 => (match (match (cAt L (vAt e 5) 5) with | .nilslc => true | _ => false) with | true => .need (normA 0 impl_EchelonOf_l2_kill e L = some (impl_EchelonOf_l2_E v770 v771 v772 (gI (vAt e 6)) (gI (vAt e 7)) (gI (cAt L (vAt e 5) 3)) (gI (cAt L (vAt e 5) 4)) ((gI (vAt e 76)), (gRI L (cAt L (vAt e 5) 2))))) (.call (impl_EchelonOf_l2_g v770 v771 (gI (vAt e 6)) (gI (vAt e 7)) (gI (cAt L (vAt e 5) 3)) (gI (cAt L (vAt e 5) 4)) ((gI (vAt e 76)), (gRI L (cAt L (vAt e 5) 2)))) fun x => .sum x (fun b0 => .leaf (impl_EchelonOf_l2_X v770 v771 v772 (gI (vAt e 6)) (gI (vAt e 7)) (gI (cAt L (vAt e 5) 3)) (gI (cAt L (vAt e 5) 4)) (.inl b0))) (fun c0 => .leaf (impl_EchelonOf_l2_X v770 v771 v772 (gI (vAt e 6)) (gI (vAt e 7)) (gI (cAt L (vAt e 5) 3)) (gI (cAt L (vAt e 5) 4)) (.inr c0)))) | false => .need (normA 0 impl_EchelonOf_l2_1_kill e L = some (impl_EchelonOf_l2_1_E v770 v771 v772 (gI (vAt e 6)) (gI (vAt e 7)) (gI (cAt L (vAt e 5) 3)) (gI (cAt L (vAt e 5) 4)) ((gI (vAt e 76)), (gRI L (cAt L (vAt e 5) 2)), (gRI L (cAt L (vAt e 5) 5))))) (.call (impl_EchelonOf_l2_1_g v770 v771 (gI (vAt e 6)) (gI (vAt e 7)) (gI (cAt L (vAt e 5) 3)) (gI (cAt L (vAt e 5) 4)) ((gI (vAt e 76)), (gRI L (cAt L (vAt e 5) 2)), (gRI L (cAt L (vAt e 5) 5)))) fun x => .sum x (fun b0 => .leaf (impl_EchelonOf_l2_1_X v770 v771 v772 (gI (vAt e 6)) (gI (vAt e 7)) (gI (cAt L (vAt e 5) 3)) (gI (cAt L (vAt e 5) 4)) (.inl b0))) (fun c0 => .leaf (impl_EchelonOf_l2_1_X v770 v771 v772 (gI (vAt e 6)) (gI (vAt e 7)) (gI (cAt L (vAt e 5) 3)) (gI (cAt L (vAt e 5) 4)) (.inr c0)))))
  | 0 => (match (match (cAt L (vAt e 5) 5) with | .nilslc => true | _ => false) with | true => .need (normA 0 impl_EchelonOf_l0_kill e L = some (impl_EchelonOf_l0_E v770 v771 v772 (gI (cAt L (vAt e 5) 3)) (gI (cAt L (vAt e 5) 4)) ((gI (vAt e 6)), (gI (vAt e 7)), (gRI L (cAt L (vAt e 5) 2))))) (.call (impl_EchelonOf_l0_g v770 v771 v772 (gI (cAt L (vAt e 5) 3)) (gI (cAt L (vAt e 5) 4)) ((gI (vAt e 6)), (gI (vAt e 7)), (gRI L (cAt L (vAt e 5) 2)))) fun x => .sum x (fun b0 => .leaf (impl_EchelonOf_l0_X v770 v771 v772 (gI (cAt L (vAt e 5) 3)) (gI (cAt L (vAt e 5) 4)) (.inl b0))) (fun c0 => .leaf (impl_EchelonOf_l0_X v770 v771 v772 (gI (cAt L (vAt e 5) 3)) (gI (cAt L (vAt e 5) 4)) (.inr c0)))) | false => .need (normA 0 impl_EchelonOf_l0_1_kill e L = some (impl_EchelonOf_l0_1_E v770 v771 v772 (gI (cAt L (vAt e 5) 3)) (gI (cAt L (vAt e 5) 4)) ((gI (vAt e 6)), (gI (vAt e 7)), (gRI L (cAt L (vAt e 5) 2)), (gRI L (cAt L (vAt e 5) 5))))) (.call (impl_EchelonOf_l0_1_g v770 v771 v772 (gI (cAt L (vAt e 5) 3)) (gI (cAt L (vAt e 5) 4)) ((gI (vAt e 6)), (gI (vAt e 7)), (gRI L (cAt L (vAt e 5) 2)), (gRI L (cAt L (vAt e 5) 5)))) fun x => .sum x (fun b0 => .leaf (impl_EchelonOf_l0_1_X v770 v771 v772 (gI (cAt L (vAt e 5) 3)) (gI (cAt L (vAt e 5) 4)) (.inl b0))) (fun c0 => .leaf (impl_EchelonOf_l0_1_X v770 v771 v772 (gI (cAt L (vAt e 5) 3)) (gI (cAt L (vAt e 5) 4)) (.inr c0)))))
  | _ => .fail
noncomputable def impl_EchelonOf_tab : List (FuncId × DFn × Bool) := [(65, impl_ValidWhole_F, true), (99, slices_CloneI_F, true), (110, impl_unitWhole_F, true), (111, (orD (fun args => match args with | [.agg [_, _, _, _, _, .nilslc], _, _] => true | _ => false) impl_echelon_clearColumn_i1_F impl_echelon_clearColumn_F), false), (112, impl_Whole_filled_F, true), (113, (orD (fun args => match args with | [.agg [_, _, _, _, _, .nilslc], _, _] => true | _ => false) impl_echelon_swap_i1_F impl_echelon_swap_F), false), (114, impl_Whole_at_F, true), (115, (orD (fun args => match args with | [.agg [_, _, _, _, _, .nilslc], _, _, _] => true | _ => false) impl_echelon_take_i1_F impl_echelon_take_F), false), (116, impl_floorDiv_F, true)]
theorem impl_EchelonOf_hO : OrcOk Try.prog (tabD impl_EchelonOf_tab) (tabM impl_EchelonOf_tab) := tabD_cons impl_ValidWhole_Fok (tabD_cons slices_CloneI_Fok (tabD_cons impl_unitWhole_Fok (tabD_cons (orD_ok impl_echelon_clearColumn_i1_Fok impl_echelon_clearColumn_Fok) (tabD_cons impl_Whole_filled_Fok (tabD_cons (orD_ok impl_echelon_swap_i1_Fok impl_echelon_swap_Fok) (tabD_cons impl_Whole_at_Fok (tabD_cons (orD_ok impl_echelon_take_i1_Fok impl_echelon_take_Fok) (tabD_cons impl_floorDiv_Fok (tabD_nil _)))))))))
theorem impl_EchelonOf_l2_be (v770 : Int) (v771 : Int) (v772 : List Int) (v1522 : Int) (v1523 : Int) (v1525 : Int) (v1526 : Int) (s : Int × (List Int)) : bodyT TT (tabD impl_EchelonOf_tab) (tabM impl_EchelonOf_tab) (impl_EchelonOf_LO v770 v771 v772) 0 impl_EchelonOf_l2_kill impl_EchelonOf_l2_nx (bodyOf Try.f42 2) 2 (impl_EchelonOf_l2_E v770 v771 v772 v1522 v1523 v1525 v1526 s) = (impl_EchelonOf_l2_T v770 v771 v1522 v1523 v1525 v1526 s).bind fun y => .leaf (outS (impl_EchelonOf_l2_E v770 v771 v772 v1522 v1523 v1525 v1526) (impl_EchelonOf_l2_X v770 v771 v772 v1522 v1523 v1525 v1526) y) := by kernel_rfl
theorem impl_EchelonOf_l2_1_be (v770 : Int) (v771 : Int) (v772 : List Int) (v1769 : Int) (v1770 : Int) (v1772 : Int) (v1773 : Int) (s : Int × (List Int) × (List Int)) : bodyT TT (tabD impl_EchelonOf_tab) (tabM impl_EchelonOf_tab) (impl_EchelonOf_LO v770 v771 v772) 0 impl_EchelonOf_l2_1_kill impl_EchelonOf_l2_1_nx (bodyOf Try.f42 2) 2 (impl_EchelonOf_l2_1_E v770 v771 v772 v1769 v1770 v1772 v1773 s) = (impl_EchelonOf_l2_1_T v770 v771 v1769 v1770 v1772 v1773 s).bind fun y => .leaf (outS (impl_EchelonOf_l2_1_E v770 v771 v772 v1769 v1770 v1772 v1773) (impl_EchelonOf_l2_1_X v770 v771 v772 v1769 v1770 v1772 v1773) y) := by kernel_rfl
theorem impl_EchelonOf_l2_ok (v770 : Int) (v771 : Int) (v772 : List Int) : LSound Try.prog 0 (impl_EchelonOf_LO v770 v771 v772) 2 (bodyOf Try.f42 2) := by
  intro e L out h
  change (match (match (cAt L (vAt e 5) 5) with | .nilslc => true | _ => false) with | true => _ | false => _ : Tree Out).run = some out at h
  split at h
  · exact lo_ok (E := impl_EchelonOf_l2_E v770 v771 v772 (gI (vAt e 6)) (gI (vAt e 7)) (gI (cAt L (vAt e 5) 3)) (gI (cAt L (vAt e 5) 4))) (gT := impl_EchelonOf_l2_T v770 v771 (gI (vAt e 6)) (gI (vAt e 7)) (gI (cAt L (vAt e 5) 3)) (gI (cAt L (vAt e 5) 4))) (X := impl_EchelonOf_l2_X v770 v771 v772 (gI (vAt e 6)) (gI (vAt e 7)) (gI (cAt L (vAt e 5) 3)) (gI (cAt L (vAt e 5) 4))) (s0 := ((gI (vAt e 76)), (gRI L (cAt L (vAt e 5) 2)))) tok impl_EchelonOf_hO mixed (LoopsOk_eq (l := []) (by kernel_rfl) trivial) (impl_EchelonOf_l2_be v770 v771 v772 (gI (vAt e 6)) (gI (vAt e 7)) (gI (cAt L (vAt e 5) 3)) (gI (cAt L (vAt e 5) 4))) rfl (by intro x; (cases x with | inl b => rfl | inr x => exact rfl)) h
  ·
    exact lo_ok (E := impl_EchelonOf_l2_1_E v770 v771 v772 (gI (vAt e 6)) (gI (vAt e 7)) (gI (cAt L (vAt e 5) 3)) (gI (cAt L (vAt e 5) 4))) (gT := impl_EchelonOf_l2_1_T v770 v771 (gI (vAt e 6)) (gI (vAt e 7)) (gI (cAt L (vAt e 5) 3)) (gI (cAt L (vAt e 5) 4))) (X := impl_EchelonOf_l2_1_X v770 v771 v772 (gI (vAt e 6)) (gI (vAt e 7)) (gI (cAt L (vAt e 5) 3)) (gI (cAt L (vAt e 5) 4))) (s0 := ((gI (vAt e 76)), (gRI L (cAt L (vAt e 5) 2)), (gRI L (cAt L (vAt e 5) 5)))) tok impl_EchelonOf_hO mixed (LoopsOk_eq (l := []) (by kernel_rfl) trivial) (impl_EchelonOf_l2_1_be v770 v771 v772 (gI (vAt e 6)) (gI (vAt e 7)) (gI (cAt L (vAt e 5) 3)) (gI (cAt L (vAt e 5) 4))) rfl (by intro x; (cases x with | inl b => rfl | inr x => exact rfl)) h
theorem impl_EchelonOf_l0_be (v770 : Int) (v771 : Int) (v772 : List Int) (v1494 : Int) (v1495 : Int) (s : Int × Int × (List Int)) : bodyT TT (tabD impl_EchelonOf_tab) (tabM impl_EchelonOf_tab) (impl_EchelonOf_LO v770 v771 v772) 0 impl_EchelonOf_l0_kill impl_EchelonOf_l0_nx (bodyOf Try.f42 0) 0 (impl_EchelonOf_l0_E v770 v771 v772 v1494 v1495 s) = (impl_EchelonOf_l0_T v770 v771 v772 v1494 v1495 s).bind fun y => .leaf (outS (impl_EchelonOf_l0_E v770 v771 v772 v1494 v1495) (impl_EchelonOf_l0_X v770 v771 v772 v1494 v1495) y) := by kernel_rfl
theorem impl_EchelonOf_l0_1_be (v770 : Int) (v771 : Int) (v772 : List Int) (v1738 : Int) (v1739 : Int) (s : Int × Int × (List Int) × (List Int)) : bodyT TT (tabD impl_EchelonOf_tab) (tabM impl_EchelonOf_tab) (impl_EchelonOf_LO v770 v771 v772) 0 impl_EchelonOf_l0_1_kill impl_EchelonOf_l0_1_nx (bodyOf Try.f42 0) 0 (impl_EchelonOf_l0_1_E v770 v771 v772 v1738 v1739 s) = (impl_EchelonOf_l0_1_T v770 v771 v772 v1738 v1739 s).bind fun y => .leaf (outS (impl_EchelonOf_l0_1_E v770 v771 v772 v1738 v1739) (impl_EchelonOf_l0_1_X v770 v771 v772 v1738 v1739) y) := by kernel_rfl
theorem impl_EchelonOf_l0_ok (v770 : Int) (v771 : Int) (v772 : List Int) : LSound Try.prog 0 (impl_EchelonOf_LO v770 v771 v772) 0 (bodyOf Try.f42 0) := by
  intro e L out h
  change (match (match (cAt L (vAt e 5) 5) with | .nilslc => true | _ => false) with | true => _ | false => _ : Tree Out).run = some out at h
  split at h
  · exact lo_ok (E := impl_EchelonOf_l0_E v770 v771 v772 (gI (cAt L (vAt e 5) 3)) (gI (cAt L (vAt e 5) 4))) (gT := impl_EchelonOf_l0_T v770 v771 v772 (gI (cAt L (vAt e 5) 3)) (gI (cAt L (vAt e 5) 4))) (X := impl_EchelonOf_l0_X v770 v771 v772 (gI (cAt L (vAt e 5) 3)) (gI (cAt L (vAt e 5) 4))) (s0 := ((gI (vAt e 6)), (gI (vAt e 7)), (gRI L (cAt L (vAt e 5) 2)))) tok impl_EchelonOf_hO mixed (LoopsOk_eq (l := [(2, bodyOf Try.f42 2)]) (by kernel_rfl) ⟨impl_EchelonOf_l2_ok v770 v771 v772, trivial⟩) (impl_EchelonOf_l0_be v770 v771 v772 (gI (cAt L (vAt e 5) 3)) (gI (cAt L (vAt e 5) 4))) rfl (by intro x; (cases x with | inl b => rfl | inr x => exact rfl)) h
  ·
    exact lo_ok (E := impl_EchelonOf_l0_1_E v770 v771 v772 (gI (cAt L (vAt e 5) 3)) (gI (cAt L (vAt e 5) 4))) (gT := impl_EchelonOf_l0_1_T v770 v771 v772 (gI (cAt L (vAt e 5) 3)) (gI (cAt L (vAt e 5) 4))) (X := impl_EchelonOf_l0_1_X v770 v771 v772 (gI (cAt L (vAt e 5) 3)) (gI (cAt L (vAt e 5) 4))) (s0 := ((gI (vAt e 6)), (gI (vAt e 7)), (gRI L (cAt L (vAt e 5) 2)), (gRI L (cAt L (vAt e 5) 5)))) tok impl_EchelonOf_hO mixed (LoopsOk_eq (l := [(2, bodyOf Try.f42 2)]) (by kernel_rfl) ⟨impl_EchelonOf_l2_ok v770 v771 v772, trivial⟩) (impl_EchelonOf_l0_1_be v770 v771 v772 (gI (cAt L (vAt e 5) 3)) (gI (cAt L (vAt e 5) 4))) rfl (by intro x; (cases x with | inl b => rfl | inr x => exact rfl)) h
noncomputable def impl_EchelonOf_T (v770 : Int) (v771 : Int) (v772 : List Int) : Tree ((Unit) ⊕ ((Int × Int × Int × Int × (List Int)) ⊕ (Int × Int × Int × Int × (List Int) × (List Int)))) :=
  (.call (impl_ValidWhole_g v770 v771 v772) fun v806 =>
  (.br (!v806) (
   .leaf (.inl ())
  ) (
   (.call (slices_CloneI_g v772) fun v808 =>
   (.call (impl_unitWhole_g v770) fun v885 =>
   (.sum v885 (fun v886 =>
    (.need (some (impl_EchelonOf_l0_E v770 v771 v772 v886.1 v886.2 ((0 : Int), (0 : Int), ([] : List Int) ++ v772)) = some (impl_EchelonOf_l0_E v770 v771 v772 v886.1 v886.2 ((0 : Int), (0 : Int), ([] : List Int) ++ v772))) <|
    (.call (impl_EchelonOf_l0_g v770 v771 v772 v886.1 v886.2 ((0 : Int), (0 : Int), ([] : List Int) ++ v772)) fun v1568 =>
    (.sum v1568 (fun v1569 =>
     .leaf (.inl ())
    ) (fun v1570 =>
     .leaf (.inr (.inl (v770, v771, v886.1, v886.2, v1570)))
    ))))
   ) (fun v887 =>
    (.need (some (impl_EchelonOf_l0_1_E v770 v771 v772 v887.1 v887.2.1 ((0 : Int), (0 : Int), ([] : List Int) ++ v772, v887.2.2)) = some (impl_EchelonOf_l0_1_E v770 v771 v772 v887.1 v887.2.1 ((0 : Int), (0 : Int), ([] : List Int) ++ v772, v887.2.2))) <|
    (.call (impl_EchelonOf_l0_1_g v770 v771 v772 v887.1 v887.2.1 ((0 : Int), (0 : Int), ([] : List Int) ++ v772, v887.2.2)) fun v1819 =>
    (.sum v1819 (fun v1820 =>
     .leaf (.inl ())
    ) (fun v1821 =>
     .leaf (.inr (.inr (v770, v771, v887.1, v887.2.1, v1821.1, v1821.2)))
    ))))
   ))))
  )))

noncomputable def impl_EchelonOf_g (v770 : Int) (v771 : Int) (v772 : List Int) : Option ((Unit) ⊕ ((Int × Int × Int × Int × (List Int)) ⊕ (Int × Int × Int × Int × (List Int) × (List Int)))) := (impl_EchelonOf_T v770 v771 v772).run
def impl_EchelonOf_enc (v770 : Int) (v771 : Int) (v772 : List Int) (y : (Unit) ⊕ ((Int × Int × Int × Int × (List Int)) ⊕ (Int × Int × Int × Int × (List Int) × (List Int)))) : Rs := (match y with | .inl y => (.tup [.agg [.int .i64 (0 : Int), .int .i64 (0 : Int), .nilslc], .agg [.int .i64 (0 : Int), .int .i64 (0 : Int), .nilslc], .lit false], []) | .inr y => (match y with | .inl y => (.tup [.agg [.int .i64 y.1, .int .i64 y.2.1, .own 0 0 ((y.2.2.2.2).length)], .agg [.int .i64 y.2.2.1, .int .i64 y.2.2.2.1, .nilslc], .lit true], [.row (.i64 y.2.2.2.2) 0]) | .inr y => (.tup [.agg [.int .i64 y.1, .int .i64 y.2.1, .own 0 0 ((y.2.2.2.2.1).length)], .agg [.int .i64 y.2.2.1, .int .i64 y.2.2.2.1, .own 1 0 ((y.2.2.2.2.2).length)], .lit true], [.row (.i64 y.2.2.2.2.1) 0, .row (.i64 y.2.2.2.2.2) 0])))
theorem impl_EchelonOf_den (v770 : Int) (v771 : Int) (v772 : List Int) : (den TT (tabD impl_EchelonOf_tab) (tabM impl_EchelonOf_tab) (impl_EchelonOf_LO v770 v771 v772) (codeOf Try.f42) ([.agg [.int .i64 v770, .int .i64 v771, .bslc (BR.root 0) (.i64 v772)]] ++ List.replicate (Try.f42.ntmps - ([.agg [.int .i64 v770, .int .i64 v771, .bslc (BR.root 0) (.i64 v772)]] : List DV).length) .undef) []).bind (retD TT Try.f42.results.toList 0) = (impl_EchelonOf_T v770 v771 v772).bind fun y => .leaf (impl_EchelonOf_enc v770 v771 v772 y) := by kernel_rfl
theorem impl_EchelonOf_fn (v770 : Int) (v771 : Int) (v772 : List Int) (F : Fr) (hm : F.ids.length = 0) (h0 : St F [] F.H0) (hA : DVs.Ok F [] [.agg [.int .i64 v770, .int .i64 v771, .bslc (BR.root 0) (.i64 v772)]]) {y : (Unit) ⊕ ((Int × Int × Int × Int × (List Int)) ⊕ (Int × Int × Int × Int × (List Int) × (List Int)))} (hy : impl_EchelonOf_g v770 v771 v772 = some y) : ∃ H', FnOk Try.prog 42 (DVs.av F [.agg [.int .i64 v770, .int .i64 v771, .bslc (BR.root 0) (.i64 v772)]]) F.H0 ((impl_EchelonOf_enc v770 v771 v772 y).1.av F) H' ∧ St F (impl_EchelonOf_enc v770 v771 v772 y).2 H' ∧ (impl_EchelonOf_enc v770 v771 v772 y).1.Ok F (impl_EchelonOf_enc v770 v771 v772 y).2 :=
  fn_fin tok impl_EchelonOf_hO mixed Try.func42 Try.call42 (by kernel_rfl) (LoopsOk_eq (l := [(0, bodyOf Try.f42 0)]) (by kernel_rfl) ⟨impl_EchelonOf_l0_ok v770 v771 v772, trivial⟩) (impl_EchelonOf_den v770 v771 v772) hy hm h0 hA
noncomputable def impl_EchelonOf_F : DFn := fun args L =>
  match args with
  | [.agg [.int .i64 v770, .int .i64 v771, a1]] =>
    optT (rowI64 L a1) fun v772 =>
    .call (impl_EchelonOf_g v770 v771 v772) fun y => .sum y (fun y0 => .leaf (.tup [.agg [.int .i64 (0 : Int), .int .i64 (0 : Int), .nilslc], .agg [.int .i64 (0 : Int), .int .i64 (0 : Int), .nilslc], .lit false], L)) (fun z0 => .sum z0 (fun y1 => .leaf (.tup [.agg [.int .i64 y1.1, .int .i64 y1.2.1, .own (L.length + 0) 0 ((y1.2.2.2.2).length)], .agg [.int .i64 y1.2.2.1, .int .i64 y1.2.2.2.1, .nilslc], .lit true], L ++ [.row (.i64 y1.2.2.2.2) 0])) (fun z1 => .leaf (.tup [.agg [.int .i64 z1.1, .int .i64 z1.2.1, .own (L.length + 0) 0 ((z1.2.2.2.2.1).length)], .agg [.int .i64 z1.2.2.1, .int .i64 z1.2.2.2.1, .own (L.length + 1) 0 ((z1.2.2.2.2.2).length)], .lit true], L ++ [.row (.i64 z1.2.2.2.2.1) 0, .row (.i64 z1.2.2.2.2.2) 0])))
  | _ => .fail
theorem impl_EchelonOf_Fok : COk Try.prog 42 impl_EchelonOf_F true := by
  intro F L H args r L' hs ha hr
  unfold impl_EchelonOf_F at hr
  split at hr
  · rename_i v770 v771 a1
    obtain ⟨v772, hv772, hr⟩ := optT_run hr
    simp only [Tree.run] at hr
    obtain ⟨y, hy, hr⟩ := Option.bind_eq_some_iff.1 hr
    cases y with
    | inl y =>
      simp only [Tree.run, Option.some.injEq, Prod.mk.injEq] at hr
      obtain ⟨rfl, rfl⟩ := hr
      exact call_ok0 hs (fun k => (([a1.av F] : List AV)[k]?).getD .top) [.agg [.int .i64 v770, .int .i64 v771, a1]] [.agg [.int .i64 v770, .int .i64 v771, .bslc (BR.root 0) (.i64 v772)]] (fun F' h0 hi hρ => ⟨by simp [DVs.av, DV.av, BR.av, hρ], impl_EchelonOf_fn v770 v771 v772 F' (by rw [hi]; rfl) (st_nil hi) ⟨⟨trivial, trivial, bslc_ok hi (by rw [h0, hρ]; exact rowI64_ok hs (DVs.okAt (DVs.okAt ha 0 rfl) 2 rfl) hv772), trivial⟩, trivial⟩ hy⟩) rfl
    | inr y =>
      cases y with
      | inl y =>
        simp only [Tree.run, Option.some.injEq, Prod.mk.injEq] at hr
        obtain ⟨rfl, rfl⟩ := hr
        exact call_ok1 hs (fun k => (([a1.av F] : List AV)[k]?).getD .top) [.agg [.int .i64 v770, .int .i64 v771, a1]] [.agg [.int .i64 v770, .int .i64 v771, .bslc (BR.root 0) (.i64 v772)]] (fun F' h0 hi hρ => ⟨by simp [DVs.av, DV.av, BR.av, hρ], impl_EchelonOf_fn v770 v771 v772 F' (by rw [hi]; rfl) (st_nil hi) ⟨⟨trivial, trivial, bslc_ok hi (by rw [h0, hρ]; exact rowI64_ok hs (DVs.okAt (DVs.okAt ha 0 rfl) 2 rfl) hv772), trivial⟩, trivial⟩ hy⟩) rfl rfl
      | inr y =>
        simp only [Tree.run, Option.some.injEq, Prod.mk.injEq] at hr
        obtain ⟨rfl, rfl⟩ := hr
        exact call_ok1 hs (fun k => (([a1.av F] : List AV)[k]?).getD .top) [.agg [.int .i64 v770, .int .i64 v771, a1]] [.agg [.int .i64 v770, .int .i64 v771, .bslc (BR.root 0) (.i64 v772)]] (fun F' h0 hi hρ => ⟨by simp [DVs.av, DV.av, BR.av, hρ], impl_EchelonOf_fn v770 v771 v772 F' (by rw [hi]; rfl) (st_nil hi) ⟨⟨trivial, trivial, bslc_ok hi (by rw [h0, hρ]; exact rowI64_ok hs (DVs.okAt (DVs.okAt ha 0 rfl) 2 rfl) hv772), trivial⟩, trivial⟩ hy⟩) rfl rfl
  · cases hr
/-! laws.eqInt64S -/
noncomputable def laws_eqInt64S_l0_T (v1831 : List Int) (v1832 : List Int) (s : Int) : Tree ((Int) ⊕ ((Unit) ⊕ (Unit))) :=
  (.br (decide (s < ((v1831.length : Nat) : Int))) (
   (.grd (inb s v1831.length) <|
   (.grd (inb s v1832.length) <|
   (.br (!decide (nth v1831 (Int.toNat s) = nth v1832 (Int.toNat s))) (
    .leaf (.inr (.inl ()))
   ) (
    .leaf (.inl (IntKind.i64.wrap (s + (1 : Int))))
   ))))
  ) (
   .leaf (.inr (.inr ()))
  ))

noncomputable def laws_eqInt64S_l0_g (v1831 : List Int) (v1832 : List Int) (s0 : Int) : Option ((Unit) ⊕ (Unit)) := whileM (fun s => (laws_eqInt64S_l0_T v1831 v1832 s).run) s0
def laws_eqInt64S_l0_E (v1831 : List Int) (v1832 : List Int) (s : Int) : Sd := ([.bslc (BR.root 0) (.i64 v1831), .bslc (BR.root 1) (.i64 v1832), .top, .top, .top, .int .i64 s, .top, .top, .top, .top, .top, .top, .top, .top, .top, .top, .top, .top, .top, .top, .top, .top, .top, .top, .top, .top], [])
def laws_eqInt64S_l0_X (v1831 : List Int) (v1832 : List Int) (x : (Unit) ⊕ (Unit)) : Out := (match x with | .inl x => (.ret, [.top, .top, .top, .top, .lit false, .top, .top, .top, .top, .top, .top, .top, .top, .top, .top, .top, .top, .top, .top, .top, .top, .top, .top, .top, .top, .top], []) | .inr x => (.normal, [.top, .top, .top, .top, .top, .top, .top, .top, .top, .top, .top, .top, .top, .top, .top, .top, .top, .top, .top, .top, .top, .top, .top, .top, .top, .top], []))
def laws_eqInt64S_l0_kill : List Nat := [0, 0, 1, 1, 1, 0, 1, 1, 1, 1, 1, 1, 1, 1, 1, 1, 1, 1, 1, 1, 1, 1, 1, 1, 1, 1]
def laws_eqInt64S_l0_nx : Exit → List Nat
  | .exit 0 => [1, 1, 1, 1, 1, 1, 1, 1, 1, 1, 1, 1, 1, 1, 1, 1, 1, 1, 1, 1, 1, 1, 1, 1, 1, 1]
  | .ret => [1, 1, 1, 1, 0, 1, 1, 1, 1, 1, 1, 1, 1, 1, 1, 1, 1, 1, 1, 1, 1, 1, 1, 1, 1, 1]
  | _ => []
noncomputable def laws_eqInt64S_LO (v1831 : List Int) (v1832 : List Int) : LOr := fun id e L =>
  match id with
  | 0 => .need (normA 0 laws_eqInt64S_l0_kill e L = some (laws_eqInt64S_l0_E v1831 v1832 (gI (vAt e 5)))) (.call (laws_eqInt64S_l0_g v1831 v1832 (gI (vAt e 5))) fun x => .sum x (fun b0 => .leaf (laws_eqInt64S_l0_X v1831 v1832 (.inl b0))) (fun c0 => .leaf (laws_eqInt64S_l0_X v1831 v1832 (.inr c0))))
  | _ => .fail
noncomputable def laws_eqInt64S_tab : List (FuncId × DFn × Bool) := []
theorem laws_eqInt64S_hO : OrcOk Try.prog (tabD laws_eqInt64S_tab) (tabM laws_eqInt64S_tab) := tabD_nil _
theorem laws_eqInt64S_l0_be (v1831 : List Int) (v1832 : List Int) (s : Int) : bodyT TT (tabD laws_eqInt64S_tab) (tabM laws_eqInt64S_tab) (laws_eqInt64S_LO v1831 v1832) 0 laws_eqInt64S_l0_kill laws_eqInt64S_l0_nx (bodyOf Try.f25 0) 0 (laws_eqInt64S_l0_E v1831 v1832 s) = (laws_eqInt64S_l0_T v1831 v1832 s).bind fun y => .leaf (outS (laws_eqInt64S_l0_E v1831 v1832) (laws_eqInt64S_l0_X v1831 v1832) y) := by kernel_rfl
theorem laws_eqInt64S_l0_ok (v1831 : List Int) (v1832 : List Int) : LSound Try.prog 0 (laws_eqInt64S_LO v1831 v1832) 0 (bodyOf Try.f25 0) := by
  intro e L out h
  exact lo_ok (E := laws_eqInt64S_l0_E v1831 v1832) (gT := laws_eqInt64S_l0_T v1831 v1832) (X := laws_eqInt64S_l0_X v1831 v1832) (s0 := (gI (vAt e 5))) tok laws_eqInt64S_hO mixed (LoopsOk_eq (l := []) (by kernel_rfl) trivial) (laws_eqInt64S_l0_be v1831 v1832) rfl (by intro x; (cases x with | inl b => rfl | inr x => exact rfl)) h
noncomputable def laws_eqInt64S_T (v1831 : List Int) (v1832 : List Int) : Tree (Bool) :=
  (.br (!decide (((v1831.length : Nat) : Int) = ((v1832.length : Nat) : Int))) (
   .leaf false
  ) (
   (.need (some (laws_eqInt64S_l0_E v1831 v1832 (0 : Int)) = some (laws_eqInt64S_l0_E v1831 v1832 (0 : Int))) <|
   (.call (laws_eqInt64S_l0_g v1831 v1832 (0 : Int)) fun v1836 =>
   (.sum v1836 (fun v1837 =>
    .leaf false
   ) (fun v1838 =>
    .leaf true
   ))))
  ))

noncomputable def laws_eqInt64S_g (v1831 : List Int) (v1832 : List Int) : Option (Bool) := (laws_eqInt64S_T v1831 v1832).run
def laws_eqInt64S_enc (v1831 : List Int) (v1832 : List Int) (y : Bool) : Rs := (.bool y, [])
theorem laws_eqInt64S_den (v1831 : List Int) (v1832 : List Int) : (den TT (tabD laws_eqInt64S_tab) (tabM laws_eqInt64S_tab) (laws_eqInt64S_LO v1831 v1832) (codeOf Try.f25) ([.bslc (BR.root 0) (.i64 v1831), .bslc (BR.root 1) (.i64 v1832)] ++ List.replicate (Try.f25.ntmps - ([.bslc (BR.root 0) (.i64 v1831), .bslc (BR.root 1) (.i64 v1832)] : List DV).length) .undef) []).bind (retD TT Try.f25.results.toList 0) = (laws_eqInt64S_T v1831 v1832).bind fun y => .leaf (laws_eqInt64S_enc v1831 v1832 y) := by kernel_rfl
theorem laws_eqInt64S_fn (v1831 : List Int) (v1832 : List Int) (F : Fr) (hm : F.ids.length = 0) (h0 : St F [] F.H0) (hA : DVs.Ok F [] [.bslc (BR.root 0) (.i64 v1831), .bslc (BR.root 1) (.i64 v1832)]) {y : Bool} (hy : laws_eqInt64S_g v1831 v1832 = some y) : ∃ H', FnOk Try.prog 25 (DVs.av F [.bslc (BR.root 0) (.i64 v1831), .bslc (BR.root 1) (.i64 v1832)]) F.H0 ((laws_eqInt64S_enc v1831 v1832 y).1.av F) H' ∧ St F (laws_eqInt64S_enc v1831 v1832 y).2 H' ∧ (laws_eqInt64S_enc v1831 v1832 y).1.Ok F (laws_eqInt64S_enc v1831 v1832 y).2 :=
  fn_fin tok laws_eqInt64S_hO mixed Try.func25 Try.call25 (by kernel_rfl) (LoopsOk_eq (l := [(0, bodyOf Try.f25 0)]) (by kernel_rfl) ⟨laws_eqInt64S_l0_ok v1831 v1832, trivial⟩) (laws_eqInt64S_den v1831 v1832) hy hm h0 hA
noncomputable def laws_eqInt64S_F : DFn := fun args L =>
  match args with
  | [a1, a2] =>
    optT (rowI64 L a1) fun v1831 =>
    optT (rowI64 L a2) fun v1832 =>
    .call (laws_eqInt64S_g v1831 v1832) fun y => .leaf (.bool y, L)
  | _ => .fail
theorem laws_eqInt64S_Fok : COk Try.prog 25 laws_eqInt64S_F true := by
  intro F L H args r L' hs ha hr
  unfold laws_eqInt64S_F at hr
  split at hr
  · rename_i a1 a2
    obtain ⟨v1831, hv1831, hr⟩ := optT_run hr
    obtain ⟨v1832, hv1832, hr⟩ := optT_run hr
    simp only [Tree.run] at hr
    obtain ⟨y, hy, hr⟩ := Option.bind_eq_some_iff.1 hr
    simp only [Tree.run, Option.some.injEq, Prod.mk.injEq] at hr
    obtain ⟨rfl, rfl⟩ := hr
    exact call_ok0 hs (fun k => (([a1.av F, a2.av F] : List AV)[k]?).getD .top) [a1, a2] [.bslc (BR.root 0) (.i64 v1831), .bslc (BR.root 1) (.i64 v1832)] (fun F' h0 hi hρ => ⟨by simp [DVs.av, DV.av, BR.av, hρ], laws_eqInt64S_fn v1831 v1832 F' (by rw [hi]; rfl) (st_nil hi) ⟨bslc_ok hi (by rw [h0, hρ]; exact rowI64_ok hs (DVs.okAt ha 0 rfl) hv1831), bslc_ok hi (by rw [h0, hρ]; exact rowI64_ok hs (DVs.okAt ha 1 rfl) hv1832), trivial⟩ hy⟩) rfl
  · cases hr
/-! laws.eqWhole -/
noncomputable def laws_eqWhole_LO (v1825 : Int) (v1826 : Int) (v1827 : List Int) (v1828 : Int) (v1829 : Int) (v1830 : List Int) : LOr := fun id e L =>
  match id with
  | _ => .fail
noncomputable def laws_eqWhole_tab : List (FuncId × DFn × Bool) := [(25, laws_eqInt64S_F, true)]
theorem laws_eqWhole_hO : OrcOk Try.prog (tabD laws_eqWhole_tab) (tabM laws_eqWhole_tab) := tabD_cons laws_eqInt64S_Fok (tabD_nil _)
noncomputable def laws_eqWhole_T (v1825 : Int) (v1826 : Int) (v1827 : List Int) (v1828 : Int) (v1829 : Int) (v1830 : List Int) : Tree (Bool) :=
  (.br (!decide (v1825 = v1828)) (
   .leaf false
  ) (
   (.br (!decide (v1826 = v1829)) (
    .leaf false
   ) (
    (.call (laws_eqInt64S_g v1827 v1830) fun v1839 =>
    (.br (!v1839) (
     .leaf false
    ) (
     .leaf true
    )))
   ))
  ))

noncomputable def laws_eqWhole_g (v1825 : Int) (v1826 : Int) (v1827 : List Int) (v1828 : Int) (v1829 : Int) (v1830 : List Int) : Option (Bool) := (laws_eqWhole_T v1825 v1826 v1827 v1828 v1829 v1830).run
def laws_eqWhole_enc (v1825 : Int) (v1826 : Int) (v1827 : List Int) (v1828 : Int) (v1829 : Int) (v1830 : List Int) (y : Bool) : Rs := (.bool y, [])
theorem laws_eqWhole_den (v1825 : Int) (v1826 : Int) (v1827 : List Int) (v1828 : Int) (v1829 : Int) (v1830 : List Int) : (den TT (tabD laws_eqWhole_tab) (tabM laws_eqWhole_tab) (laws_eqWhole_LO v1825 v1826 v1827 v1828 v1829 v1830) (codeOf Try.f19) ([.agg [.int .i64 v1825, .int .i64 v1826, .bslc (BR.root 0) (.i64 v1827)], .agg [.int .i64 v1828, .int .i64 v1829, .bslc (BR.root 1) (.i64 v1830)]] ++ List.replicate (Try.f19.ntmps - ([.agg [.int .i64 v1825, .int .i64 v1826, .bslc (BR.root 0) (.i64 v1827)], .agg [.int .i64 v1828, .int .i64 v1829, .bslc (BR.root 1) (.i64 v1830)]] : List DV).length) .undef) []).bind (retD TT Try.f19.results.toList 0) = (laws_eqWhole_T v1825 v1826 v1827 v1828 v1829 v1830).bind fun y => .leaf (laws_eqWhole_enc v1825 v1826 v1827 v1828 v1829 v1830 y) := by kernel_rfl
theorem laws_eqWhole_fn (v1825 : Int) (v1826 : Int) (v1827 : List Int) (v1828 : Int) (v1829 : Int) (v1830 : List Int) (F : Fr) (hm : F.ids.length = 0) (h0 : St F [] F.H0) (hA : DVs.Ok F [] [.agg [.int .i64 v1825, .int .i64 v1826, .bslc (BR.root 0) (.i64 v1827)], .agg [.int .i64 v1828, .int .i64 v1829, .bslc (BR.root 1) (.i64 v1830)]]) {y : Bool} (hy : laws_eqWhole_g v1825 v1826 v1827 v1828 v1829 v1830 = some y) : ∃ H', FnOk Try.prog 19 (DVs.av F [.agg [.int .i64 v1825, .int .i64 v1826, .bslc (BR.root 0) (.i64 v1827)], .agg [.int .i64 v1828, .int .i64 v1829, .bslc (BR.root 1) (.i64 v1830)]]) F.H0 ((laws_eqWhole_enc v1825 v1826 v1827 v1828 v1829 v1830 y).1.av F) H' ∧ St F (laws_eqWhole_enc v1825 v1826 v1827 v1828 v1829 v1830 y).2 H' ∧ (laws_eqWhole_enc v1825 v1826 v1827 v1828 v1829 v1830 y).1.Ok F (laws_eqWhole_enc v1825 v1826 v1827 v1828 v1829 v1830 y).2 :=
  fn_fin tok laws_eqWhole_hO mixed Try.func19 Try.call19 (by kernel_rfl) (LoopsOk_eq (l := []) (by kernel_rfl) trivial) (laws_eqWhole_den v1825 v1826 v1827 v1828 v1829 v1830) hy hm h0 hA
noncomputable def laws_eqWhole_F : DFn := fun args L =>
  match args with
  | [.agg [.int .i64 v1825, .int .i64 v1826, a1], .agg [.int .i64 v1828, .int .i64 v1829, a2]] =>
    optT (rowI64 L a1) fun v1827 =>
    optT (rowI64 L a2) fun v1830 =>
    .call (laws_eqWhole_g v1825 v1826 v1827 v1828 v1829 v1830) fun y => .leaf (.bool y, L)
  | _ => .fail
theorem laws_eqWhole_Fok : COk Try.prog 19 laws_eqWhole_F true := by
  intro F L H args r L' hs ha hr
  unfold laws_eqWhole_F at hr
  split at hr
  · rename_i v1825 v1826 a1 v1828 v1829 a2
    obtain ⟨v1827, hv1827, hr⟩ := optT_run hr
    obtain ⟨v1830, hv1830, hr⟩ := optT_run hr
    simp only [Tree.run] at hr
    obtain ⟨y, hy, hr⟩ := Option.bind_eq_some_iff.1 hr
    simp only [Tree.run, Option.some.injEq, Prod.mk.injEq] at hr
    obtain ⟨rfl, rfl⟩ := hr
    exact call_ok0 hs (fun k => (([a1.av F, a2.av F] : List AV)[k]?).getD .top) [.agg [.int .i64 v1825, .int .i64 v1826, a1], .agg [.int .i64 v1828, .int .i64 v1829, a2]] [.agg [.int .i64 v1825, .int .i64 v1826, .bslc (BR.root 0) (.i64 v1827)], .agg [.int .i64 v1828, .int .i64 v1829, .bslc (BR.root 1) (.i64 v1830)]] (fun F' h0 hi hρ => ⟨by simp [DVs.av, DV.av, BR.av, hρ], laws_eqWhole_fn v1825 v1826 v1827 v1828 v1829 v1830 F' (by rw [hi]; rfl) (st_nil hi) ⟨⟨trivial, trivial, bslc_ok hi (by rw [h0, hρ]; exact rowI64_ok hs (DVs.okAt (DVs.okAt ha 0 rfl) 2 rfl) hv1827), trivial⟩, ⟨trivial, trivial, bslc_ok hi (by rw [h0, hρ]; exact rowI64_ok hs (DVs.okAt (DVs.okAt ha 1 rfl) 2 rfl) hv1830), trivial⟩, trivial⟩ hy⟩) rfl
  · cases hr
/-! laws.markInt64S -/
noncomputable def laws_markInt64S_l0_T (s : Int × Int × (List Int)) : Tree ((Int × Int × (List Int)) ⊕ (Int × (List Int))) :=
  (.br (decide (s.2.1 < (((s.2.2).length : Nat) : Int))) (
   (.grd (inb s.2.1 ((s.2.2).length)) <|
   .leaf (.inl (IntKind.i64.wrap (s.1 + (1 : Int)), IntKind.i64.wrap (s.2.1 + (1 : Int)), List.set s.2.2 (Int.toNat s.2.1) s.1)))
  ) (
   .leaf (.inr (s.1, s.2.2))
  ))

noncomputable def laws_markInt64S_l0_g (s0 : Int × Int × (List Int)) : Option (Int × (List Int)) := whileM (fun s => (laws_markInt64S_l0_T s).run) s0
def laws_markInt64S_l0_E (v1852 : List Int) (v1853 : Int) (s : Int × Int × (List Int)) : Sd := ([.own 0 0 ((s.2.2).length), .int .i64 s.1, .top, .top, .top, .int .i64 s.2.1, .top, .top, .top, .top, .top, .top, .top, .top, .top, .top, .top, .top, .top], [.row (.i64 s.2.2) 0])
def laws_markInt64S_l0_X (v1852 : List Int) (v1853 : Int) (x : Int × (List Int)) : Out := (.normal, [.top, .int .i64 x.1, .top, .top, .top, .top, .top, .top, .top, .top, .top, .top, .top, .top, .top, .top, .top, .top, .top], [.row (.i64 x.2) 0])
def laws_markInt64S_l0_kill : List Nat := [0, 0, 1, 1, 1, 0, 1, 1, 1, 1, 1, 1, 1, 1, 1, 1, 1, 1, 1]
def laws_markInt64S_l0_nx : Exit → List Nat
  | .exit 0 => [1, 0, 1, 1, 1, 1, 1, 1, 1, 1, 1, 1, 1, 1, 1, 1, 1, 1, 1]
  | .ret => [1, 1, 1, 1, 0, 1, 1, 1, 1, 1, 1, 1, 1, 1, 1, 1, 1, 1, 1]
  | _ => []
noncomputable def laws_markInt64S_LO (v1852 : List Int) (v1853 : Int) : LOr := fun id e L =>
  match id with
  | 0 => .need (normA 1 laws_markInt64S_l0_kill e L = some (laws_markInt64S_l0_E v1852 v1853 ((gI (vAt e 1)), (gI (vAt e 5)), (gRI L (vAt e 0))))) (.call (laws_markInt64S_l0_g ((gI (vAt e 1)), (gI (vAt e 5)), (gRI L (vAt e 0)))) fun x => .leaf (laws_markInt64S_l0_X v1852 v1853 x))
  | _ => .fail
noncomputable def laws_markInt64S_tab : List (FuncId × DFn × Bool) := []
theorem laws_markInt64S_hO : OrcOk Try.prog (tabD laws_markInt64S_tab) (tabM laws_markInt64S_tab) := tabD_nil _
theorem laws_markInt64S_l0_be (v1852 : List Int) (v1853 : Int) (s : Int × Int × (List Int)) : bodyT TT (tabD laws_markInt64S_tab) (tabM laws_markInt64S_tab) (laws_markInt64S_LO v1852 v1853) 1 laws_markInt64S_l0_kill laws_markInt64S_l0_nx (bodyOf Try.f27 0) 0 (laws_markInt64S_l0_E v1852 v1853 s) = (laws_markInt64S_l0_T s).bind fun y => .leaf (outS (laws_markInt64S_l0_E v1852 v1853) (laws_markInt64S_l0_X v1852 v1853) y) := by kernel_rfl
theorem laws_markInt64S_l0_ok (v1852 : List Int) (v1853 : Int) : LSound Try.prog 1 (laws_markInt64S_LO v1852 v1853) 0 (bodyOf Try.f27 0) := by
  intro e L out h
  exact lo_ok (E := laws_markInt64S_l0_E v1852 v1853) (gT := laws_markInt64S_l0_T) (X := laws_markInt64S_l0_X v1852 v1853) (s0 := ((gI (vAt e 1)), (gI (vAt e 5)), (gRI L (vAt e 0)))) tok laws_markInt64S_hO mixed (LoopsOk_eq (l := []) (by kernel_rfl) trivial) (laws_markInt64S_l0_be v1852 v1853) rfl (by intro x; rfl) h
noncomputable def laws_markInt64S_T (v1852 : List Int) (v1853 : Int) : Tree (Int × (List Int)) :=
  (.need (some (laws_markInt64S_l0_E v1852 v1853 (v1853, (0 : Int), v1852)) = some (laws_markInt64S_l0_E v1852 v1853 (v1853, (0 : Int), v1852))) <|
  (.call (laws_markInt64S_l0_g (v1853, (0 : Int), v1852)) fun v1862 =>
  .leaf (v1862.1, v1862.2)))

noncomputable def laws_markInt64S_g (v1852 : List Int) (v1853 : Int) : Option (Int × (List Int)) := (laws_markInt64S_T v1852 v1853).run
def laws_markInt64S_enc (v1852 : List Int) (v1853 : Int) (y : Int × (List Int)) : Rs := (.int .i64 y.1, [.row (.i64 y.2) 0])
theorem laws_markInt64S_den (v1852 : List Int) (v1853 : Int) : (den TT (tabD laws_markInt64S_tab) (tabM laws_markInt64S_tab) (laws_markInt64S_LO v1852 v1853) (codeOf Try.f27) ([.own 0 0 v1852.length, .int .i64 v1853] ++ List.replicate (Try.f27.ntmps - ([.own 0 0 v1852.length, .int .i64 v1853] : List DV).length) .undef) [.row (.i64 v1852) 0]).bind (retD TT Try.f27.results.toList 1) = (laws_markInt64S_T v1852 v1853).bind fun y => .leaf (laws_markInt64S_enc v1852 v1853 y) := by kernel_rfl
theorem laws_markInt64S_fn (v1852 : List Int) (v1853 : Int) (F : Fr) (hm : F.ids.length = 1) (h0 : St F [.row (.i64 v1852) 0] F.H0) (hA : DVs.Ok F [.row (.i64 v1852) 0] [.own 0 0 v1852.length, .int .i64 v1853]) {y : Int × (List Int)} (hy : laws_markInt64S_g v1852 v1853 = some y) : ∃ H', FnOk Try.prog 27 (DVs.av F [.own 0 0 v1852.length, .int .i64 v1853]) F.H0 ((laws_markInt64S_enc v1852 v1853 y).1.av F) H' ∧ St F (laws_markInt64S_enc v1852 v1853 y).2 H' ∧ (laws_markInt64S_enc v1852 v1853 y).1.Ok F (laws_markInt64S_enc v1852 v1853 y).2 :=
  fn_fin tok laws_markInt64S_hO mixed Try.func27 Try.call27 (by kernel_rfl) (LoopsOk_eq (l := [(0, bodyOf Try.f27 0)]) (by kernel_rfl) ⟨laws_markInt64S_l0_ok v1852 v1853, trivial⟩) (laws_markInt64S_den v1852 v1853) hy hm h0 hA
noncomputable def laws_markInt64S_F : DFn := fun args L =>
  match args with
  | [a1, .int .i64 v1853] =>
    optT (ownI64 L a1) fun qv1852 =>
    (match sepB [qv1852.1] [] with
    | true =>
    .call (laws_markInt64S_g qv1852.2 v1853) fun y => .grd (decide (y.2.length = qv1852.2.length)) (.leaf (.int .i64 y.1, setRows L ([qv1852.1].zip [.i64 y.2])))
    | false => .fail)
  | _ => .fail
theorem laws_markInt64S_Fok : COk Try.prog 27 laws_markInt64S_F false := by
  intro F L H args r L' hs ha hr
  unfold laws_markInt64S_F at hr
  split at hr
  · rename_i a1 v1853
    obtain ⟨⟨jv1852, v1852⟩, hqv1852, hr⟩ := optT_run hr
    simp only at hr
    split at hr
    · rename_i hsep
      obtain ⟨hnd, hsepv⟩ := sepB_spec hsep
      simp only [Tree.run] at hr
      obtain ⟨y, hy, hr⟩ := Option.bind_eq_some_iff.1 hr
      try simp only [Tree.run] at hr
      obtain ⟨hl0, hr⟩ := ite_run hr
      simp only [Option.some.injEq, Prod.mk.injEq] at hr
      obtain ⟨rfl, rfl⟩ := hr
      obtain ⟨hr0, hu0, ha0, hb0⟩ := (ownR_spec (DVs.okAt ha 0 rfl) (ownI64_or hqv1852))
      exact mut_ok hs (fun k => (([a1.av F] : List AV)[k]?).getD .top) [a1, .int .i64 v1853] [.own 0 0 v1852.length, .int .i64 v1853] [jv1852] [.i64 v1852] [.i64 y.2] hnd rfl rfl (fun i j q h1 h2 => by
          rcases i with _ | i
          · simp at h1 h2; subst h1; subst h2; exact hr0
          · simp at h1) (fun i q q' h1 h2 => by
          rcases i with _ | i
          · simp at h1 h2; subst h1; subst h2; exact of_decide_eq_true hl0
          · simp at h1) (fun j hj => by simp at hj; subst hj; simp [DVs.refs, DV.refs, hu0]) (fun F' h0 hi hρ hst hS => ⟨by (have ab0 : F'.abs 0 = F.abs jv1852 := (by simp [Fr.abs, hi]); simp [DVs.av, DV.av, BR.av, hρ, Row.len, ha0, ab0]), by
          obtain ⟨H1, k1, k2, _⟩ := laws_markInt64S_fn v1852 v1853 F' (by rw [hi]; rfl) hst ⟨⟨_, rfl, Nat.le_refl _, Nat.le_refl _, fun _ => rfl, (ownR_spec (DVs.okAt ha 0 rfl) (ownI64_or hqv1852)).2.2.2⟩, trivial, trivial⟩ hy
          exact ⟨H1, k1, k2⟩⟩) (fun F' => rfl) (fun L' => trivial)
    · cases hr
  · cases hr
/-! laws.markWhole -/
noncomputable def laws_markWhole_LO (v1863 : Int) (v1864 : Int) (v1865 : List Int) (v1866 : Int) : LOr := fun id e L =>
  match id with
  | _ => .fail
noncomputable def laws_markWhole_tab : List (FuncId × DFn × Bool) := [(27, laws_markInt64S_F, false)]
theorem laws_markWhole_hO : OrcOk Try.prog (tabD laws_markWhole_tab) (tabM laws_markWhole_tab) := tabD_cons laws_markInt64S_Fok (tabD_nil _)
noncomputable def laws_markWhole_T (v1865 : List Int) (v1866 : Int) : Tree (Int × (List Int)) :=
  (.call (laws_markInt64S_g v1865 v1866) fun v1867 =>
  (.grd (decide (v1867.2.length = v1865.length)) <|
  .leaf (v1867.1, v1867.2)))

noncomputable def laws_markWhole_g (v1865 : List Int) (v1866 : Int) : Option (Int × (List Int)) := (laws_markWhole_T v1865 v1866).run
def laws_markWhole_enc (v1863 : Int) (v1864 : Int) (v1865 : List Int) (v1866 : Int) (y : Int × (List Int)) : Rs := (.int .i64 y.1, [.row (.i64 y.2) 0])
theorem laws_markWhole_den (v1863 : Int) (v1864 : Int) (v1865 : List Int) (v1866 : Int) : (den TT (tabD laws_markWhole_tab) (tabM laws_markWhole_tab) (laws_markWhole_LO v1863 v1864 v1865 v1866) (codeOf Try.f26) ([.agg [.int .i64 v1863, .int .i64 v1864, .own 0 0 v1865.length], .int .i64 v1866] ++ List.replicate (Try.f26.ntmps - ([.agg [.int .i64 v1863, .int .i64 v1864, .own 0 0 v1865.length], .int .i64 v1866] : List DV).length) .undef) [.row (.i64 v1865) 0]).bind (retD TT Try.f26.results.toList 1) = (laws_markWhole_T v1865 v1866).bind fun y => .leaf (laws_markWhole_enc v1863 v1864 v1865 v1866 y) := by kernel_rfl
theorem laws_markWhole_fn (v1863 : Int) (v1864 : Int) (v1865 : List Int) (v1866 : Int) (F : Fr) (hm : F.ids.length = 1) (h0 : St F [.row (.i64 v1865) 0] F.H0) (hA : DVs.Ok F [.row (.i64 v1865) 0] [.agg [.int .i64 v1863, .int .i64 v1864, .own 0 0 v1865.length], .int .i64 v1866]) {y : Int × (List Int)} (hy : laws_markWhole_g v1865 v1866 = some y) : ∃ H', FnOk Try.prog 26 (DVs.av F [.agg [.int .i64 v1863, .int .i64 v1864, .own 0 0 v1865.length], .int .i64 v1866]) F.H0 ((laws_markWhole_enc v1863 v1864 v1865 v1866 y).1.av F) H' ∧ St F (laws_markWhole_enc v1863 v1864 v1865 v1866 y).2 H' ∧ (laws_markWhole_enc v1863 v1864 v1865 v1866 y).1.Ok F (laws_markWhole_enc v1863 v1864 v1865 v1866 y).2 :=
  fn_fin tok laws_markWhole_hO mixed Try.func26 Try.call26 (by kernel_rfl) (LoopsOk_eq (l := []) (by kernel_rfl) trivial) (laws_markWhole_den v1863 v1864 v1865 v1866) hy hm h0 hA
noncomputable def laws_markWhole_F : DFn := fun args L =>
  match args with
  | [.agg [.int .i64 v1863, .int .i64 v1864, a1], .int .i64 v1866] =>
    optT (ownI64 L a1) fun qv1865 =>
    (match sepB [qv1865.1] [] with
    | true =>
    .call (laws_markWhole_g qv1865.2 v1866) fun y => .grd (decide (y.2.length = qv1865.2.length)) (.leaf (.int .i64 y.1, setRows L ([qv1865.1].zip [.i64 y.2])))
    | false => .fail)
  | _ => .fail
theorem laws_markWhole_Fok : COk Try.prog 26 laws_markWhole_F false := by
  intro F L H args r L' hs ha hr
  unfold laws_markWhole_F at hr
  split at hr
  · rename_i v1863 v1864 a1 v1866
    obtain ⟨⟨jv1865, v1865⟩, hqv1865, hr⟩ := optT_run hr
    simp only at hr
    split at hr
    · rename_i hsep
      obtain ⟨hnd, hsepv⟩ := sepB_spec hsep
      simp only [Tree.run] at hr
      obtain ⟨y, hy, hr⟩ := Option.bind_eq_some_iff.1 hr
      try simp only [Tree.run] at hr
      obtain ⟨hl0, hr⟩ := ite_run hr
      simp only [Option.some.injEq, Prod.mk.injEq] at hr
      obtain ⟨rfl, rfl⟩ := hr
      obtain ⟨hr0, hu0, ha0, hb0⟩ := (ownR_spec (DVs.okAt (DVs.okAt ha 0 rfl) 2 rfl) (ownI64_or hqv1865))
      exact mut_ok hs (fun k => (([a1.av F] : List AV)[k]?).getD .top) [.agg [.int .i64 v1863, .int .i64 v1864, a1], .int .i64 v1866] [.agg [.int .i64 v1863, .int .i64 v1864, .own 0 0 v1865.length], .int .i64 v1866] [jv1865] [.i64 v1865] [.i64 y.2] hnd rfl rfl (fun i j q h1 h2 => by
          rcases i with _ | i
          · simp at h1 h2; subst h1; subst h2; exact hr0
          · simp at h1) (fun i q q' h1 h2 => by
          rcases i with _ | i
          · simp at h1 h2; subst h1; subst h2; exact of_decide_eq_true hl0
          · simp at h1) (fun j hj => by simp at hj; subst hj; simp [DVs.refs, DV.refs, hu0]) (fun F' h0 hi hρ hst hS => ⟨by (have ab0 : F'.abs 0 = F.abs jv1865 := (by simp [Fr.abs, hi]); simp [DVs.av, DV.av, BR.av, hρ, Row.len, ha0, ab0]), by
          obtain ⟨H1, k1, k2, _⟩ := laws_markWhole_fn v1863 v1864 v1865 v1866 F' (by rw [hi]; rfl) hst ⟨⟨trivial, trivial, ⟨_, rfl, Nat.le_refl _, Nat.le_refl _, fun _ => rfl, (ownR_spec (DVs.okAt (DVs.okAt ha 0 rfl) 2 rfl) (ownI64_or hqv1865)).2.2.2⟩, trivial⟩, trivial, trivial⟩ hy
          exact ⟨H1, k1, k2⟩⟩) (fun F' => rfl) (fun L' => trivial)
    · cases hr
  · cases hr
/-! laws.markInt64S -/
noncomputable def laws_markInt64S_i1_l0_T (s : Unit) : Tree ((Unit) ⊕ (Unit)) :=
  (.br (decide ((0 : Int) < (0 : Int))) (
   .fail
  ) (
   .leaf (.inr ())
  ))

noncomputable def laws_markInt64S_i1_l0_g (s0 : Unit) : Option (Unit) := whileM (fun s => (laws_markInt64S_i1_l0_T s).run) s0
def laws_markInt64S_i1_l0_E (v1874 : Int) (s : Unit) : Sd := ([.nilslc, .int .i64 v1874, .top, .top, .top, .int .i64 (0 : Int), .top, .top, .top, .top, .top, .top, .top, .top, .top, .top, .top, .top, .top], [])
def laws_markInt64S_i1_l0_X (v1874 : Int) (x : Unit) : Out := (.normal, [.top, .int .i64 v1874, .top, .top, .top, .top, .top, .top, .top, .top, .top, .top, .top, .top, .top, .top, .top, .top, .top], [])
def laws_markInt64S_i1_l0_kill : List Nat := [0, 0, 1, 1, 1, 0, 1, 1, 1, 1, 1, 1, 1, 1, 1, 1, 1, 1, 1]
def laws_markInt64S_i1_l0_nx : Exit → List Nat
  | .exit 0 => [1, 0, 1, 1, 1, 1, 1, 1, 1, 1, 1, 1, 1, 1, 1, 1, 1, 1, 1]
  | .ret => [1, 1, 1, 1, 0, 1, 1, 1, 1, 1, 1, 1, 1, 1, 1, 1, 1, 1, 1]
  | _ => []
noncomputable def laws_markInt64S_i1_LO (v1874 : Int) : LOr := fun id e L =>
  match id with
  | 0 => .need (normA 0 laws_markInt64S_i1_l0_kill e L = some (laws_markInt64S_i1_l0_E v1874 ())) (.call (laws_markInt64S_i1_l0_g ()) fun x => .leaf (laws_markInt64S_i1_l0_X v1874 x))
  | _ => .fail
noncomputable def laws_markInt64S_i1_tab : List (FuncId × DFn × Bool) := []
theorem laws_markInt64S_i1_hO : OrcOk Try.prog (tabD laws_markInt64S_i1_tab) (tabM laws_markInt64S_i1_tab) := tabD_nil _
theorem laws_markInt64S_i1_l0_be (v1874 : Int) (s : Unit) : bodyT TT (tabD laws_markInt64S_i1_tab) (tabM laws_markInt64S_i1_tab) (laws_markInt64S_i1_LO v1874) 0 laws_markInt64S_i1_l0_kill laws_markInt64S_i1_l0_nx (bodyOf Try.f27 0) 0 (laws_markInt64S_i1_l0_E v1874 s) = (laws_markInt64S_i1_l0_T s).bind fun y => .leaf (outS (laws_markInt64S_i1_l0_E v1874) (laws_markInt64S_i1_l0_X v1874) y) := by kernel_rfl
theorem laws_markInt64S_i1_l0_ok (v1874 : Int) : LSound Try.prog 0 (laws_markInt64S_i1_LO v1874) 0 (bodyOf Try.f27 0) := by
  intro e L out h
  exact lo_ok (E := laws_markInt64S_i1_l0_E v1874) (gT := laws_markInt64S_i1_l0_T) (X := laws_markInt64S_i1_l0_X v1874) (s0 := ()) tok laws_markInt64S_i1_hO mixed (LoopsOk_eq (l := []) (by kernel_rfl) trivial) (laws_markInt64S_i1_l0_be v1874) rfl (by intro x; rfl) h
noncomputable def laws_markInt64S_i1_T (v1874 : Int) : Tree (Int) :=
  (.need (some (laws_markInt64S_i1_l0_E v1874 ()) = some (laws_markInt64S_i1_l0_E v1874 ())) <|
  (.call (laws_markInt64S_i1_l0_g ()) fun v1877 =>
  .leaf v1874))

noncomputable def laws_markInt64S_i1_g (v1874 : Int) : Option (Int) := (laws_markInt64S_i1_T v1874).run
def laws_markInt64S_i1_enc (v1874 : Int) (y : Int) : Rs := (.int .i64 y, [])
theorem laws_markInt64S_i1_den (v1874 : Int) : (den TT (tabD laws_markInt64S_i1_tab) (tabM laws_markInt64S_i1_tab) (laws_markInt64S_i1_LO v1874) (codeOf Try.f27) ([.nilslc, .int .i64 v1874] ++ List.replicate (Try.f27.ntmps - ([.nilslc, .int .i64 v1874] : List DV).length) .undef) []).bind (retD TT Try.f27.results.toList 0) = (laws_markInt64S_i1_T v1874).bind fun y => .leaf (laws_markInt64S_i1_enc v1874 y) := by kernel_rfl
theorem laws_markInt64S_i1_fn (v1874 : Int) (F : Fr) (hm : F.ids.length = 0) (h0 : St F [] F.H0) (hA : DVs.Ok F [] [.nilslc, .int .i64 v1874]) {y : Int} (hy : laws_markInt64S_i1_g v1874 = some y) : ∃ H', FnOk Try.prog 27 (DVs.av F [.nilslc, .int .i64 v1874]) F.H0 ((laws_markInt64S_i1_enc v1874 y).1.av F) H' ∧ St F (laws_markInt64S_i1_enc v1874 y).2 H' ∧ (laws_markInt64S_i1_enc v1874 y).1.Ok F (laws_markInt64S_i1_enc v1874 y).2 :=
  fn_fin tok laws_markInt64S_i1_hO mixed Try.func27 Try.call27 (by kernel_rfl) (LoopsOk_eq (l := [(0, bodyOf Try.f27 0)]) (by kernel_rfl) ⟨laws_markInt64S_i1_l0_ok v1874, trivial⟩) (laws_markInt64S_i1_den v1874) hy hm h0 hA
noncomputable def laws_markInt64S_i1_F : DFn := fun args L =>
  match args with
  | [.nilslc, .int .i64 v1874] =>
    .call (laws_markInt64S_i1_g v1874) fun y => .leaf (.int .i64 y, L)
  | _ => .fail
theorem laws_markInt64S_i1_Fok : COk Try.prog 27 laws_markInt64S_i1_F true := by
  intro F L H args r L' hs ha hr
  unfold laws_markInt64S_i1_F at hr
  split at hr
  · rename_i v1874
    simp only [Tree.run] at hr
    obtain ⟨y, hy, hr⟩ := Option.bind_eq_some_iff.1 hr
    simp only [Tree.run, Option.some.injEq, Prod.mk.injEq] at hr
    obtain ⟨rfl, rfl⟩ := hr
    exact call_ok0 hs (fun k => (([] : List AV)[k]?).getD .top) [.nilslc, .int .i64 v1874] [.nilslc, .int .i64 v1874] (fun F' h0 hi hρ => ⟨by simp [DVs.av, DV.av, BR.av, hρ], laws_markInt64S_i1_fn v1874 F' (by rw [hi]; rfl) (st_nil hi) ⟨trivial, trivial, trivial⟩ hy⟩) rfl
  · cases hr
/-! laws.markWhole -/
noncomputable def laws_markWhole_i1_LO (v1871 : Int) (v1872 : Int) (v1873 : Int) : LOr := fun id e L =>
  match id with
  | _ => .fail
noncomputable def laws_markWhole_i1_tab : List (FuncId × DFn × Bool) := [(27, laws_markInt64S_i1_F, true)]
theorem laws_markWhole_i1_hO : OrcOk Try.prog (tabD laws_markWhole_i1_tab) (tabM laws_markWhole_i1_tab) := tabD_cons laws_markInt64S_i1_Fok (tabD_nil _)
noncomputable def laws_markWhole_i1_T (v1873 : Int) : Tree (Int) :=
  (.call (laws_markInt64S_i1_g v1873) fun v1878 =>
  .leaf v1878)

noncomputable def laws_markWhole_i1_g (v1873 : Int) : Option (Int) := (laws_markWhole_i1_T v1873).run
def laws_markWhole_i1_enc (v1871 : Int) (v1872 : Int) (v1873 : Int) (y : Int) : Rs := (.int .i64 y, [])
theorem laws_markWhole_i1_den (v1871 : Int) (v1872 : Int) (v1873 : Int) : (den TT (tabD laws_markWhole_i1_tab) (tabM laws_markWhole_i1_tab) (laws_markWhole_i1_LO v1871 v1872 v1873) (codeOf Try.f26) ([.agg [.int .i64 v1871, .int .i64 v1872, .nilslc], .int .i64 v1873] ++ List.replicate (Try.f26.ntmps - ([.agg [.int .i64 v1871, .int .i64 v1872, .nilslc], .int .i64 v1873] : List DV).length) .undef) []).bind (retD TT Try.f26.results.toList 0) = (laws_markWhole_i1_T v1873).bind fun y => .leaf (laws_markWhole_i1_enc v1871 v1872 v1873 y) := by kernel_rfl
theorem laws_markWhole_i1_fn (v1871 : Int) (v1872 : Int) (v1873 : Int) (F : Fr) (hm : F.ids.length = 0) (h0 : St F [] F.H0) (hA : DVs.Ok F [] [.agg [.int .i64 v1871, .int .i64 v1872, .nilslc], .int .i64 v1873]) {y : Int} (hy : laws_markWhole_i1_g v1873 = some y) : ∃ H', FnOk Try.prog 26 (DVs.av F [.agg [.int .i64 v1871, .int .i64 v1872, .nilslc], .int .i64 v1873]) F.H0 ((laws_markWhole_i1_enc v1871 v1872 v1873 y).1.av F) H' ∧ St F (laws_markWhole_i1_enc v1871 v1872 v1873 y).2 H' ∧ (laws_markWhole_i1_enc v1871 v1872 v1873 y).1.Ok F (laws_markWhole_i1_enc v1871 v1872 v1873 y).2 :=
  fn_fin tok laws_markWhole_i1_hO mixed Try.func26 Try.call26 (by kernel_rfl) (LoopsOk_eq (l := []) (by kernel_rfl) trivial) (laws_markWhole_i1_den v1871 v1872 v1873) hy hm h0 hA
noncomputable def laws_markWhole_i1_F : DFn := fun args L =>
  match args with
  | [.agg [.int .i64 v1871, .int .i64 v1872, .nilslc], .int .i64 v1873] =>
    .call (laws_markWhole_i1_g v1873) fun y => .leaf (.int .i64 y, L)
  | _ => .fail
theorem laws_markWhole_i1_Fok : COk Try.prog 26 laws_markWhole_i1_F true := by
  intro F L H args r L' hs ha hr
  unfold laws_markWhole_i1_F at hr
  split at hr
  · rename_i v1871 v1872 v1873
    simp only [Tree.run] at hr
    obtain ⟨y, hy, hr⟩ := Option.bind_eq_some_iff.1 hr
    simp only [Tree.run, Option.some.injEq, Prod.mk.injEq] at hr
    obtain ⟨rfl, rfl⟩ := hr
    exact call_ok0 hs (fun k => (([] : List AV)[k]?).getD .top) [.agg [.int .i64 v1871, .int .i64 v1872, .nilslc], .int .i64 v1873] [.agg [.int .i64 v1871, .int .i64 v1872, .nilslc], .int .i64 v1873] (fun F' h0 hi hρ => ⟨by simp [DVs.av, DV.av, BR.av, hρ], laws_markWhole_i1_fn v1871 v1872 v1873 F' (by rw [hi]; rfl) (st_nil hi) ⟨⟨trivial, trivial, trivial, trivial⟩, trivial, trivial⟩ hy⟩) rfl
  · cases hr
/-! laws.heldInt64S -/
noncomputable def laws_heldInt64S_l0_T (v1885 : List Int) (s : Int × Int) : Tree ((Int × Int) ⊕ ((Unit) ⊕ (Int))) :=
  (.br (decide (s.2 < ((v1885.length : Nat) : Int))) (
   (.grd (inb s.2 v1885.length) <|
   (.br (!decide (nth v1885 (Int.toNat s.2) = s.1)) (
    .leaf (.inr (.inl ()))
   ) (
    .leaf (.inl (IntKind.i64.wrap (s.1 + (1 : Int)), IntKind.i64.wrap (s.2 + (1 : Int))))
   )))
  ) (
   .leaf (.inr (.inr s.1))
  ))

noncomputable def laws_heldInt64S_l0_g (v1885 : List Int) (s0 : Int × Int) : Option ((Unit) ⊕ (Int)) := whileM (fun s => (laws_heldInt64S_l0_T v1885 s).run) s0
def laws_heldInt64S_l0_E (v1885 : List Int) (v1886 : Int) (s : Int × Int) : Sd := ([.bslc (BR.root 0) (.i64 v1885), .int .i64 s.1, .top, .top, .top, .int .i64 s.2, .top, .top, .top, .top, .top, .top, .top, .top, .top, .top, .top, .top, .top, .top, .top], [])
def laws_heldInt64S_l0_X (v1885 : List Int) (v1886 : Int) (x : (Unit) ⊕ (Int)) : Out := (match x with | .inl x => (.ret, [.top, .top, .top, .top, .int .i64 (-1 : Int), .top, .top, .top, .top, .top, .top, .top, .top, .top, .top, .top, .top, .top, .top, .top, .top], []) | .inr x => (.normal, [.top, .int .i64 x, .top, .top, .top, .top, .top, .top, .top, .top, .top, .top, .top, .top, .top, .top, .top, .top, .top, .top, .top], []))
def laws_heldInt64S_l0_kill : List Nat := [0, 0, 1, 1, 1, 0, 1, 1, 1, 1, 1, 1, 1, 1, 1, 1, 1, 1, 1, 1, 1]
def laws_heldInt64S_l0_nx : Exit → List Nat
  | .exit 0 => [1, 0, 1, 1, 1, 1, 1, 1, 1, 1, 1, 1, 1, 1, 1, 1, 1, 1, 1, 1, 1]
  | .ret => [1, 1, 1, 1, 0, 1, 1, 1, 1, 1, 1, 1, 1, 1, 1, 1, 1, 1, 1, 1, 1]
  | _ => []
noncomputable def laws_heldInt64S_LO (v1885 : List Int) (v1886 : Int) : LOr := fun id e L =>
  match id with
  | 0 => .need (normA 0 laws_heldInt64S_l0_kill e L = some (laws_heldInt64S_l0_E v1885 v1886 ((gI (vAt e 1)), (gI (vAt e 5))))) (.call (laws_heldInt64S_l0_g v1885 ((gI (vAt e 1)), (gI (vAt e 5)))) fun x => .sum x (fun b0 => .leaf (laws_heldInt64S_l0_X v1885 v1886 (.inl b0))) (fun c0 => .leaf (laws_heldInt64S_l0_X v1885 v1886 (.inr c0))))
  | _ => .fail
noncomputable def laws_heldInt64S_tab : List (FuncId × DFn × Bool) := []
theorem laws_heldInt64S_hO : OrcOk Try.prog (tabD laws_heldInt64S_tab) (tabM laws_heldInt64S_tab) := tabD_nil _
theorem laws_heldInt64S_l0_be (v1885 : List Int) (v1886 : Int) (s : Int × Int) : bodyT TT (tabD laws_heldInt64S_tab) (tabM laws_heldInt64S_tab) (laws_heldInt64S_LO v1885 v1886) 0 laws_heldInt64S_l0_kill laws_heldInt64S_l0_nx (bodyOf Try.f28 0) 0 (laws_heldInt64S_l0_E v1885 v1886 s) = (laws_heldInt64S_l0_T v1885 s).bind fun y => .leaf (outS (laws_heldInt64S_l0_E v1885 v1886) (laws_heldInt64S_l0_X v1885 v1886) y) := by kernel_rfl
theorem laws_heldInt64S_l0_ok (v1885 : List Int) (v1886 : Int) : LSound Try.prog 0 (laws_heldInt64S_LO v1885 v1886) 0 (bodyOf Try.f28 0) := by
  intro e L out h
  exact lo_ok (E := laws_heldInt64S_l0_E v1885 v1886) (gT := laws_heldInt64S_l0_T v1885) (X := laws_heldInt64S_l0_X v1885 v1886) (s0 := ((gI (vAt e 1)), (gI (vAt e 5)))) tok laws_heldInt64S_hO mixed (LoopsOk_eq (l := []) (by kernel_rfl) trivial) (laws_heldInt64S_l0_be v1885 v1886) rfl (by intro x; (cases x with | inl b => rfl | inr x => exact rfl)) h
noncomputable def laws_heldInt64S_T (v1885 : List Int) (v1886 : Int) : Tree (Int) :=
  (.need (some (laws_heldInt64S_l0_E v1885 v1886 (v1886, (0 : Int))) = some (laws_heldInt64S_l0_E v1885 v1886 (v1886, (0 : Int)))) <|
  (.call (laws_heldInt64S_l0_g v1885 (v1886, (0 : Int))) fun v1893 =>
  (.sum v1893 (fun v1894 =>
   .leaf (-1 : Int)
  ) (fun v1895 =>
   .leaf v1895
  ))))

noncomputable def laws_heldInt64S_g (v1885 : List Int) (v1886 : Int) : Option (Int) := (laws_heldInt64S_T v1885 v1886).run
def laws_heldInt64S_enc (v1885 : List Int) (v1886 : Int) (y : Int) : Rs := (.int .i64 y, [])
theorem laws_heldInt64S_den (v1885 : List Int) (v1886 : Int) : (den TT (tabD laws_heldInt64S_tab) (tabM laws_heldInt64S_tab) (laws_heldInt64S_LO v1885 v1886) (codeOf Try.f28) ([.bslc (BR.root 0) (.i64 v1885), .int .i64 v1886] ++ List.replicate (Try.f28.ntmps - ([.bslc (BR.root 0) (.i64 v1885), .int .i64 v1886] : List DV).length) .undef) []).bind (retD TT Try.f28.results.toList 0) = (laws_heldInt64S_T v1885 v1886).bind fun y => .leaf (laws_heldInt64S_enc v1885 v1886 y) := by kernel_rfl
theorem laws_heldInt64S_fn (v1885 : List Int) (v1886 : Int) (F : Fr) (hm : F.ids.length = 0) (h0 : St F [] F.H0) (hA : DVs.Ok F [] [.bslc (BR.root 0) (.i64 v1885), .int .i64 v1886]) {y : Int} (hy : laws_heldInt64S_g v1885 v1886 = some y) : ∃ H', FnOk Try.prog 28 (DVs.av F [.bslc (BR.root 0) (.i64 v1885), .int .i64 v1886]) F.H0 ((laws_heldInt64S_enc v1885 v1886 y).1.av F) H' ∧ St F (laws_heldInt64S_enc v1885 v1886 y).2 H' ∧ (laws_heldInt64S_enc v1885 v1886 y).1.Ok F (laws_heldInt64S_enc v1885 v1886 y).2 :=
  fn_fin tok laws_heldInt64S_hO mixed Try.func28 Try.call28 (by kernel_rfl) (LoopsOk_eq (l := [(0, bodyOf Try.f28 0)]) (by kernel_rfl) ⟨laws_heldInt64S_l0_ok v1885 v1886, trivial⟩) (laws_heldInt64S_den v1885 v1886) hy hm h0 hA
noncomputable def laws_heldInt64S_F : DFn := fun args L =>
  match args with
  | [a1, .int .i64 v1886] =>
    optT (rowI64 L a1) fun v1885 =>
    .call (laws_heldInt64S_g v1885 v1886) fun y => .leaf (.int .i64 y, L)
  | _ => .fail
theorem laws_heldInt64S_Fok : COk Try.prog 28 laws_heldInt64S_F true := by
  intro F L H args r L' hs ha hr
  unfold laws_heldInt64S_F at hr
  split at hr
  · rename_i a1 v1886
    obtain ⟨v1885, hv1885, hr⟩ := optT_run hr
    simp only [Tree.run] at hr
    obtain ⟨y, hy, hr⟩ := Option.bind_eq_some_iff.1 hr
    simp only [Tree.run, Option.some.injEq, Prod.mk.injEq] at hr
    obtain ⟨rfl, rfl⟩ := hr
    exact call_ok0 hs (fun k => (([a1.av F] : List AV)[k]?).getD .top) [a1, .int .i64 v1886] [.bslc (BR.root 0) (.i64 v1885), .int .i64 v1886] (fun F' h0 hi hρ => ⟨by simp [DVs.av, DV.av, BR.av, hρ], laws_heldInt64S_fn v1885 v1886 F' (by rw [hi]; rfl) (st_nil hi) ⟨bslc_ok hi (by rw [h0, hρ]; exact rowI64_ok hs (DVs.okAt ha 0 rfl) hv1885), trivial, trivial⟩ hy⟩) rfl
  · cases hr
/-! laws.heldWhole -/
noncomputable def laws_heldWhole_LO (v1881 : Int) (v1882 : Int) (v1883 : List Int) (v1884 : Int) : LOr := fun id e L =>
  match id with
  | _ => .fail
noncomputable def laws_heldWhole_tab : List (FuncId × DFn × Bool) := [(28, laws_heldInt64S_F, true)]
theorem laws_heldWhole_hO : OrcOk Try.prog (tabD laws_heldWhole_tab) (tabM laws_heldWhole_tab) := tabD_cons laws_heldInt64S_Fok (tabD_nil _)
noncomputable def laws_heldWhole_T (v1883 : List Int) (v1884 : Int) : Tree (Int) :=
  (.call (laws_heldInt64S_g v1883 v1884) fun v1896 =>
  (.br (decide (v1896 < (0 : Int))) (
   .leaf (-1 : Int)
  ) (
   .leaf v1896
  )))

noncomputable def laws_heldWhole_g (v1883 : List Int) (v1884 : Int) : Option (Int) := (laws_heldWhole_T v1883 v1884).run
def laws_heldWhole_enc (v1881 : Int) (v1882 : Int) (v1883 : List Int) (v1884 : Int) (y : Int) : Rs := (.int .i64 y, [])
theorem laws_heldWhole_den (v1881 : Int) (v1882 : Int) (v1883 : List Int) (v1884 : Int) : (den TT (tabD laws_heldWhole_tab) (tabM laws_heldWhole_tab) (laws_heldWhole_LO v1881 v1882 v1883 v1884) (codeOf Try.f38) ([.agg [.int .i64 v1881, .int .i64 v1882, .bslc (BR.root 0) (.i64 v1883)], .int .i64 v1884] ++ List.replicate (Try.f38.ntmps - ([.agg [.int .i64 v1881, .int .i64 v1882, .bslc (BR.root 0) (.i64 v1883)], .int .i64 v1884] : List DV).length) .undef) []).bind (retD TT Try.f38.results.toList 0) = (laws_heldWhole_T v1883 v1884).bind fun y => .leaf (laws_heldWhole_enc v1881 v1882 v1883 v1884 y) := by kernel_rfl
theorem laws_heldWhole_fn (v1881 : Int) (v1882 : Int) (v1883 : List Int) (v1884 : Int) (F : Fr) (hm : F.ids.length = 0) (h0 : St F [] F.H0) (hA : DVs.Ok F [] [.agg [.int .i64 v1881, .int .i64 v1882, .bslc (BR.root 0) (.i64 v1883)], .int .i64 v1884]) {y : Int} (hy : laws_heldWhole_g v1883 v1884 = some y) : ∃ H', FnOk Try.prog 38 (DVs.av F [.agg [.int .i64 v1881, .int .i64 v1882, .bslc (BR.root 0) (.i64 v1883)], .int .i64 v1884]) F.H0 ((laws_heldWhole_enc v1881 v1882 v1883 v1884 y).1.av F) H' ∧ St F (laws_heldWhole_enc v1881 v1882 v1883 v1884 y).2 H' ∧ (laws_heldWhole_enc v1881 v1882 v1883 v1884 y).1.Ok F (laws_heldWhole_enc v1881 v1882 v1883 v1884 y).2 :=
  fn_fin tok laws_heldWhole_hO mixed Try.func38 Try.call38 (by kernel_rfl) (LoopsOk_eq (l := []) (by kernel_rfl) trivial) (laws_heldWhole_den v1881 v1882 v1883 v1884) hy hm h0 hA
noncomputable def laws_heldWhole_F : DFn := fun args L =>
  match args with
  | [.agg [.int .i64 v1881, .int .i64 v1882, a1], .int .i64 v1884] =>
    optT (rowI64 L a1) fun v1883 =>
    .call (laws_heldWhole_g v1883 v1884) fun y => .leaf (.int .i64 y, L)
  | _ => .fail
theorem laws_heldWhole_Fok : COk Try.prog 38 laws_heldWhole_F true := by
  intro F L H args r L' hs ha hr
  unfold laws_heldWhole_F at hr
  split at hr
  · rename_i v1881 v1882 a1 v1884
    obtain ⟨v1883, hv1883, hr⟩ := optT_run hr
    simp only [Tree.run] at hr
    obtain ⟨y, hy, hr⟩ := Option.bind_eq_some_iff.1 hr
    simp only [Tree.run, Option.some.injEq, Prod.mk.injEq] at hr
    obtain ⟨rfl, rfl⟩ := hr
    exact call_ok0 hs (fun k => (([a1.av F] : List AV)[k]?).getD .top) [.agg [.int .i64 v1881, .int .i64 v1882, a1], .int .i64 v1884] [.agg [.int .i64 v1881, .int .i64 v1882, .bslc (BR.root 0) (.i64 v1883)], .int .i64 v1884] (fun F' h0 hi hρ => ⟨by simp [DVs.av, DV.av, BR.av, hρ], laws_heldWhole_fn v1881 v1882 v1883 v1884 F' (by rw [hi]; rfl) (st_nil hi) ⟨⟨trivial, trivial, bslc_ok hi (by rw [h0, hρ]; exact rowI64_ok hs (DVs.okAt (DVs.okAt ha 0 rfl) 2 rfl) hv1883), trivial⟩, trivial, trivial⟩ hy⟩) rfl
  · cases hr
/-! laws.FnExactEchelonOf -/
noncomputable def laws_FnExactEchelonOf_LO (v1 : Int) (v2 : Int) (v3 : List Int) : LOr := fun id e L =>
  match id with
  | _ => .fail
noncomputable def laws_FnExactEchelonOf_tab : List (FuncId × DFn × Bool) := [(15, laws_szWhole_F, true), (17, laws_toWhole_F, true), (41, spec_EchelonOf_F, true), (42, impl_EchelonOf_F, true), (19, laws_eqWhole_F, true), (26, (orD (fun args => match args with | [.agg [_, _, .nilslc], _] => true | _ => false) laws_markWhole_i1_F laws_markWhole_F), false), (38, laws_heldWhole_F, true)]
theorem laws_FnExactEchelonOf_hO : OrcOk Try.prog (tabD laws_FnExactEchelonOf_tab) (tabM laws_FnExactEchelonOf_tab) := tabD_cons laws_szWhole_Fok (tabD_cons laws_toWhole_Fok (tabD_cons spec_EchelonOf_Fok (tabD_cons impl_EchelonOf_Fok (tabD_cons laws_eqWhole_Fok (tabD_cons (orD_ok (COk.weak laws_markWhole_i1_Fok) laws_markWhole_Fok) (tabD_cons laws_heldWhole_Fok (tabD_nil _)))))))
noncomputable def laws_FnExactEchelonOf_T (v1 : Int) (v2 : Int) (v3 : List Int) : Tree (Bool) :=
  (.br (decide ((laws_szWhole_v v3 (1048576 : Int)) < (0 : Int))) (
   .leaf true
  ) (
   (.call (laws_toWhole_g v1 v2 v3) fun v21 =>
   (.call (spec_EchelonOf_g v21.1 v21.2.1 v21.2.2) fun v766 =>
   (.sum v766 (fun v767 =>
    (.call (laws_toWhole_g v1 v2 v3) fun v769 =>
    (.call (impl_EchelonOf_g v769.1 v769.2.1 v769.2.2) fun v1822 =>
    (.sum v1822 (fun v1823 =>
     (.call (laws_eqWhole_g (0 : Int) (0 : Int) ([] : List Int) (0 : Int) (0 : Int) ([] : List Int)) fun v1840 =>
     (.br (!v1840) (
      .leaf false
     ) (
      (.call (laws_eqWhole_g (0 : Int) (0 : Int) ([] : List Int) (0 : Int) (0 : Int) ([] : List Int)) fun v1841 =>
      (.br (!v1841) (
       .leaf false
      ) (
       (.br (!(false == false)) (
        .leaf false
       ) (
        (.call (laws_toWhole_g v1 v2 v3) fun v1842 =>
        (.call (laws_eqWhole_g v769.1 v769.2.1 v769.2.2 v1842.1 v1842.2.1 v1842.2.2) fun v1843 =>
        (.br (!v1843) (
         .leaf false
        ) (
         (.call (laws_markWhole_g v769.2.2 (1 : Int)) fun v1868 =>
         (.grd (decide (v1868.2.length = v769.2.2.length)) <|
         (.br (decide (v1868.1 < (0 : Int))) (
          .leaf false
         ) (
          (.call (laws_eqWhole_g (0 : Int) (0 : Int) ([] : List Int) (0 : Int) (0 : Int) ([] : List Int)) fun v1869 =>
          (.br (!v1869) (
           .leaf false
          ) (
           (.call (laws_eqWhole_g (0 : Int) (0 : Int) ([] : List Int) (0 : Int) (0 : Int) ([] : List Int)) fun v1870 =>
           (.br (!v1870) (
            .leaf false
           ) (
            (.br (!(false == false)) (
             .leaf false
            ) (
             (.call (laws_markWhole_i1_g (1 : Int)) fun v1879 =>
             (.call (laws_markWhole_i1_g v1879) fun v1880 =>
             (.call (laws_heldWhole_g ([] : List Int) (1 : Int)) fun v1897 =>
             (.br (decide (v1897 < (0 : Int))) (
              .leaf false
             ) (
              (.call (laws_heldWhole_g ([] : List Int) v1897) fun v1898 =>
              (.br (decide (v1898 < (0 : Int))) (
               .leaf false
              ) (
               (.br (!decide (v1898 = v1880)) (
                .leaf false
               ) (
                (.call (laws_toWhole_g v1 v2 v3) fun v1899 =>
                (.call (impl_EchelonOf_g v1899.1 v1899.2.1 v1899.2.2) fun v1900 =>
                (.sum v1900 (fun v1901 =>
                 (.call (laws_eqWhole_g (0 : Int) (0 : Int) ([] : List Int) (0 : Int) (0 : Int) ([] : List Int)) fun v1903 =>
                 (.br (!v1903) (
                  .leaf false
                 ) (
                  (.call (laws_eqWhole_g (0 : Int) (0 : Int) ([] : List Int) (0 : Int) (0 : Int) ([] : List Int)) fun v1904 =>
                  (.br (!v1904) (
                   .leaf false
                  ) (
                   (.br (!(false == false)) (
                    .leaf false
                   ) (
                    (.call (laws_heldWhole_g ([] : List Int) (1 : Int)) fun v1905 =>
                    (.br (decide (v1905 < (0 : Int))) (
                     .leaf false
                    ) (
                     (.call (laws_heldWhole_g ([] : List Int) v1905) fun v1906 =>
                     (.br (decide (v1906 < (0 : Int))) (
                      .leaf false
                     ) (
                      (.br (!decide (v1906 = v1880)) (
                       .leaf false
                      ) (
                       .leaf true
                      ))
                     )))
                    )))
                   ))
                  )))
                 )))
                ) (fun v1902 =>
                 (.sum v1902 (fun v1907 =>
                  (.call (laws_eqWhole_g v1907.1 v1907.2.1 v1907.2.2.2.2 (0 : Int) (0 : Int) ([] : List Int)) fun v1909 =>
                  (.br (!v1909) (
                   .leaf false
                  ) (
                   (.call (laws_eqWhole_g v1907.2.2.1 v1907.2.2.2.1 ([] : List Int) (0 : Int) (0 : Int) ([] : List Int)) fun v1910 =>
                   (.br (!v1910) (
                    .leaf false
                   ) (
                    (.br (!(true == false)) (
                     .leaf false
                    ) (
                     (.call (laws_heldWhole_g ([] : List Int) (1 : Int)) fun v1911 =>
                     (.br (decide (v1911 < (0 : Int))) (
                      .leaf false
                     ) (
                      (.call (laws_heldWhole_g ([] : List Int) v1911) fun v1912 =>
                      (.br (decide (v1912 < (0 : Int))) (
                       .leaf false
                      ) (
                       (.br (!decide (v1912 = v1880)) (
                        .leaf false
                       ) (
                        .leaf true
                       ))
                      )))
                     )))
                    ))
                   )))
                  )))
                 ) (fun v1908 =>
                  (.call (laws_eqWhole_g v1908.1 v1908.2.1 v1908.2.2.2.2.1 (0 : Int) (0 : Int) ([] : List Int)) fun v1913 =>
                  (.br (!v1913) (
                   .leaf false
                  ) (
                   (.call (laws_eqWhole_g v1908.2.2.1 v1908.2.2.2.1 v1908.2.2.2.2.2 (0 : Int) (0 : Int) ([] : List Int)) fun v1914 =>
                   (.br (!v1914) (
                    .leaf false
                   ) (
                    (.br (!(true == false)) (
                     .leaf false
                    ) (
                     (.call (laws_heldWhole_g ([] : List Int) (1 : Int)) fun v1915 =>
                     (.br (decide (v1915 < (0 : Int))) (
                      .leaf false
                     ) (
                      (.call (laws_heldWhole_g ([] : List Int) v1915) fun v1916 =>
                      (.br (decide (v1916 < (0 : Int))) (
                       .leaf false
                      ) (
                       (.br (!decide (v1916 = v1880)) (
                        .leaf false
                       ) (
                        .leaf true
                       ))
                      )))
                     )))
                    ))
                   )))
                  )))
                 ))
                ))))
               ))
              )))
             )))))
            ))
           )))
          )))
         ))))
        ))))
       ))
      )))
     )))
    ) (fun v1824 =>
     (.sum v1824 (fun v1917 =>
      (.call (laws_eqWhole_g v1917.1 v1917.2.1 v1917.2.2.2.2 (0 : Int) (0 : Int) ([] : List Int)) fun v1919 =>
      (.br (!v1919) (
       .leaf false
      ) (
       (.call (laws_eqWhole_g v1917.2.2.1 v1917.2.2.2.1 ([] : List Int) (0 : Int) (0 : Int) ([] : List Int)) fun v1920 =>
       (.br (!v1920) (
        .leaf false
       ) (
        (.br (!(true == false)) (
         .leaf false
        ) (
         (.call (laws_toWhole_g v1 v2 v3) fun v1921 =>
         (.call (laws_eqWhole_g v769.1 v769.2.1 v769.2.2 v1921.1 v1921.2.1 v1921.2.2) fun v1922 =>
         (.br (!v1922) (
          .leaf false
         ) (
          (.call (laws_markWhole_g v769.2.2 (1 : Int)) fun v1923 =>
          (.grd (decide (v1923.2.length = v769.2.2.length)) <|
          (.br (decide (v1923.1 < (0 : Int))) (
           .leaf false
          ) (
           (.call (laws_eqWhole_g v1917.1 v1917.2.1 v1917.2.2.2.2 (0 : Int) (0 : Int) ([] : List Int)) fun v1924 =>
           (.br (!v1924) (
            .leaf false
           ) (
            (.call (laws_eqWhole_g v1917.2.2.1 v1917.2.2.2.1 ([] : List Int) (0 : Int) (0 : Int) ([] : List Int)) fun v1925 =>
            (.br (!v1925) (
             .leaf false
            ) (
             (.br (!(true == false)) (
              .leaf false
             ) (
              (.call (laws_markWhole_g v1917.2.2.2.2 (1 : Int)) fun v1926 =>
              (.grd (decide (v1926.2.length = v1917.2.2.2.2.length)) <|
              (.call (laws_markWhole_i1_g v1926.1) fun v1927 =>
              (.call (laws_heldWhole_g v1926.2 (1 : Int)) fun v1928 =>
              (.br (decide (v1928 < (0 : Int))) (
               .leaf false
              ) (
               (.call (laws_heldWhole_g ([] : List Int) v1928) fun v1929 =>
               (.br (decide (v1929 < (0 : Int))) (
                .leaf false
               ) (
                (.br (!decide (v1929 = v1927)) (
                 .leaf false
                ) (
                 (.call (laws_toWhole_g v1 v2 v3) fun v1930 =>
                 (.call (impl_EchelonOf_g v1930.1 v1930.2.1 v1930.2.2) fun v1931 =>
                 (.sum v1931 (fun v1932 =>
                  (.call (laws_eqWhole_g (0 : Int) (0 : Int) ([] : List Int) (0 : Int) (0 : Int) ([] : List Int)) fun v1934 =>
                  (.br (!v1934) (
                   .leaf false
                  ) (
                   (.call (laws_eqWhole_g (0 : Int) (0 : Int) ([] : List Int) (0 : Int) (0 : Int) ([] : List Int)) fun v1935 =>
                   (.br (!v1935) (
                    .leaf false
                   ) (
                    (.br (!(false == false)) (
                     .leaf false
                    ) (
                     (.call (laws_heldWhole_g v1926.2 (1 : Int)) fun v1936 =>
                     (.br (decide (v1936 < (0 : Int))) (
                      .leaf false
                     ) (
                      (.call (laws_heldWhole_g ([] : List Int) v1936) fun v1937 =>
                      (.br (decide (v1937 < (0 : Int))) (
                       .leaf false
                      ) (
                       (.br (!decide (v1937 = v1927)) (
                        .leaf false
                       ) (
                        .leaf true
                       ))
                      )))
                     )))
                    ))
                   )))
                  )))
                 ) (fun v1933 =>
                  (.sum v1933 (fun v1938 =>
                   (.call (laws_eqWhole_g v1938.1 v1938.2.1 v1938.2.2.2.2 (0 : Int) (0 : Int) ([] : List Int)) fun v1940 =>
                   (.br (!v1940) (
                    .leaf false
                   ) (
                    (.call (laws_eqWhole_g v1938.2.2.1 v1938.2.2.2.1 ([] : List Int) (0 : Int) (0 : Int) ([] : List Int)) fun v1941 =>
                    (.br (!v1941) (
                     .leaf false
                    ) (
                     (.br (!(true == false)) (
                      .leaf false
                     ) (
                      (.call (laws_heldWhole_g v1926.2 (1 : Int)) fun v1942 =>
                      (.br (decide (v1942 < (0 : Int))) (
                       .leaf false
                      ) (
                       (.call (laws_heldWhole_g ([] : List Int) v1942) fun v1943 =>
                       (.br (decide (v1943 < (0 : Int))) (
                        .leaf false
                       ) (
                        (.br (!decide (v1943 = v1927)) (
                         .leaf false
                        ) (
                         .leaf true
                        ))
                       )))
                      )))
                     ))
                    )))
                   )))
                  ) (fun v1939 =>
                   (.call (laws_eqWhole_g v1939.1 v1939.2.1 v1939.2.2.2.2.1 (0 : Int) (0 : Int) ([] : List Int)) fun v1944 =>
                   (.br (!v1944) (
                    .leaf false
                   ) (
                    (.call (laws_eqWhole_g v1939.2.2.1 v1939.2.2.2.1 v1939.2.2.2.2.2 (0 : Int) (0 : Int) ([] : List Int)) fun v1945 =>
                    (.br (!v1945) (
                     .leaf false
                    ) (
                     (.br (!(true == false)) (
                      .leaf false
                     ) (
                      (.call (laws_heldWhole_g v1926.2 (1 : Int)) fun v1946 =>
                      (.br (decide (v1946 < (0 : Int))) (
                       .leaf false
                      ) (
                       (.call (laws_heldWhole_g ([] : List Int) v1946) fun v1947 =>
                       (.br (decide (v1947 < (0 : Int))) (
                        .leaf false
                       ) (
                        (.br (!decide (v1947 = v1927)) (
                         .leaf false
                        ) (
                         .leaf true
                        ))
                       )))
                      )))
                     ))
                    )))
                   )))
                  ))
                 ))))
                ))
               )))
              ))))))
             ))
            )))
           )))
          ))))
         ))))
        ))
       )))
      )))
     ) (fun v1918 =>
      (.call (laws_eqWhole_g v1918.1 v1918.2.1 v1918.2.2.2.2.1 (0 : Int) (0 : Int) ([] : List Int)) fun v1948 =>
      (.br (!v1948) (
       .leaf false
      ) (
       (.call (laws_eqWhole_g v1918.2.2.1 v1918.2.2.2.1 v1918.2.2.2.2.2 (0 : Int) (0 : Int) ([] : List Int)) fun v1949 =>
       (.br (!v1949) (
        .leaf false
       ) (
        (.br (!(true == false)) (
         .leaf false
        ) (
         (.call (laws_toWhole_g v1 v2 v3) fun v1950 =>
         (.call (laws_eqWhole_g v769.1 v769.2.1 v769.2.2 v1950.1 v1950.2.1 v1950.2.2) fun v1951 =>
         (.br (!v1951) (
          .leaf false
         ) (
          (.call (laws_markWhole_g v769.2.2 (1 : Int)) fun v1952 =>
          (.grd (decide (v1952.2.length = v769.2.2.length)) <|
          (.br (decide (v1952.1 < (0 : Int))) (
           .leaf false
          ) (
           (.call (laws_eqWhole_g v1918.1 v1918.2.1 v1918.2.2.2.2.1 (0 : Int) (0 : Int) ([] : List Int)) fun v1953 =>
           (.br (!v1953) (
            .leaf false
           ) (
            (.call (laws_eqWhole_g v1918.2.2.1 v1918.2.2.2.1 v1918.2.2.2.2.2 (0 : Int) (0 : Int) ([] : List Int)) fun v1954 =>
            (.br (!v1954) (
             .leaf false
            ) (
             (.br (!(true == false)) (
              .leaf false
             ) (
              (.call (laws_markWhole_g v1918.2.2.2.2.1 (1 : Int)) fun v1955 =>
              (.grd (decide (v1955.2.length = v1918.2.2.2.2.1.length)) <|
              (.call (laws_markWhole_g v1918.2.2.2.2.2 v1955.1) fun v1956 =>
              (.grd (decide (v1956.2.length = v1918.2.2.2.2.2.length)) <|
              (.call (laws_heldWhole_g v1955.2 (1 : Int)) fun v1957 =>
              (.br (decide (v1957 < (0 : Int))) (
               .leaf false
              ) (
               (.call (laws_heldWhole_g v1956.2 v1957) fun v1958 =>
               (.br (decide (v1958 < (0 : Int))) (
                .leaf false
               ) (
                (.br (!decide (v1958 = v1956.1)) (
                 .leaf false
                ) (
                 (.call (laws_toWhole_g v1 v2 v3) fun v1959 =>
                 (.call (impl_EchelonOf_g v1959.1 v1959.2.1 v1959.2.2) fun v1960 =>
                 (.sum v1960 (fun v1961 =>
                  (.call (laws_eqWhole_g (0 : Int) (0 : Int) ([] : List Int) (0 : Int) (0 : Int) ([] : List Int)) fun v1963 =>
                  (.br (!v1963) (
                   .leaf false
                  ) (
                   (.call (laws_eqWhole_g (0 : Int) (0 : Int) ([] : List Int) (0 : Int) (0 : Int) ([] : List Int)) fun v1964 =>
                   (.br (!v1964) (
                    .leaf false
                   ) (
                    (.br (!(false == false)) (
                     .leaf false
                    ) (
                     (.call (laws_heldWhole_g v1955.2 (1 : Int)) fun v1965 =>
                     (.br (decide (v1965 < (0 : Int))) (
                      .leaf false
                     ) (
                      (.call (laws_heldWhole_g v1956.2 v1965) fun v1966 =>
                      (.br (decide (v1966 < (0 : Int))) (
                       .leaf false
                      ) (
                       (.br (!decide (v1966 = v1956.1)) (
                        .leaf false
                       ) (
                        .leaf true
                       ))
                      )))
                     )))
                    ))
                   )))
                  )))
                 ) (fun v1962 =>
                  (.sum v1962 (fun v1967 =>
                   (.call (laws_eqWhole_g v1967.1 v1967.2.1 v1967.2.2.2.2 (0 : Int) (0 : Int) ([] : List Int)) fun v1969 =>
                   (.br (!v1969) (
                    .leaf false
                   ) (
                    (.call (laws_eqWhole_g v1967.2.2.1 v1967.2.2.2.1 ([] : List Int) (0 : Int) (0 : Int) ([] : List Int)) fun v1970 =>
                    (.br (!v1970) (
                     .leaf false
                    ) (
                     (.br (!(true == false)) (
                      .leaf false
                     ) (
                      (.call (laws_heldWhole_g v1955.2 (1 : Int)) fun v1971 =>
                      (.br (decide (v1971 < (0 : Int))) (
                       .leaf false
                      ) (
                       (.call (laws_heldWhole_g v1956.2 v1971) fun v1972 =>
                       (.br (decide (v1972 < (0 : Int))) (
                        .leaf false
                       ) (
                        (.br (!decide (v1972 = v1956.1)) (
                         .leaf false
                        ) (
                         .leaf true
                        ))
                       )))
                      )))
                     ))
                    )))
                   )))
                  ) (fun v1968 =>
                   (.call (laws_eqWhole_g v1968.1 v1968.2.1 v1968.2.2.2.2.1 (0 : Int) (0 : Int) ([] : List Int)) fun v1973 =>
                   (.br (!v1973) (
                    .leaf false
                   ) (
                    (.call (laws_eqWhole_g v1968.2.2.1 v1968.2.2.2.1 v1968.2.2.2.2.2 (0 : Int) (0 : Int) ([] : List Int)) fun v1974 =>
                    (.br (!v1974) (
                     .leaf false
                    ) (
                     (.br (!(true == false)) (
                      .leaf false
                     ) (
                      (.call (laws_heldWhole_g v1955.2 (1 : Int)) fun v1975 =>
                      (.br (decide (v1975 < (0 : Int))) (
                       .leaf false
                      ) (
                       (.call (laws_heldWhole_g v1956.2 v1975) fun v1976 =>
                       (.br (decide (v1976 < (0 : Int))) (
                        .leaf false
                       ) (
                        (.br (!decide (v1976 = v1956.1)) (
                         .leaf false
                        ) (
                         .leaf true
                        ))
                       )))
                      )))
                     ))
                    )))
                   )))
                  ))
                 ))))
                ))
               )))
              )))))))
             ))
            )))
           )))
          ))))
         ))))
        ))
       )))
      )))
     ))
    ))))
   ) (fun v768 =>
    (.call (laws_toWhole_g v1 v2 v3) fun v1977 =>
    (.call (impl_EchelonOf_g v1977.1 v1977.2.1 v1977.2.2) fun v1978 =>
    (.sum v1978 (fun v1979 =>
     (.call (laws_eqWhole_g (0 : Int) (0 : Int) ([] : List Int) v768.1 v768.2.1 v768.2.2.2.2.1) fun v1981 =>
     (.br (!v1981) (
      .leaf false
     ) (
      (.call (laws_eqWhole_g (0 : Int) (0 : Int) ([] : List Int) v768.2.2.1 v768.2.2.2.1 v768.2.2.2.2.2) fun v1982 =>
      (.br (!v1982) (
       .leaf false
      ) (
       (.br (!(false == true)) (
        .leaf false
       ) (
        (.call (laws_toWhole_g v1 v2 v3) fun v1983 =>
        (.call (laws_eqWhole_g v1977.1 v1977.2.1 v1977.2.2 v1983.1 v1983.2.1 v1983.2.2) fun v1984 =>
        (.br (!v1984) (
         .leaf false
        ) (
         (.call (laws_markWhole_g v1977.2.2 (1 : Int)) fun v1985 =>
         (.grd (decide (v1985.2.length = v1977.2.2.length)) <|
         (.br (decide (v1985.1 < (0 : Int))) (
          .leaf false
         ) (
          (.call (laws_eqWhole_g (0 : Int) (0 : Int) ([] : List Int) v768.1 v768.2.1 v768.2.2.2.2.1) fun v1986 =>
          (.br (!v1986) (
           .leaf false
          ) (
           (.call (laws_eqWhole_g (0 : Int) (0 : Int) ([] : List Int) v768.2.2.1 v768.2.2.2.1 v768.2.2.2.2.2) fun v1987 =>
           (.br (!v1987) (
            .leaf false
           ) (
            (.br (!(false == true)) (
             .leaf false
            ) (
             (.call (laws_markWhole_i1_g (1 : Int)) fun v1988 =>
             (.call (laws_markWhole_i1_g v1988) fun v1989 =>
             (.call (laws_heldWhole_g ([] : List Int) (1 : Int)) fun v1990 =>
             (.br (decide (v1990 < (0 : Int))) (
              .leaf false
             ) (
              (.call (laws_heldWhole_g ([] : List Int) v1990) fun v1991 =>
              (.br (decide (v1991 < (0 : Int))) (
               .leaf false
              ) (
               (.br (!decide (v1991 = v1989)) (
                .leaf false
               ) (
                (.call (laws_toWhole_g v1 v2 v3) fun v1992 =>
                (.call (impl_EchelonOf_g v1992.1 v1992.2.1 v1992.2.2) fun v1993 =>
                (.sum v1993 (fun v1994 =>
                 (.call (laws_eqWhole_g (0 : Int) (0 : Int) ([] : List Int) v768.1 v768.2.1 v768.2.2.2.2.1) fun v1996 =>
                 (.br (!v1996) (
                  .leaf false
                 ) (
                  (.call (laws_eqWhole_g (0 : Int) (0 : Int) ([] : List Int) v768.2.2.1 v768.2.2.2.1 v768.2.2.2.2.2) fun v1997 =>
                  (.br (!v1997) (
                   .leaf false
                  ) (
                   (.br (!(false == true)) (
                    .leaf false
                   ) (
                    (.call (laws_heldWhole_g ([] : List Int) (1 : Int)) fun v1998 =>
                    (.br (decide (v1998 < (0 : Int))) (
                     .leaf false
                    ) (
                     (.call (laws_heldWhole_g ([] : List Int) v1998) fun v1999 =>
                     (.br (decide (v1999 < (0 : Int))) (
                      .leaf false
                     ) (
                      (.br (!decide (v1999 = v1989)) (
                       .leaf false
                      ) (
                       .leaf true
                      ))
                     )))
                    )))
                   ))
                  )))
                 )))
                ) (fun v1995 =>
                 (.sum v1995 (fun v2000 =>
                  (.call (laws_eqWhole_g v2000.1 v2000.2.1 v2000.2.2.2.2 v768.1 v768.2.1 v768.2.2.2.2.1) fun v2002 =>
                  (.br (!v2002) (
                   .leaf false
                  ) (
                   (.call (laws_eqWhole_g v2000.2.2.1 v2000.2.2.2.1 ([] : List Int) v768.2.2.1 v768.2.2.2.1 v768.2.2.2.2.2) fun v2003 =>
                   (.br (!v2003) (
                    .leaf false
                   ) (
                    (.br (!(true == true)) (
                     .leaf false
                    ) (
                     (.call (laws_heldWhole_g ([] : List Int) (1 : Int)) fun v2004 =>
                     (.br (decide (v2004 < (0 : Int))) (
                      .leaf false
                     ) (
                      (.call (laws_heldWhole_g ([] : List Int) v2004) fun v2005 =>
                      (.br (decide (v2005 < (0 : Int))) (
                       .leaf false
                      ) (
                       (.br (!decide (v2005 = v1989)) (
                        .leaf false
                       ) (
                        .leaf true
                       ))
                      )))
                     )))
                    ))
                   )))
                  )))
                 ) (fun v2001 =>
                  (.call (laws_eqWhole_g v2001.1 v2001.2.1 v2001.2.2.2.2.1 v768.1 v768.2.1 v768.2.2.2.2.1) fun v2006 =>
                  (.br (!v2006) (
                   .leaf false
                  ) (
                   (.call (laws_eqWhole_g v2001.2.2.1 v2001.2.2.2.1 v2001.2.2.2.2.2 v768.2.2.1 v768.2.2.2.1 v768.2.2.2.2.2) fun v2007 =>
                   (.br (!v2007) (
                    .leaf false
                   ) (
                    (.br (!(true == true)) (
                     .leaf false
                    ) (
                     (.call (laws_heldWhole_g ([] : List Int) (1 : Int)) fun v2008 =>
                     (.br (decide (v2008 < (0 : Int))) (
                      .leaf false
                     ) (
                      (.call (laws_heldWhole_g ([] : List Int) v2008) fun v2009 =>
                      (.br (decide (v2009 < (0 : Int))) (
                       .leaf false
                      ) (
                       (.br (!decide (v2009 = v1989)) (
                        .leaf false
                       ) (
                        .leaf true
                       ))
                      )))
                     )))
                    ))
                   )))
                  )))
                 ))
                ))))
               ))
              )))
             )))))
            ))
           )))
          )))
         ))))
        ))))
       ))
      )))
     )))
    ) (fun v1980 =>
     (.sum v1980 (fun v2010 =>
      (.call (laws_eqWhole_g v2010.1 v2010.2.1 v2010.2.2.2.2 v768.1 v768.2.1 v768.2.2.2.2.1) fun v2012 =>
      (.br (!v2012) (
       .leaf false
      ) (
       (.call (laws_eqWhole_g v2010.2.2.1 v2010.2.2.2.1 ([] : List Int) v768.2.2.1 v768.2.2.2.1 v768.2.2.2.2.2) fun v2013 =>
       (.br (!v2013) (
        .leaf false
       ) (
        (.br (!(true == true)) (
         .leaf false
        ) (
         (.call (laws_toWhole_g v1 v2 v3) fun v2014 =>
         (.call (laws_eqWhole_g v1977.1 v1977.2.1 v1977.2.2 v2014.1 v2014.2.1 v2014.2.2) fun v2015 =>
         (.br (!v2015) (
          .leaf false
         ) (
          (.call (laws_markWhole_g v1977.2.2 (1 : Int)) fun v2016 =>
          (.grd (decide (v2016.2.length = v1977.2.2.length)) <|
          (.br (decide (v2016.1 < (0 : Int))) (
           .leaf false
          ) (
           (.call (laws_eqWhole_g v2010.1 v2010.2.1 v2010.2.2.2.2 v768.1 v768.2.1 v768.2.2.2.2.1) fun v2017 =>
           (.br (!v2017) (
            .leaf false
           ) (
            (.call (laws_eqWhole_g v2010.2.2.1 v2010.2.2.2.1 ([] : List Int) v768.2.2.1 v768.2.2.2.1 v768.2.2.2.2.2) fun v2018 =>
            (.br (!v2018) (
             .leaf false
            ) (
             (.br (!(true == true)) (
              .leaf false
             ) (
              (.call (laws_markWhole_g v2010.2.2.2.2 (1 : Int)) fun v2019 =>
              (.grd (decide (v2019.2.length = v2010.2.2.2.2.length)) <|
              (.call (laws_markWhole_i1_g v2019.1) fun v2020 =>
              (.call (laws_heldWhole_g v2019.2 (1 : Int)) fun v2021 =>
              (.br (decide (v2021 < (0 : Int))) (
               .leaf false
              ) (
               (.call (laws_heldWhole_g ([] : List Int) v2021) fun v2022 =>
               (.br (decide (v2022 < (0 : Int))) (
                .leaf false
               ) (
                (.br (!decide (v2022 = v2020)) (
                 .leaf false
                ) (
                 (.call (laws_toWhole_g v1 v2 v3) fun v2023 =>
                 (.call (impl_EchelonOf_g v2023.1 v2023.2.1 v2023.2.2) fun v2024 =>
                 (.sum v2024 (fun v2025 =>
                  (.call (laws_eqWhole_g (0 : Int) (0 : Int) ([] : List Int) v768.1 v768.2.1 v768.2.2.2.2.1) fun v2027 =>
                  (.br (!v2027) (
                   .leaf false
                  ) (
                   (.call (laws_eqWhole_g (0 : Int) (0 : Int) ([] : List Int) v768.2.2.1 v768.2.2.2.1 v768.2.2.2.2.2) fun v2028 =>
                   (.br (!v2028) (
                    .leaf false
                   ) (
                    (.br (!(false == true)) (
                     .leaf false
                    ) (
                     (.call (laws_heldWhole_g v2019.2 (1 : Int)) fun v2029 =>
                     (.br (decide (v2029 < (0 : Int))) (
                      .leaf false
                     ) (
                      (.call (laws_heldWhole_g ([] : List Int) v2029) fun v2030 =>
                      (.br (decide (v2030 < (0 : Int))) (
                       .leaf false
                      ) (
                       (.br (!decide (v2030 = v2020)) (
                        .leaf false
                       ) (
                        .leaf true
                       ))
                      )))
                     )))
                    ))
                   )))
                  )))
                 ) (fun v2026 =>
                  (.sum v2026 (fun v2031 =>
                   (.call (laws_eqWhole_g v2031.1 v2031.2.1 v2031.2.2.2.2 v768.1 v768.2.1 v768.2.2.2.2.1) fun v2033 =>
                   (.br (!v2033) (
                    .leaf false
                   ) (
                    (.call (laws_eqWhole_g v2031.2.2.1 v2031.2.2.2.1 ([] : List Int) v768.2.2.1 v768.2.2.2.1 v768.2.2.2.2.2) fun v2034 =>
                    (.br (!v2034) (
                     .leaf false
                    ) (
                     (.br (!(true == true)) (
                      .leaf false
                     ) (
                      (.call (laws_heldWhole_g v2019.2 (1 : Int)) fun v2035 =>
                      (.br (decide (v2035 < (0 : Int))) (
                       .leaf false
                      ) (
                       (.call (laws_heldWhole_g ([] : List Int) v2035) fun v2036 =>
                       (.br (decide (v2036 < (0 : Int))) (
                        .leaf false
                       ) (
                        (.br (!decide (v2036 = v2020)) (
                         .leaf false
                        ) (
                         .leaf true
                        ))
                       )))
                      )))
                     ))
                    )))
                   )))
                  ) (fun v2032 =>
                   (.call (laws_eqWhole_g v2032.1 v2032.2.1 v2032.2.2.2.2.1 v768.1 v768.2.1 v768.2.2.2.2.1) fun v2037 =>
                   (.br (!v2037) (
                    .leaf false
                   ) (
                    (.call (laws_eqWhole_g v2032.2.2.1 v2032.2.2.2.1 v2032.2.2.2.2.2 v768.2.2.1 v768.2.2.2.1 v768.2.2.2.2.2) fun v2038 =>
                    (.br (!v2038) (
                     .leaf false
                    ) (
                     (.br (!(true == true)) (
                      .leaf false
                     ) (
                      (.call (laws_heldWhole_g v2019.2 (1 : Int)) fun v2039 =>
                      (.br (decide (v2039 < (0 : Int))) (
                       .leaf false
                      ) (
                       (.call (laws_heldWhole_g ([] : List Int) v2039) fun v2040 =>
                       (.br (decide (v2040 < (0 : Int))) (
                        .leaf false
                       ) (
                        (.br (!decide (v2040 = v2020)) (
                         .leaf false
                        ) (
                         .leaf true
                        ))
                       )))
                      )))
                     ))
                    )))
                   )))
                  ))
                 ))))
                ))
               )))
              ))))))
             ))
            )))
           )))
          ))))
         ))))
        ))
       )))
      )))
     ) (fun v2011 =>
      (.call (laws_eqWhole_g v2011.1 v2011.2.1 v2011.2.2.2.2.1 v768.1 v768.2.1 v768.2.2.2.2.1) fun v2041 =>
      (.br (!v2041) (
       .leaf false
      ) (
       (.call (laws_eqWhole_g v2011.2.2.1 v2011.2.2.2.1 v2011.2.2.2.2.2 v768.2.2.1 v768.2.2.2.1 v768.2.2.2.2.2) fun v2042 =>
       (.br (!v2042) (
        .leaf false
       ) (
        (.br (!(true == true)) (
         .leaf false
        ) (
         (.call (laws_toWhole_g v1 v2 v3) fun v2043 =>
         (.call (laws_eqWhole_g v1977.1 v1977.2.1 v1977.2.2 v2043.1 v2043.2.1 v2043.2.2) fun v2044 =>
         (.br (!v2044) (
          .leaf false
         ) (
          (.call (laws_markWhole_g v1977.2.2 (1 : Int)) fun v2045 =>
          (.grd (decide (v2045.2.length = v1977.2.2.length)) <|
          (.br (decide (v2045.1 < (0 : Int))) (
           .leaf false
          ) (
           (.call (laws_eqWhole_g v2011.1 v2011.2.1 v2011.2.2.2.2.1 v768.1 v768.2.1 v768.2.2.2.2.1) fun v2046 =>
           (.br (!v2046) (
            .leaf false
           ) (
            (.call (laws_eqWhole_g v2011.2.2.1 v2011.2.2.2.1 v2011.2.2.2.2.2 v768.2.2.1 v768.2.2.2.1 v768.2.2.2.2.2) fun v2047 =>
            (.br (!v2047) (
             .leaf false
            ) (
             (.br (!(true == true)) (
              .leaf false
             ) (
              (.call (laws_markWhole_g v2011.2.2.2.2.1 (1 : Int)) fun v2048 =>
              (.grd (decide (v2048.2.length = v2011.2.2.2.2.1.length)) <|
              (.call (laws_markWhole_g v2011.2.2.2.2.2 v2048.1) fun v2049 =>
              (.grd (decide (v2049.2.length = v2011.2.2.2.2.2.length)) <|
              (.call (laws_heldWhole_g v2048.2 (1 : Int)) fun v2050 =>
              (.br (decide (v2050 < (0 : Int))) (
               .leaf false
              ) (
               (.call (laws_heldWhole_g v2049.2 v2050) fun v2051 =>
               (.br (decide (v2051 < (0 : Int))) (
                .leaf false
               ) (
                (.br (!decide (v2051 = v2049.1)) (
                 .leaf false
                ) (
                 (.call (laws_toWhole_g v1 v2 v3) fun v2052 =>
                 (.call (impl_EchelonOf_g v2052.1 v2052.2.1 v2052.2.2) fun v2053 =>
                 (.sum v2053 (fun v2054 =>
                  (.call (laws_eqWhole_g (0 : Int) (0 : Int) ([] : List Int) v768.1 v768.2.1 v768.2.2.2.2.1) fun v2056 =>
                  (.br (!v2056) (
                   .leaf false
                  ) (
                   (.call (laws_eqWhole_g (0 : Int) (0 : Int) ([] : List Int) v768.2.2.1 v768.2.2.2.1 v768.2.2.2.2.2) fun v2057 =>
                   (.br (!v2057) (
                    .leaf false
                   ) (
                    (.br (!(false == true)) (
                     .leaf false
                    ) (
                     (.call (laws_heldWhole_g v2048.2 (1 : Int)) fun v2058 =>
                     (.br (decide (v2058 < (0 : Int))) (
                      .leaf false
                     ) (
                      (.call (laws_heldWhole_g v2049.2 v2058) fun v2059 =>
                      (.br (decide (v2059 < (0 : Int))) (
                       .leaf false
                      ) (
                       (.br (!decide (v2059 = v2049.1)) (
                        .leaf false
                       ) (
                        .leaf true
                       ))
                      )))
                     )))
                    ))
                   )))
                  )))
                 ) (fun v2055 =>
                  (.sum v2055 (fun v2060 =>
                   (.call (laws_eqWhole_g v2060.1 v2060.2.1 v2060.2.2.2.2 v768.1 v768.2.1 v768.2.2.2.2.1) fun v2062 =>
                   (.br (!v2062) (
                    .leaf false
                   ) (
                    (.call (laws_eqWhole_g v2060.2.2.1 v2060.2.2.2.1 ([] : List Int) v768.2.2.1 v768.2.2.2.1 v768.2.2.2.2.2) fun v2063 =>
                    (.br (!v2063) (
                     .leaf false
                    ) (
                     (.br (!(true == true)) (
                      .leaf false
                     ) (
                      (.call (laws_heldWhole_g v2048.2 (1 : Int)) fun v2064 =>
                      (.br (decide (v2064 < (0 : Int))) (
                       .leaf false
                      ) (
                       (.call (laws_heldWhole_g v2049.2 v2064) fun v2065 =>
                       (.br (decide (v2065 < (0 : Int))) (
                        .leaf false
                       ) (
                        (.br (!decide (v2065 = v2049.1)) (
                         .leaf false
                        ) (
                         .leaf true
                        ))
                       )))
                      )))
                     ))
                    )))
                   )))
                  ) (fun v2061 =>
                   (.call (laws_eqWhole_g v2061.1 v2061.2.1 v2061.2.2.2.2.1 v768.1 v768.2.1 v768.2.2.2.2.1) fun v2066 =>
                   (.br (!v2066) (
                    .leaf false
                   ) (
                    (.call (laws_eqWhole_g v2061.2.2.1 v2061.2.2.2.1 v2061.2.2.2.2.2 v768.2.2.1 v768.2.2.2.1 v768.2.2.2.2.2) fun v2067 =>
                    (.br (!v2067) (
                     .leaf false
                    ) (
                     (.br (!(true == true)) (
                      .leaf false
                     ) (
                      (.call (laws_heldWhole_g v2048.2 (1 : Int)) fun v2068 =>
                      (.br (decide (v2068 < (0 : Int))) (
                       .leaf false
                      ) (
                       (.call (laws_heldWhole_g v2049.2 v2068) fun v2069 =>
                       (.br (decide (v2069 < (0 : Int))) (
                        .leaf false
                       ) (
                        (.br (!decide (v2069 = v2049.1)) (
                         .leaf false
                        ) (
                         .leaf true
                        ))
                       )))
                      )))
                     ))
                    )))
                   )))
                  ))
                 ))))
                ))
               )))
              )))))))
             ))
            )))
           )))
          ))))
         ))))
        ))
       )))
      )))
     ))
    ))))
   ))))
  ))

noncomputable def laws_FnExactEchelonOf_g (v1 : Int) (v2 : Int) (v3 : List Int) : Option (Bool) := (laws_FnExactEchelonOf_T v1 v2 v3).run
def laws_FnExactEchelonOf_enc (v1 : Int) (v2 : Int) (v3 : List Int) (y : Bool) : Rs := (.bool y, [])
theorem laws_FnExactEchelonOf_den (v1 : Int) (v2 : Int) (v3 : List Int) : (den TT (tabD laws_FnExactEchelonOf_tab) (tabM laws_FnExactEchelonOf_tab) (laws_FnExactEchelonOf_LO v1 v2 v3) (codeOf Try.f10) ([.agg [.int .i64 v1, .int .i64 v2, .bslc (BR.root 0) (.i64 v3)]] ++ List.replicate (Try.f10.ntmps - ([.agg [.int .i64 v1, .int .i64 v2, .bslc (BR.root 0) (.i64 v3)]] : List DV).length) .undef) []).bind (retD TT Try.f10.results.toList 0) = (laws_FnExactEchelonOf_T v1 v2 v3).bind fun y => .leaf (laws_FnExactEchelonOf_enc v1 v2 v3 y) := by kernel_rfl
theorem laws_FnExactEchelonOf_fn (v1 : Int) (v2 : Int) (v3 : List Int) (F : Fr) (hm : F.ids.length = 0) (h0 : St F [] F.H0) (hA : DVs.Ok F [] [.agg [.int .i64 v1, .int .i64 v2, .bslc (BR.root 0) (.i64 v3)]]) {y : Bool} (hy : laws_FnExactEchelonOf_g v1 v2 v3 = some y) : ∃ H', FnOk Try.prog 10 (DVs.av F [.agg [.int .i64 v1, .int .i64 v2, .bslc (BR.root 0) (.i64 v3)]]) F.H0 ((laws_FnExactEchelonOf_enc v1 v2 v3 y).1.av F) H' ∧ St F (laws_FnExactEchelonOf_enc v1 v2 v3 y).2 H' ∧ (laws_FnExactEchelonOf_enc v1 v2 v3 y).1.Ok F (laws_FnExactEchelonOf_enc v1 v2 v3 y).2 :=
  fn_fin tok laws_FnExactEchelonOf_hO mixed Try.func10 Try.call10 (by kernel_rfl) (LoopsOk_eq (l := []) (by kernel_rfl) trivial) (laws_FnExactEchelonOf_den v1 v2 v3) hy hm h0 hA
noncomputable def laws_FnExactEchelonOf_F : DFn := fun args L =>
  match args with
  | [.agg [.int .i64 v1, .int .i64 v2, a1]] =>
    optT (rowI64 L a1) fun v3 =>
    .call (laws_FnExactEchelonOf_g v1 v2 v3) fun y => .leaf (.bool y, L)
  | _ => .fail
theorem laws_FnExactEchelonOf_Fok : COk Try.prog 10 laws_FnExactEchelonOf_F true := by
  intro F L H args r L' hs ha hr
  unfold laws_FnExactEchelonOf_F at hr
  split at hr
  · rename_i v1 v2 a1
    obtain ⟨v3, hv3, hr⟩ := optT_run hr
    simp only [Tree.run] at hr
    obtain ⟨y, hy, hr⟩ := Option.bind_eq_some_iff.1 hr
    simp only [Tree.run, Option.some.injEq, Prod.mk.injEq] at hr
    obtain ⟨rfl, rfl⟩ := hr
    exact call_ok0 hs (fun k => (([a1.av F] : List AV)[k]?).getD .top) [.agg [.int .i64 v1, .int .i64 v2, a1]] [.agg [.int .i64 v1, .int .i64 v2, .bslc (BR.root 0) (.i64 v3)]] (fun F' h0 hi hρ => ⟨by simp [DVs.av, DV.av, BR.av, hρ], laws_FnExactEchelonOf_fn v1 v2 v3 F' (by rw [hi]; rfl) (st_nil hi) ⟨⟨trivial, trivial, bslc_ok hi (by rw [h0, hρ]; exact rowI64_ok hs (DVs.okAt (DVs.okAt ha 0 rfl) 2 rfl) hv3), trivial⟩, trivial⟩ hy⟩) rfl
  · cases hr
/-! laws.szInt64S -/
noncomputable def laws_szInt64S_len_LO (v2077 : Nat) (v2078 : Int) : LOr := fun id e L =>
  match id with
  | _ => .fail
noncomputable def laws_szInt64S_len_tab : List (FuncId × DFn × Bool) := []
theorem laws_szInt64S_len_hO : OrcOk Try.prog (tabD laws_szInt64S_len_tab) (tabM laws_szInt64S_len_tab) := tabD_nil _
noncomputable def laws_szInt64S_len_T (v2077 : Nat) (v2078 : Int) : Tree (Int) :=
  (.br (decide (IntKind.i64.wrap (v2078 - ((v2077 : Nat) : Int)) < (0 : Int))) (
   .leaf (-1 : Int)
  ) (
   .leaf (IntKind.i64.wrap (v2078 - ((v2077 : Nat) : Int)))
  ))

noncomputable def laws_szInt64S_len_g (v2077 : Nat) (v2078 : Int) : Option (Int) := (laws_szInt64S_len_T v2077 v2078).run
def laws_szInt64S_len_enc (v2077 : Nat) (v2078 : Int) (y : Int) : Rs := (.int .i64 y, [])
theorem laws_szInt64S_len_den (v2077 : Nat) (v2078 : Int) : (den TT (tabD laws_szInt64S_len_tab) (tabM laws_szInt64S_len_tab) (laws_szInt64S_len_LO v2077 v2078) (codeOf Try.f61) ([.hslc (BR.root 0) v2077, .int .i64 v2078] ++ List.replicate (Try.f61.ntmps - ([.hslc (BR.root 0) v2077, .int .i64 v2078] : List DV).length) .undef) []).bind (retD TT Try.f61.results.toList 0) = (laws_szInt64S_len_T v2077 v2078).bind fun y => .leaf (laws_szInt64S_len_enc v2077 v2078 y) := by kernel_rfl
theorem laws_szInt64S_len_fn (v2077 : Nat) (v2078 : Int) (F : Fr) (hm : F.ids.length = 0) (h0 : St F [] F.H0) (hA : DVs.Ok F [] [.hslc (BR.root 0) v2077, .int .i64 v2078]) {y : Int} (hy : laws_szInt64S_len_g v2077 v2078 = some y) : ∃ H', FnOk Try.prog 61 (DVs.av F [.hslc (BR.root 0) v2077, .int .i64 v2078]) F.H0 ((laws_szInt64S_len_enc v2077 v2078 y).1.av F) H' ∧ St F (laws_szInt64S_len_enc v2077 v2078 y).2 H' ∧ (laws_szInt64S_len_enc v2077 v2078 y).1.Ok F (laws_szInt64S_len_enc v2077 v2078 y).2 :=
  fn_fin tok laws_szInt64S_len_hO mixed Try.func61 Try.call61 (by kernel_rfl) (LoopsOk_eq (l := []) (by kernel_rfl) trivial) (laws_szInt64S_len_den v2077 v2078) hy hm h0 hA
def laws_szInt64S_len_v (v2077 : Nat) (v2078 : Int) : Int :=
  if (decide (IntKind.i64.wrap (v2078 - ((v2077 : Nat) : Int)) < (0 : Int))) = true then (
   (-1 : Int)
  ) else (
   IntKind.i64.wrap (v2078 - ((v2077 : Nat) : Int))
  )
theorem laws_szInt64S_len_tot (v2077 : Nat) (v2078 : Int) : laws_szInt64S_len_g v2077 v2078 = some (laws_szInt64S_len_v v2077 v2078) := by
  unfold laws_szInt64S_len_g laws_szInt64S_len_T laws_szInt64S_len_v
  simp only [Tree.run]
  repeat' (first | rfl | split)
noncomputable def laws_szInt64S_len_F : DFn := fun args L =>
  match args with
  | [a1, .int .i64 v2078] =>
    optT (lenV L a1) fun v2077 =>
    .leaf (.int .i64 (laws_szInt64S_len_v v2077 v2078), L)
  | _ => .fail
theorem laws_szInt64S_len_Fok : COk Try.prog 61 laws_szInt64S_len_F true := by
  intro F L H args r L' hs ha hr
  unfold laws_szInt64S_len_F at hr
  split at hr
  · rename_i a1 v2078
    obtain ⟨v2077, hv2077, hr⟩ := optT_run hr
    have hy := laws_szInt64S_len_tot v2077 v2078
    generalize laws_szInt64S_len_v v2077 v2078 = y at hy hr
    simp only [Tree.run, Option.some.injEq, Prod.mk.injEq] at hr
    obtain ⟨rfl, rfl⟩ := hr
    exact call_ok0 hs (fun k => (([a1.av F] : List AV)[k]?).getD .top) [a1, .int .i64 v2078] [.hslc (BR.root 0) v2077, .int .i64 v2078] (fun F' h0 hi hρ => ⟨by simp [DVs.av, DV.av, BR.av, hρ], laws_szInt64S_len_fn v2077 v2078 F' (by rw [hi]; rfl) (st_nil hi) ⟨hslc_ok hi (by rw [h0, hρ]; exact lenV_ok hs (DVs.okAt ha 0 rfl) hv2077), trivial, trivial⟩ hy⟩) rfl
  · cases hr
/-! laws.szWhole -/
noncomputable def laws_szWhole_len_LO (v2073 : Int) (v2074 : Int) (v2075 : Nat) (v2076 : Int) : LOr := fun id e L =>
  match id with
  | _ => .fail
noncomputable def laws_szWhole_len_tab : List (FuncId × DFn × Bool) := [(61, laws_szInt64S_len_F, true)]
theorem laws_szWhole_len_hO : OrcOk Try.prog (tabD laws_szWhole_len_tab) (tabM laws_szWhole_len_tab) := tabD_cons laws_szInt64S_len_Fok (tabD_nil _)
noncomputable def laws_szWhole_len_T (v2075 : Nat) (v2076 : Int) : Tree (Int) :=
  (.br (decide ((laws_szInt64S_len_v v2075 v2076) < (0 : Int))) (
   .leaf (-1 : Int)
  ) (
   .leaf (laws_szInt64S_len_v v2075 v2076)
  ))

noncomputable def laws_szWhole_len_g (v2075 : Nat) (v2076 : Int) : Option (Int) := (laws_szWhole_len_T v2075 v2076).run
def laws_szWhole_len_enc (v2073 : Int) (v2074 : Int) (v2075 : Nat) (v2076 : Int) (y : Int) : Rs := (.int .i64 y, [])
theorem laws_szWhole_len_den (v2073 : Int) (v2074 : Int) (v2075 : Nat) (v2076 : Int) : (den TT (tabD laws_szWhole_len_tab) (tabM laws_szWhole_len_tab) (laws_szWhole_len_LO v2073 v2074 v2075 v2076) (codeOf Try.f15) ([.agg [.int .i64 v2073, .int .i64 v2074, .hslc (BR.root 0) v2075], .int .i64 v2076] ++ List.replicate (Try.f15.ntmps - ([.agg [.int .i64 v2073, .int .i64 v2074, .hslc (BR.root 0) v2075], .int .i64 v2076] : List DV).length) .undef) []).bind (retD TT Try.f15.results.toList 0) = (laws_szWhole_len_T v2075 v2076).bind fun y => .leaf (laws_szWhole_len_enc v2073 v2074 v2075 v2076 y) := by kernel_rfl
theorem laws_szWhole_len_fn (v2073 : Int) (v2074 : Int) (v2075 : Nat) (v2076 : Int) (F : Fr) (hm : F.ids.length = 0) (h0 : St F [] F.H0) (hA : DVs.Ok F [] [.agg [.int .i64 v2073, .int .i64 v2074, .hslc (BR.root 0) v2075], .int .i64 v2076]) {y : Int} (hy : laws_szWhole_len_g v2075 v2076 = some y) : ∃ H', FnOk Try.prog 15 (DVs.av F [.agg [.int .i64 v2073, .int .i64 v2074, .hslc (BR.root 0) v2075], .int .i64 v2076]) F.H0 ((laws_szWhole_len_enc v2073 v2074 v2075 v2076 y).1.av F) H' ∧ St F (laws_szWhole_len_enc v2073 v2074 v2075 v2076 y).2 H' ∧ (laws_szWhole_len_enc v2073 v2074 v2075 v2076 y).1.Ok F (laws_szWhole_len_enc v2073 v2074 v2075 v2076 y).2 :=
  fn_fin tok laws_szWhole_len_hO mixed Try.func15 Try.call15 (by kernel_rfl) (LoopsOk_eq (l := []) (by kernel_rfl) trivial) (laws_szWhole_len_den v2073 v2074 v2075 v2076) hy hm h0 hA
def laws_szWhole_len_v (v2075 : Nat) (v2076 : Int) : Int :=
  if (decide ((laws_szInt64S_len_v v2075 v2076) < (0 : Int))) = true then (
   (-1 : Int)
  ) else (
   (laws_szInt64S_len_v v2075 v2076)
  )
theorem laws_szWhole_len_tot (v2075 : Nat) (v2076 : Int) : laws_szWhole_len_g v2075 v2076 = some (laws_szWhole_len_v v2075 v2076) := by
  unfold laws_szWhole_len_g laws_szWhole_len_T laws_szWhole_len_v
  simp only [Tree.run]
  repeat' (first | rfl | split)
noncomputable def laws_szWhole_len_F : DFn := fun args L =>
  match args with
  | [.agg [.int .i64 v2073, .int .i64 v2074, a1], .int .i64 v2076] =>
    optT (lenV L a1) fun v2075 =>
    .leaf (.int .i64 (laws_szWhole_len_v v2075 v2076), L)
  | _ => .fail
theorem laws_szWhole_len_Fok : COk Try.prog 15 laws_szWhole_len_F true := by
  intro F L H args r L' hs ha hr
  unfold laws_szWhole_len_F at hr
  split at hr
  · rename_i v2073 v2074 a1 v2076
    obtain ⟨v2075, hv2075, hr⟩ := optT_run hr
    have hy := laws_szWhole_len_tot v2075 v2076
    generalize laws_szWhole_len_v v2075 v2076 = y at hy hr
    simp only [Tree.run, Option.some.injEq, Prod.mk.injEq] at hr
    obtain ⟨rfl, rfl⟩ := hr
    exact call_ok0 hs (fun k => (([a1.av F] : List AV)[k]?).getD .top) [.agg [.int .i64 v2073, .int .i64 v2074, a1], .int .i64 v2076] [.agg [.int .i64 v2073, .int .i64 v2074, .hslc (BR.root 0) v2075], .int .i64 v2076] (fun F' h0 hi hρ => ⟨by simp [DVs.av, DV.av, BR.av, hρ], laws_szWhole_len_fn v2073 v2074 v2075 v2076 F' (by rw [hi]; rfl) (st_nil hi) ⟨⟨trivial, trivial, hslc_ok hi (by rw [h0, hρ]; exact lenV_ok hs (DVs.okAt (DVs.okAt ha 0 rfl) 2 rfl) hv2075), trivial⟩, trivial, trivial⟩ hy⟩) rfl
  · cases hr
/-! laws.FnExactEchelonOf -/
noncomputable def laws_FnExactEchelonOf_len_LO (v2070 : Int) (v2071 : Int) (v2072 : Nat) : LOr := fun id e L =>
  match id with
  | _ => .fail
noncomputable def laws_FnExactEchelonOf_len_tab : List (FuncId × DFn × Bool) := [(15, laws_szWhole_len_F, true)]
theorem laws_FnExactEchelonOf_len_hO : OrcOk Try.prog (tabD laws_FnExactEchelonOf_len_tab) (tabM laws_FnExactEchelonOf_len_tab) := tabD_cons laws_szWhole_len_Fok (tabD_nil _)
noncomputable def laws_FnExactEchelonOf_len_T (v2072 : Nat) : Tree (Bool) :=
  (.br (decide ((laws_szWhole_len_v v2072 (1048576 : Int)) < (0 : Int))) (
   .leaf true
  ) (
   .fail
  ))

noncomputable def laws_FnExactEchelonOf_len_g (v2072 : Nat) : Option (Bool) := (laws_FnExactEchelonOf_len_T v2072).run
def laws_FnExactEchelonOf_len_enc (v2070 : Int) (v2071 : Int) (v2072 : Nat) (y : Bool) : Rs := (.bool y, [])
theorem laws_FnExactEchelonOf_len_den (v2070 : Int) (v2071 : Int) (v2072 : Nat) : (den TT (tabD laws_FnExactEchelonOf_len_tab) (tabM laws_FnExactEchelonOf_len_tab) (laws_FnExactEchelonOf_len_LO v2070 v2071 v2072) (codeOf Try.f10) ([.agg [.int .i64 v2070, .int .i64 v2071, .hslc (BR.root 0) v2072]] ++ List.replicate (Try.f10.ntmps - ([.agg [.int .i64 v2070, .int .i64 v2071, .hslc (BR.root 0) v2072]] : List DV).length) .undef) []).bind (retD TT Try.f10.results.toList 0) = (laws_FnExactEchelonOf_len_T v2072).bind fun y => .leaf (laws_FnExactEchelonOf_len_enc v2070 v2071 v2072 y) := by kernel_rfl
theorem laws_FnExactEchelonOf_len_fn (v2070 : Int) (v2071 : Int) (v2072 : Nat) (F : Fr) (hm : F.ids.length = 0) (h0 : St F [] F.H0) (hA : DVs.Ok F [] [.agg [.int .i64 v2070, .int .i64 v2071, .hslc (BR.root 0) v2072]]) {y : Bool} (hy : laws_FnExactEchelonOf_len_g v2072 = some y) : ∃ H', FnOk Try.prog 10 (DVs.av F [.agg [.int .i64 v2070, .int .i64 v2071, .hslc (BR.root 0) v2072]]) F.H0 ((laws_FnExactEchelonOf_len_enc v2070 v2071 v2072 y).1.av F) H' ∧ St F (laws_FnExactEchelonOf_len_enc v2070 v2071 v2072 y).2 H' ∧ (laws_FnExactEchelonOf_len_enc v2070 v2071 v2072 y).1.Ok F (laws_FnExactEchelonOf_len_enc v2070 v2071 v2072 y).2 :=
  fn_fin tok laws_FnExactEchelonOf_len_hO mixed Try.func10 Try.call10 (by kernel_rfl) (LoopsOk_eq (l := []) (by kernel_rfl) trivial) (laws_FnExactEchelonOf_len_den v2070 v2071 v2072) hy hm h0 hA
noncomputable def laws_FnExactEchelonOf_len_F : DFn := fun args L =>
  match args with
  | [.agg [.int .i64 v2070, .int .i64 v2071, a1]] =>
    optT (lenV L a1) fun v2072 =>
    .call (laws_FnExactEchelonOf_len_g v2072) fun y => .leaf (.bool y, L)
  | _ => .fail
theorem laws_FnExactEchelonOf_len_Fok : COk Try.prog 10 laws_FnExactEchelonOf_len_F true := by
  intro F L H args r L' hs ha hr
  unfold laws_FnExactEchelonOf_len_F at hr
  split at hr
  · rename_i v2070 v2071 a1
    obtain ⟨v2072, hv2072, hr⟩ := optT_run hr
    simp only [Tree.run] at hr
    obtain ⟨y, hy, hr⟩ := Option.bind_eq_some_iff.1 hr
    simp only [Tree.run, Option.some.injEq, Prod.mk.injEq] at hr
    obtain ⟨rfl, rfl⟩ := hr
    exact call_ok0 hs (fun k => (([a1.av F] : List AV)[k]?).getD .top) [.agg [.int .i64 v2070, .int .i64 v2071, a1]] [.agg [.int .i64 v2070, .int .i64 v2071, .hslc (BR.root 0) v2072]] (fun F' h0 hi hρ => ⟨by simp [DVs.av, DV.av, BR.av, hρ], laws_FnExactEchelonOf_len_fn v2070 v2071 v2072 F' (by rw [hi]; rfl) (st_nil hi) ⟨⟨trivial, trivial, hslc_ok hi (by rw [h0, hρ]; exact lenV_ok hs (DVs.okAt (DVs.okAt ha 0 rfl) 2 rfl) hv2072), trivial⟩, trivial⟩ hy⟩) rfl
  · cases hr
end Go.Proofs.Ytbjnjaclmcpbbaa.AM
