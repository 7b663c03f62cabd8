/- Functions: what they come to. -/
import Derived.Test.YtooakheodgndaaaX0
set_option maxRecDepth 100000
set_option maxHeartbeats 4000000
set_option linter.unusedSimpArgs false
set_option linter.unusedVariables false
namespace Go.Proofs.Ytooakheodgndaaa.AM
open Go.Proofs
/-! impl.ValidMatrix -/
noncomputable def impl_ValidMatrix_LO (v1939 : Int) (v1940 : Int) (v1941 : List Nat) : LOr := fun id e L =>
  match id with
  | _ => .fail
noncomputable def impl_ValidMatrix_tab : List (FuncId × DFn × Bool) := [(77, impl_isSide_F, true), (112, impl_lengthF_F, true), (68, impl_areFinite_F, true)]
theorem impl_ValidMatrix_hO : OrcOk Try.prog (tabD impl_ValidMatrix_tab) (tabM impl_ValidMatrix_tab) := tabD_cons impl_isSide_Fok (tabD_cons impl_lengthF_Fok (tabD_cons impl_areFinite_Fok (tabD_nil _)))
noncomputable def impl_ValidMatrix_T (v1939 : Int) (v1940 : Int) (v1941 : List Nat) : Tree (Bool) :=
  (.br (impl_isSide_v v1939) (
   (.br (impl_isSide_v v1940) (
    (.br (decide ((impl_lengthF_v v1941) = IntKind.i64.wrap (v1939 * v1940))) (
     (.call (impl_areFinite_g v1941) fun v1943 =>
     .leaf v1943)
    ) (
     .leaf false
    ))
   ) (
    .leaf false
   ))
  ) (
   .leaf false
  ))

noncomputable def impl_ValidMatrix_g (v1939 : Int) (v1940 : Int) (v1941 : List Nat) : Option (Bool) := (impl_ValidMatrix_T v1939 v1940 v1941).run
def impl_ValidMatrix_enc (v1939 : Int) (v1940 : Int) (v1941 : List Nat) (y : Bool) : Rs := (.bool y, [])
theorem impl_ValidMatrix_den (v1939 : Int) (v1940 : Int) (v1941 : List Nat) : (den TT (tabD impl_ValidMatrix_tab) (tabM impl_ValidMatrix_tab) (impl_ValidMatrix_LO v1939 v1940 v1941) (codeOf Try.f67) ([.agg [.int .i64 v1939, .int .i64 v1940, .bslc (BR.root 0) (.f32 v1941)]] ++ List.replicate (Try.f67.ntmps - ([.agg [.int .i64 v1939, .int .i64 v1940, .bslc (BR.root 0) (.f32 v1941)]] : List DV).length) .undef) []).bind (retD TT Try.f67.results.toList 0) = (impl_ValidMatrix_T v1939 v1940 v1941).bind fun y => .leaf (impl_ValidMatrix_enc v1939 v1940 v1941 y) := by kernel_rfl
theorem impl_ValidMatrix_fn (v1939 : Int) (v1940 : Int) (v1941 : List Nat) (F : Fr) (hm : F.ids.length = 0) (h0 : St F [] F.H0) (hA : DVs.Ok F [] [.agg [.int .i64 v1939, .int .i64 v1940, .bslc (BR.root 0) (.f32 v1941)]]) {y : Bool} (hy : impl_ValidMatrix_g v1939 v1940 v1941 = some y) : ∃ H', FnOk Try.prog 67 (DVs.av F [.agg [.int .i64 v1939, .int .i64 v1940, .bslc (BR.root 0) (.f32 v1941)]]) F.H0 ((impl_ValidMatrix_enc v1939 v1940 v1941 y).1.av F) H' ∧ St F (impl_ValidMatrix_enc v1939 v1940 v1941 y).2 H' ∧ (impl_ValidMatrix_enc v1939 v1940 v1941 y).1.Ok F (impl_ValidMatrix_enc v1939 v1940 v1941 y).2 :=
  fn_fin tok impl_ValidMatrix_hO mixed Try.func67 Try.call67 (by kernel_rfl) (LoopsOk_eq (l := []) (by kernel_rfl) trivial) (impl_ValidMatrix_den v1939 v1940 v1941) hy hm h0 hA
noncomputable def impl_ValidMatrix_F : DFn := fun args L =>
  match args with
  | [.agg [.int .i64 v1939, .int .i64 v1940, a1]] =>
    optT (rowF32 L a1) fun v1941 =>
    .call (impl_ValidMatrix_g v1939 v1940 v1941) fun y => .leaf (.bool y, L)
  | _ => .fail
theorem impl_ValidMatrix_Fok : COk Try.prog 67 impl_ValidMatrix_F true := by
  intro F L H args r L' hs ha hr
  unfold impl_ValidMatrix_F at hr
  split at hr
  · rename_i v1939 v1940 a1
    obtain ⟨v1941, hv1941, hr⟩ := optT_run hr
    simp only [Tree.run] at hr
    obtain ⟨y, hy, hr⟩ := Option.bind_eq_some_iff.1 hr
    simp only [Tree.run, Option.some.injEq, Prod.mk.injEq] at hr
    obtain ⟨rfl, rfl⟩ := hr
    exact call_ok0 hs (fun k => (([a1.av F] : List AV)[k]?).getD .top) [.agg [.int .i64 v1939, .int .i64 v1940, a1]] [.agg [.int .i64 v1939, .int .i64 v1940, .bslc (BR.root 0) (.f32 v1941)]] (fun F' h0 hi hρ => ⟨by simp [DVs.av, DV.av, BR.av, hρ], impl_ValidMatrix_fn v1939 v1940 v1941 F' (by rw [hi]; rfl) (st_nil hi) ⟨⟨trivial, trivial, bslc_ok hi (by rw [h0, hρ]; exact rowF32_ok hs (DVs.okAt (DVs.okAt ha 0 rfl) 2 rfl) hv1941), trivial⟩, trivial⟩ hy⟩) rfl
  · cases hr
/-! impl.isTall -/
noncomputable def impl_isTall_LO (v1936 : Int) (v1937 : Int) (v1938 : List Nat) : LOr := fun id e L =>
  match id with
  | _ => .fail
noncomputable def impl_isTall_tab : List (FuncId × DFn × Bool) := [(67, impl_ValidMatrix_F, true)]
theorem impl_isTall_hO : OrcOk Try.prog (tabD impl_isTall_tab) (tabM impl_isTall_tab) := tabD_cons impl_ValidMatrix_Fok (tabD_nil _)
noncomputable def impl_isTall_T (v1936 : Int) (v1937 : Int) (v1938 : List Nat) : Tree (Bool) :=
  (.call (impl_ValidMatrix_g v1936 v1937 v1938) fun v1944 =>
  (.br v1944 (
   .leaf (decide (v1937 ≤ v1936))
  ) (
   .leaf false
  )))

noncomputable def impl_isTall_g (v1936 : Int) (v1937 : Int) (v1938 : List Nat) : Option (Bool) := (impl_isTall_T v1936 v1937 v1938).run
def impl_isTall_enc (v1936 : Int) (v1937 : Int) (v1938 : List Nat) (y : Bool) : Rs := (.bool y, [])
theorem impl_isTall_den (v1936 : Int) (v1937 : Int) (v1938 : List Nat) : (den TT (tabD impl_isTall_tab) (tabM impl_isTall_tab) (impl_isTall_LO v1936 v1937 v1938) (codeOf Try.f116) ([.agg [.int .i64 v1936, .int .i64 v1937, .bslc (BR.root 0) (.f32 v1938)]] ++ List.replicate (Try.f116.ntmps - ([.agg [.int .i64 v1936, .int .i64 v1937, .bslc (BR.root 0) (.f32 v1938)]] : List DV).length) .undef) []).bind (retD TT Try.f116.results.toList 0) = (impl_isTall_T v1936 v1937 v1938).bind fun y => .leaf (impl_isTall_enc v1936 v1937 v1938 y) := by kernel_rfl
theorem impl_isTall_fn (v1936 : Int) (v1937 : Int) (v1938 : List Nat) (F : Fr) (hm : F.ids.length = 0) (h0 : St F [] F.H0) (hA : DVs.Ok F [] [.agg [.int .i64 v1936, .int .i64 v1937, .bslc (BR.root 0) (.f32 v1938)]]) {y : Bool} (hy : impl_isTall_g v1936 v1937 v1938 = some y) : ∃ H', FnOk Try.prog 116 (DVs.av F [.agg [.int .i64 v1936, .int .i64 v1937, .bslc (BR.root 0) (.f32 v1938)]]) F.H0 ((impl_isTall_enc v1936 v1937 v1938 y).1.av F) H' ∧ St F (impl_isTall_enc v1936 v1937 v1938 y).2 H' ∧ (impl_isTall_enc v1936 v1937 v1938 y).1.Ok F (impl_isTall_enc v1936 v1937 v1938 y).2 :=
  fn_fin tok impl_isTall_hO mixed Try.func116 Try.call116 (by kernel_rfl) (LoopsOk_eq (l := []) (by kernel_rfl) trivial) (impl_isTall_den v1936 v1937 v1938) hy hm h0 hA
noncomputable def impl_isTall_F : DFn := fun args L =>
  match args with
  | [.agg [.int .i64 v1936, .int .i64 v1937, a1]] =>
    optT (rowF32 L a1) fun v1938 =>
    .call (impl_isTall_g v1936 v1937 v1938) fun y => .leaf (.bool y, L)
  | _ => .fail
theorem impl_isTall_Fok : COk Try.prog 116 impl_isTall_F true := by
  intro F L H args r L' hs ha hr
  unfold impl_isTall_F at hr
  split at hr
  · rename_i v1936 v1937 a1
    obtain ⟨v1938, hv1938, hr⟩ := optT_run hr
    simp only [Tree.run] at hr
    obtain ⟨y, hy, hr⟩ := Option.bind_eq_some_iff.1 hr
    simp only [Tree.run, Option.some.injEq, Prod.mk.injEq] at hr
    obtain ⟨rfl, rfl⟩ := hr
    exact call_ok0 hs (fun k => (([a1.av F] : List AV)[k]?).getD .top) [.agg [.int .i64 v1936, .int .i64 v1937, a1]] [.agg [.int .i64 v1936, .int .i64 v1937, .bslc (BR.root 0) (.f32 v1938)]] (fun F' h0 hi hρ => ⟨by simp [DVs.av, DV.av, BR.av, hρ], impl_isTall_fn v1936 v1937 v1938 F' (by rw [hi]; rfl) (st_nil hi) ⟨⟨trivial, trivial, bslc_ok hi (by rw [h0, hρ]; exact rowF32_ok hs (DVs.okAt (DVs.okAt ha 0 rfl) 2 rfl) hv1938), trivial⟩, trivial⟩ hy⟩) rfl
  · cases hr
/-! impl.newMatrix -/
noncomputable def impl_newMatrix_LO (v1946 : Int) (v1947 : Int) : LOr := fun id e L =>
  match id with
  | _ => .fail
noncomputable def impl_newMatrix_tab : List (FuncId × DFn × Bool) := []
theorem impl_newMatrix_hO : OrcOk Try.prog (tabD impl_newMatrix_tab) (tabM impl_newMatrix_tab) := tabD_nil _
noncomputable def impl_newMatrix_T (v1946 : Int) (v1947 : Int) : Tree (Int × Int) :=
  (.need (IntKind.i64.wrap (v1946 * v1947) = IntKind.i64.wrap (v1946 * v1947)) <|
  (.grd (inb (IntKind.i64.wrap (v1946 * v1947)) (maxN + 1)) <|
  .leaf (v1946, v1947)))

noncomputable def impl_newMatrix_g (v1946 : Int) (v1947 : Int) : Option (Int × Int) := (impl_newMatrix_T v1946 v1947).run
def impl_newMatrix_enc (v1946 : Int) (v1947 : Int) (y : Int × Int) : Rs := (.agg [.int .i64 y.1, .int .i64 y.2, .own 0 0 ((List.replicate (Int.toNat (IntKind.i64.wrap (v1946 * v1947))) (0 : Nat)).length)], [.row (.f32 (List.replicate (Int.toNat (IntKind.i64.wrap (v1946 * v1947))) (0 : Nat))) 0])
theorem impl_newMatrix_den (v1946 : Int) (v1947 : Int) : (den TT (tabD impl_newMatrix_tab) (tabM impl_newMatrix_tab) (impl_newMatrix_LO v1946 v1947) (codeOf Try.f117) ([.int .i64 v1946, .int .i64 v1947] ++ List.replicate (Try.f117.ntmps - ([.int .i64 v1946, .int .i64 v1947] : List DV).length) .undef) []).bind (retD TT Try.f117.results.toList 0) = (impl_newMatrix_T v1946 v1947).bind fun y => .leaf (impl_newMatrix_enc v1946 v1947 y) := by kernel_rfl
theorem impl_newMatrix_fn (v1946 : Int) (v1947 : Int) (F : Fr) (hm : F.ids.length = 0) (h0 : St F [] F.H0) (hA : DVs.Ok F [] [.int .i64 v1946, .int .i64 v1947]) {y : Int × Int} (hy : impl_newMatrix_g v1946 v1947 = some y) : ∃ H', FnOk Try.prog 117 (DVs.av F [.int .i64 v1946, .int .i64 v1947]) F.H0 ((impl_newMatrix_enc v1946 v1947 y).1.av F) H' ∧ St F (impl_newMatrix_enc v1946 v1947 y).2 H' ∧ (impl_newMatrix_enc v1946 v1947 y).1.Ok F (impl_newMatrix_enc v1946 v1947 y).2 :=
  fn_fin tok impl_newMatrix_hO mixed Try.func117 Try.call117 (by kernel_rfl) (LoopsOk_eq (l := []) (by kernel_rfl) trivial) (impl_newMatrix_den v1946 v1947) hy hm h0 hA
noncomputable def impl_newMatrix_F : DFn := fun args L =>
  match args with
  | [.int .i64 v1946, .int .i64 v1947] =>
    .call (impl_newMatrix_g v1946 v1947) fun y => .leaf (.agg [.int .i64 y.1, .int .i64 y.2, .own (L.length + 0) 0 ((List.replicate (Int.toNat (IntKind.i64.wrap (v1946 * v1947))) (0 : Nat)).length)], L ++ [.row (.f32 (List.replicate (Int.toNat (IntKind.i64.wrap (v1946 * v1947))) (0 : Nat))) 0])
  | _ => .fail
theorem impl_newMatrix_Fok : COk Try.prog 117 impl_newMatrix_F true := by
  intro F L H args r L' hs ha hr
  unfold impl_newMatrix_F at hr
  split at hr
  · rename_i v1946 v1947
    simp only [Tree.run] at hr
    obtain ⟨y, hy, hr⟩ := Option.bind_eq_some_iff.1 hr
    simp only [Tree.run, Option.some.injEq, Prod.mk.injEq] at hr
    obtain ⟨rfl, rfl⟩ := hr
    exact call_ok1 hs (fun k => (([] : List AV)[k]?).getD .top) [.int .i64 v1946, .int .i64 v1947] [.int .i64 v1946, .int .i64 v1947] (fun F' h0 hi hρ => ⟨by simp [DVs.av, DV.av, BR.av, hρ], impl_newMatrix_fn v1946 v1947 F' (by rw [hi]; rfl) (st_nil hi) ⟨trivial, trivial, trivial⟩ hy⟩) rfl rfl
  · cases hr
/-! (impl.Matrix).at -/
noncomputable def impl_Matrix_at_LO (v1960 : Int) (v1961 : Int) (v1962 : List Nat) (v1963 : Int) (v1964 : Int) : LOr := fun id e L =>
  match id with
  | _ => .fail
noncomputable def impl_Matrix_at_tab : List (FuncId × DFn × Bool) := []
theorem impl_Matrix_at_hO : OrcOk Try.prog (tabD impl_Matrix_at_tab) (tabM impl_Matrix_at_tab) := tabD_nil _
noncomputable def impl_Matrix_at_T (v1961 : Int) (v1962 : List Nat) (v1963 : Int) (v1964 : Int) : Tree (Nat) :=
  (.grd (inb (IntKind.i64.wrap ((IntKind.i64.wrap (v1963 * v1961)) + v1964)) v1962.length) <|
  .leaf (nth v1962 (Int.toNat (IntKind.i64.wrap ((IntKind.i64.wrap (v1963 * v1961)) + v1964)))))

noncomputable def impl_Matrix_at_g (v1961 : Int) (v1962 : List Nat) (v1963 : Int) (v1964 : Int) : Option (Nat) := (impl_Matrix_at_T v1961 v1962 v1963 v1964).run
def impl_Matrix_at_enc (v1960 : Int) (v1961 : Int) (v1962 : List Nat) (v1963 : Int) (v1964 : Int) (y : Nat) : Rs := (.flt .f32 y, [])
theorem impl_Matrix_at_den (v1960 : Int) (v1961 : Int) (v1962 : List Nat) (v1963 : Int) (v1964 : Int) : (den TT (tabD impl_Matrix_at_tab) (tabM impl_Matrix_at_tab) (impl_Matrix_at_LO v1960 v1961 v1962 v1963 v1964) (codeOf Try.f64) ([.agg [.int .i64 v1960, .int .i64 v1961, .bslc (BR.root 0) (.f32 v1962)], .int .i64 v1963, .int .i64 v1964] ++ List.replicate (Try.f64.ntmps - ([.agg [.int .i64 v1960, .int .i64 v1961, .bslc (BR.root 0) (.f32 v1962)], .int .i64 v1963, .int .i64 v1964] : List DV).length) .undef) []).bind (retD TT Try.f64.results.toList 0) = (impl_Matrix_at_T v1961 v1962 v1963 v1964).bind fun y => .leaf (impl_Matrix_at_enc v1960 v1961 v1962 v1963 v1964 y) := by kernel_rfl
theorem impl_Matrix_at_fn (v1960 : Int) (v1961 : Int) (v1962 : List Nat) (v1963 : Int) (v1964 : Int) (F : Fr) (hm : F.ids.length = 0) (h0 : St F [] F.H0) (hA : DVs.Ok F [] [.agg [.int .i64 v1960, .int .i64 v1961, .bslc (BR.root 0) (.f32 v1962)], .int .i64 v1963, .int .i64 v1964]) {y : Nat} (hy : impl_Matrix_at_g v1961 v1962 v1963 v1964 = some y) : ∃ H', FnOk Try.prog 64 (DVs.av F [.agg [.int .i64 v1960, .int .i64 v1961, .bslc (BR.root 0) (.f32 v1962)], .int .i64 v1963, .int .i64 v1964]) F.H0 ((impl_Matrix_at_enc v1960 v1961 v1962 v1963 v1964 y).1.av F) H' ∧ St F (impl_Matrix_at_enc v1960 v1961 v1962 v1963 v1964 y).2 H' ∧ (impl_Matrix_at_enc v1960 v1961 v1962 v1963 v1964 y).1.Ok F (impl_Matrix_at_enc v1960 v1961 v1962 v1963 v1964 y).2 :=
  fn_fin tok impl_Matrix_at_hO mixed Try.func64 Try.call64 (by kernel_rfl) (LoopsOk_eq (l := []) (by kernel_rfl) trivial) (impl_Matrix_at_den v1960 v1961 v1962 v1963 v1964) hy hm h0 hA
noncomputable def impl_Matrix_at_F : DFn := fun args L =>
  match args with
  | [.agg [.int .i64 v1960, .int .i64 v1961, a1], .int .i64 v1963, .int .i64 v1964] =>
    optT (rowF32 L a1) fun v1962 =>
    .call (impl_Matrix_at_g v1961 v1962 v1963 v1964) fun y => .leaf (.flt .f32 y, L)
  | _ => .fail
theorem impl_Matrix_at_Fok : COk Try.prog 64 impl_Matrix_at_F true := by
  intro F L H args r L' hs ha hr
  unfold impl_Matrix_at_F at hr
  split at hr
  · rename_i v1960 v1961 a1 v1963 v1964
    obtain ⟨v1962, hv1962, hr⟩ := optT_run hr
    simp only [Tree.run] at hr
    obtain ⟨y, hy, hr⟩ := Option.bind_eq_some_iff.1 hr
    simp only [Tree.run, Option.some.injEq, Prod.mk.injEq] at hr
    obtain ⟨rfl, rfl⟩ := hr
    exact call_ok0 hs (fun k => (([a1.av F] : List AV)[k]?).getD .top) [.agg [.int .i64 v1960, .int .i64 v1961, a1], .int .i64 v1963, .int .i64 v1964] [.agg [.int .i64 v1960, .int .i64 v1961, .bslc (BR.root 0) (.f32 v1962)], .int .i64 v1963, .int .i64 v1964] (fun F' h0 hi hρ => ⟨by simp [DVs.av, DV.av, BR.av, hρ], impl_Matrix_at_fn v1960 v1961 v1962 v1963 v1964 F' (by rw [hi]; rfl) (st_nil hi) ⟨⟨trivial, trivial, bslc_ok hi (by rw [h0, hρ]; exact rowF32_ok hs (DVs.okAt (DVs.okAt ha 0 rfl) 2 rfl) hv1962), trivial⟩, trivial, trivial, trivial⟩ hy⟩) rfl
  · cases hr
/-! (impl.Matrix).column -/
noncomputable def impl_Matrix_column_l0_T (v1955 : Int) (v1956 : Int) (v1957 : List Nat) (v1958 : Int) (s : Int × (List Nat)) : Tree ((Int × (List Nat)) ⊕ ((List Nat))) :=
  (.br (decide (s.1 < v1955)) (
   (.call (impl_Matrix_at_g v1956 v1957 s.1 v1958) fun v1971 =>
   (.grd (fits (s.2 ++ ([v1971] : List Nat)).length) <|
   .leaf (.inl (IntKind.i64.wrap (s.1 + (1 : Int)), s.2 ++ ([v1971] : List Nat)))))
  ) (
   .leaf (.inr s.2)
  ))

noncomputable def impl_Matrix_column_l0_g (v1955 : Int) (v1956 : Int) (v1957 : List Nat) (v1958 : Int) (s0 : Int × (List Nat)) : Option ((List Nat)) := whileM (fun s => (impl_Matrix_column_l0_T v1955 v1956 v1957 v1958 s).run) s0
def impl_Matrix_column_l0_E (v1955 : Int) (v1956 : Int) (v1957 : List Nat) (v1958 : Int) (s : Int × (List Nat)) : Sd := ([.top, .int .i64 v1958, .ptr 0 (0 : Nat) 0 (3 : Nat), .top, .top, .own 1 0 ((s.2).length), .top, .top, .top, .int .i64 v1955, .int .i64 s.1, .top, .top, .top, .top, .top, .top, .top, .top, .top, .top, .top], [.gen [.int .i64 v1955, .int .i64 v1956, .bslc (BR.root 0) (.f32 v1957)] false 0, .row (.f32 s.2) 0])
def impl_Matrix_column_l0_X (v1955 : Int) (v1956 : Int) (v1957 : List Nat) (v1958 : Int) (x : (List Nat)) : Out := (.normal, [.top, .top, .top, .top, .top, .own 0 0 ((x).length), .top, .top, .top, .top, .top, .top, .top, .top, .top, .top, .top, .top, .top, .top, .top, .top], [.row (.f32 x) 0])
def impl_Matrix_column_l0_kill : List Nat := [1, 0, 0, 1, 1, 0, 1, 1, 1, 0, 0, 1, 1, 1, 1, 1, 1, 1, 1, 1, 1, 1]
def impl_Matrix_column_l0_nx : Exit → List Nat
  | .exit 0 => [1, 1, 1, 1, 1, 0, 1, 1, 1, 1, 1, 1, 1, 1, 1, 1, 1, 1, 1, 1, 1, 1]
  | .ret => [1, 1, 1, 1, 0, 1, 1, 1, 1, 1, 1, 1, 1, 1, 1, 1, 1, 1, 1, 1, 1, 1]
  | _ => []
noncomputable def impl_Matrix_column_LO (v1955 : Int) (v1956 : Int) (v1957 : List Nat) (v1958 : Int) : LOr := fun id e L =>
  match id with
  | 0 => .need (normA 0 impl_Matrix_column_l0_kill e L = some (impl_Matrix_column_l0_E v1955 v1956 v1957 v1958 ((gI (vAt e 10)), (gRF L (vAt e 5))))) (.call (impl_Matrix_column_l0_g v1955 v1956 v1957 v1958 ((gI (vAt e 10)), (gRF L (vAt e 5)))) fun x => .leaf (impl_Matrix_column_l0_X v1955 v1956 v1957 v1958 x))
  | _ => .fail
noncomputable def impl_Matrix_column_tab : List (FuncId × DFn × Bool) := [(64, impl_Matrix_at_F, true)]
theorem impl_Matrix_column_hO : OrcOk Try.prog (tabD impl_Matrix_column_tab) (tabM impl_Matrix_column_tab) := tabD_cons impl_Matrix_at_Fok (tabD_nil _)
theorem impl_Matrix_column_l0_be (v1955 : Int) (v1956 : Int) (v1957 : List Nat) (v1958 : Int) (s : Int × (List Nat)) : bodyT TT (tabD impl_Matrix_column_tab) (tabM impl_Matrix_column_tab) (impl_Matrix_column_LO v1955 v1956 v1957 v1958) 0 impl_Matrix_column_l0_kill impl_Matrix_column_l0_nx (bodyOf Try.f81 0) 0 (impl_Matrix_column_l0_E v1955 v1956 v1957 v1958 s) = (impl_Matrix_column_l0_T v1955 v1956 v1957 v1958 s).bind fun y => .leaf (outS (impl_Matrix_column_l0_E v1955 v1956 v1957 v1958) (impl_Matrix_column_l0_X v1955 v1956 v1957 v1958) y) := by kernel_rfl
theorem impl_Matrix_column_l0_ok (v1955 : Int) (v1956 : Int) (v1957 : List Nat) (v1958 : Int) : LSound Try.prog 0 (impl_Matrix_column_LO v1955 v1956 v1957 v1958) 0 (bodyOf Try.f81 0) := by
  intro e L out h
  exact lo_ok (E := impl_Matrix_column_l0_E v1955 v1956 v1957 v1958) (gT := impl_Matrix_column_l0_T v1955 v1956 v1957 v1958) (X := impl_Matrix_column_l0_X v1955 v1956 v1957 v1958) (s0 := ((gI (vAt e 10)), (gRF L (vAt e 5)))) tok impl_Matrix_column_hO mixed (LoopsOk_eq (l := []) (by kernel_rfl) trivial) (impl_Matrix_column_l0_be v1955 v1956 v1957 v1958) rfl (by intro x; rfl) h
noncomputable def impl_Matrix_column_T (v1955 : Int) (v1956 : Int) (v1957 : List Nat) (v1958 : Int) : Tree ((List Nat)) :=
  (.need (some (impl_Matrix_column_l0_E v1955 v1956 v1957 v1958 ((0 : Int), ([] : List Nat))) = some (impl_Matrix_column_l0_E v1955 v1956 v1957 v1958 ((0 : Int), ([] : List Nat)))) <|
  (.call (impl_Matrix_column_l0_g v1955 v1956 v1957 v1958 ((0 : Int), ([] : List Nat))) fun v1972 =>
  .leaf v1972))

noncomputable def impl_Matrix_column_g (v1955 : Int) (v1956 : Int) (v1957 : List Nat) (v1958 : Int) : Option ((List Nat)) := (impl_Matrix_column_T v1955 v1956 v1957 v1958).run
def impl_Matrix_column_enc (v1955 : Int) (v1956 : Int) (v1957 : List Nat) (v1958 : Int) (y : (List Nat)) : Rs := (.own 0 0 ((y).length), [.row (.f32 y) 0])
theorem impl_Matrix_column_den (v1955 : Int) (v1956 : Int) (v1957 : List Nat) (v1958 : Int) : (den TT (tabD impl_Matrix_column_tab) (tabM impl_Matrix_column_tab) (impl_Matrix_column_LO v1955 v1956 v1957 v1958) (codeOf Try.f81) ([.agg [.int .i64 v1955, .int .i64 v1956, .bslc (BR.root 0) (.f32 v1957)], .int .i64 v1958] ++ List.replicate (Try.f81.ntmps - ([.agg [.int .i64 v1955, .int .i64 v1956, .bslc (BR.root 0) (.f32 v1957)], .int .i64 v1958] : List DV).length) .undef) []).bind (retD TT Try.f81.results.toList 0) = (impl_Matrix_column_T v1955 v1956 v1957 v1958).bind fun y => .leaf (impl_Matrix_column_enc v1955 v1956 v1957 v1958 y) := by kernel_rfl
theorem impl_Matrix_column_fn (v1955 : Int) (v1956 : Int) (v1957 : List Nat) (v1958 : Int) (F : Fr) (hm : F.ids.length = 0) (h0 : St F [] F.H0) (hA : DVs.Ok F [] [.agg [.int .i64 v1955, .int .i64 v1956, .bslc (BR.root 0) (.f32 v1957)], .int .i64 v1958]) {y : (List Nat)} (hy : impl_Matrix_column_g v1955 v1956 v1957 v1958 = some y) : ∃ H', FnOk Try.prog 81 (DVs.av F [.agg [.int .i64 v1955, .int .i64 v1956, .bslc (BR.root 0) (.f32 v1957)], .int .i64 v1958]) F.H0 ((impl_Matrix_column_enc v1955 v1956 v1957 v1958 y).1.av F) H' ∧ St F (impl_Matrix_column_enc v1955 v1956 v1957 v1958 y).2 H' ∧ (impl_Matrix_column_enc v1955 v1956 v1957 v1958 y).1.Ok F (impl_Matrix_column_enc v1955 v1956 v1957 v1958 y).2 :=
  fn_fin tok impl_Matrix_column_hO mixed Try.func81 Try.call81 (by kernel_rfl) (LoopsOk_eq (l := [(0, bodyOf Try.f81 0)]) (by kernel_rfl) ⟨impl_Matrix_column_l0_ok v1955 v1956 v1957 v1958, trivial⟩) (impl_Matrix_column_den v1955 v1956 v1957 v1958) hy hm h0 hA
noncomputable def impl_Matrix_column_F : DFn := fun args L =>
  match args with
  | [.agg [.int .i64 v1955, .int .i64 v1956, a1], .int .i64 v1958] =>
    optT (rowF32 L a1) fun v1957 =>
    .call (impl_Matrix_column_g v1955 v1956 v1957 v1958) fun y => .leaf (.own (L.length + 0) 0 ((y).length), L ++ [.row (.f32 y) 0])
  | _ => .fail
theorem impl_Matrix_column_Fok : COk Try.prog 81 impl_Matrix_column_F true := by
  intro F L H args r L' hs ha hr
  unfold impl_Matrix_column_F at hr
  split at hr
  · rename_i v1955 v1956 a1 v1958
    obtain ⟨v1957, hv1957, hr⟩ := optT_run hr
    simp only [Tree.run] at hr
    obtain ⟨y, hy, hr⟩ := Option.bind_eq_some_iff.1 hr
    simp only [Tree.run, Option.some.injEq, Prod.mk.injEq] at hr
    obtain ⟨rfl, rfl⟩ := hr
    exact call_ok1 hs (fun k => (([a1.av F] : List AV)[k]?).getD .top) [.agg [.int .i64 v1955, .int .i64 v1956, a1], .int .i64 v1958] [.agg [.int .i64 v1955, .int .i64 v1956, .bslc (BR.root 0) (.f32 v1957)], .int .i64 v1958] (fun F' h0 hi hρ => ⟨by simp [DVs.av, DV.av, BR.av, hρ], impl_Matrix_column_fn v1955 v1956 v1957 v1958 F' (by rw [hi]; rfl) (st_nil hi) ⟨⟨trivial, trivial, bslc_ok hi (by rw [h0, hρ]; exact rowF32_ok hs (DVs.okAt (DVs.okAt ha 0 rfl) 2 rfl) hv1957), trivial⟩, trivial, trivial⟩ hy⟩) rfl rfl
  · cases hr
/-! impl.mul -/
noncomputable def impl_mul_LO (v1994 : Nat) (v1995 : Nat) : LOr := fun id e L =>
  match id with
  | _ => .fail
noncomputable def impl_mul_tab : List (FuncId × DFn × Bool) := []
theorem impl_mul_hO : OrcOk Try.prog (tabD impl_mul_tab) (tabM impl_mul_tab) := tabD_nil _
noncomputable def impl_mul_T (v1994 : Nat) (v1995 : Nat) : Tree (Nat) :=
  .leaf (fmul .f32 v1994 v1995)

noncomputable def impl_mul_g (v1994 : Nat) (v1995 : Nat) : Option (Nat) := (impl_mul_T v1994 v1995).run
def impl_mul_enc (v1994 : Nat) (v1995 : Nat) (y : Nat) : Rs := (.flt .f32 y, [])
theorem impl_mul_den (v1994 : Nat) (v1995 : Nat) : (den TT (tabD impl_mul_tab) (tabM impl_mul_tab) (impl_mul_LO v1994 v1995) (codeOf Try.f65) ([.flt .f32 v1994, .flt .f32 v1995] ++ List.replicate (Try.f65.ntmps - ([.flt .f32 v1994, .flt .f32 v1995] : List DV).length) .undef) []).bind (retD TT Try.f65.results.toList 0) = (impl_mul_T v1994 v1995).bind fun y => .leaf (impl_mul_enc v1994 v1995 y) := by kernel_rfl
theorem impl_mul_fn (v1994 : Nat) (v1995 : Nat) (F : Fr) (hm : F.ids.length = 0) (h0 : St F [] F.H0) (hA : DVs.Ok F [] [.flt .f32 v1994, .flt .f32 v1995]) {y : Nat} (hy : impl_mul_g v1994 v1995 = some y) : ∃ H', FnOk Try.prog 65 (DVs.av F [.flt .f32 v1994, .flt .f32 v1995]) F.H0 ((impl_mul_enc v1994 v1995 y).1.av F) H' ∧ St F (impl_mul_enc v1994 v1995 y).2 H' ∧ (impl_mul_enc v1994 v1995 y).1.Ok F (impl_mul_enc v1994 v1995 y).2 :=
  fn_fin tok impl_mul_hO mixed Try.func65 Try.call65 (by kernel_rfl) (LoopsOk_eq (l := []) (by kernel_rfl) trivial) (impl_mul_den v1994 v1995) hy hm h0 hA
def impl_mul_v (v1994 : Nat) (v1995 : Nat) : Nat :=
  fmul .f32 v1994 v1995
theorem impl_mul_tot (v1994 : Nat) (v1995 : Nat) : impl_mul_g v1994 v1995 = some (impl_mul_v v1994 v1995) := by
  unfold impl_mul_g impl_mul_T impl_mul_v
  simp only [Tree.run]
  repeat' (first | rfl | split)
noncomputable def impl_mul_F : DFn := fun args L =>
  match args with
  | [.flt .f32 v1994, .flt .f32 v1995] =>
    .leaf (.flt .f32 (impl_mul_v v1994 v1995), L)
  | _ => .fail
theorem impl_mul_Fok : COk Try.prog 65 impl_mul_F true := by
  intro F L H args r L' hs ha hr
  unfold impl_mul_F at hr
  split at hr
  · rename_i v1994 v1995
    have hy := impl_mul_tot v1994 v1995
    generalize impl_mul_v v1994 v1995 = y at hy hr
    simp only [Tree.run, Option.some.injEq, Prod.mk.injEq] at hr
    obtain ⟨rfl, rfl⟩ := hr
    exact call_ok0 hs (fun k => (([] : List AV)[k]?).getD .top) [.flt .f32 v1994, .flt .f32 v1995] [.flt .f32 v1994, .flt .f32 v1995] (fun F' h0 hi hρ => ⟨by simp [DVs.av, DV.av, BR.av, hρ], impl_mul_fn v1994 v1995 F' (by rw [hi]; rfl) (st_nil hi) ⟨trivial, trivial, trivial⟩ hy⟩) rfl
  · cases hr
/-! impl.dot -/
noncomputable def impl_dot_l0_T (v1990 : List Nat) (v1991 : List Nat) (s : Nat × Int) : Tree ((Nat × Int) ⊕ (Nat)) :=
  (.br (decide (s.2 < ((v1990.length : Nat) : Int))) (
   (.grd (inb s.2 v1990.length) <|
   (.grd (inb s.2 v1991.length) <|
   .leaf (.inl (fadd .f32 s.1 (impl_mul_v (nth v1990 (Int.toNat s.2)) (nth v1991 (Int.toNat s.2))), IntKind.i64.wrap (s.2 + (1 : Int))))))
  ) (
   .leaf (.inr s.1)
  ))

noncomputable def impl_dot_l0_g (v1990 : List Nat) (v1991 : List Nat) (s0 : Nat × Int) : Option (Nat) := whileM (fun s => (impl_dot_l0_T v1990 v1991 s).run) s0
def impl_dot_l0_E (v1990 : List Nat) (v1991 : List Nat) (s : Nat × Int) : Sd := ([.top, .bslc (BR.root 1) (.f32 v1991), .top, .top, .top, .flt .f32 s.1, .top, .top, .bslc (BR.root 0) (.f32 v1990), .int .i64 ((v1990.length : Nat) : Int), .int .i64 s.2, .top, .top, .top, .top, .top, .top, .top, .top, .top, .top, .top, .top, .top, .top], [])
def impl_dot_l0_X (v1990 : List Nat) (v1991 : List Nat) (x : Nat) : Out := (.normal, [.top, .top, .top, .top, .top, .flt .f32 x, .top, .top, .top, .top, .top, .top, .top, .top, .top, .top, .top, .top, .top, .top, .top, .top, .top, .top, .top], [])
def impl_dot_l0_kill : List Nat := [1, 0, 1, 1, 1, 0, 1, 1, 0, 0, 0, 1, 1, 1, 1, 1, 1, 1, 1, 1, 1, 1, 1, 1, 1]
def impl_dot_l0_nx : Exit → List Nat
  | .exit 0 => [1, 1, 1, 1, 1, 0, 1, 1, 1, 1, 1, 1, 1, 1, 1, 1, 1, 1, 1, 1, 1, 1, 1, 1, 1]
  | .ret => [1, 1, 1, 1, 0, 1, 1, 1, 1, 1, 1, 1, 1, 1, 1, 1, 1, 1, 1, 1, 1, 1, 1, 1, 1]
  | _ => []
noncomputable def impl_dot_LO (v1990 : List Nat) (v1991 : List Nat) : LOr := fun id e L =>
  match id with
  | 0 => .need (normA 0 impl_dot_l0_kill e L = some (impl_dot_l0_E v1990 v1991 ((gF (vAt e 5)), (gI (vAt e 10))))) (.call (impl_dot_l0_g v1990 v1991 ((gF (vAt e 5)), (gI (vAt e 10)))) fun x => .leaf (impl_dot_l0_X v1990 v1991 x))
  | _ => .fail
noncomputable def impl_dot_tab : List (FuncId × DFn × Bool) := [(65, impl_mul_F, true)]
theorem impl_dot_hO : OrcOk Try.prog (tabD impl_dot_tab) (tabM impl_dot_tab) := tabD_cons impl_mul_Fok (tabD_nil _)
theorem impl_dot_l0_be (v1990 : List Nat) (v1991 : List Nat) (s : Nat × Int) : bodyT TT (tabD impl_dot_tab) (tabM impl_dot_tab) (impl_dot_LO v1990 v1991) 0 impl_dot_l0_kill impl_dot_l0_nx (bodyOf Try.f82 0) 0 (impl_dot_l0_E v1990 v1991 s) = (impl_dot_l0_T v1990 v1991 s).bind fun y => .leaf (outS (impl_dot_l0_E v1990 v1991) (impl_dot_l0_X v1990 v1991) y) := by kernel_rfl
theorem impl_dot_l0_ok (v1990 : List Nat) (v1991 : List Nat) : LSound Try.prog 0 (impl_dot_LO v1990 v1991) 0 (bodyOf Try.f82 0) := by
  intro e L out h
  exact lo_ok (E := impl_dot_l0_E v1990 v1991) (gT := impl_dot_l0_T v1990 v1991) (X := impl_dot_l0_X v1990 v1991) (s0 := ((gF (vAt e 5)), (gI (vAt e 10)))) tok impl_dot_hO mixed (LoopsOk_eq (l := []) (by kernel_rfl) trivial) (impl_dot_l0_be v1990 v1991) rfl (by intro x; rfl) h
noncomputable def impl_dot_T (v1990 : List Nat) (v1991 : List Nat) : Tree (Nat) :=
  (.need (some (impl_dot_l0_E v1990 v1991 ((0 : Nat), (0 : Int))) = some (impl_dot_l0_E v1990 v1991 ((0 : Nat), (0 : Int)))) <|
  (.call (impl_dot_l0_g v1990 v1991 ((0 : Nat), (0 : Int))) fun v2000 =>
  .leaf v2000))

noncomputable def impl_dot_g (v1990 : List Nat) (v1991 : List Nat) : Option (Nat) := (impl_dot_T v1990 v1991).run
def impl_dot_enc (v1990 : List Nat) (v1991 : List Nat) (y : Nat) : Rs := (.flt .f32 y, [])
theorem impl_dot_den (v1990 : List Nat) (v1991 : List Nat) : (den TT (tabD impl_dot_tab) (tabM impl_dot_tab) (impl_dot_LO v1990 v1991) (codeOf Try.f82) ([.bslc (BR.root 0) (.f32 v1990), .bslc (BR.root 1) (.f32 v1991)] ++ List.replicate (Try.f82.ntmps - ([.bslc (BR.root 0) (.f32 v1990), .bslc (BR.root 1) (.f32 v1991)] : List DV).length) .undef) []).bind (retD TT Try.f82.results.toList 0) = (impl_dot_T v1990 v1991).bind fun y => .leaf (impl_dot_enc v1990 v1991 y) := by kernel_rfl
theorem impl_dot_fn (v1990 : List Nat) (v1991 : List Nat) (F : Fr) (hm : F.ids.length = 0) (h0 : St F [] F.H0) (hA : DVs.Ok F [] [.bslc (BR.root 0) (.f32 v1990), .bslc (BR.root 1) (.f32 v1991)]) {y : Nat} (hy : impl_dot_g v1990 v1991 = some y) : ∃ H', FnOk Try.prog 82 (DVs.av F [.bslc (BR.root 0) (.f32 v1990), .bslc (BR.root 1) (.f32 v1991)]) F.H0 ((impl_dot_enc v1990 v1991 y).1.av F) H' ∧ St F (impl_dot_enc v1990 v1991 y).2 H' ∧ (impl_dot_enc v1990 v1991 y).1.Ok F (impl_dot_enc v1990 v1991 y).2 :=
  fn_fin tok impl_dot_hO mixed Try.func82 Try.call82 (by kernel_rfl) (LoopsOk_eq (l := [(0, bodyOf Try.f82 0)]) (by kernel_rfl) ⟨impl_dot_l0_ok v1990 v1991, trivial⟩) (impl_dot_den v1990 v1991) hy hm h0 hA
noncomputable def impl_dot_F : DFn := fun args L =>
  match args with
  | [a1, a2] =>
    optT (rowF32 L a1) fun v1990 =>
    optT (rowF32 L a2) fun v1991 =>
    .call (impl_dot_g v1990 v1991) fun y => .leaf (.flt .f32 y, L)
  | _ => .fail
theorem impl_dot_Fok : COk Try.prog 82 impl_dot_F true := by
  intro F L H args r L' hs ha hr
  unfold impl_dot_F at hr
  split at hr
  · rename_i a1 a2
    obtain ⟨v1990, hv1990, hr⟩ := optT_run hr
    obtain ⟨v1991, hv1991, hr⟩ := optT_run hr
    simp only [Tree.run] at hr
    obtain ⟨y, hy, hr⟩ := Option.bind_eq_some_iff.1 hr
    simp only [Tree.run, Option.some.injEq, Prod.mk.injEq] at hr
    obtain ⟨rfl, rfl⟩ := hr
    exact call_ok0 hs (fun k => (([a1.av F, a2.av F] : List AV)[k]?).getD .top) [a1, a2] [.bslc (BR.root 0) (.f32 v1990), .bslc (BR.root 1) (.f32 v1991)] (fun F' h0 hi hρ => ⟨by simp [DVs.av, DV.av, BR.av, hρ], impl_dot_fn v1990 v1991 F' (by rw [hi]; rfl) (st_nil hi) ⟨bslc_ok hi (by rw [h0, hρ]; exact rowF32_ok hs (DVs.okAt ha 0 rfl) hv1990), bslc_ok hi (by rw [h0, hρ]; exact rowF32_ok hs (DVs.okAt ha 1 rfl) hv1991), trivial⟩ hy⟩) rfl
  · cases hr
/-! (impl.Matrix).set -/
noncomputable def impl_Matrix_set_LO (v2009 : Int) (v2010 : Int) (v2011 : List Nat) (v2012 : Int) (v2013 : Int) (v2014 : Nat) : LOr := fun id e L =>
  match id with
  | _ => .fail
noncomputable def impl_Matrix_set_tab : List (FuncId × DFn × Bool) := []
theorem impl_Matrix_set_hO : OrcOk Try.prog (tabD impl_Matrix_set_tab) (tabM impl_Matrix_set_tab) := tabD_nil _
noncomputable def impl_Matrix_set_T (v2010 : Int) (v2011 : List Nat) (v2012 : Int) (v2013 : Int) : Tree (Unit) :=
  (.grd (inb (IntKind.i64.wrap ((IntKind.i64.wrap (v2012 * v2010)) + v2013)) v2011.length) <|
  .leaf ())

noncomputable def impl_Matrix_set_g (v2010 : Int) (v2011 : List Nat) (v2012 : Int) (v2013 : Int) : Option (Unit) := (impl_Matrix_set_T v2010 v2011 v2012 v2013).run
def impl_Matrix_set_enc (v2009 : Int) (v2010 : Int) (v2011 : List Nat) (v2012 : Int) (v2013 : Int) (v2014 : Nat) (y : Unit) : Rs := (.tup [], [.row (.f32 (List.set v2011 (Int.toNat (IntKind.i64.wrap ((IntKind.i64.wrap (v2012 * v2010)) + v2013))) v2014)) 0])
theorem impl_Matrix_set_den (v2009 : Int) (v2010 : Int) (v2011 : List Nat) (v2012 : Int) (v2013 : Int) (v2014 : Nat) : (den TT (tabD impl_Matrix_set_tab) (tabM impl_Matrix_set_tab) (impl_Matrix_set_LO v2009 v2010 v2011 v2012 v2013 v2014) (codeOf Try.f66) ([.agg [.int .i64 v2009, .int .i64 v2010, .own 0 0 v2011.length], .int .i64 v2012, .int .i64 v2013, .flt .f32 v2014] ++ List.replicate (Try.f66.ntmps - ([.agg [.int .i64 v2009, .int .i64 v2010, .own 0 0 v2011.length], .int .i64 v2012, .int .i64 v2013, .flt .f32 v2014] : List DV).length) .undef) [.row (.f32 v2011) 0]).bind (retD TT Try.f66.results.toList 1) = (impl_Matrix_set_T v2010 v2011 v2012 v2013).bind fun y => .leaf (impl_Matrix_set_enc v2009 v2010 v2011 v2012 v2013 v2014 y) := by kernel_rfl
theorem impl_Matrix_set_fn (v2009 : Int) (v2010 : Int) (v2011 : List Nat) (v2012 : Int) (v2013 : Int) (v2014 : Nat) (F : Fr) (hm : F.ids.length = 1) (h0 : St F [.row (.f32 v2011) 0] F.H0) (hA : DVs.Ok F [.row (.f32 v2011) 0] [.agg [.int .i64 v2009, .int .i64 v2010, .own 0 0 v2011.length], .int .i64 v2012, .int .i64 v2013, .flt .f32 v2014]) {y : Unit} (hy : impl_Matrix_set_g v2010 v2011 v2012 v2013 = some y) : ∃ H', FnOk Try.prog 66 (DVs.av F [.agg [.int .i64 v2009, .int .i64 v2010, .own 0 0 v2011.length], .int .i64 v2012, .int .i64 v2013, .flt .f32 v2014]) F.H0 ((impl_Matrix_set_enc v2009 v2010 v2011 v2012 v2013 v2014 y).1.av F) H' ∧ St F (impl_Matrix_set_enc v2009 v2010 v2011 v2012 v2013 v2014 y).2 H' ∧ (impl_Matrix_set_enc v2009 v2010 v2011 v2012 v2013 v2014 y).1.Ok F (impl_Matrix_set_enc v2009 v2010 v2011 v2012 v2013 v2014 y).2 :=
  fn_fin tok impl_Matrix_set_hO mixed Try.func66 Try.call66 (by kernel_rfl) (LoopsOk_eq (l := []) (by kernel_rfl) trivial) (impl_Matrix_set_den v2009 v2010 v2011 v2012 v2013 v2014) hy hm h0 hA
noncomputable def impl_Matrix_set_F : DFn := fun args L =>
  match args with
  | [.agg [.int .i64 v2009, .int .i64 v2010, a1], .int .i64 v2012, .int .i64 v2013, .flt .f32 v2014] =>
    optT (ownF32 L a1) fun qv2011 =>
    (match sepB [qv2011.1] [] with
    | true =>
    .call (impl_Matrix_set_g v2010 qv2011.2 v2012 v2013) fun y => .grd (decide ((List.set qv2011.2 (Int.toNat (IntKind.i64.wrap ((IntKind.i64.wrap (v2012 * v2010)) + v2013))) v2014).length = qv2011.2.length)) (.leaf (.tup [], setRows L ([qv2011.1].zip [.f32 (List.set qv2011.2 (Int.toNat (IntKind.i64.wrap ((IntKind.i64.wrap (v2012 * v2010)) + v2013))) v2014)])))
    | false => .fail)
  | _ => .fail
theorem impl_Matrix_set_Fok : COk Try.prog 66 impl_Matrix_set_F false := by
  intro F L H args r L' hs ha hr
  unfold impl_Matrix_set_F at hr
  split at hr
  · rename_i v2009 v2010 a1 v2012 v2013 v2014
    obtain ⟨⟨jv2011, v2011⟩, hqv2011, hr⟩ := optT_run hr
    simp only at hr
    split at hr
    · rename_i hsep
      obtain ⟨hnd, hsepv⟩ := sepB_spec hsep
      simp only [Tree.run] at hr
      obtain ⟨y, hy, hr⟩ := Option.bind_eq_some_iff.1 hr
      try simp only [Tree.run] at hr
      obtain ⟨hl0, hr⟩ := ite_run hr
      simp only [Option.some.injEq, Prod.mk.injEq] at hr
      obtain ⟨rfl, rfl⟩ := hr
      obtain ⟨hr0, hu0, ha0, hb0⟩ := (ownR_spec (DVs.okAt (DVs.okAt ha 0 rfl) 2 rfl) (ownF32_or hqv2011))
      exact mut_ok hs (fun k => (([a1.av F] : List AV)[k]?).getD .top) [.agg [.int .i64 v2009, .int .i64 v2010, a1], .int .i64 v2012, .int .i64 v2013, .flt .f32 v2014] [.agg [.int .i64 v2009, .int .i64 v2010, .own 0 0 v2011.length], .int .i64 v2012, .int .i64 v2013, .flt .f32 v2014] [jv2011] [.f32 v2011] [.f32 (List.set v2011 (Int.toNat (IntKind.i64.wrap ((IntKind.i64.wrap (v2012 * v2010)) + v2013))) v2014)] hnd rfl rfl (fun i j q h1 h2 => by
          rcases i with _ | i
          · simp at h1 h2; subst h1; subst h2; exact hr0
          · simp at h1) (fun i q q' h1 h2 => by
          rcases i with _ | i
          · simp at h1 h2; subst h1; subst h2; exact of_decide_eq_true hl0
          · simp at h1) (fun j hj => by simp at hj; subst hj; simp [DVs.refs, DV.refs, hu0]) (fun F' h0 hi hρ hst hS => ⟨by (have ab0 : F'.abs 0 = F.abs jv2011 := (by simp [Fr.abs, hi]); simp [DVs.av, DV.av, BR.av, hρ, Row.len, ha0, ab0]), by
          obtain ⟨H1, k1, k2, _⟩ := impl_Matrix_set_fn v2009 v2010 v2011 v2012 v2013 v2014 F' (by rw [hi]; rfl) hst ⟨⟨trivial, trivial, ⟨_, rfl, Nat.le_refl _, Nat.le_refl _, fun _ => rfl, (ownR_spec (DVs.okAt (DVs.okAt ha 0 rfl) 2 rfl) (ownF32_or hqv2011)).2.2.2⟩, trivial⟩, trivial, trivial, trivial, trivial⟩ hy
          exact ⟨H1, k1, k2⟩⟩) (fun F' => rfl) (fun L' => trivial)
    · cases hr
  · cases hr
/-! impl.less -/
noncomputable def impl_less_l0_T (v2021 : List Nat) (v2022 : Nat) (v2023 : List Nat) (s : Int × (List Nat)) : Tree ((Int × (List Nat)) ⊕ ((List Nat))) :=
  (.br (decide (s.1 < ((v2021.length : Nat) : Int))) (
   (.grd (inb s.1 ((s.2).length)) <|
   (.grd (inb s.1 v2023.length) <|
   (.grd (inb s.1 ((s.2).length)) <|
   .leaf (.inl (IntKind.i64.wrap (s.1 + (1 : Int)), List.set s.2 (Int.toNat s.1) (fsub .f32 (nth s.2 (Int.toNat s.1)) (impl_mul_v v2022 (nth v2023 (Int.toNat s.1)))))))))
  ) (
   .leaf (.inr s.2)
  ))

noncomputable def impl_less_l0_g (v2021 : List Nat) (v2022 : Nat) (v2023 : List Nat) (s0 : Int × (List Nat)) : Option ((List Nat)) := whileM (fun s => (impl_less_l0_T v2021 v2022 v2023 s).run) s0
def impl_less_l0_E (v2021 : List Nat) (v2022 : Nat) (v2023 : List Nat) (s : Int × (List Nat)) : Sd := ([.own 0 0 ((s.2).length), .flt .f32 v2022, .bslc (BR.root 1) (.f32 v2023), .top, .top, .top, .top, .top, .int .i64 ((v2021.length : Nat) : Int), .int .i64 s.1, .top, .top, .top, .top, .top, .top, .top, .top, .top, .top, .top, .top, .top, .top, .top], [.row (.f32 s.2) 0])
def impl_less_l0_X (v2021 : List Nat) (v2022 : Nat) (v2023 : List Nat) (x : (List Nat)) : Out := (.normal, [.top, .top, .top, .top, .top, .top, .top, .top, .top, .top, .top, .top, .top, .top, .top, .top, .top, .top, .top, .top, .top, .top, .top, .top, .top], [.row (.f32 x) 0])
def impl_less_l0_kill : List Nat := [0, 0, 0, 1, 1, 1, 1, 1, 0, 0, 1, 1, 1, 1, 1, 1, 1, 1, 1, 1, 1, 1, 1, 1, 1]
def impl_less_l0_nx : Exit → List Nat
  | .exit 0 => [1, 1, 1, 1, 1, 1, 1, 1, 1, 1, 1, 1, 1, 1, 1, 1, 1, 1, 1, 1, 1, 1, 1, 1, 1]
  | .ret => [1, 1, 1, 1, 1, 1, 1, 1, 1, 1, 1, 1, 1, 1, 1, 1, 1, 1, 1, 1, 1, 1, 1, 1, 1]
  | _ => []
noncomputable def impl_less_LO (v2021 : List Nat) (v2022 : Nat) (v2023 : List Nat) : LOr := fun id e L =>
  match id with
  | 0 => .need (normA 1 impl_less_l0_kill e L = some (impl_less_l0_E v2021 v2022 v2023 ((gI (vAt e 9)), (gRF L (vAt e 0))))) (.call (impl_less_l0_g v2021 v2022 v2023 ((gI (vAt e 9)), (gRF L (vAt e 0)))) fun x => .leaf (impl_less_l0_X v2021 v2022 v2023 x))
  | _ => .fail
noncomputable def impl_less_tab : List (FuncId × DFn × Bool) := [(65, impl_mul_F, true)]
theorem impl_less_hO : OrcOk Try.prog (tabD impl_less_tab) (tabM impl_less_tab) := tabD_cons impl_mul_Fok (tabD_nil _)
theorem impl_less_l0_be (v2021 : List Nat) (v2022 : Nat) (v2023 : List Nat) (s : Int × (List Nat)) : bodyT TT (tabD impl_less_tab) (tabM impl_less_tab) (impl_less_LO v2021 v2022 v2023) 1 impl_less_l0_kill impl_less_l0_nx (bodyOf Try.f107 0) 0 (impl_less_l0_E v2021 v2022 v2023 s) = (impl_less_l0_T v2021 v2022 v2023 s).bind fun y => .leaf (outS (impl_less_l0_E v2021 v2022 v2023) (impl_less_l0_X v2021 v2022 v2023) y) := by kernel_rfl
theorem impl_less_l0_ok (v2021 : List Nat) (v2022 : Nat) (v2023 : List Nat) : LSound Try.prog 1 (impl_less_LO v2021 v2022 v2023) 0 (bodyOf Try.f107 0) := by
  intro e L out h
  exact lo_ok (E := impl_less_l0_E v2021 v2022 v2023) (gT := impl_less_l0_T v2021 v2022 v2023) (X := impl_less_l0_X v2021 v2022 v2023) (s0 := ((gI (vAt e 9)), (gRF L (vAt e 0)))) tok impl_less_hO mixed (LoopsOk_eq (l := []) (by kernel_rfl) trivial) (impl_less_l0_be v2021 v2022 v2023) rfl (by intro x; rfl) h
noncomputable def impl_less_T (v2021 : List Nat) (v2022 : Nat) (v2023 : List Nat) : Tree ((List Nat)) :=
  (.need (some (impl_less_l0_E v2021 v2022 v2023 ((0 : Int), v2021)) = some (impl_less_l0_E v2021 v2022 v2023 ((0 : Int), v2021))) <|
  (.call (impl_less_l0_g v2021 v2022 v2023 ((0 : Int), v2021)) fun v2029 =>
  .leaf v2029))

noncomputable def impl_less_g (v2021 : List Nat) (v2022 : Nat) (v2023 : List Nat) : Option ((List Nat)) := (impl_less_T v2021 v2022 v2023).run
def impl_less_enc (v2021 : List Nat) (v2022 : Nat) (v2023 : List Nat) (y : (List Nat)) : Rs := (.tup [], [.row (.f32 y) 0])
theorem impl_less_den (v2021 : List Nat) (v2022 : Nat) (v2023 : List Nat) : (den TT (tabD impl_less_tab) (tabM impl_less_tab) (impl_less_LO v2021 v2022 v2023) (codeOf Try.f107) ([.own 0 0 v2021.length, .flt .f32 v2022, .bslc (BR.root 1) (.f32 v2023)] ++ List.replicate (Try.f107.ntmps - ([.own 0 0 v2021.length, .flt .f32 v2022, .bslc (BR.root 1) (.f32 v2023)] : List DV).length) .undef) [.row (.f32 v2021) 0]).bind (retD TT Try.f107.results.toList 1) = (impl_less_T v2021 v2022 v2023).bind fun y => .leaf (impl_less_enc v2021 v2022 v2023 y) := by kernel_rfl
theorem impl_less_fn (v2021 : List Nat) (v2022 : Nat) (v2023 : List Nat) (F : Fr) (hm : F.ids.length = 1) (h0 : St F [.row (.f32 v2021) 0] F.H0) (hA : DVs.Ok F [.row (.f32 v2021) 0] [.own 0 0 v2021.length, .flt .f32 v2022, .bslc (BR.root 1) (.f32 v2023)]) {y : (List Nat)} (hy : impl_less_g v2021 v2022 v2023 = some y) : ∃ H', FnOk Try.prog 107 (DVs.av F [.own 0 0 v2021.length, .flt .f32 v2022, .bslc (BR.root 1) (.f32 v2023)]) F.H0 ((impl_less_enc v2021 v2022 v2023 y).1.av F) H' ∧ St F (impl_less_enc v2021 v2022 v2023 y).2 H' ∧ (impl_less_enc v2021 v2022 v2023 y).1.Ok F (impl_less_enc v2021 v2022 v2023 y).2 :=
  fn_fin tok impl_less_hO mixed Try.func107 Try.call107 (by kernel_rfl) (LoopsOk_eq (l := [(0, bodyOf Try.f107 0)]) (by kernel_rfl) ⟨impl_less_l0_ok v2021 v2022 v2023, trivial⟩) (impl_less_den v2021 v2022 v2023) hy hm h0 hA
noncomputable def impl_less_F : DFn := fun args L =>
  match args with
  | [a1, .flt .f32 v2022, a2] =>
    optT (ownF32 L a1) fun qv2021 =>
    optT (rowF32 L a2) fun v2023 =>
    (match sepB [qv2021.1] [a2] with
    | true =>
    .call (impl_less_g qv2021.2 v2022 v2023) fun y => .grd (decide (y.length = qv2021.2.length)) (.leaf (.tup [], setRows L ([qv2021.1].zip [.f32 y])))
    | false => .fail)
  | _ => .fail
theorem impl_less_Fok : COk Try.prog 107 impl_less_F false := by
  intro F L H args r L' hs ha hr
  unfold impl_less_F at hr
  split at hr
  · rename_i a1 v2022 a2
    obtain ⟨⟨jv2021, v2021⟩, hqv2021, hr⟩ := optT_run hr
    simp only at hr
    obtain ⟨v2023, hv2023, hr⟩ := optT_run hr
    split at hr
    · rename_i hsep
      obtain ⟨hnd, hsepv⟩ := sepB_spec hsep
      simp only [Tree.run] at hr
      obtain ⟨y, hy, hr⟩ := Option.bind_eq_some_iff.1 hr
      try simp only [Tree.run] at hr
      obtain ⟨hl0, hr⟩ := ite_run hr
      simp only [Option.some.injEq, Prod.mk.injEq] at hr
      obtain ⟨rfl, rfl⟩ := hr
      obtain ⟨hr0, hu0, ha0, hb0⟩ := (ownR_spec (DVs.okAt ha 0 rfl) (ownF32_or hqv2021))
      exact mut_ok hs (fun k => (([a1.av F, a2.av F] : List AV)[k]?).getD .top) [a1, .flt .f32 v2022, a2] [.own 0 0 v2021.length, .flt .f32 v2022, .bslc (BR.root 1) (.f32 v2023)] [jv2021] [.f32 v2021] [.f32 y] hnd rfl rfl (fun i j q h1 h2 => by
          rcases i with _ | i
          · simp at h1 h2; subst h1; subst h2; exact hr0
          · simp at h1) (fun i q q' h1 h2 => by
          rcases i with _ | i
          · simp at h1 h2; subst h1; subst h2; exact of_decide_eq_true hl0
          · simp at h1) (fun j hj => by simp at hj; subst hj; simp [DVs.refs, DV.refs, hu0]) (fun F' h0 hi hρ hst hS => ⟨by (have ab0 : F'.abs 0 = F.abs jv2021 := (by simp [Fr.abs, hi]); simp [DVs.av, DV.av, BR.av, hρ, Row.len, ha0, ab0]), by
          obtain ⟨H1, k1, k2, _⟩ := impl_less_fn v2021 v2022 v2023 F' (by rw [hi]; rfl) hst ⟨⟨_, rfl, Nat.le_refl _, Nat.le_refl _, fun _ => rfl, (ownR_spec (DVs.okAt ha 0 rfl) (ownF32_or hqv2021)).2.2.2⟩, trivial, bslcM hS (by rw [hρ]; rfl) (hsepv a2 (by simp)) (DVs.okAt ha 2 rfl) (rowF32_or hv2023), trivial⟩ hy
          exact ⟨H1, k1, k2⟩⟩) (fun F' => rfl) (fun L' => trivial)
    · cases hr
  · cases hr
/-! impl.RootNumber -/
noncomputable def impl_RootNumber_LO (v2173 : Nat) : LOr := fun id e L =>
  match id with
  | _ => .fail
noncomputable def impl_RootNumber_tab : List (FuncId × DFn × Bool) := [(157, math_Sqrt_F, true)]
theorem impl_RootNumber_hO : OrcOk Try.prog (tabD impl_RootNumber_tab) (tabM impl_RootNumber_tab) := tabD_cons math_Sqrt_Fok (tabD_nil _)
noncomputable def impl_RootNumber_T (v2173 : Nat) : Tree (Nat) :=
  (.call (fconv .f64 (math_Sqrt_v (wid v2173)) .f32) fun v2174 =>
  .leaf v2174)

noncomputable def impl_RootNumber_g (v2173 : Nat) : Option (Nat) := (impl_RootNumber_T v2173).run
def impl_RootNumber_enc (v2173 : Nat) (y : Nat) : Rs := (.flt .f32 y, [])
theorem impl_RootNumber_den (v2173 : Nat) : (den TT (tabD impl_RootNumber_tab) (tabM impl_RootNumber_tab) (impl_RootNumber_LO v2173) (codeOf Try.f114) ([.flt .f32 v2173] ++ List.replicate (Try.f114.ntmps - ([.flt .f32 v2173] : List DV).length) .undef) []).bind (retD TT Try.f114.results.toList 0) = (impl_RootNumber_T v2173).bind fun y => .leaf (impl_RootNumber_enc v2173 y) := by kernel_rfl
theorem impl_RootNumber_fn (v2173 : Nat) (F : Fr) (hm : F.ids.length = 0) (h0 : St F [] F.H0) (hA : DVs.Ok F [] [.flt .f32 v2173]) {y : Nat} (hy : impl_RootNumber_g v2173 = some y) : ∃ H', FnOk Try.prog 114 (DVs.av F [.flt .f32 v2173]) F.H0 ((impl_RootNumber_enc v2173 y).1.av F) H' ∧ St F (impl_RootNumber_enc v2173 y).2 H' ∧ (impl_RootNumber_enc v2173 y).1.Ok F (impl_RootNumber_enc v2173 y).2 :=
  fn_fin tok impl_RootNumber_hO mixed Try.func114 Try.call114 (by kernel_rfl) (LoopsOk_eq (l := []) (by kernel_rfl) trivial) (impl_RootNumber_den v2173) hy hm h0 hA
noncomputable def impl_RootNumber_F : DFn := fun args L =>
  match args with
  | [.flt .f32 v2173] =>
    .call (impl_RootNumber_g v2173) fun y => .leaf (.flt .f32 y, L)
  | _ => .fail
theorem impl_RootNumber_Fok : COk Try.prog 114 impl_RootNumber_F true := by
  intro F L H args r L' hs ha hr
  unfold impl_RootNumber_F at hr
  split at hr
  · rename_i v2173
    simp only [Tree.run] at hr
    obtain ⟨y, hy, hr⟩ := Option.bind_eq_some_iff.1 hr
    simp only [Tree.run, Option.some.injEq, Prod.mk.injEq] at hr
    obtain ⟨rfl, rfl⟩ := hr
    exact call_ok0 hs (fun k => (([] : List AV)[k]?).getD .top) [.flt .f32 v2173] [.flt .f32 v2173] (fun F' h0 hi hρ => ⟨by simp [DVs.av, DV.av, BR.av, hρ], impl_RootNumber_fn v2173 F' (by rw [hi]; rfl) (st_nil hi) ⟨trivial, trivial⟩ hy⟩) rfl
  · cases hr
/-! impl.norm -/
noncomputable def impl_norm_LO (v2171 : List Nat) : LOr := fun id e L =>
  match id with
  | _ => .fail
noncomputable def impl_norm_tab : List (FuncId × DFn × Bool) := [(82, impl_dot_F, true), (114, impl_RootNumber_F, true)]
theorem impl_norm_hO : OrcOk Try.prog (tabD impl_norm_tab) (tabM impl_norm_tab) := tabD_cons impl_dot_Fok (tabD_cons impl_RootNumber_Fok (tabD_nil _))
noncomputable def impl_norm_T (v2171 : List Nat) : Tree (Nat) :=
  (.call (impl_dot_g v2171 v2171) fun v2172 =>
  (.call (impl_RootNumber_g v2172) fun v2175 =>
  .leaf v2175))

noncomputable def impl_norm_g (v2171 : List Nat) : Option (Nat) := (impl_norm_T v2171).run
def impl_norm_enc (v2171 : List Nat) (y : Nat) : Rs := (.flt .f32 y, [])
theorem impl_norm_den (v2171 : List Nat) : (den TT (tabD impl_norm_tab) (tabM impl_norm_tab) (impl_norm_LO v2171) (codeOf Try.f118) ([.bslc (BR.root 0) (.f32 v2171)] ++ List.replicate (Try.f118.ntmps - ([.bslc (BR.root 0) (.f32 v2171)] : List DV).length) .undef) []).bind (retD TT Try.f118.results.toList 0) = (impl_norm_T v2171).bind fun y => .leaf (impl_norm_enc v2171 y) := by kernel_rfl
theorem impl_norm_fn (v2171 : List Nat) (F : Fr) (hm : F.ids.length = 0) (h0 : St F [] F.H0) (hA : DVs.Ok F [] [.bslc (BR.root 0) (.f32 v2171)]) {y : Nat} (hy : impl_norm_g v2171 = some y) : ∃ H', FnOk Try.prog 118 (DVs.av F [.bslc (BR.root 0) (.f32 v2171)]) F.H0 ((impl_norm_enc v2171 y).1.av F) H' ∧ St F (impl_norm_enc v2171 y).2 H' ∧ (impl_norm_enc v2171 y).1.Ok F (impl_norm_enc v2171 y).2 :=
  fn_fin tok impl_norm_hO mixed Try.func118 Try.call118 (by kernel_rfl) (LoopsOk_eq (l := []) (by kernel_rfl) trivial) (impl_norm_den v2171) hy hm h0 hA
noncomputable def impl_norm_F : DFn := fun args L =>
  match args with
  | [a1] =>
    optT (rowF32 L a1) fun v2171 =>
    .call (impl_norm_g v2171) fun y => .leaf (.flt .f32 y, L)
  | _ => .fail
theorem impl_norm_Fok : COk Try.prog 118 impl_norm_F true := by
  intro F L H args r L' hs ha hr
  unfold impl_norm_F at hr
  split at hr
  · rename_i a1
    obtain ⟨v2171, hv2171, hr⟩ := optT_run hr
    simp only [Tree.run] at hr
    obtain ⟨y, hy, hr⟩ := Option.bind_eq_some_iff.1 hr
    simp only [Tree.run, Option.some.injEq, Prod.mk.injEq] at hr
    obtain ⟨rfl, rfl⟩ := hr
    exact call_ok0 hs (fun k => (([a1.av F] : List AV)[k]?).getD .top) [a1] [.bslc (BR.root 0) (.f32 v2171)] (fun F' h0 hi hρ => ⟨by simp [DVs.av, DV.av, BR.av, hρ], impl_norm_fn v2171 F' (by rw [hi]; rfl) (st_nil hi) ⟨bslc_ok hi (by rw [h0, hρ]; exact rowF32_ok hs (DVs.okAt ha 0 rfl) hv2171), trivial⟩ hy⟩) rfl
  · cases hr
/-! (impl.Matrix).setColumn -/
noncomputable def impl_Matrix_setColumn_l0_T (v2215 : Int) (v2216 : Int) (v2218 : Int) (v2219 : List Nat) (s : Int × (List Nat)) : Tree ((Int × (List Nat)) ⊕ ((List Nat))) :=
  (.br (decide (s.1 < v2215)) (
   (.grd (inb s.1 v2219.length) <|
   (.call (impl_Matrix_set_g v2216 s.2 s.1 v2218) fun v2227 =>
   (.grd (decide ((List.set s.2 (Int.toNat (IntKind.i64.wrap ((IntKind.i64.wrap (s.1 * v2216)) + v2218))) (nth v2219 (Int.toNat s.1))).length = s.2.length)) <|
   .leaf (.inl (IntKind.i64.wrap (s.1 + (1 : Int)), List.set s.2 (Int.toNat (IntKind.i64.wrap ((IntKind.i64.wrap (s.1 * v2216)) + v2218))) (nth v2219 (Int.toNat s.1)))))))
  ) (
   .leaf (.inr s.2)
  ))

noncomputable def impl_Matrix_setColumn_l0_g (v2215 : Int) (v2216 : Int) (v2218 : Int) (v2219 : List Nat) (s0 : Int × (List Nat)) : Option ((List Nat)) := whileM (fun s => (impl_Matrix_setColumn_l0_T v2215 v2216 v2218 v2219 s).run) s0
def impl_Matrix_setColumn_l0_E (v2215 : Int) (v2216 : Int) (v2217 : List Nat) (v2218 : Int) (v2219 : List Nat) (s : Int × (List Nat)) : Sd := ([.top, .int .i64 v2218, .bslc (BR.root 1) (.f32 v2219), .ptr 1 (0 : Nat) 0 (3 : Nat), .top, .top, .top, .top, .int .i64 v2215, .int .i64 s.1, .top, .top, .top, .top, .top, .top, .top, .top, .top, .top, .top], [.row (.f32 s.2) 0, .gen [.int .i64 v2215, .int .i64 v2216, .own 0 0 ((s.2).length)] false 0])
def impl_Matrix_setColumn_l0_X (v2215 : Int) (v2216 : Int) (v2217 : List Nat) (v2218 : Int) (v2219 : List Nat) (x : (List Nat)) : Out := (.normal, [.top, .top, .top, .top, .top, .top, .top, .top, .top, .top, .top, .top, .top, .top, .top, .top, .top, .top, .top, .top, .top], [.row (.f32 x) 0])
def impl_Matrix_setColumn_l0_kill : List Nat := [1, 0, 0, 0, 1, 1, 1, 1, 0, 0, 1, 1, 1, 1, 1, 1, 1, 1, 1, 1, 1]
def impl_Matrix_setColumn_l0_nx : Exit → List Nat
  | .exit 0 => [1, 1, 1, 1, 1, 1, 1, 1, 1, 1, 1, 1, 1, 1, 1, 1, 1, 1, 1, 1, 1]
  | .ret => [1, 1, 1, 1, 1, 1, 1, 1, 1, 1, 1, 1, 1, 1, 1, 1, 1, 1, 1, 1, 1]
  | _ => []
noncomputable def impl_Matrix_setColumn_LO (v2215 : Int) (v2216 : Int) (v2217 : List Nat) (v2218 : Int) (v2219 : List Nat) : LOr := fun id e L =>
  match id with
  | 0 => .need (normA 1 impl_Matrix_setColumn_l0_kill e L = some (impl_Matrix_setColumn_l0_E v2215 v2216 v2217 v2218 v2219 ((gI (vAt e 9)), (gRF L (cAt L (vAt e 3) 2))))) (.call (impl_Matrix_setColumn_l0_g v2215 v2216 v2218 v2219 ((gI (vAt e 9)), (gRF L (cAt L (vAt e 3) 2)))) fun x => .leaf (impl_Matrix_setColumn_l0_X v2215 v2216 v2217 v2218 v2219 x))
  | _ => .fail
noncomputable def impl_Matrix_setColumn_tab : List (FuncId × DFn × Bool) := [(66, impl_Matrix_set_F, false)]
theorem impl_Matrix_setColumn_hO : OrcOk Try.prog (tabD impl_Matrix_setColumn_tab) (tabM impl_Matrix_setColumn_tab) := tabD_cons impl_Matrix_set_Fok (tabD_nil _)
theorem impl_Matrix_setColumn_l0_be (v2215 : Int) (v2216 : Int) (v2217 : List Nat) (v2218 : Int) (v2219 : List Nat) (s : Int × (List Nat)) : bodyT TT (tabD impl_Matrix_setColumn_tab) (tabM impl_Matrix_setColumn_tab) (impl_Matrix_setColumn_LO v2215 v2216 v2217 v2218 v2219) 1 impl_Matrix_setColumn_l0_kill impl_Matrix_setColumn_l0_nx (bodyOf Try.f119 0) 0 (impl_Matrix_setColumn_l0_E v2215 v2216 v2217 v2218 v2219 s) = (impl_Matrix_setColumn_l0_T v2215 v2216 v2218 v2219 s).bind fun y => .leaf (outS (impl_Matrix_setColumn_l0_E v2215 v2216 v2217 v2218 v2219) (impl_Matrix_setColumn_l0_X v2215 v2216 v2217 v2218 v2219) y) := by kernel_rfl
theorem impl_Matrix_setColumn_l0_ok (v2215 : Int) (v2216 : Int) (v2217 : List Nat) (v2218 : Int) (v2219 : List Nat) : LSound Try.prog 1 (impl_Matrix_setColumn_LO v2215 v2216 v2217 v2218 v2219) 0 (bodyOf Try.f119 0) := by
  intro e L out h
  exact lo_ok (E := impl_Matrix_setColumn_l0_E v2215 v2216 v2217 v2218 v2219) (gT := impl_Matrix_setColumn_l0_T v2215 v2216 v2218 v2219) (X := impl_Matrix_setColumn_l0_X v2215 v2216 v2217 v2218 v2219) (s0 := ((gI (vAt e 9)), (gRF L (cAt L (vAt e 3) 2)))) tok impl_Matrix_setColumn_hO mixed (LoopsOk_eq (l := []) (by kernel_rfl) trivial) (impl_Matrix_setColumn_l0_be v2215 v2216 v2217 v2218 v2219) rfl (by intro x; rfl) h
noncomputable def impl_Matrix_setColumn_T (v2215 : Int) (v2216 : Int) (v2217 : List Nat) (v2218 : Int) (v2219 : List Nat) : Tree ((List Nat)) :=
  (.need (some (impl_Matrix_setColumn_l0_E v2215 v2216 v2217 v2218 v2219 ((0 : Int), v2217)) = some (impl_Matrix_setColumn_l0_E v2215 v2216 v2217 v2218 v2219 ((0 : Int), v2217))) <|
  (.call (impl_Matrix_setColumn_l0_g v2215 v2216 v2218 v2219 ((0 : Int), v2217)) fun v2228 =>
  .leaf v2228))

noncomputable def impl_Matrix_setColumn_g (v2215 : Int) (v2216 : Int) (v2217 : List Nat) (v2218 : Int) (v2219 : List Nat) : Option ((List Nat)) := (impl_Matrix_setColumn_T v2215 v2216 v2217 v2218 v2219).run
def impl_Matrix_setColumn_enc (v2215 : Int) (v2216 : Int) (v2217 : List Nat) (v2218 : Int) (v2219 : List Nat) (y : (List Nat)) : Rs := (.tup [], [.row (.f32 y) 0])
theorem impl_Matrix_setColumn_den (v2215 : Int) (v2216 : Int) (v2217 : List Nat) (v2218 : Int) (v2219 : List Nat) : (den TT (tabD impl_Matrix_setColumn_tab) (tabM impl_Matrix_setColumn_tab) (impl_Matrix_setColumn_LO v2215 v2216 v2217 v2218 v2219) (codeOf Try.f119) ([.agg [.int .i64 v2215, .int .i64 v2216, .own 0 0 v2217.length], .int .i64 v2218, .bslc (BR.root 1) (.f32 v2219)] ++ List.replicate (Try.f119.ntmps - ([.agg [.int .i64 v2215, .int .i64 v2216, .own 0 0 v2217.length], .int .i64 v2218, .bslc (BR.root 1) (.f32 v2219)] : List DV).length) .undef) [.row (.f32 v2217) 0]).bind (retD TT Try.f119.results.toList 1) = (impl_Matrix_setColumn_T v2215 v2216 v2217 v2218 v2219).bind fun y => .leaf (impl_Matrix_setColumn_enc v2215 v2216 v2217 v2218 v2219 y) := by kernel_rfl
theorem impl_Matrix_setColumn_fn (v2215 : Int) (v2216 : Int) (v2217 : List Nat) (v2218 : Int) (v2219 : List Nat) (F : Fr) (hm : F.ids.length = 1) (h0 : St F [.row (.f32 v2217) 0] F.H0) (hA : DVs.Ok F [.row (.f32 v2217) 0] [.agg [.int .i64 v2215, .int .i64 v2216, .own 0 0 v2217.length], .int .i64 v2218, .bslc (BR.root 1) (.f32 v2219)]) {y : (List Nat)} (hy : impl_Matrix_setColumn_g v2215 v2216 v2217 v2218 v2219 = some y) : ∃ H', FnOk Try.prog 119 (DVs.av F [.agg [.int .i64 v2215, .int .i64 v2216, .own 0 0 v2217.length], .int .i64 v2218, .bslc (BR.root 1) (.f32 v2219)]) F.H0 ((impl_Matrix_setColumn_enc v2215 v2216 v2217 v2218 v2219 y).1.av F) H' ∧ St F (impl_Matrix_setColumn_enc v2215 v2216 v2217 v2218 v2219 y).2 H' ∧ (impl_Matrix_setColumn_enc v2215 v2216 v2217 v2218 v2219 y).1.Ok F (impl_Matrix_setColumn_enc v2215 v2216 v2217 v2218 v2219 y).2 :=
  fn_fin tok impl_Matrix_setColumn_hO mixed Try.func119 Try.call119 (by kernel_rfl) (LoopsOk_eq (l := [(0, bodyOf Try.f119 0)]) (by kernel_rfl) ⟨impl_Matrix_setColumn_l0_ok v2215 v2216 v2217 v2218 v2219, trivial⟩) (impl_Matrix_setColumn_den v2215 v2216 v2217 v2218 v2219) hy hm h0 hA
noncomputable def impl_Matrix_setColumn_F : DFn := fun args L =>
  match args with
  | [.agg [.int .i64 v2215, .int .i64 v2216, a1], .int .i64 v2218, a2] =>
    optT (ownF32 L a1) fun qv2217 =>
    optT (rowF32 L a2) fun v2219 =>
    (match sepB [qv2217.1] [a2] with
    | true =>
    .call (impl_Matrix_setColumn_g v2215 v2216 qv2217.2 v2218 v2219) fun y => .grd (decide (y.length = qv2217.2.length)) (.leaf (.tup [], setRows L ([qv2217.1].zip [.f32 y])))
    | false => .fail)
  | _ => .fail
theorem impl_Matrix_setColumn_Fok : COk Try.prog 119 impl_Matrix_setColumn_F false := by
  intro F L H args r L' hs ha hr
  unfold impl_Matrix_setColumn_F at hr
  split at hr
  · rename_i v2215 v2216 a1 v2218 a2
    obtain ⟨⟨jv2217, v2217⟩, hqv2217, hr⟩ := optT_run hr
    simp only at hr
    obtain ⟨v2219, hv2219, hr⟩ := optT_run hr
    split at hr
    · rename_i hsep
      obtain ⟨hnd, hsepv⟩ := sepB_spec hsep
      simp only [Tree.run] at hr
      obtain ⟨y, hy, hr⟩ := Option.bind_eq_some_iff.1 hr
      try simp only [Tree.run] at hr
      obtain ⟨hl0, hr⟩ := ite_run hr
      simp only [Option.some.injEq, Prod.mk.injEq] at hr
      obtain ⟨rfl, rfl⟩ := hr
      obtain ⟨hr0, hu0, ha0, hb0⟩ := (ownR_spec (DVs.okAt (DVs.okAt ha 0 rfl) 2 rfl) (ownF32_or hqv2217))
      exact mut_ok hs (fun k => (([a1.av F, a2.av F] : List AV)[k]?).getD .top) [.agg [.int .i64 v2215, .int .i64 v2216, a1], .int .i64 v2218, a2] [.agg [.int .i64 v2215, .int .i64 v2216, .own 0 0 v2217.length], .int .i64 v2218, .bslc (BR.root 1) (.f32 v2219)] [jv2217] [.f32 v2217] [.f32 y] hnd rfl rfl (fun i j q h1 h2 => by
          rcases i with _ | i
          · simp at h1 h2; subst h1; subst h2; exact hr0
          · simp at h1) (fun i q q' h1 h2 => by
          rcases i with _ | i
          · simp at h1 h2; subst h1; subst h2; exact of_decide_eq_true hl0
          · simp at h1) (fun j hj => by simp at hj; subst hj; simp [DVs.refs, DV.refs, hu0]) (fun F' h0 hi hρ hst hS => ⟨by (have ab0 : F'.abs 0 = F.abs jv2217 := (by simp [Fr.abs, hi]); simp [DVs.av, DV.av, BR.av, hρ, Row.len, ha0, ab0]), by
          obtain ⟨H1, k1, k2, _⟩ := impl_Matrix_setColumn_fn v2215 v2216 v2217 v2218 v2219 F' (by rw [hi]; rfl) hst ⟨⟨trivial, trivial, ⟨_, rfl, Nat.le_refl _, Nat.le_refl _, fun _ => rfl, (ownR_spec (DVs.okAt (DVs.okAt ha 0 rfl) 2 rfl) (ownF32_or hqv2217)).2.2.2⟩, trivial⟩, trivial, bslcM hS (by rw [hρ]; rfl) (hsepv a2 (by simp)) (DVs.okAt ha 2 rfl) (rowF32_or hv2219), trivial⟩ hy
          exact ⟨H1, k1, k2⟩⟩) (fun F' => rfl) (fun L' => trivial)
    · cases hr
  · cases hr
/-! impl.MirrorFactor -/
noncomputable def impl_MirrorFactor_l4_T (v2615 : Int) (v2616 : Int) (v2618 : Int) (v2619 : Int) (v2620 : Int) (v2621 : Int) (v2623 : List Nat) (s : Int × (List Nat) × (List Nat)) : Tree ((Int × (List Nat) × (List Nat)) ⊕ ((List Nat) × (List Nat))) :=
  (.br (decide (s.1 < v2615)) (
   (.call (impl_Matrix_column_g v2618 v2619 v2623 s.1) fun v2625 =>
   (.call (impl_dot_g v2625 s.2.1) fun v2626 =>
   (.call (impl_Matrix_at_g v2621 s.2.2 s.1 v2615) fun v2627 =>
   (.call (impl_Matrix_set_g v2621 s.2.2 s.1 v2615) fun v2628 =>
   (.grd (decide ((List.set s.2.2 (Int.toNat (IntKind.i64.wrap ((IntKind.i64.wrap (s.1 * v2621)) + v2615))) (fadd .f32 v2627 v2626)).length = s.2.2.length)) <|
   (.call (impl_Matrix_column_g v2618 v2619 v2623 s.1) fun v2629 =>
   (.call (impl_less_g s.2.1 v2626 v2629) fun v2630 =>
   (.grd (decide (v2630.length = s.2.1.length)) <|
   .leaf (.inl (IntKind.i64.wrap (s.1 + (1 : Int)), v2630, List.set s.2.2 (Int.toNat (IntKind.i64.wrap ((IntKind.i64.wrap (s.1 * v2621)) + v2615))) (fadd .f32 v2627 v2626)))))))))))
  ) (
   .leaf (.inr (s.2.1, s.2.2))
  ))

noncomputable def impl_MirrorFactor_l4_g (v2615 : Int) (v2616 : Int) (v2618 : Int) (v2619 : Int) (v2620 : Int) (v2621 : Int) (v2623 : List Nat) (s0 : Int × (List Nat) × (List Nat)) : Option ((List Nat) × (List Nat)) := whileM (fun s => (impl_MirrorFactor_l4_T v2615 v2616 v2618 v2619 v2620 v2621 v2623 s).run) s0
def impl_MirrorFactor_l4_E (v1933 : Int) (v1934 : Int) (v1935 : List Nat) (v2615 : Int) (v2616 : Int) (v2618 : Int) (v2619 : Int) (v2620 : Int) (v2621 : Int) (v2623 : List Nat) (s : Int × (List Nat) × (List Nat)) : Sd := ([.top, .ptr 0 (0 : Nat) 0 (3 : Nat), .ptr 1 (0 : Nat) 0 (3 : Nat), .ptr 2 (0 : Nat) 0 (3 : Nat), .top, .ptr 3 (0 : Nat) 0 (3 : Nat), .ptr 4 (0 : Nat) 0 (3 : Nat), .int .i64 v2615, .own 5 0 ((s.2.1).length), .top, .top, .top, .top, .top, .top, .top, .top, .top, .top, .top, .top, .top, .top, .top, .top, .top, .top, .top, .top, .int .i64 v1934, .int .i64 v2615, .top, .top, .top, .top, .top, .int .i64 v2616, .top, .int .i64 v2615, .int .i64 s.1, .top, .top, .top, .top, .top, .top, .top, .top, .top, .top, .top, .top, .top, .top, .top, .top, .top, .top, .top, .top, .top, .top, .top, .top, .top, .top, .top, .top, .top, .top, .top, .top, .top, .top, .top, .top, .top, .top, .top, .top, .top, .top, .top, .top, .top, .top, .top, .top, .top, .top, .top, .top, .top, .top, .top, .top, .top, .top, .top, .top, .top, .top, .top, .top, .top, .top, .top], [.gen [.int .i64 v1933, .int .i64 v1934, .bslc (BR.root 0) (.f32 v1935)] false 0, .gen [.int .i64 (0 : Int), .int .i64 (0 : Int), .nilslc] false 0, .gen [.int .i64 (0 : Int), .int .i64 (0 : Int), .nilslc] false 0, .gen [.int .i64 v2618, .int .i64 v2619, .own 6 0 ((v2623).length)] false 0, .gen [.int .i64 v2620, .int .i64 v2621, .own 7 0 ((s.2.2).length)] false 0, .row (.f32 s.2.1) 0, .row (.f32 v2623) 0, .row (.f32 s.2.2) 0])
def impl_MirrorFactor_l4_X (v1933 : Int) (v1934 : Int) (v1935 : List Nat) (v2615 : Int) (v2616 : Int) (v2618 : Int) (v2619 : Int) (v2620 : Int) (v2621 : Int) (v2623 : List Nat) (x : (List Nat) × (List Nat)) : Out := (.normal, [.top, .ptr 0 (0 : Nat) 0 (3 : Nat), .ptr 1 (0 : Nat) 0 (3 : Nat), .ptr 2 (0 : Nat) 0 (3 : Nat), .top, .ptr 3 (0 : Nat) 0 (3 : Nat), .ptr 4 (0 : Nat) 0 (3 : Nat), .int .i64 v2615, .own 5 0 ((x.1).length), .top, .top, .top, .top, .top, .top, .top, .top, .top, .top, .top, .top, .top, .top, .top, .top, .top, .top, .top, .top, .int .i64 v1934, .int .i64 v2615, .top, .top, .top, .top, .top, .int .i64 v2616, .top, .top, .top, .top, .top, .top, .top, .top, .top, .top, .top, .top, .top, .top, .top, .top, .top, .top, .top, .top, .top, .top, .top, .top, .top, .top, .top, .top, .top, .top, .top, .top, .top, .top, .top, .top, .top, .top, .top, .top, .top, .top, .top, .top, .top, .top, .top, .top, .top, .top, .top, .top, .top, .top, .top, .top, .top, .top, .top, .top, .top, .top, .top, .top, .top, .top, .top, .top, .top, .top], [.gen [.int .i64 v1933, .int .i64 v1934, .bslc (BR.root 0) (.f32 v1935)] false 0, .gen [.int .i64 (0 : Int), .int .i64 (0 : Int), .nilslc] false 0, .gen [.int .i64 (0 : Int), .int .i64 (0 : Int), .nilslc] false 0, .gen [.int .i64 v2618, .int .i64 v2619, .own 6 0 ((v2623).length)] false 0, .gen [.int .i64 v2620, .int .i64 v2621, .own 7 0 ((x.2).length)] false 0, .row (.f32 x.1) 0, .row (.f32 v2623) 0, .row (.f32 x.2) 0])
def impl_MirrorFactor_l4_kill : List Nat := [1, 0, 0, 0, 1, 0, 0, 0, 0, 1, 1, 1, 1, 1, 1, 1, 1, 1, 1, 1, 1, 1, 1, 1, 1, 1, 1, 1, 1, 0, 0, 1, 1, 1, 1, 1, 0, 1, 0, 0, 1, 1, 1, 1, 1, 1, 1, 1, 1, 1, 1, 1, 1, 1, 1, 1, 1, 1, 1, 1, 1, 1, 1, 1, 1, 1, 1, 1, 1, 1, 1, 1, 1, 1, 1, 1, 1, 1, 1, 1, 1, 1, 1, 1, 1, 1, 1, 1, 1, 1, 1, 1, 1, 1, 1, 1, 1, 1, 1, 1, 1, 1, 1, 1, 1, 1, 1]
def impl_MirrorFactor_l4_nx : Exit → List Nat
  | .exit 0 => [1, 1, 0, 0, 1, 0, 0, 1, 1, 1, 1, 1, 1, 1, 1, 1, 1, 1, 1, 1, 1, 1, 1, 1, 1, 1, 1, 1, 1, 1, 1, 1, 1, 1, 1, 1, 1, 1, 1, 1, 1, 1, 1, 1, 1, 1, 1, 1, 1, 1, 1, 1, 1, 1, 1, 1, 1, 1, 1, 1, 1, 1, 1, 1, 1, 1, 1, 1, 1, 1, 1, 1, 1, 1, 1, 1, 1, 1, 1, 1, 1, 1, 1, 1, 1, 1, 1, 1, 1, 1, 1, 1, 1, 1, 1, 1, 1, 1, 1, 1, 1, 1, 1, 1, 1, 1, 1]
  | .exit 1 => [1, 0, 0, 0, 1, 0, 0, 1, 1, 1, 1, 1, 1, 1, 1, 1, 1, 1, 1, 1, 1, 1, 1, 1, 1, 1, 1, 1, 1, 0, 0, 1, 1, 1, 1, 1, 1, 1, 1, 1, 1, 1, 1, 1, 1, 1, 1, 1, 1, 1, 1, 1, 1, 1, 1, 1, 1, 1, 1, 1, 1, 1, 1, 1, 1, 1, 1, 1, 1, 1, 1, 1, 1, 1, 1, 1, 1, 1, 1, 1, 1, 1, 1, 1, 1, 1, 1, 1, 1, 1, 1, 1, 1, 1, 1, 1, 1, 1, 1, 1, 1, 1, 1, 1, 1, 1, 1]
  | .exit 2 => [1, 0, 0, 0, 1, 0, 0, 0, 0, 1, 1, 1, 1, 1, 1, 1, 1, 1, 1, 1, 1, 1, 1, 1, 1, 1, 1, 1, 1, 0, 0, 1, 1, 1, 1, 1, 1, 1, 1, 1, 1, 1, 1, 1, 1, 1, 1, 1, 1, 1, 1, 1, 1, 1, 1, 1, 1, 1, 1, 1, 1, 1, 1, 1, 1, 1, 1, 1, 1, 1, 1, 1, 1, 1, 1, 1, 1, 1, 1, 1, 1, 1, 1, 1, 1, 1, 1, 1, 1, 1, 1, 1, 1, 1, 1, 1, 1, 1, 1, 1, 1, 1, 1, 1, 1, 1, 1]
  | .exit 3 => [1, 0, 0, 0, 1, 0, 0, 0, 0, 1, 1, 1, 1, 1, 1, 1, 1, 1, 1, 1, 1, 1, 1, 1, 1, 1, 1, 1, 1, 0, 0, 1, 1, 1, 1, 1, 0, 1, 1, 1, 1, 1, 1, 1, 1, 1, 1, 1, 1, 1, 1, 1, 1, 1, 1, 1, 1, 1, 1, 1, 1, 1, 1, 1, 1, 1, 1, 1, 1, 1, 1, 1, 1, 1, 1, 1, 1, 1, 1, 1, 1, 1, 1, 1, 1, 1, 1, 1, 1, 1, 1, 1, 1, 1, 1, 1, 1, 1, 1, 1, 1, 1, 1, 1, 1, 1, 1]
  | .exit 4 => [1, 0, 0, 0, 1, 0, 0, 0, 0, 1, 1, 1, 1, 1, 1, 1, 1, 1, 1, 1, 1, 1, 1, 1, 1, 1, 1, 1, 1, 0, 0, 1, 1, 1, 1, 1, 0, 1, 1, 1, 1, 1, 1, 1, 1, 1, 1, 1, 1, 1, 1, 1, 1, 1, 1, 1, 1, 1, 1, 1, 1, 1, 1, 1, 1, 1, 1, 1, 1, 1, 1, 1, 1, 1, 1, 1, 1, 1, 1, 1, 1, 1, 1, 1, 1, 1, 1, 1, 1, 1, 1, 1, 1, 1, 1, 1, 1, 1, 1, 1, 1, 1, 1, 1, 1, 1, 1]
  | .ret => [1, 1, 0, 0, 0, 1, 1, 1, 1, 1, 1, 1, 1, 1, 1, 1, 1, 1, 1, 1, 1, 1, 1, 1, 1, 1, 1, 1, 1, 1, 1, 1, 1, 1, 1, 1, 1, 1, 1, 1, 1, 1, 1, 1, 1, 1, 1, 1, 1, 1, 1, 1, 1, 1, 1, 1, 1, 1, 1, 1, 1, 1, 1, 1, 1, 1, 1, 1, 1, 1, 1, 1, 1, 1, 1, 1, 1, 1, 1, 1, 1, 1, 1, 1, 1, 1, 1, 1, 1, 1, 1, 1, 1, 1, 1, 1, 1, 1, 1, 1, 1, 1, 1, 1, 1, 1, 1]
  | _ => []
noncomputable def impl_MirrorFactor_l2_T (v1933 : Int) (v1934 : Int) (v1935 : List Nat) (v2574 : Int) (v2576 : Int) (v2577 : Int) (v2578 : Int) (v2579 : Int) (v2581 : List Nat) (s : Int × (List Nat) × (List Nat)) : Tree ((Int × (List Nat) × (List Nat)) ⊕ ((List Nat) × (List Nat))) :=
  (.br (decide (s.1 < (2 : Int))) (
   (.need (some (impl_MirrorFactor_l4_E v1933 v1934 v1935 v2574 s.1 v2576 v2577 v2578 v2579 v2581 ((0 : Int), s.2.1, s.2.2)) = some (impl_MirrorFactor_l4_E v1933 v1934 v1935 v2574 s.1 v2576 v2577 v2578 v2579 v2581 ((0 : Int), s.2.1, s.2.2))) <|
   (.call (impl_MirrorFactor_l4_g v2574 s.1 v2576 v2577 v2578 v2579 v2581 ((0 : Int), s.2.1, s.2.2)) fun v2631 =>
   .leaf (.inl (IntKind.i64.wrap (s.1 + (1 : Int)), v2631.1, v2631.2))))
  ) (
   .leaf (.inr (s.2.1, s.2.2))
  ))

noncomputable def impl_MirrorFactor_l2_g (v1933 : Int) (v1934 : Int) (v1935 : List Nat) (v2574 : Int) (v2576 : Int) (v2577 : Int) (v2578 : Int) (v2579 : Int) (v2581 : List Nat) (s0 : Int × (List Nat) × (List Nat)) : Option ((List Nat) × (List Nat)) := whileM (fun s => (impl_MirrorFactor_l2_T v1933 v1934 v1935 v2574 v2576 v2577 v2578 v2579 v2581 s).run) s0
def impl_MirrorFactor_l2_E (v1933 : Int) (v1934 : Int) (v1935 : List Nat) (v2574 : Int) (v2576 : Int) (v2577 : Int) (v2578 : Int) (v2579 : Int) (v2581 : List Nat) (s : Int × (List Nat) × (List Nat)) : Sd := ([.top, .ptr 0 (0 : Nat) 0 (3 : Nat), .ptr 1 (0 : Nat) 0 (3 : Nat), .ptr 2 (0 : Nat) 0 (3 : Nat), .top, .ptr 3 (0 : Nat) 0 (3 : Nat), .ptr 4 (0 : Nat) 0 (3 : Nat), .int .i64 v2574, .own 5 0 ((s.2.1).length), .top, .top, .top, .top, .top, .top, .top, .top, .top, .top, .top, .top, .top, .top, .top, .top, .top, .top, .top, .top, .int .i64 v1934, .int .i64 v2574, .top, .top, .top, .top, .top, .int .i64 s.1, .top, .top, .top, .top, .top, .top, .top, .top, .top, .top, .top, .top, .top, .top, .top, .top, .top, .top, .top, .top, .top, .top, .top, .top, .top, .top, .top, .top, .top, .top, .top, .top, .top, .top, .top, .top, .top, .top, .top, .top, .top, .top, .top, .top, .top, .top, .top, .top, .top, .top, .top, .top, .top, .top, .top, .top, .top, .top, .top, .top, .top, .top, .top, .top, .top, .top, .top, .top, .top, .top], [.gen [.int .i64 v1933, .int .i64 v1934, .bslc (BR.root 0) (.f32 v1935)] false 0, .gen [.int .i64 (0 : Int), .int .i64 (0 : Int), .nilslc] false 0, .gen [.int .i64 (0 : Int), .int .i64 (0 : Int), .nilslc] false 0, .gen [.int .i64 v2576, .int .i64 v2577, .own 6 0 ((v2581).length)] false 0, .gen [.int .i64 v2578, .int .i64 v2579, .own 7 0 ((s.2.2).length)] false 0, .row (.f32 s.2.1) 0, .row (.f32 v2581) 0, .row (.f32 s.2.2) 0])
def impl_MirrorFactor_l2_X (v1933 : Int) (v1934 : Int) (v1935 : List Nat) (v2574 : Int) (v2576 : Int) (v2577 : Int) (v2578 : Int) (v2579 : Int) (v2581 : List Nat) (x : (List Nat) × (List Nat)) : Out := (.normal, [.top, .ptr 0 (0 : Nat) 0 (3 : Nat), .ptr 1 (0 : Nat) 0 (3 : Nat), .ptr 2 (0 : Nat) 0 (3 : Nat), .top, .ptr 3 (0 : Nat) 0 (3 : Nat), .ptr 4 (0 : Nat) 0 (3 : Nat), .int .i64 v2574, .own 5 0 ((x.1).length), .top, .top, .top, .top, .top, .top, .top, .top, .top, .top, .top, .top, .top, .top, .top, .top, .top, .top, .top, .top, .int .i64 v1934, .int .i64 v2574, .top, .top, .top, .top, .top, .top, .top, .top, .top, .top, .top, .top, .top, .top, .top, .top, .top, .top, .top, .top, .top, .top, .top, .top, .top, .top, .top, .top, .top, .top, .top, .top, .top, .top, .top, .top, .top, .top, .top, .top, .top, .top, .top, .top, .top, .top, .top, .top, .top, .top, .top, .top, .top, .top, .top, .top, .top, .top, .top, .top, .top, .top, .top, .top, .top, .top, .top, .top, .top, .top, .top, .top, .top, .top, .top, .top], [.gen [.int .i64 v1933, .int .i64 v1934, .bslc (BR.root 0) (.f32 v1935)] false 0, .gen [.int .i64 (0 : Int), .int .i64 (0 : Int), .nilslc] false 0, .gen [.int .i64 (0 : Int), .int .i64 (0 : Int), .nilslc] false 0, .gen [.int .i64 v2576, .int .i64 v2577, .own 6 0 ((v2581).length)] false 0, .gen [.int .i64 v2578, .int .i64 v2579, .own 7 0 ((x.2).length)] false 0, .row (.f32 x.1) 0, .row (.f32 v2581) 0, .row (.f32 x.2) 0])
def impl_MirrorFactor_l2_kill : List Nat := [1, 0, 0, 0, 1, 0, 0, 0, 0, 1, 1, 1, 1, 1, 1, 1, 1, 1, 1, 1, 1, 1, 1, 1, 1, 1, 1, 1, 1, 0, 0, 1, 1, 1, 1, 1, 0, 1, 1, 1, 1, 1, 1, 1, 1, 1, 1, 1, 1, 1, 1, 1, 1, 1, 1, 1, 1, 1, 1, 1, 1, 1, 1, 1, 1, 1, 1, 1, 1, 1, 1, 1, 1, 1, 1, 1, 1, 1, 1, 1, 1, 1, 1, 1, 1, 1, 1, 1, 1, 1, 1, 1, 1, 1, 1, 1, 1, 1, 1, 1, 1, 1, 1, 1, 1, 1, 1]
def impl_MirrorFactor_l2_nx : Exit → List Nat
  | .exit 0 => [1, 1, 0, 0, 1, 0, 0, 1, 1, 1, 1, 1, 1, 1, 1, 1, 1, 1, 1, 1, 1, 1, 1, 1, 1, 1, 1, 1, 1, 1, 1, 1, 1, 1, 1, 1, 1, 1, 1, 1, 1, 1, 1, 1, 1, 1, 1, 1, 1, 1, 1, 1, 1, 1, 1, 1, 1, 1, 1, 1, 1, 1, 1, 1, 1, 1, 1, 1, 1, 1, 1, 1, 1, 1, 1, 1, 1, 1, 1, 1, 1, 1, 1, 1, 1, 1, 1, 1, 1, 1, 1, 1, 1, 1, 1, 1, 1, 1, 1, 1, 1, 1, 1, 1, 1, 1, 1]
  | .exit 1 => [1, 0, 0, 0, 1, 0, 0, 1, 1, 1, 1, 1, 1, 1, 1, 1, 1, 1, 1, 1, 1, 1, 1, 1, 1, 1, 1, 1, 1, 0, 0, 1, 1, 1, 1, 1, 1, 1, 1, 1, 1, 1, 1, 1, 1, 1, 1, 1, 1, 1, 1, 1, 1, 1, 1, 1, 1, 1, 1, 1, 1, 1, 1, 1, 1, 1, 1, 1, 1, 1, 1, 1, 1, 1, 1, 1, 1, 1, 1, 1, 1, 1, 1, 1, 1, 1, 1, 1, 1, 1, 1, 1, 1, 1, 1, 1, 1, 1, 1, 1, 1, 1, 1, 1, 1, 1, 1]
  | .exit 2 => [1, 0, 0, 0, 1, 0, 0, 0, 0, 1, 1, 1, 1, 1, 1, 1, 1, 1, 1, 1, 1, 1, 1, 1, 1, 1, 1, 1, 1, 0, 0, 1, 1, 1, 1, 1, 1, 1, 1, 1, 1, 1, 1, 1, 1, 1, 1, 1, 1, 1, 1, 1, 1, 1, 1, 1, 1, 1, 1, 1, 1, 1, 1, 1, 1, 1, 1, 1, 1, 1, 1, 1, 1, 1, 1, 1, 1, 1, 1, 1, 1, 1, 1, 1, 1, 1, 1, 1, 1, 1, 1, 1, 1, 1, 1, 1, 1, 1, 1, 1, 1, 1, 1, 1, 1, 1, 1]
  | .ret => [1, 1, 0, 0, 0, 1, 1, 1, 1, 1, 1, 1, 1, 1, 1, 1, 1, 1, 1, 1, 1, 1, 1, 1, 1, 1, 1, 1, 1, 1, 1, 1, 1, 1, 1, 1, 1, 1, 1, 1, 1, 1, 1, 1, 1, 1, 1, 1, 1, 1, 1, 1, 1, 1, 1, 1, 1, 1, 1, 1, 1, 1, 1, 1, 1, 1, 1, 1, 1, 1, 1, 1, 1, 1, 1, 1, 1, 1, 1, 1, 1, 1, 1, 1, 1, 1, 1, 1, 1, 1, 1, 1, 1, 1, 1, 1, 1, 1, 1, 1, 1, 1, 1, 1, 1, 1, 1]
  | _ => []
noncomputable def impl_MirrorFactor_l6_T (v2657 : Int) (v2658 : Nat) (v2659 : Int) (v2661 : Int) (v2662 : Int) (v2663 : Int) (v2664 : Int) (v2666 : List Nat) (v2667 : List Nat) (s : Int × (List Nat)) : Tree ((Int × (List Nat)) ⊕ ((List Nat))) :=
  (.br (decide (s.1 < v2659)) (
   (.grd (inb s.1 ((s.2).length)) <|
   (.grd (inb s.1 ((s.2).length)) <|
   .leaf (.inl (IntKind.i64.wrap (s.1 + (1 : Int)), List.set s.2 (Int.toNat s.1) (fdiv .f32 (nth s.2 (Int.toNat s.1)) v2658)))))
  ) (
   .leaf (.inr s.2)
  ))

noncomputable def impl_MirrorFactor_l6_g (v2657 : Int) (v2658 : Nat) (v2659 : Int) (v2661 : Int) (v2662 : Int) (v2663 : Int) (v2664 : Int) (v2666 : List Nat) (v2667 : List Nat) (s0 : Int × (List Nat)) : Option ((List Nat)) := whileM (fun s => (impl_MirrorFactor_l6_T v2657 v2658 v2659 v2661 v2662 v2663 v2664 v2666 v2667 s).run) s0
def impl_MirrorFactor_l6_E (v1933 : Int) (v1934 : Int) (v1935 : List Nat) (v2657 : Int) (v2658 : Nat) (v2659 : Int) (v2661 : Int) (v2662 : Int) (v2663 : Int) (v2664 : Int) (v2666 : List Nat) (v2667 : List Nat) (s : Int × (List Nat)) : Sd := ([.top, .ptr 0 (0 : Nat) 0 (3 : Nat), .ptr 1 (0 : Nat) 0 (3 : Nat), .ptr 2 (0 : Nat) 0 (3 : Nat), .top, .ptr 3 (0 : Nat) 0 (3 : Nat), .ptr 4 (0 : Nat) 0 (3 : Nat), .int .i64 v2657, .own 5 0 ((s.2).length), .top, .top, .flt .f32 v2658, .top, .top, .top, .top, .top, .top, .top, .top, .top, .top, .top, .top, .top, .top, .top, .top, .top, .int .i64 v1934, .int .i64 v2657, .top, .top, .top, .top, .top, .top, .top, .top, .top, .top, .top, .top, .top, .top, .top, .top, .top, .top, .top, .top, .top, .top, .top, .top, .top, .top, .top, .top, .top, .top, .top, .top, .top, .top, .top, .top, .top, .top, .top, .top, .top, .top, .top, .top, .top, .top, .top, .int .i64 v2659, .int .i64 s.1, .top, .top, .top, .top, .top, .top, .top, .top, .top, .top, .top, .top, .top, .top, .top, .top, .top, .top, .top, .top, .top, .top, .top, .top, .top, .top, .top], [.gen [.int .i64 v1933, .int .i64 v1934, .bslc (BR.root 0) (.f32 v1935)] false 0, .gen [.int .i64 (0 : Int), .int .i64 (0 : Int), .nilslc] false 0, .gen [.int .i64 (0 : Int), .int .i64 (0 : Int), .nilslc] false 0, .gen [.int .i64 v2661, .int .i64 v2662, .own 6 0 ((v2666).length)] false 0, .gen [.int .i64 v2663, .int .i64 v2664, .own 7 0 ((v2667).length)] false 0, .row (.f32 s.2) 0, .row (.f32 v2666) 0, .row (.f32 v2667) 0])
def impl_MirrorFactor_l6_X (v1933 : Int) (v1934 : Int) (v1935 : List Nat) (v2657 : Int) (v2658 : Nat) (v2659 : Int) (v2661 : Int) (v2662 : Int) (v2663 : Int) (v2664 : Int) (v2666 : List Nat) (v2667 : List Nat) (x : (List Nat)) : Out := (.normal, [.top, .ptr 0 (0 : Nat) 0 (3 : Nat), .ptr 1 (0 : Nat) 0 (3 : Nat), .ptr 2 (0 : Nat) 0 (3 : Nat), .top, .ptr 3 (0 : Nat) 0 (3 : Nat), .ptr 4 (0 : Nat) 0 (3 : Nat), .int .i64 v2657, .own 5 0 ((x).length), .top, .top, .top, .top, .top, .top, .top, .top, .top, .top, .top, .top, .top, .top, .top, .top, .top, .top, .top, .top, .int .i64 v1934, .int .i64 v2657, .top, .top, .top, .top, .top, .top, .top, .top, .top, .top, .top, .top, .top, .top, .top, .top, .top, .top, .top, .top, .top, .top, .top, .top, .top, .top, .top, .top, .top, .top, .top, .top, .top, .top, .top, .top, .top, .top, .top, .top, .top, .top, .top, .top, .top, .top, .top, .top, .top, .top, .top, .top, .top, .top, .top, .top, .top, .top, .top, .top, .top, .top, .top, .top, .top, .top, .top, .top, .top, .top, .top, .top, .top, .top, .top, .top], [.gen [.int .i64 v1933, .int .i64 v1934, .bslc (BR.root 0) (.f32 v1935)] false 0, .gen [.int .i64 (0 : Int), .int .i64 (0 : Int), .nilslc] false 0, .gen [.int .i64 (0 : Int), .int .i64 (0 : Int), .nilslc] false 0, .gen [.int .i64 v2661, .int .i64 v2662, .own 6 0 ((v2666).length)] false 0, .gen [.int .i64 v2663, .int .i64 v2664, .own 7 0 ((v2667).length)] false 0, .row (.f32 x) 0, .row (.f32 v2666) 0, .row (.f32 v2667) 0])
def impl_MirrorFactor_l6_kill : List Nat := [1, 0, 0, 0, 1, 0, 0, 0, 0, 1, 1, 0, 1, 1, 1, 1, 1, 1, 1, 1, 1, 1, 1, 1, 1, 1, 1, 1, 1, 0, 0, 1, 1, 1, 1, 1, 1, 1, 1, 1, 1, 1, 1, 1, 1, 1, 1, 1, 1, 1, 1, 1, 1, 1, 1, 1, 1, 1, 1, 1, 1, 1, 1, 1, 1, 1, 1, 1, 1, 1, 1, 1, 1, 1, 1, 1, 1, 1, 0, 0, 1, 1, 1, 1, 1, 1, 1, 1, 1, 1, 1, 1, 1, 1, 1, 1, 1, 1, 1, 1, 1, 1, 1, 1, 1, 1, 1]
def impl_MirrorFactor_l6_nx : Exit → List Nat
  | .exit 0 => [1, 1, 0, 0, 1, 0, 0, 1, 1, 1, 1, 1, 1, 1, 1, 1, 1, 1, 1, 1, 1, 1, 1, 1, 1, 1, 1, 1, 1, 1, 1, 1, 1, 1, 1, 1, 1, 1, 1, 1, 1, 1, 1, 1, 1, 1, 1, 1, 1, 1, 1, 1, 1, 1, 1, 1, 1, 1, 1, 1, 1, 1, 1, 1, 1, 1, 1, 1, 1, 1, 1, 1, 1, 1, 1, 1, 1, 1, 1, 1, 1, 1, 1, 1, 1, 1, 1, 1, 1, 1, 1, 1, 1, 1, 1, 1, 1, 1, 1, 1, 1, 1, 1, 1, 1, 1, 1]
  | .exit 1 => [1, 0, 0, 0, 1, 0, 0, 1, 1, 1, 1, 1, 1, 1, 1, 1, 1, 1, 1, 1, 1, 1, 1, 1, 1, 1, 1, 1, 1, 0, 0, 1, 1, 1, 1, 1, 1, 1, 1, 1, 1, 1, 1, 1, 1, 1, 1, 1, 1, 1, 1, 1, 1, 1, 1, 1, 1, 1, 1, 1, 1, 1, 1, 1, 1, 1, 1, 1, 1, 1, 1, 1, 1, 1, 1, 1, 1, 1, 1, 1, 1, 1, 1, 1, 1, 1, 1, 1, 1, 1, 1, 1, 1, 1, 1, 1, 1, 1, 1, 1, 1, 1, 1, 1, 1, 1, 1]
  | .exit 6 => [1, 0, 0, 0, 1, 0, 0, 0, 0, 1, 1, 1, 1, 1, 1, 1, 1, 1, 1, 1, 1, 1, 1, 1, 1, 1, 1, 1, 1, 0, 0, 1, 1, 1, 1, 1, 1, 1, 1, 1, 1, 1, 1, 1, 1, 1, 1, 1, 1, 1, 1, 1, 1, 1, 1, 1, 1, 1, 1, 1, 1, 1, 1, 1, 1, 1, 1, 1, 1, 1, 1, 1, 1, 1, 1, 1, 1, 1, 1, 1, 1, 1, 1, 1, 1, 1, 1, 1, 1, 1, 1, 1, 1, 1, 1, 1, 1, 1, 1, 1, 1, 1, 1, 1, 1, 1, 1]
  | .ret => [1, 1, 0, 0, 0, 1, 1, 1, 1, 1, 1, 1, 1, 1, 1, 1, 1, 1, 1, 1, 1, 1, 1, 1, 1, 1, 1, 1, 1, 1, 1, 1, 1, 1, 1, 1, 1, 1, 1, 1, 1, 1, 1, 1, 1, 1, 1, 1, 1, 1, 1, 1, 1, 1, 1, 1, 1, 1, 1, 1, 1, 1, 1, 1, 1, 1, 1, 1, 1, 1, 1, 1, 1, 1, 1, 1, 1, 1, 1, 1, 1, 1, 1, 1, 1, 1, 1, 1, 1, 1, 1, 1, 1, 1, 1, 1, 1, 1, 1, 1, 1, 1, 1, 1, 1, 1, 1]
  | _ => []
noncomputable def impl_MirrorFactor_l0_T (v1933 : Int) (v1934 : Int) (v1935 : List Nat) (v2451 : Int) (v2452 : Int) (v2453 : Int) (v2454 : Int) (s : Int × (List Nat) × (List Nat)) : Tree ((Int × (List Nat) × (List Nat)) ⊕ ((Unit) ⊕ ((List Nat) × (List Nat)))) :=
  (.br (decide (s.1 < v1934)) (
   (.call (impl_Matrix_column_g v1933 v1934 v1935 s.1) fun v2457 =>
   (.need (some (impl_MirrorFactor_l2_E v1933 v1934 v1935 s.1 v2451 v2452 v2453 v2454 s.2.1 ((0 : Int), v2457, s.2.2)) = some (impl_MirrorFactor_l2_E v1933 v1934 v1935 s.1 v2451 v2452 v2453 v2454 s.2.1 ((0 : Int), v2457, s.2.2))) <|
   (.call (impl_MirrorFactor_l2_g v1933 v1934 v1935 s.1 v2451 v2452 v2453 v2454 s.2.1 ((0 : Int), v2457, s.2.2)) fun v2632 =>
   (.call (impl_norm_g v2632.1) fun v2633 =>
   (.br (!(fgrt .f32 v2633 (0 : Nat))) (
    .leaf (.inr (.inl ()))
   ) (
    (.call (impl_Matrix_set_g v2454 v2632.2 s.1 s.1) fun v2634 =>
    (.grd (decide ((List.set v2632.2 (Int.toNat (IntKind.i64.wrap ((IntKind.i64.wrap (s.1 * v2454)) + s.1))) v2633).length = v2632.2.length)) <|
    (.need (some (impl_MirrorFactor_l6_E v1933 v1934 v1935 s.1 v2633 (((v2632.1).length : Nat) : Int) v2451 v2452 v2453 v2454 s.2.1 (List.set v2632.2 (Int.toNat (IntKind.i64.wrap ((IntKind.i64.wrap (s.1 * v2454)) + s.1))) v2633) ((0 : Int), v2632.1)) = some (impl_MirrorFactor_l6_E v1933 v1934 v1935 s.1 v2633 (((v2632.1).length : Nat) : Int) v2451 v2452 v2453 v2454 s.2.1 (List.set v2632.2 (Int.toNat (IntKind.i64.wrap ((IntKind.i64.wrap (s.1 * v2454)) + s.1))) v2633) ((0 : Int), v2632.1))) <|
    (.call (impl_MirrorFactor_l6_g s.1 v2633 (((v2632.1).length : Nat) : Int) v2451 v2452 v2453 v2454 s.2.1 (List.set v2632.2 (Int.toNat (IntKind.i64.wrap ((IntKind.i64.wrap (s.1 * v2454)) + s.1))) v2633) ((0 : Int), v2632.1)) fun v2668 =>
    (.call (impl_Matrix_setColumn_g v2451 v2452 s.2.1 s.1 v2668) fun v2669 =>
    (.grd (decide (v2669.length = s.2.1.length)) <|
    .leaf (.inl (IntKind.i64.wrap (s.1 + (1 : Int)), v2669, (List.set v2632.2 (Int.toNat (IntKind.i64.wrap ((IntKind.i64.wrap (s.1 * v2454)) + s.1))) v2633)))))))))
   ))))))
  ) (
   .leaf (.inr (.inr (s.2.1, s.2.2)))
  ))

noncomputable def impl_MirrorFactor_l0_g (v1933 : Int) (v1934 : Int) (v1935 : List Nat) (v2451 : Int) (v2452 : Int) (v2453 : Int) (v2454 : Int) (s0 : Int × (List Nat) × (List Nat)) : Option ((Unit) ⊕ ((List Nat) × (List Nat))) := whileM (fun s => (impl_MirrorFactor_l0_T v1933 v1934 v1935 v2451 v2452 v2453 v2454 s).run) s0
def impl_MirrorFactor_l0_E (v1933 : Int) (v1934 : Int) (v1935 : List Nat) (v2451 : Int) (v2452 : Int) (v2453 : Int) (v2454 : Int) (s : Int × (List Nat) × (List Nat)) : Sd := ([.top, .ptr 0 (0 : Nat) 0 (3 : Nat), .ptr 1 (0 : Nat) 0 (3 : Nat), .ptr 2 (0 : Nat) 0 (3 : Nat), .top, .ptr 3 (0 : Nat) 0 (3 : Nat), .ptr 4 (0 : Nat) 0 (3 : Nat), .top, .top, .top, .top, .top, .top, .top, .top, .top, .top, .top, .top, .top, .top, .top, .top, .top, .top, .top, .top, .top, .top, .int .i64 v1934, .int .i64 s.1, .top, .top, .top, .top, .top, .top, .top, .top, .top, .top, .top, .top, .top, .top, .top, .top, .top, .top, .top, .top, .top, .top, .top, .top, .top, .top, .top, .top, .top, .top, .top, .top, .top, .top, .top, .top, .top, .top, .top, .top, .top, .top, .top, .top, .top, .top, .top, .top, .top, .top, .top, .top, .top, .top, .top, .top, .top, .top, .top, .top, .top, .top, .top, .top, .top, .top, .top, .top, .top, .top, .top, .top, .top, .top, .top, .top], [.gen [.int .i64 v1933, .int .i64 v1934, .bslc (BR.root 0) (.f32 v1935)] false 0, .gen [.int .i64 (0 : Int), .int .i64 (0 : Int), .nilslc] false 0, .gen [.int .i64 (0 : Int), .int .i64 (0 : Int), .nilslc] false 0, .gen [.int .i64 v2451, .int .i64 v2452, .own 5 0 ((s.2.1).length)] false 0, .gen [.int .i64 v2453, .int .i64 v2454, .own 6 0 ((s.2.2).length)] false 0, .row (.f32 s.2.1) 0, .row (.f32 s.2.2) 0])
def impl_MirrorFactor_l0_X (v1933 : Int) (v1934 : Int) (v1935 : List Nat) (v2451 : Int) (v2452 : Int) (v2453 : Int) (v2454 : Int) (x : (Unit) ⊕ ((List Nat) × (List Nat))) : Out := (match x with | .inl x => (.ret, [.top, .top, .ptr 0 (0 : Nat) 0 (3 : Nat), .ptr 1 (0 : Nat) 0 (3 : Nat), .lit false, .top, .top, .top, .top, .top, .top, .top, .top, .top, .top, .top, .top, .top, .top, .top, .top, .top, .top, .top, .top, .top, .top, .top, .top, .top, .top, .top, .top, .top, .top, .top, .top, .top, .top, .top, .top, .top, .top, .top, .top, .top, .top, .top, .top, .top, .top, .top, .top, .top, .top, .top, .top, .top, .top, .top, .top, .top, .top, .top, .top, .top, .top, .top, .top, .top, .top, .top, .top, .top, .top, .top, .top, .top, .top, .top, .top, .top, .top, .top, .top, .top, .top, .top, .top, .top, .top, .top, .top, .top, .top, .top, .top, .top, .top, .top, .top, .top, .top, .top, .top, .top, .top], [.gen [.int .i64 (0 : Int), .int .i64 (0 : Int), .nilslc] false 0, .gen [.int .i64 (0 : Int), .int .i64 (0 : Int), .nilslc] false 0]) | .inr x => (.normal, [.top, .top, .ptr 0 (0 : Nat) 0 (3 : Nat), .ptr 1 (0 : Nat) 0 (3 : Nat), .top, .ptr 2 (0 : Nat) 0 (3 : Nat), .ptr 3 (0 : Nat) 0 (3 : Nat), .top, .top, .top, .top, .top, .top, .top, .top, .top, .top, .top, .top, .top, .top, .top, .top, .top, .top, .top, .top, .top, .top, .top, .top, .top, .top, .top, .top, .top, .top, .top, .top, .top, .top, .top, .top, .top, .top, .top, .top, .top, .top, .top, .top, .top, .top, .top, .top, .top, .top, .top, .top, .top, .top, .top, .top, .top, .top, .top, .top, .top, .top, .top, .top, .top, .top, .top, .top, .top, .top, .top, .top, .top, .top, .top, .top, .top, .top, .top, .top, .top, .top, .top, .top, .top, .top, .top, .top, .top, .top, .top, .top, .top, .top, .top, .top, .top, .top, .top, .top], [.gen [.int .i64 (0 : Int), .int .i64 (0 : Int), .nilslc] false 0, .gen [.int .i64 (0 : Int), .int .i64 (0 : Int), .nilslc] false 0, .gen [.int .i64 v2451, .int .i64 v2452, .own 4 0 ((x.1).length)] false 0, .gen [.int .i64 v2453, .int .i64 v2454, .own 5 0 ((x.2).length)] false 0, .row (.f32 x.1) 0, .row (.f32 x.2) 0]))
def impl_MirrorFactor_l0_kill : List Nat := [1, 0, 0, 0, 1, 0, 0, 1, 1, 1, 1, 1, 1, 1, 1, 1, 1, 1, 1, 1, 1, 1, 1, 1, 1, 1, 1, 1, 1, 0, 0, 1, 1, 1, 1, 1, 1, 1, 1, 1, 1, 1, 1, 1, 1, 1, 1, 1, 1, 1, 1, 1, 1, 1, 1, 1, 1, 1, 1, 1, 1, 1, 1, 1, 1, 1, 1, 1, 1, 1, 1, 1, 1, 1, 1, 1, 1, 1, 1, 1, 1, 1, 1, 1, 1, 1, 1, 1, 1, 1, 1, 1, 1, 1, 1, 1, 1, 1, 1, 1, 1, 1, 1, 1, 1, 1, 1]
def impl_MirrorFactor_l0_nx : Exit → List Nat
  | .exit 0 => [1, 1, 0, 0, 1, 0, 0, 1, 1, 1, 1, 1, 1, 1, 1, 1, 1, 1, 1, 1, 1, 1, 1, 1, 1, 1, 1, 1, 1, 1, 1, 1, 1, 1, 1, 1, 1, 1, 1, 1, 1, 1, 1, 1, 1, 1, 1, 1, 1, 1, 1, 1, 1, 1, 1, 1, 1, 1, 1, 1, 1, 1, 1, 1, 1, 1, 1, 1, 1, 1, 1, 1, 1, 1, 1, 1, 1, 1, 1, 1, 1, 1, 1, 1, 1, 1, 1, 1, 1, 1, 1, 1, 1, 1, 1, 1, 1, 1, 1, 1, 1, 1, 1, 1, 1, 1, 1]
  | .ret => [1, 1, 0, 0, 0, 1, 1, 1, 1, 1, 1, 1, 1, 1, 1, 1, 1, 1, 1, 1, 1, 1, 1, 1, 1, 1, 1, 1, 1, 1, 1, 1, 1, 1, 1, 1, 1, 1, 1, 1, 1, 1, 1, 1, 1, 1, 1, 1, 1, 1, 1, 1, 1, 1, 1, 1, 1, 1, 1, 1, 1, 1, 1, 1, 1, 1, 1, 1, 1, 1, 1, 1, 1, 1, 1, 1, 1, 1, 1, 1, 1, 1, 1, 1, 1, 1, 1, 1, 1, 1, 1, 1, 1, 1, 1, 1, 1, 1, 1, 1, 1, 1, 1, 1, 1, 1, 1]
  | _ => []
noncomputable def impl_MirrorFactor_LO (v1933 : Int) (v1934 : Int) (v1935 : List Nat) : LOr := fun id e L =>
  match id with
  | 4 => .need (normA 0 impl_MirrorFactor_l4_kill e L = some (impl_MirrorFactor_l4_E v1933 v1934 v1935 (gI (vAt e 7)) (gI (vAt e 36)) (gI (cAt L (vAt e 5) 0)) (gI (cAt L (vAt e 5) 1)) (gI (cAt L (vAt e 6) 0)) (gI (cAt L (vAt e 6) 1)) (gRF L (cAt L (vAt e 5) 2)) ((gI (vAt e 39)), (gRF L (vAt e 8)), (gRF L (cAt L (vAt e 6) 2))))) (.call (impl_MirrorFactor_l4_g (gI (vAt e 7)) (gI (vAt e 36)) (gI (cAt L (vAt e 5) 0)) (gI (cAt L (vAt e 5) 1)) (gI (cAt L (vAt e 6) 0)) (gI (cAt L (vAt e 6) 1)) (gRF L (cAt L (vAt e 5) 2)) ((gI (vAt e 39)), (gRF L (vAt e 8)), (gRF L (cAt L (vAt e 6) 2)))) fun x => .leaf (impl_MirrorFactor_l4_X v1933 v1934 v1935 (gI (vAt e 7)) (gI (vAt e 36)) (gI (cAt L (vAt e 5) 0)) (gI (cAt L (vAt e 5) 1)) (gI (cAt L (vAt e 6) 0)) (gI (cAt L (vAt e 6) 1)) (gRF L (cAt L (vAt e 5) 2)) x))
  | 2 => .need (normA 0 impl_MirrorFactor_l2_kill e L = some (impl_MirrorFactor_l2_E v1933 v1934 v1935 (gI (vAt e 7)) (gI (cAt L (vAt e 5) 0)) (gI (cAt L (vAt e 5) 1)) (gI (cAt L (vAt e 6) 0)) (gI (cAt L (vAt e 6) 1)) (gRF L (cAt L (vAt e 5) 2)) ((gI (vAt e 36)), (gRF L (vAt e 8)), (gRF L (cAt L (vAt e 6) 2))))) (.call (impl_MirrorFactor_l2_g v1933 v1934 v1935 (gI (vAt e 7)) (gI (cAt L (vAt e 5) 0)) (gI (cAt L (vAt e 5) 1)) (gI (cAt L (vAt e 6) 0)) (gI (cAt L (vAt e 6) 1)) (gRF L (cAt L (vAt e 5) 2)) ((gI (vAt e 36)), (gRF L (vAt e 8)), (gRF L (cAt L (vAt e 6) 2)))) fun x => .leaf (impl_MirrorFactor_l2_X v1933 v1934 v1935 (gI (vAt e 7)) (gI (cAt L (vAt e 5) 0)) (gI (cAt L (vAt e 5) 1)) (gI (cAt L (vAt e 6) 0)) (gI (cAt L (vAt e 6) 1)) (gRF L (cAt L (vAt e 5) 2)) x))
  | 6 => .need (normA 0 impl_MirrorFactor_l6_kill e L = some (impl_MirrorFactor_l6_E v1933 v1934 v1935 (gI (vAt e 7)) (gF (vAt e 11)) (gI (vAt e 78)) (gI (cAt L (vAt e 5) 0)) (gI (cAt L (vAt e 5) 1)) (gI (cAt L (vAt e 6) 0)) (gI (cAt L (vAt e 6) 1)) (gRF L (cAt L (vAt e 5) 2)) (gRF L (cAt L (vAt e 6) 2)) ((gI (vAt e 79)), (gRF L (vAt e 8))))) (.call (impl_MirrorFactor_l6_g (gI (vAt e 7)) (gF (vAt e 11)) (gI (vAt e 78)) (gI (cAt L (vAt e 5) 0)) (gI (cAt L (vAt e 5) 1)) (gI (cAt L (vAt e 6) 0)) (gI (cAt L (vAt e 6) 1)) (gRF L (cAt L (vAt e 5) 2)) (gRF L (cAt L (vAt e 6) 2)) ((gI (vAt e 79)), (gRF L (vAt e 8)))) fun x => .leaf (impl_MirrorFactor_l6_X v1933 v1934 v1935 (gI (vAt e 7)) (gF (vAt e 11)) (gI (vAt e 78)) (gI (cAt L (vAt e 5) 0)) (gI (cAt L (vAt e 5) 1)) (gI (cAt L (vAt e 6) 0)) (gI (cAt L (vAt e 6) 1)) (gRF L (cAt L (vAt e 5) 2)) (gRF L (cAt L (vAt e 6) 2)) x))
  | 0 => .need (normA 0 impl_MirrorFactor_l0_kill e L = some (impl_MirrorFactor_l0_E v1933 v1934 v1935 (gI (cAt L (vAt e 5) 0)) (gI (cAt L (vAt e 5) 1)) (gI (cAt L (vAt e 6) 0)) (gI (cAt L (vAt e 6) 1)) ((gI (vAt e 30)), (gRF L (cAt L (vAt e 5) 2)), (gRF L (cAt L (vAt e 6) 2))))) (.call (impl_MirrorFactor_l0_g v1933 v1934 v1935 (gI (cAt L (vAt e 5) 0)) (gI (cAt L (vAt e 5) 1)) (gI (cAt L (vAt e 6) 0)) (gI (cAt L (vAt e 6) 1)) ((gI (vAt e 30)), (gRF L (cAt L (vAt e 5) 2)), (gRF L (cAt L (vAt e 6) 2)))) fun x => .sum x (fun b0 => .leaf (impl_MirrorFactor_l0_X v1933 v1934 v1935 (gI (cAt L (vAt e 5) 0)) (gI (cAt L (vAt e 5) 1)) (gI (cAt L (vAt e 6) 0)) (gI (cAt L (vAt e 6) 1)) (.inl b0))) (fun c0 => .leaf (impl_MirrorFactor_l0_X v1933 v1934 v1935 (gI (cAt L (vAt e 5) 0)) (gI (cAt L (vAt e 5) 1)) (gI (cAt L (vAt e 6) 0)) (gI (cAt L (vAt e 6) 1)) (.inr c0))))
  | _ => .fail
noncomputable def impl_MirrorFactor_tab : List (FuncId × DFn × Bool) := [(116, impl_isTall_F, true), (117, impl_newMatrix_F, true), (81, impl_Matrix_column_F, true), (82, impl_dot_F, true), (64, impl_Matrix_at_F, true), (66, impl_Matrix_set_F, false), (107, impl_less_F, false), (118, impl_norm_F, true), (119, impl_Matrix_setColumn_F, false), (67, impl_ValidMatrix_F, true)]
theorem impl_MirrorFactor_hO : OrcOk Try.prog (tabD impl_MirrorFactor_tab) (tabM impl_MirrorFactor_tab) := tabD_cons impl_isTall_Fok (tabD_cons impl_newMatrix_Fok (tabD_cons impl_Matrix_column_Fok (tabD_cons impl_dot_Fok (tabD_cons impl_Matrix_at_Fok (tabD_cons impl_Matrix_set_Fok (tabD_cons impl_less_Fok (tabD_cons impl_norm_Fok (tabD_cons impl_Matrix_setColumn_Fok (tabD_cons impl_ValidMatrix_Fok (tabD_nil _))))))))))
theorem impl_MirrorFactor_l4_be (v1933 : Int) (v1934 : Int) (v1935 : List Nat) (v2615 : Int) (v2616 : Int) (v2618 : Int) (v2619 : Int) (v2620 : Int) (v2621 : Int) (v2623 : List Nat) (s : Int × (List Nat) × (List Nat)) : bodyT TT (tabD impl_MirrorFactor_tab) (tabM impl_MirrorFactor_tab) (impl_MirrorFactor_LO v1933 v1934 v1935) 0 impl_MirrorFactor_l4_kill impl_MirrorFactor_l4_nx (bodyOf Try.f51 4) 4 (impl_MirrorFactor_l4_E v1933 v1934 v1935 v2615 v2616 v2618 v2619 v2620 v2621 v2623 s) = (impl_MirrorFactor_l4_T v2615 v2616 v2618 v2619 v2620 v2621 v2623 s).bind fun y => .leaf (outS (impl_MirrorFactor_l4_E v1933 v1934 v1935 v2615 v2616 v2618 v2619 v2620 v2621 v2623) (impl_MirrorFactor_l4_X v1933 v1934 v1935 v2615 v2616 v2618 v2619 v2620 v2621 v2623) y) := by kernel_rfl
theorem impl_MirrorFactor_l4_ok (v1933 : Int) (v1934 : Int) (v1935 : List Nat) : LSound Try.prog 0 (impl_MirrorFactor_LO v1933 v1934 v1935) 4 (bodyOf Try.f51 4) := by
  intro e L out h
  exact lo_ok (E := impl_MirrorFactor_l4_E v1933 v1934 v1935 (gI (vAt e 7)) (gI (vAt e 36)) (gI (cAt L (vAt e 5) 0)) (gI (cAt L (vAt e 5) 1)) (gI (cAt L (vAt e 6) 0)) (gI (cAt L (vAt e 6) 1)) (gRF L (cAt L (vAt e 5) 2))) (gT := impl_MirrorFactor_l4_T (gI (vAt e 7)) (gI (vAt e 36)) (gI (cAt L (vAt e 5) 0)) (gI (cAt L (vAt e 5) 1)) (gI (cAt L (vAt e 6) 0)) (gI (cAt L (vAt e 6) 1)) (gRF L (cAt L (vAt e 5) 2))) (X := impl_MirrorFactor_l4_X v1933 v1934 v1935 (gI (vAt e 7)) (gI (vAt e 36)) (gI (cAt L (vAt e 5) 0)) (gI (cAt L (vAt e 5) 1)) (gI (cAt L (vAt e 6) 0)) (gI (cAt L (vAt e 6) 1)) (gRF L (cAt L (vAt e 5) 2))) (s0 := ((gI (vAt e 39)), (gRF L (vAt e 8)), (gRF L (cAt L (vAt e 6) 2)))) tok impl_MirrorFactor_hO mixed (LoopsOk_eq (l := []) (by kernel_rfl) trivial) (impl_MirrorFactor_l4_be v1933 v1934 v1935 (gI (vAt e 7)) (gI (vAt e 36)) (gI (cAt L (vAt e 5) 0)) (gI (cAt L (vAt e 5) 1)) (gI (cAt L (vAt e 6) 0)) (gI (cAt L (vAt e 6) 1)) (gRF L (cAt L (vAt e 5) 2))) rfl (by intro x; rfl) h
theorem impl_MirrorFactor_l2_be (v1933 : Int) (v1934 : Int) (v1935 : List Nat) (v2574 : Int) (v2576 : Int) (v2577 : Int) (v2578 : Int) (v2579 : Int) (v2581 : List Nat) (s : Int × (List Nat) × (List Nat)) : bodyT TT (tabD impl_MirrorFactor_tab) (tabM impl_MirrorFactor_tab) (impl_MirrorFactor_LO v1933 v1934 v1935) 0 impl_MirrorFactor_l2_kill impl_MirrorFactor_l2_nx (bodyOf Try.f51 2) 2 (impl_MirrorFactor_l2_E v1933 v1934 v1935 v2574 v2576 v2577 v2578 v2579 v2581 s) = (impl_MirrorFactor_l2_T v1933 v1934 v1935 v2574 v2576 v2577 v2578 v2579 v2581 s).bind fun y => .leaf (outS (impl_MirrorFactor_l2_E v1933 v1934 v1935 v2574 v2576 v2577 v2578 v2579 v2581) (impl_MirrorFactor_l2_X v1933 v1934 v1935 v2574 v2576 v2577 v2578 v2579 v2581) y) := by kernel_rfl
theorem impl_MirrorFactor_l2_ok (v1933 : Int) (v1934 : Int) (v1935 : List Nat) : LSound Try.prog 0 (impl_MirrorFactor_LO v1933 v1934 v1935) 2 (bodyOf Try.f51 2) := by
  intro e L out h
  exact lo_ok (E := impl_MirrorFactor_l2_E v1933 v1934 v1935 (gI (vAt e 7)) (gI (cAt L (vAt e 5) 0)) (gI (cAt L (vAt e 5) 1)) (gI (cAt L (vAt e 6) 0)) (gI (cAt L (vAt e 6) 1)) (gRF L (cAt L (vAt e 5) 2))) (gT := impl_MirrorFactor_l2_T v1933 v1934 v1935 (gI (vAt e 7)) (gI (cAt L (vAt e 5) 0)) (gI (cAt L (vAt e 5) 1)) (gI (cAt L (vAt e 6) 0)) (gI (cAt L (vAt e 6) 1)) (gRF L (cAt L (vAt e 5) 2))) (X := impl_MirrorFactor_l2_X v1933 v1934 v1935 (gI (vAt e 7)) (gI (cAt L (vAt e 5) 0)) (gI (cAt L (vAt e 5) 1)) (gI (cAt L (vAt e 6) 0)) (gI (cAt L (vAt e 6) 1)) (gRF L (cAt L (vAt e 5) 2))) (s0 := ((gI (vAt e 36)), (gRF L (vAt e 8)), (gRF L (cAt L (vAt e 6) 2)))) tok impl_MirrorFactor_hO mixed (LoopsOk_eq (l := [(4, bodyOf Try.f51 4)]) (by kernel_rfl) ⟨impl_MirrorFactor_l4_ok v1933 v1934 v1935, trivial⟩) (impl_MirrorFactor_l2_be v1933 v1934 v1935 (gI (vAt e 7)) (gI (cAt L (vAt e 5) 0)) (gI (cAt L (vAt e 5) 1)) (gI (cAt L (vAt e 6) 0)) (gI (cAt L (vAt e 6) 1)) (gRF L (cAt L (vAt e 5) 2))) rfl (by intro x; rfl) h
theorem impl_MirrorFactor_l6_be (v1933 : Int) (v1934 : Int) (v1935 : List Nat) (v2657 : Int) (v2658 : Nat) (v2659 : Int) (v2661 : Int) (v2662 : Int) (v2663 : Int) (v2664 : Int) (v2666 : List Nat) (v2667 : List Nat) (s : Int × (List Nat)) : bodyT TT (tabD impl_MirrorFactor_tab) (tabM impl_MirrorFactor_tab) (impl_MirrorFactor_LO v1933 v1934 v1935) 0 impl_MirrorFactor_l6_kill impl_MirrorFactor_l6_nx (bodyOf Try.f51 6) 6 (impl_MirrorFactor_l6_E v1933 v1934 v1935 v2657 v2658 v2659 v2661 v2662 v2663 v2664 v2666 v2667 s) = (impl_MirrorFactor_l6_T v2657 v2658 v2659 v2661 v2662 v2663 v2664 v2666 v2667 s).bind fun y => .leaf (outS (impl_MirrorFactor_l6_E v1933 v1934 v1935 v2657 v2658 v2659 v2661 v2662 v2663 v2664 v2666 v2667) (impl_MirrorFactor_l6_X v1933 v1934 v1935 v2657 v2658 v2659 v2661 v2662 v2663 v2664 v2666 v2667) y) := by kernel_rfl
theorem impl_MirrorFactor_l6_ok (v1933 : Int) (v1934 : Int) (v1935 : List Nat) : LSound Try.prog 0 (impl_MirrorFactor_LO v1933 v1934 v1935) 6 (bodyOf Try.f51 6) := by
  intro e L out h
  exact lo_ok (E := impl_MirrorFactor_l6_E v1933 v1934 v1935 (gI (vAt e 7)) (gF (vAt e 11)) (gI (vAt e 78)) (gI (cAt L (vAt e 5) 0)) (gI (cAt L (vAt e 5) 1)) (gI (cAt L (vAt e 6) 0)) (gI (cAt L (vAt e 6) 1)) (gRF L (cAt L (vAt e 5) 2)) (gRF L (cAt L (vAt e 6) 2))) (gT := impl_MirrorFactor_l6_T (gI (vAt e 7)) (gF (vAt e 11)) (gI (vAt e 78)) (gI (cAt L (vAt e 5) 0)) (gI (cAt L (vAt e 5) 1)) (gI (cAt L (vAt e 6) 0)) (gI (cAt L (vAt e 6) 1)) (gRF L (cAt L (vAt e 5) 2)) (gRF L (cAt L (vAt e 6) 2))) (X := impl_MirrorFactor_l6_X v1933 v1934 v1935 (gI (vAt e 7)) (gF (vAt e 11)) (gI (vAt e 78)) (gI (cAt L (vAt e 5) 0)) (gI (cAt L (vAt e 5) 1)) (gI (cAt L (vAt e 6) 0)) (gI (cAt L (vAt e 6) 1)) (gRF L (cAt L (vAt e 5) 2)) (gRF L (cAt L (vAt e 6) 2))) (s0 := ((gI (vAt e 79)), (gRF L (vAt e 8)))) tok impl_MirrorFactor_hO mixed (LoopsOk_eq (l := []) (by kernel_rfl) trivial) (impl_MirrorFactor_l6_be v1933 v1934 v1935 (gI (vAt e 7)) (gF (vAt e 11)) (gI (vAt e 78)) (gI (cAt L (vAt e 5) 0)) (gI (cAt L (vAt e 5) 1)) (gI (cAt L (vAt e 6) 0)) (gI (cAt L (vAt e 6) 1)) (gRF L (cAt L (vAt e 5) 2)) (gRF L (cAt L (vAt e 6) 2))) rfl (by intro x; rfl) h
theorem impl_MirrorFactor_l0_be (v1933 : Int) (v1934 : Int) (v1935 : List Nat) (v2451 : Int) (v2452 : Int) (v2453 : Int) (v2454 : Int) (s : Int × (List Nat) × (List Nat)) : bodyT TT (tabD impl_MirrorFactor_tab) (tabM impl_MirrorFactor_tab) (impl_MirrorFactor_LO v1933 v1934 v1935) 0 impl_MirrorFactor_l0_kill impl_MirrorFactor_l0_nx (bodyOf Try.f51 0) 0 (impl_MirrorFactor_l0_E v1933 v1934 v1935 v2451 v2452 v2453 v2454 s) = (impl_MirrorFactor_l0_T v1933 v1934 v1935 v2451 v2452 v2453 v2454 s).bind fun y => .leaf (outS (impl_MirrorFactor_l0_E v1933 v1934 v1935 v2451 v2452 v2453 v2454) (impl_MirrorFactor_l0_X v1933 v1934 v1935 v2451 v2452 v2453 v2454) y) := by kernel_rfl
theorem impl_MirrorFactor_l0_ok (v1933 : Int) (v1934 : Int) (v1935 : List Nat) : LSound Try.prog 0 (impl_MirrorFactor_LO v1933 v1934 v1935) 0 (bodyOf Try.f51 0) := by
  intro e L out h
  exact lo_ok (E := impl_MirrorFactor_l0_E v1933 v1934 v1935 (gI (cAt L (vAt e 5) 0)) (gI (cAt L (vAt e 5) 1)) (gI (cAt L (vAt e 6) 0)) (gI (cAt L (vAt e 6) 1))) (gT := impl_MirrorFactor_l0_T v1933 v1934 v1935 (gI (cAt L (vAt e 5) 0)) (gI (cAt L (vAt e 5) 1)) (gI (cAt L (vAt e 6) 0)) (gI (cAt L (vAt e 6) 1))) (X := impl_MirrorFactor_l0_X v1933 v1934 v1935 (gI (cAt L (vAt e 5) 0)) (gI (cAt L (vAt e 5) 1)) (gI (cAt L (vAt e 6) 0)) (gI (cAt L (vAt e 6) 1))) (s0 := ((gI (vAt e 30)), (gRF L (cAt L (vAt e 5) 2)), (gRF L (cAt L (vAt e 6) 2)))) tok impl_MirrorFactor_hO mixed (LoopsOk_eq (l := [(2, bodyOf Try.f51 2), (6, bodyOf Try.f51 6)]) (by kernel_rfl) ⟨impl_MirrorFactor_l2_ok v1933 v1934 v1935, impl_MirrorFactor_l6_ok v1933 v1934 v1935, trivial⟩) (impl_MirrorFactor_l0_be v1933 v1934 v1935 (gI (cAt L (vAt e 5) 0)) (gI (cAt L (vAt e 5) 1)) (gI (cAt L (vAt e 6) 0)) (gI (cAt L (vAt e 6) 1))) rfl (by intro x; (cases x with | inl b => rfl | inr x => exact rfl)) h
noncomputable def impl_MirrorFactor_T (v1933 : Int) (v1934 : Int) (v1935 : List Nat) : Tree ((Unit) ⊕ (Int × Int × Int × Int × (List Nat) × (List Nat))) :=
  (.call (impl_isTall_g v1933 v1934 v1935) fun v1945 =>
  (.br (!v1945) (
   .leaf (.inl ())
  ) (
   (.call (impl_newMatrix_g v1933 v1934) fun v1948 =>
   (.call (impl_newMatrix_g v1934 v1934) fun v1949 =>
   (.need (some (impl_MirrorFactor_l0_E v1933 v1934 v1935 v1948.1 v1948.2 v1949.1 v1949.2 ((0 : Int), List.replicate (Int.toNat (IntKind.i64.wrap (v1933 * v1934))) (0 : Nat), List.replicate (Int.toNat (IntKind.i64.wrap (v1934 * v1934))) (0 : Nat))) = some (impl_MirrorFactor_l0_E v1933 v1934 v1935 v1948.1 v1948.2 v1949.1 v1949.2 ((0 : Int), List.replicate (Int.toNat (IntKind.i64.wrap (v1933 * v1934))) (0 : Nat), List.replicate (Int.toNat (IntKind.i64.wrap (v1934 * v1934))) (0 : Nat)))) <|
   (.call (impl_MirrorFactor_l0_g v1933 v1934 v1935 v1948.1 v1948.2 v1949.1 v1949.2 ((0 : Int), List.replicate (Int.toNat (IntKind.i64.wrap (v1933 * v1934))) (0 : Nat), List.replicate (Int.toNat (IntKind.i64.wrap (v1934 * v1934))) (0 : Nat))) fun v2670 =>
   (.sum v2670 (fun v2671 =>
    .leaf (.inl ())
   ) (fun v2672 =>
    (.call (impl_ValidMatrix_g v1948.1 v1948.2 v2672.1) fun v2673 =>
    (.br (!v2673) (
     .leaf (.inl ())
    ) (
     (.call (impl_ValidMatrix_g v1949.1 v1949.2 v2672.2) fun v2674 =>
     (.br (!v2674) (
      .leaf (.inl ())
     ) (
      .leaf (.inr (v1948.1, v1948.2, v1949.1, v1949.2, v2672.1, v2672.2))
     )))
    )))
   ))))))
  )))

noncomputable def impl_MirrorFactor_g (v1933 : Int) (v1934 : Int) (v1935 : List Nat) : Option ((Unit) ⊕ (Int × Int × Int × Int × (List Nat) × (List Nat))) := (impl_MirrorFactor_T v1933 v1934 v1935).run
def impl_MirrorFactor_enc (v1933 : Int) (v1934 : Int) (v1935 : List Nat) (y : (Unit) ⊕ (Int × Int × Int × Int × (List Nat) × (List Nat))) : Rs := (match y with | .inl y => (.tup [.agg [.int .i64 (0 : Int), .int .i64 (0 : Int), .nilslc], .agg [.int .i64 (0 : Int), .int .i64 (0 : Int), .nilslc], .lit false], []) | .inr y => (.tup [.agg [.int .i64 y.1, .int .i64 y.2.1, .own 0 0 ((y.2.2.2.2.1).length)], .agg [.int .i64 y.2.2.1, .int .i64 y.2.2.2.1, .own 1 0 ((y.2.2.2.2.2).length)], .lit true], [.row (.f32 y.2.2.2.2.1) 0, .row (.f32 y.2.2.2.2.2) 0]))
theorem impl_MirrorFactor_den (v1933 : Int) (v1934 : Int) (v1935 : List Nat) : (den TT (tabD impl_MirrorFactor_tab) (tabM impl_MirrorFactor_tab) (impl_MirrorFactor_LO v1933 v1934 v1935) (codeOf Try.f51) ([.agg [.int .i64 v1933, .int .i64 v1934, .bslc (BR.root 0) (.f32 v1935)]] ++ List.replicate (Try.f51.ntmps - ([.agg [.int .i64 v1933, .int .i64 v1934, .bslc (BR.root 0) (.f32 v1935)]] : List DV).length) .undef) []).bind (retD TT Try.f51.results.toList 0) = (impl_MirrorFactor_T v1933 v1934 v1935).bind fun y => .leaf (impl_MirrorFactor_enc v1933 v1934 v1935 y) := by kernel_rfl
theorem impl_MirrorFactor_fn (v1933 : Int) (v1934 : Int) (v1935 : List Nat) (F : Fr) (hm : F.ids.length = 0) (h0 : St F [] F.H0) (hA : DVs.Ok F [] [.agg [.int .i64 v1933, .int .i64 v1934, .bslc (BR.root 0) (.f32 v1935)]]) {y : (Unit) ⊕ (Int × Int × Int × Int × (List Nat) × (List Nat))} (hy : impl_MirrorFactor_g v1933 v1934 v1935 = some y) : ∃ H', FnOk Try.prog 51 (DVs.av F [.agg [.int .i64 v1933, .int .i64 v1934, .bslc (BR.root 0) (.f32 v1935)]]) F.H0 ((impl_MirrorFactor_enc v1933 v1934 v1935 y).1.av F) H' ∧ St F (impl_MirrorFactor_enc v1933 v1934 v1935 y).2 H' ∧ (impl_MirrorFactor_enc v1933 v1934 v1935 y).1.Ok F (impl_MirrorFactor_enc v1933 v1934 v1935 y).2 :=
  fn_fin tok impl_MirrorFactor_hO mixed Try.func51 Try.call51 (by kernel_rfl) (LoopsOk_eq (l := [(0, bodyOf Try.f51 0)]) (by kernel_rfl) ⟨impl_MirrorFactor_l0_ok v1933 v1934 v1935, trivial⟩) (impl_MirrorFactor_den v1933 v1934 v1935) hy hm h0 hA
noncomputable def impl_MirrorFactor_F : DFn := fun args L =>
  match args with
  | [.agg [.int .i64 v1933, .int .i64 v1934, a1]] =>
    optT (rowF32 L a1) fun v1935 =>
    .call (impl_MirrorFactor_g v1933 v1934 v1935) fun y => .sum y (fun y0 => .leaf (.tup [.agg [.int .i64 (0 : Int), .int .i64 (0 : Int), .nilslc], .agg [.int .i64 (0 : Int), .int .i64 (0 : Int), .nilslc], .lit false], L)) (fun z0 => .leaf (.tup [.agg [.int .i64 z0.1, .int .i64 z0.2.1, .own (L.length + 0) 0 ((z0.2.2.2.2.1).length)], .agg [.int .i64 z0.2.2.1, .int .i64 z0.2.2.2.1, .own (L.length + 1) 0 ((z0.2.2.2.2.2).length)], .lit true], L ++ [.row (.f32 z0.2.2.2.2.1) 0, .row (.f32 z0.2.2.2.2.2) 0]))
  | _ => .fail
theorem impl_MirrorFactor_Fok : COk Try.prog 51 impl_MirrorFactor_F true := by
  intro F L H args r L' hs ha hr
  unfold impl_MirrorFactor_F at hr
  split at hr
  · rename_i v1933 v1934 a1
    obtain ⟨v1935, hv1935, hr⟩ := optT_run hr
    simp only [Tree.run] at hr
    obtain ⟨y, hy, hr⟩ := Option.bind_eq_some_iff.1 hr
    cases y with
    | inl y =>
      simp only [Tree.run, Option.some.injEq, Prod.mk.injEq] at hr
      obtain ⟨rfl, rfl⟩ := hr
      exact call_ok0 hs (fun k => (([a1.av F] : List AV)[k]?).getD .top) [.agg [.int .i64 v1933, .int .i64 v1934, a1]] [.agg [.int .i64 v1933, .int .i64 v1934, .bslc (BR.root 0) (.f32 v1935)]] (fun F' h0 hi hρ => ⟨by simp [DVs.av, DV.av, BR.av, hρ], impl_MirrorFactor_fn v1933 v1934 v1935 F' (by rw [hi]; rfl) (st_nil hi) ⟨⟨trivial, trivial, bslc_ok hi (by rw [h0, hρ]; exact rowF32_ok hs (DVs.okAt (DVs.okAt ha 0 rfl) 2 rfl) hv1935), trivial⟩, trivial⟩ hy⟩) rfl
    | inr y =>
      simp only [Tree.run, Option.some.injEq, Prod.mk.injEq] at hr
      obtain ⟨rfl, rfl⟩ := hr
      exact call_ok1 hs (fun k => (([a1.av F] : List AV)[k]?).getD .top) [.agg [.int .i64 v1933, .int .i64 v1934, a1]] [.agg [.int .i64 v1933, .int .i64 v1934, .bslc (BR.root 0) (.f32 v1935)]] (fun F' h0 hi hρ => ⟨by simp [DVs.av, DV.av, BR.av, hρ], impl_MirrorFactor_fn v1933 v1934 v1935 F' (by rw [hi]; rfl) (st_nil hi) ⟨⟨trivial, trivial, bslc_ok hi (by rw [h0, hρ]; exact rowF32_ok hs (DVs.okAt (DVs.okAt ha 0 rfl) 2 rfl) hv1935), trivial⟩, trivial⟩ hy⟩) rfl rfl
  · cases hr
/-! (impl.Matrix).flip$1 -/
noncomputable def impl_Matrix_flip_1_LO (v2694 : Int) (v2695 : Int) (v2696 : Int) (v2697 : Int) (v2698 : List Nat) : LOr := fun id e L =>
  match id with
  | _ => .fail
noncomputable def impl_Matrix_flip_1_tab : List (FuncId × DFn × Bool) := [(64, impl_Matrix_at_F, true)]
theorem impl_Matrix_flip_1_hO : OrcOk Try.prog (tabD impl_Matrix_flip_1_tab) (tabM impl_Matrix_flip_1_tab) := tabD_cons impl_Matrix_at_Fok (tabD_nil _)
noncomputable def impl_Matrix_flip_1_T (v2694 : Int) (v2695 : Int) (v2697 : Int) (v2698 : List Nat) : Tree (Nat) :=
  (.call (impl_Matrix_at_g v2697 v2698 v2695 v2694) fun v2699 =>
  .leaf v2699)

noncomputable def impl_Matrix_flip_1_g (v2694 : Int) (v2695 : Int) (v2697 : Int) (v2698 : List Nat) : Option (Nat) := (impl_Matrix_flip_1_T v2694 v2695 v2697 v2698).run
def impl_Matrix_flip_1_enc (v2694 : Int) (v2695 : Int) (v2696 : Int) (v2697 : Int) (v2698 : List Nat) (y : Nat) : Rs := (.flt .f32 y, [])
theorem impl_Matrix_flip_1_den (v2694 : Int) (v2695 : Int) (v2696 : Int) (v2697 : Int) (v2698 : List Nat) : (den TT (tabD impl_Matrix_flip_1_tab) (tabM impl_Matrix_flip_1_tab) (impl_Matrix_flip_1_LO v2694 v2695 v2696 v2697 v2698) (codeOf Try.f163) ([.int .i64 v2694, .int .i64 v2695, .bptr (BR.root 0) [.int .i64 v2696, .int .i64 v2697, .bslc (BR.root 1) (.f32 v2698)]] ++ List.replicate (Try.f163.ntmps - ([.int .i64 v2694, .int .i64 v2695, .bptr (BR.root 0) [.int .i64 v2696, .int .i64 v2697, .bslc (BR.root 1) (.f32 v2698)]] : List DV).length) .undef) []).bind (retD TT Try.f163.results.toList 0) = (impl_Matrix_flip_1_T v2694 v2695 v2697 v2698).bind fun y => .leaf (impl_Matrix_flip_1_enc v2694 v2695 v2696 v2697 v2698 y) := by kernel_rfl
theorem impl_Matrix_flip_1_fn (v2694 : Int) (v2695 : Int) (v2696 : Int) (v2697 : Int) (v2698 : List Nat) (F : Fr) (hm : F.ids.length = 0) (h0 : St F [] F.H0) (hA : DVs.Ok F [] [.int .i64 v2694, .int .i64 v2695, .bptr (BR.root 0) [.int .i64 v2696, .int .i64 v2697, .bslc (BR.root 1) (.f32 v2698)]]) {y : Nat} (hy : impl_Matrix_flip_1_g v2694 v2695 v2697 v2698 = some y) : ∃ H', FnOk Try.prog 163 (DVs.av F [.int .i64 v2694, .int .i64 v2695, .bptr (BR.root 0) [.int .i64 v2696, .int .i64 v2697, .bslc (BR.root 1) (.f32 v2698)]]) F.H0 ((impl_Matrix_flip_1_enc v2694 v2695 v2696 v2697 v2698 y).1.av F) H' ∧ St F (impl_Matrix_flip_1_enc v2694 v2695 v2696 v2697 v2698 y).2 H' ∧ (impl_Matrix_flip_1_enc v2694 v2695 v2696 v2697 v2698 y).1.Ok F (impl_Matrix_flip_1_enc v2694 v2695 v2696 v2697 v2698 y).2 :=
  fn_fin tok impl_Matrix_flip_1_hO mixed Try.func163 Try.call163 (by kernel_rfl) (LoopsOk_eq (l := []) (by kernel_rfl) trivial) (impl_Matrix_flip_1_den v2694 v2695 v2696 v2697 v2698) hy hm h0 hA
noncomputable def impl_Matrix_flip_1_F : DFn := fun args L =>
  match args with
  | [.int .i64 v2694, .int .i64 v2695, a1] =>
    optT (cellsOf L 3 a1) fun cs0 =>
    (match cs0 with
    | [.int .i64 v2696, .int .i64 v2697, a2] =>
    optT (rowF32 L a2) fun v2698 =>
    .call (impl_Matrix_flip_1_g v2694 v2695 v2697 v2698) fun y => .leaf (.flt .f32 y, L)
    | _ => .fail)
  | _ => .fail
theorem impl_Matrix_flip_1_Fok : COk Try.prog 163 impl_Matrix_flip_1_F true := by
  intro F L H args r L' hs ha hr
  unfold impl_Matrix_flip_1_F at hr
  split at hr
  · rename_i v2694 v2695 a1
    obtain ⟨cs0, hcp0, hr⟩ := optT_run hr
    split at hr
    · rename_i v2696 v2697 a2
      obtain ⟨v2698, hv2698, hr⟩ := optT_run hr
      simp only [Tree.run] at hr
      obtain ⟨y, hy, hr⟩ := Option.bind_eq_some_iff.1 hr
      simp only [Tree.run, Option.some.injEq, Prod.mk.injEq] at hr
      obtain ⟨rfl, rfl⟩ := hr
      exact call_ok0 hs (fun k => (([a1.av F, a2.av F] : List AV)[k]?).getD .top) [.int .i64 v2694, .int .i64 v2695, a1] [.int .i64 v2694, .int .i64 v2695, .bptr (BR.root 0) [.int .i64 v2696, .int .i64 v2697, .bslc (BR.root 1) (.f32 v2698)]] (fun F' h0 hi hρ => ⟨by simp [DVs.av, DV.av, BR.av, hρ], impl_Matrix_flip_1_fn v2694 v2695 v2696 v2697 v2698 F' (by rw [hi]; rfl) (st_nil hi) ⟨trivial, trivial, bptr_ok hi (by rw [h0]; simpa [DVs.av, DV.av, BR.av, hρ] using (cellsOf_ok hs (DVs.okAt ha 2 rfl) hcp0).1) ⟨trivial, trivial, bslc_ok hi (by rw [h0, hρ]; exact rowF32_ok hs (DVs.okAt (cellsOf_ok hs (DVs.okAt ha 2 rfl) hcp0).2 2 rfl) hv2698), trivial⟩, trivial⟩ hy⟩) rfl
    · cases hr
  · cases hr
/-! impl.made -/
noncomputable def impl_made_l2_T (v2682 : Int) (v2684 : Int) (v2685 : List Nat) (v2761 : Int) (v2763 : Int) (v2764 : Int) (s : Int × (List Nat)) : Tree ((Int × (List Nat)) ⊕ ((List Nat))) :=
  (.br (decide (s.1 < v2682)) (
   (.call (impl_Matrix_flip_1_g v2761 s.1 v2684 v2685) fun v2766 =>
   (.call (impl_Matrix_set_g v2764 s.2 v2761 s.1) fun v2767 =>
   (.grd (decide ((List.set s.2 (Int.toNat (IntKind.i64.wrap ((IntKind.i64.wrap (v2761 * v2764)) + s.1))) v2766).length = s.2.length)) <|
   .leaf (.inl (IntKind.i64.wrap (s.1 + (1 : Int)), List.set s.2 (Int.toNat (IntKind.i64.wrap ((IntKind.i64.wrap (v2761 * v2764)) + s.1))) v2766)))))
  ) (
   .leaf (.inr s.2)
  ))

noncomputable def impl_made_l2_g (v2682 : Int) (v2684 : Int) (v2685 : List Nat) (v2761 : Int) (v2763 : Int) (v2764 : Int) (s0 : Int × (List Nat)) : Option ((List Nat)) := whileM (fun s => (impl_made_l2_T v2682 v2684 v2685 v2761 v2763 v2764 s).run) s0
def impl_made_l2_E (v2681 : Int) (v2682 : Int) (v2683 : Int) (v2684 : Int) (v2685 : List Nat) (v2761 : Int) (v2763 : Int) (v2764 : Int) (s : Int × (List Nat)) : Sd := ([.top, .int .i64 v2682, .fn 163 [.bptr (BR.root 0) [.int .i64 v2683, .int .i64 v2684, .bslc (BR.root 1) (.f32 v2685)]], .top, .top, .top, .ptr 0 (0 : Nat) 0 (3 : Nat), .ptr 1 (0 : Nat) 0 (3 : Nat), .int .i64 v2761, .top, .top, .top, .top, .int .i64 v2681, .int .i64 v2761, .top, .top, .int .i64 v2682, .int .i64 s.1, .top, .top, .top, .top, .top, .top, .top, .top, .top, .top, .top, .top, .top], [.gen [.int .i64 (0 : Int), .int .i64 (0 : Int), .nilslc] false 0, .gen [.int .i64 v2763, .int .i64 v2764, .own 2 0 ((s.2).length)] false 0, .row (.f32 s.2) 0])
def impl_made_l2_X (v2681 : Int) (v2682 : Int) (v2683 : Int) (v2684 : Int) (v2685 : List Nat) (v2761 : Int) (v2763 : Int) (v2764 : Int) (x : (List Nat)) : Out := (.normal, [.top, .int .i64 v2682, .fn 163 [.bptr (BR.root 0) [.int .i64 v2683, .int .i64 v2684, .bslc (BR.root 1) (.f32 v2685)]], .top, .top, .top, .ptr 0 (0 : Nat) 0 (3 : Nat), .ptr 1 (0 : Nat) 0 (3 : Nat), .top, .top, .top, .top, .top, .int .i64 v2681, .int .i64 v2761, .top, .top, .top, .top, .top, .top, .top, .top, .top, .top, .top, .top, .top, .top, .top, .top, .top], [.gen [.int .i64 (0 : Int), .int .i64 (0 : Int), .nilslc] false 0, .gen [.int .i64 v2763, .int .i64 v2764, .own 2 0 ((x).length)] false 0, .row (.f32 x) 0])
def impl_made_l2_kill : List Nat := [1, 0, 0, 1, 1, 1, 0, 0, 0, 1, 1, 1, 1, 0, 0, 1, 1, 0, 0, 1, 1, 1, 1, 1, 1, 1, 1, 1, 1, 1, 1, 1]
def impl_made_l2_nx : Exit → List Nat
  | .exit 0 => [1, 1, 1, 1, 1, 1, 0, 0, 1, 1, 1, 1, 1, 1, 1, 1, 1, 1, 1, 1, 1, 1, 1, 1, 1, 1, 1, 1, 1, 1, 1, 1]
  | .exit 1 => [1, 0, 0, 1, 1, 1, 0, 0, 1, 1, 1, 1, 1, 0, 0, 1, 1, 1, 1, 1, 1, 1, 1, 1, 1, 1, 1, 1, 1, 1, 1, 1]
  | .exit 2 => [1, 0, 0, 1, 1, 1, 0, 0, 1, 1, 1, 1, 1, 0, 0, 1, 1, 1, 1, 1, 1, 1, 1, 1, 1, 1, 1, 1, 1, 1, 1, 1]
  | .ret => [1, 1, 1, 1, 1, 1, 0, 1, 1, 1, 1, 1, 1, 1, 1, 1, 1, 1, 1, 1, 1, 1, 1, 1, 1, 1, 1, 1, 1, 1, 1, 1]
  | _ => []
noncomputable def impl_made_l0_T (v2681 : Int) (v2682 : Int) (v2683 : Int) (v2684 : Int) (v2685 : List Nat) (v2744 : Int) (v2745 : Int) (s : Int × (List Nat)) : Tree ((Int × (List Nat)) ⊕ ((List Nat))) :=
  (.br (decide (s.1 < v2681)) (
   (.need (some (impl_made_l2_E v2681 v2682 v2683 v2684 v2685 s.1 v2744 v2745 ((0 : Int), s.2)) = some (impl_made_l2_E v2681 v2682 v2683 v2684 v2685 s.1 v2744 v2745 ((0 : Int), s.2))) <|
   (.call (impl_made_l2_g v2682 v2684 v2685 s.1 v2744 v2745 ((0 : Int), s.2)) fun v2768 =>
   .leaf (.inl (IntKind.i64.wrap (s.1 + (1 : Int)), v2768))))
  ) (
   .leaf (.inr s.2)
  ))

noncomputable def impl_made_l0_g (v2681 : Int) (v2682 : Int) (v2683 : Int) (v2684 : Int) (v2685 : List Nat) (v2744 : Int) (v2745 : Int) (s0 : Int × (List Nat)) : Option ((List Nat)) := whileM (fun s => (impl_made_l0_T v2681 v2682 v2683 v2684 v2685 v2744 v2745 s).run) s0
def impl_made_l0_E (v2681 : Int) (v2682 : Int) (v2683 : Int) (v2684 : Int) (v2685 : List Nat) (v2744 : Int) (v2745 : Int) (s : Int × (List Nat)) : Sd := ([.top, .int .i64 v2682, .fn 163 [.bptr (BR.root 0) [.int .i64 v2683, .int .i64 v2684, .bslc (BR.root 1) (.f32 v2685)]], .top, .top, .top, .ptr 0 (0 : Nat) 0 (3 : Nat), .ptr 1 (0 : Nat) 0 (3 : Nat), .top, .top, .top, .top, .top, .int .i64 v2681, .int .i64 s.1, .top, .top, .top, .top, .top, .top, .top, .top, .top, .top, .top, .top, .top, .top, .top, .top, .top], [.gen [.int .i64 (0 : Int), .int .i64 (0 : Int), .nilslc] false 0, .gen [.int .i64 v2744, .int .i64 v2745, .own 2 0 ((s.2).length)] false 0, .row (.f32 s.2) 0])
def impl_made_l0_X (v2681 : Int) (v2682 : Int) (v2683 : Int) (v2684 : Int) (v2685 : List Nat) (v2744 : Int) (v2745 : Int) (x : (List Nat)) : Out := (.normal, [.top, .top, .top, .top, .top, .top, .ptr 0 (0 : Nat) 0 (3 : Nat), .ptr 1 (0 : Nat) 0 (3 : Nat), .top, .top, .top, .top, .top, .top, .top, .top, .top, .top, .top, .top, .top, .top, .top, .top, .top, .top, .top, .top, .top, .top, .top, .top], [.gen [.int .i64 (0 : Int), .int .i64 (0 : Int), .nilslc] false 0, .gen [.int .i64 v2744, .int .i64 v2745, .own 2 0 ((x).length)] false 0, .row (.f32 x) 0])
def impl_made_l0_kill : List Nat := [1, 0, 0, 1, 1, 1, 0, 0, 1, 1, 1, 1, 1, 0, 0, 1, 1, 1, 1, 1, 1, 1, 1, 1, 1, 1, 1, 1, 1, 1, 1, 1]
def impl_made_l0_nx : Exit → List Nat
  | .exit 0 => [1, 1, 1, 1, 1, 1, 0, 0, 1, 1, 1, 1, 1, 1, 1, 1, 1, 1, 1, 1, 1, 1, 1, 1, 1, 1, 1, 1, 1, 1, 1, 1]
  | .ret => [1, 1, 1, 1, 1, 1, 0, 1, 1, 1, 1, 1, 1, 1, 1, 1, 1, 1, 1, 1, 1, 1, 1, 1, 1, 1, 1, 1, 1, 1, 1, 1]
  | _ => []
noncomputable def impl_made_LO (v2681 : Int) (v2682 : Int) (v2683 : Int) (v2684 : Int) (v2685 : List Nat) : LOr := fun id e L =>
  match id with
  | 2 => .need (normA 0 impl_made_l2_kill e L = some (impl_made_l2_E v2681 v2682 v2683 v2684 v2685 (gI (vAt e 8)) (gI (cAt L (vAt e 7) 0)) (gI (cAt L (vAt e 7) 1)) ((gI (vAt e 18)), (gRF L (cAt L (vAt e 7) 2))))) (.call (impl_made_l2_g v2682 v2684 v2685 (gI (vAt e 8)) (gI (cAt L (vAt e 7) 0)) (gI (cAt L (vAt e 7) 1)) ((gI (vAt e 18)), (gRF L (cAt L (vAt e 7) 2)))) fun x => .leaf (impl_made_l2_X v2681 v2682 v2683 v2684 v2685 (gI (vAt e 8)) (gI (cAt L (vAt e 7) 0)) (gI (cAt L (vAt e 7) 1)) x))
  | 0 => .need (normA 0 impl_made_l0_kill e L = some (impl_made_l0_E v2681 v2682 v2683 v2684 v2685 (gI (cAt L (vAt e 7) 0)) (gI (cAt L (vAt e 7) 1)) ((gI (vAt e 14)), (gRF L (cAt L (vAt e 7) 2))))) (.call (impl_made_l0_g v2681 v2682 v2683 v2684 v2685 (gI (cAt L (vAt e 7) 0)) (gI (cAt L (vAt e 7) 1)) ((gI (vAt e 14)), (gRF L (cAt L (vAt e 7) 2)))) fun x => .leaf (impl_made_l0_X v2681 v2682 v2683 v2684 v2685 (gI (cAt L (vAt e 7) 0)) (gI (cAt L (vAt e 7) 1)) x))
  | _ => .fail
noncomputable def impl_made_tab : List (FuncId × DFn × Bool) := [(117, impl_newMatrix_F, true), (163, impl_Matrix_flip_1_F, true), (66, impl_Matrix_set_F, false)]
theorem impl_made_hO : OrcOk Try.prog (tabD impl_made_tab) (tabM impl_made_tab) := tabD_cons impl_newMatrix_Fok (tabD_cons impl_Matrix_flip_1_Fok (tabD_cons impl_Matrix_set_Fok (tabD_nil _)))
theorem impl_made_l2_be (v2681 : Int) (v2682 : Int) (v2683 : Int) (v2684 : Int) (v2685 : List Nat) (v2761 : Int) (v2763 : Int) (v2764 : Int) (s : Int × (List Nat)) : bodyT TT (tabD impl_made_tab) (tabM impl_made_tab) (impl_made_LO v2681 v2682 v2683 v2684 v2685) 0 impl_made_l2_kill impl_made_l2_nx (bodyOf Try.f78 2) 2 (impl_made_l2_E v2681 v2682 v2683 v2684 v2685 v2761 v2763 v2764 s) = (impl_made_l2_T v2682 v2684 v2685 v2761 v2763 v2764 s).bind fun y => .leaf (outS (impl_made_l2_E v2681 v2682 v2683 v2684 v2685 v2761 v2763 v2764) (impl_made_l2_X v2681 v2682 v2683 v2684 v2685 v2761 v2763 v2764) y) := by kernel_rfl
theorem impl_made_l2_ok (v2681 : Int) (v2682 : Int) (v2683 : Int) (v2684 : Int) (v2685 : List Nat) : LSound Try.prog 0 (impl_made_LO v2681 v2682 v2683 v2684 v2685) 2 (bodyOf Try.f78 2) := by
  intro e L out h
  exact lo_ok (E := impl_made_l2_E v2681 v2682 v2683 v2684 v2685 (gI (vAt e 8)) (gI (cAt L (vAt e 7) 0)) (gI (cAt L (vAt e 7) 1))) (gT := impl_made_l2_T v2682 v2684 v2685 (gI (vAt e 8)) (gI (cAt L (vAt e 7) 0)) (gI (cAt L (vAt e 7) 1))) (X := impl_made_l2_X v2681 v2682 v2683 v2684 v2685 (gI (vAt e 8)) (gI (cAt L (vAt e 7) 0)) (gI (cAt L (vAt e 7) 1))) (s0 := ((gI (vAt e 18)), (gRF L (cAt L (vAt e 7) 2)))) tok impl_made_hO mixed (LoopsOk_eq (l := []) (by kernel_rfl) trivial) (impl_made_l2_be v2681 v2682 v2683 v2684 v2685 (gI (vAt e 8)) (gI (cAt L (vAt e 7) 0)) (gI (cAt L (vAt e 7) 1))) rfl (by intro x; rfl) h
theorem impl_made_l0_be (v2681 : Int) (v2682 : Int) (v2683 : Int) (v2684 : Int) (v2685 : List Nat) (v2744 : Int) (v2745 : Int) (s : Int × (List Nat)) : bodyT TT (tabD impl_made_tab) (tabM impl_made_tab) (impl_made_LO v2681 v2682 v2683 v2684 v2685) 0 impl_made_l0_kill impl_made_l0_nx (bodyOf Try.f78 0) 0 (impl_made_l0_E v2681 v2682 v2683 v2684 v2685 v2744 v2745 s) = (impl_made_l0_T v2681 v2682 v2683 v2684 v2685 v2744 v2745 s).bind fun y => .leaf (outS (impl_made_l0_E v2681 v2682 v2683 v2684 v2685 v2744 v2745) (impl_made_l0_X v2681 v2682 v2683 v2684 v2685 v2744 v2745) y) := by kernel_rfl
theorem impl_made_l0_ok (v2681 : Int) (v2682 : Int) (v2683 : Int) (v2684 : Int) (v2685 : List Nat) : LSound Try.prog 0 (impl_made_LO v2681 v2682 v2683 v2684 v2685) 0 (bodyOf Try.f78 0) := by
  intro e L out h
  exact lo_ok (E := impl_made_l0_E v2681 v2682 v2683 v2684 v2685 (gI (cAt L (vAt e 7) 0)) (gI (cAt L (vAt e 7) 1))) (gT := impl_made_l0_T v2681 v2682 v2683 v2684 v2685 (gI (cAt L (vAt e 7) 0)) (gI (cAt L (vAt e 7) 1))) (X := impl_made_l0_X v2681 v2682 v2683 v2684 v2685 (gI (cAt L (vAt e 7) 0)) (gI (cAt L (vAt e 7) 1))) (s0 := ((gI (vAt e 14)), (gRF L (cAt L (vAt e 7) 2)))) tok impl_made_hO mixed (LoopsOk_eq (l := [(2, bodyOf Try.f78 2)]) (by kernel_rfl) ⟨impl_made_l2_ok v2681 v2682 v2683 v2684 v2685, trivial⟩) (impl_made_l0_be v2681 v2682 v2683 v2684 v2685 (gI (cAt L (vAt e 7) 0)) (gI (cAt L (vAt e 7) 1))) rfl (by intro x; rfl) h
noncomputable def impl_made_T (v2681 : Int) (v2682 : Int) (v2683 : Int) (v2684 : Int) (v2685 : List Nat) : Tree (Int × Int × (List Nat)) :=
  (.call (impl_newMatrix_g v2681 v2682) fun v2686 =>
  (.need (some (impl_made_l0_E v2681 v2682 v2683 v2684 v2685 v2686.1 v2686.2 ((0 : Int), List.replicate (Int.toNat (IntKind.i64.wrap (v2681 * v2682))) (0 : Nat))) = some (impl_made_l0_E v2681 v2682 v2683 v2684 v2685 v2686.1 v2686.2 ((0 : Int), List.replicate (Int.toNat (IntKind.i64.wrap (v2681 * v2682))) (0 : Nat)))) <|
  (.call (impl_made_l0_g v2681 v2682 v2683 v2684 v2685 v2686.1 v2686.2 ((0 : Int), List.replicate (Int.toNat (IntKind.i64.wrap (v2681 * v2682))) (0 : Nat))) fun v2769 =>
  .leaf (v2686.1, v2686.2, v2769))))

noncomputable def impl_made_g (v2681 : Int) (v2682 : Int) (v2683 : Int) (v2684 : Int) (v2685 : List Nat) : Option (Int × Int × (List Nat)) := (impl_made_T v2681 v2682 v2683 v2684 v2685).run
def impl_made_enc (v2681 : Int) (v2682 : Int) (v2683 : Int) (v2684 : Int) (v2685 : List Nat) (y : Int × Int × (List Nat)) : Rs := (.agg [.int .i64 y.1, .int .i64 y.2.1, .own 0 0 ((y.2.2).length)], [.row (.f32 y.2.2) 0])
theorem impl_made_den (v2681 : Int) (v2682 : Int) (v2683 : Int) (v2684 : Int) (v2685 : List Nat) : (den TT (tabD impl_made_tab) (tabM impl_made_tab) (impl_made_LO v2681 v2682 v2683 v2684 v2685) (codeOf Try.f78) ([.int .i64 v2681, .int .i64 v2682, .fn 163 [.bptr (BR.root 0) [.int .i64 v2683, .int .i64 v2684, .bslc (BR.root 1) (.f32 v2685)]]] ++ List.replicate (Try.f78.ntmps - ([.int .i64 v2681, .int .i64 v2682, .fn 163 [.bptr (BR.root 0) [.int .i64 v2683, .int .i64 v2684, .bslc (BR.root 1) (.f32 v2685)]]] : List DV).length) .undef) []).bind (retD TT Try.f78.results.toList 0) = (impl_made_T v2681 v2682 v2683 v2684 v2685).bind fun y => .leaf (impl_made_enc v2681 v2682 v2683 v2684 v2685 y) := by kernel_rfl
theorem impl_made_fn (v2681 : Int) (v2682 : Int) (v2683 : Int) (v2684 : Int) (v2685 : List Nat) (F : Fr) (hm : F.ids.length = 0) (h0 : St F [] F.H0) (hA : DVs.Ok F [] [.int .i64 v2681, .int .i64 v2682, .fn 163 [.bptr (BR.root 0) [.int .i64 v2683, .int .i64 v2684, .bslc (BR.root 1) (.f32 v2685)]]]) {y : Int × Int × (List Nat)} (hy : impl_made_g v2681 v2682 v2683 v2684 v2685 = some y) : ∃ H', FnOk Try.prog 78 (DVs.av F [.int .i64 v2681, .int .i64 v2682, .fn 163 [.bptr (BR.root 0) [.int .i64 v2683, .int .i64 v2684, .bslc (BR.root 1) (.f32 v2685)]]]) F.H0 ((impl_made_enc v2681 v2682 v2683 v2684 v2685 y).1.av F) H' ∧ St F (impl_made_enc v2681 v2682 v2683 v2684 v2685 y).2 H' ∧ (impl_made_enc v2681 v2682 v2683 v2684 v2685 y).1.Ok F (impl_made_enc v2681 v2682 v2683 v2684 v2685 y).2 :=
  fn_fin tok impl_made_hO mixed Try.func78 Try.call78 (by kernel_rfl) (LoopsOk_eq (l := [(0, bodyOf Try.f78 0)]) (by kernel_rfl) ⟨impl_made_l0_ok v2681 v2682 v2683 v2684 v2685, trivial⟩) (impl_made_den v2681 v2682 v2683 v2684 v2685) hy hm h0 hA
noncomputable def impl_made_F : DFn := fun args L =>
  match args with
  | [.int .i64 v2681, .int .i64 v2682, .fn 163 [a1]] =>
    optT (cellsOf L 3 a1) fun cs0 =>
    (match cs0 with
    | [.int .i64 v2683, .int .i64 v2684, a2] =>
    optT (rowF32 L a2) fun v2685 =>
    .call (impl_made_g v2681 v2682 v2683 v2684 v2685) fun y => .leaf (.agg [.int .i64 y.1, .int .i64 y.2.1, .own (L.length + 0) 0 ((y.2.2).length)], L ++ [.row (.f32 y.2.2) 0])
    | _ => .fail)
  | _ => .fail
theorem impl_made_Fok : COk Try.prog 78 impl_made_F true := by
  intro F L H args r L' hs ha hr
  unfold impl_made_F at hr
  split at hr
  · rename_i v2681 v2682 a1
    obtain ⟨cs0, hcp0, hr⟩ := optT_run hr
    split at hr
    · rename_i v2683 v2684 a2
      obtain ⟨v2685, hv2685, hr⟩ := optT_run hr
      simp only [Tree.run] at hr
      obtain ⟨y, hy, hr⟩ := Option.bind_eq_some_iff.1 hr
      simp only [Tree.run, Option.some.injEq, Prod.mk.injEq] at hr
      obtain ⟨rfl, rfl⟩ := hr
      exact call_ok1 hs (fun k => (([a1.av F, a2.av F] : List AV)[k]?).getD .top) [.int .i64 v2681, .int .i64 v2682, .fn 163 [a1]] [.int .i64 v2681, .int .i64 v2682, .fn 163 [.bptr (BR.root 0) [.int .i64 v2683, .int .i64 v2684, .bslc (BR.root 1) (.f32 v2685)]]] (fun F' h0 hi hρ => ⟨by simp [DVs.av, DV.av, BR.av, hρ], impl_made_fn v2681 v2682 v2683 v2684 v2685 F' (by rw [hi]; rfl) (st_nil hi) ⟨trivial, trivial, ⟨bptr_ok hi (by rw [h0]; simpa [DVs.av, DV.av, BR.av, hρ] using (cellsOf_ok hs (DVs.okAt (DVs.okAt ha 2 rfl) 0 rfl) hcp0).1) ⟨trivial, trivial, bslc_ok hi (by rw [h0, hρ]; exact rowF32_ok hs (DVs.okAt (cellsOf_ok hs (DVs.okAt (DVs.okAt ha 2 rfl) 0 rfl) hcp0).2 2 rfl) hv2685), trivial⟩, trivial⟩, trivial⟩ hy⟩) rfl rfl
    · cases hr
  · cases hr
/-! (impl.Matrix).flip -/
noncomputable def impl_Matrix_flip_LO (v2678 : Int) (v2679 : Int) (v2680 : List Nat) : LOr := fun id e L =>
  match id with
  | _ => .fail
noncomputable def impl_Matrix_flip_tab : List (FuncId × DFn × Bool) := [(78, impl_made_F, true)]
theorem impl_Matrix_flip_hO : OrcOk Try.prog (tabD impl_Matrix_flip_tab) (tabM impl_Matrix_flip_tab) := tabD_cons impl_made_Fok (tabD_nil _)
noncomputable def impl_Matrix_flip_T (v2678 : Int) (v2679 : Int) (v2680 : List Nat) : Tree (Int × Int × (List Nat)) :=
  (.call (impl_made_g v2679 v2678 v2678 v2679 v2680) fun v2770 =>
  .leaf (v2770.1, v2770.2.1, v2770.2.2))

noncomputable def impl_Matrix_flip_g (v2678 : Int) (v2679 : Int) (v2680 : List Nat) : Option (Int × Int × (List Nat)) := (impl_Matrix_flip_T v2678 v2679 v2680).run
def impl_Matrix_flip_enc (v2678 : Int) (v2679 : Int) (v2680 : List Nat) (y : Int × Int × (List Nat)) : Rs := (.agg [.int .i64 y.1, .int .i64 y.2.1, .own 0 0 ((y.2.2).length)], [.row (.f32 y.2.2) 0])
theorem impl_Matrix_flip_den (v2678 : Int) (v2679 : Int) (v2680 : List Nat) : (den TT (tabD impl_Matrix_flip_tab) (tabM impl_Matrix_flip_tab) (impl_Matrix_flip_LO v2678 v2679 v2680) (codeOf Try.f128) ([.agg [.int .i64 v2678, .int .i64 v2679, .bslc (BR.root 0) (.f32 v2680)]] ++ List.replicate (Try.f128.ntmps - ([.agg [.int .i64 v2678, .int .i64 v2679, .bslc (BR.root 0) (.f32 v2680)]] : List DV).length) .undef) []).bind (retD TT Try.f128.results.toList 0) = (impl_Matrix_flip_T v2678 v2679 v2680).bind fun y => .leaf (impl_Matrix_flip_enc v2678 v2679 v2680 y) := by kernel_rfl
theorem impl_Matrix_flip_fn (v2678 : Int) (v2679 : Int) (v2680 : List Nat) (F : Fr) (hm : F.ids.length = 0) (h0 : St F [] F.H0) (hA : DVs.Ok F [] [.agg [.int .i64 v2678, .int .i64 v2679, .bslc (BR.root 0) (.f32 v2680)]]) {y : Int × Int × (List Nat)} (hy : impl_Matrix_flip_g v2678 v2679 v2680 = some y) : ∃ H', FnOk Try.prog 128 (DVs.av F [.agg [.int .i64 v2678, .int .i64 v2679, .bslc (BR.root 0) (.f32 v2680)]]) F.H0 ((impl_Matrix_flip_enc v2678 v2679 v2680 y).1.av F) H' ∧ St F (impl_Matrix_flip_enc v2678 v2679 v2680 y).2 H' ∧ (impl_Matrix_flip_enc v2678 v2679 v2680 y).1.Ok F (impl_Matrix_flip_enc v2678 v2679 v2680 y).2 :=
  fn_fin tok impl_Matrix_flip_hO mixed Try.func128 Try.call128 (by kernel_rfl) (LoopsOk_eq (l := []) (by kernel_rfl) trivial) (impl_Matrix_flip_den v2678 v2679 v2680) hy hm h0 hA
noncomputable def impl_Matrix_flip_F : DFn := fun args L =>
  match args with
  | [.agg [.int .i64 v2678, .int .i64 v2679, a1]] =>
    optT (rowF32 L a1) fun v2680 =>
    .call (impl_Matrix_flip_g v2678 v2679 v2680) fun y => .leaf (.agg [.int .i64 y.1, .int .i64 y.2.1, .own (L.length + 0) 0 ((y.2.2).length)], L ++ [.row (.f32 y.2.2) 0])
  | _ => .fail
theorem impl_Matrix_flip_Fok : COk Try.prog 128 impl_Matrix_flip_F true := by
  intro F L H args r L' hs ha hr
  unfold impl_Matrix_flip_F at hr
  split at hr
  · rename_i v2678 v2679 a1
    obtain ⟨v2680, hv2680, hr⟩ := optT_run hr
    simp only [Tree.run] at hr
    obtain ⟨y, hy, hr⟩ := Option.bind_eq_some_iff.1 hr
    simp only [Tree.run, Option.some.injEq, Prod.mk.injEq] at hr
    obtain ⟨rfl, rfl⟩ := hr
    exact call_ok1 hs (fun k => (([a1.av F] : List AV)[k]?).getD .top) [.agg [.int .i64 v2678, .int .i64 v2679, a1]] [.agg [.int .i64 v2678, .int .i64 v2679, .bslc (BR.root 0) (.f32 v2680)]] (fun F' h0 hi hρ => ⟨by simp [DVs.av, DV.av, BR.av, hρ], impl_Matrix_flip_fn v2678 v2679 v2680 F' (by rw [hi]; rfl) (st_nil hi) ⟨⟨trivial, trivial, bslc_ok hi (by rw [h0, hρ]; exact rowF32_ok hs (DVs.okAt (DVs.okAt ha 0 rfl) 2 rfl) hv2680), trivial⟩, trivial⟩ hy⟩) rfl rfl
  · cases hr
/-! slices.Clone[list of float32,float32] -/
noncomputable def slices_CloneF_LO (v2781 : List Nat) : LOr := fun id e L =>
  match id with
  | _ => .fail
noncomputable def slices_CloneF_tab : List (FuncId × DFn × Bool) := []
theorem slices_CloneF_hO : OrcOk Try.prog (tabD slices_CloneF_tab) (tabM slices_CloneF_tab) := tabD_nil _
noncomputable def slices_CloneF_T (v2781 : List Nat) : Tree (Unit) :=
  (.grd (decide (0 < v2781.length)) <|
  (.grd (fits (([] : List Nat) ++ v2781).length) <|
  .leaf ()))

noncomputable def slices_CloneF_g (v2781 : List Nat) : Option (Unit) := (slices_CloneF_T v2781).run
def slices_CloneF_enc (v2781 : List Nat) (y : Unit) : Rs := (.own 0 0 ((([] : List Nat) ++ v2781).length), [.row (.f32 (([] : List Nat) ++ v2781)) 0])
theorem slices_CloneF_den (v2781 : List Nat) : (den TT (tabD slices_CloneF_tab) (tabM slices_CloneF_tab) (slices_CloneF_LO v2781) (codeOf Try.f105) ([.bslc (BR.root 0) (.f32 v2781)] ++ List.replicate (Try.f105.ntmps - ([.bslc (BR.root 0) (.f32 v2781)] : List DV).length) .undef) []).bind (retD TT Try.f105.results.toList 0) = (slices_CloneF_T v2781).bind fun y => .leaf (slices_CloneF_enc v2781 y) := by kernel_rfl
theorem slices_CloneF_fn (v2781 : List Nat) (F : Fr) (hm : F.ids.length = 0) (h0 : St F [] F.H0) (hA : DVs.Ok F [] [.bslc (BR.root 0) (.f32 v2781)]) {y : Unit} (hy : slices_CloneF_g v2781 = some y) : ∃ H', FnOk Try.prog 105 (DVs.av F [.bslc (BR.root 0) (.f32 v2781)]) F.H0 ((slices_CloneF_enc v2781 y).1.av F) H' ∧ St F (slices_CloneF_enc v2781 y).2 H' ∧ (slices_CloneF_enc v2781 y).1.Ok F (slices_CloneF_enc v2781 y).2 :=
  fn_fin tok slices_CloneF_hO mixed Try.func105 Try.call105 (by kernel_rfl) (LoopsOk_eq (l := []) (by kernel_rfl) trivial) (slices_CloneF_den v2781) hy hm h0 hA
noncomputable def slices_CloneF_F : DFn := fun args L =>
  match args with
  | [a1] =>
    optT (rowF32 L a1) fun v2781 =>
    .call (slices_CloneF_g v2781) fun y => .leaf (.own (L.length + 0) 0 ((([] : List Nat) ++ v2781).length), L ++ [.row (.f32 (([] : List Nat) ++ v2781)) 0])
  | _ => .fail
theorem slices_CloneF_Fok : COk Try.prog 105 slices_CloneF_F true := by
  intro F L H args r L' hs ha hr
  unfold slices_CloneF_F at hr
  split at hr
  · rename_i a1
    obtain ⟨v2781, hv2781, hr⟩ := optT_run hr
    simp only [Tree.run] at hr
    obtain ⟨y, hy, hr⟩ := Option.bind_eq_some_iff.1 hr
    simp only [Tree.run, Option.some.injEq, Prod.mk.injEq] at hr
    obtain ⟨rfl, rfl⟩ := hr
    exact call_ok1 hs (fun k => (([a1.av F] : List AV)[k]?).getD .top) [a1] [.bslc (BR.root 0) (.f32 v2781)] (fun F' h0 hi hρ => ⟨by simp [DVs.av, DV.av, BR.av, hρ], slices_CloneF_fn v2781 F' (by rw [hi]; rfl) (st_nil hi) ⟨bslc_ok hi (by rw [h0, hρ]; exact rowF32_ok hs (DVs.okAt ha 0 rfl) hv2781), trivial⟩ hy⟩) rfl rfl
  · cases hr
/-! (impl.Matrix).row -/
noncomputable def impl_Matrix_row_LO (v2777 : Int) (v2778 : Int) (v2779 : List Nat) (v2780 : Int) : LOr := fun id e L =>
  match id with
  | _ => .fail
noncomputable def impl_Matrix_row_tab : List (FuncId × DFn × Bool) := [(105, slices_CloneF_F, true)]
theorem impl_Matrix_row_hO : OrcOk Try.prog (tabD impl_Matrix_row_tab) (tabM impl_Matrix_row_tab) := tabD_cons slices_CloneF_Fok (tabD_nil _)
noncomputable def impl_Matrix_row_T (v2778 : Int) (v2779 : List Nat) (v2780 : Int) : Tree (Unit) :=
  (.grd (sok (IntKind.i64.wrap (v2780 * v2778)) (IntKind.i64.wrap ((IntKind.i64.wrap (v2780 + (1 : Int))) * v2778)) v2779.length) <|
  (.call (slices_CloneF_g (AM.sub v2779 (IntKind.i64.wrap (v2780 * v2778)) (IntKind.i64.wrap ((IntKind.i64.wrap (v2780 + (1 : Int))) * v2778)))) fun v2782 =>
  .leaf ()))

noncomputable def impl_Matrix_row_g (v2778 : Int) (v2779 : List Nat) (v2780 : Int) : Option (Unit) := (impl_Matrix_row_T v2778 v2779 v2780).run
def impl_Matrix_row_enc (v2777 : Int) (v2778 : Int) (v2779 : List Nat) (v2780 : Int) (y : Unit) : Rs := (.own 0 0 ((([] : List Nat) ++ (AM.sub v2779 (IntKind.i64.wrap (v2780 * v2778)) (IntKind.i64.wrap ((IntKind.i64.wrap (v2780 + (1 : Int))) * v2778)))).length), [.row (.f32 (([] : List Nat) ++ (AM.sub v2779 (IntKind.i64.wrap (v2780 * v2778)) (IntKind.i64.wrap ((IntKind.i64.wrap (v2780 + (1 : Int))) * v2778))))) 0])
theorem impl_Matrix_row_den (v2777 : Int) (v2778 : Int) (v2779 : List Nat) (v2780 : Int) : (den TT (tabD impl_Matrix_row_tab) (tabM impl_Matrix_row_tab) (impl_Matrix_row_LO v2777 v2778 v2779 v2780) (codeOf Try.f80) ([.agg [.int .i64 v2777, .int .i64 v2778, .bslc (BR.root 0) (.f32 v2779)], .int .i64 v2780] ++ List.replicate (Try.f80.ntmps - ([.agg [.int .i64 v2777, .int .i64 v2778, .bslc (BR.root 0) (.f32 v2779)], .int .i64 v2780] : List DV).length) .undef) []).bind (retD TT Try.f80.results.toList 0) = (impl_Matrix_row_T v2778 v2779 v2780).bind fun y => .leaf (impl_Matrix_row_enc v2777 v2778 v2779 v2780 y) := by kernel_rfl
theorem impl_Matrix_row_fn (v2777 : Int) (v2778 : Int) (v2779 : List Nat) (v2780 : Int) (F : Fr) (hm : F.ids.length = 0) (h0 : St F [] F.H0) (hA : DVs.Ok F [] [.agg [.int .i64 v2777, .int .i64 v2778, .bslc (BR.root 0) (.f32 v2779)], .int .i64 v2780]) {y : Unit} (hy : impl_Matrix_row_g v2778 v2779 v2780 = some y) : ∃ H', FnOk Try.prog 80 (DVs.av F [.agg [.int .i64 v2777, .int .i64 v2778, .bslc (BR.root 0) (.f32 v2779)], .int .i64 v2780]) F.H0 ((impl_Matrix_row_enc v2777 v2778 v2779 v2780 y).1.av F) H' ∧ St F (impl_Matrix_row_enc v2777 v2778 v2779 v2780 y).2 H' ∧ (impl_Matrix_row_enc v2777 v2778 v2779 v2780 y).1.Ok F (impl_Matrix_row_enc v2777 v2778 v2779 v2780 y).2 :=
  fn_fin tok impl_Matrix_row_hO mixed Try.func80 Try.call80 (by kernel_rfl) (LoopsOk_eq (l := []) (by kernel_rfl) trivial) (impl_Matrix_row_den v2777 v2778 v2779 v2780) hy hm h0 hA
noncomputable def impl_Matrix_row_F : DFn := fun args L =>
  match args with
  | [.agg [.int .i64 v2777, .int .i64 v2778, a1], .int .i64 v2780] =>
    optT (rowF32 L a1) fun v2779 =>
    .call (impl_Matrix_row_g v2778 v2779 v2780) fun y => .leaf (.own (L.length + 0) 0 ((([] : List Nat) ++ (AM.sub v2779 (IntKind.i64.wrap (v2780 * v2778)) (IntKind.i64.wrap ((IntKind.i64.wrap (v2780 + (1 : Int))) * v2778)))).length), L ++ [.row (.f32 (([] : List Nat) ++ (AM.sub v2779 (IntKind.i64.wrap (v2780 * v2778)) (IntKind.i64.wrap ((IntKind.i64.wrap (v2780 + (1 : Int))) * v2778))))) 0])
  | _ => .fail
theorem impl_Matrix_row_Fok : COk Try.prog 80 impl_Matrix_row_F true := by
  intro F L H args r L' hs ha hr
  unfold impl_Matrix_row_F at hr
  split at hr
  · rename_i v2777 v2778 a1 v2780
    obtain ⟨v2779, hv2779, hr⟩ := optT_run hr
    simp only [Tree.run] at hr
    obtain ⟨y, hy, hr⟩ := Option.bind_eq_some_iff.1 hr
    simp only [Tree.run, Option.some.injEq, Prod.mk.injEq] at hr
    obtain ⟨rfl, rfl⟩ := hr
    exact call_ok1 hs (fun k => (([a1.av F] : List AV)[k]?).getD .top) [.agg [.int .i64 v2777, .int .i64 v2778, a1], .int .i64 v2780] [.agg [.int .i64 v2777, .int .i64 v2778, .bslc (BR.root 0) (.f32 v2779)], .int .i64 v2780] (fun F' h0 hi hρ => ⟨by simp [DVs.av, DV.av, BR.av, hρ], impl_Matrix_row_fn v2777 v2778 v2779 v2780 F' (by rw [hi]; rfl) (st_nil hi) ⟨⟨trivial, trivial, bslc_ok hi (by rw [h0, hρ]; exact rowF32_ok hs (DVs.okAt (DVs.okAt ha 0 rfl) 2 rfl) hv2779), trivial⟩, trivial, trivial⟩ hy⟩) rfl rfl
  · cases hr
/-! (impl.Matrix).timesVector -/
noncomputable def impl_Matrix_timesVector_l0_T (v2772 : Int) (v2773 : Int) (v2774 : List Nat) (v2775 : List Nat) (s : Int × (List Nat)) : Tree ((Int × (List Nat)) ⊕ ((List Nat))) :=
  (.br (decide (s.1 < v2772)) (
   (.call (impl_Matrix_row_g v2773 v2774 s.1) fun v2791 =>
   (.call (impl_dot_g (([] : List Nat) ++ (AM.sub v2774 (IntKind.i64.wrap (s.1 * v2773)) (IntKind.i64.wrap ((IntKind.i64.wrap (s.1 + (1 : Int))) * v2773)))) v2775) fun v2792 =>
   (.grd (fits (s.2 ++ ([v2792] : List Nat)).length) <|
   .leaf (.inl (IntKind.i64.wrap (s.1 + (1 : Int)), s.2 ++ ([v2792] : List Nat))))))
  ) (
   .leaf (.inr s.2)
  ))

noncomputable def impl_Matrix_timesVector_l0_g (v2772 : Int) (v2773 : Int) (v2774 : List Nat) (v2775 : List Nat) (s0 : Int × (List Nat)) : Option ((List Nat)) := whileM (fun s => (impl_Matrix_timesVector_l0_T v2772 v2773 v2774 v2775 s).run) s0
def impl_Matrix_timesVector_l0_E (v2772 : Int) (v2773 : Int) (v2774 : List Nat) (v2775 : List Nat) (s : Int × (List Nat)) : Sd := ([.top, .bslc (BR.root 1) (.f32 v2775), .ptr 0 (0 : Nat) 0 (3 : Nat), .top, .top, .own 1 0 ((s.2).length), .top, .top, .top, .int .i64 v2772, .int .i64 s.1, .top, .top, .top, .top, .top, .top, .top, .top, .top, .top, .top, .top], [.gen [.int .i64 v2772, .int .i64 v2773, .bslc (BR.root 0) (.f32 v2774)] false 0, .row (.f32 s.2) 0])
def impl_Matrix_timesVector_l0_X (v2772 : Int) (v2773 : Int) (v2774 : List Nat) (v2775 : List Nat) (x : (List Nat)) : Out := (.normal, [.top, .top, .top, .top, .top, .own 0 0 ((x).length), .top, .top, .top, .top, .top, .top, .top, .top, .top, .top, .top, .top, .top, .top, .top, .top, .top], [.row (.f32 x) 0])
def impl_Matrix_timesVector_l0_kill : List Nat := [1, 0, 0, 1, 1, 0, 1, 1, 1, 0, 0, 1, 1, 1, 1, 1, 1, 1, 1, 1, 1, 1, 1]
def impl_Matrix_timesVector_l0_nx : Exit → List Nat
  | .exit 0 => [1, 1, 1, 1, 1, 0, 1, 1, 1, 1, 1, 1, 1, 1, 1, 1, 1, 1, 1, 1, 1, 1, 1]
  | .ret => [1, 1, 1, 1, 0, 1, 1, 1, 1, 1, 1, 1, 1, 1, 1, 1, 1, 1, 1, 1, 1, 1, 1]
  | _ => []
noncomputable def impl_Matrix_timesVector_LO (v2772 : Int) (v2773 : Int) (v2774 : List Nat) (v2775 : List Nat) : LOr := fun id e L =>
  match id with
  | 0 => .need (normA 0 impl_Matrix_timesVector_l0_kill e L = some (impl_Matrix_timesVector_l0_E v2772 v2773 v2774 v2775 ((gI (vAt e 10)), (gRF L (vAt e 5))))) (.call (impl_Matrix_timesVector_l0_g v2772 v2773 v2774 v2775 ((gI (vAt e 10)), (gRF L (vAt e 5)))) fun x => .leaf (impl_Matrix_timesVector_l0_X v2772 v2773 v2774 v2775 x))
  | _ => .fail
noncomputable def impl_Matrix_timesVector_tab : List (FuncId × DFn × Bool) := [(80, impl_Matrix_row_F, true), (82, impl_dot_F, true)]
theorem impl_Matrix_timesVector_hO : OrcOk Try.prog (tabD impl_Matrix_timesVector_tab) (tabM impl_Matrix_timesVector_tab) := tabD_cons impl_Matrix_row_Fok (tabD_cons impl_dot_Fok (tabD_nil _))
theorem impl_Matrix_timesVector_l0_be (v2772 : Int) (v2773 : Int) (v2774 : List Nat) (v2775 : List Nat) (s : Int × (List Nat)) : bodyT TT (tabD impl_Matrix_timesVector_tab) (tabM impl_Matrix_timesVector_tab) (impl_Matrix_timesVector_LO v2772 v2773 v2774 v2775) 0 impl_Matrix_timesVector_l0_kill impl_Matrix_timesVector_l0_nx (bodyOf Try.f132 0) 0 (impl_Matrix_timesVector_l0_E v2772 v2773 v2774 v2775 s) = (impl_Matrix_timesVector_l0_T v2772 v2773 v2774 v2775 s).bind fun y => .leaf (outS (impl_Matrix_timesVector_l0_E v2772 v2773 v2774 v2775) (impl_Matrix_timesVector_l0_X v2772 v2773 v2774 v2775) y) := by kernel_rfl
theorem impl_Matrix_timesVector_l0_ok (v2772 : Int) (v2773 : Int) (v2774 : List Nat) (v2775 : List Nat) : LSound Try.prog 0 (impl_Matrix_timesVector_LO v2772 v2773 v2774 v2775) 0 (bodyOf Try.f132 0) := by
  intro e L out h
  exact lo_ok (E := impl_Matrix_timesVector_l0_E v2772 v2773 v2774 v2775) (gT := impl_Matrix_timesVector_l0_T v2772 v2773 v2774 v2775) (X := impl_Matrix_timesVector_l0_X v2772 v2773 v2774 v2775) (s0 := ((gI (vAt e 10)), (gRF L (vAt e 5)))) tok impl_Matrix_timesVector_hO mixed (LoopsOk_eq (l := []) (by kernel_rfl) trivial) (impl_Matrix_timesVector_l0_be v2772 v2773 v2774 v2775) rfl (by intro x; rfl) h
noncomputable def impl_Matrix_timesVector_T (v2772 : Int) (v2773 : Int) (v2774 : List Nat) (v2775 : List Nat) : Tree ((List Nat)) :=
  (.need (some (impl_Matrix_timesVector_l0_E v2772 v2773 v2774 v2775 ((0 : Int), ([] : List Nat))) = some (impl_Matrix_timesVector_l0_E v2772 v2773 v2774 v2775 ((0 : Int), ([] : List Nat)))) <|
  (.call (impl_Matrix_timesVector_l0_g v2772 v2773 v2774 v2775 ((0 : Int), ([] : List Nat))) fun v2793 =>
  .leaf v2793))

noncomputable def impl_Matrix_timesVector_g (v2772 : Int) (v2773 : Int) (v2774 : List Nat) (v2775 : List Nat) : Option ((List Nat)) := (impl_Matrix_timesVector_T v2772 v2773 v2774 v2775).run
def impl_Matrix_timesVector_enc (v2772 : Int) (v2773 : Int) (v2774 : List Nat) (v2775 : List Nat) (y : (List Nat)) : Rs := (.own 0 0 ((y).length), [.row (.f32 y) 0])
theorem impl_Matrix_timesVector_den (v2772 : Int) (v2773 : Int) (v2774 : List Nat) (v2775 : List Nat) : (den TT (tabD impl_Matrix_timesVector_tab) (tabM impl_Matrix_timesVector_tab) (impl_Matrix_timesVector_LO v2772 v2773 v2774 v2775) (codeOf Try.f132) ([.agg [.int .i64 v2772, .int .i64 v2773, .bslc (BR.root 0) (.f32 v2774)], .bslc (BR.root 1) (.f32 v2775)] ++ List.replicate (Try.f132.ntmps - ([.agg [.int .i64 v2772, .int .i64 v2773, .bslc (BR.root 0) (.f32 v2774)], .bslc (BR.root 1) (.f32 v2775)] : List DV).length) .undef) []).bind (retD TT Try.f132.results.toList 0) = (impl_Matrix_timesVector_T v2772 v2773 v2774 v2775).bind fun y => .leaf (impl_Matrix_timesVector_enc v2772 v2773 v2774 v2775 y) := by kernel_rfl
theorem impl_Matrix_timesVector_fn (v2772 : Int) (v2773 : Int) (v2774 : List Nat) (v2775 : List Nat) (F : Fr) (hm : F.ids.length = 0) (h0 : St F [] F.H0) (hA : DVs.Ok F [] [.agg [.int .i64 v2772, .int .i64 v2773, .bslc (BR.root 0) (.f32 v2774)], .bslc (BR.root 1) (.f32 v2775)]) {y : (List Nat)} (hy : impl_Matrix_timesVector_g v2772 v2773 v2774 v2775 = some y) : ∃ H', FnOk Try.prog 132 (DVs.av F [.agg [.int .i64 v2772, .int .i64 v2773, .bslc (BR.root 0) (.f32 v2774)], .bslc (BR.root 1) (.f32 v2775)]) F.H0 ((impl_Matrix_timesVector_enc v2772 v2773 v2774 v2775 y).1.av F) H' ∧ St F (impl_Matrix_timesVector_enc v2772 v2773 v2774 v2775 y).2 H' ∧ (impl_Matrix_timesVector_enc v2772 v2773 v2774 v2775 y).1.Ok F (impl_Matrix_timesVector_enc v2772 v2773 v2774 v2775 y).2 :=
  fn_fin tok impl_Matrix_timesVector_hO mixed Try.func132 Try.call132 (by kernel_rfl) (LoopsOk_eq (l := [(0, bodyOf Try.f132 0)]) (by kernel_rfl) ⟨impl_Matrix_timesVector_l0_ok v2772 v2773 v2774 v2775, trivial⟩) (impl_Matrix_timesVector_den v2772 v2773 v2774 v2775) hy hm h0 hA
noncomputable def impl_Matrix_timesVector_F : DFn := fun args L =>
  match args with
  | [.agg [.int .i64 v2772, .int .i64 v2773, a1], a2] =>
    optT (rowF32 L a1) fun v2774 =>
    optT (rowF32 L a2) fun v2775 =>
    .call (impl_Matrix_timesVector_g v2772 v2773 v2774 v2775) fun y => .leaf (.own (L.length + 0) 0 ((y).length), L ++ [.row (.f32 y) 0])
  | _ => .fail
theorem impl_Matrix_timesVector_Fok : COk Try.prog 132 impl_Matrix_timesVector_F true := by
  intro F L H args r L' hs ha hr
  unfold impl_Matrix_timesVector_F at hr
  split at hr
  · rename_i v2772 v2773 a1 a2
    obtain ⟨v2774, hv2774, hr⟩ := optT_run hr
    obtain ⟨v2775, hv2775, hr⟩ := optT_run hr
    simp only [Tree.run] at hr
    obtain ⟨y, hy, hr⟩ := Option.bind_eq_some_iff.1 hr
    simp only [Tree.run, Option.some.injEq, Prod.mk.injEq] at hr
    obtain ⟨rfl, rfl⟩ := hr
    exact call_ok1 hs (fun k => (([a1.av F, a2.av F] : List AV)[k]?).getD .top) [.agg [.int .i64 v2772, .int .i64 v2773, a1], a2] [.agg [.int .i64 v2772, .int .i64 v2773, .bslc (BR.root 0) (.f32 v2774)], .bslc (BR.root 1) (.f32 v2775)] (fun F' h0 hi hρ => ⟨by simp [DVs.av, DV.av, BR.av, hρ], impl_Matrix_timesVector_fn v2772 v2773 v2774 v2775 F' (by rw [hi]; rfl) (st_nil hi) ⟨⟨trivial, trivial, bslc_ok hi (by rw [h0, hρ]; exact rowF32_ok hs (DVs.okAt (DVs.okAt ha 0 rfl) 2 rfl) hv2774), trivial⟩, bslc_ok hi (by rw [h0, hρ]; exact rowF32_ok hs (DVs.okAt ha 1 rfl) hv2775), trivial⟩ hy⟩) rfl rfl
  · cases hr
/-! impl.isSquare -/
noncomputable def impl_isSquare_LO (v2799 : Int) (v2800 : Int) (v2801 : List Nat) : LOr := fun id e L =>
  match id with
  | _ => .fail
noncomputable def impl_isSquare_tab : List (FuncId × DFn × Bool) := [(67, impl_ValidMatrix_F, true)]
theorem impl_isSquare_hO : OrcOk Try.prog (tabD impl_isSquare_tab) (tabM impl_isSquare_tab) := tabD_cons impl_ValidMatrix_Fok (tabD_nil _)
noncomputable def impl_isSquare_T (v2799 : Int) (v2800 : Int) (v2801 : List Nat) : Tree (Bool) :=
  (.call (impl_ValidMatrix_g v2799 v2800 v2801) fun v2802 =>
  (.br v2802 (
   .leaf (decide (v2799 = v2800))
  ) (
   .leaf false
  )))

noncomputable def impl_isSquare_g (v2799 : Int) (v2800 : Int) (v2801 : List Nat) : Option (Bool) := (impl_isSquare_T v2799 v2800 v2801).run
def impl_isSquare_enc (v2799 : Int) (v2800 : Int) (v2801 : List Nat) (y : Bool) : Rs := (.bool y, [])
theorem impl_isSquare_den (v2799 : Int) (v2800 : Int) (v2801 : List Nat) : (den TT (tabD impl_isSquare_tab) (tabM impl_isSquare_tab) (impl_isSquare_LO v2799 v2800 v2801) (codeOf Try.f62) ([.agg [.int .i64 v2799, .int .i64 v2800, .bslc (BR.root 0) (.f32 v2801)]] ++ List.replicate (Try.f62.ntmps - ([.agg [.int .i64 v2799, .int .i64 v2800, .bslc (BR.root 0) (.f32 v2801)]] : List DV).length) .undef) []).bind (retD TT Try.f62.results.toList 0) = (impl_isSquare_T v2799 v2800 v2801).bind fun y => .leaf (impl_isSquare_enc v2799 v2800 v2801 y) := by kernel_rfl
theorem impl_isSquare_fn (v2799 : Int) (v2800 : Int) (v2801 : List Nat) (F : Fr) (hm : F.ids.length = 0) (h0 : St F [] F.H0) (hA : DVs.Ok F [] [.agg [.int .i64 v2799, .int .i64 v2800, .bslc (BR.root 0) (.f32 v2801)]]) {y : Bool} (hy : impl_isSquare_g v2799 v2800 v2801 = some y) : ∃ H', FnOk Try.prog 62 (DVs.av F [.agg [.int .i64 v2799, .int .i64 v2800, .bslc (BR.root 0) (.f32 v2801)]]) F.H0 ((impl_isSquare_enc v2799 v2800 v2801 y).1.av F) H' ∧ St F (impl_isSquare_enc v2799 v2800 v2801 y).2 H' ∧ (impl_isSquare_enc v2799 v2800 v2801 y).1.Ok F (impl_isSquare_enc v2799 v2800 v2801 y).2 :=
  fn_fin tok impl_isSquare_hO mixed Try.func62 Try.call62 (by kernel_rfl) (LoopsOk_eq (l := []) (by kernel_rfl) trivial) (impl_isSquare_den v2799 v2800 v2801) hy hm h0 hA
noncomputable def impl_isSquare_F : DFn := fun args L =>
  match args with
  | [.agg [.int .i64 v2799, .int .i64 v2800, a1]] =>
    optT (rowF32 L a1) fun v2801 =>
    .call (impl_isSquare_g v2799 v2800 v2801) fun y => .leaf (.bool y, L)
  | _ => .fail
theorem impl_isSquare_Fok : COk Try.prog 62 impl_isSquare_F true := by
  intro F L H args r L' hs ha hr
  unfold impl_isSquare_F at hr
  split at hr
  · rename_i v2799 v2800 a1
    obtain ⟨v2801, hv2801, hr⟩ := optT_run hr
    simp only [Tree.run] at hr
    obtain ⟨y, hy, hr⟩ := Option.bind_eq_some_iff.1 hr
    simp only [Tree.run, Option.some.injEq, Prod.mk.injEq] at hr
    obtain ⟨rfl, rfl⟩ := hr
    exact call_ok0 hs (fun k => (([a1.av F] : List AV)[k]?).getD .top) [.agg [.int .i64 v2799, .int .i64 v2800, a1]] [.agg [.int .i64 v2799, .int .i64 v2800, .bslc (BR.root 0) (.f32 v2801)]] (fun F' h0 hi hρ => ⟨by simp [DVs.av, DV.av, BR.av, hρ], impl_isSquare_fn v2799 v2800 v2801 F' (by rw [hi]; rfl) (st_nil hi) ⟨⟨trivial, trivial, bslc_ok hi (by rw [h0, hρ]; exact rowF32_ok hs (DVs.okAt (DVs.okAt ha 0 rfl) 2 rfl) hv2801), trivial⟩, trivial⟩ hy⟩) rfl
  · cases hr
/-! (impl.Matrix).middle -/
noncomputable def impl_Matrix_middle_l0_T (v2805 : Int) (v2806 : Int) (v2807 : List Nat) (s : Int × (List Nat)) : Tree ((Int × (List Nat)) ⊕ ((List Nat))) :=
  (.br (decide (s.1 < imin v2805 v2806)) (
   (.call (impl_Matrix_at_g v2806 v2807 s.1 s.1) fun v2815 =>
   (.grd (fits (s.2 ++ ([v2815] : List Nat)).length) <|
   .leaf (.inl (IntKind.i64.wrap (s.1 + (1 : Int)), s.2 ++ ([v2815] : List Nat)))))
  ) (
   .leaf (.inr s.2)
  ))

noncomputable def impl_Matrix_middle_l0_g (v2805 : Int) (v2806 : Int) (v2807 : List Nat) (s0 : Int × (List Nat)) : Option ((List Nat)) := whileM (fun s => (impl_Matrix_middle_l0_T v2805 v2806 v2807 s).run) s0
def impl_Matrix_middle_l0_E (v2805 : Int) (v2806 : Int) (v2807 : List Nat) (s : Int × (List Nat)) : Sd := ([.top, .ptr 0 (0 : Nat) 0 (3 : Nat), .top, .own 1 0 ((s.2).length), .top, .top, .top, .top, .top, .top, .int .i64 (imin v2805 v2806), .int .i64 s.1, .top, .top, .top, .top, .top, .top, .top, .top, .top, .top, .top], [.gen [.int .i64 v2805, .int .i64 v2806, .bslc (BR.root 0) (.f32 v2807)] false 0, .row (.f32 s.2) 0])
def impl_Matrix_middle_l0_X (v2805 : Int) (v2806 : Int) (v2807 : List Nat) (x : (List Nat)) : Out := (.normal, [.top, .top, .top, .own 0 0 ((x).length), .top, .top, .top, .top, .top, .top, .top, .top, .top, .top, .top, .top, .top, .top, .top, .top, .top, .top, .top], [.row (.f32 x) 0])
def impl_Matrix_middle_l0_kill : List Nat := [1, 0, 1, 0, 1, 1, 1, 1, 1, 1, 0, 0, 1, 1, 1, 1, 1, 1, 1, 1, 1, 1, 1]
def impl_Matrix_middle_l0_nx : Exit → List Nat
  | .exit 0 => [1, 1, 1, 0, 1, 1, 1, 1, 1, 1, 1, 1, 1, 1, 1, 1, 1, 1, 1, 1, 1, 1, 1]
  | .ret => [1, 1, 0, 1, 1, 1, 1, 1, 1, 1, 1, 1, 1, 1, 1, 1, 1, 1, 1, 1, 1, 1, 1]
  | _ => []
noncomputable def impl_Matrix_middle_LO (v2805 : Int) (v2806 : Int) (v2807 : List Nat) : LOr := fun id e L =>
  match id with
  | 0 => .need (normA 0 impl_Matrix_middle_l0_kill e L = some (impl_Matrix_middle_l0_E v2805 v2806 v2807 ((gI (vAt e 11)), (gRF L (vAt e 3))))) (.call (impl_Matrix_middle_l0_g v2805 v2806 v2807 ((gI (vAt e 11)), (gRF L (vAt e 3)))) fun x => .leaf (impl_Matrix_middle_l0_X v2805 v2806 v2807 x))
  | _ => .fail
noncomputable def impl_Matrix_middle_tab : List (FuncId × DFn × Bool) := [(64, impl_Matrix_at_F, true)]
theorem impl_Matrix_middle_hO : OrcOk Try.prog (tabD impl_Matrix_middle_tab) (tabM impl_Matrix_middle_tab) := tabD_cons impl_Matrix_at_Fok (tabD_nil _)
theorem impl_Matrix_middle_l0_be (v2805 : Int) (v2806 : Int) (v2807 : List Nat) (s : Int × (List Nat)) : bodyT TT (tabD impl_Matrix_middle_tab) (tabM impl_Matrix_middle_tab) (impl_Matrix_middle_LO v2805 v2806 v2807) 0 impl_Matrix_middle_l0_kill impl_Matrix_middle_l0_nx (bodyOf Try.f166 0) 0 (impl_Matrix_middle_l0_E v2805 v2806 v2807 s) = (impl_Matrix_middle_l0_T v2805 v2806 v2807 s).bind fun y => .leaf (outS (impl_Matrix_middle_l0_E v2805 v2806 v2807) (impl_Matrix_middle_l0_X v2805 v2806 v2807) y) := by kernel_rfl
theorem impl_Matrix_middle_l0_ok (v2805 : Int) (v2806 : Int) (v2807 : List Nat) : LSound Try.prog 0 (impl_Matrix_middle_LO v2805 v2806 v2807) 0 (bodyOf Try.f166 0) := by
  intro e L out h
  exact lo_ok (E := impl_Matrix_middle_l0_E v2805 v2806 v2807) (gT := impl_Matrix_middle_l0_T v2805 v2806 v2807) (X := impl_Matrix_middle_l0_X v2805 v2806 v2807) (s0 := ((gI (vAt e 11)), (gRF L (vAt e 3)))) tok impl_Matrix_middle_hO mixed (LoopsOk_eq (l := []) (by kernel_rfl) trivial) (impl_Matrix_middle_l0_be v2805 v2806 v2807) rfl (by intro x; rfl) h
noncomputable def impl_Matrix_middle_T (v2805 : Int) (v2806 : Int) (v2807 : List Nat) : Tree ((List Nat)) :=
  (.need (some (impl_Matrix_middle_l0_E v2805 v2806 v2807 ((0 : Int), ([] : List Nat))) = some (impl_Matrix_middle_l0_E v2805 v2806 v2807 ((0 : Int), ([] : List Nat)))) <|
  (.call (impl_Matrix_middle_l0_g v2805 v2806 v2807 ((0 : Int), ([] : List Nat))) fun v2816 =>
  .leaf v2816))

noncomputable def impl_Matrix_middle_g (v2805 : Int) (v2806 : Int) (v2807 : List Nat) : Option ((List Nat)) := (impl_Matrix_middle_T v2805 v2806 v2807).run
def impl_Matrix_middle_enc (v2805 : Int) (v2806 : Int) (v2807 : List Nat) (y : (List Nat)) : Rs := (.own 0 0 ((y).length), [.row (.f32 y) 0])
theorem impl_Matrix_middle_den (v2805 : Int) (v2806 : Int) (v2807 : List Nat) : (den TT (tabD impl_Matrix_middle_tab) (tabM impl_Matrix_middle_tab) (impl_Matrix_middle_LO v2805 v2806 v2807) (codeOf Try.f166) ([.agg [.int .i64 v2805, .int .i64 v2806, .bslc (BR.root 0) (.f32 v2807)]] ++ List.replicate (Try.f166.ntmps - ([.agg [.int .i64 v2805, .int .i64 v2806, .bslc (BR.root 0) (.f32 v2807)]] : List DV).length) .undef) []).bind (retD TT Try.f166.results.toList 0) = (impl_Matrix_middle_T v2805 v2806 v2807).bind fun y => .leaf (impl_Matrix_middle_enc v2805 v2806 v2807 y) := by kernel_rfl
theorem impl_Matrix_middle_fn (v2805 : Int) (v2806 : Int) (v2807 : List Nat) (F : Fr) (hm : F.ids.length = 0) (h0 : St F [] F.H0) (hA : DVs.Ok F [] [.agg [.int .i64 v2805, .int .i64 v2806, .bslc (BR.root 0) (.f32 v2807)]]) {y : (List Nat)} (hy : impl_Matrix_middle_g v2805 v2806 v2807 = some y) : ∃ H', FnOk Try.prog 166 (DVs.av F [.agg [.int .i64 v2805, .int .i64 v2806, .bslc (BR.root 0) (.f32 v2807)]]) F.H0 ((impl_Matrix_middle_enc v2805 v2806 v2807 y).1.av F) H' ∧ St F (impl_Matrix_middle_enc v2805 v2806 v2807 y).2 H' ∧ (impl_Matrix_middle_enc v2805 v2806 v2807 y).1.Ok F (impl_Matrix_middle_enc v2805 v2806 v2807 y).2 :=
  fn_fin tok impl_Matrix_middle_hO mixed Try.func166 Try.call166 (by kernel_rfl) (LoopsOk_eq (l := [(0, bodyOf Try.f166 0)]) (by kernel_rfl) ⟨impl_Matrix_middle_l0_ok v2805 v2806 v2807, trivial⟩) (impl_Matrix_middle_den v2805 v2806 v2807) hy hm h0 hA
noncomputable def impl_Matrix_middle_F : DFn := fun args L =>
  match args with
  | [.agg [.int .i64 v2805, .int .i64 v2806, a1]] =>
    optT (rowF32 L a1) fun v2807 =>
    .call (impl_Matrix_middle_g v2805 v2806 v2807) fun y => .leaf (.own (L.length + 0) 0 ((y).length), L ++ [.row (.f32 y) 0])
  | _ => .fail
theorem impl_Matrix_middle_Fok : COk Try.prog 166 impl_Matrix_middle_F true := by
  intro F L H args r L' hs ha hr
  unfold impl_Matrix_middle_F at hr
  split at hr
  · rename_i v2805 v2806 a1
    obtain ⟨v2807, hv2807, hr⟩ := optT_run hr
    simp only [Tree.run] at hr
    obtain ⟨y, hy, hr⟩ := Option.bind_eq_some_iff.1 hr
    simp only [Tree.run, Option.some.injEq, Prod.mk.injEq] at hr
    obtain ⟨rfl, rfl⟩ := hr
    exact call_ok1 hs (fun k => (([a1.av F] : List AV)[k]?).getD .top) [.agg [.int .i64 v2805, .int .i64 v2806, a1]] [.agg [.int .i64 v2805, .int .i64 v2806, .bslc (BR.root 0) (.f32 v2807)]] (fun F' h0 hi hρ => ⟨by simp [DVs.av, DV.av, BR.av, hρ], impl_Matrix_middle_fn v2805 v2806 v2807 F' (by rw [hi]; rfl) (st_nil hi) ⟨⟨trivial, trivial, bslc_ok hi (by rw [h0, hρ]; exact rowF32_ok hs (DVs.okAt (DVs.okAt ha 0 rfl) 2 rfl) hv2807), trivial⟩, trivial⟩ hy⟩) rfl rfl
  · cases hr
/-! slices.Index[list of float32,float32] -/
noncomputable def slices_IndexF_l0_T (v2820 : List Nat) (v2821 : Nat) (s : Int) : Tree ((Int) ⊕ ((Int) ⊕ (Unit))) :=
  (.br (decide (s < ((v2820.length : Nat) : Int))) (
   (.grd (inb s v2820.length) <|
   (.br (feq .f32 v2821 (nth v2820 (Int.toNat s))) (
    .leaf (.inr (.inl s))
   ) (
    .leaf (.inl (IntKind.i64.wrap (s + (1 : Int))))
   )))
  ) (
   .leaf (.inr (.inr ()))
  ))

noncomputable def slices_IndexF_l0_g (v2820 : List Nat) (v2821 : Nat) (s0 : Int) : Option ((Int) ⊕ (Unit)) := whileM (fun s => (slices_IndexF_l0_T v2820 v2821 s).run) s0
def slices_IndexF_l0_E (v2820 : List Nat) (v2821 : Nat) (s : Int) : Sd := ([.bslc (BR.root 0) (.f32 v2820), .flt .f32 v2821, .top, .top, .top, .top, .top, .int .i64 ((v2820.length : Nat) : Int), .int .i64 s, .top, .top, .top, .top, .top, .top, .top, .top, .top, .top], [])
def slices_IndexF_l0_X (v2820 : List Nat) (v2821 : Nat) (x : (Int) ⊕ (Unit)) : Out := (match x with | .inl x => (.ret, [.top, .top, .top, .top, .int .i64 x, .top, .top, .top, .top, .top, .top, .top, .top, .top, .top, .top, .top, .top, .top], []) | .inr x => (.normal, [.top, .top, .top, .top, .top, .top, .top, .top, .top, .top, .top, .top, .top, .top, .top, .top, .top, .top, .top], []))
def slices_IndexF_l0_kill : List Nat := [0, 0, 1, 1, 1, 1, 1, 0, 0, 1, 1, 1, 1, 1, 1, 1, 1, 1, 1]
def slices_IndexF_l0_nx : Exit → List Nat
  | .exit 0 => [1, 1, 1, 1, 1, 1, 1, 1, 1, 1, 1, 1, 1, 1, 1, 1, 1, 1, 1]
  | .ret => [1, 1, 1, 1, 0, 1, 1, 1, 1, 1, 1, 1, 1, 1, 1, 1, 1, 1, 1]
  | _ => []
noncomputable def slices_IndexF_LO (v2820 : List Nat) (v2821 : Nat) : LOr := fun id e L =>
  match id with
  | 0 => .need (normA 0 slices_IndexF_l0_kill e L = some (slices_IndexF_l0_E v2820 v2821 (gI (vAt e 8)))) (.call (slices_IndexF_l0_g v2820 v2821 (gI (vAt e 8))) fun x => .sum x (fun b0 => .leaf (slices_IndexF_l0_X v2820 v2821 (.inl b0))) (fun c0 => .leaf (slices_IndexF_l0_X v2820 v2821 (.inr c0))))
  | _ => .fail
noncomputable def slices_IndexF_tab : List (FuncId × DFn × Bool) := []
theorem slices_IndexF_hO : OrcOk Try.prog (tabD slices_IndexF_tab) (tabM slices_IndexF_tab) := tabD_nil _
theorem slices_IndexF_l0_be (v2820 : List Nat) (v2821 : Nat) (s : Int) : bodyT TT (tabD slices_IndexF_tab) (tabM slices_IndexF_tab) (slices_IndexF_LO v2820 v2821) 0 slices_IndexF_l0_kill slices_IndexF_l0_nx (bodyOf Try.f176 0) 0 (slices_IndexF_l0_E v2820 v2821 s) = (slices_IndexF_l0_T v2820 v2821 s).bind fun y => .leaf (outS (slices_IndexF_l0_E v2820 v2821) (slices_IndexF_l0_X v2820 v2821) y) := by kernel_rfl
theorem slices_IndexF_l0_ok (v2820 : List Nat) (v2821 : Nat) : LSound Try.prog 0 (slices_IndexF_LO v2820 v2821) 0 (bodyOf Try.f176 0) := by
  intro e L out h
  exact lo_ok (E := slices_IndexF_l0_E v2820 v2821) (gT := slices_IndexF_l0_T v2820 v2821) (X := slices_IndexF_l0_X v2820 v2821) (s0 := (gI (vAt e 8))) tok slices_IndexF_hO mixed (LoopsOk_eq (l := []) (by kernel_rfl) trivial) (slices_IndexF_l0_be v2820 v2821) rfl (by intro x; (cases x with | inl b => rfl | inr x => exact rfl)) h
noncomputable def slices_IndexF_T (v2820 : List Nat) (v2821 : Nat) : Tree (Int) :=
  (.need (some (slices_IndexF_l0_E v2820 v2821 (0 : Int)) = some (slices_IndexF_l0_E v2820 v2821 (0 : Int))) <|
  (.call (slices_IndexF_l0_g v2820 v2821 (0 : Int)) fun v2825 =>
  (.sum v2825 (fun v2826 =>
   .leaf v2826
  ) (fun v2827 =>
   .leaf (-1 : Int)
  ))))

noncomputable def slices_IndexF_g (v2820 : List Nat) (v2821 : Nat) : Option (Int) := (slices_IndexF_T v2820 v2821).run
def slices_IndexF_enc (v2820 : List Nat) (v2821 : Nat) (y : Int) : Rs := (.int .i64 y, [])
theorem slices_IndexF_den (v2820 : List Nat) (v2821 : Nat) : (den TT (tabD slices_IndexF_tab) (tabM slices_IndexF_tab) (slices_IndexF_LO v2820 v2821) (codeOf Try.f176) ([.bslc (BR.root 0) (.f32 v2820), .flt .f32 v2821] ++ List.replicate (Try.f176.ntmps - ([.bslc (BR.root 0) (.f32 v2820), .flt .f32 v2821] : List DV).length) .undef) []).bind (retD TT Try.f176.results.toList 0) = (slices_IndexF_T v2820 v2821).bind fun y => .leaf (slices_IndexF_enc v2820 v2821 y) := by kernel_rfl
theorem slices_IndexF_fn (v2820 : List Nat) (v2821 : Nat) (F : Fr) (hm : F.ids.length = 0) (h0 : St F [] F.H0) (hA : DVs.Ok F [] [.bslc (BR.root 0) (.f32 v2820), .flt .f32 v2821]) {y : Int} (hy : slices_IndexF_g v2820 v2821 = some y) : ∃ H', FnOk Try.prog 176 (DVs.av F [.bslc (BR.root 0) (.f32 v2820), .flt .f32 v2821]) F.H0 ((slices_IndexF_enc v2820 v2821 y).1.av F) H' ∧ St F (slices_IndexF_enc v2820 v2821 y).2 H' ∧ (slices_IndexF_enc v2820 v2821 y).1.Ok F (slices_IndexF_enc v2820 v2821 y).2 :=
  fn_fin tok slices_IndexF_hO mixed Try.func176 Try.call176 (by kernel_rfl) (LoopsOk_eq (l := [(0, bodyOf Try.f176 0)]) (by kernel_rfl) ⟨slices_IndexF_l0_ok v2820 v2821, trivial⟩) (slices_IndexF_den v2820 v2821) hy hm h0 hA
noncomputable def slices_IndexF_F : DFn := fun args L =>
  match args with
  | [a1, .flt .f32 v2821] =>
    optT (rowF32 L a1) fun v2820 =>
    .call (slices_IndexF_g v2820 v2821) fun y => .leaf (.int .i64 y, L)
  | _ => .fail
theorem slices_IndexF_Fok : COk Try.prog 176 slices_IndexF_F true := by
  intro F L H args r L' hs ha hr
  unfold slices_IndexF_F at hr
  split at hr
  · rename_i a1 v2821
    obtain ⟨v2820, hv2820, hr⟩ := optT_run hr
    simp only [Tree.run] at hr
    obtain ⟨y, hy, hr⟩ := Option.bind_eq_some_iff.1 hr
    simp only [Tree.run, Option.some.injEq, Prod.mk.injEq] at hr
    obtain ⟨rfl, rfl⟩ := hr
    exact call_ok0 hs (fun k => (([a1.av F] : List AV)[k]?).getD .top) [a1, .flt .f32 v2821] [.bslc (BR.root 0) (.f32 v2820), .flt .f32 v2821] (fun F' h0 hi hρ => ⟨by simp [DVs.av, DV.av, BR.av, hρ], slices_IndexF_fn v2820 v2821 F' (by rw [hi]; rfl) (st_nil hi) ⟨bslc_ok hi (by rw [h0, hρ]; exact rowF32_ok hs (DVs.okAt ha 0 rfl) hv2820), trivial, trivial⟩ hy⟩) rfl
  · cases hr
/-! slices.Contains[list of float32,float32] -/
noncomputable def slices_ContainsF_LO (v2818 : List Nat) (v2819 : Nat) : LOr := fun id e L =>
  match id with
  | _ => .fail
noncomputable def slices_ContainsF_tab : List (FuncId × DFn × Bool) := [(176, slices_IndexF_F, true)]
theorem slices_ContainsF_hO : OrcOk Try.prog (tabD slices_ContainsF_tab) (tabM slices_ContainsF_tab) := tabD_cons slices_IndexF_Fok (tabD_nil _)
noncomputable def slices_ContainsF_T (v2818 : List Nat) (v2819 : Nat) : Tree (Bool) :=
  (.call (slices_IndexF_g v2818 v2819) fun v2828 =>
  .leaf (decide ((0 : Int) ≤ v2828)))

noncomputable def slices_ContainsF_g (v2818 : List Nat) (v2819 : Nat) : Option (Bool) := (slices_ContainsF_T v2818 v2819).run
def slices_ContainsF_enc (v2818 : List Nat) (v2819 : Nat) (y : Bool) : Rs := (.bool y, [])
theorem slices_ContainsF_den (v2818 : List Nat) (v2819 : Nat) : (den TT (tabD slices_ContainsF_tab) (tabM slices_ContainsF_tab) (slices_ContainsF_LO v2818 v2819) (codeOf Try.f155) ([.bslc (BR.root 0) (.f32 v2818), .flt .f32 v2819] ++ List.replicate (Try.f155.ntmps - ([.bslc (BR.root 0) (.f32 v2818), .flt .f32 v2819] : List DV).length) .undef) []).bind (retD TT Try.f155.results.toList 0) = (slices_ContainsF_T v2818 v2819).bind fun y => .leaf (slices_ContainsF_enc v2818 v2819 y) := by kernel_rfl
theorem slices_ContainsF_fn (v2818 : List Nat) (v2819 : Nat) (F : Fr) (hm : F.ids.length = 0) (h0 : St F [] F.H0) (hA : DVs.Ok F [] [.bslc (BR.root 0) (.f32 v2818), .flt .f32 v2819]) {y : Bool} (hy : slices_ContainsF_g v2818 v2819 = some y) : ∃ H', FnOk Try.prog 155 (DVs.av F [.bslc (BR.root 0) (.f32 v2818), .flt .f32 v2819]) F.H0 ((slices_ContainsF_enc v2818 v2819 y).1.av F) H' ∧ St F (slices_ContainsF_enc v2818 v2819 y).2 H' ∧ (slices_ContainsF_enc v2818 v2819 y).1.Ok F (slices_ContainsF_enc v2818 v2819 y).2 :=
  fn_fin tok slices_ContainsF_hO mixed Try.func155 Try.call155 (by kernel_rfl) (LoopsOk_eq (l := []) (by kernel_rfl) trivial) (slices_ContainsF_den v2818 v2819) hy hm h0 hA
noncomputable def slices_ContainsF_F : DFn := fun args L =>
  match args with
  | [a1, .flt .f32 v2819] =>
    optT (rowF32 L a1) fun v2818 =>
    .call (slices_ContainsF_g v2818 v2819) fun y => .leaf (.bool y, L)
  | _ => .fail
theorem slices_ContainsF_Fok : COk Try.prog 155 slices_ContainsF_F true := by
  intro F L H args r L' hs ha hr
  unfold slices_ContainsF_F at hr
  split at hr
  · rename_i a1 v2819
    obtain ⟨v2818, hv2818, hr⟩ := optT_run hr
    simp only [Tree.run] at hr
    obtain ⟨y, hy, hr⟩ := Option.bind_eq_some_iff.1 hr
    simp only [Tree.run, Option.some.injEq, Prod.mk.injEq] at hr
    obtain ⟨rfl, rfl⟩ := hr
    exact call_ok0 hs (fun k => (([a1.av F] : List AV)[k]?).getD .top) [a1, .flt .f32 v2819] [.bslc (BR.root 0) (.f32 v2818), .flt .f32 v2819] (fun F' h0 hi hρ => ⟨by simp [DVs.av, DV.av, BR.av, hρ], slices_ContainsF_fn v2818 v2819 F' (by rw [hi]; rfl) (st_nil hi) ⟨bslc_ok hi (by rw [h0, hρ]; exact rowF32_ok hs (DVs.okAt ha 0 rfl) hv2818), trivial, trivial⟩ hy⟩) rfl
  · cases hr
/-! (impl.Matrix).lessRow -/
noncomputable def impl_Matrix_lessRow_l0_T (v2837 : Int) (v2838 : List Nat) (v2840 : Int) (v2842 : Int) (v2843 : List Nat) (s : Nat × Int) : Tree ((Nat × Int) ⊕ (Nat)) :=
  (.br (decide (s.2 < v2842)) (
   (.call (impl_Matrix_at_g v2837 v2838 v2840 s.2) fun v2852 =>
   (.grd (inb s.2 v2843.length) <|
   .leaf (.inl (fsub .f32 s.1 (impl_mul_v v2852 (nth v2843 (Int.toNat s.2))), IntKind.i64.wrap (s.2 + (1 : Int))))))
  ) (
   .leaf (.inr s.1)
  ))

noncomputable def impl_Matrix_lessRow_l0_g (v2837 : Int) (v2838 : List Nat) (v2840 : Int) (v2842 : Int) (v2843 : List Nat) (s0 : Nat × Int) : Option (Nat) := whileM (fun s => (impl_Matrix_lessRow_l0_T v2837 v2838 v2840 v2842 v2843 s).run) s0
def impl_Matrix_lessRow_l0_E (v2836 : Int) (v2837 : Int) (v2838 : List Nat) (v2839 : Nat) (v2840 : Int) (v2841 : Int) (v2842 : Int) (v2843 : List Nat) (s : Nat × Int) : Sd := ([.top, .flt .f32 s.1, .int .i64 v2840, .top, .int .i64 v2842, .bslc (BR.root 1) (.f32 v2843), .ptr 0 (0 : Nat) 0 (3 : Nat), .top, .top, .top, .top, .top, .top, .int .i64 s.2, .top, .top, .top, .top, .top, .top, .top, .top, .top, .top, .top, .top, .top, .top, .top, .top, .top, .top], [.gen [.int .i64 v2836, .int .i64 v2837, .bslc (BR.root 0) (.f32 v2838)] false 0])
def impl_Matrix_lessRow_l0_X (v2836 : Int) (v2837 : Int) (v2838 : List Nat) (v2839 : Nat) (v2840 : Int) (v2841 : Int) (v2842 : Int) (v2843 : List Nat) (x : Nat) : Out := (.normal, [.top, .flt .f32 x, .top, .top, .top, .top, .top, .top, .top, .top, .top, .top, .top, .top, .top, .top, .top, .top, .top, .top, .top, .top, .top, .top, .top, .top, .top, .top, .top, .top, .top, .top], [])
def impl_Matrix_lessRow_l0_kill : List Nat := [1, 0, 0, 1, 0, 0, 0, 1, 1, 1, 1, 1, 1, 0, 1, 1, 1, 1, 1, 1, 1, 1, 1, 1, 1, 1, 1, 1, 1, 1, 1, 1]
def impl_Matrix_lessRow_l0_nx : Exit → List Nat
  | .exit 0 => [1, 0, 1, 1, 1, 1, 1, 1, 1, 1, 1, 1, 1, 1, 1, 1, 1, 1, 1, 1, 1, 1, 1, 1, 1, 1, 1, 1, 1, 1, 1, 1]
  | .ret => [1, 1, 1, 1, 1, 1, 1, 1, 1, 1, 1, 1, 0, 1, 1, 1, 1, 1, 1, 1, 1, 1, 1, 1, 1, 1, 1, 1, 1, 1, 1, 1]
  | _ => []
noncomputable def impl_Matrix_lessRow_LO (v2836 : Int) (v2837 : Int) (v2838 : List Nat) (v2839 : Nat) (v2840 : Int) (v2841 : Int) (v2842 : Int) (v2843 : List Nat) : LOr := fun id e L =>
  match id with
  | 0 => .need (normA 0 impl_Matrix_lessRow_l0_kill e L = some (impl_Matrix_lessRow_l0_E v2836 v2837 v2838 v2839 v2840 v2841 v2842 v2843 ((gF (vAt e 1)), (gI (vAt e 13))))) (.call (impl_Matrix_lessRow_l0_g v2837 v2838 v2840 v2842 v2843 ((gF (vAt e 1)), (gI (vAt e 13)))) fun x => .leaf (impl_Matrix_lessRow_l0_X v2836 v2837 v2838 v2839 v2840 v2841 v2842 v2843 x))
  | _ => .fail
noncomputable def impl_Matrix_lessRow_tab : List (FuncId × DFn × Bool) := [(64, impl_Matrix_at_F, true), (65, impl_mul_F, true)]
theorem impl_Matrix_lessRow_hO : OrcOk Try.prog (tabD impl_Matrix_lessRow_tab) (tabM impl_Matrix_lessRow_tab) := tabD_cons impl_Matrix_at_Fok (tabD_cons impl_mul_Fok (tabD_nil _))
theorem impl_Matrix_lessRow_l0_be (v2836 : Int) (v2837 : Int) (v2838 : List Nat) (v2839 : Nat) (v2840 : Int) (v2841 : Int) (v2842 : Int) (v2843 : List Nat) (s : Nat × Int) : bodyT TT (tabD impl_Matrix_lessRow_tab) (tabM impl_Matrix_lessRow_tab) (impl_Matrix_lessRow_LO v2836 v2837 v2838 v2839 v2840 v2841 v2842 v2843) 0 impl_Matrix_lessRow_l0_kill impl_Matrix_lessRow_l0_nx (bodyOf Try.f179 0) 0 (impl_Matrix_lessRow_l0_E v2836 v2837 v2838 v2839 v2840 v2841 v2842 v2843 s) = (impl_Matrix_lessRow_l0_T v2837 v2838 v2840 v2842 v2843 s).bind fun y => .leaf (outS (impl_Matrix_lessRow_l0_E v2836 v2837 v2838 v2839 v2840 v2841 v2842 v2843) (impl_Matrix_lessRow_l0_X v2836 v2837 v2838 v2839 v2840 v2841 v2842 v2843) y) := by kernel_rfl
theorem impl_Matrix_lessRow_l0_ok (v2836 : Int) (v2837 : Int) (v2838 : List Nat) (v2839 : Nat) (v2840 : Int) (v2841 : Int) (v2842 : Int) (v2843 : List Nat) : LSound Try.prog 0 (impl_Matrix_lessRow_LO v2836 v2837 v2838 v2839 v2840 v2841 v2842 v2843) 0 (bodyOf Try.f179 0) := by
  intro e L out h
  exact lo_ok (E := impl_Matrix_lessRow_l0_E v2836 v2837 v2838 v2839 v2840 v2841 v2842 v2843) (gT := impl_Matrix_lessRow_l0_T v2837 v2838 v2840 v2842 v2843) (X := impl_Matrix_lessRow_l0_X v2836 v2837 v2838 v2839 v2840 v2841 v2842 v2843) (s0 := ((gF (vAt e 1)), (gI (vAt e 13)))) tok impl_Matrix_lessRow_hO mixed (LoopsOk_eq (l := []) (by kernel_rfl) trivial) (impl_Matrix_lessRow_l0_be v2836 v2837 v2838 v2839 v2840 v2841 v2842 v2843) rfl (by intro x; rfl) h
noncomputable def impl_Matrix_lessRow_T (v2836 : Int) (v2837 : Int) (v2838 : List Nat) (v2839 : Nat) (v2840 : Int) (v2841 : Int) (v2842 : Int) (v2843 : List Nat) : Tree (Nat) :=
  (.need (some (impl_Matrix_lessRow_l0_E v2836 v2837 v2838 v2839 v2840 v2841 v2842 v2843 (v2839, v2841)) = some (impl_Matrix_lessRow_l0_E v2836 v2837 v2838 v2839 v2840 v2841 v2842 v2843 (v2839, v2841))) <|
  (.call (impl_Matrix_lessRow_l0_g v2837 v2838 v2840 v2842 v2843 (v2839, v2841)) fun v2853 =>
  .leaf v2853))

noncomputable def impl_Matrix_lessRow_g (v2836 : Int) (v2837 : Int) (v2838 : List Nat) (v2839 : Nat) (v2840 : Int) (v2841 : Int) (v2842 : Int) (v2843 : List Nat) : Option (Nat) := (impl_Matrix_lessRow_T v2836 v2837 v2838 v2839 v2840 v2841 v2842 v2843).run
def impl_Matrix_lessRow_enc (v2836 : Int) (v2837 : Int) (v2838 : List Nat) (v2839 : Nat) (v2840 : Int) (v2841 : Int) (v2842 : Int) (v2843 : List Nat) (y : Nat) : Rs := (.flt .f32 y, [])
theorem impl_Matrix_lessRow_den (v2836 : Int) (v2837 : Int) (v2838 : List Nat) (v2839 : Nat) (v2840 : Int) (v2841 : Int) (v2842 : Int) (v2843 : List Nat) : (den TT (tabD impl_Matrix_lessRow_tab) (tabM impl_Matrix_lessRow_tab) (impl_Matrix_lessRow_LO v2836 v2837 v2838 v2839 v2840 v2841 v2842 v2843) (codeOf Try.f179) ([.agg [.int .i64 v2836, .int .i64 v2837, .bslc (BR.root 0) (.f32 v2838)], .flt .f32 v2839, .int .i64 v2840, .int .i64 v2841, .int .i64 v2842, .bslc (BR.root 1) (.f32 v2843)] ++ List.replicate (Try.f179.ntmps - ([.agg [.int .i64 v2836, .int .i64 v2837, .bslc (BR.root 0) (.f32 v2838)], .flt .f32 v2839, .int .i64 v2840, .int .i64 v2841, .int .i64 v2842, .bslc (BR.root 1) (.f32 v2843)] : List DV).length) .undef) []).bind (retD TT Try.f179.results.toList 0) = (impl_Matrix_lessRow_T v2836 v2837 v2838 v2839 v2840 v2841 v2842 v2843).bind fun y => .leaf (impl_Matrix_lessRow_enc v2836 v2837 v2838 v2839 v2840 v2841 v2842 v2843 y) := by kernel_rfl
theorem impl_Matrix_lessRow_fn (v2836 : Int) (v2837 : Int) (v2838 : List Nat) (v2839 : Nat) (v2840 : Int) (v2841 : Int) (v2842 : Int) (v2843 : List Nat) (F : Fr) (hm : F.ids.length = 0) (h0 : St F [] F.H0) (hA : DVs.Ok F [] [.agg [.int .i64 v2836, .int .i64 v2837, .bslc (BR.root 0) (.f32 v2838)], .flt .f32 v2839, .int .i64 v2840, .int .i64 v2841, .int .i64 v2842, .bslc (BR.root 1) (.f32 v2843)]) {y : Nat} (hy : impl_Matrix_lessRow_g v2836 v2837 v2838 v2839 v2840 v2841 v2842 v2843 = some y) : ∃ H', FnOk Try.prog 179 (DVs.av F [.agg [.int .i64 v2836, .int .i64 v2837, .bslc (BR.root 0) (.f32 v2838)], .flt .f32 v2839, .int .i64 v2840, .int .i64 v2841, .int .i64 v2842, .bslc (BR.root 1) (.f32 v2843)]) F.H0 ((impl_Matrix_lessRow_enc v2836 v2837 v2838 v2839 v2840 v2841 v2842 v2843 y).1.av F) H' ∧ St F (impl_Matrix_lessRow_enc v2836 v2837 v2838 v2839 v2840 v2841 v2842 v2843 y).2 H' ∧ (impl_Matrix_lessRow_enc v2836 v2837 v2838 v2839 v2840 v2841 v2842 v2843 y).1.Ok F (impl_Matrix_lessRow_enc v2836 v2837 v2838 v2839 v2840 v2841 v2842 v2843 y).2 :=
  fn_fin tok impl_Matrix_lessRow_hO mixed Try.func179 Try.call179 (by kernel_rfl) (LoopsOk_eq (l := [(0, bodyOf Try.f179 0)]) (by kernel_rfl) ⟨impl_Matrix_lessRow_l0_ok v2836 v2837 v2838 v2839 v2840 v2841 v2842 v2843, trivial⟩) (impl_Matrix_lessRow_den v2836 v2837 v2838 v2839 v2840 v2841 v2842 v2843) hy hm h0 hA
noncomputable def impl_Matrix_lessRow_F : DFn := fun args L =>
  match args with
  | [.agg [.int .i64 v2836, .int .i64 v2837, a1], .flt .f32 v2839, .int .i64 v2840, .int .i64 v2841, .int .i64 v2842, a2] =>
    optT (rowF32 L a1) fun v2838 =>
    optT (rowF32 L a2) fun v2843 =>
    .call (impl_Matrix_lessRow_g v2836 v2837 v2838 v2839 v2840 v2841 v2842 v2843) fun y => .leaf (.flt .f32 y, L)
  | _ => .fail
theorem impl_Matrix_lessRow_Fok : COk Try.prog 179 impl_Matrix_lessRow_F true := by
  intro F L H args r L' hs ha hr
  unfold impl_Matrix_lessRow_F at hr
  split at hr
  · rename_i v2836 v2837 a1 v2839 v2840 v2841 v2842 a2
    obtain ⟨v2838, hv2838, hr⟩ := optT_run hr
    obtain ⟨v2843, hv2843, hr⟩ := optT_run hr
    simp only [Tree.run] at hr
    obtain ⟨y, hy, hr⟩ := Option.bind_eq_some_iff.1 hr
    simp only [Tree.run, Option.some.injEq, Prod.mk.injEq] at hr
    obtain ⟨rfl, rfl⟩ := hr
    exact call_ok0 hs (fun k => (([a1.av F, a2.av F] : List AV)[k]?).getD .top) [.agg [.int .i64 v2836, .int .i64 v2837, a1], .flt .f32 v2839, .int .i64 v2840, .int .i64 v2841, .int .i64 v2842, a2] [.agg [.int .i64 v2836, .int .i64 v2837, .bslc (BR.root 0) (.f32 v2838)], .flt .f32 v2839, .int .i64 v2840, .int .i64 v2841, .int .i64 v2842, .bslc (BR.root 1) (.f32 v2843)] (fun F' h0 hi hρ => ⟨by simp [DVs.av, DV.av, BR.av, hρ], impl_Matrix_lessRow_fn v2836 v2837 v2838 v2839 v2840 v2841 v2842 v2843 F' (by rw [hi]; rfl) (st_nil hi) ⟨⟨trivial, trivial, bslc_ok hi (by rw [h0, hρ]; exact rowF32_ok hs (DVs.okAt (DVs.okAt ha 0 rfl) 2 rfl) hv2838), trivial⟩, trivial, trivial, trivial, trivial, bslc_ok hi (by rw [h0, hρ]; exact rowF32_ok hs (DVs.okAt ha 5 rfl) hv2843), trivial⟩ hy⟩) rfl
  · cases hr
/-! (impl.Matrix).upperSolve -/
noncomputable def impl_Matrix_upperSolve_l0_T (v2830 : Int) (v2831 : Int) (v2832 : List Nat) (s : Int × (List Nat)) : Tree ((Int × (List Nat)) ⊕ ((List Nat))) :=
  (.br (decide ((0 : Int) ≤ s.1)) (
   (.grd (inb s.1 ((s.2).length)) <|
   (.call (impl_Matrix_lessRow_g v2830 v2831 v2832 (nth s.2 (Int.toNat s.1)) s.1 (IntKind.i64.wrap (s.1 + (1 : Int))) v2831 s.2) fun v2862 =>
   (.call (impl_Matrix_at_g v2831 v2832 s.1 s.1) fun v2863 =>
   (.grd (inb s.1 ((s.2).length)) <|
   .leaf (.inl (IntKind.i64.wrap (s.1 - (1 : Int)), List.set s.2 (Int.toNat s.1) (fdiv .f32 v2862 v2863)))))))
  ) (
   .leaf (.inr s.2)
  ))

noncomputable def impl_Matrix_upperSolve_l0_g (v2830 : Int) (v2831 : Int) (v2832 : List Nat) (s0 : Int × (List Nat)) : Option ((List Nat)) := whileM (fun s => (impl_Matrix_upperSolve_l0_T v2830 v2831 v2832 s).run) s0
def impl_Matrix_upperSolve_l0_E (v2830 : Int) (v2831 : Int) (v2832 : List Nat) (v2833 : List Nat) (s : Int × (List Nat)) : Sd := ([.top, .top, .ptr 0 (0 : Nat) 0 (3 : Nat), .top, .top, .own 1 0 ((s.2).length), .int .i64 s.1, .top, .top, .top, .top, .top, .top, .top, .top, .top, .top, .top, .top, .top, .top, .top, .top, .top, .top, .top, .top, .top, .top, .top, .top, .top, .top, .top, .top, .top, .top], [.gen [.int .i64 v2830, .int .i64 v2831, .bslc (BR.root 0) (.f32 v2832)] false 0, .row (.f32 s.2) 0])
def impl_Matrix_upperSolve_l0_X (v2830 : Int) (v2831 : Int) (v2832 : List Nat) (v2833 : List Nat) (x : (List Nat)) : Out := (.normal, [.top, .top, .top, .top, .top, .own 0 0 ((x).length), .top, .top, .top, .top, .top, .top, .top, .top, .top, .top, .top, .top, .top, .top, .top, .top, .top, .top, .top, .top, .top, .top, .top, .top, .top, .top, .top, .top, .top, .top, .top], [.row (.f32 x) 0])
def impl_Matrix_upperSolve_l0_kill : List Nat := [1, 1, 0, 1, 1, 0, 0, 1, 1, 1, 1, 1, 1, 1, 1, 1, 1, 1, 1, 1, 1, 1, 1, 1, 1, 1, 1, 1, 1, 1, 1, 1, 1, 1, 1, 1, 1]
def impl_Matrix_upperSolve_l0_nx : Exit → List Nat
  | .exit 0 => [1, 1, 1, 1, 1, 0, 1, 1, 1, 1, 1, 1, 1, 1, 1, 1, 1, 1, 1, 1, 1, 1, 1, 1, 1, 1, 1, 1, 1, 1, 1, 1, 1, 1, 1, 1, 1]
  | .ret => [1, 1, 1, 1, 0, 1, 1, 1, 1, 1, 1, 1, 1, 1, 1, 1, 1, 1, 1, 1, 1, 1, 1, 1, 1, 1, 1, 1, 1, 1, 1, 1, 1, 1, 1, 1, 1]
  | _ => []
noncomputable def impl_Matrix_upperSolve_LO (v2830 : Int) (v2831 : Int) (v2832 : List Nat) (v2833 : List Nat) : LOr := fun id e L =>
  match id with
  | 0 => .need (normA 0 impl_Matrix_upperSolve_l0_kill e L = some (impl_Matrix_upperSolve_l0_E v2830 v2831 v2832 v2833 ((gI (vAt e 6)), (gRF L (vAt e 5))))) (.call (impl_Matrix_upperSolve_l0_g v2830 v2831 v2832 ((gI (vAt e 6)), (gRF L (vAt e 5)))) fun x => .leaf (impl_Matrix_upperSolve_l0_X v2830 v2831 v2832 v2833 x))
  | _ => .fail
noncomputable def impl_Matrix_upperSolve_tab : List (FuncId × DFn × Bool) := [(105, slices_CloneF_F, true), (179, impl_Matrix_lessRow_F, true), (64, impl_Matrix_at_F, true)]
theorem impl_Matrix_upperSolve_hO : OrcOk Try.prog (tabD impl_Matrix_upperSolve_tab) (tabM impl_Matrix_upperSolve_tab) := tabD_cons slices_CloneF_Fok (tabD_cons impl_Matrix_lessRow_Fok (tabD_cons impl_Matrix_at_Fok (tabD_nil _)))
theorem impl_Matrix_upperSolve_l0_be (v2830 : Int) (v2831 : Int) (v2832 : List Nat) (v2833 : List Nat) (s : Int × (List Nat)) : bodyT TT (tabD impl_Matrix_upperSolve_tab) (tabM impl_Matrix_upperSolve_tab) (impl_Matrix_upperSolve_LO v2830 v2831 v2832 v2833) 0 impl_Matrix_upperSolve_l0_kill impl_Matrix_upperSolve_l0_nx (bodyOf Try.f167 0) 0 (impl_Matrix_upperSolve_l0_E v2830 v2831 v2832 v2833 s) = (impl_Matrix_upperSolve_l0_T v2830 v2831 v2832 s).bind fun y => .leaf (outS (impl_Matrix_upperSolve_l0_E v2830 v2831 v2832 v2833) (impl_Matrix_upperSolve_l0_X v2830 v2831 v2832 v2833) y) := by kernel_rfl
theorem impl_Matrix_upperSolve_l0_ok (v2830 : Int) (v2831 : Int) (v2832 : List Nat) (v2833 : List Nat) : LSound Try.prog 0 (impl_Matrix_upperSolve_LO v2830 v2831 v2832 v2833) 0 (bodyOf Try.f167 0) := by
  intro e L out h
  exact lo_ok (E := impl_Matrix_upperSolve_l0_E v2830 v2831 v2832 v2833) (gT := impl_Matrix_upperSolve_l0_T v2830 v2831 v2832) (X := impl_Matrix_upperSolve_l0_X v2830 v2831 v2832 v2833) (s0 := ((gI (vAt e 6)), (gRF L (vAt e 5)))) tok impl_Matrix_upperSolve_hO mixed (LoopsOk_eq (l := []) (by kernel_rfl) trivial) (impl_Matrix_upperSolve_l0_be v2830 v2831 v2832 v2833) rfl (by intro x; rfl) h
noncomputable def impl_Matrix_upperSolve_T (v2830 : Int) (v2831 : Int) (v2832 : List Nat) (v2833 : List Nat) : Tree ((List Nat)) :=
  (.call (slices_CloneF_g v2833) fun v2834 =>
  (.need (some (impl_Matrix_upperSolve_l0_E v2830 v2831 v2832 v2833 (IntKind.i64.wrap (v2830 - (1 : Int)), ([] : List Nat) ++ v2833)) = some (impl_Matrix_upperSolve_l0_E v2830 v2831 v2832 v2833 (IntKind.i64.wrap (v2830 - (1 : Int)), ([] : List Nat) ++ v2833))) <|
  (.call (impl_Matrix_upperSolve_l0_g v2830 v2831 v2832 (IntKind.i64.wrap (v2830 - (1 : Int)), ([] : List Nat) ++ v2833)) fun v2864 =>
  .leaf v2864)))

noncomputable def impl_Matrix_upperSolve_g (v2830 : Int) (v2831 : Int) (v2832 : List Nat) (v2833 : List Nat) : Option ((List Nat)) := (impl_Matrix_upperSolve_T v2830 v2831 v2832 v2833).run
def impl_Matrix_upperSolve_enc (v2830 : Int) (v2831 : Int) (v2832 : List Nat) (v2833 : List Nat) (y : (List Nat)) : Rs := (.own 0 0 ((y).length), [.row (.f32 y) 0])
theorem impl_Matrix_upperSolve_den (v2830 : Int) (v2831 : Int) (v2832 : List Nat) (v2833 : List Nat) : (den TT (tabD impl_Matrix_upperSolve_tab) (tabM impl_Matrix_upperSolve_tab) (impl_Matrix_upperSolve_LO v2830 v2831 v2832 v2833) (codeOf Try.f167) ([.agg [.int .i64 v2830, .int .i64 v2831, .bslc (BR.root 0) (.f32 v2832)], .bslc (BR.root 1) (.f32 v2833)] ++ List.replicate (Try.f167.ntmps - ([.agg [.int .i64 v2830, .int .i64 v2831, .bslc (BR.root 0) (.f32 v2832)], .bslc (BR.root 1) (.f32 v2833)] : List DV).length) .undef) []).bind (retD TT Try.f167.results.toList 0) = (impl_Matrix_upperSolve_T v2830 v2831 v2832 v2833).bind fun y => .leaf (impl_Matrix_upperSolve_enc v2830 v2831 v2832 v2833 y) := by kernel_rfl
theorem impl_Matrix_upperSolve_fn (v2830 : Int) (v2831 : Int) (v2832 : List Nat) (v2833 : List Nat) (F : Fr) (hm : F.ids.length = 0) (h0 : St F [] F.H0) (hA : DVs.Ok F [] [.agg [.int .i64 v2830, .int .i64 v2831, .bslc (BR.root 0) (.f32 v2832)], .bslc (BR.root 1) (.f32 v2833)]) {y : (List Nat)} (hy : impl_Matrix_upperSolve_g v2830 v2831 v2832 v2833 = some y) : ∃ H', FnOk Try.prog 167 (DVs.av F [.agg [.int .i64 v2830, .int .i64 v2831, .bslc (BR.root 0) (.f32 v2832)], .bslc (BR.root 1) (.f32 v2833)]) F.H0 ((impl_Matrix_upperSolve_enc v2830 v2831 v2832 v2833 y).1.av F) H' ∧ St F (impl_Matrix_upperSolve_enc v2830 v2831 v2832 v2833 y).2 H' ∧ (impl_Matrix_upperSolve_enc v2830 v2831 v2832 v2833 y).1.Ok F (impl_Matrix_upperSolve_enc v2830 v2831 v2832 v2833 y).2 :=
  fn_fin tok impl_Matrix_upperSolve_hO mixed Try.func167 Try.call167 (by kernel_rfl) (LoopsOk_eq (l := [(0, bodyOf Try.f167 0)]) (by kernel_rfl) ⟨impl_Matrix_upperSolve_l0_ok v2830 v2831 v2832 v2833, trivial⟩) (impl_Matrix_upperSolve_den v2830 v2831 v2832 v2833) hy hm h0 hA
noncomputable def impl_Matrix_upperSolve_F : DFn := fun args L =>
  match args with
  | [.agg [.int .i64 v2830, .int .i64 v2831, a1], a2] =>
    optT (rowF32 L a1) fun v2832 =>
    optT (rowF32 L a2) fun v2833 =>
    .call (impl_Matrix_upperSolve_g v2830 v2831 v2832 v2833) fun y => .leaf (.own (L.length + 0) 0 ((y).length), L ++ [.row (.f32 y) 0])
  | _ => .fail
theorem impl_Matrix_upperSolve_Fok : COk Try.prog 167 impl_Matrix_upperSolve_F true := by
  intro F L H args r L' hs ha hr
  unfold impl_Matrix_upperSolve_F at hr
  split at hr
  · rename_i v2830 v2831 a1 a2
    obtain ⟨v2832, hv2832, hr⟩ := optT_run hr
    obtain ⟨v2833, hv2833, hr⟩ := optT_run hr
    simp only [Tree.run] at hr
    obtain ⟨y, hy, hr⟩ := Option.bind_eq_some_iff.1 hr
    simp only [Tree.run, Option.some.injEq, Prod.mk.injEq] at hr
    obtain ⟨rfl, rfl⟩ := hr
    exact call_ok1 hs (fun k => (([a1.av F, a2.av F] : List AV)[k]?).getD .top) [.agg [.int .i64 v2830, .int .i64 v2831, a1], a2] [.agg [.int .i64 v2830, .int .i64 v2831, .bslc (BR.root 0) (.f32 v2832)], .bslc (BR.root 1) (.f32 v2833)] (fun F' h0 hi hρ => ⟨by simp [DVs.av, DV.av, BR.av, hρ], impl_Matrix_upperSolve_fn v2830 v2831 v2832 v2833 F' (by rw [hi]; rfl) (st_nil hi) ⟨⟨trivial, trivial, bslc_ok hi (by rw [h0, hρ]; exact rowF32_ok hs (DVs.okAt (DVs.okAt ha 0 rfl) 2 rfl) hv2832), trivial⟩, bslc_ok hi (by rw [h0, hρ]; exact rowF32_ok hs (DVs.okAt ha 1 rfl) hv2833), trivial⟩ hy⟩) rfl rfl
  · cases hr
/-! impl.allFinite -/
noncomputable def impl_allFinite_LO (v2866 : List Nat) : LOr := fun id e L =>
  match id with
  | _ => .fail
noncomputable def impl_allFinite_tab : List (FuncId × DFn × Bool) := [(68, impl_areFinite_F, true)]
theorem impl_allFinite_hO : OrcOk Try.prog (tabD impl_allFinite_tab) (tabM impl_allFinite_tab) := tabD_cons impl_areFinite_Fok (tabD_nil _)
noncomputable def impl_allFinite_T (v2866 : List Nat) : Tree ((Unit) ⊕ (Unit)) :=
  (.call (impl_areFinite_g v2866) fun v2867 =>
  (.br (!v2867) (
   .leaf (.inl ())
  ) (
   .leaf (.inr ())
  )))

noncomputable def impl_allFinite_g (v2866 : List Nat) : Option ((Unit) ⊕ (Unit)) := (impl_allFinite_T v2866).run
def impl_allFinite_enc (v2866 : List Nat) (y : (Unit) ⊕ (Unit)) : Rs := (match y with | .inl y => (.tup [.nilslc, .lit false], []) | .inr y => (.tup [.bslc (BR.root 0) (.f32 v2866), .lit true], []))
theorem impl_allFinite_den (v2866 : List Nat) : (den TT (tabD impl_allFinite_tab) (tabM impl_allFinite_tab) (impl_allFinite_LO v2866) (codeOf Try.f93) ([.bslc (BR.root 0) (.f32 v2866)] ++ List.replicate (Try.f93.ntmps - ([.bslc (BR.root 0) (.f32 v2866)] : List DV).length) .undef) []).bind (retD TT Try.f93.results.toList 0) = (impl_allFinite_T v2866).bind fun y => .leaf (impl_allFinite_enc v2866 y) := by kernel_rfl
theorem impl_allFinite_fn (v2866 : List Nat) (F : Fr) (hm : F.ids.length = 0) (h0 : St F [] F.H0) (hA : DVs.Ok F [] [.bslc (BR.root 0) (.f32 v2866)]) {y : (Unit) ⊕ (Unit)} (hy : impl_allFinite_g v2866 = some y) : ∃ H', FnOk Try.prog 93 (DVs.av F [.bslc (BR.root 0) (.f32 v2866)]) F.H0 ((impl_allFinite_enc v2866 y).1.av F) H' ∧ St F (impl_allFinite_enc v2866 y).2 H' ∧ (impl_allFinite_enc v2866 y).1.Ok F (impl_allFinite_enc v2866 y).2 :=
  fn_fin tok impl_allFinite_hO mixed Try.func93 Try.call93 (by kernel_rfl) (LoopsOk_eq (l := []) (by kernel_rfl) trivial) (impl_allFinite_den v2866) hy hm h0 hA
noncomputable def impl_allFinite_F : DFn := fun args L =>
  match args with
  | [a1] =>
    optT (rowF32 L a1) fun v2866 =>
    .call (impl_allFinite_g v2866) fun y => .sum y (fun y0 => .leaf (.tup [.nilslc, .lit false], L)) (fun z0 => .leaf (.tup [a1, .lit true], L))
  | _ => .fail
theorem impl_allFinite_Fok : COk Try.prog 93 impl_allFinite_F true := by
  intro F L H args r L' hs ha hr
  unfold impl_allFinite_F at hr
  split at hr
  · rename_i a1
    obtain ⟨v2866, hv2866, hr⟩ := optT_run hr
    simp only [Tree.run] at hr
    obtain ⟨y, hy, hr⟩ := Option.bind_eq_some_iff.1 hr
    cases y with
    | inl y =>
      simp only [Tree.run, Option.some.injEq, Prod.mk.injEq] at hr
      obtain ⟨rfl, rfl⟩ := hr
      exact call_ok0 hs (fun k => (([a1.av F] : List AV)[k]?).getD .top) [a1] [.bslc (BR.root 0) (.f32 v2866)] (fun F' h0 hi hρ => ⟨by simp [DVs.av, DV.av, BR.av, hρ], impl_allFinite_fn v2866 F' (by rw [hi]; rfl) (st_nil hi) ⟨bslc_ok hi (by rw [h0, hρ]; exact rowF32_ok hs (DVs.okAt ha 0 rfl) hv2866), trivial⟩ hy⟩) rfl
    | inr y =>
      simp only [Tree.run, Option.some.injEq, Prod.mk.injEq] at hr
      obtain ⟨rfl, rfl⟩ := hr
      exact call_al0 hs (fun k => (([a1.av F] : List AV)[k]?).getD .top) [a1] [.bslc (BR.root 0) (.f32 v2866)] (fun F' h0 hi hρ => ⟨by simp [DVs.av, DV.av, BR.av, hρ], impl_allFinite_fn v2866 F' (by rw [hi]; rfl) (st_nil hi) ⟨bslc_ok hi (by rw [h0, hρ]; exact rowF32_ok hs (DVs.okAt ha 0 rfl) hv2866), trivial⟩ hy⟩) (fun F' h0 hi hρ => by simp [impl_allFinite_enc, DVs.av, DV.av, BR.av, hρ]) ⟨(DVs.okAt ha 0 rfl), trivial, trivial⟩
  · cases hr
/-! impl.UpperSolve -/
noncomputable def impl_UpperSolve_LO (v2795 : Int) (v2796 : Int) (v2797 : List Nat) (v2798 : List Nat) : LOr := fun id e L =>
  match id with
  | _ => .fail
noncomputable def impl_UpperSolve_tab : List (FuncId × DFn × Bool) := [(62, impl_isSquare_F, true), (111, impl_IsVector_F, true), (112, impl_lengthF_F, true), (166, impl_Matrix_middle_F, true), (155, slices_ContainsF_F, true), (167, impl_Matrix_upperSolve_F, true), (93, impl_allFinite_F, true)]
theorem impl_UpperSolve_hO : OrcOk Try.prog (tabD impl_UpperSolve_tab) (tabM impl_UpperSolve_tab) := tabD_cons impl_isSquare_Fok (tabD_cons impl_IsVector_Fok (tabD_cons impl_lengthF_Fok (tabD_cons impl_Matrix_middle_Fok (tabD_cons slices_ContainsF_Fok (tabD_cons impl_Matrix_upperSolve_Fok (tabD_cons impl_allFinite_Fok (tabD_nil _)))))))
noncomputable def impl_UpperSolve_T (v2795 : Int) (v2796 : Int) (v2797 : List Nat) (v2798 : List Nat) : Tree ((Unit) ⊕ ((List Nat))) :=
  (.call (impl_isSquare_g v2795 v2796 v2797) fun v2803 =>
  (.br (!v2803) (
   .leaf (.inl ())
  ) (
   (.call (impl_IsVector_g v2798) fun v2804 =>
   (.br (!v2804) (
    .leaf (.inl ())
   ) (
    (.br (!decide ((impl_lengthF_v v2798) = v2795)) (
     .leaf (.inl ())
    ) (
     (.call (impl_Matrix_middle_g v2795 v2796 v2797) fun v2817 =>
     (.call (slices_ContainsF_g v2817 (0 : Nat)) fun v2829 =>
     (.br v2829 (
      .leaf (.inl ())
     ) (
      (.call (impl_Matrix_upperSolve_g v2795 v2796 v2797 v2798) fun v2865 =>
      (.call (impl_allFinite_g v2865) fun v2868 =>
      (.sum v2868 (fun v2869 =>
       .leaf (.inl ())
      ) (fun v2870 =>
       .leaf (.inr v2865)
      ))))
     ))))
    ))
   )))
  )))

noncomputable def impl_UpperSolve_g (v2795 : Int) (v2796 : Int) (v2797 : List Nat) (v2798 : List Nat) : Option ((Unit) ⊕ ((List Nat))) := (impl_UpperSolve_T v2795 v2796 v2797 v2798).run
def impl_UpperSolve_enc (v2795 : Int) (v2796 : Int) (v2797 : List Nat) (v2798 : List Nat) (y : (Unit) ⊕ ((List Nat))) : Rs := (match y with | .inl y => (.tup [.nilslc, .lit false], []) | .inr y => (.tup [.own 0 0 ((y).length), .lit true], [.row (.f32 y) 0]))
theorem impl_UpperSolve_den (v2795 : Int) (v2796 : Int) (v2797 : List Nat) (v2798 : List Nat) : (den TT (tabD impl_UpperSolve_tab) (tabM impl_UpperSolve_tab) (impl_UpperSolve_LO v2795 v2796 v2797 v2798) (codeOf Try.f131) ([.agg [.int .i64 v2795, .int .i64 v2796, .bslc (BR.root 0) (.f32 v2797)], .bslc (BR.root 1) (.f32 v2798)] ++ List.replicate (Try.f131.ntmps - ([.agg [.int .i64 v2795, .int .i64 v2796, .bslc (BR.root 0) (.f32 v2797)], .bslc (BR.root 1) (.f32 v2798)] : List DV).length) .undef) []).bind (retD TT Try.f131.results.toList 0) = (impl_UpperSolve_T v2795 v2796 v2797 v2798).bind fun y => .leaf (impl_UpperSolve_enc v2795 v2796 v2797 v2798 y) := by kernel_rfl
theorem impl_UpperSolve_fn (v2795 : Int) (v2796 : Int) (v2797 : List Nat) (v2798 : List Nat) (F : Fr) (hm : F.ids.length = 0) (h0 : St F [] F.H0) (hA : DVs.Ok F [] [.agg [.int .i64 v2795, .int .i64 v2796, .bslc (BR.root 0) (.f32 v2797)], .bslc (BR.root 1) (.f32 v2798)]) {y : (Unit) ⊕ ((List Nat))} (hy : impl_UpperSolve_g v2795 v2796 v2797 v2798 = some y) : ∃ H', FnOk Try.prog 131 (DVs.av F [.agg [.int .i64 v2795, .int .i64 v2796, .bslc (BR.root 0) (.f32 v2797)], .bslc (BR.root 1) (.f32 v2798)]) F.H0 ((impl_UpperSolve_enc v2795 v2796 v2797 v2798 y).1.av F) H' ∧ St F (impl_UpperSolve_enc v2795 v2796 v2797 v2798 y).2 H' ∧ (impl_UpperSolve_enc v2795 v2796 v2797 v2798 y).1.Ok F (impl_UpperSolve_enc v2795 v2796 v2797 v2798 y).2 :=
  fn_fin tok impl_UpperSolve_hO mixed Try.func131 Try.call131 (by kernel_rfl) (LoopsOk_eq (l := []) (by kernel_rfl) trivial) (impl_UpperSolve_den v2795 v2796 v2797 v2798) hy hm h0 hA
noncomputable def impl_UpperSolve_F : DFn := fun args L =>
  match args with
  | [.agg [.int .i64 v2795, .int .i64 v2796, a1], a2] =>
    optT (rowF32 L a1) fun v2797 =>
    optT (rowF32 L a2) fun v2798 =>
    .call (impl_UpperSolve_g v2795 v2796 v2797 v2798) fun y => .sum y (fun y0 => .leaf (.tup [.nilslc, .lit false], L)) (fun z0 => .leaf (.tup [.own (L.length + 0) 0 ((z0).length), .lit true], L ++ [.row (.f32 z0) 0]))
  | _ => .fail
theorem impl_UpperSolve_Fok : COk Try.prog 131 impl_UpperSolve_F true := by
  intro F L H args r L' hs ha hr
  unfold impl_UpperSolve_F at hr
  split at hr
  · rename_i v2795 v2796 a1 a2
    obtain ⟨v2797, hv2797, hr⟩ := optT_run hr
    obtain ⟨v2798, hv2798, hr⟩ := optT_run hr
    simp only [Tree.run] at hr
    obtain ⟨y, hy, hr⟩ := Option.bind_eq_some_iff.1 hr
    cases y with
    | inl y =>
      simp only [Tree.run, Option.some.injEq, Prod.mk.injEq] at hr
      obtain ⟨rfl, rfl⟩ := hr
      exact call_ok0 hs (fun k => (([a1.av F, a2.av F] : List AV)[k]?).getD .top) [.agg [.int .i64 v2795, .int .i64 v2796, a1], a2] [.agg [.int .i64 v2795, .int .i64 v2796, .bslc (BR.root 0) (.f32 v2797)], .bslc (BR.root 1) (.f32 v2798)] (fun F' h0 hi hρ => ⟨by simp [DVs.av, DV.av, BR.av, hρ], impl_UpperSolve_fn v2795 v2796 v2797 v2798 F' (by rw [hi]; rfl) (st_nil hi) ⟨⟨trivial, trivial, bslc_ok hi (by rw [h0, hρ]; exact rowF32_ok hs (DVs.okAt (DVs.okAt ha 0 rfl) 2 rfl) hv2797), trivial⟩, bslc_ok hi (by rw [h0, hρ]; exact rowF32_ok hs (DVs.okAt ha 1 rfl) hv2798), trivial⟩ hy⟩) rfl
    | inr y =>
      simp only [Tree.run, Option.some.injEq, Prod.mk.injEq] at hr
      obtain ⟨rfl, rfl⟩ := hr
      exact call_ok1 hs (fun k => (([a1.av F, a2.av F] : List AV)[k]?).getD .top) [.agg [.int .i64 v2795, .int .i64 v2796, a1], a2] [.agg [.int .i64 v2795, .int .i64 v2796, .bslc (BR.root 0) (.f32 v2797)], .bslc (BR.root 1) (.f32 v2798)] (fun F' h0 hi hρ => ⟨by simp [DVs.av, DV.av, BR.av, hρ], impl_UpperSolve_fn v2795 v2796 v2797 v2798 F' (by rw [hi]; rfl) (st_nil hi) ⟨⟨trivial, trivial, bslc_ok hi (by rw [h0, hρ]; exact rowF32_ok hs (DVs.okAt (DVs.okAt ha 0 rfl) 2 rfl) hv2797), trivial⟩, bslc_ok hi (by rw [h0, hρ]; exact rowF32_ok hs (DVs.okAt ha 1 rfl) hv2798), trivial⟩ hy⟩) rfl rfl
  · cases hr
/-! impl.LeastSquares -/
noncomputable def impl_LeastSquares_LO (v1905 : Int) (v1906 : Int) (v1907 : List Nat) (v1908 : List Nat) : LOr := fun id e L =>
  match id with
  | _ => .fail
noncomputable def impl_LeastSquares_tab : List (FuncId × DFn × Bool) := [(111, impl_IsVector_F, true), (112, impl_lengthF_F, true), (51, impl_MirrorFactor_F, true), (128, impl_Matrix_flip_F, true), (132, impl_Matrix_timesVector_F, true), (131, impl_UpperSolve_F, true)]
theorem impl_LeastSquares_hO : OrcOk Try.prog (tabD impl_LeastSquares_tab) (tabM impl_LeastSquares_tab) := tabD_cons impl_IsVector_Fok (tabD_cons impl_lengthF_Fok (tabD_cons impl_MirrorFactor_Fok (tabD_cons impl_Matrix_flip_Fok (tabD_cons impl_Matrix_timesVector_Fok (tabD_cons impl_UpperSolve_Fok (tabD_nil _))))))
noncomputable def impl_LeastSquares_T (v1905 : Int) (v1906 : Int) (v1907 : List Nat) (v1908 : List Nat) : Tree ((Unit) ⊕ ((List Nat))) :=
  (.call (impl_IsVector_g v1908) fun v1932 =>
  (.br (!v1932) (
   .leaf (.inl ())
  ) (
   (.br (!decide ((impl_lengthF_v v1908) = v1905)) (
    .leaf (.inl ())
   ) (
    (.call (impl_MirrorFactor_g v1905 v1906 v1907) fun v2675 =>
    (.sum v2675 (fun v2676 =>
     .leaf (.inl ())
    ) (fun v2677 =>
     (.call (impl_Matrix_flip_g v2677.1 v2677.2.1 v2677.2.2.2.2.1) fun v2771 =>
     (.call (impl_Matrix_timesVector_g v2771.1 v2771.2.1 v2771.2.2 v1908) fun v2794 =>
     (.call (impl_UpperSolve_g v2677.2.2.1 v2677.2.2.2.1 v2677.2.2.2.2.2 v2794) fun v2871 =>
     (.sum v2871 (fun v2872 =>
      .leaf (.inl ())
     ) (fun v2873 =>
      .leaf (.inr v2873)
     )))))
    )))
   ))
  )))

noncomputable def impl_LeastSquares_g (v1905 : Int) (v1906 : Int) (v1907 : List Nat) (v1908 : List Nat) : Option ((Unit) ⊕ ((List Nat))) := (impl_LeastSquares_T v1905 v1906 v1907 v1908).run
def impl_LeastSquares_enc (v1905 : Int) (v1906 : Int) (v1907 : List Nat) (v1908 : List Nat) (y : (Unit) ⊕ ((List Nat))) : Rs := (match y with | .inl y => (.tup [.nilslc, .lit false], []) | .inr y => (.tup [.own 0 0 ((y).length), .lit true], [.row (.f32 y) 0]))
theorem impl_LeastSquares_den (v1905 : Int) (v1906 : Int) (v1907 : List Nat) (v1908 : List Nat) : (den TT (tabD impl_LeastSquares_tab) (tabM impl_LeastSquares_tab) (impl_LeastSquares_LO v1905 v1906 v1907 v1908) (codeOf Try.f55) ([.agg [.int .i64 v1905, .int .i64 v1906, .bslc (BR.root 0) (.f32 v1907)], .bslc (BR.root 1) (.f32 v1908)] ++ List.replicate (Try.f55.ntmps - ([.agg [.int .i64 v1905, .int .i64 v1906, .bslc (BR.root 0) (.f32 v1907)], .bslc (BR.root 1) (.f32 v1908)] : List DV).length) .undef) []).bind (retD TT Try.f55.results.toList 0) = (impl_LeastSquares_T v1905 v1906 v1907 v1908).bind fun y => .leaf (impl_LeastSquares_enc v1905 v1906 v1907 v1908 y) := by kernel_rfl
theorem impl_LeastSquares_fn (v1905 : Int) (v1906 : Int) (v1907 : List Nat) (v1908 : List Nat) (F : Fr) (hm : F.ids.length = 0) (h0 : St F [] F.H0) (hA : DVs.Ok F [] [.agg [.int .i64 v1905, .int .i64 v1906, .bslc (BR.root 0) (.f32 v1907)], .bslc (BR.root 1) (.f32 v1908)]) {y : (Unit) ⊕ ((List Nat))} (hy : impl_LeastSquares_g v1905 v1906 v1907 v1908 = some y) : ∃ H', FnOk Try.prog 55 (DVs.av F [.agg [.int .i64 v1905, .int .i64 v1906, .bslc (BR.root 0) (.f32 v1907)], .bslc (BR.root 1) (.f32 v1908)]) F.H0 ((impl_LeastSquares_enc v1905 v1906 v1907 v1908 y).1.av F) H' ∧ St F (impl_LeastSquares_enc v1905 v1906 v1907 v1908 y).2 H' ∧ (impl_LeastSquares_enc v1905 v1906 v1907 v1908 y).1.Ok F (impl_LeastSquares_enc v1905 v1906 v1907 v1908 y).2 :=
  fn_fin tok impl_LeastSquares_hO mixed Try.func55 Try.call55 (by kernel_rfl) (LoopsOk_eq (l := []) (by kernel_rfl) trivial) (impl_LeastSquares_den v1905 v1906 v1907 v1908) hy hm h0 hA
noncomputable def impl_LeastSquares_F : DFn := fun args L =>
  match args with
  | [.agg [.int .i64 v1905, .int .i64 v1906, a1], a2] =>
    optT (rowF32 L a1) fun v1907 =>
    optT (rowF32 L a2) fun v1908 =>
    .call (impl_LeastSquares_g v1905 v1906 v1907 v1908) fun y => .sum y (fun y0 => .leaf (.tup [.nilslc, .lit false], L)) (fun z0 => .leaf (.tup [.own (L.length + 0) 0 ((z0).length), .lit true], L ++ [.row (.f32 z0) 0]))
  | _ => .fail
theorem impl_LeastSquares_Fok : COk Try.prog 55 impl_LeastSquares_F true := by
  intro F L H args r L' hs ha hr
  unfold impl_LeastSquares_F at hr
  split at hr
  · rename_i v1905 v1906 a1 a2
    obtain ⟨v1907, hv1907, hr⟩ := optT_run hr
    obtain ⟨v1908, hv1908, hr⟩ := optT_run hr
    simp only [Tree.run] at hr
    obtain ⟨y, hy, hr⟩ := Option.bind_eq_some_iff.1 hr
    cases y with
    | inl y =>
      simp only [Tree.run, Option.some.injEq, Prod.mk.injEq] at hr
      obtain ⟨rfl, rfl⟩ := hr
      exact call_ok0 hs (fun k => (([a1.av F, a2.av F] : List AV)[k]?).getD .top) [.agg [.int .i64 v1905, .int .i64 v1906, a1], a2] [.agg [.int .i64 v1905, .int .i64 v1906, .bslc (BR.root 0) (.f32 v1907)], .bslc (BR.root 1) (.f32 v1908)] (fun F' h0 hi hρ => ⟨by simp [DVs.av, DV.av, BR.av, hρ], impl_LeastSquares_fn v1905 v1906 v1907 v1908 F' (by rw [hi]; rfl) (st_nil hi) ⟨⟨trivial, trivial, bslc_ok hi (by rw [h0, hρ]; exact rowF32_ok hs (DVs.okAt (DVs.okAt ha 0 rfl) 2 rfl) hv1907), trivial⟩, bslc_ok hi (by rw [h0, hρ]; exact rowF32_ok hs (DVs.okAt ha 1 rfl) hv1908), trivial⟩ hy⟩) rfl
    | inr y =>
      simp only [Tree.run, Option.some.injEq, Prod.mk.injEq] at hr
      obtain ⟨rfl, rfl⟩ := hr
      exact call_ok1 hs (fun k => (([a1.av F, a2.av F] : List AV)[k]?).getD .top) [.agg [.int .i64 v1905, .int .i64 v1906, a1], a2] [.agg [.int .i64 v1905, .int .i64 v1906, .bslc (BR.root 0) (.f32 v1907)], .bslc (BR.root 1) (.f32 v1908)] (fun F' h0 hi hρ => ⟨by simp [DVs.av, DV.av, BR.av, hρ], impl_LeastSquares_fn v1905 v1906 v1907 v1908 F' (by rw [hi]; rfl) (st_nil hi) ⟨⟨trivial, trivial, bslc_ok hi (by rw [h0, hρ]; exact rowF32_ok hs (DVs.okAt (DVs.okAt ha 0 rfl) 2 rfl) hv1907), trivial⟩, bslc_ok hi (by rw [h0, hρ]; exact rowF32_ok hs (DVs.okAt ha 1 rfl) hv1908), trivial⟩ hy⟩) rfl rfl
  · cases hr
/-! laws.sameFloat -/
noncomputable def laws_sameFloat_LO (v2880 : Nat) (v2881 : Nat) : LOr := fun id e L =>
  match id with
  | _ => .fail
noncomputable def laws_sameFloat_tab : List (FuncId × DFn × Bool) := []
theorem laws_sameFloat_hO : OrcOk Try.prog (tabD laws_sameFloat_tab) (tabM laws_sameFloat_tab) := tabD_nil _
noncomputable def laws_sameFloat_T (v2880 : Nat) (v2881 : Nat) : Tree (Bool) :=
  (.br (!feq .f64 v2880 v2880) (
   (.br (!feq .f64 v2880 v2880) (
    .leaf (!feq .f64 v2881 v2881)
   ) (
    .leaf false
   ))
  ) (
   (.br (!feq .f64 v2881 v2881) (
    (.br (!feq .f64 v2880 v2880) (
     .leaf (!feq .f64 v2881 v2881)
    ) (
     .leaf false
    ))
   ) (
    (.br (feq .f64 v2880 (0 : Nat)) (
     (.br (feq .f64 v2881 (0 : Nat)) (
      .leaf ((fgrt .f64 (fdiv .f64 (4607182418800017408 : Nat) v2880) (0 : Nat)) == (fgrt .f64 (fdiv .f64 (4607182418800017408 : Nat) v2881) (0 : Nat)))
     ) (
      .leaf (feq .f64 v2880 v2881)
     ))
    ) (
     .leaf (feq .f64 v2880 v2881)
    ))
   ))
  ))

noncomputable def laws_sameFloat_g (v2880 : Nat) (v2881 : Nat) : Option (Bool) := (laws_sameFloat_T v2880 v2881).run
def laws_sameFloat_enc (v2880 : Nat) (v2881 : Nat) (y : Bool) : Rs := (.bool y, [])
theorem laws_sameFloat_den (v2880 : Nat) (v2881 : Nat) : (den TT (tabD laws_sameFloat_tab) (tabM laws_sameFloat_tab) (laws_sameFloat_LO v2880 v2881) (codeOf Try.f31) ([.flt .f64 v2880, .flt .f64 v2881] ++ List.replicate (Try.f31.ntmps - ([.flt .f64 v2880, .flt .f64 v2881] : List DV).length) .undef) []).bind (retD TT Try.f31.results.toList 0) = (laws_sameFloat_T v2880 v2881).bind fun y => .leaf (laws_sameFloat_enc v2880 v2881 y) := by kernel_rfl
theorem laws_sameFloat_fn (v2880 : Nat) (v2881 : Nat) (F : Fr) (hm : F.ids.length = 0) (h0 : St F [] F.H0) (hA : DVs.Ok F [] [.flt .f64 v2880, .flt .f64 v2881]) {y : Bool} (hy : laws_sameFloat_g v2880 v2881 = some y) : ∃ H', FnOk Try.prog 31 (DVs.av F [.flt .f64 v2880, .flt .f64 v2881]) F.H0 ((laws_sameFloat_enc v2880 v2881 y).1.av F) H' ∧ St F (laws_sameFloat_enc v2880 v2881 y).2 H' ∧ (laws_sameFloat_enc v2880 v2881 y).1.Ok F (laws_sameFloat_enc v2880 v2881 y).2 :=
  fn_fin tok laws_sameFloat_hO mixed Try.func31 Try.call31 (by kernel_rfl) (LoopsOk_eq (l := []) (by kernel_rfl) trivial) (laws_sameFloat_den v2880 v2881) hy hm h0 hA
def laws_sameFloat_v (v2880 : Nat) (v2881 : Nat) : Bool :=
  if (!feq .f64 v2880 v2880) = true then (
   if (!feq .f64 v2880 v2880) = true then (
    !feq .f64 v2881 v2881
   ) else (
    false
   )
  ) else (
   if (!feq .f64 v2881 v2881) = true then (
    if (!feq .f64 v2880 v2880) = true then (
     !feq .f64 v2881 v2881
    ) else (
     false
    )
   ) else (
    if (feq .f64 v2880 (0 : Nat)) = true then (
     if (feq .f64 v2881 (0 : Nat)) = true then (
      (fgrt .f64 (fdiv .f64 (4607182418800017408 : Nat) v2880) (0 : Nat)) == (fgrt .f64 (fdiv .f64 (4607182418800017408 : Nat) v2881) (0 : Nat))
     ) else (
      feq .f64 v2880 v2881
     )
    ) else (
     feq .f64 v2880 v2881
    )
   )
  )
theorem laws_sameFloat_tot (v2880 : Nat) (v2881 : Nat) : laws_sameFloat_g v2880 v2881 = some (laws_sameFloat_v v2880 v2881) := by
  unfold laws_sameFloat_g laws_sameFloat_T laws_sameFloat_v
  simp only [Tree.run]
  repeat' (first | rfl | split)
noncomputable def laws_sameFloat_F : DFn := fun args L =>
  match args with
  | [.flt .f64 v2880, .flt .f64 v2881] =>
    .leaf (.bool (laws_sameFloat_v v2880 v2881), L)
  | _ => .fail
theorem laws_sameFloat_Fok : COk Try.prog 31 laws_sameFloat_F true := by
  intro F L H args r L' hs ha hr
  unfold laws_sameFloat_F at hr
  split at hr
  · rename_i v2880 v2881
    have hy := laws_sameFloat_tot v2880 v2881
    generalize laws_sameFloat_v v2880 v2881 = y at hy hr
    simp only [Tree.run, Option.some.injEq, Prod.mk.injEq] at hr
    obtain ⟨rfl, rfl⟩ := hr
    exact call_ok0 hs (fun k => (([] : List AV)[k]?).getD .top) [.flt .f64 v2880, .flt .f64 v2881] [.flt .f64 v2880, .flt .f64 v2881] (fun F' h0 hi hρ => ⟨by simp [DVs.av, DV.av, BR.av, hρ], laws_sameFloat_fn v2880 v2881 F' (by rw [hi]; rfl) (st_nil hi) ⟨trivial, trivial, trivial⟩ hy⟩) rfl
  · cases hr
/-! laws.eqFloat32S -/
noncomputable def laws_eqFloat32S_l0_T (v2877 : List Nat) (v2878 : List Nat) (s : Int) : Tree ((Int) ⊕ ((Unit) ⊕ (Unit))) :=
  (.br (decide (s < ((v2877.length : Nat) : Int))) (
   (.grd (inb s v2877.length) <|
   (.grd (inb s v2878.length) <|
   (.br (!(laws_sameFloat_v (wid (nth v2877 (Int.toNat s))) (wid (nth v2878 (Int.toNat s))))) (
    .leaf (.inr (.inl ()))
   ) (
    .leaf (.inl (IntKind.i64.wrap (s + (1 : Int))))
   ))))
  ) (
   .leaf (.inr (.inr ()))
  ))

noncomputable def laws_eqFloat32S_l0_g (v2877 : List Nat) (v2878 : List Nat) (s0 : Int) : Option ((Unit) ⊕ (Unit)) := whileM (fun s => (laws_eqFloat32S_l0_T v2877 v2878 s).run) s0
def laws_eqFloat32S_l0_E (v2877 : List Nat) (v2878 : List Nat) (s : Int) : Sd := ([.bslc (BR.root 0) (.f32 v2877), .bslc (BR.root 1) (.f32 v2878), .top, .top, .top, .int .i64 s, .top, .top, .top, .top, .top, .top, .top, .top, .top, .top, .top, .top, .top, .top, .top, .top, .top, .top, .top, .top, .top, .top, .top], [])
def laws_eqFloat32S_l0_X (v2877 : List Nat) (v2878 : List Nat) (x : (Unit) ⊕ (Unit)) : Out := (match x with | .inl x => (.ret, [.top, .top, .top, .top, .lit false, .top, .top, .top, .top, .top, .top, .top, .top, .top, .top, .top, .top, .top, .top, .top, .top, .top, .top, .top, .top, .top, .top, .top, .top], []) | .inr x => (.normal, [.top, .top, .top, .top, .top, .top, .top, .top, .top, .top, .top, .top, .top, .top, .top, .top, .top, .top, .top, .top, .top, .top, .top, .top, .top, .top, .top, .top, .top], []))
def laws_eqFloat32S_l0_kill : List Nat := [0, 0, 1, 1, 1, 0, 1, 1, 1, 1, 1, 1, 1, 1, 1, 1, 1, 1, 1, 1, 1, 1, 1, 1, 1, 1, 1, 1, 1]
def laws_eqFloat32S_l0_nx : Exit → List Nat
  | .exit 0 => [1, 1, 1, 1, 1, 1, 1, 1, 1, 1, 1, 1, 1, 1, 1, 1, 1, 1, 1, 1, 1, 1, 1, 1, 1, 1, 1, 1, 1]
  | .ret => [1, 1, 1, 1, 0, 1, 1, 1, 1, 1, 1, 1, 1, 1, 1, 1, 1, 1, 1, 1, 1, 1, 1, 1, 1, 1, 1, 1, 1]
  | _ => []
noncomputable def laws_eqFloat32S_LO (v2877 : List Nat) (v2878 : List Nat) : LOr := fun id e L =>
  match id with
  | 0 => .need (normA 0 laws_eqFloat32S_l0_kill e L = some (laws_eqFloat32S_l0_E v2877 v2878 (gI (vAt e 5)))) (.call (laws_eqFloat32S_l0_g v2877 v2878 (gI (vAt e 5))) fun x => .sum x (fun b0 => .leaf (laws_eqFloat32S_l0_X v2877 v2878 (.inl b0))) (fun c0 => .leaf (laws_eqFloat32S_l0_X v2877 v2878 (.inr c0))))
  | _ => .fail
noncomputable def laws_eqFloat32S_tab : List (FuncId × DFn × Bool) := [(31, laws_sameFloat_F, true)]
theorem laws_eqFloat32S_hO : OrcOk Try.prog (tabD laws_eqFloat32S_tab) (tabM laws_eqFloat32S_tab) := tabD_cons laws_sameFloat_Fok (tabD_nil _)
theorem laws_eqFloat32S_l0_be (v2877 : List Nat) (v2878 : List Nat) (s : Int) : bodyT TT (tabD laws_eqFloat32S_tab) (tabM laws_eqFloat32S_tab) (laws_eqFloat32S_LO v2877 v2878) 0 laws_eqFloat32S_l0_kill laws_eqFloat32S_l0_nx (bodyOf Try.f20 0) 0 (laws_eqFloat32S_l0_E v2877 v2878 s) = (laws_eqFloat32S_l0_T v2877 v2878 s).bind fun y => .leaf (outS (laws_eqFloat32S_l0_E v2877 v2878) (laws_eqFloat32S_l0_X v2877 v2878) y) := by kernel_rfl
theorem laws_eqFloat32S_l0_ok (v2877 : List Nat) (v2878 : List Nat) : LSound Try.prog 0 (laws_eqFloat32S_LO v2877 v2878) 0 (bodyOf Try.f20 0) := by
  intro e L out h
  exact lo_ok (E := laws_eqFloat32S_l0_E v2877 v2878) (gT := laws_eqFloat32S_l0_T v2877 v2878) (X := laws_eqFloat32S_l0_X v2877 v2878) (s0 := (gI (vAt e 5))) tok laws_eqFloat32S_hO mixed (LoopsOk_eq (l := []) (by kernel_rfl) trivial) (laws_eqFloat32S_l0_be v2877 v2878) rfl (by intro x; (cases x with | inl b => rfl | inr x => exact rfl)) h
noncomputable def laws_eqFloat32S_T (v2877 : List Nat) (v2878 : List Nat) : Tree (Bool) :=
  (.br (!decide (((v2877.length : Nat) : Int) = ((v2878.length : Nat) : Int))) (
   .leaf false
  ) (
   (.need (some (laws_eqFloat32S_l0_E v2877 v2878 (0 : Int)) = some (laws_eqFloat32S_l0_E v2877 v2878 (0 : Int))) <|
   (.call (laws_eqFloat32S_l0_g v2877 v2878 (0 : Int)) fun v2884 =>
   (.sum v2884 (fun v2885 =>
    .leaf false
   ) (fun v2886 =>
    .leaf true
   ))))
  ))

noncomputable def laws_eqFloat32S_g (v2877 : List Nat) (v2878 : List Nat) : Option (Bool) := (laws_eqFloat32S_T v2877 v2878).run
def laws_eqFloat32S_enc (v2877 : List Nat) (v2878 : List Nat) (y : Bool) : Rs := (.bool y, [])
theorem laws_eqFloat32S_den (v2877 : List Nat) (v2878 : List Nat) : (den TT (tabD laws_eqFloat32S_tab) (tabM laws_eqFloat32S_tab) (laws_eqFloat32S_LO v2877 v2878) (codeOf Try.f20) ([.bslc (BR.root 0) (.f32 v2877), .bslc (BR.root 1) (.f32 v2878)] ++ List.replicate (Try.f20.ntmps - ([.bslc (BR.root 0) (.f32 v2877), .bslc (BR.root 1) (.f32 v2878)] : List DV).length) .undef) []).bind (retD TT Try.f20.results.toList 0) = (laws_eqFloat32S_T v2877 v2878).bind fun y => .leaf (laws_eqFloat32S_enc v2877 v2878 y) := by kernel_rfl
theorem laws_eqFloat32S_fn (v2877 : List Nat) (v2878 : List Nat) (F : Fr) (hm : F.ids.length = 0) (h0 : St F [] F.H0) (hA : DVs.Ok F [] [.bslc (BR.root 0) (.f32 v2877), .bslc (BR.root 1) (.f32 v2878)]) {y : Bool} (hy : laws_eqFloat32S_g v2877 v2878 = some y) : ∃ H', FnOk Try.prog 20 (DVs.av F [.bslc (BR.root 0) (.f32 v2877), .bslc (BR.root 1) (.f32 v2878)]) F.H0 ((laws_eqFloat32S_enc v2877 v2878 y).1.av F) H' ∧ St F (laws_eqFloat32S_enc v2877 v2878 y).2 H' ∧ (laws_eqFloat32S_enc v2877 v2878 y).1.Ok F (laws_eqFloat32S_enc v2877 v2878 y).2 :=
  fn_fin tok laws_eqFloat32S_hO mixed Try.func20 Try.call20 (by kernel_rfl) (LoopsOk_eq (l := [(0, bodyOf Try.f20 0)]) (by kernel_rfl) ⟨laws_eqFloat32S_l0_ok v2877 v2878, trivial⟩) (laws_eqFloat32S_den v2877 v2878) hy hm h0 hA
noncomputable def laws_eqFloat32S_F : DFn := fun args L =>
  match args with
  | [a1, a2] =>
    optT (rowF32 L a1) fun v2877 =>
    optT (rowF32 L a2) fun v2878 =>
    .call (laws_eqFloat32S_g v2877 v2878) fun y => .leaf (.bool y, L)
  | _ => .fail
theorem laws_eqFloat32S_Fok : COk Try.prog 20 laws_eqFloat32S_F true := by
  intro F L H args r L' hs ha hr
  unfold laws_eqFloat32S_F at hr
  split at hr
  · rename_i a1 a2
    obtain ⟨v2877, hv2877, hr⟩ := optT_run hr
    obtain ⟨v2878, hv2878, hr⟩ := optT_run hr
    simp only [Tree.run] at hr
    obtain ⟨y, hy, hr⟩ := Option.bind_eq_some_iff.1 hr
    simp only [Tree.run, Option.some.injEq, Prod.mk.injEq] at hr
    obtain ⟨rfl, rfl⟩ := hr
    exact call_ok0 hs (fun k => (([a1.av F, a2.av F] : List AV)[k]?).getD .top) [a1, a2] [.bslc (BR.root 0) (.f32 v2877), .bslc (BR.root 1) (.f32 v2878)] (fun F' h0 hi hρ => ⟨by simp [DVs.av, DV.av, BR.av, hρ], laws_eqFloat32S_fn v2877 v2878 F' (by rw [hi]; rfl) (st_nil hi) ⟨bslc_ok hi (by rw [h0, hρ]; exact rowF32_ok hs (DVs.okAt ha 0 rfl) hv2877), bslc_ok hi (by rw [h0, hρ]; exact rowF32_ok hs (DVs.okAt ha 1 rfl) hv2878), trivial⟩ hy⟩) rfl
  · cases hr
/-! laws.eqMatrix -/
noncomputable def laws_eqMatrix_LO (v2889 : Int) (v2890 : Int) (v2891 : List Nat) (v2892 : Int) (v2893 : Int) (v2894 : List Nat) : LOr := fun id e L =>
  match id with
  | _ => .fail
noncomputable def laws_eqMatrix_tab : List (FuncId × DFn × Bool) := [(20, laws_eqFloat32S_F, true)]
theorem laws_eqMatrix_hO : OrcOk Try.prog (tabD laws_eqMatrix_tab) (tabM laws_eqMatrix_tab) := tabD_cons laws_eqFloat32S_Fok (tabD_nil _)
noncomputable def laws_eqMatrix_T (v2889 : Int) (v2890 : Int) (v2891 : List Nat) (v2892 : Int) (v2893 : Int) (v2894 : List Nat) : Tree (Bool) :=
  (.br (!decide (v2889 = v2892)) (
   .leaf false
  ) (
   (.br (!decide (v2890 = v2893)) (
    .leaf false
   ) (
    (.call (laws_eqFloat32S_g v2891 v2894) fun v2895 =>
    (.br (!v2895) (
     .leaf false
    ) (
     .leaf true
    )))
   ))
  ))

noncomputable def laws_eqMatrix_g (v2889 : Int) (v2890 : Int) (v2891 : List Nat) (v2892 : Int) (v2893 : Int) (v2894 : List Nat) : Option (Bool) := (laws_eqMatrix_T v2889 v2890 v2891 v2892 v2893 v2894).run
def laws_eqMatrix_enc (v2889 : Int) (v2890 : Int) (v2891 : List Nat) (v2892 : Int) (v2893 : Int) (v2894 : List Nat) (y : Bool) : Rs := (.bool y, [])
theorem laws_eqMatrix_den (v2889 : Int) (v2890 : Int) (v2891 : List Nat) (v2892 : Int) (v2893 : Int) (v2894 : List Nat) : (den TT (tabD laws_eqMatrix_tab) (tabM laws_eqMatrix_tab) (laws_eqMatrix_LO v2889 v2890 v2891 v2892 v2893 v2894) (codeOf Try.f19) ([.agg [.int .i64 v2889, .int .i64 v2890, .bslc (BR.root 0) (.f32 v2891)], .agg [.int .i64 v2892, .int .i64 v2893, .bslc (BR.root 1) (.f32 v2894)]] ++ List.replicate (Try.f19.ntmps - ([.agg [.int .i64 v2889, .int .i64 v2890, .bslc (BR.root 0) (.f32 v2891)], .agg [.int .i64 v2892, .int .i64 v2893, .bslc (BR.root 1) (.f32 v2894)]] : List DV).length) .undef) []).bind (retD TT Try.f19.results.toList 0) = (laws_eqMatrix_T v2889 v2890 v2891 v2892 v2893 v2894).bind fun y => .leaf (laws_eqMatrix_enc v2889 v2890 v2891 v2892 v2893 v2894 y) := by kernel_rfl
theorem laws_eqMatrix_fn (v2889 : Int) (v2890 : Int) (v2891 : List Nat) (v2892 : Int) (v2893 : Int) (v2894 : List Nat) (F : Fr) (hm : F.ids.length = 0) (h0 : St F [] F.H0) (hA : DVs.Ok F [] [.agg [.int .i64 v2889, .int .i64 v2890, .bslc (BR.root 0) (.f32 v2891)], .agg [.int .i64 v2892, .int .i64 v2893, .bslc (BR.root 1) (.f32 v2894)]]) {y : Bool} (hy : laws_eqMatrix_g v2889 v2890 v2891 v2892 v2893 v2894 = some y) : ∃ H', FnOk Try.prog 19 (DVs.av F [.agg [.int .i64 v2889, .int .i64 v2890, .bslc (BR.root 0) (.f32 v2891)], .agg [.int .i64 v2892, .int .i64 v2893, .bslc (BR.root 1) (.f32 v2894)]]) F.H0 ((laws_eqMatrix_enc v2889 v2890 v2891 v2892 v2893 v2894 y).1.av F) H' ∧ St F (laws_eqMatrix_enc v2889 v2890 v2891 v2892 v2893 v2894 y).2 H' ∧ (laws_eqMatrix_enc v2889 v2890 v2891 v2892 v2893 v2894 y).1.Ok F (laws_eqMatrix_enc v2889 v2890 v2891 v2892 v2893 v2894 y).2 :=
  fn_fin tok laws_eqMatrix_hO mixed Try.func19 Try.call19 (by kernel_rfl) (LoopsOk_eq (l := []) (by kernel_rfl) trivial) (laws_eqMatrix_den v2889 v2890 v2891 v2892 v2893 v2894) hy hm h0 hA
noncomputable def laws_eqMatrix_F : DFn := fun args L =>
  match args with
  | [.agg [.int .i64 v2889, .int .i64 v2890, a1], .agg [.int .i64 v2892, .int .i64 v2893, a2]] =>
    optT (rowF32 L a1) fun v2891 =>
    optT (rowF32 L a2) fun v2894 =>
    .call (laws_eqMatrix_g v2889 v2890 v2891 v2892 v2893 v2894) fun y => .leaf (.bool y, L)
  | _ => .fail
theorem laws_eqMatrix_Fok : COk Try.prog 19 laws_eqMatrix_F true := by
  intro F L H args r L' hs ha hr
  unfold laws_eqMatrix_F at hr
  split at hr
  · rename_i v2889 v2890 a1 v2892 v2893 a2
    obtain ⟨v2891, hv2891, hr⟩ := optT_run hr
    obtain ⟨v2894, hv2894, hr⟩ := optT_run hr
    simp only [Tree.run] at hr
    obtain ⟨y, hy, hr⟩ := Option.bind_eq_some_iff.1 hr
    simp only [Tree.run, Option.some.injEq, Prod.mk.injEq] at hr
    obtain ⟨rfl, rfl⟩ := hr
    exact call_ok0 hs (fun k => (([a1.av F, a2.av F] : List AV)[k]?).getD .top) [.agg [.int .i64 v2889, .int .i64 v2890, a1], .agg [.int .i64 v2892, .int .i64 v2893, a2]] [.agg [.int .i64 v2889, .int .i64 v2890, .bslc (BR.root 0) (.f32 v2891)], .agg [.int .i64 v2892, .int .i64 v2893, .bslc (BR.root 1) (.f32 v2894)]] (fun F' h0 hi hρ => ⟨by simp [DVs.av, DV.av, BR.av, hρ], laws_eqMatrix_fn v2889 v2890 v2891 v2892 v2893 v2894 F' (by rw [hi]; rfl) (st_nil hi) ⟨⟨trivial, trivial, bslc_ok hi (by rw [h0, hρ]; exact rowF32_ok hs (DVs.okAt (DVs.okAt ha 0 rfl) 2 rfl) hv2891), trivial⟩, ⟨trivial, trivial, bslc_ok hi (by rw [h0, hρ]; exact rowF32_ok hs (DVs.okAt (DVs.okAt ha 1 rfl) 2 rfl) hv2894), trivial⟩, trivial⟩ hy⟩) rfl
  · cases hr
/-! laws.markFloat32S -/
noncomputable def laws_markFloat32S_l0_T (s : Int × Int × (List Nat)) : Tree ((Int × Int × (List Nat)) ⊕ (Int × (List Nat))) :=
  (.br (decide (s.2.1 < (((s.2.2).length : Nat) : Int))) (
   (.grd (inb s.2.1 ((s.2.2).length)) <|
   .leaf (.inl (IntKind.i64.wrap (s.1 + (1 : Int)), IntKind.i64.wrap (s.2.1 + (1 : Int)), List.set s.2.2 (Int.toNat s.2.1) (fofint .f32 s.1))))
  ) (
   .leaf (.inr (s.1, s.2.2))
  ))

noncomputable def laws_markFloat32S_l0_g (s0 : Int × Int × (List Nat)) : Option (Int × (List Nat)) := whileM (fun s => (laws_markFloat32S_l0_T s).run) s0
def laws_markFloat32S_l0_E (v2907 : List Nat) (v2908 : Int) (s : Int × Int × (List Nat)) : Sd := ([.own 0 0 ((s.2.2).length), .int .i64 s.1, .top, .top, .top, .int .i64 s.2.1, .top, .top, .top, .top, .top, .top, .top, .top, .top, .top, .top, .top, .top, .top], [.row (.f32 s.2.2) 0])
def laws_markFloat32S_l0_X (v2907 : List Nat) (v2908 : Int) (x : Int × (List Nat)) : Out := (.normal, [.top, .int .i64 x.1, .top, .top, .top, .top, .top, .top, .top, .top, .top, .top, .top, .top, .top, .top, .top, .top, .top, .top], [.row (.f32 x.2) 0])
def laws_markFloat32S_l0_kill : List Nat := [0, 0, 1, 1, 1, 0, 1, 1, 1, 1, 1, 1, 1, 1, 1, 1, 1, 1, 1, 1]
def laws_markFloat32S_l0_nx : Exit → List Nat
  | .exit 0 => [1, 0, 1, 1, 1, 1, 1, 1, 1, 1, 1, 1, 1, 1, 1, 1, 1, 1, 1, 1]
  | .ret => [1, 1, 1, 1, 0, 1, 1, 1, 1, 1, 1, 1, 1, 1, 1, 1, 1, 1, 1, 1]
  | _ => []
noncomputable def laws_markFloat32S_LO (v2907 : List Nat) (v2908 : Int) : LOr := fun id e L =>
  match id with
  | 0 => .need (normA 1 laws_markFloat32S_l0_kill e L = some (laws_markFloat32S_l0_E v2907 v2908 ((gI (vAt e 1)), (gI (vAt e 5)), (gRF L (vAt e 0))))) (.call (laws_markFloat32S_l0_g ((gI (vAt e 1)), (gI (vAt e 5)), (gRF L (vAt e 0)))) fun x => .leaf (laws_markFloat32S_l0_X v2907 v2908 x))
  | _ => .fail
noncomputable def laws_markFloat32S_tab : List (FuncId × DFn × Bool) := []
theorem laws_markFloat32S_hO : OrcOk Try.prog (tabD laws_markFloat32S_tab) (tabM laws_markFloat32S_tab) := tabD_nil _
theorem laws_markFloat32S_l0_be (v2907 : List Nat) (v2908 : Int) (s : Int × Int × (List Nat)) : bodyT TT (tabD laws_markFloat32S_tab) (tabM laws_markFloat32S_tab) (laws_markFloat32S_LO v2907 v2908) 1 laws_markFloat32S_l0_kill laws_markFloat32S_l0_nx (bodyOf Try.f22 0) 0 (laws_markFloat32S_l0_E v2907 v2908 s) = (laws_markFloat32S_l0_T s).bind fun y => .leaf (outS (laws_markFloat32S_l0_E v2907 v2908) (laws_markFloat32S_l0_X v2907 v2908) y) := by kernel_rfl
theorem laws_markFloat32S_l0_ok (v2907 : List Nat) (v2908 : Int) : LSound Try.prog 1 (laws_markFloat32S_LO v2907 v2908) 0 (bodyOf Try.f22 0) := by
  intro e L out h
  exact lo_ok (E := laws_markFloat32S_l0_E v2907 v2908) (gT := laws_markFloat32S_l0_T) (X := laws_markFloat32S_l0_X v2907 v2908) (s0 := ((gI (vAt e 1)), (gI (vAt e 5)), (gRF L (vAt e 0)))) tok laws_markFloat32S_hO mixed (LoopsOk_eq (l := []) (by kernel_rfl) trivial) (laws_markFloat32S_l0_be v2907 v2908) rfl (by intro x; rfl) h
noncomputable def laws_markFloat32S_T (v2907 : List Nat) (v2908 : Int) : Tree (Int × (List Nat)) :=
  (.need (some (laws_markFloat32S_l0_E v2907 v2908 (v2908, (0 : Int), v2907)) = some (laws_markFloat32S_l0_E v2907 v2908 (v2908, (0 : Int), v2907))) <|
  (.call (laws_markFloat32S_l0_g (v2908, (0 : Int), v2907)) fun v2917 =>
  .leaf (v2917.1, v2917.2)))

noncomputable def laws_markFloat32S_g (v2907 : List Nat) (v2908 : Int) : Option (Int × (List Nat)) := (laws_markFloat32S_T v2907 v2908).run
def laws_markFloat32S_enc (v2907 : List Nat) (v2908 : Int) (y : Int × (List Nat)) : Rs := (.int .i64 y.1, [.row (.f32 y.2) 0])
theorem laws_markFloat32S_den (v2907 : List Nat) (v2908 : Int) : (den TT (tabD laws_markFloat32S_tab) (tabM laws_markFloat32S_tab) (laws_markFloat32S_LO v2907 v2908) (codeOf Try.f22) ([.own 0 0 v2907.length, .int .i64 v2908] ++ List.replicate (Try.f22.ntmps - ([.own 0 0 v2907.length, .int .i64 v2908] : List DV).length) .undef) [.row (.f32 v2907) 0]).bind (retD TT Try.f22.results.toList 1) = (laws_markFloat32S_T v2907 v2908).bind fun y => .leaf (laws_markFloat32S_enc v2907 v2908 y) := by kernel_rfl
theorem laws_markFloat32S_fn (v2907 : List Nat) (v2908 : Int) (F : Fr) (hm : F.ids.length = 1) (h0 : St F [.row (.f32 v2907) 0] F.H0) (hA : DVs.Ok F [.row (.f32 v2907) 0] [.own 0 0 v2907.length, .int .i64 v2908]) {y : Int × (List Nat)} (hy : laws_markFloat32S_g v2907 v2908 = some y) : ∃ H', FnOk Try.prog 22 (DVs.av F [.own 0 0 v2907.length, .int .i64 v2908]) F.H0 ((laws_markFloat32S_enc v2907 v2908 y).1.av F) H' ∧ St F (laws_markFloat32S_enc v2907 v2908 y).2 H' ∧ (laws_markFloat32S_enc v2907 v2908 y).1.Ok F (laws_markFloat32S_enc v2907 v2908 y).2 :=
  fn_fin tok laws_markFloat32S_hO mixed Try.func22 Try.call22 (by kernel_rfl) (LoopsOk_eq (l := [(0, bodyOf Try.f22 0)]) (by kernel_rfl) ⟨laws_markFloat32S_l0_ok v2907 v2908, trivial⟩) (laws_markFloat32S_den v2907 v2908) hy hm h0 hA
noncomputable def laws_markFloat32S_F : DFn := fun args L =>
  match args with
  | [a1, .int .i64 v2908] =>
    optT (ownF32 L a1) fun qv2907 =>
    (match sepB [qv2907.1] [] with
    | true =>
    .call (laws_markFloat32S_g qv2907.2 v2908) fun y => .grd (decide (y.2.length = qv2907.2.length)) (.leaf (.int .i64 y.1, setRows L ([qv2907.1].zip [.f32 y.2])))
    | false => .fail)
  | _ => .fail
theorem laws_markFloat32S_Fok : COk Try.prog 22 laws_markFloat32S_F false := by
  intro F L H args r L' hs ha hr
  unfold laws_markFloat32S_F at hr
  split at hr
  · rename_i a1 v2908
    obtain ⟨⟨jv2907, v2907⟩, hqv2907, hr⟩ := optT_run hr
    simp only at hr
    split at hr
    · rename_i hsep
      obtain ⟨hnd, hsepv⟩ := sepB_spec hsep
      simp only [Tree.run] at hr
      obtain ⟨y, hy, hr⟩ := Option.bind_eq_some_iff.1 hr
      try simp only [Tree.run] at hr
      obtain ⟨hl0, hr⟩ := ite_run hr
      simp only [Option.some.injEq, Prod.mk.injEq] at hr
      obtain ⟨rfl, rfl⟩ := hr
      obtain ⟨hr0, hu0, ha0, hb0⟩ := (ownR_spec (DVs.okAt ha 0 rfl) (ownF32_or hqv2907))
      exact mut_ok hs (fun k => (([a1.av F] : List AV)[k]?).getD .top) [a1, .int .i64 v2908] [.own 0 0 v2907.length, .int .i64 v2908] [jv2907] [.f32 v2907] [.f32 y.2] hnd rfl rfl (fun i j q h1 h2 => by
          rcases i with _ | i
          · simp at h1 h2; subst h1; subst h2; exact hr0
          · simp at h1) (fun i q q' h1 h2 => by
          rcases i with _ | i
          · simp at h1 h2; subst h1; subst h2; exact of_decide_eq_true hl0
          · simp at h1) (fun j hj => by simp at hj; subst hj; simp [DVs.refs, DV.refs, hu0]) (fun F' h0 hi hρ hst hS => ⟨by (have ab0 : F'.abs 0 = F.abs jv2907 := (by simp [Fr.abs, hi]); simp [DVs.av, DV.av, BR.av, hρ, Row.len, ha0, ab0]), by
          obtain ⟨H1, k1, k2, _⟩ := laws_markFloat32S_fn v2907 v2908 F' (by rw [hi]; rfl) hst ⟨⟨_, rfl, Nat.le_refl _, Nat.le_refl _, fun _ => rfl, (ownR_spec (DVs.okAt ha 0 rfl) (ownF32_or hqv2907)).2.2.2⟩, trivial, trivial⟩ hy
          exact ⟨H1, k1, k2⟩⟩) (fun F' => rfl) (fun L' => trivial)
    · cases hr
  · cases hr
/-! laws.markMatrix -/
noncomputable def laws_markMatrix_LO (v2918 : Int) (v2919 : Int) (v2920 : List Nat) (v2921 : Int) : LOr := fun id e L =>
  match id with
  | _ => .fail
noncomputable def laws_markMatrix_tab : List (FuncId × DFn × Bool) := [(22, laws_markFloat32S_F, false)]
theorem laws_markMatrix_hO : OrcOk Try.prog (tabD laws_markMatrix_tab) (tabM laws_markMatrix_tab) := tabD_cons laws_markFloat32S_Fok (tabD_nil _)
noncomputable def laws_markMatrix_T (v2920 : List Nat) (v2921 : Int) : Tree (Int × (List Nat)) :=
  (.call (laws_markFloat32S_g v2920 v2921) fun v2922 =>
  (.grd (decide (v2922.2.length = v2920.length)) <|
  .leaf (v2922.1, v2922.2)))

noncomputable def laws_markMatrix_g (v2920 : List Nat) (v2921 : Int) : Option (Int × (List Nat)) := (laws_markMatrix_T v2920 v2921).run
def laws_markMatrix_enc (v2918 : Int) (v2919 : Int) (v2920 : List Nat) (v2921 : Int) (y : Int × (List Nat)) : Rs := (.int .i64 y.1, [.row (.f32 y.2) 0])
theorem laws_markMatrix_den (v2918 : Int) (v2919 : Int) (v2920 : List Nat) (v2921 : Int) : (den TT (tabD laws_markMatrix_tab) (tabM laws_markMatrix_tab) (laws_markMatrix_LO v2918 v2919 v2920 v2921) (codeOf Try.f21) ([.agg [.int .i64 v2918, .int .i64 v2919, .own 0 0 v2920.length], .int .i64 v2921] ++ List.replicate (Try.f21.ntmps - ([.agg [.int .i64 v2918, .int .i64 v2919, .own 0 0 v2920.length], .int .i64 v2921] : List DV).length) .undef) [.row (.f32 v2920) 0]).bind (retD TT Try.f21.results.toList 1) = (laws_markMatrix_T v2920 v2921).bind fun y => .leaf (laws_markMatrix_enc v2918 v2919 v2920 v2921 y) := by kernel_rfl
theorem laws_markMatrix_fn (v2918 : Int) (v2919 : Int) (v2920 : List Nat) (v2921 : Int) (F : Fr) (hm : F.ids.length = 1) (h0 : St F [.row (.f32 v2920) 0] F.H0) (hA : DVs.Ok F [.row (.f32 v2920) 0] [.agg [.int .i64 v2918, .int .i64 v2919, .own 0 0 v2920.length], .int .i64 v2921]) {y : Int × (List Nat)} (hy : laws_markMatrix_g v2920 v2921 = some y) : ∃ H', FnOk Try.prog 21 (DVs.av F [.agg [.int .i64 v2918, .int .i64 v2919, .own 0 0 v2920.length], .int .i64 v2921]) F.H0 ((laws_markMatrix_enc v2918 v2919 v2920 v2921 y).1.av F) H' ∧ St F (laws_markMatrix_enc v2918 v2919 v2920 v2921 y).2 H' ∧ (laws_markMatrix_enc v2918 v2919 v2920 v2921 y).1.Ok F (laws_markMatrix_enc v2918 v2919 v2920 v2921 y).2 :=
  fn_fin tok laws_markMatrix_hO mixed Try.func21 Try.call21 (by kernel_rfl) (LoopsOk_eq (l := []) (by kernel_rfl) trivial) (laws_markMatrix_den v2918 v2919 v2920 v2921) hy hm h0 hA
noncomputable def laws_markMatrix_F : DFn := fun args L =>
  match args with
  | [.agg [.int .i64 v2918, .int .i64 v2919, a1], .int .i64 v2921] =>
    optT (ownF32 L a1) fun qv2920 =>
    (match sepB [qv2920.1] [] with
    | true =>
    .call (laws_markMatrix_g qv2920.2 v2921) fun y => .grd (decide (y.2.length = qv2920.2.length)) (.leaf (.int .i64 y.1, setRows L ([qv2920.1].zip [.f32 y.2])))
    | false => .fail)
  | _ => .fail
theorem laws_markMatrix_Fok : COk Try.prog 21 laws_markMatrix_F false := by
  intro F L H args r L' hs ha hr
  unfold laws_markMatrix_F at hr
  split at hr
  · rename_i v2918 v2919 a1 v2921
    obtain ⟨⟨jv2920, v2920⟩, hqv2920, hr⟩ := optT_run hr
    simp only at hr
    split at hr
    · rename_i hsep
      obtain ⟨hnd, hsepv⟩ := sepB_spec hsep
      simp only [Tree.run] at hr
      obtain ⟨y, hy, hr⟩ := Option.bind_eq_some_iff.1 hr
      try simp only [Tree.run] at hr
      obtain ⟨hl0, hr⟩ := ite_run hr
      simp only [Option.some.injEq, Prod.mk.injEq] at hr
      obtain ⟨rfl, rfl⟩ := hr
      obtain ⟨hr0, hu0, ha0, hb0⟩ := (ownR_spec (DVs.okAt (DVs.okAt ha 0 rfl) 2 rfl) (ownF32_or hqv2920))
      exact mut_ok hs (fun k => (([a1.av F] : List AV)[k]?).getD .top) [.agg [.int .i64 v2918, .int .i64 v2919, a1], .int .i64 v2921] [.agg [.int .i64 v2918, .int .i64 v2919, .own 0 0 v2920.length], .int .i64 v2921] [jv2920] [.f32 v2920] [.f32 y.2] hnd rfl rfl (fun i j q h1 h2 => by
          rcases i with _ | i
          · simp at h1 h2; subst h1; subst h2; exact hr0
          · simp at h1) (fun i q q' h1 h2 => by
          rcases i with _ | i
          · simp at h1 h2; subst h1; subst h2; exact of_decide_eq_true hl0
          · simp at h1) (fun j hj => by simp at hj; subst hj; simp [DVs.refs, DV.refs, hu0]) (fun F' h0 hi hρ hst hS => ⟨by (have ab0 : F'.abs 0 = F.abs jv2920 := (by simp [Fr.abs, hi]); simp [DVs.av, DV.av, BR.av, hρ, Row.len, ha0, ab0]), by
          obtain ⟨H1, k1, k2, _⟩ := laws_markMatrix_fn v2918 v2919 v2920 v2921 F' (by rw [hi]; rfl) hst ⟨⟨trivial, trivial, ⟨_, rfl, Nat.le_refl _, Nat.le_refl _, fun _ => rfl, (ownR_spec (DVs.okAt (DVs.okAt ha 0 rfl) 2 rfl) (ownF32_or hqv2920)).2.2.2⟩, trivial⟩, trivial, trivial⟩ hy
          exact ⟨H1, k1, k2⟩⟩) (fun F' => rfl) (fun L' => trivial)
    · cases hr
  · cases hr
/-! laws.markFloat32S -/
noncomputable def laws_markFloat32S_i1_l0_T (s : Unit) : Tree ((Unit) ⊕ (Unit)) :=
  (.br (decide ((0 : Int) < (0 : Int))) (
   .fail
  ) (
   .leaf (.inr ())
  ))

noncomputable def laws_markFloat32S_i1_l0_g (s0 : Unit) : Option (Unit) := whileM (fun s => (laws_markFloat32S_i1_l0_T s).run) s0
def laws_markFloat32S_i1_l0_E (v2926 : Int) (s : Unit) : Sd := ([.nilslc, .int .i64 v2926, .top, .top, .top, .int .i64 (0 : Int), .top, .top, .top, .top, .top, .top, .top, .top, .top, .top, .top, .top, .top, .top], [])
def laws_markFloat32S_i1_l0_X (v2926 : Int) (x : Unit) : Out := (.normal, [.top, .int .i64 v2926, .top, .top, .top, .top, .top, .top, .top, .top, .top, .top, .top, .top, .top, .top, .top, .top, .top, .top], [])
def laws_markFloat32S_i1_l0_kill : List Nat := [0, 0, 1, 1, 1, 0, 1, 1, 1, 1, 1, 1, 1, 1, 1, 1, 1, 1, 1, 1]
def laws_markFloat32S_i1_l0_nx : Exit → List Nat
  | .exit 0 => [1, 0, 1, 1, 1, 1, 1, 1, 1, 1, 1, 1, 1, 1, 1, 1, 1, 1, 1, 1]
  | .ret => [1, 1, 1, 1, 0, 1, 1, 1, 1, 1, 1, 1, 1, 1, 1, 1, 1, 1, 1, 1]
  | _ => []
noncomputable def laws_markFloat32S_i1_LO (v2926 : Int) : LOr := fun id e L =>
  match id with
  | 0 => .need (normA 0 laws_markFloat32S_i1_l0_kill e L = some (laws_markFloat32S_i1_l0_E v2926 ())) (.call (laws_markFloat32S_i1_l0_g ()) fun x => .leaf (laws_markFloat32S_i1_l0_X v2926 x))
  | _ => .fail
noncomputable def laws_markFloat32S_i1_tab : List (FuncId × DFn × Bool) := []
theorem laws_markFloat32S_i1_hO : OrcOk Try.prog (tabD laws_markFloat32S_i1_tab) (tabM laws_markFloat32S_i1_tab) := tabD_nil _
theorem laws_markFloat32S_i1_l0_be (v2926 : Int) (s : Unit) : bodyT TT (tabD laws_markFloat32S_i1_tab) (tabM laws_markFloat32S_i1_tab) (laws_markFloat32S_i1_LO v2926) 0 laws_markFloat32S_i1_l0_kill laws_markFloat32S_i1_l0_nx (bodyOf Try.f22 0) 0 (laws_markFloat32S_i1_l0_E v2926 s) = (laws_markFloat32S_i1_l0_T s).bind fun y => .leaf (outS (laws_markFloat32S_i1_l0_E v2926) (laws_markFloat32S_i1_l0_X v2926) y) := by kernel_rfl
theorem laws_markFloat32S_i1_l0_ok (v2926 : Int) : LSound Try.prog 0 (laws_markFloat32S_i1_LO v2926) 0 (bodyOf Try.f22 0) := by
  intro e L out h
  exact lo_ok (E := laws_markFloat32S_i1_l0_E v2926) (gT := laws_markFloat32S_i1_l0_T) (X := laws_markFloat32S_i1_l0_X v2926) (s0 := ()) tok laws_markFloat32S_i1_hO mixed (LoopsOk_eq (l := []) (by kernel_rfl) trivial) (laws_markFloat32S_i1_l0_be v2926) rfl (by intro x; rfl) h
noncomputable def laws_markFloat32S_i1_T (v2926 : Int) : Tree (Int) :=
  (.need (some (laws_markFloat32S_i1_l0_E v2926 ()) = some (laws_markFloat32S_i1_l0_E v2926 ())) <|
  (.call (laws_markFloat32S_i1_l0_g ()) fun v2929 =>
  .leaf v2926))

noncomputable def laws_markFloat32S_i1_g (v2926 : Int) : Option (Int) := (laws_markFloat32S_i1_T v2926).run
def laws_markFloat32S_i1_enc (v2926 : Int) (y : Int) : Rs := (.int .i64 y, [])
theorem laws_markFloat32S_i1_den (v2926 : Int) : (den TT (tabD laws_markFloat32S_i1_tab) (tabM laws_markFloat32S_i1_tab) (laws_markFloat32S_i1_LO v2926) (codeOf Try.f22) ([.nilslc, .int .i64 v2926] ++ List.replicate (Try.f22.ntmps - ([.nilslc, .int .i64 v2926] : List DV).length) .undef) []).bind (retD TT Try.f22.results.toList 0) = (laws_markFloat32S_i1_T v2926).bind fun y => .leaf (laws_markFloat32S_i1_enc v2926 y) := by kernel_rfl
theorem laws_markFloat32S_i1_fn (v2926 : Int) (F : Fr) (hm : F.ids.length = 0) (h0 : St F [] F.H0) (hA : DVs.Ok F [] [.nilslc, .int .i64 v2926]) {y : Int} (hy : laws_markFloat32S_i1_g v2926 = some y) : ∃ H', FnOk Try.prog 22 (DVs.av F [.nilslc, .int .i64 v2926]) F.H0 ((laws_markFloat32S_i1_enc v2926 y).1.av F) H' ∧ St F (laws_markFloat32S_i1_enc v2926 y).2 H' ∧ (laws_markFloat32S_i1_enc v2926 y).1.Ok F (laws_markFloat32S_i1_enc v2926 y).2 :=
  fn_fin tok laws_markFloat32S_i1_hO mixed Try.func22 Try.call22 (by kernel_rfl) (LoopsOk_eq (l := [(0, bodyOf Try.f22 0)]) (by kernel_rfl) ⟨laws_markFloat32S_i1_l0_ok v2926, trivial⟩) (laws_markFloat32S_i1_den v2926) hy hm h0 hA
noncomputable def laws_markFloat32S_i1_F : DFn := fun args L =>
  match args with
  | [.nilslc, .int .i64 v2926] =>
    .call (laws_markFloat32S_i1_g v2926) fun y => .leaf (.int .i64 y, L)
  | _ => .fail
theorem laws_markFloat32S_i1_Fok : COk Try.prog 22 laws_markFloat32S_i1_F true := by
  intro F L H args r L' hs ha hr
  unfold laws_markFloat32S_i1_F at hr
  split at hr
  · rename_i v2926
    simp only [Tree.run] at hr
    obtain ⟨y, hy, hr⟩ := Option.bind_eq_some_iff.1 hr
    simp only [Tree.run, Option.some.injEq, Prod.mk.injEq] at hr
    obtain ⟨rfl, rfl⟩ := hr
    exact call_ok0 hs (fun k => (([] : List AV)[k]?).getD .top) [.nilslc, .int .i64 v2926] [.nilslc, .int .i64 v2926] (fun F' h0 hi hρ => ⟨by simp [DVs.av, DV.av, BR.av, hρ], laws_markFloat32S_i1_fn v2926 F' (by rw [hi]; rfl) (st_nil hi) ⟨trivial, trivial, trivial⟩ hy⟩) rfl
  · cases hr
/-! laws.heldFloat32S -/
noncomputable def laws_heldFloat32S_l0_T (v2931 : List Nat) (s : Int × Int) : Tree ((Int × Int) ⊕ ((Unit) ⊕ (Int))) :=
  (.br (decide (s.2 < ((v2931.length : Nat) : Int))) (
   (.grd (inb s.2 v2931.length) <|
   (.br (!feq .f32 (nth v2931 (Int.toNat s.2)) (fofint .f32 s.1)) (
    .leaf (.inr (.inl ()))
   ) (
    .leaf (.inl (IntKind.i64.wrap (s.1 + (1 : Int)), IntKind.i64.wrap (s.2 + (1 : Int))))
   )))
  ) (
   .leaf (.inr (.inr s.1))
  ))

noncomputable def laws_heldFloat32S_l0_g (v2931 : List Nat) (s0 : Int × Int) : Option ((Unit) ⊕ (Int)) := whileM (fun s => (laws_heldFloat32S_l0_T v2931 s).run) s0
def laws_heldFloat32S_l0_E (v2931 : List Nat) (v2932 : Int) (s : Int × Int) : Sd := ([.bslc (BR.root 0) (.f32 v2931), .int .i64 s.1, .top, .top, .top, .int .i64 s.2, .top, .top, .top, .top, .top, .top, .top, .top, .top, .top, .top, .top, .top, .top, .top, .top], [])
def laws_heldFloat32S_l0_X (v2931 : List Nat) (v2932 : Int) (x : (Unit) ⊕ (Int)) : Out := (match x with | .inl x => (.ret, [.top, .top, .top, .top, .int .i64 (-1 : Int), .top, .top, .top, .top, .top, .top, .top, .top, .top, .top, .top, .top, .top, .top, .top, .top, .top], []) | .inr x => (.normal, [.top, .int .i64 x, .top, .top, .top, .top, .top, .top, .top, .top, .top, .top, .top, .top, .top, .top, .top, .top, .top, .top, .top, .top], []))
def laws_heldFloat32S_l0_kill : List Nat := [0, 0, 1, 1, 1, 0, 1, 1, 1, 1, 1, 1, 1, 1, 1, 1, 1, 1, 1, 1, 1, 1]
def laws_heldFloat32S_l0_nx : Exit → List Nat
  | .exit 0 => [1, 0, 1, 1, 1, 1, 1, 1, 1, 1, 1, 1, 1, 1, 1, 1, 1, 1, 1, 1, 1, 1]
  | .ret => [1, 1, 1, 1, 0, 1, 1, 1, 1, 1, 1, 1, 1, 1, 1, 1, 1, 1, 1, 1, 1, 1]
  | _ => []
noncomputable def laws_heldFloat32S_LO (v2931 : List Nat) (v2932 : Int) : LOr := fun id e L =>
  match id with
  | 0 => .need (normA 0 laws_heldFloat32S_l0_kill e L = some (laws_heldFloat32S_l0_E v2931 v2932 ((gI (vAt e 1)), (gI (vAt e 5))))) (.call (laws_heldFloat32S_l0_g v2931 ((gI (vAt e 1)), (gI (vAt e 5)))) fun x => .sum x (fun b0 => .leaf (laws_heldFloat32S_l0_X v2931 v2932 (.inl b0))) (fun c0 => .leaf (laws_heldFloat32S_l0_X v2931 v2932 (.inr c0))))
  | _ => .fail
noncomputable def laws_heldFloat32S_tab : List (FuncId × DFn × Bool) := []
theorem laws_heldFloat32S_hO : OrcOk Try.prog (tabD laws_heldFloat32S_tab) (tabM laws_heldFloat32S_tab) := tabD_nil _
theorem laws_heldFloat32S_l0_be (v2931 : List Nat) (v2932 : Int) (s : Int × Int) : bodyT TT (tabD laws_heldFloat32S_tab) (tabM laws_heldFloat32S_tab) (laws_heldFloat32S_LO v2931 v2932) 0 laws_heldFloat32S_l0_kill laws_heldFloat32S_l0_nx (bodyOf Try.f24 0) 0 (laws_heldFloat32S_l0_E v2931 v2932 s) = (laws_heldFloat32S_l0_T v2931 s).bind fun y => .leaf (outS (laws_heldFloat32S_l0_E v2931 v2932) (laws_heldFloat32S_l0_X v2931 v2932) y) := by kernel_rfl
theorem laws_heldFloat32S_l0_ok (v2931 : List Nat) (v2932 : Int) : LSound Try.prog 0 (laws_heldFloat32S_LO v2931 v2932) 0 (bodyOf Try.f24 0) := by
  intro e L out h
  exact lo_ok (E := laws_heldFloat32S_l0_E v2931 v2932) (gT := laws_heldFloat32S_l0_T v2931) (X := laws_heldFloat32S_l0_X v2931 v2932) (s0 := ((gI (vAt e 1)), (gI (vAt e 5)))) tok laws_heldFloat32S_hO mixed (LoopsOk_eq (l := []) (by kernel_rfl) trivial) (laws_heldFloat32S_l0_be v2931 v2932) rfl (by intro x; (cases x with | inl b => rfl | inr x => exact rfl)) h
noncomputable def laws_heldFloat32S_T (v2931 : List Nat) (v2932 : Int) : Tree (Int) :=
  (.need (some (laws_heldFloat32S_l0_E v2931 v2932 (v2932, (0 : Int))) = some (laws_heldFloat32S_l0_E v2931 v2932 (v2932, (0 : Int)))) <|
  (.call (laws_heldFloat32S_l0_g v2931 (v2932, (0 : Int))) fun v2939 =>
  (.sum v2939 (fun v2940 =>
   .leaf (-1 : Int)
  ) (fun v2941 =>
   .leaf v2941
  ))))

noncomputable def laws_heldFloat32S_g (v2931 : List Nat) (v2932 : Int) : Option (Int) := (laws_heldFloat32S_T v2931 v2932).run
def laws_heldFloat32S_enc (v2931 : List Nat) (v2932 : Int) (y : Int) : Rs := (.int .i64 y, [])
theorem laws_heldFloat32S_den (v2931 : List Nat) (v2932 : Int) : (den TT (tabD laws_heldFloat32S_tab) (tabM laws_heldFloat32S_tab) (laws_heldFloat32S_LO v2931 v2932) (codeOf Try.f24) ([.bslc (BR.root 0) (.f32 v2931), .int .i64 v2932] ++ List.replicate (Try.f24.ntmps - ([.bslc (BR.root 0) (.f32 v2931), .int .i64 v2932] : List DV).length) .undef) []).bind (retD TT Try.f24.results.toList 0) = (laws_heldFloat32S_T v2931 v2932).bind fun y => .leaf (laws_heldFloat32S_enc v2931 v2932 y) := by kernel_rfl
theorem laws_heldFloat32S_fn (v2931 : List Nat) (v2932 : Int) (F : Fr) (hm : F.ids.length = 0) (h0 : St F [] F.H0) (hA : DVs.Ok F [] [.bslc (BR.root 0) (.f32 v2931), .int .i64 v2932]) {y : Int} (hy : laws_heldFloat32S_g v2931 v2932 = some y) : ∃ H', FnOk Try.prog 24 (DVs.av F [.bslc (BR.root 0) (.f32 v2931), .int .i64 v2932]) F.H0 ((laws_heldFloat32S_enc v2931 v2932 y).1.av F) H' ∧ St F (laws_heldFloat32S_enc v2931 v2932 y).2 H' ∧ (laws_heldFloat32S_enc v2931 v2932 y).1.Ok F (laws_heldFloat32S_enc v2931 v2932 y).2 :=
  fn_fin tok laws_heldFloat32S_hO mixed Try.func24 Try.call24 (by kernel_rfl) (LoopsOk_eq (l := [(0, bodyOf Try.f24 0)]) (by kernel_rfl) ⟨laws_heldFloat32S_l0_ok v2931 v2932, trivial⟩) (laws_heldFloat32S_den v2931 v2932) hy hm h0 hA
noncomputable def laws_heldFloat32S_F : DFn := fun args L =>
  match args with
  | [a1, .int .i64 v2932] =>
    optT (rowF32 L a1) fun v2931 =>
    .call (laws_heldFloat32S_g v2931 v2932) fun y => .leaf (.int .i64 y, L)
  | _ => .fail
theorem laws_heldFloat32S_Fok : COk Try.prog 24 laws_heldFloat32S_F true := by
  intro F L H args r L' hs ha hr
  unfold laws_heldFloat32S_F at hr
  split at hr
  · rename_i a1 v2932
    obtain ⟨v2931, hv2931, hr⟩ := optT_run hr
    simp only [Tree.run] at hr
    obtain ⟨y, hy, hr⟩ := Option.bind_eq_some_iff.1 hr
    simp only [Tree.run, Option.some.injEq, Prod.mk.injEq] at hr
    obtain ⟨rfl, rfl⟩ := hr
    exact call_ok0 hs (fun k => (([a1.av F] : List AV)[k]?).getD .top) [a1, .int .i64 v2932] [.bslc (BR.root 0) (.f32 v2931), .int .i64 v2932] (fun F' h0 hi hρ => ⟨by simp [DVs.av, DV.av, BR.av, hρ], laws_heldFloat32S_fn v2931 v2932 F' (by rw [hi]; rfl) (st_nil hi) ⟨bslc_ok hi (by rw [h0, hρ]; exact rowF32_ok hs (DVs.okAt ha 0 rfl) hv2931), trivial, trivial⟩ hy⟩) rfl
  · cases hr
/-! laws.FnExactLeastSquares -/
noncomputable def laws_FnExactLeastSquares_LO (v1 : Int) (v2 : Int) (v3 : List Nat) (v4 : List Nat) : LOr := fun id e L =>
  match id with
  | _ => .fail
noncomputable def laws_FnExactLeastSquares_tab : List (FuncId × DFn × Bool) := [(15, laws_szMatrix_F, true), (17, laws_toMatrix_F, true), (33, laws_toFloat32S_F, true), (54, spec_LeastSquares_F, true), (55, impl_LeastSquares_F, true), (20, laws_eqFloat32S_F, true), (19, laws_eqMatrix_F, true), (21, laws_markMatrix_F, false), (22, (orD (fun args => match args with | [.nilslc, _] => true | _ => false) laws_markFloat32S_i1_F laws_markFloat32S_F), false), (24, laws_heldFloat32S_F, true)]
theorem laws_FnExactLeastSquares_hO : OrcOk Try.prog (tabD laws_FnExactLeastSquares_tab) (tabM laws_FnExactLeastSquares_tab) := tabD_cons laws_szMatrix_Fok (tabD_cons laws_toMatrix_Fok (tabD_cons laws_toFloat32S_Fok (tabD_cons spec_LeastSquares_Fok (tabD_cons impl_LeastSquares_Fok (tabD_cons laws_eqFloat32S_Fok (tabD_cons laws_eqMatrix_Fok (tabD_cons laws_markMatrix_Fok (tabD_cons (orD_ok (COk.weak laws_markFloat32S_i1_Fok) laws_markFloat32S_Fok) (tabD_cons laws_heldFloat32S_Fok (tabD_nil _))))))))))
noncomputable def laws_FnExactLeastSquares_T (v1 : Int) (v2 : Int) (v3 : List Nat) (v4 : List Nat) : Tree (Bool) :=
  (.br (decide ((1048576 : Int) < ((v4.length : Nat) : Int))) (
   .leaf true
  ) (
   (.br (decide ((laws_szMatrix_v v3 (1048576 : Int)) < (0 : Int))) (
    .leaf true
   ) (
    (.call (laws_toMatrix_g v1 v2 v3) fun v22 =>
    (.call (laws_toFloat32S_g v4) fun v23 =>
    (.call (spec_LeastSquares_g v22.1 v22.2.1 v22.2.2 v23) fun v1900 =>
    (.sum v1900 (fun v1901 =>
     (.call (laws_toMatrix_g v1 v2 v3) fun v1903 =>
     (.call (laws_toFloat32S_g v4) fun v1904 =>
     (.call (impl_LeastSquares_g v1903.1 v1903.2.1 v1903.2.2 v1904) fun v2874 =>
     (.sum v2874 (fun v2875 =>
      (.call (laws_eqFloat32S_g ([] : List Nat) ([] : List Nat)) fun v2887 =>
      (.br (!v2887) (
       .leaf false
      ) (
       (.br (!(false == false)) (
        .leaf false
       ) (
        (.call (laws_toMatrix_g v1 v2 v3) fun v2888 =>
        (.call (laws_eqMatrix_g v1903.1 v1903.2.1 v1903.2.2 v2888.1 v2888.2.1 v2888.2.2) fun v2896 =>
        (.br (!v2896) (
         .leaf false
        ) (
         (.call (laws_toFloat32S_g v4) fun v2897 =>
         (.call (laws_eqFloat32S_g v1904 v2897) fun v2898 =>
         (.br (!v2898) (
          .leaf false
         ) (
          (.call (laws_markMatrix_g v1903.2.2 (1 : Int)) fun v2923 =>
          (.grd (decide (v2923.2.length = v1903.2.2.length)) <|
          (.call (laws_markFloat32S_g v1904 v2923.1) fun v2924 =>
          (.grd (decide (v2924.2.length = v1904.length)) <|
          (.br (decide (v2924.1 < (0 : Int))) (
           .leaf false
          ) (
           (.call (laws_eqFloat32S_g ([] : List Nat) ([] : List Nat)) fun v2925 =>
           (.br (!v2925) (
            .leaf false
           ) (
            (.br (!(false == false)) (
             .leaf false
            ) (
             (.call (laws_markFloat32S_i1_g (1 : Int)) fun v2930 =>
             (.call (laws_heldFloat32S_g ([] : List Nat) (1 : Int)) fun v2942 =>
             (.br (decide (v2942 < (0 : Int))) (
              .leaf false
             ) (
              (.br (!decide (v2942 = v2930)) (
               .leaf false
              ) (
               (.call (laws_toMatrix_g v1 v2 v3) fun v2943 =>
               (.call (laws_toFloat32S_g v4) fun v2944 =>
               (.call (impl_LeastSquares_g v2943.1 v2943.2.1 v2943.2.2 v2944) fun v2945 =>
               (.sum v2945 (fun v2946 =>
                (.call (laws_eqFloat32S_g ([] : List Nat) ([] : List Nat)) fun v2948 =>
                (.br (!v2948) (
                 .leaf false
                ) (
                 (.br (!(false == false)) (
                  .leaf false
                 ) (
                  (.call (laws_heldFloat32S_g ([] : List Nat) (1 : Int)) fun v2949 =>
                  (.br (decide (v2949 < (0 : Int))) (
                   .leaf false
                  ) (
                   (.br (!decide (v2949 = v2930)) (
                    .leaf false
                   ) (
                    .leaf true
                   ))
                  )))
                 ))
                )))
               ) (fun v2947 =>
                (.call (laws_eqFloat32S_g v2947 ([] : List Nat)) fun v2950 =>
                (.br (!v2950) (
                 .leaf false
                ) (
                 (.br (!(true == false)) (
                  .leaf false
                 ) (
                  (.call (laws_heldFloat32S_g ([] : List Nat) (1 : Int)) fun v2951 =>
                  (.br (decide (v2951 < (0 : Int))) (
                   .leaf false
                  ) (
                   (.br (!decide (v2951 = v2930)) (
                    .leaf false
                   ) (
                    .leaf true
                   ))
                  )))
                 ))
                )))
               )))))
              ))
             ))))
            ))
           )))
          ))))))
         ))))
        ))))
       ))
      )))
     ) (fun v2876 =>
      (.call (laws_eqFloat32S_g v2876 ([] : List Nat)) fun v2952 =>
      (.br (!v2952) (
       .leaf false
      ) (
       (.br (!(true == false)) (
        .leaf false
       ) (
        (.call (laws_toMatrix_g v1 v2 v3) fun v2953 =>
        (.call (laws_eqMatrix_g v1903.1 v1903.2.1 v1903.2.2 v2953.1 v2953.2.1 v2953.2.2) fun v2954 =>
        (.br (!v2954) (
         .leaf false
        ) (
         (.call (laws_toFloat32S_g v4) fun v2955 =>
         (.call (laws_eqFloat32S_g v1904 v2955) fun v2956 =>
         (.br (!v2956) (
          .leaf false
         ) (
          (.call (laws_markMatrix_g v1903.2.2 (1 : Int)) fun v2957 =>
          (.grd (decide (v2957.2.length = v1903.2.2.length)) <|
          (.call (laws_markFloat32S_g v1904 v2957.1) fun v2958 =>
          (.grd (decide (v2958.2.length = v1904.length)) <|
          (.br (decide (v2958.1 < (0 : Int))) (
           .leaf false
          ) (
           (.call (laws_eqFloat32S_g v2876 ([] : List Nat)) fun v2959 =>
           (.br (!v2959) (
            .leaf false
           ) (
            (.br (!(true == false)) (
             .leaf false
            ) (
             (.call (laws_markFloat32S_g v2876 (1 : Int)) fun v2960 =>
             (.grd (decide (v2960.2.length = v2876.length)) <|
             (.call (laws_heldFloat32S_g v2960.2 (1 : Int)) fun v2961 =>
             (.br (decide (v2961 < (0 : Int))) (
              .leaf false
             ) (
              (.br (!decide (v2961 = v2960.1)) (
               .leaf false
              ) (
               (.call (laws_toMatrix_g v1 v2 v3) fun v2962 =>
               (.call (laws_toFloat32S_g v4) fun v2963 =>
               (.call (impl_LeastSquares_g v2962.1 v2962.2.1 v2962.2.2 v2963) fun v2964 =>
               (.sum v2964 (fun v2965 =>
                (.call (laws_eqFloat32S_g ([] : List Nat) ([] : List Nat)) fun v2967 =>
                (.br (!v2967) (
                 .leaf false
                ) (
                 (.br (!(false == false)) (
                  .leaf false
                 ) (
                  (.call (laws_heldFloat32S_g v2960.2 (1 : Int)) fun v2968 =>
                  (.br (decide (v2968 < (0 : Int))) (
                   .leaf false
                  ) (
                   (.br (!decide (v2968 = v2960.1)) (
                    .leaf false
                   ) (
                    .leaf true
                   ))
                  )))
                 ))
                )))
               ) (fun v2966 =>
                (.call (laws_eqFloat32S_g v2966 ([] : List Nat)) fun v2969 =>
                (.br (!v2969) (
                 .leaf false
                ) (
                 (.br (!(true == false)) (
                  .leaf false
                 ) (
                  (.call (laws_heldFloat32S_g v2960.2 (1 : Int)) fun v2970 =>
                  (.br (decide (v2970 < (0 : Int))) (
                   .leaf false
                  ) (
                   (.br (!decide (v2970 = v2960.1)) (
                    .leaf false
                   ) (
                    .leaf true
                   ))
                  )))
                 ))
                )))
               )))))
              ))
             )))))
            ))
           )))
          ))))))
         ))))
        ))))
       ))
      )))
     )))))
    ) (fun v1902 =>
     (.call (laws_toMatrix_g v1 v2 v3) fun v2971 =>
     (.call (laws_toFloat32S_g v4) fun v2972 =>
     (.call (impl_LeastSquares_g v2971.1 v2971.2.1 v2971.2.2 v2972) fun v2973 =>
     (.sum v2973 (fun v2974 =>
      (.call (laws_eqFloat32S_g ([] : List Nat) v1902) fun v2976 =>
      (.br (!v2976) (
       .leaf false
      ) (
       (.br (!(false == true)) (
        .leaf false
       ) (
        (.call (laws_toMatrix_g v1 v2 v3) fun v2977 =>
        (.call (laws_eqMatrix_g v2971.1 v2971.2.1 v2971.2.2 v2977.1 v2977.2.1 v2977.2.2) fun v2978 =>
        (.br (!v2978) (
         .leaf false
        ) (
         (.call (laws_toFloat32S_g v4) fun v2979 =>
         (.call (laws_eqFloat32S_g v2972 v2979) fun v2980 =>
         (.br (!v2980) (
          .leaf false
         ) (
          (.call (laws_markMatrix_g v2971.2.2 (1 : Int)) fun v2981 =>
          (.grd (decide (v2981.2.length = v2971.2.2.length)) <|
          (.call (laws_markFloat32S_g v2972 v2981.1) fun v2982 =>
          (.grd (decide (v2982.2.length = v2972.length)) <|
          (.br (decide (v2982.1 < (0 : Int))) (
           .leaf false
          ) (
           (.call (laws_eqFloat32S_g ([] : List Nat) v1902) fun v2983 =>
           (.br (!v2983) (
            .leaf false
           ) (
            (.br (!(false == true)) (
             .leaf false
            ) (
             (.call (laws_markFloat32S_i1_g (1 : Int)) fun v2984 =>
             (.call (laws_heldFloat32S_g ([] : List Nat) (1 : Int)) fun v2985 =>
             (.br (decide (v2985 < (0 : Int))) (
              .leaf false
             ) (
              (.br (!decide (v2985 = v2984)) (
               .leaf false
              ) (
               (.call (laws_toMatrix_g v1 v2 v3) fun v2986 =>
               (.call (laws_toFloat32S_g v4) fun v2987 =>
               (.call (impl_LeastSquares_g v2986.1 v2986.2.1 v2986.2.2 v2987) fun v2988 =>
               (.sum v2988 (fun v2989 =>
                (.call (laws_eqFloat32S_g ([] : List Nat) v1902) fun v2991 =>
                (.br (!v2991) (
                 .leaf false
                ) (
                 (.br (!(false == true)) (
                  .leaf false
                 ) (
                  (.call (laws_heldFloat32S_g ([] : List Nat) (1 : Int)) fun v2992 =>
                  (.br (decide (v2992 < (0 : Int))) (
                   .leaf false
                  ) (
                   (.br (!decide (v2992 = v2984)) (
                    .leaf false
                   ) (
                    .leaf true
                   ))
                  )))
                 ))
                )))
               ) (fun v2990 =>
                (.call (laws_eqFloat32S_g v2990 v1902) fun v2993 =>
                (.br (!v2993) (
                 .leaf false
                ) (
                 (.br (!(true == true)) (
                  .leaf false
                 ) (
                  (.call (laws_heldFloat32S_g ([] : List Nat) (1 : Int)) fun v2994 =>
                  (.br (decide (v2994 < (0 : Int))) (
                   .leaf false
                  ) (
                   (.br (!decide (v2994 = v2984)) (
                    .leaf false
                   ) (
                    .leaf true
                   ))
                  )))
                 ))
                )))
               )))))
              ))
             ))))
            ))
           )))
          ))))))
         ))))
        ))))
       ))
      )))
     ) (fun v2975 =>
      (.call (laws_eqFloat32S_g v2975 v1902) fun v2995 =>
      (.br (!v2995) (
       .leaf false
      ) (
       (.br (!(true == true)) (
        .leaf false
       ) (
        (.call (laws_toMatrix_g v1 v2 v3) fun v2996 =>
        (.call (laws_eqMatrix_g v2971.1 v2971.2.1 v2971.2.2 v2996.1 v2996.2.1 v2996.2.2) fun v2997 =>
        (.br (!v2997) (
         .leaf false
        ) (
         (.call (laws_toFloat32S_g v4) fun v2998 =>
         (.call (laws_eqFloat32S_g v2972 v2998) fun v2999 =>
         (.br (!v2999) (
          .leaf false
         ) (
          (.call (laws_markMatrix_g v2971.2.2 (1 : Int)) fun v3000 =>
          (.grd (decide (v3000.2.length = v2971.2.2.length)) <|
          (.call (laws_markFloat32S_g v2972 v3000.1) fun v3001 =>
          (.grd (decide (v3001.2.length = v2972.length)) <|
          (.br (decide (v3001.1 < (0 : Int))) (
           .leaf false
          ) (
           (.call (laws_eqFloat32S_g v2975 v1902) fun v3002 =>
           (.br (!v3002) (
            .leaf false
           ) (
            (.br (!(true == true)) (
             .leaf false
            ) (
             (.call (laws_markFloat32S_g v2975 (1 : Int)) fun v3003 =>
             (.grd (decide (v3003.2.length = v2975.length)) <|
             (.call (laws_heldFloat32S_g v3003.2 (1 : Int)) fun v3004 =>
             (.br (decide (v3004 < (0 : Int))) (
              .leaf false
             ) (
              (.br (!decide (v3004 = v3003.1)) (
               .leaf false
              ) (
               (.call (laws_toMatrix_g v1 v2 v3) fun v3005 =>
               (.call (laws_toFloat32S_g v4) fun v3006 =>
               (.call (impl_LeastSquares_g v3005.1 v3005.2.1 v3005.2.2 v3006) fun v3007 =>
               (.sum v3007 (fun v3008 =>
                (.call (laws_eqFloat32S_g ([] : List Nat) v1902) fun v3010 =>
                (.br (!v3010) (
                 .leaf false
                ) (
                 (.br (!(false == true)) (
                  .leaf false
                 ) (
                  (.call (laws_heldFloat32S_g v3003.2 (1 : Int)) fun v3011 =>
                  (.br (decide (v3011 < (0 : Int))) (
                   .leaf false
                  ) (
                   (.br (!decide (v3011 = v3003.1)) (
                    .leaf false
                   ) (
                    .leaf true
                   ))
                  )))
                 ))
                )))
               ) (fun v3009 =>
                (.call (laws_eqFloat32S_g v3009 v1902) fun v3012 =>
                (.br (!v3012) (
                 .leaf false
                ) (
                 (.br (!(true == true)) (
                  .leaf false
                 ) (
                  (.call (laws_heldFloat32S_g v3003.2 (1 : Int)) fun v3013 =>
                  (.br (decide (v3013 < (0 : Int))) (
                   .leaf false
                  ) (
                   (.br (!decide (v3013 = v3003.1)) (
                    .leaf false
                   ) (
                    .leaf true
                   ))
                  )))
                 ))
                )))
               )))))
              ))
             )))))
            ))
           )))
          ))))))
         ))))
        ))))
       ))
      )))
     )))))
    )))))
   ))
  ))

noncomputable def laws_FnExactLeastSquares_g (v1 : Int) (v2 : Int) (v3 : List Nat) (v4 : List Nat) : Option (Bool) := (laws_FnExactLeastSquares_T v1 v2 v3 v4).run
def laws_FnExactLeastSquares_enc (v1 : Int) (v2 : Int) (v3 : List Nat) (v4 : List Nat) (y : Bool) : Rs := (.bool y, [])
theorem laws_FnExactLeastSquares_den (v1 : Int) (v2 : Int) (v3 : List Nat) (v4 : List Nat) : (den TT (tabD laws_FnExactLeastSquares_tab) (tabM laws_FnExactLeastSquares_tab) (laws_FnExactLeastSquares_LO v1 v2 v3 v4) (codeOf Try.f14) ([.agg [.int .i64 v1, .int .i64 v2, .bslc (BR.root 0) (.f32 v3)], .bslc (BR.root 1) (.f32 v4)] ++ List.replicate (Try.f14.ntmps - ([.agg [.int .i64 v1, .int .i64 v2, .bslc (BR.root 0) (.f32 v3)], .bslc (BR.root 1) (.f32 v4)] : List DV).length) .undef) []).bind (retD TT Try.f14.results.toList 0) = (laws_FnExactLeastSquares_T v1 v2 v3 v4).bind fun y => .leaf (laws_FnExactLeastSquares_enc v1 v2 v3 v4 y) := by kernel_rfl
theorem laws_FnExactLeastSquares_fn (v1 : Int) (v2 : Int) (v3 : List Nat) (v4 : List Nat) (F : Fr) (hm : F.ids.length = 0) (h0 : St F [] F.H0) (hA : DVs.Ok F [] [.agg [.int .i64 v1, .int .i64 v2, .bslc (BR.root 0) (.f32 v3)], .bslc (BR.root 1) (.f32 v4)]) {y : Bool} (hy : laws_FnExactLeastSquares_g v1 v2 v3 v4 = some y) : ∃ H', FnOk Try.prog 14 (DVs.av F [.agg [.int .i64 v1, .int .i64 v2, .bslc (BR.root 0) (.f32 v3)], .bslc (BR.root 1) (.f32 v4)]) F.H0 ((laws_FnExactLeastSquares_enc v1 v2 v3 v4 y).1.av F) H' ∧ St F (laws_FnExactLeastSquares_enc v1 v2 v3 v4 y).2 H' ∧ (laws_FnExactLeastSquares_enc v1 v2 v3 v4 y).1.Ok F (laws_FnExactLeastSquares_enc v1 v2 v3 v4 y).2 :=
  fn_fin tok laws_FnExactLeastSquares_hO mixed Try.func14 Try.call14 (by kernel_rfl) (LoopsOk_eq (l := []) (by kernel_rfl) trivial) (laws_FnExactLeastSquares_den v1 v2 v3 v4) hy hm h0 hA
noncomputable def laws_FnExactLeastSquares_F : DFn := fun args L =>
  match args with
  | [.agg [.int .i64 v1, .int .i64 v2, a1], a2] =>
    optT (rowF32 L a1) fun v3 =>
    optT (rowF32 L a2) fun v4 =>
    .call (laws_FnExactLeastSquares_g v1 v2 v3 v4) fun y => .leaf (.bool y, L)
  | _ => .fail
theorem laws_FnExactLeastSquares_Fok : COk Try.prog 14 laws_FnExactLeastSquares_F true := by
  intro F L H args r L' hs ha hr
  unfold laws_FnExactLeastSquares_F at hr
  split at hr
  · rename_i v1 v2 a1 a2
    obtain ⟨v3, hv3, hr⟩ := optT_run hr
    obtain ⟨v4, hv4, hr⟩ := optT_run hr
    simp only [Tree.run] at hr
    obtain ⟨y, hy, hr⟩ := Option.bind_eq_some_iff.1 hr
    simp only [Tree.run, Option.some.injEq, Prod.mk.injEq] at hr
    obtain ⟨rfl, rfl⟩ := hr
    exact call_ok0 hs (fun k => (([a1.av F, a2.av F] : List AV)[k]?).getD .top) [.agg [.int .i64 v1, .int .i64 v2, a1], a2] [.agg [.int .i64 v1, .int .i64 v2, .bslc (BR.root 0) (.f32 v3)], .bslc (BR.root 1) (.f32 v4)] (fun F' h0 hi hρ => ⟨by simp [DVs.av, DV.av, BR.av, hρ], laws_FnExactLeastSquares_fn v1 v2 v3 v4 F' (by rw [hi]; rfl) (st_nil hi) ⟨⟨trivial, trivial, bslc_ok hi (by rw [h0, hρ]; exact rowF32_ok hs (DVs.okAt (DVs.okAt ha 0 rfl) 2 rfl) hv3), trivial⟩, bslc_ok hi (by rw [h0, hρ]; exact rowF32_ok hs (DVs.okAt ha 1 rfl) hv4), trivial⟩ hy⟩) rfl
  · cases hr
/-! laws.szFloat32S -/
noncomputable def laws_szFloat32S_len_LO (v3022 : Nat) (v3023 : Int) : LOr := fun id e L =>
  match id with
  | _ => .fail
noncomputable def laws_szFloat32S_len_tab : List (FuncId × DFn × Bool) := []
theorem laws_szFloat32S_len_hO : OrcOk Try.prog (tabD laws_szFloat32S_len_tab) (tabM laws_szFloat32S_len_tab) := tabD_nil _
noncomputable def laws_szFloat32S_len_T (v3022 : Nat) (v3023 : Int) : Tree (Int) :=
  (.br (decide (IntKind.i64.wrap (v3023 - ((v3022 : Nat) : Int)) < (0 : Int))) (
   .leaf (-1 : Int)
  ) (
   .leaf (IntKind.i64.wrap (v3023 - ((v3022 : Nat) : Int)))
  ))

noncomputable def laws_szFloat32S_len_g (v3022 : Nat) (v3023 : Int) : Option (Int) := (laws_szFloat32S_len_T v3022 v3023).run
def laws_szFloat32S_len_enc (v3022 : Nat) (v3023 : Int) (y : Int) : Rs := (.int .i64 y, [])
theorem laws_szFloat32S_len_den (v3022 : Nat) (v3023 : Int) : (den TT (tabD laws_szFloat32S_len_tab) (tabM laws_szFloat32S_len_tab) (laws_szFloat32S_len_LO v3022 v3023) (codeOf Try.f56) ([.hslc (BR.root 0) v3022, .int .i64 v3023] ++ List.replicate (Try.f56.ntmps - ([.hslc (BR.root 0) v3022, .int .i64 v3023] : List DV).length) .undef) []).bind (retD TT Try.f56.results.toList 0) = (laws_szFloat32S_len_T v3022 v3023).bind fun y => .leaf (laws_szFloat32S_len_enc v3022 v3023 y) := by kernel_rfl
theorem laws_szFloat32S_len_fn (v3022 : Nat) (v3023 : Int) (F : Fr) (hm : F.ids.length = 0) (h0 : St F [] F.H0) (hA : DVs.Ok F [] [.hslc (BR.root 0) v3022, .int .i64 v3023]) {y : Int} (hy : laws_szFloat32S_len_g v3022 v3023 = some y) : ∃ H', FnOk Try.prog 56 (DVs.av F [.hslc (BR.root 0) v3022, .int .i64 v3023]) F.H0 ((laws_szFloat32S_len_enc v3022 v3023 y).1.av F) H' ∧ St F (laws_szFloat32S_len_enc v3022 v3023 y).2 H' ∧ (laws_szFloat32S_len_enc v3022 v3023 y).1.Ok F (laws_szFloat32S_len_enc v3022 v3023 y).2 :=
  fn_fin tok laws_szFloat32S_len_hO mixed Try.func56 Try.call56 (by kernel_rfl) (LoopsOk_eq (l := []) (by kernel_rfl) trivial) (laws_szFloat32S_len_den v3022 v3023) hy hm h0 hA
def laws_szFloat32S_len_v (v3022 : Nat) (v3023 : Int) : Int :=
  if (decide (IntKind.i64.wrap (v3023 - ((v3022 : Nat) : Int)) < (0 : Int))) = true then (
   (-1 : Int)
  ) else (
   IntKind.i64.wrap (v3023 - ((v3022 : Nat) : Int))
  )
theorem laws_szFloat32S_len_tot (v3022 : Nat) (v3023 : Int) : laws_szFloat32S_len_g v3022 v3023 = some (laws_szFloat32S_len_v v3022 v3023) := by
  unfold laws_szFloat32S_len_g laws_szFloat32S_len_T laws_szFloat32S_len_v
  simp only [Tree.run]
  repeat' (first | rfl | split)
noncomputable def laws_szFloat32S_len_F : DFn := fun args L =>
  match args with
  | [a1, .int .i64 v3023] =>
    optT (lenV L a1) fun v3022 =>
    .leaf (.int .i64 (laws_szFloat32S_len_v v3022 v3023), L)
  | _ => .fail
theorem laws_szFloat32S_len_Fok : COk Try.prog 56 laws_szFloat32S_len_F true := by
  intro F L H args r L' hs ha hr
  unfold laws_szFloat32S_len_F at hr
  split at hr
  · rename_i a1 v3023
    obtain ⟨v3022, hv3022, hr⟩ := optT_run hr
    have hy := laws_szFloat32S_len_tot v3022 v3023
    generalize laws_szFloat32S_len_v v3022 v3023 = y at hy hr
    simp only [Tree.run, Option.some.injEq, Prod.mk.injEq] at hr
    obtain ⟨rfl, rfl⟩ := hr
    exact call_ok0 hs (fun k => (([a1.av F] : List AV)[k]?).getD .top) [a1, .int .i64 v3023] [.hslc (BR.root 0) v3022, .int .i64 v3023] (fun F' h0 hi hρ => ⟨by simp [DVs.av, DV.av, BR.av, hρ], laws_szFloat32S_len_fn v3022 v3023 F' (by rw [hi]; rfl) (st_nil hi) ⟨hslc_ok hi (by rw [h0, hρ]; exact lenV_ok hs (DVs.okAt ha 0 rfl) hv3022), trivial, trivial⟩ hy⟩) rfl
  · cases hr
/-! laws.szMatrix -/
noncomputable def laws_szMatrix_len_LO (v3018 : Int) (v3019 : Int) (v3020 : Nat) (v3021 : Int) : LOr := fun id e L =>
  match id with
  | _ => .fail
noncomputable def laws_szMatrix_len_tab : List (FuncId × DFn × Bool) := [(56, laws_szFloat32S_len_F, true)]
theorem laws_szMatrix_len_hO : OrcOk Try.prog (tabD laws_szMatrix_len_tab) (tabM laws_szMatrix_len_tab) := tabD_cons laws_szFloat32S_len_Fok (tabD_nil _)
noncomputable def laws_szMatrix_len_T (v3020 : Nat) (v3021 : Int) : Tree (Int) :=
  (.br (decide ((laws_szFloat32S_len_v v3020 v3021) < (0 : Int))) (
   .leaf (-1 : Int)
  ) (
   .leaf (laws_szFloat32S_len_v v3020 v3021)
  ))

noncomputable def laws_szMatrix_len_g (v3020 : Nat) (v3021 : Int) : Option (Int) := (laws_szMatrix_len_T v3020 v3021).run
def laws_szMatrix_len_enc (v3018 : Int) (v3019 : Int) (v3020 : Nat) (v3021 : Int) (y : Int) : Rs := (.int .i64 y, [])
theorem laws_szMatrix_len_den (v3018 : Int) (v3019 : Int) (v3020 : Nat) (v3021 : Int) : (den TT (tabD laws_szMatrix_len_tab) (tabM laws_szMatrix_len_tab) (laws_szMatrix_len_LO v3018 v3019 v3020 v3021) (codeOf Try.f15) ([.agg [.int .i64 v3018, .int .i64 v3019, .hslc (BR.root 0) v3020], .int .i64 v3021] ++ List.replicate (Try.f15.ntmps - ([.agg [.int .i64 v3018, .int .i64 v3019, .hslc (BR.root 0) v3020], .int .i64 v3021] : List DV).length) .undef) []).bind (retD TT Try.f15.results.toList 0) = (laws_szMatrix_len_T v3020 v3021).bind fun y => .leaf (laws_szMatrix_len_enc v3018 v3019 v3020 v3021 y) := by kernel_rfl
theorem laws_szMatrix_len_fn (v3018 : Int) (v3019 : Int) (v3020 : Nat) (v3021 : Int) (F : Fr) (hm : F.ids.length = 0) (h0 : St F [] F.H0) (hA : DVs.Ok F [] [.agg [.int .i64 v3018, .int .i64 v3019, .hslc (BR.root 0) v3020], .int .i64 v3021]) {y : Int} (hy : laws_szMatrix_len_g v3020 v3021 = some y) : ∃ H', FnOk Try.prog 15 (DVs.av F [.agg [.int .i64 v3018, .int .i64 v3019, .hslc (BR.root 0) v3020], .int .i64 v3021]) F.H0 ((laws_szMatrix_len_enc v3018 v3019 v3020 v3021 y).1.av F) H' ∧ St F (laws_szMatrix_len_enc v3018 v3019 v3020 v3021 y).2 H' ∧ (laws_szMatrix_len_enc v3018 v3019 v3020 v3021 y).1.Ok F (laws_szMatrix_len_enc v3018 v3019 v3020 v3021 y).2 :=
  fn_fin tok laws_szMatrix_len_hO mixed Try.func15 Try.call15 (by kernel_rfl) (LoopsOk_eq (l := []) (by kernel_rfl) trivial) (laws_szMatrix_len_den v3018 v3019 v3020 v3021) hy hm h0 hA
def laws_szMatrix_len_v (v3020 : Nat) (v3021 : Int) : Int :=
  if (decide ((laws_szFloat32S_len_v v3020 v3021) < (0 : Int))) = true then (
   (-1 : Int)
  ) else (
   (laws_szFloat32S_len_v v3020 v3021)
  )
theorem laws_szMatrix_len_tot (v3020 : Nat) (v3021 : Int) : laws_szMatrix_len_g v3020 v3021 = some (laws_szMatrix_len_v v3020 v3021) := by
  unfold laws_szMatrix_len_g laws_szMatrix_len_T laws_szMatrix_len_v
  simp only [Tree.run]
  repeat' (first | rfl | split)
noncomputable def laws_szMatrix_len_F : DFn := fun args L =>
  match args with
  | [.agg [.int .i64 v3018, .int .i64 v3019, a1], .int .i64 v3021] =>
    optT (lenV L a1) fun v3020 =>
    .leaf (.int .i64 (laws_szMatrix_len_v v3020 v3021), L)
  | _ => .fail
theorem laws_szMatrix_len_Fok : COk Try.prog 15 laws_szMatrix_len_F true := by
  intro F L H args r L' hs ha hr
  unfold laws_szMatrix_len_F at hr
  split at hr
  · rename_i v3018 v3019 a1 v3021
    obtain ⟨v3020, hv3020, hr⟩ := optT_run hr
    have hy := laws_szMatrix_len_tot v3020 v3021
    generalize laws_szMatrix_len_v v3020 v3021 = y at hy hr
    simp only [Tree.run, Option.some.injEq, Prod.mk.injEq] at hr
    obtain ⟨rfl, rfl⟩ := hr
    exact call_ok0 hs (fun k => (([a1.av F] : List AV)[k]?).getD .top) [.agg [.int .i64 v3018, .int .i64 v3019, a1], .int .i64 v3021] [.agg [.int .i64 v3018, .int .i64 v3019, .hslc (BR.root 0) v3020], .int .i64 v3021] (fun F' h0 hi hρ => ⟨by simp [DVs.av, DV.av, BR.av, hρ], laws_szMatrix_len_fn v3018 v3019 v3020 v3021 F' (by rw [hi]; rfl) (st_nil hi) ⟨⟨trivial, trivial, hslc_ok hi (by rw [h0, hρ]; exact lenV_ok hs (DVs.okAt (DVs.okAt ha 0 rfl) 2 rfl) hv3020), trivial⟩, trivial, trivial⟩ hy⟩) rfl
  · cases hr
/-! laws.FnExactLeastSquares -/
noncomputable def laws_FnExactLeastSquares_len_LO (v3014 : Int) (v3015 : Int) (v3016 : Nat) (v3017 : Nat) : LOr := fun id e L =>
  match id with
  | _ => .fail
noncomputable def laws_FnExactLeastSquares_len_tab : List (FuncId × DFn × Bool) := [(15, laws_szMatrix_len_F, true)]
theorem laws_FnExactLeastSquares_len_hO : OrcOk Try.prog (tabD laws_FnExactLeastSquares_len_tab) (tabM laws_FnExactLeastSquares_len_tab) := tabD_cons laws_szMatrix_len_Fok (tabD_nil _)
noncomputable def laws_FnExactLeastSquares_len_T (v3016 : Nat) (v3017 : Nat) : Tree (Bool) :=
  (.br (decide ((1048576 : Int) < ((v3017 : Nat) : Int))) (
   .leaf true
  ) (
   (.br (decide ((laws_szMatrix_len_v v3016 (1048576 : Int)) < (0 : Int))) (
    .leaf true
   ) (
    .fail
   ))
  ))

noncomputable def laws_FnExactLeastSquares_len_g (v3016 : Nat) (v3017 : Nat) : Option (Bool) := (laws_FnExactLeastSquares_len_T v3016 v3017).run
def laws_FnExactLeastSquares_len_enc (v3014 : Int) (v3015 : Int) (v3016 : Nat) (v3017 : Nat) (y : Bool) : Rs := (.bool y, [])
theorem laws_FnExactLeastSquares_len_den (v3014 : Int) (v3015 : Int) (v3016 : Nat) (v3017 : Nat) : (den TT (tabD laws_FnExactLeastSquares_len_tab) (tabM laws_FnExactLeastSquares_len_tab) (laws_FnExactLeastSquares_len_LO v3014 v3015 v3016 v3017) (codeOf Try.f14) ([.agg [.int .i64 v3014, .int .i64 v3015, .hslc (BR.root 0) v3016], .hslc (BR.root 1) v3017] ++ List.replicate (Try.f14.ntmps - ([.agg [.int .i64 v3014, .int .i64 v3015, .hslc (BR.root 0) v3016], .hslc (BR.root 1) v3017] : List DV).length) .undef) []).bind (retD TT Try.f14.results.toList 0) = (laws_FnExactLeastSquares_len_T v3016 v3017).bind fun y => .leaf (laws_FnExactLeastSquares_len_enc v3014 v3015 v3016 v3017 y) := by kernel_rfl
theorem laws_FnExactLeastSquares_len_fn (v3014 : Int) (v3015 : Int) (v3016 : Nat) (v3017 : Nat) (F : Fr) (hm : F.ids.length = 0) (h0 : St F [] F.H0) (hA : DVs.Ok F [] [.agg [.int .i64 v3014, .int .i64 v3015, .hslc (BR.root 0) v3016], .hslc (BR.root 1) v3017]) {y : Bool} (hy : laws_FnExactLeastSquares_len_g v3016 v3017 = some y) : ∃ H', FnOk Try.prog 14 (DVs.av F [.agg [.int .i64 v3014, .int .i64 v3015, .hslc (BR.root 0) v3016], .hslc (BR.root 1) v3017]) F.H0 ((laws_FnExactLeastSquares_len_enc v3014 v3015 v3016 v3017 y).1.av F) H' ∧ St F (laws_FnExactLeastSquares_len_enc v3014 v3015 v3016 v3017 y).2 H' ∧ (laws_FnExactLeastSquares_len_enc v3014 v3015 v3016 v3017 y).1.Ok F (laws_FnExactLeastSquares_len_enc v3014 v3015 v3016 v3017 y).2 :=
  fn_fin tok laws_FnExactLeastSquares_len_hO mixed Try.func14 Try.call14 (by kernel_rfl) (LoopsOk_eq (l := []) (by kernel_rfl) trivial) (laws_FnExactLeastSquares_len_den v3014 v3015 v3016 v3017) hy hm h0 hA
noncomputable def laws_FnExactLeastSquares_len_F : DFn := fun args L =>
  match args with
  | [.agg [.int .i64 v3014, .int .i64 v3015, a1], a2] =>
    optT (lenV L a1) fun v3016 =>
    optT (lenV L a2) fun v3017 =>
    .call (laws_FnExactLeastSquares_len_g v3016 v3017) fun y => .leaf (.bool y, L)
  | _ => .fail
theorem laws_FnExactLeastSquares_len_Fok : COk Try.prog 14 laws_FnExactLeastSquares_len_F true := by
  intro F L H args r L' hs ha hr
  unfold laws_FnExactLeastSquares_len_F at hr
  split at hr
  · rename_i v3014 v3015 a1 a2
    obtain ⟨v3016, hv3016, hr⟩ := optT_run hr
    obtain ⟨v3017, hv3017, hr⟩ := optT_run hr
    simp only [Tree.run] at hr
    obtain ⟨y, hy, hr⟩ := Option.bind_eq_some_iff.1 hr
    simp only [Tree.run, Option.some.injEq, Prod.mk.injEq] at hr
    obtain ⟨rfl, rfl⟩ := hr
    exact call_ok0 hs (fun k => (([a1.av F, a2.av F] : List AV)[k]?).getD .top) [.agg [.int .i64 v3014, .int .i64 v3015, a1], a2] [.agg [.int .i64 v3014, .int .i64 v3015, .hslc (BR.root 0) v3016], .hslc (BR.root 1) v3017] (fun F' h0 hi hρ => ⟨by simp [DVs.av, DV.av, BR.av, hρ], laws_FnExactLeastSquares_len_fn v3014 v3015 v3016 v3017 F' (by rw [hi]; rfl) (st_nil hi) ⟨⟨trivial, trivial, hslc_ok hi (by rw [h0, hρ]; exact lenV_ok hs (DVs.okAt (DVs.okAt ha 0 rfl) 2 rfl) hv3016), trivial⟩, hslc_ok hi (by rw [h0, hρ]; exact lenV_ok hs (DVs.okAt ha 1 rfl) hv3017), trivial⟩ hy⟩) rfl
  · cases hr
end Go.Proofs.Ytooakheodgndaaa.AM
