/- The law AdjointOf: both sides, and the law. -/
import Derived.Test.YtbjnjaclmcpbbaaAJ1
set_option linter.unusedSimpArgs false
set_option linter.unusedVariables false
set_option maxHeartbeats 2000000
set_option maxRecDepth 100000
namespace Go.Proofs.Ytbjnjaclmcpbbaa.AM

theorem sall1 : spec_l06All_g 1 = some [0] := by
  have h : spec_l06All_l0_g 1 ((0 : Int), ([] : List Int)) = some [0] := runN_ok (T := fun s => (spec_l06All_l0_T 1 s).run) 9 _ _ (by kernel_rfl)
  simp only [spec_l06All_g, spec_l06All_T, Tree.run, h, Option.bind_some, if_true]
theorem wi10 : impl_without_g 1 0 = some (.inr (0, 0, [0])) := by
  have a : impl_ascending_g 1 = some [0] := by simp only [impl_ascending_g, impl_ascending_T, Tree.run, asc1, Option.bind_some, if_true]
  have x : slices_IndexFuncI_i1_l0_g [0] 0 (0 : Int) = some (.inl 0) := runN_ok (T := fun s => (slices_IndexFuncI_i1_l0_T [0] 0 s).run) 9 _ _ (by kernel_rfl)
  have e : slices_IndexFuncI_i1_g [0] 0 = some 0 := by simp only [slices_IndexFuncI_i1_g, slices_IndexFuncI_i1_T, Tree.run, x, Option.bind_some, if_true]
  have d1 : slices_DeleteFuncI_l0_g 0 ((0 : Int), IntKind.i64.wrap ((0 : Int) + (1 : Int)), [0]) = some (0, [0]) := runN_ok (T := fun s => (slices_DeleteFuncI_l0_T 0 s).run) 9 _ _ (by kernel_rfl)
  have d2 : slices_DeleteFuncI_l0_g 0 ((0 : Int), IntKind.i64.wrap (1 : Int), [0]) = some (0, [0]) := d1
  have d : slices_DeleteFuncI_g [0] 0 = some (.inr (0, 0, [0])) := by
    have c : decide ((0 : Int) = (-1 : Int)) = false := by decide
    simp only [slices_DeleteFuncI_g, slices_DeleteFuncI_T, Tree.run, e, c, Bool.false_eq_true, if_false, if_true, d1, d2, Option.bind_some]
    first | done | rfl
  simp only [impl_without_g, impl_without_T, Tree.run, a, d, Option.bind_some]
  first | done | rfl
theorem sall2 : spec_l06All_g 2 = some [0, 1] := by
  have h : spec_l06All_l0_g 2 ((0 : Int), ([] : List Int)) = some [0, 1] := runN_ok (T := fun s => (spec_l06All_l0_T 2 s).run) 9 _ _ (by kernel_rfl)
  simp only [spec_l06All_g, spec_l06All_T, Tree.run, h, Option.bind_some, if_true]
theorem wi20 : impl_without_g 2 0 = some (.inr (0, 1, [1, 0])) := by
  have a : impl_ascending_g 2 = some [0, 1] := by simp only [impl_ascending_g, impl_ascending_T, Tree.run, asc2, Option.bind_some, if_true]
  have x : slices_IndexFuncI_i1_l0_g [0, 1] 0 (0 : Int) = some (.inl 0) := runN_ok (T := fun s => (slices_IndexFuncI_i1_l0_T [0, 1] 0 s).run) 9 _ _ (by kernel_rfl)
  have e : slices_IndexFuncI_i1_g [0, 1] 0 = some 0 := by simp only [slices_IndexFuncI_i1_g, slices_IndexFuncI_i1_T, Tree.run, x, Option.bind_some, if_true]
  have d1 : slices_DeleteFuncI_l0_g 0 ((0 : Int), IntKind.i64.wrap ((0 : Int) + (1 : Int)), [0, 1]) = some (1, [1, 1]) := runN_ok (T := fun s => (slices_DeleteFuncI_l0_T 0 s).run) 9 _ _ (by kernel_rfl)
  have d2 : slices_DeleteFuncI_l0_g 0 ((0 : Int), IntKind.i64.wrap (1 : Int), [0, 1]) = some (1, [1, 1]) := d1
  have d : slices_DeleteFuncI_g [0, 1] 0 = some (.inr (0, 1, [1, 0])) := by
    have c : decide ((0 : Int) = (-1 : Int)) = false := by decide
    simp only [slices_DeleteFuncI_g, slices_DeleteFuncI_T, Tree.run, e, c, Bool.false_eq_true, if_false, if_true, d1, d2, Option.bind_some]
    first | done | rfl
  simp only [impl_without_g, impl_without_T, Tree.run, a, d, Option.bind_some]
  first | done | rfl
theorem wi21 : impl_without_g 2 1 = some (.inr (0, 1, [0, 0])) := by
  have a : impl_ascending_g 2 = some [0, 1] := by simp only [impl_ascending_g, impl_ascending_T, Tree.run, asc2, Option.bind_some, if_true]
  have x : slices_IndexFuncI_i1_l0_g [0, 1] 1 (0 : Int) = some (.inl 1) := runN_ok (T := fun s => (slices_IndexFuncI_i1_l0_T [0, 1] 1 s).run) 9 _ _ (by kernel_rfl)
  have e : slices_IndexFuncI_i1_g [0, 1] 1 = some 1 := by simp only [slices_IndexFuncI_i1_g, slices_IndexFuncI_i1_T, Tree.run, x, Option.bind_some, if_true]
  have d1 : slices_DeleteFuncI_l0_g 1 ((1 : Int), IntKind.i64.wrap ((1 : Int) + (1 : Int)), [0, 1]) = some (1, [0, 1]) := runN_ok (T := fun s => (slices_DeleteFuncI_l0_T 1 s).run) 9 _ _ (by kernel_rfl)
  have d2 : slices_DeleteFuncI_l0_g 1 ((1 : Int), IntKind.i64.wrap (2 : Int), [0, 1]) = some (1, [0, 1]) := d1
  have d : slices_DeleteFuncI_g [0, 1] 1 = some (.inr (0, 1, [0, 0])) := by
    have c : decide ((1 : Int) = (-1 : Int)) = false := by decide
    simp only [slices_DeleteFuncI_g, slices_DeleteFuncI_T, Tree.run, e, c, Bool.false_eq_true, if_false, if_true, d1, d2, Option.bind_some]
    first | done | rfl
  simp only [impl_without_g, impl_without_T, Tree.run, a, d, Option.bind_some]
  first | done | rfl
theorem sall3 : spec_l06All_g 3 = some [0, 1, 2] := by
  have h : spec_l06All_l0_g 3 ((0 : Int), ([] : List Int)) = some [0, 1, 2] := runN_ok (T := fun s => (spec_l06All_l0_T 3 s).run) 9 _ _ (by kernel_rfl)
  simp only [spec_l06All_g, spec_l06All_T, Tree.run, h, Option.bind_some, if_true]
theorem wi30 : impl_without_g 3 0 = some (.inr (0, 2, [1, 2, 0])) := by
  have a : impl_ascending_g 3 = some [0, 1, 2] := by simp only [impl_ascending_g, impl_ascending_T, Tree.run, asc3, Option.bind_some, if_true]
  have x : slices_IndexFuncI_i1_l0_g [0, 1, 2] 0 (0 : Int) = some (.inl 0) := runN_ok (T := fun s => (slices_IndexFuncI_i1_l0_T [0, 1, 2] 0 s).run) 9 _ _ (by kernel_rfl)
  have e : slices_IndexFuncI_i1_g [0, 1, 2] 0 = some 0 := by simp only [slices_IndexFuncI_i1_g, slices_IndexFuncI_i1_T, Tree.run, x, Option.bind_some, if_true]
  have d1 : slices_DeleteFuncI_l0_g 0 ((0 : Int), IntKind.i64.wrap ((0 : Int) + (1 : Int)), [0, 1, 2]) = some (2, [1, 2, 2]) := runN_ok (T := fun s => (slices_DeleteFuncI_l0_T 0 s).run) 9 _ _ (by kernel_rfl)
  have d2 : slices_DeleteFuncI_l0_g 0 ((0 : Int), IntKind.i64.wrap (1 : Int), [0, 1, 2]) = some (2, [1, 2, 2]) := d1
  have d : slices_DeleteFuncI_g [0, 1, 2] 0 = some (.inr (0, 2, [1, 2, 0])) := by
    have c : decide ((0 : Int) = (-1 : Int)) = false := by decide
    simp only [slices_DeleteFuncI_g, slices_DeleteFuncI_T, Tree.run, e, c, Bool.false_eq_true, if_false, if_true, d1, d2, Option.bind_some]
    first | done | rfl
  simp only [impl_without_g, impl_without_T, Tree.run, a, d, Option.bind_some]
  first | done | rfl
theorem wi31 : impl_without_g 3 1 = some (.inr (0, 2, [0, 2, 0])) := by
  have a : impl_ascending_g 3 = some [0, 1, 2] := by simp only [impl_ascending_g, impl_ascending_T, Tree.run, asc3, Option.bind_some, if_true]
  have x : slices_IndexFuncI_i1_l0_g [0, 1, 2] 1 (0 : Int) = some (.inl 1) := runN_ok (T := fun s => (slices_IndexFuncI_i1_l0_T [0, 1, 2] 1 s).run) 9 _ _ (by kernel_rfl)
  have e : slices_IndexFuncI_i1_g [0, 1, 2] 1 = some 1 := by simp only [slices_IndexFuncI_i1_g, slices_IndexFuncI_i1_T, Tree.run, x, Option.bind_some, if_true]
  have d1 : slices_DeleteFuncI_l0_g 1 ((1 : Int), IntKind.i64.wrap ((1 : Int) + (1 : Int)), [0, 1, 2]) = some (2, [0, 2, 2]) := runN_ok (T := fun s => (slices_DeleteFuncI_l0_T 1 s).run) 9 _ _ (by kernel_rfl)
  have d2 : slices_DeleteFuncI_l0_g 1 ((1 : Int), IntKind.i64.wrap (2 : Int), [0, 1, 2]) = some (2, [0, 2, 2]) := d1
  have d : slices_DeleteFuncI_g [0, 1, 2] 1 = some (.inr (0, 2, [0, 2, 0])) := by
    have c : decide ((1 : Int) = (-1 : Int)) = false := by decide
    simp only [slices_DeleteFuncI_g, slices_DeleteFuncI_T, Tree.run, e, c, Bool.false_eq_true, if_false, if_true, d1, d2, Option.bind_some]
    first | done | rfl
  simp only [impl_without_g, impl_without_T, Tree.run, a, d, Option.bind_some]
  first | done | rfl
theorem wi32 : impl_without_g 3 2 = some (.inr (0, 2, [0, 1, 0])) := by
  have a : impl_ascending_g 3 = some [0, 1, 2] := by simp only [impl_ascending_g, impl_ascending_T, Tree.run, asc3, Option.bind_some, if_true]
  have x : slices_IndexFuncI_i1_l0_g [0, 1, 2] 2 (0 : Int) = some (.inl 2) := runN_ok (T := fun s => (slices_IndexFuncI_i1_l0_T [0, 1, 2] 2 s).run) 9 _ _ (by kernel_rfl)
  have e : slices_IndexFuncI_i1_g [0, 1, 2] 2 = some 2 := by simp only [slices_IndexFuncI_i1_g, slices_IndexFuncI_i1_T, Tree.run, x, Option.bind_some, if_true]
  have d1 : slices_DeleteFuncI_l0_g 2 ((2 : Int), IntKind.i64.wrap ((2 : Int) + (1 : Int)), [0, 1, 2]) = some (2, [0, 1, 2]) := runN_ok (T := fun s => (slices_DeleteFuncI_l0_T 2 s).run) 9 _ _ (by kernel_rfl)
  have d2 : slices_DeleteFuncI_l0_g 2 ((2 : Int), IntKind.i64.wrap (3 : Int), [0, 1, 2]) = some (2, [0, 1, 2]) := d1
  have d : slices_DeleteFuncI_g [0, 1, 2] 2 = some (.inr (0, 2, [0, 1, 0])) := by
    have c : decide ((2 : Int) = (-1 : Int)) = false := by decide
    simp only [slices_DeleteFuncI_g, slices_DeleteFuncI_T, Tree.run, e, c, Bool.false_eq_true, if_false, if_true, d1, d2, Option.bind_some]
    first | done | rfl
  simp only [impl_without_g, impl_without_T, Tree.run, a, d, Option.bind_some]
  first | done | rfl
theorem sall4 : spec_l06All_g 4 = some [0, 1, 2, 3] := by
  have h : spec_l06All_l0_g 4 ((0 : Int), ([] : List Int)) = some [0, 1, 2, 3] := runN_ok (T := fun s => (spec_l06All_l0_T 4 s).run) 9 _ _ (by kernel_rfl)
  simp only [spec_l06All_g, spec_l06All_T, Tree.run, h, Option.bind_some, if_true]
theorem wi40 : impl_without_g 4 0 = some (.inr (0, 3, [1, 2, 3, 0])) := by
  have a : impl_ascending_g 4 = some [0, 1, 2, 3] := by simp only [impl_ascending_g, impl_ascending_T, Tree.run, asc4, Option.bind_some, if_true]
  have x : slices_IndexFuncI_i1_l0_g [0, 1, 2, 3] 0 (0 : Int) = some (.inl 0) := runN_ok (T := fun s => (slices_IndexFuncI_i1_l0_T [0, 1, 2, 3] 0 s).run) 9 _ _ (by kernel_rfl)
  have e : slices_IndexFuncI_i1_g [0, 1, 2, 3] 0 = some 0 := by simp only [slices_IndexFuncI_i1_g, slices_IndexFuncI_i1_T, Tree.run, x, Option.bind_some, if_true]
  have d1 : slices_DeleteFuncI_l0_g 0 ((0 : Int), IntKind.i64.wrap ((0 : Int) + (1 : Int)), [0, 1, 2, 3]) = some (3, [1, 2, 3, 3]) := runN_ok (T := fun s => (slices_DeleteFuncI_l0_T 0 s).run) 9 _ _ (by kernel_rfl)
  have d2 : slices_DeleteFuncI_l0_g 0 ((0 : Int), IntKind.i64.wrap (1 : Int), [0, 1, 2, 3]) = some (3, [1, 2, 3, 3]) := d1
  have d : slices_DeleteFuncI_g [0, 1, 2, 3] 0 = some (.inr (0, 3, [1, 2, 3, 0])) := by
    have c : decide ((0 : Int) = (-1 : Int)) = false := by decide
    simp only [slices_DeleteFuncI_g, slices_DeleteFuncI_T, Tree.run, e, c, Bool.false_eq_true, if_false, if_true, d1, d2, Option.bind_some]
    first | done | rfl
  simp only [impl_without_g, impl_without_T, Tree.run, a, d, Option.bind_some]
  first | done | rfl
theorem wi41 : impl_without_g 4 1 = some (.inr (0, 3, [0, 2, 3, 0])) := by
  have a : impl_ascending_g 4 = some [0, 1, 2, 3] := by simp only [impl_ascending_g, impl_ascending_T, Tree.run, asc4, Option.bind_some, if_true]
  have x : slices_IndexFuncI_i1_l0_g [0, 1, 2, 3] 1 (0 : Int) = some (.inl 1) := runN_ok (T := fun s => (slices_IndexFuncI_i1_l0_T [0, 1, 2, 3] 1 s).run) 9 _ _ (by kernel_rfl)
  have e : slices_IndexFuncI_i1_g [0, 1, 2, 3] 1 = some 1 := by simp only [slices_IndexFuncI_i1_g, slices_IndexFuncI_i1_T, Tree.run, x, Option.bind_some, if_true]
  have d1 : slices_DeleteFuncI_l0_g 1 ((1 : Int), IntKind.i64.wrap ((1 : Int) + (1 : Int)), [0, 1, 2, 3]) = some (3, [0, 2, 3, 3]) := runN_ok (T := fun s => (slices_DeleteFuncI_l0_T 1 s).run) 9 _ _ (by kernel_rfl)
  have d2 : slices_DeleteFuncI_l0_g 1 ((1 : Int), IntKind.i64.wrap (2 : Int), [0, 1, 2, 3]) = some (3, [0, 2, 3, 3]) := d1
  have d : slices_DeleteFuncI_g [0, 1, 2, 3] 1 = some (.inr (0, 3, [0, 2, 3, 0])) := by
    have c : decide ((1 : Int) = (-1 : Int)) = false := by decide
    simp only [slices_DeleteFuncI_g, slices_DeleteFuncI_T, Tree.run, e, c, Bool.false_eq_true, if_false, if_true, d1, d2, Option.bind_some]
    first | done | rfl
  simp only [impl_without_g, impl_without_T, Tree.run, a, d, Option.bind_some]
  first | done | rfl
theorem wi42 : impl_without_g 4 2 = some (.inr (0, 3, [0, 1, 3, 0])) := by
  have a : impl_ascending_g 4 = some [0, 1, 2, 3] := by simp only [impl_ascending_g, impl_ascending_T, Tree.run, asc4, Option.bind_some, if_true]
  have x : slices_IndexFuncI_i1_l0_g [0, 1, 2, 3] 2 (0 : Int) = some (.inl 2) := runN_ok (T := fun s => (slices_IndexFuncI_i1_l0_T [0, 1, 2, 3] 2 s).run) 9 _ _ (by kernel_rfl)
  have e : slices_IndexFuncI_i1_g [0, 1, 2, 3] 2 = some 2 := by simp only [slices_IndexFuncI_i1_g, slices_IndexFuncI_i1_T, Tree.run, x, Option.bind_some, if_true]
  have d1 : slices_DeleteFuncI_l0_g 2 ((2 : Int), IntKind.i64.wrap ((2 : Int) + (1 : Int)), [0, 1, 2, 3]) = some (3, [0, 1, 3, 3]) := runN_ok (T := fun s => (slices_DeleteFuncI_l0_T 2 s).run) 9 _ _ (by kernel_rfl)
  have d2 : slices_DeleteFuncI_l0_g 2 ((2 : Int), IntKind.i64.wrap (3 : Int), [0, 1, 2, 3]) = some (3, [0, 1, 3, 3]) := d1
  have d : slices_DeleteFuncI_g [0, 1, 2, 3] 2 = some (.inr (0, 3, [0, 1, 3, 0])) := by
    have c : decide ((2 : Int) = (-1 : Int)) = false := by decide
    simp only [slices_DeleteFuncI_g, slices_DeleteFuncI_T, Tree.run, e, c, Bool.false_eq_true, if_false, if_true, d1, d2, Option.bind_some]
    first | done | rfl
  simp only [impl_without_g, impl_without_T, Tree.run, a, d, Option.bind_some]
  first | done | rfl
theorem wi43 : impl_without_g 4 3 = some (.inr (0, 3, [0, 1, 2, 0])) := by
  have a : impl_ascending_g 4 = some [0, 1, 2, 3] := by simp only [impl_ascending_g, impl_ascending_T, Tree.run, asc4, Option.bind_some, if_true]
  have x : slices_IndexFuncI_i1_l0_g [0, 1, 2, 3] 3 (0 : Int) = some (.inl 3) := runN_ok (T := fun s => (slices_IndexFuncI_i1_l0_T [0, 1, 2, 3] 3 s).run) 9 _ _ (by kernel_rfl)
  have e : slices_IndexFuncI_i1_g [0, 1, 2, 3] 3 = some 3 := by simp only [slices_IndexFuncI_i1_g, slices_IndexFuncI_i1_T, Tree.run, x, Option.bind_some, if_true]
  have d1 : slices_DeleteFuncI_l0_g 3 ((3 : Int), IntKind.i64.wrap ((3 : Int) + (1 : Int)), [0, 1, 2, 3]) = some (3, [0, 1, 2, 3]) := runN_ok (T := fun s => (slices_DeleteFuncI_l0_T 3 s).run) 9 _ _ (by kernel_rfl)
  have d2 : slices_DeleteFuncI_l0_g 3 ((3 : Int), IntKind.i64.wrap (4 : Int), [0, 1, 2, 3]) = some (3, [0, 1, 2, 3]) := d1
  have d : slices_DeleteFuncI_g [0, 1, 2, 3] 3 = some (.inr (0, 3, [0, 1, 2, 0])) := by
    have c : decide ((3 : Int) = (-1 : Int)) = false := by decide
    simp only [slices_DeleteFuncI_g, slices_DeleteFuncI_T, Tree.run, e, c, Bool.false_eq_true, if_false, if_true, d1, d2, Option.bind_some]
    first | done | rfl
  simp only [impl_without_g, impl_without_T, Tree.run, a, d, Option.bind_some]
  first | done | rfl
def Wall (n k : Nat) : Prop := ∃ (A W XS : List Int), impl_without_g n k = some (.inr (0, n - 1, XS)) ∧ AM.sub XS ((0 : Nat) : Int) ((0 + (n - 1) : Nat) : Int) = W ∧ spec_l06All_g n = some A ∧ spec_l06Without_g A (k : Int) = some () ∧ (([] : List Int) ++ AM.sub A (0 : Int) (k : Int)) ++ AM.sub A (IntKind.i64.wrap ((k : Int) + (1 : Int))) ((A.length : Nat) : Int) = W ∧ W.length = n - 1 ∧ ∀ x ∈ W, ∃ a : Nat, x = a ∧ a < n
theorem wall10 : Wall 1 0 := ⟨[0], [], [0], wi10, by kernel_rfl, sall1, by kernel_rfl, by kernel_rfl, rfl, (fun x hx => by cases hx)⟩
theorem wall20 : Wall 2 0 := ⟨[0, 1], [1], [1, 0], wi20, by kernel_rfl, sall2, by kernel_rfl, by kernel_rfl, rfl, (fun x hx => by
      rw [List.mem_singleton] at hx
      subst hx
      exact ⟨1, rfl, by omega⟩)⟩
theorem wall21 : Wall 2 1 := ⟨[0, 1], [0], [0, 0], wi21, by kernel_rfl, sall2, by kernel_rfl, by kernel_rfl, rfl, (fun x hx => by
      rw [List.mem_singleton] at hx
      subst hx
      exact ⟨0, rfl, by omega⟩)⟩
theorem wall30 : Wall 3 0 := ⟨[0, 1, 2], [1, 2], [1, 2, 0], wi30, by kernel_rfl, sall3, by kernel_rfl, by kernel_rfl, rfl, (fun x hx => by
      simp only [List.mem_cons, List.not_mem_nil, or_false] at hx
      rcases hx with rfl | rfl
      · exact ⟨1, rfl, by omega⟩
      · exact ⟨2, rfl, by omega⟩)⟩
theorem wall31 : Wall 3 1 := ⟨[0, 1, 2], [0, 2], [0, 2, 0], wi31, by kernel_rfl, sall3, by kernel_rfl, by kernel_rfl, rfl, (fun x hx => by
      simp only [List.mem_cons, List.not_mem_nil, or_false] at hx
      rcases hx with rfl | rfl
      · exact ⟨0, rfl, by omega⟩
      · exact ⟨2, rfl, by omega⟩)⟩
theorem wall32 : Wall 3 2 := ⟨[0, 1, 2], [0, 1], [0, 1, 0], wi32, by kernel_rfl, sall3, by kernel_rfl, by kernel_rfl, rfl, (fun x hx => by
      simp only [List.mem_cons, List.not_mem_nil, or_false] at hx
      rcases hx with rfl | rfl
      · exact ⟨0, rfl, by omega⟩
      · exact ⟨1, rfl, by omega⟩)⟩
theorem wall40 : Wall 4 0 := ⟨[0, 1, 2, 3], [1, 2, 3], [1, 2, 3, 0], wi40, by kernel_rfl, sall4, by kernel_rfl, by kernel_rfl, rfl, (fun x hx => by
      simp only [List.mem_cons, List.not_mem_nil, or_false] at hx
      rcases hx with rfl | rfl | rfl
      · exact ⟨1, rfl, by omega⟩
      · exact ⟨2, rfl, by omega⟩
      · exact ⟨3, rfl, by omega⟩)⟩
theorem wall41 : Wall 4 1 := ⟨[0, 1, 2, 3], [0, 2, 3], [0, 2, 3, 0], wi41, by kernel_rfl, sall4, by kernel_rfl, by kernel_rfl, rfl, (fun x hx => by
      simp only [List.mem_cons, List.not_mem_nil, or_false] at hx
      rcases hx with rfl | rfl | rfl
      · exact ⟨0, rfl, by omega⟩
      · exact ⟨2, rfl, by omega⟩
      · exact ⟨3, rfl, by omega⟩)⟩
theorem wall42 : Wall 4 2 := ⟨[0, 1, 2, 3], [0, 1, 3], [0, 1, 3, 0], wi42, by kernel_rfl, sall4, by kernel_rfl, by kernel_rfl, rfl, (fun x hx => by
      simp only [List.mem_cons, List.not_mem_nil, or_false] at hx
      rcases hx with rfl | rfl | rfl
      · exact ⟨0, rfl, by omega⟩
      · exact ⟨1, rfl, by omega⟩
      · exact ⟨3, rfl, by omega⟩)⟩
theorem wall43 : Wall 4 3 := ⟨[0, 1, 2, 3], [0, 1, 2], [0, 1, 2, 0], wi43, by kernel_rfl, sall4, by kernel_rfl, by kernel_rfl, rfl, (fun x hx => by
      simp only [List.mem_cons, List.not_mem_nil, or_false] at hx
      rcases hx with rfl | rfl | rfl
      · exact ⟨0, rfl, by omega⟩
      · exact ⟨1, rfl, by omega⟩
      · exact ⟨2, rfl, by omega⟩)⟩
theorem wall {n k : Nat} (hn : n ≤ 4) (hk : k < n) : Wall n k := by
  match n, k, hn, hk with
  | 1, 0, _, _ => exact wall10
  | 2, 0, _, _ => exact wall20
  | 2, 1, _, _ => exact wall21
  | 3, 0, _, _ => exact wall30
  | 3, 1, _, _ => exact wall31
  | 3, 2, _, _ => exact wall32
  | 4, 0, _, _ => exact wall40
  | 4, 1, _, _ => exact wall41
  | 4, 2, _, _ => exact wall42
  | 4, 3, _, _ => exact wall43
  | n + 5, _, h, _ => omega
  | 0, _, _, h => omega
  | 1, k + 1, _, h => omega
  | 2, k + 2, _, h => omega
  | 3, k + 3, _, h => omega
  | 4, k + 4, _, h => omega
theorem cell {n i k : Nat} {M : List Int} (hn : n ≤ 4) (hM : M.length = n * n) (hi : i < n) (hk : k < n) : ∃ v, impl_AdjointOf_1_g (i : Int) (k : Int) n n M = some (if (i + k) % 2 = 1 then IntKind.i64.wrap (0 - v) else v) ∧
    ∃ A, spec_l06All_g n = some A ∧ spec_l06Without_g A (k : Int) = some () ∧ spec_l06Without_g A (i : Int) = some () ∧ spec_l06Minor_g n n M ((([] : List Int) ++ AM.sub A (0 : Int) (k : Int)) ++ AM.sub A (IntKind.i64.wrap ((k : Int) + (1 : Int))) ((A.length : Nat) : Int)) ((([] : List Int) ++ AM.sub A (0 : Int) (i : Int)) ++ AM.sub A (IntKind.i64.wrap ((i : Int) + (1 : Int))) ((A.length : Nat) : Int)) = some v := by
  obtain ⟨A, W, XS, a1, a2, a3, a4, a5, a6, a7⟩ := wall hn hk
  obtain ⟨A', W', XS', b1, b2, b3, b4, b5, b6, b7⟩ := wall hn hi
  have hA : A' = A := Option.some.inj (b3.symm.trans a3)
  subst hA
  obtain ⟨v, m1, m2⟩ := mn3 hn hM (R := W) (C := W') (by omega) (by omega) a7 b7
  refine ⟨v, ?_, A', a3, a4, b4, by rw [a5, b5]; exact m2⟩
  have wq : IntKind.i64.wrap ((i : Int) + (k : Int)) = ((i + k : Nat) : Int) := by rw [w64 (by omega) (by omega)]; omega
  have q0 : (!decide ((2 : Int) = 0)) = true := by decide
  have tm : Int.tmod ((i + k : Nat) : Int) (2 : Int) = (((i + k) % 2 : Nat) : Int) := rfl
  simp only [impl_AdjointOf_1_g, impl_AdjointOf_1_T, Tree.run, a1, b1, a2, b2, m1, wq, tm, q0, Option.bind_some, if_true]
  by_cases h : (i + k) % 2 = 1
  · have d : decide ((((i + k) % 2 : Nat) : Int) = (1 : Int)) = true := decide_eq_true (by omega)
    rw [d, if_pos h]; rfl
  · have d : decide ((((i + k) % 2 : Nat) : Int) = (1 : Int)) = false := decide_eq_false (by omega)
    rw [d, if_neg h]; rfl
section
variable {n : Nat} {M : List Int} {f : Nat → Nat → Int}
theorem ajAdd {i j : Nat} (hj : j < n) : (List.range (i * n + j)).map (fun p => f (p / n) (p % n)) ++ [f i j] = (List.range (i * n + (j + 1))).map (fun p => f (p / n) (p % n)) := by
  rw [← Nat.add_assoc, List.range_succ, List.map_append]
  simp only [List.map_cons, List.map_nil, rc_div hj, rc_mod hj]
theorem aj1 (hf : ∀ i k, i < n → k < n → impl_AdjointOf_1_g (i : Int) (k : Int) n n M = some (f i k)) {i : Nat} (hn : n ≤ 6) (hi : i < n) : ∀ (d j : Nat), j + d = n → impl_wholeBy_l2_1_g n n n M (i : Int) ((j : Int), (List.range (i * n + j)).map (fun p => f (p / n) (p % n))) = some ((List.range (i * n + n)).map (fun p => f (p / n) (p % n))) := by
  have h36 := le36 hn hn
  have hin := rc_lt hi (show n - 1 < n by omega)
  intro d
  induction d with
  | zero =>
    intro j hj
    have k0 : ¬ j < n := by omega
    have : j = n := by omega
    subst this
    refine wi_inr (T := fun s => (impl_wholeBy_l2_1_T (j : Int) (j : Int) (j : Int) M (i : Int) s).run) ?_
    simp only [impl_wholeBy_l2_1_T, Tree.run, lt_nat, k0, decide_false, Bool.false_eq_true, if_false]
  | succ d ih =>
    intro j hj
    have k0 : j < n := by omega
    refine wi_inl (T := fun s => (impl_wholeBy_l2_1_T (n : Int) (n : Int) (n : Int) M (i : Int) s).run) (s' := (((j + 1 : Nat) : Int), (List.range (i * n + (j + 1))).map (fun p => f (p / n) (p % n)))) ?_ (ih (j + 1) (by omega))
    have hf' : fits ((List.range (i * n + (j + 1))).map (fun p => f (p / n) (p % n))).length = true := fitsN (by simp; omega)
    simp only [impl_wholeBy_l2_1_T, Tree.run, lt_nat, k0, decide_true, if_true, hf i j hi k0, ajAdd k0, hf', Option.bind_some, w1 (show j ≤ 1000 by omega)]
theorem aj2 (hf : ∀ i k, i < n → k < n → impl_AdjointOf_1_g (i : Int) (k : Int) n n M = some (f i k)) {i : Nat} (hn : n ≤ 6) (hi : i < n) : ∀ (d j : Nat), j + d = n → impl_wholeBy_l2_g n n n M (i : Int) (.inr ((j : Int), (List.range (i * n + j)).map (fun p => f (p / n) (p % n)))) = some (.inr ((List.range (i * n + n)).map (fun p => f (p / n) (p % n)))) := by
  have h36 := le36 hn hn
  have hin := rc_lt hi (show n - 1 < n by omega)
  intro d
  induction d with
  | zero =>
    intro j hj
    have k0 : ¬ j < n := by omega
    have : j = n := by omega
    subst this
    refine wi_inr (T := fun s => (impl_wholeBy_l2_T (j : Int) (j : Int) (j : Int) M (i : Int) s).run) ?_
    simp only [impl_wholeBy_l2_T, Tree.run, lt_nat, k0, decide_false, Bool.false_eq_true, if_false]
  | succ d ih =>
    intro j hj
    have k0 : j < n := by omega
    refine wi_inl (T := fun s => (impl_wholeBy_l2_T (n : Int) (n : Int) (n : Int) M (i : Int) s).run) (s' := .inr (((j + 1 : Nat) : Int), (List.range (i * n + (j + 1))).map (fun p => f (p / n) (p % n)))) ?_ (ih (j + 1) (by omega))
    have hf' : fits ((List.range (i * n + (j + 1))).map (fun p => f (p / n) (p % n))).length = true := fitsN (by simp; omega)
    simp only [impl_wholeBy_l2_T, Tree.run, lt_nat, k0, decide_true, if_true, hf i j hi k0, ajAdd k0, hf', Option.bind_some, w1 (show j ≤ 1000 by omega)]
theorem ajI (hf : ∀ i k, i < n → k < n → impl_AdjointOf_1_g (i : Int) (k : Int) n n M = some (f i k)) (h1 : 1 ≤ n) (hn : n ≤ 6) : impl_wholeBy_g n n n n M = some (.inr ((n : Int), (n : Int), rc n n f)) := by
  have rows : ∀ (d i : Nat), i + d = n → impl_wholeBy_l0_g n n n n M (.inr ((i : Int), (List.range (i * n)).map (fun p => f (p / n) (p % n)))) = some (.inr (rc n n f)) := by
    intro d
    induction d with
    | zero =>
      intro i hi
      have k0 : ¬ i < n := by omega
      have : i = n := by omega
      subst this
      refine wi_inr (T := fun s => (impl_wholeBy_l0_T (i : Int) (i : Int) (i : Int) (i : Int) M s).run) ?_
      simp only [impl_wholeBy_l0_T, Tree.run, lt_nat, k0, decide_false, Bool.false_eq_true, if_false, rc]
    | succ d ih =>
      intro i hi
      have k0 : i < n := by omega
      have e := ih (i + 1) (by omega)
      rw [Nat.add_mul, Nat.one_mul] at e
      refine wi_inl (T := fun s => (impl_wholeBy_l0_T (n : Int) (n : Int) (n : Int) (n : Int) M s).run) ?_ e
      have u := aj1 hf hn k0 n 0 (by omega)
      rw [Nat.add_zero] at u
      have u' : impl_wholeBy_l2_1_g n n n M (i : Int) ((0 : Int), (List.range (i * n)).map (fun p => f (p / n) (p % n))) = some ((List.range (i * n + n)).map (fun p => f (p / n) (p % n))) := u
      simp only [impl_wholeBy_l0_T, Tree.run, lt_nat, k0, decide_true, if_true, u', Option.bind_some, w1 (show i ≤ 1000 by omega)]
  have first : impl_wholeBy_l2_g n n n M (0 : Int) (.inl (0 : Int)) = some (.inr ((List.range n).map (fun p => f (p / n) (p % n)))) := by
    have e := aj2 hf (i := 0) hn (by omega) (n - 1) 1 (by omega)
    rw [Nat.zero_mul, Nat.zero_add, Nat.zero_add] at e
    refine wi_inl (T := fun s => (impl_wholeBy_l2_T (n : Int) (n : Int) (n : Int) M (0 : Int) s).run) ?_ e
    have k0 : decide ((0 : Int) < (n : Int)) = true := decide_eq_true (by omega)
    have v : impl_AdjointOf_1_g (0 : Int) (0 : Int) n n M = some (f 0 0) := hf 0 0 (by omega) (by omega)
    have f1 : fits ([f 0 0] : List Int).length = true := rfl
    have f2 : decide (([f 0 0] : List Int).length = 0) = false := rfl
    have e1 : (List.range 1).map (fun p => f (p / n) (p % n)) = [f 0 0] := by simp [List.range_succ]
    rw [e1]
    simp only [impl_wholeBy_l2_T, Tree.run, k0, if_true, v, f1, f2, Option.bind_some, Bool.false_eq_true, if_false]
    rfl
  have all : impl_wholeBy_l0_g n n n n M (.inl (0 : Int)) = some (.inr (rc n n f)) := by
    have e := rows (n - 1) 1 (by omega)
    rw [Nat.one_mul] at e
    refine wi_inl (T := fun s => (impl_wholeBy_l0_T (n : Int) (n : Int) (n : Int) (n : Int) M s).run) ?_ e
    have k0 : decide ((0 : Int) < (n : Int)) = true := decide_eq_true (by omega)
    simp only [impl_wholeBy_l0_T, Tree.run, k0, if_true, first, Option.bind_some]
    rfl
  simp only [impl_wholeBy_g, impl_wholeBy_T, Tree.run, all, Option.bind_some, if_true]
theorem ajS (hs : ∀ (i k : Nat) (s : List Int), i < n → k < n → s.length = n * n → (spec_AdjointOf_l2_T n n M (i : Int) n n ((k : Int), s)).run = some (.inl (((k + 1 : Nat) : Int), s.set (i * n + k) (f i k)))) (hn : n ≤ 6) :
    spec_AdjointOf_l0_g n n M n n ((0 : Int), List.replicate (n * n) (0 : Int)) = some (rc n n f) := by
  have row : ∀ (i : Nat), i < n → ∀ (d k : Nat) (s : List Int), k + d = n → s.length = n * n → ∃ s', spec_AdjointOf_l2_g n n M (i : Int) n n ((k : Int), s) = some s' ∧ s'.length = n * n ∧ ∀ a b, a < n → b < n → nth s' (a * n + b) = if a = i ∧ k ≤ b then f a b else nth s (a * n + b) := by
    intro i hi d
    induction d with
    | zero =>
      intro k s hk hl
      have k0 : ¬ k < n := by omega
      refine ⟨s, wi_inr (T := fun s => (spec_AdjointOf_l2_T n n M (i : Int) n n s).run) ?_, hl, fun a b ha hb => by rw [if_neg (by omega)]⟩
      simp only [spec_AdjointOf_l2_T, Tree.run, lt_nat, k0, decide_false, Bool.false_eq_true, if_false]
    | succ d ih =>
      intro k s hk hl
      have k0 : k < n := by omega
      obtain ⟨s', g1, g2, g3⟩ := ih (k + 1) (s.set (i * n + k) (f i k)) (by omega) (by simp [hl])
      refine ⟨s', wi_inl (T := fun s => (spec_AdjointOf_l2_T n n M (i : Int) n n s).run) (hs i k s hi k0 hl) g1, g2, fun a b ha hb => ?_⟩
      rw [g3 a b ha hb, setG (by rw [hl]; exact rc_lt hi k0)]
      by_cases e : a = i ∧ k + 1 ≤ b
      · rw [if_pos e, if_pos (by omega)]
      · rw [if_neg e]
        by_cases e2 : i * n + k = a * n + b
        · obtain ⟨e3, e4⟩ := rcinj k0 hb e2
          rw [if_pos e2, if_pos (by omega), e3, e4]
        · rw [if_neg e2, if_neg]
          rintro ⟨e3, e4⟩
          apply e2
          have : b = k := by
            by_cases h : k + 1 ≤ b
            · exact absurd ⟨e3, h⟩ e
            · omega
          rw [e3, this]
  have all : ∀ (d i : Nat) (s : List Int), i + d = n → s.length = n * n → ∃ s', spec_AdjointOf_l0_g n n M n n ((i : Int), s) = some s' ∧ s'.length = n * n ∧ ∀ a b, a < n → b < n → nth s' (a * n + b) = if i ≤ a then f a b else nth s (a * n + b) := by
    intro d
    induction d with
    | zero =>
      intro i s hi hl
      have k0 : ¬ i < n := by omega
      refine ⟨s, wi_inr (T := fun s => (spec_AdjointOf_l0_T n n M n n s).run) ?_, hl, fun a b ha hb => by rw [if_neg (by omega)]⟩
      simp only [spec_AdjointOf_l0_T, Tree.run, lt_nat, k0, decide_false, Bool.false_eq_true, if_false]
    | succ d ih =>
      intro i s hi hl
      have k0 : i < n := by omega
      obtain ⟨t, r1, r2, r3⟩ := row i k0 n 0 s (by omega) hl
      obtain ⟨s', g1, g2, g3⟩ := ih (i + 1) t (by omega) r2
      have r1' : spec_AdjointOf_l2_g n n M (i : Int) n n ((0 : Int), s) = some t := r1
      refine ⟨s', wi_inl (T := fun s => (spec_AdjointOf_l0_T n n M n n s).run) ?_ g1, g2, fun a b ha hb => ?_⟩
      · simp only [spec_AdjointOf_l0_T, Tree.run, lt_nat, k0, decide_true, if_true, r1', Option.bind_some, w1 (show i ≤ 1000 by omega)]
      · rw [g3 a b ha hb, r3 a b ha hb]
        by_cases e : i + 1 ≤ a
        · rw [if_pos e, if_pos (by omega)]
        · rw [if_neg e]
          by_cases e2 : a = i
          · rw [if_pos ⟨e2, Nat.zero_le _⟩, if_pos (by omega)]
          · rw [if_neg (by omega), if_neg (by omega)]
  obtain ⟨s', g1, g2, g3⟩ := all n 0 (List.replicate (n * n) 0) (by omega) (by simp)
  have e : s' = rc n n f := rc_ext g2 fun i k hi hk => by rw [g3 i k hi hk, if_pos (Nat.zero_le _)]
  rw [e] at g1
  exact g1
end
theorem aj_both (x0 x1 : Int) (x2 : List Int) (h2 : x2.length ≤ maxN) :
    (impl_AdjointOf_g x0 x1 x2 = some (.inl ()) ∧ spec_AdjointOf_g x0 x1 x2 = some (.inl ())) ∨
    ∃ a b H, impl_AdjointOf_g x0 x1 x2 = some (.inr (.inr (a, b, H))) ∧ spec_AdjointOf_g x0 x1 x2 = some (.inr (a, b, H)) ∧ H.length ≤ 1024 := by
  have lI : impl_isLow_g x0 x1 x2 = some (whB 100 x0 x1 x2) := by
    simp only [impl_isLow_g, impl_isLow_T, Tree.run, whI 100 x0 x1 x2 h2 (by omega) (by omega), Option.bind_some]
  have lS : spec_l06Low_g x0 x1 x2 = some (whB 100 x0 x1 x2) := by
    simp only [spec_l06Low_g, spec_l06Low_T, Tree.run, whS 100 x0 x1 x2 h2 (by omega) (by omega), Option.bind_some]
  cases hv : whB 100 x0 x1 x2 with
  | false =>
    rw [hv] at lI lS
    exact .inl ⟨by simp only [impl_AdjointOf_g, impl_AdjointOf_T, Tree.run, lI, Option.bind_some, Bool.not_false, if_true], by simp only [spec_AdjointOf_g, spec_AdjointOf_T, Tree.run, lS, Option.bind_some, Bool.not_false, if_true]⟩
  | true =>
  rw [hv] at lI lS
  obtain ⟨n, m, rfl, rfl, n1, n6, m1, m6, hl, hb⟩ := wh_shape hv
  by_cases hnm : n = m
  case neg =>
    have d : decide ((n : Int) = (m : Int)) = false := decide_eq_false (by omega)
    exact .inl ⟨by simp only [impl_AdjointOf_g, impl_AdjointOf_T, Tree.run, lI, d, Option.bind_some, Bool.not_true, Bool.not_false, Bool.false_eq_true, if_false, if_true], by simp only [spec_AdjointOf_g, spec_AdjointOf_T, Tree.run, lS, d, Option.bind_some, Bool.not_true, Bool.not_false, Bool.false_eq_true, if_false, if_true]⟩
  subst hnm
  have d : decide ((n : Int) = (n : Int)) = true := decide_eq_true rfl
  by_cases h4 : 4 < n
  · have d4 : decide ((4 : Int) < (n : Int)) = true := decide_eq_true (by omega)
    exact .inl ⟨by simp only [impl_AdjointOf_g, impl_AdjointOf_T, Tree.run, lI, d, d4, decide_true, Option.bind_some, Bool.not_true, Bool.not_false, Bool.false_eq_true, if_false, if_true], by simp only [spec_AdjointOf_g, spec_AdjointOf_T, Tree.run, lS, d, d4, decide_true, Option.bind_some, Bool.not_true, Bool.not_false, Bool.false_eq_true, if_false, if_true]⟩
  have d4 : decide ((4 : Int) < (n : Int)) = false := decide_eq_false (by omega)
  have hn : n ≤ 4 := by omega
  have h36 := le36 n6 n6
  have ex : ∀ i k, ∃ w, i < n → k < n → ∃ v, impl_AdjointOf_1_g (i : Int) (k : Int) n n x2 = some w ∧ w = (if (i + k) % 2 = 1 then IntKind.i64.wrap (0 - v) else v) ∧
      ∃ A, spec_l06All_g n = some A ∧ spec_l06Without_g A (k : Int) = some () ∧ spec_l06Without_g A (i : Int) = some () ∧ spec_l06Minor_g n n x2 ((([] : List Int) ++ AM.sub A (0 : Int) (k : Int)) ++ AM.sub A (IntKind.i64.wrap ((k : Int) + (1 : Int))) ((A.length : Nat) : Int)) ((([] : List Int) ++ AM.sub A (0 : Int) (i : Int)) ++ AM.sub A (IntKind.i64.wrap ((i : Int) + (1 : Int))) ((A.length : Nat) : Int)) = some v := by
    intro i k
    by_cases hi : i < n
    · by_cases hk : k < n
      · obtain ⟨v, c1, c2⟩ := cell hn hl hi hk
        exact ⟨_, fun _ _ => ⟨v, c1, rfl, c2⟩⟩
      · exact ⟨0, fun _ h => absurd h hk⟩
    · exact ⟨0, fun h => absurd h hi⟩
  obtain ⟨f, hf⟩ : ∃ f : Nat → Nat → Int, ∀ i k, i < n → k < n → ∃ v, impl_AdjointOf_1_g (i : Int) (k : Int) n n x2 = some (f i k) ∧ f i k = (if (i + k) % 2 = 1 then IntKind.i64.wrap (0 - v) else v) ∧
      ∃ A, spec_l06All_g n = some A ∧ spec_l06Without_g A (k : Int) = some () ∧ spec_l06Without_g A (i : Int) = some () ∧ spec_l06Minor_g n n x2 ((([] : List Int) ++ AM.sub A (0 : Int) (k : Int)) ++ AM.sub A (IntKind.i64.wrap ((k : Int) + (1 : Int))) ((A.length : Nat) : Int)) ((([] : List Int) ++ AM.sub A (0 : Int) (i : Int)) ++ AM.sub A (IntKind.i64.wrap ((i : Int) + (1 : Int))) ((A.length : Nat) : Int)) = some v :=
    ⟨fun i k => (ex i k).choose, fun i k hi hk => (ex i k).choose_spec hi hk⟩
  have wI := ajI (f := f) (M := x2) (fun i k hi hk => (hf i k hi hk).choose_spec.1) n1 n6
  have wS := ajS (f := f) (M := x2) (by
    intro i k s hi hk hs
    obtain ⟨v, _, c2, A, c3, c4, c5, c6⟩ := hf i k hi hk
    have wk := w1 (show k ≤ 1000 by omega)
    have wi_ := w1 (show i ≤ 1000 by omega)
    simp only [wk, wi_] at c6
    have wq : IntKind.i64.wrap ((i : Int) + (k : Int)) = ((i + k : Nat) : Int) := by rw [w64 (by omega) (by omega)]; omega
    have q0 : (!decide ((2 : Int) = 0)) = true := by decide
    have tm : Int.tmod ((i + k : Nat) : Int) (2 : Int) = (((i + k) % 2 : Nat) : Int) := rfl
    have at1 := atw hi hk (show n ≤ 12 by omega) (show n ≤ 12 by omega)
    have at2 : decide ((i * n + k : Nat) < s.length) = true := decide_eq_true (by rw [hs]; exact rc_lt hi hk)
    by_cases h : (i + k) % 2 = 1
    · have dd : decide ((((i + k) % 2 : Nat) : Int) = (1 : Int)) = true := decide_eq_true (by omega)
      rw [c2, if_pos h]
      simp only [spec_AdjointOf_l2_T, Tree.run, lt_nat, hk, decide_true, if_true, c3, c4, c5, c6, wq, tm, q0, dd, at1, inb_nat, at2, Int.toNat_natCast, Option.bind_some, wk, wi_]
    · have dd : decide ((((i + k) % 2 : Nat) : Int) = (1 : Int)) = false := decide_eq_false (by omega)
      rw [c2, if_neg h]
      simp only [spec_AdjointOf_l2_T, Tree.run, lt_nat, hk, decide_true, if_true, c3, c4, c5, c6, wq, tm, q0, dd, at1, inb_nat, at2, Int.toNat_natCast, Option.bind_some, Bool.false_eq_true, if_false, wk, wi_]) n6
  have hrl : (rc n n f).length = n * n := rc_length _ _ _
  generalize rc n n f = H at wI wS hrl
  have vI := vwI n n H (by unfold maxN; omega)
  have vS := whS 1000000 n n H (by unfold maxN; omega) (by omega) (by omega)
  have zS : spec_l06Zero_g n n = some ((n : Int), (n : Int)) := by
    have : inb ((n * n : Nat) : Int) (maxN + 1) = true := by rw [inb_nat]; exact decide_eq_true (by unfold maxN; omega)
    simp only [spec_l06Zero_g, spec_l06Zero_T, Tree.run, mulw (show n ≤ 12 by omega) (show n ≤ 12 by omega), this, if_true]
  have mw := mulw (show n ≤ 12 by omega) (show n ≤ 12 by omega)
  cases hw : whB 1000000 n n H with
  | false =>
    rw [hw] at vI vS
    have gI : impl_Whole_valid_g n n H = some (.inl ()) := by simp only [impl_Whole_valid_g, impl_Whole_valid_T, Tree.run, vI, Option.bind_some, Bool.not_false, if_true]
    have gS : spec_l06Give_g n n H = some (.inl ()) := by simp only [spec_l06Give_g, spec_l06Give_T, Tree.run, vS, Option.bind_some, Bool.not_false, if_true]
    exact .inl ⟨by simp only [impl_AdjointOf_g, impl_AdjointOf_T, Tree.run, lI, d, d4, decide_true, wI, gI, Option.bind_some, Bool.not_true, Bool.false_eq_true, if_false, if_true], by simp only [spec_AdjointOf_g, spec_AdjointOf_T, Tree.run, lS, d, d4, decide_true, zS, mw, Int.toNat_natCast, wS, gS, Option.bind_some, Bool.not_true, Bool.false_eq_true, if_false, if_true]⟩
  | true =>
    rw [hw] at vI vS
    have gI : impl_Whole_valid_g n n H = some (.inr ((n : Int), (n : Int))) := by simp only [impl_Whole_valid_g, impl_Whole_valid_T, Tree.run, vI, Option.bind_some, Bool.not_true, Bool.false_eq_true, if_false]
    have gS : spec_l06Give_g n n H = some (.inr ((n : Int), (n : Int))) := by simp only [spec_l06Give_g, spec_l06Give_T, Tree.run, vS, Option.bind_some, Bool.not_true, Bool.false_eq_true, if_false]
    exact .inr ⟨n, n, H, by simp only [impl_AdjointOf_g, impl_AdjointOf_T, Tree.run, lI, d, d4, decide_true, wI, gI, Option.bind_some, Bool.not_true, Bool.false_eq_true, if_false, if_true], by simp only [spec_AdjointOf_g, spec_AdjointOf_T, Tree.run, lS, d, d4, decide_true, zS, mw, Int.toNat_natCast, wS, gS, Option.bind_some, Bool.not_true, Bool.false_eq_true, if_false, if_true], by omega⟩
theorem aj_law (x0 x1 : Int) (x2 : List Int) (h0 : -9223372036854775808 ≤ x0 ∧ x0 < 9223372036854775808) (h1 : -9223372036854775808 ≤ x1 ∧ x1 < 9223372036854775808) (h2 : x2.length ≤ maxN) : laws_FnExactAdjointOf_g x0 x1 x2 = some true := by
  have q2 := h2
  unfold maxN at q2
  have en := eqW_self 0 0 [] (by simp [maxN])
  have hn := heldW_nil 1 (by omega) (by omega)
  have m0 := markW_ok x2 (1) h2 (by omega) (by omega)
  have g1 : decide (((1 : Int) + x2.length : Int) < 0) = false := by simp; omega
  have t0 := toW_ok x0 x1 x2 h2
  have e0 := eqW_self x0 x1 x2 h2
  cases z0 : decide (laws_szWhole_v x2 (1048576 : Int) < 0)
  case true => simp only [laws_FnExactAdjointOf_g, laws_FnExactAdjointOf_T, Tree.run, z0, Bool.false_eq_true, if_false, if_true]
  rcases aj_both x0 x1 x2 h2 with ⟨i1, i2⟩ | ⟨a, b, H, i1, i2, l1⟩
  · simp only [laws_FnExactAdjointOf_g, laws_FnExactAdjointOf_T, Tree.run, z0, i1, i2, en, hn, markW_nil, m0, t0, e0, g1, Option.bind_some, Bool.false_eq_true, if_false, if_true, decide_true, Bool.not_true, Bool.not_false, beq_self_eq_true, marks_length, marksI_length]
    first | done | simp [Tree.run]
  · have hd0 : H.length ≤ maxN := by unfold maxN; omega
    have md0 := markW_ok H (1) hd0 (by omega) (by omega)
    have hl0 := heldW_ok (1) H.length hd0 (by omega) (by omega)
    have g20 : decide (((1 : Int) + H.length : Int) < 0) = false := by simp; omega
    have ea := eqW_self a b H hd0
    simp only [laws_FnExactAdjointOf_g, laws_FnExactAdjointOf_T, Tree.run, z0, i1, i2, en, hn, markW_nil, m0, t0, e0, g1, md0, hl0, g20, ea, Option.bind_some, Bool.false_eq_true, if_false, if_true, decide_true, Bool.not_true, Bool.not_false, beq_self_eq_true, marks_length, marksI_length]
    first | done | simp [Tree.run]
theorem aj_lawL (x0 x1 : Int) (x2 : Nat) (h0 : -9223372036854775808 ≤ x0 ∧ x0 < 9223372036854775808) (h1 : -9223372036854775808 ≤ x1 ∧ x1 < 9223372036854775808) (h2 : x2 < 9223372036854775808) (big : maxN < x2) : laws_FnExactAdjointOf_len_g x2 = some true := by
  have e := szW_len x2 (1048576) h2 (by omega) (by omega) big
  simp [laws_FnExactAdjointOf_len_g, laws_FnExactAdjointOf_len_T, Tree.run, e]
end Go.Proofs.Ytbjnjaclmcpbbaa.AM
