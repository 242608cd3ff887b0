/- Printed by gen.py: what each function's call asks. -/
import Derived.Test.YthohhnnjpaepnaaHxDefs
import Derived.Test.YthohhnnjpaepnaaHxSoundH
import Derived.Test.YthohhnnjpaepnaaProg
import Derived.KernelRfl
set_option linter.unusedVariables false
namespace Go.Hx
open Go.Proofs
theorem wide_ok : Try.prog.follows .mixedOrders = true := by kernel_rfl

theorem g_law29_sides.x (a_0 : Int) (b_1 : Int) (h : Hp) (K : Value → Hp → Prop) : (g_law29_sides a_0 b_1 h (fun r0 r1 h => K (.tuple #[.int .i64 r0, .int .i64 r1]) h)) = xfnD Try.prog [] [] Try.f46 .z [.int .u8 a_0, .int .u8 b_1] h K := by kernel_rfl

theorem g_law29_sides.ok : OkFn Try.prog 46 g_law29_sides.c ∧ MonoC g_law29_sides.c := by
  refine xfnD_okm (an := .z) wide_ok (OkTab.nil _) (OkTabI.nil _) Try.func46 (fun vs h K hk => ?_) (fun vs h K K' hk => ?_)
  · unfold g_law29_sides.c at hk
    split at hk
    · rename_i a_0 b_1
      exact ⟨_, hk, Nat.le_of_ble_eq_true rfl, g_law29_sides.x a_0 b_1 h K⟩
    · exact hk.elim
  · unfold g_law29_sides.c at hk ⊢
    split at hk
    · rename_i a_0 b_1
      exact ⟨_, id, g_law29_sides.x a_0 b_1 h K'⟩
    · exact hk.elim

theorem g_lattice_check.x (w_0 : Int) (h_1 : Int) (h : Hp) (K : Value → Hp → Prop) : (g_lattice_check w_0 h_1 h (fun r0 h => K (.int .i64 r0) h)) = xfnD Try.prog [] [] Try.f86 .z [.int .i64 w_0, .int .i64 h_1] h K := by kernel_rfl

theorem g_lattice_check.ok : OkFn Try.prog 86 g_lattice_check.c ∧ MonoC g_lattice_check.c := by
  refine xfnD_okm (an := .z) wide_ok (OkTab.nil _) (OkTabI.nil _) Try.func86 (fun vs h K hk => ?_) (fun vs h K K' hk => ?_)
  · unfold g_lattice_check.c at hk
    split at hk
    · rename_i w_0 h_1
      exact ⟨_, hk, Nat.le_of_ble_eq_true rfl, g_lattice_check.x w_0 h_1 h K⟩
    · exact hk.elim
  · unfold g_lattice_check.c at hk ⊢
    split at hk
    · rename_i w_0 h_1
      exact ⟨_, id, g_lattice_check.x w_0 h_1 h K'⟩
    · exact hk.elim

theorem g_lattice_step.x (at_0 : Int) (by_1 : Int) (many_2 : Int) (wrap_3 : Bool) (h : Hp) (K : Value → Hp → Prop) : (g_lattice_step at_0 by_1 many_2 wrap_3 h (fun r0 r1 h => K (.tuple #[.int .i64 r0, .bool r1]) h)) = xfnD Try.prog [] [] Try.f95 .z [.int .i64 at_0, .int .i64 by_1, .int .i64 many_2, .bool wrap_3] h K := by kernel_rfl

theorem g_lattice_step.ok : OkFn Try.prog 95 g_lattice_step.c ∧ MonoC g_lattice_step.c := by
  refine xfnD_okm (an := .z) wide_ok (OkTab.nil _) (OkTabI.nil _) Try.func95 (fun vs h K hk => ?_) (fun vs h K K' hk => ?_)
  · unfold g_lattice_step.c at hk
    split at hk
    · rename_i at_0 by_1 many_2 wrap_3
      exact ⟨_, hk, Nat.le_of_ble_eq_true rfl, g_lattice_step.x at_0 by_1 many_2 wrap_3 h K⟩
    · exact hk.elim
  · unfold g_lattice_step.c at hk ⊢
    split at hk
    · rename_i at_0 by_1 many_2 wrap_3
      exact ⟨_, id, g_lattice_step.x at_0 by_1 many_2 wrap_3 h K'⟩
    · exact hk.elim

theorem g_lattice_grid_f1.x (x_0 : Int) (y_1 : Int) (d_2_0 : Int) (d_2_1 : Int) (c_0 : Addr) (c_1 : Addr) (c_2 : Addr) (c_3 : Addr) (h : Hp) (K : Value → Hp → Prop) : (g_lattice_grid_f1 x_0 y_1 d_2_0 d_2_1 c_0 c_1 c_2 c_3 h (fun r0 r1 h => K (.tuple #[.int .i64 r0, .bool r1]) h)) = xfnD Try.prog [(95, g_lattice_step.c)] [] Try.f94 .z [.int .i64 x_0, .int .i64 y_1, .agg #[.int .i64 d_2_0, .int .i64 d_2_1], .pointer (some c_0), .pointer (some c_1), .pointer (some c_2), .pointer (some c_3)] h K := by kernel_rfl

theorem g_lattice_grid_f1.ok : OkFn Try.prog 94 g_lattice_grid_f1.c ∧ MonoC g_lattice_grid_f1.c := by
  refine xfnD_okm (an := .z) wide_ok (OkTab.cons g_lattice_step.ok (by kernel_rfl) (OkTab.nil _)) (OkTabI.nil _) Try.func94 (fun vs h K hk => ?_) (fun vs h K K' hk => ?_)
  · unfold g_lattice_grid_f1.c at hk
    split at hk
    · rename_i x_0 y_1 d_2_0 d_2_1 c_0 c_1 c_2 c_3
      exact ⟨_, hk, Nat.le_of_ble_eq_true rfl, g_lattice_grid_f1.x x_0 y_1 d_2_0 d_2_1 c_0 c_1 c_2 c_3 h K⟩
    · exact hk.elim
  · unfold g_lattice_grid_f1.c at hk ⊢
    split at hk
    · rename_i x_0 y_1 d_2_0 d_2_1 c_0 c_1 c_2 c_3
      exact ⟨_, id, g_lattice_grid_f1.x x_0 y_1 d_2_0 d_2_1 c_0 c_1 c_2 c_3 h K'⟩
    · exact hk.elim

theorem g_lattice_grid.x (x_0 : Int) (x_1 : Int) (x_2 : Bool) (x_3 : Bool) (x_4 : Sl) (h : Hp) (K : Value → Hp → Prop) : (g_lattice_grid x_0 x_1 x_2 x_3 x_4 h (fun r0 r1 r2 h => K (.tuple #[.int .i64 r0, .slice r1.a r1.n r1.c, .int .i64 r2]) h)) = xfnD Try.prog [(86, g_lattice_check.c), (94, g_lattice_grid_f1.c)] [] Try.f85 (.sq .z (.sq .z (.sq .z (.sq (.sq .z (.bl (.lp (.sq .z (.sq .z (.sq (.bl (.sq .z (.sq .z (.bl (.lp (.sq .z (.sq .z (.sq (.bl (.sq .z (.sq .z (.bl (.lp .z [(11, .sc .slice), (38, .sc (.int .i64))])) none) none)) .z none) none) none) [(11, .sc .slice), (33, .sc (.int .i64))])) none) none)) .z none) none) none) [(11, .sc .slice), (29, .sc (.int .i64))])) none) .z (some [(11, .sc .slice)])) none) none) none) [.int .i64 x_0, .int .i64 x_1, .bool x_2, .bool x_3, .slice x_4.a x_4.n x_4.c] h K := by kernel_rfl

theorem g_lattice_grid.ok : OkFn Try.prog 85 g_lattice_grid.c ∧ MonoC g_lattice_grid.c := by
  refine xfnD_okm (an := (.sq .z (.sq .z (.sq .z (.sq (.sq .z (.bl (.lp (.sq .z (.sq .z (.sq (.bl (.sq .z (.sq .z (.bl (.lp (.sq .z (.sq .z (.sq (.bl (.sq .z (.sq .z (.bl (.lp .z [(11, .sc .slice), (38, .sc (.int .i64))])) none) none)) .z none) none) none) [(11, .sc .slice), (33, .sc (.int .i64))])) none) none)) .z none) none) none) [(11, .sc .slice), (29, .sc (.int .i64))])) none) .z (some [(11, .sc .slice)])) none) none) none)) wide_ok (OkTab.cons g_lattice_check.ok (by kernel_rfl) (OkTab.cons g_lattice_grid_f1.ok (by kernel_rfl) (OkTab.nil _))) (OkTabI.nil _) Try.func85 (fun vs h K hk => ?_) (fun vs h K K' hk => ?_)
  · unfold g_lattice_grid.c at hk
    split at hk
    · rename_i x_0 x_1 x_2 x_3 x_4_a x_4_n x_4_c
      exact ⟨_, hk, Nat.le_of_ble_eq_true rfl, g_lattice_grid.x x_0 x_1 x_2 x_3 (⟨x_4_a, x_4_n, x_4_c⟩ : Sl) h K⟩
    · exact hk.elim
  · unfold g_lattice_grid.c at hk ⊢
    split at hk
    · rename_i x_0 x_1 x_2 x_3 x_4_a x_4_n x_4_c
      exact ⟨_, id, g_lattice_grid.x x_0 x_1 x_2 x_3 (⟨x_4_a, x_4_n, x_4_c⟩ : Sl) h K'⟩
    · exact hk.elim

theorem g_lattice_Triangular.x (w_0 : Int) (h_1 : Int) (wrapX_2 : Bool) (wrapY_3 : Bool) (h : Hp) (K : Value → Hp → Prop) : (g_lattice_Triangular w_0 h_1 wrapX_2 wrapY_3 h (fun r0 r1 r2 h => K (.tuple #[.int .i64 r0, .slice r1.a r1.n r1.c, .int .i64 r2]) h)) = xfnD Try.prog [(85, g_lattice_grid.c)] [] Try.f68 .z [.int .i64 w_0, .int .i64 h_1, .bool wrapX_2, .bool wrapY_3] h K := by kernel_rfl

theorem g_lattice_Triangular.ok : OkFn Try.prog 68 g_lattice_Triangular.c ∧ MonoC g_lattice_Triangular.c := by
  refine xfnD_okm (an := .z) wide_ok (OkTab.cons g_lattice_grid.ok (by kernel_rfl) (OkTab.nil _)) (OkTabI.nil _) Try.func68 (fun vs h K hk => ?_) (fun vs h K K' hk => ?_)
  · unfold g_lattice_Triangular.c at hk
    split at hk
    · rename_i w_0 h_1 wrapX_2 wrapY_3
      exact ⟨_, hk, Nat.le_of_ble_eq_true rfl, g_lattice_Triangular.x w_0 h_1 wrapX_2 wrapY_3 h K⟩
    · exact hk.elim
  · unfold g_lattice_Triangular.c at hk ⊢
    split at hk
    · rename_i w_0 h_1 wrapX_2 wrapY_3
      exact ⟨_, id, g_lattice_Triangular.x w_0 h_1 wrapX_2 wrapY_3 h K'⟩
    · exact hk.elim

theorem g_lattice_Square.x (w_0 : Int) (h_1 : Int) (wrapX_2 : Bool) (wrapY_3 : Bool) (h : Hp) (K : Value → Hp → Prop) : (g_lattice_Square w_0 h_1 wrapX_2 wrapY_3 h (fun r0 r1 r2 h => K (.tuple #[.int .i64 r0, .slice r1.a r1.n r1.c, .int .i64 r2]) h)) = xfnD Try.prog [(85, g_lattice_grid.c)] [] Try.f69 .z [.int .i64 w_0, .int .i64 h_1, .bool wrapX_2, .bool wrapY_3] h K := by kernel_rfl

theorem g_lattice_Square.ok : OkFn Try.prog 69 g_lattice_Square.c ∧ MonoC g_lattice_Square.c := by
  refine xfnD_okm (an := .z) wide_ok (OkTab.cons g_lattice_grid.ok (by kernel_rfl) (OkTab.nil _)) (OkTabI.nil _) Try.func69 (fun vs h K hk => ?_) (fun vs h K K' hk => ?_)
  · unfold g_lattice_Square.c at hk
    split at hk
    · rename_i w_0 h_1 wrapX_2 wrapY_3
      exact ⟨_, hk, Nat.le_of_ble_eq_true rfl, g_lattice_Square.x w_0 h_1 wrapX_2 wrapY_3 h K⟩
    · exact hk.elim
  · unfold g_lattice_Square.c at hk ⊢
    split at hk
    · rename_i w_0 h_1 wrapX_2 wrapY_3
      exact ⟨_, id, g_lattice_Square.x w_0 h_1 wrapX_2 wrapY_3 h K'⟩
    · exact hk.elim

theorem g_law29_either.x (w_0 : Int) (h_1 : Int) (wrapX_2 : Bool) (wrapY_3 : Bool) (three_4 : Bool) (h : Hp) (K : Value → Hp → Prop) : (g_law29_either w_0 h_1 wrapX_2 wrapY_3 three_4 h (fun r0 r1 r2 h => K (.tuple #[.int .i64 r0, .slice r1.a r1.n r1.c, .int .i64 r2]) h)) = xfnD Try.prog [(68, g_lattice_Triangular.c), (69, g_lattice_Square.c)] [] Try.f47 .z [.int .i64 w_0, .int .i64 h_1, .bool wrapX_2, .bool wrapY_3, .bool three_4] h K := by kernel_rfl

theorem g_law29_either.ok : OkFn Try.prog 47 g_law29_either.c ∧ MonoC g_law29_either.c := by
  refine xfnD_okm (an := .z) wide_ok (OkTab.cons g_lattice_Triangular.ok (by kernel_rfl) (OkTab.cons g_lattice_Square.ok (by kernel_rfl) (OkTab.nil _))) (OkTabI.nil _) Try.func47 (fun vs h K hk => ?_) (fun vs h K K' hk => ?_)
  · unfold g_law29_either.c at hk
    split at hk
    · rename_i w_0 h_1 wrapX_2 wrapY_3 three_4
      exact ⟨_, hk, Nat.le_of_ble_eq_true rfl, g_law29_either.x w_0 h_1 wrapX_2 wrapY_3 three_4 h K⟩
    · exact hk.elim
  · unfold g_law29_either.c at hk ⊢
    split at hk
    · rename_i w_0 h_1 wrapX_2 wrapY_3 three_4
      exact ⟨_, id, g_law29_either.x w_0 h_1 wrapX_2 wrapY_3 three_4 h K'⟩
    · exact hk.elim

theorem g_lattice_Tree.x (children_0 : Int) (depth_1 : Int) (h : Hp) (K : Value → Hp → Prop) : (g_lattice_Tree children_0 depth_1 h (fun r0 r1 r2 h => K (.tuple #[.int .i64 r0, .slice r1.a r1.n r1.c, .int .i64 r2]) h)) = xfnD Try.prog [] [] Try.f48 (.sq .z (.sq .z (.sq .z (.sq (.sq .z (.bl (.lp .z [(1, .sc (.int .i64)), (4, .sc (.int .i64)), (5, .sc .slice), (7, .sc (.int .i64))])) none) (.sq (.sq .z (.bl (.lp .z [(5, .sc .slice), (8, .sc (.int .i64))])) none) .z (some [(5, .sc .slice)])) (some [(4, .sc (.int .i64)), (5, .sc .slice)])) none) none) none) [.int .i64 children_0, .int .i64 depth_1] h K := by kernel_rfl

theorem g_lattice_Tree.ok : OkFn Try.prog 48 g_lattice_Tree.c ∧ MonoC g_lattice_Tree.c := by
  refine xfnD_okm (an := (.sq .z (.sq .z (.sq .z (.sq (.sq .z (.bl (.lp .z [(1, .sc (.int .i64)), (4, .sc (.int .i64)), (5, .sc .slice), (7, .sc (.int .i64))])) none) (.sq (.sq .z (.bl (.lp .z [(5, .sc .slice), (8, .sc (.int .i64))])) none) .z (some [(5, .sc .slice)])) (some [(4, .sc (.int .i64)), (5, .sc .slice)])) none) none) none)) wide_ok (OkTab.nil _) (OkTabI.nil _) Try.func48 (fun vs h K hk => ?_) (fun vs h K K' hk => ?_)
  · unfold g_lattice_Tree.c at hk
    split at hk
    · rename_i children_0 depth_1
      exact ⟨_, hk, Nat.le_of_ble_eq_true rfl, g_lattice_Tree.x children_0 depth_1 h K⟩
    · exact hk.elim
  · unfold g_lattice_Tree.c at hk ⊢
    split at hk
    · rename_i children_0 depth_1
      exact ⟨_, id, g_lattice_Tree.x children_0 depth_1 h K'⟩
    · exact hk.elim

theorem g_lattice_Complete.x (n_0 : Int) (h : Hp) (K : Value → Hp → Prop) : (g_lattice_Complete n_0 h (fun r0 r1 h => K (.tuple #[.slice r0.a r0.n r0.c, .int .i64 r1]) h)) = xfnD Try.prog [] [] Try.f49 (.sq .z (.sq (.bl (.sq .z .z (some [(6, .sc .bool)]))) (.sq (.sq .z (.bl (.lp (.sq .z (.sq .z (.sq (.bl (.sq .z (.sq .z (.bl (.lp .z [(2, .sc .slice), (5, .sc (.int .i64))])) none) none)) .z none) none) none) [(2, .sc .slice), (21, .sc (.int .i64))])) none) .z none) none) none) [.int .i64 n_0] h K := by kernel_rfl

theorem g_lattice_Complete.ok : OkFn Try.prog 49 g_lattice_Complete.c ∧ MonoC g_lattice_Complete.c := by
  refine xfnD_okm (an := (.sq .z (.sq (.bl (.sq .z .z (some [(6, .sc .bool)]))) (.sq (.sq .z (.bl (.lp (.sq .z (.sq .z (.sq (.bl (.sq .z (.sq .z (.bl (.lp .z [(2, .sc .slice), (5, .sc (.int .i64))])) none) none)) .z none) none) none) [(2, .sc .slice), (21, .sc (.int .i64))])) none) .z none) none) none)) wide_ok (OkTab.nil _) (OkTabI.nil _) Try.func49 (fun vs h K hk => ?_) (fun vs h K K' hk => ?_)
  · unfold g_lattice_Complete.c at hk
    split at hk
    · rename_i n_0
      exact ⟨_, hk, Nat.le_of_ble_eq_true rfl, g_lattice_Complete.x n_0 h K⟩
    · exact hk.elim
  · unfold g_lattice_Complete.c at hk ⊢
    split at hk
    · rename_i n_0
      exact ⟨_, id, g_lattice_Complete.x n_0 h K'⟩
    · exact hk.elim

theorem g_slices_Clone_api_Edge.x (s_0 : Sl) (h : Hp) (K : Value → Hp → Prop) : (g_slices_Clone_api_Edge s_0 h (fun r0 h => K (.slice r0.a r0.n r0.c) h)) = xfnD Try.prog [] [] Try.f64 .z [.slice s_0.a s_0.n s_0.c] h K := by kernel_rfl

theorem g_slices_Clone_api_Edge.ok : OkFn Try.prog 64 g_slices_Clone_api_Edge.c ∧ MonoC g_slices_Clone_api_Edge.c := by
  refine xfnD_okm (an := .z) wide_ok (OkTab.nil _) (OkTabI.nil _) Try.func64 (fun vs h K hk => ?_) (fun vs h K K' hk => ?_)
  · unfold g_slices_Clone_api_Edge.c at hk
    split at hk
    · rename_i s_0_a s_0_n s_0_c
      exact ⟨_, hk, Nat.le_of_ble_eq_true rfl, g_slices_Clone_api_Edge.x (⟨s_0_a, s_0_n, s_0_c⟩ : Sl) h K⟩
    · exact hk.elim
  · unfold g_slices_Clone_api_Edge.c at hk ⊢
    split at hk
    · rename_i s_0_a s_0_n s_0_c
      exact ⟨_, id, g_slices_Clone_api_Edge.x (⟨s_0_a, s_0_n, s_0_c⟩ : Sl) h K'⟩
    · exact hk.elim

theorem g_slices_Clone_int.x (s_0 : Sl) (h : Hp) (K : Value → Hp → Prop) : (g_slices_Clone_int s_0 h (fun r0 h => K (.slice r0.a r0.n r0.c) h)) = xfnD Try.prog [] [] Try.f82 .z [.slice s_0.a s_0.n s_0.c] h K := by kernel_rfl

theorem g_slices_Clone_int.ok : OkFn Try.prog 82 g_slices_Clone_int.c ∧ MonoC g_slices_Clone_int.c := by
  refine xfnD_okm (an := .z) wide_ok (OkTab.nil _) (OkTabI.nil _) Try.func82 (fun vs h K hk => ?_) (fun vs h K K' hk => ?_)
  · unfold g_slices_Clone_int.c at hk
    split at hk
    · rename_i s_0_a s_0_n s_0_c
      exact ⟨_, hk, Nat.le_of_ble_eq_true rfl, g_slices_Clone_int.x (⟨s_0_a, s_0_n, s_0_c⟩ : Sl) h K⟩
    · exact hk.elim
  · unfold g_slices_Clone_int.c at hk ⊢
    split at hk
    · rename_i s_0_a s_0_n s_0_c
      exact ⟨_, id, g_slices_Clone_int.x (⟨s_0_a, s_0_n, s_0_c⟩ : Sl) h K'⟩
    · exact hk.elim

theorem g_graph_build_f1.x (v_0 : Int) (h_1_0 : Int) (h_1_1 : Int) (c_0 : Addr) (c_1 : Addr) (h : Hp) (K : Value → Hp → Prop) : (g_graph_build_f1 v_0 h_1_0 h_1_1 c_0 c_1 h (fun h => K (.tuple #[]) h)) = xfnD Try.prog [] [] Try.f83 .z [.int .i64 v_0, .agg #[.int .i64 h_1_0, .int .i64 h_1_1], .pointer (some c_0), .pointer (some c_1)] h K := by kernel_rfl

theorem g_graph_build_f1.ok : OkFn Try.prog 83 g_graph_build_f1.c ∧ MonoC g_graph_build_f1.c := by
  refine xfnD_okm (an := .z) wide_ok (OkTab.nil _) (OkTabI.nil _) Try.func83 (fun vs h K hk => ?_) (fun vs h K K' hk => ?_)
  · unfold g_graph_build_f1.c at hk
    split at hk
    · rename_i v_0 h_1_0 h_1_1 c_0 c_1
      exact ⟨_, hk, Nat.le_of_ble_eq_true rfl, g_graph_build_f1.x v_0 h_1_0 h_1_1 c_0 c_1 h K⟩
    · exact hk.elim
  · unfold g_graph_build_f1.c at hk ⊢
    split at hk
    · rename_i v_0 h_1_0 h_1_1 c_0 c_1
      exact ⟨_, id, g_graph_build_f1.x v_0 h_1_0 h_1_1 c_0 c_1 h K'⟩
    · exact hk.elim

theorem g_graph_build.x (x_0 : Int) (x_1 : Sl) (h : Hp) (K : Value → Hp → Prop) : (g_graph_build x_0 x_1 h (fun r0 h => K (.pointer r0) h)) = xfnD Try.prog [(82, g_slices_Clone_int.c), (83, g_graph_build_f1.c)] [] Try.f65 (.sq .z (.sq .z (.sq (.sq .z (.bl (.lp .z [(26, .sc (.int .i64))])) none) (.sq (.sq .z (.bl (.lp .z [(54, .sc (.int .i64))])) none) (.sq .z (.sq .z (.sq (.sq .z (.bl (.lp .z [(83, .sc (.int .i64))])) none) .z none) none) none) (some [])) (some [])) (some [(5, .sc .adr)])) none) [.int .i64 x_0, .slice x_1.a x_1.n x_1.c] h K := by kernel_rfl

theorem g_graph_build.ok : OkFn Try.prog 65 g_graph_build.c ∧ MonoC g_graph_build.c := by
  refine xfnD_okm (an := (.sq .z (.sq .z (.sq (.sq .z (.bl (.lp .z [(26, .sc (.int .i64))])) none) (.sq (.sq .z (.bl (.lp .z [(54, .sc (.int .i64))])) none) (.sq .z (.sq .z (.sq (.sq .z (.bl (.lp .z [(83, .sc (.int .i64))])) none) .z none) none) none) (some [])) (some [])) (some [(5, .sc .adr)])) none)) wide_ok (OkTab.cons g_slices_Clone_int.ok (by kernel_rfl) (OkTab.cons g_graph_build_f1.ok (by kernel_rfl) (OkTab.nil _))) (OkTabI.nil _) Try.func65 (fun vs h K hk => ?_) (fun vs h K K' hk => ?_)
  · unfold g_graph_build.c at hk
    split at hk
    · rename_i x_0 x_1_a x_1_n x_1_c
      exact ⟨_, hk, Nat.le_of_ble_eq_true rfl, g_graph_build.x x_0 (⟨x_1_a, x_1_n, x_1_c⟩ : Sl) h K⟩
    · exact hk.elim
  · unfold g_graph_build.c at hk ⊢
    split at hk
    · rename_i x_0 x_1_a x_1_n x_1_c
      exact ⟨_, id, g_graph_build.x x_0 (⟨x_1_a, x_1_n, x_1_c⟩ : Sl) h K'⟩
    · exact hk.elim

theorem g_graph_New.x (n_0 : Int) (l_1 : Sl) (h : Hp) (K : Value → Hp → Prop) : (g_graph_New n_0 l_1 h (fun r0 r1 h => K (.tuple #[.pointer r0, .int .i64 r1]) h)) = xfnD Try.prog [(64, g_slices_Clone_api_Edge.c), (65, g_graph_build.c)] [] Try.f43 (.sq .z (.sq .z (.sq (.sq .z (.bl (.lp .z [(21, .sc (.int .i64))])) none) .z (some [])) none) none) [.int .i64 n_0, .slice l_1.a l_1.n l_1.c] h K := by kernel_rfl

theorem g_graph_New.ok : OkFn Try.prog 43 g_graph_New.c ∧ MonoC g_graph_New.c := by
  refine xfnD_okm (an := (.sq .z (.sq .z (.sq (.sq .z (.bl (.lp .z [(21, .sc (.int .i64))])) none) .z (some [])) none) none)) wide_ok (OkTab.cons g_slices_Clone_api_Edge.ok (by kernel_rfl) (OkTab.cons g_graph_build.ok (by kernel_rfl) (OkTab.nil _))) (OkTabI.nil _) Try.func43 (fun vs h K hk => ?_) (fun vs h K K' hk => ?_)
  · unfold g_graph_New.c at hk
    split at hk
    · rename_i n_0 l_1_a l_1_n l_1_c
      exact ⟨_, hk, Nat.le_of_ble_eq_true rfl, g_graph_New.x n_0 (⟨l_1_a, l_1_n, l_1_c⟩ : Sl) h K⟩
    · exact hk.elim
  · unfold g_graph_New.c at hk ⊢
    split at hk
    · rename_i n_0 l_1_a l_1_n l_1_c
      exact ⟨_, id, g_graph_New.x n_0 (⟨l_1_a, l_1_n, l_1_c⟩ : Sl) h K'⟩
    · exact hk.elim

theorem g_graph_Graph_valid.x (g_0 : Option Addr) (h : Hp) (K : Value → Hp → Prop) : (g_graph_Graph_valid g_0 h (fun r0 h => K (.bool r0) h)) = xfnD Try.prog [] [] Try.f54 .z [.pointer g_0] h K := by kernel_rfl

theorem g_graph_Graph_valid.ok : OkFn Try.prog 54 g_graph_Graph_valid.c ∧ MonoC g_graph_Graph_valid.c := by
  refine xfnD_okm (an := .z) wide_ok (OkTab.nil _) (OkTabI.nil _) Try.func54 (fun vs h K hk => ?_) (fun vs h K K' hk => ?_)
  · unfold g_graph_Graph_valid.c at hk
    split at hk
    · rename_i g_0
      exact ⟨_, hk, Nat.le_of_ble_eq_true rfl, g_graph_Graph_valid.x g_0 h K⟩
    · exact hk.elim
  · unfold g_graph_Graph_valid.c at hk ⊢
    split at hk
    · rename_i g_0
      exact ⟨_, id, g_graph_Graph_valid.x g_0 h K'⟩
    · exact hk.elim

theorem g_dsu_New.x (n_0 : Int) (h : Hp) (K : Value → Hp → Prop) : (g_dsu_New n_0 h (fun r0 r1 h => K (.tuple #[.pointer r0, .int .i64 r1]) h)) = xfnD Try.prog [] [] Try.f77 (.sq .z (.sq .z (.sq .z (.sq (.sq .z (.bl (.lp .z [(16, .sc (.int .i64))])) none) .z none) none) none) none) [.int .i64 n_0] h K := by kernel_rfl

theorem g_dsu_New.ok : OkFn Try.prog 77 g_dsu_New.c ∧ MonoC g_dsu_New.c := by
  refine xfnD_okm (an := (.sq .z (.sq .z (.sq .z (.sq (.sq .z (.bl (.lp .z [(16, .sc (.int .i64))])) none) .z none) none) none) none)) wide_ok (OkTab.nil _) (OkTabI.nil _) Try.func77 (fun vs h K hk => ?_) (fun vs h K K' hk => ?_)
  · unfold g_dsu_New.c at hk
    split at hk
    · rename_i n_0
      exact ⟨_, hk, Nat.le_of_ble_eq_true rfl, g_dsu_New.x n_0 h K⟩
    · exact hk.elim
  · unfold g_dsu_New.c at hk ⊢
    split at hk
    · rename_i n_0
      exact ⟨_, id, g_dsu_New.x n_0 h K'⟩
    · exact hk.elim

theorem g_dsu_Sets_has.x (s_0 : Option Addr) (a_1 : Int) (h : Hp) (K : Value → Hp → Prop) : (g_dsu_Sets_has s_0 a_1 h (fun r0 h => K (.bool r0) h)) = xfnD Try.prog [] [] Try.f93 .z [.pointer s_0, .int .i64 a_1] h K := by kernel_rfl

theorem g_dsu_Sets_has.ok : OkFn Try.prog 93 g_dsu_Sets_has.c ∧ MonoC g_dsu_Sets_has.c := by
  refine xfnD_okm (an := .z) wide_ok (OkTab.nil _) (OkTabI.nil _) Try.func93 (fun vs h K hk => ?_) (fun vs h K K' hk => ?_)
  · unfold g_dsu_Sets_has.c at hk
    split at hk
    · rename_i s_0 a_1
      exact ⟨_, hk, Nat.le_of_ble_eq_true rfl, g_dsu_Sets_has.x s_0 a_1 h K⟩
    · exact hk.elim
  · unfold g_dsu_Sets_has.c at hk ⊢
    split at hk
    · rename_i s_0 a_1
      exact ⟨_, id, g_dsu_Sets_has.x s_0 a_1 h K'⟩
    · exact hk.elim

theorem g_dsu_Sets_root.x (s_0 : Option Addr) (a_1 : Int) (h : Hp) (K : Value → Hp → Prop) : (g_dsu_Sets_root s_0 a_1 h (fun r0 h => K (.int .i64 r0) h)) = xfnD Try.prog [] [] Try.f80 (.sq .z (.bl (.sq .z (.sq (.bl (.lp .z [(1, .sc (.int .i64))])) .z none) none)) none) [.pointer s_0, .int .i64 a_1] h K := by kernel_rfl

theorem g_dsu_Sets_root.ok : OkFn Try.prog 80 g_dsu_Sets_root.c ∧ MonoC g_dsu_Sets_root.c := by
  refine xfnD_okm (an := (.sq .z (.bl (.sq .z (.sq (.bl (.lp .z [(1, .sc (.int .i64))])) .z none) none)) none)) wide_ok (OkTab.nil _) (OkTabI.nil _) Try.func80 (fun vs h K hk => ?_) (fun vs h K K' hk => ?_)
  · unfold g_dsu_Sets_root.c at hk
    split at hk
    · rename_i s_0 a_1
      exact ⟨_, hk, Nat.le_of_ble_eq_true rfl, g_dsu_Sets_root.x s_0 a_1 h K⟩
    · exact hk.elim
  · unfold g_dsu_Sets_root.c at hk ⊢
    split at hk
    · rename_i s_0 a_1
      exact ⟨_, id, g_dsu_Sets_root.x s_0 a_1 h K'⟩
    · exact hk.elim

theorem g_dsu_Sets_Union.x (x_0 : Option Addr) (x_1 : Int) (x_2 : Int) (h : Hp) (K : Value → Hp → Prop) : (g_dsu_Sets_Union x_0 x_1 x_2 h (fun r0 r1 h => K (.tuple #[.bool r0, .int .i64 r1]) h)) = xfnD Try.prog [(93, g_dsu_Sets_has.c), (80, g_dsu_Sets_root.c)] [] Try.f78 (.sq .z (.sq .z (.sq .z (.sq .z (.sq .z (.sq .z .z (some [(1, .sc (.int .i64)), (2, .sc (.int .i64))])) none) none) none) none) none) [.pointer x_0, .int .i64 x_1, .int .i64 x_2] h K := by kernel_rfl

theorem g_dsu_Sets_Union.ok : OkFn Try.prog 78 g_dsu_Sets_Union.c ∧ MonoC g_dsu_Sets_Union.c := by
  refine xfnD_okm (an := (.sq .z (.sq .z (.sq .z (.sq .z (.sq .z (.sq .z .z (some [(1, .sc (.int .i64)), (2, .sc (.int .i64))])) none) none) none) none) none)) wide_ok (OkTab.cons g_dsu_Sets_has.ok (by kernel_rfl) (OkTab.cons g_dsu_Sets_root.ok (by kernel_rfl) (OkTab.nil _))) (OkTabI.nil _) Try.func78 (fun vs h K hk => ?_) (fun vs h K K' hk => ?_)
  · unfold g_dsu_Sets_Union.c at hk
    split at hk
    · rename_i x_0 x_1 x_2
      exact ⟨_, hk, Nat.le_of_ble_eq_true rfl, g_dsu_Sets_Union.x x_0 x_1 x_2 h K⟩
    · exact hk.elim
  · unfold g_dsu_Sets_Union.c at hk ⊢
    split at hk
    · rename_i x_0 x_1 x_2
      exact ⟨_, id, g_dsu_Sets_Union.x x_0 x_1 x_2 h K'⟩
    · exact hk.elim

theorem g_graph_Graph_sets.x (g_0 : Option Addr) (h : Hp) (K : Value → Hp → Prop) : (g_graph_Graph_sets g_0 h (fun r0 h => K (.pointer r0) h)) = xfnD Try.prog [(54, g_graph_Graph_valid.c), (77, g_dsu_New.c), (78, g_dsu_Sets_Union.c)] [] Try.f61 (.sq .z (.sq .z (.sq .z (.sq (.sq .z (.bl (.lp .z [(23, .sc (.int .i64))])) none) .z none) none) none) none) [.pointer g_0] h K := by kernel_rfl

theorem g_graph_Graph_sets.ok : OkFn Try.prog 61 g_graph_Graph_sets.c ∧ MonoC g_graph_Graph_sets.c := by
  refine xfnD_okm (an := (.sq .z (.sq .z (.sq .z (.sq (.sq .z (.bl (.lp .z [(23, .sc (.int .i64))])) none) .z none) none) none) none)) wide_ok (OkTab.cons g_graph_Graph_valid.ok (by kernel_rfl) (OkTab.cons g_dsu_New.ok (by kernel_rfl) (OkTab.cons g_dsu_Sets_Union.ok (by kernel_rfl) (OkTab.nil _)))) (OkTabI.nil _) Try.func61 (fun vs h K hk => ?_) (fun vs h K K' hk => ?_)
  · unfold g_graph_Graph_sets.c at hk
    split at hk
    · rename_i g_0
      exact ⟨_, hk, Nat.le_of_ble_eq_true rfl, g_graph_Graph_sets.x g_0 h K⟩
    · exact hk.elim
  · unfold g_graph_Graph_sets.c at hk ⊢
    split at hk
    · rename_i g_0
      exact ⟨_, id, g_graph_Graph_sets.x g_0 h K'⟩
    · exact hk.elim

theorem g_dsu_Sets_Len.x (s_0 : Option Addr) (h : Hp) (K : Value → Hp → Prop) : (g_dsu_Sets_Len s_0 h (fun r0 h => K (.int .i64 r0) h)) = xfnD Try.prog [] [] Try.f79 .z [.pointer s_0] h K := by kernel_rfl

theorem g_dsu_Sets_Len.ok : OkFn Try.prog 79 g_dsu_Sets_Len.c ∧ MonoC g_dsu_Sets_Len.c := by
  refine xfnD_okm (an := .z) wide_ok (OkTab.nil _) (OkTabI.nil _) Try.func79 (fun vs h K hk => ?_) (fun vs h K K' hk => ?_)
  · unfold g_dsu_Sets_Len.c at hk
    split at hk
    · rename_i s_0
      exact ⟨_, hk, Nat.le_of_ble_eq_true rfl, g_dsu_Sets_Len.x s_0 h K⟩
    · exact hk.elim
  · unfold g_dsu_Sets_Len.c at hk ⊢
    split at hk
    · rename_i s_0
      exact ⟨_, id, g_dsu_Sets_Len.x s_0 h K'⟩
    · exact hk.elim

theorem g_dsu_Sets_Labels.x (s_0 : Option Addr) (h : Hp) (K : Value → Hp → Prop) : (g_dsu_Sets_Labels s_0 h (fun r0 h => K (.slice r0.a r0.n r0.c) h)) = xfnD Try.prog [(79, g_dsu_Sets_Len.c), (80, g_dsu_Sets_root.c)] [] Try.f62 (.sq .z (.sq .z (.sq .z (.sq .z (.sq (.sq .z (.bl (.lp .z [(13, .sc (.int .i64))])) none) .z none) none) none) none) none) [.pointer s_0] h K := by kernel_rfl

theorem g_dsu_Sets_Labels.ok : OkFn Try.prog 62 g_dsu_Sets_Labels.c ∧ MonoC g_dsu_Sets_Labels.c := by
  refine xfnD_okm (an := (.sq .z (.sq .z (.sq .z (.sq .z (.sq (.sq .z (.bl (.lp .z [(13, .sc (.int .i64))])) none) .z none) none) none) none) none)) wide_ok (OkTab.cons g_dsu_Sets_Len.ok (by kernel_rfl) (OkTab.cons g_dsu_Sets_root.ok (by kernel_rfl) (OkTab.nil _))) (OkTabI.nil _) Try.func62 (fun vs h K hk => ?_) (fun vs h K K' hk => ?_)
  · unfold g_dsu_Sets_Labels.c at hk
    split at hk
    · rename_i s_0
      exact ⟨_, hk, Nat.le_of_ble_eq_true rfl, g_dsu_Sets_Labels.x s_0 h K⟩
    · exact hk.elim
  · unfold g_dsu_Sets_Labels.c at hk ⊢
    split at hk
    · rename_i s_0
      exact ⟨_, id, g_dsu_Sets_Labels.x s_0 h K'⟩
    · exact hk.elim

theorem g_dsu_Sets_Size.x (s_0 : Option Addr) (a_1 : Int) (h : Hp) (K : Value → Hp → Prop) : (g_dsu_Sets_Size s_0 a_1 h (fun r0 h => K (.int .i64 r0) h)) = xfnD Try.prog [(93, g_dsu_Sets_has.c), (80, g_dsu_Sets_root.c)] [] Try.f81 .z [.pointer s_0, .int .i64 a_1] h K := by kernel_rfl

theorem g_dsu_Sets_Size.ok : OkFn Try.prog 81 g_dsu_Sets_Size.c ∧ MonoC g_dsu_Sets_Size.c := by
  refine xfnD_okm (an := .z) wide_ok (OkTab.cons g_dsu_Sets_has.ok (by kernel_rfl) (OkTab.cons g_dsu_Sets_root.ok (by kernel_rfl) (OkTab.nil _))) (OkTabI.nil _) Try.func81 (fun vs h K hk => ?_) (fun vs h K K' hk => ?_)
  · unfold g_dsu_Sets_Size.c at hk
    split at hk
    · rename_i s_0 a_1
      exact ⟨_, hk, Nat.le_of_ble_eq_true rfl, g_dsu_Sets_Size.x s_0 a_1 h K⟩
    · exact hk.elim
  · unfold g_dsu_Sets_Size.c at hk ⊢
    split at hk
    · rename_i s_0 a_1
      exact ⟨_, id, g_dsu_Sets_Size.x s_0 a_1 h K'⟩
    · exact hk.elim

theorem g_dsu_Sets_Groups.x (x_0 : Option Addr) (h : Hp) (K : Value → Hp → Prop) : (g_dsu_Sets_Groups x_0 h (fun r0 h => K (.slice r0.a r0.n r0.c) h)) = xfnD Try.prog [(79, g_dsu_Sets_Len.c), (62, g_dsu_Sets_Labels.c), (82, g_slices_Clone_int.c), (81, g_dsu_Sets_Size.c)] [] Try.f63 (.sq .z (.sq .z (.sq .z (.sq .z (.sq .z (.sq .z (.sq .z (.sq .z (.sq (.sq .z (.bl (.lp .z [(7, .sc (.int .i64)), (8, .sc .slice), (29, .sc (.int .i64))])) none) (.sq (.sq .z (.bl (.lp .z [(58, .sc (.int .i64))])) none) (.sq (.sq .z (.bl (.lp .z [(83, .sc (.int .i64))])) none) .z none) (some [])) (some [(8, .sc .slice)])) none) none) none) none) none) none) none) none) [.pointer x_0] h K := by kernel_rfl

theorem g_dsu_Sets_Groups.ok : OkFn Try.prog 63 g_dsu_Sets_Groups.c ∧ MonoC g_dsu_Sets_Groups.c := by
  refine xfnD_okm (an := (.sq .z (.sq .z (.sq .z (.sq .z (.sq .z (.sq .z (.sq .z (.sq .z (.sq (.sq .z (.bl (.lp .z [(7, .sc (.int .i64)), (8, .sc .slice), (29, .sc (.int .i64))])) none) (.sq (.sq .z (.bl (.lp .z [(58, .sc (.int .i64))])) none) (.sq (.sq .z (.bl (.lp .z [(83, .sc (.int .i64))])) none) .z none) (some [])) (some [(8, .sc .slice)])) none) none) none) none) none) none) none) none)) wide_ok (OkTab.cons g_dsu_Sets_Len.ok (by kernel_rfl) (OkTab.cons g_dsu_Sets_Labels.ok (by kernel_rfl) (OkTab.cons g_slices_Clone_int.ok (by kernel_rfl) (OkTab.cons g_dsu_Sets_Size.ok (by kernel_rfl) (OkTab.nil _))))) (OkTabI.nil _) Try.func63 (fun vs h K hk => ?_) (fun vs h K K' hk => ?_)
  · unfold g_dsu_Sets_Groups.c at hk
    split at hk
    · rename_i x_0
      exact ⟨_, hk, Nat.le_of_ble_eq_true rfl, g_dsu_Sets_Groups.x x_0 h K⟩
    · exact hk.elim
  · unfold g_dsu_Sets_Groups.c at hk ⊢
    split at hk
    · rename_i x_0
      exact ⟨_, id, g_dsu_Sets_Groups.x x_0 h K'⟩
    · exact hk.elim

theorem g_graph_Graph_Components.x (g_0 : Option Addr) (h : Hp) (K : Value → Hp → Prop) : (g_graph_Graph_Components g_0 h (fun r0 h => K (.slice r0.a r0.n r0.c) h)) = xfnD Try.prog [(61, g_graph_Graph_sets.c), (63, g_dsu_Sets_Groups.c)] [] Try.f34 .z [.pointer g_0] h K := by kernel_rfl

theorem g_graph_Graph_Components.ok : OkFn Try.prog 34 g_graph_Graph_Components.c ∧ MonoC g_graph_Graph_Components.c := by
  refine xfnD_okm (an := .z) wide_ok (OkTab.cons g_graph_Graph_sets.ok (by kernel_rfl) (OkTab.cons g_dsu_Sets_Groups.ok (by kernel_rfl) (OkTab.nil _))) (OkTabI.nil _) Try.func34 (fun vs h K hk => ?_) (fun vs h K K' hk => ?_)
  · unfold g_graph_Graph_Components.c at hk
    split at hk
    · rename_i g_0
      exact ⟨_, hk, Nat.le_of_ble_eq_true rfl, g_graph_Graph_Components.x g_0 h K⟩
    · exact hk.elim
  · unfold g_graph_Graph_Components.c at hk ⊢
    split at hk
    · rename_i g_0
      exact ⟨_, id, g_graph_Graph_Components.x g_0 h K'⟩
    · exact hk.elim

theorem g_graph_Graph_Row.x (g_0 : Option Addr) (h : Hp) (K : Value → Hp → Prop) : (g_graph_Graph_Row g_0 h (fun r0 r1 r2 h => K (.agg #[.int .i64 r0, .int .i64 r1, .int .i64 r2]) h)) = xfnD Try.prog [(34, g_graph_Graph_Components.c)] [] Try.f32 (.sq .z (.sq .z (.sq (.sq .z (.bl (.lp .z [(10, .sc (.int .i64))])) none) .z none) none) none) [.pointer g_0] h K := by kernel_rfl

theorem g_graph_Graph_Row.ok : OkFn Try.prog 32 g_graph_Graph_Row.c ∧ MonoC g_graph_Graph_Row.c := by
  refine xfnD_okm (an := (.sq .z (.sq .z (.sq (.sq .z (.bl (.lp .z [(10, .sc (.int .i64))])) none) .z none) none) none)) wide_ok (OkTab.cons g_graph_Graph_Components.ok (by kernel_rfl) (OkTab.nil _)) (OkTabI.nil _) Try.func32 (fun vs h K hk => ?_) (fun vs h K K' hk => ?_)
  · unfold g_graph_Graph_Row.c at hk
    split at hk
    · rename_i g_0
      exact ⟨_, hk, Nat.le_of_ble_eq_true rfl, g_graph_Graph_Row.x g_0 h K⟩
    · exact hk.elim
  · unfold g_graph_Graph_Row.c at hk ⊢
    split at hk
    · rename_i g_0
      exact ⟨_, id, g_graph_Graph_Row.x g_0 h K'⟩
    · exact hk.elim

theorem g_law29_whole.x (n_0 : Int) (l_1 : Sl) (h : Hp) (K : Value → Hp → Prop) : (g_law29_whole n_0 l_1 h (fun r0 h => K (.bool r0) h)) = xfnD Try.prog [(43, g_graph_New.c), (32, g_graph_Graph_Row.c)] [] Try.f50 .z [.int .i64 n_0, .slice l_1.a l_1.n l_1.c] h K := by kernel_rfl

theorem g_law29_whole.ok : OkFn Try.prog 50 g_law29_whole.c ∧ MonoC g_law29_whole.c := by
  refine xfnD_okm (an := .z) wide_ok (OkTab.cons g_graph_New.ok (by kernel_rfl) (OkTab.cons g_graph_Graph_Row.ok (by kernel_rfl) (OkTab.nil _))) (OkTabI.nil _) Try.func50 (fun vs h K hk => ?_) (fun vs h K K' hk => ?_)
  · unfold g_law29_whole.c at hk
    split at hk
    · rename_i n_0 l_1_a l_1_n l_1_c
      exact ⟨_, hk, Nat.le_of_ble_eq_true rfl, g_law29_whole.x n_0 (⟨l_1_a, l_1_n, l_1_c⟩ : Sl) h K⟩
    · exact hk.elim
  · unfold g_law29_whole.c at hk ⊢
    split at hk
    · rename_i n_0 l_1_a l_1_n l_1_c
      exact ⟨_, id, g_law29_whole.x n_0 (⟨l_1_a, l_1_n, l_1_c⟩ : Sl) h K'⟩
    · exact hk.elim

theorem g_lattice_At.x (w_0 : Int) (h_1 : Int) (x_2 : Int) (y_3 : Int) (h : Hp) (K : Value → Hp → Prop) : (g_lattice_At w_0 h_1 x_2 y_3 h (fun r0 r1 h => K (.tuple #[.int .i64 r0, .int .i64 r1]) h)) = xfnD Try.prog [(86, g_lattice_check.c)] [] Try.f70 .z [.int .i64 w_0, .int .i64 h_1, .int .i64 x_2, .int .i64 y_3] h K := by kernel_rfl

theorem g_lattice_At.ok : OkFn Try.prog 70 g_lattice_At.c ∧ MonoC g_lattice_At.c := by
  refine xfnD_okm (an := .z) wide_ok (OkTab.cons g_lattice_check.ok (by kernel_rfl) (OkTab.nil _)) (OkTabI.nil _) Try.func70 (fun vs h K hk => ?_) (fun vs h K K' hk => ?_)
  · unfold g_lattice_At.c at hk
    split at hk
    · rename_i w_0 h_1 x_2 y_3
      exact ⟨_, hk, Nat.le_of_ble_eq_true rfl, g_lattice_At.x w_0 h_1 x_2 y_3 h K⟩
    · exact hk.elim
  · unfold g_lattice_At.c at hk ⊢
    split at hk
    · rename_i w_0 h_1 x_2 y_3
      exact ⟨_, id, g_lattice_At.x w_0 h_1 x_2 y_3 h K'⟩
    · exact hk.elim

theorem g_law29_same.x (a_0 : Sl) (b_1 : Sl) (h : Hp) (K : Value → Hp → Prop) : (g_law29_same a_0 b_1 h (fun r0 h => K (.bool r0) h)) = xfnD Try.prog [] [] Try.f71 (.sq .z (.sq .z (.sq (.sq .z (.bl (.lp .z [(5, .sc (.int .i64))])) none) .z none) none) none) [.slice a_0.a a_0.n a_0.c, .slice b_1.a b_1.n b_1.c] h K := by kernel_rfl

theorem g_law29_same.ok : OkFn Try.prog 71 g_law29_same.c ∧ MonoC g_law29_same.c := by
  refine xfnD_okm (an := (.sq .z (.sq .z (.sq (.sq .z (.bl (.lp .z [(5, .sc (.int .i64))])) none) .z none) none) none)) wide_ok (OkTab.nil _) (OkTabI.nil _) Try.func71 (fun vs h K hk => ?_) (fun vs h K K' hk => ?_)
  · unfold g_law29_same.c at hk
    split at hk
    · rename_i a_0_a a_0_n a_0_c b_1_a b_1_n b_1_c
      exact ⟨_, hk, Nat.le_of_ble_eq_true rfl, g_law29_same.x (⟨a_0_a, a_0_n, a_0_c⟩ : Sl) (⟨b_1_a, b_1_n, b_1_c⟩ : Sl) h K⟩
    · exact hk.elim
  · unfold g_law29_same.c at hk ⊢
    split at hk
    · rename_i a_0_a a_0_n a_0_c b_1_a b_1_n b_1_c
      exact ⟨_, id, g_law29_same.x (⟨a_0_a, a_0_n, a_0_c⟩ : Sl) (⟨b_1_a, b_1_n, b_1_c⟩ : Sl) h K'⟩
    · exact hk.elim

theorem g_law29_works.x (h : Hp) (K : Value → Hp → Prop) : (g_law29_works h (fun r0 h => K (.bool r0) h)) = xfnD Try.prog [(68, g_lattice_Triangular.c), (48, g_lattice_Tree.c), (70, g_lattice_At.c), (71, g_law29_same.c)] [] Try.f51 .z [] h K := by kernel_rfl

theorem g_law29_works.ok : OkFn Try.prog 51 g_law29_works.c ∧ MonoC g_law29_works.c := by
  refine xfnD_okm (an := .z) wide_ok (OkTab.cons g_lattice_Triangular.ok (by kernel_rfl) (OkTab.cons g_lattice_Tree.ok (by kernel_rfl) (OkTab.cons g_lattice_At.ok (by kernel_rfl) (OkTab.cons g_law29_same.ok (by kernel_rfl) (OkTab.nil _))))) (OkTabI.nil _) Try.func51 (fun vs h K hk => ?_) (fun vs h K K' hk => ?_)
  · unfold g_law29_works.c at hk
    split at hk
    · exact ⟨_, hk, Nat.le_of_ble_eq_true rfl, g_law29_works.x  h K⟩
    · exact hk.elim
  · unfold g_law29_works.c at hk ⊢
    split at hk
    · exact ⟨_, id, g_law29_works.x  h K'⟩
    · exact hk.elim

theorem g_law29_LatticeConnects.x (x_0 : Int) (x_1 : Int) (x_2 : Bool) (x_3 : Bool) (h : Hp) (K : Value → Hp → Prop) : (g_law29_LatticeConnects x_0 x_1 x_2 x_3 h (fun r0 h => K (.bool r0) h)) = xfnD Try.prog [(46, g_law29_sides.c), (47, g_law29_either.c), (48, g_lattice_Tree.c), (49, g_lattice_Complete.c), (50, g_law29_whole.c), (51, g_law29_works.c)] [] Try.f14 .z [.int .u8 x_0, .int .u8 x_1, .bool x_2, .bool x_3] h K := by kernel_rfl

theorem g_law29_LatticeConnects.ok : OkFn Try.prog 14 g_law29_LatticeConnects.c ∧ MonoC g_law29_LatticeConnects.c := by
  refine xfnD_okm (an := .z) wide_ok (OkTab.cons g_law29_sides.ok (by kernel_rfl) (OkTab.cons g_law29_either.ok (by kernel_rfl) (OkTab.cons g_lattice_Tree.ok (by kernel_rfl) (OkTab.cons g_lattice_Complete.ok (by kernel_rfl) (OkTab.cons g_law29_whole.ok (by kernel_rfl) (OkTab.cons g_law29_works.ok (by kernel_rfl) (OkTab.nil _))))))) (OkTabI.nil _) Try.func14 (fun vs h K hk => ?_) (fun vs h K K' hk => ?_)
  · unfold g_law29_LatticeConnects.c at hk
    split at hk
    · rename_i x_0 x_1 x_2 x_3
      exact ⟨_, hk, Nat.le_of_ble_eq_true rfl, g_law29_LatticeConnects.x x_0 x_1 x_2 x_3 h K⟩
    · exact hk.elim
  · unfold g_law29_LatticeConnects.c at hk ⊢
    split at hk
    · rename_i x_0 x_1 x_2 x_3
      exact ⟨_, id, g_law29_LatticeConnects.x x_0 x_1 x_2 x_3 h K'⟩
    · exact hk.elim

end Go.Hx
