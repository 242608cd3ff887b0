/- Printed by gen.py: what each function's call asks. -/
import Derived.Test.YthohhnnjpaepnaaHxDefs
import Derived.Test.YthohhnnjpaepnaaHxSoundH
import Derived.Test.YthohhnnjpaepnaaProg
import Derived.KernelRfl
set_option linter.unusedVariables false
namespace Go.Hx
open Go.Proofs
theorem wide_ok : Try.prog.follows .mixedOrders = true := by kernel_rfl

theorem g_law13_Small.x (n_0 : Int) (l_1 : Sl) (h : Hp) (K : Value → Hp → Prop) : (g_law13_Small n_0 l_1 h (fun r0 h => K (.bool r0) h)) = xfnD Try.prog [] [] Try.f15 .z [.int .i64 n_0, .slice l_1.a l_1.n l_1.c] h K := by kernel_rfl

theorem g_law13_Small.ok : OkFn Try.prog 15 g_law13_Small.c ∧ MonoC g_law13_Small.c := by
  refine xfnD_okm (an := .z) wide_ok (OkTab.nil _) (OkTabI.nil _) Try.func15 (fun vs h K hk => ?_) (fun vs h K K' hk => ?_)
  · unfold g_law13_Small.c at hk
    split at hk
    · rename_i n_0 l_1_a l_1_n l_1_c
      exact ⟨_, hk, Nat.le_of_ble_eq_true rfl, g_law13_Small.x n_0 (⟨l_1_a, l_1_n, l_1_c⟩ : Sl) h K⟩
    · exact hk.elim
  · unfold g_law13_Small.c at hk ⊢
    split at hk
    · rename_i n_0 l_1_a l_1_n l_1_c
      exact ⟨_, id, g_law13_Small.x n_0 (⟨l_1_a, l_1_n, l_1_c⟩ : Sl) h K'⟩
    · exact hk.elim

theorem g_law13_example.x (h : Hp) (K : Value → Hp → Prop) : (g_law13_example h (fun r0 h => K (.slice r0.a r0.n r0.c) h)) = xfnD Try.prog [] [] Try.f44 .z [] h K := by kernel_rfl

theorem g_law13_example.ok : OkFn Try.prog 44 g_law13_example.c ∧ MonoC g_law13_example.c := by
  refine xfnD_okm (an := .z) wide_ok (OkTab.nil _) (OkTabI.nil _) Try.func44 (fun vs h K hk => ?_) (fun vs h K K' hk => ?_)
  · unfold g_law13_example.c at hk
    split at hk
    · exact ⟨_, hk, Nat.le_of_ble_eq_true rfl, g_law13_example.x  h K⟩
    · exact hk.elim
  · unfold g_law13_example.c at hk ⊢
    split at hk
    · exact ⟨_, id, g_law13_example.x  h K'⟩
    · exact hk.elim

theorem g_slices_Clone_api_Edge.x (s_0 : Sl) (h : Hp) (K : Value → Hp → Prop) : (g_slices_Clone_api_Edge s_0 h (fun r0 h => K (.slice r0.a r0.n r0.c) h)) = xfnD Try.prog [] [] Try.f64 .z [.slice s_0.a s_0.n s_0.c] h K := by kernel_rfl

theorem g_slices_Clone_api_Edge.ok : OkFn Try.prog 64 g_slices_Clone_api_Edge.c ∧ MonoC g_slices_Clone_api_Edge.c := by
  refine xfnD_okm (an := .z) wide_ok (OkTab.nil _) (OkTabI.nil _) Try.func64 (fun vs h K hk => ?_) (fun vs h K K' hk => ?_)
  · unfold g_slices_Clone_api_Edge.c at hk
    split at hk
    · rename_i s_0_a s_0_n s_0_c
      exact ⟨_, hk, Nat.le_of_ble_eq_true rfl, g_slices_Clone_api_Edge.x (⟨s_0_a, s_0_n, s_0_c⟩ : Sl) h K⟩
    · exact hk.elim
  · unfold g_slices_Clone_api_Edge.c at hk ⊢
    split at hk
    · rename_i s_0_a s_0_n s_0_c
      exact ⟨_, id, g_slices_Clone_api_Edge.x (⟨s_0_a, s_0_n, s_0_c⟩ : Sl) h K'⟩
    · exact hk.elim

theorem g_slices_Clone_int.x (s_0 : Sl) (h : Hp) (K : Value → Hp → Prop) : (g_slices_Clone_int s_0 h (fun r0 h => K (.slice r0.a r0.n r0.c) h)) = xfnD Try.prog [] [] Try.f82 .z [.slice s_0.a s_0.n s_0.c] h K := by kernel_rfl

theorem g_slices_Clone_int.ok : OkFn Try.prog 82 g_slices_Clone_int.c ∧ MonoC g_slices_Clone_int.c := by
  refine xfnD_okm (an := .z) wide_ok (OkTab.nil _) (OkTabI.nil _) Try.func82 (fun vs h K hk => ?_) (fun vs h K K' hk => ?_)
  · unfold g_slices_Clone_int.c at hk
    split at hk
    · rename_i s_0_a s_0_n s_0_c
      exact ⟨_, hk, Nat.le_of_ble_eq_true rfl, g_slices_Clone_int.x (⟨s_0_a, s_0_n, s_0_c⟩ : Sl) h K⟩
    · exact hk.elim
  · unfold g_slices_Clone_int.c at hk ⊢
    split at hk
    · rename_i s_0_a s_0_n s_0_c
      exact ⟨_, id, g_slices_Clone_int.x (⟨s_0_a, s_0_n, s_0_c⟩ : Sl) h K'⟩
    · exact hk.elim

theorem g_graph_build_f1.x (v_0 : Int) (h_1_0 : Int) (h_1_1 : Int) (c_0 : Addr) (c_1 : Addr) (h : Hp) (K : Value → Hp → Prop) : (g_graph_build_f1 v_0 h_1_0 h_1_1 c_0 c_1 h (fun h => K (.tuple #[]) h)) = xfnD Try.prog [] [] Try.f83 .z [.int .i64 v_0, .agg #[.int .i64 h_1_0, .int .i64 h_1_1], .pointer (some c_0), .pointer (some c_1)] h K := by kernel_rfl

theorem g_graph_build_f1.ok : OkFn Try.prog 83 g_graph_build_f1.c ∧ MonoC g_graph_build_f1.c := by
  refine xfnD_okm (an := .z) wide_ok (OkTab.nil _) (OkTabI.nil _) Try.func83 (fun vs h K hk => ?_) (fun vs h K K' hk => ?_)
  · unfold g_graph_build_f1.c at hk
    split at hk
    · rename_i v_0 h_1_0 h_1_1 c_0 c_1
      exact ⟨_, hk, Nat.le_of_ble_eq_true rfl, g_graph_build_f1.x v_0 h_1_0 h_1_1 c_0 c_1 h K⟩
    · exact hk.elim
  · unfold g_graph_build_f1.c at hk ⊢
    split at hk
    · rename_i v_0 h_1_0 h_1_1 c_0 c_1
      exact ⟨_, id, g_graph_build_f1.x v_0 h_1_0 h_1_1 c_0 c_1 h K'⟩
    · exact hk.elim

theorem g_graph_build.x (x_0 : Int) (x_1 : Sl) (h : Hp) (K : Value → Hp → Prop) : (g_graph_build x_0 x_1 h (fun r0 h => K (.pointer r0) h)) = xfnD Try.prog [(82, g_slices_Clone_int.c), (83, g_graph_build_f1.c)] [] Try.f65 (.sq .z (.sq .z (.sq (.sq .z (.bl (.lp .z [(26, .sc (.int .i64))])) none) (.sq (.sq .z (.bl (.lp .z [(54, .sc (.int .i64))])) none) (.sq .z (.sq .z (.sq (.sq .z (.bl (.lp .z [(83, .sc (.int .i64))])) none) .z none) none) none) (some [])) (some [])) (some [(5, .sc .adr)])) none) [.int .i64 x_0, .slice x_1.a x_1.n x_1.c] h K := by kernel_rfl

theorem g_graph_build.ok : OkFn Try.prog 65 g_graph_build.c ∧ MonoC g_graph_build.c := by
  refine xfnD_okm (an := (.sq .z (.sq .z (.sq (.sq .z (.bl (.lp .z [(26, .sc (.int .i64))])) none) (.sq (.sq .z (.bl (.lp .z [(54, .sc (.int .i64))])) none) (.sq .z (.sq .z (.sq (.sq .z (.bl (.lp .z [(83, .sc (.int .i64))])) none) .z none) none) none) (some [])) (some [])) (some [(5, .sc .adr)])) none)) wide_ok (OkTab.cons g_slices_Clone_int.ok (by kernel_rfl) (OkTab.cons g_graph_build_f1.ok (by kernel_rfl) (OkTab.nil _))) (OkTabI.nil _) Try.func65 (fun vs h K hk => ?_) (fun vs h K K' hk => ?_)
  · unfold g_graph_build.c at hk
    split at hk
    · rename_i x_0 x_1_a x_1_n x_1_c
      exact ⟨_, hk, Nat.le_of_ble_eq_true rfl, g_graph_build.x x_0 (⟨x_1_a, x_1_n, x_1_c⟩ : Sl) h K⟩
    · exact hk.elim
  · unfold g_graph_build.c at hk ⊢
    split at hk
    · rename_i x_0 x_1_a x_1_n x_1_c
      exact ⟨_, id, g_graph_build.x x_0 (⟨x_1_a, x_1_n, x_1_c⟩ : Sl) h K'⟩
    · exact hk.elim

theorem g_graph_New.x (n_0 : Int) (l_1 : Sl) (h : Hp) (K : Value → Hp → Prop) : (g_graph_New n_0 l_1 h (fun r0 r1 h => K (.tuple #[.pointer r0, .int .i64 r1]) h)) = xfnD Try.prog [(64, g_slices_Clone_api_Edge.c), (65, g_graph_build.c)] [] Try.f43 (.sq .z (.sq .z (.sq (.sq .z (.bl (.lp .z [(21, .sc (.int .i64))])) none) .z (some [])) none) none) [.int .i64 n_0, .slice l_1.a l_1.n l_1.c] h K := by kernel_rfl

theorem g_graph_New.ok : OkFn Try.prog 43 g_graph_New.c ∧ MonoC g_graph_New.c := by
  refine xfnD_okm (an := (.sq .z (.sq .z (.sq (.sq .z (.bl (.lp .z [(21, .sc (.int .i64))])) none) .z (some [])) none) none)) wide_ok (OkTab.cons g_slices_Clone_api_Edge.ok (by kernel_rfl) (OkTab.cons g_graph_build.ok (by kernel_rfl) (OkTab.nil _))) (OkTabI.nil _) Try.func43 (fun vs h K hk => ?_) (fun vs h K K' hk => ?_)
  · unfold g_graph_New.c at hk
    split at hk
    · rename_i n_0 l_1_a l_1_n l_1_c
      exact ⟨_, hk, Nat.le_of_ble_eq_true rfl, g_graph_New.x n_0 (⟨l_1_a, l_1_n, l_1_c⟩ : Sl) h K⟩
    · exact hk.elim
  · unfold g_graph_New.c at hk ⊢
    split at hk
    · rename_i n_0 l_1_a l_1_n l_1_c
      exact ⟨_, id, g_graph_New.x n_0 (⟨l_1_a, l_1_n, l_1_c⟩ : Sl) h K'⟩
    · exact hk.elim

theorem g_graph_Graph_valid.x (g_0 : Option Addr) (h : Hp) (K : Value → Hp → Prop) : (g_graph_Graph_valid g_0 h (fun r0 h => K (.bool r0) h)) = xfnD Try.prog [] [] Try.f54 .z [.pointer g_0] h K := by kernel_rfl

theorem g_graph_Graph_valid.ok : OkFn Try.prog 54 g_graph_Graph_valid.c ∧ MonoC g_graph_Graph_valid.c := by
  refine xfnD_okm (an := .z) wide_ok (OkTab.nil _) (OkTabI.nil _) Try.func54 (fun vs h K hk => ?_) (fun vs h K K' hk => ?_)
  · unfold g_graph_Graph_valid.c at hk
    split at hk
    · rename_i g_0
      exact ⟨_, hk, Nat.le_of_ble_eq_true rfl, g_graph_Graph_valid.x g_0 h K⟩
    · exact hk.elim
  · unfold g_graph_Graph_valid.c at hk ⊢
    split at hk
    · rename_i g_0
      exact ⟨_, id, g_graph_Graph_valid.x g_0 h K'⟩
    · exact hk.elim

theorem g_graph_Graph_halves.x (g_0 : Option Addr) (v_1 : Int) (h : Hp) (K : Value → Hp → Prop) : (g_graph_Graph_halves g_0 v_1 h (fun r0 r1 h => K (.tuple #[.slice r0.a r0.n r0.c, .bool r1]) h)) = xfnD Try.prog [(54, g_graph_Graph_valid.c)] [] Try.f53 .z [.pointer g_0, .int .i64 v_1] h K := by kernel_rfl

theorem g_graph_Graph_halves.ok : OkFn Try.prog 53 g_graph_Graph_halves.c ∧ MonoC g_graph_Graph_halves.c := by
  refine xfnD_okm (an := .z) wide_ok (OkTab.cons g_graph_Graph_valid.ok (by kernel_rfl) (OkTab.nil _)) (OkTabI.nil _) Try.func53 (fun vs h K hk => ?_) (fun vs h K K' hk => ?_)
  · unfold g_graph_Graph_halves.c at hk
    split at hk
    · rename_i g_0 v_1
      exact ⟨_, hk, Nat.le_of_ble_eq_true rfl, g_graph_Graph_halves.x g_0 v_1 h K⟩
    · exact hk.elim
  · unfold g_graph_Graph_halves.c at hk ⊢
    split at hk
    · rename_i g_0 v_1
      exact ⟨_, id, g_graph_Graph_halves.x g_0 v_1 h K'⟩
    · exact hk.elim

theorem g_math_bits_Add64.ok : OkX Try.prog 72 g_math_bits_Add64.c ∧ MonoC g_math_bits_Add64.c := by
  refine add64_okx Try.func72 (by kernel_rfl) (by kernel_rfl) (by kernel_rfl) (by kernel_rfl) (fun vs h K hk => ?_) fun x y z h K hk => hk
  unfold g_math_bits_Add64.c at hk
  split at hk
  · exact ⟨_, _, _, rfl, hk⟩
  · exact hk.elim

theorem g_checked_Sum.x (l_0 : Sl) (h : Hp) (K : Value → Hp → Prop) : (g_checked_Sum l_0 h (fun r0 r1 h => K (.tuple #[.int .i64 r0, .int .i64 r1]) h)) = xfnD Try.prog [(72, g_math_bits_Add64.c)] [] Try.f55 (.sq .z (.sq .z (.sq .z (.sq (.sq .z (.bl (.lp .z [(4, .sc (.int .i64)), (5, .sc (.int .u64)), (11, .sc (.int .i64))])) none) .z (some [(4, .sc (.int .i64)), (5, .sc (.int .u64))])) none) none) none) [.slice l_0.a l_0.n l_0.c] h K := by kernel_rfl

theorem g_checked_Sum.ok : OkFn Try.prog 55 g_checked_Sum.c ∧ MonoC g_checked_Sum.c := by
  refine xfnD_okm (an := (.sq .z (.sq .z (.sq .z (.sq (.sq .z (.bl (.lp .z [(4, .sc (.int .i64)), (5, .sc (.int .u64)), (11, .sc (.int .i64))])) none) .z (some [(4, .sc (.int .i64)), (5, .sc (.int .u64))])) none) none) none)) wide_ok (OkTab.ext g_math_bits_Add64.ok (by kernel_rfl) (OkTab.nil _)) (OkTabI.nil _) Try.func55 (fun vs h K hk => ?_) (fun vs h K K' hk => ?_)
  · unfold g_checked_Sum.c at hk
    split at hk
    · rename_i l_0_a l_0_n l_0_c
      exact ⟨_, hk, Nat.le_of_ble_eq_true rfl, g_checked_Sum.x (⟨l_0_a, l_0_n, l_0_c⟩ : Sl) h K⟩
    · exact hk.elim
  · unfold g_checked_Sum.c at hk ⊢
    split at hk
    · rename_i l_0_a l_0_n l_0_c
      exact ⟨_, id, g_checked_Sum.x (⟨l_0_a, l_0_n, l_0_c⟩ : Sl) h K'⟩
    · exact hk.elim

theorem g_graph_Graph_Strength.x (g_0 : Option Addr) (v_1 : Int) (h : Hp) (K : Value → Hp → Prop) : (g_graph_Graph_Strength g_0 v_1 h (fun r0 r1 h => K (.tuple #[.int .i64 r0, .int .i64 r1]) h)) = xfnD Try.prog [(53, g_graph_Graph_halves.c), (54, g_graph_Graph_valid.c), (55, g_checked_Sum.c)] [] Try.f18 (.sq .z (.sq .z (.sq .z (.sq .z (.sq (.sq .z (.bl (.lp .z [(29, .sc (.int .i64))])) none) .z (some [])) none) none) none) none) [.pointer g_0, .int .i64 v_1] h K := by kernel_rfl

theorem g_graph_Graph_Strength.ok : OkFn Try.prog 18 g_graph_Graph_Strength.c ∧ MonoC g_graph_Graph_Strength.c := by
  refine xfnD_okm (an := (.sq .z (.sq .z (.sq .z (.sq .z (.sq (.sq .z (.bl (.lp .z [(29, .sc (.int .i64))])) none) .z (some [])) none) none) none) none)) wide_ok (OkTab.cons g_graph_Graph_halves.ok (by kernel_rfl) (OkTab.cons g_graph_Graph_valid.ok (by kernel_rfl) (OkTab.cons g_checked_Sum.ok (by kernel_rfl) (OkTab.nil _)))) (OkTabI.nil _) Try.func18 (fun vs h K hk => ?_) (fun vs h K K' hk => ?_)
  · unfold g_graph_Graph_Strength.c at hk
    split at hk
    · rename_i g_0 v_1
      exact ⟨_, hk, Nat.le_of_ble_eq_true rfl, g_graph_Graph_Strength.x g_0 v_1 h K⟩
    · exact hk.elim
  · unfold g_graph_Graph_Strength.c at hk ⊢
    split at hk
    · rename_i g_0 v_1
      exact ⟨_, id, g_graph_Graph_Strength.x g_0 v_1 h K'⟩
    · exact hk.elim

theorem g_graph_Graph_Degree.x (g_0 : Option Addr) (v_1 : Int) (h : Hp) (K : Value → Hp → Prop) : (g_graph_Graph_Degree g_0 v_1 h (fun r0 h => K (.int .i64 r0) h)) = xfnD Try.prog [(53, g_graph_Graph_halves.c)] [] Try.f21 .z [.pointer g_0, .int .i64 v_1] h K := by kernel_rfl

theorem g_graph_Graph_Degree.ok : OkFn Try.prog 21 g_graph_Graph_Degree.c ∧ MonoC g_graph_Graph_Degree.c := by
  refine xfnD_okm (an := .z) wide_ok (OkTab.cons g_graph_Graph_halves.ok (by kernel_rfl) (OkTab.nil _)) (OkTabI.nil _) Try.func21 (fun vs h K hk => ?_) (fun vs h K K' hk => ?_)
  · unfold g_graph_Graph_Degree.c at hk
    split at hk
    · rename_i g_0 v_1
      exact ⟨_, hk, Nat.le_of_ble_eq_true rfl, g_graph_Graph_Degree.x g_0 v_1 h K⟩
    · exact hk.elim
  · unfold g_graph_Graph_Degree.c at hk ⊢
    split at hk
    · rename_i g_0 v_1
      exact ⟨_, id, g_graph_Graph_Degree.x g_0 v_1 h K'⟩
    · exact hk.elim

theorem g_math_bits_Mul64.x (x_0 : Int) (y_1 : Int) (h : Hp) (K : Value → Hp → Prop) : (g_math_bits_Mul64 x_0 y_1 h (fun r0 r1 h => K (.tuple #[.int .u64 r0, .int .u64 r1]) h)) = xfnD Try.prog [] [] Try.f92 .z [.int .u64 x_0, .int .u64 y_1] h K := by kernel_rfl

theorem g_math_bits_Mul64.ok : OkFn Try.prog 92 g_math_bits_Mul64.c ∧ MonoC g_math_bits_Mul64.c := by
  refine xfnD_okm (an := .z) wide_ok (OkTab.nil _) (OkTabI.nil _) Try.func92 (fun vs h K hk => ?_) (fun vs h K K' hk => ?_)
  · unfold g_math_bits_Mul64.c at hk
    split at hk
    · rename_i x_0 y_1
      exact ⟨_, hk, Nat.le_of_ble_eq_true rfl, g_math_bits_Mul64.x x_0 y_1 h K⟩
    · exact hk.elim
  · unfold g_math_bits_Mul64.c at hk ⊢
    split at hk
    · rename_i x_0 y_1
      exact ⟨_, id, g_math_bits_Mul64.x x_0 y_1 h K'⟩
    · exact hk.elim

theorem g_math_bits_Mul.x (x_0 : Int) (y_1 : Int) (h : Hp) (K : Value → Hp → Prop) : (g_math_bits_Mul x_0 y_1 h (fun r0 r1 h => K (.tuple #[.int .u64 r0, .int .u64 r1]) h)) = xfnD Try.prog [(92, g_math_bits_Mul64.c)] [] Try.f76 .z [.int .u64 x_0, .int .u64 y_1] h K := by kernel_rfl

theorem g_math_bits_Mul.ok : OkFn Try.prog 76 g_math_bits_Mul.c ∧ MonoC g_math_bits_Mul.c := by
  refine xfnD_okm (an := .z) wide_ok (OkTab.cons g_math_bits_Mul64.ok (by kernel_rfl) (OkTab.nil _)) (OkTabI.nil _) Try.func76 (fun vs h K hk => ?_) (fun vs h K K' hk => ?_)
  · unfold g_math_bits_Mul.c at hk
    split at hk
    · rename_i x_0 y_1
      exact ⟨_, hk, Nat.le_of_ble_eq_true rfl, g_math_bits_Mul.x x_0 y_1 h K⟩
    · exact hk.elim
  · unfold g_math_bits_Mul.c at hk ⊢
    split at hk
    · rename_i x_0 y_1
      exact ⟨_, id, g_math_bits_Mul.x x_0 y_1 h K'⟩
    · exact hk.elim

theorem g_slices_Repeat_int.x (x_0 : Sl) (count_1 : Int) (h : Hp) (K : Value → Hp → Prop) : (g_slices_Repeat_int x_0 count_1 h (fun r0 h => K (.slice r0.a r0.n r0.c) h)) = xfnD Try.prog [(76, g_math_bits_Mul.c)] [] Try.f59 (.sq .z (.sq .z (.sq .z (.sq .z (.sq .z (.sq .z (.sq (.bl (.lp .z [(8, .sc (.int .i64))])) .z none) none) none) none) none) none) none) [.slice x_0.a x_0.n x_0.c, .int .i64 count_1] h K := by kernel_rfl

theorem g_slices_Repeat_int.ok : OkFn Try.prog 59 g_slices_Repeat_int.c ∧ MonoC g_slices_Repeat_int.c := by
  refine xfnD_okm (an := (.sq .z (.sq .z (.sq .z (.sq .z (.sq .z (.sq .z (.sq (.bl (.lp .z [(8, .sc (.int .i64))])) .z none) none) none) none) none) none) none)) wide_ok (OkTab.cons g_math_bits_Mul.ok (by kernel_rfl) (OkTab.nil _)) (OkTabI.nil _) Try.func59 (fun vs h K hk => ?_) (fun vs h K K' hk => ?_)
  · unfold g_slices_Repeat_int.c at hk
    split at hk
    · rename_i x_0_a x_0_n x_0_c count_1
      exact ⟨_, hk, Nat.le_of_ble_eq_true rfl, g_slices_Repeat_int.x (⟨x_0_a, x_0_n, x_0_c⟩ : Sl) count_1 h K⟩
    · exact hk.elim
  · unfold g_slices_Repeat_int.c at hk ⊢
    split at hk
    · rename_i x_0_a x_0_n x_0_c count_1
      exact ⟨_, id, g_slices_Repeat_int.x (⟨x_0_a, x_0_n, x_0_c⟩ : Sl) count_1 h K'⟩
    · exact hk.elim

theorem g_graph_Graph_Around.x (g_0 : Option Addr) (v_1 : Int) (h : Hp) (K : Value → Hp → Prop) : (g_graph_Graph_Around g_0 v_1 h (fun r0 h => K (.func (.func 60) #[] #[.pointer (some r0)]) h)) = xfnD Try.prog [(53, g_graph_Graph_halves.c)] [] Try.f29 .z [.pointer g_0, .int .i64 v_1] h K := by kernel_rfl

theorem g_graph_Graph_Around.ok : OkFn Try.prog 29 g_graph_Graph_Around.c ∧ MonoC g_graph_Graph_Around.c := by
  refine xfnD_okm (an := .z) wide_ok (OkTab.cons g_graph_Graph_halves.ok (by kernel_rfl) (OkTab.nil _)) (OkTabI.nil _) Try.func29 (fun vs h K hk => ?_) (fun vs h K K' hk => ?_)
  · unfold g_graph_Graph_Around.c at hk
    split at hk
    · rename_i g_0 v_1
      exact ⟨_, hk, Nat.le_of_ble_eq_true rfl, g_graph_Graph_Around.x g_0 v_1 h K⟩
    · exact hk.elim
  · unfold g_graph_Graph_Around.c at hk ⊢
    split at hk
    · rename_i g_0 v_1
      exact ⟨_, id, g_graph_Graph_Around.x g_0 v_1 h K'⟩
    · exact hk.elim

theorem g_graph_Graph_Around_f1.x (Y : YT) (yield_0 : Nat) (c_0 : Addr) (h : Hp) (K : Value → Hp → Prop) : (g_graph_Graph_Around_f1 Y yield_0 c_0 h (fun h => K (.tuple #[]) h)) = xfnD Try.prog ((ykey, yct Y) :: []) [] Try.f60 (.sq .z (.bl (.lp .z [(7, .sc (.int .i64))])) none) [.func (.yield yield_0) #[] #[], .pointer (some c_0)] h K := by kernel_rfl

theorem g_graph_Graph_Around_f1.ok : OkIt Try.prog 60 g_graph_Graph_Around_f1.c := by
  refine xfnD_oki (an := (.sq .z (.bl (.lp .z [(7, .sc (.int .i64))])) none)) (by kernel_rfl) wide_ok (OkTab.nil _) Try.func60 (fun Y vs h K hk => ?_) (fun Y vs h K K' hk => ?_)
  · unfold g_graph_Graph_Around_f1.c at hk
    split at hk
    · rename_i yield_0 c_0
      exact ⟨_, hk, Nat.le_of_ble_eq_true rfl, g_graph_Graph_Around_f1.x Y yield_0 c_0 h K⟩
    · exact hk.elim
  · unfold g_graph_Graph_Around_f1.c at hk ⊢
    split at hk
    · rename_i yield_0 c_0
      exact ⟨_, id, g_graph_Graph_Around_f1.x Y yield_0 c_0 h K'⟩
    · exact hk.elim

theorem g_graph_Graph_Dist.x (g_0 : Option Addr) (v_1 : Int) (h : Hp) (K : Value → Hp → Prop) : (g_graph_Graph_Dist g_0 v_1 h (fun r0 h => K (.slice r0.a r0.n r0.c) h)) = xfnD Try.prog [(53, g_graph_Graph_halves.c), (59, g_slices_Repeat_int.c), (29, g_graph_Graph_Around.c)] [(60, g_graph_Graph_Around_f1.c)] Try.f26 (.sq .z (.sq .z (.sq .z (.sq .z (.sq .z (.sq (.bl (.lp (.sq .z (.bl (.sq .z (.sq .z (.sq .z (.bl (.sq .z .z (some [(42, .sc (.int .i64)), (43, .sc (.int .i64))]))) none) none) none)) none) [])) .z none) none) none) none) none) none) [.pointer g_0, .int .i64 v_1] h K := by kernel_rfl

theorem g_graph_Graph_Dist.ok : OkFn Try.prog 26 g_graph_Graph_Dist.c ∧ MonoC g_graph_Graph_Dist.c := by
  refine xfnD_okm (an := (.sq .z (.sq .z (.sq .z (.sq .z (.sq .z (.sq (.bl (.lp (.sq .z (.bl (.sq .z (.sq .z (.sq .z (.bl (.sq .z .z (some [(42, .sc (.int .i64)), (43, .sc (.int .i64))]))) none) none) none)) none) [])) .z none) none) none) none) none) none)) wide_ok (OkTab.cons g_graph_Graph_halves.ok (by kernel_rfl) (OkTab.cons g_slices_Repeat_int.ok (by kernel_rfl) (OkTab.cons g_graph_Graph_Around.ok (by kernel_rfl) (OkTab.nil _)))) (OkTabI.cons g_graph_Graph_Around_f1.ok (OkTabI.nil _)) Try.func26 (fun vs h K hk => ?_) (fun vs h K K' hk => ?_)
  · unfold g_graph_Graph_Dist.c at hk
    split at hk
    · rename_i g_0 v_1
      exact ⟨_, hk, Nat.le_of_ble_eq_true rfl, g_graph_Graph_Dist.x g_0 v_1 h K⟩
    · exact hk.elim
  · unfold g_graph_Graph_Dist.c at hk ⊢
    split at hk
    · rename_i g_0 v_1
      exact ⟨_, id, g_graph_Graph_Dist.x g_0 v_1 h K'⟩
    · exact hk.elim

theorem g_law13_numbers.x (a_0 : Sl) (b_1 : Sl) (h : Hp) (K : Value → Hp → Prop) : (g_law13_numbers a_0 b_1 h (fun r0 h => K (.bool r0) h)) = xfnD Try.prog [] [] Try.f25 (.sq .z (.sq .z (.sq (.sq .z (.bl (.lp .z [(5, .sc (.int .i64))])) none) .z none) none) none) [.slice a_0.a a_0.n a_0.c, .slice b_1.a b_1.n b_1.c] h K := by kernel_rfl

theorem g_law13_numbers.ok : OkFn Try.prog 25 g_law13_numbers.c ∧ MonoC g_law13_numbers.c := by
  refine xfnD_okm (an := (.sq .z (.sq .z (.sq (.sq .z (.bl (.lp .z [(5, .sc (.int .i64))])) none) .z none) none) none)) wide_ok (OkTab.nil _) (OkTabI.nil _) Try.func25 (fun vs h K hk => ?_) (fun vs h K K' hk => ?_)
  · unfold g_law13_numbers.c at hk
    split at hk
    · rename_i a_0_a a_0_n a_0_c b_1_a b_1_n b_1_c
      exact ⟨_, hk, Nat.le_of_ble_eq_true rfl, g_law13_numbers.x (⟨a_0_a, a_0_n, a_0_c⟩ : Sl) (⟨b_1_a, b_1_n, b_1_c⟩ : Sl) h K⟩
    · exact hk.elim
  · unfold g_law13_numbers.c at hk ⊢
    split at hk
    · rename_i a_0_a a_0_n a_0_c b_1_a b_1_n b_1_c
      exact ⟨_, id, g_law13_numbers.x (⟨a_0_a, a_0_n, a_0_c⟩ : Sl) (⟨b_1_a, b_1_n, b_1_c⟩ : Sl) h K'⟩
    · exact hk.elim

theorem g_dsu_New.x (n_0 : Int) (h : Hp) (K : Value → Hp → Prop) : (g_dsu_New n_0 h (fun r0 r1 h => K (.tuple #[.pointer r0, .int .i64 r1]) h)) = xfnD Try.prog [] [] Try.f77 (.sq .z (.sq .z (.sq .z (.sq (.sq .z (.bl (.lp .z [(16, .sc (.int .i64))])) none) .z none) none) none) none) [.int .i64 n_0] h K := by kernel_rfl

theorem g_dsu_New.ok : OkFn Try.prog 77 g_dsu_New.c ∧ MonoC g_dsu_New.c := by
  refine xfnD_okm (an := (.sq .z (.sq .z (.sq .z (.sq (.sq .z (.bl (.lp .z [(16, .sc (.int .i64))])) none) .z none) none) none) none)) wide_ok (OkTab.nil _) (OkTabI.nil _) Try.func77 (fun vs h K hk => ?_) (fun vs h K K' hk => ?_)
  · unfold g_dsu_New.c at hk
    split at hk
    · rename_i n_0
      exact ⟨_, hk, Nat.le_of_ble_eq_true rfl, g_dsu_New.x n_0 h K⟩
    · exact hk.elim
  · unfold g_dsu_New.c at hk ⊢
    split at hk
    · rename_i n_0
      exact ⟨_, id, g_dsu_New.x n_0 h K'⟩
    · exact hk.elim

theorem g_dsu_Sets_has.x (s_0 : Option Addr) (a_1 : Int) (h : Hp) (K : Value → Hp → Prop) : (g_dsu_Sets_has s_0 a_1 h (fun r0 h => K (.bool r0) h)) = xfnD Try.prog [] [] Try.f93 .z [.pointer s_0, .int .i64 a_1] h K := by kernel_rfl

theorem g_dsu_Sets_has.ok : OkFn Try.prog 93 g_dsu_Sets_has.c ∧ MonoC g_dsu_Sets_has.c := by
  refine xfnD_okm (an := .z) wide_ok (OkTab.nil _) (OkTabI.nil _) Try.func93 (fun vs h K hk => ?_) (fun vs h K K' hk => ?_)
  · unfold g_dsu_Sets_has.c at hk
    split at hk
    · rename_i s_0 a_1
      exact ⟨_, hk, Nat.le_of_ble_eq_true rfl, g_dsu_Sets_has.x s_0 a_1 h K⟩
    · exact hk.elim
  · unfold g_dsu_Sets_has.c at hk ⊢
    split at hk
    · rename_i s_0 a_1
      exact ⟨_, id, g_dsu_Sets_has.x s_0 a_1 h K'⟩
    · exact hk.elim

theorem g_dsu_Sets_root.x (s_0 : Option Addr) (a_1 : Int) (h : Hp) (K : Value → Hp → Prop) : (g_dsu_Sets_root s_0 a_1 h (fun r0 h => K (.int .i64 r0) h)) = xfnD Try.prog [] [] Try.f80 (.sq .z (.bl (.sq .z (.sq (.bl (.lp .z [(1, .sc (.int .i64))])) .z none) none)) none) [.pointer s_0, .int .i64 a_1] h K := by kernel_rfl

theorem g_dsu_Sets_root.ok : OkFn Try.prog 80 g_dsu_Sets_root.c ∧ MonoC g_dsu_Sets_root.c := by
  refine xfnD_okm (an := (.sq .z (.bl (.sq .z (.sq (.bl (.lp .z [(1, .sc (.int .i64))])) .z none) none)) none)) wide_ok (OkTab.nil _) (OkTabI.nil _) Try.func80 (fun vs h K hk => ?_) (fun vs h K K' hk => ?_)
  · unfold g_dsu_Sets_root.c at hk
    split at hk
    · rename_i s_0 a_1
      exact ⟨_, hk, Nat.le_of_ble_eq_true rfl, g_dsu_Sets_root.x s_0 a_1 h K⟩
    · exact hk.elim
  · unfold g_dsu_Sets_root.c at hk ⊢
    split at hk
    · rename_i s_0 a_1
      exact ⟨_, id, g_dsu_Sets_root.x s_0 a_1 h K'⟩
    · exact hk.elim

theorem g_dsu_Sets_Union.x (x_0 : Option Addr) (x_1 : Int) (x_2 : Int) (h : Hp) (K : Value → Hp → Prop) : (g_dsu_Sets_Union x_0 x_1 x_2 h (fun r0 r1 h => K (.tuple #[.bool r0, .int .i64 r1]) h)) = xfnD Try.prog [(93, g_dsu_Sets_has.c), (80, g_dsu_Sets_root.c)] [] Try.f78 (.sq .z (.sq .z (.sq .z (.sq .z (.sq .z (.sq .z .z (some [(1, .sc (.int .i64)), (2, .sc (.int .i64))])) none) none) none) none) none) [.pointer x_0, .int .i64 x_1, .int .i64 x_2] h K := by kernel_rfl

theorem g_dsu_Sets_Union.ok : OkFn Try.prog 78 g_dsu_Sets_Union.c ∧ MonoC g_dsu_Sets_Union.c := by
  refine xfnD_okm (an := (.sq .z (.sq .z (.sq .z (.sq .z (.sq .z (.sq .z .z (some [(1, .sc (.int .i64)), (2, .sc (.int .i64))])) none) none) none) none) none)) wide_ok (OkTab.cons g_dsu_Sets_has.ok (by kernel_rfl) (OkTab.cons g_dsu_Sets_root.ok (by kernel_rfl) (OkTab.nil _))) (OkTabI.nil _) Try.func78 (fun vs h K hk => ?_) (fun vs h K K' hk => ?_)
  · unfold g_dsu_Sets_Union.c at hk
    split at hk
    · rename_i x_0 x_1 x_2
      exact ⟨_, hk, Nat.le_of_ble_eq_true rfl, g_dsu_Sets_Union.x x_0 x_1 x_2 h K⟩
    · exact hk.elim
  · unfold g_dsu_Sets_Union.c at hk ⊢
    split at hk
    · rename_i x_0 x_1 x_2
      exact ⟨_, id, g_dsu_Sets_Union.x x_0 x_1 x_2 h K'⟩
    · exact hk.elim

theorem g_graph_Graph_sets.x (g_0 : Option Addr) (h : Hp) (K : Value → Hp → Prop) : (g_graph_Graph_sets g_0 h (fun r0 h => K (.pointer r0) h)) = xfnD Try.prog [(54, g_graph_Graph_valid.c), (77, g_dsu_New.c), (78, g_dsu_Sets_Union.c)] [] Try.f61 (.sq .z (.sq .z (.sq .z (.sq (.sq .z (.bl (.lp .z [(23, .sc (.int .i64))])) none) .z none) none) none) none) [.pointer g_0] h K := by kernel_rfl

theorem g_graph_Graph_sets.ok : OkFn Try.prog 61 g_graph_Graph_sets.c ∧ MonoC g_graph_Graph_sets.c := by
  refine xfnD_okm (an := (.sq .z (.sq .z (.sq .z (.sq (.sq .z (.bl (.lp .z [(23, .sc (.int .i64))])) none) .z none) none) none) none)) wide_ok (OkTab.cons g_graph_Graph_valid.ok (by kernel_rfl) (OkTab.cons g_dsu_New.ok (by kernel_rfl) (OkTab.cons g_dsu_Sets_Union.ok (by kernel_rfl) (OkTab.nil _)))) (OkTabI.nil _) Try.func61 (fun vs h K hk => ?_) (fun vs h K K' hk => ?_)
  · unfold g_graph_Graph_sets.c at hk
    split at hk
    · rename_i g_0
      exact ⟨_, hk, Nat.le_of_ble_eq_true rfl, g_graph_Graph_sets.x g_0 h K⟩
    · exact hk.elim
  · unfold g_graph_Graph_sets.c at hk ⊢
    split at hk
    · rename_i g_0
      exact ⟨_, id, g_graph_Graph_sets.x g_0 h K'⟩
    · exact hk.elim

theorem g_dsu_Sets_Len.x (s_0 : Option Addr) (h : Hp) (K : Value → Hp → Prop) : (g_dsu_Sets_Len s_0 h (fun r0 h => K (.int .i64 r0) h)) = xfnD Try.prog [] [] Try.f79 .z [.pointer s_0] h K := by kernel_rfl

theorem g_dsu_Sets_Len.ok : OkFn Try.prog 79 g_dsu_Sets_Len.c ∧ MonoC g_dsu_Sets_Len.c := by
  refine xfnD_okm (an := .z) wide_ok (OkTab.nil _) (OkTabI.nil _) Try.func79 (fun vs h K hk => ?_) (fun vs h K K' hk => ?_)
  · unfold g_dsu_Sets_Len.c at hk
    split at hk
    · rename_i s_0
      exact ⟨_, hk, Nat.le_of_ble_eq_true rfl, g_dsu_Sets_Len.x s_0 h K⟩
    · exact hk.elim
  · unfold g_dsu_Sets_Len.c at hk ⊢
    split at hk
    · rename_i s_0
      exact ⟨_, id, g_dsu_Sets_Len.x s_0 h K'⟩
    · exact hk.elim

theorem g_dsu_Sets_Labels.x (s_0 : Option Addr) (h : Hp) (K : Value → Hp → Prop) : (g_dsu_Sets_Labels s_0 h (fun r0 h => K (.slice r0.a r0.n r0.c) h)) = xfnD Try.prog [(79, g_dsu_Sets_Len.c), (80, g_dsu_Sets_root.c)] [] Try.f62 (.sq .z (.sq .z (.sq .z (.sq .z (.sq (.sq .z (.bl (.lp .z [(13, .sc (.int .i64))])) none) .z none) none) none) none) none) [.pointer s_0] h K := by kernel_rfl

theorem g_dsu_Sets_Labels.ok : OkFn Try.prog 62 g_dsu_Sets_Labels.c ∧ MonoC g_dsu_Sets_Labels.c := by
  refine xfnD_okm (an := (.sq .z (.sq .z (.sq .z (.sq .z (.sq (.sq .z (.bl (.lp .z [(13, .sc (.int .i64))])) none) .z none) none) none) none) none)) wide_ok (OkTab.cons g_dsu_Sets_Len.ok (by kernel_rfl) (OkTab.cons g_dsu_Sets_root.ok (by kernel_rfl) (OkTab.nil _))) (OkTabI.nil _) Try.func62 (fun vs h K hk => ?_) (fun vs h K K' hk => ?_)
  · unfold g_dsu_Sets_Labels.c at hk
    split at hk
    · rename_i s_0
      exact ⟨_, hk, Nat.le_of_ble_eq_true rfl, g_dsu_Sets_Labels.x s_0 h K⟩
    · exact hk.elim
  · unfold g_dsu_Sets_Labels.c at hk ⊢
    split at hk
    · rename_i s_0
      exact ⟨_, id, g_dsu_Sets_Labels.x s_0 h K'⟩
    · exact hk.elim

theorem g_dsu_Sets_Size.x (s_0 : Option Addr) (a_1 : Int) (h : Hp) (K : Value → Hp → Prop) : (g_dsu_Sets_Size s_0 a_1 h (fun r0 h => K (.int .i64 r0) h)) = xfnD Try.prog [(93, g_dsu_Sets_has.c), (80, g_dsu_Sets_root.c)] [] Try.f81 .z [.pointer s_0, .int .i64 a_1] h K := by kernel_rfl

theorem g_dsu_Sets_Size.ok : OkFn Try.prog 81 g_dsu_Sets_Size.c ∧ MonoC g_dsu_Sets_Size.c := by
  refine xfnD_okm (an := .z) wide_ok (OkTab.cons g_dsu_Sets_has.ok (by kernel_rfl) (OkTab.cons g_dsu_Sets_root.ok (by kernel_rfl) (OkTab.nil _))) (OkTabI.nil _) Try.func81 (fun vs h K hk => ?_) (fun vs h K K' hk => ?_)
  · unfold g_dsu_Sets_Size.c at hk
    split at hk
    · rename_i s_0 a_1
      exact ⟨_, hk, Nat.le_of_ble_eq_true rfl, g_dsu_Sets_Size.x s_0 a_1 h K⟩
    · exact hk.elim
  · unfold g_dsu_Sets_Size.c at hk ⊢
    split at hk
    · rename_i s_0 a_1
      exact ⟨_, id, g_dsu_Sets_Size.x s_0 a_1 h K'⟩
    · exact hk.elim

theorem g_dsu_Sets_Groups.x (x_0 : Option Addr) (h : Hp) (K : Value → Hp → Prop) : (g_dsu_Sets_Groups x_0 h (fun r0 h => K (.slice r0.a r0.n r0.c) h)) = xfnD Try.prog [(79, g_dsu_Sets_Len.c), (62, g_dsu_Sets_Labels.c), (82, g_slices_Clone_int.c), (81, g_dsu_Sets_Size.c)] [] Try.f63 (.sq .z (.sq .z (.sq .z (.sq .z (.sq .z (.sq .z (.sq .z (.sq .z (.sq (.sq .z (.bl (.lp .z [(7, .sc (.int .i64)), (8, .sc .slice), (29, .sc (.int .i64))])) none) (.sq (.sq .z (.bl (.lp .z [(58, .sc (.int .i64))])) none) (.sq (.sq .z (.bl (.lp .z [(83, .sc (.int .i64))])) none) .z none) (some [])) (some [(8, .sc .slice)])) none) none) none) none) none) none) none) none) [.pointer x_0] h K := by kernel_rfl

theorem g_dsu_Sets_Groups.ok : OkFn Try.prog 63 g_dsu_Sets_Groups.c ∧ MonoC g_dsu_Sets_Groups.c := by
  refine xfnD_okm (an := (.sq .z (.sq .z (.sq .z (.sq .z (.sq .z (.sq .z (.sq .z (.sq .z (.sq (.sq .z (.bl (.lp .z [(7, .sc (.int .i64)), (8, .sc .slice), (29, .sc (.int .i64))])) none) (.sq (.sq .z (.bl (.lp .z [(58, .sc (.int .i64))])) none) (.sq (.sq .z (.bl (.lp .z [(83, .sc (.int .i64))])) none) .z none) (some [])) (some [(8, .sc .slice)])) none) none) none) none) none) none) none) none)) wide_ok (OkTab.cons g_dsu_Sets_Len.ok (by kernel_rfl) (OkTab.cons g_dsu_Sets_Labels.ok (by kernel_rfl) (OkTab.cons g_slices_Clone_int.ok (by kernel_rfl) (OkTab.cons g_dsu_Sets_Size.ok (by kernel_rfl) (OkTab.nil _))))) (OkTabI.nil _) Try.func63 (fun vs h K hk => ?_) (fun vs h K K' hk => ?_)
  · unfold g_dsu_Sets_Groups.c at hk
    split at hk
    · rename_i x_0
      exact ⟨_, hk, Nat.le_of_ble_eq_true rfl, g_dsu_Sets_Groups.x x_0 h K⟩
    · exact hk.elim
  · unfold g_dsu_Sets_Groups.c at hk ⊢
    split at hk
    · rename_i x_0
      exact ⟨_, id, g_dsu_Sets_Groups.x x_0 h K'⟩
    · exact hk.elim

theorem g_graph_Graph_Components.x (g_0 : Option Addr) (h : Hp) (K : Value → Hp → Prop) : (g_graph_Graph_Components g_0 h (fun r0 h => K (.slice r0.a r0.n r0.c) h)) = xfnD Try.prog [(61, g_graph_Graph_sets.c), (63, g_dsu_Sets_Groups.c)] [] Try.f34 .z [.pointer g_0] h K := by kernel_rfl

theorem g_graph_Graph_Components.ok : OkFn Try.prog 34 g_graph_Graph_Components.c ∧ MonoC g_graph_Graph_Components.c := by
  refine xfnD_okm (an := .z) wide_ok (OkTab.cons g_graph_Graph_sets.ok (by kernel_rfl) (OkTab.cons g_dsu_Sets_Groups.ok (by kernel_rfl) (OkTab.nil _))) (OkTabI.nil _) Try.func34 (fun vs h K hk => ?_) (fun vs h K K' hk => ?_)
  · unfold g_graph_Graph_Components.c at hk
    split at hk
    · rename_i g_0
      exact ⟨_, hk, Nat.le_of_ble_eq_true rfl, g_graph_Graph_Components.x g_0 h K⟩
    · exact hk.elim
  · unfold g_graph_Graph_Components.c at hk ⊢
    split at hk
    · rename_i g_0
      exact ⟨_, id, g_graph_Graph_Components.x g_0 h K'⟩
    · exact hk.elim

theorem g_graph_Graph_Row.x (g_0 : Option Addr) (h : Hp) (K : Value → Hp → Prop) : (g_graph_Graph_Row g_0 h (fun r0 r1 r2 h => K (.agg #[.int .i64 r0, .int .i64 r1, .int .i64 r2]) h)) = xfnD Try.prog [(34, g_graph_Graph_Components.c)] [] Try.f32 (.sq .z (.sq .z (.sq (.sq .z (.bl (.lp .z [(10, .sc (.int .i64))])) none) .z none) none) none) [.pointer g_0] h K := by kernel_rfl

theorem g_graph_Graph_Row.ok : OkFn Try.prog 32 g_graph_Graph_Row.c ∧ MonoC g_graph_Graph_Row.c := by
  refine xfnD_okm (an := (.sq .z (.sq .z (.sq (.sq .z (.bl (.lp .z [(10, .sc (.int .i64))])) none) .z none) none) none)) wide_ok (OkTab.cons g_graph_Graph_Components.ok (by kernel_rfl) (OkTab.nil _)) (OkTabI.nil _) Try.func32 (fun vs h K hk => ?_) (fun vs h K K' hk => ?_)
  · unfold g_graph_Graph_Row.c at hk
    split at hk
    · rename_i g_0
      exact ⟨_, hk, Nat.le_of_ble_eq_true rfl, g_graph_Graph_Row.x g_0 h K⟩
    · exact hk.elim
  · unfold g_graph_Graph_Row.c at hk ⊢
    split at hk
    · rename_i g_0
      exact ⟨_, id, g_graph_Graph_Row.x g_0 h K'⟩
    · exact hk.elim

theorem g_law13_around.x (g_0 : Option Addr) (v_1 : Int) (most_2 : Int) (h : Hp) (K : Value → Hp → Prop) : (g_law13_around g_0 v_1 most_2 h (fun r0 h => K (.slice r0.a r0.n r0.c) h)) = xfnD Try.prog [(29, g_graph_Graph_Around.c)] [(60, g_graph_Graph_Around_f1.c)] Try.f24 (.sq .z (.sq .z (.sq .z (.sq .z (.sq (.sq .z (.bl (.sq .z .z (some [(19, .sc (.int .i64)), (20, .sc (.int .i64))]))) none) .z none) none) none) none) none) [.pointer g_0, .int .i64 v_1, .int .i64 most_2] h K := by kernel_rfl

theorem g_law13_around.ok : OkFn Try.prog 24 g_law13_around.c ∧ MonoC g_law13_around.c := by
  refine xfnD_okm (an := (.sq .z (.sq .z (.sq .z (.sq .z (.sq (.sq .z (.bl (.sq .z .z (some [(19, .sc (.int .i64)), (20, .sc (.int .i64))]))) none) .z none) none) none) none) none)) wide_ok (OkTab.cons g_graph_Graph_Around.ok (by kernel_rfl) (OkTab.nil _)) (OkTabI.cons g_graph_Graph_Around_f1.ok (OkTabI.nil _)) Try.func24 (fun vs h K hk => ?_) (fun vs h K K' hk => ?_)
  · unfold g_law13_around.c at hk
    split at hk
    · rename_i g_0 v_1 most_2
      exact ⟨_, hk, Nat.le_of_ble_eq_true rfl, g_law13_around.x g_0 v_1 most_2 h K⟩
    · exact hk.elim
  · unfold g_law13_around.c at hk ⊢
    split at hk
    · rename_i g_0 v_1 most_2
      exact ⟨_, id, g_law13_around.x g_0 v_1 most_2 h K'⟩
    · exact hk.elim

theorem g_law13_pairs.x (a_0 : Sl) (b_1 : Sl) (h : Hp) (K : Value → Hp → Prop) : (g_law13_pairs a_0 b_1 h (fun r0 h => K (.bool r0) h)) = xfnD Try.prog [] [] Try.f23 (.sq .z (.sq .z (.sq (.sq .z (.bl (.lp .z [(5, .sc (.int .i64))])) none) .z none) none) none) [.slice a_0.a a_0.n a_0.c, .slice b_1.a b_1.n b_1.c] h K := by kernel_rfl

theorem g_law13_pairs.ok : OkFn Try.prog 23 g_law13_pairs.c ∧ MonoC g_law13_pairs.c := by
  refine xfnD_okm (an := (.sq .z (.sq .z (.sq (.sq .z (.bl (.lp .z [(5, .sc (.int .i64))])) none) .z none) none) none)) wide_ok (OkTab.nil _) (OkTabI.nil _) Try.func23 (fun vs h K hk => ?_) (fun vs h K K' hk => ?_)
  · unfold g_law13_pairs.c at hk
    split at hk
    · rename_i a_0_a a_0_n a_0_c b_1_a b_1_n b_1_c
      exact ⟨_, hk, Nat.le_of_ble_eq_true rfl, g_law13_pairs.x (⟨a_0_a, a_0_n, a_0_c⟩ : Sl) (⟨b_1_a, b_1_n, b_1_c⟩ : Sl) h K⟩
    · exact hk.elim
  · unfold g_law13_pairs.c at hk ⊢
    split at hk
    · rename_i a_0_a a_0_n a_0_c b_1_a b_1_n b_1_c
      exact ⟨_, id, g_law13_pairs.x (⟨a_0_a, a_0_n, a_0_c⟩ : Sl) (⟨b_1_a, b_1_n, b_1_c⟩ : Sl) h K'⟩
    · exact hk.elim

theorem g_law13_works.x (h : Hp) (K : Value → Hp → Prop) : (g_law13_works h (fun r0 h => K (.bool r0) h)) = xfnD Try.prog [(44, g_law13_example.c), (43, g_graph_New.c), (18, g_graph_Graph_Strength.c), (21, g_graph_Graph_Degree.c), (26, g_graph_Graph_Dist.c), (25, g_law13_numbers.c), (32, g_graph_Graph_Row.c), (24, g_law13_around.c), (23, g_law13_pairs.c)] [] Try.f16 .z [] h K := by kernel_rfl

theorem g_law13_works.ok : OkFn Try.prog 16 g_law13_works.c ∧ MonoC g_law13_works.c := by
  refine xfnD_okm (an := .z) wide_ok (OkTab.cons g_law13_example.ok (by kernel_rfl) (OkTab.cons g_graph_New.ok (by kernel_rfl) (OkTab.cons g_graph_Graph_Strength.ok (by kernel_rfl) (OkTab.cons g_graph_Graph_Degree.ok (by kernel_rfl) (OkTab.cons g_graph_Graph_Dist.ok (by kernel_rfl) (OkTab.cons g_law13_numbers.ok (by kernel_rfl) (OkTab.cons g_graph_Graph_Row.ok (by kernel_rfl) (OkTab.cons g_law13_around.ok (by kernel_rfl) (OkTab.cons g_law13_pairs.ok (by kernel_rfl) (OkTab.nil _)))))))))) (OkTabI.nil _) Try.func16 (fun vs h K hk => ?_) (fun vs h K K' hk => ?_)
  · unfold g_law13_works.c at hk
    split at hk
    · exact ⟨_, hk, Nat.le_of_ble_eq_true rfl, g_law13_works.x  h K⟩
    · exact hk.elim
  · unfold g_law13_works.c at hk ⊢
    split at hk
    · exact ⟨_, id, g_law13_works.x  h K'⟩
    · exact hk.elim

theorem g_ref13_New.x (x_0 : Int) (x_1 : Sl) (h : Hp) (K : Value → Hp → Prop) : (g_ref13_New x_0 x_1 h (fun r0 r1 h => K (.tuple #[.pointer r0, .int .i64 r1]) h)) = xfnD Try.prog [] [] Try.f52 (.sq .z (.sq .z (.sq (.sq .z (.bl (.lp .z [(6, .sc (.int .i64))])) none) .z (some [])) none) none) [.int .i64 x_0, .slice x_1.a x_1.n x_1.c] h K := by kernel_rfl

theorem g_ref13_New.ok : OkFn Try.prog 52 g_ref13_New.c ∧ MonoC g_ref13_New.c := by
  refine xfnD_okm (an := (.sq .z (.sq .z (.sq (.sq .z (.bl (.lp .z [(6, .sc (.int .i64))])) none) .z (some [])) none) none)) wide_ok (OkTab.nil _) (OkTabI.nil _) Try.func52 (fun vs h K hk => ?_) (fun vs h K K' hk => ?_)
  · unfold g_ref13_New.c at hk
    split at hk
    · rename_i x_0 x_1_a x_1_n x_1_c
      exact ⟨_, hk, Nat.le_of_ble_eq_true rfl, g_ref13_New.x x_0 (⟨x_1_a, x_1_n, x_1_c⟩ : Sl) h K⟩
    · exact hk.elim
  · unfold g_ref13_New.c at hk ⊢
    split at hk
    · rename_i x_0 x_1_a x_1_n x_1_c
      exact ⟨_, id, g_ref13_New.x x_0 (⟨x_1_a, x_1_n, x_1_c⟩ : Sl) h K'⟩
    · exact hk.elim

theorem g_law13_edges.x (a_0 : Sl) (b_1 : Sl) (h : Hp) (K : Value → Hp → Prop) : (g_law13_edges a_0 b_1 h (fun r0 h => K (.bool r0) h)) = xfnD Try.prog [] [] Try.f40 (.sq .z (.sq .z (.sq (.sq .z (.bl (.lp .z [(5, .sc (.int .i64))])) none) .z none) none) none) [.slice a_0.a a_0.n a_0.c, .slice b_1.a b_1.n b_1.c] h K := by kernel_rfl

theorem g_law13_edges.ok : OkFn Try.prog 40 g_law13_edges.c ∧ MonoC g_law13_edges.c := by
  refine xfnD_okm (an := (.sq .z (.sq .z (.sq (.sq .z (.bl (.lp .z [(5, .sc (.int .i64))])) none) .z none) none) none)) wide_ok (OkTab.nil _) (OkTabI.nil _) Try.func40 (fun vs h K hk => ?_) (fun vs h K K' hk => ?_)
  · unfold g_law13_edges.c at hk
    split at hk
    · rename_i a_0_a a_0_n a_0_c b_1_a b_1_n b_1_c
      exact ⟨_, hk, Nat.le_of_ble_eq_true rfl, g_law13_edges.x (⟨a_0_a, a_0_n, a_0_c⟩ : Sl) (⟨b_1_a, b_1_n, b_1_c⟩ : Sl) h K⟩
    · exact hk.elim
  · unfold g_law13_edges.c at hk ⊢
    split at hk
    · rename_i a_0_a a_0_n a_0_c b_1_a b_1_n b_1_c
      exact ⟨_, id, g_law13_edges.x (⟨a_0_a, a_0_n, a_0_c⟩ : Sl) (⟨b_1_a, b_1_n, b_1_c⟩ : Sl) h K'⟩
    · exact hk.elim

theorem g_law13_both.x (n_0 : Int) (l_1 : Sl) (h : Hp) (K : Value → Hp → Prop) : (g_law13_both n_0 l_1 h (fun r0 r1 r2 r3 h => K (.tuple #[.pointer r0, .pointer r1, .bool r2, .bool r3]) h)) = xfnD Try.prog [(43, g_graph_New.c), (52, g_ref13_New.c), (40, g_law13_edges.c)] [] Try.f17 (.sq .z (.sq .z (.sq .z (.sq .z (.sq .z (.sq (.sq .z (.bl (.lp .z [(14, .sc (.int .i64))])) none) .z (some [])) (some [(13, .sc .bool)])) none) none) none) none) [.int .i64 n_0, .slice l_1.a l_1.n l_1.c] h K := by kernel_rfl

theorem g_law13_both.ok : OkFn Try.prog 17 g_law13_both.c ∧ MonoC g_law13_both.c := by
  refine xfnD_okm (an := (.sq .z (.sq .z (.sq .z (.sq .z (.sq .z (.sq (.sq .z (.bl (.lp .z [(14, .sc (.int .i64))])) none) .z (some [])) (some [(13, .sc .bool)])) none) none) none) none)) wide_ok (OkTab.cons g_graph_New.ok (by kernel_rfl) (OkTab.cons g_ref13_New.ok (by kernel_rfl) (OkTab.cons g_law13_edges.ok (by kernel_rfl) (OkTab.nil _)))) (OkTabI.nil _) Try.func17 (fun vs h K hk => ?_) (fun vs h K K' hk => ?_)
  · unfold g_law13_both.c at hk
    split at hk
    · rename_i n_0 l_1_a l_1_n l_1_c
      exact ⟨_, hk, Nat.le_of_ble_eq_true rfl, g_law13_both.x n_0 (⟨l_1_a, l_1_n, l_1_c⟩ : Sl) h K⟩
    · exact hk.elim
  · unfold g_law13_both.c at hk ⊢
    split at hk
    · rename_i n_0 l_1_a l_1_n l_1_c
      exact ⟨_, id, g_law13_both.x n_0 (⟨l_1_a, l_1_n, l_1_c⟩ : Sl) h K'⟩
    · exact hk.elim

theorem g_ref13_Graph_valid.x (g_0 : Option Addr) (h : Hp) (K : Value → Hp → Prop) : (g_ref13_Graph_valid g_0 h (fun r0 h => K (.bool r0) h)) = xfnD Try.prog [] [] Try.f56 .z [.pointer g_0] h K := by kernel_rfl

theorem g_ref13_Graph_valid.ok : OkFn Try.prog 56 g_ref13_Graph_valid.c ∧ MonoC g_ref13_Graph_valid.c := by
  refine xfnD_okm (an := .z) wide_ok (OkTab.nil _) (OkTabI.nil _) Try.func56 (fun vs h K hk => ?_) (fun vs h K K' hk => ?_)
  · unfold g_ref13_Graph_valid.c at hk
    split at hk
    · rename_i g_0
      exact ⟨_, hk, Nat.le_of_ble_eq_true rfl, g_ref13_Graph_valid.x g_0 h K⟩
    · exact hk.elim
  · unfold g_ref13_Graph_valid.c at hk ⊢
    split at hk
    · rename_i g_0
      exact ⟨_, id, g_ref13_Graph_valid.x g_0 h K'⟩
    · exact hk.elim

theorem g_ref13_Graph_Has.x (g_0 : Option Addr) (v_1 : Int) (h : Hp) (K : Value → Hp → Prop) : (g_ref13_Graph_Has g_0 v_1 h (fun r0 h => K (.bool r0) h)) = xfnD Try.prog [(56, g_ref13_Graph_valid.c)] [] Try.f57 .z [.pointer g_0, .int .i64 v_1] h K := by kernel_rfl

theorem g_ref13_Graph_Has.ok : OkFn Try.prog 57 g_ref13_Graph_Has.c ∧ MonoC g_ref13_Graph_Has.c := by
  refine xfnD_okm (an := .z) wide_ok (OkTab.cons g_ref13_Graph_valid.ok (by kernel_rfl) (OkTab.nil _)) (OkTabI.nil _) Try.func57 (fun vs h K hk => ?_) (fun vs h K K' hk => ?_)
  · unfold g_ref13_Graph_Has.c at hk
    split at hk
    · rename_i g_0 v_1
      exact ⟨_, hk, Nat.le_of_ble_eq_true rfl, g_ref13_Graph_Has.x g_0 v_1 h K⟩
    · exact hk.elim
  · unfold g_ref13_Graph_Has.c at hk ⊢
    split at hk
    · rename_i g_0 v_1
      exact ⟨_, id, g_ref13_Graph_Has.x g_0 v_1 h K'⟩
    · exact hk.elim

theorem g_ref13_Graph_Around.x (x_0 : Option Addr) (x_1 : Int) (h : Hp) (K : Value → Hp → Prop) : (g_ref13_Graph_Around x_0 x_1 h (fun r0 h => K (.slice r0.a r0.n r0.c) h)) = xfnD Try.prog [(57, g_ref13_Graph_Has.c)] [] Try.f20 (.sq .z (.sq .z (.sq .z (.sq (.sq .z (.bl (.lp (.sq .z (.sq (.bl (.sq .z .z (some [(5, .sc .slice)]))) .z none) none) [(5, .sc .slice), (6, .sc (.int .i64))])) none) .z none) none) none) none) [.pointer x_0, .int .i64 x_1] h K := by kernel_rfl

theorem g_ref13_Graph_Around.ok : OkFn Try.prog 20 g_ref13_Graph_Around.c ∧ MonoC g_ref13_Graph_Around.c := by
  refine xfnD_okm (an := (.sq .z (.sq .z (.sq .z (.sq (.sq .z (.bl (.lp (.sq .z (.sq (.bl (.sq .z .z (some [(5, .sc .slice)]))) .z none) none) [(5, .sc .slice), (6, .sc (.int .i64))])) none) .z none) none) none) none)) wide_ok (OkTab.cons g_ref13_Graph_Has.ok (by kernel_rfl) (OkTab.nil _)) (OkTabI.nil _) Try.func20 (fun vs h K hk => ?_) (fun vs h K K' hk => ?_)
  · unfold g_ref13_Graph_Around.c at hk
    split at hk
    · rename_i x_0 x_1
      exact ⟨_, hk, Nat.le_of_ble_eq_true rfl, g_ref13_Graph_Around.x x_0 x_1 h K⟩
    · exact hk.elim
  · unfold g_ref13_Graph_Around.c at hk ⊢
    split at hk
    · rename_i x_0 x_1
      exact ⟨_, id, g_ref13_Graph_Around.x x_0 x_1 h K'⟩
    · exact hk.elim

theorem g_ref01_From.x (x_0 : Int) (h : Hp) (K : Value → Hp → Prop) : (g_ref01_From x_0 h (fun r0 r1 r2 r3 r4 r5 r6 h => K (.agg #[.bool r0, .int .u64 r1, .int .u64 r2, .int .u64 r3, .int .u64 r4, .int .u64 r5, .int .u64 r6]) h)) = xfnD Try.prog [] [] Try.f74 (.sq .z (.sq .z (.sq .z .z (some [(3, .sc (.int .u64))])) none) none) [.int .i64 x_0] h K := by kernel_rfl

theorem g_ref01_From.ok : OkFn Try.prog 74 g_ref01_From.c ∧ MonoC g_ref01_From.c := by
  refine xfnD_okm (an := (.sq .z (.sq .z (.sq .z .z (some [(3, .sc (.int .u64))])) none) none)) wide_ok (OkTab.nil _) (OkTabI.nil _) Try.func74 (fun vs h K hk => ?_) (fun vs h K K' hk => ?_)
  · unfold g_ref01_From.c at hk
    split at hk
    · rename_i x_0
      exact ⟨_, hk, Nat.le_of_ble_eq_true rfl, g_ref01_From.x x_0 h K⟩
    · exact hk.elim
  · unfold g_ref01_From.c at hk ⊢
    split at hk
    · rename_i x_0
      exact ⟨_, id, g_ref01_From.x x_0 h K'⟩
    · exact hk.elim

theorem g_ref01_more.x (a_0_0 : Int) (a_0_1 : Int) (a_0_2 : Int) (a_0_3 : Int) (a_0_4 : Int) (a_0_5 : Int) (b_1_0 : Int) (b_1_1 : Int) (b_1_2 : Int) (b_1_3 : Int) (b_1_4 : Int) (b_1_5 : Int) (h : Hp) (K : Value → Hp → Prop) : (g_ref01_more a_0_0 a_0_1 a_0_2 a_0_3 a_0_4 a_0_5 b_1_0 b_1_1 b_1_2 b_1_3 b_1_4 b_1_5 h (fun r0 r1 r2 r3 r4 r5 h => K (.agg #[.int .u64 r0, .int .u64 r1, .int .u64 r2, .int .u64 r3, .int .u64 r4, .int .u64 r5]) h)) = xfnD Try.prog [] [] Try.f87 (.sq .z (.sq .z (.sq .z (.sq (.sq .z (.bl (.lp .z [(6, .sc (.int .u64)), (7, .sc (.int .i64))])) none) .z none) none) none) none) [.agg #[.int .u64 a_0_0, .int .u64 a_0_1, .int .u64 a_0_2, .int .u64 a_0_3, .int .u64 a_0_4, .int .u64 a_0_5], .agg #[.int .u64 b_1_0, .int .u64 b_1_1, .int .u64 b_1_2, .int .u64 b_1_3, .int .u64 b_1_4, .int .u64 b_1_5]] h K := by kernel_rfl

theorem g_ref01_more.ok : OkFn Try.prog 87 g_ref01_more.c ∧ MonoC g_ref01_more.c := by
  refine xfnD_okm (an := (.sq .z (.sq .z (.sq .z (.sq (.sq .z (.bl (.lp .z [(6, .sc (.int .u64)), (7, .sc (.int .i64))])) none) .z none) none) none) none)) wide_ok (OkTab.nil _) (OkTabI.nil _) Try.func87 (fun vs h K hk => ?_) (fun vs h K K' hk => ?_)
  · unfold g_ref01_more.c at hk
    split at hk
    · rename_i a_0_0 a_0_1 a_0_2 a_0_3 a_0_4 a_0_5 b_1_0 b_1_1 b_1_2 b_1_3 b_1_4 b_1_5
      exact ⟨_, hk, Nat.le_of_ble_eq_true rfl, g_ref01_more.x a_0_0 a_0_1 a_0_2 a_0_3 a_0_4 a_0_5 b_1_0 b_1_1 b_1_2 b_1_3 b_1_4 b_1_5 h K⟩
    · exact hk.elim
  · unfold g_ref01_more.c at hk ⊢
    split at hk
    · rename_i a_0_0 a_0_1 a_0_2 a_0_3 a_0_4 a_0_5 b_1_0 b_1_1 b_1_2 b_1_3 b_1_4 b_1_5
      exact ⟨_, id, g_ref01_more.x a_0_0 a_0_1 a_0_2 a_0_3 a_0_4 a_0_5 b_1_0 b_1_1 b_1_2 b_1_3 b_1_4 b_1_5 h K'⟩
    · exact hk.elim

theorem g_ref01_size.x (a_0_0 : Int) (a_0_1 : Int) (a_0_2 : Int) (a_0_3 : Int) (a_0_4 : Int) (a_0_5 : Int) (b_1_0 : Int) (b_1_1 : Int) (b_1_2 : Int) (b_1_3 : Int) (b_1_4 : Int) (b_1_5 : Int) (h : Hp) (K : Value → Hp → Prop) : (g_ref01_size a_0_0 a_0_1 a_0_2 a_0_3 a_0_4 a_0_5 b_1_0 b_1_1 b_1_2 b_1_3 b_1_4 b_1_5 h (fun r0 h => K (.int .i64 r0) h)) = xfnD Try.prog [] [] Try.f88 (.sq .z (.sq (.sq .z (.bl (.lp .z [(5, .sc (.int .i64))])) none) .z none) none) [.agg #[.int .u64 a_0_0, .int .u64 a_0_1, .int .u64 a_0_2, .int .u64 a_0_3, .int .u64 a_0_4, .int .u64 a_0_5], .agg #[.int .u64 b_1_0, .int .u64 b_1_1, .int .u64 b_1_2, .int .u64 b_1_3, .int .u64 b_1_4, .int .u64 b_1_5]] h K := by kernel_rfl

theorem g_ref01_size.ok : OkFn Try.prog 88 g_ref01_size.c ∧ MonoC g_ref01_size.c := by
  refine xfnD_okm (an := (.sq .z (.sq (.sq .z (.bl (.lp .z [(5, .sc (.int .i64))])) none) .z none) none)) wide_ok (OkTab.nil _) (OkTabI.nil _) Try.func88 (fun vs h K hk => ?_) (fun vs h K K' hk => ?_)
  · unfold g_ref01_size.c at hk
    split at hk
    · rename_i a_0_0 a_0_1 a_0_2 a_0_3 a_0_4 a_0_5 b_1_0 b_1_1 b_1_2 b_1_3 b_1_4 b_1_5
      exact ⟨_, hk, Nat.le_of_ble_eq_true rfl, g_ref01_size.x a_0_0 a_0_1 a_0_2 a_0_3 a_0_4 a_0_5 b_1_0 b_1_1 b_1_2 b_1_3 b_1_4 b_1_5 h K⟩
    · exact hk.elim
  · unfold g_ref01_size.c at hk ⊢
    split at hk
    · rename_i a_0_0 a_0_1 a_0_2 a_0_3 a_0_4 a_0_5 b_1_0 b_1_1 b_1_2 b_1_3 b_1_4 b_1_5
      exact ⟨_, id, g_ref01_size.x a_0_0 a_0_1 a_0_2 a_0_3 a_0_4 a_0_5 b_1_0 b_1_1 b_1_2 b_1_3 b_1_4 b_1_5 h K'⟩
    · exact hk.elim

theorem g_ref01_less.x (a_0_0 : Int) (a_0_1 : Int) (a_0_2 : Int) (a_0_3 : Int) (a_0_4 : Int) (a_0_5 : Int) (b_1_0 : Int) (b_1_1 : Int) (b_1_2 : Int) (b_1_3 : Int) (b_1_4 : Int) (b_1_5 : Int) (h : Hp) (K : Value → Hp → Prop) : (g_ref01_less a_0_0 a_0_1 a_0_2 a_0_3 a_0_4 a_0_5 b_1_0 b_1_1 b_1_2 b_1_3 b_1_4 b_1_5 h (fun r0 r1 r2 r3 r4 r5 h => K (.agg #[.int .u64 r0, .int .u64 r1, .int .u64 r2, .int .u64 r3, .int .u64 r4, .int .u64 r5]) h)) = xfnD Try.prog [] [] Try.f89 (.sq .z (.sq .z (.sq .z (.sq (.sq .z (.bl (.lp .z [(6, .sc (.int .u64)), (7, .sc (.int .i64))])) none) .z none) none) none) none) [.agg #[.int .u64 a_0_0, .int .u64 a_0_1, .int .u64 a_0_2, .int .u64 a_0_3, .int .u64 a_0_4, .int .u64 a_0_5], .agg #[.int .u64 b_1_0, .int .u64 b_1_1, .int .u64 b_1_2, .int .u64 b_1_3, .int .u64 b_1_4, .int .u64 b_1_5]] h K := by kernel_rfl

theorem g_ref01_less.ok : OkFn Try.prog 89 g_ref01_less.c ∧ MonoC g_ref01_less.c := by
  refine xfnD_okm (an := (.sq .z (.sq .z (.sq .z (.sq (.sq .z (.bl (.lp .z [(6, .sc (.int .u64)), (7, .sc (.int .i64))])) none) .z none) none) none) none)) wide_ok (OkTab.nil _) (OkTabI.nil _) Try.func89 (fun vs h K hk => ?_) (fun vs h K K' hk => ?_)
  · unfold g_ref01_less.c at hk
    split at hk
    · rename_i a_0_0 a_0_1 a_0_2 a_0_3 a_0_4 a_0_5 b_1_0 b_1_1 b_1_2 b_1_3 b_1_4 b_1_5
      exact ⟨_, hk, Nat.le_of_ble_eq_true rfl, g_ref01_less.x a_0_0 a_0_1 a_0_2 a_0_3 a_0_4 a_0_5 b_1_0 b_1_1 b_1_2 b_1_3 b_1_4 b_1_5 h K⟩
    · exact hk.elim
  · unfold g_ref01_less.c at hk ⊢
    split at hk
    · rename_i a_0_0 a_0_1 a_0_2 a_0_3 a_0_4 a_0_5 b_1_0 b_1_1 b_1_2 b_1_3 b_1_4 b_1_5
      exact ⟨_, id, g_ref01_less.x a_0_0 a_0_1 a_0_2 a_0_3 a_0_4 a_0_5 b_1_0 b_1_1 b_1_2 b_1_3 b_1_4 b_1_5 h K'⟩
    · exact hk.elim

theorem g_ref01_Plus.x (a_0_0 : Bool) (a_0_1 : Int) (a_0_2 : Int) (a_0_3 : Int) (a_0_4 : Int) (a_0_5 : Int) (a_0_6 : Int) (b_1_0 : Bool) (b_1_1 : Int) (b_1_2 : Int) (b_1_3 : Int) (b_1_4 : Int) (b_1_5 : Int) (b_1_6 : Int) (h : Hp) (K : Value → Hp → Prop) : (g_ref01_Plus a_0_0 a_0_1 a_0_2 a_0_3 a_0_4 a_0_5 a_0_6 b_1_0 b_1_1 b_1_2 b_1_3 b_1_4 b_1_5 b_1_6 h (fun r0 r1 r2 r3 r4 r5 r6 h => K (.agg #[.bool r0, .int .u64 r1, .int .u64 r2, .int .u64 r3, .int .u64 r4, .int .u64 r5, .int .u64 r6]) h)) = xfnD Try.prog [(87, g_ref01_more.c), (88, g_ref01_size.c), (89, g_ref01_less.c)] [] Try.f73 .z [.agg #[.bool a_0_0, .int .u64 a_0_1, .int .u64 a_0_2, .int .u64 a_0_3, .int .u64 a_0_4, .int .u64 a_0_5, .int .u64 a_0_6], .agg #[.bool b_1_0, .int .u64 b_1_1, .int .u64 b_1_2, .int .u64 b_1_3, .int .u64 b_1_4, .int .u64 b_1_5, .int .u64 b_1_6]] h K := by kernel_rfl

theorem g_ref01_Plus.ok : OkFn Try.prog 73 g_ref01_Plus.c ∧ MonoC g_ref01_Plus.c := by
  refine xfnD_okm (an := .z) wide_ok (OkTab.cons g_ref01_more.ok (by kernel_rfl) (OkTab.cons g_ref01_size.ok (by kernel_rfl) (OkTab.cons g_ref01_less.ok (by kernel_rfl) (OkTab.nil _)))) (OkTabI.nil _) Try.func73 (fun vs h K hk => ?_) (fun vs h K K' hk => ?_)
  · unfold g_ref01_Plus.c at hk
    split at hk
    · rename_i a_0_0 a_0_1 a_0_2 a_0_3 a_0_4 a_0_5 a_0_6 b_1_0 b_1_1 b_1_2 b_1_3 b_1_4 b_1_5 b_1_6
      exact ⟨_, hk, Nat.le_of_ble_eq_true rfl, g_ref01_Plus.x a_0_0 a_0_1 a_0_2 a_0_3 a_0_4 a_0_5 a_0_6 b_1_0 b_1_1 b_1_2 b_1_3 b_1_4 b_1_5 b_1_6 h K⟩
    · exact hk.elim
  · unfold g_ref01_Plus.c at hk ⊢
    split at hk
    · rename_i a_0_0 a_0_1 a_0_2 a_0_3 a_0_4 a_0_5 a_0_6 b_1_0 b_1_1 b_1_2 b_1_3 b_1_4 b_1_5 b_1_6
      exact ⟨_, id, g_ref01_Plus.x a_0_0 a_0_1 a_0_2 a_0_3 a_0_4 a_0_5 a_0_6 b_1_0 b_1_1 b_1_2 b_1_3 b_1_4 b_1_5 b_1_6 h K'⟩
    · exact hk.elim

theorem g_ref01_Int.x (w_0_0 : Bool) (w_0_1 : Int) (w_0_2 : Int) (w_0_3 : Int) (w_0_4 : Int) (w_0_5 : Int) (w_0_6 : Int) (h : Hp) (K : Value → Hp → Prop) : (g_ref01_Int w_0_0 w_0_1 w_0_2 w_0_3 w_0_4 w_0_5 w_0_6 h (fun r0 r1 h => K (.tuple #[.int .i64 r0, .bool r1]) h)) = xfnD Try.prog [] [] Try.f90 .z [.agg #[.bool w_0_0, .int .u64 w_0_1, .int .u64 w_0_2, .int .u64 w_0_3, .int .u64 w_0_4, .int .u64 w_0_5, .int .u64 w_0_6]] h K := by kernel_rfl

theorem g_ref01_Int.ok : OkFn Try.prog 90 g_ref01_Int.c ∧ MonoC g_ref01_Int.c := by
  refine xfnD_okm (an := .z) wide_ok (OkTab.nil _) (OkTabI.nil _) Try.func90 (fun vs h K hk => ?_) (fun vs h K K' hk => ?_)
  · unfold g_ref01_Int.c at hk
    split at hk
    · rename_i w_0_0 w_0_1 w_0_2 w_0_3 w_0_4 w_0_5 w_0_6
      exact ⟨_, hk, Nat.le_of_ble_eq_true rfl, g_ref01_Int.x w_0_0 w_0_1 w_0_2 w_0_3 w_0_4 w_0_5 w_0_6 h K⟩
    · exact hk.elim
  · unfold g_ref01_Int.c at hk ⊢
    split at hk
    · rename_i w_0_0 w_0_1 w_0_2 w_0_3 w_0_4 w_0_5 w_0_6
      exact ⟨_, id, g_ref01_Int.x w_0_0 w_0_1 w_0_2 w_0_3 w_0_4 w_0_5 w_0_6 h K'⟩
    · exact hk.elim

theorem g_ref01_fit.x (w_0_0 : Bool) (w_0_1 : Int) (w_0_2 : Int) (w_0_3 : Int) (w_0_4 : Int) (w_0_5 : Int) (w_0_6 : Int) (h : Hp) (K : Value → Hp → Prop) : (g_ref01_fit w_0_0 w_0_1 w_0_2 w_0_3 w_0_4 w_0_5 w_0_6 h (fun r0 r1 h => K (.tuple #[.int .i64 r0, .int .i64 r1]) h)) = xfnD Try.prog [(90, g_ref01_Int.c)] [] Try.f75 .z [.agg #[.bool w_0_0, .int .u64 w_0_1, .int .u64 w_0_2, .int .u64 w_0_3, .int .u64 w_0_4, .int .u64 w_0_5, .int .u64 w_0_6]] h K := by kernel_rfl

theorem g_ref01_fit.ok : OkFn Try.prog 75 g_ref01_fit.c ∧ MonoC g_ref01_fit.c := by
  refine xfnD_okm (an := .z) wide_ok (OkTab.cons g_ref01_Int.ok (by kernel_rfl) (OkTab.nil _)) (OkTabI.nil _) Try.func75 (fun vs h K hk => ?_) (fun vs h K K' hk => ?_)
  · unfold g_ref01_fit.c at hk
    split at hk
    · rename_i w_0_0 w_0_1 w_0_2 w_0_3 w_0_4 w_0_5 w_0_6
      exact ⟨_, hk, Nat.le_of_ble_eq_true rfl, g_ref01_fit.x w_0_0 w_0_1 w_0_2 w_0_3 w_0_4 w_0_5 w_0_6 h K⟩
    · exact hk.elim
  · unfold g_ref01_fit.c at hk ⊢
    split at hk
    · rename_i w_0_0 w_0_1 w_0_2 w_0_3 w_0_4 w_0_5 w_0_6
      exact ⟨_, id, g_ref01_fit.x w_0_0 w_0_1 w_0_2 w_0_3 w_0_4 w_0_5 w_0_6 h K'⟩
    · exact hk.elim

theorem g_ref01_Sum.x (l_0 : Sl) (h : Hp) (K : Value → Hp → Prop) : (g_ref01_Sum l_0 h (fun r0 r1 h => K (.tuple #[.int .i64 r0, .int .i64 r1]) h)) = xfnD Try.prog [(75, g_ref01_fit.c), (74, g_ref01_From.c), (73, g_ref01_Plus.c)] [] Try.f58 (.sq .z (.sq .z (.sq (.sq .z (.bl (.lp .z [(5, .sc (.int .i64))])) none) .z (some [])) none) none) [.slice l_0.a l_0.n l_0.c] h K := by kernel_rfl

theorem g_ref01_Sum.ok : OkFn Try.prog 58 g_ref01_Sum.c ∧ MonoC g_ref01_Sum.c := by
  refine xfnD_okm (an := (.sq .z (.sq .z (.sq (.sq .z (.bl (.lp .z [(5, .sc (.int .i64))])) none) .z (some [])) none) none)) wide_ok (OkTab.cons g_ref01_fit.ok (by kernel_rfl) (OkTab.cons g_ref01_From.ok (by kernel_rfl) (OkTab.cons g_ref01_Plus.ok (by kernel_rfl) (OkTab.nil _)))) (OkTabI.nil _) Try.func58 (fun vs h K hk => ?_) (fun vs h K K' hk => ?_)
  · unfold g_ref01_Sum.c at hk
    split at hk
    · rename_i l_0_a l_0_n l_0_c
      exact ⟨_, hk, Nat.le_of_ble_eq_true rfl, g_ref01_Sum.x (⟨l_0_a, l_0_n, l_0_c⟩ : Sl) h K⟩
    · exact hk.elim
  · unfold g_ref01_Sum.c at hk ⊢
    split at hk
    · rename_i l_0_a l_0_n l_0_c
      exact ⟨_, id, g_ref01_Sum.x (⟨l_0_a, l_0_n, l_0_c⟩ : Sl) h K'⟩
    · exact hk.elim

theorem g_ref13_Graph_Strength.x (g_0 : Option Addr) (v_1 : Int) (h : Hp) (K : Value → Hp → Prop) : (g_ref13_Graph_Strength g_0 v_1 h (fun r0 r1 h => K (.tuple #[.int .i64 r0, .int .i64 r1]) h)) = xfnD Try.prog [(56, g_ref13_Graph_valid.c), (57, g_ref13_Graph_Has.c), (20, g_ref13_Graph_Around.c), (58, g_ref01_Sum.c)] [] Try.f19 (.sq .z (.sq .z (.sq .z (.sq .z (.sq .z (.sq (.sq .z (.bl (.lp .z [(7, .sc .slice), (8, .sc (.int .i64))])) none) .z (some [(7, .sc .slice)])) none) none) none) none) none) [.pointer g_0, .int .i64 v_1] h K := by kernel_rfl

theorem g_ref13_Graph_Strength.ok : OkFn Try.prog 19 g_ref13_Graph_Strength.c ∧ MonoC g_ref13_Graph_Strength.c := by
  refine xfnD_okm (an := (.sq .z (.sq .z (.sq .z (.sq .z (.sq .z (.sq (.sq .z (.bl (.lp .z [(7, .sc .slice), (8, .sc (.int .i64))])) none) .z (some [(7, .sc .slice)])) none) none) none) none) none)) wide_ok (OkTab.cons g_ref13_Graph_valid.ok (by kernel_rfl) (OkTab.cons g_ref13_Graph_Has.ok (by kernel_rfl) (OkTab.cons g_ref13_Graph_Around.ok (by kernel_rfl) (OkTab.cons g_ref01_Sum.ok (by kernel_rfl) (OkTab.nil _))))) (OkTabI.nil _) Try.func19 (fun vs h K hk => ?_) (fun vs h K K' hk => ?_)
  · unfold g_ref13_Graph_Strength.c at hk
    split at hk
    · rename_i g_0 v_1
      exact ⟨_, hk, Nat.le_of_ble_eq_true rfl, g_ref13_Graph_Strength.x g_0 v_1 h K⟩
    · exact hk.elim
  · unfold g_ref13_Graph_Strength.c at hk ⊢
    split at hk
    · rename_i g_0 v_1
      exact ⟨_, id, g_ref13_Graph_Strength.x g_0 v_1 h K'⟩
    · exact hk.elim

theorem g_ref13_Graph_Degree.x (g_0 : Option Addr) (v_1 : Int) (h : Hp) (K : Value → Hp → Prop) : (g_ref13_Graph_Degree g_0 v_1 h (fun r0 h => K (.int .i64 r0) h)) = xfnD Try.prog [(20, g_ref13_Graph_Around.c)] [] Try.f22 .z [.pointer g_0, .int .i64 v_1] h K := by kernel_rfl

theorem g_ref13_Graph_Degree.ok : OkFn Try.prog 22 g_ref13_Graph_Degree.c ∧ MonoC g_ref13_Graph_Degree.c := by
  refine xfnD_okm (an := .z) wide_ok (OkTab.cons g_ref13_Graph_Around.ok (by kernel_rfl) (OkTab.nil _)) (OkTabI.nil _) Try.func22 (fun vs h K hk => ?_) (fun vs h K K' hk => ?_)
  · unfold g_ref13_Graph_Degree.c at hk
    split at hk
    · rename_i g_0 v_1
      exact ⟨_, hk, Nat.le_of_ble_eq_true rfl, g_ref13_Graph_Degree.x g_0 v_1 h K⟩
    · exact hk.elim
  · unfold g_ref13_Graph_Degree.c at hk ⊢
    split at hk
    · rename_i g_0 v_1
      exact ⟨_, id, g_ref13_Graph_Degree.x g_0 v_1 h K'⟩
    · exact hk.elim

theorem g_law13_GraphSurrounds.x (x_0 : Int) (x_1 : Sl) (x_2 : Int) (x_3 : Int) (h : Hp) (K : Value → Hp → Prop) : (g_law13_GraphSurrounds x_0 x_1 x_2 x_3 h (fun r0 h => K (.bool r0) h)) = xfnD Try.prog [(15, g_law13_Small.c), (16, g_law13_works.c), (17, g_law13_both.c), (18, g_graph_Graph_Strength.c), (19, g_ref13_Graph_Strength.c), (20, g_ref13_Graph_Around.c), (21, g_graph_Graph_Degree.c), (22, g_ref13_Graph_Degree.c), (24, g_law13_around.c), (23, g_law13_pairs.c)] [] Try.f3 (.sq .z (.sq .z (.sq .z (.sq .z (.sq .z (.sq .z (.sq .z (.sq .z (.sq .z .z (some [(17, .sc .slice)])) none) none) none) none) none) none) none) none) [.int .i64 x_0, .slice x_1.a x_1.n x_1.c, .int .i64 x_2, .int .u8 x_3] h K := by kernel_rfl

theorem g_law13_GraphSurrounds.ok : OkFn Try.prog 3 g_law13_GraphSurrounds.c ∧ MonoC g_law13_GraphSurrounds.c := by
  refine xfnD_okm (an := (.sq .z (.sq .z (.sq .z (.sq .z (.sq .z (.sq .z (.sq .z (.sq .z (.sq .z .z (some [(17, .sc .slice)])) none) none) none) none) none) none) none) none)) wide_ok (OkTab.cons g_law13_Small.ok (by kernel_rfl) (OkTab.cons g_law13_works.ok (by kernel_rfl) (OkTab.cons g_law13_both.ok (by kernel_rfl) (OkTab.cons g_graph_Graph_Strength.ok (by kernel_rfl) (OkTab.cons g_ref13_Graph_Strength.ok (by kernel_rfl) (OkTab.cons g_ref13_Graph_Around.ok (by kernel_rfl) (OkTab.cons g_graph_Graph_Degree.ok (by kernel_rfl) (OkTab.cons g_ref13_Graph_Degree.ok (by kernel_rfl) (OkTab.cons g_law13_around.ok (by kernel_rfl) (OkTab.cons g_law13_pairs.ok (by kernel_rfl) (OkTab.nil _))))))))))) (OkTabI.nil _) Try.func3 (fun vs h K hk => ?_) (fun vs h K K' hk => ?_)
  · unfold g_law13_GraphSurrounds.c at hk
    split at hk
    · rename_i x_0 x_1_a x_1_n x_1_c x_2 x_3
      exact ⟨_, hk, Nat.le_of_ble_eq_true rfl, g_law13_GraphSurrounds.x x_0 (⟨x_1_a, x_1_n, x_1_c⟩ : Sl) x_2 x_3 h K⟩
    · exact hk.elim
  · unfold g_law13_GraphSurrounds.c at hk ⊢
    split at hk
    · rename_i x_0 x_1_a x_1_n x_1_c x_2 x_3
      exact ⟨_, id, g_law13_GraphSurrounds.x x_0 (⟨x_1_a, x_1_n, x_1_c⟩ : Sl) x_2 x_3 h K'⟩
    · exact hk.elim

theorem g_ref13_Graph_Dist.x (x_0 : Option Addr) (x_1 : Int) (h : Hp) (K : Value → Hp → Prop) : (g_ref13_Graph_Dist x_0 x_1 h (fun r0 h => K (.slice r0.a r0.n r0.c) h)) = xfnD Try.prog [(57, g_ref13_Graph_Has.c)] [] Try.f27 (.sq .z (.sq .z (.sq .z (.sq (.sq .z (.bl (.lp .z [(5, .sc .slice), (6, .sc (.int .i64))])) none) (.sq .z (.sq (.sq .z (.bl (.lp (.sq .z (.sq (.bl (.sq .z (.bl (.lp (.sq .z (.sq (.bl (.sq .z (.sq .z .z (some [])) none)) .z none) none) [(8, .sc (.int .i64))])) none)) .z none) none) [(7, .sc (.int .i64))])) none) .z none) none) (some [(5, .sc .slice)])) none) none) none) [.pointer x_0, .int .i64 x_1] h K := by kernel_rfl

theorem g_ref13_Graph_Dist.ok : OkFn Try.prog 27 g_ref13_Graph_Dist.c ∧ MonoC g_ref13_Graph_Dist.c := by
  refine xfnD_okm (an := (.sq .z (.sq .z (.sq .z (.sq (.sq .z (.bl (.lp .z [(5, .sc .slice), (6, .sc (.int .i64))])) none) (.sq .z (.sq (.sq .z (.bl (.lp (.sq .z (.sq (.bl (.sq .z (.bl (.lp (.sq .z (.sq (.bl (.sq .z (.sq .z .z (some [])) none)) .z none) none) [(8, .sc (.int .i64))])) none)) .z none) none) [(7, .sc (.int .i64))])) none) .z none) none) (some [(5, .sc .slice)])) none) none) none)) wide_ok (OkTab.cons g_ref13_Graph_Has.ok (by kernel_rfl) (OkTab.nil _)) (OkTabI.nil _) Try.func27 (fun vs h K hk => ?_) (fun vs h K K' hk => ?_)
  · unfold g_ref13_Graph_Dist.c at hk
    split at hk
    · rename_i x_0 x_1
      exact ⟨_, hk, Nat.le_of_ble_eq_true rfl, g_ref13_Graph_Dist.x x_0 x_1 h K⟩
    · exact hk.elim
  · unfold g_ref13_Graph_Dist.c at hk ⊢
    split at hk
    · rename_i x_0 x_1
      exact ⟨_, id, g_ref13_Graph_Dist.x x_0 x_1 h K'⟩
    · exact hk.elim

theorem g_law13_GraphMeasures.x (n_0 : Int) (l_1 : Sl) (v_2 : Int) (h : Hp) (K : Value → Hp → Prop) : (g_law13_GraphMeasures n_0 l_1 v_2 h (fun r0 h => K (.bool r0) h)) = xfnD Try.prog [(15, g_law13_Small.c), (16, g_law13_works.c), (17, g_law13_both.c), (26, g_graph_Graph_Dist.c), (27, g_ref13_Graph_Dist.c), (25, g_law13_numbers.c)] [] Try.f4 .z [.int .i64 n_0, .slice l_1.a l_1.n l_1.c, .int .i64 v_2] h K := by kernel_rfl

theorem g_law13_GraphMeasures.ok : OkFn Try.prog 4 g_law13_GraphMeasures.c ∧ MonoC g_law13_GraphMeasures.c := by
  refine xfnD_okm (an := .z) wide_ok (OkTab.cons g_law13_Small.ok (by kernel_rfl) (OkTab.cons g_law13_works.ok (by kernel_rfl) (OkTab.cons g_law13_both.ok (by kernel_rfl) (OkTab.cons g_graph_Graph_Dist.ok (by kernel_rfl) (OkTab.cons g_ref13_Graph_Dist.ok (by kernel_rfl) (OkTab.cons g_law13_numbers.ok (by kernel_rfl) (OkTab.nil _))))))) (OkTabI.nil _) Try.func4 (fun vs h K hk => ?_) (fun vs h K K' hk => ?_)
  · unfold g_law13_GraphMeasures.c at hk
    split at hk
    · rename_i n_0 l_1_a l_1_n l_1_c v_2
      exact ⟨_, hk, Nat.le_of_ble_eq_true rfl, g_law13_GraphMeasures.x n_0 (⟨l_1_a, l_1_n, l_1_c⟩ : Sl) v_2 h K⟩
    · exact hk.elim
  · unfold g_law13_GraphMeasures.c at hk ⊢
    split at hk
    · rename_i n_0 l_1_a l_1_n l_1_c v_2
      exact ⟨_, id, g_law13_GraphMeasures.x n_0 (⟨l_1_a, l_1_n, l_1_c⟩ : Sl) v_2 h K'⟩
    · exact hk.elim

theorem g_law13_Built.x (n_0 : Int) (l_1 : Sl) (h : Hp) (K : Value → Hp → Prop) : (g_law13_Built n_0 l_1 h (fun r0 h => K (.slice r0.a r0.n r0.c) h)) = xfnD Try.prog [] [] Try.f36 (.sq .z (.sq .z (.sq (.sq .z (.bl (.lp .z [(5, .sc .slice), (6, .sc (.int .i64))])) none) .z none) none) none) [.int .i64 n_0, .slice l_1.a l_1.n l_1.c] h K := by kernel_rfl

theorem g_law13_Built.ok : OkFn Try.prog 36 g_law13_Built.c ∧ MonoC g_law13_Built.c := by
  refine xfnD_okm (an := (.sq .z (.sq .z (.sq (.sq .z (.bl (.lp .z [(5, .sc .slice), (6, .sc (.int .i64))])) none) .z none) none) none)) wide_ok (OkTab.nil _) (OkTabI.nil _) Try.func36 (fun vs h K hk => ?_) (fun vs h K K' hk => ?_)
  · unfold g_law13_Built.c at hk
    split at hk
    · rename_i n_0 l_1_a l_1_n l_1_c
      exact ⟨_, hk, Nat.le_of_ble_eq_true rfl, g_law13_Built.x n_0 (⟨l_1_a, l_1_n, l_1_c⟩ : Sl) h K⟩
    · exact hk.elim
  · unfold g_law13_Built.c at hk ⊢
    split at hk
    · rename_i n_0 l_1_a l_1_n l_1_c
      exact ⟨_, id, g_law13_Built.x n_0 (⟨l_1_a, l_1_n, l_1_c⟩ : Sl) h K'⟩
    · exact hk.elim

theorem g_law13_made.x (l_0 : Sl) (h : Hp) (K : Value → Hp → Prop) : (g_law13_made l_0 h (fun r0 h => K (.pointer r0) h)) = xfnD Try.prog [(36, g_law13_Built.c), (43, g_graph_New.c)] [] Try.f28 .z [.slice l_0.a l_0.n l_0.c] h K := by kernel_rfl

theorem g_law13_made.ok : OkFn Try.prog 28 g_law13_made.c ∧ MonoC g_law13_made.c := by
  refine xfnD_okm (an := .z) wide_ok (OkTab.cons g_law13_Built.ok (by kernel_rfl) (OkTab.cons g_graph_New.ok (by kernel_rfl) (OkTab.nil _))) (OkTabI.nil _) Try.func28 (fun vs h K hk => ?_) (fun vs h K K' hk => ?_)
  · unfold g_law13_made.c at hk
    split at hk
    · rename_i l_0_a l_0_n l_0_c
      exact ⟨_, hk, Nat.le_of_ble_eq_true rfl, g_law13_made.x (⟨l_0_a, l_0_n, l_0_c⟩ : Sl) h K⟩
    · exact hk.elim
  · unfold g_law13_made.c at hk ⊢
    split at hk
    · rename_i l_0_a l_0_n l_0_c
      exact ⟨_, id, g_law13_made.x (⟨l_0_a, l_0_n, l_0_c⟩ : Sl) h K'⟩
    · exact hk.elim

theorem g_law13_GraphSteps.x (x_0 : Sl) (x_1 : Int) (h : Hp) (K : Value → Hp → Prop) : (g_law13_GraphSteps x_0 x_1 h (fun r0 h => K (.bool r0) h)) = xfnD Try.prog [(16, g_law13_works.c), (28, g_law13_made.c), (26, g_graph_Graph_Dist.c), (29, g_graph_Graph_Around.c)] [(60, g_graph_Graph_Around_f1.c)] Try.f5 (.sq .z (.sq .z (.sq .z (.sq .z (.sq .z (.sq .z (.sq (.sq .z (.bl (.lp (.sq .z (.sq (.bl (.sq .z (.sq (.sq .z (.bl (.sq .z .z (some [(48, .sc (.int .i64)), (49, .sc (.int .i64))]))) none) .z none) none)) .z none) none) [(7, .sc .adr)])) none) .z none) none) none) none) none) none) none) [.slice x_0.a x_0.n x_0.c, .int .u8 x_1] h K := by kernel_rfl

theorem g_law13_GraphSteps.ok : OkFn Try.prog 5 g_law13_GraphSteps.c ∧ MonoC g_law13_GraphSteps.c := by
  refine xfnD_okm (an := (.sq .z (.sq .z (.sq .z (.sq .z (.sq .z (.sq .z (.sq (.sq .z (.bl (.lp (.sq .z (.sq (.bl (.sq .z (.sq (.sq .z (.bl (.sq .z .z (some [(48, .sc (.int .i64)), (49, .sc (.int .i64))]))) none) .z none) none)) .z none) none) [(7, .sc .adr)])) none) .z none) none) none) none) none) none) none)) wide_ok (OkTab.cons g_law13_works.ok (by kernel_rfl) (OkTab.cons g_law13_made.ok (by kernel_rfl) (OkTab.cons g_graph_Graph_Dist.ok (by kernel_rfl) (OkTab.cons g_graph_Graph_Around.ok (by kernel_rfl) (OkTab.nil _))))) (OkTabI.cons g_graph_Graph_Around_f1.ok (OkTabI.nil _)) Try.func5 (fun vs h K hk => ?_) (fun vs h K K' hk => ?_)
  · unfold g_law13_GraphSteps.c at hk
    split at hk
    · rename_i x_0_a x_0_n x_0_c x_1
      exact ⟨_, hk, Nat.le_of_ble_eq_true rfl, g_law13_GraphSteps.x (⟨x_0_a, x_0_n, x_0_c⟩ : Sl) x_1 h K⟩
    · exact hk.elim
  · unfold g_law13_GraphSteps.c at hk ⊢
    split at hk
    · rename_i x_0_a x_0_n x_0_c x_1
      exact ⟨_, id, g_law13_GraphSteps.x (⟨x_0_a, x_0_n, x_0_c⟩ : Sl) x_1 h K'⟩
    · exact hk.elim

theorem g_graph_Graph_Labels.x (g_0 : Option Addr) (h : Hp) (K : Value → Hp → Prop) : (g_graph_Graph_Labels g_0 h (fun r0 h => K (.slice r0.a r0.n r0.c) h)) = xfnD Try.prog [(61, g_graph_Graph_sets.c), (62, g_dsu_Sets_Labels.c)] [] Try.f30 .z [.pointer g_0] h K := by kernel_rfl

theorem g_graph_Graph_Labels.ok : OkFn Try.prog 30 g_graph_Graph_Labels.c ∧ MonoC g_graph_Graph_Labels.c := by
  refine xfnD_okm (an := .z) wide_ok (OkTab.cons g_graph_Graph_sets.ok (by kernel_rfl) (OkTab.cons g_dsu_Sets_Labels.ok (by kernel_rfl) (OkTab.nil _))) (OkTabI.nil _) Try.func30 (fun vs h K hk => ?_) (fun vs h K K' hk => ?_)
  · unfold g_graph_Graph_Labels.c at hk
    split at hk
    · rename_i g_0
      exact ⟨_, hk, Nat.le_of_ble_eq_true rfl, g_graph_Graph_Labels.x g_0 h K⟩
    · exact hk.elim
  · unfold g_graph_Graph_Labels.c at hk ⊢
    split at hk
    · rename_i g_0
      exact ⟨_, id, g_graph_Graph_Labels.x g_0 h K'⟩
    · exact hk.elim

theorem g_ref13_Graph_Labels.x (x_0 : Option Addr) (h : Hp) (K : Value → Hp → Prop) : (g_ref13_Graph_Labels x_0 h (fun r0 h => K (.slice r0.a r0.n r0.c) h)) = xfnD Try.prog [(56, g_ref13_Graph_valid.c)] [] Try.f31 (.sq .z (.sq .z (.sq .z (.sq (.sq .z (.bl (.lp .z [(3, .sc .slice), (4, .sc (.int .i64))])) none) (.sq (.sq .z (.bl (.lp (.sq .z (.bl (.sq .z (.sq .z (.bl (.lp (.sq .z (.sq (.bl (.sq .z (.sq .z .z (some [(5, .sc .bool)])) none)) .z none) none) [(5, .sc .bool), (6, .sc (.int .i64))])) none) none)) none) [(5, .sc .bool)])) none) .z none) (some [(3, .sc .slice)])) none) none) none) [.pointer x_0] h K := by kernel_rfl

theorem g_ref13_Graph_Labels.ok : OkFn Try.prog 31 g_ref13_Graph_Labels.c ∧ MonoC g_ref13_Graph_Labels.c := by
  refine xfnD_okm (an := (.sq .z (.sq .z (.sq .z (.sq (.sq .z (.bl (.lp .z [(3, .sc .slice), (4, .sc (.int .i64))])) none) (.sq (.sq .z (.bl (.lp (.sq .z (.bl (.sq .z (.sq .z (.bl (.lp (.sq .z (.sq (.bl (.sq .z (.sq .z .z (some [(5, .sc .bool)])) none)) .z none) none) [(5, .sc .bool), (6, .sc (.int .i64))])) none) none)) none) [(5, .sc .bool)])) none) .z none) (some [(3, .sc .slice)])) none) none) none)) wide_ok (OkTab.cons g_ref13_Graph_valid.ok (by kernel_rfl) (OkTab.nil _)) (OkTabI.nil _) Try.func31 (fun vs h K hk => ?_) (fun vs h K K' hk => ?_)
  · unfold g_ref13_Graph_Labels.c at hk
    split at hk
    · rename_i x_0
      exact ⟨_, hk, Nat.le_of_ble_eq_true rfl, g_ref13_Graph_Labels.x x_0 h K⟩
    · exact hk.elim
  · unfold g_ref13_Graph_Labels.c at hk ⊢
    split at hk
    · rename_i x_0
      exact ⟨_, id, g_ref13_Graph_Labels.x x_0 h K'⟩
    · exact hk.elim

theorem g_ref13_Graph_Components.x (g_0 : Option Addr) (h : Hp) (K : Value → Hp → Prop) : (g_ref13_Graph_Components g_0 h (fun r0 h => K (.slice r0.a r0.n r0.c) h)) = xfnD Try.prog [(31, g_ref13_Graph_Labels.c)] [] Try.f35 (.sq .z (.sq .z (.sq .z (.sq (.sq .z (.bl (.lp (.sq .z (.sq (.bl (.sq .z (.sq .z (.sq (.sq .z (.bl (.lp .z [(6, .sc .slice), (7, .sc (.int .i64))])) none) .z (some [(6, .sc .slice)])) none) none)) .z none) none) [(4, .sc .slice), (5, .sc (.int .i64))])) none) .z none) none) none) none) [.pointer g_0] h K := by kernel_rfl

theorem g_ref13_Graph_Components.ok : OkFn Try.prog 35 g_ref13_Graph_Components.c ∧ MonoC g_ref13_Graph_Components.c := by
  refine xfnD_okm (an := (.sq .z (.sq .z (.sq .z (.sq (.sq .z (.bl (.lp (.sq .z (.sq (.bl (.sq .z (.sq .z (.sq (.sq .z (.bl (.lp .z [(6, .sc .slice), (7, .sc (.int .i64))])) none) .z (some [(6, .sc .slice)])) none) none)) .z none) none) [(4, .sc .slice), (5, .sc (.int .i64))])) none) .z none) none) none) none)) wide_ok (OkTab.cons g_ref13_Graph_Labels.ok (by kernel_rfl) (OkTab.nil _)) (OkTabI.nil _) Try.func35 (fun vs h K hk => ?_) (fun vs h K K' hk => ?_)
  · unfold g_ref13_Graph_Components.c at hk
    split at hk
    · rename_i g_0
      exact ⟨_, hk, Nat.le_of_ble_eq_true rfl, g_ref13_Graph_Components.x g_0 h K⟩
    · exact hk.elim
  · unfold g_ref13_Graph_Components.c at hk ⊢
    split at hk
    · rename_i g_0
      exact ⟨_, id, g_ref13_Graph_Components.x g_0 h K'⟩
    · exact hk.elim

theorem g_ref13_Graph_Row.x (g_0 : Option Addr) (h : Hp) (K : Value → Hp → Prop) : (g_ref13_Graph_Row g_0 h (fun r0 r1 r2 h => K (.agg #[.int .i64 r0, .int .i64 r1, .int .i64 r2]) h)) = xfnD Try.prog [(35, g_ref13_Graph_Components.c)] [] Try.f33 (.sq .z (.sq .z (.sq .z (.sq (.sq .z (.bl (.lp .z [(5, .sc (.int .i64))])) none) .z none) none) none) none) [.pointer g_0] h K := by kernel_rfl

theorem g_ref13_Graph_Row.ok : OkFn Try.prog 33 g_ref13_Graph_Row.c ∧ MonoC g_ref13_Graph_Row.c := by
  refine xfnD_okm (an := (.sq .z (.sq .z (.sq .z (.sq (.sq .z (.bl (.lp .z [(5, .sc (.int .i64))])) none) .z none) none) none) none)) wide_ok (OkTab.cons g_ref13_Graph_Components.ok (by kernel_rfl) (OkTab.nil _)) (OkTabI.nil _) Try.func33 (fun vs h K hk => ?_) (fun vs h K K' hk => ?_)
  · unfold g_ref13_Graph_Row.c at hk
    split at hk
    · rename_i g_0
      exact ⟨_, hk, Nat.le_of_ble_eq_true rfl, g_ref13_Graph_Row.x g_0 h K⟩
    · exact hk.elim
  · unfold g_ref13_Graph_Row.c at hk ⊢
    split at hk
    · rename_i g_0
      exact ⟨_, id, g_ref13_Graph_Row.x g_0 h K'⟩
    · exact hk.elim

theorem g_law13_GraphParts.x (x_0 : Int) (x_1 : Sl) (h : Hp) (K : Value → Hp → Prop) : (g_law13_GraphParts x_0 x_1 h (fun r0 h => K (.bool r0) h)) = xfnD Try.prog [(15, g_law13_Small.c), (16, g_law13_works.c), (17, g_law13_both.c), (30, g_graph_Graph_Labels.c), (31, g_ref13_Graph_Labels.c), (25, g_law13_numbers.c), (32, g_graph_Graph_Row.c), (33, g_ref13_Graph_Row.c), (34, g_graph_Graph_Components.c), (35, g_ref13_Graph_Components.c)] [] Try.f6 (.sq .z (.sq .z (.sq .z (.sq .z (.sq .z (.sq .z (.sq (.sq .z (.bl (.lp .z [(11, .sc (.int .i64))])) none) .z none) none) none) none) none) none) none) [.int .i64 x_0, .slice x_1.a x_1.n x_1.c] h K := by kernel_rfl

theorem g_law13_GraphParts.ok : OkFn Try.prog 6 g_law13_GraphParts.c ∧ MonoC g_law13_GraphParts.c := by
  refine xfnD_okm (an := (.sq .z (.sq .z (.sq .z (.sq .z (.sq .z (.sq .z (.sq (.sq .z (.bl (.lp .z [(11, .sc (.int .i64))])) none) .z none) none) none) none) none) none) none)) wide_ok (OkTab.cons g_law13_Small.ok (by kernel_rfl) (OkTab.cons g_law13_works.ok (by kernel_rfl) (OkTab.cons g_law13_both.ok (by kernel_rfl) (OkTab.cons g_graph_Graph_Labels.ok (by kernel_rfl) (OkTab.cons g_ref13_Graph_Labels.ok (by kernel_rfl) (OkTab.cons g_law13_numbers.ok (by kernel_rfl) (OkTab.cons g_graph_Graph_Row.ok (by kernel_rfl) (OkTab.cons g_ref13_Graph_Row.ok (by kernel_rfl) (OkTab.cons g_graph_Graph_Components.ok (by kernel_rfl) (OkTab.cons g_ref13_Graph_Components.ok (by kernel_rfl) (OkTab.nil _))))))))))) (OkTabI.nil _) Try.func6 (fun vs h K hk => ?_) (fun vs h K K' hk => ?_)
  · unfold g_law13_GraphParts.c at hk
    split at hk
    · rename_i x_0 x_1_a x_1_n x_1_c
      exact ⟨_, hk, Nat.le_of_ble_eq_true rfl, g_law13_GraphParts.x x_0 (⟨x_1_a, x_1_n, x_1_c⟩ : Sl) h K⟩
    · exact hk.elim
  · unfold g_law13_GraphParts.c at hk ⊢
    split at hk
    · rename_i x_0 x_1_a x_1_n x_1_c
      exact ⟨_, id, g_law13_GraphParts.x x_0 (⟨x_1_a, x_1_n, x_1_c⟩ : Sl) h K'⟩
    · exact hk.elim

theorem g_law13_GraphConnects.x (x_0 : Sl) (x_1 : Int) (x_2 : Int) (h : Hp) (K : Value → Hp → Prop) : (g_law13_GraphConnects x_0 x_1 x_2 h (fun r0 h => K (.bool r0) h)) = xfnD Try.prog [(16, g_law13_works.c), (28, g_law13_made.c), (30, g_graph_Graph_Labels.c), (36, g_law13_Built.c), (26, g_graph_Graph_Dist.c)] [] Try.f7 (.sq .z (.sq .z (.sq .z (.sq .z (.sq .z (.sq .z (.sq .z (.sq (.sq .z (.bl (.lp .z [(11, .sc (.int .i64))])) none) (.sq (.sq .z (.bl (.lp .z [(12, .sc (.int .i64))])) none) .z (some [])) (some [])) none) none) none) none) none) none) none) [.slice x_0.a x_0.n x_0.c, .int .u8 x_1, .int .u8 x_2] h K := by kernel_rfl

theorem g_law13_GraphConnects.ok : OkFn Try.prog 7 g_law13_GraphConnects.c ∧ MonoC g_law13_GraphConnects.c := by
  refine xfnD_okm (an := (.sq .z (.sq .z (.sq .z (.sq .z (.sq .z (.sq .z (.sq .z (.sq (.sq .z (.bl (.lp .z [(11, .sc (.int .i64))])) none) (.sq (.sq .z (.bl (.lp .z [(12, .sc (.int .i64))])) none) .z (some [])) (some [])) none) none) none) none) none) none) none)) wide_ok (OkTab.cons g_law13_works.ok (by kernel_rfl) (OkTab.cons g_law13_made.ok (by kernel_rfl) (OkTab.cons g_graph_Graph_Labels.ok (by kernel_rfl) (OkTab.cons g_law13_Built.ok (by kernel_rfl) (OkTab.cons g_graph_Graph_Dist.ok (by kernel_rfl) (OkTab.nil _)))))) (OkTabI.nil _) Try.func7 (fun vs h K hk => ?_) (fun vs h K K' hk => ?_)
  · unfold g_law13_GraphConnects.c at hk
    split at hk
    · rename_i x_0_a x_0_n x_0_c x_1 x_2
      exact ⟨_, hk, Nat.le_of_ble_eq_true rfl, g_law13_GraphConnects.x (⟨x_0_a, x_0_n, x_0_c⟩ : Sl) x_1 x_2 h K⟩
    · exact hk.elim
  · unfold g_law13_GraphConnects.c at hk ⊢
    split at hk
    · rename_i x_0_a x_0_n x_0_c x_1 x_2
      exact ⟨_, id, g_law13_GraphConnects.x (⟨x_0_a, x_0_n, x_0_c⟩ : Sl) x_1 x_2 h K'⟩
    · exact hk.elim

theorem g_graph_Graph_Edges.x (g_0 : Option Addr) (h : Hp) (K : Value → Hp → Prop) : (g_graph_Graph_Edges g_0 h (fun r0 h => K (.slice r0.a r0.n r0.c) h)) = xfnD Try.prog [(54, g_graph_Graph_valid.c), (64, g_slices_Clone_api_Edge.c)] [] Try.f37 .z [.pointer g_0] h K := by kernel_rfl

theorem g_graph_Graph_Edges.ok : OkFn Try.prog 37 g_graph_Graph_Edges.c ∧ MonoC g_graph_Graph_Edges.c := by
  refine xfnD_okm (an := .z) wide_ok (OkTab.cons g_graph_Graph_valid.ok (by kernel_rfl) (OkTab.cons g_slices_Clone_api_Edge.ok (by kernel_rfl) (OkTab.nil _))) (OkTabI.nil _) Try.func37 (fun vs h K hk => ?_) (fun vs h K K' hk => ?_)
  · unfold g_graph_Graph_Edges.c at hk
    split at hk
    · rename_i g_0
      exact ⟨_, hk, Nat.le_of_ble_eq_true rfl, g_graph_Graph_Edges.x g_0 h K⟩
    · exact hk.elim
  · unfold g_graph_Graph_Edges.c at hk ⊢
    split at hk
    · rename_i g_0
      exact ⟨_, id, g_graph_Graph_Edges.x g_0 h K'⟩
    · exact hk.elim

theorem g_law13_GraphHands.x (x_0 : Sl) (h : Hp) (K : Value → Hp → Prop) : (g_law13_GraphHands x_0 h (fun r0 h => K (.bool r0) h)) = xfnD Try.prog [(16, g_law13_works.c), (28, g_law13_made.c), (37, g_graph_Graph_Edges.c), (21, g_graph_Graph_Degree.c), (29, g_graph_Graph_Around.c)] [(60, g_graph_Graph_Around_f1.c)] Try.f8 (.sq .z (.sq .z (.sq .z (.sq .z (.sq .z (.sq .z (.sq .z (.sq (.sq .z (.bl (.lp (.sq .z (.sq (.bl (.sq .z (.sq .z (.sq .z (.bl (.sq .z .z (some [(37, .sc (.int .i64)), (38, .sc (.int .i64))]))) none) none) none)) .z none) none) [(6, .sc (.int .i64)), (7, .sc .adr)])) none) (.sq (.sq .z (.bl (.lp .z [(11, .sc (.int .i64))])) none) .z (some [])) (some [(6, .sc (.int .i64))])) none) none) none) none) none) none) none) [.slice x_0.a x_0.n x_0.c] h K := by kernel_rfl

theorem g_law13_GraphHands.ok : OkFn Try.prog 8 g_law13_GraphHands.c ∧ MonoC g_law13_GraphHands.c := by
  refine xfnD_okm (an := (.sq .z (.sq .z (.sq .z (.sq .z (.sq .z (.sq .z (.sq .z (.sq (.sq .z (.bl (.lp (.sq .z (.sq (.bl (.sq .z (.sq .z (.sq .z (.bl (.sq .z .z (some [(37, .sc (.int .i64)), (38, .sc (.int .i64))]))) none) none) none)) .z none) none) [(6, .sc (.int .i64)), (7, .sc .adr)])) none) (.sq (.sq .z (.bl (.lp .z [(11, .sc (.int .i64))])) none) .z (some [])) (some [(6, .sc (.int .i64))])) none) none) none) none) none) none) none)) wide_ok (OkTab.cons g_law13_works.ok (by kernel_rfl) (OkTab.cons g_law13_made.ok (by kernel_rfl) (OkTab.cons g_graph_Graph_Edges.ok (by kernel_rfl) (OkTab.cons g_graph_Graph_Degree.ok (by kernel_rfl) (OkTab.cons g_graph_Graph_Around.ok (by kernel_rfl) (OkTab.nil _)))))) (OkTabI.cons g_graph_Graph_Around_f1.ok (OkTabI.nil _)) Try.func8 (fun vs h K hk => ?_) (fun vs h K K' hk => ?_)
  · unfold g_law13_GraphHands.c at hk
    split at hk
    · rename_i x_0_a x_0_n x_0_c
      exact ⟨_, hk, Nat.le_of_ble_eq_true rfl, g_law13_GraphHands.x (⟨x_0_a, x_0_n, x_0_c⟩ : Sl) h K⟩
    · exact hk.elim
  · unfold g_law13_GraphHands.c at hk ⊢
    split at hk
    · rename_i x_0_a x_0_n x_0_c
      exact ⟨_, id, g_law13_GraphHands.x (⟨x_0_a, x_0_n, x_0_c⟩ : Sl) h K'⟩
    · exact hk.elim

theorem g_graph_Graph_N.x (g_0 : Option Addr) (h : Hp) (K : Value → Hp → Prop) : (g_graph_Graph_N g_0 h (fun r0 h => K (.int .i64 r0) h)) = xfnD Try.prog [(54, g_graph_Graph_valid.c)] [] Try.f38 .z [.pointer g_0] h K := by kernel_rfl

theorem g_graph_Graph_N.ok : OkFn Try.prog 38 g_graph_Graph_N.c ∧ MonoC g_graph_Graph_N.c := by
  refine xfnD_okm (an := .z) wide_ok (OkTab.cons g_graph_Graph_valid.ok (by kernel_rfl) (OkTab.nil _)) (OkTabI.nil _) Try.func38 (fun vs h K hk => ?_) (fun vs h K K' hk => ?_)
  · unfold g_graph_Graph_N.c at hk
    split at hk
    · rename_i g_0
      exact ⟨_, hk, Nat.le_of_ble_eq_true rfl, g_graph_Graph_N.x g_0 h K⟩
    · exact hk.elim
  · unfold g_graph_Graph_N.c at hk ⊢
    split at hk
    · rename_i g_0
      exact ⟨_, id, g_graph_Graph_N.x g_0 h K'⟩
    · exact hk.elim

theorem g_ref13_Graph_Count.x (g_0 : Option Addr) (h : Hp) (K : Value → Hp → Prop) : (g_ref13_Graph_Count g_0 h (fun r0 h => K (.int .i64 r0) h)) = xfnD Try.prog [(56, g_ref13_Graph_valid.c)] [] Try.f39 .z [.pointer g_0] h K := by kernel_rfl

theorem g_ref13_Graph_Count.ok : OkFn Try.prog 39 g_ref13_Graph_Count.c ∧ MonoC g_ref13_Graph_Count.c := by
  refine xfnD_okm (an := .z) wide_ok (OkTab.cons g_ref13_Graph_valid.ok (by kernel_rfl) (OkTab.nil _)) (OkTabI.nil _) Try.func39 (fun vs h K hk => ?_) (fun vs h K K' hk => ?_)
  · unfold g_ref13_Graph_Count.c at hk
    split at hk
    · rename_i g_0
      exact ⟨_, hk, Nat.le_of_ble_eq_true rfl, g_ref13_Graph_Count.x g_0 h K⟩
    · exact hk.elim
  · unfold g_ref13_Graph_Count.c at hk ⊢
    split at hk
    · rename_i g_0
      exact ⟨_, id, g_ref13_Graph_Count.x g_0 h K'⟩
    · exact hk.elim

theorem g_ref13_Graph_Edges.x (g_0 : Option Addr) (h : Hp) (K : Value → Hp → Prop) : (g_ref13_Graph_Edges g_0 h (fun r0 h => K (.slice r0.a r0.n r0.c) h)) = xfnD Try.prog [(56, g_ref13_Graph_valid.c)] [] Try.f41 .z [.pointer g_0] h K := by kernel_rfl

theorem g_ref13_Graph_Edges.ok : OkFn Try.prog 41 g_ref13_Graph_Edges.c ∧ MonoC g_ref13_Graph_Edges.c := by
  refine xfnD_okm (an := .z) wide_ok (OkTab.cons g_ref13_Graph_valid.ok (by kernel_rfl) (OkTab.nil _)) (OkTabI.nil _) Try.func41 (fun vs h K hk => ?_) (fun vs h K K' hk => ?_)
  · unfold g_ref13_Graph_Edges.c at hk
    split at hk
    · rename_i g_0
      exact ⟨_, hk, Nat.le_of_ble_eq_true rfl, g_ref13_Graph_Edges.x g_0 h K⟩
    · exact hk.elim
  · unfold g_ref13_Graph_Edges.c at hk ⊢
    split at hk
    · rename_i g_0
      exact ⟨_, id, g_ref13_Graph_Edges.x g_0 h K'⟩
    · exact hk.elim

theorem g_law13_GraphNews.x (n_0 : Int) (l_1 : Sl) (h : Hp) (K : Value → Hp → Prop) : (g_law13_GraphNews n_0 l_1 h (fun r0 h => K (.bool r0) h)) = xfnD Try.prog [(15, g_law13_Small.c), (16, g_law13_works.c), (17, g_law13_both.c), (38, g_graph_Graph_N.c), (39, g_ref13_Graph_Count.c), (37, g_graph_Graph_Edges.c), (41, g_ref13_Graph_Edges.c), (40, g_law13_edges.c)] [] Try.f9 .z [.int .i64 n_0, .slice l_1.a l_1.n l_1.c] h K := by kernel_rfl

theorem g_law13_GraphNews.ok : OkFn Try.prog 9 g_law13_GraphNews.c ∧ MonoC g_law13_GraphNews.c := by
  refine xfnD_okm (an := .z) wide_ok (OkTab.cons g_law13_Small.ok (by kernel_rfl) (OkTab.cons g_law13_works.ok (by kernel_rfl) (OkTab.cons g_law13_both.ok (by kernel_rfl) (OkTab.cons g_graph_Graph_N.ok (by kernel_rfl) (OkTab.cons g_ref13_Graph_Count.ok (by kernel_rfl) (OkTab.cons g_graph_Graph_Edges.ok (by kernel_rfl) (OkTab.cons g_ref13_Graph_Edges.ok (by kernel_rfl) (OkTab.cons g_law13_edges.ok (by kernel_rfl) (OkTab.nil _))))))))) (OkTabI.nil _) Try.func9 (fun vs h K hk => ?_) (fun vs h K K' hk => ?_)
  · unfold g_law13_GraphNews.c at hk
    split at hk
    · rename_i n_0 l_1_a l_1_n l_1_c
      exact ⟨_, hk, Nat.le_of_ble_eq_true rfl, g_law13_GraphNews.x n_0 (⟨l_1_a, l_1_n, l_1_c⟩ : Sl) h K⟩
    · exact hk.elim
  · unfold g_law13_GraphNews.c at hk ⊢
    split at hk
    · rename_i n_0 l_1_a l_1_n l_1_c
      exact ⟨_, id, g_law13_GraphNews.x n_0 (⟨l_1_a, l_1_n, l_1_c⟩ : Sl) h K'⟩
    · exact hk.elim

theorem g_graph_Graph_Under_f1.x (x_0_0 : Int) (x_0_1 : Int) (x_0_2 : Int) (c_0 : Addr) (h : Hp) (K : Value → Hp → Prop) : (g_graph_Graph_Under_f1 x_0_0 x_0_1 x_0_2 c_0 h (fun r0 h => K (.bool r0) h)) = xfnD Try.prog [] [] Try.f67 .z [.agg #[.int .i64 x_0_0, .int .i64 x_0_1, .int .i64 x_0_2], .pointer (some c_0)] h K := by kernel_rfl

theorem g_graph_Graph_Under_f1.ok : OkFn Try.prog 67 g_graph_Graph_Under_f1.c ∧ MonoC g_graph_Graph_Under_f1.c := by
  refine xfnD_okm (an := .z) wide_ok (OkTab.nil _) (OkTabI.nil _) Try.func67 (fun vs h K hk => ?_) (fun vs h K K' hk => ?_)
  · unfold g_graph_Graph_Under_f1.c at hk
    split at hk
    · rename_i x_0_0 x_0_1 x_0_2 c_0
      exact ⟨_, hk, Nat.le_of_ble_eq_true rfl, g_graph_Graph_Under_f1.x x_0_0 x_0_1 x_0_2 c_0 h K⟩
    · exact hk.elim
  · unfold g_graph_Graph_Under_f1.c at hk ⊢
    split at hk
    · rename_i x_0_0 x_0_1 x_0_2 c_0
      exact ⟨_, id, g_graph_Graph_Under_f1.x x_0_0 x_0_1 x_0_2 c_0 h K'⟩
    · exact hk.elim

theorem g_slices_IndexFunc_api_Edge_of_graph_Graph_Under_f1.x (s_0 : Sl) (f_1c0 : Addr) (h : Hp) (K : Value → Hp → Prop) : (g_slices_IndexFunc_api_Edge_of_graph_Graph_Under_f1 s_0 f_1c0 h (fun r0 h => K (.int .i64 r0) h)) = xfnD Try.prog [(67, g_graph_Graph_Under_f1.c)] [] Try.f84 (.sq .z (.sq (.sq .z (.bl (.lp .z [(8, .sc (.int .i64))])) none) .z none) none) [.slice s_0.a s_0.n s_0.c, .func (.func 67) #[] #[.pointer (some f_1c0)]] h K := by kernel_rfl

theorem g_slices_IndexFunc_api_Edge_of_graph_Graph_Under_f1.ok : OkFn Try.prog 84 g_slices_IndexFunc_api_Edge_of_graph_Graph_Under_f1.c ∧ MonoC g_slices_IndexFunc_api_Edge_of_graph_Graph_Under_f1.c := by
  refine xfnD_okm (an := (.sq .z (.sq (.sq .z (.bl (.lp .z [(8, .sc (.int .i64))])) none) .z none) none)) wide_ok (OkTab.cons g_graph_Graph_Under_f1.ok (by kernel_rfl) (OkTab.nil _)) (OkTabI.nil _) Try.func84 (fun vs h K hk => ?_) (fun vs h K K' hk => ?_)
  · unfold g_slices_IndexFunc_api_Edge_of_graph_Graph_Under_f1.c at hk
    split at hk
    · rename_i s_0_a s_0_n s_0_c f_1c0
      exact ⟨_, hk, Nat.le_of_ble_eq_true rfl, g_slices_IndexFunc_api_Edge_of_graph_Graph_Under_f1.x (⟨s_0_a, s_0_n, s_0_c⟩ : Sl) f_1c0 h K⟩
    · exact hk.elim
  · unfold g_slices_IndexFunc_api_Edge_of_graph_Graph_Under_f1.c at hk ⊢
    split at hk
    · rename_i s_0_a s_0_n s_0_c f_1c0
      exact ⟨_, id, g_slices_IndexFunc_api_Edge_of_graph_Graph_Under_f1.x (⟨s_0_a, s_0_n, s_0_c⟩ : Sl) f_1c0 h K'⟩
    · exact hk.elim

theorem g_slices_DeleteFunc_api_Edge_of_graph_Graph_Under_f1.x (s_0 : Sl) (del_1c0 : Addr) (h : Hp) (K : Value → Hp → Prop) : (g_slices_DeleteFunc_api_Edge_of_graph_Graph_Under_f1 s_0 del_1c0 h (fun r0 h => K (.slice r0.a r0.n r0.c) h)) = xfnD Try.prog [(84, g_slices_IndexFunc_api_Edge_of_graph_Graph_Under_f1.c), (67, g_graph_Graph_Under_f1.c)] [] Try.f66 (.sq .z (.sq .z (.sq .z (.sq (.sq .z (.bl (.lp .z [(5, .sc (.int .i64)), (6, .sc (.int .i64))])) none) .z (some [(5, .sc (.int .i64))])) none) none) none) [.slice s_0.a s_0.n s_0.c, .func (.func 67) #[] #[.pointer (some del_1c0)]] h K := by kernel_rfl

theorem g_slices_DeleteFunc_api_Edge_of_graph_Graph_Under_f1.ok : OkFn Try.prog 66 g_slices_DeleteFunc_api_Edge_of_graph_Graph_Under_f1.c ∧ MonoC g_slices_DeleteFunc_api_Edge_of_graph_Graph_Under_f1.c := by
  refine xfnD_okm (an := (.sq .z (.sq .z (.sq .z (.sq (.sq .z (.bl (.lp .z [(5, .sc (.int .i64)), (6, .sc (.int .i64))])) none) .z (some [(5, .sc (.int .i64))])) none) none) none)) wide_ok (OkTab.cons g_slices_IndexFunc_api_Edge_of_graph_Graph_Under_f1.ok (by kernel_rfl) (OkTab.cons g_graph_Graph_Under_f1.ok (by kernel_rfl) (OkTab.nil _))) (OkTabI.nil _) Try.func66 (fun vs h K hk => ?_) (fun vs h K K' hk => ?_)
  · unfold g_slices_DeleteFunc_api_Edge_of_graph_Graph_Under_f1.c at hk
    split at hk
    · rename_i s_0_a s_0_n s_0_c del_1c0
      exact ⟨_, hk, Nat.le_of_ble_eq_true rfl, g_slices_DeleteFunc_api_Edge_of_graph_Graph_Under_f1.x (⟨s_0_a, s_0_n, s_0_c⟩ : Sl) del_1c0 h K⟩
    · exact hk.elim
  · unfold g_slices_DeleteFunc_api_Edge_of_graph_Graph_Under_f1.c at hk ⊢
    split at hk
    · rename_i s_0_a s_0_n s_0_c del_1c0
      exact ⟨_, id, g_slices_DeleteFunc_api_Edge_of_graph_Graph_Under_f1.x (⟨s_0_a, s_0_n, s_0_c⟩ : Sl) del_1c0 h K'⟩
    · exact hk.elim

theorem g_graph_Graph_Under.x (g_0 : Option Addr) (theta_1 : Int) (h : Hp) (K : Value → Hp → Prop) : (g_graph_Graph_Under g_0 theta_1 h (fun r0 h => K (.pointer r0) h)) = xfnD Try.prog [(54, g_graph_Graph_valid.c), (64, g_slices_Clone_api_Edge.c), (66, g_slices_DeleteFunc_api_Edge_of_graph_Graph_Under_f1.c), (65, g_graph_build.c)] [] Try.f42 .z [.pointer g_0, .int .i64 theta_1] h K := by kernel_rfl

theorem g_graph_Graph_Under.ok : OkFn Try.prog 42 g_graph_Graph_Under.c ∧ MonoC g_graph_Graph_Under.c := by
  refine xfnD_okm (an := .z) wide_ok (OkTab.cons g_graph_Graph_valid.ok (by kernel_rfl) (OkTab.cons g_slices_Clone_api_Edge.ok (by kernel_rfl) (OkTab.cons g_slices_DeleteFunc_api_Edge_of_graph_Graph_Under_f1.ok (by kernel_rfl) (OkTab.cons g_graph_build.ok (by kernel_rfl) (OkTab.nil _))))) (OkTabI.nil _) Try.func42 (fun vs h K hk => ?_) (fun vs h K K' hk => ?_)
  · unfold g_graph_Graph_Under.c at hk
    split at hk
    · rename_i g_0 theta_1
      exact ⟨_, hk, Nat.le_of_ble_eq_true rfl, g_graph_Graph_Under.x g_0 theta_1 h K⟩
    · exact hk.elim
  · unfold g_graph_Graph_Under.c at hk ⊢
    split at hk
    · rename_i g_0 theta_1
      exact ⟨_, id, g_graph_Graph_Under.x g_0 theta_1 h K'⟩
    · exact hk.elim

theorem g_law13_GraphNests.x (x_0 : Sl) (x_1 : Int) (x_2 : Int) (h : Hp) (K : Value → Hp → Prop) : (g_law13_GraphNests x_0 x_1 x_2 h (fun r0 h => K (.bool r0) h)) = xfnD Try.prog [(16, g_law13_works.c), (28, g_law13_made.c), (42, g_graph_Graph_Under.c), (30, g_graph_Graph_Labels.c), (32, g_graph_Graph_Row.c), (37, g_graph_Graph_Edges.c), (40, g_law13_edges.c)] [] Try.f10 (.sq .z (.sq .z (.sq .z (.sq .z (.sq .z (.sq .z (.sq .z (.sq .z (.sq (.sq .z (.bl (.lp .z [(12, .sc (.int .i64))])) none) .z (some [])) none) none) none) none) none) (some [(1, .sc (.int .i64)), (2, .sc (.int .i64))])) none) none) [.slice x_0.a x_0.n x_0.c, .int .i64 x_1, .int .i64 x_2] h K := by kernel_rfl

theorem g_law13_GraphNests.ok : OkFn Try.prog 10 g_law13_GraphNests.c ∧ MonoC g_law13_GraphNests.c := by
  refine xfnD_okm (an := (.sq .z (.sq .z (.sq .z (.sq .z (.sq .z (.sq .z (.sq .z (.sq .z (.sq (.sq .z (.bl (.lp .z [(12, .sc (.int .i64))])) none) .z (some [])) none) none) none) none) none) (some [(1, .sc (.int .i64)), (2, .sc (.int .i64))])) none) none)) wide_ok (OkTab.cons g_law13_works.ok (by kernel_rfl) (OkTab.cons g_law13_made.ok (by kernel_rfl) (OkTab.cons g_graph_Graph_Under.ok (by kernel_rfl) (OkTab.cons g_graph_Graph_Labels.ok (by kernel_rfl) (OkTab.cons g_graph_Graph_Row.ok (by kernel_rfl) (OkTab.cons g_graph_Graph_Edges.ok (by kernel_rfl) (OkTab.cons g_law13_edges.ok (by kernel_rfl) (OkTab.nil _)))))))) (OkTabI.nil _) Try.func10 (fun vs h K hk => ?_) (fun vs h K K' hk => ?_)
  · unfold g_law13_GraphNests.c at hk
    split at hk
    · rename_i x_0_a x_0_n x_0_c x_1 x_2
      exact ⟨_, hk, Nat.le_of_ble_eq_true rfl, g_law13_GraphNests.x (⟨x_0_a, x_0_n, x_0_c⟩ : Sl) x_1 x_2 h K⟩
    · exact hk.elim
  · unfold g_law13_GraphNests.c at hk ⊢
    split at hk
    · rename_i x_0_a x_0_n x_0_c x_1 x_2
      exact ⟨_, id, g_law13_GraphNests.x (⟨x_0_a, x_0_n, x_0_c⟩ : Sl) x_1 x_2 h K'⟩
    · exact hk.elim

theorem g_law13_GraphKnown.x (h : Hp) (K : Value → Hp → Prop) : (g_law13_GraphKnown h (fun r0 h => K (.bool r0) h)) = xfnD Try.prog [(44, g_law13_example.c), (43, g_graph_New.c), (30, g_graph_Graph_Labels.c), (25, g_law13_numbers.c), (42, g_graph_Graph_Under.c), (37, g_graph_Graph_Edges.c), (40, g_law13_edges.c), (32, g_graph_Graph_Row.c), (18, g_graph_Graph_Strength.c), (21, g_graph_Graph_Degree.c), (16, g_law13_works.c)] [] Try.f11 (.sq .z (.sq .z (.sq .z (.sq .z (.sq .z (.sq .z (.sq .z (.sq .z (.sq .z (.sq .z (.sq (.sq .z (.bl (.lp .z [(12, .sc (.int .i64))])) none) .z (some [])) none) none) none) none) none) none) none) none) none) none) [] h K := by kernel_rfl

theorem g_law13_GraphKnown.ok : OkFn Try.prog 11 g_law13_GraphKnown.c ∧ MonoC g_law13_GraphKnown.c := by
  refine xfnD_okm (an := (.sq .z (.sq .z (.sq .z (.sq .z (.sq .z (.sq .z (.sq .z (.sq .z (.sq .z (.sq .z (.sq (.sq .z (.bl (.lp .z [(12, .sc (.int .i64))])) none) .z (some [])) none) none) none) none) none) none) none) none) none) none)) wide_ok (OkTab.cons g_law13_example.ok (by kernel_rfl) (OkTab.cons g_graph_New.ok (by kernel_rfl) (OkTab.cons g_graph_Graph_Labels.ok (by kernel_rfl) (OkTab.cons g_law13_numbers.ok (by kernel_rfl) (OkTab.cons g_graph_Graph_Under.ok (by kernel_rfl) (OkTab.cons g_graph_Graph_Edges.ok (by kernel_rfl) (OkTab.cons g_law13_edges.ok (by kernel_rfl) (OkTab.cons g_graph_Graph_Row.ok (by kernel_rfl) (OkTab.cons g_graph_Graph_Strength.ok (by kernel_rfl) (OkTab.cons g_graph_Graph_Degree.ok (by kernel_rfl) (OkTab.cons g_law13_works.ok (by kernel_rfl) (OkTab.nil _)))))))))))) (OkTabI.nil _) Try.func11 (fun vs h K hk => ?_) (fun vs h K K' hk => ?_)
  · unfold g_law13_GraphKnown.c at hk
    split at hk
    · exact ⟨_, hk, Nat.le_of_ble_eq_true rfl, g_law13_GraphKnown.x  h K⟩
    · exact hk.elim
  · unfold g_law13_GraphKnown.c at hk ⊢
    split at hk
    · exact ⟨_, id, g_law13_GraphKnown.x  h K'⟩
    · exact hk.elim

theorem g_ref13_Graph_Under.x (g_0 : Option Addr) (theta_1 : Int) (h : Hp) (K : Value → Hp → Prop) : (g_ref13_Graph_Under g_0 theta_1 h (fun r0 h => K (.pointer r0) h)) = xfnD Try.prog [(56, g_ref13_Graph_valid.c)] [] Try.f45 (.sq .z (.sq .z (.sq .z (.sq (.sq .z (.bl (.lp .z [(6, .sc (.int .i64))])) none) .z none) none) none) none) [.pointer g_0, .int .i64 theta_1] h K := by kernel_rfl

theorem g_ref13_Graph_Under.ok : OkFn Try.prog 45 g_ref13_Graph_Under.c ∧ MonoC g_ref13_Graph_Under.c := by
  refine xfnD_okm (an := (.sq .z (.sq .z (.sq .z (.sq (.sq .z (.bl (.lp .z [(6, .sc (.int .i64))])) none) .z none) none) none) none)) wide_ok (OkTab.cons g_ref13_Graph_valid.ok (by kernel_rfl) (OkTab.nil _)) (OkTabI.nil _) Try.func45 (fun vs h K hk => ?_) (fun vs h K K' hk => ?_)
  · unfold g_ref13_Graph_Under.c at hk
    split at hk
    · rename_i g_0 theta_1
      exact ⟨_, hk, Nat.le_of_ble_eq_true rfl, g_ref13_Graph_Under.x g_0 theta_1 h K⟩
    · exact hk.elim
  · unfold g_ref13_Graph_Under.c at hk ⊢
    split at hk
    · rename_i g_0 theta_1
      exact ⟨_, id, g_ref13_Graph_Under.x g_0 theta_1 h K'⟩
    · exact hk.elim

theorem g_law13_GraphCuts.x (x_0 : Int) (x_1 : Sl) (x_2 : Int) (h : Hp) (K : Value → Hp → Prop) : (g_law13_GraphCuts x_0 x_1 x_2 h (fun r0 h => K (.bool r0) h)) = xfnD Try.prog [(15, g_law13_Small.c), (16, g_law13_works.c), (17, g_law13_both.c), (42, g_graph_Graph_Under.c), (45, g_ref13_Graph_Under.c), (38, g_graph_Graph_N.c), (39, g_ref13_Graph_Count.c), (37, g_graph_Graph_Edges.c), (41, g_ref13_Graph_Edges.c), (40, g_law13_edges.c), (30, g_graph_Graph_Labels.c), (31, g_ref13_Graph_Labels.c), (25, g_law13_numbers.c)] [] Try.f12 (.sq .z (.sq .z (.sq .z (.sq .z (.sq .z (.sq .z .z (some [])) none) none) none) none) none) [.int .i64 x_0, .slice x_1.a x_1.n x_1.c, .int .i64 x_2] h K := by kernel_rfl

theorem g_law13_GraphCuts.ok : OkFn Try.prog 12 g_law13_GraphCuts.c ∧ MonoC g_law13_GraphCuts.c := by
  refine xfnD_okm (an := (.sq .z (.sq .z (.sq .z (.sq .z (.sq .z (.sq .z .z (some [])) none) none) none) none) none)) wide_ok (OkTab.cons g_law13_Small.ok (by kernel_rfl) (OkTab.cons g_law13_works.ok (by kernel_rfl) (OkTab.cons g_law13_both.ok (by kernel_rfl) (OkTab.cons g_graph_Graph_Under.ok (by kernel_rfl) (OkTab.cons g_ref13_Graph_Under.ok (by kernel_rfl) (OkTab.cons g_graph_Graph_N.ok (by kernel_rfl) (OkTab.cons g_ref13_Graph_Count.ok (by kernel_rfl) (OkTab.cons g_graph_Graph_Edges.ok (by kernel_rfl) (OkTab.cons g_ref13_Graph_Edges.ok (by kernel_rfl) (OkTab.cons g_law13_edges.ok (by kernel_rfl) (OkTab.cons g_graph_Graph_Labels.ok (by kernel_rfl) (OkTab.cons g_ref13_Graph_Labels.ok (by kernel_rfl) (OkTab.cons g_law13_numbers.ok (by kernel_rfl) (OkTab.nil _)))))))))))))) (OkTabI.nil _) Try.func12 (fun vs h K hk => ?_) (fun vs h K K' hk => ?_)
  · unfold g_law13_GraphCuts.c at hk
    split at hk
    · rename_i x_0 x_1_a x_1_n x_1_c x_2
      exact ⟨_, hk, Nat.le_of_ble_eq_true rfl, g_law13_GraphCuts.x x_0 (⟨x_1_a, x_1_n, x_1_c⟩ : Sl) x_2 h K⟩
    · exact hk.elim
  · unfold g_law13_GraphCuts.c at hk ⊢
    split at hk
    · rename_i x_0 x_1_a x_1_n x_1_c x_2
      exact ⟨_, id, g_law13_GraphCuts.x x_0 (⟨x_1_a, x_1_n, x_1_c⟩ : Sl) x_2 h K'⟩
    · exact hk.elim

theorem g_law13_GraphNil.x (x_0 : Int) (x_1 : Int) (h : Hp) (K : Value → Hp → Prop) : (g_law13_GraphNil x_0 x_1 h (fun r0 h => K (.bool r0) h)) = xfnD Try.prog [(18, g_graph_Graph_Strength.c), (38, g_graph_Graph_N.c), (37, g_graph_Graph_Edges.c), (21, g_graph_Graph_Degree.c), (24, g_law13_around.c), (30, g_graph_Graph_Labels.c), (34, g_graph_Graph_Components.c), (26, g_graph_Graph_Dist.c), (42, g_graph_Graph_Under.c), (32, g_graph_Graph_Row.c), (16, g_law13_works.c)] [] Try.f13 (.sq .z (.sq .z (.sq .z (.sq (.sq .z (.bl (.lp .z [(7, .sc (.int .i64))])) none) .z none) none) none) none) [.int .i64 x_0, .int .i64 x_1] h K := by kernel_rfl

theorem g_law13_GraphNil.ok : OkFn Try.prog 13 g_law13_GraphNil.c ∧ MonoC g_law13_GraphNil.c := by
  refine xfnD_okm (an := (.sq .z (.sq .z (.sq .z (.sq (.sq .z (.bl (.lp .z [(7, .sc (.int .i64))])) none) .z none) none) none) none)) wide_ok (OkTab.cons g_graph_Graph_Strength.ok (by kernel_rfl) (OkTab.cons g_graph_Graph_N.ok (by kernel_rfl) (OkTab.cons g_graph_Graph_Edges.ok (by kernel_rfl) (OkTab.cons g_graph_Graph_Degree.ok (by kernel_rfl) (OkTab.cons g_law13_around.ok (by kernel_rfl) (OkTab.cons g_graph_Graph_Labels.ok (by kernel_rfl) (OkTab.cons g_graph_Graph_Components.ok (by kernel_rfl) (OkTab.cons g_graph_Graph_Dist.ok (by kernel_rfl) (OkTab.cons g_graph_Graph_Under.ok (by kernel_rfl) (OkTab.cons g_graph_Graph_Row.ok (by kernel_rfl) (OkTab.cons g_law13_works.ok (by kernel_rfl) (OkTab.nil _)))))))))))) (OkTabI.nil _) Try.func13 (fun vs h K hk => ?_) (fun vs h K K' hk => ?_)
  · unfold g_law13_GraphNil.c at hk
    split at hk
    · rename_i x_0 x_1
      exact ⟨_, hk, Nat.le_of_ble_eq_true rfl, g_law13_GraphNil.x x_0 x_1 h K⟩
    · exact hk.elim
  · unfold g_law13_GraphNil.c at hk ⊢
    split at hk
    · rename_i x_0 x_1
      exact ⟨_, id, g_law13_GraphNil.x x_0 x_1 h K'⟩
    · exact hk.elim

theorem g_law29_sides.x (a_0 : Int) (b_1 : Int) (h : Hp) (K : Value → Hp → Prop) : (g_law29_sides a_0 b_1 h (fun r0 r1 h => K (.tuple #[.int .i64 r0, .int .i64 r1]) h)) = xfnD Try.prog [] [] Try.f46 .z [.int .u8 a_0, .int .u8 b_1] h K := by kernel_rfl

theorem g_law29_sides.ok : OkFn Try.prog 46 g_law29_sides.c ∧ MonoC g_law29_sides.c := by
  refine xfnD_okm (an := .z) wide_ok (OkTab.nil _) (OkTabI.nil _) Try.func46 (fun vs h K hk => ?_) (fun vs h K K' hk => ?_)
  · unfold g_law29_sides.c at hk
    split at hk
    · rename_i a_0 b_1
      exact ⟨_, hk, Nat.le_of_ble_eq_true rfl, g_law29_sides.x a_0 b_1 h K⟩
    · exact hk.elim
  · unfold g_law29_sides.c at hk ⊢
    split at hk
    · rename_i a_0 b_1
      exact ⟨_, id, g_law29_sides.x a_0 b_1 h K'⟩
    · exact hk.elim

theorem g_lattice_check.x (w_0 : Int) (h_1 : Int) (h : Hp) (K : Value → Hp → Prop) : (g_lattice_check w_0 h_1 h (fun r0 h => K (.int .i64 r0) h)) = xfnD Try.prog [] [] Try.f86 .z [.int .i64 w_0, .int .i64 h_1] h K := by kernel_rfl

theorem g_lattice_check.ok : OkFn Try.prog 86 g_lattice_check.c ∧ MonoC g_lattice_check.c := by
  refine xfnD_okm (an := .z) wide_ok (OkTab.nil _) (OkTabI.nil _) Try.func86 (fun vs h K hk => ?_) (fun vs h K K' hk => ?_)
  · unfold g_lattice_check.c at hk
    split at hk
    · rename_i w_0 h_1
      exact ⟨_, hk, Nat.le_of_ble_eq_true rfl, g_lattice_check.x w_0 h_1 h K⟩
    · exact hk.elim
  · unfold g_lattice_check.c at hk ⊢
    split at hk
    · rename_i w_0 h_1
      exact ⟨_, id, g_lattice_check.x w_0 h_1 h K'⟩
    · exact hk.elim

theorem g_lattice_step.x (at_0 : Int) (by_1 : Int) (many_2 : Int) (wrap_3 : Bool) (h : Hp) (K : Value → Hp → Prop) : (g_lattice_step at_0 by_1 many_2 wrap_3 h (fun r0 r1 h => K (.tuple #[.int .i64 r0, .bool r1]) h)) = xfnD Try.prog [] [] Try.f95 .z [.int .i64 at_0, .int .i64 by_1, .int .i64 many_2, .bool wrap_3] h K := by kernel_rfl

theorem g_lattice_step.ok : OkFn Try.prog 95 g_lattice_step.c ∧ MonoC g_lattice_step.c := by
  refine xfnD_okm (an := .z) wide_ok (OkTab.nil _) (OkTabI.nil _) Try.func95 (fun vs h K hk => ?_) (fun vs h K K' hk => ?_)
  · unfold g_lattice_step.c at hk
    split at hk
    · rename_i at_0 by_1 many_2 wrap_3
      exact ⟨_, hk, Nat.le_of_ble_eq_true rfl, g_lattice_step.x at_0 by_1 many_2 wrap_3 h K⟩
    · exact hk.elim
  · unfold g_lattice_step.c at hk ⊢
    split at hk
    · rename_i at_0 by_1 many_2 wrap_3
      exact ⟨_, id, g_lattice_step.x at_0 by_1 many_2 wrap_3 h K'⟩
    · exact hk.elim

theorem g_lattice_grid_f1.x (x_0 : Int) (y_1 : Int) (d_2_0 : Int) (d_2_1 : Int) (c_0 : Addr) (c_1 : Addr) (c_2 : Addr) (c_3 : Addr) (h : Hp) (K : Value → Hp → Prop) : (g_lattice_grid_f1 x_0 y_1 d_2_0 d_2_1 c_0 c_1 c_2 c_3 h (fun r0 r1 h => K (.tuple #[.int .i64 r0, .bool r1]) h)) = xfnD Try.prog [(95, g_lattice_step.c)] [] Try.f94 .z [.int .i64 x_0, .int .i64 y_1, .agg #[.int .i64 d_2_0, .int .i64 d_2_1], .pointer (some c_0), .pointer (some c_1), .pointer (some c_2), .pointer (some c_3)] h K := by kernel_rfl

theorem g_lattice_grid_f1.ok : OkFn Try.prog 94 g_lattice_grid_f1.c ∧ MonoC g_lattice_grid_f1.c := by
  refine xfnD_okm (an := .z) wide_ok (OkTab.cons g_lattice_step.ok (by kernel_rfl) (OkTab.nil _)) (OkTabI.nil _) Try.func94 (fun vs h K hk => ?_) (fun vs h K K' hk => ?_)
  · unfold g_lattice_grid_f1.c at hk
    split at hk
    · rename_i x_0 y_1 d_2_0 d_2_1 c_0 c_1 c_2 c_3
      exact ⟨_, hk, Nat.le_of_ble_eq_true rfl, g_lattice_grid_f1.x x_0 y_1 d_2_0 d_2_1 c_0 c_1 c_2 c_3 h K⟩
    · exact hk.elim
  · unfold g_lattice_grid_f1.c at hk ⊢
    split at hk
    · rename_i x_0 y_1 d_2_0 d_2_1 c_0 c_1 c_2 c_3
      exact ⟨_, id, g_lattice_grid_f1.x x_0 y_1 d_2_0 d_2_1 c_0 c_1 c_2 c_3 h K'⟩
    · exact hk.elim

theorem g_lattice_grid.x (x_0 : Int) (x_1 : Int) (x_2 : Bool) (x_3 : Bool) (x_4 : Sl) (h : Hp) (K : Value → Hp → Prop) : (g_lattice_grid x_0 x_1 x_2 x_3 x_4 h (fun r0 r1 r2 h => K (.tuple #[.int .i64 r0, .slice r1.a r1.n r1.c, .int .i64 r2]) h)) = xfnD Try.prog [(86, g_lattice_check.c), (94, g_lattice_grid_f1.c)] [] Try.f85 (.sq .z (.sq .z (.sq .z (.sq (.sq .z (.bl (.lp (.sq .z (.sq .z (.sq (.bl (.sq .z (.sq .z (.bl (.lp (.sq .z (.sq .z (.sq (.bl (.sq .z (.sq .z (.bl (.lp .z [(11, .sc .slice), (38, .sc (.int .i64))])) none) none)) .z none) none) none) [(11, .sc .slice), (33, .sc (.int .i64))])) none) none)) .z none) none) none) [(11, .sc .slice), (29, .sc (.int .i64))])) none) .z (some [(11, .sc .slice)])) none) none) none) [.int .i64 x_0, .int .i64 x_1, .bool x_2, .bool x_3, .slice x_4.a x_4.n x_4.c] h K := by kernel_rfl

theorem g_lattice_grid.ok : OkFn Try.prog 85 g_lattice_grid.c ∧ MonoC g_lattice_grid.c := by
  refine xfnD_okm (an := (.sq .z (.sq .z (.sq .z (.sq (.sq .z (.bl (.lp (.sq .z (.sq .z (.sq (.bl (.sq .z (.sq .z (.bl (.lp (.sq .z (.sq .z (.sq (.bl (.sq .z (.sq .z (.bl (.lp .z [(11, .sc .slice), (38, .sc (.int .i64))])) none) none)) .z none) none) none) [(11, .sc .slice), (33, .sc (.int .i64))])) none) none)) .z none) none) none) [(11, .sc .slice), (29, .sc (.int .i64))])) none) .z (some [(11, .sc .slice)])) none) none) none)) wide_ok (OkTab.cons g_lattice_check.ok (by kernel_rfl) (OkTab.cons g_lattice_grid_f1.ok (by kernel_rfl) (OkTab.nil _))) (OkTabI.nil _) Try.func85 (fun vs h K hk => ?_) (fun vs h K K' hk => ?_)
  · unfold g_lattice_grid.c at hk
    split at hk
    · rename_i x_0 x_1 x_2 x_3 x_4_a x_4_n x_4_c
      exact ⟨_, hk, Nat.le_of_ble_eq_true rfl, g_lattice_grid.x x_0 x_1 x_2 x_3 (⟨x_4_a, x_4_n, x_4_c⟩ : Sl) h K⟩
    · exact hk.elim
  · unfold g_lattice_grid.c at hk ⊢
    split at hk
    · rename_i x_0 x_1 x_2 x_3 x_4_a x_4_n x_4_c
      exact ⟨_, id, g_lattice_grid.x x_0 x_1 x_2 x_3 (⟨x_4_a, x_4_n, x_4_c⟩ : Sl) h K'⟩
    · exact hk.elim

theorem g_lattice_Triangular.x (w_0 : Int) (h_1 : Int) (wrapX_2 : Bool) (wrapY_3 : Bool) (h : Hp) (K : Value → Hp → Prop) : (g_lattice_Triangular w_0 h_1 wrapX_2 wrapY_3 h (fun r0 r1 r2 h => K (.tuple #[.int .i64 r0, .slice r1.a r1.n r1.c, .int .i64 r2]) h)) = xfnD Try.prog [(85, g_lattice_grid.c)] [] Try.f68 .z [.int .i64 w_0, .int .i64 h_1, .bool wrapX_2, .bool wrapY_3] h K := by kernel_rfl

theorem g_lattice_Triangular.ok : OkFn Try.prog 68 g_lattice_Triangular.c ∧ MonoC g_lattice_Triangular.c := by
  refine xfnD_okm (an := .z) wide_ok (OkTab.cons g_lattice_grid.ok (by kernel_rfl) (OkTab.nil _)) (OkTabI.nil _) Try.func68 (fun vs h K hk => ?_) (fun vs h K K' hk => ?_)
  · unfold g_lattice_Triangular.c at hk
    split at hk
    · rename_i w_0 h_1 wrapX_2 wrapY_3
      exact ⟨_, hk, Nat.le_of_ble_eq_true rfl, g_lattice_Triangular.x w_0 h_1 wrapX_2 wrapY_3 h K⟩
    · exact hk.elim
  · unfold g_lattice_Triangular.c at hk ⊢
    split at hk
    · rename_i w_0 h_1 wrapX_2 wrapY_3
      exact ⟨_, id, g_lattice_Triangular.x w_0 h_1 wrapX_2 wrapY_3 h K'⟩
    · exact hk.elim

theorem g_lattice_Square.x (w_0 : Int) (h_1 : Int) (wrapX_2 : Bool) (wrapY_3 : Bool) (h : Hp) (K : Value → Hp → Prop) : (g_lattice_Square w_0 h_1 wrapX_2 wrapY_3 h (fun r0 r1 r2 h => K (.tuple #[.int .i64 r0, .slice r1.a r1.n r1.c, .int .i64 r2]) h)) = xfnD Try.prog [(85, g_lattice_grid.c)] [] Try.f69 .z [.int .i64 w_0, .int .i64 h_1, .bool wrapX_2, .bool wrapY_3] h K := by kernel_rfl

theorem g_lattice_Square.ok : OkFn Try.prog 69 g_lattice_Square.c ∧ MonoC g_lattice_Square.c := by
  refine xfnD_okm (an := .z) wide_ok (OkTab.cons g_lattice_grid.ok (by kernel_rfl) (OkTab.nil _)) (OkTabI.nil _) Try.func69 (fun vs h K hk => ?_) (fun vs h K K' hk => ?_)
  · unfold g_lattice_Square.c at hk
    split at hk
    · rename_i w_0 h_1 wrapX_2 wrapY_3
      exact ⟨_, hk, Nat.le_of_ble_eq_true rfl, g_lattice_Square.x w_0 h_1 wrapX_2 wrapY_3 h K⟩
    · exact hk.elim
  · unfold g_lattice_Square.c at hk ⊢
    split at hk
    · rename_i w_0 h_1 wrapX_2 wrapY_3
      exact ⟨_, id, g_lattice_Square.x w_0 h_1 wrapX_2 wrapY_3 h K'⟩
    · exact hk.elim

theorem g_law29_either.x (w_0 : Int) (h_1 : Int) (wrapX_2 : Bool) (wrapY_3 : Bool) (three_4 : Bool) (h : Hp) (K : Value → Hp → Prop) : (g_law29_either w_0 h_1 wrapX_2 wrapY_3 three_4 h (fun r0 r1 r2 h => K (.tuple #[.int .i64 r0, .slice r1.a r1.n r1.c, .int .i64 r2]) h)) = xfnD Try.prog [(68, g_lattice_Triangular.c), (69, g_lattice_Square.c)] [] Try.f47 .z [.int .i64 w_0, .int .i64 h_1, .bool wrapX_2, .bool wrapY_3, .bool three_4] h K := by kernel_rfl

theorem g_law29_either.ok : OkFn Try.prog 47 g_law29_either.c ∧ MonoC g_law29_either.c := by
  refine xfnD_okm (an := .z) wide_ok (OkTab.cons g_lattice_Triangular.ok (by kernel_rfl) (OkTab.cons g_lattice_Square.ok (by kernel_rfl) (OkTab.nil _))) (OkTabI.nil _) Try.func47 (fun vs h K hk => ?_) (fun vs h K K' hk => ?_)
  · unfold g_law29_either.c at hk
    split at hk
    · rename_i w_0 h_1 wrapX_2 wrapY_3 three_4
      exact ⟨_, hk, Nat.le_of_ble_eq_true rfl, g_law29_either.x w_0 h_1 wrapX_2 wrapY_3 three_4 h K⟩
    · exact hk.elim
  · unfold g_law29_either.c at hk ⊢
    split at hk
    · rename_i w_0 h_1 wrapX_2 wrapY_3 three_4
      exact ⟨_, id, g_law29_either.x w_0 h_1 wrapX_2 wrapY_3 three_4 h K'⟩
    · exact hk.elim

theorem g_lattice_Tree.x (children_0 : Int) (depth_1 : Int) (h : Hp) (K : Value → Hp → Prop) : (g_lattice_Tree children_0 depth_1 h (fun r0 r1 r2 h => K (.tuple #[.int .i64 r0, .slice r1.a r1.n r1.c, .int .i64 r2]) h)) = xfnD Try.prog [] [] Try.f48 (.sq .z (.sq .z (.sq .z (.sq (.sq .z (.bl (.lp .z [(1, .sc (.int .i64)), (4, .sc (.int .i64)), (5, .sc .slice), (7, .sc (.int .i64))])) none) (.sq (.sq .z (.bl (.lp .z [(5, .sc .slice), (8, .sc (.int .i64))])) none) .z (some [(5, .sc .slice)])) (some [(4, .sc (.int .i64)), (5, .sc .slice)])) none) none) none) [.int .i64 children_0, .int .i64 depth_1] h K := by kernel_rfl

theorem g_lattice_Tree.ok : OkFn Try.prog 48 g_lattice_Tree.c ∧ MonoC g_lattice_Tree.c := by
  refine xfnD_okm (an := (.sq .z (.sq .z (.sq .z (.sq (.sq .z (.bl (.lp .z [(1, .sc (.int .i64)), (4, .sc (.int .i64)), (5, .sc .slice), (7, .sc (.int .i64))])) none) (.sq (.sq .z (.bl (.lp .z [(5, .sc .slice), (8, .sc (.int .i64))])) none) .z (some [(5, .sc .slice)])) (some [(4, .sc (.int .i64)), (5, .sc .slice)])) none) none) none)) wide_ok (OkTab.nil _) (OkTabI.nil _) Try.func48 (fun vs h K hk => ?_) (fun vs h K K' hk => ?_)
  · unfold g_lattice_Tree.c at hk
    split at hk
    · rename_i children_0 depth_1
      exact ⟨_, hk, Nat.le_of_ble_eq_true rfl, g_lattice_Tree.x children_0 depth_1 h K⟩
    · exact hk.elim
  · unfold g_lattice_Tree.c at hk ⊢
    split at hk
    · rename_i children_0 depth_1
      exact ⟨_, id, g_lattice_Tree.x children_0 depth_1 h K'⟩
    · exact hk.elim

theorem g_lattice_Complete.x (n_0 : Int) (h : Hp) (K : Value → Hp → Prop) : (g_lattice_Complete n_0 h (fun r0 r1 h => K (.tuple #[.slice r0.a r0.n r0.c, .int .i64 r1]) h)) = xfnD Try.prog [] [] Try.f49 (.sq .z (.sq (.bl (.sq .z .z (some [(6, .sc .bool)]))) (.sq (.sq .z (.bl (.lp (.sq .z (.sq .z (.sq (.bl (.sq .z (.sq .z (.bl (.lp .z [(2, .sc .slice), (5, .sc (.int .i64))])) none) none)) .z none) none) none) [(2, .sc .slice), (21, .sc (.int .i64))])) none) .z none) none) none) [.int .i64 n_0] h K := by kernel_rfl

theorem g_lattice_Complete.ok : OkFn Try.prog 49 g_lattice_Complete.c ∧ MonoC g_lattice_Complete.c := by
  refine xfnD_okm (an := (.sq .z (.sq (.bl (.sq .z .z (some [(6, .sc .bool)]))) (.sq (.sq .z (.bl (.lp (.sq .z (.sq .z (.sq (.bl (.sq .z (.sq .z (.bl (.lp .z [(2, .sc .slice), (5, .sc (.int .i64))])) none) none)) .z none) none) none) [(2, .sc .slice), (21, .sc (.int .i64))])) none) .z none) none) none)) wide_ok (OkTab.nil _) (OkTabI.nil _) Try.func49 (fun vs h K hk => ?_) (fun vs h K K' hk => ?_)
  · unfold g_lattice_Complete.c at hk
    split at hk
    · rename_i n_0
      exact ⟨_, hk, Nat.le_of_ble_eq_true rfl, g_lattice_Complete.x n_0 h K⟩
    · exact hk.elim
  · unfold g_lattice_Complete.c at hk ⊢
    split at hk
    · rename_i n_0
      exact ⟨_, id, g_lattice_Complete.x n_0 h K'⟩
    · exact hk.elim

theorem g_law29_whole.x (n_0 : Int) (l_1 : Sl) (h : Hp) (K : Value → Hp → Prop) : (g_law29_whole n_0 l_1 h (fun r0 h => K (.bool r0) h)) = xfnD Try.prog [(43, g_graph_New.c), (32, g_graph_Graph_Row.c)] [] Try.f50 .z [.int .i64 n_0, .slice l_1.a l_1.n l_1.c] h K := by kernel_rfl

theorem g_law29_whole.ok : OkFn Try.prog 50 g_law29_whole.c ∧ MonoC g_law29_whole.c := by
  refine xfnD_okm (an := .z) wide_ok (OkTab.cons g_graph_New.ok (by kernel_rfl) (OkTab.cons g_graph_Graph_Row.ok (by kernel_rfl) (OkTab.nil _))) (OkTabI.nil _) Try.func50 (fun vs h K hk => ?_) (fun vs h K K' hk => ?_)
  · unfold g_law29_whole.c at hk
    split at hk
    · rename_i n_0 l_1_a l_1_n l_1_c
      exact ⟨_, hk, Nat.le_of_ble_eq_true rfl, g_law29_whole.x n_0 (⟨l_1_a, l_1_n, l_1_c⟩ : Sl) h K⟩
    · exact hk.elim
  · unfold g_law29_whole.c at hk ⊢
    split at hk
    · rename_i n_0 l_1_a l_1_n l_1_c
      exact ⟨_, id, g_law29_whole.x n_0 (⟨l_1_a, l_1_n, l_1_c⟩ : Sl) h K'⟩
    · exact hk.elim

theorem g_lattice_At.x (w_0 : Int) (h_1 : Int) (x_2 : Int) (y_3 : Int) (h : Hp) (K : Value → Hp → Prop) : (g_lattice_At w_0 h_1 x_2 y_3 h (fun r0 r1 h => K (.tuple #[.int .i64 r0, .int .i64 r1]) h)) = xfnD Try.prog [(86, g_lattice_check.c)] [] Try.f70 .z [.int .i64 w_0, .int .i64 h_1, .int .i64 x_2, .int .i64 y_3] h K := by kernel_rfl

theorem g_lattice_At.ok : OkFn Try.prog 70 g_lattice_At.c ∧ MonoC g_lattice_At.c := by
  refine xfnD_okm (an := .z) wide_ok (OkTab.cons g_lattice_check.ok (by kernel_rfl) (OkTab.nil _)) (OkTabI.nil _) Try.func70 (fun vs h K hk => ?_) (fun vs h K K' hk => ?_)
  · unfold g_lattice_At.c at hk
    split at hk
    · rename_i w_0 h_1 x_2 y_3
      exact ⟨_, hk, Nat.le_of_ble_eq_true rfl, g_lattice_At.x w_0 h_1 x_2 y_3 h K⟩
    · exact hk.elim
  · unfold g_lattice_At.c at hk ⊢
    split at hk
    · rename_i w_0 h_1 x_2 y_3
      exact ⟨_, id, g_lattice_At.x w_0 h_1 x_2 y_3 h K'⟩
    · exact hk.elim

theorem g_law29_same.x (a_0 : Sl) (b_1 : Sl) (h : Hp) (K : Value → Hp → Prop) : (g_law29_same a_0 b_1 h (fun r0 h => K (.bool r0) h)) = xfnD Try.prog [] [] Try.f71 (.sq .z (.sq .z (.sq (.sq .z (.bl (.lp .z [(5, .sc (.int .i64))])) none) .z none) none) none) [.slice a_0.a a_0.n a_0.c, .slice b_1.a b_1.n b_1.c] h K := by kernel_rfl

theorem g_law29_same.ok : OkFn Try.prog 71 g_law29_same.c ∧ MonoC g_law29_same.c := by
  refine xfnD_okm (an := (.sq .z (.sq .z (.sq (.sq .z (.bl (.lp .z [(5, .sc (.int .i64))])) none) .z none) none) none)) wide_ok (OkTab.nil _) (OkTabI.nil _) Try.func71 (fun vs h K hk => ?_) (fun vs h K K' hk => ?_)
  · unfold g_law29_same.c at hk
    split at hk
    · rename_i a_0_a a_0_n a_0_c b_1_a b_1_n b_1_c
      exact ⟨_, hk, Nat.le_of_ble_eq_true rfl, g_law29_same.x (⟨a_0_a, a_0_n, a_0_c⟩ : Sl) (⟨b_1_a, b_1_n, b_1_c⟩ : Sl) h K⟩
    · exact hk.elim
  · unfold g_law29_same.c at hk ⊢
    split at hk
    · rename_i a_0_a a_0_n a_0_c b_1_a b_1_n b_1_c
      exact ⟨_, id, g_law29_same.x (⟨a_0_a, a_0_n, a_0_c⟩ : Sl) (⟨b_1_a, b_1_n, b_1_c⟩ : Sl) h K'⟩
    · exact hk.elim

theorem g_law29_works.x (h : Hp) (K : Value → Hp → Prop) : (g_law29_works h (fun r0 h => K (.bool r0) h)) = xfnD Try.prog [(68, g_lattice_Triangular.c), (48, g_lattice_Tree.c), (70, g_lattice_At.c), (71, g_law29_same.c)] [] Try.f51 .z [] h K := by kernel_rfl

theorem g_law29_works.ok : OkFn Try.prog 51 g_law29_works.c ∧ MonoC g_law29_works.c := by
  refine xfnD_okm (an := .z) wide_ok (OkTab.cons g_lattice_Triangular.ok (by kernel_rfl) (OkTab.cons g_lattice_Tree.ok (by kernel_rfl) (OkTab.cons g_lattice_At.ok (by kernel_rfl) (OkTab.cons g_law29_same.ok (by kernel_rfl) (OkTab.nil _))))) (OkTabI.nil _) Try.func51 (fun vs h K hk => ?_) (fun vs h K K' hk => ?_)
  · unfold g_law29_works.c at hk
    split at hk
    · exact ⟨_, hk, Nat.le_of_ble_eq_true rfl, g_law29_works.x  h K⟩
    · exact hk.elim
  · unfold g_law29_works.c at hk ⊢
    split at hk
    · exact ⟨_, id, g_law29_works.x  h K'⟩
    · exact hk.elim

theorem g_law29_LatticeConnects.x (x_0 : Int) (x_1 : Int) (x_2 : Bool) (x_3 : Bool) (h : Hp) (K : Value → Hp → Prop) : (g_law29_LatticeConnects x_0 x_1 x_2 x_3 h (fun r0 h => K (.bool r0) h)) = xfnD Try.prog [(46, g_law29_sides.c), (47, g_law29_either.c), (48, g_lattice_Tree.c), (49, g_lattice_Complete.c), (50, g_law29_whole.c), (51, g_law29_works.c)] [] Try.f14 .z [.int .u8 x_0, .int .u8 x_1, .bool x_2, .bool x_3] h K := by kernel_rfl

theorem g_law29_LatticeConnects.ok : OkFn Try.prog 14 g_law29_LatticeConnects.c ∧ MonoC g_law29_LatticeConnects.c := by
  refine xfnD_okm (an := .z) wide_ok (OkTab.cons g_law29_sides.ok (by kernel_rfl) (OkTab.cons g_law29_either.ok (by kernel_rfl) (OkTab.cons g_lattice_Tree.ok (by kernel_rfl) (OkTab.cons g_lattice_Complete.ok (by kernel_rfl) (OkTab.cons g_law29_whole.ok (by kernel_rfl) (OkTab.cons g_law29_works.ok (by kernel_rfl) (OkTab.nil _))))))) (OkTabI.nil _) Try.func14 (fun vs h K hk => ?_) (fun vs h K K' hk => ?_)
  · unfold g_law29_LatticeConnects.c at hk
    split at hk
    · rename_i x_0 x_1 x_2 x_3
      exact ⟨_, hk, Nat.le_of_ble_eq_true rfl, g_law29_LatticeConnects.x x_0 x_1 x_2 x_3 h K⟩
    · exact hk.elim
  · unfold g_law29_LatticeConnects.c at hk ⊢
    split at hk
    · rename_i x_0 x_1 x_2 x_3
      exact ⟨_, id, g_law29_LatticeConnects.x x_0 x_1 x_2 x_3 h K'⟩
    · exact hk.elim

end Go.Hx
