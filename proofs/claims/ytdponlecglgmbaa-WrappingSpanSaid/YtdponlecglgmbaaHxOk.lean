/- Printed by gen.py: what each function's call asks. -/
import Derived.Test.YtdponlecglgmbaaHxDefs
import Derived.Test.YtdponlecglgmbaaHxSoundH
import Derived.Test.YtdponlecglgmbaaProg
import Derived.KernelRfl
set_option linter.unusedVariables false
namespace Go.Hx
set_option linter.unusedSimpArgs false
open Go.Proofs
theorem wide_ok : Try.prog.follows .mixedOrders = true := by kernel_rfl

theorem g_ref30_Sizes.x (w_0 : Int) (h_1 : Int) (h : Hp) (K : Value → Hp → Prop) : (g_ref30_Sizes w_0 h_1 h (fun r0 h => K (.bool r0) h)) = xfnD Try.prog [] [] Try.f22 .z [.int .i64 w_0, .int .i64 h_1] h K := by kernel_rfl

theorem g_ref30_Sizes.ok : OkFn Try.prog 22 g_ref30_Sizes.c ∧ MonoC g_ref30_Sizes.c := by
  refine xfnD_okm (an := .z) wide_ok (OkTab.nil _) (OkTabI.nil _) Try.func22 (fun vs h K hk => ?_) (fun vs h K K' hk => ?_)
  · unfold g_ref30_Sizes.c at hk
    split at hk
    · rename_i w_0 h_1
      exact ⟨_, hk, Nat.le_of_ble_eq_true rfl, g_ref30_Sizes.x w_0 h_1 h K⟩
    · exact hk.elim
  · unfold g_ref30_Sizes.c at hk ⊢
    split at hk
    · rename_i w_0 h_1
      exact ⟨_, id, g_ref30_Sizes.x w_0 h_1 h K'⟩
    · exact hk.elim

theorem g_law30_small.x (w_0 : Int) (h_1 : Int) (h : Hp) (K : Value → Hp → Prop) : (g_law30_small w_0 h_1 h (fun r0 h => K (.bool r0) h)) = xfnD Try.prog [(22, g_ref30_Sizes.c)] [] Try.f15 .z [.int .i64 w_0, .int .i64 h_1] h K := by kernel_rfl

theorem g_law30_small.ok : OkFn Try.prog 15 g_law30_small.c ∧ MonoC g_law30_small.c := by
  refine xfnD_okm (an := .z) wide_ok (OkTab.cons g_ref30_Sizes.ok (by kernel_rfl) (OkTab.nil _)) (OkTabI.nil _) Try.func15 (fun vs h K hk => ?_) (fun vs h K K' hk => ?_)
  · unfold g_law30_small.c at hk
    split at hk
    · rename_i w_0 h_1
      exact ⟨_, hk, Nat.le_of_ble_eq_true rfl, g_law30_small.x w_0 h_1 h K⟩
    · exact hk.elim
  · unfold g_law30_small.c at hk ⊢
    split at hk
    · rename_i w_0 h_1
      exact ⟨_, id, g_law30_small.x w_0 h_1 h K'⟩
    · exact hk.elim

theorem g_wrapping_fits.x (w_0 : Int) (h_1 : Int) (h : Hp) (K : Value → Hp → Prop) : (g_wrapping_fits w_0 h_1 h (fun r0 h => K (.bool r0) h)) = xfnD Try.prog [] [] Try.f36 .z [.int .i64 w_0, .int .i64 h_1] h K := by kernel_rfl

theorem g_wrapping_fits.ok : OkFn Try.prog 36 g_wrapping_fits.c ∧ MonoC g_wrapping_fits.c := by
  refine xfnD_okm (an := .z) wide_ok (OkTab.nil _) (OkTabI.nil _) Try.func36 (fun vs h K hk => ?_) (fun vs h K K' hk => ?_)
  · unfold g_wrapping_fits.c at hk
    split at hk
    · rename_i w_0 h_1
      exact ⟨_, hk, Nat.le_of_ble_eq_true rfl, g_wrapping_fits.x w_0 h_1 h K⟩
    · exact hk.elim
  · unfold g_wrapping_fits.c at hk ⊢
    split at hk
    · rename_i w_0 h_1
      exact ⟨_, id, g_wrapping_fits.x w_0 h_1 h K'⟩
    · exact hk.elim

theorem g_wrapping_New.x (w_0 : Int) (h_1 : Int) (h : Hp) (K : Value → Hp → Prop) : (g_wrapping_New w_0 h_1 h (fun r0 r1 h => K (.tuple #[.pointer r0, .int .i64 r1]) h)) = xfnD Try.prog [(36, g_wrapping_fits.c)] [] Try.f17 (.sq .z (.sq .z (.sq .z (.sq .z (.sq (.sq .z (.bl (.lp .z [(30, .sc (.int .i64))])) none) .z none) (some [(7, .sc .adr)])) none) none) none) [.int .i64 w_0, .int .i64 h_1] h K := by kernel_rfl

theorem g_wrapping_New.ok : OkFn Try.prog 17 g_wrapping_New.c ∧ MonoC g_wrapping_New.c := by
  refine xfnD_okm (an := (.sq .z (.sq .z (.sq .z (.sq .z (.sq (.sq .z (.bl (.lp .z [(30, .sc (.int .i64))])) none) .z none) (some [(7, .sc .adr)])) none) none) none)) wide_ok (OkTab.cons g_wrapping_fits.ok (by kernel_rfl) (OkTab.nil _)) (OkTabI.nil _) Try.func17 (fun vs h K hk => ?_) (fun vs h K K' hk => ?_)
  · unfold g_wrapping_New.c at hk
    split at hk
    · rename_i w_0 h_1
      exact ⟨_, hk, Nat.le_of_ble_eq_true rfl, g_wrapping_New.x w_0 h_1 h K⟩
    · exact hk.elim
  · unfold g_wrapping_New.c at hk ⊢
    split at hk
    · rename_i w_0 h_1
      exact ⟨_, id, g_wrapping_New.x w_0 h_1 h K'⟩
    · exact hk.elim

theorem g_slices_Backward_int.x (s_0 : Sl) (h : Hp) (K : Value → Hp → Prop) : (g_slices_Backward_int s_0 h (fun r0 h => K (.func (.func 66) #[] #[.pointer (some r0)]) h)) = xfnD Try.prog [] [] Try.f57 .z [.slice s_0.a s_0.n s_0.c] h K := by kernel_rfl

theorem g_slices_Backward_int.ok : OkFn Try.prog 57 g_slices_Backward_int.c ∧ MonoC g_slices_Backward_int.c := by
  refine xfnD_okm (an := .z) wide_ok (OkTab.nil _) (OkTabI.nil _) Try.func57 (fun vs h K hk => ?_) (fun vs h K K' hk => ?_)
  · unfold g_slices_Backward_int.c at hk
    split at hk
    · rename_i s_0_a s_0_n s_0_c
      exact ⟨_, hk, Nat.le_of_ble_eq_true rfl, g_slices_Backward_int.x (⟨s_0_a, s_0_n, s_0_c⟩ : Sl) h K⟩
    · exact hk.elim
  · unfold g_slices_Backward_int.c at hk ⊢
    split at hk
    · rename_i s_0_a s_0_n s_0_c
      exact ⟨_, id, g_slices_Backward_int.x (⟨s_0_a, s_0_n, s_0_c⟩ : Sl) h K'⟩
    · exact hk.elim

theorem g_slices_Backward_f1_int.x (Y : YT) (yield_0 : Nat) (c_0 : Addr) (h : Hp) (K : Value → Hp → Prop) : (g_slices_Backward_f1_int Y yield_0 c_0 h (fun h => K (.tuple #[]) h)) = xfnD Try.prog ((ykey, yct Y) :: []) [] Try.f66 (.sq .z (.bl (.lp .z [(3, .sc (.int .i64))])) none) [.func (.yield yield_0) #[] #[], .pointer (some c_0)] h K := by kernel_rfl

theorem g_slices_Backward_f1_int.ok : OkIt Try.prog 66 g_slices_Backward_f1_int.c := by
  refine xfnD_oki (an := (.sq .z (.bl (.lp .z [(3, .sc (.int .i64))])) none)) (by kernel_rfl) wide_ok (OkTab.nil _) Try.func66 (fun Y vs h K hk => ?_) (fun Y vs h K K' hk => ?_)
  · unfold g_slices_Backward_f1_int.c at hk
    split at hk
    · rename_i yield_0 c_0
      exact ⟨_, hk, Nat.le_of_ble_eq_true rfl, g_slices_Backward_f1_int.x Y yield_0 c_0 h K⟩
    · exact hk.elim
  · unfold g_slices_Backward_f1_int.c at hk ⊢
    split at hk
    · rename_i yield_0 c_0
      exact ⟨_, id, g_slices_Backward_f1_int.x Y yield_0 c_0 h K'⟩
    · exact hk.elim

theorem g_wrapping_shift_plus.x (s_0_0 : Int) (s_0_1 : Int) (o_1_0 : Int) (o_1_1 : Int) (h : Hp) (K : Value → Hp → Prop) : (g_wrapping_shift_plus s_0_0 s_0_1 o_1_0 o_1_1 h (fun r0 r1 h => K (.agg #[.int .i64 r0, .int .i64 r1]) h)) = xfnD Try.prog [] [] Try.f42 .z [.agg #[.int .i64 s_0_0, .int .i64 s_0_1], .agg #[.int .i64 o_1_0, .int .i64 o_1_1]] h K := by kernel_rfl

theorem g_wrapping_shift_plus.ok : OkFn Try.prog 42 g_wrapping_shift_plus.c ∧ MonoC g_wrapping_shift_plus.c := by
  refine xfnD_okm (an := .z) wide_ok (OkTab.nil _) (OkTabI.nil _) Try.func42 (fun vs h K hk => ?_) (fun vs h K K' hk => ?_)
  · unfold g_wrapping_shift_plus.c at hk
    split at hk
    · rename_i s_0_0 s_0_1 o_1_0 o_1_1
      exact ⟨_, hk, Nat.le_of_ble_eq_true rfl, g_wrapping_shift_plus.x s_0_0 s_0_1 o_1_0 o_1_1 h K⟩
    · exact hk.elim
  · unfold g_wrapping_shift_plus.c at hk ⊢
    split at hk
    · rename_i s_0_0 s_0_1 o_1_0 o_1_1
      exact ⟨_, id, g_wrapping_shift_plus.x s_0_0 s_0_1 o_1_0 o_1_1 h K'⟩
    · exact hk.elim

theorem g_wrapping_Torus_find_f1.x (v_0 : Int) (c_0 : Addr) (c_1 : Addr) (c_2 : Addr) (h : Hp) (K : Value → Hp → Prop) : (g_wrapping_Torus_find_f1 v_0 c_0 c_1 c_2 h (fun h => K (.tuple #[]) h)) = xfnD Try.prog [(42, g_wrapping_shift_plus.c)] [] Try.f56 .z [.int .i64 v_0, .pointer (some c_0), .pointer (some c_1), .pointer (some c_2)] h K := by kernel_rfl

theorem g_wrapping_Torus_find_f1.ok : OkFn Try.prog 56 g_wrapping_Torus_find_f1.c ∧ MonoC g_wrapping_Torus_find_f1.c := by
  refine xfnD_okm (an := .z) wide_ok (OkTab.cons g_wrapping_shift_plus.ok (by kernel_rfl) (OkTab.nil _)) (OkTabI.nil _) Try.func56 (fun vs h K hk => ?_) (fun vs h K K' hk => ?_)
  · unfold g_wrapping_Torus_find_f1.c at hk
    split at hk
    · rename_i v_0 c_0 c_1 c_2
      exact ⟨_, hk, Nat.le_of_ble_eq_true rfl, g_wrapping_Torus_find_f1.x v_0 c_0 c_1 c_2 h K⟩
    · exact hk.elim
  · unfold g_wrapping_Torus_find_f1.c at hk ⊢
    split at hk
    · rename_i v_0 c_0 c_1 c_2
      exact ⟨_, id, g_wrapping_Torus_find_f1.x v_0 c_0 c_1 c_2 h K'⟩
    · exact hk.elim

theorem g_wrapping_Torus_find.x (t_0 : Option Addr) (v_1 : Int) (h : Hp) (K : Value → Hp → Prop) : (g_wrapping_Torus_find t_0 v_1 h (fun r0 r1 r2 h => K (.tuple #[.int .i64 r0, .agg #[.int .i64 r1, .int .i64 r2]]) h)) = xfnD Try.prog [(57, g_slices_Backward_int.c), (56, g_wrapping_Torus_find_f1.c)] [(66, g_slices_Backward_f1_int.c)] Try.f41 (.sq .z (.sq .z (.sq .z (.sq (.bl (.lp .z [(7, .sc .slice)])) (.sq .z (.sq .z (.sq (.sq .z (.bl (.sq .z .z (some [(36, .sc (.int .i64)), (37, .sc (.int .i64))]))) none) .z none) none) none) (some [(7, .sc .slice)])) none) none) none) [.pointer t_0, .int .i64 v_1] h K := by kernel_rfl

theorem g_wrapping_Torus_find.ok : OkFn Try.prog 41 g_wrapping_Torus_find.c ∧ MonoC g_wrapping_Torus_find.c := by
  refine xfnD_okm (an := (.sq .z (.sq .z (.sq .z (.sq (.bl (.lp .z [(7, .sc .slice)])) (.sq .z (.sq .z (.sq (.sq .z (.bl (.sq .z .z (some [(36, .sc (.int .i64)), (37, .sc (.int .i64))]))) none) .z none) none) none) (some [(7, .sc .slice)])) none) none) none)) wide_ok (OkTab.cons g_slices_Backward_int.ok (by kernel_rfl) (OkTab.cons g_wrapping_Torus_find_f1.ok (by kernel_rfl) (OkTab.nil _))) (OkTabI.cons g_slices_Backward_f1_int.ok (OkTabI.nil _)) Try.func41 (fun vs h K hk => ?_) (fun vs h K K' hk => ?_)
  · unfold g_wrapping_Torus_find.c at hk
    split at hk
    · rename_i t_0 v_1
      exact ⟨_, hk, Nat.le_of_ble_eq_true rfl, g_wrapping_Torus_find.x t_0 v_1 h K⟩
    · exact hk.elim
  · unfold g_wrapping_Torus_find.c at hk ⊢
    split at hk
    · rename_i t_0 v_1
      exact ⟨_, id, g_wrapping_Torus_find.x t_0 v_1 h K'⟩
    · exact hk.elim

theorem g_wrapping_shift_minus.x (s_0_0 : Int) (s_0_1 : Int) (o_1_0 : Int) (o_1_1 : Int) (h : Hp) (K : Value → Hp → Prop) : (g_wrapping_shift_minus s_0_0 s_0_1 o_1_0 o_1_1 h (fun r0 r1 h => K (.agg #[.int .i64 r0, .int .i64 r1]) h)) = xfnD Try.prog [] [] Try.f43 .z [.agg #[.int .i64 s_0_0, .int .i64 s_0_1], .agg #[.int .i64 o_1_0, .int .i64 o_1_1]] h K := by kernel_rfl

theorem g_wrapping_shift_minus.ok : OkFn Try.prog 43 g_wrapping_shift_minus.c ∧ MonoC g_wrapping_shift_minus.c := by
  refine xfnD_okm (an := .z) wide_ok (OkTab.nil _) (OkTabI.nil _) Try.func43 (fun vs h K hk => ?_) (fun vs h K K' hk => ?_)
  · unfold g_wrapping_shift_minus.c at hk
    split at hk
    · rename_i s_0_0 s_0_1 o_1_0 o_1_1
      exact ⟨_, hk, Nat.le_of_ble_eq_true rfl, g_wrapping_shift_minus.x s_0_0 s_0_1 o_1_0 o_1_1 h K⟩
    · exact hk.elim
  · unfold g_wrapping_shift_minus.c at hk ⊢
    split at hk
    · rename_i s_0_0 s_0_1 o_1_0 o_1_1
      exact ⟨_, id, g_wrapping_shift_minus.x s_0_0 s_0_1 o_1_0 o_1_1 h K'⟩
    · exact hk.elim

theorem g_wrapping_Torus_Add.x (x_0 : Option Addr) (x_1 : Int) (x_2 : Int) (x_3 : Int) (h : Hp) (K : Value → Hp → Prop) : (g_wrapping_Torus_Add x_0 x_1 x_2 x_3 h (fun r0 r1 h => K (.tuple #[.bool r0, .int .i64 r1]) h)) = xfnD Try.prog [(41, g_wrapping_Torus_find.c), (43, g_wrapping_shift_minus.c), (42, g_wrapping_shift_plus.c)] [] Try.f20 (.sq .z (.sq (.bl (.sq .z (.cd .z (.sq .z .z (some [(31, .sc .bool)]))) (some [(21, .sc .bool)]))) (.sq .z (.sq .z (.sq .z (.sq .z (.sq .z (.sq (.sq .z (.cd (.sq (.sq .z (.bl (.lp (.sq .z (.sq .z (.sq (.bl (.sq .z .z (some [(18, .sc (.int .i64)), (19, .sc (.int .i64))]))) .z none) none) none) [(122, .sc (.int .i64))])) none) .z none) .z) none) (.sq .z (.sq .z (.sq .z (.sq (.sq .z (.bl (.lp .z [(192, .sc (.int .i64))])) none) .z (some [])) none) none) (some [(13, .sc (.int .i64)), (15, .sc (.int .i64))])) (some [])) (some [(17, .sc .adr)])) none) none) (some [(11, .sc (.int .i64))])) none) none) none) [.pointer x_0, .int .i64 x_1, .int .i64 x_2, .int .i64 x_3] h K := by kernel_rfl

theorem g_wrapping_Torus_Add.ok : OkFn Try.prog 20 g_wrapping_Torus_Add.c ∧ MonoC g_wrapping_Torus_Add.c := by
  refine xfnD_okm (an := (.sq .z (.sq (.bl (.sq .z (.cd .z (.sq .z .z (some [(31, .sc .bool)]))) (some [(21, .sc .bool)]))) (.sq .z (.sq .z (.sq .z (.sq .z (.sq .z (.sq (.sq .z (.cd (.sq (.sq .z (.bl (.lp (.sq .z (.sq .z (.sq (.bl (.sq .z .z (some [(18, .sc (.int .i64)), (19, .sc (.int .i64))]))) .z none) none) none) [(122, .sc (.int .i64))])) none) .z none) .z) none) (.sq .z (.sq .z (.sq .z (.sq (.sq .z (.bl (.lp .z [(192, .sc (.int .i64))])) none) .z (some [])) none) none) (some [(13, .sc (.int .i64)), (15, .sc (.int .i64))])) (some [])) (some [(17, .sc .adr)])) none) none) (some [(11, .sc (.int .i64))])) none) none) none)) wide_ok (OkTab.cons g_wrapping_Torus_find.ok (by kernel_rfl) (OkTab.cons g_wrapping_shift_minus.ok (by kernel_rfl) (OkTab.cons g_wrapping_shift_plus.ok (by kernel_rfl) (OkTab.nil _)))) (OkTabI.nil _) Try.func20 (fun vs h K hk => ?_) (fun vs h K K' hk => ?_)
  · unfold g_wrapping_Torus_Add.c at hk
    split at hk
    · rename_i x_0 x_1 x_2 x_3
      exact ⟨_, hk, Nat.le_of_ble_eq_true rfl, g_wrapping_Torus_Add.x x_0 x_1 x_2 x_3 h K⟩
    · exact hk.elim
  · unfold g_wrapping_Torus_Add.c at hk ⊢
    split at hk
    · rename_i x_0 x_1 x_2 x_3
      exact ⟨_, id, g_wrapping_Torus_Add.x x_0 x_1 x_2 x_3 h K'⟩
    · exact hk.elim

theorem g_wrapping_Torus_exists.x (t_0 : Option Addr) (a_1 : Int) (b_2 : Int) (h : Hp) (K : Value → Hp → Prop) : (g_wrapping_Torus_exists t_0 a_1 b_2 h (fun r0 h => K (.bool r0) h)) = xfnD Try.prog [] [] Try.f47 .z [.pointer t_0, .int .i64 a_1, .int .i64 b_2] h K := by kernel_rfl

theorem g_wrapping_Torus_exists.ok : OkFn Try.prog 47 g_wrapping_Torus_exists.c ∧ MonoC g_wrapping_Torus_exists.c := by
  refine xfnD_okm (an := .z) wide_ok (OkTab.nil _) (OkTabI.nil _) Try.func47 (fun vs h K hk => ?_) (fun vs h K K' hk => ?_)
  · unfold g_wrapping_Torus_exists.c at hk
    split at hk
    · rename_i t_0 a_1 b_2
      exact ⟨_, hk, Nat.le_of_ble_eq_true rfl, g_wrapping_Torus_exists.x t_0 a_1 b_2 h K⟩
    · exact hk.elim
  · unfold g_wrapping_Torus_exists.c at hk ⊢
    split at hk
    · rename_i t_0 a_1 b_2
      exact ⟨_, id, g_wrapping_Torus_exists.x t_0 a_1 b_2 h K'⟩
    · exact hk.elim

theorem g_wrapping_Torus_Same.x (t_0 : Option Addr) (a_1 : Int) (b_2 : Int) (h : Hp) (K : Value → Hp → Prop) : (g_wrapping_Torus_Same t_0 a_1 b_2 h (fun r0 h => K (.bool r0) h)) = xfnD Try.prog [(47, g_wrapping_Torus_exists.c), (41, g_wrapping_Torus_find.c)] [] Try.f27 .z [.pointer t_0, .int .i64 a_1, .int .i64 b_2] h K := by kernel_rfl

theorem g_wrapping_Torus_Same.ok : OkFn Try.prog 27 g_wrapping_Torus_Same.c ∧ MonoC g_wrapping_Torus_Same.c := by
  refine xfnD_okm (an := .z) wide_ok (OkTab.cons g_wrapping_Torus_exists.ok (by kernel_rfl) (OkTab.cons g_wrapping_Torus_find.ok (by kernel_rfl) (OkTab.nil _))) (OkTabI.nil _) Try.func27 (fun vs h K hk => ?_) (fun vs h K K' hk => ?_)
  · unfold g_wrapping_Torus_Same.c at hk
    split at hk
    · rename_i t_0 a_1 b_2
      exact ⟨_, hk, Nat.le_of_ble_eq_true rfl, g_wrapping_Torus_Same.x t_0 a_1 b_2 h K⟩
    · exact hk.elim
  · unfold g_wrapping_Torus_Same.c at hk ⊢
    split at hk
    · rename_i t_0 a_1 b_2
      exact ⟨_, id, g_wrapping_Torus_Same.x t_0 a_1 b_2 h K'⟩
    · exact hk.elim

theorem g_wrapping_Torus_Offset.x (t_0 : Option Addr) (a_1 : Int) (b_2 : Int) (h : Hp) (K : Value → Hp → Prop) : (g_wrapping_Torus_Offset t_0 a_1 b_2 h (fun r0 r1 r2 h => K (.tuple #[.int .i64 r0, .int .i64 r1, .bool r2]) h)) = xfnD Try.prog [(27, g_wrapping_Torus_Same.c), (41, g_wrapping_Torus_find.c), (43, g_wrapping_shift_minus.c)] [] Try.f26 .z [.pointer t_0, .int .i64 a_1, .int .i64 b_2] h K := by kernel_rfl

theorem g_wrapping_Torus_Offset.ok : OkFn Try.prog 26 g_wrapping_Torus_Offset.c ∧ MonoC g_wrapping_Torus_Offset.c := by
  refine xfnD_okm (an := .z) wide_ok (OkTab.cons g_wrapping_Torus_Same.ok (by kernel_rfl) (OkTab.cons g_wrapping_Torus_find.ok (by kernel_rfl) (OkTab.cons g_wrapping_shift_minus.ok (by kernel_rfl) (OkTab.nil _)))) (OkTabI.nil _) Try.func26 (fun vs h K hk => ?_) (fun vs h K K' hk => ?_)
  · unfold g_wrapping_Torus_Offset.c at hk
    split at hk
    · rename_i t_0 a_1 b_2
      exact ⟨_, hk, Nat.le_of_ble_eq_true rfl, g_wrapping_Torus_Offset.x t_0 a_1 b_2 h K⟩
    · exact hk.elim
  · unfold g_wrapping_Torus_Offset.c at hk ⊢
    split at hk
    · rename_i t_0 a_1 b_2
      exact ⟨_, id, g_wrapping_Torus_Offset.x t_0 a_1 b_2 h K'⟩
    · exact hk.elim

theorem g_wrapping_Torus_Wraps.x (t_0 : Option Addr) (h : Hp) (K : Value → Hp → Prop) : (g_wrapping_Torus_Wraps t_0 h (fun r0 r1 h => K (.tuple #[.bool r0, .bool r1]) h)) = xfnD Try.prog [] [] Try.f25 .z [.pointer t_0] h K := by kernel_rfl

theorem g_wrapping_Torus_Wraps.ok : OkFn Try.prog 25 g_wrapping_Torus_Wraps.c ∧ MonoC g_wrapping_Torus_Wraps.c := by
  refine xfnD_okm (an := .z) wide_ok (OkTab.nil _) (OkTabI.nil _) Try.func25 (fun vs h K hk => ?_) (fun vs h K K' hk => ?_)
  · unfold g_wrapping_Torus_Wraps.c at hk
    split at hk
    · rename_i t_0
      exact ⟨_, hk, Nat.le_of_ble_eq_true rfl, g_wrapping_Torus_Wraps.x t_0 h K⟩
    · exact hk.elim
  · unfold g_wrapping_Torus_Wraps.c at hk ⊢
    split at hk
    · rename_i t_0
      exact ⟨_, id, g_wrapping_Torus_Wraps.x t_0 h K'⟩
    · exact hk.elim

theorem g_wrapping_First.x (x_0 : Int) (x_1 : Int) (x_2 : Sl) (h : Hp) (K : Value → Hp → Prop) : (g_wrapping_First x_0 x_1 x_2 h (fun r0 r1 r2 h => K (.tuple #[.int .i64 r0, .bool r1, .int .i64 r2]) h)) = xfnD Try.prog [(17, g_wrapping_New.c), (20, g_wrapping_Torus_Add.c)] [] Try.f23 (.sq .z (.sq .z (.sq .z (.sq .z (.sq (.sq .z (.bl (.lp .z [(32, .sc (.int .i64))])) none) (.sq (.sq .z (.bl (.lp .z [(56, .sc (.int .i64))])) none) .z none) (some [])) none) none) none) none) [.int .i64 x_0, .int .i64 x_1, .slice x_2.a x_2.n x_2.c] h K := by kernel_rfl

theorem g_wrapping_First.ok : OkFn Try.prog 23 g_wrapping_First.c ∧ MonoC g_wrapping_First.c := by
  refine xfnD_okm (an := (.sq .z (.sq .z (.sq .z (.sq .z (.sq (.sq .z (.bl (.lp .z [(32, .sc (.int .i64))])) none) (.sq (.sq .z (.bl (.lp .z [(56, .sc (.int .i64))])) none) .z none) (some [])) none) none) none) none)) wide_ok (OkTab.cons g_wrapping_New.ok (by kernel_rfl) (OkTab.cons g_wrapping_Torus_Add.ok (by kernel_rfl) (OkTab.nil _))) (OkTabI.nil _) Try.func23 (fun vs h K hk => ?_) (fun vs h K K' hk => ?_)
  · unfold g_wrapping_First.c at hk
    split at hk
    · rename_i x_0 x_1 x_2_a x_2_n x_2_c
      exact ⟨_, hk, Nat.le_of_ble_eq_true rfl, g_wrapping_First.x x_0 x_1 (⟨x_2_a, x_2_n, x_2_c⟩ : Sl) h K⟩
    · exact hk.elim
  · unfold g_wrapping_First.c at hk ⊢
    split at hk
    · rename_i x_0 x_1 x_2_a x_2_n x_2_c
      exact ⟨_, id, g_wrapping_First.x x_0 x_1 (⟨x_2_a, x_2_n, x_2_c⟩ : Sl) h K'⟩
    · exact hk.elim

theorem g_wrapping_Torus_Count.x (t_0 : Option Addr) (h : Hp) (K : Value → Hp → Prop) : (g_wrapping_Torus_Count t_0 h (fun r0 h => K (.int .i64 r0) h)) = xfnD Try.prog [] [] Try.f28 .z [.pointer t_0] h K := by kernel_rfl

theorem g_wrapping_Torus_Count.ok : OkFn Try.prog 28 g_wrapping_Torus_Count.c ∧ MonoC g_wrapping_Torus_Count.c := by
  refine xfnD_okm (an := .z) wide_ok (OkTab.nil _) (OkTabI.nil _) Try.func28 (fun vs h K hk => ?_) (fun vs h K K' hk => ?_)
  · unfold g_wrapping_Torus_Count.c at hk
    split at hk
    · rename_i t_0
      exact ⟨_, hk, Nat.le_of_ble_eq_true rfl, g_wrapping_Torus_Count.x t_0 h K⟩
    · exact hk.elim
  · unfold g_wrapping_Torus_Count.c at hk ⊢
    split at hk
    · rename_i t_0
      exact ⟨_, id, g_wrapping_Torus_Count.x t_0 h K'⟩
    · exact hk.elim

theorem g_law30_works.x (h : Hp) (K : Value → Hp → Prop) : (g_law30_works h (fun r0 h => K (.bool r0) h)) = xfnD Try.prog [(17, g_wrapping_New.c), (20, g_wrapping_Torus_Add.c), (26, g_wrapping_Torus_Offset.c), (25, g_wrapping_Torus_Wraps.c), (23, g_wrapping_First.c), (28, g_wrapping_Torus_Count.c)] [] Try.f16 .z [] h K := by kernel_rfl

theorem g_law30_works.ok : OkFn Try.prog 16 g_law30_works.c ∧ MonoC g_law30_works.c := by
  refine xfnD_okm (an := .z) wide_ok (OkTab.cons g_wrapping_New.ok (by kernel_rfl) (OkTab.cons g_wrapping_Torus_Add.ok (by kernel_rfl) (OkTab.cons g_wrapping_Torus_Offset.ok (by kernel_rfl) (OkTab.cons g_wrapping_Torus_Wraps.ok (by kernel_rfl) (OkTab.cons g_wrapping_First.ok (by kernel_rfl) (OkTab.cons g_wrapping_Torus_Count.ok (by kernel_rfl) (OkTab.nil _))))))) (OkTabI.nil _) Try.func16 (fun vs h K hk => ?_) (fun vs h K K' hk => ?_)
  · unfold g_law30_works.c at hk
    split at hk
    · exact ⟨_, hk, Nat.le_of_ble_eq_true rfl, g_law30_works.x  h K⟩
    · exact hk.elim
  · unfold g_law30_works.c at hk ⊢
    split at hk
    · exact ⟨_, id, g_law30_works.x  h K'⟩
    · exact hk.elim

theorem g_ref30_New.x (w_0 : Int) (h_1 : Int) (h : Hp) (K : Value → Hp → Prop) : (g_ref30_New w_0 h_1 h (fun r0 r1 h => K (.tuple #[.pointer r0, .int .i64 r1]) h)) = xfnD Try.prog [(22, g_ref30_Sizes.c)] [] Try.f18 .z [.int .i64 w_0, .int .i64 h_1] h K := by kernel_rfl

theorem g_ref30_New.ok : OkFn Try.prog 18 g_ref30_New.c ∧ MonoC g_ref30_New.c := by
  refine xfnD_okm (an := .z) wide_ok (OkTab.cons g_ref30_Sizes.ok (by kernel_rfl) (OkTab.nil _)) (OkTabI.nil _) Try.func18 (fun vs h K hk => ?_) (fun vs h K K' hk => ?_)
  · unfold g_ref30_New.c at hk
    split at hk
    · rename_i w_0 h_1
      exact ⟨_, hk, Nat.le_of_ble_eq_true rfl, g_ref30_New.x w_0 h_1 h K⟩
    · exact hk.elim
  · unfold g_ref30_New.c at hk ⊢
    split at hk
    · rename_i w_0 h_1
      exact ⟨_, id, g_ref30_New.x w_0 h_1 h K'⟩
    · exact hk.elim

theorem g_ref30_Torus_valid.x (t_0 : Option Addr) (h : Hp) (K : Value → Hp → Prop) : (g_ref30_Torus_valid t_0 h (fun r0 h => K (.bool r0) h)) = xfnD Try.prog [] [] Try.f44 .z [.pointer t_0] h K := by kernel_rfl

theorem g_ref30_Torus_valid.ok : OkFn Try.prog 44 g_ref30_Torus_valid.c ∧ MonoC g_ref30_Torus_valid.c := by
  refine xfnD_okm (an := .z) wide_ok (OkTab.nil _) (OkTabI.nil _) Try.func44 (fun vs h K hk => ?_) (fun vs h K K' hk => ?_)
  · unfold g_ref30_Torus_valid.c at hk
    split at hk
    · rename_i t_0
      exact ⟨_, hk, Nat.le_of_ble_eq_true rfl, g_ref30_Torus_valid.x t_0 h K⟩
    · exact hk.elim
  · unfold g_ref30_Torus_valid.c at hk ⊢
    split at hk
    · rename_i t_0
      exact ⟨_, id, g_ref30_Torus_valid.x t_0 h K'⟩
    · exact hk.elim

theorem g_ref30_Torus_ends.x (t_0 : Option Addr) (edge_1 : Int) (h : Hp) (K : Value → Hp → Prop) : (g_ref30_Torus_ends t_0 edge_1 h (fun r0 r1 h => K (.tuple #[.int .i64 r0, .int .i64 r1]) h)) = xfnD Try.prog [] [] Try.f45 .z [.pointer t_0, .int .i64 edge_1] h K := by kernel_rfl

theorem g_ref30_Torus_ends.ok : OkFn Try.prog 45 g_ref30_Torus_ends.c ∧ MonoC g_ref30_Torus_ends.c := by
  refine xfnD_okm (an := .z) wide_ok (OkTab.nil _) (OkTabI.nil _) Try.func45 (fun vs h K hk => ?_) (fun vs h K K' hk => ?_)
  · unfold g_ref30_Torus_ends.c at hk
    split at hk
    · rename_i t_0 edge_1
      exact ⟨_, hk, Nat.le_of_ble_eq_true rfl, g_ref30_Torus_ends.x t_0 edge_1 h K⟩
    · exact hk.elim
  · unfold g_ref30_Torus_ends.c at hk ⊢
    split at hk
    · rename_i t_0 edge_1
      exact ⟨_, id, g_ref30_Torus_ends.x t_0 edge_1 h K'⟩
    · exact hk.elim

theorem g_ref30_Torus_walked.x (x_0 : Option Addr) (h : Hp) (K : Value → Hp → Prop) : (g_ref30_Torus_walked x_0 h (fun r0 r1 r2 h => K (.agg #[.slice r0.a r0.n r0.c, .slice r1.a r1.n r1.c, .slice r2.a r2.n r2.c]) h)) = xfnD Try.prog [(45, g_ref30_Torus_ends.c)] [] Try.f46 (.sq .z (.sq .z (.sq .z (.sq (.sq .z (.bl (.lp .z [(5, .sc (.int .i64))])) none) (.sq (.sq .z (.bl (.lp (.sq .z (.sq (.bl (.sq .z (.sq .z (.sq .z (.bl (.lp (.sq .z (.bl (.sq .z (.sq .z (.bl (.lp (.sq .z (.sq (.bl (.sq .z (.sq .z (.sq .z (.sq (.sq .z .z (some [(94, .sc .bool)])) (.sq .z .z (some [(136, .sc .bool)])) (some [(7, .sc .bool)])) none) none) none)) .z none) none) [(7, .sc .bool), (8, .sc (.int .i64))])) none) none)) none) [(7, .sc .bool)])) none) none) none)) .z none) none) [(6, .sc (.int .i64))])) none) .z none) (some [])) (some [(4, .sc .adr)])) none) none) [.pointer x_0] h K := by kernel_rfl

theorem g_ref30_Torus_walked.ok : OkFn Try.prog 46 g_ref30_Torus_walked.c ∧ MonoC g_ref30_Torus_walked.c := by
  refine xfnD_okm (an := (.sq .z (.sq .z (.sq .z (.sq (.sq .z (.bl (.lp .z [(5, .sc (.int .i64))])) none) (.sq (.sq .z (.bl (.lp (.sq .z (.sq (.bl (.sq .z (.sq .z (.sq .z (.bl (.lp (.sq .z (.bl (.sq .z (.sq .z (.bl (.lp (.sq .z (.sq (.bl (.sq .z (.sq .z (.sq .z (.sq (.sq .z .z (some [(94, .sc .bool)])) (.sq .z .z (some [(136, .sc .bool)])) (some [(7, .sc .bool)])) none) none) none)) .z none) none) [(7, .sc .bool), (8, .sc (.int .i64))])) none) none)) none) [(7, .sc .bool)])) none) none) none)) .z none) none) [(6, .sc (.int .i64))])) none) .z none) (some [])) (some [(4, .sc .adr)])) none) none)) wide_ok (OkTab.cons g_ref30_Torus_ends.ok (by kernel_rfl) (OkTab.nil _)) (OkTabI.nil _) Try.func46 (fun vs h K hk => ?_) (fun vs h K K' hk => ?_)
  · unfold g_ref30_Torus_walked.c at hk
    split at hk
    · rename_i x_0
      exact ⟨_, hk, Nat.le_of_ble_eq_true rfl, g_ref30_Torus_walked.x x_0 h K⟩
    · exact hk.elim
  · unfold g_ref30_Torus_walked.c at hk ⊢
    split at hk
    · rename_i x_0
      exact ⟨_, id, g_ref30_Torus_walked.x x_0 h K'⟩
    · exact hk.elim

theorem g_ref30_Torus_closed.x (x_0 : Option Addr) (x_1_0 : Sl) (x_1_1 : Sl) (x_1_2 : Sl) (x_2 : Int) (h : Hp) (K : Value → Hp → Prop) : (g_ref30_Torus_closed x_0 x_1_0 x_1_1 x_1_2 x_2 h (fun r0 r1 h => K (.tuple #[.bool r0, .bool r1]) h)) = xfnD Try.prog [(45, g_ref30_Torus_ends.c)] [] Try.f54 (.sq .z (.sq .z (.sq (.sq .z (.bl (.lp (.sq .z (.sq (.bl (.sq .z (.sq .z (.sq .z .z (some [(8, .sc .bool)])) (some [])) none)) .z none) none) [(8, .sc .bool), (9, .sc .bool), (10, .sc (.int .i64))])) none) .z (some [(8, .sc .bool), (9, .sc .bool)])) none) none) [.pointer x_0, .agg #[.slice x_1_0.a x_1_0.n x_1_0.c, .slice x_1_1.a x_1_1.n x_1_1.c, .slice x_1_2.a x_1_2.n x_1_2.c], .int .i64 x_2] h K := by kernel_rfl

theorem g_ref30_Torus_closed.ok : OkFn Try.prog 54 g_ref30_Torus_closed.c ∧ MonoC g_ref30_Torus_closed.c := by
  refine xfnD_okm (an := (.sq .z (.sq .z (.sq (.sq .z (.bl (.lp (.sq .z (.sq (.bl (.sq .z (.sq .z (.sq .z .z (some [(8, .sc .bool)])) (some [])) none)) .z none) none) [(8, .sc .bool), (9, .sc .bool), (10, .sc (.int .i64))])) none) .z (some [(8, .sc .bool), (9, .sc .bool)])) none) none)) wide_ok (OkTab.cons g_ref30_Torus_ends.ok (by kernel_rfl) (OkTab.nil _)) (OkTabI.nil _) Try.func54 (fun vs h K hk => ?_) (fun vs h K K' hk => ?_)
  · unfold g_ref30_Torus_closed.c at hk
    split at hk
    · rename_i x_0 x_1_0_a x_1_0_n x_1_0_c x_1_1_a x_1_1_n x_1_1_c x_1_2_a x_1_2_n x_1_2_c x_2
      exact ⟨_, hk, Nat.le_of_ble_eq_true rfl, g_ref30_Torus_closed.x x_0 (⟨x_1_0_a, x_1_0_n, x_1_0_c⟩ : Sl) (⟨x_1_1_a, x_1_1_n, x_1_1_c⟩ : Sl) (⟨x_1_2_a, x_1_2_n, x_1_2_c⟩ : Sl) x_2 h K⟩
    · exact hk.elim
  · unfold g_ref30_Torus_closed.c at hk ⊢
    split at hk
    · rename_i x_0 x_1_0_a x_1_0_n x_1_0_c x_1_1_a x_1_1_n x_1_1_c x_1_2_a x_1_2_n x_1_2_c x_2
      exact ⟨_, id, g_ref30_Torus_closed.x x_0 (⟨x_1_0_a, x_1_0_n, x_1_0_c⟩ : Sl) (⟨x_1_1_a, x_1_1_n, x_1_1_c⟩ : Sl) (⟨x_1_2_a, x_1_2_n, x_1_2_c⟩ : Sl) x_2 h K'⟩
    · exact hk.elim

theorem g_ref30_Torus_Wraps.x (t_0 : Option Addr) (h : Hp) (K : Value → Hp → Prop) : (g_ref30_Torus_Wraps t_0 h (fun r0 r1 h => K (.tuple #[.bool r0, .bool r1]) h)) = xfnD Try.prog [(44, g_ref30_Torus_valid.c), (46, g_ref30_Torus_walked.c), (54, g_ref30_Torus_closed.c)] [] Try.f37 .z [.pointer t_0] h K := by kernel_rfl

theorem g_ref30_Torus_Wraps.ok : OkFn Try.prog 37 g_ref30_Torus_Wraps.c ∧ MonoC g_ref30_Torus_Wraps.c := by
  refine xfnD_okm (an := .z) wide_ok (OkTab.cons g_ref30_Torus_valid.ok (by kernel_rfl) (OkTab.cons g_ref30_Torus_walked.ok (by kernel_rfl) (OkTab.cons g_ref30_Torus_closed.ok (by kernel_rfl) (OkTab.nil _)))) (OkTabI.nil _) Try.func37 (fun vs h K hk => ?_) (fun vs h K K' hk => ?_)
  · unfold g_ref30_Torus_Wraps.c at hk
    split at hk
    · rename_i t_0
      exact ⟨_, hk, Nat.le_of_ble_eq_true rfl, g_ref30_Torus_Wraps.x t_0 h K⟩
    · exact hk.elim
  · unfold g_ref30_Torus_Wraps.c at hk ⊢
    split at hk
    · rename_i t_0
      exact ⟨_, id, g_ref30_Torus_Wraps.x t_0 h K'⟩
    · exact hk.elim

theorem g_ref30_Torus_exists.x (t_0 : Option Addr) (v_1 : Int) (h : Hp) (K : Value → Hp → Prop) : (g_ref30_Torus_exists t_0 v_1 h (fun r0 h => K (.bool r0) h)) = xfnD Try.prog [(44, g_ref30_Torus_valid.c)] [] Try.f55 .z [.pointer t_0, .int .i64 v_1] h K := by kernel_rfl

theorem g_ref30_Torus_exists.ok : OkFn Try.prog 55 g_ref30_Torus_exists.c ∧ MonoC g_ref30_Torus_exists.c := by
  refine xfnD_okm (an := .z) wide_ok (OkTab.cons g_ref30_Torus_valid.ok (by kernel_rfl) (OkTab.nil _)) (OkTabI.nil _) Try.func55 (fun vs h K hk => ?_) (fun vs h K K' hk => ?_)
  · unfold g_ref30_Torus_exists.c at hk
    split at hk
    · rename_i t_0 v_1
      exact ⟨_, hk, Nat.le_of_ble_eq_true rfl, g_ref30_Torus_exists.x t_0 v_1 h K⟩
    · exact hk.elim
  · unfold g_ref30_Torus_exists.c at hk ⊢
    split at hk
    · rename_i t_0 v_1
      exact ⟨_, id, g_ref30_Torus_exists.x t_0 v_1 h K'⟩
    · exact hk.elim

theorem g_ref30_Torus_Same.x (t_0 : Option Addr) (a_1 : Int) (b_2 : Int) (h : Hp) (K : Value → Hp → Prop) : (g_ref30_Torus_Same t_0 a_1 b_2 h (fun r0 h => K (.bool r0) h)) = xfnD Try.prog [(55, g_ref30_Torus_exists.c), (46, g_ref30_Torus_walked.c)] [] Try.f39 .z [.pointer t_0, .int .i64 a_1, .int .i64 b_2] h K := by kernel_rfl

theorem g_ref30_Torus_Same.ok : OkFn Try.prog 39 g_ref30_Torus_Same.c ∧ MonoC g_ref30_Torus_Same.c := by
  refine xfnD_okm (an := .z) wide_ok (OkTab.cons g_ref30_Torus_exists.ok (by kernel_rfl) (OkTab.cons g_ref30_Torus_walked.ok (by kernel_rfl) (OkTab.nil _))) (OkTabI.nil _) Try.func39 (fun vs h K hk => ?_) (fun vs h K K' hk => ?_)
  · unfold g_ref30_Torus_Same.c at hk
    split at hk
    · rename_i t_0 a_1 b_2
      exact ⟨_, hk, Nat.le_of_ble_eq_true rfl, g_ref30_Torus_Same.x t_0 a_1 b_2 h K⟩
    · exact hk.elim
  · unfold g_ref30_Torus_Same.c at hk ⊢
    split at hk
    · rename_i t_0 a_1 b_2
      exact ⟨_, id, g_ref30_Torus_Same.x t_0 a_1 b_2 h K'⟩
    · exact hk.elim

theorem g_ref30_Torus_Offset.x (t_0 : Option Addr) (a_1 : Int) (b_2 : Int) (h : Hp) (K : Value → Hp → Prop) : (g_ref30_Torus_Offset t_0 a_1 b_2 h (fun r0 r1 r2 h => K (.tuple #[.int .i64 r0, .int .i64 r1, .bool r2]) h)) = xfnD Try.prog [(39, g_ref30_Torus_Same.c), (46, g_ref30_Torus_walked.c), (54, g_ref30_Torus_closed.c)] [] Try.f38 .z [.pointer t_0, .int .i64 a_1, .int .i64 b_2] h K := by kernel_rfl

theorem g_ref30_Torus_Offset.ok : OkFn Try.prog 38 g_ref30_Torus_Offset.c ∧ MonoC g_ref30_Torus_Offset.c := by
  refine xfnD_okm (an := .z) wide_ok (OkTab.cons g_ref30_Torus_Same.ok (by kernel_rfl) (OkTab.cons g_ref30_Torus_walked.ok (by kernel_rfl) (OkTab.cons g_ref30_Torus_closed.ok (by kernel_rfl) (OkTab.nil _)))) (OkTabI.nil _) Try.func38 (fun vs h K hk => ?_) (fun vs h K K' hk => ?_)
  · unfold g_ref30_Torus_Offset.c at hk
    split at hk
    · rename_i t_0 a_1 b_2
      exact ⟨_, hk, Nat.le_of_ble_eq_true rfl, g_ref30_Torus_Offset.x t_0 a_1 b_2 h K⟩
    · exact hk.elim
  · unfold g_ref30_Torus_Offset.c at hk ⊢
    split at hk
    · rename_i t_0 a_1 b_2
      exact ⟨_, id, g_ref30_Torus_Offset.x t_0 a_1 b_2 h K'⟩
    · exact hk.elim

theorem g_ref30_Torus_Count.x (t_0 : Option Addr) (h : Hp) (K : Value → Hp → Prop) : (g_ref30_Torus_Count t_0 h (fun r0 h => K (.int .i64 r0) h)) = xfnD Try.prog [(44, g_ref30_Torus_valid.c), (46, g_ref30_Torus_walked.c)] [] Try.f40 (.sq .z (.sq .z (.sq .z (.sq .z (.sq (.sq .z (.bl (.lp .z [(3, .sc (.int .i64)), (5, .sc (.int .i64))])) none) .z none) none) none) none) none) [.pointer t_0] h K := by kernel_rfl

theorem g_ref30_Torus_Count.ok : OkFn Try.prog 40 g_ref30_Torus_Count.c ∧ MonoC g_ref30_Torus_Count.c := by
  refine xfnD_okm (an := (.sq .z (.sq .z (.sq .z (.sq .z (.sq (.sq .z (.bl (.lp .z [(3, .sc (.int .i64)), (5, .sc (.int .i64))])) none) .z none) none) none) none) none)) wide_ok (OkTab.cons g_ref30_Torus_valid.ok (by kernel_rfl) (OkTab.cons g_ref30_Torus_walked.ok (by kernel_rfl) (OkTab.nil _))) (OkTabI.nil _) Try.func40 (fun vs h K hk => ?_) (fun vs h K K' hk => ?_)
  · unfold g_ref30_Torus_Count.c at hk
    split at hk
    · rename_i t_0
      exact ⟨_, hk, Nat.le_of_ble_eq_true rfl, g_ref30_Torus_Count.x t_0 h K⟩
    · exact hk.elim
  · unfold g_ref30_Torus_Count.c at hk ⊢
    split at hk
    · rename_i t_0
      exact ⟨_, id, g_ref30_Torus_Count.x t_0 h K'⟩
    · exact hk.elim

theorem g_law30_agree.x (x_0 : Option Addr) (x_1 : Option Addr) (x_2 : Int) (x_3 : Int) (h : Hp) (K : Value → Hp → Prop) : (g_law30_agree x_0 x_1 x_2 x_3 h (fun r0 h => K (.bool r0) h)) = xfnD Try.prog [(25, g_wrapping_Torus_Wraps.c), (37, g_ref30_Torus_Wraps.c), (26, g_wrapping_Torus_Offset.c), (38, g_ref30_Torus_Offset.c), (27, g_wrapping_Torus_Same.c), (39, g_ref30_Torus_Same.c), (28, g_wrapping_Torus_Count.c), (40, g_ref30_Torus_Count.c)] [] Try.f19 .z [.pointer x_0, .pointer x_1, .int .i64 x_2, .int .i64 x_3] h K := by kernel_rfl

theorem g_law30_agree.ok : OkFn Try.prog 19 g_law30_agree.c ∧ MonoC g_law30_agree.c := by
  refine xfnD_okm (an := .z) wide_ok (OkTab.cons g_wrapping_Torus_Wraps.ok (by kernel_rfl) (OkTab.cons g_ref30_Torus_Wraps.ok (by kernel_rfl) (OkTab.cons g_wrapping_Torus_Offset.ok (by kernel_rfl) (OkTab.cons g_ref30_Torus_Offset.ok (by kernel_rfl) (OkTab.cons g_wrapping_Torus_Same.ok (by kernel_rfl) (OkTab.cons g_ref30_Torus_Same.ok (by kernel_rfl) (OkTab.cons g_wrapping_Torus_Count.ok (by kernel_rfl) (OkTab.cons g_ref30_Torus_Count.ok (by kernel_rfl) (OkTab.nil _))))))))) (OkTabI.nil _) Try.func19 (fun vs h K hk => ?_) (fun vs h K K' hk => ?_)
  · unfold g_law30_agree.c at hk
    split at hk
    · rename_i x_0 x_1 x_2 x_3
      exact ⟨_, hk, Nat.le_of_ble_eq_true rfl, g_law30_agree.x x_0 x_1 x_2 x_3 h K⟩
    · exact hk.elim
  · unfold g_law30_agree.c at hk ⊢
    split at hk
    · rename_i x_0 x_1 x_2 x_3
      exact ⟨_, id, g_law30_agree.x x_0 x_1 x_2 x_3 h K'⟩
    · exact hk.elim

theorem g_law30_WrappingNews.x (w_0 : Int) (h_1 : Int) (a_2 : Int) (b_3 : Int) (h : Hp) (K : Value → Hp → Prop) : (g_law30_WrappingNews w_0 h_1 a_2 b_3 h (fun r0 h => K (.bool r0) h)) = xfnD Try.prog [(15, g_law30_small.c), (16, g_law30_works.c), (17, g_wrapping_New.c), (18, g_ref30_New.c), (19, g_law30_agree.c)] [] Try.f3 .z [.int .i64 w_0, .int .i64 h_1, .int .i64 a_2, .int .i64 b_3] h K := by kernel_rfl

theorem g_law30_WrappingNews.ok : OkFn Try.prog 3 g_law30_WrappingNews.c ∧ MonoC g_law30_WrappingNews.c := by
  refine xfnD_okm (an := .z) wide_ok (OkTab.cons g_law30_small.ok (by kernel_rfl) (OkTab.cons g_law30_works.ok (by kernel_rfl) (OkTab.cons g_wrapping_New.ok (by kernel_rfl) (OkTab.cons g_ref30_New.ok (by kernel_rfl) (OkTab.cons g_law30_agree.ok (by kernel_rfl) (OkTab.nil _)))))) (OkTabI.nil _) Try.func3 (fun vs h K hk => ?_) (fun vs h K K' hk => ?_)
  · unfold g_law30_WrappingNews.c at hk
    split at hk
    · rename_i w_0 h_1 a_2 b_3
      exact ⟨_, hk, Nat.le_of_ble_eq_true rfl, g_law30_WrappingNews.x w_0 h_1 a_2 b_3 h K⟩
    · exact hk.elim
  · unfold g_law30_WrappingNews.c at hk ⊢
    split at hk
    · rename_i w_0 h_1 a_2 b_3
      exact ⟨_, id, g_law30_WrappingNews.x w_0 h_1 a_2 b_3 h K'⟩
    · exact hk.elim

theorem g_ref30_Torus_Add.x (x_0 : Option Addr) (x_1 : Int) (x_2 : Int) (x_3 : Int) (h : Hp) (K : Value → Hp → Prop) : (g_ref30_Torus_Add x_0 x_1 x_2 x_3 h (fun r0 r1 h => K (.tuple #[.bool r0, .int .i64 r1]) h)) = xfnD Try.prog [(44, g_ref30_Torus_valid.c), (45, g_ref30_Torus_ends.c), (46, g_ref30_Torus_walked.c)] [] Try.f21 (.sq .z (.sq .z (.sq .z (.sq .z .z (some [])) none) none) none) [.pointer x_0, .int .i64 x_1, .int .i64 x_2, .int .i64 x_3] h K := by kernel_rfl

theorem g_ref30_Torus_Add.ok : OkFn Try.prog 21 g_ref30_Torus_Add.c ∧ MonoC g_ref30_Torus_Add.c := by
  refine xfnD_okm (an := (.sq .z (.sq .z (.sq .z (.sq .z .z (some [])) none) none) none)) wide_ok (OkTab.cons g_ref30_Torus_valid.ok (by kernel_rfl) (OkTab.cons g_ref30_Torus_ends.ok (by kernel_rfl) (OkTab.cons g_ref30_Torus_walked.ok (by kernel_rfl) (OkTab.nil _)))) (OkTabI.nil _) Try.func21 (fun vs h K hk => ?_) (fun vs h K K' hk => ?_)
  · unfold g_ref30_Torus_Add.c at hk
    split at hk
    · rename_i x_0 x_1 x_2 x_3
      exact ⟨_, hk, Nat.le_of_ble_eq_true rfl, g_ref30_Torus_Add.x x_0 x_1 x_2 x_3 h K⟩
    · exact hk.elim
  · unfold g_ref30_Torus_Add.c at hk ⊢
    split at hk
    · rename_i x_0 x_1 x_2 x_3
      exact ⟨_, id, g_ref30_Torus_Add.x x_0 x_1 x_2 x_3 h K'⟩
    · exact hk.elim

theorem g_law30_WrappingPlays.x (x_0 : Int) (x_1 : Int) (x_2 : Sl) (x_3 : Int) (x_4 : Int) (h : Hp) (K : Value → Hp → Prop) : (g_law30_WrappingPlays x_0 x_1 x_2 x_3 x_4 h (fun r0 h => K (.bool r0) h)) = xfnD Try.prog [(15, g_law30_small.c), (16, g_law30_works.c), (17, g_wrapping_New.c), (18, g_ref30_New.c), (20, g_wrapping_Torus_Add.c), (21, g_ref30_Torus_Add.c), (19, g_law30_agree.c)] [] Try.f4 (.sq .z (.sq .z (.sq .z (.sq .z (.sq .z (.sq (.sq .z (.bl (.lp .z [(15, .sc (.int .i64))])) none) .z none) none) none) none) none) none) [.int .i64 x_0, .int .i64 x_1, .slice x_2.a x_2.n x_2.c, .int .i64 x_3, .int .i64 x_4] h K := by kernel_rfl

theorem g_law30_WrappingPlays.ok : OkFn Try.prog 4 g_law30_WrappingPlays.c ∧ MonoC g_law30_WrappingPlays.c := by
  refine xfnD_okm (an := (.sq .z (.sq .z (.sq .z (.sq .z (.sq .z (.sq (.sq .z (.bl (.lp .z [(15, .sc (.int .i64))])) none) .z none) none) none) none) none) none)) wide_ok (OkTab.cons g_law30_small.ok (by kernel_rfl) (OkTab.cons g_law30_works.ok (by kernel_rfl) (OkTab.cons g_wrapping_New.ok (by kernel_rfl) (OkTab.cons g_ref30_New.ok (by kernel_rfl) (OkTab.cons g_wrapping_Torus_Add.ok (by kernel_rfl) (OkTab.cons g_ref30_Torus_Add.ok (by kernel_rfl) (OkTab.cons g_law30_agree.ok (by kernel_rfl) (OkTab.nil _)))))))) (OkTabI.nil _) Try.func4 (fun vs h K hk => ?_) (fun vs h K K' hk => ?_)
  · unfold g_law30_WrappingPlays.c at hk
    split at hk
    · rename_i x_0 x_1 x_2_a x_2_n x_2_c x_3 x_4
      exact ⟨_, hk, Nat.le_of_ble_eq_true rfl, g_law30_WrappingPlays.x x_0 x_1 (⟨x_2_a, x_2_n, x_2_c⟩ : Sl) x_3 x_4 h K⟩
    · exact hk.elim
  · unfold g_law30_WrappingPlays.c at hk ⊢
    split at hk
    · rename_i x_0 x_1 x_2_a x_2_n x_2_c x_3 x_4
      exact ⟨_, id, g_law30_WrappingPlays.x x_0 x_1 (⟨x_2_a, x_2_n, x_2_c⟩ : Sl) x_3 x_4 h K'⟩
    · exact hk.elim

theorem g_ref30_First.x (x_0 : Int) (x_1 : Int) (x_2 : Sl) (h : Hp) (K : Value → Hp → Prop) : (g_ref30_First x_0 x_1 x_2 h (fun r0 r1 r2 h => K (.tuple #[.int .i64 r0, .bool r1, .int .i64 r2]) h)) = xfnD Try.prog [(18, g_ref30_New.c), (37, g_ref30_Torus_Wraps.c)] [] Try.f24 (.sq .z (.sq .z (.sq .z (.sq .z (.sq (.sq .z (.bl (.lp .z [(12, .sc (.int .i64))])) none) (.sq (.sq .z (.bl (.lp .z [(13, .sc (.int .i64))])) none) .z none) (some [])) none) none) none) none) [.int .i64 x_0, .int .i64 x_1, .slice x_2.a x_2.n x_2.c] h K := by kernel_rfl

theorem g_ref30_First.ok : OkFn Try.prog 24 g_ref30_First.c ∧ MonoC g_ref30_First.c := by
  refine xfnD_okm (an := (.sq .z (.sq .z (.sq .z (.sq .z (.sq (.sq .z (.bl (.lp .z [(12, .sc (.int .i64))])) none) (.sq (.sq .z (.bl (.lp .z [(13, .sc (.int .i64))])) none) .z none) (some [])) none) none) none) none)) wide_ok (OkTab.cons g_ref30_New.ok (by kernel_rfl) (OkTab.cons g_ref30_Torus_Wraps.ok (by kernel_rfl) (OkTab.nil _))) (OkTabI.nil _) Try.func24 (fun vs h K hk => ?_) (fun vs h K K' hk => ?_)
  · unfold g_ref30_First.c at hk
    split at hk
    · rename_i x_0 x_1 x_2_a x_2_n x_2_c
      exact ⟨_, hk, Nat.le_of_ble_eq_true rfl, g_ref30_First.x x_0 x_1 (⟨x_2_a, x_2_n, x_2_c⟩ : Sl) h K⟩
    · exact hk.elim
  · unfold g_ref30_First.c at hk ⊢
    split at hk
    · rename_i x_0 x_1 x_2_a x_2_n x_2_c
      exact ⟨_, id, g_ref30_First.x x_0 x_1 (⟨x_2_a, x_2_n, x_2_c⟩ : Sl) h K'⟩
    · exact hk.elim

theorem g_law30_WrappingFirsts.x (x_0 : Int) (x_1 : Int) (x_2 : Sl) (h : Hp) (K : Value → Hp → Prop) : (g_law30_WrappingFirsts x_0 x_1 x_2 h (fun r0 h => K (.bool r0) h)) = xfnD Try.prog [(23, g_wrapping_First.c), (24, g_ref30_First.c), (16, g_law30_works.c), (15, g_law30_small.c), (22, g_ref30_Sizes.c)] [] Try.f5 (.sq .z (.sq .z .z (some [])) none) [.int .i64 x_0, .int .i64 x_1, .slice x_2.a x_2.n x_2.c] h K := by kernel_rfl

theorem g_law30_WrappingFirsts.ok : OkFn Try.prog 5 g_law30_WrappingFirsts.c ∧ MonoC g_law30_WrappingFirsts.c := by
  refine xfnD_okm (an := (.sq .z (.sq .z .z (some [])) none)) wide_ok (OkTab.cons g_wrapping_First.ok (by kernel_rfl) (OkTab.cons g_ref30_First.ok (by kernel_rfl) (OkTab.cons g_law30_works.ok (by kernel_rfl) (OkTab.cons g_law30_small.ok (by kernel_rfl) (OkTab.cons g_ref30_Sizes.ok (by kernel_rfl) (OkTab.nil _)))))) (OkTabI.nil _) Try.func5 (fun vs h K hk => ?_) (fun vs h K K' hk => ?_)
  · unfold g_law30_WrappingFirsts.c at hk
    split at hk
    · rename_i x_0 x_1 x_2_a x_2_n x_2_c
      exact ⟨_, hk, Nat.le_of_ble_eq_true rfl, g_law30_WrappingFirsts.x x_0 x_1 (⟨x_2_a, x_2_n, x_2_c⟩ : Sl) h K⟩
    · exact hk.elim
  · unfold g_law30_WrappingFirsts.c at hk ⊢
    split at hk
    · rename_i x_0 x_1 x_2_a x_2_n x_2_c
      exact ⟨_, id, g_law30_WrappingFirsts.x x_0 x_1 (⟨x_2_a, x_2_n, x_2_c⟩ : Sl) h K'⟩
    · exact hk.elim

theorem g_law30_WrappingNil.x (x_0 : Int) (x_1 : Int) (x_2 : Int) (h : Hp) (K : Value → Hp → Prop) : (g_law30_WrappingNil x_0 x_1 x_2 h (fun r0 h => K (.bool r0) h)) = xfnD Try.prog [(20, g_wrapping_Torus_Add.c), (25, g_wrapping_Torus_Wraps.c), (26, g_wrapping_Torus_Offset.c), (27, g_wrapping_Torus_Same.c), (28, g_wrapping_Torus_Count.c), (16, g_law30_works.c)] [] Try.f6 (.sq .z (.sq .z (.sq .z (.sq (.sq .z (.bl (.lp .z [(9, .sc (.int .i64))])) none) .z none) none) none) none) [.int .i64 x_0, .int .i64 x_1, .int .i64 x_2] h K := by kernel_rfl

theorem g_law30_WrappingNil.ok : OkFn Try.prog 6 g_law30_WrappingNil.c ∧ MonoC g_law30_WrappingNil.c := by
  refine xfnD_okm (an := (.sq .z (.sq .z (.sq .z (.sq (.sq .z (.bl (.lp .z [(9, .sc (.int .i64))])) none) .z none) none) none) none)) wide_ok (OkTab.cons g_wrapping_Torus_Add.ok (by kernel_rfl) (OkTab.cons g_wrapping_Torus_Wraps.ok (by kernel_rfl) (OkTab.cons g_wrapping_Torus_Offset.ok (by kernel_rfl) (OkTab.cons g_wrapping_Torus_Same.ok (by kernel_rfl) (OkTab.cons g_wrapping_Torus_Count.ok (by kernel_rfl) (OkTab.cons g_law30_works.ok (by kernel_rfl) (OkTab.nil _))))))) (OkTabI.nil _) Try.func6 (fun vs h K hk => ?_) (fun vs h K K' hk => ?_)
  · unfold g_law30_WrappingNil.c at hk
    split at hk
    · rename_i x_0 x_1 x_2
      exact ⟨_, hk, Nat.le_of_ble_eq_true rfl, g_law30_WrappingNil.x x_0 x_1 x_2 h K⟩
    · exact hk.elim
  · unfold g_law30_WrappingNil.c at hk ⊢
    split at hk
    · rename_i x_0 x_1 x_2
      exact ⟨_, id, g_law30_WrappingNil.x x_0 x_1 x_2 h K'⟩
    · exact hk.elim

theorem g_law30_sizes.x (w_0 : Int) (h_1 : Int) (h : Hp) (K : Value → Hp → Prop) : (g_law30_sizes w_0 h_1 h (fun r0 r1 h => K (.tuple #[.int .i64 r0, .int .i64 r1]) h)) = xfnD Try.prog [] [] Try.f29 .z [.int .u8 w_0, .int .u8 h_1] h K := by kernel_rfl

theorem g_law30_sizes.ok : OkFn Try.prog 29 g_law30_sizes.c ∧ MonoC g_law30_sizes.c := by
  refine xfnD_okm (an := .z) wide_ok (OkTab.nil _) (OkTabI.nil _) Try.func29 (fun vs h K hk => ?_) (fun vs h K K' hk => ?_)
  · unfold g_law30_sizes.c at hk
    split at hk
    · rename_i w_0 h_1
      exact ⟨_, hk, Nat.le_of_ble_eq_true rfl, g_law30_sizes.x w_0 h_1 h K⟩
    · exact hk.elim
  · unfold g_law30_sizes.c at hk ⊢
    split at hk
    · rename_i w_0 h_1
      exact ⟨_, id, g_law30_sizes.x w_0 h_1 h K'⟩
    · exact hk.elim

theorem g_law30_edges.x (n_0 : Int) (l_1 : Sl) (once_2 : Bool) (h : Hp) (K : Value → Hp → Prop) : (g_law30_edges n_0 l_1 once_2 h (fun r0 h => K (.slice r0.a r0.n r0.c) h)) = xfnD Try.prog [] [] Try.f31 (.sq .z (.sq .z (.sq .z (.sq (.sq .z (.bl (.lp .z [(7, .sc .slice), (9, .sc (.int .i64))])) none) .z none) none) none) none) [.int .i64 n_0, .slice l_1.a l_1.n l_1.c, .bool once_2] h K := by kernel_rfl

theorem g_law30_edges.ok : OkFn Try.prog 31 g_law30_edges.c ∧ MonoC g_law30_edges.c := by
  refine xfnD_okm (an := (.sq .z (.sq .z (.sq .z (.sq (.sq .z (.bl (.lp .z [(7, .sc .slice), (9, .sc (.int .i64))])) none) .z none) none) none) none)) wide_ok (OkTab.nil _) (OkTabI.nil _) Try.func31 (fun vs h K hk => ?_) (fun vs h K K' hk => ?_)
  · unfold g_law30_edges.c at hk
    split at hk
    · rename_i n_0 l_1_a l_1_n l_1_c once_2
      exact ⟨_, hk, Nat.le_of_ble_eq_true rfl, g_law30_edges.x n_0 (⟨l_1_a, l_1_n, l_1_c⟩ : Sl) once_2 h K⟩
    · exact hk.elim
  · unfold g_law30_edges.c at hk ⊢
    split at hk
    · rename_i n_0 l_1_a l_1_n l_1_c once_2
      exact ⟨_, id, g_law30_edges.x n_0 (⟨l_1_a, l_1_n, l_1_c⟩ : Sl) once_2 h K'⟩
    · exact hk.elim

theorem g_law30_put.x (t_0 : Option Addr) (w_1 : Int) (l_2 : Sl) (back_3 : Bool) (h : Hp) (K : Value → Hp → Prop) : (g_law30_put t_0 w_1 l_2 back_3 h (fun r0 h => K (.int .i64 r0) h)) = xfnD Try.prog [(20, g_wrapping_Torus_Add.c)] [] Try.f30 (.sq .z (.sq .z (.sq (.sq .z (.bl (.lp (.sq .z (.sq (.bl (.sq .z (.sq .z .z (some [(11, .sc (.int .i64))])) none)) .z none) none) [(9, .sc (.int .i64)), (10, .sc (.int .i64))])) none) .z none) none) none) [.pointer t_0, .int .i64 w_1, .slice l_2.a l_2.n l_2.c, .bool back_3] h K := by kernel_rfl

theorem g_law30_put.ok : OkFn Try.prog 30 g_law30_put.c ∧ MonoC g_law30_put.c := by
  refine xfnD_okm (an := (.sq .z (.sq .z (.sq (.sq .z (.bl (.lp (.sq .z (.sq (.bl (.sq .z (.sq .z .z (some [(11, .sc (.int .i64))])) none)) .z none) none) [(9, .sc (.int .i64)), (10, .sc (.int .i64))])) none) .z none) none) none)) wide_ok (OkTab.cons g_wrapping_Torus_Add.ok (by kernel_rfl) (OkTab.nil _)) (OkTabI.nil _) Try.func30 (fun vs h K hk => ?_) (fun vs h K K' hk => ?_)
  · unfold g_law30_put.c at hk
    split at hk
    · rename_i t_0 w_1 l_2_a l_2_n l_2_c back_3
      exact ⟨_, hk, Nat.le_of_ble_eq_true rfl, g_law30_put.x t_0 w_1 (⟨l_2_a, l_2_n, l_2_c⟩ : Sl) back_3 h K⟩
    · exact hk.elim
  · unfold g_law30_put.c at hk ⊢
    split at hk
    · rename_i t_0 w_1 l_2_a l_2_n l_2_c back_3
      exact ⟨_, id, g_law30_put.x t_0 w_1 (⟨l_2_a, l_2_n, l_2_c⟩ : Sl) back_3 h K'⟩
    · exact hk.elim

theorem g_law30_WrappingOrder.x (x_0 : Int) (x_1 : Int) (x_2 : Sl) (x_3 : Int) (x_4 : Int) (h : Hp) (K : Value → Hp → Prop) : (g_law30_WrappingOrder x_0 x_1 x_2 x_3 x_4 h (fun r0 h => K (.bool r0) h)) = xfnD Try.prog [(29, g_law30_sizes.c), (17, g_wrapping_New.c), (31, g_law30_edges.c), (30, g_law30_put.c), (25, g_wrapping_Torus_Wraps.c), (26, g_wrapping_Torus_Offset.c), (27, g_wrapping_Torus_Same.c), (28, g_wrapping_Torus_Count.c), (16, g_law30_works.c)] [] Try.f7 .z [.int .u8 x_0, .int .u8 x_1, .slice x_2.a x_2.n x_2.c, .int .u8 x_3, .int .u8 x_4] h K := by kernel_rfl

theorem g_law30_WrappingOrder.ok : OkFn Try.prog 7 g_law30_WrappingOrder.c ∧ MonoC g_law30_WrappingOrder.c := by
  refine xfnD_okm (an := .z) wide_ok (OkTab.cons g_law30_sizes.ok (by kernel_rfl) (OkTab.cons g_wrapping_New.ok (by kernel_rfl) (OkTab.cons g_law30_edges.ok (by kernel_rfl) (OkTab.cons g_law30_put.ok (by kernel_rfl) (OkTab.cons g_wrapping_Torus_Wraps.ok (by kernel_rfl) (OkTab.cons g_wrapping_Torus_Offset.ok (by kernel_rfl) (OkTab.cons g_wrapping_Torus_Same.ok (by kernel_rfl) (OkTab.cons g_wrapping_Torus_Count.ok (by kernel_rfl) (OkTab.cons g_law30_works.ok (by kernel_rfl) (OkTab.nil _)))))))))) (OkTabI.nil _) Try.func7 (fun vs h K hk => ?_) (fun vs h K K' hk => ?_)
  · unfold g_law30_WrappingOrder.c at hk
    split at hk
    · rename_i x_0 x_1 x_2_a x_2_n x_2_c x_3 x_4
      exact ⟨_, hk, Nat.le_of_ble_eq_true rfl, g_law30_WrappingOrder.x x_0 x_1 (⟨x_2_a, x_2_n, x_2_c⟩ : Sl) x_3 x_4 h K⟩
    · exact hk.elim
  · unfold g_law30_WrappingOrder.c at hk ⊢
    split at hk
    · rename_i x_0 x_1 x_2_a x_2_n x_2_c x_3 x_4
      exact ⟨_, id, g_law30_WrappingOrder.x x_0 x_1 (⟨x_2_a, x_2_n, x_2_c⟩ : Sl) x_3 x_4 h K'⟩
    · exact hk.elim

theorem g_law30_WrappingTurn.x (x_0 : Int) (x_1 : Int) (x_2 : Sl) (x_3 : Int) (x_4 : Int) (h : Hp) (K : Value → Hp → Prop) : (g_law30_WrappingTurn x_0 x_1 x_2 x_3 x_4 h (fun r0 h => K (.bool r0) h)) = xfnD Try.prog [(29, g_law30_sizes.c), (17, g_wrapping_New.c), (31, g_law30_edges.c), (30, g_law30_put.c), (25, g_wrapping_Torus_Wraps.c), (26, g_wrapping_Torus_Offset.c), (28, g_wrapping_Torus_Count.c), (16, g_law30_works.c)] [] Try.f8 (.sq .z (.sq .z (.sq .z (.sq .z (.sq .z (.sq .z (.sq .z (.sq (.sq .z (.bl (.lp .z [(18, .sc .slice), (19, .sc (.int .i64))])) none) .z (some [(18, .sc .slice)])) none) none) none) none) none) none) none) [.int .u8 x_0, .int .u8 x_1, .slice x_2.a x_2.n x_2.c, .int .u8 x_3, .int .u8 x_4] h K := by kernel_rfl

theorem g_law30_WrappingTurn.ok : OkFn Try.prog 8 g_law30_WrappingTurn.c ∧ MonoC g_law30_WrappingTurn.c := by
  refine xfnD_okm (an := (.sq .z (.sq .z (.sq .z (.sq .z (.sq .z (.sq .z (.sq .z (.sq (.sq .z (.bl (.lp .z [(18, .sc .slice), (19, .sc (.int .i64))])) none) .z (some [(18, .sc .slice)])) none) none) none) none) none) none) none)) wide_ok (OkTab.cons g_law30_sizes.ok (by kernel_rfl) (OkTab.cons g_wrapping_New.ok (by kernel_rfl) (OkTab.cons g_law30_edges.ok (by kernel_rfl) (OkTab.cons g_law30_put.ok (by kernel_rfl) (OkTab.cons g_wrapping_Torus_Wraps.ok (by kernel_rfl) (OkTab.cons g_wrapping_Torus_Offset.ok (by kernel_rfl) (OkTab.cons g_wrapping_Torus_Count.ok (by kernel_rfl) (OkTab.cons g_law30_works.ok (by kernel_rfl) (OkTab.nil _))))))))) (OkTabI.nil _) Try.func8 (fun vs h K hk => ?_) (fun vs h K K' hk => ?_)
  · unfold g_law30_WrappingTurn.c at hk
    split at hk
    · rename_i x_0 x_1 x_2_a x_2_n x_2_c x_3 x_4
      exact ⟨_, hk, Nat.le_of_ble_eq_true rfl, g_law30_WrappingTurn.x x_0 x_1 (⟨x_2_a, x_2_n, x_2_c⟩ : Sl) x_3 x_4 h K⟩
    · exact hk.elim
  · unfold g_law30_WrappingTurn.c at hk ⊢
    split at hk
    · rename_i x_0 x_1 x_2_a x_2_n x_2_c x_3 x_4
      exact ⟨_, id, g_law30_WrappingTurn.x x_0 x_1 (⟨x_2_a, x_2_n, x_2_c⟩ : Sl) x_3 x_4 h K'⟩
    · exact hk.elim

theorem g_law30_WrappingOffsets.x (x_0 : Int) (x_1 : Int) (x_2 : Sl) (x_3 : Int) (x_4 : Int) (x_5 : Int) (h : Hp) (K : Value → Hp → Prop) : (g_law30_WrappingOffsets x_0 x_1 x_2 x_3 x_4 x_5 h (fun r0 h => K (.bool r0) h)) = xfnD Try.prog [(29, g_law30_sizes.c), (17, g_wrapping_New.c), (31, g_law30_edges.c), (30, g_law30_put.c), (26, g_wrapping_Torus_Offset.c), (25, g_wrapping_Torus_Wraps.c), (16, g_law30_works.c), (27, g_wrapping_Torus_Same.c)] [] Try.f9 (.sq .z (.sq .z (.sq .z (.sq .z (.sq .z (.sq .z (.sq .z (.sq .z (.sq .z (.sq .z (.sq .z (.sq .z (.sq .z .z (some [])) (some [])) none) none) none) none) none) none) none) none) none) none) none) [.int .u8 x_0, .int .u8 x_1, .slice x_2.a x_2.n x_2.c, .int .u8 x_3, .int .u8 x_4, .int .u8 x_5] h K := by kernel_rfl

theorem g_law30_WrappingOffsets.ok : OkFn Try.prog 9 g_law30_WrappingOffsets.c ∧ MonoC g_law30_WrappingOffsets.c := by
  refine xfnD_okm (an := (.sq .z (.sq .z (.sq .z (.sq .z (.sq .z (.sq .z (.sq .z (.sq .z (.sq .z (.sq .z (.sq .z (.sq .z (.sq .z .z (some [])) (some [])) none) none) none) none) none) none) none) none) none) none) none)) wide_ok (OkTab.cons g_law30_sizes.ok (by kernel_rfl) (OkTab.cons g_wrapping_New.ok (by kernel_rfl) (OkTab.cons g_law30_edges.ok (by kernel_rfl) (OkTab.cons g_law30_put.ok (by kernel_rfl) (OkTab.cons g_wrapping_Torus_Offset.ok (by kernel_rfl) (OkTab.cons g_wrapping_Torus_Wraps.ok (by kernel_rfl) (OkTab.cons g_law30_works.ok (by kernel_rfl) (OkTab.cons g_wrapping_Torus_Same.ok (by kernel_rfl) (OkTab.nil _))))))))) (OkTabI.nil _) Try.func9 (fun vs h K hk => ?_) (fun vs h K K' hk => ?_)
  · unfold g_law30_WrappingOffsets.c at hk
    split at hk
    · rename_i x_0 x_1 x_2_a x_2_n x_2_c x_3 x_4 x_5
      exact ⟨_, hk, Nat.le_of_ble_eq_true rfl, g_law30_WrappingOffsets.x x_0 x_1 (⟨x_2_a, x_2_n, x_2_c⟩ : Sl) x_3 x_4 x_5 h K⟩
    · exact hk.elim
  · unfold g_law30_WrappingOffsets.c at hk ⊢
    split at hk
    · rename_i x_0 x_1 x_2_a x_2_n x_2_c x_3 x_4 x_5
      exact ⟨_, id, g_law30_WrappingOffsets.x x_0 x_1 (⟨x_2_a, x_2_n, x_2_c⟩ : Sl) x_3 x_4 x_5 h K'⟩
    · exact hk.elim

theorem g_law30_WrappingEdges.x (x_0 : Int) (x_1 : Int) (x_2 : Sl) (x_3 : Int) (h : Hp) (K : Value → Hp → Prop) : (g_law30_WrappingEdges x_0 x_1 x_2 x_3 h (fun r0 h => K (.bool r0) h)) = xfnD Try.prog [(29, g_law30_sizes.c), (17, g_wrapping_New.c), (31, g_law30_edges.c), (30, g_law30_put.c), (26, g_wrapping_Torus_Offset.c), (27, g_wrapping_Torus_Same.c), (28, g_wrapping_Torus_Count.c), (25, g_wrapping_Torus_Wraps.c), (20, g_wrapping_Torus_Add.c), (16, g_law30_works.c)] [] Try.f10 (.sq .z (.sq .z (.sq .z (.sq .z (.sq .z (.sq .z (.sq .z (.sq .z (.sq .z (.sq .z (.sq .z (.sq .z (.sq .z (.sq .z (.sq .z (.sq .z .z (some [])) none) none) none) none) none) none) none) (some [(15, .sc (.int .i64))])) none) none) none) none) none) none) none) [.int .u8 x_0, .int .u8 x_1, .slice x_2.a x_2.n x_2.c, .int .u16 x_3] h K := by kernel_rfl

theorem g_law30_WrappingEdges.ok : OkFn Try.prog 10 g_law30_WrappingEdges.c ∧ MonoC g_law30_WrappingEdges.c := by
  refine xfnD_okm (an := (.sq .z (.sq .z (.sq .z (.sq .z (.sq .z (.sq .z (.sq .z (.sq .z (.sq .z (.sq .z (.sq .z (.sq .z (.sq .z (.sq .z (.sq .z (.sq .z .z (some [])) none) none) none) none) none) none) none) (some [(15, .sc (.int .i64))])) none) none) none) none) none) none) none)) wide_ok (OkTab.cons g_law30_sizes.ok (by kernel_rfl) (OkTab.cons g_wrapping_New.ok (by kernel_rfl) (OkTab.cons g_law30_edges.ok (by kernel_rfl) (OkTab.cons g_law30_put.ok (by kernel_rfl) (OkTab.cons g_wrapping_Torus_Offset.ok (by kernel_rfl) (OkTab.cons g_wrapping_Torus_Same.ok (by kernel_rfl) (OkTab.cons g_wrapping_Torus_Count.ok (by kernel_rfl) (OkTab.cons g_wrapping_Torus_Wraps.ok (by kernel_rfl) (OkTab.cons g_wrapping_Torus_Add.ok (by kernel_rfl) (OkTab.cons g_law30_works.ok (by kernel_rfl) (OkTab.nil _))))))))))) (OkTabI.nil _) Try.func10 (fun vs h K hk => ?_) (fun vs h K K' hk => ?_)
  · unfold g_law30_WrappingEdges.c at hk
    split at hk
    · rename_i x_0 x_1 x_2_a x_2_n x_2_c x_3
      exact ⟨_, hk, Nat.le_of_ble_eq_true rfl, g_law30_WrappingEdges.x x_0 x_1 (⟨x_2_a, x_2_n, x_2_c⟩ : Sl) x_3 h K⟩
    · exact hk.elim
  · unfold g_law30_WrappingEdges.c at hk ⊢
    split at hk
    · rename_i x_0 x_1 x_2_a x_2_n x_2_c x_3
      exact ⟨_, id, g_law30_WrappingEdges.x x_0 x_1 (⟨x_2_a, x_2_n, x_2_c⟩ : Sl) x_3 h K'⟩
    · exact hk.elim

theorem g_law30_WrappingFew.x (x_0 : Int) (x_1 : Int) (x_2 : Sl) (h : Hp) (K : Value → Hp → Prop) : (g_law30_WrappingFew x_0 x_1 x_2 h (fun r0 h => K (.bool r0) h)) = xfnD Try.prog [(29, g_law30_sizes.c), (17, g_wrapping_New.c), (31, g_law30_edges.c), (30, g_law30_put.c), (25, g_wrapping_Torus_Wraps.c), (23, g_wrapping_First.c), (28, g_wrapping_Torus_Count.c), (16, g_law30_works.c)] [] Try.f11 (.sq .z (.sq .z (.sq .z (.sq .z (.sq .z (.sq .z (.sq .z (.sq .z (.sq (.sq .z (.bl (.lp .z [(14, .sc .slice), (15, .sc (.int .i64))])) none) .z (some [(14, .sc .slice)])) none) none) none) none) none) none) none) none) [.int .u8 x_0, .int .u8 x_1, .slice x_2.a x_2.n x_2.c] h K := by kernel_rfl

theorem g_law30_WrappingFew.ok : OkFn Try.prog 11 g_law30_WrappingFew.c ∧ MonoC g_law30_WrappingFew.c := by
  refine xfnD_okm (an := (.sq .z (.sq .z (.sq .z (.sq .z (.sq .z (.sq .z (.sq .z (.sq .z (.sq (.sq .z (.bl (.lp .z [(14, .sc .slice), (15, .sc (.int .i64))])) none) .z (some [(14, .sc .slice)])) none) none) none) none) none) none) none) none)) wide_ok (OkTab.cons g_law30_sizes.ok (by kernel_rfl) (OkTab.cons g_wrapping_New.ok (by kernel_rfl) (OkTab.cons g_law30_edges.ok (by kernel_rfl) (OkTab.cons g_law30_put.ok (by kernel_rfl) (OkTab.cons g_wrapping_Torus_Wraps.ok (by kernel_rfl) (OkTab.cons g_wrapping_First.ok (by kernel_rfl) (OkTab.cons g_wrapping_Torus_Count.ok (by kernel_rfl) (OkTab.cons g_law30_works.ok (by kernel_rfl) (OkTab.nil _))))))))) (OkTabI.nil _) Try.func11 (fun vs h K hk => ?_) (fun vs h K K' hk => ?_)
  · unfold g_law30_WrappingFew.c at hk
    split at hk
    · rename_i x_0 x_1 x_2_a x_2_n x_2_c
      exact ⟨_, hk, Nat.le_of_ble_eq_true rfl, g_law30_WrappingFew.x x_0 x_1 (⟨x_2_a, x_2_n, x_2_c⟩ : Sl) h K⟩
    · exact hk.elim
  · unfold g_law30_WrappingFew.c at hk ⊢
    split at hk
    · rename_i x_0 x_1 x_2_a x_2_n x_2_c
      exact ⟨_, id, g_law30_WrappingFew.x x_0 x_1 (⟨x_2_a, x_2_n, x_2_c⟩ : Sl) h K'⟩
    · exact hk.elim

theorem g_law30_WrappingFirst.x (x_0 : Int) (x_1 : Int) (x_2 : Sl) (x_3 : Int) (h : Hp) (K : Value → Hp → Prop) : (g_law30_WrappingFirst x_0 x_1 x_2 x_3 h (fun r0 h => K (.bool r0) h)) = xfnD Try.prog [(29, g_law30_sizes.c), (31, g_law30_edges.c), (23, g_wrapping_First.c), (17, g_wrapping_New.c), (30, g_law30_put.c), (25, g_wrapping_Torus_Wraps.c), (16, g_law30_works.c)] [] Try.f12 (.sq .z (.sq .z (.sq .z (.sq .z (.sq .z (.sq .z (.sq .z (.sq .z (.sq .z (.sq .z (.sq .z (.sq .z (.sq .z .z (some [(24, .sc (.int .i64))])) none) none) (some [])) none) none) (some [(12, .sc (.int .i64))])) (some [])) none) none) none) none) none) [.int .u8 x_0, .int .u8 x_1, .slice x_2.a x_2.n x_2.c, .int .u8 x_3] h K := by kernel_rfl

theorem g_law30_WrappingFirst.ok : OkFn Try.prog 12 g_law30_WrappingFirst.c ∧ MonoC g_law30_WrappingFirst.c := by
  refine xfnD_okm (an := (.sq .z (.sq .z (.sq .z (.sq .z (.sq .z (.sq .z (.sq .z (.sq .z (.sq .z (.sq .z (.sq .z (.sq .z (.sq .z .z (some [(24, .sc (.int .i64))])) none) none) (some [])) none) none) (some [(12, .sc (.int .i64))])) (some [])) none) none) none) none) none)) wide_ok (OkTab.cons g_law30_sizes.ok (by kernel_rfl) (OkTab.cons g_law30_edges.ok (by kernel_rfl) (OkTab.cons g_wrapping_First.ok (by kernel_rfl) (OkTab.cons g_wrapping_New.ok (by kernel_rfl) (OkTab.cons g_law30_put.ok (by kernel_rfl) (OkTab.cons g_wrapping_Torus_Wraps.ok (by kernel_rfl) (OkTab.cons g_law30_works.ok (by kernel_rfl) (OkTab.nil _)))))))) (OkTabI.nil _) Try.func12 (fun vs h K hk => ?_) (fun vs h K K' hk => ?_)
  · unfold g_law30_WrappingFirst.c at hk
    split at hk
    · rename_i x_0 x_1 x_2_a x_2_n x_2_c x_3
      exact ⟨_, hk, Nat.le_of_ble_eq_true rfl, g_law30_WrappingFirst.x x_0 x_1 (⟨x_2_a, x_2_n, x_2_c⟩ : Sl) x_3 h K⟩
    · exact hk.elim
  · unfold g_law30_WrappingFirst.c at hk ⊢
    split at hk
    · rename_i x_0 x_1 x_2_a x_2_n x_2_c x_3
      exact ⟨_, id, g_law30_WrappingFirst.x x_0 x_1 (⟨x_2_a, x_2_n, x_2_c⟩ : Sl) x_3 h K'⟩
    · exact hk.elim

theorem g_slices_Clone_api_Edge.x (s_0 : Sl) (h : Hp) (K : Value → Hp → Prop) : (g_slices_Clone_api_Edge s_0 h (fun r0 h => K (.slice r0.a r0.n r0.c) h)) = xfnD Try.prog [] [] Try.f51 .z [.slice s_0.a s_0.n s_0.c] h K := by kernel_rfl

theorem g_slices_Clone_api_Edge.ok : OkFn Try.prog 51 g_slices_Clone_api_Edge.c ∧ MonoC g_slices_Clone_api_Edge.c := by
  refine xfnD_okm (an := .z) wide_ok (OkTab.nil _) (OkTabI.nil _) Try.func51 (fun vs h K hk => ?_) (fun vs h K K' hk => ?_)
  · unfold g_slices_Clone_api_Edge.c at hk
    split at hk
    · rename_i s_0_a s_0_n s_0_c
      exact ⟨_, hk, Nat.le_of_ble_eq_true rfl, g_slices_Clone_api_Edge.x (⟨s_0_a, s_0_n, s_0_c⟩ : Sl) h K⟩
    · exact hk.elim
  · unfold g_slices_Clone_api_Edge.c at hk ⊢
    split at hk
    · rename_i s_0_a s_0_n s_0_c
      exact ⟨_, id, g_slices_Clone_api_Edge.x (⟨s_0_a, s_0_n, s_0_c⟩ : Sl) h K'⟩
    · exact hk.elim

theorem g_slices_Clone_int.x (s_0 : Sl) (h : Hp) (K : Value → Hp → Prop) : (g_slices_Clone_int s_0 h (fun r0 h => K (.slice r0.a r0.n r0.c) h)) = xfnD Try.prog [] [] Try.f59 .z [.slice s_0.a s_0.n s_0.c] h K := by kernel_rfl

theorem g_slices_Clone_int.ok : OkFn Try.prog 59 g_slices_Clone_int.c ∧ MonoC g_slices_Clone_int.c := by
  refine xfnD_okm (an := .z) wide_ok (OkTab.nil _) (OkTabI.nil _) Try.func59 (fun vs h K hk => ?_) (fun vs h K K' hk => ?_)
  · unfold g_slices_Clone_int.c at hk
    split at hk
    · rename_i s_0_a s_0_n s_0_c
      exact ⟨_, hk, Nat.le_of_ble_eq_true rfl, g_slices_Clone_int.x (⟨s_0_a, s_0_n, s_0_c⟩ : Sl) h K⟩
    · exact hk.elim
  · unfold g_slices_Clone_int.c at hk ⊢
    split at hk
    · rename_i s_0_a s_0_n s_0_c
      exact ⟨_, id, g_slices_Clone_int.x (⟨s_0_a, s_0_n, s_0_c⟩ : Sl) h K'⟩
    · exact hk.elim

theorem g_graph_build_f1.x (v_0 : Int) (h_1_0 : Int) (h_1_1 : Int) (c_0 : Addr) (c_1 : Addr) (h : Hp) (K : Value → Hp → Prop) : (g_graph_build_f1 v_0 h_1_0 h_1_1 c_0 c_1 h (fun h => K (.tuple #[]) h)) = xfnD Try.prog [] [] Try.f60 .z [.int .i64 v_0, .agg #[.int .i64 h_1_0, .int .i64 h_1_1], .pointer (some c_0), .pointer (some c_1)] h K := by kernel_rfl

theorem g_graph_build_f1.ok : OkFn Try.prog 60 g_graph_build_f1.c ∧ MonoC g_graph_build_f1.c := by
  refine xfnD_okm (an := .z) wide_ok (OkTab.nil _) (OkTabI.nil _) Try.func60 (fun vs h K hk => ?_) (fun vs h K K' hk => ?_)
  · unfold g_graph_build_f1.c at hk
    split at hk
    · rename_i v_0 h_1_0 h_1_1 c_0 c_1
      exact ⟨_, hk, Nat.le_of_ble_eq_true rfl, g_graph_build_f1.x v_0 h_1_0 h_1_1 c_0 c_1 h K⟩
    · exact hk.elim
  · unfold g_graph_build_f1.c at hk ⊢
    split at hk
    · rename_i v_0 h_1_0 h_1_1 c_0 c_1
      exact ⟨_, id, g_graph_build_f1.x v_0 h_1_0 h_1_1 c_0 c_1 h K'⟩
    · exact hk.elim

theorem g_graph_build.x (x_0 : Int) (x_1 : Sl) (h : Hp) (K : Value → Hp → Prop) : (g_graph_build x_0 x_1 h (fun r0 h => K (.pointer r0) h)) = xfnD Try.prog [(59, g_slices_Clone_int.c), (60, g_graph_build_f1.c)] [] Try.f50 (.sq .z (.sq .z (.sq (.sq .z (.bl (.lp .z [(26, .sc (.int .i64))])) none) (.sq (.sq .z (.bl (.lp .z [(54, .sc (.int .i64))])) none) (.sq .z (.sq .z (.sq (.sq .z (.bl (.lp .z [(83, .sc (.int .i64))])) none) .z none) none) none) (some [])) (some [])) (some [(5, .sc .adr)])) none) [.int .i64 x_0, .slice x_1.a x_1.n x_1.c] h K := by kernel_rfl

theorem g_graph_build.ok : OkFn Try.prog 50 g_graph_build.c ∧ MonoC g_graph_build.c := by
  refine xfnD_okm (an := (.sq .z (.sq .z (.sq (.sq .z (.bl (.lp .z [(26, .sc (.int .i64))])) none) (.sq (.sq .z (.bl (.lp .z [(54, .sc (.int .i64))])) none) (.sq .z (.sq .z (.sq (.sq .z (.bl (.lp .z [(83, .sc (.int .i64))])) none) .z none) none) none) (some [])) (some [])) (some [(5, .sc .adr)])) none)) wide_ok (OkTab.cons g_slices_Clone_int.ok (by kernel_rfl) (OkTab.cons g_graph_build_f1.ok (by kernel_rfl) (OkTab.nil _))) (OkTabI.nil _) Try.func50 (fun vs h K hk => ?_) (fun vs h K K' hk => ?_)
  · unfold g_graph_build.c at hk
    split at hk
    · rename_i x_0 x_1_a x_1_n x_1_c
      exact ⟨_, hk, Nat.le_of_ble_eq_true rfl, g_graph_build.x x_0 (⟨x_1_a, x_1_n, x_1_c⟩ : Sl) h K⟩
    · exact hk.elim
  · unfold g_graph_build.c at hk ⊢
    split at hk
    · rename_i x_0 x_1_a x_1_n x_1_c
      exact ⟨_, id, g_graph_build.x x_0 (⟨x_1_a, x_1_n, x_1_c⟩ : Sl) h K'⟩
    · exact hk.elim

theorem g_graph_New.x (n_0 : Int) (l_1 : Sl) (h : Hp) (K : Value → Hp → Prop) : (g_graph_New n_0 l_1 h (fun r0 r1 h => K (.tuple #[.pointer r0, .int .i64 r1]) h)) = xfnD Try.prog [(51, g_slices_Clone_api_Edge.c), (50, g_graph_build.c)] [] Try.f34 (.sq .z (.sq .z (.sq (.sq .z (.bl (.lp .z [(21, .sc (.int .i64))])) none) .z (some [])) none) none) [.int .i64 n_0, .slice l_1.a l_1.n l_1.c] h K := by kernel_rfl

theorem g_graph_New.ok : OkFn Try.prog 34 g_graph_New.c ∧ MonoC g_graph_New.c := by
  refine xfnD_okm (an := (.sq .z (.sq .z (.sq (.sq .z (.bl (.lp .z [(21, .sc (.int .i64))])) none) .z (some [])) none) none)) wide_ok (OkTab.cons g_slices_Clone_api_Edge.ok (by kernel_rfl) (OkTab.cons g_graph_build.ok (by kernel_rfl) (OkTab.nil _))) (OkTabI.nil _) Try.func34 (fun vs h K hk => ?_) (fun vs h K K' hk => ?_)
  · unfold g_graph_New.c at hk
    split at hk
    · rename_i n_0 l_1_a l_1_n l_1_c
      exact ⟨_, hk, Nat.le_of_ble_eq_true rfl, g_graph_New.x n_0 (⟨l_1_a, l_1_n, l_1_c⟩ : Sl) h K⟩
    · exact hk.elim
  · unfold g_graph_New.c at hk ⊢
    split at hk
    · rename_i n_0 l_1_a l_1_n l_1_c
      exact ⟨_, id, g_graph_New.x n_0 (⟨l_1_a, l_1_n, l_1_c⟩ : Sl) h K'⟩
    · exact hk.elim

theorem g_graph_Graph_valid.x (g_0 : Option Addr) (h : Hp) (K : Value → Hp → Prop) : (g_graph_Graph_valid g_0 h (fun r0 h => K (.bool r0) h)) = xfnD Try.prog [] [] Try.f61 .z [.pointer g_0] h K := by kernel_rfl

theorem g_graph_Graph_valid.ok : OkFn Try.prog 61 g_graph_Graph_valid.c ∧ MonoC g_graph_Graph_valid.c := by
  refine xfnD_okm (an := .z) wide_ok (OkTab.nil _) (OkTabI.nil _) Try.func61 (fun vs h K hk => ?_) (fun vs h K K' hk => ?_)
  · unfold g_graph_Graph_valid.c at hk
    split at hk
    · rename_i g_0
      exact ⟨_, hk, Nat.le_of_ble_eq_true rfl, g_graph_Graph_valid.x g_0 h K⟩
    · exact hk.elim
  · unfold g_graph_Graph_valid.c at hk ⊢
    split at hk
    · rename_i g_0
      exact ⟨_, id, g_graph_Graph_valid.x g_0 h K'⟩
    · exact hk.elim

theorem g_dsu_New.x (n_0 : Int) (h : Hp) (K : Value → Hp → Prop) : (g_dsu_New n_0 h (fun r0 r1 h => K (.tuple #[.pointer r0, .int .i64 r1]) h)) = xfnD Try.prog [] [] Try.f62 (.sq .z (.sq .z (.sq .z (.sq (.sq .z (.bl (.lp .z [(16, .sc (.int .i64))])) none) .z none) none) none) none) [.int .i64 n_0] h K := by kernel_rfl

theorem g_dsu_New.ok : OkFn Try.prog 62 g_dsu_New.c ∧ MonoC g_dsu_New.c := by
  refine xfnD_okm (an := (.sq .z (.sq .z (.sq .z (.sq (.sq .z (.bl (.lp .z [(16, .sc (.int .i64))])) none) .z none) none) none) none)) wide_ok (OkTab.nil _) (OkTabI.nil _) Try.func62 (fun vs h K hk => ?_) (fun vs h K K' hk => ?_)
  · unfold g_dsu_New.c at hk
    split at hk
    · rename_i n_0
      exact ⟨_, hk, Nat.le_of_ble_eq_true rfl, g_dsu_New.x n_0 h K⟩
    · exact hk.elim
  · unfold g_dsu_New.c at hk ⊢
    split at hk
    · rename_i n_0
      exact ⟨_, id, g_dsu_New.x n_0 h K'⟩
    · exact hk.elim

theorem g_dsu_Sets_has.x (s_0 : Option Addr) (a_1 : Int) (h : Hp) (K : Value → Hp → Prop) : (g_dsu_Sets_has s_0 a_1 h (fun r0 h => K (.bool r0) h)) = xfnD Try.prog [] [] Try.f67 .z [.pointer s_0, .int .i64 a_1] h K := by kernel_rfl

theorem g_dsu_Sets_has.ok : OkFn Try.prog 67 g_dsu_Sets_has.c ∧ MonoC g_dsu_Sets_has.c := by
  refine xfnD_okm (an := .z) wide_ok (OkTab.nil _) (OkTabI.nil _) Try.func67 (fun vs h K hk => ?_) (fun vs h K K' hk => ?_)
  · unfold g_dsu_Sets_has.c at hk
    split at hk
    · rename_i s_0 a_1
      exact ⟨_, hk, Nat.le_of_ble_eq_true rfl, g_dsu_Sets_has.x s_0 a_1 h K⟩
    · exact hk.elim
  · unfold g_dsu_Sets_has.c at hk ⊢
    split at hk
    · rename_i s_0 a_1
      exact ⟨_, id, g_dsu_Sets_has.x s_0 a_1 h K'⟩
    · exact hk.elim

theorem g_dsu_Sets_root.x (s_0 : Option Addr) (a_1 : Int) (h : Hp) (K : Value → Hp → Prop) : (g_dsu_Sets_root s_0 a_1 h (fun r0 h => K (.int .i64 r0) h)) = xfnD Try.prog [] [] Try.f65 (.sq .z (.bl (.sq .z (.sq (.bl (.lp .z [(1, .sc (.int .i64))])) .z none) none)) none) [.pointer s_0, .int .i64 a_1] h K := by kernel_rfl

theorem g_dsu_Sets_root.ok : OkFn Try.prog 65 g_dsu_Sets_root.c ∧ MonoC g_dsu_Sets_root.c := by
  refine xfnD_okm (an := (.sq .z (.bl (.sq .z (.sq (.bl (.lp .z [(1, .sc (.int .i64))])) .z none) none)) none)) wide_ok (OkTab.nil _) (OkTabI.nil _) Try.func65 (fun vs h K hk => ?_) (fun vs h K K' hk => ?_)
  · unfold g_dsu_Sets_root.c at hk
    split at hk
    · rename_i s_0 a_1
      exact ⟨_, hk, Nat.le_of_ble_eq_true rfl, g_dsu_Sets_root.x s_0 a_1 h K⟩
    · exact hk.elim
  · unfold g_dsu_Sets_root.c at hk ⊢
    split at hk
    · rename_i s_0 a_1
      exact ⟨_, id, g_dsu_Sets_root.x s_0 a_1 h K'⟩
    · exact hk.elim

theorem g_dsu_Sets_Union.x (x_0 : Option Addr) (x_1 : Int) (x_2 : Int) (h : Hp) (K : Value → Hp → Prop) : (g_dsu_Sets_Union x_0 x_1 x_2 h (fun r0 r1 h => K (.tuple #[.bool r0, .int .i64 r1]) h)) = xfnD Try.prog [(67, g_dsu_Sets_has.c), (65, g_dsu_Sets_root.c)] [] Try.f63 (.sq .z (.sq .z (.sq .z (.sq .z (.sq .z (.sq .z .z (some [(1, .sc (.int .i64)), (2, .sc (.int .i64))])) none) none) none) none) none) [.pointer x_0, .int .i64 x_1, .int .i64 x_2] h K := by kernel_rfl

theorem g_dsu_Sets_Union.ok : OkFn Try.prog 63 g_dsu_Sets_Union.c ∧ MonoC g_dsu_Sets_Union.c := by
  refine xfnD_okm (an := (.sq .z (.sq .z (.sq .z (.sq .z (.sq .z (.sq .z .z (some [(1, .sc (.int .i64)), (2, .sc (.int .i64))])) none) none) none) none) none)) wide_ok (OkTab.cons g_dsu_Sets_has.ok (by kernel_rfl) (OkTab.cons g_dsu_Sets_root.ok (by kernel_rfl) (OkTab.nil _))) (OkTabI.nil _) Try.func63 (fun vs h K hk => ?_) (fun vs h K K' hk => ?_)
  · unfold g_dsu_Sets_Union.c at hk
    split at hk
    · rename_i x_0 x_1 x_2
      exact ⟨_, hk, Nat.le_of_ble_eq_true rfl, g_dsu_Sets_Union.x x_0 x_1 x_2 h K⟩
    · exact hk.elim
  · unfold g_dsu_Sets_Union.c at hk ⊢
    split at hk
    · rename_i x_0 x_1 x_2
      exact ⟨_, id, g_dsu_Sets_Union.x x_0 x_1 x_2 h K'⟩
    · exact hk.elim

theorem g_graph_Graph_sets.x (g_0 : Option Addr) (h : Hp) (K : Value → Hp → Prop) : (g_graph_Graph_sets g_0 h (fun r0 h => K (.pointer r0) h)) = xfnD Try.prog [(61, g_graph_Graph_valid.c), (62, g_dsu_New.c), (63, g_dsu_Sets_Union.c)] [] Try.f52 (.sq .z (.sq .z (.sq .z (.sq (.sq .z (.bl (.lp .z [(23, .sc (.int .i64))])) none) .z none) none) none) none) [.pointer g_0] h K := by kernel_rfl

theorem g_graph_Graph_sets.ok : OkFn Try.prog 52 g_graph_Graph_sets.c ∧ MonoC g_graph_Graph_sets.c := by
  refine xfnD_okm (an := (.sq .z (.sq .z (.sq .z (.sq (.sq .z (.bl (.lp .z [(23, .sc (.int .i64))])) none) .z none) none) none) none)) wide_ok (OkTab.cons g_graph_Graph_valid.ok (by kernel_rfl) (OkTab.cons g_dsu_New.ok (by kernel_rfl) (OkTab.cons g_dsu_Sets_Union.ok (by kernel_rfl) (OkTab.nil _)))) (OkTabI.nil _) Try.func52 (fun vs h K hk => ?_) (fun vs h K K' hk => ?_)
  · unfold g_graph_Graph_sets.c at hk
    split at hk
    · rename_i g_0
      exact ⟨_, hk, Nat.le_of_ble_eq_true rfl, g_graph_Graph_sets.x g_0 h K⟩
    · exact hk.elim
  · unfold g_graph_Graph_sets.c at hk ⊢
    split at hk
    · rename_i g_0
      exact ⟨_, id, g_graph_Graph_sets.x g_0 h K'⟩
    · exact hk.elim

theorem g_dsu_Sets_Len.x (s_0 : Option Addr) (h : Hp) (K : Value → Hp → Prop) : (g_dsu_Sets_Len s_0 h (fun r0 h => K (.int .i64 r0) h)) = xfnD Try.prog [] [] Try.f64 .z [.pointer s_0] h K := by kernel_rfl

theorem g_dsu_Sets_Len.ok : OkFn Try.prog 64 g_dsu_Sets_Len.c ∧ MonoC g_dsu_Sets_Len.c := by
  refine xfnD_okm (an := .z) wide_ok (OkTab.nil _) (OkTabI.nil _) Try.func64 (fun vs h K hk => ?_) (fun vs h K K' hk => ?_)
  · unfold g_dsu_Sets_Len.c at hk
    split at hk
    · rename_i s_0
      exact ⟨_, hk, Nat.le_of_ble_eq_true rfl, g_dsu_Sets_Len.x s_0 h K⟩
    · exact hk.elim
  · unfold g_dsu_Sets_Len.c at hk ⊢
    split at hk
    · rename_i s_0
      exact ⟨_, id, g_dsu_Sets_Len.x s_0 h K'⟩
    · exact hk.elim

theorem g_dsu_Sets_Labels.x (s_0 : Option Addr) (h : Hp) (K : Value → Hp → Prop) : (g_dsu_Sets_Labels s_0 h (fun r0 h => K (.slice r0.a r0.n r0.c) h)) = xfnD Try.prog [(64, g_dsu_Sets_Len.c), (65, g_dsu_Sets_root.c)] [] Try.f53 (.sq .z (.sq .z (.sq .z (.sq .z (.sq (.sq .z (.bl (.lp .z [(13, .sc (.int .i64))])) none) .z none) none) none) none) none) [.pointer s_0] h K := by kernel_rfl

theorem g_dsu_Sets_Labels.ok : OkFn Try.prog 53 g_dsu_Sets_Labels.c ∧ MonoC g_dsu_Sets_Labels.c := by
  refine xfnD_okm (an := (.sq .z (.sq .z (.sq .z (.sq .z (.sq (.sq .z (.bl (.lp .z [(13, .sc (.int .i64))])) none) .z none) none) none) none) none)) wide_ok (OkTab.cons g_dsu_Sets_Len.ok (by kernel_rfl) (OkTab.cons g_dsu_Sets_root.ok (by kernel_rfl) (OkTab.nil _))) (OkTabI.nil _) Try.func53 (fun vs h K hk => ?_) (fun vs h K K' hk => ?_)
  · unfold g_dsu_Sets_Labels.c at hk
    split at hk
    · rename_i s_0
      exact ⟨_, hk, Nat.le_of_ble_eq_true rfl, g_dsu_Sets_Labels.x s_0 h K⟩
    · exact hk.elim
  · unfold g_dsu_Sets_Labels.c at hk ⊢
    split at hk
    · rename_i s_0
      exact ⟨_, id, g_dsu_Sets_Labels.x s_0 h K'⟩
    · exact hk.elim

theorem g_graph_Graph_Labels.x (g_0 : Option Addr) (h : Hp) (K : Value → Hp → Prop) : (g_graph_Graph_Labels g_0 h (fun r0 h => K (.slice r0.a r0.n r0.c) h)) = xfnD Try.prog [(52, g_graph_Graph_sets.c), (53, g_dsu_Sets_Labels.c)] [] Try.f35 .z [.pointer g_0] h K := by kernel_rfl

theorem g_graph_Graph_Labels.ok : OkFn Try.prog 35 g_graph_Graph_Labels.c ∧ MonoC g_graph_Graph_Labels.c := by
  refine xfnD_okm (an := .z) wide_ok (OkTab.cons g_graph_Graph_sets.ok (by kernel_rfl) (OkTab.cons g_dsu_Sets_Labels.ok (by kernel_rfl) (OkTab.nil _))) (OkTabI.nil _) Try.func35 (fun vs h K hk => ?_) (fun vs h K K' hk => ?_)
  · unfold g_graph_Graph_Labels.c at hk
    split at hk
    · rename_i g_0
      exact ⟨_, hk, Nat.le_of_ble_eq_true rfl, g_graph_Graph_Labels.x g_0 h K⟩
    · exact hk.elim
  · unfold g_graph_Graph_Labels.c at hk ⊢
    split at hk
    · rename_i g_0
      exact ⟨_, id, g_graph_Graph_Labels.x g_0 h K'⟩
    · exact hk.elim

theorem g_wrapping_Spans.x (x_0 : Int) (x_1 : Int) (x_2 : Sl) (h : Hp) (K : Value → Hp → Prop) : (g_wrapping_Spans x_0 x_1 x_2 h (fun r0 r1 h => K (.tuple #[.bool r0, .int .i64 r1]) h)) = xfnD Try.prog [(36, g_wrapping_fits.c), (34, g_graph_New.c), (35, g_graph_Graph_Labels.c)] [] Try.f32 (.sq .z (.sq .z (.sq .z (.sq .z (.sq .z (.sq .z (.sq (.sq .z (.bl (.lp .z [(36, .sc (.int .i64))])) none) (.sq (.sq .z (.bl (.lp .z [(49, .sc (.int .i64))])) none) .z none) (some [])) none) none) none) none) none) none) [.int .i64 x_0, .int .i64 x_1, .slice x_2.a x_2.n x_2.c] h K := by kernel_rfl

theorem g_wrapping_Spans.ok : OkFn Try.prog 32 g_wrapping_Spans.c ∧ MonoC g_wrapping_Spans.c := by
  refine xfnD_okm (an := (.sq .z (.sq .z (.sq .z (.sq .z (.sq .z (.sq .z (.sq (.sq .z (.bl (.lp .z [(36, .sc (.int .i64))])) none) (.sq (.sq .z (.bl (.lp .z [(49, .sc (.int .i64))])) none) .z none) (some [])) none) none) none) none) none) none)) wide_ok (OkTab.cons g_wrapping_fits.ok (by kernel_rfl) (OkTab.cons g_graph_New.ok (by kernel_rfl) (OkTab.cons g_graph_Graph_Labels.ok (by kernel_rfl) (OkTab.nil _)))) (OkTabI.nil _) Try.func32 (fun vs h K hk => ?_) (fun vs h K K' hk => ?_)
  · unfold g_wrapping_Spans.c at hk
    split at hk
    · rename_i x_0 x_1 x_2_a x_2_n x_2_c
      exact ⟨_, hk, Nat.le_of_ble_eq_true rfl, g_wrapping_Spans.x x_0 x_1 (⟨x_2_a, x_2_n, x_2_c⟩ : Sl) h K⟩
    · exact hk.elim
  · unfold g_wrapping_Spans.c at hk ⊢
    split at hk
    · rename_i x_0 x_1 x_2_a x_2_n x_2_c
      exact ⟨_, id, g_wrapping_Spans.x x_0 x_1 (⟨x_2_a, x_2_n, x_2_c⟩ : Sl) h K'⟩
    · exact hk.elim

theorem g_ref13_New.x (x_0 : Int) (x_1 : Sl) (h : Hp) (K : Value → Hp → Prop) : (g_ref13_New x_0 x_1 h (fun r0 r1 h => K (.tuple #[.pointer r0, .int .i64 r1]) h)) = xfnD Try.prog [] [] Try.f48 (.sq .z (.sq .z (.sq (.sq .z (.bl (.lp .z [(6, .sc (.int .i64))])) none) .z (some [])) none) none) [.int .i64 x_0, .slice x_1.a x_1.n x_1.c] h K := by kernel_rfl

theorem g_ref13_New.ok : OkFn Try.prog 48 g_ref13_New.c ∧ MonoC g_ref13_New.c := by
  refine xfnD_okm (an := (.sq .z (.sq .z (.sq (.sq .z (.bl (.lp .z [(6, .sc (.int .i64))])) none) .z (some [])) none) none)) wide_ok (OkTab.nil _) (OkTabI.nil _) Try.func48 (fun vs h K hk => ?_) (fun vs h K K' hk => ?_)
  · unfold g_ref13_New.c at hk
    split at hk
    · rename_i x_0 x_1_a x_1_n x_1_c
      exact ⟨_, hk, Nat.le_of_ble_eq_true rfl, g_ref13_New.x x_0 (⟨x_1_a, x_1_n, x_1_c⟩ : Sl) h K⟩
    · exact hk.elim
  · unfold g_ref13_New.c at hk ⊢
    split at hk
    · rename_i x_0 x_1_a x_1_n x_1_c
      exact ⟨_, id, g_ref13_New.x x_0 (⟨x_1_a, x_1_n, x_1_c⟩ : Sl) h K'⟩
    · exact hk.elim

theorem g_ref13_Graph_valid.x (g_0 : Option Addr) (h : Hp) (K : Value → Hp → Prop) : (g_ref13_Graph_valid g_0 h (fun r0 h => K (.bool r0) h)) = xfnD Try.prog [] [] Try.f58 .z [.pointer g_0] h K := by kernel_rfl

theorem g_ref13_Graph_valid.ok : OkFn Try.prog 58 g_ref13_Graph_valid.c ∧ MonoC g_ref13_Graph_valid.c := by
  refine xfnD_okm (an := .z) wide_ok (OkTab.nil _) (OkTabI.nil _) Try.func58 (fun vs h K hk => ?_) (fun vs h K K' hk => ?_)
  · unfold g_ref13_Graph_valid.c at hk
    split at hk
    · rename_i g_0
      exact ⟨_, hk, Nat.le_of_ble_eq_true rfl, g_ref13_Graph_valid.x g_0 h K⟩
    · exact hk.elim
  · unfold g_ref13_Graph_valid.c at hk ⊢
    split at hk
    · rename_i g_0
      exact ⟨_, id, g_ref13_Graph_valid.x g_0 h K'⟩
    · exact hk.elim

theorem g_ref13_Graph_Labels.x (x_0 : Option Addr) (h : Hp) (K : Value → Hp → Prop) : (g_ref13_Graph_Labels x_0 h (fun r0 h => K (.slice r0.a r0.n r0.c) h)) = xfnD Try.prog [(58, g_ref13_Graph_valid.c)] [] Try.f49 (.sq .z (.sq .z (.sq .z (.sq (.sq .z (.bl (.lp .z [(3, .sc .slice), (4, .sc (.int .i64))])) none) (.sq (.sq .z (.bl (.lp (.sq .z (.bl (.sq .z (.sq .z (.bl (.lp (.sq .z (.sq (.bl (.sq .z (.sq .z .z (some [(5, .sc .bool)])) none)) .z none) none) [(5, .sc .bool), (6, .sc (.int .i64))])) none) none)) none) [(5, .sc .bool)])) none) .z none) (some [(3, .sc .slice)])) none) none) none) [.pointer x_0] h K := by kernel_rfl

theorem g_ref13_Graph_Labels.ok : OkFn Try.prog 49 g_ref13_Graph_Labels.c ∧ MonoC g_ref13_Graph_Labels.c := by
  refine xfnD_okm (an := (.sq .z (.sq .z (.sq .z (.sq (.sq .z (.bl (.lp .z [(3, .sc .slice), (4, .sc (.int .i64))])) none) (.sq (.sq .z (.bl (.lp (.sq .z (.bl (.sq .z (.sq .z (.bl (.lp (.sq .z (.sq (.bl (.sq .z (.sq .z .z (some [(5, .sc .bool)])) none)) .z none) none) [(5, .sc .bool), (6, .sc (.int .i64))])) none) none)) none) [(5, .sc .bool)])) none) .z none) (some [(3, .sc .slice)])) none) none) none)) wide_ok (OkTab.cons g_ref13_Graph_valid.ok (by kernel_rfl) (OkTab.nil _)) (OkTabI.nil _) Try.func49 (fun vs h K hk => ?_) (fun vs h K K' hk => ?_)
  · unfold g_ref13_Graph_Labels.c at hk
    split at hk
    · rename_i x_0
      exact ⟨_, hk, Nat.le_of_ble_eq_true rfl, g_ref13_Graph_Labels.x x_0 h K⟩
    · exact hk.elim
  · unfold g_ref13_Graph_Labels.c at hk ⊢
    split at hk
    · rename_i x_0
      exact ⟨_, id, g_ref13_Graph_Labels.x x_0 h K'⟩
    · exact hk.elim

theorem g_ref30_Spans.x (w_0 : Int) (h_1 : Int) (l_2 : Sl) (h : Hp) (K : Value → Hp → Prop) : (g_ref30_Spans w_0 h_1 l_2 h (fun r0 r1 h => K (.tuple #[.bool r0, .int .i64 r1]) h)) = xfnD Try.prog [(22, g_ref30_Sizes.c), (48, g_ref13_New.c), (49, g_ref13_Graph_Labels.c)] [] Try.f33 (.sq .z (.sq .z (.sq .z (.sq .z (.sq .z (.sq (.sq .z (.bl (.lp (.sq .z (.sq (.bl (.sq .z (.bl (.lp .z [(12, .sc (.int .i64))])) none)) .z none) none) [(11, .sc (.int .i64))])) none) .z none) none) none) none) none) none) [.int .i64 w_0, .int .i64 h_1, .slice l_2.a l_2.n l_2.c] h K := by kernel_rfl

theorem g_ref30_Spans.ok : OkFn Try.prog 33 g_ref30_Spans.c ∧ MonoC g_ref30_Spans.c := by
  refine xfnD_okm (an := (.sq .z (.sq .z (.sq .z (.sq .z (.sq .z (.sq (.sq .z (.bl (.lp (.sq .z (.sq (.bl (.sq .z (.bl (.lp .z [(12, .sc (.int .i64))])) none)) .z none) none) [(11, .sc (.int .i64))])) none) .z none) none) none) none) none) none)) wide_ok (OkTab.cons g_ref30_Sizes.ok (by kernel_rfl) (OkTab.cons g_ref13_New.ok (by kernel_rfl) (OkTab.cons g_ref13_Graph_Labels.ok (by kernel_rfl) (OkTab.nil _)))) (OkTabI.nil _) Try.func33 (fun vs h K hk => ?_) (fun vs h K K' hk => ?_)
  · unfold g_ref30_Spans.c at hk
    split at hk
    · rename_i w_0 h_1 l_2_a l_2_n l_2_c
      exact ⟨_, hk, Nat.le_of_ble_eq_true rfl, g_ref30_Spans.x w_0 h_1 (⟨l_2_a, l_2_n, l_2_c⟩ : Sl) h K⟩
    · exact hk.elim
  · unfold g_ref30_Spans.c at hk ⊢
    split at hk
    · rename_i w_0 h_1 l_2_a l_2_n l_2_c
      exact ⟨_, id, g_ref30_Spans.x w_0 h_1 (⟨l_2_a, l_2_n, l_2_c⟩ : Sl) h K'⟩
    · exact hk.elim

theorem g_law30_WrappingSpans.x (w_0 : Int) (h_1 : Int) (l_2 : Sl) (h : Hp) (K : Value → Hp → Prop) : (g_law30_WrappingSpans w_0 h_1 l_2 h (fun r0 h => K (.bool r0) h)) = xfnD Try.prog [(15, g_law30_small.c), (16, g_law30_works.c), (32, g_wrapping_Spans.c), (33, g_ref30_Spans.c)] [] Try.f13 .z [.int .i64 w_0, .int .i64 h_1, .slice l_2.a l_2.n l_2.c] h K := by kernel_rfl

theorem g_law30_WrappingSpans.ok : OkFn Try.prog 13 g_law30_WrappingSpans.c ∧ MonoC g_law30_WrappingSpans.c := by
  refine xfnD_okm (an := .z) wide_ok (OkTab.cons g_law30_small.ok (by kernel_rfl) (OkTab.cons g_law30_works.ok (by kernel_rfl) (OkTab.cons g_wrapping_Spans.ok (by kernel_rfl) (OkTab.cons g_ref30_Spans.ok (by kernel_rfl) (OkTab.nil _))))) (OkTabI.nil _) Try.func13 (fun vs h K hk => ?_) (fun vs h K K' hk => ?_)
  · unfold g_law30_WrappingSpans.c at hk
    split at hk
    · rename_i w_0 h_1 l_2_a l_2_n l_2_c
      exact ⟨_, hk, Nat.le_of_ble_eq_true rfl, g_law30_WrappingSpans.x w_0 h_1 (⟨l_2_a, l_2_n, l_2_c⟩ : Sl) h K⟩
    · exact hk.elim
  · unfold g_law30_WrappingSpans.c at hk ⊢
    split at hk
    · rename_i w_0 h_1 l_2_a l_2_n l_2_c
      exact ⟨_, id, g_law30_WrappingSpans.x w_0 h_1 (⟨l_2_a, l_2_n, l_2_c⟩ : Sl) h K'⟩
    · exact hk.elim

theorem g_law30_WrappingSpan.x (x_0 : Int) (x_1 : Int) (x_2 : Sl) (h : Hp) (K : Value → Hp → Prop) : (g_law30_WrappingSpan x_0 x_1 x_2 h (fun r0 h => K (.bool r0) h)) = xfnD Try.prog [(29, g_law30_sizes.c), (31, g_law30_edges.c), (32, g_wrapping_Spans.c), (34, g_graph_New.c), (35, g_graph_Graph_Labels.c), (16, g_law30_works.c)] [] Try.f14 (.sq .z (.sq .z (.sq .z (.sq .z (.sq .z (.sq (.sq .z (.bl (.lp (.sq .z (.sq (.bl (.sq .z (.sq .z .z (some [(11, .sc .slice)])) none)) .z none) none) [(11, .sc .slice), (12, .sc (.int .i64))])) none) (.sq .z (.sq (.sq .z (.bl (.lp .z [(11, .sc .slice), (16, .sc (.int .i64))])) none) .z (some [(11, .sc .slice)])) none) (some [(11, .sc .slice)])) none) none) none) none) none) [.int .u8 x_0, .int .u8 x_1, .slice x_2.a x_2.n x_2.c] h K := by kernel_rfl

theorem g_law30_WrappingSpan.ok : OkFn Try.prog 14 g_law30_WrappingSpan.c ∧ MonoC g_law30_WrappingSpan.c := by
  refine xfnD_okm (an := (.sq .z (.sq .z (.sq .z (.sq .z (.sq .z (.sq (.sq .z (.bl (.lp (.sq .z (.sq (.bl (.sq .z (.sq .z .z (some [(11, .sc .slice)])) none)) .z none) none) [(11, .sc .slice), (12, .sc (.int .i64))])) none) (.sq .z (.sq (.sq .z (.bl (.lp .z [(11, .sc .slice), (16, .sc (.int .i64))])) none) .z (some [(11, .sc .slice)])) none) (some [(11, .sc .slice)])) none) none) none) none) none)) wide_ok (OkTab.cons g_law30_sizes.ok (by kernel_rfl) (OkTab.cons g_law30_edges.ok (by kernel_rfl) (OkTab.cons g_wrapping_Spans.ok (by kernel_rfl) (OkTab.cons g_graph_New.ok (by kernel_rfl) (OkTab.cons g_graph_Graph_Labels.ok (by kernel_rfl) (OkTab.cons g_law30_works.ok (by kernel_rfl) (OkTab.nil _))))))) (OkTabI.nil _) Try.func14 (fun vs h K hk => ?_) (fun vs h K K' hk => ?_)
  · unfold g_law30_WrappingSpan.c at hk
    split at hk
    · rename_i x_0 x_1 x_2_a x_2_n x_2_c
      exact ⟨_, hk, Nat.le_of_ble_eq_true rfl, g_law30_WrappingSpan.x x_0 x_1 (⟨x_2_a, x_2_n, x_2_c⟩ : Sl) h K⟩
    · exact hk.elim
  · unfold g_law30_WrappingSpan.c at hk ⊢
    split at hk
    · rename_i x_0 x_1 x_2_a x_2_n x_2_c
      exact ⟨_, id, g_law30_WrappingSpan.x x_0 x_1 (⟨x_2_a, x_2_n, x_2_c⟩ : Sl) h K'⟩
    · exact hk.elim

end Go.Hx
