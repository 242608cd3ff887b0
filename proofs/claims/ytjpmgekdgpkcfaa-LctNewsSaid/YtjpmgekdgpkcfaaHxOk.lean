/- Printed by gen.py: what each function's call asks. -/
import Derived.Test.YtjpmgekdgpkcfaaHxDefs
import Derived.Test.YtjpmgekdgpkcfaaHxSoundH
import Derived.Test.YtjpmgekdgpkcfaaProg
import Derived.KernelRfl
set_option linter.unusedVariables false
namespace Go.Hx
open Go.Proofs
theorem wide_ok : Try.prog.follows .mixedOrders = true := by kernel_rfl

theorem g_law12_small.x (n_0 : Int) (l_1 : Sl) (h : Hp) (K : Value → Hp → Prop) : (g_law12_small n_0 l_1 h (fun r0 h => K (.bool r0) h)) = xfnD Try.prog [] [] Try.f12 .z [.int .i64 n_0, .slice l_1.a l_1.n l_1.c] h K := by kernel_rfl

theorem g_law12_small.ok : OkFn Try.prog 12 g_law12_small.c ∧ MonoC g_law12_small.c := by
  refine xfnD_okm (an := .z) wide_ok (OkTab.nil _) (OkTabI.nil _) Try.func12 (fun vs h K hk => ?_) (fun vs h K K' hk => ?_)
  · unfold g_law12_small.c at hk
    split at hk
    · rename_i n_0 l_1_a l_1_n l_1_c
      exact ⟨_, hk, Nat.le_of_ble_eq_true rfl, g_law12_small.x n_0 (⟨l_1_a, l_1_n, l_1_c⟩ : Sl) h K⟩
    · exact hk.elim
  · unfold g_law12_small.c at hk ⊢
    split at hk
    · rename_i n_0 l_1_a l_1_n l_1_c
      exact ⟨_, id, g_law12_small.x n_0 (⟨l_1_a, l_1_n, l_1_c⟩ : Sl) h K'⟩
    · exact hk.elim

theorem g_lct_New.x (n_0 : Int) (h : Hp) (K : Value → Hp → Prop) : (g_lct_New n_0 h (fun r0 r1 h => K (.tuple #[.pointer r0, .int .i64 r1]) h)) = xfnD Try.prog [] [] Try.f14 (.sq .z (.sq .z (.sq .z (.sq (.sq .z (.bl (.lp .z [(18, .sc (.int .i64))])) none) .z none) none) none) none) [.int .i64 n_0] h K := by kernel_rfl

theorem g_lct_New.ok : OkFn Try.prog 14 g_lct_New.c ∧ MonoC g_lct_New.c := by
  refine xfnD_okm (an := (.sq .z (.sq .z (.sq .z (.sq (.sq .z (.bl (.lp .z [(18, .sc (.int .i64))])) none) .z none) none) none) none)) wide_ok (OkTab.nil _) (OkTabI.nil _) Try.func14 (fun vs h K hk => ?_) (fun vs h K K' hk => ?_)
  · unfold g_lct_New.c at hk
    split at hk
    · rename_i n_0
      exact ⟨_, hk, Nat.le_of_ble_eq_true rfl, g_lct_New.x n_0 h K⟩
    · exact hk.elim
  · unfold g_lct_New.c at hk ⊢
    split at hk
    · rename_i n_0
      exact ⟨_, id, g_lct_New.x n_0 h K'⟩
    · exact hk.elim

theorem g_lct_Forest_has.x (f_0 : Option Addr) (v_1 : Int) (h : Hp) (K : Value → Hp → Prop) : (g_lct_Forest_has f_0 v_1 h (fun r0 h => K (.bool r0) h)) = xfnD Try.prog [] [] Try.f36 .z [.pointer f_0, .int .i64 v_1] h K := by kernel_rfl

theorem g_lct_Forest_has.ok : OkFn Try.prog 36 g_lct_Forest_has.c ∧ MonoC g_lct_Forest_has.c := by
  refine xfnD_okm (an := .z) wide_ok (OkTab.nil _) (OkTabI.nil _) Try.func36 (fun vs h K hk => ?_) (fun vs h K K' hk => ?_)
  · unfold g_lct_Forest_has.c at hk
    split at hk
    · rename_i f_0 v_1
      exact ⟨_, hk, Nat.le_of_ble_eq_true rfl, g_lct_Forest_has.x f_0 v_1 h K⟩
    · exact hk.elim
  · unfold g_lct_Forest_has.c at hk ⊢
    split at hk
    · rename_i f_0 v_1
      exact ⟨_, id, g_lct_Forest_has.x f_0 v_1 h K'⟩
    · exact hk.elim

theorem g_lct_Forest_check.x (f_0 : Option Addr) (a_1 : Int) (b_2 : Int) (h : Hp) (K : Value → Hp → Prop) : (g_lct_Forest_check f_0 a_1 b_2 h (fun r0 h => K (.int .i64 r0) h)) = xfnD Try.prog [(36, g_lct_Forest_has.c)] [] Try.f33 .z [.pointer f_0, .int .i64 a_1, .int .i64 b_2] h K := by kernel_rfl

theorem g_lct_Forest_check.ok : OkFn Try.prog 33 g_lct_Forest_check.c ∧ MonoC g_lct_Forest_check.c := by
  refine xfnD_okm (an := .z) wide_ok (OkTab.cons g_lct_Forest_has.ok (by kernel_rfl) (OkTab.nil _)) (OkTabI.nil _) Try.func33 (fun vs h K hk => ?_) (fun vs h K K' hk => ?_)
  · unfold g_lct_Forest_check.c at hk
    split at hk
    · rename_i f_0 a_1 b_2
      exact ⟨_, hk, Nat.le_of_ble_eq_true rfl, g_lct_Forest_check.x f_0 a_1 b_2 h K⟩
    · exact hk.elim
  · unfold g_lct_Forest_check.c at hk ⊢
    split at hk
    · rename_i f_0 a_1 b_2
      exact ⟨_, id, g_lct_Forest_check.x f_0 a_1 b_2 h K'⟩
    · exact hk.elim

theorem g_lct_Forest_top.x (f_0 : Option Addr) (v_1 : Int) (h : Hp) (K : Value → Hp → Prop) : (g_lct_Forest_top f_0 v_1 h (fun r0 h => K (.bool r0) h)) = xfnD Try.prog [] [] Try.f60 .z [.pointer f_0, .int .i64 v_1] h K := by kernel_rfl

theorem g_lct_Forest_top.ok : OkFn Try.prog 60 g_lct_Forest_top.c ∧ MonoC g_lct_Forest_top.c := by
  refine xfnD_okm (an := .z) wide_ok (OkTab.nil _) (OkTabI.nil _) Try.func60 (fun vs h K hk => ?_) (fun vs h K K' hk => ?_)
  · unfold g_lct_Forest_top.c at hk
    split at hk
    · rename_i f_0 v_1
      exact ⟨_, hk, Nat.le_of_ble_eq_true rfl, g_lct_Forest_top.x f_0 v_1 h K⟩
    · exact hk.elim
  · unfold g_lct_Forest_top.c at hk ⊢
    split at hk
    · rename_i f_0 v_1
      exact ⟨_, id, g_lct_Forest_top.x f_0 v_1 h K'⟩
    · exact hk.elim

theorem g_slices_Backward_int.x (s_0 : Sl) (h : Hp) (K : Value → Hp → Prop) : (g_slices_Backward_int s_0 h (fun r0 h => K (.func (.func 65) #[] #[.pointer (some r0)]) h)) = xfnD Try.prog [] [] Try.f61 .z [.slice s_0.a s_0.n s_0.c] h K := by kernel_rfl

theorem g_slices_Backward_int.ok : OkFn Try.prog 61 g_slices_Backward_int.c ∧ MonoC g_slices_Backward_int.c := by
  refine xfnD_okm (an := .z) wide_ok (OkTab.nil _) (OkTabI.nil _) Try.func61 (fun vs h K hk => ?_) (fun vs h K K' hk => ?_)
  · unfold g_slices_Backward_int.c at hk
    split at hk
    · rename_i s_0_a s_0_n s_0_c
      exact ⟨_, hk, Nat.le_of_ble_eq_true rfl, g_slices_Backward_int.x (⟨s_0_a, s_0_n, s_0_c⟩ : Sl) h K⟩
    · exact hk.elim
  · unfold g_slices_Backward_int.c at hk ⊢
    split at hk
    · rename_i s_0_a s_0_n s_0_c
      exact ⟨_, id, g_slices_Backward_int.x (⟨s_0_a, s_0_n, s_0_c⟩ : Sl) h K'⟩
    · exact hk.elim

theorem g_slices_Backward_f1_int.x (Y : YT) (yield_0 : Nat) (c_0 : Addr) (h : Hp) (K : Value → Hp → Prop) : (g_slices_Backward_f1_int Y yield_0 c_0 h (fun h => K (.tuple #[]) h)) = xfnD Try.prog ((ykey, yct Y) :: []) [] Try.f65 (.sq .z (.bl (.lp .z [(3, .sc (.int .i64))])) none) [.func (.yield yield_0) #[] #[], .pointer (some c_0)] h K := by kernel_rfl

theorem g_slices_Backward_f1_int.ok : OkIt Try.prog 65 g_slices_Backward_f1_int.c := by
  refine xfnD_oki (an := (.sq .z (.bl (.lp .z [(3, .sc (.int .i64))])) none)) (by kernel_rfl) wide_ok (OkTab.nil _) Try.func65 (fun Y vs h K hk => ?_) (fun Y vs h K K' hk => ?_)
  · unfold g_slices_Backward_f1_int.c at hk
    split at hk
    · rename_i yield_0 c_0
      exact ⟨_, hk, Nat.le_of_ble_eq_true rfl, g_slices_Backward_f1_int.x Y yield_0 c_0 h K⟩
    · exact hk.elim
  · unfold g_slices_Backward_f1_int.c at hk ⊢
    split at hk
    · rename_i yield_0 c_0
      exact ⟨_, id, g_slices_Backward_f1_int.x Y yield_0 c_0 h K'⟩
    · exact hk.elim

theorem g_lct_Forest_push.x (x_0 : Option Addr) (x_1 : Int) (h : Hp) (K : Value → Hp → Prop) : (g_lct_Forest_push x_0 x_1 h (fun h => K (.tuple #[]) h)) = xfnD Try.prog [] [] Try.f54 (.sq .z (.sq .z (.sq .z (.sq .z (.sq .z (.bl (.lp (.sq .z (.sq .z (.sq (.bl (.sq .z .z (some [(6, .sc (.int .i64))]))) .z none) none) none) [(43, .sc (.int .i64))])) none) none) none) none) none) [.pointer x_0, .int .i64 x_1] h K := by kernel_rfl

theorem g_lct_Forest_push.ok : OkFn Try.prog 54 g_lct_Forest_push.c ∧ MonoC g_lct_Forest_push.c := by
  refine xfnD_okm (an := (.sq .z (.sq .z (.sq .z (.sq .z (.sq .z (.bl (.lp (.sq .z (.sq .z (.sq (.bl (.sq .z .z (some [(6, .sc (.int .i64))]))) .z none) none) none) [(43, .sc (.int .i64))])) none) none) none) none) none)) wide_ok (OkTab.nil _) (OkTabI.nil _) Try.func54 (fun vs h K hk => ?_) (fun vs h K K' hk => ?_)
  · unfold g_lct_Forest_push.c at hk
    split at hk
    · rename_i x_0 x_1
      exact ⟨_, hk, Nat.le_of_ble_eq_true rfl, g_lct_Forest_push.x x_0 x_1 h K⟩
    · exact hk.elim
  · unfold g_lct_Forest_push.c at hk ⊢
    split at hk
    · rename_i x_0 x_1
      exact ⟨_, id, g_lct_Forest_push.x x_0 x_1 h K'⟩
    · exact hk.elim

theorem g_lct_Forest_side.x (f_0 : Option Addr) (v_1 : Int) (h : Hp) (K : Value → Hp → Prop) : (g_lct_Forest_side f_0 v_1 h (fun r0 h => K (.int .i64 r0) h)) = xfnD Try.prog [] [] Try.f63 .z [.pointer f_0, .int .i64 v_1] h K := by kernel_rfl

theorem g_lct_Forest_side.ok : OkFn Try.prog 63 g_lct_Forest_side.c ∧ MonoC g_lct_Forest_side.c := by
  refine xfnD_okm (an := .z) wide_ok (OkTab.nil _) (OkTabI.nil _) Try.func63 (fun vs h K hk => ?_) (fun vs h K K' hk => ?_)
  · unfold g_lct_Forest_side.c at hk
    split at hk
    · rename_i f_0 v_1
      exact ⟨_, hk, Nat.le_of_ble_eq_true rfl, g_lct_Forest_side.x f_0 v_1 h K⟩
    · exact hk.elim
  · unfold g_lct_Forest_side.c at hk ⊢
    split at hk
    · rename_i f_0 v_1
      exact ⟨_, id, g_lct_Forest_side.x f_0 v_1 h K'⟩
    · exact hk.elim

theorem g_lct_Forest_before.x (f_0 : Option Addr) (a_1 : Int) (b_2 : Int) (h : Hp) (K : Value → Hp → Prop) : (g_lct_Forest_before f_0 a_1 b_2 h (fun r0 h => K (.bool r0) h)) = xfnD Try.prog [] [] Try.f55 .z [.pointer f_0, .int .i64 a_1, .int .i64 b_2] h K := by kernel_rfl

theorem g_lct_Forest_before.ok : OkFn Try.prog 55 g_lct_Forest_before.c ∧ MonoC g_lct_Forest_before.c := by
  refine xfnD_okm (an := .z) wide_ok (OkTab.nil _) (OkTabI.nil _) Try.func55 (fun vs h K hk => ?_) (fun vs h K K' hk => ?_)
  · unfold g_lct_Forest_before.c at hk
    split at hk
    · rename_i f_0 a_1 b_2
      exact ⟨_, hk, Nat.le_of_ble_eq_true rfl, g_lct_Forest_before.x f_0 a_1 b_2 h K⟩
    · exact hk.elim
  · unfold g_lct_Forest_before.c at hk ⊢
    split at hk
    · rename_i f_0 a_1 b_2
      exact ⟨_, id, g_lct_Forest_before.x f_0 a_1 b_2 h K'⟩
    · exact hk.elim

theorem g_lct_Forest_pull.x (x_0 : Option Addr) (x_1 : Int) (h : Hp) (K : Value → Hp → Prop) : (g_lct_Forest_pull x_0 x_1 h (fun h => K (.tuple #[]) h)) = xfnD Try.prog [(55, g_lct_Forest_before.c)] [] Try.f35 (.sq .z (.sq .z (.sq .z (.bl (.lp (.sq .z (.sq .z (.sq (.bl (.sq .z (.sq .z (.sq .z .z (some [])) none) (some [(6, .sc (.int .i64))]))) .z none) none) none) [(32, .sc (.int .i64))])) none) none) none) [.pointer x_0, .int .i64 x_1] h K := by kernel_rfl

theorem g_lct_Forest_pull.ok : OkFn Try.prog 35 g_lct_Forest_pull.c ∧ MonoC g_lct_Forest_pull.c := by
  refine xfnD_okm (an := (.sq .z (.sq .z (.sq .z (.bl (.lp (.sq .z (.sq .z (.sq (.bl (.sq .z (.sq .z (.sq .z .z (some [])) none) (some [(6, .sc (.int .i64))]))) .z none) none) none) [(32, .sc (.int .i64))])) none) none) none)) wide_ok (OkTab.cons g_lct_Forest_before.ok (by kernel_rfl) (OkTab.nil _)) (OkTabI.nil _) Try.func35 (fun vs h K hk => ?_) (fun vs h K K' hk => ?_)
  · unfold g_lct_Forest_pull.c at hk
    split at hk
    · rename_i x_0 x_1
      exact ⟨_, hk, Nat.le_of_ble_eq_true rfl, g_lct_Forest_pull.x x_0 x_1 h K⟩
    · exact hk.elim
  · unfold g_lct_Forest_pull.c at hk ⊢
    split at hk
    · rename_i x_0 x_1
      exact ⟨_, id, g_lct_Forest_pull.x x_0 x_1 h K'⟩
    · exact hk.elim

theorem g_lct_Forest_rotate.x (x_0 : Option Addr) (x_1 : Int) (h : Hp) (K : Value → Hp → Prop) : (g_lct_Forest_rotate x_0 x_1 h (fun h => K (.tuple #[]) h)) = xfnD Try.prog [(63, g_lct_Forest_side.c), (35, g_lct_Forest_pull.c), (60, g_lct_Forest_top.c)] [] Try.f62 (.sq .z (.sq .z (.sq .z (.sq .z (.sq .z (.sq .z (.sq .z .z (some [])) none) none) (some [])) none) none) none) [.pointer x_0, .int .i64 x_1] h K := by kernel_rfl

theorem g_lct_Forest_rotate.ok : OkFn Try.prog 62 g_lct_Forest_rotate.c ∧ MonoC g_lct_Forest_rotate.c := by
  refine xfnD_okm (an := (.sq .z (.sq .z (.sq .z (.sq .z (.sq .z (.sq .z (.sq .z .z (some [])) none) none) (some [])) none) none) none)) wide_ok (OkTab.cons g_lct_Forest_side.ok (by kernel_rfl) (OkTab.cons g_lct_Forest_pull.ok (by kernel_rfl) (OkTab.cons g_lct_Forest_top.ok (by kernel_rfl) (OkTab.nil _)))) (OkTabI.nil _) Try.func62 (fun vs h K hk => ?_) (fun vs h K K' hk => ?_)
  · unfold g_lct_Forest_rotate.c at hk
    split at hk
    · rename_i x_0 x_1
      exact ⟨_, hk, Nat.le_of_ble_eq_true rfl, g_lct_Forest_rotate.x x_0 x_1 h K⟩
    · exact hk.elim
  · unfold g_lct_Forest_rotate.c at hk ⊢
    split at hk
    · rename_i x_0 x_1
      exact ⟨_, id, g_lct_Forest_rotate.x x_0 x_1 h K'⟩
    · exact hk.elim

theorem g_lct_Forest_splay.x (x_0 : Option Addr) (x_1 : Int) (h : Hp) (K : Value → Hp → Prop) : (g_lct_Forest_splay x_0 x_1 h (fun h => K (.tuple #[]) h)) = xfnD Try.prog [(61, g_slices_Backward_int.c), (54, g_lct_Forest_push.c), (60, g_lct_Forest_top.c), (62, g_lct_Forest_rotate.c), (63, g_lct_Forest_side.c)] [(65, g_slices_Backward_f1_int.c)] Try.f48 (.sq .z (.bl (.sq .z (.sq (.sq .z (.bl (.lp .z [(4, .sc .slice), (5, .sc (.int .i64))])) none) (.sq (.sq .z (.bl (.sq .z .z (some [(37, .sc (.int .i64)), (38, .sc (.int .i64))]))) none) (.sq .z (.bl (.lp .z [])) none) none) (some [(4, .sc .slice)])) none)) none) [.pointer x_0, .int .i64 x_1] h K := by kernel_rfl

theorem g_lct_Forest_splay.ok : OkFn Try.prog 48 g_lct_Forest_splay.c ∧ MonoC g_lct_Forest_splay.c := by
  refine xfnD_okm (an := (.sq .z (.bl (.sq .z (.sq (.sq .z (.bl (.lp .z [(4, .sc .slice), (5, .sc (.int .i64))])) none) (.sq (.sq .z (.bl (.sq .z .z (some [(37, .sc (.int .i64)), (38, .sc (.int .i64))]))) none) (.sq .z (.bl (.lp .z [])) none) none) (some [(4, .sc .slice)])) none)) none)) wide_ok (OkTab.cons g_slices_Backward_int.ok (by kernel_rfl) (OkTab.cons g_lct_Forest_push.ok (by kernel_rfl) (OkTab.cons g_lct_Forest_top.ok (by kernel_rfl) (OkTab.cons g_lct_Forest_rotate.ok (by kernel_rfl) (OkTab.cons g_lct_Forest_side.ok (by kernel_rfl) (OkTab.nil _)))))) (OkTabI.cons g_slices_Backward_f1_int.ok (OkTabI.nil _)) Try.func48 (fun vs h K hk => ?_) (fun vs h K K' hk => ?_)
  · unfold g_lct_Forest_splay.c at hk
    split at hk
    · rename_i x_0 x_1
      exact ⟨_, hk, Nat.le_of_ble_eq_true rfl, g_lct_Forest_splay.x x_0 x_1 h K⟩
    · exact hk.elim
  · unfold g_lct_Forest_splay.c at hk ⊢
    split at hk
    · rename_i x_0 x_1
      exact ⟨_, id, g_lct_Forest_splay.x x_0 x_1 h K'⟩
    · exact hk.elim

theorem g_lct_Forest_access.x (x_0 : Option Addr) (x_1 : Int) (h : Hp) (K : Value → Hp → Prop) : (g_lct_Forest_access x_0 x_1 h (fun r0 h => K (.int .i64 r0) h)) = xfnD Try.prog [(48, g_lct_Forest_splay.c), (35, g_lct_Forest_pull.c)] [] Try.f37 (.sq .z (.sq .z (.sq (.sq .z (.bl (.lp (.sq .z (.sq (.bl (.sq .z (.sq .z (.sq .z (.sq .z .z (some [])) (some [])) none) none)) .z none) none) [(5, .sc (.int .i64)), (6, .sc (.int .i64))])) none) .z (some [(5, .sc (.int .i64))])) none) none) [.pointer x_0, .int .i64 x_1] h K := by kernel_rfl

theorem g_lct_Forest_access.ok : OkFn Try.prog 37 g_lct_Forest_access.c ∧ MonoC g_lct_Forest_access.c := by
  refine xfnD_okm (an := (.sq .z (.sq .z (.sq (.sq .z (.bl (.lp (.sq .z (.sq (.bl (.sq .z (.sq .z (.sq .z (.sq .z .z (some [])) (some [])) none) none)) .z none) none) [(5, .sc (.int .i64)), (6, .sc (.int .i64))])) none) .z (some [(5, .sc (.int .i64))])) none) none)) wide_ok (OkTab.cons g_lct_Forest_splay.ok (by kernel_rfl) (OkTab.cons g_lct_Forest_pull.ok (by kernel_rfl) (OkTab.nil _))) (OkTabI.nil _) Try.func37 (fun vs h K hk => ?_) (fun vs h K K' hk => ?_)
  · unfold g_lct_Forest_access.c at hk
    split at hk
    · rename_i x_0 x_1
      exact ⟨_, hk, Nat.le_of_ble_eq_true rfl, g_lct_Forest_access.x x_0 x_1 h K⟩
    · exact hk.elim
  · unfold g_lct_Forest_access.c at hk ⊢
    split at hk
    · rename_i x_0 x_1
      exact ⟨_, id, g_lct_Forest_access.x x_0 x_1 h K'⟩
    · exact hk.elim

theorem g_lct_Forest_root.x (f_0 : Option Addr) (v_1 : Int) (h : Hp) (K : Value → Hp → Prop) : (g_lct_Forest_root f_0 v_1 h (fun h => K (.tuple #[]) h)) = xfnD Try.prog [(37, g_lct_Forest_access.c), (54, g_lct_Forest_push.c)] [] Try.f34 .z [.pointer f_0, .int .i64 v_1] h K := by kernel_rfl

theorem g_lct_Forest_root.ok : OkFn Try.prog 34 g_lct_Forest_root.c ∧ MonoC g_lct_Forest_root.c := by
  refine xfnD_okm (an := .z) wide_ok (OkTab.cons g_lct_Forest_access.ok (by kernel_rfl) (OkTab.cons g_lct_Forest_push.ok (by kernel_rfl) (OkTab.nil _))) (OkTabI.nil _) Try.func34 (fun vs h K hk => ?_) (fun vs h K K' hk => ?_)
  · unfold g_lct_Forest_root.c at hk
    split at hk
    · rename_i f_0 v_1
      exact ⟨_, hk, Nat.le_of_ble_eq_true rfl, g_lct_Forest_root.x f_0 v_1 h K⟩
    · exact hk.elim
  · unfold g_lct_Forest_root.c at hk ⊢
    split at hk
    · rename_i f_0 v_1
      exact ⟨_, id, g_lct_Forest_root.x f_0 v_1 h K'⟩
    · exact hk.elim

theorem g_lct_Forest_path.x (f_0 : Option Addr) (a_1 : Int) (b_2 : Int) (h : Hp) (K : Value → Hp → Prop) : (g_lct_Forest_path f_0 a_1 b_2 h (fun r0 h => K (.bool r0) h)) = xfnD Try.prog [(36, g_lct_Forest_has.c), (34, g_lct_Forest_root.c), (37, g_lct_Forest_access.c)] [] Try.f32 .z [.pointer f_0, .int .i64 a_1, .int .i64 b_2] h K := by kernel_rfl

theorem g_lct_Forest_path.ok : OkFn Try.prog 32 g_lct_Forest_path.c ∧ MonoC g_lct_Forest_path.c := by
  refine xfnD_okm (an := .z) wide_ok (OkTab.cons g_lct_Forest_has.ok (by kernel_rfl) (OkTab.cons g_lct_Forest_root.ok (by kernel_rfl) (OkTab.cons g_lct_Forest_access.ok (by kernel_rfl) (OkTab.nil _)))) (OkTabI.nil _) Try.func32 (fun vs h K hk => ?_) (fun vs h K K' hk => ?_)
  · unfold g_lct_Forest_path.c at hk
    split at hk
    · rename_i f_0 a_1 b_2
      exact ⟨_, hk, Nat.le_of_ble_eq_true rfl, g_lct_Forest_path.x f_0 a_1 b_2 h K⟩
    · exact hk.elim
  · unfold g_lct_Forest_path.c at hk ⊢
    split at hk
    · rename_i f_0 a_1 b_2
      exact ⟨_, id, g_lct_Forest_path.x f_0 a_1 b_2 h K'⟩
    · exact hk.elim

theorem g_lct_Forest_Link.x (f_0 : Option Addr) (a_1 : Int) (b_2 : Int) (h : Hp) (K : Value → Hp → Prop) : (g_lct_Forest_Link f_0 a_1 b_2 h (fun r0 h => K (.int .i64 r0) h)) = xfnD Try.prog [(33, g_lct_Forest_check.c), (32, g_lct_Forest_path.c), (34, g_lct_Forest_root.c), (35, g_lct_Forest_pull.c)] [] Try.f16 .z [.pointer f_0, .int .i64 a_1, .int .i64 b_2] h K := by kernel_rfl

theorem g_lct_Forest_Link.ok : OkFn Try.prog 16 g_lct_Forest_Link.c ∧ MonoC g_lct_Forest_Link.c := by
  refine xfnD_okm (an := .z) wide_ok (OkTab.cons g_lct_Forest_check.ok (by kernel_rfl) (OkTab.cons g_lct_Forest_path.ok (by kernel_rfl) (OkTab.cons g_lct_Forest_root.ok (by kernel_rfl) (OkTab.cons g_lct_Forest_pull.ok (by kernel_rfl) (OkTab.nil _))))) (OkTabI.nil _) Try.func16 (fun vs h K hk => ?_) (fun vs h K K' hk => ?_)
  · unfold g_lct_Forest_Link.c at hk
    split at hk
    · rename_i f_0 a_1 b_2
      exact ⟨_, hk, Nat.le_of_ble_eq_true rfl, g_lct_Forest_Link.x f_0 a_1 b_2 h K⟩
    · exact hk.elim
  · unfold g_lct_Forest_Link.c at hk ⊢
    split at hk
    · rename_i f_0 a_1 b_2
      exact ⟨_, id, g_lct_Forest_Link.x f_0 a_1 b_2 h K'⟩
    · exact hk.elim

theorem g_lct_Forest_Meet.x (f_0 : Option Addr) (a_1 : Int) (b_2 : Int) (c_3 : Int) (h : Hp) (K : Value → Hp → Prop) : (g_lct_Forest_Meet f_0 a_1 b_2 c_3 h (fun r0 r1 h => K (.tuple #[.int .i64 r0, .bool r1]) h)) = xfnD Try.prog [(32, g_lct_Forest_path.c), (37, g_lct_Forest_access.c)] [] Try.f20 .z [.pointer f_0, .int .i64 a_1, .int .i64 b_2, .int .i64 c_3] h K := by kernel_rfl

theorem g_lct_Forest_Meet.ok : OkFn Try.prog 20 g_lct_Forest_Meet.c ∧ MonoC g_lct_Forest_Meet.c := by
  refine xfnD_okm (an := .z) wide_ok (OkTab.cons g_lct_Forest_path.ok (by kernel_rfl) (OkTab.cons g_lct_Forest_access.ok (by kernel_rfl) (OkTab.nil _))) (OkTabI.nil _) Try.func20 (fun vs h K hk => ?_) (fun vs h K K' hk => ?_)
  · unfold g_lct_Forest_Meet.c at hk
    split at hk
    · rename_i f_0 a_1 b_2 c_3
      exact ⟨_, hk, Nat.le_of_ble_eq_true rfl, g_lct_Forest_Meet.x f_0 a_1 b_2 c_3 h K⟩
    · exact hk.elim
  · unfold g_lct_Forest_Meet.c at hk ⊢
    split at hk
    · rename_i f_0 a_1 b_2 c_3
      exact ⟨_, id, g_lct_Forest_Meet.x f_0 a_1 b_2 c_3 h K'⟩
    · exact hk.elim

theorem g_lct_Forest_Dist.x (f_0 : Option Addr) (a_1 : Int) (b_2 : Int) (h : Hp) (K : Value → Hp → Prop) : (g_lct_Forest_Dist f_0 a_1 b_2 h (fun r0 h => K (.int .i64 r0) h)) = xfnD Try.prog [(32, g_lct_Forest_path.c)] [] Try.f21 .z [.pointer f_0, .int .i64 a_1, .int .i64 b_2] h K := by kernel_rfl

theorem g_lct_Forest_Dist.ok : OkFn Try.prog 21 g_lct_Forest_Dist.c ∧ MonoC g_lct_Forest_Dist.c := by
  refine xfnD_okm (an := .z) wide_ok (OkTab.cons g_lct_Forest_path.ok (by kernel_rfl) (OkTab.nil _)) (OkTabI.nil _) Try.func21 (fun vs h K hk => ?_) (fun vs h K K' hk => ?_)
  · unfold g_lct_Forest_Dist.c at hk
    split at hk
    · rename_i f_0 a_1 b_2
      exact ⟨_, hk, Nat.le_of_ble_eq_true rfl, g_lct_Forest_Dist.x f_0 a_1 b_2 h K⟩
    · exact hk.elim
  · unfold g_lct_Forest_Dist.c at hk ⊢
    split at hk
    · rename_i f_0 a_1 b_2
      exact ⟨_, id, g_lct_Forest_Dist.x f_0 a_1 b_2 h K'⟩
    · exact hk.elim

theorem g_lct_Forest_Size.x (f_0 : Option Addr) (a_1 : Int) (h : Hp) (K : Value → Hp → Prop) : (g_lct_Forest_Size f_0 a_1 h (fun r0 h => K (.int .i64 r0) h)) = xfnD Try.prog [(36, g_lct_Forest_has.c), (37, g_lct_Forest_access.c)] [] Try.f18 .z [.pointer f_0, .int .i64 a_1] h K := by kernel_rfl

theorem g_lct_Forest_Size.ok : OkFn Try.prog 18 g_lct_Forest_Size.c ∧ MonoC g_lct_Forest_Size.c := by
  refine xfnD_okm (an := .z) wide_ok (OkTab.cons g_lct_Forest_has.ok (by kernel_rfl) (OkTab.cons g_lct_Forest_access.ok (by kernel_rfl) (OkTab.nil _))) (OkTabI.nil _) Try.func18 (fun vs h K hk => ?_) (fun vs h K K' hk => ?_)
  · unfold g_lct_Forest_Size.c at hk
    split at hk
    · rename_i f_0 a_1
      exact ⟨_, hk, Nat.le_of_ble_eq_true rfl, g_lct_Forest_Size.x f_0 a_1 h K⟩
    · exact hk.elim
  · unfold g_lct_Forest_Size.c at hk ⊢
    split at hk
    · rename_i f_0 a_1
      exact ⟨_, id, g_lct_Forest_Size.x f_0 a_1 h K'⟩
    · exact hk.elim

theorem g_lct_Forest_Trees.x (f_0 : Option Addr) (h : Hp) (K : Value → Hp → Prop) : (g_lct_Forest_Trees f_0 h (fun r0 h => K (.int .i64 r0) h)) = xfnD Try.prog [] [] Try.f17 .z [.pointer f_0] h K := by kernel_rfl

theorem g_lct_Forest_Trees.ok : OkFn Try.prog 17 g_lct_Forest_Trees.c ∧ MonoC g_lct_Forest_Trees.c := by
  refine xfnD_okm (an := .z) wide_ok (OkTab.nil _) (OkTabI.nil _) Try.func17 (fun vs h K hk => ?_) (fun vs h K K' hk => ?_)
  · unfold g_lct_Forest_Trees.c at hk
    split at hk
    · rename_i f_0
      exact ⟨_, hk, Nat.le_of_ble_eq_true rfl, g_lct_Forest_Trees.x f_0 h K⟩
    · exact hk.elim
  · unfold g_lct_Forest_Trees.c at hk ⊢
    split at hk
    · rename_i f_0
      exact ⟨_, id, g_lct_Forest_Trees.x f_0 h K'⟩
    · exact hk.elim

theorem g_law12_works.x (h : Hp) (K : Value → Hp → Prop) : (g_law12_works h (fun r0 h => K (.bool r0) h)) = xfnD Try.prog [(14, g_lct_New.c), (16, g_lct_Forest_Link.c), (20, g_lct_Forest_Meet.c), (21, g_lct_Forest_Dist.c), (18, g_lct_Forest_Size.c), (17, g_lct_Forest_Trees.c)] [] Try.f13 .z [] h K := by kernel_rfl

theorem g_law12_works.ok : OkFn Try.prog 13 g_law12_works.c ∧ MonoC g_law12_works.c := by
  refine xfnD_okm (an := .z) wide_ok (OkTab.cons g_lct_New.ok (by kernel_rfl) (OkTab.cons g_lct_Forest_Link.ok (by kernel_rfl) (OkTab.cons g_lct_Forest_Meet.ok (by kernel_rfl) (OkTab.cons g_lct_Forest_Dist.ok (by kernel_rfl) (OkTab.cons g_lct_Forest_Size.ok (by kernel_rfl) (OkTab.cons g_lct_Forest_Trees.ok (by kernel_rfl) (OkTab.nil _))))))) (OkTabI.nil _) Try.func13 (fun vs h K hk => ?_) (fun vs h K K' hk => ?_)
  · unfold g_law12_works.c at hk
    split at hk
    · exact ⟨_, hk, Nat.le_of_ble_eq_true rfl, g_law12_works.x  h K⟩
    · exact hk.elim
  · unfold g_law12_works.c at hk ⊢
    split at hk
    · exact ⟨_, id, g_law12_works.x  h K'⟩
    · exact hk.elim

theorem g_lct_Forest_Connected.x (f_0 : Option Addr) (a_1 : Int) (b_2 : Int) (h : Hp) (K : Value → Hp → Prop) : (g_lct_Forest_Connected f_0 a_1 b_2 h (fun r0 h => K (.bool r0) h)) = xfnD Try.prog [(32, g_lct_Forest_path.c)] [] Try.f15 .z [.pointer f_0, .int .i64 a_1, .int .i64 b_2] h K := by kernel_rfl

theorem g_lct_Forest_Connected.ok : OkFn Try.prog 15 g_lct_Forest_Connected.c ∧ MonoC g_lct_Forest_Connected.c := by
  refine xfnD_okm (an := .z) wide_ok (OkTab.cons g_lct_Forest_path.ok (by kernel_rfl) (OkTab.nil _)) (OkTabI.nil _) Try.func15 (fun vs h K hk => ?_) (fun vs h K K' hk => ?_)
  · unfold g_lct_Forest_Connected.c at hk
    split at hk
    · rename_i f_0 a_1 b_2
      exact ⟨_, hk, Nat.le_of_ble_eq_true rfl, g_lct_Forest_Connected.x f_0 a_1 b_2 h K⟩
    · exact hk.elim
  · unfold g_lct_Forest_Connected.c at hk ⊢
    split at hk
    · rename_i f_0 a_1 b_2
      exact ⟨_, id, g_lct_Forest_Connected.x f_0 a_1 b_2 h K'⟩
    · exact hk.elim

theorem g_law12_LctCounts.x (x_0 : Int) (x_1 : Sl) (h : Hp) (K : Value → Hp → Prop) : (g_law12_LctCounts x_0 x_1 h (fun r0 h => K (.bool r0) h)) = xfnD Try.prog [(12, g_law12_small.c), (13, g_law12_works.c), (14, g_lct_New.c), (17, g_lct_Forest_Trees.c), (18, g_lct_Forest_Size.c), (15, g_lct_Forest_Connected.c), (16, g_lct_Forest_Link.c)] [] Try.f3 (.sq .z (.sq .z (.sq .z (.sq .z (.sq .z (.sq (.sq .z (.bl (.lp (.sq .z (.sq (.bl (.sq .z (.sq .z (.sq .z .z (some [(7, .sc (.int .i64))])) none) none)) .z none) none) [(7, .sc (.int .i64)), (8, .sc (.int .i64))])) none) (.sq .z (.sq (.sq .z (.bl (.lp (.sq .z (.sq (.bl (.sq .z (.sq .z (.sq (.sq .z (.bl (.lp .z [(13, .sc .bool), (14, .sc (.int .i64)), (15, .sc (.int .i64))])) none) .z (some [(13, .sc .bool), (14, .sc (.int .i64))])) none) none)) .z none) none) [(11, .sc (.int .i64)), (12, .sc (.int .i64))])) none) .z (some [(11, .sc (.int .i64))])) none) (some [])) none) none) none) none) none) [.int .i64 x_0, .slice x_1.a x_1.n x_1.c] h K := by kernel_rfl

theorem g_law12_LctCounts.ok : OkFn Try.prog 3 g_law12_LctCounts.c ∧ MonoC g_law12_LctCounts.c := by
  refine xfnD_okm (an := (.sq .z (.sq .z (.sq .z (.sq .z (.sq .z (.sq (.sq .z (.bl (.lp (.sq .z (.sq (.bl (.sq .z (.sq .z (.sq .z .z (some [(7, .sc (.int .i64))])) none) none)) .z none) none) [(7, .sc (.int .i64)), (8, .sc (.int .i64))])) none) (.sq .z (.sq (.sq .z (.bl (.lp (.sq .z (.sq (.bl (.sq .z (.sq .z (.sq (.sq .z (.bl (.lp .z [(13, .sc .bool), (14, .sc (.int .i64)), (15, .sc (.int .i64))])) none) .z (some [(13, .sc .bool), (14, .sc (.int .i64))])) none) none)) .z none) none) [(11, .sc (.int .i64)), (12, .sc (.int .i64))])) none) .z (some [(11, .sc (.int .i64))])) none) (some [])) none) none) none) none) none)) wide_ok (OkTab.cons g_law12_small.ok (by kernel_rfl) (OkTab.cons g_law12_works.ok (by kernel_rfl) (OkTab.cons g_lct_New.ok (by kernel_rfl) (OkTab.cons g_lct_Forest_Trees.ok (by kernel_rfl) (OkTab.cons g_lct_Forest_Size.ok (by kernel_rfl) (OkTab.cons g_lct_Forest_Connected.ok (by kernel_rfl) (OkTab.cons g_lct_Forest_Link.ok (by kernel_rfl) (OkTab.nil _)))))))) (OkTabI.nil _) Try.func3 (fun vs h K hk => ?_) (fun vs h K K' hk => ?_)
  · unfold g_law12_LctCounts.c at hk
    split at hk
    · rename_i x_0 x_1_a x_1_n x_1_c
      exact ⟨_, hk, Nat.le_of_ble_eq_true rfl, g_law12_LctCounts.x x_0 (⟨x_1_a, x_1_n, x_1_c⟩ : Sl) h K⟩
    · exact hk.elim
  · unfold g_law12_LctCounts.c at hk ⊢
    split at hk
    · rename_i x_0 x_1_a x_1_n x_1_c
      exact ⟨_, id, g_law12_LctCounts.x x_0 (⟨x_1_a, x_1_n, x_1_c⟩ : Sl) h K'⟩
    · exact hk.elim

theorem g_law12_grown.x (n_0 : Int) (l_1 : Sl) (h : Hp) (K : Value → Hp → Prop) : (g_law12_grown n_0 l_1 h (fun r0 r1 h => K (.tuple #[.pointer r0, .slice r1.a r1.n r1.c]) h)) = xfnD Try.prog [(14, g_lct_New.c), (16, g_lct_Forest_Link.c)] [] Try.f19 (.sq .z (.sq .z (.sq .z (.sq .z (.sq (.sq .z (.bl (.lp .z [(8, .sc .slice), (9, .sc (.int .i64))])) none) .z (some [(8, .sc .slice)])) none) none) none) none) [.int .i64 n_0, .slice l_1.a l_1.n l_1.c] h K := by kernel_rfl

theorem g_law12_grown.ok : OkFn Try.prog 19 g_law12_grown.c ∧ MonoC g_law12_grown.c := by
  refine xfnD_okm (an := (.sq .z (.sq .z (.sq .z (.sq .z (.sq (.sq .z (.bl (.lp .z [(8, .sc .slice), (9, .sc (.int .i64))])) none) .z (some [(8, .sc .slice)])) none) none) none) none)) wide_ok (OkTab.cons g_lct_New.ok (by kernel_rfl) (OkTab.cons g_lct_Forest_Link.ok (by kernel_rfl) (OkTab.nil _))) (OkTabI.nil _) Try.func19 (fun vs h K hk => ?_) (fun vs h K K' hk => ?_)
  · unfold g_law12_grown.c at hk
    split at hk
    · rename_i n_0 l_1_a l_1_n l_1_c
      exact ⟨_, hk, Nat.le_of_ble_eq_true rfl, g_law12_grown.x n_0 (⟨l_1_a, l_1_n, l_1_c⟩ : Sl) h K⟩
    · exact hk.elim
  · unfold g_law12_grown.c at hk ⊢
    split at hk
    · rename_i n_0 l_1_a l_1_n l_1_c
      exact ⟨_, id, g_law12_grown.x n_0 (⟨l_1_a, l_1_n, l_1_c⟩ : Sl) h K'⟩
    · exact hk.elim

theorem g_law12_LctMeets.x (x_0 : Int) (x_1 : Sl) (x_2_0 : Int) (x_2_1 : Int) (x_2_2 : Int) (h : Hp) (K : Value → Hp → Prop) : (g_law12_LctMeets x_0 x_1 x_2_0 x_2_1 x_2_2 h (fun r0 h => K (.bool r0) h)) = xfnD Try.prog [(12, g_law12_small.c), (13, g_law12_works.c), (19, g_law12_grown.c), (20, g_lct_Forest_Meet.c), (21, g_lct_Forest_Dist.c), (15, g_lct_Forest_Connected.c)] [] Try.f4 (.sq .z (.sq .z (.sq .z (.sq .z (.sq .z (.sq .z (.sq .z (.sq .z (.sq .z (.sq (.sq .z (.bl (.lp .z [(15, .sc (.int .i64))])) none) .z none) none) (some [])) none) none) none) none) none) none) none) [.int .i64 x_0, .slice x_1.a x_1.n x_1.c, .agg #[.int .i64 x_2_0, .int .i64 x_2_1, .int .i64 x_2_2]] h K := by kernel_rfl

theorem g_law12_LctMeets.ok : OkFn Try.prog 4 g_law12_LctMeets.c ∧ MonoC g_law12_LctMeets.c := by
  refine xfnD_okm (an := (.sq .z (.sq .z (.sq .z (.sq .z (.sq .z (.sq .z (.sq .z (.sq .z (.sq .z (.sq (.sq .z (.bl (.lp .z [(15, .sc (.int .i64))])) none) .z none) none) (some [])) none) none) none) none) none) none) none)) wide_ok (OkTab.cons g_law12_small.ok (by kernel_rfl) (OkTab.cons g_law12_works.ok (by kernel_rfl) (OkTab.cons g_law12_grown.ok (by kernel_rfl) (OkTab.cons g_lct_Forest_Meet.ok (by kernel_rfl) (OkTab.cons g_lct_Forest_Dist.ok (by kernel_rfl) (OkTab.cons g_lct_Forest_Connected.ok (by kernel_rfl) (OkTab.nil _))))))) (OkTabI.nil _) Try.func4 (fun vs h K hk => ?_) (fun vs h K K' hk => ?_)
  · unfold g_law12_LctMeets.c at hk
    split at hk
    · rename_i x_0 x_1_a x_1_n x_1_c x_2_0 x_2_1 x_2_2
      exact ⟨_, hk, Nat.le_of_ble_eq_true rfl, g_law12_LctMeets.x x_0 (⟨x_1_a, x_1_n, x_1_c⟩ : Sl) x_2_0 x_2_1 x_2_2 h K⟩
    · exact hk.elim
  · unfold g_law12_LctMeets.c at hk ⊢
    split at hk
    · rename_i x_0 x_1_a x_1_n x_1_c x_2_0 x_2_1 x_2_2
      exact ⟨_, id, g_law12_LctMeets.x x_0 (⟨x_1_a, x_1_n, x_1_c⟩ : Sl) x_2_0 x_2_1 x_2_2 h K'⟩
    · exact hk.elim

theorem g_lct_Forest_Path_f1.x (v_0 : Int) (c_0 : Addr) (h : Hp) (K : Value → Hp → Prop) : (g_lct_Forest_Path_f1 v_0 c_0 h (fun h => K (.tuple #[]) h)) = xfnD Try.prog [] [] Try.f39 .z [.int .i64 v_0, .pointer (some c_0)] h K := by kernel_rfl

theorem g_lct_Forest_Path_f1.ok : OkFn Try.prog 39 g_lct_Forest_Path_f1.c ∧ MonoC g_lct_Forest_Path_f1.c := by
  refine xfnD_okm (an := .z) wide_ok (OkTab.nil _) (OkTabI.nil _) Try.func39 (fun vs h K hk => ?_) (fun vs h K K' hk => ?_)
  · unfold g_lct_Forest_Path_f1.c at hk
    split at hk
    · rename_i v_0 c_0
      exact ⟨_, hk, Nat.le_of_ble_eq_true rfl, g_lct_Forest_Path_f1.x v_0 c_0 h K⟩
    · exact hk.elim
  · unfold g_lct_Forest_Path_f1.c at hk ⊢
    split at hk
    · rename_i v_0 c_0
      exact ⟨_, id, g_lct_Forest_Path_f1.x v_0 c_0 h K'⟩
    · exact hk.elim

theorem g_lct_Forest_visit_of_lct_Forest_Path_f1.x (f_0 : Option Addr) (v_1 : Int) (do_2c0 : Addr) (h : Hp) (K : Value → Hp → Prop) : (g_lct_Forest_visit_of_lct_Forest_Path_f1 f_0 v_1 do_2c0 h (fun h => K (.tuple #[]) h)) = xfnD Try.prog [(39, g_lct_Forest_Path_f1.c), (54, g_lct_Forest_push.c)] [] Try.f38 (.sq .z (.bl (.lp (.sq .z (.bl (.sq (.bl (.lp .z [(1, .sc (.int .i64)), (6, .sc .slice)])) .z (some [(6, .sc .slice)]))) (some [])) [(1, .sc (.int .i64)), (6, .sc .slice)])) none) [.pointer f_0, .int .i64 v_1, .func (.func 39) #[] #[.pointer (some do_2c0)]] h K := by kernel_rfl

theorem g_lct_Forest_visit_of_lct_Forest_Path_f1.ok : OkFn Try.prog 38 g_lct_Forest_visit_of_lct_Forest_Path_f1.c ∧ MonoC g_lct_Forest_visit_of_lct_Forest_Path_f1.c := by
  refine xfnD_okm (an := (.sq .z (.bl (.lp (.sq .z (.bl (.sq (.bl (.lp .z [(1, .sc (.int .i64)), (6, .sc .slice)])) .z (some [(6, .sc .slice)]))) (some [])) [(1, .sc (.int .i64)), (6, .sc .slice)])) none)) wide_ok (OkTab.cons g_lct_Forest_Path_f1.ok (by kernel_rfl) (OkTab.cons g_lct_Forest_push.ok (by kernel_rfl) (OkTab.nil _))) (OkTabI.nil _) Try.func38 (fun vs h K hk => ?_) (fun vs h K K' hk => ?_)
  · unfold g_lct_Forest_visit_of_lct_Forest_Path_f1.c at hk
    split at hk
    · rename_i f_0 v_1 do_2c0
      exact ⟨_, hk, Nat.le_of_ble_eq_true rfl, g_lct_Forest_visit_of_lct_Forest_Path_f1.x f_0 v_1 do_2c0 h K⟩
    · exact hk.elim
  · unfold g_lct_Forest_visit_of_lct_Forest_Path_f1.c at hk ⊢
    split at hk
    · rename_i f_0 v_1 do_2c0
      exact ⟨_, id, g_lct_Forest_visit_of_lct_Forest_Path_f1.x f_0 v_1 do_2c0 h K'⟩
    · exact hk.elim

theorem g_lct_Forest_Path.x (f_0 : Option Addr) (a_1 : Int) (b_2 : Int) (h : Hp) (K : Value → Hp → Prop) : (g_lct_Forest_Path f_0 a_1 b_2 h (fun r0 h => K (.slice r0.a r0.n r0.c) h)) = xfnD Try.prog [(32, g_lct_Forest_path.c), (38, g_lct_Forest_visit_of_lct_Forest_Path_f1.c)] [] Try.f23 .z [.pointer f_0, .int .i64 a_1, .int .i64 b_2] h K := by kernel_rfl

theorem g_lct_Forest_Path.ok : OkFn Try.prog 23 g_lct_Forest_Path.c ∧ MonoC g_lct_Forest_Path.c := by
  refine xfnD_okm (an := .z) wide_ok (OkTab.cons g_lct_Forest_path.ok (by kernel_rfl) (OkTab.cons g_lct_Forest_visit_of_lct_Forest_Path_f1.ok (by kernel_rfl) (OkTab.nil _))) (OkTabI.nil _) Try.func23 (fun vs h K hk => ?_) (fun vs h K K' hk => ?_)
  · unfold g_lct_Forest_Path.c at hk
    split at hk
    · rename_i f_0 a_1 b_2
      exact ⟨_, hk, Nat.le_of_ble_eq_true rfl, g_lct_Forest_Path.x f_0 a_1 b_2 h K⟩
    · exact hk.elim
  · unfold g_lct_Forest_Path.c at hk ⊢
    split at hk
    · rename_i f_0 a_1 b_2
      exact ⟨_, id, g_lct_Forest_Path.x f_0 a_1 b_2 h K'⟩
    · exact hk.elim

theorem g_law12_same.x (a_0 : Sl) (b_1 : Sl) (h : Hp) (K : Value → Hp → Prop) : (g_law12_same a_0 b_1 h (fun r0 h => K (.bool r0) h)) = xfnD Try.prog [] [] Try.f22 (.sq .z (.sq .z (.sq (.sq .z (.bl (.lp .z [(5, .sc (.int .i64))])) none) .z none) none) none) [.slice a_0.a a_0.n a_0.c, .slice b_1.a b_1.n b_1.c] h K := by kernel_rfl

theorem g_law12_same.ok : OkFn Try.prog 22 g_law12_same.c ∧ MonoC g_law12_same.c := by
  refine xfnD_okm (an := (.sq .z (.sq .z (.sq (.sq .z (.bl (.lp .z [(5, .sc (.int .i64))])) none) .z none) none) none)) wide_ok (OkTab.nil _) (OkTabI.nil _) Try.func22 (fun vs h K hk => ?_) (fun vs h K K' hk => ?_)
  · unfold g_law12_same.c at hk
    split at hk
    · rename_i a_0_a a_0_n a_0_c b_1_a b_1_n b_1_c
      exact ⟨_, hk, Nat.le_of_ble_eq_true rfl, g_law12_same.x (⟨a_0_a, a_0_n, a_0_c⟩ : Sl) (⟨b_1_a, b_1_n, b_1_c⟩ : Sl) h K⟩
    · exact hk.elim
  · unfold g_law12_same.c at hk ⊢
    split at hk
    · rename_i a_0_a a_0_n a_0_c b_1_a b_1_n b_1_c
      exact ⟨_, id, g_law12_same.x (⟨a_0_a, a_0_n, a_0_c⟩ : Sl) (⟨b_1_a, b_1_n, b_1_c⟩ : Sl) h K'⟩
    · exact hk.elim

theorem g_law12_LctOrder.x (x_0 : Int) (x_1 : Sl) (x_2 : Int) (x_3 : Int) (h : Hp) (K : Value → Hp → Prop) : (g_law12_LctOrder x_0 x_1 x_2 x_3 h (fun r0 h => K (.bool r0) h)) = xfnD Try.prog [(12, g_law12_small.c), (13, g_law12_works.c), (19, g_law12_grown.c), (23, g_lct_Forest_Path.c), (22, g_law12_same.c), (18, g_lct_Forest_Size.c), (17, g_lct_Forest_Trees.c)] [] Try.f5 (.sq .z (.sq .z (.sq .z (.sq .z (.sq (.sq .z (.bl (.lp .z [(11, .sc .slice), (12, .sc (.int .i64))])) none) .z (some [(11, .sc .slice)])) none) none) none) none) [.int .i64 x_0, .slice x_1.a x_1.n x_1.c, .int .i64 x_2, .int .i64 x_3] h K := by kernel_rfl

theorem g_law12_LctOrder.ok : OkFn Try.prog 5 g_law12_LctOrder.c ∧ MonoC g_law12_LctOrder.c := by
  refine xfnD_okm (an := (.sq .z (.sq .z (.sq .z (.sq .z (.sq (.sq .z (.bl (.lp .z [(11, .sc .slice), (12, .sc (.int .i64))])) none) .z (some [(11, .sc .slice)])) none) none) none) none)) wide_ok (OkTab.cons g_law12_small.ok (by kernel_rfl) (OkTab.cons g_law12_works.ok (by kernel_rfl) (OkTab.cons g_law12_grown.ok (by kernel_rfl) (OkTab.cons g_lct_Forest_Path.ok (by kernel_rfl) (OkTab.cons g_law12_same.ok (by kernel_rfl) (OkTab.cons g_lct_Forest_Size.ok (by kernel_rfl) (OkTab.cons g_lct_Forest_Trees.ok (by kernel_rfl) (OkTab.nil _)))))))) (OkTabI.nil _) Try.func5 (fun vs h K hk => ?_) (fun vs h K K' hk => ?_)
  · unfold g_law12_LctOrder.c at hk
    split at hk
    · rename_i x_0 x_1_a x_1_n x_1_c x_2 x_3
      exact ⟨_, hk, Nat.le_of_ble_eq_true rfl, g_law12_LctOrder.x x_0 (⟨x_1_a, x_1_n, x_1_c⟩ : Sl) x_2 x_3 h K⟩
    · exact hk.elim
  · unfold g_law12_LctOrder.c at hk ⊢
    split at hk
    · rename_i x_0 x_1_a x_1_n x_1_c x_2 x_3
      exact ⟨_, id, g_law12_LctOrder.x x_0 (⟨x_1_a, x_1_n, x_1_c⟩ : Sl) x_2 x_3 h K'⟩
    · exact hk.elim

theorem g_law12_LctPaths.x (x_0 : Int) (x_1 : Sl) (x_2 : Int) (x_3 : Int) (h : Hp) (K : Value → Hp → Prop) : (g_law12_LctPaths x_0 x_1 x_2 x_3 h (fun r0 h => K (.bool r0) h)) = xfnD Try.prog [(12, g_law12_small.c), (13, g_law12_works.c), (19, g_law12_grown.c), (23, g_lct_Forest_Path.c), (15, g_lct_Forest_Connected.c), (21, g_lct_Forest_Dist.c)] [] Try.f6 (.sq .z (.sq .z (.sq .z (.sq .z (.sq .z (.sq .z (.sq .z (.sq (.sq .z (.bl (.lp (.sq .z (.sq (.bl (.sq .z (.sq (.sq .z (.bl (.lp .z [(14, .sc (.int .i64))])) none) (.sq .z (.sq .z (.sq (.sq .z (.bl (.lp .z [(15, .sc .bool), (16, .sc (.int .i64))])) none) .z none) none) none) (some [])) none)) .z none) none) [(13, .sc (.int .i64))])) none) .z (some [])) none) none) none) none) none) none) none) [.int .i64 x_0, .slice x_1.a x_1.n x_1.c, .int .i64 x_2, .int .i64 x_3] h K := by kernel_rfl

theorem g_law12_LctPaths.ok : OkFn Try.prog 6 g_law12_LctPaths.c ∧ MonoC g_law12_LctPaths.c := by
  refine xfnD_okm (an := (.sq .z (.sq .z (.sq .z (.sq .z (.sq .z (.sq .z (.sq .z (.sq (.sq .z (.bl (.lp (.sq .z (.sq (.bl (.sq .z (.sq (.sq .z (.bl (.lp .z [(14, .sc (.int .i64))])) none) (.sq .z (.sq .z (.sq (.sq .z (.bl (.lp .z [(15, .sc .bool), (16, .sc (.int .i64))])) none) .z none) none) none) (some [])) none)) .z none) none) [(13, .sc (.int .i64))])) none) .z (some [])) none) none) none) none) none) none) none)) wide_ok (OkTab.cons g_law12_small.ok (by kernel_rfl) (OkTab.cons g_law12_works.ok (by kernel_rfl) (OkTab.cons g_law12_grown.ok (by kernel_rfl) (OkTab.cons g_lct_Forest_Path.ok (by kernel_rfl) (OkTab.cons g_lct_Forest_Connected.ok (by kernel_rfl) (OkTab.cons g_lct_Forest_Dist.ok (by kernel_rfl) (OkTab.nil _))))))) (OkTabI.nil _) Try.func6 (fun vs h K hk => ?_) (fun vs h K K' hk => ?_)
  · unfold g_law12_LctPaths.c at hk
    split at hk
    · rename_i x_0 x_1_a x_1_n x_1_c x_2 x_3
      exact ⟨_, hk, Nat.le_of_ble_eq_true rfl, g_law12_LctPaths.x x_0 (⟨x_1_a, x_1_n, x_1_c⟩ : Sl) x_2 x_3 h K⟩
    · exact hk.elim
  · unfold g_law12_LctPaths.c at hk ⊢
    split at hk
    · rename_i x_0 x_1_a x_1_n x_1_c x_2 x_3
      exact ⟨_, id, g_law12_LctPaths.x x_0 (⟨x_1_a, x_1_n, x_1_c⟩ : Sl) x_2 x_3 h K'⟩
    · exact hk.elim

theorem g_ref12_New.x (n_0 : Int) (h : Hp) (K : Value → Hp → Prop) : (g_ref12_New n_0 h (fun r0 r1 h => K (.tuple #[.pointer r0, .int .i64 r1]) h)) = xfnD Try.prog [] [] Try.f24 .z [.int .i64 n_0] h K := by kernel_rfl

theorem g_ref12_New.ok : OkFn Try.prog 24 g_ref12_New.c ∧ MonoC g_ref12_New.c := by
  refine xfnD_okm (an := .z) wide_ok (OkTab.nil _) (OkTabI.nil _) Try.func24 (fun vs h K hk => ?_) (fun vs h K K' hk => ?_)
  · unfold g_ref12_New.c at hk
    split at hk
    · rename_i n_0
      exact ⟨_, hk, Nat.le_of_ble_eq_true rfl, g_ref12_New.x n_0 h K⟩
    · exact hk.elim
  · unfold g_ref12_New.c at hk ⊢
    split at hk
    · rename_i n_0
      exact ⟨_, id, g_ref12_New.x n_0 h K'⟩
    · exact hk.elim

theorem g_lct_Forest_Min.x (f_0 : Option Addr) (a_1 : Int) (b_2 : Int) (h : Hp) (K : Value → Hp → Prop) : (g_lct_Forest_Min f_0 a_1 b_2 h (fun r0 r1 h => K (.tuple #[.int .i64 r0, .bool r1]) h)) = xfnD Try.prog [(32, g_lct_Forest_path.c)] [] Try.f28 .z [.pointer f_0, .int .i64 a_1, .int .i64 b_2] h K := by kernel_rfl

theorem g_lct_Forest_Min.ok : OkFn Try.prog 28 g_lct_Forest_Min.c ∧ MonoC g_lct_Forest_Min.c := by
  refine xfnD_okm (an := .z) wide_ok (OkTab.cons g_lct_Forest_path.ok (by kernel_rfl) (OkTab.nil _)) (OkTabI.nil _) Try.func28 (fun vs h K hk => ?_) (fun vs h K K' hk => ?_)
  · unfold g_lct_Forest_Min.c at hk
    split at hk
    · rename_i f_0 a_1 b_2
      exact ⟨_, hk, Nat.le_of_ble_eq_true rfl, g_lct_Forest_Min.x f_0 a_1 b_2 h K⟩
    · exact hk.elim
  · unfold g_lct_Forest_Min.c at hk ⊢
    split at hk
    · rename_i f_0 a_1 b_2
      exact ⟨_, id, g_lct_Forest_Min.x f_0 a_1 b_2 h K'⟩
    · exact hk.elim

theorem g_ref12_Forest_valid.x (f_0 : Option Addr) (h : Hp) (K : Value → Hp → Prop) : (g_ref12_Forest_valid f_0 h (fun r0 h => K (.bool r0) h)) = xfnD Try.prog [] [] Try.f59 .z [.pointer f_0] h K := by kernel_rfl

theorem g_ref12_Forest_valid.ok : OkFn Try.prog 59 g_ref12_Forest_valid.c ∧ MonoC g_ref12_Forest_valid.c := by
  refine xfnD_okm (an := .z) wide_ok (OkTab.nil _) (OkTabI.nil _) Try.func59 (fun vs h K hk => ?_) (fun vs h K K' hk => ?_)
  · unfold g_ref12_Forest_valid.c at hk
    split at hk
    · rename_i f_0
      exact ⟨_, hk, Nat.le_of_ble_eq_true rfl, g_ref12_Forest_valid.x f_0 h K⟩
    · exact hk.elim
  · unfold g_ref12_Forest_valid.c at hk ⊢
    split at hk
    · rename_i f_0
      exact ⟨_, id, g_ref12_Forest_valid.x f_0 h K'⟩
    · exact hk.elim

theorem g_ref12_Forest_has.x (f_0 : Option Addr) (v_1 : Int) (h : Hp) (K : Value → Hp → Prop) : (g_ref12_Forest_has f_0 v_1 h (fun r0 h => K (.bool r0) h)) = xfnD Try.prog [(59, g_ref12_Forest_valid.c)] [] Try.f57 .z [.pointer f_0, .int .i64 v_1] h K := by kernel_rfl

theorem g_ref12_Forest_has.ok : OkFn Try.prog 57 g_ref12_Forest_has.c ∧ MonoC g_ref12_Forest_has.c := by
  refine xfnD_okm (an := .z) wide_ok (OkTab.cons g_ref12_Forest_valid.ok (by kernel_rfl) (OkTab.nil _)) (OkTabI.nil _) Try.func57 (fun vs h K hk => ?_) (fun vs h K K' hk => ?_)
  · unfold g_ref12_Forest_has.c at hk
    split at hk
    · rename_i f_0 v_1
      exact ⟨_, hk, Nat.le_of_ble_eq_true rfl, g_ref12_Forest_has.x f_0 v_1 h K⟩
    · exact hk.elim
  · unfold g_ref12_Forest_has.c at hk ⊢
    split at hk
    · rename_i f_0 v_1
      exact ⟨_, id, g_ref12_Forest_has.x f_0 v_1 h K'⟩
    · exact hk.elim

theorem g_ref12_Forest_Towards.x (x_0 : Option Addr) (x_1 : Int) (h : Hp) (K : Value → Hp → Prop) : (g_ref12_Forest_Towards x_0 x_1 h (fun r0 h => K (.slice r0.a r0.n r0.c) h)) = xfnD Try.prog [] [] Try.f58 (.sq .z (.sq .z (.sq (.sq .z (.bl (.lp .z [(6, .sc (.int .i64))])) none) (.sq .z (.sq .z (.sq (.bl (.lp (.sq .z (.bl (.sq .z (.sq .z (.sq .z (.bl (.lp (.sq .z (.sq (.bl (.sq .z (.sq .z (.sq .z .z (some [(10, .sc (.int .i64))])) (some [(10, .sc (.int .i64))])) none)) .z none) none) [(7, .sc .slice), (9, .sc (.int .i64))])) none) none) none)) none) [(7, .sc .slice)])) .z none) none) none) (some [])) none) none) [.pointer x_0, .int .i64 x_1] h K := by kernel_rfl

theorem g_ref12_Forest_Towards.ok : OkFn Try.prog 58 g_ref12_Forest_Towards.c ∧ MonoC g_ref12_Forest_Towards.c := by
  refine xfnD_okm (an := (.sq .z (.sq .z (.sq (.sq .z (.bl (.lp .z [(6, .sc (.int .i64))])) none) (.sq .z (.sq .z (.sq (.bl (.lp (.sq .z (.bl (.sq .z (.sq .z (.sq .z (.bl (.lp (.sq .z (.sq (.bl (.sq .z (.sq .z (.sq .z .z (some [(10, .sc (.int .i64))])) (some [(10, .sc (.int .i64))])) none)) .z none) none) [(7, .sc .slice), (9, .sc (.int .i64))])) none) none) none)) none) [(7, .sc .slice)])) .z none) none) none) (some [])) none) none)) wide_ok (OkTab.nil _) (OkTabI.nil _) Try.func58 (fun vs h K hk => ?_) (fun vs h K K' hk => ?_)
  · unfold g_ref12_Forest_Towards.c at hk
    split at hk
    · rename_i x_0 x_1
      exact ⟨_, hk, Nat.le_of_ble_eq_true rfl, g_ref12_Forest_Towards.x x_0 x_1 h K⟩
    · exact hk.elim
  · unfold g_ref12_Forest_Towards.c at hk ⊢
    split at hk
    · rename_i x_0 x_1
      exact ⟨_, id, g_ref12_Forest_Towards.x x_0 x_1 h K'⟩
    · exact hk.elim

theorem g_ref12_Forest_Path.x (f_0 : Option Addr) (a_1 : Int) (b_2 : Int) (h : Hp) (K : Value → Hp → Prop) : (g_ref12_Forest_Path f_0 a_1 b_2 h (fun r0 h => K (.slice r0.a r0.n r0.c) h)) = xfnD Try.prog [(57, g_ref12_Forest_has.c), (58, g_ref12_Forest_Towards.c)] [] Try.f43 (.sq .z (.sq .z (.sq .z (.sq .z (.sq .z (.sq (.bl (.lp .z [(1, .sc (.int .i64)), (8, .sc .slice)])) .z none) none) none) none) none) none) [.pointer f_0, .int .i64 a_1, .int .i64 b_2] h K := by kernel_rfl

theorem g_ref12_Forest_Path.ok : OkFn Try.prog 43 g_ref12_Forest_Path.c ∧ MonoC g_ref12_Forest_Path.c := by
  refine xfnD_okm (an := (.sq .z (.sq .z (.sq .z (.sq .z (.sq .z (.sq (.bl (.lp .z [(1, .sc (.int .i64)), (8, .sc .slice)])) .z none) none) none) none) none) none)) wide_ok (OkTab.cons g_ref12_Forest_has.ok (by kernel_rfl) (OkTab.cons g_ref12_Forest_Towards.ok (by kernel_rfl) (OkTab.nil _))) (OkTabI.nil _) Try.func43 (fun vs h K hk => ?_) (fun vs h K K' hk => ?_)
  · unfold g_ref12_Forest_Path.c at hk
    split at hk
    · rename_i f_0 a_1 b_2
      exact ⟨_, hk, Nat.le_of_ble_eq_true rfl, g_ref12_Forest_Path.x f_0 a_1 b_2 h K⟩
    · exact hk.elim
  · unfold g_ref12_Forest_Path.c at hk ⊢
    split at hk
    · rename_i f_0 a_1 b_2
      exact ⟨_, id, g_ref12_Forest_Path.x f_0 a_1 b_2 h K'⟩
    · exact hk.elim

theorem g_ref12_Forest_Min.x (x_0 : Option Addr) (x_1 : Int) (x_2 : Int) (h : Hp) (K : Value → Hp → Prop) : (g_ref12_Forest_Min x_0 x_1 x_2 h (fun r0 r1 h => K (.tuple #[.int .i64 r0, .bool r1]) h)) = xfnD Try.prog [(43, g_ref12_Forest_Path.c)] [] Try.f40 (.sq .z (.sq .z (.sq .z (.sq .z (.sq (.sq .z (.bl (.lp .z [(9, .sc (.int .i64)), (10, .sc (.int .i64))])) none) .z none) none) none) none) none) [.pointer x_0, .int .i64 x_1, .int .i64 x_2] h K := by kernel_rfl

theorem g_ref12_Forest_Min.ok : OkFn Try.prog 40 g_ref12_Forest_Min.c ∧ MonoC g_ref12_Forest_Min.c := by
  refine xfnD_okm (an := (.sq .z (.sq .z (.sq .z (.sq .z (.sq (.sq .z (.bl (.lp .z [(9, .sc (.int .i64)), (10, .sc (.int .i64))])) none) .z none) none) none) none) none)) wide_ok (OkTab.cons g_ref12_Forest_Path.ok (by kernel_rfl) (OkTab.nil _)) (OkTabI.nil _) Try.func40 (fun vs h K hk => ?_) (fun vs h K K' hk => ?_)
  · unfold g_ref12_Forest_Min.c at hk
    split at hk
    · rename_i x_0 x_1 x_2
      exact ⟨_, hk, Nat.le_of_ble_eq_true rfl, g_ref12_Forest_Min.x x_0 x_1 x_2 h K⟩
    · exact hk.elim
  · unfold g_ref12_Forest_Min.c at hk ⊢
    split at hk
    · rename_i x_0 x_1 x_2
      exact ⟨_, id, g_ref12_Forest_Min.x x_0 x_1 x_2 h K'⟩
    · exact hk.elim

theorem g_ref12_on.x (l_0 : Sl) (v_1 : Int) (h : Hp) (K : Value → Hp → Prop) : (g_ref12_on l_0 v_1 h (fun r0 h => K (.bool r0) h)) = xfnD Try.prog [] [] Try.f56 (.sq .z (.sq (.sq .z (.bl (.lp .z [(5, .sc (.int .i64))])) none) .z none) none) [.slice l_0.a l_0.n l_0.c, .int .i64 v_1] h K := by kernel_rfl

theorem g_ref12_on.ok : OkFn Try.prog 56 g_ref12_on.c ∧ MonoC g_ref12_on.c := by
  refine xfnD_okm (an := (.sq .z (.sq (.sq .z (.bl (.lp .z [(5, .sc (.int .i64))])) none) .z none) none)) wide_ok (OkTab.nil _) (OkTabI.nil _) Try.func56 (fun vs h K hk => ?_) (fun vs h K K' hk => ?_)
  · unfold g_ref12_on.c at hk
    split at hk
    · rename_i l_0_a l_0_n l_0_c v_1
      exact ⟨_, hk, Nat.le_of_ble_eq_true rfl, g_ref12_on.x (⟨l_0_a, l_0_n, l_0_c⟩ : Sl) v_1 h K⟩
    · exact hk.elim
  · unfold g_ref12_on.c at hk ⊢
    split at hk
    · rename_i l_0_a l_0_n l_0_c v_1
      exact ⟨_, id, g_ref12_on.x (⟨l_0_a, l_0_n, l_0_c⟩ : Sl) v_1 h K'⟩
    · exact hk.elim

theorem g_ref12_Forest_Meet.x (f_0 : Option Addr) (a_1 : Int) (b_2 : Int) (c_3 : Int) (h : Hp) (K : Value → Hp → Prop) : (g_ref12_Forest_Meet f_0 a_1 b_2 c_3 h (fun r0 r1 h => K (.tuple #[.int .i64 r0, .bool r1]) h)) = xfnD Try.prog [(43, g_ref12_Forest_Path.c), (56, g_ref12_on.c)] [] Try.f41 (.sq .z (.sq .z (.sq .z (.sq .z (.sq (.sq .z (.bl (.lp .z [(13, .sc (.int .i64))])) none) .z none) none) none) none) none) [.pointer f_0, .int .i64 a_1, .int .i64 b_2, .int .i64 c_3] h K := by kernel_rfl

theorem g_ref12_Forest_Meet.ok : OkFn Try.prog 41 g_ref12_Forest_Meet.c ∧ MonoC g_ref12_Forest_Meet.c := by
  refine xfnD_okm (an := (.sq .z (.sq .z (.sq .z (.sq .z (.sq (.sq .z (.bl (.lp .z [(13, .sc (.int .i64))])) none) .z none) none) none) none) none)) wide_ok (OkTab.cons g_ref12_Forest_Path.ok (by kernel_rfl) (OkTab.cons g_ref12_on.ok (by kernel_rfl) (OkTab.nil _))) (OkTabI.nil _) Try.func41 (fun vs h K hk => ?_) (fun vs h K K' hk => ?_)
  · unfold g_ref12_Forest_Meet.c at hk
    split at hk
    · rename_i f_0 a_1 b_2 c_3
      exact ⟨_, hk, Nat.le_of_ble_eq_true rfl, g_ref12_Forest_Meet.x f_0 a_1 b_2 c_3 h K⟩
    · exact hk.elim
  · unfold g_ref12_Forest_Meet.c at hk ⊢
    split at hk
    · rename_i f_0 a_1 b_2 c_3
      exact ⟨_, id, g_ref12_Forest_Meet.x f_0 a_1 b_2 c_3 h K'⟩
    · exact hk.elim

theorem g_ref12_Forest_Connected.x (f_0 : Option Addr) (a_1 : Int) (b_2 : Int) (h : Hp) (K : Value → Hp → Prop) : (g_ref12_Forest_Connected f_0 a_1 b_2 h (fun r0 h => K (.bool r0) h)) = xfnD Try.prog [(43, g_ref12_Forest_Path.c)] [] Try.f42 .z [.pointer f_0, .int .i64 a_1, .int .i64 b_2] h K := by kernel_rfl

theorem g_ref12_Forest_Connected.ok : OkFn Try.prog 42 g_ref12_Forest_Connected.c ∧ MonoC g_ref12_Forest_Connected.c := by
  refine xfnD_okm (an := .z) wide_ok (OkTab.cons g_ref12_Forest_Path.ok (by kernel_rfl) (OkTab.nil _)) (OkTabI.nil _) Try.func42 (fun vs h K hk => ?_) (fun vs h K K' hk => ?_)
  · unfold g_ref12_Forest_Connected.c at hk
    split at hk
    · rename_i f_0 a_1 b_2
      exact ⟨_, hk, Nat.le_of_ble_eq_true rfl, g_ref12_Forest_Connected.x f_0 a_1 b_2 h K⟩
    · exact hk.elim
  · unfold g_ref12_Forest_Connected.c at hk ⊢
    split at hk
    · rename_i f_0 a_1 b_2
      exact ⟨_, id, g_ref12_Forest_Connected.x f_0 a_1 b_2 h K'⟩
    · exact hk.elim

theorem g_ref12_Forest_Dist.x (f_0 : Option Addr) (a_1 : Int) (b_2 : Int) (h : Hp) (K : Value → Hp → Prop) : (g_ref12_Forest_Dist f_0 a_1 b_2 h (fun r0 h => K (.int .i64 r0) h)) = xfnD Try.prog [(43, g_ref12_Forest_Path.c)] [] Try.f44 .z [.pointer f_0, .int .i64 a_1, .int .i64 b_2] h K := by kernel_rfl

theorem g_ref12_Forest_Dist.ok : OkFn Try.prog 44 g_ref12_Forest_Dist.c ∧ MonoC g_ref12_Forest_Dist.c := by
  refine xfnD_okm (an := .z) wide_ok (OkTab.cons g_ref12_Forest_Path.ok (by kernel_rfl) (OkTab.nil _)) (OkTabI.nil _) Try.func44 (fun vs h K hk => ?_) (fun vs h K K' hk => ?_)
  · unfold g_ref12_Forest_Dist.c at hk
    split at hk
    · rename_i f_0 a_1 b_2
      exact ⟨_, hk, Nat.le_of_ble_eq_true rfl, g_ref12_Forest_Dist.x f_0 a_1 b_2 h K⟩
    · exact hk.elim
  · unfold g_ref12_Forest_Dist.c at hk ⊢
    split at hk
    · rename_i f_0 a_1 b_2
      exact ⟨_, id, g_ref12_Forest_Dist.x f_0 a_1 b_2 h K'⟩
    · exact hk.elim

theorem g_ref12_Forest_Size.x (f_0 : Option Addr) (a_1 : Int) (h : Hp) (K : Value → Hp → Prop) : (g_ref12_Forest_Size f_0 a_1 h (fun r0 h => K (.int .i64 r0) h)) = xfnD Try.prog [(57, g_ref12_Forest_has.c), (58, g_ref12_Forest_Towards.c)] [] Try.f45 (.sq .z (.sq .z (.sq (.sq .z (.cd (.sq .z (.sq .z (.bl (.lp .z [(5, .sc (.int .i64)), (7, .sc (.int .i64))])) none) none) .z) none) .z none) none) none) [.pointer f_0, .int .i64 a_1] h K := by kernel_rfl

theorem g_ref12_Forest_Size.ok : OkFn Try.prog 45 g_ref12_Forest_Size.c ∧ MonoC g_ref12_Forest_Size.c := by
  refine xfnD_okm (an := (.sq .z (.sq .z (.sq (.sq .z (.cd (.sq .z (.sq .z (.bl (.lp .z [(5, .sc (.int .i64)), (7, .sc (.int .i64))])) none) none) .z) none) .z none) none) none)) wide_ok (OkTab.cons g_ref12_Forest_has.ok (by kernel_rfl) (OkTab.cons g_ref12_Forest_Towards.ok (by kernel_rfl) (OkTab.nil _))) (OkTabI.nil _) Try.func45 (fun vs h K hk => ?_) (fun vs h K K' hk => ?_)
  · unfold g_ref12_Forest_Size.c at hk
    split at hk
    · rename_i f_0 a_1
      exact ⟨_, hk, Nat.le_of_ble_eq_true rfl, g_ref12_Forest_Size.x f_0 a_1 h K⟩
    · exact hk.elim
  · unfold g_ref12_Forest_Size.c at hk ⊢
    split at hk
    · rename_i f_0 a_1
      exact ⟨_, id, g_ref12_Forest_Size.x f_0 a_1 h K'⟩
    · exact hk.elim

theorem g_ref12_Forest_Trees.x (f_0 : Option Addr) (h : Hp) (K : Value → Hp → Prop) : (g_ref12_Forest_Trees f_0 h (fun r0 h => K (.int .i64 r0) h)) = xfnD Try.prog [(59, g_ref12_Forest_valid.c)] [] Try.f46 .z [.pointer f_0] h K := by kernel_rfl

theorem g_ref12_Forest_Trees.ok : OkFn Try.prog 46 g_ref12_Forest_Trees.c ∧ MonoC g_ref12_Forest_Trees.c := by
  refine xfnD_okm (an := .z) wide_ok (OkTab.cons g_ref12_Forest_valid.ok (by kernel_rfl) (OkTab.nil _)) (OkTabI.nil _) Try.func46 (fun vs h K hk => ?_) (fun vs h K K' hk => ?_)
  · unfold g_ref12_Forest_Trees.c at hk
    split at hk
    · rename_i f_0
      exact ⟨_, hk, Nat.le_of_ble_eq_true rfl, g_ref12_Forest_Trees.x f_0 h K⟩
    · exact hk.elim
  · unfold g_ref12_Forest_Trees.c at hk ⊢
    split at hk
    · rename_i f_0
      exact ⟨_, id, g_ref12_Forest_Trees.x f_0 h K'⟩
    · exact hk.elim

theorem g_lct_Forest_Key.x (f_0 : Option Addr) (v_1 : Int) (h : Hp) (K : Value → Hp → Prop) : (g_lct_Forest_Key f_0 v_1 h (fun r0 h => K (.int .i64 r0) h)) = xfnD Try.prog [(36, g_lct_Forest_has.c)] [] Try.f27 .z [.pointer f_0, .int .i64 v_1] h K := by kernel_rfl

theorem g_lct_Forest_Key.ok : OkFn Try.prog 27 g_lct_Forest_Key.c ∧ MonoC g_lct_Forest_Key.c := by
  refine xfnD_okm (an := .z) wide_ok (OkTab.cons g_lct_Forest_has.ok (by kernel_rfl) (OkTab.nil _)) (OkTabI.nil _) Try.func27 (fun vs h K hk => ?_) (fun vs h K K' hk => ?_)
  · unfold g_lct_Forest_Key.c at hk
    split at hk
    · rename_i f_0 v_1
      exact ⟨_, hk, Nat.le_of_ble_eq_true rfl, g_lct_Forest_Key.x f_0 v_1 h K⟩
    · exact hk.elim
  · unfold g_lct_Forest_Key.c at hk ⊢
    split at hk
    · rename_i f_0 v_1
      exact ⟨_, id, g_lct_Forest_Key.x f_0 v_1 h K'⟩
    · exact hk.elim

theorem g_ref12_Forest_Key.x (f_0 : Option Addr) (v_1 : Int) (h : Hp) (K : Value → Hp → Prop) : (g_ref12_Forest_Key f_0 v_1 h (fun r0 h => K (.int .i64 r0) h)) = xfnD Try.prog [(57, g_ref12_Forest_has.c)] [] Try.f47 .z [.pointer f_0, .int .i64 v_1] h K := by kernel_rfl

theorem g_ref12_Forest_Key.ok : OkFn Try.prog 47 g_ref12_Forest_Key.c ∧ MonoC g_ref12_Forest_Key.c := by
  refine xfnD_okm (an := .z) wide_ok (OkTab.cons g_ref12_Forest_has.ok (by kernel_rfl) (OkTab.nil _)) (OkTabI.nil _) Try.func47 (fun vs h K hk => ?_) (fun vs h K K' hk => ?_)
  · unfold g_ref12_Forest_Key.c at hk
    split at hk
    · rename_i f_0 v_1
      exact ⟨_, hk, Nat.le_of_ble_eq_true rfl, g_ref12_Forest_Key.x f_0 v_1 h K⟩
    · exact hk.elim
  · unfold g_ref12_Forest_Key.c at hk ⊢
    split at hk
    · rename_i f_0 v_1
      exact ⟨_, id, g_ref12_Forest_Key.x f_0 v_1 h K'⟩
    · exact hk.elim

theorem g_law12_agree.x (x_0 : Option Addr) (x_1 : Option Addr) (x_2 : Int) (x_3 : Int) (x_4 : Int) (h : Hp) (K : Value → Hp → Prop) : (g_law12_agree x_0 x_1 x_2 x_3 x_4 h (fun r0 h => K (.bool r0) h)) = xfnD Try.prog [(28, g_lct_Forest_Min.c), (40, g_ref12_Forest_Min.c), (20, g_lct_Forest_Meet.c), (41, g_ref12_Forest_Meet.c), (15, g_lct_Forest_Connected.c), (42, g_ref12_Forest_Connected.c), (23, g_lct_Forest_Path.c), (43, g_ref12_Forest_Path.c), (22, g_law12_same.c), (21, g_lct_Forest_Dist.c), (44, g_ref12_Forest_Dist.c), (18, g_lct_Forest_Size.c), (45, g_ref12_Forest_Size.c), (17, g_lct_Forest_Trees.c), (46, g_ref12_Forest_Trees.c), (27, g_lct_Forest_Key.c), (47, g_ref12_Forest_Key.c)] [] Try.f25 .z [.pointer x_0, .pointer x_1, .int .i64 x_2, .int .i64 x_3, .int .i64 x_4] h K := by kernel_rfl

theorem g_law12_agree.ok : OkFn Try.prog 25 g_law12_agree.c ∧ MonoC g_law12_agree.c := by
  refine xfnD_okm (an := .z) wide_ok (OkTab.cons g_lct_Forest_Min.ok (by kernel_rfl) (OkTab.cons g_ref12_Forest_Min.ok (by kernel_rfl) (OkTab.cons g_lct_Forest_Meet.ok (by kernel_rfl) (OkTab.cons g_ref12_Forest_Meet.ok (by kernel_rfl) (OkTab.cons g_lct_Forest_Connected.ok (by kernel_rfl) (OkTab.cons g_ref12_Forest_Connected.ok (by kernel_rfl) (OkTab.cons g_lct_Forest_Path.ok (by kernel_rfl) (OkTab.cons g_ref12_Forest_Path.ok (by kernel_rfl) (OkTab.cons g_law12_same.ok (by kernel_rfl) (OkTab.cons g_lct_Forest_Dist.ok (by kernel_rfl) (OkTab.cons g_ref12_Forest_Dist.ok (by kernel_rfl) (OkTab.cons g_lct_Forest_Size.ok (by kernel_rfl) (OkTab.cons g_ref12_Forest_Size.ok (by kernel_rfl) (OkTab.cons g_lct_Forest_Trees.ok (by kernel_rfl) (OkTab.cons g_ref12_Forest_Trees.ok (by kernel_rfl) (OkTab.cons g_lct_Forest_Key.ok (by kernel_rfl) (OkTab.cons g_ref12_Forest_Key.ok (by kernel_rfl) (OkTab.nil _)))))))))))))))))) (OkTabI.nil _) Try.func25 (fun vs h K hk => ?_) (fun vs h K K' hk => ?_)
  · unfold g_law12_agree.c at hk
    split at hk
    · rename_i x_0 x_1 x_2 x_3 x_4
      exact ⟨_, hk, Nat.le_of_ble_eq_true rfl, g_law12_agree.x x_0 x_1 x_2 x_3 x_4 h K⟩
    · exact hk.elim
  · unfold g_law12_agree.c at hk ⊢
    split at hk
    · rename_i x_0 x_1 x_2 x_3 x_4
      exact ⟨_, id, g_law12_agree.x x_0 x_1 x_2 x_3 x_4 h K'⟩
    · exact hk.elim

theorem g_law12_LctNews.x (n_0 : Int) (a_1 : Int) (b_2 : Int) (h : Hp) (K : Value → Hp → Prop) : (g_law12_LctNews n_0 a_1 b_2 h (fun r0 h => K (.bool r0) h)) = xfnD Try.prog [(14, g_lct_New.c), (17, g_lct_Forest_Trees.c), (13, g_law12_works.c), (24, g_ref12_New.c), (25, g_law12_agree.c)] [] Try.f7 (.sq .z (.sq .z (.sq (.sq .z .z (some [(21, .sc .bool)])) .z none) none) none) [.int .i64 n_0, .int .i64 a_1, .int .i64 b_2] h K := by kernel_rfl

theorem g_law12_LctNews.ok : OkFn Try.prog 7 g_law12_LctNews.c ∧ MonoC g_law12_LctNews.c := by
  refine xfnD_okm (an := (.sq .z (.sq .z (.sq (.sq .z .z (some [(21, .sc .bool)])) .z none) none) none)) wide_ok (OkTab.cons g_lct_New.ok (by kernel_rfl) (OkTab.cons g_lct_Forest_Trees.ok (by kernel_rfl) (OkTab.cons g_law12_works.ok (by kernel_rfl) (OkTab.cons g_ref12_New.ok (by kernel_rfl) (OkTab.cons g_law12_agree.ok (by kernel_rfl) (OkTab.nil _)))))) (OkTabI.nil _) Try.func7 (fun vs h K hk => ?_) (fun vs h K K' hk => ?_)
  · unfold g_law12_LctNews.c at hk
    split at hk
    · rename_i n_0 a_1 b_2
      exact ⟨_, hk, Nat.le_of_ble_eq_true rfl, g_law12_LctNews.x n_0 a_1 b_2 h K⟩
    · exact hk.elim
  · unfold g_law12_LctNews.c at hk ⊢
    split at hk
    · rename_i n_0 a_1 b_2
      exact ⟨_, id, g_law12_LctNews.x n_0 a_1 b_2 h K'⟩
    · exact hk.elim

theorem g_lct_Forest_Set.x (f_0 : Option Addr) (v_1 : Int) (key_2 : Int) (h : Hp) (K : Value → Hp → Prop) : (g_lct_Forest_Set f_0 v_1 key_2 h (fun r0 h => K (.int .i64 r0) h)) = xfnD Try.prog [(33, g_lct_Forest_check.c), (48, g_lct_Forest_splay.c), (35, g_lct_Forest_pull.c)] [] Try.f26 .z [.pointer f_0, .int .i64 v_1, .int .i64 key_2] h K := by kernel_rfl

theorem g_lct_Forest_Set.ok : OkFn Try.prog 26 g_lct_Forest_Set.c ∧ MonoC g_lct_Forest_Set.c := by
  refine xfnD_okm (an := .z) wide_ok (OkTab.cons g_lct_Forest_check.ok (by kernel_rfl) (OkTab.cons g_lct_Forest_splay.ok (by kernel_rfl) (OkTab.cons g_lct_Forest_pull.ok (by kernel_rfl) (OkTab.nil _)))) (OkTabI.nil _) Try.func26 (fun vs h K hk => ?_) (fun vs h K K' hk => ?_)
  · unfold g_lct_Forest_Set.c at hk
    split at hk
    · rename_i f_0 v_1 key_2
      exact ⟨_, hk, Nat.le_of_ble_eq_true rfl, g_lct_Forest_Set.x f_0 v_1 key_2 h K⟩
    · exact hk.elim
  · unfold g_lct_Forest_Set.c at hk ⊢
    split at hk
    · rename_i f_0 v_1 key_2
      exact ⟨_, id, g_lct_Forest_Set.x f_0 v_1 key_2 h K'⟩
    · exact hk.elim

theorem g_law12_LctMins.x (x_0 : Int) (x_1 : Sl) (x_2 : Sl) (h : Hp) (K : Value → Hp → Prop) : (g_law12_LctMins x_0 x_1 x_2 h (fun r0 h => K (.bool r0) h)) = xfnD Try.prog [(12, g_law12_small.c), (13, g_law12_works.c), (19, g_law12_grown.c), (23, g_lct_Forest_Path.c), (28, g_lct_Forest_Min.c), (27, g_lct_Forest_Key.c), (26, g_lct_Forest_Set.c)] [] Try.f8 (.sq .z (.sq .z (.sq .z (.sq .z (.sq (.sq .z (.bl (.lp .z [(9, .sc (.int .i64))])) none) (.sq (.sq .z (.bl (.lp (.sq .z (.sq (.bl (.sq .z (.sq .z (.sq .z (.sq .z (.sq .z (.sq (.sq .z (.bl (.lp (.sq .z (.sq (.bl (.sq .z .z (some [(15, .sc .bool)]))) .z none) none) [(15, .sc .bool), (16, .sc (.int .i64))])) none) .z none) none) none) none) none) none)) .z none) none) [(10, .sc (.int .i64))])) none) .z none) (some [])) none) none) none) none) [.int .i64 x_0, .slice x_1.a x_1.n x_1.c, .slice x_2.a x_2.n x_2.c] h K := by kernel_rfl

theorem g_law12_LctMins.ok : OkFn Try.prog 8 g_law12_LctMins.c ∧ MonoC g_law12_LctMins.c := by
  refine xfnD_okm (an := (.sq .z (.sq .z (.sq .z (.sq .z (.sq (.sq .z (.bl (.lp .z [(9, .sc (.int .i64))])) none) (.sq (.sq .z (.bl (.lp (.sq .z (.sq (.bl (.sq .z (.sq .z (.sq .z (.sq .z (.sq .z (.sq (.sq .z (.bl (.lp (.sq .z (.sq (.bl (.sq .z .z (some [(15, .sc .bool)]))) .z none) none) [(15, .sc .bool), (16, .sc (.int .i64))])) none) .z none) none) none) none) none) none)) .z none) none) [(10, .sc (.int .i64))])) none) .z none) (some [])) none) none) none) none)) wide_ok (OkTab.cons g_law12_small.ok (by kernel_rfl) (OkTab.cons g_law12_works.ok (by kernel_rfl) (OkTab.cons g_law12_grown.ok (by kernel_rfl) (OkTab.cons g_lct_Forest_Path.ok (by kernel_rfl) (OkTab.cons g_lct_Forest_Min.ok (by kernel_rfl) (OkTab.cons g_lct_Forest_Key.ok (by kernel_rfl) (OkTab.cons g_lct_Forest_Set.ok (by kernel_rfl) (OkTab.nil _)))))))) (OkTabI.nil _) Try.func8 (fun vs h K hk => ?_) (fun vs h K K' hk => ?_)
  · unfold g_law12_LctMins.c at hk
    split at hk
    · rename_i x_0 x_1_a x_1_n x_1_c x_2_a x_2_n x_2_c
      exact ⟨_, hk, Nat.le_of_ble_eq_true rfl, g_law12_LctMins.x x_0 (⟨x_1_a, x_1_n, x_1_c⟩ : Sl) (⟨x_2_a, x_2_n, x_2_c⟩ : Sl) h K⟩
    · exact hk.elim
  · unfold g_law12_LctMins.c at hk ⊢
    split at hk
    · rename_i x_0 x_1_a x_1_n x_1_c x_2_a x_2_n x_2_c
      exact ⟨_, id, g_law12_LctMins.x x_0 (⟨x_1_a, x_1_n, x_1_c⟩ : Sl) (⟨x_2_a, x_2_n, x_2_c⟩ : Sl) h K'⟩
    · exact hk.elim

theorem g_slices_Clone_lct_node.x (s_0 : Sl) (h : Hp) (K : Value → Hp → Prop) : (g_slices_Clone_lct_node s_0 h (fun r0 h => K (.slice r0.a r0.n r0.c) h)) = xfnD Try.prog [] [] Try.f49 .z [.slice s_0.a s_0.n s_0.c] h K := by kernel_rfl

theorem g_slices_Clone_lct_node.ok : OkFn Try.prog 49 g_slices_Clone_lct_node.c ∧ MonoC g_slices_Clone_lct_node.c := by
  refine xfnD_okm (an := .z) wide_ok (OkTab.nil _) (OkTabI.nil _) Try.func49 (fun vs h K hk => ?_) (fun vs h K K' hk => ?_)
  · unfold g_slices_Clone_lct_node.c at hk
    split at hk
    · rename_i s_0_a s_0_n s_0_c
      exact ⟨_, hk, Nat.le_of_ble_eq_true rfl, g_slices_Clone_lct_node.x (⟨s_0_a, s_0_n, s_0_c⟩ : Sl) h K⟩
    · exact hk.elim
  · unfold g_slices_Clone_lct_node.c at hk ⊢
    split at hk
    · rename_i s_0_a s_0_n s_0_c
      exact ⟨_, id, g_slices_Clone_lct_node.x (⟨s_0_a, s_0_n, s_0_c⟩ : Sl) h K'⟩
    · exact hk.elim

theorem g_lct_Forest_Copy.x (f_0 : Option Addr) (h : Hp) (K : Value → Hp → Prop) : (g_lct_Forest_Copy f_0 h (fun r0 h => K (.pointer r0) h)) = xfnD Try.prog [(49, g_slices_Clone_lct_node.c)] [] Try.f29 .z [.pointer f_0] h K := by kernel_rfl

theorem g_lct_Forest_Copy.ok : OkFn Try.prog 29 g_lct_Forest_Copy.c ∧ MonoC g_lct_Forest_Copy.c := by
  refine xfnD_okm (an := .z) wide_ok (OkTab.cons g_slices_Clone_lct_node.ok (by kernel_rfl) (OkTab.nil _)) (OkTabI.nil _) Try.func29 (fun vs h K hk => ?_) (fun vs h K K' hk => ?_)
  · unfold g_lct_Forest_Copy.c at hk
    split at hk
    · rename_i f_0
      exact ⟨_, hk, Nat.le_of_ble_eq_true rfl, g_lct_Forest_Copy.x f_0 h K⟩
    · exact hk.elim
  · unfold g_lct_Forest_Copy.c at hk ⊢
    split at hk
    · rename_i f_0
      exact ⟨_, id, g_lct_Forest_Copy.x f_0 h K'⟩
    · exact hk.elim

theorem g_lct_Forest_Cut.x (f_0 : Option Addr) (a_1 : Int) (b_2 : Int) (h : Hp) (K : Value → Hp → Prop) : (g_lct_Forest_Cut f_0 a_1 b_2 h (fun r0 h => K (.int .i64 r0) h)) = xfnD Try.prog [(33, g_lct_Forest_check.c), (32, g_lct_Forest_path.c), (35, g_lct_Forest_pull.c)] [] Try.f30 .z [.pointer f_0, .int .i64 a_1, .int .i64 b_2] h K := by kernel_rfl

theorem g_lct_Forest_Cut.ok : OkFn Try.prog 30 g_lct_Forest_Cut.c ∧ MonoC g_lct_Forest_Cut.c := by
  refine xfnD_okm (an := .z) wide_ok (OkTab.cons g_lct_Forest_check.ok (by kernel_rfl) (OkTab.cons g_lct_Forest_path.ok (by kernel_rfl) (OkTab.cons g_lct_Forest_pull.ok (by kernel_rfl) (OkTab.nil _)))) (OkTabI.nil _) Try.func30 (fun vs h K hk => ?_) (fun vs h K K' hk => ?_)
  · unfold g_lct_Forest_Cut.c at hk
    split at hk
    · rename_i f_0 a_1 b_2
      exact ⟨_, hk, Nat.le_of_ble_eq_true rfl, g_lct_Forest_Cut.x f_0 a_1 b_2 h K⟩
    · exact hk.elim
  · unfold g_lct_Forest_Cut.c at hk ⊢
    split at hk
    · rename_i f_0 a_1 b_2
      exact ⟨_, id, g_lct_Forest_Cut.x f_0 a_1 b_2 h K'⟩
    · exact hk.elim

theorem g_law12_LctCuts.x (x_0 : Int) (x_1 : Sl) (x_2 : Int) (h : Hp) (K : Value → Hp → Prop) : (g_law12_LctCuts x_0 x_1 x_2 h (fun r0 h => K (.bool r0) h)) = xfnD Try.prog [(13, g_law12_works.c), (19, g_law12_grown.c), (29, g_lct_Forest_Copy.c), (30, g_lct_Forest_Cut.c), (17, g_lct_Forest_Trees.c), (16, g_lct_Forest_Link.c), (23, g_lct_Forest_Path.c), (22, g_law12_same.c), (15, g_lct_Forest_Connected.c)] [] Try.f9 (.sq .z (.sq .z (.sq .z (.sq .z (.sq .z (.sq .z (.sq .z (.sq .z (.sq (.sq .z (.bl (.lp (.sq .z (.sq (.bl (.sq .z (.sq .z .z (some [(13, .sc .bool)])) none)) .z none) none) [(11, .sc (.int .i64))])) none) (.sq .z (.sq (.sq .z (.bl (.lp .z [(14, .sc (.int .i64))])) none) .z none) none) (some [])) none) none) none) none) none) none) none) none) [.int .i64 x_0, .slice x_1.a x_1.n x_1.c, .int .u8 x_2] h K := by kernel_rfl

theorem g_law12_LctCuts.ok : OkFn Try.prog 9 g_law12_LctCuts.c ∧ MonoC g_law12_LctCuts.c := by
  refine xfnD_okm (an := (.sq .z (.sq .z (.sq .z (.sq .z (.sq .z (.sq .z (.sq .z (.sq .z (.sq (.sq .z (.bl (.lp (.sq .z (.sq (.bl (.sq .z (.sq .z .z (some [(13, .sc .bool)])) none)) .z none) none) [(11, .sc (.int .i64))])) none) (.sq .z (.sq (.sq .z (.bl (.lp .z [(14, .sc (.int .i64))])) none) .z none) none) (some [])) none) none) none) none) none) none) none) none)) wide_ok (OkTab.cons g_law12_works.ok (by kernel_rfl) (OkTab.cons g_law12_grown.ok (by kernel_rfl) (OkTab.cons g_lct_Forest_Copy.ok (by kernel_rfl) (OkTab.cons g_lct_Forest_Cut.ok (by kernel_rfl) (OkTab.cons g_lct_Forest_Trees.ok (by kernel_rfl) (OkTab.cons g_lct_Forest_Link.ok (by kernel_rfl) (OkTab.cons g_lct_Forest_Path.ok (by kernel_rfl) (OkTab.cons g_law12_same.ok (by kernel_rfl) (OkTab.cons g_lct_Forest_Connected.ok (by kernel_rfl) (OkTab.nil _)))))))))) (OkTabI.nil _) Try.func9 (fun vs h K hk => ?_) (fun vs h K K' hk => ?_)
  · unfold g_law12_LctCuts.c at hk
    split at hk
    · rename_i x_0 x_1_a x_1_n x_1_c x_2
      exact ⟨_, hk, Nat.le_of_ble_eq_true rfl, g_law12_LctCuts.x x_0 (⟨x_1_a, x_1_n, x_1_c⟩ : Sl) x_2 h K⟩
    · exact hk.elim
  · unfold g_law12_LctCuts.c at hk ⊢
    split at hk
    · rename_i x_0 x_1_a x_1_n x_1_c x_2
      exact ⟨_, id, g_law12_LctCuts.x x_0 (⟨x_1_a, x_1_n, x_1_c⟩ : Sl) x_2 h K'⟩
    · exact hk.elim

theorem g_ref12_Forest_Link.x (f_0 : Option Addr) (a_1 : Int) (b_2 : Int) (h : Hp) (K : Value → Hp → Prop) : (g_ref12_Forest_Link f_0 a_1 b_2 h (fun r0 h => K (.int .i64 r0) h)) = xfnD Try.prog [(59, g_ref12_Forest_valid.c), (57, g_ref12_Forest_has.c), (42, g_ref12_Forest_Connected.c)] [] Try.f50 .z [.pointer f_0, .int .i64 a_1, .int .i64 b_2] h K := by kernel_rfl

theorem g_ref12_Forest_Link.ok : OkFn Try.prog 50 g_ref12_Forest_Link.c ∧ MonoC g_ref12_Forest_Link.c := by
  refine xfnD_okm (an := .z) wide_ok (OkTab.cons g_ref12_Forest_valid.ok (by kernel_rfl) (OkTab.cons g_ref12_Forest_has.ok (by kernel_rfl) (OkTab.cons g_ref12_Forest_Connected.ok (by kernel_rfl) (OkTab.nil _)))) (OkTabI.nil _) Try.func50 (fun vs h K hk => ?_) (fun vs h K K' hk => ?_)
  · unfold g_ref12_Forest_Link.c at hk
    split at hk
    · rename_i f_0 a_1 b_2
      exact ⟨_, hk, Nat.le_of_ble_eq_true rfl, g_ref12_Forest_Link.x f_0 a_1 b_2 h K⟩
    · exact hk.elim
  · unfold g_ref12_Forest_Link.c at hk ⊢
    split at hk
    · rename_i f_0 a_1 b_2
      exact ⟨_, id, g_ref12_Forest_Link.x f_0 a_1 b_2 h K'⟩
    · exact hk.elim

theorem g_ref12_Forest_edge.x (f_0 : Option Addr) (a_1 : Int) (b_2 : Int) (h : Hp) (K : Value → Hp → Prop) : (g_ref12_Forest_edge f_0 a_1 b_2 h (fun r0 h => K (.int .i64 r0) h)) = xfnD Try.prog [] [] Try.f64 (.sq .z (.sq (.sq .z (.bl (.lp .z [(7, .sc (.int .i64))])) none) .z none) none) [.pointer f_0, .int .i64 a_1, .int .i64 b_2] h K := by kernel_rfl

theorem g_ref12_Forest_edge.ok : OkFn Try.prog 64 g_ref12_Forest_edge.c ∧ MonoC g_ref12_Forest_edge.c := by
  refine xfnD_okm (an := (.sq .z (.sq (.sq .z (.bl (.lp .z [(7, .sc (.int .i64))])) none) .z none) none)) wide_ok (OkTab.nil _) (OkTabI.nil _) Try.func64 (fun vs h K hk => ?_) (fun vs h K K' hk => ?_)
  · unfold g_ref12_Forest_edge.c at hk
    split at hk
    · rename_i f_0 a_1 b_2
      exact ⟨_, hk, Nat.le_of_ble_eq_true rfl, g_ref12_Forest_edge.x f_0 a_1 b_2 h K⟩
    · exact hk.elim
  · unfold g_ref12_Forest_edge.c at hk ⊢
    split at hk
    · rename_i f_0 a_1 b_2
      exact ⟨_, id, g_ref12_Forest_edge.x f_0 a_1 b_2 h K'⟩
    · exact hk.elim

theorem g_ref12_Forest_Cut.x (f_0 : Option Addr) (a_1 : Int) (b_2 : Int) (h : Hp) (K : Value → Hp → Prop) : (g_ref12_Forest_Cut f_0 a_1 b_2 h (fun r0 h => K (.int .i64 r0) h)) = xfnD Try.prog [(59, g_ref12_Forest_valid.c), (57, g_ref12_Forest_has.c), (64, g_ref12_Forest_edge.c)] [] Try.f51 (.sq .z (.sq .z (.sq .z (.sq .z (.sq .z (.sq .z (.sq (.sq .z (.bl (.lp .z [(8, .sc .slice), (9, .sc (.int .i64))])) none) .z (some [(8, .sc .slice)])) none) none) none) none) none) none) [.pointer f_0, .int .i64 a_1, .int .i64 b_2] h K := by kernel_rfl

theorem g_ref12_Forest_Cut.ok : OkFn Try.prog 51 g_ref12_Forest_Cut.c ∧ MonoC g_ref12_Forest_Cut.c := by
  refine xfnD_okm (an := (.sq .z (.sq .z (.sq .z (.sq .z (.sq .z (.sq .z (.sq (.sq .z (.bl (.lp .z [(8, .sc .slice), (9, .sc (.int .i64))])) none) .z (some [(8, .sc .slice)])) none) none) none) none) none) none)) wide_ok (OkTab.cons g_ref12_Forest_valid.ok (by kernel_rfl) (OkTab.cons g_ref12_Forest_has.ok (by kernel_rfl) (OkTab.cons g_ref12_Forest_edge.ok (by kernel_rfl) (OkTab.nil _)))) (OkTabI.nil _) Try.func51 (fun vs h K hk => ?_) (fun vs h K K' hk => ?_)
  · unfold g_ref12_Forest_Cut.c at hk
    split at hk
    · rename_i f_0 a_1 b_2
      exact ⟨_, hk, Nat.le_of_ble_eq_true rfl, g_ref12_Forest_Cut.x f_0 a_1 b_2 h K⟩
    · exact hk.elim
  · unfold g_ref12_Forest_Cut.c at hk ⊢
    split at hk
    · rename_i f_0 a_1 b_2
      exact ⟨_, id, g_ref12_Forest_Cut.x f_0 a_1 b_2 h K'⟩
    · exact hk.elim

theorem g_ref12_Forest_Set.x (f_0 : Option Addr) (v_1 : Int) (key_2 : Int) (h : Hp) (K : Value → Hp → Prop) : (g_ref12_Forest_Set f_0 v_1 key_2 h (fun r0 h => K (.int .i64 r0) h)) = xfnD Try.prog [(59, g_ref12_Forest_valid.c), (57, g_ref12_Forest_has.c)] [] Try.f52 .z [.pointer f_0, .int .i64 v_1, .int .i64 key_2] h K := by kernel_rfl

theorem g_ref12_Forest_Set.ok : OkFn Try.prog 52 g_ref12_Forest_Set.c ∧ MonoC g_ref12_Forest_Set.c := by
  refine xfnD_okm (an := .z) wide_ok (OkTab.cons g_ref12_Forest_valid.ok (by kernel_rfl) (OkTab.cons g_ref12_Forest_has.ok (by kernel_rfl) (OkTab.nil _))) (OkTabI.nil _) Try.func52 (fun vs h K hk => ?_) (fun vs h K K' hk => ?_)
  · unfold g_ref12_Forest_Set.c at hk
    split at hk
    · rename_i f_0 v_1 key_2
      exact ⟨_, hk, Nat.le_of_ble_eq_true rfl, g_ref12_Forest_Set.x f_0 v_1 key_2 h K⟩
    · exact hk.elim
  · unfold g_ref12_Forest_Set.c at hk ⊢
    split at hk
    · rename_i f_0 v_1 key_2
      exact ⟨_, id, g_ref12_Forest_Set.x f_0 v_1 key_2 h K'⟩
    · exact hk.elim

theorem g_ref12_Forest_Copy.x (f_0 : Option Addr) (h : Hp) (K : Value → Hp → Prop) : (g_ref12_Forest_Copy f_0 h (fun r0 h => K (.pointer r0) h)) = xfnD Try.prog [(59, g_ref12_Forest_valid.c)] [] Try.f53 .z [.pointer f_0] h K := by kernel_rfl

theorem g_ref12_Forest_Copy.ok : OkFn Try.prog 53 g_ref12_Forest_Copy.c ∧ MonoC g_ref12_Forest_Copy.c := by
  refine xfnD_okm (an := .z) wide_ok (OkTab.cons g_ref12_Forest_valid.ok (by kernel_rfl) (OkTab.nil _)) (OkTabI.nil _) Try.func53 (fun vs h K hk => ?_) (fun vs h K K' hk => ?_)
  · unfold g_ref12_Forest_Copy.c at hk
    split at hk
    · rename_i f_0
      exact ⟨_, hk, Nat.le_of_ble_eq_true rfl, g_ref12_Forest_Copy.x f_0 h K⟩
    · exact hk.elim
  · unfold g_ref12_Forest_Copy.c at hk ⊢
    split at hk
    · rename_i f_0
      exact ⟨_, id, g_ref12_Forest_Copy.x f_0 h K'⟩
    · exact hk.elim

theorem g_law12_step.x (x_0 : Option Addr) (x_1 : Option Addr) (x_2_0 : Int) (x_2_1 : Int) (x_2_2 : Int) (x_2_3 : Int) (h : Hp) (K : Value → Hp → Prop) : (g_law12_step x_0 x_1 x_2_0 x_2_1 x_2_2 x_2_3 h (fun r0 r1 r2 h => K (.tuple #[.pointer r0, .pointer r1, .bool r2]) h)) = xfnD Try.prog [(16, g_lct_Forest_Link.c), (50, g_ref12_Forest_Link.c), (30, g_lct_Forest_Cut.c), (51, g_ref12_Forest_Cut.c), (26, g_lct_Forest_Set.c), (52, g_ref12_Forest_Set.c), (29, g_lct_Forest_Copy.c), (53, g_ref12_Forest_Copy.c)] [] Try.f31 .z [.pointer x_0, .pointer x_1, .agg #[.int .i64 x_2_0, .int .i64 x_2_1, .int .i64 x_2_2, .int .i64 x_2_3]] h K := by kernel_rfl

theorem g_law12_step.ok : OkFn Try.prog 31 g_law12_step.c ∧ MonoC g_law12_step.c := by
  refine xfnD_okm (an := .z) wide_ok (OkTab.cons g_lct_Forest_Link.ok (by kernel_rfl) (OkTab.cons g_ref12_Forest_Link.ok (by kernel_rfl) (OkTab.cons g_lct_Forest_Cut.ok (by kernel_rfl) (OkTab.cons g_ref12_Forest_Cut.ok (by kernel_rfl) (OkTab.cons g_lct_Forest_Set.ok (by kernel_rfl) (OkTab.cons g_ref12_Forest_Set.ok (by kernel_rfl) (OkTab.cons g_lct_Forest_Copy.ok (by kernel_rfl) (OkTab.cons g_ref12_Forest_Copy.ok (by kernel_rfl) (OkTab.nil _))))))))) (OkTabI.nil _) Try.func31 (fun vs h K hk => ?_) (fun vs h K K' hk => ?_)
  · unfold g_law12_step.c at hk
    split at hk
    · rename_i x_0 x_1 x_2_0 x_2_1 x_2_2 x_2_3
      exact ⟨_, hk, Nat.le_of_ble_eq_true rfl, g_law12_step.x x_0 x_1 x_2_0 x_2_1 x_2_2 x_2_3 h K⟩
    · exact hk.elim
  · unfold g_law12_step.c at hk ⊢
    split at hk
    · rename_i x_0 x_1 x_2_0 x_2_1 x_2_2 x_2_3
      exact ⟨_, id, g_law12_step.x x_0 x_1 x_2_0 x_2_1 x_2_2 x_2_3 h K'⟩
    · exact hk.elim

theorem g_law12_LctPlays.x (x_0 : Int) (x_1 : Sl) (x_2_0 : Int) (x_2_1 : Int) (x_2_2 : Int) (h : Hp) (K : Value → Hp → Prop) : (g_law12_LctPlays x_0 x_1 x_2_0 x_2_1 x_2_2 h (fun r0 h => K (.bool r0) h)) = xfnD Try.prog [(14, g_lct_New.c), (24, g_ref12_New.c), (13, g_law12_works.c), (31, g_law12_step.c), (25, g_law12_agree.c)] [] Try.f10 (.sq .z (.sq .z (.sq .z (.sq .z (.sq (.sq .z (.bl (.lp .z [(7, .sc .ptr), (9, .sc .ptr), (11, .sc (.int .i64))])) none) .z none) none) none) none) none) [.int .i64 x_0, .slice x_1.a x_1.n x_1.c, .agg #[.int .i64 x_2_0, .int .i64 x_2_1, .int .i64 x_2_2]] h K := by kernel_rfl

theorem g_law12_LctPlays.ok : OkFn Try.prog 10 g_law12_LctPlays.c ∧ MonoC g_law12_LctPlays.c := by
  refine xfnD_okm (an := (.sq .z (.sq .z (.sq .z (.sq .z (.sq (.sq .z (.bl (.lp .z [(7, .sc .ptr), (9, .sc .ptr), (11, .sc (.int .i64))])) none) .z none) none) none) none) none)) wide_ok (OkTab.cons g_lct_New.ok (by kernel_rfl) (OkTab.cons g_ref12_New.ok (by kernel_rfl) (OkTab.cons g_law12_works.ok (by kernel_rfl) (OkTab.cons g_law12_step.ok (by kernel_rfl) (OkTab.cons g_law12_agree.ok (by kernel_rfl) (OkTab.nil _)))))) (OkTabI.nil _) Try.func10 (fun vs h K hk => ?_) (fun vs h K K' hk => ?_)
  · unfold g_law12_LctPlays.c at hk
    split at hk
    · rename_i x_0 x_1_a x_1_n x_1_c x_2_0 x_2_1 x_2_2
      exact ⟨_, hk, Nat.le_of_ble_eq_true rfl, g_law12_LctPlays.x x_0 (⟨x_1_a, x_1_n, x_1_c⟩ : Sl) x_2_0 x_2_1 x_2_2 h K⟩
    · exact hk.elim
  · unfold g_law12_LctPlays.c at hk ⊢
    split at hk
    · rename_i x_0 x_1_a x_1_n x_1_c x_2_0 x_2_1 x_2_2
      exact ⟨_, id, g_law12_LctPlays.x x_0 (⟨x_1_a, x_1_n, x_1_c⟩ : Sl) x_2_0 x_2_1 x_2_2 h K'⟩
    · exact hk.elim

theorem g_law12_LctNil.x (x_0 : Int) (x_1 : Int) (x_2 : Int) (x_3 : Int) (h : Hp) (K : Value → Hp → Prop) : (g_law12_LctNil x_0 x_1 x_2 x_3 h (fun r0 h => K (.bool r0) h)) = xfnD Try.prog [(26, g_lct_Forest_Set.c), (16, g_lct_Forest_Link.c), (30, g_lct_Forest_Cut.c), (28, g_lct_Forest_Min.c), (20, g_lct_Forest_Meet.c), (27, g_lct_Forest_Key.c), (15, g_lct_Forest_Connected.c), (18, g_lct_Forest_Size.c), (17, g_lct_Forest_Trees.c), (23, g_lct_Forest_Path.c), (21, g_lct_Forest_Dist.c), (29, g_lct_Forest_Copy.c), (13, g_law12_works.c)] [] Try.f11 (.sq .z (.sq .z (.sq .z (.sq (.sq .z (.bl (.lp .z [(11, .sc (.int .i64))])) none) .z none) none) none) none) [.int .i64 x_0, .int .i64 x_1, .int .i64 x_2, .int .i64 x_3] h K := by kernel_rfl

theorem g_law12_LctNil.ok : OkFn Try.prog 11 g_law12_LctNil.c ∧ MonoC g_law12_LctNil.c := by
  refine xfnD_okm (an := (.sq .z (.sq .z (.sq .z (.sq (.sq .z (.bl (.lp .z [(11, .sc (.int .i64))])) none) .z none) none) none) none)) wide_ok (OkTab.cons g_lct_Forest_Set.ok (by kernel_rfl) (OkTab.cons g_lct_Forest_Link.ok (by kernel_rfl) (OkTab.cons g_lct_Forest_Cut.ok (by kernel_rfl) (OkTab.cons g_lct_Forest_Min.ok (by kernel_rfl) (OkTab.cons g_lct_Forest_Meet.ok (by kernel_rfl) (OkTab.cons g_lct_Forest_Key.ok (by kernel_rfl) (OkTab.cons g_lct_Forest_Connected.ok (by kernel_rfl) (OkTab.cons g_lct_Forest_Size.ok (by kernel_rfl) (OkTab.cons g_lct_Forest_Trees.ok (by kernel_rfl) (OkTab.cons g_lct_Forest_Path.ok (by kernel_rfl) (OkTab.cons g_lct_Forest_Dist.ok (by kernel_rfl) (OkTab.cons g_lct_Forest_Copy.ok (by kernel_rfl) (OkTab.cons g_law12_works.ok (by kernel_rfl) (OkTab.nil _)))))))))))))) (OkTabI.nil _) Try.func11 (fun vs h K hk => ?_) (fun vs h K K' hk => ?_)
  · unfold g_law12_LctNil.c at hk
    split at hk
    · rename_i x_0 x_1 x_2 x_3
      exact ⟨_, hk, Nat.le_of_ble_eq_true rfl, g_law12_LctNil.x x_0 x_1 x_2 x_3 h K⟩
    · exact hk.elim
  · unfold g_law12_LctNil.c at hk ⊢
    split at hk
    · rename_i x_0 x_1 x_2 x_3
      exact ⟨_, id, g_law12_LctNil.x x_0 x_1 x_2 x_3 h K'⟩
    · exact hk.elim

end Go.Hx
