/- Printed by gen.py: what each function's call asks. -/
import Derived.Test.YtepochkdpllmkaaHxDefs
import Derived.Test.YtepochkdpllmkaaHxSoundH
import Derived.Test.YtepochkdpllmkaaProg
import Derived.KernelRfl
set_option linter.unusedVariables false
namespace Go.Hx
open Go.Proofs
theorem wide_ok : Try.prog.follows .mixedOrders = true := by kernel_rfl

abbrev g_dsu_New.c : CT := fun vs h K => match vs with
  | [.int .i64 n_0] => g_dsu_New n_0 h (fun r0 r1 h => K (.tuple #[.pointer r0, .int .i64 r1]) h)
  | _ => False

theorem g_dsu_New.x (n_0 : Int) (h : Hp) (K : Value → Hp → Prop) : (g_dsu_New n_0 h (fun r0 r1 h => K (.tuple #[.pointer r0, .int .i64 r1]) h)) = xfnD Try.prog [] Try.f38 (.sq .z (.sq .z (.sq .z (.sq (.sq .z (.bl (.lp .z [(16, .sc (.int .i64))])) none) .z none) none) none) none) [.int .i64 n_0] h K := by kernel_rfl

theorem g_dsu_New.ok : OkFn Try.prog 38 g_dsu_New.c ∧ MonoC g_dsu_New.c := by
  refine xfnD_okm (an := (.sq .z (.sq .z (.sq .z (.sq (.sq .z (.bl (.lp .z [(16, .sc (.int .i64))])) none) .z none) none) none) none)) wide_ok (OkTab.nil _) Try.func38 (fun vs h K hk => ?_) (fun vs h K K' hk => ?_)
  · unfold g_dsu_New.c at hk
    split at hk
    · rename_i n_0
      exact ⟨_, hk, Nat.le_of_ble_eq_true rfl, g_dsu_New.x n_0 h K⟩
    · exact hk.elim
  · unfold g_dsu_New.c at hk ⊢
    split at hk
    · rename_i n_0
      exact ⟨_, id, g_dsu_New.x n_0 h K'⟩
    · exact hk.elim

abbrev g_dsu_Sets_has.c : CT := fun vs h K => match vs with
  | [.pointer s_0, .int .i64 a_1] => g_dsu_Sets_has s_0 a_1 h (fun r0 h => K (.bool r0) h)
  | _ => False

theorem g_dsu_Sets_has.x (s_0 : Option Addr) (a_1 : Int) (h : Hp) (K : Value → Hp → Prop) : (g_dsu_Sets_has s_0 a_1 h (fun r0 h => K (.bool r0) h)) = xfnD Try.prog [] Try.f45 .z [.pointer s_0, .int .i64 a_1] h K := by kernel_rfl

theorem g_dsu_Sets_has.ok : OkFn Try.prog 45 g_dsu_Sets_has.c ∧ MonoC g_dsu_Sets_has.c := by
  refine xfnD_okm (an := .z) wide_ok (OkTab.nil _) Try.func45 (fun vs h K hk => ?_) (fun vs h K K' hk => ?_)
  · unfold g_dsu_Sets_has.c at hk
    split at hk
    · rename_i s_0 a_1
      exact ⟨_, hk, Nat.le_of_ble_eq_true rfl, g_dsu_Sets_has.x s_0 a_1 h K⟩
    · exact hk.elim
  · unfold g_dsu_Sets_has.c at hk ⊢
    split at hk
    · rename_i s_0 a_1
      exact ⟨_, id, g_dsu_Sets_has.x s_0 a_1 h K'⟩
    · exact hk.elim

abbrev g_dsu_Sets_root.c : CT := fun vs h K => match vs with
  | [.pointer s_0, .int .i64 a_1] => g_dsu_Sets_root s_0 a_1 h (fun r0 h => K (.int .i64 r0) h)
  | _ => False

theorem g_dsu_Sets_root.x (s_0 : Option Addr) (a_1 : Int) (h : Hp) (K : Value → Hp → Prop) : (g_dsu_Sets_root s_0 a_1 h (fun r0 h => K (.int .i64 r0) h)) = xfnD Try.prog [] Try.f46 (.sq .z (.bl (.sq .z (.sq (.bl (.lp .z [(1, .sc (.int .i64))])) .z none) none)) none) [.pointer s_0, .int .i64 a_1] h K := by kernel_rfl

theorem g_dsu_Sets_root.ok : OkFn Try.prog 46 g_dsu_Sets_root.c ∧ MonoC g_dsu_Sets_root.c := by
  refine xfnD_okm (an := (.sq .z (.bl (.sq .z (.sq (.bl (.lp .z [(1, .sc (.int .i64))])) .z none) none)) none)) wide_ok (OkTab.nil _) Try.func46 (fun vs h K hk => ?_) (fun vs h K K' hk => ?_)
  · unfold g_dsu_Sets_root.c at hk
    split at hk
    · rename_i s_0 a_1
      exact ⟨_, hk, Nat.le_of_ble_eq_true rfl, g_dsu_Sets_root.x s_0 a_1 h K⟩
    · exact hk.elim
  · unfold g_dsu_Sets_root.c at hk ⊢
    split at hk
    · rename_i s_0 a_1
      exact ⟨_, id, g_dsu_Sets_root.x s_0 a_1 h K'⟩
    · exact hk.elim

abbrev g_dsu_Sets_Union.c : CT := fun vs h K => match vs with
  | [.pointer x_0, .int .i64 x_1, .int .i64 x_2] => g_dsu_Sets_Union x_0 x_1 x_2 h (fun r0 r1 h => K (.tuple #[.bool r0, .int .i64 r1]) h)
  | _ => False

theorem g_dsu_Sets_Union.x (x_0 : Option Addr) (x_1 : Int) (x_2 : Int) (h : Hp) (K : Value → Hp → Prop) : (g_dsu_Sets_Union x_0 x_1 x_2 h (fun r0 r1 h => K (.tuple #[.bool r0, .int .i64 r1]) h)) = xfnD Try.prog [(45, g_dsu_Sets_has.c), (46, g_dsu_Sets_root.c)] Try.f35 (.sq .z (.sq .z (.sq .z (.sq .z (.sq .z (.sq .z .z (some [(1, .sc (.int .i64)), (2, .sc (.int .i64))])) none) none) none) none) none) [.pointer x_0, .int .i64 x_1, .int .i64 x_2] h K := by kernel_rfl

theorem g_dsu_Sets_Union.ok : OkFn Try.prog 35 g_dsu_Sets_Union.c ∧ MonoC g_dsu_Sets_Union.c := by
  refine xfnD_okm (an := (.sq .z (.sq .z (.sq .z (.sq .z (.sq .z (.sq .z .z (some [(1, .sc (.int .i64)), (2, .sc (.int .i64))])) none) none) none) none) none)) wide_ok (OkTab.cons g_dsu_Sets_has.ok (by kernel_rfl) (OkTab.cons g_dsu_Sets_root.ok (by kernel_rfl) (OkTab.nil _))) Try.func35 (fun vs h K hk => ?_) (fun vs h K K' hk => ?_)
  · unfold g_dsu_Sets_Union.c at hk
    split at hk
    · rename_i x_0 x_1 x_2
      exact ⟨_, hk, Nat.le_of_ble_eq_true rfl, g_dsu_Sets_Union.x x_0 x_1 x_2 h K⟩
    · exact hk.elim
  · unfold g_dsu_Sets_Union.c at hk ⊢
    split at hk
    · rename_i x_0 x_1 x_2
      exact ⟨_, id, g_dsu_Sets_Union.x x_0 x_1 x_2 h K'⟩
    · exact hk.elim

abbrev g_dsu_Sets_Least.c : CT := fun vs h K => match vs with
  | [.pointer s_0, .int .i64 a_1] => g_dsu_Sets_Least s_0 a_1 h (fun r0 r1 h => K (.tuple #[.int .i64 r0, .int .i64 r1]) h)
  | _ => False

theorem g_dsu_Sets_Least.x (s_0 : Option Addr) (a_1 : Int) (h : Hp) (K : Value → Hp → Prop) : (g_dsu_Sets_Least s_0 a_1 h (fun r0 r1 h => K (.tuple #[.int .i64 r0, .int .i64 r1]) h)) = xfnD Try.prog [(45, g_dsu_Sets_has.c), (46, g_dsu_Sets_root.c)] Try.f32 .z [.pointer s_0, .int .i64 a_1] h K := by kernel_rfl

theorem g_dsu_Sets_Least.ok : OkFn Try.prog 32 g_dsu_Sets_Least.c ∧ MonoC g_dsu_Sets_Least.c := by
  refine xfnD_okm (an := .z) wide_ok (OkTab.cons g_dsu_Sets_has.ok (by kernel_rfl) (OkTab.cons g_dsu_Sets_root.ok (by kernel_rfl) (OkTab.nil _))) Try.func32 (fun vs h K hk => ?_) (fun vs h K K' hk => ?_)
  · unfold g_dsu_Sets_Least.c at hk
    split at hk
    · rename_i s_0 a_1
      exact ⟨_, hk, Nat.le_of_ble_eq_true rfl, g_dsu_Sets_Least.x s_0 a_1 h K⟩
    · exact hk.elim
  · unfold g_dsu_Sets_Least.c at hk ⊢
    split at hk
    · rename_i s_0 a_1
      exact ⟨_, id, g_dsu_Sets_Least.x s_0 a_1 h K'⟩
    · exact hk.elim

abbrev g_dsu_Sets_Count.c : CT := fun vs h K => match vs with
  | [.pointer s_0] => g_dsu_Sets_Count s_0 h (fun r0 h => K (.int .i64 r0) h)
  | _ => False

theorem g_dsu_Sets_Count.x (s_0 : Option Addr) (h : Hp) (K : Value → Hp → Prop) : (g_dsu_Sets_Count s_0 h (fun r0 h => K (.int .i64 r0) h)) = xfnD Try.prog [] Try.f40 .z [.pointer s_0] h K := by kernel_rfl

theorem g_dsu_Sets_Count.ok : OkFn Try.prog 40 g_dsu_Sets_Count.c ∧ MonoC g_dsu_Sets_Count.c := by
  refine xfnD_okm (an := .z) wide_ok (OkTab.nil _) Try.func40 (fun vs h K hk => ?_) (fun vs h K K' hk => ?_)
  · unfold g_dsu_Sets_Count.c at hk
    split at hk
    · rename_i s_0
      exact ⟨_, hk, Nat.le_of_ble_eq_true rfl, g_dsu_Sets_Count.x s_0 h K⟩
    · exact hk.elim
  · unfold g_dsu_Sets_Count.c at hk ⊢
    split at hk
    · rename_i s_0
      exact ⟨_, id, g_dsu_Sets_Count.x s_0 h K'⟩
    · exact hk.elim

abbrev g_dsu_Sets_Size.c : CT := fun vs h K => match vs with
  | [.pointer s_0, .int .i64 a_1] => g_dsu_Sets_Size s_0 a_1 h (fun r0 h => K (.int .i64 r0) h)
  | _ => False

theorem g_dsu_Sets_Size.x (s_0 : Option Addr) (a_1 : Int) (h : Hp) (K : Value → Hp → Prop) : (g_dsu_Sets_Size s_0 a_1 h (fun r0 h => K (.int .i64 r0) h)) = xfnD Try.prog [(45, g_dsu_Sets_has.c), (46, g_dsu_Sets_root.c)] Try.f18 .z [.pointer s_0, .int .i64 a_1] h K := by kernel_rfl

theorem g_dsu_Sets_Size.ok : OkFn Try.prog 18 g_dsu_Sets_Size.c ∧ MonoC g_dsu_Sets_Size.c := by
  refine xfnD_okm (an := .z) wide_ok (OkTab.cons g_dsu_Sets_has.ok (by kernel_rfl) (OkTab.cons g_dsu_Sets_root.ok (by kernel_rfl) (OkTab.nil _))) Try.func18 (fun vs h K hk => ?_) (fun vs h K K' hk => ?_)
  · unfold g_dsu_Sets_Size.c at hk
    split at hk
    · rename_i s_0 a_1
      exact ⟨_, hk, Nat.le_of_ble_eq_true rfl, g_dsu_Sets_Size.x s_0 a_1 h K⟩
    · exact hk.elim
  · unfold g_dsu_Sets_Size.c at hk ⊢
    split at hk
    · rename_i s_0 a_1
      exact ⟨_, id, g_dsu_Sets_Size.x s_0 a_1 h K'⟩
    · exact hk.elim

abbrev g_law08_works.c : CT := fun vs h K => match vs with
  | [] => g_law08_works h (fun r0 h => K (.bool r0) h)
  | _ => False

theorem g_law08_works.x (h : Hp) (K : Value → Hp → Prop) : (g_law08_works h (fun r0 h => K (.bool r0) h)) = xfnD Try.prog [(38, g_dsu_New.c), (35, g_dsu_Sets_Union.c), (32, g_dsu_Sets_Least.c), (40, g_dsu_Sets_Count.c), (18, g_dsu_Sets_Size.c)] Try.f15 .z [] h K := by kernel_rfl

theorem g_law08_works.ok : OkFn Try.prog 15 g_law08_works.c ∧ MonoC g_law08_works.c := by
  refine xfnD_okm (an := .z) wide_ok (OkTab.cons g_dsu_New.ok (by kernel_rfl) (OkTab.cons g_dsu_Sets_Union.ok (by kernel_rfl) (OkTab.cons g_dsu_Sets_Least.ok (by kernel_rfl) (OkTab.cons g_dsu_Sets_Count.ok (by kernel_rfl) (OkTab.cons g_dsu_Sets_Size.ok (by kernel_rfl) (OkTab.nil _)))))) Try.func15 (fun vs h K hk => ?_) (fun vs h K K' hk => ?_)
  · unfold g_law08_works.c at hk
    split at hk
    · exact ⟨_, hk, Nat.le_of_ble_eq_true rfl, g_law08_works.x  h K⟩
    · exact hk.elim
  · unfold g_law08_works.c at hk ⊢
    split at hk
    · exact ⟨_, id, g_law08_works.x  h K'⟩
    · exact hk.elim

abbrev g_law08_united.c : CT := fun vs h K => match vs with
  | [.int .i64 n_0, .slice l_1_a l_1_n l_1_c] => g_law08_united n_0 (⟨l_1_a, l_1_n, l_1_c⟩ : Sl) h (fun r0 h => K (.pointer r0) h)
  | _ => False

theorem g_law08_united.x (n_0 : Int) (l_1 : Sl) (h : Hp) (K : Value → Hp → Prop) : (g_law08_united n_0 l_1 h (fun r0 h => K (.pointer r0) h)) = xfnD Try.prog [(38, g_dsu_New.c), (35, g_dsu_Sets_Union.c)] Try.f16 (.sq .z (.sq .z (.sq .z (.sq (.sq .z (.bl (.lp .z [(7, .sc (.int .i64))])) none) .z none) none) none) none) [.int .i64 n_0, .slice l_1.a l_1.n l_1.c] h K := by kernel_rfl

theorem g_law08_united.ok : OkFn Try.prog 16 g_law08_united.c ∧ MonoC g_law08_united.c := by
  refine xfnD_okm (an := (.sq .z (.sq .z (.sq .z (.sq (.sq .z (.bl (.lp .z [(7, .sc (.int .i64))])) none) .z none) none) none) none)) wide_ok (OkTab.cons g_dsu_New.ok (by kernel_rfl) (OkTab.cons g_dsu_Sets_Union.ok (by kernel_rfl) (OkTab.nil _))) Try.func16 (fun vs h K hk => ?_) (fun vs h K K' hk => ?_)
  · unfold g_law08_united.c at hk
    split at hk
    · rename_i n_0 l_1_a l_1_n l_1_c
      exact ⟨_, hk, Nat.le_of_ble_eq_true rfl, g_law08_united.x n_0 (⟨l_1_a, l_1_n, l_1_c⟩ : Sl) h K⟩
    · exact hk.elim
  · unfold g_law08_united.c at hk ⊢
    split at hk
    · rename_i n_0 l_1_a l_1_n l_1_c
      exact ⟨_, id, g_law08_united.x n_0 (⟨l_1_a, l_1_n, l_1_c⟩ : Sl) h K'⟩
    · exact hk.elim

abbrev g_dsu_Sets_Same.c : CT := fun vs h K => match vs with
  | [.pointer s_0, .int .i64 a_1, .int .i64 b_2] => g_dsu_Sets_Same s_0 a_1 b_2 h (fun r0 h => K (.bool r0) h)
  | _ => False

theorem g_dsu_Sets_Same.x (s_0 : Option Addr) (a_1 : Int) (b_2 : Int) (h : Hp) (K : Value → Hp → Prop) : (g_dsu_Sets_Same s_0 a_1 b_2 h (fun r0 h => K (.bool r0) h)) = xfnD Try.prog [(45, g_dsu_Sets_has.c), (46, g_dsu_Sets_root.c)] Try.f17 .z [.pointer s_0, .int .i64 a_1, .int .i64 b_2] h K := by kernel_rfl

theorem g_dsu_Sets_Same.ok : OkFn Try.prog 17 g_dsu_Sets_Same.c ∧ MonoC g_dsu_Sets_Same.c := by
  refine xfnD_okm (an := .z) wide_ok (OkTab.cons g_dsu_Sets_has.ok (by kernel_rfl) (OkTab.cons g_dsu_Sets_root.ok (by kernel_rfl) (OkTab.nil _))) Try.func17 (fun vs h K hk => ?_) (fun vs h K K' hk => ?_)
  · unfold g_dsu_Sets_Same.c at hk
    split at hk
    · rename_i s_0 a_1 b_2
      exact ⟨_, hk, Nat.le_of_ble_eq_true rfl, g_dsu_Sets_Same.x s_0 a_1 b_2 h K⟩
    · exact hk.elim
  · unfold g_dsu_Sets_Same.c at hk ⊢
    split at hk
    · rename_i s_0 a_1 b_2
      exact ⟨_, id, g_dsu_Sets_Same.x s_0 a_1 b_2 h K'⟩
    · exact hk.elim

abbrev g_law08_DsuPaths.c : CT := fun vs h K => match vs with
  | [.int .i64 x_0, .slice x_1_a x_1_n x_1_c, .int .i64 x_2] => g_law08_DsuPaths x_0 (⟨x_1_a, x_1_n, x_1_c⟩ : Sl) x_2 h (fun r0 h => K (.bool r0) h)
  | _ => False

theorem g_law08_DsuPaths.x (x_0 : Int) (x_1 : Sl) (x_2 : Int) (h : Hp) (K : Value → Hp → Prop) : (g_law08_DsuPaths x_0 x_1 x_2 h (fun r0 h => K (.bool r0) h)) = xfnD Try.prog [(15, g_law08_works.c), (16, g_law08_united.c), (18, g_dsu_Sets_Size.c), (17, g_dsu_Sets_Same.c)] Try.f3 (.sq .z (.sq .z (.sq .z (.sq .z (.sq .z (.sq .z (.sq (.sq .z (.bl (.lp (.sq .z (.sq (.bl (.sq .z (.bl (.lp .z [(10, .sc (.int .i64))])) none)) .z none) none) [(9, .sc (.int .i64))])) none) (.sq .z (.sq (.sq .z (.bl (.lp .z [(13, .sc (.int .i64)), (14, .sc (.int .i64))])) none) .z (some [(13, .sc (.int .i64))])) none) (some [])) none) none) none) none) none) none) [.int .i64 x_0, .slice x_1.a x_1.n x_1.c, .int .i64 x_2] h K := by kernel_rfl

theorem g_law08_DsuPaths.ok : OkFn Try.prog 3 g_law08_DsuPaths.c ∧ MonoC g_law08_DsuPaths.c := by
  refine xfnD_okm (an := (.sq .z (.sq .z (.sq .z (.sq .z (.sq .z (.sq .z (.sq (.sq .z (.bl (.lp (.sq .z (.sq (.bl (.sq .z (.bl (.lp .z [(10, .sc (.int .i64))])) none)) .z none) none) [(9, .sc (.int .i64))])) none) (.sq .z (.sq (.sq .z (.bl (.lp .z [(13, .sc (.int .i64)), (14, .sc (.int .i64))])) none) .z (some [(13, .sc (.int .i64))])) none) (some [])) none) none) none) none) none) none)) wide_ok (OkTab.cons g_law08_works.ok (by kernel_rfl) (OkTab.cons g_law08_united.ok (by kernel_rfl) (OkTab.cons g_dsu_Sets_Size.ok (by kernel_rfl) (OkTab.cons g_dsu_Sets_Same.ok (by kernel_rfl) (OkTab.nil _))))) Try.func3 (fun vs h K hk => ?_) (fun vs h K K' hk => ?_)
  · unfold g_law08_DsuPaths.c at hk
    split at hk
    · rename_i x_0 x_1_a x_1_n x_1_c x_2
      exact ⟨_, hk, Nat.le_of_ble_eq_true rfl, g_law08_DsuPaths.x x_0 (⟨x_1_a, x_1_n, x_1_c⟩ : Sl) x_2 h K⟩
    · exact hk.elim
  · unfold g_law08_DsuPaths.c at hk ⊢
    split at hk
    · rename_i x_0 x_1_a x_1_n x_1_c x_2
      exact ⟨_, id, g_law08_DsuPaths.x x_0 (⟨x_1_a, x_1_n, x_1_c⟩ : Sl) x_2 h K'⟩
    · exact hk.elim

abbrev g_lattice_check.c : CT := fun vs h K => match vs with
  | [.int .i64 w_0, .int .i64 h_1] => g_lattice_check w_0 h_1 h (fun r0 h => K (.int .i64 r0) h)
  | _ => False

theorem g_lattice_check.x (w_0 : Int) (h_1 : Int) (h : Hp) (K : Value → Hp → Prop) : (g_lattice_check w_0 h_1 h (fun r0 h => K (.int .i64 r0) h)) = xfnD Try.prog [] Try.f47 .z [.int .i64 w_0, .int .i64 h_1] h K := by kernel_rfl

theorem g_lattice_check.ok : OkFn Try.prog 47 g_lattice_check.c ∧ MonoC g_lattice_check.c := by
  refine xfnD_okm (an := .z) wide_ok (OkTab.nil _) Try.func47 (fun vs h K hk => ?_) (fun vs h K K' hk => ?_)
  · unfold g_lattice_check.c at hk
    split at hk
    · rename_i w_0 h_1
      exact ⟨_, hk, Nat.le_of_ble_eq_true rfl, g_lattice_check.x w_0 h_1 h K⟩
    · exact hk.elim
  · unfold g_lattice_check.c at hk ⊢
    split at hk
    · rename_i w_0 h_1
      exact ⟨_, id, g_lattice_check.x w_0 h_1 h K'⟩
    · exact hk.elim

abbrev g_lattice_At.c : CT := fun vs h K => match vs with
  | [.int .i64 w_0, .int .i64 h_1, .int .i64 x_2, .int .i64 y_3] => g_lattice_At w_0 h_1 x_2 y_3 h (fun r0 r1 h => K (.tuple #[.int .i64 r0, .int .i64 r1]) h)
  | _ => False

theorem g_lattice_At.x (w_0 : Int) (h_1 : Int) (x_2 : Int) (y_3 : Int) (h : Hp) (K : Value → Hp → Prop) : (g_lattice_At w_0 h_1 x_2 y_3 h (fun r0 r1 h => K (.tuple #[.int .i64 r0, .int .i64 r1]) h)) = xfnD Try.prog [(47, g_lattice_check.c)] Try.f19 .z [.int .i64 w_0, .int .i64 h_1, .int .i64 x_2, .int .i64 y_3] h K := by kernel_rfl

theorem g_lattice_At.ok : OkFn Try.prog 19 g_lattice_At.c ∧ MonoC g_lattice_At.c := by
  refine xfnD_okm (an := .z) wide_ok (OkTab.cons g_lattice_check.ok (by kernel_rfl) (OkTab.nil _)) Try.func19 (fun vs h K hk => ?_) (fun vs h K K' hk => ?_)
  · unfold g_lattice_At.c at hk
    split at hk
    · rename_i w_0 h_1 x_2 y_3
      exact ⟨_, hk, Nat.le_of_ble_eq_true rfl, g_lattice_At.x w_0 h_1 x_2 y_3 h K⟩
    · exact hk.elim
  · unfold g_lattice_At.c at hk ⊢
    split at hk
    · rename_i w_0 h_1 x_2 y_3
      exact ⟨_, id, g_lattice_At.x w_0 h_1 x_2 y_3 h K'⟩
    · exact hk.elim

abbrev g_ref29_Grid.c : CT := fun vs h K => match vs with
  | [.int .i64 w_0, .int .i64 h_1] => g_ref29_Grid w_0 h_1 h (fun r0 h => K (.bool r0) h)
  | _ => False

theorem g_ref29_Grid.x (w_0 : Int) (h_1 : Int) (h : Hp) (K : Value → Hp → Prop) : (g_ref29_Grid w_0 h_1 h (fun r0 h => K (.bool r0) h)) = xfnD Try.prog [] Try.f48 .z [.int .i64 w_0, .int .i64 h_1] h K := by kernel_rfl

theorem g_ref29_Grid.ok : OkFn Try.prog 48 g_ref29_Grid.c ∧ MonoC g_ref29_Grid.c := by
  refine xfnD_okm (an := .z) wide_ok (OkTab.nil _) Try.func48 (fun vs h K hk => ?_) (fun vs h K K' hk => ?_)
  · unfold g_ref29_Grid.c at hk
    split at hk
    · rename_i w_0 h_1
      exact ⟨_, hk, Nat.le_of_ble_eq_true rfl, g_ref29_Grid.x w_0 h_1 h K⟩
    · exact hk.elim
  · unfold g_ref29_Grid.c at hk ⊢
    split at hk
    · rename_i w_0 h_1
      exact ⟨_, id, g_ref29_Grid.x w_0 h_1 h K'⟩
    · exact hk.elim

abbrev g_ref29_At.c : CT := fun vs h K => match vs with
  | [.int .i64 w_0, .int .i64 h_1, .int .i64 x_2, .int .i64 y_3] => g_ref29_At w_0 h_1 x_2 y_3 h (fun r0 r1 h => K (.tuple #[.int .i64 r0, .int .i64 r1]) h)
  | _ => False

theorem g_ref29_At.x (w_0 : Int) (h_1 : Int) (x_2 : Int) (y_3 : Int) (h : Hp) (K : Value → Hp → Prop) : (g_ref29_At w_0 h_1 x_2 y_3 h (fun r0 r1 h => K (.tuple #[.int .i64 r0, .int .i64 r1]) h)) = xfnD Try.prog [(48, g_ref29_Grid.c)] Try.f20 .z [.int .i64 w_0, .int .i64 h_1, .int .i64 x_2, .int .i64 y_3] h K := by kernel_rfl

theorem g_ref29_At.ok : OkFn Try.prog 20 g_ref29_At.c ∧ MonoC g_ref29_At.c := by
  refine xfnD_okm (an := .z) wide_ok (OkTab.cons g_ref29_Grid.ok (by kernel_rfl) (OkTab.nil _)) Try.func20 (fun vs h K hk => ?_) (fun vs h K K' hk => ?_)
  · unfold g_ref29_At.c at hk
    split at hk
    · rename_i w_0 h_1 x_2 y_3
      exact ⟨_, hk, Nat.le_of_ble_eq_true rfl, g_ref29_At.x w_0 h_1 x_2 y_3 h K⟩
    · exact hk.elim
  · unfold g_ref29_At.c at hk ⊢
    split at hk
    · rename_i w_0 h_1 x_2 y_3
      exact ⟨_, id, g_ref29_At.x w_0 h_1 x_2 y_3 h K'⟩
    · exact hk.elim

abbrev g_lattice_Place.c : CT := fun vs h K => match vs with
  | [.int .i64 w_0, .int .i64 h_1, .int .i64 v_2] => g_lattice_Place w_0 h_1 v_2 h (fun r0 r1 r2 h => K (.tuple #[.int .i64 r0, .int .i64 r1, .int .i64 r2]) h)
  | _ => False

theorem g_lattice_Place.x (w_0 : Int) (h_1 : Int) (v_2 : Int) (h : Hp) (K : Value → Hp → Prop) : (g_lattice_Place w_0 h_1 v_2 h (fun r0 r1 r2 h => K (.tuple #[.int .i64 r0, .int .i64 r1, .int .i64 r2]) h)) = xfnD Try.prog [(47, g_lattice_check.c)] Try.f21 .z [.int .i64 w_0, .int .i64 h_1, .int .i64 v_2] h K := by kernel_rfl

theorem g_lattice_Place.ok : OkFn Try.prog 21 g_lattice_Place.c ∧ MonoC g_lattice_Place.c := by
  refine xfnD_okm (an := .z) wide_ok (OkTab.cons g_lattice_check.ok (by kernel_rfl) (OkTab.nil _)) Try.func21 (fun vs h K hk => ?_) (fun vs h K K' hk => ?_)
  · unfold g_lattice_Place.c at hk
    split at hk
    · rename_i w_0 h_1 v_2
      exact ⟨_, hk, Nat.le_of_ble_eq_true rfl, g_lattice_Place.x w_0 h_1 v_2 h K⟩
    · exact hk.elim
  · unfold g_lattice_Place.c at hk ⊢
    split at hk
    · rename_i w_0 h_1 v_2
      exact ⟨_, id, g_lattice_Place.x w_0 h_1 v_2 h K'⟩
    · exact hk.elim

abbrev g_ref29_Place.c : CT := fun vs h K => match vs with
  | [.int .i64 w_0, .int .i64 h_1, .int .i64 v_2] => g_ref29_Place w_0 h_1 v_2 h (fun r0 r1 r2 h => K (.tuple #[.int .i64 r0, .int .i64 r1, .int .i64 r2]) h)
  | _ => False

theorem g_ref29_Place.x (w_0 : Int) (h_1 : Int) (v_2 : Int) (h : Hp) (K : Value → Hp → Prop) : (g_ref29_Place w_0 h_1 v_2 h (fun r0 r1 r2 h => K (.tuple #[.int .i64 r0, .int .i64 r1, .int .i64 r2]) h)) = xfnD Try.prog [(48, g_ref29_Grid.c)] Try.f22 .z [.int .i64 w_0, .int .i64 h_1, .int .i64 v_2] h K := by kernel_rfl

theorem g_ref29_Place.ok : OkFn Try.prog 22 g_ref29_Place.c ∧ MonoC g_ref29_Place.c := by
  refine xfnD_okm (an := .z) wide_ok (OkTab.cons g_ref29_Grid.ok (by kernel_rfl) (OkTab.nil _)) Try.func22 (fun vs h K hk => ?_) (fun vs h K K' hk => ?_)
  · unfold g_ref29_Place.c at hk
    split at hk
    · rename_i w_0 h_1 v_2
      exact ⟨_, hk, Nat.le_of_ble_eq_true rfl, g_ref29_Place.x w_0 h_1 v_2 h K⟩
    · exact hk.elim
  · unfold g_ref29_Place.c at hk ⊢
    split at hk
    · rename_i w_0 h_1 v_2
      exact ⟨_, id, g_ref29_Place.x w_0 h_1 v_2 h K'⟩
    · exact hk.elim

abbrev g_lattice_step.c : CT := fun vs h K => match vs with
  | [.int .i64 at_0, .int .i64 by_1, .int .i64 many_2, .bool wrap_3] => g_lattice_step at_0 by_1 many_2 wrap_3 h (fun r0 r1 h => K (.tuple #[.int .i64 r0, .bool r1]) h)
  | _ => False

theorem g_lattice_step.x (at_0 : Int) (by_1 : Int) (many_2 : Int) (wrap_3 : Bool) (h : Hp) (K : Value → Hp → Prop) : (g_lattice_step at_0 by_1 many_2 wrap_3 h (fun r0 r1 h => K (.tuple #[.int .i64 r0, .bool r1]) h)) = xfnD Try.prog [] Try.f62 .z [.int .i64 at_0, .int .i64 by_1, .int .i64 many_2, .bool wrap_3] h K := by kernel_rfl

theorem g_lattice_step.ok : OkFn Try.prog 62 g_lattice_step.c ∧ MonoC g_lattice_step.c := by
  refine xfnD_okm (an := .z) wide_ok (OkTab.nil _) Try.func62 (fun vs h K hk => ?_) (fun vs h K K' hk => ?_)
  · unfold g_lattice_step.c at hk
    split at hk
    · rename_i at_0 by_1 many_2 wrap_3
      exact ⟨_, hk, Nat.le_of_ble_eq_true rfl, g_lattice_step.x at_0 by_1 many_2 wrap_3 h K⟩
    · exact hk.elim
  · unfold g_lattice_step.c at hk ⊢
    split at hk
    · rename_i at_0 by_1 many_2 wrap_3
      exact ⟨_, id, g_lattice_step.x at_0 by_1 many_2 wrap_3 h K'⟩
    · exact hk.elim

abbrev g_lattice_grid_f1.c : CT := fun vs h K => match vs with
  | [.int .i64 x_0, .int .i64 y_1, .agg ⟨[.int .i64 d_2_0, .int .i64 d_2_1]⟩, .pointer (some c_0), .pointer (some c_1), .pointer (some c_2), .pointer (some c_3)] => g_lattice_grid_f1 x_0 y_1 d_2_0 d_2_1 c_0 c_1 c_2 c_3 h (fun r0 r1 h => K (.tuple #[.int .i64 r0, .bool r1]) h)
  | _ => False

theorem g_lattice_grid_f1.x (x_0 : Int) (y_1 : Int) (d_2_0 : Int) (d_2_1 : Int) (c_0 : Addr) (c_1 : Addr) (c_2 : Addr) (c_3 : Addr) (h : Hp) (K : Value → Hp → Prop) : (g_lattice_grid_f1 x_0 y_1 d_2_0 d_2_1 c_0 c_1 c_2 c_3 h (fun r0 r1 h => K (.tuple #[.int .i64 r0, .bool r1]) h)) = xfnD Try.prog [(62, g_lattice_step.c)] Try.f61 .z [.int .i64 x_0, .int .i64 y_1, .agg #[.int .i64 d_2_0, .int .i64 d_2_1], .pointer (some c_0), .pointer (some c_1), .pointer (some c_2), .pointer (some c_3)] h K := by kernel_rfl

theorem g_lattice_grid_f1.ok : OkFn Try.prog 61 g_lattice_grid_f1.c ∧ MonoC g_lattice_grid_f1.c := by
  refine xfnD_okm (an := .z) wide_ok (OkTab.cons g_lattice_step.ok (by kernel_rfl) (OkTab.nil _)) Try.func61 (fun vs h K hk => ?_) (fun vs h K K' hk => ?_)
  · unfold g_lattice_grid_f1.c at hk
    split at hk
    · rename_i x_0 y_1 d_2_0 d_2_1 c_0 c_1 c_2 c_3
      exact ⟨_, hk, Nat.le_of_ble_eq_true rfl, g_lattice_grid_f1.x x_0 y_1 d_2_0 d_2_1 c_0 c_1 c_2 c_3 h K⟩
    · exact hk.elim
  · unfold g_lattice_grid_f1.c at hk ⊢
    split at hk
    · rename_i x_0 y_1 d_2_0 d_2_1 c_0 c_1 c_2 c_3
      exact ⟨_, id, g_lattice_grid_f1.x x_0 y_1 d_2_0 d_2_1 c_0 c_1 c_2 c_3 h K'⟩
    · exact hk.elim

abbrev g_lattice_grid.c : CT := fun vs h K => match vs with
  | [.int .i64 x_0, .int .i64 x_1, .bool x_2, .bool x_3, .slice x_4_a x_4_n x_4_c] => g_lattice_grid x_0 x_1 x_2 x_3 (⟨x_4_a, x_4_n, x_4_c⟩ : Sl) h (fun r0 r1 r2 h => K (.tuple #[.int .i64 r0, .slice r1.a r1.n r1.c, .int .i64 r2]) h)
  | _ => False

theorem g_lattice_grid.x (x_0 : Int) (x_1 : Int) (x_2 : Bool) (x_3 : Bool) (x_4 : Sl) (h : Hp) (K : Value → Hp → Prop) : (g_lattice_grid x_0 x_1 x_2 x_3 x_4 h (fun r0 r1 r2 h => K (.tuple #[.int .i64 r0, .slice r1.a r1.n r1.c, .int .i64 r2]) h)) = xfnD Try.prog [(47, g_lattice_check.c), (61, g_lattice_grid_f1.c)] Try.f60 (.sq .z (.sq .z (.sq .z (.sq (.sq .z (.bl (.lp (.sq .z (.sq .z (.sq (.bl (.sq .z (.sq .z (.bl (.lp (.sq .z (.sq .z (.sq (.bl (.sq .z (.sq .z (.bl (.lp .z [(11, .sc .slice), (38, .sc (.int .i64))])) none) none)) .z none) none) none) [(11, .sc .slice), (33, .sc (.int .i64))])) none) none)) .z none) none) none) [(11, .sc .slice), (29, .sc (.int .i64))])) none) .z (some [(11, .sc .slice)])) none) none) none) [.int .i64 x_0, .int .i64 x_1, .bool x_2, .bool x_3, .slice x_4.a x_4.n x_4.c] h K := by kernel_rfl

theorem g_lattice_grid.ok : OkFn Try.prog 60 g_lattice_grid.c ∧ MonoC g_lattice_grid.c := by
  refine xfnD_okm (an := (.sq .z (.sq .z (.sq .z (.sq (.sq .z (.bl (.lp (.sq .z (.sq .z (.sq (.bl (.sq .z (.sq .z (.bl (.lp (.sq .z (.sq .z (.sq (.bl (.sq .z (.sq .z (.bl (.lp .z [(11, .sc .slice), (38, .sc (.int .i64))])) none) none)) .z none) none) none) [(11, .sc .slice), (33, .sc (.int .i64))])) none) none)) .z none) none) none) [(11, .sc .slice), (29, .sc (.int .i64))])) none) .z (some [(11, .sc .slice)])) none) none) none)) wide_ok (OkTab.cons g_lattice_check.ok (by kernel_rfl) (OkTab.cons g_lattice_grid_f1.ok (by kernel_rfl) (OkTab.nil _))) Try.func60 (fun vs h K hk => ?_) (fun vs h K K' hk => ?_)
  · unfold g_lattice_grid.c at hk
    split at hk
    · rename_i x_0 x_1 x_2 x_3 x_4_a x_4_n x_4_c
      exact ⟨_, hk, Nat.le_of_ble_eq_true rfl, g_lattice_grid.x x_0 x_1 x_2 x_3 (⟨x_4_a, x_4_n, x_4_c⟩ : Sl) h K⟩
    · exact hk.elim
  · unfold g_lattice_grid.c at hk ⊢
    split at hk
    · rename_i x_0 x_1 x_2 x_3 x_4_a x_4_n x_4_c
      exact ⟨_, id, g_lattice_grid.x x_0 x_1 x_2 x_3 (⟨x_4_a, x_4_n, x_4_c⟩ : Sl) h K'⟩
    · exact hk.elim

abbrev g_lattice_Triangular.c : CT := fun vs h K => match vs with
  | [.int .i64 w_0, .int .i64 h_1, .bool wrapX_2, .bool wrapY_3] => g_lattice_Triangular w_0 h_1 wrapX_2 wrapY_3 h (fun r0 r1 r2 h => K (.tuple #[.int .i64 r0, .slice r1.a r1.n r1.c, .int .i64 r2]) h)
  | _ => False

theorem g_lattice_Triangular.x (w_0 : Int) (h_1 : Int) (wrapX_2 : Bool) (wrapY_3 : Bool) (h : Hp) (K : Value → Hp → Prop) : (g_lattice_Triangular w_0 h_1 wrapX_2 wrapY_3 h (fun r0 r1 r2 h => K (.tuple #[.int .i64 r0, .slice r1.a r1.n r1.c, .int .i64 r2]) h)) = xfnD Try.prog [(60, g_lattice_grid.c)] Try.f49 .z [.int .i64 w_0, .int .i64 h_1, .bool wrapX_2, .bool wrapY_3] h K := by kernel_rfl

theorem g_lattice_Triangular.ok : OkFn Try.prog 49 g_lattice_Triangular.c ∧ MonoC g_lattice_Triangular.c := by
  refine xfnD_okm (an := .z) wide_ok (OkTab.cons g_lattice_grid.ok (by kernel_rfl) (OkTab.nil _)) Try.func49 (fun vs h K hk => ?_) (fun vs h K K' hk => ?_)
  · unfold g_lattice_Triangular.c at hk
    split at hk
    · rename_i w_0 h_1 wrapX_2 wrapY_3
      exact ⟨_, hk, Nat.le_of_ble_eq_true rfl, g_lattice_Triangular.x w_0 h_1 wrapX_2 wrapY_3 h K⟩
    · exact hk.elim
  · unfold g_lattice_Triangular.c at hk ⊢
    split at hk
    · rename_i w_0 h_1 wrapX_2 wrapY_3
      exact ⟨_, id, g_lattice_Triangular.x w_0 h_1 wrapX_2 wrapY_3 h K'⟩
    · exact hk.elim

abbrev g_lattice_Tree.c : CT := fun vs h K => match vs with
  | [.int .i64 children_0, .int .i64 depth_1] => g_lattice_Tree children_0 depth_1 h (fun r0 r1 r2 h => K (.tuple #[.int .i64 r0, .slice r1.a r1.n r1.c, .int .i64 r2]) h)
  | _ => False

theorem g_lattice_Tree.x (children_0 : Int) (depth_1 : Int) (h : Hp) (K : Value → Hp → Prop) : (g_lattice_Tree children_0 depth_1 h (fun r0 r1 r2 h => K (.tuple #[.int .i64 r0, .slice r1.a r1.n r1.c, .int .i64 r2]) h)) = xfnD Try.prog [] Try.f50 (.sq .z (.sq .z (.sq .z (.sq (.sq .z (.bl (.lp .z [(1, .sc (.int .i64)), (4, .sc (.int .i64)), (5, .sc .slice), (7, .sc (.int .i64))])) none) (.sq (.sq .z (.bl (.lp .z [(5, .sc .slice), (8, .sc (.int .i64))])) none) .z (some [(5, .sc .slice)])) (some [(4, .sc (.int .i64)), (5, .sc .slice)])) none) none) none) [.int .i64 children_0, .int .i64 depth_1] h K := by kernel_rfl

theorem g_lattice_Tree.ok : OkFn Try.prog 50 g_lattice_Tree.c ∧ MonoC g_lattice_Tree.c := by
  refine xfnD_okm (an := (.sq .z (.sq .z (.sq .z (.sq (.sq .z (.bl (.lp .z [(1, .sc (.int .i64)), (4, .sc (.int .i64)), (5, .sc .slice), (7, .sc (.int .i64))])) none) (.sq (.sq .z (.bl (.lp .z [(5, .sc .slice), (8, .sc (.int .i64))])) none) .z (some [(5, .sc .slice)])) (some [(4, .sc (.int .i64)), (5, .sc .slice)])) none) none) none)) wide_ok (OkTab.nil _) Try.func50 (fun vs h K hk => ?_) (fun vs h K K' hk => ?_)
  · unfold g_lattice_Tree.c at hk
    split at hk
    · rename_i children_0 depth_1
      exact ⟨_, hk, Nat.le_of_ble_eq_true rfl, g_lattice_Tree.x children_0 depth_1 h K⟩
    · exact hk.elim
  · unfold g_lattice_Tree.c at hk ⊢
    split at hk
    · rename_i children_0 depth_1
      exact ⟨_, id, g_lattice_Tree.x children_0 depth_1 h K'⟩
    · exact hk.elim

abbrev g_law29_same.c : CT := fun vs h K => match vs with
  | [.slice a_0_a a_0_n a_0_c, .slice b_1_a b_1_n b_1_c] => g_law29_same (⟨a_0_a, a_0_n, a_0_c⟩ : Sl) (⟨b_1_a, b_1_n, b_1_c⟩ : Sl) h (fun r0 h => K (.bool r0) h)
  | _ => False

theorem g_law29_same.x (a_0 : Sl) (b_1 : Sl) (h : Hp) (K : Value → Hp → Prop) : (g_law29_same a_0 b_1 h (fun r0 h => K (.bool r0) h)) = xfnD Try.prog [] Try.f27 (.sq .z (.sq .z (.sq (.sq .z (.bl (.lp .z [(5, .sc (.int .i64))])) none) .z none) none) none) [.slice a_0.a a_0.n a_0.c, .slice b_1.a b_1.n b_1.c] h K := by kernel_rfl

theorem g_law29_same.ok : OkFn Try.prog 27 g_law29_same.c ∧ MonoC g_law29_same.c := by
  refine xfnD_okm (an := (.sq .z (.sq .z (.sq (.sq .z (.bl (.lp .z [(5, .sc (.int .i64))])) none) .z none) none) none)) wide_ok (OkTab.nil _) Try.func27 (fun vs h K hk => ?_) (fun vs h K K' hk => ?_)
  · unfold g_law29_same.c at hk
    split at hk
    · rename_i a_0_a a_0_n a_0_c b_1_a b_1_n b_1_c
      exact ⟨_, hk, Nat.le_of_ble_eq_true rfl, g_law29_same.x (⟨a_0_a, a_0_n, a_0_c⟩ : Sl) (⟨b_1_a, b_1_n, b_1_c⟩ : Sl) h K⟩
    · exact hk.elim
  · unfold g_law29_same.c at hk ⊢
    split at hk
    · rename_i a_0_a a_0_n a_0_c b_1_a b_1_n b_1_c
      exact ⟨_, id, g_law29_same.x (⟨a_0_a, a_0_n, a_0_c⟩ : Sl) (⟨b_1_a, b_1_n, b_1_c⟩ : Sl) h K'⟩
    · exact hk.elim

abbrev g_law29_works.c : CT := fun vs h K => match vs with
  | [] => g_law29_works h (fun r0 h => K (.bool r0) h)
  | _ => False

theorem g_law29_works.x (h : Hp) (K : Value → Hp → Prop) : (g_law29_works h (fun r0 h => K (.bool r0) h)) = xfnD Try.prog [(49, g_lattice_Triangular.c), (50, g_lattice_Tree.c), (19, g_lattice_At.c), (27, g_law29_same.c)] Try.f23 .z [] h K := by kernel_rfl

theorem g_law29_works.ok : OkFn Try.prog 23 g_law29_works.c ∧ MonoC g_law29_works.c := by
  refine xfnD_okm (an := .z) wide_ok (OkTab.cons g_lattice_Triangular.ok (by kernel_rfl) (OkTab.cons g_lattice_Tree.ok (by kernel_rfl) (OkTab.cons g_lattice_At.ok (by kernel_rfl) (OkTab.cons g_law29_same.ok (by kernel_rfl) (OkTab.nil _))))) Try.func23 (fun vs h K hk => ?_) (fun vs h K K' hk => ?_)
  · unfold g_law29_works.c at hk
    split at hk
    · exact ⟨_, hk, Nat.le_of_ble_eq_true rfl, g_law29_works.x  h K⟩
    · exact hk.elim
  · unfold g_law29_works.c at hk ⊢
    split at hk
    · exact ⟨_, id, g_law29_works.x  h K'⟩
    · exact hk.elim

abbrev g_law29_LatticePlaces.c : CT := fun vs h K => match vs with
  | [.int .i64 x_0, .int .i64 x_1, .int .i64 x_2, .int .i64 x_3, .int .i64 x_4] => g_law29_LatticePlaces x_0 x_1 x_2 x_3 x_4 h (fun r0 h => K (.bool r0) h)
  | _ => False

theorem g_law29_LatticePlaces.x (x_0 : Int) (x_1 : Int) (x_2 : Int) (x_3 : Int) (x_4 : Int) (h : Hp) (K : Value → Hp → Prop) : (g_law29_LatticePlaces x_0 x_1 x_2 x_3 x_4 h (fun r0 h => K (.bool r0) h)) = xfnD Try.prog [(19, g_lattice_At.c), (20, g_ref29_At.c), (21, g_lattice_Place.c), (22, g_ref29_Place.c), (23, g_law29_works.c)] Try.f4 .z [.int .i64 x_0, .int .i64 x_1, .int .i64 x_2, .int .i64 x_3, .int .i64 x_4] h K := by kernel_rfl

theorem g_law29_LatticePlaces.ok : OkFn Try.prog 4 g_law29_LatticePlaces.c ∧ MonoC g_law29_LatticePlaces.c := by
  refine xfnD_okm (an := .z) wide_ok (OkTab.cons g_lattice_At.ok (by kernel_rfl) (OkTab.cons g_ref29_At.ok (by kernel_rfl) (OkTab.cons g_lattice_Place.ok (by kernel_rfl) (OkTab.cons g_ref29_Place.ok (by kernel_rfl) (OkTab.cons g_law29_works.ok (by kernel_rfl) (OkTab.nil _)))))) Try.func4 (fun vs h K hk => ?_) (fun vs h K K' hk => ?_)
  · unfold g_law29_LatticePlaces.c at hk
    split at hk
    · rename_i x_0 x_1 x_2 x_3 x_4
      exact ⟨_, hk, Nat.le_of_ble_eq_true rfl, g_law29_LatticePlaces.x x_0 x_1 x_2 x_3 x_4 h K⟩
    · exact hk.elim
  · unfold g_law29_LatticePlaces.c at hk ⊢
    split at hk
    · rename_i x_0 x_1 x_2 x_3 x_4
      exact ⟨_, id, g_law29_LatticePlaces.x x_0 x_1 x_2 x_3 x_4 h K'⟩
    · exact hk.elim

abbrev g_law29_sides.c : CT := fun vs h K => match vs with
  | [.int .u8 a_0, .int .u8 b_1] => g_law29_sides a_0 b_1 h (fun r0 r1 h => K (.tuple #[.int .i64 r0, .int .i64 r1]) h)
  | _ => False

theorem g_law29_sides.x (a_0 : Int) (b_1 : Int) (h : Hp) (K : Value → Hp → Prop) : (g_law29_sides a_0 b_1 h (fun r0 r1 h => K (.tuple #[.int .i64 r0, .int .i64 r1]) h)) = xfnD Try.prog [] Try.f24 .z [.int .u8 a_0, .int .u8 b_1] h K := by kernel_rfl

theorem g_law29_sides.ok : OkFn Try.prog 24 g_law29_sides.c ∧ MonoC g_law29_sides.c := by
  refine xfnD_okm (an := .z) wide_ok (OkTab.nil _) Try.func24 (fun vs h K hk => ?_) (fun vs h K K' hk => ?_)
  · unfold g_law29_sides.c at hk
    split at hk
    · rename_i a_0 b_1
      exact ⟨_, hk, Nat.le_of_ble_eq_true rfl, g_law29_sides.x a_0 b_1 h K⟩
    · exact hk.elim
  · unfold g_law29_sides.c at hk ⊢
    split at hk
    · rename_i a_0 b_1
      exact ⟨_, id, g_law29_sides.x a_0 b_1 h K'⟩
    · exact hk.elim

abbrev g_law29_LatticeReturns.c : CT := fun vs h K => match vs with
  | [.int .u8 a_0, .int .u8 b_1, .int .u16 v_2] => g_law29_LatticeReturns a_0 b_1 v_2 h (fun r0 h => K (.bool r0) h)
  | _ => False

theorem g_law29_LatticeReturns.x (a_0 : Int) (b_1 : Int) (v_2 : Int) (h : Hp) (K : Value → Hp → Prop) : (g_law29_LatticeReturns a_0 b_1 v_2 h (fun r0 h => K (.bool r0) h)) = xfnD Try.prog [(24, g_law29_sides.c), (21, g_lattice_Place.c), (19, g_lattice_At.c), (23, g_law29_works.c)] Try.f5 .z [.int .u8 a_0, .int .u8 b_1, .int .u16 v_2] h K := by kernel_rfl

theorem g_law29_LatticeReturns.ok : OkFn Try.prog 5 g_law29_LatticeReturns.c ∧ MonoC g_law29_LatticeReturns.c := by
  refine xfnD_okm (an := .z) wide_ok (OkTab.cons g_law29_sides.ok (by kernel_rfl) (OkTab.cons g_lattice_Place.ok (by kernel_rfl) (OkTab.cons g_lattice_At.ok (by kernel_rfl) (OkTab.cons g_law29_works.ok (by kernel_rfl) (OkTab.nil _))))) Try.func5 (fun vs h K hk => ?_) (fun vs h K K' hk => ?_)
  · unfold g_law29_LatticeReturns.c at hk
    split at hk
    · rename_i a_0 b_1 v_2
      exact ⟨_, hk, Nat.le_of_ble_eq_true rfl, g_law29_LatticeReturns.x a_0 b_1 v_2 h K⟩
    · exact hk.elim
  · unfold g_law29_LatticeReturns.c at hk ⊢
    split at hk
    · rename_i a_0 b_1 v_2
      exact ⟨_, id, g_law29_LatticeReturns.x a_0 b_1 v_2 h K'⟩
    · exact hk.elim

abbrev g_lattice_Weights.c : CT := fun vs h K => match vs with
  | [.slice l_0_a l_0_n l_0_c, .slice w_1_a w_1_n w_1_c] => g_lattice_Weights (⟨l_0_a, l_0_n, l_0_c⟩ : Sl) (⟨w_1_a, w_1_n, w_1_c⟩ : Sl) h (fun r0 r1 h => K (.tuple #[.slice r0.a r0.n r0.c, .int .i64 r1]) h)
  | _ => False

theorem g_lattice_Weights.x (l_0 : Sl) (w_1 : Sl) (h : Hp) (K : Value → Hp → Prop) : (g_lattice_Weights l_0 w_1 h (fun r0 r1 h => K (.tuple #[.slice r0.a r0.n r0.c, .int .i64 r1]) h)) = xfnD Try.prog [] Try.f25 (.sq .z (.sq .z (.sq .z (.sq (.sq .z (.bl (.lp .z [(19, .sc (.int .i64))])) none) .z none) none) none) none) [.slice l_0.a l_0.n l_0.c, .slice w_1.a w_1.n w_1.c] h K := by kernel_rfl

theorem g_lattice_Weights.ok : OkFn Try.prog 25 g_lattice_Weights.c ∧ MonoC g_lattice_Weights.c := by
  refine xfnD_okm (an := (.sq .z (.sq .z (.sq .z (.sq (.sq .z (.bl (.lp .z [(19, .sc (.int .i64))])) none) .z none) none) none) none)) wide_ok (OkTab.nil _) Try.func25 (fun vs h K hk => ?_) (fun vs h K K' hk => ?_)
  · unfold g_lattice_Weights.c at hk
    split at hk
    · rename_i l_0_a l_0_n l_0_c w_1_a w_1_n w_1_c
      exact ⟨_, hk, Nat.le_of_ble_eq_true rfl, g_lattice_Weights.x (⟨l_0_a, l_0_n, l_0_c⟩ : Sl) (⟨w_1_a, w_1_n, w_1_c⟩ : Sl) h K⟩
    · exact hk.elim
  · unfold g_lattice_Weights.c at hk ⊢
    split at hk
    · rename_i l_0_a l_0_n l_0_c w_1_a w_1_n w_1_c
      exact ⟨_, id, g_lattice_Weights.x (⟨l_0_a, l_0_n, l_0_c⟩ : Sl) (⟨w_1_a, w_1_n, w_1_c⟩ : Sl) h K'⟩
    · exact hk.elim

abbrev g_ref29_Weights.c : CT := fun vs h K => match vs with
  | [.slice l_0_a l_0_n l_0_c, .slice w_1_a w_1_n w_1_c] => g_ref29_Weights (⟨l_0_a, l_0_n, l_0_c⟩ : Sl) (⟨w_1_a, w_1_n, w_1_c⟩ : Sl) h (fun r0 r1 h => K (.tuple #[.slice r0.a r0.n r0.c, .int .i64 r1]) h)
  | _ => False

theorem g_ref29_Weights.x (l_0 : Sl) (w_1 : Sl) (h : Hp) (K : Value → Hp → Prop) : (g_ref29_Weights l_0 w_1 h (fun r0 r1 h => K (.tuple #[.slice r0.a r0.n r0.c, .int .i64 r1]) h)) = xfnD Try.prog [] Try.f26 (.sq .z (.sq .z (.sq .z (.sq (.sq .z (.bl (.lp .z [(6, .sc .slice), (7, .sc (.int .i64))])) none) .z none) none) none) none) [.slice l_0.a l_0.n l_0.c, .slice w_1.a w_1.n w_1.c] h K := by kernel_rfl

theorem g_ref29_Weights.ok : OkFn Try.prog 26 g_ref29_Weights.c ∧ MonoC g_ref29_Weights.c := by
  refine xfnD_okm (an := (.sq .z (.sq .z (.sq .z (.sq (.sq .z (.bl (.lp .z [(6, .sc .slice), (7, .sc (.int .i64))])) none) .z none) none) none) none)) wide_ok (OkTab.nil _) Try.func26 (fun vs h K hk => ?_) (fun vs h K K' hk => ?_)
  · unfold g_ref29_Weights.c at hk
    split at hk
    · rename_i l_0_a l_0_n l_0_c w_1_a w_1_n w_1_c
      exact ⟨_, hk, Nat.le_of_ble_eq_true rfl, g_ref29_Weights.x (⟨l_0_a, l_0_n, l_0_c⟩ : Sl) (⟨w_1_a, w_1_n, w_1_c⟩ : Sl) h K⟩
    · exact hk.elim
  · unfold g_ref29_Weights.c at hk ⊢
    split at hk
    · rename_i l_0_a l_0_n l_0_c w_1_a w_1_n w_1_c
      exact ⟨_, id, g_ref29_Weights.x (⟨l_0_a, l_0_n, l_0_c⟩ : Sl) (⟨w_1_a, w_1_n, w_1_c⟩ : Sl) h K'⟩
    · exact hk.elim

abbrev g_law29_LatticeWeighs.c : CT := fun vs h K => match vs with
  | [.slice x_0_a x_0_n x_0_c, .slice x_1_a x_1_n x_1_c] => g_law29_LatticeWeighs (⟨x_0_a, x_0_n, x_0_c⟩ : Sl) (⟨x_1_a, x_1_n, x_1_c⟩ : Sl) h (fun r0 h => K (.bool r0) h)
  | _ => False

theorem g_law29_LatticeWeighs.x (x_0 : Sl) (x_1 : Sl) (h : Hp) (K : Value → Hp → Prop) : (g_law29_LatticeWeighs x_0 x_1 h (fun r0 h => K (.bool r0) h)) = xfnD Try.prog [(23, g_law29_works.c), (25, g_lattice_Weights.c), (26, g_ref29_Weights.c), (27, g_law29_same.c)] Try.f6 (.sq .z (.sq .z (.sq .z (.sq .z (.sq .z (.sq (.sq .z (.bl (.lp .z [(11, .sc (.int .i64))])) none) .z (some [])) none) none) none) none) none) [.slice x_0.a x_0.n x_0.c, .slice x_1.a x_1.n x_1.c] h K := by kernel_rfl

theorem g_law29_LatticeWeighs.ok : OkFn Try.prog 6 g_law29_LatticeWeighs.c ∧ MonoC g_law29_LatticeWeighs.c := by
  refine xfnD_okm (an := (.sq .z (.sq .z (.sq .z (.sq .z (.sq .z (.sq (.sq .z (.bl (.lp .z [(11, .sc (.int .i64))])) none) .z (some [])) none) none) none) none) none)) wide_ok (OkTab.cons g_law29_works.ok (by kernel_rfl) (OkTab.cons g_lattice_Weights.ok (by kernel_rfl) (OkTab.cons g_ref29_Weights.ok (by kernel_rfl) (OkTab.cons g_law29_same.ok (by kernel_rfl) (OkTab.nil _))))) Try.func6 (fun vs h K hk => ?_) (fun vs h K K' hk => ?_)
  · unfold g_law29_LatticeWeighs.c at hk
    split at hk
    · rename_i x_0_a x_0_n x_0_c x_1_a x_1_n x_1_c
      exact ⟨_, hk, Nat.le_of_ble_eq_true rfl, g_law29_LatticeWeighs.x (⟨x_0_a, x_0_n, x_0_c⟩ : Sl) (⟨x_1_a, x_1_n, x_1_c⟩ : Sl) h K⟩
    · exact hk.elim
  · unfold g_law29_LatticeWeighs.c at hk ⊢
    split at hk
    · rename_i x_0_a x_0_n x_0_c x_1_a x_1_n x_1_c
      exact ⟨_, id, g_law29_LatticeWeighs.x (⟨x_0_a, x_0_n, x_0_c⟩ : Sl) (⟨x_1_a, x_1_n, x_1_c⟩ : Sl) h K'⟩
    · exact hk.elim

abbrev g_lattice_Complete.c : CT := fun vs h K => match vs with
  | [.int .i64 n_0] => g_lattice_Complete n_0 h (fun r0 r1 h => K (.tuple #[.slice r0.a r0.n r0.c, .int .i64 r1]) h)
  | _ => False

theorem g_lattice_Complete.x (n_0 : Int) (h : Hp) (K : Value → Hp → Prop) : (g_lattice_Complete n_0 h (fun r0 r1 h => K (.tuple #[.slice r0.a r0.n r0.c, .int .i64 r1]) h)) = xfnD Try.prog [] Try.f28 (.sq .z (.sq (.bl (.sq .z .z (some [(6, .sc .bool)]))) (.sq (.sq .z (.bl (.lp (.sq .z (.sq .z (.sq (.bl (.sq .z (.sq .z (.bl (.lp .z [(2, .sc .slice), (5, .sc (.int .i64))])) none) none)) .z none) none) none) [(2, .sc .slice), (21, .sc (.int .i64))])) none) .z none) none) none) [.int .i64 n_0] h K := by kernel_rfl

theorem g_lattice_Complete.ok : OkFn Try.prog 28 g_lattice_Complete.c ∧ MonoC g_lattice_Complete.c := by
  refine xfnD_okm (an := (.sq .z (.sq (.bl (.sq .z .z (some [(6, .sc .bool)]))) (.sq (.sq .z (.bl (.lp (.sq .z (.sq .z (.sq (.bl (.sq .z (.sq .z (.bl (.lp .z [(2, .sc .slice), (5, .sc (.int .i64))])) none) none)) .z none) none) none) [(2, .sc .slice), (21, .sc (.int .i64))])) none) .z none) none) none)) wide_ok (OkTab.nil _) Try.func28 (fun vs h K hk => ?_) (fun vs h K K' hk => ?_)
  · unfold g_lattice_Complete.c at hk
    split at hk
    · rename_i n_0
      exact ⟨_, hk, Nat.le_of_ble_eq_true rfl, g_lattice_Complete.x n_0 h K⟩
    · exact hk.elim
  · unfold g_lattice_Complete.c at hk ⊢
    split at hk
    · rename_i n_0
      exact ⟨_, id, g_lattice_Complete.x n_0 h K'⟩
    · exact hk.elim

abbrev g_ref29_Complete.c : CT := fun vs h K => match vs with
  | [.int .i64 n_0] => g_ref29_Complete n_0 h (fun r0 r1 h => K (.tuple #[.slice r0.a r0.n r0.c, .int .i64 r1]) h)
  | _ => False

theorem g_ref29_Complete.x (n_0 : Int) (h : Hp) (K : Value → Hp → Prop) : (g_ref29_Complete n_0 h (fun r0 r1 h => K (.tuple #[.slice r0.a r0.n r0.c, .int .i64 r1]) h)) = xfnD Try.prog [] Try.f29 (.sq .z (.sq .z (.sq .z (.sq .z (.sq (.sq .z (.bl (.lp (.sq .z (.sq (.bl (.sq .z (.bl (.lp .z [(4, .sc .slice), (6, .sc (.int .i64))])) none)) .z none) none) [(4, .sc .slice), (5, .sc (.int .i64))])) none) .z none) none) none) none) none) [.int .i64 n_0] h K := by kernel_rfl

theorem g_ref29_Complete.ok : OkFn Try.prog 29 g_ref29_Complete.c ∧ MonoC g_ref29_Complete.c := by
  refine xfnD_okm (an := (.sq .z (.sq .z (.sq .z (.sq .z (.sq (.sq .z (.bl (.lp (.sq .z (.sq (.bl (.sq .z (.bl (.lp .z [(4, .sc .slice), (6, .sc (.int .i64))])) none)) .z none) none) [(4, .sc .slice), (5, .sc (.int .i64))])) none) .z none) none) none) none) none)) wide_ok (OkTab.nil _) Try.func29 (fun vs h K hk => ?_) (fun vs h K K' hk => ?_)
  · unfold g_ref29_Complete.c at hk
    split at hk
    · rename_i n_0
      exact ⟨_, hk, Nat.le_of_ble_eq_true rfl, g_ref29_Complete.x n_0 h K⟩
    · exact hk.elim
  · unfold g_ref29_Complete.c at hk ⊢
    split at hk
    · rename_i n_0
      exact ⟨_, id, g_ref29_Complete.x n_0 h K'⟩
    · exact hk.elim

abbrev g_law29_LatticeCompletes.c : CT := fun vs h K => match vs with
  | [.int .i64 n_0] => g_law29_LatticeCompletes n_0 h (fun r0 h => K (.bool r0) h)
  | _ => False

theorem g_law29_LatticeCompletes.x (n_0 : Int) (h : Hp) (K : Value → Hp → Prop) : (g_law29_LatticeCompletes n_0 h (fun r0 h => K (.bool r0) h)) = xfnD Try.prog [(28, g_lattice_Complete.c), (29, g_ref29_Complete.c), (27, g_law29_same.c), (23, g_law29_works.c)] Try.f7 .z [.int .i64 n_0] h K := by kernel_rfl

theorem g_law29_LatticeCompletes.ok : OkFn Try.prog 7 g_law29_LatticeCompletes.c ∧ MonoC g_law29_LatticeCompletes.c := by
  refine xfnD_okm (an := .z) wide_ok (OkTab.cons g_lattice_Complete.ok (by kernel_rfl) (OkTab.cons g_ref29_Complete.ok (by kernel_rfl) (OkTab.cons g_law29_same.ok (by kernel_rfl) (OkTab.cons g_law29_works.ok (by kernel_rfl) (OkTab.nil _))))) Try.func7 (fun vs h K hk => ?_) (fun vs h K K' hk => ?_)
  · unfold g_law29_LatticeCompletes.c at hk
    split at hk
    · rename_i n_0
      exact ⟨_, hk, Nat.le_of_ble_eq_true rfl, g_law29_LatticeCompletes.x n_0 h K⟩
    · exact hk.elim
  · unfold g_law29_LatticeCompletes.c at hk ⊢
    split at hk
    · rename_i n_0
      exact ⟨_, id, g_law29_LatticeCompletes.x n_0 h K'⟩
    · exact hk.elim

abbrev g_law08_small.c : CT := fun vs h K => match vs with
  | [.int .i64 n_0, .slice l_1_a l_1_n l_1_c] => g_law08_small n_0 (⟨l_1_a, l_1_n, l_1_c⟩ : Sl) h (fun r0 h => K (.bool r0) h)
  | _ => False

theorem g_law08_small.x (n_0 : Int) (l_1 : Sl) (h : Hp) (K : Value → Hp → Prop) : (g_law08_small n_0 l_1 h (fun r0 h => K (.bool r0) h)) = xfnD Try.prog [] Try.f30 .z [.int .i64 n_0, .slice l_1.a l_1.n l_1.c] h K := by kernel_rfl

theorem g_law08_small.ok : OkFn Try.prog 30 g_law08_small.c ∧ MonoC g_law08_small.c := by
  refine xfnD_okm (an := .z) wide_ok (OkTab.nil _) Try.func30 (fun vs h K hk => ?_) (fun vs h K K' hk => ?_)
  · unfold g_law08_small.c at hk
    split at hk
    · rename_i n_0 l_1_a l_1_n l_1_c
      exact ⟨_, hk, Nat.le_of_ble_eq_true rfl, g_law08_small.x n_0 (⟨l_1_a, l_1_n, l_1_c⟩ : Sl) h K⟩
    · exact hk.elim
  · unfold g_law08_small.c at hk ⊢
    split at hk
    · rename_i n_0 l_1_a l_1_n l_1_c
      exact ⟨_, id, g_law08_small.x n_0 (⟨l_1_a, l_1_n, l_1_c⟩ : Sl) h K'⟩
    · exact hk.elim

abbrev g_dsu_Sets_Len.c : CT := fun vs h K => match vs with
  | [.pointer s_0] => g_dsu_Sets_Len s_0 h (fun r0 h => K (.int .i64 r0) h)
  | _ => False

theorem g_dsu_Sets_Len.x (s_0 : Option Addr) (h : Hp) (K : Value → Hp → Prop) : (g_dsu_Sets_Len s_0 h (fun r0 h => K (.int .i64 r0) h)) = xfnD Try.prog [] Try.f39 .z [.pointer s_0] h K := by kernel_rfl

theorem g_dsu_Sets_Len.ok : OkFn Try.prog 39 g_dsu_Sets_Len.c ∧ MonoC g_dsu_Sets_Len.c := by
  refine xfnD_okm (an := .z) wide_ok (OkTab.nil _) Try.func39 (fun vs h K hk => ?_) (fun vs h K K' hk => ?_)
  · unfold g_dsu_Sets_Len.c at hk
    split at hk
    · rename_i s_0
      exact ⟨_, hk, Nat.le_of_ble_eq_true rfl, g_dsu_Sets_Len.x s_0 h K⟩
    · exact hk.elim
  · unfold g_dsu_Sets_Len.c at hk ⊢
    split at hk
    · rename_i s_0
      exact ⟨_, id, g_dsu_Sets_Len.x s_0 h K'⟩
    · exact hk.elim

abbrev g_dsu_Sets_Labels.c : CT := fun vs h K => match vs with
  | [.pointer s_0] => g_dsu_Sets_Labels s_0 h (fun r0 h => K (.slice r0.a r0.n r0.c) h)
  | _ => False

theorem g_dsu_Sets_Labels.x (s_0 : Option Addr) (h : Hp) (K : Value → Hp → Prop) : (g_dsu_Sets_Labels s_0 h (fun r0 h => K (.slice r0.a r0.n r0.c) h)) = xfnD Try.prog [(39, g_dsu_Sets_Len.c), (46, g_dsu_Sets_root.c)] Try.f31 (.sq .z (.sq .z (.sq .z (.sq .z (.sq (.sq .z (.bl (.lp .z [(13, .sc (.int .i64))])) none) .z none) none) none) none) none) [.pointer s_0] h K := by kernel_rfl

theorem g_dsu_Sets_Labels.ok : OkFn Try.prog 31 g_dsu_Sets_Labels.c ∧ MonoC g_dsu_Sets_Labels.c := by
  refine xfnD_okm (an := (.sq .z (.sq .z (.sq .z (.sq .z (.sq (.sq .z (.bl (.lp .z [(13, .sc (.int .i64))])) none) .z none) none) none) none) none)) wide_ok (OkTab.cons g_dsu_Sets_Len.ok (by kernel_rfl) (OkTab.cons g_dsu_Sets_root.ok (by kernel_rfl) (OkTab.nil _))) Try.func31 (fun vs h K hk => ?_) (fun vs h K K' hk => ?_)
  · unfold g_dsu_Sets_Labels.c at hk
    split at hk
    · rename_i s_0
      exact ⟨_, hk, Nat.le_of_ble_eq_true rfl, g_dsu_Sets_Labels.x s_0 h K⟩
    · exact hk.elim
  · unfold g_dsu_Sets_Labels.c at hk ⊢
    split at hk
    · rename_i s_0
      exact ⟨_, id, g_dsu_Sets_Labels.x s_0 h K'⟩
    · exact hk.elim

abbrev g_law08_DsuLabels.c : CT := fun vs h K => match vs with
  | [.int .i64 x_0, .slice x_1_a x_1_n x_1_c] => g_law08_DsuLabels x_0 (⟨x_1_a, x_1_n, x_1_c⟩ : Sl) h (fun r0 h => K (.bool r0) h)
  | _ => False

theorem g_law08_DsuLabels.x (x_0 : Int) (x_1 : Sl) (h : Hp) (K : Value → Hp → Prop) : (g_law08_DsuLabels x_0 x_1 h (fun r0 h => K (.bool r0) h)) = xfnD Try.prog [(30, g_law08_small.c), (15, g_law08_works.c), (16, g_law08_united.c), (31, g_dsu_Sets_Labels.c), (32, g_dsu_Sets_Least.c), (17, g_dsu_Sets_Same.c)] Try.f8 (.sq .z (.sq .z (.sq .z (.sq .z (.sq .z (.sq .z (.sq (.sq .z (.bl (.lp (.sq .z (.sq (.bl (.sq .z (.sq .z (.sq .z (.bl (.lp .z [(10, .sc (.int .i64))])) none) none) none)) .z none) none) [(7, .sc (.int .i64))])) none) .z none) none) none) none) none) none) none) [.int .i64 x_0, .slice x_1.a x_1.n x_1.c] h K := by kernel_rfl

theorem g_law08_DsuLabels.ok : OkFn Try.prog 8 g_law08_DsuLabels.c ∧ MonoC g_law08_DsuLabels.c := by
  refine xfnD_okm (an := (.sq .z (.sq .z (.sq .z (.sq .z (.sq .z (.sq .z (.sq (.sq .z (.bl (.lp (.sq .z (.sq (.bl (.sq .z (.sq .z (.sq .z (.bl (.lp .z [(10, .sc (.int .i64))])) none) none) none)) .z none) none) [(7, .sc (.int .i64))])) none) .z none) none) none) none) none) none) none)) wide_ok (OkTab.cons g_law08_small.ok (by kernel_rfl) (OkTab.cons g_law08_works.ok (by kernel_rfl) (OkTab.cons g_law08_united.ok (by kernel_rfl) (OkTab.cons g_dsu_Sets_Labels.ok (by kernel_rfl) (OkTab.cons g_dsu_Sets_Least.ok (by kernel_rfl) (OkTab.cons g_dsu_Sets_Same.ok (by kernel_rfl) (OkTab.nil _))))))) Try.func8 (fun vs h K hk => ?_) (fun vs h K K' hk => ?_)
  · unfold g_law08_DsuLabels.c at hk
    split at hk
    · rename_i x_0 x_1_a x_1_n x_1_c
      exact ⟨_, hk, Nat.le_of_ble_eq_true rfl, g_law08_DsuLabels.x x_0 (⟨x_1_a, x_1_n, x_1_c⟩ : Sl) h K⟩
    · exact hk.elim
  · unfold g_law08_DsuLabels.c at hk ⊢
    split at hk
    · rename_i x_0 x_1_a x_1_n x_1_c
      exact ⟨_, id, g_law08_DsuLabels.x x_0 (⟨x_1_a, x_1_n, x_1_c⟩ : Sl) h K'⟩
    · exact hk.elim

abbrev g_slices_Clone_int.c : CT := fun vs h K => match vs with
  | [.slice s_0_a s_0_n s_0_c] => g_slices_Clone_int (⟨s_0_a, s_0_n, s_0_c⟩ : Sl) h (fun r0 h => K (.slice r0.a r0.n r0.c) h)
  | _ => False

theorem g_slices_Clone_int.x (s_0 : Sl) (h : Hp) (K : Value → Hp → Prop) : (g_slices_Clone_int s_0 h (fun r0 h => K (.slice r0.a r0.n r0.c) h)) = xfnD Try.prog [] Try.f51 .z [.slice s_0.a s_0.n s_0.c] h K := by kernel_rfl

theorem g_slices_Clone_int.ok : OkFn Try.prog 51 g_slices_Clone_int.c ∧ MonoC g_slices_Clone_int.c := by
  refine xfnD_okm (an := .z) wide_ok (OkTab.nil _) Try.func51 (fun vs h K hk => ?_) (fun vs h K K' hk => ?_)
  · unfold g_slices_Clone_int.c at hk
    split at hk
    · rename_i s_0_a s_0_n s_0_c
      exact ⟨_, hk, Nat.le_of_ble_eq_true rfl, g_slices_Clone_int.x (⟨s_0_a, s_0_n, s_0_c⟩ : Sl) h K⟩
    · exact hk.elim
  · unfold g_slices_Clone_int.c at hk ⊢
    split at hk
    · rename_i s_0_a s_0_n s_0_c
      exact ⟨_, id, g_slices_Clone_int.x (⟨s_0_a, s_0_n, s_0_c⟩ : Sl) h K'⟩
    · exact hk.elim

abbrev g_dsu_Sets_Copy.c : CT := fun vs h K => match vs with
  | [.pointer s_0] => g_dsu_Sets_Copy s_0 h (fun r0 h => K (.pointer r0) h)
  | _ => False

theorem g_dsu_Sets_Copy.x (s_0 : Option Addr) (h : Hp) (K : Value → Hp → Prop) : (g_dsu_Sets_Copy s_0 h (fun r0 h => K (.pointer r0) h)) = xfnD Try.prog [(51, g_slices_Clone_int.c)] Try.f33 .z [.pointer s_0] h K := by kernel_rfl

theorem g_dsu_Sets_Copy.ok : OkFn Try.prog 33 g_dsu_Sets_Copy.c ∧ MonoC g_dsu_Sets_Copy.c := by
  refine xfnD_okm (an := .z) wide_ok (OkTab.cons g_slices_Clone_int.ok (by kernel_rfl) (OkTab.nil _)) Try.func33 (fun vs h K hk => ?_) (fun vs h K K' hk => ?_)
  · unfold g_dsu_Sets_Copy.c at hk
    split at hk
    · rename_i s_0
      exact ⟨_, hk, Nat.le_of_ble_eq_true rfl, g_dsu_Sets_Copy.x s_0 h K⟩
    · exact hk.elim
  · unfold g_dsu_Sets_Copy.c at hk ⊢
    split at hk
    · rename_i s_0
      exact ⟨_, id, g_dsu_Sets_Copy.x s_0 h K'⟩
    · exact hk.elim

abbrev g_law08_same.c : CT := fun vs h K => match vs with
  | [.slice a_0_a a_0_n a_0_c, .slice b_1_a b_1_n b_1_c] => g_law08_same (⟨a_0_a, a_0_n, a_0_c⟩ : Sl) (⟨b_1_a, b_1_n, b_1_c⟩ : Sl) h (fun r0 h => K (.bool r0) h)
  | _ => False

theorem g_law08_same.x (a_0 : Sl) (b_1 : Sl) (h : Hp) (K : Value → Hp → Prop) : (g_law08_same a_0 b_1 h (fun r0 h => K (.bool r0) h)) = xfnD Try.prog [] Try.f34 (.sq .z (.sq .z (.sq (.sq .z (.bl (.lp .z [(5, .sc (.int .i64))])) none) .z none) none) none) [.slice a_0.a a_0.n a_0.c, .slice b_1.a b_1.n b_1.c] h K := by kernel_rfl

theorem g_law08_same.ok : OkFn Try.prog 34 g_law08_same.c ∧ MonoC g_law08_same.c := by
  refine xfnD_okm (an := (.sq .z (.sq .z (.sq (.sq .z (.bl (.lp .z [(5, .sc (.int .i64))])) none) .z none) none) none)) wide_ok (OkTab.nil _) Try.func34 (fun vs h K hk => ?_) (fun vs h K K' hk => ?_)
  · unfold g_law08_same.c at hk
    split at hk
    · rename_i a_0_a a_0_n a_0_c b_1_a b_1_n b_1_c
      exact ⟨_, hk, Nat.le_of_ble_eq_true rfl, g_law08_same.x (⟨a_0_a, a_0_n, a_0_c⟩ : Sl) (⟨b_1_a, b_1_n, b_1_c⟩ : Sl) h K⟩
    · exact hk.elim
  · unfold g_law08_same.c at hk ⊢
    split at hk
    · rename_i a_0_a a_0_n a_0_c b_1_a b_1_n b_1_c
      exact ⟨_, id, g_law08_same.x (⟨a_0_a, a_0_n, a_0_c⟩ : Sl) (⟨b_1_a, b_1_n, b_1_c⟩ : Sl) h K'⟩
    · exact hk.elim

abbrev g_law08_DsuCopies.c : CT := fun vs h K => match vs with
  | [.int .i64 n_0, .slice l_1_a l_1_n l_1_c, .agg ⟨[.int .i64 x_2_0, .int .i64 x_2_1]⟩] => g_law08_DsuCopies n_0 (⟨l_1_a, l_1_n, l_1_c⟩ : Sl) x_2_0 x_2_1 h (fun r0 h => K (.bool r0) h)
  | _ => False

theorem g_law08_DsuCopies.x (n_0 : Int) (l_1 : Sl) (x_2_0 : Int) (x_2_1 : Int) (h : Hp) (K : Value → Hp → Prop) : (g_law08_DsuCopies n_0 l_1 x_2_0 x_2_1 h (fun r0 h => K (.bool r0) h)) = xfnD Try.prog [(30, g_law08_small.c), (15, g_law08_works.c), (16, g_law08_united.c), (33, g_dsu_Sets_Copy.c), (31, g_dsu_Sets_Labels.c), (34, g_law08_same.c), (35, g_dsu_Sets_Union.c)] Try.f9 .z [.int .i64 n_0, .slice l_1.a l_1.n l_1.c, .agg #[.int .i64 x_2_0, .int .i64 x_2_1]] h K := by kernel_rfl

theorem g_law08_DsuCopies.ok : OkFn Try.prog 9 g_law08_DsuCopies.c ∧ MonoC g_law08_DsuCopies.c := by
  refine xfnD_okm (an := .z) wide_ok (OkTab.cons g_law08_small.ok (by kernel_rfl) (OkTab.cons g_law08_works.ok (by kernel_rfl) (OkTab.cons g_law08_united.ok (by kernel_rfl) (OkTab.cons g_dsu_Sets_Copy.ok (by kernel_rfl) (OkTab.cons g_dsu_Sets_Labels.ok (by kernel_rfl) (OkTab.cons g_law08_same.ok (by kernel_rfl) (OkTab.cons g_dsu_Sets_Union.ok (by kernel_rfl) (OkTab.nil _)))))))) Try.func9 (fun vs h K hk => ?_) (fun vs h K K' hk => ?_)
  · unfold g_law08_DsuCopies.c at hk
    split at hk
    · rename_i n_0 l_1_a l_1_n l_1_c x_2_0 x_2_1
      exact ⟨_, hk, Nat.le_of_ble_eq_true rfl, g_law08_DsuCopies.x n_0 (⟨l_1_a, l_1_n, l_1_c⟩ : Sl) x_2_0 x_2_1 h K⟩
    · exact hk.elim
  · unfold g_law08_DsuCopies.c at hk ⊢
    split at hk
    · rename_i n_0 l_1_a l_1_n l_1_c x_2_0 x_2_1
      exact ⟨_, id, g_law08_DsuCopies.x n_0 (⟨l_1_a, l_1_n, l_1_c⟩ : Sl) x_2_0 x_2_1 h K'⟩
    · exact hk.elim

abbrev g_dsu_Sets_Groups.c : CT := fun vs h K => match vs with
  | [.pointer x_0] => g_dsu_Sets_Groups x_0 h (fun r0 h => K (.slice r0.a r0.n r0.c) h)
  | _ => False

theorem g_dsu_Sets_Groups.x (x_0 : Option Addr) (h : Hp) (K : Value → Hp → Prop) : (g_dsu_Sets_Groups x_0 h (fun r0 h => K (.slice r0.a r0.n r0.c) h)) = xfnD Try.prog [(39, g_dsu_Sets_Len.c), (31, g_dsu_Sets_Labels.c), (51, g_slices_Clone_int.c), (18, g_dsu_Sets_Size.c)] Try.f37 (.sq .z (.sq .z (.sq .z (.sq .z (.sq .z (.sq .z (.sq .z (.sq .z (.sq (.sq .z (.bl (.lp .z [(7, .sc (.int .i64)), (8, .sc .slice), (29, .sc (.int .i64))])) none) (.sq (.sq .z (.bl (.lp .z [(58, .sc (.int .i64))])) none) (.sq (.sq .z (.bl (.lp .z [(83, .sc (.int .i64))])) none) .z none) (some [])) (some [(8, .sc .slice)])) none) none) none) none) none) none) none) none) [.pointer x_0] h K := by kernel_rfl

theorem g_dsu_Sets_Groups.ok : OkFn Try.prog 37 g_dsu_Sets_Groups.c ∧ MonoC g_dsu_Sets_Groups.c := by
  refine xfnD_okm (an := (.sq .z (.sq .z (.sq .z (.sq .z (.sq .z (.sq .z (.sq .z (.sq .z (.sq (.sq .z (.bl (.lp .z [(7, .sc (.int .i64)), (8, .sc .slice), (29, .sc (.int .i64))])) none) (.sq (.sq .z (.bl (.lp .z [(58, .sc (.int .i64))])) none) (.sq (.sq .z (.bl (.lp .z [(83, .sc (.int .i64))])) none) .z none) (some [])) (some [(8, .sc .slice)])) none) none) none) none) none) none) none) none)) wide_ok (OkTab.cons g_dsu_Sets_Len.ok (by kernel_rfl) (OkTab.cons g_dsu_Sets_Labels.ok (by kernel_rfl) (OkTab.cons g_slices_Clone_int.ok (by kernel_rfl) (OkTab.cons g_dsu_Sets_Size.ok (by kernel_rfl) (OkTab.nil _))))) Try.func37 (fun vs h K hk => ?_) (fun vs h K K' hk => ?_)
  · unfold g_dsu_Sets_Groups.c at hk
    split at hk
    · rename_i x_0
      exact ⟨_, hk, Nat.le_of_ble_eq_true rfl, g_dsu_Sets_Groups.x x_0 h K⟩
    · exact hk.elim
  · unfold g_dsu_Sets_Groups.c at hk ⊢
    split at hk
    · rename_i x_0
      exact ⟨_, id, g_dsu_Sets_Groups.x x_0 h K'⟩
    · exact hk.elim

abbrev g_law08_groups.c : CT := fun vs h K => match vs with
  | [.slice a_0_a a_0_n a_0_c, .slice b_1_a b_1_n b_1_c] => g_law08_groups (⟨a_0_a, a_0_n, a_0_c⟩ : Sl) (⟨b_1_a, b_1_n, b_1_c⟩ : Sl) h (fun r0 h => K (.bool r0) h)
  | _ => False

theorem g_law08_groups.x (a_0 : Sl) (b_1 : Sl) (h : Hp) (K : Value → Hp → Prop) : (g_law08_groups a_0 b_1 h (fun r0 h => K (.bool r0) h)) = xfnD Try.prog [(34, g_law08_same.c)] Try.f36 (.sq .z (.sq .z (.sq (.sq .z (.bl (.lp .z [(5, .sc (.int .i64))])) none) .z none) none) none) [.slice a_0.a a_0.n a_0.c, .slice b_1.a b_1.n b_1.c] h K := by kernel_rfl

theorem g_law08_groups.ok : OkFn Try.prog 36 g_law08_groups.c ∧ MonoC g_law08_groups.c := by
  refine xfnD_okm (an := (.sq .z (.sq .z (.sq (.sq .z (.bl (.lp .z [(5, .sc (.int .i64))])) none) .z none) none) none)) wide_ok (OkTab.cons g_law08_same.ok (by kernel_rfl) (OkTab.nil _)) Try.func36 (fun vs h K hk => ?_) (fun vs h K K' hk => ?_)
  · unfold g_law08_groups.c at hk
    split at hk
    · rename_i a_0_a a_0_n a_0_c b_1_a b_1_n b_1_c
      exact ⟨_, hk, Nat.le_of_ble_eq_true rfl, g_law08_groups.x (⟨a_0_a, a_0_n, a_0_c⟩ : Sl) (⟨b_1_a, b_1_n, b_1_c⟩ : Sl) h K⟩
    · exact hk.elim
  · unfold g_law08_groups.c at hk ⊢
    split at hk
    · rename_i a_0_a a_0_n a_0_c b_1_a b_1_n b_1_c
      exact ⟨_, id, g_law08_groups.x (⟨a_0_a, a_0_n, a_0_c⟩ : Sl) (⟨b_1_a, b_1_n, b_1_c⟩ : Sl) h K'⟩
    · exact hk.elim

abbrev g_law08_DsuOrder.c : CT := fun vs h K => match vs with
  | [.int .i64 n_0, .slice l_1_a l_1_n l_1_c] => g_law08_DsuOrder n_0 (⟨l_1_a, l_1_n, l_1_c⟩ : Sl) h (fun r0 h => K (.bool r0) h)
  | _ => False

theorem g_law08_DsuOrder.x (n_0 : Int) (l_1 : Sl) (h : Hp) (K : Value → Hp → Prop) : (g_law08_DsuOrder n_0 l_1 h (fun r0 h => K (.bool r0) h)) = xfnD Try.prog [(30, g_law08_small.c), (15, g_law08_works.c), (16, g_law08_united.c), (31, g_dsu_Sets_Labels.c), (34, g_law08_same.c), (37, g_dsu_Sets_Groups.c), (36, g_law08_groups.c)] Try.f10 (.sq .z (.sq .z (.sq .z (.sq (.sq .z (.bl (.lp .z [(5, .sc .slice), (6, .sc (.int .i64))])) none) .z (some [(5, .sc .slice)])) none) none) none) [.int .i64 n_0, .slice l_1.a l_1.n l_1.c] h K := by kernel_rfl

theorem g_law08_DsuOrder.ok : OkFn Try.prog 10 g_law08_DsuOrder.c ∧ MonoC g_law08_DsuOrder.c := by
  refine xfnD_okm (an := (.sq .z (.sq .z (.sq .z (.sq (.sq .z (.bl (.lp .z [(5, .sc .slice), (6, .sc (.int .i64))])) none) .z (some [(5, .sc .slice)])) none) none) none)) wide_ok (OkTab.cons g_law08_small.ok (by kernel_rfl) (OkTab.cons g_law08_works.ok (by kernel_rfl) (OkTab.cons g_law08_united.ok (by kernel_rfl) (OkTab.cons g_dsu_Sets_Labels.ok (by kernel_rfl) (OkTab.cons g_law08_same.ok (by kernel_rfl) (OkTab.cons g_dsu_Sets_Groups.ok (by kernel_rfl) (OkTab.cons g_law08_groups.ok (by kernel_rfl) (OkTab.nil _)))))))) Try.func10 (fun vs h K hk => ?_) (fun vs h K K' hk => ?_)
  · unfold g_law08_DsuOrder.c at hk
    split at hk
    · rename_i n_0 l_1_a l_1_n l_1_c
      exact ⟨_, hk, Nat.le_of_ble_eq_true rfl, g_law08_DsuOrder.x n_0 (⟨l_1_a, l_1_n, l_1_c⟩ : Sl) h K⟩
    · exact hk.elim
  · unfold g_law08_DsuOrder.c at hk ⊢
    split at hk
    · rename_i n_0 l_1_a l_1_n l_1_c
      exact ⟨_, id, g_law08_DsuOrder.x n_0 (⟨l_1_a, l_1_n, l_1_c⟩ : Sl) h K'⟩
    · exact hk.elim

abbrev g_ref08_New.c : CT := fun vs h K => match vs with
  | [.int .i64 n_0] => g_ref08_New n_0 h (fun r0 r1 h => K (.tuple #[.pointer r0, .int .i64 r1]) h)
  | _ => False

theorem g_ref08_New.x (n_0 : Int) (h : Hp) (K : Value → Hp → Prop) : (g_ref08_New n_0 h (fun r0 r1 h => K (.tuple #[.pointer r0, .int .i64 r1]) h)) = xfnD Try.prog [] Try.f41 (.sq .z (.sq .z (.sq .z (.sq (.sq .z (.bl (.lp .z [(5, .sc (.int .i64))])) none) .z none) none) none) none) [.int .i64 n_0] h K := by kernel_rfl

theorem g_ref08_New.ok : OkFn Try.prog 41 g_ref08_New.c ∧ MonoC g_ref08_New.c := by
  refine xfnD_okm (an := (.sq .z (.sq .z (.sq .z (.sq (.sq .z (.bl (.lp .z [(5, .sc (.int .i64))])) none) .z none) none) none) none)) wide_ok (OkTab.nil _) Try.func41 (fun vs h K hk => ?_) (fun vs h K K' hk => ?_)
  · unfold g_ref08_New.c at hk
    split at hk
    · rename_i n_0
      exact ⟨_, hk, Nat.le_of_ble_eq_true rfl, g_ref08_New.x n_0 h K⟩
    · exact hk.elim
  · unfold g_ref08_New.c at hk ⊢
    split at hk
    · rename_i n_0
      exact ⟨_, id, g_ref08_New.x n_0 h K'⟩
    · exact hk.elim

abbrev g_ref08_Sets_valid.c : CT := fun vs h K => match vs with
  | [.pointer s_0] => g_ref08_Sets_valid s_0 h (fun r0 h => K (.bool r0) h)
  | _ => False

theorem g_ref08_Sets_valid.x (s_0 : Option Addr) (h : Hp) (K : Value → Hp → Prop) : (g_ref08_Sets_valid s_0 h (fun r0 h => K (.bool r0) h)) = xfnD Try.prog [] Try.f58 .z [.pointer s_0] h K := by kernel_rfl

theorem g_ref08_Sets_valid.ok : OkFn Try.prog 58 g_ref08_Sets_valid.c ∧ MonoC g_ref08_Sets_valid.c := by
  refine xfnD_okm (an := .z) wide_ok (OkTab.nil _) Try.func58 (fun vs h K hk => ?_) (fun vs h K K' hk => ?_)
  · unfold g_ref08_Sets_valid.c at hk
    split at hk
    · rename_i s_0
      exact ⟨_, hk, Nat.le_of_ble_eq_true rfl, g_ref08_Sets_valid.x s_0 h K⟩
    · exact hk.elim
  · unfold g_ref08_Sets_valid.c at hk ⊢
    split at hk
    · rename_i s_0
      exact ⟨_, id, g_ref08_Sets_valid.x s_0 h K'⟩
    · exact hk.elim

abbrev g_ref08_Sets_has.c : CT := fun vs h K => match vs with
  | [.pointer s_0, .int .i64 a_1] => g_ref08_Sets_has s_0 a_1 h (fun r0 h => K (.bool r0) h)
  | _ => False

theorem g_ref08_Sets_has.x (s_0 : Option Addr) (a_1 : Int) (h : Hp) (K : Value → Hp → Prop) : (g_ref08_Sets_has s_0 a_1 h (fun r0 h => K (.bool r0) h)) = xfnD Try.prog [(58, g_ref08_Sets_valid.c)] Try.f59 .z [.pointer s_0, .int .i64 a_1] h K := by kernel_rfl

theorem g_ref08_Sets_has.ok : OkFn Try.prog 59 g_ref08_Sets_has.c ∧ MonoC g_ref08_Sets_has.c := by
  refine xfnD_okm (an := .z) wide_ok (OkTab.cons g_ref08_Sets_valid.ok (by kernel_rfl) (OkTab.nil _)) Try.func59 (fun vs h K hk => ?_) (fun vs h K K' hk => ?_)
  · unfold g_ref08_Sets_has.c at hk
    split at hk
    · rename_i s_0 a_1
      exact ⟨_, hk, Nat.le_of_ble_eq_true rfl, g_ref08_Sets_has.x s_0 a_1 h K⟩
    · exact hk.elim
  · unfold g_ref08_Sets_has.c at hk ⊢
    split at hk
    · rename_i s_0 a_1
      exact ⟨_, id, g_ref08_Sets_has.x s_0 a_1 h K'⟩
    · exact hk.elim

abbrev g_ref08_Sets_Least.c : CT := fun vs h K => match vs with
  | [.pointer s_0, .int .i64 a_1] => g_ref08_Sets_Least s_0 a_1 h (fun r0 r1 h => K (.tuple #[.int .i64 r0, .int .i64 r1]) h)
  | _ => False

theorem g_ref08_Sets_Least.x (s_0 : Option Addr) (a_1 : Int) (h : Hp) (K : Value → Hp → Prop) : (g_ref08_Sets_Least s_0 a_1 h (fun r0 r1 h => K (.tuple #[.int .i64 r0, .int .i64 r1]) h)) = xfnD Try.prog [(58, g_ref08_Sets_valid.c), (59, g_ref08_Sets_has.c)] Try.f52 .z [.pointer s_0, .int .i64 a_1] h K := by kernel_rfl

theorem g_ref08_Sets_Least.ok : OkFn Try.prog 52 g_ref08_Sets_Least.c ∧ MonoC g_ref08_Sets_Least.c := by
  refine xfnD_okm (an := .z) wide_ok (OkTab.cons g_ref08_Sets_valid.ok (by kernel_rfl) (OkTab.cons g_ref08_Sets_has.ok (by kernel_rfl) (OkTab.nil _))) Try.func52 (fun vs h K hk => ?_) (fun vs h K K' hk => ?_)
  · unfold g_ref08_Sets_Least.c at hk
    split at hk
    · rename_i s_0 a_1
      exact ⟨_, hk, Nat.le_of_ble_eq_true rfl, g_ref08_Sets_Least.x s_0 a_1 h K⟩
    · exact hk.elim
  · unfold g_ref08_Sets_Least.c at hk ⊢
    split at hk
    · rename_i s_0 a_1
      exact ⟨_, id, g_ref08_Sets_Least.x s_0 a_1 h K'⟩
    · exact hk.elim

abbrev g_ref08_Sets_Same.c : CT := fun vs h K => match vs with
  | [.pointer s_0, .int .i64 a_1, .int .i64 b_2] => g_ref08_Sets_Same s_0 a_1 b_2 h (fun r0 h => K (.bool r0) h)
  | _ => False

theorem g_ref08_Sets_Same.x (s_0 : Option Addr) (a_1 : Int) (b_2 : Int) (h : Hp) (K : Value → Hp → Prop) : (g_ref08_Sets_Same s_0 a_1 b_2 h (fun r0 h => K (.bool r0) h)) = xfnD Try.prog [(59, g_ref08_Sets_has.c)] Try.f53 .z [.pointer s_0, .int .i64 a_1, .int .i64 b_2] h K := by kernel_rfl

theorem g_ref08_Sets_Same.ok : OkFn Try.prog 53 g_ref08_Sets_Same.c ∧ MonoC g_ref08_Sets_Same.c := by
  refine xfnD_okm (an := .z) wide_ok (OkTab.cons g_ref08_Sets_has.ok (by kernel_rfl) (OkTab.nil _)) Try.func53 (fun vs h K hk => ?_) (fun vs h K K' hk => ?_)
  · unfold g_ref08_Sets_Same.c at hk
    split at hk
    · rename_i s_0 a_1 b_2
      exact ⟨_, hk, Nat.le_of_ble_eq_true rfl, g_ref08_Sets_Same.x s_0 a_1 b_2 h K⟩
    · exact hk.elim
  · unfold g_ref08_Sets_Same.c at hk ⊢
    split at hk
    · rename_i s_0 a_1 b_2
      exact ⟨_, id, g_ref08_Sets_Same.x s_0 a_1 b_2 h K'⟩
    · exact hk.elim

abbrev g_ref08_Sets_Size.c : CT := fun vs h K => match vs with
  | [.pointer s_0, .int .i64 a_1] => g_ref08_Sets_Size s_0 a_1 h (fun r0 h => K (.int .i64 r0) h)
  | _ => False

theorem g_ref08_Sets_Size.x (s_0 : Option Addr) (a_1 : Int) (h : Hp) (K : Value → Hp → Prop) : (g_ref08_Sets_Size s_0 a_1 h (fun r0 h => K (.int .i64 r0) h)) = xfnD Try.prog [(59, g_ref08_Sets_has.c)] Try.f54 (.sq .z (.sq .z (.sq (.sq .z (.cd (.sq .z (.bl (.lp .z [(5, .sc (.int .i64)), (6, .sc (.int .i64))])) none) .z) none) .z none) none) none) [.pointer s_0, .int .i64 a_1] h K := by kernel_rfl

theorem g_ref08_Sets_Size.ok : OkFn Try.prog 54 g_ref08_Sets_Size.c ∧ MonoC g_ref08_Sets_Size.c := by
  refine xfnD_okm (an := (.sq .z (.sq .z (.sq (.sq .z (.cd (.sq .z (.bl (.lp .z [(5, .sc (.int .i64)), (6, .sc (.int .i64))])) none) .z) none) .z none) none) none)) wide_ok (OkTab.cons g_ref08_Sets_has.ok (by kernel_rfl) (OkTab.nil _)) Try.func54 (fun vs h K hk => ?_) (fun vs h K K' hk => ?_)
  · unfold g_ref08_Sets_Size.c at hk
    split at hk
    · rename_i s_0 a_1
      exact ⟨_, hk, Nat.le_of_ble_eq_true rfl, g_ref08_Sets_Size.x s_0 a_1 h K⟩
    · exact hk.elim
  · unfold g_ref08_Sets_Size.c at hk ⊢
    split at hk
    · rename_i s_0 a_1
      exact ⟨_, id, g_ref08_Sets_Size.x s_0 a_1 h K'⟩
    · exact hk.elim

abbrev g_ref08_Sets_Count.c : CT := fun vs h K => match vs with
  | [.pointer s_0] => g_ref08_Sets_Count s_0 h (fun r0 h => K (.int .i64 r0) h)
  | _ => False

theorem g_ref08_Sets_Count.x (s_0 : Option Addr) (h : Hp) (K : Value → Hp → Prop) : (g_ref08_Sets_Count s_0 h (fun r0 h => K (.int .i64 r0) h)) = xfnD Try.prog [(58, g_ref08_Sets_valid.c)] Try.f55 (.sq .z (.sq .z (.sq (.sq .z (.cd (.sq .z (.bl (.lp .z [(3, .sc (.int .i64)), (4, .sc (.int .i64))])) none) .z) none) .z none) none) none) [.pointer s_0] h K := by kernel_rfl

theorem g_ref08_Sets_Count.ok : OkFn Try.prog 55 g_ref08_Sets_Count.c ∧ MonoC g_ref08_Sets_Count.c := by
  refine xfnD_okm (an := (.sq .z (.sq .z (.sq (.sq .z (.cd (.sq .z (.bl (.lp .z [(3, .sc (.int .i64)), (4, .sc (.int .i64))])) none) .z) none) .z none) none) none)) wide_ok (OkTab.cons g_ref08_Sets_valid.ok (by kernel_rfl) (OkTab.nil _)) Try.func55 (fun vs h K hk => ?_) (fun vs h K K' hk => ?_)
  · unfold g_ref08_Sets_Count.c at hk
    split at hk
    · rename_i s_0
      exact ⟨_, hk, Nat.le_of_ble_eq_true rfl, g_ref08_Sets_Count.x s_0 h K⟩
    · exact hk.elim
  · unfold g_ref08_Sets_Count.c at hk ⊢
    split at hk
    · rename_i s_0
      exact ⟨_, id, g_ref08_Sets_Count.x s_0 h K'⟩
    · exact hk.elim

abbrev g_ref08_Sets_Len.c : CT := fun vs h K => match vs with
  | [.pointer s_0] => g_ref08_Sets_Len s_0 h (fun r0 h => K (.int .i64 r0) h)
  | _ => False

theorem g_ref08_Sets_Len.x (s_0 : Option Addr) (h : Hp) (K : Value → Hp → Prop) : (g_ref08_Sets_Len s_0 h (fun r0 h => K (.int .i64 r0) h)) = xfnD Try.prog [(58, g_ref08_Sets_valid.c)] Try.f56 .z [.pointer s_0] h K := by kernel_rfl

theorem g_ref08_Sets_Len.ok : OkFn Try.prog 56 g_ref08_Sets_Len.c ∧ MonoC g_ref08_Sets_Len.c := by
  refine xfnD_okm (an := .z) wide_ok (OkTab.cons g_ref08_Sets_valid.ok (by kernel_rfl) (OkTab.nil _)) Try.func56 (fun vs h K hk => ?_) (fun vs h K K' hk => ?_)
  · unfold g_ref08_Sets_Len.c at hk
    split at hk
    · rename_i s_0
      exact ⟨_, hk, Nat.le_of_ble_eq_true rfl, g_ref08_Sets_Len.x s_0 h K⟩
    · exact hk.elim
  · unfold g_ref08_Sets_Len.c at hk ⊢
    split at hk
    · rename_i s_0
      exact ⟨_, id, g_ref08_Sets_Len.x s_0 h K'⟩
    · exact hk.elim

abbrev g_ref08_Sets_Labels.c : CT := fun vs h K => match vs with
  | [.pointer s_0] => g_ref08_Sets_Labels s_0 h (fun r0 h => K (.slice r0.a r0.n r0.c) h)
  | _ => False

theorem g_ref08_Sets_Labels.x (s_0 : Option Addr) (h : Hp) (K : Value → Hp → Prop) : (g_ref08_Sets_Labels s_0 h (fun r0 h => K (.slice r0.a r0.n r0.c) h)) = xfnD Try.prog [(58, g_ref08_Sets_valid.c)] Try.f57 .z [.pointer s_0] h K := by kernel_rfl

theorem g_ref08_Sets_Labels.ok : OkFn Try.prog 57 g_ref08_Sets_Labels.c ∧ MonoC g_ref08_Sets_Labels.c := by
  refine xfnD_okm (an := .z) wide_ok (OkTab.cons g_ref08_Sets_valid.ok (by kernel_rfl) (OkTab.nil _)) Try.func57 (fun vs h K hk => ?_) (fun vs h K K' hk => ?_)
  · unfold g_ref08_Sets_Labels.c at hk
    split at hk
    · rename_i s_0
      exact ⟨_, hk, Nat.le_of_ble_eq_true rfl, g_ref08_Sets_Labels.x s_0 h K⟩
    · exact hk.elim
  · unfold g_ref08_Sets_Labels.c at hk ⊢
    split at hk
    · rename_i s_0
      exact ⟨_, id, g_ref08_Sets_Labels.x s_0 h K'⟩
    · exact hk.elim

abbrev g_law08_agree.c : CT := fun vs h K => match vs with
  | [.pointer x_0, .pointer x_1, .int .i64 x_2, .int .i64 x_3] => g_law08_agree x_0 x_1 x_2 x_3 h (fun r0 h => K (.bool r0) h)
  | _ => False

theorem g_law08_agree.x (x_0 : Option Addr) (x_1 : Option Addr) (x_2 : Int) (x_3 : Int) (h : Hp) (K : Value → Hp → Prop) : (g_law08_agree x_0 x_1 x_2 x_3 h (fun r0 h => K (.bool r0) h)) = xfnD Try.prog [(32, g_dsu_Sets_Least.c), (52, g_ref08_Sets_Least.c), (17, g_dsu_Sets_Same.c), (53, g_ref08_Sets_Same.c), (18, g_dsu_Sets_Size.c), (54, g_ref08_Sets_Size.c), (40, g_dsu_Sets_Count.c), (55, g_ref08_Sets_Count.c), (39, g_dsu_Sets_Len.c), (56, g_ref08_Sets_Len.c), (31, g_dsu_Sets_Labels.c), (57, g_ref08_Sets_Labels.c), (34, g_law08_same.c)] Try.f42 .z [.pointer x_0, .pointer x_1, .int .i64 x_2, .int .i64 x_3] h K := by kernel_rfl

theorem g_law08_agree.ok : OkFn Try.prog 42 g_law08_agree.c ∧ MonoC g_law08_agree.c := by
  refine xfnD_okm (an := .z) wide_ok (OkTab.cons g_dsu_Sets_Least.ok (by kernel_rfl) (OkTab.cons g_ref08_Sets_Least.ok (by kernel_rfl) (OkTab.cons g_dsu_Sets_Same.ok (by kernel_rfl) (OkTab.cons g_ref08_Sets_Same.ok (by kernel_rfl) (OkTab.cons g_dsu_Sets_Size.ok (by kernel_rfl) (OkTab.cons g_ref08_Sets_Size.ok (by kernel_rfl) (OkTab.cons g_dsu_Sets_Count.ok (by kernel_rfl) (OkTab.cons g_ref08_Sets_Count.ok (by kernel_rfl) (OkTab.cons g_dsu_Sets_Len.ok (by kernel_rfl) (OkTab.cons g_ref08_Sets_Len.ok (by kernel_rfl) (OkTab.cons g_dsu_Sets_Labels.ok (by kernel_rfl) (OkTab.cons g_ref08_Sets_Labels.ok (by kernel_rfl) (OkTab.cons g_law08_same.ok (by kernel_rfl) (OkTab.nil _)))))))))))))) Try.func42 (fun vs h K hk => ?_) (fun vs h K K' hk => ?_)
  · unfold g_law08_agree.c at hk
    split at hk
    · rename_i x_0 x_1 x_2 x_3
      exact ⟨_, hk, Nat.le_of_ble_eq_true rfl, g_law08_agree.x x_0 x_1 x_2 x_3 h K⟩
    · exact hk.elim
  · unfold g_law08_agree.c at hk ⊢
    split at hk
    · rename_i x_0 x_1 x_2 x_3
      exact ⟨_, id, g_law08_agree.x x_0 x_1 x_2 x_3 h K'⟩
    · exact hk.elim

abbrev g_ref08_Sets_Groups.c : CT := fun vs h K => match vs with
  | [.pointer s_0] => g_ref08_Sets_Groups s_0 h (fun r0 h => K (.slice r0.a r0.n r0.c) h)
  | _ => False

theorem g_ref08_Sets_Groups.x (s_0 : Option Addr) (h : Hp) (K : Value → Hp → Prop) : (g_ref08_Sets_Groups s_0 h (fun r0 h => K (.slice r0.a r0.n r0.c) h)) = xfnD Try.prog [(58, g_ref08_Sets_valid.c)] Try.f43 (.sq .z (.sq .z (.sq (.sq .z (.cd (.sq .z (.bl (.lp (.sq .z (.sq (.bl (.sq .z (.sq .z (.sq (.sq .z (.bl (.lp .z [(5, .sc .slice), (6, .sc (.int .i64))])) none) .z (some [(5, .sc .slice)])) none) none)) .z none) none) [(3, .sc .slice), (4, .sc (.int .i64))])) none) .z) none) .z none) none) none) [.pointer s_0] h K := by kernel_rfl

theorem g_ref08_Sets_Groups.ok : OkFn Try.prog 43 g_ref08_Sets_Groups.c ∧ MonoC g_ref08_Sets_Groups.c := by
  refine xfnD_okm (an := (.sq .z (.sq .z (.sq (.sq .z (.cd (.sq .z (.bl (.lp (.sq .z (.sq (.bl (.sq .z (.sq .z (.sq (.sq .z (.bl (.lp .z [(5, .sc .slice), (6, .sc (.int .i64))])) none) .z (some [(5, .sc .slice)])) none) none)) .z none) none) [(3, .sc .slice), (4, .sc (.int .i64))])) none) .z) none) .z none) none) none)) wide_ok (OkTab.cons g_ref08_Sets_valid.ok (by kernel_rfl) (OkTab.nil _)) Try.func43 (fun vs h K hk => ?_) (fun vs h K K' hk => ?_)
  · unfold g_ref08_Sets_Groups.c at hk
    split at hk
    · rename_i s_0
      exact ⟨_, hk, Nat.le_of_ble_eq_true rfl, g_ref08_Sets_Groups.x s_0 h K⟩
    · exact hk.elim
  · unfold g_ref08_Sets_Groups.c at hk ⊢
    split at hk
    · rename_i s_0
      exact ⟨_, id, g_ref08_Sets_Groups.x s_0 h K'⟩
    · exact hk.elim

abbrev g_law08_DsuNews.c : CT := fun vs h K => match vs with
  | [.int .i64 x_0, .int .i64 x_1, .int .i64 x_2] => g_law08_DsuNews x_0 x_1 x_2 h (fun r0 h => K (.bool r0) h)
  | _ => False

theorem g_law08_DsuNews.x (x_0 : Int) (x_1 : Int) (x_2 : Int) (h : Hp) (K : Value → Hp → Prop) : (g_law08_DsuNews x_0 x_1 x_2 h (fun r0 h => K (.bool r0) h)) = xfnD Try.prog [(38, g_dsu_New.c), (39, g_dsu_Sets_Len.c), (40, g_dsu_Sets_Count.c), (18, g_dsu_Sets_Size.c), (15, g_law08_works.c), (41, g_ref08_New.c), (42, g_law08_agree.c), (37, g_dsu_Sets_Groups.c), (43, g_ref08_Sets_Groups.c), (36, g_law08_groups.c)] Try.f11 (.sq .z (.sq .z (.sq (.sq .z .z (some [(21, .sc .bool)])) .z none) none) none) [.int .i64 x_0, .int .i64 x_1, .int .i64 x_2] h K := by kernel_rfl

theorem g_law08_DsuNews.ok : OkFn Try.prog 11 g_law08_DsuNews.c ∧ MonoC g_law08_DsuNews.c := by
  refine xfnD_okm (an := (.sq .z (.sq .z (.sq (.sq .z .z (some [(21, .sc .bool)])) .z none) none) none)) wide_ok (OkTab.cons g_dsu_New.ok (by kernel_rfl) (OkTab.cons g_dsu_Sets_Len.ok (by kernel_rfl) (OkTab.cons g_dsu_Sets_Count.ok (by kernel_rfl) (OkTab.cons g_dsu_Sets_Size.ok (by kernel_rfl) (OkTab.cons g_law08_works.ok (by kernel_rfl) (OkTab.cons g_ref08_New.ok (by kernel_rfl) (OkTab.cons g_law08_agree.ok (by kernel_rfl) (OkTab.cons g_dsu_Sets_Groups.ok (by kernel_rfl) (OkTab.cons g_ref08_Sets_Groups.ok (by kernel_rfl) (OkTab.cons g_law08_groups.ok (by kernel_rfl) (OkTab.nil _))))))))))) Try.func11 (fun vs h K hk => ?_) (fun vs h K K' hk => ?_)
  · unfold g_law08_DsuNews.c at hk
    split at hk
    · rename_i x_0 x_1 x_2
      exact ⟨_, hk, Nat.le_of_ble_eq_true rfl, g_law08_DsuNews.x x_0 x_1 x_2 h K⟩
    · exact hk.elim
  · unfold g_law08_DsuNews.c at hk ⊢
    split at hk
    · rename_i x_0 x_1 x_2
      exact ⟨_, id, g_law08_DsuNews.x x_0 x_1 x_2 h K'⟩
    · exact hk.elim

abbrev g_ref08_Sets_Union.c : CT := fun vs h K => match vs with
  | [.pointer x_0, .int .i64 x_1, .int .i64 x_2] => g_ref08_Sets_Union x_0 x_1 x_2 h (fun r0 r1 h => K (.tuple #[.bool r0, .int .i64 r1]) h)
  | _ => False

theorem g_ref08_Sets_Union.x (x_0 : Option Addr) (x_1 : Int) (x_2 : Int) (h : Hp) (K : Value → Hp → Prop) : (g_ref08_Sets_Union x_0 x_1 x_2 h (fun r0 r1 h => K (.tuple #[.bool r0, .int .i64 r1]) h)) = xfnD Try.prog [(58, g_ref08_Sets_valid.c), (59, g_ref08_Sets_has.c)] Try.f44 (.sq .z (.sq .z (.sq .z (.sq .z (.sq .z (.sq .z (.sq (.sq .z (.bl (.lp .z [(10, .sc (.int .i64))])) none) .z none) none) none) none) none) none) none) [.pointer x_0, .int .i64 x_1, .int .i64 x_2] h K := by kernel_rfl

theorem g_ref08_Sets_Union.ok : OkFn Try.prog 44 g_ref08_Sets_Union.c ∧ MonoC g_ref08_Sets_Union.c := by
  refine xfnD_okm (an := (.sq .z (.sq .z (.sq .z (.sq .z (.sq .z (.sq .z (.sq (.sq .z (.bl (.lp .z [(10, .sc (.int .i64))])) none) .z none) none) none) none) none) none) none)) wide_ok (OkTab.cons g_ref08_Sets_valid.ok (by kernel_rfl) (OkTab.cons g_ref08_Sets_has.ok (by kernel_rfl) (OkTab.nil _))) Try.func44 (fun vs h K hk => ?_) (fun vs h K K' hk => ?_)
  · unfold g_ref08_Sets_Union.c at hk
    split at hk
    · rename_i x_0 x_1 x_2
      exact ⟨_, hk, Nat.le_of_ble_eq_true rfl, g_ref08_Sets_Union.x x_0 x_1 x_2 h K⟩
    · exact hk.elim
  · unfold g_ref08_Sets_Union.c at hk ⊢
    split at hk
    · rename_i x_0 x_1 x_2
      exact ⟨_, id, g_ref08_Sets_Union.x x_0 x_1 x_2 h K'⟩
    · exact hk.elim

abbrev g_law08_DsuPlays.c : CT := fun vs h K => match vs with
  | [.int .i64 x_0, .slice x_1_a x_1_n x_1_c, .int .i64 x_2, .int .i64 x_3] => g_law08_DsuPlays x_0 (⟨x_1_a, x_1_n, x_1_c⟩ : Sl) x_2 x_3 h (fun r0 h => K (.bool r0) h)
  | _ => False

theorem g_law08_DsuPlays.x (x_0 : Int) (x_1 : Sl) (x_2 : Int) (x_3 : Int) (h : Hp) (K : Value → Hp → Prop) : (g_law08_DsuPlays x_0 x_1 x_2 x_3 h (fun r0 h => K (.bool r0) h)) = xfnD Try.prog [(38, g_dsu_New.c), (41, g_ref08_New.c), (15, g_law08_works.c), (37, g_dsu_Sets_Groups.c), (43, g_ref08_Sets_Groups.c), (36, g_law08_groups.c), (42, g_law08_agree.c), (35, g_dsu_Sets_Union.c), (44, g_ref08_Sets_Union.c)] Try.f12 (.sq .z (.sq .z (.sq .z (.sq .z (.sq (.sq .z (.bl (.lp .z [(13, .sc (.int .i64))])) none) .z (some [])) none) none) none) none) [.int .i64 x_0, .slice x_1.a x_1.n x_1.c, .int .i64 x_2, .int .i64 x_3] h K := by kernel_rfl

theorem g_law08_DsuPlays.ok : OkFn Try.prog 12 g_law08_DsuPlays.c ∧ MonoC g_law08_DsuPlays.c := by
  refine xfnD_okm (an := (.sq .z (.sq .z (.sq .z (.sq .z (.sq (.sq .z (.bl (.lp .z [(13, .sc (.int .i64))])) none) .z (some [])) none) none) none) none)) wide_ok (OkTab.cons g_dsu_New.ok (by kernel_rfl) (OkTab.cons g_ref08_New.ok (by kernel_rfl) (OkTab.cons g_law08_works.ok (by kernel_rfl) (OkTab.cons g_dsu_Sets_Groups.ok (by kernel_rfl) (OkTab.cons g_ref08_Sets_Groups.ok (by kernel_rfl) (OkTab.cons g_law08_groups.ok (by kernel_rfl) (OkTab.cons g_law08_agree.ok (by kernel_rfl) (OkTab.cons g_dsu_Sets_Union.ok (by kernel_rfl) (OkTab.cons g_ref08_Sets_Union.ok (by kernel_rfl) (OkTab.nil _)))))))))) Try.func12 (fun vs h K hk => ?_) (fun vs h K K' hk => ?_)
  · unfold g_law08_DsuPlays.c at hk
    split at hk
    · rename_i x_0 x_1_a x_1_n x_1_c x_2 x_3
      exact ⟨_, hk, Nat.le_of_ble_eq_true rfl, g_law08_DsuPlays.x x_0 (⟨x_1_a, x_1_n, x_1_c⟩ : Sl) x_2 x_3 h K⟩
    · exact hk.elim
  · unfold g_law08_DsuPlays.c at hk ⊢
    split at hk
    · rename_i x_0 x_1_a x_1_n x_1_c x_2 x_3
      exact ⟨_, id, g_law08_DsuPlays.x x_0 (⟨x_1_a, x_1_n, x_1_c⟩ : Sl) x_2 x_3 h K'⟩
    · exact hk.elim

abbrev g_law08_DsuCounts.c : CT := fun vs h K => match vs with
  | [.int .i64 x_0, .slice x_1_a x_1_n x_1_c] => g_law08_DsuCounts x_0 (⟨x_1_a, x_1_n, x_1_c⟩ : Sl) h (fun r0 h => K (.bool r0) h)
  | _ => False

theorem g_law08_DsuCounts.x (x_0 : Int) (x_1 : Sl) (h : Hp) (K : Value → Hp → Prop) : (g_law08_DsuCounts x_0 x_1 h (fun r0 h => K (.bool r0) h)) = xfnD Try.prog [(30, g_law08_small.c), (15, g_law08_works.c), (38, g_dsu_New.c), (37, g_dsu_Sets_Groups.c), (39, g_dsu_Sets_Len.c), (18, g_dsu_Sets_Size.c), (17, g_dsu_Sets_Same.c), (35, g_dsu_Sets_Union.c), (40, g_dsu_Sets_Count.c)] Try.f13 (.sq .z (.sq .z (.sq .z (.sq .z (.sq .z (.sq (.sq .z (.bl (.lp (.sq .z (.sq (.bl (.sq .z (.sq .z (.sq .z (.sq .z .z (some [(7, .sc (.int .i64))])) (some [])) none) none)) .z none) none) [(7, .sc (.int .i64)), (8, .sc (.int .i64))])) none) (.sq .z (.sq .z (.sq (.sq .z (.bl (.lp .z [(13, .sc (.int .i64)), (14, .sc (.int .i64))])) none) .z (some [(13, .sc (.int .i64))])) none) none) (some [(7, .sc (.int .i64))])) none) none) none) none) none) [.int .i64 x_0, .slice x_1.a x_1.n x_1.c] h K := by kernel_rfl

theorem g_law08_DsuCounts.ok : OkFn Try.prog 13 g_law08_DsuCounts.c ∧ MonoC g_law08_DsuCounts.c := by
  refine xfnD_okm (an := (.sq .z (.sq .z (.sq .z (.sq .z (.sq .z (.sq (.sq .z (.bl (.lp (.sq .z (.sq (.bl (.sq .z (.sq .z (.sq .z (.sq .z .z (some [(7, .sc (.int .i64))])) (some [])) none) none)) .z none) none) [(7, .sc (.int .i64)), (8, .sc (.int .i64))])) none) (.sq .z (.sq .z (.sq (.sq .z (.bl (.lp .z [(13, .sc (.int .i64)), (14, .sc (.int .i64))])) none) .z (some [(13, .sc (.int .i64))])) none) none) (some [(7, .sc (.int .i64))])) none) none) none) none) none)) wide_ok (OkTab.cons g_law08_small.ok (by kernel_rfl) (OkTab.cons g_law08_works.ok (by kernel_rfl) (OkTab.cons g_dsu_New.ok (by kernel_rfl) (OkTab.cons g_dsu_Sets_Groups.ok (by kernel_rfl) (OkTab.cons g_dsu_Sets_Len.ok (by kernel_rfl) (OkTab.cons g_dsu_Sets_Size.ok (by kernel_rfl) (OkTab.cons g_dsu_Sets_Same.ok (by kernel_rfl) (OkTab.cons g_dsu_Sets_Union.ok (by kernel_rfl) (OkTab.cons g_dsu_Sets_Count.ok (by kernel_rfl) (OkTab.nil _)))))))))) Try.func13 (fun vs h K hk => ?_) (fun vs h K K' hk => ?_)
  · unfold g_law08_DsuCounts.c at hk
    split at hk
    · rename_i x_0 x_1_a x_1_n x_1_c
      exact ⟨_, hk, Nat.le_of_ble_eq_true rfl, g_law08_DsuCounts.x x_0 (⟨x_1_a, x_1_n, x_1_c⟩ : Sl) h K⟩
    · exact hk.elim
  · unfold g_law08_DsuCounts.c at hk ⊢
    split at hk
    · rename_i x_0 x_1_a x_1_n x_1_c
      exact ⟨_, id, g_law08_DsuCounts.x x_0 (⟨x_1_a, x_1_n, x_1_c⟩ : Sl) h K'⟩
    · exact hk.elim

abbrev g_law08_DsuNil.c : CT := fun vs h K => match vs with
  | [.int .i64 x_0, .int .i64 x_1] => g_law08_DsuNil x_0 x_1 h (fun r0 h => K (.bool r0) h)
  | _ => False

theorem g_law08_DsuNil.x (x_0 : Int) (x_1 : Int) (h : Hp) (K : Value → Hp → Prop) : (g_law08_DsuNil x_0 x_1 h (fun r0 h => K (.bool r0) h)) = xfnD Try.prog [(35, g_dsu_Sets_Union.c), (32, g_dsu_Sets_Least.c), (17, g_dsu_Sets_Same.c), (18, g_dsu_Sets_Size.c), (40, g_dsu_Sets_Count.c), (39, g_dsu_Sets_Len.c), (31, g_dsu_Sets_Labels.c), (37, g_dsu_Sets_Groups.c), (33, g_dsu_Sets_Copy.c), (15, g_law08_works.c)] Try.f14 (.sq .z (.sq .z (.sq .z (.sq (.sq .z (.bl (.lp .z [(7, .sc (.int .i64))])) none) .z none) none) none) none) [.int .i64 x_0, .int .i64 x_1] h K := by kernel_rfl

theorem g_law08_DsuNil.ok : OkFn Try.prog 14 g_law08_DsuNil.c ∧ MonoC g_law08_DsuNil.c := by
  refine xfnD_okm (an := (.sq .z (.sq .z (.sq .z (.sq (.sq .z (.bl (.lp .z [(7, .sc (.int .i64))])) none) .z none) none) none) none)) wide_ok (OkTab.cons g_dsu_Sets_Union.ok (by kernel_rfl) (OkTab.cons g_dsu_Sets_Least.ok (by kernel_rfl) (OkTab.cons g_dsu_Sets_Same.ok (by kernel_rfl) (OkTab.cons g_dsu_Sets_Size.ok (by kernel_rfl) (OkTab.cons g_dsu_Sets_Count.ok (by kernel_rfl) (OkTab.cons g_dsu_Sets_Len.ok (by kernel_rfl) (OkTab.cons g_dsu_Sets_Labels.ok (by kernel_rfl) (OkTab.cons g_dsu_Sets_Groups.ok (by kernel_rfl) (OkTab.cons g_dsu_Sets_Copy.ok (by kernel_rfl) (OkTab.cons g_law08_works.ok (by kernel_rfl) (OkTab.nil _))))))))))) Try.func14 (fun vs h K hk => ?_) (fun vs h K K' hk => ?_)
  · unfold g_law08_DsuNil.c at hk
    split at hk
    · rename_i x_0 x_1
      exact ⟨_, hk, Nat.le_of_ble_eq_true rfl, g_law08_DsuNil.x x_0 x_1 h K⟩
    · exact hk.elim
  · unfold g_law08_DsuNil.c at hk ⊢
    split at hk
    · rename_i x_0 x_1
      exact ⟨_, id, g_law08_DsuNil.x x_0 x_1 h K'⟩
    · exact hk.elim

end Go.Hx
