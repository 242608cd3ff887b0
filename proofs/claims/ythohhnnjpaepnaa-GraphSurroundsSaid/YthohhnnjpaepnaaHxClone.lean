/- slices.Clone, over the abstract heap. No condition. -/
import Derived.Test.YthohhnnjpaepnaaHxDefs
namespace Go.Hx
set_option linter.unusedSimpArgs false
set_option linter.unusedVariables false

theorem Clone_rd {h : Hp} {s : Sl} {M : List Int} (hr : Rd h 1 s (ints M)) (hn : s.n < 2 ^ 40) (K : Sl → Hp → Prop) (hK : ∀ s' h', Lst h' 1 s' (ints M) h.size → Fr h.size h h' → K s' h') :
    g_slices_Clone_int s h K := by
  unfold g_slices_Clone_int
  refine cnd_of (fun c => ?_) fun c => ?_
  · have hM : M = [] := by
      have h1 := hr.1
      cases ha : s.a with
      | some a => rw [ha] at c; cases c
      | none =>
        rw [ha] at h1
        by_cases hz : s.n * 1 = 0
        · exact List.eq_nil_of_length_eq_zero (by rw [hr.ilen]; exact hz)
        · obtain ⟨x, hx, -⟩ := seg_some h1 (by omega); cases hx
    subst hM
    exact hK _ _ (Lst.nil _ _ _) (Fr.refl _ _)
  · refine alo_of fun h1 z1 b1 k1 => ?_
    have f1 : Fr h.size h h1 := ⟨by omega, k1⟩
    have L1 : Lst h1 1 ⟨some ⟨h.size, 0, none⟩, 0, 0⟩ [] h.size := ⟨by simp, Nat.le_refl _, .inr ⟨h.size, [], rfl, Nat.le_refl _, by omega, b1, rfl⟩⟩
    refine app_lst L1 f1.size (hr.fr f1).1 (ints_one _) rfl (by simp only; omega) (by simp only; omega) fun s' h2 hl2 _ _ f2 _ _ => hK _ _ hl2 (f1.trans f2)

end Go.Hx
