/- The labels of graphs, over the abstract heap. No condition. -/
import Derived.Test.YthohhnnjpaepnaaHxGrB
import Derived.Test.YthohhnnjpaepnaaHxDsuB
namespace Go.Hx
set_option linter.unusedSimpArgs false
set_option linter.unusedVariables false

theorem gValid_spec {h : Hp} {o : GOb} {n m : Nat} {M : List Int} (d : GS h o n m M) (K : Bool → Hp → Prop) (hK : K true h) : g_graph_Graph_valid (some ⟨o.a, 0, none⟩) h K := by
  unfold g_graph_Graph_valid
  refine cnd_t rfl (nn_of ?_)
  simp only [add_mk, Nat.zero_add]
  exact ldB_of (by rw [d.cell]; rfl) hK

theorem GS.nb {h : Hp} {o : GOb} {n m : Nat} {M : List Int} (d : GS h o n m M) : n ≤ 4096 ∧ m ≤ 16384 := by have := d.ok.2.1; exact ⟨by omega, d.ok.2.2.1⟩
theorem GS.e {h : Hp} {o : GOb} {n m : Nat} {M : List Int} (d : GS h o n m M) {i : Nat} (hi : i < m) : eU M i < n ∧ eV M i < n ∧ eU M i ≠ eV M i ∧ M.getD (i * 3 + 0) 0 = (eU M i : Nat) ∧ M.getD (i * 3 + 1) 0 = (eV M i : Nat) := (d.ok.2.2.2 i hi).lt
theorem GS.pl {h : Hp} {o : GOb} {n m : Nat} {M : List Int} (d : GS h o n m M) {k : Nat} (hk : k ≤ m) (u v : Nat) (g : eP M k u v) : u < n ∧ v < n := eP_lt d.ok.2.2.2 hk u v g

theorem sets_spec {h : Hp} {o : GOb} {n m : Nat} {M : List Int} (d : GS h o n m M) (K : Option Addr → Hp → Prop)
    (hK : ∀ h' o2 L, DS h' o2 L → LC (eP M m) n L → h.size ≤ o2.lo → Fr h.size h h' → K (some ⟨o2.a, 0, none⟩) h') : g_graph_Graph_sets (some ⟨o.a, 0, none⟩) h K := by
  obtain ⟨nn', nm⟩ := d.nb
  unfold g_graph_Graph_sets
  refine gValid_spec d _ (cnd_f rfl (nn_of ?_))
  simp only [add_mk, Nat.zero_add]
  refine ldI_of (by rw [d.cell]; rfl) (duNew_spec _ _ _ (fun q => by omega) fun _ _ o2 h7 d7 f7 lo7 hi7 => nn_of ?_)
  simp only [add_mk, Nat.zero_add]
  have d' := d.fr f7
  refine ldS_of (by rw [d'.cell]; rfl) ?_
  simp only [Int.toNat_natCast] at d7
  refine for_of m (fun i (st : Int × Unit) g => st.1 = (i : Int) ∧ Fr h.size h g ∧ ∃ L, DS g o2 L ∧ LC (eP M i) n L) ?_ ⟨rfl, f7, idL n, d7, by rw [eP_zero]; exact LC.start n⟩
  rintro i Kr ⟨st, u⟩ g hi ⟨rfl, fg, L, dg, lc⟩ hKr
  refine cnd_of (fun c => ?_) fun c => ?_
  · simp only [decide_eq_true_eq, d'.en, Int.ofNat_eq_natCast] at c
    have him : i < m := by omega
    obtain ⟨hu, hv, hne, e1, e2⟩ := d.e him
    refine rd3 ((d.fr fg).le.rd) (by rw [d.en]; exact him) (tmp3 fun h3 z3 b3 k3 => ?_)
    have f3 : Fr g.size g h3 := ⟨by omega, k3⟩
    rw [e1, e2] at b3
    simp only [add_mk, Nat.zero_add]
    refine ldI_of (by rw [cell_own b3]; rfl) (ldI_of (by rw [cell_own b3]; rfl) (Union_spec (dg.fr f3) _ _ _ fun h4 d4 f4 => hKr him _ _ ⟨?_, ?_, _, d4, ?_⟩))
    · simp only; rw [w64, w64s (by omega)]
    · have := fg.size; have := f4.size
      exact ⟨by omega, fun y hy => by rw [f4.blk y (by omega) (.inl (by omega)), k3 y (by omega), fg.blk y hy]⟩
    · have hl := lc.len
      have := lc.union (d.pl (by omega)) hu hv
      rw [eP_succ]
      unfold unionV
      rw [if_pos ⟨by omega, by omega, by omega, by omega⟩]
      simp only [Int.toNat_natCast]
      by_cases e : gt L (eU M i) = gt L (eV M i)
      · rw [if_pos e] at this ⊢; exact this
      · rw [if_neg e] at this ⊢; exact this
  · simp only [decide_eq_false_iff_not, d'.en, Int.ofNat_eq_natCast] at c
    obtain rfl : i = m := by omega
    exact hK g o2 L dg lc (by omega) fg

end Go.Hx
