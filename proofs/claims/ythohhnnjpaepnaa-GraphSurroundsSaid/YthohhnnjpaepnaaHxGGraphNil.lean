/- GraphNil over the abstract heap. -/
import Derived.Test.YthohhnnjpaepnaaHxGGraphNews
namespace Go.Hx
set_option linter.unusedSimpArgs false
set_option linter.unusedVariables false

section
variable {h : Hp} {g : Option Addr}
theorem gStrength_nil (d : NG h g) (v : Int) (K : Int → Int → Hp → Prop) (hK : K 0 1 h) : g_graph_Graph_Strength g v h K := by
  unfold g_graph_Graph_Strength
  exact gHalves_nil d v _ (gValid_nil d _ (cnd_t rfl hK))
theorem gDegree_nil (d : NG h g) (v : Int) (K : Int → Hp → Prop) (hK : K 0 h) : g_graph_Graph_Degree g v h K := by
  unfold g_graph_Graph_Degree
  exact gHalves_nil d v _ hK
theorem gDistNG (d : NG h g) (v : Int) (K : Sl → Hp → Prop) (hK : K ⟨none, 0, 0⟩ h) : g_graph_Graph_Dist g v h K := by
  unfold g_graph_Graph_Dist
  exact gHalves_nil d v _ (cnd_t rfl hK)
theorem gUnder_nil (d : NG h g) (t : Int) (K : Option Addr → Hp → Prop) (hK : ∀ h', Fr h.size h h' → K none h') : g_graph_Graph_Under g t h K := by
  unfold g_graph_Graph_Under
  refine alo_of fun h2 z2 b2 k2 => ?_
  have f2 : Fr h.size h h2 := ⟨by omega, k2⟩
  exact gValid_nil (d.fr f2) _ (cnd_t rfl (hK h2 f2))

theorem around_nil (d : NG h g) (v most : Int) (K : Sl → Hp → Prop) (hK : ∀ h', Fr h.size h h' → K ⟨none, 0, 0⟩ h') : g_law13_around g v most h K := by
  unfold g_law13_around
  refine alo_of fun h2 z2 b2 k2 => alo_of fun h4 z4 b4 k4 => ?_
  have f4 : Fr h.size h h4 := ⟨by omega, fun c hc => by rw [k4 c (by omega), k2 c hc]⟩
  unfold g_graph_Graph_Around
  refine gHalves_nil (d.fr f4) v _ (alo_of fun h5 z5 b5 k5 => ?_)
  simp only [add_mk, Nat.zero_add]
  refine stc_of b5 (by simp) fun h6 z6 b6 k6 r7 => ?_
  simp only [List.set_cons_zero] at b6
  obtain ⟨H0, hH0⟩ : ∃ H0 : Hp, H0 = (h6.pushB none).pushB (some (.lp r7)) := ⟨_, rfl⟩
  rw [← hH0]
  have zH : H0.size = h6.size + 2 := by rw [hH0]; rfl
  have HL : H0.blk (h6.size + 1) = some (.lp r7) := by rw [hH0]; exact pushB_at (h6.pushB none) _
  have HK : ∀ y, y < h6.size → H0.blk y = h6.blk y := fun y hy => by
    rw [hH0, pushB_ne _ _ (by show y ≠ h6.size + 1; omega), pushB_ne _ _ (by omega)]
  unfold g_graph_Graph_Around_f1
  refine ldS_of (p := none) (n := 0) (c := 0) (by rw [cell_own ((HK _ (by omega)).trans b6)]; rfl) ?_
  refine for_of 0 (fun _ (st : Int × Unit) g => st.1 = 0 ∧ g = H0) ?_ ⟨rfl, rfl⟩
  rintro i Kr ⟨st, _⟩ g' hi ⟨rfl, eg⟩ hKr
  rw [eg]
  refine cnd_f rfl (.inr (lpRound HL fun g1 z1 l1 k1 => ldS_of (p := none) (n := 0) (c := 0) ?_ (hK g1 ⟨by omega, fun y hy => ?_⟩)))
  · rw [cell_own ((k1 _ (by omega)).trans ((HK _ (by omega)).trans ((k6 _ (by omega)).trans ((k5 _ (by omega)).trans b4))))]; rfl
  · rw [k1 _ (by omega), HK _ (by omega), k6 _ (by omega), k5 _ (by omega), f4.blk y hy]
end

theorem g_law13_GraphNil_true (v t : Int) (h : Hp) (K : Bool → Hp → Prop) (_ : -9223372036854775808 ≤ v ∧ v ≤ 9223372036854775807) (_ : -9223372036854775808 ≤ t ∧ t ≤ 9223372036854775807) (hK : ∀ h', K true h') : g_law13_GraphNil v t h K := by
  unfold g_law13_GraphNil
  refine alo_of fun h2 z2 b2 k2 => alo_of fun h4 z4 b4 k4 => ?_
  refine for_of 2 (fun i (st : Int × Unit) g => st.1 = (i : Int) ∧ Fr h4.size h4 g) ?_ ⟨rfl, Fr.refl _ _⟩
  rintro i Kr ⟨st, _⟩ g hi ⟨rfl, fg⟩ hKr
  have zg := fg.size
  refine cnd_of (fun c => ?_) fun c => works13_spec g _ fun h' _ => hK h'
  simp only [decide_eq_true_eq, Int.ofNat_eq_natCast] at c
  have hi2 : i < 2 := by omega
  have b4' : g.blk h2.size = some (.cells [.pointer none, .pointer (some ⟨h.size, 0, none⟩)]) := (fg.blk _ (by omega)).trans b4
  have hp : ∃ p, g.cell ⟨h2.size, i, none⟩ = some (.pointer p) ∧ NG g p := by
    match i, hi2 with
    | 0, _ => exact ⟨none, by rw [cell_own b4']; rfl, .inl rfl⟩
    | 1, _ => exact ⟨some ⟨h.size, 0, none⟩, by rw [cell_own b4']; rfl, .inr ⟨h.size, _, rfl, by omega, (fg.blk _ (by omega)).trans ((k4 _ (by omega)).trans b2)⟩⟩
  obtain ⟨p, hc, d⟩ := hp
  refine ix_of (by omega) (by omega) ?_
  simp only [add_mk, Nat.zero_add, Int.toNat_natCast, Nat.mul_one]
  refine ldP_of hc (gStrength_nil d v _ (cnd_f rfl (cnd_f rfl (gN_nil d _ (cnd_f rfl (gEdges_nil d _ (cnd_f rfl (gDegree_nil d v _ (cnd_f rfl (around_nil d v 9 _ fun h5 f5 => cnd_f rfl ?_)))))))))) 
  have d5 := d.fr f5
  refine gLabels_nil d5 _ (cnd_f rfl (gComps_nil d5 _ (cnd_f rfl (gDistNG d5 v _ (cnd_f rfl (gUnder_nil d5 t _ fun h6 f6 => cnd_f rfl (gRow_nil (d5.fr f6) _ fun h7 f7 => cnd_f (by simp) (hKr hi2 _ _ ⟨?_, ?_⟩))))))))
  · simp only; rw [w64, w64s (by omega)]
  · have z5 := f5.size; have z6 := f6.size; have z7 := f7.size
    exact ⟨by omega, fun y hy => by rw [f7.blk _ (by omega), f6.blk _ (by omega), f5.blk _ (by omega), fg.blk y hy]⟩

end Go.Hx
