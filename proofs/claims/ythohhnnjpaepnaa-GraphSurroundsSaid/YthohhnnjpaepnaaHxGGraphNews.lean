/- GraphNews over the abstract heap. -/
import Derived.Test.YthohhnnjpaepnaaHxGGraphMeasures
import Derived.Test.YthohhnnjpaepnaaHxGrZ
namespace Go.Hx
set_option linter.unusedSimpArgs false
set_option linter.unusedVariables false

theorem rgCount_spec {h : Hp} {a : Nat} {e : Sl} {n m : Nat} {M : List Int} {B : Nat} (d : RG h a e n m M B) (K : Int → Hp → Prop) (hK : K (n : Nat) h) : g_ref13_Graph_Count (some ⟨a, 0, none⟩) h K := by
  unfold g_ref13_Graph_Count
  refine rgValid_spec d _ (cnd_f rfl (nn_of ?_))
  simp only [add_mk, Nat.zero_add]
  exact ldI_of (by rw [d.cell]; rfl) hK

theorem rgCount_nil (h : Hp) (K : Int → Hp → Prop) (hK : K 0 h) : g_ref13_Graph_Count none h K := by
  unfold g_ref13_Graph_Count
  exact rgValid_nil h _ (cnd_t rfl hK)

theorem rgEdges_spec {h : Hp} {a : Nat} {e : Sl} {n m : Nat} {M : List Int} {B : Nat} (d : RG h a e n m M B) (K : Sl → Hp → Prop) (hK : ∀ s h', s.n = m → Lst h' 3 s (ints M) h.size → Fr h.size h h' → K s h') : g_ref13_Graph_Edges (some ⟨a, 0, none⟩) h K := by
  have hm := d.ok.2.2.1
  have he := d.en
  unfold g_ref13_Graph_Edges
  refine rgValid_spec d _ (cnd_f rfl (alo_of fun h2 z2 b2 k2 => nn_of ?_))
  have f2 : Fr h.size h h2 := ⟨by omega, k2⟩
  simp only [add_mk, Nat.zero_add]
  have L2 : Lst h2 3 ⟨some ⟨h.size, 0, none⟩, 0, 0⟩ [] h.size := ⟨by simp, Nat.le_refl _, .inr ⟨h.size, [], rfl, Nat.le_refl _, by omega, b2, rfl⟩⟩
  refine ldS_of (p := e.a) (n := e.n) (c := e.c) (by rw [(d.fr f2).cell]; rfl) ?_
  refine app_lst L2 f2.size (d.le.rd.fr f2).1 (ints_one _) rfl (by simp only; omega) (by simp only; omega) fun s3 h4 l4 n4 z4 f4 _ _ => ?_
  simp only [List.nil_append, Nat.zero_add] at l4 n4
  exact hK s3 h4 (by omega) l4 ⟨by omega, fun y hy => by rw [f4.blk y (by omega), k2 y hy]⟩

theorem rgEdges_nil (h : Hp) (K : Sl → Hp → Prop) (hK : K ⟨none, 0, 0⟩ h) : g_ref13_Graph_Edges none h K := by
  unfold g_ref13_Graph_Edges
  exact rgValid_nil h _ (cnd_t rfl hK)

theorem gN_nil {h : Hp} {g : Option Addr} (d : NG h g) (K : Int → Hp → Prop) (hK : K 0 h) : g_graph_Graph_N g h K := by
  unfold g_graph_Graph_N
  exact gValid_nil d _ (cnd_t rfl hK)

theorem gEdges_nil {h : Hp} {g : Option Addr} (d : NG h g) (K : Sl → Hp → Prop) (hK : K ⟨none, 0, 0⟩ h) : g_graph_Graph_Edges g h K := by
  unfold g_graph_Graph_Edges
  exact gValid_nil d _ (cnd_t rfl hK)

theorem g_law13_GraphNews_true (n : Int) (s : Sl) (h : Hp) (K : Bool → Hp → Prop) (w0 : -9223372036854775808 ≤ n ∧ n ≤ 9223372036854775807) {M : List Int} (hr : Rd h 3 s (ints M)) (hy : s.n ≤ 2 ^ 63 - 1)
    (hm : ∀ x ∈ M, -9223372036854775808 ≤ x ∧ x ≤ 9223372036854775807) (hK : ∀ h', K true h') : g_law13_GraphNews n s h K := by
  unfold g_law13_GraphNews
  refine small_spec n s h _ fun b hb => cnd_of (fun c => works13_spec h _ fun h' _ => hK h') fun c => ?_
  simp only [Bool.not_eq_false'] at c
  have hs := hb c
  refine both_spec n s M h hr (by omega) _ (fun h9 _ _ => cnd_t rfl ?_) fun N h9 o a e B eN d d' _ _ _ => cnd_t rfl ?_
  · have ng : ∀ h, NG h none := fun h => .inl rfl
    refine gN_nil (ng _) _ (rgCount_nil _ _ (cnd_t rfl (gEdges_nil (ng _) _ (rgEdges_nil _ _ (edges_spec (rdNil _ 3) (rdNil _ 3) (by simp) _ fun b hb => cnd_t (hb.2 rfl) (works13_spec _ _ fun h' _ => hK h'))))))
  · refine gN_spec d _ (rgCount_spec d' _ (cnd_t (by simp) (gEdges_spec d _ fun r14 h15 _ l15 f15 => rgEdges_spec (d'.fr f15) _ fun r16 h17 _ l17 f17 => ?_)))
    have hl := hr.ilen
    exact edges_spec (l15.rd.fr f17) l17.rd (by omega) _ fun b hb => cnd_t (hb.2 rfl) (works13_spec _ _ fun h' _ => hK h')

end Go.Hx
