/- The labels of graphs. No condition. -/
import Derived.Test.YthohhnnjpaepnaaHxGrC
namespace Go.Hx
set_option linter.unusedSimpArgs false
set_option linter.unusedVariables false

theorem gLabels_spec {h : Hp} {o : GOb} {n m : Nat} {M : List Int} (d : GS h o n m M) (K : Sl → Hp → Prop)
    (hK : ∀ s h' L, Lst h' 1 s (ints (nats L)) h.size → LC (eP M m) n L → Fr h.size h h' → K s h') : g_graph_Graph_Labels (some ⟨o.a, 0, none⟩) h K := by
  unfold g_graph_Graph_Labels
  refine sets_spec d _ fun h2 o2 L d2 lc lo f2 => duLabels_spec d2 _ fun s h4 d4 f4 l4 => ?_
  have z2 := f2.size; have z4 := f4.size
  exact hK s h4 L (l4.le z2) lc ⟨by omega, fun y hy => by rw [f4.blk y (by omega) (.inl (by omega)), f2.blk y hy]⟩

end Go.Hx
