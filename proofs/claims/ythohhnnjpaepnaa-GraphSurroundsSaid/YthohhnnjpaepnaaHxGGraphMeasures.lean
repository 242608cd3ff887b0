/- GraphMeasures over the abstract heap. -/
import Derived.Test.YthohhnnjpaepnaaHxGrY
namespace Go.Hx
set_option linter.unusedSimpArgs false
set_option linter.unusedVariables false

theorem gDist_nil (v : Int) (h : Hp) (K : Sl → Hp → Prop) (hK : K ⟨none, 0, 0⟩ h) : g_graph_Graph_Dist none v h K := by
  unfold g_graph_Graph_Dist g_graph_Graph_halves g_graph_Graph_valid
  exact cnd_f rfl (cnd_t rfl (cnd_t rfl hK))

theorem rDist_nil (v : Int) (h : Hp) (K : Sl → Hp → Prop) (hK : K ⟨none, 0, 0⟩ h) : g_ref13_Graph_Dist none v h K := by
  unfold g_ref13_Graph_Dist g_ref13_Graph_Has g_ref13_Graph_valid
  exact cnd_f rfl (cnd_f rfl (cnd_t rfl hK))

theorem rdNil (h : Hp) (z : Nat) : Rd h z ⟨none, 0, 0⟩ (ints []) := (Lst.nil h z 0).rd

theorem g_law13_GraphMeasures_true (n : Int) (s : Sl) (v : Int) (h : Hp) (K : Bool → Hp → Prop) (w0 : -9223372036854775808 ≤ n ∧ n ≤ 9223372036854775807) {M : List Int} (hr : Rd h 3 s (ints M)) (hy : s.n ≤ 2 ^ 63 - 1)
    (hm : ∀ x ∈ M, -9223372036854775808 ≤ x ∧ x ≤ 9223372036854775807) (w1 : -9223372036854775808 ≤ v ∧ v ≤ 9223372036854775807) (hK : ∀ h', K true h') : g_law13_GraphMeasures n s v h K := by
  unfold g_law13_GraphMeasures
  refine small_spec n s h _ fun b hb => cnd_of (fun c => works13_spec h _ fun h' _ => hK h') fun c => ?_
  simp only [Bool.not_eq_false'] at c
  have hs := hb c
  refine both_spec n s M h hr (by omega) _ (fun h9 _ _ => cnd_t rfl ?_) fun N h9 o a e B eN d d' _ _ _ => cnd_t rfl ?_
  · exact gDist_nil v h9 _ (rDist_nil v h9 _ (numbers_spec (rdNil _ 1) (rdNil _ 1) (by simp) _ fun b hb => cnd_t (hb.2 rfl) (works13_spec _ _ fun h' _ => hK h')))
  · refine gDist_spec d v _ (fun q => ?_) fun u r10 h11 W eu hu l11 dis _ f11 => ?_
    · exact rDist_spec d' v _ (fun _ => numbers_spec (rdNil _ 1) (rdNil _ 1) (by simp) _ fun b hb => cnd_t (hb.2 rfl) (works13_spec _ _ fun h' _ => hK h')) fun u _ _ _ eu hu => absurd ⟨by omega, by omega⟩ q
    · refine rDist_spec (d'.fr f11) v _ (fun q => absurd ⟨by omega, by omega⟩ q) fun u' r12 h13 W' eu' hu' l13 dis' f13 => ?_
      obtain rfl : u' = u := by omega
      obtain rfl := dis.uniq dis'
      have := d.ok.2.1
      exact numbers_spec (l11.rd.fr f13) l13.rd (by rw [dis.len]; omega) _ fun b hb => cnd_t (hb.2 rfl) (works13_spec _ _ fun h' _ => hK h')

end Go.Hx
