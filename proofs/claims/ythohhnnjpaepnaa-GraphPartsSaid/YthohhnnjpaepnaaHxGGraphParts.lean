/- GraphParts over the abstract heap. -/
import Derived.Test.YthohhnnjpaepnaaHxGGraphMeasures
import Derived.Test.YthohhnnjpaepnaaHxGrZ
namespace Go.Hx
set_option linter.unusedSimpArgs false
set_option linter.unusedVariables false

theorem g_law13_GraphParts_true (n : Int) (s : Sl) (h : Hp) (K : Bool → Hp → Prop) (w0 : -9223372036854775808 ≤ n ∧ n ≤ 9223372036854775807) {M : List Int} (hr : Rd h 3 s (ints M)) (hy : s.n ≤ 2 ^ 63 - 1)
    (hm : ∀ x ∈ M, -9223372036854775808 ≤ x ∧ x ≤ 9223372036854775807) (hK : ∀ h', K true h') : g_law13_GraphParts n s h K := by
  unfold g_law13_GraphParts
  refine small_spec n s h _ fun b hb => cnd_of (fun c => works13_spec h _ fun h' _ => hK h') fun c => ?_
  simp only [Bool.not_eq_false'] at c
  have hs := hb c
  refine both_spec n s M h hr (by omega) _ (fun h9 _ _ => cnd_f rfl ?_) fun N h9 o a e B eN d d' _ _ _ => cnd_f rfl ?_
  · have ng : ∀ h, NG h none := fun h => .inl rfl
    refine gLabels_nil (ng _) _ (rgLabels_nil h9 _ (numbers_spec (rdNil _ 1) (rdNil _ 1) (by simp) _ fun b hb => ?_))
    rw [hb.2 rfl]
    refine cnd_f rfl (gRow_nil (ng _) _ fun h1 _ => rgRow_nil h1 _ fun h2 _ => cnd_f (by simp) (gComps_nil (ng _) _ (rgComps_nil h2 _ (cnd_f rfl ?_))))
    refine for_of 0 (fun _ (st : Int × Unit) g => st.1 = 0 ∧ g = h2) ?_ ⟨rfl, rfl⟩
    rintro i Kr ⟨st, _⟩ g' hi ⟨rfl, eg⟩ hKr
    rw [eg]
    exact cnd_f rfl (works13_spec _ _ fun h' _ => hK h')
  · refine gLabels_spec d _ fun r10 h11 L l11 lc f11 => rgLabels_spec (d'.fr f11) _ fun r12 h13 L' l13 lc' f13 => ?_
    obtain rfl := lc.uniq lc'
    have nb := d.nb
    have lL := lc.len
    refine numbers_spec (l11.rd.fr f13) l13.rd (by rw [nats_len]; omega) _ fun b hb => ?_
    rw [hb.2 rfl]
    refine cnd_f rfl (gRow_spec ((d.fr f11).fr f13) _ fun h19 L2 lc2 f19 => rgRow_spec (((d'.fr f11).fr f13).fr f19) _ fun h23 L3 lc3 f23 => ?_)
    obtain rfl := lc.uniq lc2
    obtain rfl := lc.uniq lc3
    refine cnd_f (by simp) (gComps_spec ((((d.fr f11).fr f13).fr f19).fr f23) _ fun r24 h25 L4 g25 lc4 f25 => rgComps_spec (((((d'.fr f11).fr f13).fr f19).fr f23).fr f25) _ fun r26 h27 L5 g27 lc5 f27 => ?_)
    obtain rfl := lc.uniq lc4
    obtain rfl := lc.uniq lc5
    have ga := g25.grp.fr f27
    have la := ga.len
    have lb := g27.len
    have gle := groupsL_le L L.length
    refine cnd_f (by simp [la, lb]) ?_
    refine for_of (groupsL L L.length).length (fun i (st : Int × Unit) g => st.1 = (i : Int) ∧ g = h27) ?_ ⟨rfl, rfl⟩
    rintro i Kr ⟨st, _⟩ g hi ⟨rfl, eg⟩ hKr
    rw [eg]
    refine cnd_of (fun c => ?_) fun c => works13_spec _ _ fun h' _ => hK h'
    simp only [decide_eq_true_eq, la, Int.ofNat_eq_natCast] at c
    have hig : i < (groupsL L L.length).length := by omega
    refine ga.ix (by omega) (by omega) fun t rt => g27.ix (by omega) (by omega) fun t' rt' => ?_
    have tl : ((groupsL L L.length).getD i []).length ≤ L.length := by
      rw [List.getD, List.getElem?_eq_getElem hig, Option.getD_some]
      have hmem := List.getElem_mem hig
      obtain ⟨r, _, er⟩ := List.mem_map.1 (show (groupsL L L.length)[i] ∈ ((List.range L.length).filter fun i => gt L i == i).map fun i => groupL L i L.length from hmem)
      rw [← er]
      exact groupL_le _ _ _
    refine numbers_spec rt rt' (by rw [nats_len, Int.toNat_natCast]; omega) _ fun b hb => ?_
    rw [hb.2 rfl]
    refine cnd_f rfl (hKr hig _ _ ⟨?_, rfl⟩)
    simp only; rw [w64, w64s (by omega)]

end Go.Hx
