/- GraphCuts over the abstract heap. -/
import Derived.Test.YthohhnnjpaepnaaHxGrU
import Derived.Test.YthohhnnjpaepnaaHxGGraphNil
namespace Go.Hx
set_option linter.unusedSimpArgs false
set_option linter.unusedVariables false

theorem g_law13_GraphCuts_true (n : Int) (s : Sl) (t : Int) (h : Hp) (K : Bool → Hp → Prop) (w0 : -9223372036854775808 ≤ n ∧ n ≤ 9223372036854775807) {M : List Int} (hr : Rd h 3 s (ints M)) (hy : s.n ≤ 2 ^ 63 - 1)
    (hm : ∀ x ∈ M, -9223372036854775808 ≤ x ∧ x ≤ 9223372036854775807) (w1 : -9223372036854775808 ≤ t ∧ t ≤ 9223372036854775807) (hK : ∀ h', K true h') : g_law13_GraphCuts n s t h K := by
  unfold g_law13_GraphCuts
  refine small_spec n s h _ fun b hb => cnd_of (fun c => works13_spec h _ fun h' _ => hK h') fun c => ?_
  simp only [Bool.not_eq_false'] at c
  have hs := hb c
  have hl := hr.ilen
  refine both_spec n s M h hr (by omega) _ (fun h9 _ _ => cnd_f rfl ?_) fun N h9 o a e B eN d d' _ _ _ => cnd_f rfl ?_
  · have ng : ∀ h, NG h none := fun h => .inl rfl
    refine gUnder_nil (ng _) t _ fun h11 _ => rgUnder_nil t h11 _ ?_
    refine jn_of (fun _ g => True) (fun _ g _ => ?_) fun K16 hK16 => cnd_f rfl (cnd_t rfl (cnd_f rfl (hK16 _ _ trivial)))
    refine gN_nil (ng _) _ (rgCount_nil _ _ (cnd_t rfl (gEdges_nil (ng _) _ (rgEdges_nil _ _ (edges_spec (rdNil _ 3) (rdNil _ 3) (by simp) _ fun b hb => cnd_t (hb.2 rfl) ?_)))))
    refine gLabels_nil (ng _) _ (rgLabels_nil _ _ (numbers_spec (rdNil _ 1) (rdNil _ 1) (by simp) _ fun b hb => cnd_t (hb.2 rfl) ?_))
    exact gEdges_nil (ng _) _ (rgEdges_nil _ _ (edges_spec (rdNil _ 3) (rdNil _ 3) (by simp) _ fun b hb => cnd_t (hb.2 rfl) (works13_spec _ _ fun h' _ => hK h')))
  · refine gUnder_spec d t _ fun o2 m2 h11 hl2 d2 _ f11 => rgUnder_spec (d'.fr f11) t _ fun a2 e2 m2' h13 hl2' r2 f13 => ?_
    obtain rfl : m2 = m2' := by omega
    have z11 := f11.size
    have D := (d.fr f11).fr f13
    have D' := (d'.fr f11).fr f13
    have D2 := d2.fr f13
    have nb := d.nb
    obtain ⟨l0, hl0, hle⟩ := und_len M t s.n
    refine jn_of (fun _ g => g = h13) ?_ fun K16 hK16 => cnd_f rfl (cnd_f rfl (hK16 _ _ rfl))
    rintro ⟨⟩ g eg
    rw [eg]
    refine gN_spec D2 _ (rgCount_spec r2 _ (cnd_t (by simp) (gEdges_spec D2 _ fun r21 h22 _ l22 f22 => rgEdges_spec (r2.fr f22) _ fun r23 h24 _ l24 f24 => edges_spec (l22.rd.fr f24) l24.rd (by omega) _ fun b hb => cnd_t (hb.2 rfl) ?_)))
    refine gLabels_spec ((D2.fr f22).fr f24) _ fun r27 h28 L l28 lc f28 => rgLabels_spec (((r2.fr f22).fr f24).fr f28) _ fun r29 h30 L' l30 lc' f30 => ?_
    obtain rfl := lc.uniq lc'
    have lL := lc.len
    refine numbers_spec (l28.rd.fr f30) l30.rd (by rw [nats_len]; omega) _ fun b hb => cnd_t (hb.2 rfl) ?_
    refine gEdges_spec ((((D.fr f22).fr f24).fr f28).fr f30) _ fun r33 h34 _ l34 f34 => rgEdges_spec (((((D'.fr f22).fr f24).fr f28).fr f30).fr f34) _ fun r35 h36 _ l36 f36 => ?_
    exact edges_spec (l34.rd.fr f36) l36.rd (by omega) _ fun b hb => cnd_t (hb.2 rfl) (works13_spec _ _ fun h' _ => hK h')

end Go.Hx
