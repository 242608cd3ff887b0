/- The sizes of sets. No condition. -/
import Derived.Test.YthohhnnjpaepnaaHxDsuB
namespace Go.Hx
set_option linter.unusedSimpArgs false
set_option linter.unusedVariables false

theorem duSize_spec {h : Hp} {o : DO} {L : List Nat} (d : DS h o L) (a : Int) (K : Int → Hp → Prop)
    (hK : ∀ h', DS h' o L → FrI o.lo o.hi h h' → h'.size = h.size → K (sizeV L a) h') : g_dsu_Sets_Size (some ⟨o.a, 0, none⟩) a h K := by
  obtain ⟨par, siz, lea, cnt, d⟩ := d
  unfold g_dsu_Sets_Size
  refine has_spec d a _ (fun a0 a1 => cnd_f rfl (nn_of ?_)) fun hn => cnd_t rfl ?_
  · rw [add_mk]
    refine ldS_of d.c2 (root_spec' d a ⟨a0, a1⟩ _ fun h1 par1 r d1 fr1 z1 hr rr lr _ => ?_)
    rw [add_mk]
    obtain ⟨rk, i1⟩ := d1.inv
    refine ⟨d1.c2, ix_ld1 d1.lq.rd (by omega) (by rw [d1.nq]; omega) rfl ?_⟩
    have := hK h1 ⟨_, _, _, _, d1⟩ fr1 z1
    rw [sizeV, if_pos ⟨a0, a1⟩, ← lr, ← i1.siz r hr rr] at this
    rw [nats_getD]; exact this
  · have := hK h ⟨_, _, _, _, d⟩ (FrI.refl _ _ _) rfl
    rw [sizeV, if_neg (by omega)] at this
    exact this

end Go.Hx
