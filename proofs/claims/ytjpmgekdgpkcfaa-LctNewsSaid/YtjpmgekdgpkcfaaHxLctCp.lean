/- Link-cut forests: Copy. No condition. -/
import Derived.Test.YtjpmgekdgpkcfaaHxLctK
namespace Go.Hx
set_option linter.unusedSimpArgs false
set_option linter.unusedVariables false

theorem ndC_one (x : Nd) : ∀ v ∈ ndC x, v.oneCell = true := by
  intro v hv
  simp only [ndC, List.mem_cons, List.not_mem_nil, or_false] at hv
  rcases hv with rfl | rfl | rfl | rfl | rfl | rfl | rfl | rfl | rfl <;> rfl

theorem flat9_one (N : NN) (n : Nat) : ∀ v ∈ flat9 N n, v.oneCell = true := by
  intro v hv
  unfold flat9 at hv
  rw [List.mem_flatMap] at hv
  obtain ⟨u, _, hu⟩ := hv
  exact ndC_one _ v hu

section
variable {h : Hp} {a b n : Nat} {N : NN} {tr : Int}

theorem lCopy_spec (d : FS h a b n N tr) (K : Option Addr → Hp → Prop) (hK : ∀ h' a' b', FS h' a' b' n N tr → Fr h.size h h' → h.size ≤ a' → h.size ≤ b' → K (some ⟨a', 0, none⟩) h') : g_lct_Forest_Copy (some ⟨a, 0, none⟩) h K := by
  have hn := d.hn
  have la := d.la; have lb := d.lb
  obtain ⟨c, hc⟩ := d.c1
  obtain ⟨sp, hb⟩ := d.hb
  unfold g_lct_Forest_Copy
  refine cnd_f rfl (nn_of ?_)
  simp only [add_mk, Nat.zero_add]
  refine ldB_of d.c0 (cnd_f rfl (nn_of ?_))
  simp only [add_mk, Nat.zero_add]
  refine ldS_of hc (nn_of ?_)
  simp only [add_mk, Nat.zero_add]
  refine ldI_of d.c2 ?_
  unfold g_slices_Clone_lct_node
  refine cnd_f rfl (alo_of fun h2 z2 b2 k2 => ?_)
  have L2 : Lst h2 9 ⟨some ⟨h.size, 0, none⟩, 0, 0⟩ [] h.size := ⟨by simp, Nat.le_refl _, .inr ⟨h.size, [], rfl, Nat.le_refl _, by omega, b2, rfl⟩⟩
  refine app_lst (z := 9) (news := flat9 N n) L2 (by omega) ?_ (flat9_one N n) rfl (by simp only; omega) (by simp only; omega) fun s3 h4 l4 n4 z4 f4 k4 a4 => ?_
  · have e : h2.row b = some (flat9 N n ++ sp) := row_own ((k2 b lb).trans hb)
    dsimp only
    rw [seg_row e (by rw [List.length_append, flat9_len]; omega), List.drop_zero, List.take_append_of_le_length (by rw [flat9_len]; omega), ← flat9_len N n, List.take_length]
  have fr4 : Fr h.size h h4 := ⟨by omega, fun c hc => by rw [f4.blk c hc, k2 c hc]⟩
  have d4 := d.fr fr4
  refine ⟨by simpa [add_mk] using d4.c2, alo_of fun h10 z10 b10 k10 => ?_⟩
  obtain ⟨e1, e2, ⟨rfl, e3⟩ | ⟨b', sp', ha, hB, hb', hc', hs⟩⟩ := l4
  · -- an empty row cannot be none here
    rcases a4 with q | q <;> cases q
  · refine hK h10 h4.size b' ⟨⟨s3.c, ?_, ?_⟩, ⟨sp', ?_⟩, by omega, by omega, by omega, hn⟩ ⟨by omega, fun c hc => by rw [k10 c (by omega), fr4.blk c hc]⟩ (by omega) hB
    · rw [b10, ha]
      have : s3.n = n := by simp only [List.nil_append, flat9_len] at e1; omega
      rw [this]
    · simp only [List.nil_append, flat9_len] at e1; omega
    · rw [k10 b' hb', hc']; rfl
end

end Go.Hx
